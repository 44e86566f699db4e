/-
  The plain law of scripts, part 1: what is drawn is made; numbers are bytes; what may be written.
-/
import Derived.Test.YtdcjghailibedaaGreatVd
import Derived.KernelRfl
set_option linter.unusedVariables false
set_option linter.unusedSimpArgs false
set_option maxRecDepth 10000
namespace Go.Proofs.YtdcjghailibedaaGreat
open Go.Th

def Do {α : Type} (o : Option α) (Q : α → Prop) : Prop := ∃ r, o = some r ∧ Q r
theorem Do.bind {α β : Type} {o : Option α} {f : α → Option β} {P : α → Prop} {Q : β → Prop} (h : Do o P) (k : ∀ r, P r → Do (f r) Q) : Do (o.bind f) Q := by
  obtain ⟨r, rfl, hp⟩ := h
  exact k r hp
theorem Do.ret {α : Type} {r : α} {Q : α → Prop} (h : Q r) : Do (some r) Q := ⟨r, rfl, h⟩
theorem Do.mono {α : Type} {o : Option α} {P Q : α → Prop} (h : Do o P) (k : ∀ r, P r → Q r) : Do o Q := by
  obtain ⟨r, e, hp⟩ := h
  exact ⟨r, e, k r hp⟩
theorem Do.seq {α β : Type} {o : Option α} {f : α → Option β} {r : α} {Q : β → Prop} (e : o = some r) (k : Do (f r) Q) : Do (o.bind f) Q := by subst e; exact k
theorem Do.if {α : Type} {b : Bool} {x y : Option α} {Q : α → Prop} (kt : b = true → Do x Q) (kf : b = false → Do y Q) : Do (bif b then x else y) Q := by
  cases b
  · exact kf rfl
  · exact kt rfl
theorem w64_id {x : Int} (h1 : -9223372036854775808 ≤ x) (h2 : x < 9223372036854775808) : w64 x = x := by
  show (if (true && decide (x % 18446744073709551616 ≥ 9223372036854775808)) = true then x % 18446744073709551616 - 18446744073709551616 else x % 18446744073709551616) = x
  by_cases h : x % 18446744073709551616 ≥ 9223372036854775808
  · rw [if_pos (by simpa using h)]; omega
  · rw [if_neg (by simpa using h)]; omega
theorem u64_id {x : Int} (h1 : 0 ≤ x) (h2 : x < 18446744073709551616) : IntKind.wrap .u64 x = x := by
  show (if (false && decide (x % 18446744073709551616 ≥ 9223372036854775808)) = true then x % 18446744073709551616 - 18446744073709551616 else x % 18446744073709551616) = x
  simp; omega
theorem u64_eq (x : Int) : IntKind.wrap .u64 x = x % 18446744073709551616 := by
  show (if (false && decide (x % 18446744073709551616 ≥ 9223372036854775808)) = true then x % 18446744073709551616 - 18446744073709551616 else x % 18446744073709551616) = _
  simp
theorem u8_eq (x : Int) : IntKind.wrap .u8 x = x % 256 := by
  show (if (false && decide (x % 256 ≥ 128)) = true then x % 256 - 256 else x % 256) = _
  simp
theorem w64_eq (x : Int) : w64 x = if x % 18446744073709551616 ≥ 9223372036854775808 then x % 18446744073709551616 - 18446744073709551616 else x % 18446744073709551616 := by
  show (if (true && decide (x % 18446744073709551616 ≥ 9223372036854775808)) = true then x % 18446744073709551616 - 18446744073709551616 else x % 18446744073709551616) = _
  simp
theorem app_ok {α : Type} {l ys : List α} (h : l.length + ys.length ≤ 1073741824) : mApp l ys = some (l ++ ys) := by unfold mApp; rw [if_pos h]
theorem idx_ok {α : Type} (l : List α) (i : Nat) (h : i < l.length) : mIdx l (i : Int) = some l[i] := by simp [mIdx, h]
theorem cut_ok {α : Type} (l : List α) (lo hi : Nat) (h1 : lo ≤ hi) (h2 : hi ≤ l.length) : mCut l (lo : Int) (hi : Int) = some ((l.take hi).drop lo) := by
  unfold mCut
  rw [if_pos (by omega)]
  simp

theorem within {n lo hi : Int} (h : lo ≤ hi) (h1 : -1000000000 ≤ lo) (h2 : hi ≤ 1000000000) : Do (thicketbook_Within n lo hi) fun r => lo ≤ r ∧ r ≤ hi := by
  unfold thicketbook_Within
  have e1 : w64 (hi - lo) = hi - lo := w64_id (by omega) (by omega)
  have e2 : w64 (hi - lo + 1) = hi - lo + 1 := w64_id (by omega) (by omega)
  rw [e1, e2]
  by_cases hc : (decide (n ≥ lo) && decide (n ≤ hi)) = true
  · rw [hc]
    simp only [Bool.and_eq_true, decide_eq_true_eq] at hc
    exact ⟨n, rfl, hc.1, hc.2⟩
  · rw [Bool.not_eq_true] at hc
    rw [hc]
    have hz : mNz (hi - lo + 1) = some () := by unfold mNz; rw [if_pos (by omega)]
    have b1 := Int.tmod_lt_of_pos n (b := hi - lo + 1) (by omega)
    have b2 := Int.lt_tmod_of_pos n (b := hi - lo + 1) (by omega)
    rw [hz]
    simp only [cond_false, Option.bind_some]
    by_cases ht : Int.tmod n (hi - lo + 1) < 0
    · have d : decide (Int.tmod n (hi - lo + 1) < 0) = true := by simpa using ht
      rw [d]
      simp only [cond_true, Option.bind_some]
      rw [w64_id (x := Int.tmod n (hi - lo + 1) + hi) (by omega) (by omega), w64_id (x := Int.tmod n (hi - lo + 1) + hi - lo) (by omega) (by omega), w64_id (x := Int.tmod n (hi - lo + 1) + hi - lo + 1) (by omega) (by omega), w64_id (by omega) (by omega)]
      exact ⟨_, rfl, by omega, by omega⟩
    · have d : decide (Int.tmod n (hi - lo + 1) < 0) = false := by simpa using ht
      rw [d]
      simp only [cond_false, Option.bind_some]
      rw [w64_id (by omega) (by omega)]
      exact ⟨_, rfl, by omega, by omega⟩

/-! What is drawn is made. Q: of a Time. -/
theorem command_ok (Q : Int → Prop) (hQ : ∀ t, Q t → Q (t.tmod 30)) (x : thicketkeep_D) (jobs : List api_Ref) (h : jobs.length ≤ 1000000) (hx : Q x.Time ∧ Q x.Raw.Time) : Do (thicketkeep_Command x jobs) fun c => Q c.Time := by
  unfold thicketkeep_Command
  refine Do.if (fun h1 => Do.ret hx.2) fun _ => ?_
  refine (within (n := x.Kind) (by omega) (by omega) (by omega)).bind fun a ha => ?_
  have hd : 0 ≤ a.tmod 11 ∧ a.tmod 11 < 11 := ⟨Int.tmod_nonneg _ (by omega), Int.tmod_lt_of_pos _ (by omega)⟩
  obtain ⟨j, hj⟩ : ∃ j : Nat, a.tmod 11 = (j : Int) := ⟨(a.tmod 11).toNat, by omega⟩
  rw [hj]
  refine Do.seq (idx_ok _ j (by simp; omega)) ?_
  refine (within (n := x.Queue) (by omega) (by omega) (by omega)).bind fun b hb => ?_
  refine Do.bind (P := Q) (Do.if (fun _ => Do.ret (hQ _ hx.1)) fun _ => Do.ret hx.1) fun s hs => ?_
  refine Do.bind (P := fun _ => True) (Do.if (fun h1 => ?_) fun _ => Do.ret trivial) fun s1 _ => Do.ret hs
  simp only [decide_eq_true_eq] at h1
  have e : w64 ((jobs.length : Int) - 1) = (jobs.length : Int) - 1 := w64_id (by omega) (by omega)
  rw [e]
  refine (within (n := x.Job) (by omega) (by omega) (by omega)).bind fun c hc => ?_
  obtain ⟨q, hq⟩ : ∃ q : Nat, c = (q : Int) := ⟨c.toNat, by omega⟩
  subst hq
  exact Do.seq (idx_ok _ q (by omega)) (Do.ret trivial)

def jobs12 : List api_Ref := [⟨0, 1⟩, ⟨1, 1⟩, ⟨2, 1⟩, ⟨3, 1⟩, ⟨4, 1⟩, ⟨5, 1⟩, ⟨0, 2⟩, ⟨1, 2⟩, ⟨2, 2⟩, ⟨3, 2⟩, ⟨4, 2⟩, ⟨5, 2⟩]
theorem made_l0 (a b : shell_Script) (c d e f : Int) (l : List thicketkeep_D) (l1 : List Int) (l2 : List api_Act) (t : Bool) (m : Nat) : thicketlaw28_made_l0 a b c d e f l l1 l2 t (m + 13) [] 0 = some jobs12 := by kernel_rfl
def TQ (Q : Int → Prop) (s : shell_Script) : Prop := ∀ a ∈ s.Acts, Q a.Command.Time
theorem made_l1 (Q : Int → Prop) (hQ : ∀ t, Q t → Q (t.tmod 30)) (s0 : shell_Script) (c d e f : Int) (l : List thicketkeep_D) (l1 : List Int) (l2 : List api_Act) (t : Bool) (hL : ∀ d ∈ l, Q d.Time ∧ Q d.Raw.Time) : ∀ (n i k : Nat) (s : shell_Script), i + n = 40 → n < k → s.Acts.length ≤ i → TQ Q s →
    Do (thicketlaw28_made_l1 jobs12 s0 c d e f l l1 l2 t k (i : Int) s) fun r => r.Acts.length ≤ 40 ∧ TQ Q r
  | n, i, 0, s, _, hk, _, _ => by omega
  | 0, i, k + 1, s, hi, _, hs, ht => by
    have e1 : i = 40 := by omega
    subst e1
    rw [thicketlaw28_made_l1]
    refine Do.if (fun h => ?_) fun _ => Do.ret ⟨hs, ht⟩
    simp at h
  | n + 1, i, k + 1, s, hi, hk, hs, ht => by
    rw [thicketlaw28_made_l1]
    refine Do.if (fun h => ?_) fun _ => Do.ret ⟨by omega, ht⟩
    simp only [Bool.and_eq_true, decide_eq_true_eq] at h
    have hw : w64 ((i : Int) + 1) = ((i + 1 : Nat) : Int) := by rw [w64_id (by omega) (by omega)]; rfl
    refine Do.bind (P := fun r => r.Acts.length ≤ i + 1 ∧ TQ Q r) ?_ fun r hr => by
      rw [hw]; exact made_l1 Q hQ s0 c d e f l l1 l2 t hL n (i + 1) k r (by omega) (by omega) hr.1 hr.2
    refine Do.seq (idx_ok l i (by omega)) ?_
    refine Do.bind (P := fun _ => True) (Do.if (fun _ => Do.ret trivial) fun _ => Do.ret trivial) fun s4 _ => ?_
    have hd := hL l[i] (List.getElem_mem (by omega))
    refine (command_ok Q hQ ⟨l[i].Kind, l[i].Queue, s4, l[i].Data, l[i].Time, l[i].Raw⟩ jobs12 (by simp [jobs12]) hd).bind fun c4 hc4 => ?_
    refine Do.bind (P := fun _ => True) (Do.if (fun h => ?_) fun _ => Do.ret trivial) fun s5 _ => ?_
    · simp only [decide_eq_true_eq] at h
      refine Do.seq (idx_ok l1 i (by omega)) ?_
      refine (within (n := l1[i]'(by omega)) (by omega) (by omega) (by omega)).bind fun a _ => ?_
      refine Do.seq (idx_ok l1 i (by omega)) ?_
      exact (within (n := l1[i]'(by omega)) (by omega) (by omega) (by omega)).bind fun a _ => Do.ret trivial
    refine Do.bind (P := fun _ => True) (Do.if (fun _ => (within (by omega) (by omega) (by omega)).bind fun _ _ => Do.ret trivial) fun _ => Do.ret trivial) fun s6 _ => ?_
    refine Do.seq (app_ok (by simp; omega)) (Do.ret ⟨by simp; omega, fun a ha => ?_⟩)
    simp only [List.mem_append, List.mem_singleton] at ha
    rcases ha with ha | rfl
    · exact ht a ha
    · exact hc4
theorem made_l2 (Q : Int → Prop) (s0 : shell_Script) (c d e f : Int) (l : List thicketkeep_D) (l1 : List Int) (l2 : List api_Act) (t : Bool) (hA : ∀ a ∈ l2, Q a.Command.Time) : ∀ (n i k : Nat) (s : shell_Script), i + n = 12 → n < k → s.Acts.length ≤ 40 + i → TQ Q s →
    Do (thicketlaw28_made_l2 s0 c d e f l l1 l2 t k (i : Int) s) fun r => r.Acts.length ≤ 52 ∧ TQ Q r
  | n, i, 0, s, _, hk, _, _ => by omega
  | 0, i, k + 1, s, hi, _, hs, ht => by
    have e1 : i = 12 := by omega
    subst e1
    rw [thicketlaw28_made_l2]
    refine Do.if (fun h => ?_) fun _ => Do.ret ⟨hs, ht⟩
    simp at h
  | n + 1, i, k + 1, s, hi, hk, hs, ht => by
    rw [thicketlaw28_made_l2]
    refine Do.if (fun h => ?_) fun _ => Do.ret ⟨by omega, ht⟩
    simp only [Bool.and_eq_true, decide_eq_true_eq] at h
    have hw : w64 ((i : Int) + 1) = ((i + 1 : Nat) : Int) := by rw [w64_id (by omega) (by omega)]; rfl
    refine Do.seq (idx_ok l2 i (by omega)) ?_
    refine Do.seq (app_ok (by simp; omega)) ?_
    rw [hw]
    refine made_l2 Q s0 c d e f l l1 l2 t hA n (i + 1) k _ (by omega) (by omega) (by simp; omega) fun a ha => ?_
    simp only [List.mem_append, List.mem_singleton] at ha
    rcases ha with ha | rfl
    · exact ht a ha
    · exact hA _ (List.getElem_mem _)
theorem made_ok (Q : Int → Prop) (hQ : ∀ t, Q t → Q (t.tmod 30)) (k : Nat) (hk : 60 ≤ k) (x : thicketlaw28_Raw) (hL : ∀ d ∈ x.L, Q d.Time ∧ Q d.Raw.Time) (hA : ∀ a ∈ x.Acts, Q a.Command.Time) : Do (thicketlaw28_made k x) fun s => s.Acts.length ≤ 52 ∧ TQ Q s := by
  unfold thicketlaw28_made
  refine Do.bind (P := fun s => s.Acts = []) (Do.if (fun _ => ?_) fun _ => Do.ret rfl) fun s hs => ?_
  · refine (within (by omega) (by omega) (by omega)).bind fun _ _ => ?_
    refine (within (by omega) (by omega) (by omega)).bind fun _ _ => ?_
    refine (within (by omega) (by omega) (by omega)).bind fun _ _ => ?_
    exact (within (by omega) (by omega) (by omega)).bind fun _ _ => Do.ret rfl
  obtain ⟨m, rfl⟩ : ∃ m, k = m + 13 := ⟨k - 13, by omega⟩
  refine Do.seq (made_l0 ..) ?_
  refine (made_l1 Q hQ _ _ _ _ _ _ _ _ _ hL 40 0 (m + 13) s (by omega) (by omega) (by simp [hs]) (by unfold TQ; rw [hs]; simp)).bind fun s2 h2 => ?_
  exact (made_l2 Q _ _ _ _ _ _ _ _ _ hA 12 0 (m + 13) s2 (by omega) (by omega) (by omega) h2.2).bind fun s3 h3 => Do.ret h3

/-! What may be written. -/
def sm (n m : Int) : Bool := decide (n ≥ 0) && decide (n ≤ m)
theorem small_eq (n m : Int) : thicketlaw28_small n m = some (sm n m) := rfl
theorem in_l0 (most : Int) (l : List Int) (hl : l.length ≤ 1000) : ∀ (n i k : Nat), i + n = l.length → n < k → shell_in_l0 most (l.length : Int) l k (i : Int) = some (bif (l.drop i).all (sm · most) then .inr () else .inl false)
  | n, i, 0, _, hk => by omega
  | 0, i, k + 1, hi, _ => by
    have hd : decide ((i : Int) < (l.length : Int)) = false := by simp; omega
    rw [shell_in_l0, hd, List.drop_eq_nil_of_le (by omega)]; rfl
  | n + 1, i, k + 1, hi, hk => by
    have hlt : i < l.length := by omega
    have hd : decide ((i : Int) < (l.length : Int)) = true := by simp; omega
    have hw : w64 ((i : Int) + 1) = ((i + 1 : Nat) : Int) := by rw [w64_id (by omega) (by omega)]; rfl
    rw [shell_in_l0, hd, List.drop_eq_getElem_cons hlt, List.all_cons, idx_ok l i hlt, hw, in_l0 most l hl n (i + 1) k (by omega) (by omega)]
    simp only [cond_true, Option.bind_some]
    by_cases h0 : l[i] < 0
    · have : ¬ (0 ≤ l[i]) := by omega
      simp [sm, h0, this]
    · have h0' : 0 ≤ l[i] := by omega
      by_cases h1 : l[i] > most
      · have : ¬ (l[i] ≤ most) := by omega
        simp [sm, h1, this]
      · have h1' : l[i] ≤ most := by omega
        simp [sm, h0, h1, h0', h1']
theorem in_eq (k : Nat) (most : Int) (l : List Int) (hk : l.length < k) (hl : l.length ≤ 1000) : shell_in k most l = some (l.all (sm · most)) := by
  unfold shell_in
  have := in_l0 most l hl l.length 0 k (by omega) hk
  rw [show ((0 : Nat) : Int) = 0 from rfl] at this
  rw [this, List.drop_zero]
  cases h : l.all (sm · most) <;> rfl
def mayB (x : api_Act) : Bool := (x.Kind == 2 || x.Kind == 4) || ((x.Kind == 3 || (x.Kind == 1 && sm x.Box 255)) && (sm x.Command.Kind 255 && sm x.Command.Queue 1 && sm x.Command.Job.At 65535 && sm x.Command.Job.Gen 65535 && sm x.Command.Data 65535))
theorem may_eq (k : Nat) (hk : 10 ≤ k) (x : api_Act) : shell_may k x = some (mayB x) := by
  unfold shell_may shell_asks mayB
  rw [in_eq k 255 [x.Command.Kind] (by simp; omega) (by simp), in_eq k 1 [x.Command.Queue] (by simp; omega) (by simp), in_eq k 65535 [x.Command.Job.At, x.Command.Job.Gen, x.Command.Data] (by simp; omega) (by simp), in_eq k 255 [x.Box] (by simp; omega) (by simp)]
  simp only [Option.bind_some, List.all_cons, List.all_nil, Bool.and_true]
  generalize hA : sm x.Command.Kind 255 = A
  generalize hB : sm x.Command.Queue 1 = B
  generalize hC : sm x.Command.Job.At 65535 = C
  generalize hD : sm x.Command.Job.Gen 65535 = D
  generalize hE : sm x.Command.Data 65535 = E
  generalize hF : sm x.Box 255 = F
  by_cases h1 : x.Kind = 1
  · rw [h1]; cases A <;> cases B <;> cases C <;> cases D <;> cases E <;> cases F <;> rfl
  by_cases h2 : x.Kind = 2
  · rw [h2]; rfl
  by_cases h3 : x.Kind = 3
  · rw [h3]; cases A <;> cases B <;> cases C <;> cases D <;> cases E <;> cases F <;> rfl
  by_cases h4 : x.Kind = 4
  · rw [h4]; rfl
  have e1 : (x.Kind == 1) = false := by simpa using h1
  have e2 : (x.Kind == 2) = false := by simpa using h2
  have e3 : (x.Kind == 3) = false := by simpa using h3
  have e4 : (x.Kind == 4) = false := by simpa using h4
  have e5 : (decide (x.Kind < 1) || decide (x.Kind > 4)) = true := by simp; omega
  simp [e1, e2, e3, e4, e5]
theorem lmay_eq (x : api_Act) : thicketlaw28_may x = some (mayB x) := by
  unfold thicketlaw28_may mayB
  simp only [small_eq, Option.bind_some]
  generalize hA : sm x.Command.Kind 255 = A
  generalize hB : sm x.Command.Queue 1 = B
  generalize hC : sm x.Command.Job.At 65535 = C
  generalize hD : sm x.Command.Job.Gen 65535 = D
  generalize hE : sm x.Command.Data 65535 = E
  generalize hF : sm x.Box 255 = F
  by_cases h1 : x.Kind = 1
  · rw [h1]; cases A <;> cases B <;> cases C <;> cases D <;> cases E <;> cases F <;> rfl
  by_cases h2 : x.Kind = 2
  · rw [h2]; rfl
  by_cases h3 : x.Kind = 3
  · rw [h3]; cases A <;> cases B <;> cases C <;> cases D <;> cases E <;> cases F <;> rfl
  by_cases h4 : x.Kind = 4
  · rw [h4]; rfl
  have e1 : (x.Kind == 1) = false := by simpa using h1
  have e2 : (x.Kind == 2) = false := by simpa using h2
  have e3 : (x.Kind == 3) = false := by simpa using h3
  have e4 : (x.Kind == 4) = false := by simpa using h4
  simp [e1, e2, e3, e4]
end Go.Proofs.YtdcjghailibedaaGreat
