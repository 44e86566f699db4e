/-
  The plain law of FairNumbers: Fires are so many as are asked for, none below, MaxJobs at most; the rest is reckoned.
-/
import Derived.Test.YtbpkejhpmakmbaaGreatLd
set_option linter.unusedVariables false
set_option maxRecDepth 10000
namespace Go.Proofs.YtbpkejhpmakmbaaGreat
open Go.Th

theorem fw64 {x : Int} (h1 : -9223372036854775808 ≤ x) (h2 : x < 9223372036854775808) : w64 x = x := by
  show (if (true && decide (x % 18446744073709551616 ≥ 9223372036854775808)) = true then x % 18446744073709551616 - 18446744073709551616 else x % 18446744073709551616) = x
  by_cases h : x % 18446744073709551616 ≥ 9223372036854775808
  · rw [if_pos (by simpa using h)]; omega
  · rw [if_neg (by simpa using h)]; omega
theorem idxN {α : Type} (l : List α) (i : Nat) (h : i < l.length) : mIdx l (i : Int) = some l[i] := by
  simp [mIdx, h]

def oneFire (q : Int) : api_Command := api_Command.mk 5 q (api_Ref.mk 0 0) 0 0
theorem fires_l0' (q : Int) (N : Nat) (hN : N ≤ 4096) : ∀ (n i k : Nat), i + n = N → n < k → fair_Fires_l0 q (N : Int) k (List.replicate i (oneFire q)) (i : Int) = some (List.replicate N (oneFire q))
  | 0, i, 0, _, hk => by omega
  | 0, i, k + 1, hi, _ => by
    have hd : decide ((i : Int) < (N : Int)) = false := by simp; omega
    rw [fair_Fires_l0, hd]
    simp only [cond_false]
    rw [show i = N by omega]
  | n + 1, i, 0, _, hk => by omega
  | n + 1, i, k + 1, hi, hk => by
    have hd : decide ((i : Int) < (N : Int)) = true := by simp; omega
    have hw : w64 ((i : Int) + 1) = ((i + 1 : Nat) : Int) := by rw [fw64 (by omega) (by omega)]; rfl
    rw [fair_Fires_l0, hd, hw]
    simp only [cond_true, mApp, List.length_replicate, List.length_singleton]
    rw [if_pos (by omega)]
    simp only [Option.bind_some]
    have := fires_l0' q N hN n (i + 1) k (by omega) (by omega)
    rw [← this]
    congr 1
    rw [List.replicate_succ']
    rfl
theorem fires_eq (k N : Nat) (q n : Int) (hc : (if (if 4096 < n then 4096 else n) > 0 then (if 4096 < n then 4096 else n) else 0) = (N : Int)) (hN : N ≤ 4096) (hk : N < k) : fair_Fires k q n = some (List.replicate N (oneFire q)) := by
  rw [fair_Fires, hc]
  have := fires_l0' q N hN N 0 k (by omega) hk
  simp only [List.replicate_zero] at this
  rw [show ((0 : Nat) : Int) = 0 from rfl] at this
  rw [this]
  rfl
theorem nums_l1 (x2 : Int) (l2 : List Int) (N : Nat) (hN : N ≤ 4096) : ∀ (n i k : Nat), i + n = N → n < k → thicketlaw27_FairNumbers_l1 x2 (List.replicate N (oneFire 1)) l2 k (i : Int) = some (.inr ())
  | 0, i, 0, _, hk => by omega
  | 0, i, k + 1, hi, _ => by
    have hd : decide ((i : Int) < ((List.replicate N (oneFire 1)).length : Int)) = false := by simp; omega
    rw [thicketlaw27_FairNumbers_l1, hd]
    rfl
  | n + 1, i, 0, _, hk => by omega
  | n + 1, i, k + 1, hi, hk => by
    have hd : decide ((i : Int) < ((List.replicate N (oneFire 1)).length : Int)) = true := by simp; omega
    have hw : w64 ((i : Int) + 1) = ((i + 1 : Nat) : Int) := by rw [fw64 (by omega) (by omega)]; rfl
    have hx : mIdx (List.replicate N (oneFire 1)) (i : Int) = some (oneFire 1) := by
      rw [idxN _ i (by simp; omega)]
      simp
    rw [thicketlaw27_FairNumbers_l1, hd, hw, hx]
    simp only [cond_true, Option.bind_some]
    rw [show (!(api_Command.eq (oneFire 1) (api_Command.mk 5 1 (api_Ref.mk 0 0) 0 0))) = false by rfl]
    exact nums_l1 x2 l2 N hN n (i + 1) k (by omega) (by omega)
theorem nums_step (l : List Int) (k : Nat) (x y : Int) (N : Nat) (hx : decide (x < 6) = true) (hy : mIdx l x = some y) (hc : (if (if 4096 < y then 4096 else y) > 0 then (if 4096 < y then 4096 else y) else 0) = (N : Int))
    (hd : (if 0 > (if 4096 < y then 4096 else y) then 0 else (if 4096 < y then 4096 else y)) = (N : Int)) (hN : N ≤ 4096) (hk : N < k) (hw : w64 (x + 1) = x + 1) :
    thicketlaw27_FairNumbers_l0 l (k + 1) x = thicketlaw27_FairNumbers_l0 l k (x + 1) := by
  rw [thicketlaw27_FairNumbers_l0, hx, hy, hw]
  simp only [cond_true, Option.bind_some]
  rw [fires_eq k N 1 y hc hN hk]
  simp only [Option.bind_some, List.length_replicate, hd]
  rw [show (((N : Nat) : Int) != (N : Int)) = false by simp]
  simp only [cond_false]
  have := nums_l1 x l N hN N 0 k (by omega) hk
  rw [show ((0 : Nat) : Int) = 0 from rfl] at this
  rw [this]
  rfl
theorem nums_l0 (k : Nat) (hk : 4096 < k) : thicketlaw27_FairNumbers_l0 ([(-5), 0, 1, 7, 4096, 4105] : List Int) (k + 7) 0 = some (.inr ()) := by
  rw [nums_step _ (k + 6) 0 (-5) 0 rfl rfl rfl rfl (by omega) (by omega) rfl, nums_step _ (k + 5) (0 + 1) 0 0 rfl rfl rfl rfl (by omega) (by omega) rfl, nums_step _ (k + 4) (0 + 1 + 1) 1 1 rfl rfl rfl rfl (by omega) (by omega) rfl,
    nums_step _ (k + 3) (0 + 1 + 1 + 1) 7 7 rfl rfl rfl rfl (by omega) (by omega) rfl, nums_step _ (k + 2) (0 + 1 + 1 + 1 + 1) 4096 4096 rfl rfl rfl rfl (by omega) (by omega) rfl, nums_step _ (k + 1) (0 + 1 + 1 + 1 + 1 + 1) 4105 4096 rfl rfl rfl rfl (by omega) (by omega) rfl]
  rw [thicketlaw27_FairNumbers_l0]
  rfl
theorem tail27 : ∀ k, k = 5007 → ((thicketlaw27_fires k 3).bind fun t_1 =>
    ((fair_Order k t_1).bind fun t_2 =>
    (bif t_2 then
      (thicketlaw27_ordered k t_1).bind fun t_3 =>
      (bif t_3 then
        (fair_Order k ([] : List trace_Event)).bind fun t_4 =>
        (bif t_4 then
          (thicketlaw27_known k).bind fun t_5 =>
          some t_5
        else
          some false)
      else
        some false)
    else
      some false)).bind fun s4 =>
    some s4) = some true := by rintro k rfl; kernel_rfl
theorem fairNumbers_plain : ∃ k, thicketlaw27_FairNumbers k = some true := by
  refine ⟨5007, ?_⟩
  rw [thicketlaw27_FairNumbers, nums_l0 5000 (by omega)]
  exact tail27 5007 rfl
end Go.Proofs.YtbpkejhpmakmbaaGreat
