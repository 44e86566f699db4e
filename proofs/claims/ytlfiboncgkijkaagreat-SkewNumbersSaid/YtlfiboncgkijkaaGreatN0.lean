/-
  Rounds of the closed sentence, some at a time.
-/
import Derived.Test.YtlfiboncgkijkaaGreatSd
import Derived.KernelRfl
set_option linter.unusedVariables false
set_option maxRecDepth 10000
namespace Go.Proofs.YtlfiboncgkijkaaGreat
open Go.Th

theorem w64_id' {x : Int} (h1 : -9223372036854775808 ≤ x) (h2 : x < 9223372036854775808) : w64 x = x := by
  show (if (true && decide (x % 18446744073709551616 ≥ 9223372036854775808)) = true then x % 18446744073709551616 - 18446744073709551616 else x % 18446744073709551616) = x
  by_cases h : x % 18446744073709551616 ≥ 9223372036854775808
  · rw [if_pos (by simpa using h)]; omega
  · rw [if_neg (by simpa using h)]; omega
def it1 (how : Int) (base : Nat) : Nat → Int → thicketlaw11_world → Option thicketlaw11_world
  | 0, _, w => some w
  | n + 1, i, w =>
    (mIdx ([i, w64 (0 - i), 5, Int.tmod (w64 (i * 17)) 40] : List Int) how).bind fun x =>
    (thicketlaw11_world_push (base + n) w (Int.tmod i 2) x).bind fun t1 =>
    bif t1.1 then (thicketlaw11_world_right (base + n) t1.2).bind fun t2 => (bif t2.1 then it1 how base n (w64 (i + 1)) t2.2 else none) else none
def it2 (how : Int) (base : Nat) : Nat → Int → thicketlaw11_world → Option thicketlaw11_world
  | 0, _, w => some w
  | n + 1, i, w =>
    (thicketlaw11_world_pop (base + n) w (Int.tmod how 2)).bind fun t1 =>
    bif t1.1 then (thicketlaw11_world_right (base + n) t1.2).bind fun t2 => (bif t2.1 then it2 how base n (w64 (i + 1)) t2.2 else none) else none
def midF (how : Int) (m : Nat) (s3 : thicketlaw11_world) : Option (Bool × thicketlaw11_world) :=
  ((thicketlaw11_world_fall m s3 0 7 (-100)).bind fun t_3 =>
        (bif !t_3.1 then
          some (true, t_3.2)
        else
          (thicketlaw11_world_right m t_3.2).bind fun t_4 =>
          (bif !t_4.1 then
            some (true, t_4.2)
          else
            (thicketlaw11_world_cut m t_4.2 1 9).bind fun t_5 =>
            (bif !t_5.1 then
              some (true, t_5.2)
            else
              (thicketlaw11_world_right m t_5.2).bind fun t_6 =>
              (bif !t_6.1 then
                some (true, t_6.2)
              else
                (thicketlaw11_world_meld m t_6.2 (Int.tmod how 2)).bind fun t_7 =>
                (bif !t_7.1 then
                  some (true, t_7.2)
                else
                  (thicketlaw11_world_right m t_7.2).bind fun t_8 =>
                  (bif !t_8.1 then
                    some (true, t_8.2)
                  else
                    (thicketlaw11_world_cut m t_8.2 (Int.tmod how 2) 20).bind fun t_9 =>
                    (bif !t_9.1 then
                      some (true, t_9.2)
                    else
                      (thicketlaw11_world_fall m t_9.2 (Int.tmod how 2) 11 0).bind fun t_10 =>
                      (bif !t_10.1 then
                        some (true, t_10.2)
                      else
                        (thicketlaw11_world_right m t_10.2).bind fun t_11 =>
                        some (!t_11.1, t_11.2))))))))))
def endF (m : Nat) (s7 : thicketlaw11_world) : Option (Bool × thicketlaw11_world) :=
  ((thicketlaw11_world_drop m s7 0).bind fun t_14 =>
            (bif !t_14.1 then
              some (true, t_14.2)
            else
              (thicketlaw11_world_drop m t_14.2 1).bind fun t_15 =>
              (bif !t_15.1 then
                some (true, t_15.2)
              else
                (arena_Arena_Len t_15.2.a_).bind fun t_16 =>
                some (t_16 != 0, t_15.2))))

theorem it1_ok (how : Int) (base : Nat) : ∀ (n : Nat) (i : Int) (w w' : thicketlaw11_world), it1 how base n i w = some w' → 0 ≤ i → i + n ≤ 40 → thicketlaw11_SkewNumbers_l1 how (base + n) i w = thicketlaw11_SkewNumbers_l1 how base (i + n) w'
  | 0, i, w, w', h, _, _ => by simp only [it1, Option.some.injEq] at h; subst h; simp
  | n + 1, i, w, w', h, h0, h1 => by
    simp only [it1] at h
    obtain ⟨x, hx, h⟩ := bind_some h
    obtain ⟨t1, ht1, h⟩ := bind_some h
    cases hb : t1.1 with
    | false => rw [hb] at h; cases h
    | true =>
      rw [hb] at h
      obtain ⟨t2, ht2, h⟩ := bind_some (show ((thicketlaw11_world_right (base + n) t1.2).bind fun t2 => (bif t2.1 then it1 how base n (w64 (i + 1)) t2.2 else none)) = some w' from h)
      cases hc : t2.1 with
      | false => rw [hc] at h; cases h
      | true =>
        rw [hc] at h
        have hw : w64 (i + 1) = i + 1 := w64_id' (by omega) (by omega)
        rw [hw] at h
        have ih := it1_ok how base n (i + 1) t2.2 w' h (by omega) (by omega)
        have hd : decide (i < 40) = true := by simp; omega
        have e : thicketlaw11_SkewNumbers_l1 how (base + (n + 1)) i w = thicketlaw11_SkewNumbers_l1 how (base + n) (i + 1) t2.2 := by
          show thicketlaw11_SkewNumbers_l1 how ((base + n) + 1) i w = _
          rw [thicketlaw11_SkewNumbers_l1]
          simp only [hd, cond_true, hx, Option.bind_some, ht1, hb, Bool.not_true, cond_false, ht2, hc, hw]
        rw [e, ih]
        congr 1
        omega
theorem it2_ok (how : Int) (base : Nat) : ∀ (n : Nat) (i : Int) (w w' : thicketlaw11_world), it2 how base n i w = some w' → 0 ≤ i → i + n ≤ 40 → thicketlaw11_SkewNumbers_l2 how (base + n) i w = thicketlaw11_SkewNumbers_l2 how base (i + n) w'
  | 0, i, w, w', h, _, _ => by simp only [it2, Option.some.injEq] at h; subst h; simp
  | n + 1, i, w, w', h, h0, h1 => by
    simp only [it2] at h
    obtain ⟨t1, ht1, h⟩ := bind_some h
    cases hb : t1.1 with
    | false => rw [hb] at h; cases h
    | true =>
      rw [hb] at h
      obtain ⟨t2, ht2, h⟩ := bind_some (show ((thicketlaw11_world_right (base + n) t1.2).bind fun t2 => (bif t2.1 then it2 how base n (w64 (i + 1)) t2.2 else none)) = some w' from h)
      cases hc : t2.1 with
      | false => rw [hc] at h; cases h
      | true =>
        rw [hc] at h
        have hw : w64 (i + 1) = i + 1 := w64_id' (by omega) (by omega)
        rw [hw] at h
        have ih := it2_ok how base n (i + 1) t2.2 w' h (by omega) (by omega)
        have hd : decide (i < 40) = true := by simp; omega
        have e : thicketlaw11_SkewNumbers_l2 how (base + (n + 1)) i w = thicketlaw11_SkewNumbers_l2 how (base + n) (i + 1) t2.2 := by
          show thicketlaw11_SkewNumbers_l2 how ((base + n) + 1) i w = _
          rw [thicketlaw11_SkewNumbers_l2]
          simp only [hd, cond_true, Option.bind_some, ht1, hb, Bool.not_true, cond_false, ht2, hc, hw]
        rw [e, ih]
        congr 1
        omega
theorem l0_step {how how' : Int} {m : Nat} {z a b d e : thicketlaw11_world} (h0 : how < 4) (hf : thicketlaw11_fresh 200 = some z) (ha : thicketlaw11_SkewNumbers_l1 how m 0 z = some (.inr a)) (hm : midF how m a = some (false, b)) (hd : thicketlaw11_SkewNumbers_l2 how m 0 b = some (.inr d)) (he : endF m d = some (false, e)) (hw : w64 (how + 1) = how') :
    thicketlaw11_SkewNumbers_l0 (m + 1) how = thicketlaw11_SkewNumbers_l0 m how' := by
  rw [thicketlaw11_SkewNumbers_l0]
  have h1 : decide (how < 4) = true := by simpa using h0
  unfold midF at hm
  unfold endF at he
  simp only [h1, cond_true, hf, Option.bind_some, ha, hm, cond_false, hd, he, hw]

end Go.Proofs.YtlfiboncgkijkaaGreat
