/-
  The engine, part 17: copy into a slice that is owned.
-/
import Derived.Test.YtgchbhnchhiehaaGreatE15
set_option linter.unusedVariables false
set_option linter.unusedSimpArgs false
namespace Go.Th
def mCopy {α : Type} (l ys : List α) : Option (List α) := if 0 < l.length then some (ys.take l.length ++ l.drop ys.length) else none
theorem mCopy_len {α : Type} {l ys r : List α} (h : mCopy l ys = some r) : r.length = l.length := by
  unfold mCopy at h
  split at h
  · cases h; simp; omega
  · cases h
theorem Rd.take {w : World} {xb : Option Addr} {a b : List Value} (h : Rd w xb (a ++ b)) : Rd w xb a := by
  rcases h with h | ⟨xa, h1, h2⟩
  · left
    exact (List.append_eq_nil_iff.1 h).1
  · refine .inr ⟨xa, h1, fun j u hj => h2 j u ?_⟩
    rw [List.getElem?_append_left (List.getElem?_eq_some_iff.1 hj).1]
    exact hj
theorem mid_put (A X Y R N : List Value) (h : X.length = N.length) : (A ++ ((X ++ Y) ++ R)).take A.length ++ N ++ (A ++ ((X ++ Y) ++ R)).drop (A.length + N.length) = A ++ ((N ++ Y) ++ R) := by
  rw [← h]
  simp [List.drop_append]
section
variable {P : Program} {α : Type} {T : TypeId} {enc : α → List Value} {sz : Nat} {w0 w : World} {As : List HP}
theorem OpTo.copySl {n : Nat} {a : Act} {L : Env} {o : Oper} {l ys r : List α} {sb yb : Option Addr} {sc yc : Nat} {x y : Operand} {t u : TypeId} {ti : TypeInfo} (hr : mCopy l ys = some r) (hE : EnvOk n a L) (H : St w0 (Sl T enc sz sb sc l :: As) w) (he : EncOk enc sz)
    (hrd : Rd w yb (ys.flatMap enc)) (ho : o.op = .call { callee := .builtin .copy, args := #[x, y], argTypes := #[t, u] }) (hx : evO L x = some (.slice sb l.length sc)) (hy : evO L y = some (.slice yb ys.length yc))
    (ht : P.underlying t = some (.slice T)) (hi : P.info? T = some ti) (hsz : ti.size = sz) :
    OpTo P o a w fun v w' => (∃ k : Int, v = .int .i64 k) ∧ St w0 (Sl T enc sz sb sc r :: As) w' := by
  unfold mCopy at hr
  split at hr
  · rename_i hl
    cases hr
    obtain ⟨b, off, A, R, rfl, hA, h1, h2, h3, H1⟩ := H.slParts he hl
    have hn := flat_length he (ys.take l.length)
    have hfl := flat_length he l
    have hmin : (ys.take l.length).length = Nat.min ys.length l.length := by rw [List.length_take, Nat.min_comm]
    have hle : (ys.take l.length).length * sz ≤ l.length * sz := Nat.mul_le_mul_right _ (by rw [List.length_take]; omega)
    have hys : ys.flatMap enc = (ys.take l.length).flatMap enc ++ (ys.drop l.length).flatMap enc := by rw [← List.flatMap_append, List.take_append_drop]
    rw [hys] at hrd
    refine (OpTo.copyBlk (P := P) ((ys.take l.length).flatMap enc) hE H1 ho hx hy ht hi hsz hrd.take (by rw [hn, hmin]) (flat_one he _) (by simp only [List.length_append]; omega)).mono ?_
    rintro v w' ⟨hv, H2⟩
    refine ⟨hv, ?_⟩
    have e : putAt (A ++ (l.flatMap enc ++ R)) off ((ys.take l.length).flatMap enc) = A ++ ((ys.take l.length ++ l.drop ys.length).flatMap enc ++ R) := by
      have hdl : l.drop (ys.take l.length).length = l.drop ys.length := by
        rw [List.length_take]
        by_cases h : l.length ≤ ys.length
        · rw [List.drop_eq_nil_of_le h, List.drop_eq_nil_of_le (by omega)]
        · rw [Nat.min_eq_right (by omega)]
      have hd : l.flatMap enc = (l.take (ys.take l.length).length).flatMap enc ++ (l.drop ys.length).flatMap enc := by rw [← List.flatMap_append, ← hdl, List.take_append_drop]
      have hl2 : ((l.take (ys.take l.length).length).flatMap enc).length = ((ys.take l.length).flatMap enc).length := by
        rw [flat_length he, hn, List.length_take (i := (ys.take l.length).length)]
        congr 1
        rw [List.length_take]; omega
      rw [putAt_eq _ _ _ (by simp only [List.length_append]; omega), ← hA, List.flatMap_append, hd]
      exact mid_put _ _ _ _ _ hl2
    rw [e] at H2
    have hlen : (ys.take l.length ++ l.drop ys.length).length = l.length := by simp; omega
    have := H2.slBack he (by rw [hlen]; exact h1) h2 (by rw [hlen]; exact h3)
    rwa [hA] at this
  · cases hr
end
end Go.Th
