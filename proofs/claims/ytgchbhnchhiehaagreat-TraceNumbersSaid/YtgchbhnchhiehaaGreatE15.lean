/-
  The engine, part 15: texts of bytes.
-/
import Derived.Test.YtgchbhnchhiehaaGreatE14
import Derived.Laws.BytesString
set_option linter.unusedVariables false
set_option linter.unusedSimpArgs false
namespace Go.Th
def mStr (l : List Int) : ByteArray := l.foldl (fun r n => r.push (UInt8.ofNat n.toNat)) ByteArray.empty
theorem flat_ecU : ∀ l : List Int, l.flatMap ecU = l.map (Value.int .u8)
  | [] => rfl
  | x :: l => by simp [ecU, flat_ecU l]
theorem OpTo.strOf {P : Program} {n : Nat} {a : Act} {L : Env} {w : World} {o : Oper} {x : Operand} {t d e : TypeId} {sb : Option Addr} {sc : Nat} {l : List Int} (hE : EnvOk n a L) (hr : Rd w sb (l.flatMap ecU)) (ho : o.op = .convert t d x)
    (hs : P.underlying t = some (.slice e)) (he : P.underlying e = some (.int .u8)) (hd : P.underlying d = some .string) (hx : evO L x = some (.slice sb l.length sc)) : OpTo P o a w fun v w' => v = .string (mStr l) ∧ w' = w := by
  obtain ⟨dst, op, type, pos, after, guard⟩ := o
  simp only at ho
  subst ho
  have key : (convert t d (.slice sb l.length sc)).run P w = .ok (.string (mStr l)) w := by
    rw [run_convert_bytes_string w t d e sb l.length sc hs he hd]
    cases sb with
    | none =>
      rcases hr with h | ⟨xa, h, _⟩
      · have hl : l = [] := by
          cases l with
          | nil => rfl
          | cons y l => simp [ecU] at h
        subst hl
        simp [Conv.bytesToString, mStr]
      · cases h
    | some b =>
      refine run_bytesToString w b l.length sc l ?_
      have hall : ∀ j u, (l.map (Value.int .u8))[j]? = some u → w.cell? (b.add j) = some u := by
        intro j u hj
        rcases hr with h | ⟨xa, h, hc⟩
        · rw [flat_ecU] at h; rw [h] at hj; simp at hj
        · cases h; exact hc j u (by rw [flat_ecU]; exact hj)
      have := run_loadCells_list (P := P) w b (l.map (Value.int .u8)) hall
      simpa using this
  exact OpTo.of_run (w' := w) (by simp [execOp, hE.eval hx, key]) ⟨rfl, rfl⟩
end Go.Th
