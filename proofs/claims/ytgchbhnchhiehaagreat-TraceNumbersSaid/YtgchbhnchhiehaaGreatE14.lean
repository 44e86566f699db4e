/-
  The engine, part 14: structures of numbers, one in the other, among the arguments.
-/
import Derived.Test.YtgchbhnchhiehaaGreatE13
set_option linter.unusedVariables false
set_option linter.unusedSimpArgs false
namespace Go.Th
section
variable {H : Type} {en : TypeId × Value → H} {P : Program} {w : World} {base : Nat} {spare : Nat → Bool} {held : Bool}
def intsOnly (P : Program) : Nat → TypeId → Bool
  | 0, _ => false
  | d + 1, e => match P.underlying e with
    | some (.int .i64) => P.cellsOf e == 1
    | some (.struct fs) => fs.toList.all (fun f => intsOnly P d f.type) && (List.range (P.cellsOf e)).all (fun j => fs.toList.any fun f => Nat.ble f.offset j && Nat.blt j (f.offset + P.cellsOf f.type))
    | _ => false
theorem ints_ci : ∀ (d : Nat) (e : TypeId), intsOnly P d e = true → ∀ n cs y, DataW.trod en P w base spare held n e cs = some y → cs.length = P.cellsOf e ∧ ∀ (j : Nat) (u : Value), cs[j]? = some u → ∃ z : Int, u = Value.int .i64 z
  | 0, e, h, _, _, _, _ => by simp [intsOnly] at h
  | d + 1, e, h, n, cs, y, ht => by
    rw [intsOnly] at h
    split at h
    · rename_i hu
      obtain ⟨q, rfl, _⟩ := DataW.trod_int hu ht
      refine ⟨by simpa using (beq_iff_eq.1 h).symm, fun j u hj => ⟨q, ?_⟩⟩
      cases j with
      | zero => simpa using hj.symm
      | succ j => simp at hj
    · rename_i fs hu
      simp only [Bool.and_eq_true, List.all_eq_true] at h
      obtain ⟨h1, h2⟩ := h
      obtain ⟨xs, m, _, _, hl, hxl, hx⟩ := DataW.trod_struct hu ht
      refine ⟨hl, fun j u hj => ?_⟩
      have hjl : j < P.cellsOf e := by rw [← hl]; exact (List.getElem?_eq_some_iff.1 hj).1
      have h3 := h2 j (List.mem_range.2 hjl)
      obtain ⟨f, hf, h4⟩ := List.any_eq_true.1 h3
      simp only [Bool.and_eq_true] at h4
      have h5 := Nat.le_of_ble_eq_true h4.1
      have h6 : j < f.offset + P.cellsOf f.type := by
        have := h4.2
        simp only [Nat.blt] at this
        exact Nat.le_of_ble_eq_true this
      obtain ⟨i, hi⟩ := List.getElem?_of_mem hf
      have hfi : fs[i]? = some f := by simpa using hi
      have hxi := hx i f hfi
      have hil : i < xs.length := by
        have := (Array.getElem?_eq_some_iff.1 hfi).1
        omega
      rw [List.getElem?_eq_getElem hil] at hxi
      obtain ⟨_, h7⟩ := ints_ci d f.type (h1 f hf) _ _ _ hxi
      refine h7 (j - f.offset) u ?_
      rw [List.getElem?_take, if_pos (by omega), List.getElem?_drop]
      rw [show f.offset + (j - f.offset) = j by omega]
      exact hj
    · cases h
/-- A structure of numbers, structures of numbers among them. -/
theorem dec_nest {e : TypeId} (k : Nat) (hi : intsOnly P 5 e = true) (hc : P.cellsOf e = k) : ∀ n cs y, DataW.trod en P w base spare held n e cs = some y → ∃ z : List Int, z.length = k ∧ cs = z.map fun x => .int .i64 x := fun n cs y h => by
  obtain ⟨hl, hci⟩ := ints_ci 5 e hi n cs y h
  rw [hc] at hl
  obtain ⟨z, hz, hp⟩ := list_of (α := Int) (p := fun i z => cs[i]? = some (.int .i64 z)) k fun i hi => by
    have hlt : i < cs.length := by omega
    obtain ⟨q, hq⟩ := hci i cs[i] (by simp [hlt])
    exact ⟨q, by rw [List.getElem?_eq_getElem hlt, hq]⟩
  refine ⟨z, hz, ?_⟩
  apply List.ext_getElem?
  intro i
  by_cases hik : i < k
  · have hzi : i < z.length := by omega
    rw [hp i z[i] (by simp [hzi])]
    simp [hzi]
  · rw [List.getElem?_eq_none (by omega), List.getElem?_eq_none (by simp; omega)]
end
end Go.Th
