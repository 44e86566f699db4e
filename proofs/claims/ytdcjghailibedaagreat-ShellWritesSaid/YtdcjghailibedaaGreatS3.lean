/-
  The plain law of ShellWrites: scripts are written, or refused, as the document says.
-/
import Derived.Test.YtdcjghailibedaaGreatS2
set_option linter.unusedVariables false
set_option linter.unusedSimpArgs false
set_option maxRecDepth 10000
namespace Go.Proofs.YtdcjghailibedaaGreat
open Go.Th

theorem known500 : thicketlaw28_known 500 = some true := by kernel_rfl
theorem shellWrites_plain (x : thicketlaw28_Raw) : ∃ k, thicketlaw28_ShellWrites k x = some true := by
  refine ⟨500, ?_⟩
  obtain ⟨s, hs, hl⟩ := made_ok 500 (by omega) x
  have d : decide ((s.Acts.length : Int) > 256) = false := by simp; omega
  unfold thicketlaw28_ShellWrites
  rw [hs]
  simp only [Option.bind_some]
  rw [encode_eq 500 s (by omega), right_eq 500 s (by omega), d]
  simp only [Option.bind_some, cond_false, known500]
  cases hc : (hdrOk s && s.Acts.all mayB)
  · rfl
  · rw [Bool.and_eq_true] at hc
    rw [written_eq 500 s (by omega) (by omega) hc.1 hc.2]
    simp
end Go.Proofs.YtdcjghailibedaaGreat
