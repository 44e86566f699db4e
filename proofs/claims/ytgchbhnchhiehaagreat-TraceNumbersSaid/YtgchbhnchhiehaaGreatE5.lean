/-
  The engine, part 5: 'clear'; contracts of library functions that are walked by hand.
-/
import Derived.Test.YtgchbhnchhiehaaGreatE4
set_option linter.unusedVariables false
set_option linter.unusedSimpArgs false
namespace Go.Th

theorem zeroCells_flat {α : Type} {enc : α → List Value} {sz : Nat} (he : EncOk enc sz) {z : α} {zc : Array Value} (hz : zc.toList = enc z) (n : Nat) : (Builtin.zeroCells zc n).toList = (List.replicate n z).flatMap enc := by
  have hs : zc.size = sz := by rw [← Array.length_toList, hz, he.len]
  apply List.ext_getElem?
  intro i
  simp only [Builtin.zeroCells, Array.toList_map, Array.toList_range, List.getElem?_map, hs]
  by_cases h : i < n * sz
  · have h0 : 0 < sz := by
      rcases Nat.eq_zero_or_pos sz with e | e
      · subst e; simp at h
      · exact e
    have hj : i / sz < n := (Nat.div_lt_iff_lt_mul h0).2 h
    have hg := flat_get he (List.replicate n z) (i / sz) (i % sz) (by simpa using hj) (Nat.mod_lt _ h0)
    rw [Nat.mul_comm, Nat.div_add_mod] at hg
    rw [hg, List.getElem?_range h]
    simp only [Option.map_some, List.getElem_replicate]
    have hm : i % sz < zc.size := by rw [hs]; exact Nat.mod_lt _ h0
    rw [getElem!_pos zc _ hm, ← hz]
    simp [hm]
  · rw [List.getElem?_eq_none (by simp; omega), List.getElem?_eq_none (by rw [flat_length he]; simp; omega)]
    rfl

/-- Some of the elements are others. -/
theorem flat_mid {α : Type} {enc : α → List Value} {sz : Nat} (he : EncOk enc sz) (l ys : List α) (lo : Nat) (h : lo + ys.length ≤ l.length) (cs : List Value) (off : Nat) (hfit : off + l.length * sz ≤ cs.length)
    (hc : ∀ i, i < l.length * sz → cs[off + i]? = (l.flatMap enc)[i]?) :
    ∀ i, i < l.length * sz → (putAt cs (off + lo * sz) (ys.flatMap enc))[off + i]? = ((l.take lo ++ (ys ++ l.drop (lo + ys.length))).flatMap enc)[i]? := by
  intro i hi
  have h1 : (lo + ys.length) * sz ≤ l.length * sz := Nat.mul_le_mul_right _ h
  rw [Nat.add_mul] at h1
  have hyl := flat_length he ys
  have htl : ((l.take lo).flatMap enc).length = lo * sz := by rw [flat_length he, List.length_take, Nat.min_eq_left (by omega)]
  have hdl : ((l.drop (lo + ys.length)).flatMap enc).length = l.length * sz - (lo + ys.length) * sz := by rw [flat_length he, List.length_drop, Nat.sub_mul]
  have hsp : l.flatMap enc = (l.take lo).flatMap enc ++ (l.drop lo).flatMap enc := by rw [← List.flatMap_append, List.take_append_drop]
  have hsp2 : l.flatMap enc = (l.take (lo + ys.length)).flatMap enc ++ (l.drop (lo + ys.length)).flatMap enc := by rw [← List.flatMap_append, List.take_append_drop]
  have htl2 : ((l.take (lo + ys.length)).flatMap enc).length = lo * sz + ys.length * sz := by rw [flat_length he, List.length_take, Nat.min_eq_left (by omega), Nat.add_mul]
  rw [putAt_eq _ _ _ (by rw [hyl]; omega), List.flatMap_append, List.flatMap_append]
  by_cases c1 : i < lo * sz
  · rw [List.append_assoc, List.getElem?_append_left (by rw [List.length_take]; omega), List.getElem?_take, if_pos (by omega), hc i hi, hsp, List.getElem?_append_left (by omega), List.getElem?_append_left (by omega)]
  · by_cases c2 : i < lo * sz + ys.length * sz
    · rw [List.getElem?_append_left (by simp only [List.length_append, List.length_take, hyl]; omega), List.getElem?_append_right (by rw [List.length_take]; omega),
        List.getElem?_append_right (by omega), List.getElem?_append_left (by rw [htl, hyl]; omega)]
      congr 1
      rw [List.length_take, htl]; omega
    · rw [List.getElem?_append_right (by simp only [List.length_append, List.length_take, hyl]; omega), List.getElem?_append_right (by omega), List.getElem?_append_right (by rw [htl, hyl]; omega), List.getElem?_drop]
      have e1 : off + lo * sz + (ys.flatMap enc).length + (off + i - (List.take (off + lo * sz) cs ++ ys.flatMap enc).length) = off + i := by
        simp only [List.length_append, List.length_take, hyl]; omega
      rw [e1, hc i hi, hsp2, List.getElem?_append_right (by omega)]
      congr 1
      rw [htl, hyl, htl2]; omega

def mClear {α : Type} (l : List α) (lo : Int) (z : α) : List α := l.take lo.toNat ++ (List.replicate (l.length - lo.toNat) z ++ [])
theorem mClear_len {α : Type} {l : List α} {lo : Int} {z : α} {r : List α} (hr : mCut l lo (l.length : Int) = some r) : (mClear l lo z).length = l.length := by
  obtain ⟨h1, h2⟩ := cut_bd0 hr
  simp [mClear]; omega

section
variable {α : Type} {T : TypeId} {enc : α → List Value} {sz : Nat} {w0 w : World} {As : List HP} {P : Program}
theorem OpTo.clearSl {n : Nat} {a : Act} {L : Env} {o : Oper} {t : TypeId} {sb sb' : Option Addr} {sc sc' : Nat} {l r : List α} {lo : Int} {z : α} {x : Operand} {ti : TypeInfo} {zv : Value} (hE : EnvOk n a L) (H : St w0 (Sl T enc sz sb sc l :: As) w) (he : EncOk enc sz)
    (hr : mCut l lo (l.length : Int) = some r) (hsb : rebase sb sc lo.toNat sz = sb') (hsc : sc - lo.toNat = sc') (ho : o.op = .call { callee := .builtin .clear, args := #[x], argTypes := #[t] }) (hx : evO L x = some (.slice sb' r.length sc'))
    (ht : P.underlying t = some (.slice T)) (hi : P.info? T = some ti) (hz : ti.zero = some zv) (hc : zv.cells.toList = enc z) :
    OpTo P o a w fun v w' => v = .tuple #[] ∧ St w0 (Sl T enc sz sb sc (mClear l lo z) :: As) w' := by
  obtain ⟨dst, op, type, pos, after, guard⟩ := o
  simp only at ho
  subst ho
  have hlen := cut_len hr
  obtain ⟨hlo, hhi⟩ := cut_bd0 hr
  have hcapl : mClear l lo z = l.take lo.toNat ++ (List.replicate r.length z ++ l.drop (lo.toNat + (List.replicate r.length z).length)) := by
    unfold mClear
    have : r.length = l.length - lo.toNat := by omega
    rw [this]
    congr 2
    simp; omega
  have hzv : ∀ w : World, (Go.zeroValue T).run P w = .ok zv w := fun w => by simp [Go.zeroValue, Go.typeInfo, Sem.run, hi, hz]
  rcases H.slOpen with ⟨h1, h2, h3⟩ | ⟨b, off, cs, e, H1, h3, h4, h5, h6⟩
  · subst h1; subst h2
    have hs : sb' = none := by rw [← hsb]; unfold rebase; split <;> rfl
    subst hs
    refine OpTo.of_run (v := .tuple #[]) (w' := w) ?_ ⟨rfl, ?_⟩
    · simp [execOp, resolve, invoke, builtin, hE.eval hx, Builtin.clear_, run_und P ht]
    · simpa [mClear] using H
  · subst e
    by_cases hn : r.length = 0
    · refine OpTo.of_run (v := .tuple #[]) (w' := w) ?_ ⟨rfl, ?_⟩
      · rw [hn] at hx
        cases hsb' : sb' <;> simp [execOp, resolve, invoke, builtin, hE.eval hx, Builtin.clear_, run_und P ht, hsb']
      · rw [hcapl, hn]
        simpa using H
    · have hne : sc ≠ lo.toNat := by omega
      have hs : sb' = some ⟨b, off + lo.toNat * sz, none⟩ := by rw [← hsb]; unfold rebase; rw [if_neg hne]; simp [Addr.add_lit]
      subst hs
      have hmul : l.length * sz ≤ sc * sz := Nat.mul_le_mul_right _ h3
      have hlr : (lo.toNat + r.length) * sz ≤ l.length * sz := Nat.mul_le_mul_right _ (by omega)
      rw [Nat.add_mul] at hlr
      have hyl := flat_length he (List.replicate r.length z)
      simp only [List.length_replicate] at hyl
      have hb := H1.one 0 rfl
      have hst := run_storeCells_at P b (off + lo.toNat * sz) T ((List.replicate r.length z).flatMap enc) 0 cs w hb (by simp only [Nat.add_zero, hyl]; omega) (flat_one he _)
      simp only [Nat.add_zero] at hst
      refine OpTo.of_run (v := .tuple #[]) (w' := w.setRow b (putAt cs.toList (off + lo.toNat * sz) ((List.replicate r.length z).flatMap enc)).toArray) ?_ ⟨rfl, ?_⟩
      · have hz0 : ∃ m, r.length = m + 1 := ⟨r.length - 1, by omega⟩
        obtain ⟨m, hm⟩ := hz0
        rw [putAt_eq _ _ _ (by simp only [Array.length_toList, hyl]; omega)]
        simp only [execOp, resolve, invoke, builtin, hE.eval hx, Builtin.clear_, run_und P ht, Sem.run_bind, Result.andThen_ok, hm]
        simp [execOp, resolve, invoke, builtin, hE.eval hx, Builtin.clear_, run_und P ht, hzv, hm, zeroCells_flat he hc]
        rw [hm] at hst
        rw [show storeCells ⟨b, off + lo.toNat * sz, none⟩ (List.flatMap enc (List.replicate (m + 1) z)) = storeCells ⟨b, off + lo.toNat * sz, none⟩ (List.flatMap enc (List.replicate (m + 1) z)) 0 from rfl, hst]
        simp [Result.andThen]
      · have H2 := H1.set (w' := w.setRow b (putAt cs.toList (off + lo.toNat * sz) ((List.replicate r.length z).flatMap enc)).toArray) (by simp) (by simp) (by simp) (setRow_heap w b _ _ T (0, 0) hb) (fun c hc => setRow_other w b c _ hc)
        have hml := mClear_len (z := z) hr
        refine H2.head fun h hh => .inr ⟨b, off, _, rfl, hh, by rw [hml]; exact h3, h4, by simp [putAt_length]; omega, fun i hi' => ?_⟩
        rw [hml] at hi'
        rw [hcapl]
        simp only [List.getElem?_toArray]
        exact flat_mid he l (List.replicate r.length z) lo.toNat (by simp; omega) cs.toList off (by simp; omega) (fun i hi => by rw [← h6 i hi]; simp) i hi'
end
end Go.Th
