/-
  The engine, part 10: append into what a block holds already; slices with three bounds.
-/
import Derived.Test.YtgchbhnchhiehaaGreatE9
set_option linter.unusedVariables false
set_option linter.unusedSimpArgs false
namespace Go.Th
section
variable {w0 w : World} {As : List HP} {P : Program} {n : Nat} {a : Act} {L : Env} {o : Oper} {T : TypeId}

theorem OpTo.slice3 {sb : Option Addr} {len cap : Nat} {i j k : Int} {t : TypeId} {x lo hi mx : Operand} {ti : TypeInfo} (hE : EnvOk n a L) (ho : o.op = .slice t x (some lo) (some hi) (some mx)) (hx : evO L x = some (.slice sb len cap)) (hlo : evO L lo = some (.int .i64 i)) (hhi : evO L hi = some (.int .i64 j)) (hmx : evO L mx = some (.int .i64 k))
    (ht : P.underlying t = some (.slice T)) (hi2 : P.info? T = some ti) (h1 : 0 ≤ i ∧ i ≤ j) (h2 : j ≤ k) (h3 : k ≤ (cap : Int)) (h4 : (cap : Int) ≤ 9223372036854775807) : OpTo P o a w fun v w' => w' = w := by
  obtain ⟨dst, op, type, pos, after, guard⟩ := o
  simp only at ho
  subst ho
  refine OpTo.of_run (w' := w) (v := .slice (if k.toNat = i.toNat then sb else sb.map (·.add (i.toNat * ti.size))) (j.toNat - i.toNat) (k.toNat - i.toNat)) ?_ rfl
  have e1 : (0 : Int) ≤ k ∧ k ≤ (cap : Int) := ⟨by omega, h3⟩
  have e2 : (0 : Int) ≤ j ∧ j ≤ (k.toNat : Int) := ⟨by omega, by omega⟩
  have e3 : (0 : Int) ≤ i ∧ i ≤ (j.toNat : Int) := ⟨h1.1, by omega⟩
  simp only [execOp, Option.map_some, hE.eval hx, hE.eval hlo, hE.eval hhi, hE.eval hmx]
  simp [Instr.sliceAt, Instr.slice, Instr.sliceBounds, Instr.sliceBound, asIntOf, run_und P ht, run_size P hi2, e1, e2, e3]
  rw [if_pos (by omega), if_pos (by omega)]

theorem OpTo.appendBlk {b off k sc m yc sz : Nat} {yb : Option Addr} {cs : List Value} (news : List Value) {x y : Operand} {t u d : TypeId} {ti : TypeInfo} (hE : EnvOk n a L) (H : St w0 (Blk b T cs :: As) w)
    (ho : o.op = .call { callee := .builtin .append, args := #[x, y], argTypes := #[t, u] }) (hx : evO L x = some (.slice (some ⟨b, off, none⟩) k sc)) (hy : evO L y = some (.slice yb m yc))
    (ht : P.underlying t = some (.slice T)) (hu : P.underlying u = some (.slice d)) (hi : P.info? T = some ti) (hsz : ti.size = sz) (hr : Rd w yb news) (hl : news.length = m * sz) (h1 : ∀ v ∈ news, v.oneCell' = true) (hroom : k + m ≤ sc) (hsc : sc ≤ maxLen) (hfit : off + k * sz + news.length ≤ cs.length) :
    OpTo P o a w fun v w' => v = .slice (some ⟨b, off, none⟩) (k + m) sc ∧ St w0 (Blk b T (putAt cs (off + k * sz) news) :: As) w' := by
  obtain ⟨dst, op, type, pos, after, guard⟩ := o
  simp only at ho
  subst ho
  have hb := H.one 0 rfl
  have hst := run_storeCells_at P b (off + k * sz) T news 0 cs.toArray w hb (by simpa using hfit) h1
  simp only [Nat.add_zero] at hst
  rw [putAt_eq _ _ _ hfit]
  have h63 : ¬ (9223372036854775807 < ((k : Int) + (m : Int))) := by simp only [maxLen] at hsc; omega
  have hf := rd_first (P := P) (size := ti.size) (m := m) (len := m) (cap := yc) hr (by rw [hl, hsz])
  have hst' : (storeCells ((⟨b, off, none⟩ : Addr).add (k * ti.size)) news 0).run P w = .ok () (w.setRow b (cs.take (off + k * sz) ++ news ++ cs.drop (off + k * sz + news.length)).toArray) := by
    rw [addr_add, hsz]
    simpa using hst
  refine OpTo.of_run (w' := w.setRow b (cs.take (off + k * sz) ++ news ++ cs.drop (off + k * sz + news.length)).toArray) (v := .slice (some ⟨b, off, none⟩) (k + m) sc) ?_ ⟨rfl, ?_⟩
  · simp only [List.append_assoc, List.append_toArray] at hst' ⊢
    simp [execOp, resolve, invoke, builtin, hE.eval hx, hE.eval hy, Builtin.append_, run_und P ht, run_und P hu, sizeOf, typeInfo, hi, Builtin.lenOf, hroom, hf, hst']
  · exact H.set (by simp) (by simp) (by simp) (setRow_heap w b _ _ T (0, 0) hb) (fun c hc => setRow_other w b c _ hc)

/-- A slice whose tail moves up: what lies behind stays. -/
theorem OpTo.appendSelf {α : Type} {enc : α → List Value} {sz i j sc yc : Nat} {sb yb : Option Addr} {s : List α} {x y : Operand} {t u d : TypeId} {ti : TypeInfo} (hE : EnvOk n a L) (H : St w0 (Sl T enc sz sb sc s :: As) w) (he : EncOk enc sz)
    (ho : o.op = .call { callee := .builtin .append, args := #[x, y], argTypes := #[t, u] }) (hij : i ≤ j) (hj : j ≤ s.length) (hs : 0 < s.length) (hx : evO L x = some (.slice sb i sc)) (hyb : rebase sb sc j sz = yb) (hy : evO L y = some (.slice yb (s.length - j) yc))
    (ht : P.underlying t = some (.slice T)) (hu : P.underlying u = some (.slice d)) (hi : P.info? T = some ti) (hsz : ti.size = sz) :
    OpTo P o a w fun v w' => v = .slice sb (i + (s.length - j)) sc ∧ St w0 (Sl T enc sz sb sc (s.take i ++ (s.drop j ++ s.drop (i + (s.length - j)))) :: As) w' := by
  obtain ⟨b, off, A, R, rfl, hA, h1, h2, hR, H1⟩ := H.slParts he hs
  have hfs := flat_length he s
  have hft := flat_length he (s.take i)
  have hfd := flat_length he (s.drop j)
  have hfr := flat_length he (s.drop (i + (s.length - j)))
  have hfm := flat_length he (s.drop i)
  simp only [List.length_take, List.length_drop] at hft hfd hfr hfm
  rw [Nat.min_eq_left (by omega)] at hft
  have hsp : s.flatMap enc = (s.take i).flatMap enc ++ (s.drop i).flatMap enc := by rw [← List.flatMap_append, List.take_append_drop]
  have hspj : s.flatMap enc = (s.take j).flatMap enc ++ (s.drop j).flatMap enc := by rw [← List.flatMap_append, List.take_append_drop]
  have htj := flat_length he (s.take j)
  simp only [List.length_take] at htj
  rw [Nat.min_eq_left hj] at htj
  -- what is moved over
  obtain ⟨M1, hM, hM1⟩ : ∃ M1 : List Value, (s.drop i).flatMap enc = M1 ++ (s.drop (i + (s.length - j))).flatMap enc ∧ M1.length = (s.length - j) * sz := by
    refine ⟨((s.drop i).take (s.length - j)).flatMap enc, ?_, ?_⟩
    · rw [← List.flatMap_append, ← List.drop_drop, List.take_append_drop]
    · rw [flat_length he, List.length_take, List.length_drop, Nat.min_eq_left (by omega)]
  have hrd : Rd w yb ((s.drop j).flatMap enc) := by
    by_cases hjn : j = s.length
    · left; subst hjn; simp
    · have : yb = some ⟨b, off + j * sz, none⟩ := by rw [← hyb]; unfold rebase; rw [if_neg (by omega)]; simp [addr_add]
      subst this
      refine rdBlk H1 0 rfl (off := off + j * sz) fun q u hq => ?_
      rw [hspj, List.append_assoc, ← List.append_assoc A, List.getElem?_append_right (by simp only [List.length_append, hA, htj]; omega)]
      simp only [List.length_append, hA, htj]
      rw [List.getElem?_append_left (by have := (List.getElem?_eq_some_iff.1 hq).1; omega)]
      rw [← hq]; congr 1; omega
  have hjs : (s.length - j) * sz ≤ s.length * sz := Nat.mul_le_mul_right _ (by omega)
  have his : i * sz + (s.length - j) * sz ≤ s.length * sz := by rw [← Nat.add_mul]; exact Nat.mul_le_mul_right _ (by omega)
  refine (OpTo.appendBlk (P := P) (sz := sz) ((s.drop j).flatMap enc) hE H1 ho hx hy ht hu hi hsz hrd (by rw [hfd]) (flat_one he _) (by omega) h2 (by simp only [List.length_append, hA, hfs, hfd]; omega)).mono ?_
  rintro v w' ⟨rfl, H2⟩
  refine ⟨rfl, ?_⟩
  have e1 : A ++ (s.flatMap enc ++ R) = (A ++ (s.take i).flatMap enc) ++ (M1 ++ ((s.drop (i + (s.length - j))).flatMap enc ++ R)) := by rw [hsp, hM]; simp [List.append_assoc]
  rw [e1, putAt_midN _ _ _ _ _ (by simp only [List.length_append, hA, hft]) (by rw [hfd, hM1])] at H2
  have e2 : (A ++ (s.take i).flatMap enc) ++ ((s.drop j).flatMap enc ++ ((s.drop (i + (s.length - j))).flatMap enc ++ R)) = A ++ ((s.take i ++ (s.drop j ++ s.drop (i + (s.length - j)))).flatMap enc ++ R) := by simp [List.append_assoc]
  rw [e2] at H2
  have hln : (s.take i ++ (s.drop j ++ s.drop (i + (s.length - j)))).length = s.length := by simp; omega
  have := St.slBack H2 he (sc := sc) (by rw [hln]; exact h1) h2 (by rw [hln]; exact hR)
  rw [hA] at this
  exact this
end
def lDelete {α : Type} (l : List α) (i j : Int) : Option (List α) := if 0 ≤ i ∧ i ≤ j ∧ j ≤ (l.length : Int) ∧ l.length ≤ 1073741824 then some (l.take i.toNat ++ l.drop j.toNat) else none
end Go.Th
