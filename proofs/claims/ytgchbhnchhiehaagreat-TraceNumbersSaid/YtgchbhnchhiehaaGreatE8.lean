/-
  The engine, part 8: copy, append of zeros, slices.overlaps: what slices.Insert is made of.
-/
import Derived.Test.YtgchbhnchhiehaaGreatE7
import Derived.Lib.AppendZerosOnto
import Derived.Lib.Overlaps
import Derived.Laws.Externs
set_option linter.unusedVariables false
set_option linter.unusedSimpArgs false
namespace Go.Th

theorem putAt_mid (A X R V : List Value) (h : V.length = X.length) : putAt (A ++ (X ++ R)) A.length V = A ++ (V ++ R) := by
  rw [putAt_eq _ _ _ (by simp; omega)]
  rw [List.take_left' rfl, List.append_assoc]
  congr 2
  have : A.length + V.length = (A ++ X).length := by simp [h]
  rw [this, ← List.append_assoc, List.drop_left' rfl]
theorem putAt_midN (A X R V : List Value) (n : Nat) (hn : n = A.length) (h : V.length = X.length) : putAt (A ++ (X ++ R)) n V = A ++ (V ++ R) := by
  subst hn; exact putAt_mid A X R V h

section
variable {w0 w : World} {As : List HP} {P : Program} {n : Nat} {a : Act} {L : Env} {o : Oper} {T : TypeId}

theorem rdBlk (H : St w0 As w) (i : Nat) {b off : Nat} {cs news : List Value} (hi : As[i]? = some (Blk b T cs)) (h : ∀ (j : Nat) (u : Value), news[j]? = some u → cs[off + j]? = some u) : Rd w (some ⟨b, off, none⟩) news := by
  refine .inr ⟨_, rfl, fun j u hj => ?_⟩
  rw [addr_add]
  exact H.cell i hi (h j u hj)

theorem OpTo.copyBlk {b off dLen dCap sLen sCap sz : Nat} {yb : Option Addr} {cs : List Value} (news : List Value) {x y : Operand} {t u : TypeId} {ti : TypeInfo} (hE : EnvOk n a L) (H : St w0 (Blk b T cs :: As) w)
    (ho : o.op = .call { callee := .builtin .copy, args := #[x, y], argTypes := #[t, u] }) (hx : evO L x = some (.slice (some ⟨b, off, none⟩) dLen dCap)) (hy : evO L y = some (.slice yb sLen sCap))
    (ht : P.underlying t = some (.slice T)) (hi : P.info? T = some ti) (hsz : ti.size = sz) (hr : Rd w yb news) (hl : news.length = Nat.min sLen dLen * sz) (h1 : ∀ v ∈ news, v.oneCell' = true) (hfit : off + news.length ≤ cs.length) :
    OpTo P o a w fun v w' => (∃ k : Int, v = .int .i64 k) ∧ St w0 (Blk b T (putAt cs off news) :: As) w' := by
  obtain ⟨dst, op, type, pos, after, guard⟩ := o
  simp only at ho
  subst ho
  have hb := H.one 0 rfl
  have hst := run_storeCells_at P b off T news 0 cs.toArray w hb (by simpa using hfit) h1
  simp only [Nat.add_zero] at hst
  rw [putAt_eq _ _ _ hfit]
  have hf := rd_first (P := P) (size := ti.size) (m := Nat.min sLen dLen) (len := sLen) (cap := sCap) hr (by rw [hl, hsz])
  have hrun : (Builtin.copy_ #[t, u] type #[.slice (some ⟨b, off, none⟩) dLen dCap, .slice yb sLen sCap]).run P w = .ok (goInt (Nat.min sLen dLen)) (w.setRow b (cs.take off ++ news ++ cs.drop (off + news.length)).toArray) := by
    have hst' : Sem.run P (storeCells { block := b, off := off } news) w = Result.ok () (w.setRow b (List.take off cs ++ (news ++ List.drop (off + news.length) cs)).toArray) := by simpa using hst
    simp [Builtin.copy_, run_und P ht, Builtin.lenOf, run_size P hi, hf, hst']
  refine OpTo.of_run (w' := w.setRow b (cs.take off ++ news ++ cs.drop (off + news.length)).toArray) (v := goInt (Nat.min sLen dLen)) ?_ ⟨⟨_, rfl⟩, ?_⟩
  · simp [execOp, resolve, invoke, builtin, hE.eval hx, hE.eval hy, hrun]
  · exact H.set (by simp) (by simp) (by simp) (setRow_heap w b _ _ T (0, 0) hb) (fun c hc => setRow_other w b c _ hc)

theorem OpTo.appendZ {sz k sLen sCap : Nat} {sb : Option Addr} (olds : List Value) {x y : Operand} {t tn : TypeId} {kn : IntKind} {ti : TypeInfo} {z : Value} (hE : EnvOk n a L) (H : St w0 As w)
    (ho : o.op = .call { callee := .builtin .append, args := #[x, y], argTypes := #[t, tn] }) (hx : evO L x = some (.slice sb sLen sCap)) (hy : evO L y = some (.int .i64 (k : Int)))
    (ht : P.underlying t = some (.slice T)) (htn : P.underlying tn = some (.int kn)) (hi : P.info? T = some ti) (hsz : ti.size = sz) (hz : ti.zero = some z) (hzs : z.cells.size = sz) (hs : 0 < sz)
    (hr : Rd w sb olds) (hol : olds.length = sLen * sz) (h0 : 0 < k) (hg : sCap < sLen + k) (hmax : sLen + k ≤ 1073741824) (hby : Nat.ble ti.bytes 131072 = true) :
    OpTo P o a w fun v w' => ∃ (r c : Nat) (Z : List Value), v = .slice (some ⟨r, 0, none⟩) (sLen + k) c ∧ sLen + k ≤ c ∧ c ≤ maxLen ∧ Z.length = (c - sLen) * sz ∧ St w0 (Blk r T (olds ++ Z) :: As) w' := by
  have hbb := Nat.le_of_ble_eq_true hby
  obtain ⟨dst, op, type, pos, after, guard⟩ := o
  simp only at ho
  subst ho
  have hr' : Rd w.drew sb olds := by
    rcases hr with h | ⟨xa, h1, h2⟩
    · exact .inl h
    · exact .inr ⟨xa, h1, by simpa using h2⟩
  have hfo := rd_first (P := P) (size := ti.size) (m := sLen) (len := sLen) (cap := sCap) hr' (by rw [hol, hsz])
  have hkb : k * ti.bytes ≤ 281474976710656 := by
    calc k * ti.bytes ≤ 1073741824 * 131072 := Nat.mul_le_mul (by omega) hbb
      _ ≤ 281474976710656 := by decide
  have hnb : Builtin.nextslicecap (sLen + k) sCap * ti.bytes ≤ 281474976710656 := by
    refine growslice_fits (need := sLen + k) (old := sCap) (by omega) ?_
    calc (sLen + k) * ti.bytes ≤ 1073741824 * 131072 := Nat.mul_le_mul hmax hbb
      _ ≤ 140737488355328 := by decide
  have hrun := Go.Lib.run_append_grow_zeros (P := P) w t tn type T ti z .i64 kn ht htn hi hz sb sLen sCap olds hfo k h0 (by rw [hsz]; exact hs) hg (by omega) hkb hnb
  have hge := grownCap_ge w (sLen + k) sCap T
  have hcm := grownCap_le_maxLen w (sLen + k) sCap T (by unfold maxLen; omega)
  refine OpTo.of_run (w' := w.drew.alloc (.cells (olds.toArray ++ Builtin.zeroCells z.cells k ++ Builtin.zeroCells z.cells (grownCap w (sLen + k) sCap T - (sLen + k))) T (0, 0))) ?_
    ⟨w.heap.size, grownCap w (sLen + k) sCap T, (Builtin.zeroCells z.cells k ++ Builtin.zeroCells z.cells (grownCap w (sLen + k) sCap T - (sLen + k))).toList, rfl, by omega, hcm, ?_, ?_⟩
  · simp [execOp, resolve, invoke, builtin, hE.eval hx, hE.eval hy, hrun]
  · simp only [Array.length_toList, Array.size_append, size_zeroCells, hzs, ← Nat.add_mul]
    congr 1; omega
  · have H2 := (H.drew).alloc (.cells (olds.toArray ++ Builtin.zeroCells z.cells k ++ Builtin.zeroCells z.cells (grownCap w (sLen + k) sCap T - (sLen + k))) T (0, 0))
    refine H2.head fun h hh => ?_
    have e : (olds ++ (Builtin.zeroCells z.cells k ++ Builtin.zeroCells z.cells (grownCap w (sLen + k) sCap T - (sLen + k))).toList).toArray = olds.toArray ++ Builtin.zeroCells z.cells k ++ Builtin.zeroCells z.cells (grownCap w (sLen + k) sCap T - (sLen + k)) := by
      apply Array.ext'
      simp [List.append_assoc]
    show h _ = _
    rw [e]
    exact hh

theorem OpTo.overlapsNo {g va vo la ca b off lb cb : Nat} {cv cs : Array Value} {Tv Ts : TypeId} {xs : List Operand} {fn : Func} {tS tR e : TypeId} {ti : TypeInfo} (hE : EnvOk n a L) (H : St w0 As w) (i j : Nat)
    (hi : As[i]? = some (One va (.cells cv Tv (0, 0)))) (hj : As[j]? = some (One b (.cells cs Ts (0, 0)))) (hne : va ≠ b) (hcs : cs.size ≠ 0)
    (ho : callParts o.op = some (.func g, xs)) (hxs : evList L xs = some [.slice (some ⟨va, vo, none⟩) la ca, .slice (some ⟨b, off, none⟩) lb cb])
    (hf : P.funcs[g]? = some fn) (hname : (fn.name == "runtime.NumGoroutine") = false) (hb : fn.body.isNone = true) (hn : Extern.findNext fn = none) (he : Extern.find fn = some (Extern.SlicesOverlaps.overlaps #[tS, tS] #[tR]))
    (ht : P.underlying tS = some (.slice e)) (hz : P.info? e = some ti) : OpTo P o a w fun v w' => v = .bool false ∧ w' = w := by
  obtain ⟨dst, op, type, pos, after, guard⟩ := o
  cases op <;> simp only [callParts] at ho <;> try cases ho
  rename_i c
  obtain ⟨callee, args, ats⟩ := c
  cases callee <;> simp only at ho <;> try cases ho
  have h1 := H.one i hi
  have h2 := H.one j hj
  have hov := Go.Lib.run_overlaps_apart (P := P) w tS tR e ht ti.size (run_size P hz) ⟨va, vo, none⟩ ⟨b, off, none⟩ la ca lb cb hne Tv Ts cv.size cs.size (by simp [World.shape?, h1]) (by simp [World.shape?, h2]) hcs (by simp [World.frozen?, h1]) (by simp [World.frozen?, h1])
  have hcall := run_callFunc_extern hf hname hb hn he #[.slice (some ⟨va, vo, none⟩) la ca, .slice (some ⟨b, off, none⟩) lb cb] w
  rw [hov] at hcall
  have e2 := evList_eq hE _ _ hxs
  have e3 : args.map a.eval = #[.slice (some ⟨va, vo, none⟩) la ca, .slice (some ⟨b, off, none⟩) lb cb] := by
    apply Array.ext'
    simpa using e2
  refine OpTo.of_run (w' := w) (v := .bool false) ?_ ⟨rfl, rfl⟩
  have hfe : a.eval (.func g) = .func (.func g) #[] #[] := rfl
  simp [execOp, resolve, Deferred.ofValue, hfe, invoke, e3, hcall, Result.andThen]
end

/-- What a slice's block holds, part by part. -/
theorem St.slParts {α : Type} {T : TypeId} {enc : α → List Value} {sz : Nat} {w0 w : World} {As : List HP} {sb : Option Addr} {sc : Nat} {l : List α} (H : St w0 (Sl T enc sz sb sc l :: As) w) (he : EncOk enc sz) (hl : 0 < l.length) :
    ∃ (b off : Nat) (A R : List Value), sb = some ⟨b, off, none⟩ ∧ A.length = off ∧ l.length ≤ sc ∧ sc ≤ maxLen ∧ (sc - l.length) * sz ≤ R.length ∧ St w0 (Blk b T (A ++ (l.flatMap enc ++ R)) :: As) w := by
  rcases H.slOpen with ⟨_, rfl, _⟩ | ⟨b, off, cs, rfl, H1, h1, h2, h3, h4⟩
  · simp at hl
  · have hfl := flat_length he l
    have hmul : l.length * sz ≤ sc * sz := Nat.mul_le_mul_right _ h1
    refine ⟨b, off, cs.toList.take off, cs.toList.drop (off + l.length * sz), rfl, by simp; omega, h1, h2, ?_, ?_⟩
    · simp only [List.length_drop, Array.length_toList, Nat.sub_mul]; omega
    · refine H1.head fun h hh => ?_
      have e : cs.toList.take off ++ (l.flatMap enc ++ cs.toList.drop (off + l.length * sz)) = cs.toList := by
        have e1 : (cs.toList.drop off).take (l.length * sz) = l.flatMap enc := by
          apply List.ext_getElem?
          intro i
          by_cases hi : i < l.length * sz
          · rw [List.getElem?_take, if_pos hi, List.getElem?_drop, ← h4 i hi]; simp
          · rw [List.getElem?_eq_none (by simp; omega), List.getElem?_eq_none (by omega)]
        rw [← e1, ← List.drop_drop, List.take_append_drop, List.take_append_drop]
      show h b = _
      rw [e]
      have : h b = some (.cells cs T (0, 0)) := hh
      simpa using this
theorem St.slBack {α : Type} {T : TypeId} {enc : α → List Value} {sz : Nat} {w0 w : World} {As : List HP} {b sc : Nat} {l : List α} {A R : List Value} (H : St w0 (Blk b T (A ++ (l.flatMap enc ++ R)) :: As) w) (he : EncOk enc sz) (h1 : l.length ≤ sc) (h2 : sc ≤ maxLen) (h3 : (sc - l.length) * sz ≤ R.length) :
    St w0 (Sl T enc sz (some ⟨b, A.length, none⟩) sc l :: As) w := by
  have hfl := flat_length he l
  have hmul : l.length * sz ≤ sc * sz := Nat.mul_le_mul_right _ h1
  rw [Nat.sub_mul] at h3
  refine H.head fun h hh => .inr ⟨b, A.length, _, rfl, hh, h1, h2, by simp [hfl]; omega, fun i hi => ?_⟩
  simp only [List.getElem?_toArray]
  rw [List.getElem?_append_right (by omega), Nat.add_sub_cancel_left, List.getElem?_append_left (by rw [hfl]; exact hi)]

end Go.Th
