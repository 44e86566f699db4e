/-
  The engine, part 3: operations that make or write memory; slices that a call owns.
-/
import Derived.Test.YtgchbhnchhiehaaGreatE2
import Derived.Laws.StructEq
set_option linter.unusedVariables false
set_option linter.unusedSimpArgs false
namespace Go.Th

/-! A new object. -/
def runNew (P : Program) {α : Type} : Sem α → List Value → Nat → Option (Obj × α × List Ob)
  | .new o k, orc, r => match runA P (k r) [] with
    | some (v, [], _) => some (o, v, [])
    | _ => none
  | .load _ ad k, orc, r => match orc with
    | [] => none
    | v :: orc => match runNew P (k v) orc r with
      | some (o, x, obs) => some (o, x, .cell ad v :: obs)
      | none => none
  | .program k, orc, r => runNew P (k P) orc r
  | .mark _ k, orc, r => runNew P k orc r
  | _, _, _ => none

theorem runNew_sound (P : Program) (w : World) {α : Type} : ∀ (s : Sem α) (orc : List Value) (o : Obj) (x : α) (obs : List Ob),
    runNew P s orc w.heap.size = some (o, x, obs) → AllOb w obs → s.run P w = .ok x { w with heap := w.heap.push o } := by
  intro s
  induction s with
  | new o k ih =>
    intro orc o' x obs h hob
    simp only [runNew] at h
    split at h
    · rename_i v rest hv
      simp only [Option.some.injEq, Prod.mk.injEq] at h
      obtain ⟨rfl, rfl, rfl⟩ := h
      simp only [Sem.run]
      exact runA_sound P _ _ _ _ _ _ hv trivial
    · cases h
  | load m ad k ih =>
    intro orc o x obs h hob
    cases orc with
    | nil => simp [runNew] at h
    | cons v orc =>
      simp only [runNew] at h
      split at h
      · rename_i o' y obs' hy
        simp only [Option.some.injEq, Prod.mk.injEq] at h
        obtain ⟨rfl, rfl, rfl⟩ := h
        simp only [AllOb, Ob.holds] at hob
        simp only [Sem.run, hob.1]
        exact ih v orc _ _ _ hy hob.2
      · cases h
  | program k ih => intro orc o x obs h hob; simp only [runNew] at h; simp only [Sem.run]; exact ih P orc o x obs h hob
  | mark m k ih => intro orc o x obs h hob; simp only [runNew] at h; simp only [Sem.run]; exact ih orc o x obs h hob
  | _ => intro orc o x obs h; simp [runNew] at h

theorem OpTo.new {P : Program} {n : Nat} {a : Act} {L : Env} {w w0 : World} {As : List HP} {o : Oper} (hE : EnvOk n a L) (H : St w0 As w) (orc : List Value) (ob : Obj) (val : Nat → Value) {obs : List Ob}
    (hok : (!isSelect o.op && okAll L o.op.operands.toList) = true) (he : ∀ r, runNew P (execOp (rho L) o) orc r = some (ob, .value (val r), obs)) (ho : AllOb w obs) :
    OpTo P o a w fun v w' => ∃ r, v = val r ∧ St w0 (One r ob :: As) w' := by
  simp only [Bool.and_eq_true, Bool.not_eq_true'] at hok
  refine OpTo.of_run (w' := { w with heap := w.heap.push ob }) (v := val w.heap.size) ?_ ⟨w.heap.size, rfl, H.alloc ob⟩
  rw [exec_eq hE hok.1 hok.2]
  exact runNew_sound P w _ _ _ _ _ (he w.heap.size) ho

/-! A store into a block. -/
def putAt : List Value → Nat → List Value → List Value
  | cs, _, [] => cs
  | cs, off, v :: vs => putAt (cs.set off v) (off + 1) vs
theorem putAt_length : ∀ (vs cs : List Value) (off : Nat), (putAt cs off vs).length = cs.length
  | [], cs, off => rfl
  | v :: vs, cs, off => by simp [putAt, putAt_length vs]
theorem putAt_eq : ∀ (vs cs : List Value) (off : Nat), off + vs.length ≤ cs.length → putAt cs off vs = cs.take off ++ vs ++ cs.drop (off + vs.length)
  | [], cs, off, _ => by simp [putAt]
  | v :: vs, cs, off, h => by
    simp only [List.length_cons] at h
    rw [putAt, putAt_eq vs _ _ (by simp; omega)]
    have h1 : (cs.set off v).take (off + 1) = cs.take off ++ [v] := by
      apply List.ext_getElem?
      intro i
      simp only [List.getElem?_take, List.getElem?_set, List.getElem?_append, List.length_take]
      by_cases hi : i < off
      · have h1 : i < off + 1 := by omega
        have h2 : i < min off cs.length := by omega
        have h3 : ¬ off = i := by omega
        simp [hi, h1, h2, h3]
      · by_cases h2 : i = off
        · subst h2
          have h3 : ¬ i < min i cs.length := by omega
          have h4 : i - min i cs.length = 0 := by omega
          have h5 : i < cs.length := by omega
          simp [h3, h4, h5]
        · have h3 : ¬ i < off + 1 := by omega
          have h4 : ¬ i < min off cs.length := by omega
          have h5 : ([v] : List Value)[i - min off cs.length]? = none := by simp; omega
          simp [h3, h4, h5]
    rw [h1, List.drop_set]
    have : ¬ off ≥ off + 1 + vs.length := by omega
    simp [List.append_assoc, Nat.add_assoc, Nat.add_comm 1]

def oneB : Value → Bool
  | .agg _ => false
  | .tuple _ => false
  | _ => true
theorem oneB_spec {v : Value} (h : oneB v = true) : v.oneCell' = true := by cases v <;> simp_all [oneB, Value.oneCell']
def allOne : List Value → Bool
  | [] => true
  | v :: r => oneB v && allOne r
theorem allOne_spec : ∀ {l : List Value}, allOne l = true → ∀ v ∈ l, v.oneCell' = true
  | [], _, v, hv => by cases hv
  | u :: r, h, v, hv => by
    simp only [allOne, Bool.and_eq_true] at h
    cases hv with
    | head => exact oneB_spec h.1
    | tail _ hm => exact allOne_spec h.2 v hm

def storeParts : Op → Option (TypeId × Operand × Operand)
  | .store t x y => some (t, x, y)
  | _ => none

theorem run_store_at {P : Program} {w : World} {b off : Nat} {T t : TypeId} {cs : List Value} {v : Value} {ti : TypeInfo} (hb : w.heap[b]? = some (.cells cs.toArray T (0, 0)))
    (hi : P.info? t = some ti) (hs : ti.size = v.cells.size) (h1 : allOne v.cells.toList = true) (hfit : off + v.cells.size ≤ cs.length) :
    (Instr.storeAt t (.pointer (some ⟨b, off, none⟩)) v).run P w = .ok () (w.setRow b (putAt cs off v.cells.toList).toArray) := by
  have hst := run_storeCells_at P b off T v.cells.toList 0 cs.toArray w hb (by simpa using hfit) (allOne_spec h1)
  rw [putAt_eq _ _ _ (by simpa using hfit)]
  simp only [Nat.add_zero] at hst
  simp [Instr.storeAt, Instr.sureAddr, storeVar, run_size P hi, hs]
  simpa using hst

theorem OpTo.store {P : Program} {n : Nat} {a : Act} {L : Env} {w w0 : World} {As : List HP} {o : Oper} {b off : Nat} {T t : TypeId} {cs : List Value} {x y : Operand} {v : Value} {ti : TypeInfo} (hE : EnvOk n a L) (H : St w0 (Blk b T cs :: As) w)
    (ho : storeParts o.op = some (t, x, y)) (hx : evO L x = some (.pointer (some ⟨b, off, none⟩))) (hy : evO L y = some v) (hi : P.info? t = some ti) (hs : ti.size = v.cells.size) (h1 : allOne v.cells.toList = true)
    (hfit : off + v.cells.size ≤ cs.length) : OpTo P o a w fun _ w' => St w0 (Blk b T (putAt cs off v.cells.toList) :: As) w' := by
  obtain ⟨dst, op, type, pos, after, guard⟩ := o
  cases op <;> simp only [storeParts] at ho <;> try cases ho
  have hb := H.one 0 rfl
  refine OpTo.of_skip (w' := w.setRow b (putAt cs off v.cells.toList).toArray) ?_ ?_
  · simp [execOp, hE.eval hx, hE.eval hy, run_store_at hb hi hs h1 hfit]
  · exact H.set (by simp) (by simp) (by simp) (setRow_heap w b _ _ T (0, 0) hb) (fun c hc => setRow_other w b c _ hc)

/-! Slices that a call owns: the elements l, each sz cells by enc. -/
structure EncOk {α : Type} (enc : α → List Value) (sz : Nat) : Prop where
  len : ∀ x, (enc x).length = sz
  one : ∀ x u, u ∈ enc x → u.oneCell' = true

def Sl {α : Type} (T : TypeId) (enc : α → List Value) (sz : Nat) (sb : Option Addr) (sc : Nat) (l : List α) : HP := fun h =>
  (sb = none ∧ l = [] ∧ sc = 0) ∨ ∃ b off cs, sb = some ⟨b, off, none⟩ ∧ h b = some (.cells cs T (0, 0)) ∧ l.length ≤ sc ∧ sc ≤ maxLen ∧ off + sc * sz ≤ cs.size ∧
    ∀ i, i < l.length * sz → cs[off + i]? = (l.flatMap enc)[i]?

theorem flat_length {α : Type} {enc : α → List Value} {sz : Nat} (he : EncOk enc sz) : ∀ l : List α, (l.flatMap enc).length = l.length * sz
  | [] => by simp
  | x :: l => by simp only [List.flatMap_cons, List.length_append, he.len, flat_length he l, List.length_cons, Nat.succ_mul]; omega
theorem flat_get {α : Type} {enc : α → List Value} {sz : Nat} (he : EncOk enc sz) : ∀ (l : List α) (j q : Nat) (hj : j < l.length), q < sz → (l.flatMap enc)[j * sz + q]? = (enc l[j])[q]?
  | [], j, q, hj, hq => by simp at hj
  | x :: l, 0, q, hj, hq => by
    simp only [List.flatMap_cons, Nat.zero_mul, Nat.zero_add, List.getElem_cons_zero]
    rw [List.getElem?_append_left (by rw [he.len]; exact hq)]
  | x :: l, j + 1, q, hj, hq => by
    simp only [List.flatMap_cons, List.getElem_cons_succ]
    rw [List.getElem?_append_right (by rw [he.len, Nat.succ_mul]; omega), he.len]
    have e : (j + 1) * sz + q - sz = j * sz + q := by rw [Nat.succ_mul]; omega
    rw [e]
    exact flat_get he l j q (by simpa using hj) hq
theorem flat_one {α : Type} {enc : α → List Value} {sz : Nat} (he : EncOk enc sz) (l : List α) : ∀ u ∈ l.flatMap enc, u.oneCell' = true := by
  intro u hu
  obtain ⟨x, _, hx⟩ := List.mem_flatMap.1 hu
  exact he.one x u hx

section
variable {α : Type} {T : TypeId} {enc : α → List Value} {sz : Nat} {w0 w : World} {As : List HP}

theorem St.slNil (T : TypeId) (enc : α → List Value) (sz : Nat) (H : St w0 As w) : St w0 (Sl T enc sz none 0 [] :: As) w :=
  ⟨H.os, H.tape, H.output, fun _ => none, hpOf w, fun _ => .inl rfl, fun _ _ h => by simp at h, Sub.refl _, .inl ⟨rfl, rfl, rfl⟩, H.heap⟩

/-- An element's cells. -/
theorem St.slGet (H : St w0 As w) (i : Nat) {sb : Option Addr} {sc : Nat} {l : List α} (hi : As[i]? = some (Sl T enc sz sb sc l)) (he : EncOk enc sz) (hl : 0 < l.length) :
    ∃ b off, sb = some ⟨b, off, none⟩ ∧ ∀ j q v, j < l.length → q < sz → (∀ hj : j < l.length, (enc l[j])[q]? = some v) → w.cell? ⟨b, off + j * sz + q, none⟩ = some v := by
  obtain ⟨h1, hs, h⟩ := H.at i hi
  rcases h with ⟨_, rfl, _⟩ | ⟨b, off, cs, rfl, hb, h2, _, h3, h4⟩
  · simp at hl
  · refine ⟨b, off, rfl, fun j q v hj hq hv => ?_⟩
    have hb' := hs _ _ hb
    simp only [hpOf] at hb'
    have hlt : j * sz + q < l.length * sz := by
      have : (j + 1) * sz ≤ l.length * sz := Nat.mul_le_mul_right _ hj
      rw [Nat.succ_mul] at this; omega
    have e := h4 (j * sz + q) hlt
    rw [flat_get he l j q hj hq, hv hj] at e
    simp only [World.cell?, hb', Option.isSome_none, Bool.false_eq_true, if_false]
    rw [Nat.add_assoc]; exact e
theorem St.slCap (H : St w0 As w) (i : Nat) {sb : Option Addr} {sc : Nat} {l : List α} (hi : As[i]? = some (Sl T enc sz sb sc l)) : l.length ≤ sc ∧ sc ≤ maxLen := by
  obtain ⟨h1, hs, h⟩ := H.at i hi
  rcases h with ⟨_, rfl, rfl⟩ | ⟨b, off, cs, rfl, hb, h2, h5, h3, h4⟩
  · simp
  · exact ⟨h2, h5⟩
theorem St.slNone (H : St w0 As w) (i : Nat) {sc : Nat} {l : List α} (hi : As[i]? = some (Sl T enc sz none sc l)) : l = [] := by
  obtain ⟨h1, hs, h⟩ := H.at i hi
  rcases h with ⟨_, rfl, rfl⟩ | ⟨b, off, cs, hsb, _⟩
  · rfl
  · cases hsb

/-- Cut at both ends. -/
theorem St.slCut {sb : Option Addr} {sc : Nat} {l : List α} (H : St w0 (Sl T enc sz sb sc l :: As) w) (he : EncOk enc sz) (lo hi : Nat) (h1 : lo ≤ hi) (h2 : hi ≤ l.length) :
    St w0 (Sl T enc sz (rebase sb sc lo sz) (sc - lo) ((l.take hi).drop lo) :: As) w := by
  refine H.head fun h hh => ?_
  rcases hh with ⟨rfl, rfl, rfl⟩ | ⟨b, off, cs, rfl, hb, h3, h5, h4, h6⟩
  · simp at h2; subst h2
    have : lo = 0 := by omega
    subst this
    left; simp [rebase]
  · right
    have hlen : ((l.take hi).drop lo).length = hi - lo := by simp [Nat.min_eq_left h2]
    have key : ∀ i, i < (hi - lo) * sz → (((l.take hi).drop lo).flatMap enc)[i]? = (l.flatMap enc)[lo * sz + i]? := by
      intro i hi'
      have hsz : 0 < sz := by
        rcases Nat.eq_zero_or_pos sz with h | h
        · subst h; simp at hi'
        · exact h
      have hj : i / sz < hi - lo := Nat.div_lt_of_lt_mul (by rw [Nat.mul_comm]; exact hi')
      have hq : i % sz < sz := Nat.mod_lt _ hsz
      have hi2 : i = (i / sz) * sz + i % sz := by rw [Nat.mul_comm]; exact (Nat.div_add_mod i sz).symm
      have e1 := flat_get he ((l.take hi).drop lo) (i / sz) (i % sz) (by rw [hlen]; exact hj) hq
      have e2 := flat_get he l (lo + i / sz) (i % sz) (by omega) hq
      have e3 : ((l.take hi).drop lo)[i / sz]'(by rw [hlen]; exact hj) = l[lo + i / sz]'(by omega) := by simp
      rw [e3] at e1
      rw [← hi2] at e1
      have e4 : (lo + i / sz) * sz + i % sz = lo * sz + i := by rw [Nat.add_mul]; omega
      rw [e4] at e2
      rw [e1, e2]
    by_cases hc : sc = lo
    · subst hc
      refine ⟨b, off, cs, by simp [rebase], hb, by rw [hlen]; omega, by omega, by simp; omega, fun i hi' => ?_⟩
      rw [hlen] at hi'
      have : hi - sc = 0 := by omega
      rw [this] at hi'; simp at hi'
    · refine ⟨b, off + lo * sz, cs, by simp [rebase, hc, addr_add], hb, by rw [hlen]; omega, by omega, ?_, fun i hi' => ?_⟩
      · have : (sc - lo) * sz = sc * sz - lo * sz := Nat.sub_mul _ _ _
        have h7 : lo * sz ≤ sc * sz := Nat.mul_le_mul_right _ (by omega)
        omega
      · rw [hlen] at hi'
        rw [key i hi', Nat.add_assoc]
        refine h6 _ ?_
        have h7 : lo * sz + (hi - lo) * sz = hi * sz := by rw [← Nat.add_mul]; congr 1; omega
        have h8 : hi * sz ≤ l.length * sz := Nat.mul_le_mul_right _ h2
        omega

/-- A block of its own, as a slice. -/
theorem St.slOf {b : Nat} {cs : Array Value} {l : List α} {sc : Nat} (H : St w0 (One b (.cells cs T (0, 0)) :: As) w) (he : EncOk enc sz) (h1 : l.length ≤ sc) (h2 : sc ≤ maxLen) (h3 : sc * sz ≤ cs.size)
    (h4 : ∀ i, i < l.length * sz → cs[i]? = (l.flatMap enc)[i]?) : St w0 (Sl T enc sz (some ⟨b, 0, none⟩) sc l :: As) w :=
  H.head fun h hh => .inr ⟨b, 0, cs, rfl, hh, h1, h2, by omega, fun i hi => by rw [Nat.zero_add]; exact h4 i hi⟩
end

theorem St.slOpen {α : Type} {T : TypeId} {enc : α → List Value} {sz : Nat} {w0 w : World} {As : List HP} {sb : Option Addr} {sc : Nat} {l : List α} (H : St w0 (Sl T enc sz sb sc l :: As) w) :
    (sb = none ∧ l = [] ∧ sc = 0) ∨ ∃ b off cs, sb = some ⟨b, off, none⟩ ∧ St w0 (One b (.cells cs T (0, 0)) :: As) w ∧ l.length ≤ sc ∧ sc ≤ maxLen ∧ off + sc * sz ≤ cs.size ∧
    ∀ i, i < l.length * sz → cs[off + i]? = (l.flatMap enc)[i]? := by
  obtain ⟨h1, h2, hd, s1, s2, hA, hL⟩ := H.heap
  rcases hA with h | ⟨b, off, cs, e1, e2, rest⟩
  · exact .inl h
  · exact .inr ⟨b, off, cs, e1, ⟨H.os, H.tape, H.output, h1, h2, hd, s1, s2, e2, hL⟩, rest⟩

/-! append -/
def Rd (w : World) (xb : Option Addr) (news : List Value) : Prop := news = [] ∨ ∃ xa, xb = some xa ∧ ∀ j u, news[j]? = some u → w.cell? (xa.add j) = some u

theorem rd_first {P : Program} {w : World} {xb : Option Addr} {news : List Value} {size m len cap : Nat} (h : Rd w xb news) (hl : news.length = m * size) :
    (Builtin.firstCells size m (.slice xb len cap)).run P w = .ok news.toArray w := by
  rcases h with rfl | ⟨xa, rfl, h⟩
  · cases xb with
    | none => exact run_firstCells_none (P := P) (w := w) size m len cap
    | some a => exact run_firstCells_some (P := P) w size m a len cap [] hl (by simp)
  · exact run_firstCells_some (P := P) w size m xa len cap news hl h

section
variable {α : Type} {T : TypeId} {enc : α → List Value} {sz : Nat} {w0 w : World} {As : List HP} {P : Program}

theorem run_append_sl {t u ty : TypeId} {d : TypeId} {ti : TypeInfo} {sb xb : Option Addr} {sc xc m : Nat} {l ys : List α} (H : St w0 (Sl T enc sz sb sc l :: As) w) (he : EncOk enc sz)
    (ht : P.underlying t = some (.slice T)) (hu : P.underlying u = some (.slice d)) (hi : P.info? T = some ti) (hsz : ti.size = sz) {z : Value} (hz : ti.zero = some z) (hzs : z.cells.size = sz)
    (hm : m = ys.length) (hr : Rd w xb (ys.flatMap enc)) (hmax : l.length + ys.length ≤ maxLen) (hby : (l.length + ys.length) * ti.bytes ≤ 140737488355328) :
    ∃ sb' sc' w', (Builtin.append_ #[t, u] ty #[.slice sb l.length sc, .slice xb m xc]).run P w = .ok (.slice sb' (l ++ ys).length sc') w' ∧ St w0 (Sl T enc sz sb' sc' (l ++ ys) :: As) w' := by
  subst hm
  have hnl : (ys.flatMap enc).length = ys.length * sz := flat_length he ys
  have hll : (l.flatMap enc).length = l.length * sz := flat_length he l
  have hap : (l ++ ys).flatMap enc = l.flatMap enc ++ ys.flatMap enc := by simp
  have h63 : ¬ (9223372036854775807 < ((l.length : Int) + (ys.length : Int))) := by simp only [maxLen] at hmax; omega
  by_cases hroom : l.length + ys.length ≤ sc
  · rcases H.slOpen with ⟨rfl, rfl, rfl⟩ | ⟨b, off, cs, rfl, H1, h1, h2, h3, h4⟩
    · have hy : ys = [] := List.eq_nil_of_length_eq_zero (by simpa using hroom)
      subst hy
      refine ⟨none, 0, w, ?_, H⟩
      have hf := rd_first (P := P) (size := ti.size) (m := 0) (len := 0) (cap := xc) hr (by simp)
      simp only [List.flatMap_nil] at hf
      simp [Builtin.append_, run_und P ht, run_und P hu, sizeOf, typeInfo, hi, Builtin.lenOf, hf]
    · have hb := H1.one 0 rfl
      have hfit : off + l.length * sz + 0 + (ys.flatMap enc).length ≤ cs.size := by
        rw [hnl]
        have : (l.length + ys.length) * sz ≤ sc * sz := Nat.mul_le_mul_right _ hroom
        rw [Nat.add_mul] at this
        omega
      have hst := run_storeCells_at P b (off + l.length * sz) T (ys.flatMap enc) 0 cs w hb hfit (flat_one he ys)
      simp only [Nat.add_zero] at hst hfit
      have hfit2 := hfit
      rw [hnl] at hfit2
      refine ⟨some ⟨b, off, none⟩, sc, w.setRow b (cs.toList.take (off + l.length * sz) ++ ys.flatMap enc ++ cs.toList.drop (off + l.length * sz + (ys.flatMap enc).length)).toArray, ?_, ?_⟩
      · have hf := rd_first (P := P) (size := ti.size) (m := ys.length) (len := ys.length) (cap := xc) hr (by rw [hnl, hsz])
        have hst' : (storeCells ((⟨b, off, none⟩ : Addr).add (l.length * ti.size)) (ys.flatMap enc) 0).run P w = .ok () (w.setRow b (cs.toList.take (off + l.length * sz) ++ ys.flatMap enc ++ cs.toList.drop (off + l.length * sz + (ys.flatMap enc).length)).toArray) := by
          rw [addr_add, hsz]; exact hst
        simp [Builtin.append_, run_und P ht, run_und P hu, sizeOf, typeInfo, hi, Builtin.lenOf, hroom, hf, hst']
      · have H2 := H1.set (o' := .cells (cs.toList.take (off + l.length * sz) ++ ys.flatMap enc ++ cs.toList.drop (off + l.length * sz + (ys.flatMap enc).length)).toArray T (0, 0)) (setRow_os _ _ _) (setRow_tape _ _ _) (setRow_output _ _ _) (setRow_heap w b cs _ T (0, 0) hb) (fun c hc => setRow_other w b c _ hc)
        refine H2.head fun h hh => .inr ⟨b, off, _, rfl, hh, by simpa using hroom, h2, ?_, ?_⟩
        · simp only [List.size_toArray, List.length_append, List.length_take, List.length_drop, Array.length_toList]; omega
        · intro i hi'
          simp only [List.length_append, Nat.add_mul] at hi'
          rw [hap]
          simp only [List.getElem?_toArray]
          by_cases hlt : i < l.length * sz
          · rw [List.append_assoc, List.getElem?_append_left (by simp only [List.length_take, Array.length_toList]; omega), List.getElem?_take, if_pos (by omega), List.getElem?_append_left (by rw [hll]; exact hlt)]
            rw [← h4 i hlt]; simp
          · rw [List.getElem?_append_left (by simp only [List.length_append, List.length_take, Array.length_toList, hnl]; omega), List.getElem?_append_right (by simp only [List.length_take, Array.length_toList]; omega), List.getElem?_append_right (by rw [hll]; omega)]
            congr 1
            simp only [List.length_take, Array.length_toList, hll]; omega
  · have hpos : 0 < ys.length := by
      have := (H.slCap 0 rfl).1; omega
    have h48 : ¬ (281474976710656 < Builtin.nextslicecap (l.length + ys.length) sc * ti.bytes) := by
      have := growslice_fits (need := l.length + ys.length) (old := sc) (by omega) hby
      omega
    have hge := grownCap_ge w (l.length + ys.length) sc T
    have hcm := grownCap_le_maxLen w (l.length + ys.length) sc T hmax
    have hr' : Rd w.drew xb (ys.flatMap enc) := by
      rcases hr with h | ⟨xa, h1, h2⟩
      · exact .inl h
      · exact .inr ⟨xa, h1, by simpa using h2⟩
    have hf := rd_first (P := P) (size := ti.size) (m := ys.length) (len := ys.length) (cap := xc) hr' (by rw [hnl, hsz])
    have hfo : (Builtin.firstCells ti.size l.length (.slice sb l.length sc)).run P w.drew = .ok (l.flatMap enc).toArray w.drew := by
      refine rd_first ?_ (by rw [hll, hsz])
      rcases H.slOpen with ⟨_, rfl, _⟩ | ⟨b, off, cs, rfl, H1, h1, h2, h3, h4⟩
      · exact .inl rfl
      · refine .inr ⟨_, rfl, fun j u hj => ?_⟩
        have hjl := (List.getElem?_eq_some_iff.1 hj).1
        rw [hll] at hjl
        have := h4 j hjl
        rw [hj] at this
        have h1' : w.drew.heap[b]? = some (.cells cs T (0, 0)) := H1.one 0 rfl
        simp [World.cell?, addr_add, h1', this]
    refine ⟨some ⟨w.heap.size, 0, none⟩, grownCap w (l.length + ys.length) sc T, w.drew.alloc (.cells ((l.flatMap enc).toArray ++ (ys.flatMap enc).toArray ++ Builtin.zeroCells z.cells (grownCap w (l.length + ys.length) sc T - (l.length + ys.length))) T), ?_, ?_⟩
    · have hn : ¬ (l.length + ys.length ≤ sc) := hroom
      simp [Builtin.append_, run_und P ht, run_und P hu, sizeOf, typeInfo, zeroValue, hi, hz, Builtin.lenOf, hn, h63, h48, Question.forced, hf, hfo, newRow, grownCap]
      congr 2
      apply Array.ext'
      simp [List.append_assoc]
    · have H2 := (H.drop.drew).alloc (.cells ((l.flatMap enc).toArray ++ (ys.flatMap enc).toArray ++ Builtin.zeroCells z.cells (grownCap w (l.length + ys.length) sc T - (l.length + ys.length))) T (0, 0))
      refine St.slOf (b := w.heap.size) H2 he (by simpa using hge) hcm ?_ ?_
      · simp only [Array.size_append, List.size_toArray, size_zeroCells, hzs, hnl, hll, ← Nat.add_mul]
        refine Nat.mul_le_mul_right _ ?_
        omega
      · intro i hi'
        simp only [List.length_append, Nat.add_mul] at hi'
        rw [hap]
        rw [Array.getElem?_append_left (by simp only [Array.size_append, List.size_toArray, hnl, hll]; omega)]
        simp

theorem OpTo.append {n : Nat} {a : Act} {L : Env} {o : Oper} {x y : Operand} {t u : TypeId} {d : TypeId} {ti : TypeInfo} {sb xb : Option Addr} {sc xc m : Nat} {l : List α} (ys : List α) (hE : EnvOk n a L) (H : St w0 (Sl T enc sz sb sc l :: As) w) (he : EncOk enc sz)
    (ho : o.op = .call { callee := .builtin .append, args := #[x, y], argTypes := #[t, u] }) (hx : evO L x = some (.slice sb l.length sc)) (hy : evO L y = some (.slice xb m xc))
    (ht : P.underlying t = some (.slice T)) (hu : P.underlying u = some (.slice d)) (hi : P.info? T = some ti) (hsz : ti.size = sz) {z : Value} (hz : ti.zero = some z) (hzs : z.cells.size = sz)
    (hm : m = ys.length) (hr : Rd w xb (ys.flatMap enc)) (hmax : l.length + ys.length ≤ maxLen) (hby : (l.length + ys.length) * ti.bytes ≤ 140737488355328) :
    OpTo P o a w fun v w' => ∃ sb' sc', v = .slice sb' (l ++ ys).length sc' ∧ St w0 (Sl T enc sz sb' sc' (l ++ ys) :: As) w' := by
  obtain ⟨dst, op, type, pos, after, guard⟩ := o
  simp only at ho
  subst ho
  obtain ⟨sb', sc', w', hrun, H'⟩ := run_append_sl (P := P) (ty := type) (xc := xc) H he ht hu hi hsz hz hzs hm hr hmax hby
  refine OpTo.of_run ?_ ⟨sb', sc', rfl, H'⟩
  simp [execOp, resolve, invoke, builtin, hE.eval hx, hE.eval hy, hrun]
end


/-! Words for printed proofs. -/
def w64 (x : Int) : Int := IntKind.i64.wrap x
def mIdx {α : Type} (l : List α) (i : Int) : Option α := if 0 ≤ i then l[i.toNat]? else none
def mSet {α : Type} (l : List α) (i : Int) (x : α) : List α := l.set i.toNat x
/-- A slice grows only so far. -/
def mApp {α : Type} (l ys : List α) : Option (List α) := if l.length + ys.length ≤ 1073741824 then some (l ++ ys) else none
/-- l[lo:hi] -/
def mCut {α : Type} (l : List α) (lo hi : Int) : Option (List α) := if 0 ≤ lo ∧ lo ≤ hi ∧ hi ≤ l.length then some ((l.take hi.toNat).drop lo.toNat) else none
def ecI (x : Int) : List Value := [.int .i64 x]
theorem ecI_ok : EncOk ecI 1 := ⟨fun _ => rfl, fun x u hu => by simp [ecI] at hu; subst hu; rfl⟩

theorem idx_spec {α : Type} {l : List α} {i : Int} {x : α} (h : mIdx l i = some x) : (0 ≤ i ∧ i < (l.length : Int)) ∧ l[i.toNat]? = some x := by
  unfold mIdx at h
  split at h
  · rename_i h0
    refine ⟨⟨h0, ?_⟩, h⟩
    have := (List.getElem?_eq_some_iff.1 h).1
    omega
  · cases h
theorem app_spec {α : Type} {l ys r : List α} (h : mApp l ys = some r) : r = l ++ ys ∧ l.length + ys.length ≤ 1073741824 := by
  unfold mApp at h
  split at h
  · cases h; exact ⟨rfl, by assumption⟩
  · cases h
theorem cut_spec {α : Type} {l r : List α} {lo hi : Int} (h : mCut l lo hi = some r) : (0 ≤ lo ∧ lo ≤ hi ∧ hi ≤ l.length) ∧ r = (l.take hi.toNat).drop lo.toNat := by
  unfold mCut at h
  split at h
  · cases h; exact ⟨by assumption, rfl⟩
  · cases h
theorem mSet_len {α : Type} (l : List α) (i : Int) (x : α) : (mSet l i x).length = l.length := by simp [mSet]
theorem bind_some {α β : Type} {x : Option α} {f : α → Option β} {r : β} (h : x.bind f = some r) : ∃ y, x = some y ∧ f y = some r := by
  cases x with
  | none => cases h
  | some y => exact ⟨y, rfl, h⟩
theorem cond_t {α : Type} {b : Bool} {x y z : α} (c : b = true) (h : cond b x y = z) : x = z := by subst c; exact h
theorem cond_f {α : Type} {b : Bool} {x y z : α} (c : b = false) (h : cond b x y = z) : y = z := by subst c; exact h
theorem EnvOk.sel {n : Nat} {a : Act} {L Lo : Env} (hE : EnvOk n a L) (ks : List Nat) (h : Th.sel ks L = some Lo) : EnvOk n a Lo := sel_sound hE h
theorem Runs.join {P : Program} {f : FuncId} {c : Code} {k : List Item} {a : Act} {w : World} {R : Value → World → Prop} (J : Act → World → Prop)
    (h1 : (∀ a w, J a w → Runs P f k a w R) → Runs P f (.code c :: k) a w R) (h2 : ∀ a w, J a w → Runs P f k a w R) : Runs P f (.code c :: k) a w R := h1 h2

/-- Some of the first parts, the others dropped. -/
theorem St.pk {w0 w : World} {As : List HP} (H : St w0 As w) (is os : List Nat) (h : permB (is ++ os) (As.take (is ++ os).length).length = true) :
    St w0 (reidx is (As.take (is ++ os).length) ++ As.drop (is ++ os).length) w := by
  have H2 := H.ix (is ++ os) h
  have e : ∀ (a b : List Nat) (L : List HP), reidx (a ++ b) L = reidx a L ++ reidx b L := fun a b L => by simp [reidx_eq]
  rw [e, List.append_assoc] at H2
  have H3 : St w0 (reidx os (As.take (is ++ os).length) ++ (reidx is (As.take (is ++ os).length) ++ As.drop (is ++ os).length)) w := by
    refine H2.perm ?_
    rw [← List.append_assoc, ← List.append_assoc]
    exact List.Perm.append_right _ List.perm_append_comm
  generalize reidx os (As.take (is ++ os).length) = O at H3
  induction O with
  | nil => exact H3
  | cons A O ih => exact ih H3.drop

section
variable {α : Type} {T : TypeId} {enc : α → List Value} {sz : Nat} {w0 w : World} {As : List HP} {P : Program}

/-- The cells of an element that a model's 'idx' gives. -/
theorem St.slIdx (H : St w0 As w) (i : Nat) {sb : Option Addr} {sc : Nat} {l : List α} (hi : As[i]? = some (Sl T enc sz sb sc l)) (he : EncOk enc sz) {iv : Int} {x : α} (hx : mIdx l iv = some x) :
    ∃ b off, sb = some ⟨b, off, none⟩ ∧ (0 ≤ iv ∧ iv < (l.length : Int)) ∧ ∀ q v, (enc x)[q]? = some v → w.cell? ⟨b, off + iv.toNat * sz + q, none⟩ = some v := by
  obtain ⟨hb, hg⟩ := idx_spec hx
  have hlt := (List.getElem?_eq_some_iff.1 hg).1
  obtain ⟨b, off, e, hc⟩ := H.slGet i hi he (by omega)
  refine ⟨b, off, e, hb, fun q v hv => hc _ q v hlt ?_ fun hj => ?_⟩
  · have := (List.getElem?_eq_some_iff.1 hv).1
    rw [he.len] at this; exact this
  · have := (List.getElem?_eq_some_iff.1 hg).2
    rw [this]; exact hv

theorem flat_set {x' : α} (he : EncOk enc sz) : ∀ (l : List α) (j : Nat) (q : Nat) (vs : List Value), (hj : j < l.length) → enc x' = putAt (enc l[j]) q vs → q + vs.length ≤ sz →
    (l.set j x').flatMap enc = putAt (l.flatMap enc) (j * sz + q) vs
  | [], j, q, vs, hj, h, hq => by simp at hj
  | x :: l, 0, q, vs, hj, h, hq => by
    simp only [List.getElem_cons_zero] at h
    simp only [List.set_cons_zero, List.flatMap_cons, Nat.zero_mul, Nat.zero_add]
    rw [h, putAt_eq _ _ _ (by rw [he.len]; omega), putAt_eq _ _ _ (by rw [List.length_append, he.len]; omega)]
    rw [List.take_append_of_le_length (by rw [he.len]; omega), List.drop_append_of_le_length (by rw [he.len]; omega)]
    simp [List.append_assoc]
  | x :: l, j + 1, q, vs, hj, h, hq => by
    simp only [List.getElem_cons_succ] at h
    simp only [List.set_cons_succ, List.flatMap_cons]
    have hj' : j < l.length := by simpa using hj
    rw [flat_set he l j q vs hj' h hq]
    have hl : (l.flatMap enc).length = l.length * sz := flat_length he l
    have hlt : (j + 1) * sz ≤ l.length * sz := Nat.mul_le_mul_right _ hj'
    rw [Nat.succ_mul] at hlt
    have e : (j + 1) * sz + q = (enc x).length + (j * sz + q) := by rw [he.len, Nat.succ_mul]; omega
    rw [putAt_eq _ _ _ (by rw [hl]; omega), e, putAt_eq _ _ _ (by rw [List.length_append, hl, Nat.add_assoc]; omega)]
    rw [List.take_append, List.drop_append]
    have e1 : (enc x).length + (j * sz + q) - (enc x).length = j * sz + q := by omega
    have e2 : (enc x).length + (j * sz + q) + vs.length - (enc x).length = j * sz + q + vs.length := by omega
    rw [e1, e2, List.take_of_length_le (l := enc x) (by omega), List.drop_of_length_le (l := enc x) (by omega)]
    simp [List.append_assoc]

theorem OpTo.storeSl {n : Nat} {a : Act} {L : Env} {o : Oper} {b off q : Nat} {t : TypeId} {sb : Option Addr} {sc : Nat} {l : List α} {iv : Int} {x x' : α} {ax ay : Operand} {v : Value} {ti : TypeInfo} (hE : EnvOk n a L) (H : St w0 (Sl T enc sz sb sc l :: As) w) (he : EncOk enc sz)
    (ho : storeParts o.op = some (t, ax, ay)) (hsb : sb = some ⟨b, off, none⟩) (hidx : mIdx l iv = some x) (hx : evO L ax = some (.pointer (some ⟨b, off + iv.toNat * sz + q, none⟩))) (hy : evO L ay = some v) (hi : P.info? t = some ti) (hs : ti.size = v.cells.size) (h1 : allOne v.cells.toList = true)
    (hq : q + v.cells.size ≤ sz) (hx' : enc x' = putAt (enc x) q v.cells.toList) : OpTo P o a w fun _ w' => St w0 (Sl T enc sz sb sc (mSet l iv x') :: As) w' := by
  subst hsb
  obtain ⟨hb, hg⟩ := idx_spec hidx
  obtain ⟨hlt, hge⟩ := List.getElem?_eq_some_iff.1 hg
  rcases H.slOpen with ⟨h, _⟩ | ⟨b', off', cs, e, H1, h3, h4, h5, h6⟩
  · cases h
  · cases e
    have hmul : (iv.toNat + 1) * sz ≤ l.length * sz := Nat.mul_le_mul_right _ hlt
    have hmul2 : l.length * sz ≤ sc * sz := Nat.mul_le_mul_right _ h3
    rw [Nat.succ_mul] at hmul
    have hblk : St w0 (Blk b T cs.toList :: As) w := by simpa [Blk] using H1
    have hst := OpTo.store (P := P) (o := o) (b := b) (off := off + iv.toNat * sz + q) (cs := cs.toList) hE hblk ho hx hy hi hs h1 (by simp; omega)
    refine hst.mono fun u w' H2 => ?_
    refine H2.head fun h hh => .inr ⟨b, off, _, rfl, hh, by simpa [mSet] using h3, h4, by simp [putAt_length]; omega, fun i hi' => ?_⟩
    have hlen : (mSet l iv x').length = l.length := by simp [mSet]
    rw [hlen] at hi'
    have hvs : v.cells.toList.length = v.cells.size := by simp
    have hfl := flat_set he l iv.toNat q v.cells.toList hlt (by rw [hge]; exact hx') (by rw [hvs]; exact hq)
    have hll : (l.flatMap enc).length = l.length * sz := flat_length he l
    unfold mSet
    rw [hfl]
    simp only [List.getElem?_toArray]
    rw [putAt_eq _ _ _ (by simp; omega), putAt_eq _ _ _ (by rw [hll, hvs]; omega)]
    have hcs : ∀ j, j < l.length * sz → cs.toList[off + j]? = (l.flatMap enc)[j]? := fun j hj => by rw [← h6 j hj]; simp
    have hcl : cs.toList.length = cs.size := by simp
    by_cases c1 : i < iv.toNat * sz + q
    · rw [List.append_assoc, List.append_assoc, List.getElem?_append_left (by rw [List.length_take]; omega), List.getElem?_append_left (by rw [List.length_take]; omega), List.getElem?_take, List.getElem?_take, if_pos (by omega), if_pos c1]
      exact hcs i hi'
    · by_cases c2 : i < iv.toNat * sz + q + v.cells.size
      · rw [List.getElem?_append_left (by simp only [List.length_append, List.length_take, hvs]; omega), List.getElem?_append_right (by rw [List.length_take]; omega),
          List.getElem?_append_left (by simp only [List.length_append, List.length_take, hvs]; omega), List.getElem?_append_right (by rw [List.length_take]; omega)]
        congr 1
        rw [List.length_take, List.length_take]; omega
      · rw [List.getElem?_append_right (by simp only [List.length_append, List.length_take, hvs]; omega), List.getElem?_append_right (by simp only [List.length_append, List.length_take, hvs]; omega), List.getElem?_drop, List.getElem?_drop]
        have e1 : off + iv.toNat * sz + q + v.cells.toList.length + (off + i - (List.take (off + iv.toNat * sz + q) cs.toList ++ v.cells.toList).length) = off + i := by
          simp only [List.length_append, List.length_take, hvs]; omega
        have e2 : iv.toNat * sz + q + v.cells.toList.length + (i - (List.take (iv.toNat * sz + q) (l.flatMap enc) ++ v.cells.toList).length) = i := by
          simp only [List.length_append, List.length_take, hvs]; omega
        rw [e1, e2]
        exact hcs i hi'
end

/-! Readers: a part that tells what a slice holds, whoever owns it. -/
def SlRd {α : Type} (X : HP) (enc : α → List Value) (sz : Nat) (sb : Option Addr) (l : List α) : Prop :=
  ∀ h, X h → l = [] ∨ ∃ b off cs T fr, sb = some ⟨b, off, none⟩ ∧ h b = some (.cells cs T fr) ∧ ∀ i, i < l.length * sz → cs[off + i]? = (l.flatMap enc)[i]?

section
variable {α : Type} {T : TypeId} {enc : α → List Value} {sz : Nat} {w0 w : World} {As : List HP} {P : Program}
theorem sl_rd (T : TypeId) (enc : α → List Value) (sz : Nat) (sb : Option Addr) (sc : Nat) (l : List α) : SlRd (Sl T enc sz sb sc l) enc sz sb l := by
  rintro h (⟨_, hl, _⟩ | ⟨b, off, cs, e, hb, _, _, _, hc⟩)
  · exact .inl hl
  · exact .inr ⟨b, off, cs, T, (0, 0), e, hb, hc⟩
theorem SlRd.all {X : HP} {sb : Option Addr} {l : List α} (hX : SlRd X enc sz sb l) (he : EncOk enc sz) (H : St w0 As w) (i : Nat) (hi : As[i]? = some X) : Rd w sb (l.flatMap enc) := by
  obtain ⟨h1, hs, h⟩ := H.at i hi
  rcases hX h1 h with rfl | ⟨b, off, cs, T, fr, rfl, hb, hc⟩
  · exact .inl rfl
  · refine .inr ⟨_, rfl, fun j u hj => ?_⟩
    have hlt := (List.getElem?_eq_some_iff.1 hj).1
    rw [flat_length he] at hlt
    have hb' := hs _ _ hb
    simp only [hpOf] at hb'
    have := hc j hlt
    rw [hj] at this
    simp [addr_add, World.cell?, hb', this]
theorem SlRd.idx {X : HP} {sb : Option Addr} {l : List α} (hX : SlRd X enc sz sb l) (he : EncOk enc sz) (H : St w0 As w) (i : Nat) (hi : As[i]? = some X) {iv : Int} {x : α} (hx : mIdx l iv = some x) :
    ∃ b off, sb = some ⟨b, off, none⟩ ∧ (0 ≤ iv ∧ iv < (l.length : Int)) ∧ ∀ q v, (enc x)[q]? = some v → w.cell? ⟨b, off + iv.toNat * sz + q, none⟩ = some v := by
  obtain ⟨hb, hg⟩ := idx_spec hx
  obtain ⟨hlt, hge⟩ := List.getElem?_eq_some_iff.1 hg
  rcases hX.all he H i hi with h | ⟨xa, hxa, hc⟩
  · obtain ⟨h1, hs, hh⟩ := H.at i hi
    rcases hX h1 hh with rfl | ⟨b, off, cs, T, fr, rfl, hb', hc'⟩
    · simp at hlt
    · refine ⟨b, off, rfl, hb, fun q v hv => ?_⟩
      have hq : q < sz := by have := (List.getElem?_eq_some_iff.1 hv).1; rw [he.len] at this; exact this
      have := flat_length he l
      rw [h] at this
      have h2 : (iv.toNat + 1) * sz ≤ l.length * sz := Nat.mul_le_mul_right _ hlt
      rw [Nat.succ_mul] at h2
      simp at this; omega
  · obtain ⟨h1, hs, hh⟩ := H.at i hi
    rcases hX h1 hh with rfl | ⟨b, off, cs, T, fr, e2, hb', hc'⟩
    · simp at hlt
    · refine ⟨b, off, e2, hb, fun q v hv => ?_⟩
      rw [hxa] at e2
      cases e2
      have hq : q < sz := by have := (List.getElem?_eq_some_iff.1 hv).1; rw [he.len] at this; exact this
      have e := hc (iv.toNat * sz + q) v (by rw [flat_get he l _ _ hlt hq, hge]; exact hv)
      rw [addr_add, ← Nat.add_assoc] at e
      exact e
/-- What a piece of a slice holds. -/
theorem SlRd.cut {X : HP} {sb : Option Addr} {l r : List α} {sc lo : Nat} {hi : Nat} (hX : SlRd X enc sz sb l) (he : EncOk enc sz) (h1 : lo ≤ hi) (h2 : hi ≤ l.length) (h3 : hi ≤ sc) (hr : r = (l.take hi).drop lo) : SlRd X enc sz (rebase sb sc lo sz) r := by
  intro h hh
  subst hr
  rcases hX h hh with rfl | ⟨b, off, cs, T, fr, rfl, hb, hc⟩
  · exact .inl (by simp)
  · by_cases hz : hi - lo = 0
    · left; apply List.eq_nil_of_length_eq_zero; simp; omega
    · right
      have hlen : ((l.take hi).drop lo).length = hi - lo := by simp [Nat.min_eq_left h2]
      have hne : ¬ sc = lo := by omega
      refine ⟨b, off + lo * sz, cs, T, fr, by simp [rebase, hne, addr_add], hb, fun i hi' => ?_⟩
      rw [hlen] at hi'
      have hsz : 0 < sz := by
        rcases Nat.eq_zero_or_pos sz with h | h
        · subst h; simp at hi'
        · exact h
      have hj : i / sz < hi - lo := Nat.div_lt_of_lt_mul (by rw [Nat.mul_comm]; exact hi')
      have hq : i % sz < sz := Nat.mod_lt _ hsz
      have hi2 : (i / sz) * sz + i % sz = i := by rw [Nat.mul_comm]; exact Nat.div_add_mod i sz
      have e1 := flat_get he ((l.take hi).drop lo) (i / sz) (i % sz) (by rw [hlen]; exact hj) hq
      have e2 := flat_get he l (lo + i / sz) (i % sz) (by omega) hq
      have e3 : ((l.take hi).drop lo)[i / sz]'(by rw [hlen]; exact hj) = l[lo + i / sz]'(by omega) := by simp
      rw [e3, hi2] at e1
      have e4 : (lo + i / sz) * sz + i % sz = lo * sz + i := by rw [Nat.add_mul]; omega
      rw [e4] at e2
      rw [e1, ← e2, Nat.add_assoc]
      refine hc _ ?_
      have h7 : lo * sz + (hi - lo) * sz = hi * sz := by rw [← Nat.add_mul]; congr 1; omega
      have h8 : hi * sz ≤ l.length * sz := Nat.mul_le_mul_right _ h2
      omega

/-- A composite slice. -/
theorem OpTo.buildSl {n : Nat} {a : Act} {L : Env} {o : Oper} (hE : EnvOk n a L) (H : St w0 As w) (he : EncOk enc sz) (xs : List α) {cs : Array Value} {m : Nat}
    (hok : (!isSelect o.op && okAll L o.op.operands.toList) = true) (hr : ∀ r, runNew P (execOp (rho L) o) [] r = some (.cells cs T (0, 0), .value (.slice (some ⟨r, 0, none⟩) m m), [])) (hm : m = xs.length) (hmax : Nat.ble m 1000000 = true) (hc : cs.toList = xs.flatMap enc) :
    OpTo P o a w fun v w' => ∃ r : Nat, v = .slice (some ⟨r, 0, none⟩) xs.length m ∧ St w0 (Sl T enc sz (some ⟨r, 0, none⟩) m xs :: As) w' := by
  have h := OpTo.new (P := P) hE H [] (.cells cs T (0, 0)) (fun r => .slice (some ⟨r, 0, none⟩) m m) hok hr trivial
  refine h.mono ?_
  rintro v w' ⟨r, rfl, H2⟩
  have hmm := Nat.le_of_ble_eq_true hmax
  have hsz : cs.size = m * sz := by rw [← Array.length_toList, hc, flat_length he, hm]
  subst hm
  exact ⟨r, rfl, St.slOf H2 he (Nat.le_refl _) (by unfold maxLen; omega) (by omega) fun i hi => by rw [← hc]; simp⟩

theorem St.slCut' {sb sb' : Option Addr} {sc sc' : Nat} {l r : List α} {lo hi : Int} (H : St w0 (Sl T enc sz sb sc l :: As) w) (he : EncOk enc sz) (hr : mCut l lo hi = some r) (h1 : rebase sb sc lo.toNat sz = sb') (h2 : sc - lo.toNat = sc') :
    St w0 (Sl T enc sz sb' sc' r :: As) w := by
  obtain ⟨⟨h3, h4, h5⟩, rfl⟩ := cut_spec hr
  subst h1; subst h2
  exact H.slCut he lo.toNat hi.toNat (by omega) (by omega)
theorem cut_len {l r : List α} {lo hi : Int} (hr : mCut l lo hi = some r) : hi.toNat - lo.toNat = r.length := by
  obtain ⟨⟨h3, h4, h5⟩, rfl⟩ := cut_spec hr
  simp; omega
theorem cut_bd {l r : List α} {lo hi : Int} (hr : mCut l lo hi = some r) : 0 ≤ lo ∧ lo ≤ (hi.toNat : Int) := by
  obtain ⟨⟨h3, h4, h5⟩, rfl⟩ := cut_spec hr
  omega
theorem cut_bd0 {α : Type} {l r : List α} {lo : Int} {n : Nat} (hr : mCut l lo (n : Int) = some r) : 0 ≤ lo ∧ lo ≤ (n : Int) := by
  have := cut_bd hr
  simpa using this
theorem cut_cap2 {α : Type} {l r : List α} {lo hi : Int} {sc sc' : Nat} (hr : mCut l lo hi = some r) (hc : l.length ≤ sc) (h : sc - lo.toNat = sc') : r.length ≤ sc' := by
  have e := cut_len hr
  obtain ⟨⟨h3, h4, h5⟩, _⟩ := cut_spec hr
  omega
theorem cut_cap {l r : List α} {lo hi : Int} {sc : Nat} (hr : mCut l lo hi = some r) (hc : l.length ≤ sc) : 0 ≤ hi ∧ hi ≤ (sc : Int) := by
  obtain ⟨⟨h3, h4, h5⟩, rfl⟩ := cut_spec hr
  omega
theorem SlRd.cut' {X : HP} {sb sb' : Option Addr} {l r : List α} {sc : Nat} {lo hi : Int} (hX : SlRd X enc sz sb l) (he : EncOk enc sz) (hr : mCut l lo hi = some r) (hc : l.length ≤ sc) (h1 : rebase sb sc lo.toNat sz = sb') : SlRd X enc sz sb' r := by
  obtain ⟨⟨h3, h4, h5⟩, e⟩ := cut_spec hr
  subst h1
  exact hX.cut he (by omega) (by omega) (by omega) e
end

/-! More words for printed proofs. -/
def mNz (x : Int) : Option Unit := if x ≠ 0 then some () else none
def mNn (x : Int) : Option Unit := if 0 ≤ x then some () else none
theorem nz_spec {x : Int} {u : Unit} (h : mNz x = some u) : x ≠ 0 := by
  unfold mNz at h
  split at h
  · assumption
  · cases h
theorem nn_spec {x : Int} {u : Unit} (h : mNn x = some u) : 0 ≤ x := by
  unfold mNn at h
  split at h
  · assumption
  · cases h
def ecB (x : Bool) : List Value := [.bool x]
theorem ecB_ok : EncOk ecB 1 := ⟨fun _ => rfl, fun x u hu => by simp [ecB] at hu; subst hu; rfl⟩
def ecS (x : ByteArray) : List Value := [.string x]
theorem ecS_ok : EncOk ecS 1 := ⟨fun _ => rfl, fun x u hu => by simp [ecS] at hu; subst hu; rfl⟩
theorem EnvOk.dec {n : Nat} {a : Act} {L : Env} {b c : Bool} (hE : EnvOk n a L) (d : Nat) (h : b = c) (hl : look d L = some (.bool b)) : EnvOk n a ((d, .bool c) :: L) := by
  subst h
  refine ⟨hE.size, hE.defers, fun t v hv => ?_⟩
  rw [look_cons] at hv
  split at hv
  · subst_vars; cases hv; exact hE.has _ _ hl
  · exact hE.has _ _ hv

section
variable {α : Type} {T : TypeId} {enc : α → List Value} {sz : Nat} {w0 w : World} {As : List HP} {P : Program}
theorem SlRd.base {X : HP} {sb : Option Addr} {l : List α} (hX : SlRd X enc sz sb l) (he : EncOk enc sz) (H : St w0 As w) (i : Nat) (hi : As[i]? = some X) {iv : Int} {x : α} (hx : mIdx l iv = some x) :
    ∃ b off, sb = some ⟨b, off, none⟩ ∧ (0 ≤ iv ∧ iv < (l.length : Int)) := by
  obtain ⟨b, off, h1, h2, _⟩ := hX.idx he H i hi hx
  exact ⟨b, off, h1, h2⟩
theorem SlRd.cells {X : HP} {sb : Option Addr} {l : List α} (hX : SlRd X enc sz sb l) (he : EncOk enc sz) (H : St w0 As w) (i : Nat) (hi : As[i]? = some X) {b off : Nat} (hs : sb = some ⟨b, off, none⟩) {iv : Int} {x : α} (hx : mIdx l iv = some x)
    (q : Nat) (v : Value) (hv : (enc x)[q]? = some v) : w.cell? ⟨b, off + iv.toNat * sz + q, none⟩ = some v := by
  obtain ⟨b', off', h1, h2, h3⟩ := hX.idx he H i hi hx
  rw [hs] at h1
  cases h1
  exact h3 q v hv

theorem OpTo.appendM {n : Nat} {a : Act} {L : Env} {o : Oper} {x y : Operand} {t u : TypeId} {d : TypeId} {ti : TypeInfo} {sb xb : Option Addr} {sc xc m : Nat} {l ys r : List α} (hr : mApp l ys = some r) (hE : EnvOk n a L) (H : St w0 (Sl T enc sz sb sc l :: As) w) (he : EncOk enc sz)
    (ho : o.op = .call { callee := .builtin .append, args := #[x, y], argTypes := #[t, u] }) (hx : evO L x = some (.slice sb l.length sc)) (hy : evO L y = some (.slice xb m xc))
    (ht : P.underlying t = some (.slice T)) (hu : P.underlying u = some (.slice d)) (hi : P.info? T = some ti) (hsz : ti.size = sz) {z : Value} (hz : ti.zero = some z) (hzs : z.cells.size = sz)
    (hm : m = ys.length) (hrd : Rd w xb (ys.flatMap enc)) (hb : Nat.ble ti.bytes 131072 = true) :
    OpTo P o a w fun v w' => ∃ sb' sc', v = .slice sb' r.length sc' ∧ St w0 (Sl T enc sz sb' sc' r :: As) w' := by
  obtain ⟨rfl, hle⟩ := app_spec hr
  have hbb := Nat.le_of_ble_eq_true hb
  refine OpTo.append ys hE H he ho hx hy ht hu hi hsz hz hzs hm hrd (by unfold maxLen; omega) ?_
  calc (l.length + ys.length) * ti.bytes ≤ 1073741824 * 131072 := Nat.mul_le_mul hle hbb
    _ ≤ 140737488355328 := by decide

/-- '==' of two structures, told by what the model's own '==' comes to. -/
def EqRuns (P : Program) (t : TypeId) (xs ys : Array Value) (b : Bool) : Prop := ∀ w, (Op.equal t (.agg xs) (.agg ys)).run P w = .ok b w
theorem OpTo.eqS {n : Nat} {a : Act} {L : Env} {o : Oper} {x y : Operand} {t u : TypeId} {xs ys : Array Value} {b : Bool} (hE : EnvOk n a L) (ho : o.op = .binOp .eql t x y u) (hx : evO L x = some (.agg xs)) (hy : evO L y = some (.agg ys))
    (hg : P.eqGuardType P.depth t = false) (he : EqRuns P t xs ys b) : OpTo P o a w fun v w' => v = .bool b ∧ w' = w := by
  obtain ⟨dst, op, type, pos, after, guard⟩ := o
  simp only at ho
  subst ho
  refine OpTo.of_run (w' := w) ?_ ⟨rfl, rfl⟩
  simp [execOp, hE.eval hx, hE.eval hy, eqGuard, binOp, hg, he w]
theorem OpTo.neS {n : Nat} {a : Act} {L : Env} {o : Oper} {x y : Operand} {t u : TypeId} {xs ys : Array Value} {b : Bool} (hE : EnvOk n a L) (ho : o.op = .binOp .neq t x y u) (hx : evO L x = some (.agg xs)) (hy : evO L y = some (.agg ys))
    (hg : P.eqGuardType P.depth t = false) (he : EqRuns P t xs ys b) : OpTo P o a w fun v w' => v = .bool (!b) ∧ w' = w := by
  obtain ⟨dst, op, type, pos, after, guard⟩ := o
  simp only at ho
  subst ho
  refine OpTo.of_run (w' := w) ?_ ⟨rfl, rfl⟩
  simp [execOp, hE.eval hx, hE.eval hy, eqGuard, binOp, hg, he w]
end

theorem OpTo.fv {P : Program} {n : Nat} {a : Act} {L : Env} {w : World} {o : Oper} {x : Operand} {xs : List Operand} {g : FuncId} {vs cs : List Value} {Rv : Value → World → Prop} (hE : EnvOk n a L)
    (ho : callParts o.op = some (x, xs)) (hx : evO L x = some (.func (.func g) #[] cs.toArray)) (hxs : evList L xs = some vs)
    (hc : ∀ args w, (callFunc g args).run P w = .ok (.enter g args) w) (h : CallsR P g (vs ++ cs).toArray w Rv) : OpTo P o a w Rv :=
  OpTo.call hE ho hx hxs hc (by simpa using h)
def lInsert {α : Type} (l : List α) (i : Int) (v : List α) : Option (List α) := if 0 ≤ i ∧ i ≤ (l.length : Int) ∧ l.length + v.length ≤ 1073741824 then some (l.take i.toNat ++ (v ++ l.drop i.toNat)) else none
def lClone {α : Type} (l : List α) : Option (List α) := if l.length ≤ 1073741824 then some l else none
def insI (x : Int) : List Int → List Int
  | [] => [x]
  | y :: r => bif decide (x ≤ y) then x :: y :: r else y :: insI x r
def iSort : List Int → List Int
  | [] => []
  | x :: r => insI x (iSort r)
def lSort (l : List Int) : Option (List Int) := if l.length ≤ 1073741824 then some (iSort l) else none
theorem eqF_nil {P : Program} {w : World} {d : Nat} {xs ys : Array Value} {L : List Field} (hL : L = []) : (Op.eqFields d xs ys L).run P w = .ok true w := by
  subst hL; simp [Op.eqFields]
theorem eqF_cons {P : Program} {w : World} {d : Nat} {xs ys : Array Value} {L : List Field} {f : Field} {fs : List Field} {a b : Value} {r r' : Bool} (hL : L = f :: fs) (hn : (f.name == "_") = false)
    (pa : (part f.type xs f.offset).run P w = .ok a w) (pb : (part f.type ys f.offset).run P w = .ok b w) (he : (Op.equalIn d f.type a b).run P w = .ok r w) (hr : (Op.eqFields d xs ys fs).run P w = .ok r' w) :
    (Op.eqFields d xs ys L).run P w = .ok (r && r') w := by
  subst hL
  have hn' : f.name ≠ "_" := by simpa using hn
  simp only [Op.eqFields, hn', ne_eq, not_false_eq_true, if_true, Sem.run_bind, pa, pb, he, Result.andThen_ok]
  cases r <;> simp [hr]
theorem eqS_top {P : Program} {w : World} (d : Nat) {t : TypeId} {xs ys : Array Value} {b : Bool} (ht : P.underlying t = some (.struct (P.fieldsOf t))) (hp : P.stoodInHeld t = false) (h : (Op.eqFields d xs ys (P.fieldsOf t).toList).run P w = .ok b w) :
    (Op.equalIn (d + 1) t (.agg xs) (.agg ys)).run P w = .ok b w := by rw [run_equalIn_struct w d t xs ys ht hp, h]

def mSame (i n : Nat) : Option Unit := if i = n then some () else none
theorem same_spec {i n : Nat} {u : Unit} (h : mSame i n = some u) : i = n := by
  unfold mSame at h
  split at h
  · assumption
  · cases h
def mIn (i : Int) (n : Nat) : Option Unit := if 0 ≤ i ∧ i < (n : Int) then some () else none
theorem in_spec {i : Int} {n : Nat} {u : Unit} (h : mIn i n = some u) : 0 ≤ i ∧ i < (n : Int) := by
  unfold mIn at h
  split at h
  · assumption
  · cases h
def mMake {α : Type} (n : Int) (z : α) : Option (List α) := if 0 ≤ n ∧ n ≤ 1073741824 then some (List.replicate n.toNat z) else none
theorem make_spec {α : Type} {n : Int} {z : α} {l : List α} (h : mMake n z = some l) : (0 ≤ n ∧ n ≤ 1073741824) ∧ l = List.replicate n.toNat z := by
  unfold mMake at h
  split at h
  · cases h; exact ⟨by assumption, rfl⟩
  · cases h
def mByte (s : ByteArray) (i : Int) : Option Int := if 0 ≤ i then (s[i.toNat]?).map fun u => (u.toNat : Int) else none
theorem byte_spec {s : ByteArray} {i c : Int} (h : mByte s i = some c) : 0 ≤ i ∧ ∃ u, s[i.toNat]? = some u ∧ c = (u.toNat : Int) := by
  unfold mByte at h
  split at h
  · obtain ⟨u, hu, rfl⟩ := Option.map_eq_some_iff.1 h
    exact ⟨by assumption, u, hu, rfl⟩
  · cases h

section
variable {α : Type} {T : TypeId} {enc : α → List Value} {sz : Nat} {w0 w : World} {As : List HP} {P : Program}
theorem i64_small {n : Int} (h0 : 0 ≤ n) (h1 : n ≤ 1073741824) : IntKind.i64.wrap n = n := by
  unfold IntKind.wrap
  simp only [IntKind.bits, IntKind.signed]
  have : n % 2 ^ 64 = n := Int.emod_eq_of_lt h0 (by omega)
  simp only [this]
  have h2 : ¬ (9223372036854775808 ≤ n) := by omega
  simp
  intro h3; exact absurd h3 h2
theorem OpTo.make {n : Nat} {a : Act} {L : Env} {o : Oper} {t : TypeId} {x : Operand} {m : Int} {z : α} {l : List α} {ti : TypeInfo} {zv : Value} (hl : mMake m z = some l) (hE : EnvOk n a L) (H : St w0 As w) (he : EncOk enc sz) (ho : o.op = .makeSlice t x x) (hx : evO L x = some (.int .i64 m))
    (ht : P.underlying t = some (.slice T)) (hi : P.info? T = some ti) (hs : ti.size = sz) (hz : ti.zero = some zv) (hc : zv.cells.toList = enc z) (hb : Nat.ble ti.bytes 131072 = true) :
    OpTo P o a w fun v w' => ∃ r : Nat, v = .slice (some ⟨r, 0, none⟩) l.length l.length ∧ St w0 (Sl T enc sz (some ⟨r, 0, none⟩) l.length l :: As) w' := by
  obtain ⟨⟨h0, h1⟩, rfl⟩ := make_spec hl
  have hbb := Nat.le_of_ble_eq_true hb
  have hw := i64_small h0 h1
  obtain ⟨dst, op, type, pos, after, guard⟩ := o
  simp only at ho
  subst ho
  obtain ⟨k, rfl⟩ := Int.eq_ofNat_of_zero_le h0
  have hk : k ≤ 1073741824 := by omega
  have hbk : ti.bytes * k ≤ 281474976710656 := by
    calc ti.bytes * k ≤ 131072 * 1073741824 := Nat.mul_le_mul hbb hk
      _ ≤ 281474976710656 := by decide
  have hsz : zv.cells.size = sz := by rw [← Array.length_toList, hc, he.len]
  let arr : Array Value := (Array.range (k * ti.size)).map (zv.cells[· % zv.cells.size]!)
  have hrun : (Instr.makeSlice t (.int .i64 k) (.int .i64 k)).run P w = .ok (.slice (some ⟨w.heap.size, 0, none⟩) k k) { w with heap := w.heap.push (.cells arr T (0, 0)) } := by
    have e1 : ¬ ((k : Int) < 0) := by omega
    have e2 : ¬ ((281474976710656 : Int) < (ti.bytes : Int) * (k : Int)) := by
      rw [← Int.natCast_mul]; omega
    have hroom : ∀ (w : World), (askRoom (k * ti.bytes)).run P w = .ok () w := fun w => by
      unfold askRoom
      split <;> rfl
    by_cases hn : k * ti.size = 0
    · have harr : arr = #[] := by simp [arr, hn]
      simp [Instr.makeSlice, run_und P ht, asInt, asIntOf, typeInfo, hi, hw, e1, e2, hroom, run_size P hi, hn, newRow, harr]
      have hr0 : (Array.map (fun _ => (default : Value)) (Array.range 0)) = #[] := Array.eq_empty_of_size_eq_zero (by simp)
      rw [hr0]
    · simp [Instr.makeSlice, run_und P ht, asInt, asIntOf, typeInfo, hi, hw, e1, e2, hroom, run_size P hi, hn, newRow, zeroValue, hz, arr]
      try rfl
  refine OpTo.of_run (w' := { w with heap := w.heap.push (.cells arr T (0, 0)) }) (v := .slice (some ⟨w.heap.size, 0, none⟩) k k) ?_ ⟨w.heap.size, by simp, ?_⟩
  · simp [execOp, hE.eval hx, hrun]
  · have H2 := H.alloc (.cells arr T (0, 0))
    have := St.slOf (l := List.replicate k z) (sc := k) H2 he (by simp) (by unfold maxLen; omega) (by simp [arr, hs]) (fun i hi' => by
      simp only [List.length_replicate] at hi'
      have hpos : 0 < sz := by
        rcases Nat.eq_zero_or_pos sz with h | h
        · subst h; simp at hi'
        · exact h
      have hj : i / sz < (List.replicate k z).length := by simp; exact Nat.div_lt_of_lt_mul (by rw [Nat.mul_comm]; exact hi')
      have hq : i % sz < sz := Nat.mod_lt _ hpos
      have e := flat_get he (List.replicate k z) (i / sz) (i % sz) hj hq
      have hi2 : (i / sz) * sz + i % sz = i := by rw [Nat.mul_comm]; exact Nat.div_add_mod i sz
      rw [hi2] at e
      rw [e]
      simp only [List.getElem_replicate]
      rw [← hc]
      simp only [arr, hs, hsz]
      have hq' : i % sz < zv.cells.size := by rw [hsz]; exact hq
      rw [Array.getElem?_map, Array.getElem?_range]
      simp [hi', hq'])
    simpa using this
end

/-! Channels in one goroutine: open, with a buffer. -/
def Ch (c cap : Nat) (buf : List Value) : HP := fun h => ∃ x : Nat × Nat, One c (.chan cap buf.toArray false x.1 x.2 false) h

section
open Go.Conc
variable {P : Program} {f : FuncId} {k : List Item} {a : Act} {w w0 : World} {R : Value → World → Prop} {ops : Array Oper} {As : List HP} {n d c cap : Nat} {L : Env} {o : Oper} {buf : List Value}

theorem Runs.step' {todo todo' : List Item} {a' : Act} {w' : World} (hs : ∀ (b : Frame) cs, b.kind ≠ .early → Go.step P (lone (b.at a todo) cs w) = .next (lone (b.at a' todo') cs w')) (h : Runs P f todo' a' w' R) : Runs P f todo a w R :=
  fun b hb hk cs => let ⟨v, w2, fr, hR, h1, h2⟩ := h b hb hk cs; ⟨v, w2, fr, hR, .head (hs b cs (by rw [hk]; simp)) h1, h2⟩

theorem region_head {id : Nat} (hi : ops[0]? = some o) (h : Runs P f (.inRegion ops (0 :: List.range' 1 (ops.size - 1)) :: k) a w R) : Runs P f (.code (.region id ops false) :: k) a w R := by
  refine .step (fun _ _ => step_region) ?_
  have hlt : 0 < ops.size := (Array.getElem?_eq_some_iff.1 hi).1
  have : List.range ops.size = 0 :: List.range' 1 (ops.size - 1) := by
    rw [List.range_eq_range']
    have : ops.size = (ops.size - 1) + 1 := by omega
    conv => lhs; rw [this]
    rw [List.range'_succ]
  rw [this]; exact h

theorem St.chSet (H : St w0 (Ch c cap buf :: As) w) (buf' : List Value) (s r : Nat) : St w0 (Ch c cap buf' :: As) (w.setChan c cap buf'.toArray false s r false) := by
  obtain ⟨x, H⟩ := H.ex
  have hb := H.one 0 rfl
  have hlt := (Array.getElem?_eq_some_iff.1 hb).1
  have H2 := H.set (w' := w.setChan c cap buf'.toArray false s r false) (o' := .chan cap buf'.toArray false s r false) rfl rfl rfl (by simp [World.setChan, hlt]) (fun j hj => by simp only [World.setChan]; rw [Array.getElem?_setIfInBounds_ne (Ne.symm hj)])
  exact H2.head fun h hh => ⟨(s, r), hh⟩

theorem selSend_run {x y : Operand} {e : TypeId} {v : Value} {ti : TypeInfo} {z : Value} (hE : EnvOk n a L) (ho : o.op = .select #[{ chan := x, send := some y, elem := e }] false) (hx : evO L x = some (.chan (some c))) (hy : evO L y = some v)
    (hi : P.info? e = some ti) (hz : ti.zero = some z) : (execOp a.eval o).run P w = .ok (.comm #[scase c v z] false .select) w := by
  obtain ⟨dst, op, type, pos, after, guard⟩ := o
  simp only at ho
  subst ho
  simp [execOp, scase, hE.eval hx, hE.eval hy, zeroValue, typeInfo, hi, hz]

theorem selRecv_run {x : Operand} {e : TypeId} {ti : TypeInfo} {z : Value} (hE : EnvOk n a L) (ho : o.op = .select #[{ chan := x, send := none, elem := e }] false) (hx : evO L x = some (.chan (some c)))
    (hi : P.info? e = some ti) (hz : ti.zero = some z) : (execOp a.eval o).run P w = .ok (.comm #[rcase c z] false .select) w := by
  obtain ⟨dst, op, type, pos, after, guard⟩ := o
  simp only at ho
  subst ho
  simp [execOp, rcase, hE.eval hx, zeroValue, typeInfo, hi, hz]

theorem Runs.selSendRoom {id : Nat} {x y : Operand} {e : TypeId} {v : Value} {ti : TypeInfo} {z : Value} (hE : EnvOk n a L) (H : St w0 (Ch c cap buf :: As) w) (hi0 : ops[0]? = some o) (hd : o.dst = some d) (hn : Nat.blt d n = true) (hg : o.guard = none)
    (ho : o.op = .select #[{ chan := x, send := some y, elem := e }] false) (hx : evO L x = some (.chan (some c))) (hy : evO L y = some v) (hi : P.info? e = some ti) (hz : ti.zero = some z) (hroom : buf.length < cap)
    (hk : ∀ a' w', EnvOk n a' ((d, .tuple #[goInt 0, .bool false]) :: L) → St w0 (Ch c cap (buf ++ [v]) :: As) w' → WR P f ops 1 k a' w' R) : Runs P f (.code (.region id ops false) :: k) a w R := by
  refine region_head hi0 ?_
  obtain ⟨⟨s, r⟩, H1⟩ := H.ex
  have hc := H1.one 0 rfl
  have H2 := H.chSet (buf ++ [v]) (s + 1) r
  refine Runs.step' (a' := a.put o.dst (.tuple #[goInt 0, .bool false])) (todo' := .inRegion ops (List.range' 1 (ops.size - 1)) :: k) (w' := w.setChan c cap (buf ++ [v]).toArray false (s + 1) r false) (fun b cs hb => ?_) (Runs.of_ops ?_)
  · have hw : Region.wanted o (yielded ops a.tmps) = true := by simp [Region.wanted, hg]
    have := step_lone_select_send_room (buf := buf.toArray) (stepG_comm (k := k) (cs := cs) (rest := List.range' 1 (ops.size - 1)) hi0 hw hb (selSend_run hE ho hx hy hi hz)) hc (by simpa using hroom)
    rw [lone_eq_solo, this, Frame.finish_at, hi0]
    simp [lone_eq_solo]
  · rw [hd]; rw [hd] at *
    exact hk _ _ (hE.put _ _ (by simpa [Nat.blt_eq] using hn)) H2

theorem Runs.selSendFull {id : Nat} {x y : Operand} {e : TypeId} {v : Value} {ti : TypeInfo} {z : Value} (hE : EnvOk n a L) (H : St w0 (Ch c cap buf :: As) w) (hi0 : ops[0]? = some o) (hd : o.dst = some d) (hn : Nat.blt d n = true) (hg : o.guard = none)
    (ho : o.op = .select #[{ chan := x, send := some y, elem := e }] false) (hx : evO L x = some (.chan (some c))) (hy : evO L y = some v) (hi : P.info? e = some ti) (hz : ti.zero = some z) (hfull : cap ≤ buf.length)
    (hk : ∀ a', EnvOk n a' ((d, .tuple #[goInt (-1), .bool false]) :: L) → WR P f ops 1 k a' w R) : Runs P f (.code (.region id ops false) :: k) a w R := by
  refine region_head hi0 ?_
  obtain ⟨⟨s, r⟩, H1⟩ := H.ex
  have hc := H1.one 0 rfl
  refine Runs.step' (a' := a.put o.dst (.tuple #[goInt (-1), .bool false])) (todo' := .inRegion ops (List.range' 1 (ops.size - 1)) :: k) (w' := w) (fun b cs hb => ?_) (Runs.of_ops ?_)
  · have hw : Region.wanted o (yielded ops a.tmps) = true := by simp [Region.wanted, hg]
    have := step_lone_select_send_full (buf := buf.toArray) (stepG_comm (k := k) (cs := cs) (rest := List.range' 1 (ops.size - 1)) hi0 hw hb (selSend_run hE ho hx hy hi hz)) hc (by simpa using hfull)
    rw [lone_eq_solo, this, Frame.finish_at, hi0]
    simp [lone_eq_solo]
  · rw [hd]
    exact hk _ (hE.put _ _ (by simpa [Nat.blt_eq] using hn))

theorem Runs.selRecvSome {id : Nat} {x : Operand} {e : TypeId} {v : Value} {ti : TypeInfo} {z : Value} (hE : EnvOk n a L) (H : St w0 (Ch c cap (v :: buf) :: As) w) (hi0 : ops[0]? = some o) (hd : o.dst = some d) (hn : Nat.blt d n = true) (hg : o.guard = none)
    (ho : o.op = .select #[{ chan := x, send := none, elem := e }] false) (hx : evO L x = some (.chan (some c))) (hi : P.info? e = some ti) (hz : ti.zero = some z)
    (hk : ∀ a' w', EnvOk n a' ((d, .tuple #[goInt 0, .bool true, v]) :: L) → St w0 (Ch c cap buf :: As) w' → WR P f ops 1 k a' w' R) : Runs P f (.code (.region id ops false) :: k) a w R := by
  refine region_head hi0 ?_
  obtain ⟨⟨s, r⟩, H1⟩ := H.ex
  have hc := H1.one 0 rfl
  have H2 := H.chSet buf s (r + 1)
  refine Runs.step' (a' := a.put o.dst (.tuple #[goInt 0, .bool true, v])) (todo' := .inRegion ops (List.range' 1 (ops.size - 1)) :: k) (w' := w.setChan c cap buf.toArray false s (r + 1) false) (fun b cs hb => ?_) (Runs.of_ops ?_)
  · have hw : Region.wanted o (yielded ops a.tmps) = true := by simp [Region.wanted, hg]
    have := step_lone_select_recv_buf (buf := (v :: buf).toArray) (stepG_comm (k := k) (cs := cs) (rest := List.range' 1 (ops.size - 1)) hi0 hw hb (selRecv_run hE ho hx hi hz)) hc (by simp)
    rw [lone_eq_solo, this, Frame.finish_at, hi0]
    simp [lone_eq_solo]
  · rw [hd]
    exact hk _ _ (hE.put _ _ (by simpa [Nat.blt_eq] using hn)) H2

theorem Runs.selRecvNone {id : Nat} {x : Operand} {e : TypeId} {ti : TypeInfo} {z : Value} (hE : EnvOk n a L) (H : St w0 (Ch c cap [] :: As) w) (hi0 : ops[0]? = some o) (hd : o.dst = some d) (hn : Nat.blt d n = true) (hg : o.guard = none)
    (ho : o.op = .select #[{ chan := x, send := none, elem := e }] false) (hx : evO L x = some (.chan (some c))) (hi : P.info? e = some ti) (hz : ti.zero = some z)
    (hk : ∀ a', EnvOk n a' ((d, .tuple #[goInt (-1), .bool false, z]) :: L) → WR P f ops 1 k a' w R) : Runs P f (.code (.region id ops false) :: k) a w R := by
  refine region_head hi0 ?_
  obtain ⟨⟨s, r⟩, H1⟩ := H.ex
  have hc := H1.one 0 rfl
  refine Runs.step' (a' := a.put o.dst (.tuple #[goInt (-1), .bool false, z])) (todo' := .inRegion ops (List.range' 1 (ops.size - 1)) :: k) (w' := w) (fun b cs hb => ?_) (Runs.of_ops ?_)
  · have hw : Region.wanted o (yielded ops a.tmps) = true := by simp [Region.wanted, hg]
    have := step_lone_select_default (stepG_comm (k := k) (cs := cs) (rest := List.range' 1 (ops.size - 1)) hi0 hw hb (selRecv_run hE ho hx hi hz)) hc
    rw [lone_eq_solo, this, Frame.finish_at, hi0]
    simp [lone_eq_solo]
  · rw [hd]
    exact hk _ (hE.put _ _ (by simpa [Nat.blt_eq] using hn))

/-- How many lie in a channel. -/
theorem OpTo.lenCh {x : Operand} {t e : TypeId} {dir : ChanDir} (i : Nat) (hE : EnvOk n a L) (H : St w0 As w) (hi : As[i]? = some (Ch c cap buf)) (ho : o.op = .call { callee := .builtin .len, args := #[x], argTypes := #[t] }) (ht : P.underlying t = some (.chan dir e)) (hx : evO L x = some (.chan (some c))) :
    OpTo P o a w fun v w' => v = .int .i64 buf.length ∧ w' = w := by
  obtain ⟨dst, op, type, pos, after, guard⟩ := o
  simp only at ho
  subst ho
  obtain ⟨h1, hs, ⟨s, r⟩, hh⟩ := H.at i hi
  have hb := hs _ _ hh
  simp only [hpOf] at hb
  refine OpTo.of_run (w' := w) ?_ ⟨rfl, rfl⟩
  simp [execOp, resolve, invoke, builtin, hE.eval hx, Builtin.len_, run_und P ht, getObj, Sem.run, hb, goInt]
end

end Go.Th
