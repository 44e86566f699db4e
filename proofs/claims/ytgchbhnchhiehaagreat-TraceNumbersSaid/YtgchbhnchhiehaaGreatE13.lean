/-
  The engine, part 13: maps, as lists of pairs in the order of their births.
-/
import Derived.Test.YtgchbhnchhiehaaGreatE12
import Derived.MapKept
set_option linter.unusedVariables false
set_option linter.unusedSimpArgs false
namespace Go.Th

section
variable {K V : Type}
def mGet (eq : K → K → Bool) (k : K) : List (K × V) → Option V
  | [] => none
  | p :: m => bif eq k p.1 then some p.2 else mGet eq k m
def mPut (eq : K → K → Bool) (k : K) (v : V) : List (K × V) → List (K × V)
  | [] => [(k, v)]
  | p :: m => bif eq k p.1 then (k, v) :: m else p :: mPut eq k v m
def mDel (eq : K → K → Bool) (k : K) : List (K × V) → List (K × V)
  | [] => []
  | p :: m => bif eq k p.1 then m else p :: mDel eq k m
def mGetD (eq : K → K → Bool) (k : K) (z : V) (m : List (K × V)) : V := match mGet eq k m with
  | some v => v
  | none => z
def mLook (eq : K → K → Bool) (k : K) (z : V) (m : List (K × V)) : Option (V × Bool) := some (match mGet eq k m with
  | some v => (v, true)
  | none => (z, false))
def mHas (eq : K → K → Bool) (k : K) (m : List (K × V)) : Bool := match mGet eq k m with
  | some _ => true
  | none => false
/-- where a key is found -/
def mAt (eq : K → K → Bool) (k : K) : List K → Nat → Option Nat
  | [], _ => none
  | a :: ks, i => bif eq k a then some i else mAt eq k ks (i + 1)
theorem mAt_ge (eq : K → K → Bool) (k : K) : ∀ (ks : List K) (i j : Nat), mAt eq k ks i = some j → i ≤ j
  | [], i, j, h => by simp [mAt] at h
  | a :: ks, i, j, h => by
    simp only [mAt] at h
    cases he : eq k a <;> simp [he] at h
    · have := mAt_ge eq k ks (i + 1) j h; omega
    · omega
theorem mAt_get (eq : K → K → Bool) (k : K) : ∀ (m : List (K × V)) (i : Nat),
    (mAt eq k (m.map (·.1)) i = none ∧ mGet eq k m = none ∧ (∀ v, mPut eq k v m = m ++ [(k, v)]) ∧ mDel eq k m = m) ∨
    ∃ j p, mAt eq k (m.map (·.1)) i = some (i + j) ∧ m[j]? = some p ∧ eq k p.1 = true ∧ mGet eq k m = some p.2 ∧ (∀ v, mPut eq k v m = m.set j (k, v)) ∧ mDel eq k m = m.eraseIdx j
  | [], i => .inl ⟨rfl, rfl, fun _ => rfl, rfl⟩
  | p :: m, i => by
    cases he : eq k p.1
    · rcases mAt_get eq k m (i + 1) with ⟨h1, h2, h3, h4⟩ | ⟨j, q, h1, h2, h3, h4, h5, h6⟩
      · exact .inl ⟨by simp [mAt, he, h1], by simp [mGet, he, h2], fun v => by simp [mPut, he, h3], by simp [mDel, he, h4]⟩
      · refine .inr ⟨j + 1, q, ?_, by simpa using h2, h3, by simp [mGet, he, h4], fun v => by simp [mPut, he, h5], by simp [mDel, he, h6]⟩
        simp [mAt, he, h1]; omega
    · exact .inr ⟨0, p, by simp [mAt, he], rfl, he, by simp [mGet, he], fun v => by simp [mPut, he], by simp [mDel, he]⟩

/-- keys of one type: how they are encoded, what '==' says of them -/
structure KeyOk (P : Program) (kt : TypeId) (ek : K → Value) (eq : K → K → Bool) : Prop where
  check : ∀ (w : World) em k, (Instr.checkKey em 10000 kt (ek k)).run P w = .ok () w
  find : ∀ (w : World) k (es : List MapEntry) (ks : List K), es.map (·.key) = ks.map ek → (Instr.findKey kt (ek k) es).run P w = .ok ((mAt eq k ks 0).bind fun j => (es[j]?).map fun e => (j, e.val)) w
  stays : ∀ (w : World) k, (Instr.keyThatStays (ek k) (ek k)).run P w = .ok (ek k) w
  same : ∀ a b, eq a b = true → a = b
end

def kI (a b : Int) : Bool := a == b
theorem findNow_kI (k : Int) : ∀ (es : List MapEntry) (ks : List Int) (i : Nat), es.map (·.key) = ks.map vI → Instr.findNow (.int .i64) (vI k) es i = some ((mAt kI k ks i).bind fun j => (es[j - i]?).map fun e => (j, e.val))
  | [], [], i, _ => by simp [Instr.findNow, mAt]
  | [], _ :: _, i, h => by simp at h
  | _ :: _, [], i, h => by simp at h
  | e :: es, a :: ks, i, h => by
    simp only [List.map_cons, List.cons.injEq] at h
    have ih := findNow_kI k es ks (i + 1) h.2
    simp only [Instr.findNow, h.1, vI, Instr.sameNow, if_true, mAt, kI]
    cases hk : (k == a)
    · simp only [cond_false]
      simp only [vI] at ih
      rw [ih]
      cases hm : mAt kI k ks (i + 1) with
      | none => rfl
      | some j =>
        have hj := mAt_ge _ _ _ _ _ hm
        have e1 : j - i = (j - (i + 1)) + 1 := by omega
        simp [e1]
    · simp
theorem KeyOk.int {P : Program} {kt : TypeId} (h : P.underlying kt = some (.int .i64)) : KeyOk P kt vI kI where
  check := fun w em k => Go.MapKept.run_checkKey h (show Go.MapKept.IsKey (.int .i64) (vI k) from rfl) em 9999
  find := fun w k es ks he => Go.MapKept.run_findKey h (by simpa using findNow_kI k es ks 0 he)
  stays := fun w k => Go.MapKept.run_keyThatStays (d := .int .i64) (show Go.MapKept.IsKey (.int .i64) (vI k) from rfl)
  same := fun a b h => by simpa [kI] using h

section
variable {K V : Type} {P : Program} {ek : K → Value} {eq : K → K → Bool} {kt : TypeId}
theorem findAsking_eq (he : ∀ (w : World) a b, (Op.equal kt (ek a) (ek b)).run P w = .ok (eq a b) w) (w : World) (k : K) : ∀ (es : List MapEntry) (ks : List K) (i : Nat), es.map (·.key) = ks.map ek →
    (Instr.findAsking kt (ek k) es i).run P w = .ok ((mAt eq k ks i).bind fun j => (es[j - i]?).map fun e => (j, e.val)) w
  | [], [], i, _ => by simp [Instr.findAsking, mAt]
  | [], _ :: _, i, h => by simp at h
  | _ :: _, [], i, h => by simp at h
  | e :: es, a :: ks, i, h => by
    simp only [List.map_cons, List.cons.injEq] at h
    have ih := findAsking_eq he w k es ks (i + 1) h.2
    simp only [Instr.findAsking, Sem.run_bind, h.1, he, Result.andThen_ok, mAt]
    cases hk : eq k a
    · simp only [cond_false, Bool.false_eq_true, if_false, ih]
      cases hm : mAt eq k ks (i + 1) with
      | none => rfl
      | some j =>
        have hj := mAt_ge _ _ _ _ _ hm
        have e1 : j - i = (j - (i + 1)) + 1 := by omega
        simp [e1]
    · simp
theorem KeyOk.struct {fs : Array Field} (h : P.underlying kt = some (.struct fs)) (hc : ∀ (w : World) em k, (Instr.checkKey em 10000 kt (ek k)).run P w = .ok () w)
    (he : ∀ (w : World) a b, (Op.equal kt (ek a) (ek b)).run P w = .ok (eq a b) w) (hs : ∀ k, Instr.sameBits 10000 (ek k) (ek k) = true) (hq : ∀ a b, eq a b = true → a = b) : KeyOk P kt ek eq where
  check := hc
  find := fun w k es ks hks => by
    have hf := findAsking_eq he w k es ks 0 hks
    have e1 : (Instr.findKey kt (ek k) es).run P w = (Instr.findAsking kt (ek k) es).run P w := by
      cases es with
      | nil => simp [Instr.findKey, run_und P h, Instr.findNow, Instr.findAsking]
      | cons e es => simp [Instr.findKey, run_und P h, Instr.findNow, Instr.sameNow]
    rw [e1]
    simpa using hf
  stays := fun w k => by simp [Instr.keyThatStays, hs]
  same := hq
theorem run_checkKey_struct {fs : Array Field} {cs : Array Value} (n : Nat) (h : P.underlying kt = some (.struct fs)) (w : World) (em : Bool)
    (hf : ∀ f ∈ fs.toList, f.name ≠ "_" ∧ ∃ v, (part f.type cs f.offset).run P w = .ok v w ∧ (Instr.checkKey em n f.type v).run P w = .ok () w) : (Instr.checkKey em (n + 1) kt (.agg cs)).run P w = .ok () w := by
  rw [Instr.checkKey]
  simp only [Sem.run_bind, run_und P h, Result.andThen_ok]
  rw [← Array.forIn_toList]
  generalize fs.toList = L at hf
  induction L with
  | nil => simp
  | cons f L ih =>
    obtain ⟨hn, v, p1, p2⟩ := hf f (by simp)
    simp only [List.forIn_cons, Sem.run_bind, hn, ne_eq, not_false_eq_true, if_true, Result.andThen_ok, p1, p2, Sem.run_pure]
    exact ih fun y hy => hf y (by simp [hy])
theorem run_checkKey_int (n : Nat) (h : P.underlying kt = some (.int .i64)) (w : World) (em : Bool) (x : Int) : (Instr.checkKey em (n + 1) kt (.int .i64 x)).run P w = .ok () w :=
  Go.MapKept.run_checkKey h (show Go.MapKept.IsKey (.int .i64) (.int .i64 x) from rfl) em n

theorem ck_nil {P : Program} {cs : Array Value} {w : World} {em : Bool} {n : Nat} {Ls : List Field} (h : Ls = []) : ∀ f ∈ Ls, f.name ≠ "_" ∧ ∃ v, (part f.type cs f.offset).run P w = .ok v w ∧ (Instr.checkKey em n f.type v).run P w = .ok () w := by
  subst h; intro f hf; cases hf
theorem ck_cons {P : Program} {cs : Array Value} {w : World} {em : Bool} {n : Nat} {Ls fs : List Field} {f : Field} {v : Value} (hL : Ls = f :: fs) (hn : (f.name == "_") = false) (p : (part f.type cs f.offset).run P w = .ok v w) (c : (Instr.checkKey em n f.type v).run P w = .ok () w)
    (r : ∀ g ∈ fs, g.name ≠ "_" ∧ ∃ v, (part g.type cs g.offset).run P w = .ok v w ∧ (Instr.checkKey em n g.type v).run P w = .ok () w) : ∀ g ∈ Ls, g.name ≠ "_" ∧ ∃ v, (part g.type cs g.offset).run P w = .ok v w ∧ (Instr.checkKey em n g.type v).run P w = .ok () w := by
  subst hL; intro g hg
  rcases List.mem_cons.1 hg with rfl | hg
  · exact ⟨by simpa using hn, v, p, c⟩
  · exact r g hg

def MpA (r : Nat) (ek : K → Value) (ev : V → Value) (m : List (K × V)) : HP := fun h => ∃ x : Array MapEntry × Nat, One r (.map x.1 x.2) h ∧ x.1.toList.map (fun e => (e.key, e.val)) = m.map fun p => (ek p.1, ev p.2)

variable {ev : V → Value} {w w0 : World} {As : List HP} {n r : Nat} {L : Env} {o : Oper} {a : Act} {m : List (K × V)} {k : K}
theorem MpA.keys {es : List MapEntry} {m : List (K × V)} (h : es.map (fun e => (e.key, e.val)) = m.map fun p => (ek p.1, ev p.2)) : es.map (·.key) = (m.map (·.1)).map ek := by
  have := congrArg (List.map Prod.fst) h
  simp only [List.map_map] at this
  rw [List.map_map]
  exact this
theorem MpA.get {es : List MapEntry} {m : List (K × V)} (h : es.map (fun e => (e.key, e.val)) = m.map fun p => (ek p.1, ev p.2)) {j : Nat} {p : K × V} (hj : m[j]? = some p) : ∃ e, es[j]? = some e ∧ e.key = ek p.1 ∧ e.val = ev p.2 := by
  have h2 := congrArg (fun l => l[j]?) h
  simp only [List.getElem?_map, hj, Option.map_some] at h2
  cases he : es[j]? with
  | none => rw [he] at h2; simp at h2
  | some e => rw [he] at h2; simp at h2; exact ⟨e, rfl, h2.1, h2.2⟩
theorem KeyOk.found (hk : KeyOk P kt ek eq) (w : World) (k : K) {es : List MapEntry} {m : List (K × V)} (h : es.map (fun e => (e.key, e.val)) = m.map fun p => (ek p.1, ev p.2)) :
    ((Instr.findKey kt (ek k) es).run P w = .ok none w ∧ mGet eq k m = none ∧ (∀ v, mPut eq k v m = m ++ [(k, v)]) ∧ mDel eq k m = m) ∨
    ∃ j e v, (Instr.findKey kt (ek k) es).run P w = .ok (some (j, ev v)) w ∧ es[j]? = some e ∧ e.key = ek k ∧ mGet eq k m = some v ∧ (∀ v, mPut eq k v m = m.set j (k, v)) ∧ mDel eq k m = m.eraseIdx j := by
  have hf := hk.find w k es _ (MpA.keys h)
  rcases mAt_get eq k m 0 with ⟨h1, h2, h3, h4⟩ | ⟨j, p, h1, h2, h3, h4, h5, h6⟩
  · left; rw [h1] at hf; exact ⟨hf, h2, h3, h4⟩
  · right
    obtain ⟨e, e1, e2, e3⟩ := MpA.get h h2
    simp only [Nat.zero_add] at h1
    rw [h1] at hf
    simp only [Option.bind_some, e1, Option.map_some, e3] at hf
    exact ⟨j, e, p.2, hf, e1, by rw [e2, hk.same _ _ h3], h4, h5, h6⟩

theorem OpTo.mpNew {K V : Type} {w0 w : World} {As : List HP} (ek : K → Value) (ev : V → Value) {t : TypeId} (hE : EnvOk n a L) (H : St w0 As w) (ho : o.op = .makeMap t none) : OpTo P o a w fun v w' => ∃ r : Nat, v = .map (some r) ∧ St w0 (MpA r ek ev [] :: As) w' := by
  obtain ⟨dst, op, type, pos, after, guard⟩ := o
  simp only at ho
  subst ho
  refine OpTo.of_run (w' := { w with heap := w.heap.push (.map #[] 0) }) (v := .map (some w.heap.size)) ?_ ⟨w.heap.size, rfl, ?_⟩
  · simp [execOp, Instr.makeMap, newObj]
    rfl
  · exact (H.alloc (.map #[] 0)).head fun h hh => ⟨(#[], 0), hh, by simp⟩

theorem run_lookup {mt vt : TypeId} {ti : TypeInfo} {z : V} (H : St w0 As w) (i : Nat) (hi : As[i]? = some (MpA r ek ev m)) (hk : KeyOk P kt ek eq) (ht : P.underlying mt = some (.map kt vt)) (hz : P.info? vt = some ti) (hz0 : ti.zero = some (ev z)) (ok : Bool) :
    ∀ {g : V × Bool}, mLook eq k z m = some g → (Instr.lookup mt (.map (some r)) (ek k) ok).run P w = .ok (if ok then .tuple #[ev g.1, .bool g.2] else ev g.1) w := by
  intro g hg
  obtain ⟨h1, hs, x, hh, hx⟩ := H.at i hi
  have hb : w.heap[r]? = some (.map x.1 x.2) := hs _ _ hh
  rcases hk.found w k hx with ⟨f1, f2, _, _⟩ | ⟨j, e, v, f1, f2, f3, f4, _, _⟩
  · have hzv : (zeroValue vt).run P w = .ok (ev z) w := by simp [Go.zeroValue, Go.typeInfo, Sem.run, hz, hz0]
    simp [Instr.lookup, run_und P ht, Go.MapKept.run_getObj_map hb, hk.check, f1, hzv, Result.andThen]; simp [mLook, f2] at hg; subst hg; rfl
  · simp [Instr.lookup, run_und P ht, Go.MapKept.run_getObj_map hb, hk.check, f1, Result.andThen]; simp [mLook, f4] at hg; subst hg; rfl
theorem OpTo.mpGet2 {mt vt : TypeId} {ti : TypeInfo} {z : V} {x y : Operand} (i : Nat) (hE : EnvOk n a L) (H : St w0 As w) (hi : As[i]? = some (MpA r ek ev m)) (hk : KeyOk P kt ek eq) {g : V × Bool} (hl : mLook eq k z m = some g) (ho : o.op = .lookup mt x y true)
    (ht : P.underlying mt = some (.map kt vt)) (hz : P.info? vt = some ti) (hz0 : ti.zero = some (ev z)) (hx : evO L x = some (.map (some r))) (hy : evO L y = some (ek k)) :
    OpTo P o a w fun v w' => v = .tuple #[ev g.1, .bool g.2] ∧ w' = w := by
  obtain ⟨dst, op, type, pos, after, guard⟩ := o
  simp only at ho
  subst ho
  have hl := run_lookup (k := k) H i hi hk ht hz hz0 true hl
  exact OpTo.of_run (w' := w) (by simp [execOp, hE.eval hx, hE.eval hy, hl]) ⟨rfl, rfl⟩
theorem OpTo.mpGet {mt vt : TypeId} {ti : TypeInfo} {z : V} {x y : Operand} (i : Nat) (hE : EnvOk n a L) (H : St w0 As w) (hi : As[i]? = some (MpA r ek ev m)) (hk : KeyOk P kt ek eq) {g : V × Bool} (hl : mLook eq k z m = some g) (ho : o.op = .lookup mt x y false)
    (ht : P.underlying mt = some (.map kt vt)) (hz : P.info? vt = some ti) (hz0 : ti.zero = some (ev z)) (hx : evO L x = some (.map (some r))) (hy : evO L y = some (ek k)) :
    OpTo P o a w fun v w' => v = ev g.1 ∧ w' = w := by
  obtain ⟨dst, op, type, pos, after, guard⟩ := o
  simp only at ho
  subst ho
  have hl := run_lookup (k := k) H i hi hk ht hz hz0 false hl
  exact OpTo.of_run (w' := w) (by simp [execOp, hE.eval hx, hE.eval hy, hl]) ⟨rfl, rfl⟩

theorem map_eraseIdx' {α β : Type} (f : α → β) : ∀ (l : List α) (j : Nat), (l.eraseIdx j).map f = (l.map f).eraseIdx j
  | [], _ => rfl
  | _ :: _, 0 => rfl
  | x :: l, j + 1 => by simp [map_eraseIdx' f l j]

theorem St.mpOpen (H : St w0 (MpA r ek ev m :: As) w) : ∃ es cl, St w0 (One r (.map es cl) :: As) w ∧ es.toList.map (fun e => (e.key, e.val)) = m.map fun p => (ek p.1, ev p.2) := by
  obtain ⟨x, H⟩ := H.ex
  have hx := H.fact fun h hh => hh.2
  exact ⟨x.1, x.2, H.head fun h hh => hh.1, hx⟩
theorem St.mpSet {es es' : Array MapEntry} {cl cl' : Nat} {m' : List (K × V)} (H : St w0 (One r (.map es cl) :: As) w) (he : es'.toList.map (fun e => (e.key, e.val)) = m'.map fun p => (ek p.1, ev p.2)) :
    St w0 (MpA r ek ev m' :: As) { w with heap := w.heap.setIfInBounds r (.map es' cl') } := by
  have hb := H.one 0 rfl
  have := H.set (w' := { w with heap := w.heap.setIfInBounds r (.map es' cl') }) (o' := .map es' cl') rfl rfl rfl (Go.MapKept.heap_set hb).1 (Go.MapKept.heap_set hb).2
  exact this.head fun h hh => ⟨(es', cl'), hh, he⟩

def putParts : Op → Option (TypeId × Operand × Operand × Operand)
  | .mapUpdate t m k x => some (t, m, k, x)
  | .insert t m k x => some (t, m, k, x)
  | _ => none
theorem OpTo.mpPut {mt vt : TypeId} {x y z : Operand} {v : V} (hE : EnvOk n a L) (H : St w0 (MpA r ek ev m :: As) w) (hk : KeyOk P kt ek eq) (ho : putParts o.op = some (mt, x, y, z))
    (ht : P.underlying mt = some (.map kt vt)) (hx : evO L x = some (.map (some r))) (hy : evO L y = some (ek k)) (hz : evO L z = some (ev v)) : OpTo P o a w fun _ w' => St w0 (MpA r ek ev (mPut eq k v m) :: As) w' := by
  obtain ⟨es, cl, H1, he⟩ := H.mpOpen
  have hb := H1.one 0 rfl
  have key : ∃ w', (Instr.mapUpdate mt (.map (some r)) (ek k) (ev v)).run P w = .ok () w' ∧ St w0 (MpA r ek ev (mPut eq k v m) :: As) w' := by
    rcases hk.found w k he with ⟨f1, f2, f3, _⟩ | ⟨j, e, v', f1, f2, f3, f4, f5, _⟩
    · refine ⟨{ w with heap := w.heap.setIfInBounds r (.map (es.push { key := ek k, val := ev v, born := cl }) (cl + 1)) }, ?_, H1.mpSet ?_⟩
      · simp [Instr.mapUpdate, run_und P ht, Go.MapKept.run_getObj_map hb, hk.check, f1, Go.MapKept.run_setObj_map _ hb, Result.andThen]
      · rw [f3]; simp [he]
    · have hj : es[j]? = some e := by simpa using f2
      refine ⟨{ w with heap := w.heap.setIfInBounds r (.map (es.modify j fun e => { e with key := ek k, val := ev v }) cl) }, ?_, H1.mpSet ?_⟩
      · simp [Instr.mapUpdate, run_und P ht, Go.MapKept.run_getObj_map hb, hk.check, f1, hj, f3, hk.stays, Go.MapKept.run_setObj_map _ hb, Result.andThen]
      · rw [f5]
        apply List.ext_getElem?
        intro i
        have hi := congrArg (fun l => l[i]?) he
        simp only [List.getElem?_map, Array.getElem?_toList] at hi
        simp only [List.getElem?_map, Array.getElem?_toList, Array.getElem?_modify, List.getElem?_set]
        by_cases hij : j = i
        · subst hij
          have hl : j < m.length := by
            rw [hj] at hi
            cases hm : m[j]? with
            | none => rw [hm] at hi; simp at hi
            | some _ => exact (List.getElem?_eq_some_iff.1 hm).1
          simp [hj, hl]
        · simp [hij, hi]
  obtain ⟨w', h1, h2⟩ := key
  obtain ⟨dst, op, type, pos, after, guard⟩ := o
  cases op <;> simp only [putParts] at ho <;> try cases ho
  all_goals exact OpTo.of_skip (w' := w') (by simp [execOp, hE.eval hx, hE.eval hy, hE.eval hz, h1]) h2

theorem OpTo.mpDel {mt vt : TypeId} {x y : Operand} {ats : Array TypeId} (hE : EnvOk n a L) (H : St w0 (MpA r ek ev m :: As) w) (hk : KeyOk P kt ek eq) (ho : o.op = .call { callee := .builtin .delete, args := #[x, y], argTypes := ats }) (ha : ats[0]? = some mt)
    (ht : P.underlying mt = some (.map kt vt)) (hx : evO L x = some (.map (some r))) (hy : evO L y = some (ek k)) : OpTo P o a w fun v w' => v = .tuple #[] ∧ St w0 (MpA r ek ev (mDel eq k m) :: As) w' := by
  obtain ⟨es, cl, H1, he⟩ := H.mpOpen
  have hb := H1.one 0 rfl
  obtain ⟨dst, op, type, pos, after, guard⟩ := o
  simp only at ho
  subst ho
  rcases hk.found w k he with ⟨f1, f2, _, f4⟩ | ⟨j, e, v', f1, f2, f3, f4, _, f6⟩
  · refine OpTo.of_run (w' := { w with heap := w.heap.setIfInBounds r (.map es cl) }) (v := .tuple #[]) ?_ ⟨rfl, H1.mpSet (by rw [f4]; exact he)⟩
    simp [execOp, resolve, invoke, builtin, hE.eval hx, hE.eval hy, Builtin.delete_, ha, run_und P ht, Go.MapKept.run_getObj_map hb, hk.check, f1, Go.MapKept.run_setObj_map _ hb, Result.andThen]
  · refine OpTo.of_run (w' := { w with heap := w.heap.setIfInBounds r (.map (es.eraseIdxIfInBounds j) cl) }) (v := .tuple #[]) ?_ ⟨rfl, H1.mpSet ?_⟩
    · simp [execOp, resolve, invoke, builtin, hE.eval hx, hE.eval hy, Builtin.delete_, ha, run_und P ht, Go.MapKept.run_getObj_map hb, hk.check, f1, Go.MapKept.run_setObj_map _ hb, Result.andThen]
    · rw [f6]
      have hj : j < es.size := by
        have := (List.getElem?_eq_some_iff.1 f2).1
        simpa using this
      simp only [Array.eraseIdxIfInBounds, hj, dif_pos, Array.toList_eraseIdx, map_eraseIdx', he]
end
section
variable {K V : Type} {P : Program} {ek : K → Value} {ev : V → Value} {w w0 : World} {As : List HP} {n r : Nat} {L : Env} {o : Oper} {a : Act} {m : List (K × V)}
theorem OpTo.mpClear {mt kt vt : TypeId} {x : Operand} {ats : Array TypeId} (hE : EnvOk n a L) (H : St w0 (MpA r ek ev m :: As) w) (ho : o.op = .call { callee := .builtin .clear, args := #[x], argTypes := ats }) (ha : ats[0]? = some mt)
    (ht : P.underlying mt = some (.map kt vt)) (hx : evO L x = some (.map (some r))) : OpTo P o a w fun v w' => v = .tuple #[] ∧ St w0 (MpA r ek ev [] :: As) w' := by
  obtain ⟨es, cl, H1, he⟩ := H.mpOpen
  have hb := H1.one 0 rfl
  obtain ⟨dst, op, type, pos, after, guard⟩ := o
  simp only at ho
  subst ho
  refine OpTo.of_run (w' := { w with heap := w.heap.setIfInBounds r (.map #[] cl) }) (v := .tuple #[]) ?_ ⟨rfl, H1.mpSet (by simp)⟩
  simp [execOp, resolve, invoke, builtin, hE.eval hx, Builtin.clear_, ha, run_und P ht, Go.MapKept.run_getObj_map hb, Go.MapKept.run_setObj_map _ hb, Result.andThen]
end

/-! Results that may be nil. -/
def elemV (sb : Option Addr) (sz : Nat) : Option Int → Value
  | none => .pointer none
  | some i => match sb with
    | some ⟨b, off, _⟩ => .pointer (some ⟨b, off + (Int.toNat i) * sz, none⟩)
    | none => .pointer none
theorem elemV_some {sb : Option Addr} {sz b off : Nat} {i : Int} (h : sb = some ⟨b, off, none⟩) : elemV sb sz (some i) = .pointer (some ⟨b, off + (Int.toNat i) * sz, none⟩) := by subst h; rfl
def optV {α : Type} (q : Nat) : Option α → Value
  | none => .pointer none
  | some _ => .pointer (some ⟨q, 0, none⟩)
def OptR {α : Type} (f : α → HP) : Option α → HP
  | none => fun _ => True
  | some m => f m
theorem St.optN {α : Type} {f : α → HP} {w0 w : World} {As : List HP} (H : St w0 As w) : St w0 (OptR f none :: As) w :=
  ⟨H.os, H.tape, H.output, fun _ => none, hpOf w, fun _ => .inl rfl, fun _ _ h => by simp at h, Sub.refl _, trivial, H.heap⟩
def oS {α : Type} : Option α → Unit ⊕ α
  | none => .inl ()
  | some x => .inr x
def mCase {α β : Type} (o : Option α) (n : Option β) (s : α → Option β) : Option β := match oS o with
  | .inl _ => n
  | .inr x => s x
theorem case_n {α β : Type} {o : Option α} {n r : Option β} {s : α → Option β} (ho : o = none) (hm : mCase o n s = r) : n = r := by subst ho; exact hm
theorem case_s {α β : Type} {o : Option α} {n r : Option β} {s : α → Option β} {x : α} (ho : o = some x) (hm : mCase o n s = r) : s x = r := by subst ho; exact hm
theorem idx_bd {α : Type} {l : List α} {i : Int} {x : α} (h : mIdx l i = some x) : 0 ≤ i ∧ i < ((l.length : Nat) : Int) := (idx_spec h).1
theorem idx_at {α : Type} {l : List α} {i : Int} {x : α} (h : mIdx l i = some x) : l[i.toNat]? = some x := (idx_spec h).2
theorem idx_lt {α : Type} {a b : α} {i : Int} {x : α} (h : mIdx [a, b] i = some x) : i = 0 ∨ i = 1 := by
  have := (idx_spec h).1
  simp only [List.length_cons, List.length_nil] at this
  omega

/-! Bytes. -/
def ecU (x : Int) : List Value := [.int .u8 x]
theorem ecU_ok : EncOk ecU 1 := ⟨fun _ => rfl, fun x u hu => by simp [ecU] at hu; subst hu; rfl⟩

/-! What is told beside the parts. -/
def Pure (q : Prop) : HP := fun _ => q
theorem St.pure {q : Prop} {w0 w : World} {As : List HP} (H : St w0 (Pure q :: As) w) : q ∧ St w0 As w := ⟨H.fact fun _ h => h, H.x0⟩
theorem St.pureI {q : Prop} {w0 w : World} {As : List HP} (h : q) (H : St w0 As w) : St w0 (Pure q :: As) w :=
  ⟨H.os, H.tape, H.output, fun _ => none, hpOf w, fun _ => .inl rfl, fun _ _ h => by simp at h, Sub.refl _, h, H.heap⟩
theorem mSet_at {α : Type} {l : List α} {i : Int} {x y : α} (h : mIdx l i = some x) : mIdx (mSet l i y) i = some y := by
  obtain ⟨⟨h0, h1⟩, h2⟩ := idx_spec h
  have hl : i.toNat < l.length := by omega
  simp [mIdx, mSet, h0, hl]
end Go.Th
