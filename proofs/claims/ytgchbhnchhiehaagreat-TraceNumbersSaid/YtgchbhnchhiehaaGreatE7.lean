/-
  The engine, part 7: from a call that was walked to what a row asks; slices among the arguments.
-/
import Derived.Test.YtgchbhnchhiehaaGreatE6
import Derived.Below
import Derived.Deep.Slices
import Derived.Deep.Strs
import Derived.Lib.SmallJoins
set_option linter.unusedVariables false
set_option linter.unusedSimpArgs false
namespace Go.Th

theorem St.below {w w' : World} {As : List HP} (H : St w As w') (i : Nat) (hi : As[i]? = some (Old w)) : Go.RowKit.Below w.heap.size w w' := by
  have ho := H.old i hi
  refine ⟨H.os, H.tape, H.output, ?_, ho⟩
  by_cases hz : w.heap.size = 0
  · omega
  · have := ho (w.heap.size - 1) (by omega)
    have e : w.heap[w.heap.size - 1]? = some (w.heap[w.heap.size - 1]'(by omega)) := by simp
    rw [e] at this
    have := (Array.getElem?_eq_some_iff.1 this).1
    omega

theorem list_of {α : Type} {p : Nat → α → Prop} : ∀ n : Nat, (∀ i, i < n → ∃ x, p i x) → ∃ l : List α, l.length = n ∧ ∀ (i : Nat) (x : α), l[i]? = some x → p i x
  | 0, _ => ⟨[], rfl, fun i x h => by simp at h⟩
  | n + 1, h => by
    obtain ⟨l, hl, hp⟩ := list_of n fun i hi => h i (by omega)
    obtain ⟨x, hx⟩ := h n (by omega)
    refine ⟨l ++ [x], by simp [hl], fun i y hy => ?_⟩
    by_cases hi : i < n
    · rw [List.getElem?_append_left (by omega)] at hy
      exact hp i y hy
    · have hlt := (List.getElem?_eq_some_iff.1 hy).1
      simp [hl] at hlt
      have hin : i = n := by omega
      subst hin
      rw [List.getElem?_append_right (by omega)] at hy
      simp [hl] at hy
      subst hy; exact hx

section
variable {α H : Type} {en : TypeId × Value → H} {P : Program} {w : World} {base : Nat} {spare : Nat → Bool} {held : Bool} {enc : α → List Value} {sz : Nat}

theorem old_rd (he : EncOk enc sz) (hs : 0 < sz) {a : Addr} (l : List α) (h : ∀ (j : Nat) (u : Value), (l.flatMap enc)[j]? = some u → w.cell? (a.add j) = some u) : SlRd (Old w) enc sz (some a) l := by
  intro g hg
  by_cases hl : l = []
  · exact .inl hl
  have hfl := flat_length he l
  have hpos : 0 < l.length := by cases l with
    | nil => exact absurd rfl hl
    | cons => simp
  have hp : 0 < (l.flatMap enc).length := by rw [hfl]; exact Nat.mul_pos hpos hs
  have h0 := h 0 _ (List.getElem?_eq_getElem hp)
  have e0 : a.add 0 = a := by simp [Addr.add]
  rw [e0] at h0
  obtain ⟨b, off, spot⟩ := a
  unfold World.cell? at h0
  split at h0
  · rename_i c T fr hb
    split at h0
    · cases h0
    · rename_i hsp
      have hsn : spot = none := by simpa using hsp
      subst hsn
      have hlt : b < w.heap.size := (Array.getElem?_eq_some_iff.1 hb).1
      refine .inr ⟨b, off, c, T, fr, rfl, by rw [hg b hlt]; exact hb, fun i hi => ?_⟩
      have hi' : i < (l.flatMap enc).length := by rw [hfl]; exact hi
      have hc := h i _ (List.getElem?_eq_getElem hi')
      rw [List.getElem?_eq_getElem hi', ← hc]
      unfold Addr.add
      split
      · rename_i hz; subst hz; simp [World.cell?, hb]
      · simp [World.cell?, hb]
  · cases h0

/-- A slice among the arguments, whatever its elements. -/
theorem open_rd {t e : TypeId} {fuel : Nat} {cs : List Value} {x : DataW H × List MemPlace} (ht : P.underlying t = some (.slice e)) (hc : P.cellsOf e = sz) (he : EncOk enc sz) (hs : 0 < sz)
    (hdec : ∀ n cs y, DataW.trod en P w base spare held n e cs = some y → ∃ z : α, cs = enc z) (h : DataW.trod en P w base spare held fuel t cs = some x) :
    ∃ (sb : Option Addr) (len cap : Nat) (l : List α), cs = [.slice sb len cap] ∧ l.length = len ∧ len ≤ cap ∧ SlRd (Old w) enc sz sb l := by
  rcases Go.Deep.open_slice ht h with ⟨rfl, _⟩ | ⟨a, len, cap, m, n, D, Pl, rfl, hb, hl, hm, hmm, _, hx⟩
  · exact ⟨none, 0, 0, [], rfl, rfl, Nat.le_refl _, fun _ _ => .inl rfl⟩
  · obtain ⟨l, hll, hp⟩ := list_of (α := α) (p := fun i z => w.cells? base (a.add (i * sz)) sz = some (enc z)) len fun i hi => by
      obtain ⟨cs', h1, h2⟩ := hx i (by rw [hmm]; split <;> omega)
      obtain ⟨z, rfl⟩ := hdec _ _ _ h2
      rw [hc] at h1
      exact ⟨z, h1⟩
    refine ⟨some a, len, cap, l, rfl, hll, hl, old_rd he hs l fun j u hu => ?_⟩
    have hlt := (List.getElem?_eq_some_iff.1 hu).1
    rw [flat_length he] at hlt
    have hj : j / sz < l.length := Nat.div_lt_of_lt_mul (by rw [Nat.mul_comm]; exact hlt)
    have hq : j % sz < sz := Nat.mod_lt _ hs
    have e1 := flat_get he l (j / sz) (j % sz) hj hq
    have e2 : j / sz * sz + j % sz = j := by rw [Nat.mul_comm]; exact Nat.div_add_mod j sz
    rw [e2, hu] at e1
    have hcell := hp (j / sz) l[j / sz] (by simp [hj])
    obtain ⟨_, _, hc2⟩ := World.cells?_some hcell
    have := hc2 (j % sz) (by exact hq)
    rw [← e1] at this
    rw [← this]
    congr 1
    rw [Go.Deep.add_add, e2]

/-- The same, with how long the datum is. -/
theorem open_rdL {t e : TypeId} {fuel : Nat} {cs : List Value} {d : DataW H} {p : List MemPlace} (ht : P.underlying t = some (.slice e)) (hc : P.cellsOf e = sz) (he : EncOk enc sz) (hs : 0 < sz)
    (hdec : ∀ n cs y, DataW.trod en P w base spare held n e cs = some y → ∃ z : α, cs = enc z) (h : DataW.trod en P w base spare held fuel t cs = some (d, p)) :
    ∃ (sb : Option Addr) (len cap : Nat) (l : List α), cs = [.slice sb len cap] ∧ l.length = len ∧ len ≤ cap ∧ SlRd (Old w) enc sz sb l ∧ (len = 0 ∨ ∃ els sp, d = .slice els sp ∧ els.length = len) := by
  obtain ⟨sb, len, cap, l, h1, h2, h3, h4⟩ := open_rd ht hc he hs hdec h
  refine ⟨sb, len, cap, l, h1, h2, h3, h4, ?_⟩
  rcases Go.Deep.open_slice ht h with ⟨h5, _⟩ | ⟨a, len', cap', m, n, D, Pl, h5, hb, hl, hm, hmm, hx, _⟩
  · rw [h1] at h5; cases h5; exact .inl rfl
  · rw [h1] at h5; cases h5
    exact .inr ⟨_, _, congrArg Prod.fst hx, by simp⟩

theorem dec_int {e : TypeId} (he : P.underlying e = some (.int .i64)) : ∀ n cs y, DataW.trod en P w base spare held n e cs = some y → ∃ z : Int, cs = ecI z := fun n cs y h => by
  obtain ⟨z, rfl, _⟩ := DataW.trod_int he h
  exact ⟨z, rfl⟩
theorem dec_bool {e : TypeId} (he : P.underlying e = some .bool) : ∀ n cs y, DataW.trod en P w base spare held n e cs = some y → ∃ z : Bool, cs = ecB z := fun n cs y h => by
  obtain ⟨z, rfl, _⟩ := DataW.trod_bool he h
  exact ⟨z, rfl⟩
theorem dec_string {e : TypeId} (he : P.underlying e = some .string) : ∀ n cs y, DataW.trod en P w base spare held n e cs = some y → ∃ z : ByteArray, cs = ecS z := fun n cs y h => by
  obtain ⟨z, rfl, _⟩ := DataW.trod_string he h
  exact ⟨z, rfl⟩
/-- A structure of numbers, each a cell. -/
theorem dec_ints {e : TypeId} {fs : Array Field} (k : Nat) (hs : P.underlying e = some (.struct fs)) (hk : fs.size = k) (hc : P.cellsOf e = k) (hf : (List.range k).all (fun i => match fs[i]? with
      | some f => f.offset == i && (P.cellsOf f.type == 1) && (match P.underlying f.type with | some (.int .i64) => true | _ => false)
      | none => false) = true) : ∀ n cs y, DataW.trod en P w base spare held n e cs = some y → ∃ z : List Int, z.length = k ∧ cs = z.map fun x => .int .i64 x := fun n cs y h => by
  obtain ⟨xs, m, _, _, hl, hxl, hx⟩ := DataW.trod_struct hs h
  rw [hc] at hl
  rw [List.all_eq_true] at hf
  obtain ⟨z, hz, hp⟩ := list_of (α := Int) (p := fun i z => cs[i]? = some (.int .i64 z)) k fun i hi => by
    have h1 := hf i (List.mem_range.2 hi)
    split at h1
    · rename_i f hfi
      simp only [Bool.and_eq_true, beq_iff_eq] at h1
      obtain ⟨⟨h2, h3⟩, h4⟩ := h1
      split at h4
      · rename_i hu
        have hx1 := hx i f hfi
        rw [h2, h3] at hx1
        have hxi : i < xs.length := by omega
        rw [List.getElem?_eq_getElem hxi] at hx1
        obtain ⟨q, hq, _⟩ := DataW.trod_int hu hx1
        refine ⟨q, ?_⟩
        have : ((cs.drop i).take 1)[0]? = some (.int .i64 q) := by rw [hq]; rfl
        rw [List.getElem?_take, if_pos (by omega), List.getElem?_drop] at this
        simpa using this
      · cases h4
    · cases h1
  refine ⟨z, hz, List.ext_getElem? fun i => ?_⟩
  rw [List.getElem?_map]
  cases hzi : z[i]? with
  | some q => rw [hp i q hzi]; rfl
  | none =>
    have := List.getElem?_eq_none_iff.1 hzi
    rw [List.getElem?_eq_none (by omega)]; rfl
end

end Go.Th
