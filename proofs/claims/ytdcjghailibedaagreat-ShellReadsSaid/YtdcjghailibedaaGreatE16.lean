/-
  The engine, part 16: among a row's arguments: structures that hold slices; numbers with what they may be.
-/
import Derived.Test.YtdcjghailibedaaGreatE14
set_option linter.unusedVariables false
set_option linter.unusedSimpArgs false
namespace Go.Th
def I64 (x : Int) : Prop := -9223372036854775808 ≤ x ∧ x < 9223372036854775808
theorem wf_I64 {x : Int} (h : (Lit.int .i64 x).wf = true) : I64 x := by
  simp [Lit.wf, IntKind.min, IntKind.max, IntKind.signed, IntKind.bits] at h
  exact ⟨h.1, by omega⟩
section
variable {H : Type} {en : TypeId × Value → H} {P : Program} {w : World} {base : Nat} {spare : Nat → Bool} {held : Bool}
theorem ints_ciR : ∀ (d : Nat) (e : TypeId), intsOnly P d e = true → ∀ n cs y, DataW.trod en P w base spare held n e cs = some y → cs.length = P.cellsOf e ∧ ∀ (j : Nat) (u : Value), cs[j]? = some u → ∃ z : Int, u = Value.int .i64 z ∧ I64 z
  | 0, e, h, _, _, _, _ => by simp [intsOnly] at h
  | d + 1, e, h, n, cs, y, ht => by
    rw [intsOnly] at h
    split at h
    · rename_i hu
      obtain ⟨q, rfl, _, hw⟩ := DataW.trod_int hu ht
      refine ⟨by simpa using (beq_iff_eq.1 h).symm, fun j u hj => ⟨q, ?_, wf_I64 hw⟩⟩
      cases j with
      | zero => simpa using hj.symm
      | succ j => simp at hj
    · rename_i fs hu
      simp only [Bool.and_eq_true, List.all_eq_true] at h
      obtain ⟨h1, h2⟩ := h
      obtain ⟨xs, m, _, _, hl, hxl, hx⟩ := DataW.trod_struct hu ht
      refine ⟨hl, fun j u hj => ?_⟩
      have hjl : j < P.cellsOf e := by rw [← hl]; exact (List.getElem?_eq_some_iff.1 hj).1
      have h3 := h2 j (List.mem_range.2 hjl)
      obtain ⟨f, hf, h4⟩ := List.any_eq_true.1 h3
      simp only [Bool.and_eq_true] at h4
      have h5 := Nat.le_of_ble_eq_true h4.1
      have h6 : j < f.offset + P.cellsOf f.type := by
        have := h4.2
        simp only [Nat.blt] at this
        exact Nat.le_of_ble_eq_true this
      obtain ⟨i, hi⟩ := List.getElem?_of_mem hf
      have hfi : fs[i]? = some f := by simpa using hi
      have hxi := hx i f hfi
      have hil : i < xs.length := by
        have := (Array.getElem?_eq_some_iff.1 hfi).1
        omega
      rw [List.getElem?_eq_getElem hil] at hxi
      obtain ⟨_, h7⟩ := ints_ciR d f.type (h1 f hf) _ _ _ hxi
      refine h7 (j - f.offset) u ?_
      rw [List.getElem?_take, if_pos (by omega), List.getElem?_drop]
      rw [show f.offset + (j - f.offset) = j by omega]
      exact hj
    · cases h
theorem dec_nestR {e : TypeId} (k : Nat) (hi : intsOnly P 5 e = true) (hc : P.cellsOf e = k) : ∀ n cs y, DataW.trod en P w base spare held n e cs = some y → ∃ z : List Int, z.length = k ∧ cs = (z.map fun x => .int .i64 x) ∧ ∀ x ∈ z, I64 x := fun n cs y h => by
  obtain ⟨hl, hci⟩ := ints_ciR 5 e hi n cs y h
  rw [hc] at hl
  obtain ⟨z, hz, hp⟩ := list_of (α := Int) (p := fun i z => cs[i]? = some (.int .i64 z) ∧ I64 z) k fun i hi => by
    have hlt : i < cs.length := by omega
    obtain ⟨q, hq, hr⟩ := hci i cs[i] (by simp [hlt])
    exact ⟨q, by rw [List.getElem?_eq_getElem hlt, hq], hr⟩
  refine ⟨z, hz, ?_, fun x hx => ?_⟩
  · apply List.ext_getElem?
    intro i
    by_cases hik : i < k
    · have hzi : i < z.length := by omega
      rw [(hp i z[i] (by simp [hzi])).1]
      simp [hzi]
    · rw [List.getElem?_eq_none (by omega), List.getElem?_eq_none (by simp; omega)]
  · obtain ⟨i, hi⟩ := List.mem_iff_getElem?.1 hx
    exact (hp i x hi).2
end
theorem SlRd.sub {α : Type} {p : α → Prop} {X : HP} {enc : α → List Value} {sz : Nat} {sb : Option Addr} {l : List {z : α // p z}} (h : SlRd X (fun z => enc z.1) sz sb l) : SlRd X enc sz sb (l.map (·.1)) := by
  intro g hg
  rcases h g hg with rfl | ⟨b, off, cs, T, fr, h1, h2, h3⟩
  · exact .inl rfl
  · refine .inr ⟨b, off, cs, T, fr, h1, h2, fun i hi => ?_⟩
    rw [List.length_map] at hi
    rw [h3 i hi]
    simp [List.flatMap_map]
theorem sub_all {α : Type} {p : α → Prop} (l : List {z : α // p z}) : ∀ z ∈ l.map (·.1), p z := fun z hz => by
  obtain ⟨y, _, rfl⟩ := List.mem_map.1 hz
  exact y.2
theorem EncOk.sub {α : Type} {p : α → Prop} {enc : α → List Value} {sz : Nat} (h : EncOk enc sz) : EncOk (fun z : {z : α // p z} => enc z.1) sz := ⟨fun x => h.len x.1, fun x => h.one x.1⟩
/-- A structure each field of which is a cell. -/
def oneEach (P : Program) (fs : Array Field) : Bool := (List.range fs.size).all fun i => match fs[i]? with
  | some f => Nat.beq f.offset i && Nat.beq (P.cellsOf f.type) 1
  | none => false
theorem open_one {H : Type} {en : TypeId × Value → H} {P : Program} {W : World} {base b0 : Nat} {spare : Nat → Bool} {held : Bool} {r : Reach} {t : TypeId} {fs : Array Field} {v : Value} {d : DataW H} {p : List MemPlace} (hs : P.underlying t = some (.struct fs)) (ho : oneEach P fs = true)
    (hv : Value.okWide P W r b0 t v) (h : DataW.Trod en P W base spare held t v d p) : ∃ (cs : List Value) (n : Nat), v = .agg cs.toArray ∧ cs.length = P.cellsOf t ∧ ∀ (i : Nat) (f : Field) (c : Value), fs[i]? = some f → cs[i]? = some c → ∃ y, DataW.trod en P W base spare held n f.type [c] = some y := by
  obtain ⟨ca, rfl, hsz⟩ := Go.WideShapes.okWide_struct hs hv
  obtain ⟨fuel, hf⟩ := h
  obtain ⟨xs, n, _, _, hl, hxl, hx⟩ := DataW.trod_struct hs hf
  refine ⟨ca.toList, n, by simp, by simpa using hsz, fun i f c hfi hci => ?_⟩
  have h1 := hx i f hfi
  have hil : i < fs.size := (Array.getElem?_eq_some_iff.1 hfi).1
  unfold oneEach at ho
  rw [List.all_eq_true] at ho
  have h2 := ho i (List.mem_range.2 hil)
  rw [hfi] at h2
  simp only [Bool.and_eq_true] at h2
  have h3 := Nat.eq_of_beq_eq_true h2.1
  have h4 := Nat.eq_of_beq_eq_true h2.2
  rw [h3, h4] at h1
  have h5 : ((Value.agg ca).cells.toList.drop i).take 1 = [c] := by
    have hlt := (List.getElem?_eq_some_iff.1 hci).1
    have : (Value.agg ca).cells.toList = ca.toList := by simp [Value.cells]
    rw [this, List.drop_eq_getElem_cons hlt]
    simp
    have := (List.getElem?_eq_some_iff.1 hci).2
    simpa using this
  rw [h5] at h1
  have hxi : i < xs.length := by omega
  exact ⟨xs[i], by rw [h1]; simp [hxi]⟩
end Go.Th
namespace Go.Th
def EncI64 {α : Type} (enc : α → List Value) (z : α) : Prop := ∀ n : Int, Value.int .i64 n ∈ enc z → I64 n
theorem mem_ints {l : List Int} {n : Int} (h : Value.int .i64 n ∈ l.map fun x => Value.int .i64 x) : n ∈ l := by
  obtain ⟨x, hx, e⟩ := List.mem_map.1 h
  cases e
  exact hx
end Go.Th
namespace Go.Th
section
variable {H : Type} {en : TypeId × Value → H} {P : Program} {w : World} {base : Nat} {spare : Nat → Bool} {held : Bool}
theorem dec_byte {e : TypeId} (he : P.underlying e = some (.int .u8)) : ∀ n cs y, DataW.trod en P w base spare held n e cs = some y → ∃ z : Int, cs = ecU z := fun n cs y h => by
  obtain ⟨z, rfl, _⟩ := DataW.trod_int he h
  exact ⟨z, rfl⟩
theorem dec_byteR {e : TypeId} (he : P.underlying e = some (.int .u8)) : ∀ n cs y, DataW.trod en P w base spare held n e cs = some y → ∃ z : {z : Int // 0 ≤ z ∧ z ≤ 255}, cs = ecU z.1 := fun n cs y h => by
  obtain ⟨z, rfl, _, hw⟩ := DataW.trod_int he h
  simp [Lit.wf, IntKind.min, IntKind.max, IntKind.signed, IntKind.bits] at hw
  exact ⟨⟨z, hw.1, by omega⟩, rfl⟩
end
end Go.Th
