/-
  The engine, part 12: slices of slices that are only read.
-/
import Derived.Test.YtgchbhnchhiehaaGreatE11
set_option linter.unusedVariables false
set_option linter.unusedSimpArgs false
namespace Go.Th

/-- a row of a slice of slices: where it stands, its capacity, what it holds -/
structure NRow (α : Type) where
  b : Option Addr
  c : Nat
  l : List α
def ecN {α : Type} (x : NRow α) : List Value := [.slice x.b x.l.length x.c]
theorem ecN_ok {α : Type} : EncOk (ecN (α := α)) 1 := ⟨fun _ => rfl, fun x u hu => by simp [ecN] at hu; subst hu; rfl⟩
theorem idx_mem {α : Type} {l : List α} {i : Int} {x : α} (h : mIdx l i = some x) : x ∈ l := by
  unfold mIdx at h
  split at h
  · exact List.mem_of_getElem? h
  · cases h
section
variable {α H : Type} {en : TypeId × Value → H} {P : Program} {w : World} {base : Nat} {spare : Nat → Bool} {held : Bool} {enc : α → List Value} {sz : Nat}
/-- A slice among the arguments, with what is known of its elements. -/
theorem open_rdQ {Q : α → Prop} {t e : TypeId} {fuel : Nat} {cs : List Value} {x : DataW H × List MemPlace} (ht : P.underlying t = some (.slice e)) (hc : P.cellsOf e = sz) (he : EncOk enc sz) (hs : 0 < sz)
    (hdec : ∀ n cs y, DataW.trod en P w base spare held n e cs = some y → ∃ z : α, cs = enc z ∧ Q z) (h : DataW.trod en P w base spare held fuel t cs = some x) :
    ∃ (sb : Option Addr) (len cap : Nat) (l : List α), cs = [.slice sb len cap] ∧ l.length = len ∧ len ≤ cap ∧ SlRd (Old w) enc sz sb l ∧ ∀ z ∈ l, Q z := by
  rcases Go.Deep.open_slice ht h with ⟨rfl, _⟩ | ⟨a, len, cap, m, n, D, Pl, rfl, hb, hl, hm, hmm, _, hx⟩
  · exact ⟨none, 0, 0, [], rfl, rfl, Nat.le_refl _, fun _ _ => .inl rfl, by simp⟩
  · obtain ⟨l, hll, hp⟩ := list_of (α := α) (p := fun i z => w.cells? base (a.add (i * sz)) sz = some (enc z) ∧ Q z) len fun i hi => by
      obtain ⟨cs', h1, h2⟩ := hx i (by rw [hmm]; split <;> omega)
      obtain ⟨z, rfl, hq⟩ := hdec _ _ _ h2
      rw [hc] at h1
      exact ⟨z, h1, hq⟩
    refine ⟨some a, len, cap, l, rfl, hll, hl, old_rd he hs l fun j u hu => ?_, fun z hz => ?_⟩
    · have hlt := (List.getElem?_eq_some_iff.1 hu).1
      rw [flat_length he] at hlt
      have hj : j / sz < l.length := Nat.div_lt_of_lt_mul (by rw [Nat.mul_comm]; exact hlt)
      have hq : j % sz < sz := Nat.mod_lt _ hs
      have e1 := flat_get he l (j / sz) (j % sz) hj hq
      have e2 : j / sz * sz + j % sz = j := by rw [Nat.mul_comm]; exact Nat.div_add_mod j sz
      rw [e2, hu] at e1
      have hcell := (hp (j / sz) l[j / sz] (by simp [hj])).1
      obtain ⟨_, _, hc2⟩ := World.cells?_some hcell
      have := hc2 (j % sz) (by exact hq)
      rw [← e1] at this
      rw [← this]
      congr 1
      rw [Go.Deep.add_add, e2]
    · obtain ⟨i, hi⟩ := List.getElem?_of_mem hz
      exact (hp i z hi).2
/-- A slice of slices among the arguments. -/
theorem open_rdN {t e d : TypeId} {fuel : Nat} {cs : List Value} {x : DataW H × List MemPlace} (ht : P.underlying t = some (.slice e)) (ht2 : P.underlying e = some (.slice d)) (hc : P.cellsOf e = 1) (hc2 : P.cellsOf d = sz) (he : EncOk enc sz) (hs : 0 < sz)
    (hdec : ∀ n cs y, DataW.trod en P w base spare held n d cs = some y → ∃ z : α, cs = enc z) (h : DataW.trod en P w base spare held fuel t cs = some x) :
    ∃ (sb : Option Addr) (len cap : Nat) (l : List (NRow α)), cs = [.slice sb len cap] ∧ l.length = len ∧ len ≤ cap ∧ SlRd (Old w) ecN 1 sb l ∧ ∀ z ∈ l, SlRd (Old w) enc sz z.b z.l ∧ z.l.length ≤ z.c :=
  open_rdQ (Q := fun z : NRow α => SlRd (Old w) enc sz z.b z.l ∧ z.l.length ≤ z.c) ht hc ecN_ok (by decide) (fun n cs y h => by
    obtain ⟨sb, len, cap, l, rfl, rfl, h2, h3⟩ := open_rd ht2 hc2 he hs hdec h
    exact ⟨⟨sb, cap, l⟩, rfl, h3, h2⟩) h
end
end Go.Th
