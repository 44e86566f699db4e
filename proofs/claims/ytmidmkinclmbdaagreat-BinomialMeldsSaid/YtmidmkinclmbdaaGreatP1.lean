/-
  The plain law of the arena: what each of its calls does to the cells that are taken, and how many steps it counts.
-/
import Derived.Test.YtmidmkinclmbdaaGreatBd
import Derived.KernelRfl
set_option linter.unusedVariables false
set_option linter.unusedSimpArgs false
set_option maxRecDepth 10000
namespace Go.Proofs.YtmidmkinclmbdaaGreat
open Go.Th

/-! what a model answers -/
def Do {α : Type} (o : Option α) (Q : α → Prop) : Prop := ∃ r, o = some r ∧ Q r
theorem Do.bind {α β : Type} {o : Option α} {f : α → Option β} {P : α → Prop} {Q : β → Prop} (h : Do o P) (k : ∀ r, P r → Do (f r) Q) : Do (o.bind f) Q := by
  obtain ⟨r, rfl, hp⟩ := h
  exact k r hp
theorem Do.ret {α : Type} {r : α} {Q : α → Prop} (h : Q r) : Do (some r) Q := ⟨r, rfl, h⟩
theorem Do.mono {α : Type} {o : Option α} {P Q : α → Prop} (h : Do o P) (k : ∀ r, P r → Q r) : Do o Q := by
  obtain ⟨r, e, hp⟩ := h
  exact ⟨r, e, k r hp⟩
theorem Do.of {α : Type} {o : Option α} {r : α} {Q : α → Prop} (e : o = some r) (h : Q r) : Do o Q := ⟨r, e, h⟩
theorem Do.t {α : Type} {b : Bool} {x y : Option α} {Q : α → Prop} (h : b = true) (k : Do x Q) : Do (bif b then x else y) Q := by subst h; exact k
theorem Do.f {α : Type} {b : Bool} {x y : Option α} {Q : α → Prop} (h : b = false) (k : Do y Q) : Do (bif b then x else y) Q := by subst h; exact k
theorem Do.tb {α β : Type} {b : Bool} {x y : Option α} {g : α → Option β} {Q : β → Prop} (h : b = true) (k : Do (x.bind g) Q) : Do ((bif b then x else y).bind g) Q := by subst h; exact k
theorem Do.fb {α β : Type} {b : Bool} {x y : Option α} {g : α → Option β} {Q : β → Prop} (h : b = false) (k : Do (y.bind g) Q) : Do ((bif b then x else y).bind g) Q := by subst h; exact k
theorem Do.if {α : Type} {b : Bool} {x y : Option α} {Q : α → Prop} (kt : b = true → Do x Q) (kf : b = false → Do y Q) : Do (bif b then x else y) Q := by
  cases b
  · exact kf rfl
  · exact kt rfl
theorem Do.seq {α β : Type} {o : Option α} {f : α → Option β} {r : α} {Q : β → Prop} (e : o = some r) (k : Do (f r) Q) : Do (o.bind f) Q := by subst e; exact k
theorem Do.elim {α : Type} {o : Option α} {Q : α → Prop} (h : Do o Q) : ∃ r, o = some r ∧ Q r := h
theorem Do.assoc {α β γ : Type} {o : Option α} {f : α → Option β} {g : β → Option γ} {Q : γ → Prop} (h : Do (o.bind fun x => (f x).bind g) Q) : Do ((o.bind f).bind g) Q := by
  cases o <;> exact h

theorem w64_id {x : Int} (h1 : -9223372036854775808 ≤ x) (h2 : x < 9223372036854775808) : w64 x = x := by
  show (if (true && decide (x % 18446744073709551616 ≥ 9223372036854775808)) = true then x % 18446744073709551616 - 18446744073709551616 else x % 18446744073709551616) = x
  by_cases h : x % 18446744073709551616 ≥ 9223372036854775808
  · rw [if_pos (by simpa using h)]; omega
  · rw [if_neg (by simpa using h)]; omega

theorem mIdx_nat {α : Type} (l : List α) (c : Nat) : mIdx l (c : Int) = l[c]? := by
  unfold mIdx; rw [if_pos (by omega)]; simp
theorem mIdx_mid {α : Type} (p q : List α) (y : α) : mIdx (p ++ y :: q) (p.length : Int) = some y := by
  rw [mIdx_nat]; simp
theorem mApp_ok {α : Type} {l ys : List α} (h : l.length + ys.length ≤ 1073741824) : mApp l ys = some (l ++ ys) := by unfold mApp; rw [if_pos h]
theorem mIn_ok {i : Int} {n : Nat} (h : 0 ≤ i) (h' : i < (n : Int)) : mIn i n = some () := by unfold mIn; rw [if_pos ⟨h, h'⟩]

instance decCell : DecidableEq arena_cell := fun a b => by cases a; cases b; simp only [arena_cell.mk.injEq]; exact inferInstance

/-- cells that are taken, with what they have -/
abbrev Heap := List (Nat × arena_cell)
theorem pm {l l' : Heap} (h : ∀ p, l.count p = l'.count p) : l.Perm l' := List.perm_iff_count.2 h

/-- how many cells; steps at the beginning; what the meter keeps beside -/
structure Cfg where
  C : Nat
  b : Int
  g : Int
  mo : Int

/-- An arena whose taken cells are L, at most n steps behind the beginning. -/
structure Ar (κ : Cfg) (n : Nat) (a : arena_Arena) (L : Heap) : Prop where
  len : a.l.length = κ.C
  cap : κ.C ≤ 65536
  nev : ∃ N : Nat, a.never = (N : Int) ∧ N ≤ κ.C ∧ (L.map Prod.fst ++ a.free.map Int.toNat).Perm (List.range N)
  fre : ∀ f ∈ a.free, 0 ≤ f
  hav : ∀ p ∈ L, a.l[p.1]? = some p.2 ∧ p.2.taken = true
  oth : ∀ (c : Nat) x, a.l[c]? = some x → x.taken = true → c ∈ L.map Prod.fst
  b0 : 0 ≤ κ.b
  lo : κ.b ≤ a.m_.steps
  hi : a.m_.steps ≤ κ.b + n
  mx : a.m_.steps ≤ 9223372036854775807
  beg : a.m_.begun = κ.g
  mst : a.m_.most = κ.mo

theorem Ar.p {κ : Cfg} {n : Nat} {a : arena_Arena} {L L' : Heap} (H : Ar κ n a L) (h : L.Perm L') : Ar κ n a L' where
  len := H.len
  cap := H.cap
  nev := by
    obtain ⟨N, e, hN, hp⟩ := H.nev
    exact ⟨N, e, hN, ((h.symm.map _).append_right _).trans hp⟩
  fre := H.fre
  hav := fun p hp => H.hav p (h.mem_iff.2 hp)
  oth := fun c x e t => ((h.map _).mem_iff).1 (H.oth c x e t)
  b0 := H.b0
  lo := H.lo
  hi := H.hi
  mx := H.mx
  beg := H.beg
  mst := H.mst
theorem Ar.mono {κ : Cfg} {n m : Nat} {a : arena_Arena} {L : Heap} (H : Ar κ n a L) (h : n ≤ m) : Ar κ m a L := { H with hi := by have := H.hi; omega }
theorem Ar.t2 {κ : Cfg} {n : Nat} {a : arena_Arena} {x y : Nat × arena_cell} {L : Heap} (H : Ar κ n a (x :: y :: L)) : Ar κ n a (y :: x :: L) := H.p (List.Perm.swap ..)
theorem Ar.t3 {κ : Cfg} {n : Nat} {a : arena_Arena} {x y z : Nat × arena_cell} {L : Heap} (H : Ar κ n a (x :: y :: z :: L)) : Ar κ n a (z :: x :: y :: L) := H.p (pm fun p => by simp only [List.count_cons]; omega)
theorem Ar.t4 {κ : Cfg} {n : Nat} {a : arena_Arena} {x y z u : Nat × arena_cell} {L : Heap} (H : Ar κ n a (x :: y :: z :: u :: L)) : Ar κ n a (u :: x :: y :: z :: L) := H.p (pm fun p => by simp only [List.count_cons]; omega)
theorem Ar.lt {κ : Cfg} {n : Nat} {a : arena_Arena} {L : Heap} (H : Ar κ n a L) {c : Nat} {x : arena_cell} (h : (c, x) ∈ L) : c < κ.C := by
  have := (H.hav _ h).1
  have h2 := (List.getElem?_eq_some_iff.1 this).1
  rw [← H.len]; exact h2
theorem Ar.nodup {κ : Cfg} {n : Nat} {a : arena_Arena} {L : Heap} (H : Ar κ n a L) : (L.map Prod.fst).Nodup := by
  obtain ⟨N, _, _, hp⟩ := H.nev
  exact (List.nodup_append.1 (hp.nodup_iff.2 List.nodup_range)).1
theorem Ar.room {κ : Cfg} {n : Nat} {a : arena_Arena} {L : Heap} (H : Ar κ n a L) : L.length ≤ κ.C := by
  obtain ⟨N, _, hN, hp⟩ := H.nev
  have := hp.length_eq
  simp at this; omega
theorem Ar.uniq {κ : Cfg} {n : Nat} {a : arena_Arena} {L : Heap} (H : Ar κ n a L) {c : Nat} {x y : arena_cell} (h : (c, x) ∈ L) (h' : (c, y) ∈ L) : x = y := by
  have e1 := (H.hav _ h).1
  have e2 := (H.hav _ h').1
  simp only at e1 e2
  rw [e1] at e2; exact Option.some.inj e2

theorem tick_spec (m : meter_Meter) (h0 : 0 ≤ m.steps) (h1 : m.steps ≤ 9223372036854775807) :
    ∃ s, meter_Meter_Tick m 1 = some (meter_Meter.mk s m.begun m.most) ∧ m.steps ≤ s ∧ s ≤ m.steps + 1 ∧ s ≤ 9223372036854775807 := by
  unfold meter_Meter_Tick order_Add
  have e : w64 (9223372036854775807 - (if (1 : Int) > 0 then 1 else 0)) = 9223372036854775806 := by rw [if_pos (by decide)]; exact w64_id (by decide) (by decide)
  rw [e]
  simp only [Int.reduceLT, Int.reduceGT, gt_iff_lt, if_true, decide_true, Bool.true_and, decide_false, Bool.false_and, cond_false]
  by_cases h : 9223372036854775806 < m.steps
  · rw [decide_eq_true h]; exact ⟨_, rfl, by omega, by omega, by omega⟩
  · rw [decide_eq_false h]
    simp only [cond_false, Option.bind_some]
    rw [w64_id (by omega) (by omega)]
    exact ⟨_, rfl, by omega, by omega, by omega⟩

theorem Ar.tick {κ : Cfg} {n : Nat} {a : arena_Arena} {L : Heap} (H : Ar κ n a L) : ∃ m, meter_Meter_Tick a.m_ 1 = some m ∧ Ar κ (n + 1) (arena_Arena.mk a.l a.never a.free m) L := by
  obtain ⟨s, e, h1, h2, h3⟩ := tick_spec a.m_ (Int.le_trans H.b0 H.lo) H.mx
  have h4 := H.lo
  have h5 := H.hi
  exact ⟨_, e, { H with lo := by simp only; omega, hi := by simp only; omega, mx := h3, beg := H.beg, mst := H.mst }⟩

theorem live_mem {κ : Cfg} {n : Nat} {a : arena_Arena} {L : Heap} (H : Ar κ n a L) {c : Nat} {x : arena_cell} (h : (c, x) ∈ L) : arena_Arena_Live a (c : Int) = some true := by
  unfold arena_Arena_Live
  have h1 := H.lt h
  have h2 := H.hav _ h
  have d1 : decide ((c : Int) ≥ 0) = true := by simp
  have d2 : decide ((c : Int) < (a.l.length : Int)) = true := by simp [H.len]; exact h1
  rw [d1, d2, mIdx_nat, h2.1]
  have h3 : x.taken = true := h2.2
  simp [h3]
theorem live_neg {a : arena_Arena} {c : Int} (h : c < 0) : arena_Arena_Live a c = some false := by
  unfold arena_Arena_Live
  rw [decide_eq_false (by omega)]
  rfl
theorem live_not {κ : Cfg} {n : Nat} {a : arena_Arena} {L : Heap} (H : Ar κ n a L) {c : Nat} (h : c ∉ L.map Prod.fst) : arena_Arena_Live a (c : Int) = some false := by
  unfold arena_Arena_Live
  by_cases hc : c < a.l.length
  · have d1 : decide ((c : Int) ≥ 0) = true := by simp
    have d2 : decide ((c : Int) < (a.l.length : Int)) = true := by simp; exact hc
    rw [d1, d2, mIdx_nat, List.getElem?_eq_getElem hc]
    have : (a.l[c]).taken = false := by
      cases ht : (a.l[c]).taken
      · rfl
      · exact absurd (H.oth c _ (List.getElem?_eq_getElem hc) ht) h
    simp [this]
  · have d1 : decide ((c : Int) ≥ 0) = true := by simp
    have d2 : decide ((c : Int) < (a.l.length : Int)) = false := by simp; omega
    rw [d1, d2]; rfl
theorem live_ext {a : arena_Arena} {m : meter_Meter} {c : Int} : arena_Arena_Live (arena_Arena.mk a.l a.never a.free m) c = arena_Arena_Live a c := rfl
theorem has_t {a : arena_Arena} {c f : Int} (h : arena_Arena_Live a c = some true) (h0 : 0 ≤ f) (h1 : f < 10) : arena_Arena_has a c f = some true := by
  unfold arena_Arena_has
  rw [h]
  simp [h0, h1]
theorem has_f {a : arena_Arena} {c f : Int} (h : arena_Arena_Live a c = some false) : arena_Arena_has a c f = some false := by
  unfold arena_Arena_has
  rw [h]
  rfl

theorem Ar.get' {κ : Cfg} {n : Nat} {a : arena_Arena} {L : Heap} (H : Ar κ n a L) {c : Nat} {x : arena_cell} (h : (c, x) ∈ L) {f v : Int} (hf : arena_cell.get_f x f = some v) (h0 : 0 ≤ f) (h1 : f < 10) :
    ∃ m, arena_Arena_Get a (c : Int) f = some (v, arena_Arena.mk a.l a.never a.free m) ∧ Ar κ (n + 1) (arena_Arena.mk a.l a.never a.free m) L := by
  obtain ⟨m, e, H'⟩ := H.tick
  refine ⟨m, ?_, H'⟩
  unfold arena_Arena_Get
  rw [e]
  simp only [Option.bind_some]
  rw [has_t (live_mem H' h) h0 h1]
  simp only [Option.bind_some, Bool.not_true, cond_false]
  rw [mIdx_nat, (H.hav _ h).1]
  simp only [Option.bind_some]
  rw [mIn_ok h0 (by omega)]
  simp only [Option.bind_some]
  rw [hf]
  rfl
theorem Ar.get {κ : Cfg} {n : Nat} {a : arena_Arena} {L : Heap} (H : Ar κ n a L) {c : Nat} {x : arena_cell} (h : (c, x) ∈ L) {f v : Int} (hf : arena_cell.get_f x f = some v) (h0 : 0 ≤ f := by decide) (h1 : f < 10 := by decide) :
    Do (arena_Arena_Get a (c : Int) f) fun r => ∃ a', r = (v, a') ∧ Ar κ (n + 1) a' L := by
  obtain ⟨m, e, H'⟩ := H.get' h hf h0 h1
  exact ⟨_, e, _, rfl, H'⟩
theorem Ar.getN' {κ : Cfg} {n : Nat} {a : arena_Arena} {L : Heap} (H : Ar κ n a L) {c f : Int} (h : c < 0) :
    ∃ m, arena_Arena_Get a c f = some (-1, arena_Arena.mk a.l a.never a.free m) ∧ Ar κ (n + 1) (arena_Arena.mk a.l a.never a.free m) L := by
  obtain ⟨m, e, H'⟩ := H.tick
  refine ⟨m, ?_, H'⟩
  unfold arena_Arena_Get
  rw [e]
  simp only [Option.bind_some]
  rw [has_f (live_neg h)]
  rfl
theorem Ar.getN {κ : Cfg} {n : Nat} {a : arena_Arena} {L : Heap} (H : Ar κ n a L) {c f : Int} (h : c < 0) :
    Do (arena_Arena_Get a c f) fun r => ∃ a', r = (-1, a') ∧ Ar κ (n + 1) a' L := by
  obtain ⟨m, e, H'⟩ := H.getN' (f := f) h
  exact ⟨_, e, _, rfl, H'⟩
theorem Ar.cell {κ : Cfg} {n : Nat} {a : arena_Arena} {L : Heap} (H : Ar κ n a L) {c : Nat} {x : arena_cell} (h : (c, x) ∈ L) {f v : Int} (hf : arena_cell.get_f x f = some v) (hv : -1 ≤ v) (hc : v < κ.C) (h0 : 0 ≤ f := by decide) (h1 : f < 10 := by decide) :
    Do (arena_Arena_Cell a (c : Int) f) fun r => ∃ a', r = (v, a') ∧ Ar κ (n + 1) a' L := by
  obtain ⟨m, e, H'⟩ := H.get' h hf h0 h1
  unfold arena_Arena_Cell
  rw [e]
  simp only [Option.bind_some]
  by_cases hn : v < 0
  · rw [decide_eq_true hn]
    have : v = -1 := by omega
    subst this
    exact ⟨_, rfl, _, rfl, H'⟩
  · rw [decide_eq_false hn]
    have : decide (v ≥ (a.l.length : Int)) = false := by rw [H.len]; exact decide_eq_false (by omega)
    simp only [cond_false, Option.bind_some]
    rw [this]
    exact ⟨_, rfl, _, rfl, H'⟩
theorem Ar.cellN {κ : Cfg} {n : Nat} {a : arena_Arena} {L : Heap} (H : Ar κ n a L) {c f : Int} (h : c < 0) :
    Do (arena_Arena_Cell a c f) fun r => ∃ a', r = (-1, a') ∧ Ar κ (n + 1) a' L := by
  obtain ⟨m, e, H'⟩ := H.getN' (f := f) h
  unfold arena_Arena_Cell
  rw [e]
  exact ⟨_, rfl, _, rfl, H'⟩
theorem getD_set_ne {α : Type} {l : List α} {i j : Nat} {x : α} (h : i ≠ j) : (l.set i x)[j]? = l[j]? := by
  rw [List.getElem?_set]; rw [if_neg h]
theorem Ar.set {κ : Cfg} {n : Nat} {a : arena_Arena} {L : Heap} {c : Nat} {x y : arena_cell} (H : Ar κ n a ((c, x) :: L)) {f v : Int} (hf : arena_cell.set_f x f v = some y) (ht : y.taken = true := by rfl) (h0 : 0 ≤ f := by decide) (h1 : f < 10 := by decide) :
    Do (arena_Arena_Set a (c : Int) f v) fun r => ∃ a', r = (true, a') ∧ Ar κ (n + 1) a' ((c, y) :: L) := by
  obtain ⟨m, e, H'⟩ := H.tick
  have hm : (c, x) ∈ (c, x) :: L := List.mem_cons_self ..
  unfold arena_Arena_Set
  rw [e]
  simp only [Option.bind_some]
  rw [has_t (live_mem H' hm) h0 h1]
  simp only [Option.bind_some, Bool.not_true, cond_false]
  rw [mIdx_nat, (H.hav _ hm).1]
  simp only [Option.bind_some]
  rw [mIn_ok h0 (by omega)]
  simp only [Option.bind_some]
  rw [hf]
  refine ⟨_, rfl, _, rfl, ?_⟩
  have hlt : c < a.l.length := by rw [H.len]; exact H.lt hm
  have hnd := H.nodup
  simp only [List.map_cons, List.nodup_cons] at hnd
  exact { H' with
    len := by simp [mSet, H.len]
    nev := H'.nev
    hav := by
      intro p hp
      rcases List.mem_cons.1 hp with rfl | hp
      · refine ⟨?_, ht⟩
        simp only [mSet, Int.toNat_natCast]
        rw [List.getElem?_set_self hlt]
      · have h2 := H.hav p (List.mem_cons_of_mem _ hp)
        refine ⟨?_, h2.2⟩
        simp only [mSet, Int.toNat_natCast]
        rw [getD_set_ne (fun e => hnd.1 (by rw [e]; exact List.mem_map_of_mem (f := Prod.fst) hp))]
        exact h2.1
    oth := by
      intro d z hz tz
      simp only [mSet, Int.toNat_natCast] at hz
      by_cases hd : c = d
      · subst hd; simp
      · rw [getD_set_ne hd] at hz
        have := H.oth d z hz tz
        simpa using this }
theorem Ar.setN {κ : Cfg} {n : Nat} {a : arena_Arena} {L : Heap} (H : Ar κ n a L) {c f v : Int} (h : c < 0) :
    Do (arena_Arena_Set a c f v) fun r => ∃ a', r = (false, a') ∧ Ar κ (n + 1) a' L := by
  obtain ⟨m, e, H'⟩ := H.tick
  unfold arena_Arena_Set
  rw [e]
  simp only [Option.bind_some]
  rw [has_f (live_neg h)]
  exact ⟨_, rfl, _, rfl, H'⟩

theorem Ar.cells {κ : Cfg} {n : Nat} {a : arena_Arena} {L : Heap} (H : Ar κ n a L) : arena_Arena_Cells a = some (κ.C : Int) := by
  unfold arena_Arena_Cells; rw [H.len]
theorem Ar.lenIs {κ : Cfg} {n : Nat} {a : arena_Arena} {L : Heap} (H : Ar κ n a L) : arena_Arena_Len a = some (L.length : Int) := by
  unfold arena_Arena_Len
  obtain ⟨N, e, hN, hp⟩ := H.nev
  have := hp.length_eq
  have hc := H.cap
  simp at this
  rw [e, w64_id (by omega) (by omega)]
  congr 1; omega

def freshC : arena_cell := arena_cell.mk (-1) (-1) (-1) (-1) 0 0 (-1) 0 0 (-1) true

theorem Ar.put {κ : Cfg} {n : Nat} {a : arena_Arena} {L : Heap} (H : Ar κ n a L) {c N : Nat} {fr : List Int} (hc : c < κ.C) (hl : ∀ x, a.l[c]? = some x → x.taken = false) (hN : N ≤ κ.C)
    (hp : (c :: (L.map Prod.fst ++ fr.map Int.toNat)).Perm (List.range N)) (hfr : ∀ f ∈ fr, 0 ≤ f) : Ar κ n (arena_Arena.mk (mSet a.l (c : Int) freshC) (N : Int) fr a.m_) ((c, freshC) :: L) := by
  have hlt : c < a.l.length := by rw [H.len]; exact hc
  have hnd : (c :: (L.map Prod.fst ++ fr.map Int.toNat)).Nodup := hp.nodup_iff.2 List.nodup_range
  have hcn : c ∉ L.map Prod.fst := fun h => (List.nodup_cons.1 hnd).1 (List.mem_append_left _ h)
  exact { H with
    len := by simp [mSet, H.len]
    nev := ⟨N, rfl, hN, by simpa using hp⟩
    fre := hfr
    hav := by
      intro p hp
      rcases List.mem_cons.1 hp with rfl | hp
      · refine ⟨?_, rfl⟩
        simp only [mSet, Int.toNat_natCast]
        rw [List.getElem?_set_self hlt]
      · have h2 := H.hav p hp
        refine ⟨?_, h2.2⟩
        simp only [mSet, Int.toNat_natCast]
        rw [getD_set_ne (fun e => hcn (by rw [e]; exact List.mem_map_of_mem (f := Prod.fst) hp))]
        exact h2.1
    oth := by
      intro d z hz tz
      simp only [mSet, Int.toNat_natCast] at hz
      by_cases hd : c = d
      · subst hd; simp
      · rw [getD_set_ne hd] at hz
        have := H.oth d z hz tz
        simp only [List.map_cons, List.mem_cons]; exact Or.inr this }

theorem Ar.take {κ : Cfg} {n : Nat} {a : arena_Arena} {L : Heap} (H : Ar κ n a L) (hr : L.length < κ.C) :
    Do (arena_Arena_Take a) fun r => ∃ (c : Nat) (a' : arena_Arena), r = ((c : Int), true, a') ∧ c ∉ L.map Prod.fst ∧ Ar κ (n + 1) a' ((c, freshC) :: L) := by
  obtain ⟨m, e, H'⟩ := H.tick
  obtain ⟨N, eN, hN, hp⟩ := H.nev
  have hcap := H.cap
  have hlen := hp.length_eq
  simp only [List.length_append, List.length_map, List.length_range] at hlen
  unfold arena_Arena_Take
  rw [e]
  simp only [Option.bind_some]
  rcases List.eq_nil_or_concat a.free with hfree | ⟨fr, c, hfree⟩
  · rw [hfree] at hlen hp ⊢
    simp only [List.length_nil, Nat.add_zero] at hlen
    rw [decide_eq_false (by rw [w64_id] <;> simp), cond_false, decide_eq_false (by rw [H.len, eN]; omega)]
    simp only [cond_false, Option.bind_some, arena_fresh]
    rw [eN, mIdx_nat, List.getElem?_eq_getElem (by rw [H.len]; omega)]
    simp only [Option.bind_some]
    have hno : N ∉ L.map Prod.fst := fun h => by
      have := hp.mem_iff.1 (List.mem_append_left _ h)
      simp at this
    refine ⟨_, rfl, N, _, rfl, hno, ?_⟩
    rw [w64_id (by omega) (by omega)]
    refine H'.put (c := N) (N := N + 1) (fr := []) (by omega) (fun x hx => ?_) (by omega) ?_ (by simp)
    · cases ht : x.taken
      · rfl
      · exact absurd (H'.oth N x hx ht) hno
    · rw [List.range_succ]
      exact (hp.cons N).trans (List.perm_append_singleton N _).symm
  · rw [List.concat_eq_append] at hfree
    rw [hfree] at hlen
    simp only [List.length_append, List.length_singleton] at hlen
    have e1 : w64 ((a.free.length : Int) - 1) = (fr.length : Int) := by rw [hfree, w64_id] <;> simp <;> omega
    rw [e1, decide_eq_true (by omega), cond_true]
    have e2 : mIdx a.free (fr.length : Int) = some c := by rw [hfree, mIdx_mid]
    have e3 : mCut a.free 0 (fr.length : Int) = some fr := by
      unfold mCut; rw [if_pos ⟨by omega, by omega, by rw [hfree]; simp; omega⟩, hfree]; simp
    rw [e2, e3]
    simp only [Option.bind_some, arena_fresh]
    have c0 : 0 ≤ c := H.fre c (by rw [hfree]; simp)
    obtain ⟨c, rfl⟩ : ∃ d : Nat, c = (d : Int) := ⟨c.toNat, by omega⟩
    have hp' : (c :: (L.map Prod.fst ++ fr.map Int.toNat)).Perm (List.range N) := by
      refine List.Perm.trans ?_ hp
      rw [hfree]
      simp only [List.map_append, List.map_cons, List.map_nil, Int.toNat_natCast]
      rw [← List.append_assoc]
      exact (List.perm_append_singleton c _).symm
    have hcN : c < N := by
      have := hp'.mem_iff.1 (List.mem_cons_self ..)
      simpa using this
    have hno : c ∉ L.map Prod.fst := fun h => (List.nodup_cons.1 (hp'.nodup_iff.2 List.nodup_range)).1 (List.mem_append_left _ h)
    rw [mIdx_nat, List.getElem?_eq_getElem (by rw [H.len]; omega)]
    simp only [Option.bind_some]
    refine ⟨_, rfl, c, _, rfl, hno, ?_⟩
    rw [eN]
    refine H'.put (c := c) (N := N) (fr := fr) (by omega) (fun x hx => ?_) hN hp' (fun f hf => H.fre f (by rw [hfree]; simp [hf]))
    cases ht : x.taken
    · rfl
    · exact absurd (H'.oth c x hx ht) hno
theorem Ar.takeF {κ : Cfg} {n : Nat} {a : arena_Arena} {L : Heap} (H : Ar κ n a L) (hr : L.length = κ.C) :
    Do (arena_Arena_Take a) fun r => ∃ (a' : arena_Arena), r = ((-1 : Int), false, a') ∧ Ar κ (n + 1) a' L := by
  obtain ⟨m, e, H'⟩ := H.tick
  obtain ⟨N, eN, hN, hp⟩ := H.nev
  have hlen := hp.length_eq
  simp only [List.length_append, List.length_map, List.length_range] at hlen
  unfold arena_Arena_Take
  rw [e]
  simp only [Option.bind_some]
  have hfree : a.free = [] := List.eq_nil_of_length_eq_zero (by omega)
  rw [decide_eq_false (by rw [hfree, w64_id] <;> simp), cond_false, decide_eq_true (by rw [H.len, eN]; omega)]
  exact ⟨_, rfl, _, rfl, H'⟩
theorem Ar.give {κ : Cfg} {n : Nat} {a : arena_Arena} {L : Heap} {c : Nat} {x : arena_cell} (H : Ar κ n a ((c, x) :: L)) :
    Do (arena_Arena_Give a (c : Int)) fun r => ∃ (a' : arena_Arena), r = (true, a') ∧ Ar κ (n + 1) a' L := by
  obtain ⟨m, e, H'⟩ := H.tick
  have hm : (c, x) ∈ (c, x) :: L := List.mem_cons_self ..
  obtain ⟨N, eN, hN, hp⟩ := H.nev
  have hcap := H.cap
  have hlen := hp.length_eq
  simp only [List.length_append, List.length_map, List.length_range, List.length_cons] at hlen
  unfold arena_Arena_Give
  rw [e]
  simp only [Option.bind_some]
  rw [live_mem H' hm]
  simp only [Option.bind_some, Bool.not_true, cond_false]
  rw [mIdx_nat, (H.hav _ hm).1]
  simp only [Option.bind_some]
  rw [mApp_ok (by simp only [List.length_singleton]; omega)]
  refine ⟨_, rfl, _, rfl, ?_⟩
  have hlt : c < a.l.length := by rw [H.len]; exact H.lt hm
  have hnd := H.nodup
  simp only [List.map_cons, List.nodup_cons] at hnd
  exact { H' with
    len := by simp [mSet, H.len]
    nev := ⟨N, eN, hN, by
      refine List.Perm.trans ?_ hp
      simp only [List.map_append, List.map_cons, List.map_nil, Int.toNat_natCast]
      rw [← List.append_assoc]
      exact List.perm_append_singleton c _⟩
    fre := by
      intro f hf
      rcases List.mem_append.1 hf with hf | hf
      · exact H.fre f hf
      · simp at hf; omega
    hav := by
      intro p hp
      have h2 := H.hav p (List.mem_cons_of_mem _ hp)
      refine ⟨?_, h2.2⟩
      simp only [mSet, Int.toNat_natCast]
      rw [getD_set_ne (fun e => hnd.1 (by rw [e]; exact List.mem_map_of_mem (f := Prod.fst) hp))]
      exact h2.1
    oth := by
      intro d z hz tz
      simp only [mSet, Int.toNat_natCast] at hz
      by_cases hd : c = d
      · subst hd
        rw [List.getElem?_set_self hlt] at hz
        cases hz
        simp at tz
      · rw [getD_set_ne hd] at hz
        have := H.oth d z hz tz
        simp only [List.map_cons, List.mem_cons] at this
        rcases this with rfl | h
        · exact absurd rfl hd
        · exact h }

theorem arena_New_spec {C : Nat} (h : C ≤ 65536) : ∃ a, arena_New (C : Int) = some a ∧ Ar ⟨C, 0, 0, 0⟩ 0 a [] := by
  unfold arena_New
  have e : (if (if (65536 : Int) < (C : Int) then 65536 else (C : Int)) > 0 then (if (65536 : Int) < (C : Int) then 65536 else (C : Int)) else 0) = (C : Int) := by
    split <;> split <;> omega
  rw [e]
  unfold mMake meter_New
  rw [if_pos (by omega)]
  refine ⟨_, rfl, ?_⟩
  refine ⟨by simp, h, ⟨0, rfl, by simp, by simp⟩, by simp, by simp, ?_, by simp, by simp, by simp, by simp, rfl, rfl⟩
  intro c x hx ht
  simp only [Int.toNat_natCast] at hx
  obtain ⟨h1, h2⟩ := List.getElem?_eq_some_iff.1 hx
  rw [List.getElem_replicate] at h2
  subst h2
  simp at ht
end Go.Proofs.YtmidmkinclmbdaaGreat
