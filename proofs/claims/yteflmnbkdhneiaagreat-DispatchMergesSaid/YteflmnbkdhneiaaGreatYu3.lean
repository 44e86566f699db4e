/-
  The statements DispatchMerges, DispatchEnds of the program.
  Text 3 of 8: of what the proof needs (a row of the program: no condition is left); put together and made narrow by a program.
-/
import Derived.KernelRfl
import Derived.Test.YteflmnbkdhneiaaGreatYu2
set_option linter.unusedVariables false
set_option linter.unusedSimpArgs false
namespace Go.Proofs.YteflmnbkdhneiaaGreat
open Go.Th
noncomputable section
set_option maxRecDepth 10000
def Do {α : Type} (o : Option α) (Q : α -> Prop) : Prop := ∃ r, o = some r /\ Q r
theorem Do.bind {α β : Type} {o : Option α} {f : α -> Option β} {P : α -> Prop} {Q : β -> Prop} (h : Do o P) (k : ∀ r, P r -> Do (f r) Q) : Do (o.bind f) Q := by
 obtain ⟨r, rfl, hp⟩ := h;exact k r hp
theorem Do.ret {α : Type} {r : α} {Q : α -> Prop} (h : Q r) : Do (some r) Q := ⟨r, rfl, h⟩
theorem Do.mono {α : Type} {o : Option α} {P Q : α -> Prop} (h : Do o P) (k : ∀ r, P r -> Q r) : Do o Q := by
 obtain ⟨r, e, hp⟩ := h;exact ⟨r, e, k r hp⟩
theorem Do.of {α : Type} {o : Option α} {r : α} {Q : α -> Prop} (e : o = some r) (h : Q r) : Do o Q := ⟨r, e, h⟩
theorem Do.t {α : Type} {b : Bool} {x y : Option α} {Q : α -> Prop} (h : b = true) (k : Do x Q) : Do (bif b then x else y) Q := by subst h; exact k
theorem Do.f {α : Type} {b : Bool} {x y : Option α} {Q : α -> Prop} (h : b = false) (k : Do y Q) : Do (bif b then x else y) Q := by subst h; exact k
theorem Do.tb {α β : Type} {b : Bool} {x y : Option α} {g : α -> Option β} {Q : β -> Prop} (h : b = true) (k : Do (x.bind g) Q) : Do ((bif b then x else y).bind g) Q := by subst h; exact k
theorem Do.fb {α β : Type} {b : Bool} {x y : Option α} {g : α -> Option β} {Q : β -> Prop} (h : b = false) (k : Do (y.bind g) Q) : Do ((bif b then x else y).bind g) Q := by subst h; exact k
theorem Do.if {α : Type} {b : Bool} {x y : Option α} {Q : α -> Prop} (kt : b = true -> Do x Q) (e : b = false -> Do y Q) : Do (bif b then x else y) Q := by
 cases b
 ·exact e rfl
 ·exact kt rfl
theorem Do.seq {α β : Type} {o : Option α} {f : α -> Option β} {r : α} {Q : β -> Prop} (e : o = some r) (k : Do (f r) Q) : Do (o.bind f) Q := by subst e; exact k
theorem Do.elim {α : Type} {o : Option α} {Q : α -> Prop} (h : Do o Q) : ∃ r, o = some r /\ Q r := h
theorem Do.assoc {α β γ : Type} {o : Option α} {f : α -> Option β} {g : β -> Option γ} {Q : γ -> Prop} (h : Do (o.bind fun x => (f x).bind g) Q) : Do ((o.bind f).bind g) Q := by
 cases o <;> exact h
theorem zG {x : Int} (h1 : -9223372036854775808 <= x) (h2 : x < 9223372036854775808) : w64 x = x := by
 show (if (true && decide (x % 18446744073709551616 >= 9223372036854775808)) = true then x % 18446744073709551616 - 18446744073709551616 else x % 18446744073709551616) = x;by_cases h : x % 18446744073709551616 >= 9223372036854775808
 ·rw [if_pos (by simpa using h)]; omega
 ·rw [if_neg (by simpa using h)]; omega
theorem yC {α : Type} (l : List α) (c : Nat) : mIdx l (c : Int) = l[c]? := by
 unfold mIdx; rw [if_pos (by omega)]; simp
theorem yF {α : Type} (p q : List α) (y : α) : mIdx (p ++ y :: q) (p.length : Int) = some y := by
 rw [yC]; simp
theorem xd {α : Type} {l e : List α} (h : l.length + e.length <= 1073741824) : mApp l e = some (l ++ e) := by unfold mApp; rw [if_pos h]
theorem bx {i : Int} {n : Nat} (h : 0 <= i) (e : i < (n : Int)) : mIn i n = some () := by unfold mIn; rw [if_pos ⟨h, e⟩]
instance BX : DecidableEq zr := fun a b => by cases a; cases b; simp only [zr.mk.injEq]; exact inferInstance
abbrev Heap := List (Nat × zr)
theorem pm {l l' : Heap} (h : ∀ p, l.count p = l'.count p) : l.Perm l' := List.perm_iff_count.2 h
structure Cfg where
 C : Nat
 b : Int
 g : Int
 mo : Int
structure Ar (κ : Cfg) (n : Nat) (a : zb) (L : Heap) : Prop where
 len : a.l.length = κ.C
 cap : κ.C <= 65536
 nev : ∃ N : Nat, a.never = (N : Int) /\ N <= κ.C /\ (L.map Prod.fst ++ a.free.map Int.toNat).Perm (List.range N)
 fre : ∀ f ∈ a.free, 0 <= f
 hav : ∀ p ∈ L, a.l[p.1]? = some p.2 /\ p.2.taken = true
 oth : ∀ (c : Nat) x, a.l[c]? = some x -> x.taken = true -> c ∈ L.map Prod.fst
 b0 : 0 <= κ.b
 lo : κ.b <= a.m_.steps
 hi : a.m_.steps <= κ.b + n
 mx : a.m_.steps <= 9223372036854775807
 beg : a.m_.begun = κ.g
 mst : a.m_.most = κ.mo
theorem Ar.p {κ : Cfg} {n : Nat} {a : zb} {L L' : Heap} (H : Ar κ n a L) (h : L.Perm L') : Ar κ n a L' where
 len := H.len
 cap := H.cap
 nev := by
  obtain ⟨N, e, i, hp⟩ := H.nev;exact ⟨N, e, i, ((h.symm.map _).append_right _).trans hp⟩
 fre := H.fre
 hav := fun p hp => H.hav p (h.mem_iff.2 hp)
 oth := fun c x e t => ((h.map _).mem_iff).1 (H.oth c x e t)
 b0 := H.b0
 lo := H.lo
 hi := H.hi
 mx := H.mx
 beg := H.beg
 mst := H.mst
theorem Ar.mono {κ : Cfg} {n m : Nat} {a : zb} {L : Heap} (H : Ar κ n a L) (h : n <= m) : Ar κ m a L := { H with hi := by have := H.hi; omega }
theorem Ar.t2 {κ : Cfg} {n : Nat} {a : zb} {x y : Nat × zr} {L : Heap} (H : Ar κ n a (x :: y :: L)) : Ar κ n a (y :: x :: L) := H.p (List.Perm.swap ..)
theorem Ar.t3 {κ : Cfg} {n : Nat} {a : zb} {x y z : Nat × zr} {L : Heap} (H : Ar κ n a (x :: y :: z :: L)) : Ar κ n a (z :: x :: y :: L) := H.p (pm fun p => by simp only [List.count_cons]; omega)
theorem Ar.t4 {κ : Cfg} {n : Nat} {a : zb} {x y z u : Nat × zr} {L : Heap} (H : Ar κ n a (x :: y :: z :: u :: L)) : Ar κ n a (u :: x :: y :: z :: L) := H.p (pm fun p => by simp only [List.count_cons]; omega)
theorem Ar.lt {κ : Cfg} {n : Nat} {a : zb} {L : Heap} (H : Ar κ n a L) {c : Nat} {x : zr} (h : (c, x) ∈ L) : c < κ.C := by
 have := (H.hav _ h).1;have h2 := (List.getElem?_eq_some_iff.1 this).1;rw [<- H.len]; exact h2
theorem Ar.nodup {κ : Cfg} {n : Nat} {a : zb} {L : Heap} (H : Ar κ n a L) : (L.map Prod.fst).Nodup := by
 obtain ⟨N, _, _, hp⟩ := H.nev;exact (List.nodup_append.1 (hp.nodup_iff.2 List.nodup_range)).1
theorem Ar.room {κ : Cfg} {n : Nat} {a : zb} {L : Heap} (H : Ar κ n a L) : L.length <= κ.C := by
 obtain ⟨N, _, e, hp⟩ := H.nev;have := hp.length_eq;simp at this; omega
theorem Ar.uniq {κ : Cfg} {n : Nat} {a : zb} {L : Heap} (H : Ar κ n a L) {c : Nat} {x y : zr} (h : (c, x) ∈ L) (j : (c, y) ∈ L) : x = y := by
 have i := (H.hav _ h).1;have e := (H.hav _ j).1;simp only at i e;rw [i] at e; exact Option.some.inj e
theorem eW (m : zD) (h0 : 0 <= m.steps) (h1 : m.steps <= 9223372036854775807) :
  ∃ s, xA m 1 = some (zD.mk s m.begun m.most) /\ m.steps <= s /\ s <= m.steps + 1 /\ s <= 9223372036854775807 := by
 unfold xA vu;have e : w64 (9223372036854775807 - (if (1 : Int) > 0 then 1 else 0)) = 9223372036854775806 := by rw [if_pos (by decide)]; exact zG (by decide) (by decide)
 rw [e];simp only [Int.reduceLT, Int.reduceGT, gt_iff_lt, if_true, decide_true, Bool.true_and, decide_false, Bool.false_and, cF];by_cases h : 9223372036854775806 < m.steps
 ·rw [dT h]; exact ⟨_, rfl, by omega, by omega, by omega⟩
 ·rw [dF h];simp only [cF, bS];rw [zG (by omega) (by omega)];exact ⟨_, rfl, by omega, by omega, by omega⟩
theorem Ar.tick {κ : Cfg} {n : Nat} {a : zb} {L : Heap} (H : Ar κ n a L) : ∃ m, xA a.m_ 1 = some m /\ Ar κ (n + 1) (zb.mk a.l a.never a.free m) L := by
 obtain ⟨s, e, h1, h2, h3⟩ := eW a.m_ (Int.le_trans H.b0 H.lo) H.mx;have h4 := H.lo;have i := H.hi;exact ⟨_, e, { H with lo := by simp only; omega, hi := by simp only; omega, mx := h3, beg := H.beg, mst := H.mst }⟩
theorem oZ {κ : Cfg} {n : Nat} {a : zb} {L : Heap} (H : Ar κ n a L) {c : Nat} {x : zr} (h : (c, x) ∈ L) : yt a (c : Int) = some true := by
 unfold yt;have h1 := H.lt h;have h2 := H.hav _ h;have d1 : decide ((c : Int) >= 0) = true := by simp
 have d2 : decide ((c : Int) < (a.l.length : Int)) = true := by simp [H.len]; exact h1
 rw [d1, d2, yC, h2.1];have h3 : x.taken = true := h2.2;simp [h3]
theorem kE {a : zb} {c : Int} (h : c < 0) : yt a c = some false := by
 unfold yt;rw [dF (by omega)]
 rfl
theorem AA {a : zb} {c f : Int} (h : yt a c = some true) (h0 : 0 <= f) (h1 : f < 10) : wo a c f = some true := by
 unfold wo;rw [h];simp [h0, h1]
theorem Aq {a : zb} {c f : Int} (h : yt a c = some false) : wo a c f = some false := by
 unfold wo;rw [h]
 rfl
theorem Ar.get' {κ : Cfg} {n : Nat} {a : zb} {L : Heap} (H : Ar κ n a L) {c : Nat} {x : zr} (h : (c, x) ∈ L) {f v : Int} (hf : zr.rU x f = some v) (h0 : 0 <= f) (h1 : f < 10) :
  ∃ m, zX a (c : Int) f = some (v, zb.mk a.l a.never a.free m) /\ Ar κ (n + 1) (zb.mk a.l a.never a.free m) L := by
 obtain ⟨m, e, i⟩ := H.tick;refine ⟨m, ?_, i⟩;unfold zX;rw [e];simp only [bS];rw [AA (oZ i h) h0 h1];simp only [bS, Bool.not_true, cF];rw [yC, (H.hav _ h).1];simp only [bS];rw [bx h0 (by omega)];simp only [bS];rw [hf]
 rfl
theorem Ar.get {κ : Cfg} {n : Nat} {a : zb} {L : Heap} (H : Ar κ n a L) {c : Nat} {x : zr} (h : (c, x) ∈ L) {f v : Int} (hf : zr.rU x f = some v) (h0 : 0 <= f := by decide) (h1 : f < 10 := by decide) :
  Do (zX a (c : Int) f) fun r => ∃ i, r = (v, i) /\ Ar κ (n + 1) i L := by
 obtain ⟨m, e, j⟩ := H.get' h hf h0 h1;exact ⟨_, e, _, rfl, j⟩
theorem Ar.Aw {κ : Cfg} {n : Nat} {a : zb} {L : Heap} (H : Ar κ n a L) {c f : Int} (h : c < 0) :
  ∃ m, zX a c f = some (-1, zb.mk a.l a.never a.free m) /\ Ar κ (n + 1) (zb.mk a.l a.never a.free m) L := by
 obtain ⟨m, e, i⟩ := H.tick;refine ⟨m, ?_, i⟩;unfold zX;rw [e];simp only [bS];rw [Aq (kE h)]
 rfl
theorem Ar.getN {κ : Cfg} {n : Nat} {a : zb} {L : Heap} (H : Ar κ n a L) {c f : Int} (h : c < 0) :
  Do (zX a c f) fun r => ∃ i, r = (-1, i) /\ Ar κ (n + 1) i L := by
 obtain ⟨m, e, j⟩ := H.Aw (f := f) h;exact ⟨_, e, _, rfl, j⟩
theorem Ar.cell {κ : Cfg} {n : Nat} {a : zb} {L : Heap} (H : Ar κ n a L) {c : Nat} {x : zr} (h : (c, x) ∈ L) {f v : Int} (hf : zr.rU x f = some v) (hv : -1 <= v) (t : v < κ.C) (h0 : 0 <= f := by decide) (h1 : f < 10 := by decide) :
  Do (zE a (c : Int) f) fun r => ∃ i, r = (v, i) /\ Ar κ (n + 1) i L := by
 obtain ⟨m, e, j⟩ := H.get' h hf h0 h1;unfold zE;rw [e];simp only [bS];by_cases hn : v < 0
 ·rw [dT hn];have : v = -1 := by omega
  subst this;exact ⟨_, rfl, _, rfl, j⟩
 ·rw [dF hn];have : decide (v >= (a.l.length : Int)) = false := by rw [H.len]; exact dF (by omega)
  simp only [cF, bS];rw [this];exact ⟨_, rfl, _, rfl, j⟩
theorem Ar.eZ {κ : Cfg} {n : Nat} {a : zb} {L : Heap} (H : Ar κ n a L) {c f : Int} (h : c < 0) :
  Do (zE a c f) fun r => ∃ i, r = (-1, i) /\ Ar κ (n + 1) i L := by
 obtain ⟨m, e, j⟩ := H.Aw (f := f) h;unfold zE;rw [e];exact ⟨_, rfl, _, rfl, j⟩
theorem getD_set_ne {α : Type} {l : List α} {i j : Nat} {x : α} (h : i ≠ j) : (l.set i x)[j]? = l[j]? := by
 rw [List.getElem?_set]; rw [if_neg h]
theorem Ar.set {κ : Cfg} {n : Nat} {a : zb} {L : Heap} {c : Nat} {x y : zr} (H : Ar κ n a ((c, x) :: L)) {f v : Int} (hf : zr.qQ x f v = some y) (ht : y.taken = true := by rfl) (h0 : 0 <= f := by decide) (h1 : f < 10 := by decide) :
  Do (zy a (c : Int) f v) fun r => ∃ t, r = (true, t) /\ Ar κ (n + 1) t ((c, y) :: L) := by
 obtain ⟨m, e, i⟩ := H.tick;have hm : (c, x) ∈ (c, x) :: L := List.mem_cons_self ..;unfold zy;rw [e];simp only [bS];rw [AA (oZ i hm) h0 h1];simp only [bS, Bool.not_true, cF];rw [yC, (H.hav _ hm).1];simp only [bS];rw [bx h0 (by omega)];simp only [bS];rw [hf];refine ⟨_, rfl, _, rfl, ?_⟩;have j : c < a.l.length := by rw [H.len]; exact H.lt hm
 have hnd := H.nodup;simp only [pC, List.nodup_cons] at hnd;exact { i with
  len := by simp [mSet, H.len]
  nev := i.nev
  hav := by
   intro p hp;rcases List.mem_cons.1 hp with rfl | hp
   ·refine ⟨?_, ht⟩;simp only [mSet, tN];rw [List.getElem?_set_self j]
   ·have h2 := H.hav p (mC _ hp);refine ⟨?_, h2.2⟩;simp only [mSet, tN];rw [getD_set_ne (fun e => hnd.1 (by rw [e]; exact List.mem_map_of_mem (f := Prod.fst) hp))];exact h2.1
  oth := by
   intro d z hz u;simp only [mSet, tN] at hz;by_cases hd : c = d
   ·subst hd; simp
   ·rw [getD_set_ne hd] at hz;have := H.oth d z hz u;simpa using this }
theorem Ar.setN {κ : Cfg} {n : Nat} {a : zb} {L : Heap} (H : Ar κ n a L) {c f v : Int} (h : c < 0) :
  Do (zy a c f v) fun r => ∃ i, r = (false, i) /\ Ar κ (n + 1) i L := by
 obtain ⟨m, e, j⟩ := H.tick;unfold zy;rw [e];simp only [bS];rw [Aq (kE h)];exact ⟨_, rfl, _, rfl, j⟩
theorem Ar.cells {κ : Cfg} {n : Nat} {a : zb} {L : Heap} (H : Ar κ n a L) : xT a = some (κ.C : Int) := by
 unfold xT; rw [H.len]
def dj : zr := zr.mk (-1) (-1) (-1) (-1) 0 0 (-1) 0 0 (-1) true
theorem Ar.put {κ : Cfg} {n : Nat} {a : zb} {L : Heap} (H : Ar κ n a L) {c N : Nat} {fr : List Int} (u : c < κ.C) (hl : ∀ x, a.l[c]? = some x -> x.taken = false) (y : N <= κ.C)
  (hp : (c :: (L.map Prod.fst ++ fr.map Int.toNat)).Perm (List.range N)) (i : ∀ f ∈ fr, 0 <= f) : Ar κ n (zb.mk (mSet a.l (c : Int) dj) (N : Int) fr a.m_) ((c, dj) :: L) := by
 have j : c < a.l.length := by rw [H.len]; exact u
 have hnd : (c :: (L.map Prod.fst ++ fr.map Int.toNat)).Nodup := hp.nodup_iff.2 List.nodup_range;have t : c ∉ L.map Prod.fst := fun h => (List.nodup_cons.1 hnd).1 (mL _ h)
 exact { H with
  len := by simp [mSet, H.len]
  nev := ⟨N, rfl, y, by simpa using hp⟩
  fre := i
  hav := by
   intro p hp;rcases List.mem_cons.1 hp with rfl | hp
   ·refine ⟨?_, rfl⟩;simp only [mSet, tN];rw [List.getElem?_set_self j]
   ·have h2 := H.hav p hp;refine ⟨?_, h2.2⟩;simp only [mSet, tN];rw [getD_set_ne (fun e => t (by rw [e]; exact List.mem_map_of_mem (f := Prod.fst) hp))];exact h2.1
  oth := by
   intro d z hz A;simp only [mSet, tN] at hz;by_cases hd : c = d
   ·subst hd; simp
   ·rw [getD_set_ne hd] at hz;have := H.oth d z hz A;simp only [pC, iC]; exact Or.inr this }
theorem Ar.take {κ : Cfg} {n : Nat} {a : zb} {L : Heap} (H : Ar κ n a L) (hr : L.length < κ.C) :
  Do (vD a) fun r => ∃ (c : Nat) (z : zb), r = ((c : Int), true, z) /\ c ∉ L.map Prod.fst /\ Ar κ (n + 1) z ((c, dj) :: L) := by
 obtain ⟨m, e, t⟩ := H.tick;obtain ⟨N, u, B, hp⟩ := H.nev;have A := H.cap;have hlen := hp.length_eq;simp only [lA, lM, List.length_range] at hlen;unfold vD;rw [e];simp only [bS];rcases List.eq_nil_or_concat a.free with i | ⟨fr, c, i⟩
 ·rw [i] at hlen hp ⊢;simp only [List.length_nil, Nat.add_zero] at hlen;rw [dF (by rw [zG] <;> simp), cF, dF (by rw [H.len, u]; omega)];simp only [cF, bS, rB];rw [u, yC, List.getElem?_eq_getElem (by rw [H.len]; omega)];simp only [bS];have j : N ∉ L.map Prod.fst := fun h => by
   have := hp.mem_iff.1 (mL _ h);simp at this
  refine ⟨_, rfl, N, _, rfl, j, ?_⟩;rw [zG (by omega) (by omega)];refine t.put (c := N) (N := N + 1) (fr := []) (by omega) (fun x y => ?_) (by omega) ?_ (by simp)
  ·cases ht : x.taken
   ·rfl
   ·exact absurd (t.oth N x y ht) j
  ·rw [List.range_succ];exact (hp.cons N).trans (List.perm_append_singleton N _).symm
 ·rw [List.concat_eq_append] at i;rw [i] at hlen;simp only [lA, List.length_singleton] at hlen;have D : w64 ((a.free.length : Int) - 1) = (fr.length : Int) := by rw [i, zG] <;> simp <;> omega
  rw [D, dT (by omega), cT];have F : mIdx a.free (fr.length : Int) = some c := by rw [i, yF]
  have I : mCut a.free 0 (fr.length : Int) = some fr := by
   unfold mCut; rw [if_pos ⟨by omega, by omega, by rw [i]; simp; omega⟩, i]; simp
  rw [F, I];simp only [bS, rB];have O : 0 <= c := H.fre c (by rw [i]; simp);obtain ⟨c, rfl⟩ : ∃ d : Nat, c = (d : Int) := ⟨c.toNat, by omega⟩
  have l : (c :: (L.map Prod.fst ++ fr.map Int.toNat)).Perm (List.range N) := by
   refine List.Perm.trans ?_ hp;rw [i];simp only [List.map_append, pC, List.map_nil, tN];rw [<- aA];exact (List.perm_append_singleton c _).symm
  have J : c < N := by
   have := l.mem_iff.1 (List.mem_cons_self ..);simpa using this
  have j : c ∉ L.map Prod.fst := fun h => (List.nodup_cons.1 (l.nodup_iff.2 List.nodup_range)).1 (mL _ h)
  rw [yC, List.getElem?_eq_getElem (by rw [H.len]; omega)];simp only [bS];refine ⟨_, rfl, c, _, rfl, j, ?_⟩;rw [u];refine t.put (c := c) (N := N) (fr := fr) (by omega) (fun x y => ?_) B l (fun f hf => H.fre f (by rw [i]; simp [hf]));cases ht : x.taken
  ·rfl
  ·exact absurd (t.oth c x y ht) j
theorem Ar.give {κ : Cfg} {n : Nat} {a : zb} {L : Heap} {c : Nat} {x : zr} (H : Ar κ n a ((c, x) :: L)) :
  Do (vC a (c : Int)) fun r => ∃ (j : zb), r = (true, j) /\ Ar κ (n + 1) j L := by
 obtain ⟨m, e, t⟩ := H.tick;have hm : (c, x) ∈ (c, x) :: L := List.mem_cons_self ..;obtain ⟨N, A, B, hp⟩ := H.nev;have u := H.cap;have hlen := hp.length_eq;simp only [lA, lM, List.length_range, lC] at hlen;unfold vC;rw [e];simp only [bS];rw [oZ t hm];simp only [bS, Bool.not_true, cF];rw [yC, (H.hav _ hm).1];simp only [bS];rw [xd (by simp only [List.length_singleton]; omega)];refine ⟨_, rfl, _, rfl, ?_⟩;have i : c < a.l.length := by rw [H.len]; exact H.lt hm
 have hnd := H.nodup;simp only [pC, List.nodup_cons] at hnd;exact { t with
  len := by simp [mSet, H.len]
  nev := ⟨N, A, B, by
   refine List.Perm.trans ?_ hp;simp only [List.map_append, pC, List.map_nil, tN];rw [<- aA];exact List.perm_append_singleton c _⟩
  fre := by
   intro f hf;rcases List.mem_append.1 hf with hf | hf
   ·exact H.fre f hf
   ·simp at hf; omega
  hav := by
   intro p hp;have h2 := H.hav p (mC _ hp);refine ⟨?_, h2.2⟩;simp only [mSet, tN];rw [getD_set_ne (fun e => hnd.1 (by rw [e]; exact List.mem_map_of_mem (f := Prod.fst) hp))];exact h2.1
  oth := by
   intro d z hz y;simp only [mSet, tN] at hz;by_cases hd : c = d
   ·subst hd;rw [List.getElem?_set_self i] at hz;cases hz;simp at y
   ·rw [getD_set_ne hd] at hz;have := H.oth d z hz y;simp only [pC, iC] at this;rcases this with rfl | h
    ·exact absurd rfl hd
    ·exact h }
theorem mc {C : Nat} (h : C <= 65536) : ∃ a, q8 (C : Int) = some a /\ Ar ⟨C, 0, 0, 0⟩ 0 a [] := by
 unfold q8;have e : (if (if (65536 : Int) < (C : Int) then 65536 else (C : Int)) > 0 then (if (65536 : Int) < (C : Int) then 65536 else (C : Int)) else 0) = (C : Int) := by
  split <;> split <;> omega
 rw [e];unfold gD nT;rw [if_pos (by omega)];refine ⟨_, rfl, ?_⟩;refine ⟨by simp, h, ⟨0, rfl, by simp, by simp⟩, by simp, by simp, ?_, by simp, by simp, by simp, by simp, rfl, rfl⟩;intro c x i ht;simp only [tN] at i;obtain ⟨h1, h2⟩ := List.getElem?_eq_some_iff.1 i;rw [List.getElem_replicate] at h2;subst h2;simp at ht
end
noncomputable section
set_option maxRecDepth 10000
structure It where
 i : Nat
 k : Int
 s : Int
def It.lt (x y : It) : Prop := x.k < y.k \/ (x.k = y.k /\ (x.s < y.s \/ (x.s = y.s /\ x.i < y.i)))
instance (x y : It) : Decidable (x.lt y) := by unfold It.lt; exact inferInstance
theorem It.lt_irrefl (x : It) : ¬ x.lt x := by unfold It.lt; omega
theorem It.le_trans {x y z : It} (h : ¬ y.lt x) (e : ¬ z.lt y) : ¬ z.lt x := by unfold It.lt at *; omega
theorem It.lt_asymm {x y : It} (h : x.lt y) : ¬ y.lt x := by unfold It.lt at *; omega
theorem It.le_of_lt {x y z : It} (h : ¬ y.lt x) (e : z.lt x) : z.lt y := by unfold It.lt at *; omega
theorem It.iI {x y z : It} (h : x.lt y) (e : ¬ z.lt y) : x.lt z := by unfold It.lt at *; omega
structure Nd where
 c : Nat
 up : Int
 down : Int
 left : Int
 right : Int
 rank : Int
 mark : Int
def Nd.cell (ν : Nd) (i : Nat) : zr := zr.mk ν.up ν.down ν.left ν.right ν.rank ν.mark (i : Int) 0 0 (-1) true
def It.cell (x : It) (n : Int) : zr := zr.mk (-1) (-1) (-1) (-1) 0 0 (-1) x.k x.s n true
def pr (it : Nat -> It) (ν : Nd) : Heap := [(ν.c, ν.cell (it ν.c).i), ((it ν.c).i, (it ν.c).cell ν.c)]
def lay (it : Nat -> It) (N : List Nd) : Heap := N.flatMap (pr it)
theorem vQ (it : Nat -> It) (ν : Nd) (N : List Nd) : lay it (ν :: N) = (ν.c, ν.cell (it ν.c).i) :: ((it ν.c).i, (it ν.c).cell ν.c) :: lay it N := rfl
theorem oD (it : Nat -> It) (M N : List Nd) : lay it (M ++ N) = lay it M ++ lay it N := List.flatMap_append
theorem cu {it : Nat -> It} {M N : List Nd} (h : M.Perm N) : (lay it M).Perm (lay it N) := h.flatMap_right _
theorem qz (it : Nat -> It) : ∀ N : List Nd, (lay it N).length = 2 * N.length
 | [] => rfl
 | ν :: N => by rw [vQ]; simp only [lC, qz it N]; omega
theorem ud {it it' : Nat -> It} : ∀ {N : List Nd}, (∀ ν ∈ N, it' ν.c = it ν.c) -> lay it' N = lay it N
 | [], _ => rfl
 | ν :: N, h => by
  rw [vQ, vQ, h ν (List.mem_cons_self ..), ud (N := N) fun μ e => h μ (mC _ e)]
theorem ky {it : Nat -> It} {ν : Nd} : ∀ {N : List Nd}, ν ∈ N -> (ν.c, ν.cell (it ν.c).i) ∈ lay it N /\ ((it ν.c).i, (it ν.c).cell ν.c) ∈ lay it N := fun {N} h =>
 ⟨List.mem_flatMap.2 ⟨ν, h, by simp [pr]⟩, List.mem_flatMap.2 ⟨ν, h, by simp [pr]⟩⟩
def Hp (κ : Cfg) (n : Nat) (a : zb) (it : Nat -> It) (N : List Nd) (L : Heap) : Prop := Ar κ n a (lay it N ++ L)
section
variable {κ : Cfg} {n : Nat} {a : zb} {it : Nat -> It} {N : List Nd} {L : Heap}
theorem Hp.p {M : List Nd} (H : Hp κ n a it N L) (h : N.Perm M) : Hp κ n a it M L := Ar.p H ((cu h).append_right _)
theorem Hp.mono {m : Nat} (H : Hp κ n a it N L) (h : n <= m) : Hp κ m a it N L := Ar.mono H h
theorem Hp.node (H : Hp κ n a it N L) {ν : Nd} (h : ν ∈ N) : (ν.c, ν.cell (it ν.c).i) ∈ lay it N ++ L := mL _ (ky h).1
theorem Hp.item (H : Hp κ n a it N L) {ν : Nd} (h : ν ∈ N) : ((it ν.c).i, (it ν.c).cell ν.c) ∈ lay it N ++ L := mL _ (ky h).2
theorem Hp.lt (H : Hp κ n a it N L) {ν : Nd} (h : ν ∈ N) : ν.c < κ.C := Ar.lt H (H.node h)
theorem Hp.itlt (H : Hp κ n a it N L) {ν : Nd} (h : ν ∈ N) : (it ν.c).i < κ.C := Ar.lt H (H.item h)
theorem Hp.live (H : Hp κ n a it N L) {ν : Nd} (h : ν ∈ N) : yt a (ν.c : Int) = some true := oZ H (H.node h)
theorem Hp.room (H : Hp κ n a it N L) : 2 * N.length + L.length <= κ.C := by
 have := Ar.room H;rw [lA, qz] at this; exact this
theorem sD (it : Nat -> It) : ∀ N : List Nd, ((lay it N).map Prod.fst).Perm (N.map Nd.c ++ N.map fun ν => (it ν.c).i)
 | [] => .refl _
 | ν :: N => by
  rw [vQ];simp only [pC, List.cons_append];refine List.Perm.cons _ ?_;exact ((sD it N).cons _).trans List.perm_middle.symm
theorem Hp.nodup (H : Hp κ n a it N L) : ((N.map Nd.c ++ N.map fun ν => (it ν.c).i) ++ L.map Prod.fst).Nodup := by
 have := Ar.nodup H;rw [List.map_append] at this;exact ((sD it N).append_right _).nodup_iff.1 this
theorem Hp.nd (H : Hp κ n a it N L) : (N.map Nd.c).Nodup := (List.nodup_append.1 (List.nodup_append.1 H.nodup).1).1
theorem Hp.ne {ν μ : Nd} (H : Hp κ n a it (ν :: μ :: N) L) : ν.c ≠ μ.c := by
 have := H.nd;simp only [pC, List.nodup_cons, iC, not_or] at this;exact this.1.1
theorem Hp.cy {ν : Nd} (H : Hp κ n a it (ν :: N) L) : ∀ μ ∈ N, μ.c ≠ ν.c := by
 have := H.nd;simp only [pC, List.nodup_cons] at this;exact fun μ i e => this.1 (e ▸ List.mem_map_of_mem (f := Nd.c) i)
theorem Hp.same (H : Hp κ n a it N L) {ν μ : Nd} (h : ν ∈ N) (i : μ ∈ N) (e : ν.c = μ.c) : ν = μ := by
 obtain ⟨l1, l2, rfl⟩ := List.append_of_mem h;have hp : (l1 ++ ν :: l2).Perm (ν :: (l1 ++ l2)) := List.perm_middle;rcases List.mem_cons.1 (hp.mem_iff.1 i) with r | r
 ·exact r.symm
 ·exact absurd e.symm ((H.p hp).cy μ r)
theorem Hp.get (H : Hp κ n a it N L) {ν : Nd} (h : ν ∈ N) {f v : Int} (hf : zr.rU (ν.cell (it ν.c).i) f = some v := by rfl) (h0 : 0 <= f := by decide) (h1 : f < 10 := by decide) :
  Do (zX a (ν.c : Int) f) fun r => ∃ e, r = (v, e) /\ Hp κ (n + 1) e it N L := Ar.get H (H.node h) hf h0 h1
theorem Hp.getc (H : Hp κ n a it N L) {ν : Nd} (h : ν ∈ N) {f v : Int} (hv : -1 <= v) (j : v < κ.C) (hf : zr.rU (ν.cell (it ν.c).i) f = some v := by rfl) (h0 : 0 <= f := by decide) (h1 : f < 10 := by decide) :
  Do (zE a (ν.c : Int) f) fun r => ∃ e, r = (v, e) /\ Hp κ (n + 1) e it N L := Ar.cell H (H.node h) hf hv j h0 h1
theorem Hp.geti (H : Hp κ n a it N L) {ν : Nd} (h : ν ∈ N) :
  Do (zE a (ν.c : Int) 6) fun r => ∃ e, r = (((it ν.c).i : Int), e) /\ Hp κ (n + 1) e it N L := H.getc h (by omega) (by have := H.itlt h; omega)
theorem Hp.getN (H : Hp κ n a it N L) {c f : Int} (h : c < 0) : Do (zX a c f) fun r => ∃ e, r = (-1, e) /\ Hp κ (n + 1) e it N L := Ar.getN H h
theorem Hp.eZ (H : Hp κ n a it N L) {c f : Int} (h : c < 0) : Do (zE a c f) fun r => ∃ e, r = (-1, e) /\ Hp κ (n + 1) e it N L := Ar.eZ H h
theorem Hp.set {ν : Nd} (H : Hp κ n a it (ν :: N) L) (μ : Nd) {f v : Int} (j : μ.c = ν.c := by rfl) (hf : zr.qQ (ν.cell (it ν.c).i) f v = some (μ.cell (it ν.c).i) := by rfl) (h0 : 0 <= f := by decide) (h1 : f < 10 := by decide) :
  Do (zy a (ν.c : Int) f v) fun r => ∃ e, r = (true, e) /\ Hp κ (n + 1) e it (μ :: N) L := by
 unfold Hp at H;rw [vQ] at H;refine (Ar.set H hf rfl h0 h1).mono ?_;rintro _ ⟨e, rfl, l⟩;refine ⟨e, rfl, ?_⟩;unfold Hp;rw [vQ, j];exact l
theorem Hp.setN (H : Hp κ n a it N L) {c f v : Int} (h : c < 0) : Do (zy a c f v) fun r => ∃ e, r = (false, e) /\ Hp κ (n + 1) e it N L := Ar.setN H h
theorem lv {L : Heap} (H : Ar κ n a L) {x : It} {p : Int} (h : (x.i, x.cell p) ∈ L) :
  Do (ri a (x.i : Int)) fun r => ∃ e, r = (zi.mk x.k x.s, e) /\ Ar κ (n + 2) e L := by
 unfold ri;refine (H.get h rfl).bind ?_;rintro _ ⟨a1, rfl, H⟩;refine (H.get h rfl).bind ?_;rintro _ ⟨a2, rfl, H⟩;exact ⟨_, rfl, _, rfl, H⟩
theorem Az (x : Int) : vT x = some false := by unfold vT; simp
def sgn (x y : Int) : Int := if x < y then -1 else if x > y then 1 else 0
theorem bw (x y : Int) : (sgn x y = -1 /\ x < y) \/ (sgn x y = 1 /\ y < x) \/ (sgn x y = 0 /\ x = y) := by
 unfold sgn; split
 ·exact Or.inl ⟨rfl, by assumption⟩
 ·split
  ·exact Or.inr (Or.inl ⟨rfl, by omega⟩)
  ·exact Or.inr (Or.inr ⟨rfl, by omega⟩)
theorem ry (x y : Int) : vf x y = some (sgn x y) := by
 unfold vf sgn;rw [Az, Az];simp only [bS, cF];by_cases h : x < y
 ·simp [h]
 ·by_cases e : x > y
  ·simp [h, e]
  ·simp [h, e]
theorem cY {k : Nat} (hk : 3 <= k) (x y : Int) : qw k [x, y] = some (if x ≠ 0 then x else y) := by
 obtain ⟨m, rfl⟩ : ∃ m, k = m + 3 := ⟨k - 3, by omega⟩
 unfold qw;rw [vZ];rw [show (([x, y] : List Int).length : Int) = 2 from rfl];rw [show decide ((0 : Int) < 2) = true from rfl, cT, show mIdx [x, y] 0 = some x from rfl];simp only [bS];by_cases h : x = 0
 ·subst h;rw [show ((0 : Int) != 0) = false from rfl, cF, show w64 (0 + 1) = 1 from rfl, vZ];rw [show decide ((1 : Int) < 2) = true from rfl, cT, show mIdx [0, y] 1 = some y from rfl];simp only [bS];by_cases e : y = 0
  ·subst e;rw [show ((0 : Int) != 0) = false from rfl, cF, show w64 (1 + 1) = 2 from rfl, vZ]
   rfl
  ·rw [show (y != 0) = true by simp [e], cT];simp
 ·rw [show (x != 0) = true by simp [h], cT];simp [h]
theorem jb {k : Nat} (hk : 3 <= k) (x y : zi) : xY k x y = some (if sgn x.Key y.Key ≠ 0 then sgn x.Key y.Key else sgn x.Serial y.Serial) := by
 unfold xY;rw [ry, ry];simp only [bS];rw [cY hk]
 rfl
theorem kL {k : Nat} (hk : 3 <= k) {L : Heap} (H : Ar κ n a L) {x y : It} {p q : Int} (h : (x.i, x.cell p) ∈ L) (l : (y.i, y.cell q) ∈ L) :
  Do (rL k a (x.i : Int) (y.i : Int)) fun r => ∃ j, r = (decide (x.lt y), j) /\ Ar κ (n + 4) j L := by
 unfold rL;refine (lv H h).bind ?_;rintro _ ⟨a1, rfl, H⟩;refine (lv H l).bind ?_;rintro _ ⟨a2, rfl, H⟩;refine Do.seq (jb hk _ _) ?_;refine ⟨_, rfl, a2, ?_, H⟩;refine Prod.ext ?_ rfl;rw [Bool.eq_iff_iff];simp only [Bool.or_eq_true, Bool.and_eq_true, decide_eq_true_eq, beq_iff_eq];unfold It.lt;rcases bw x.k y.k with ⟨e, h1⟩ | ⟨e, h1⟩ | ⟨e, h1⟩ <;> rw [e]
 ·exact ⟨fun _ => Or.inl h1, fun _ => Or.inl (by rw [if_pos (by decide)]; decide)⟩
 ·rw [if_pos (by decide)];refine ⟨fun h => ?_, fun h => ?_⟩
  ·rcases h with h | h
   ·exact absurd h (by decide)
   ·exact absurd h.1 (by decide)
  ·omega
 ·rw [if_neg (by decide)];rcases bw x.s y.s with ⟨e, h2⟩ | ⟨e, h2⟩ | ⟨e, h2⟩ <;> rw [e]
  ·exact ⟨fun _ => Or.inr ⟨h1, Or.inl h2⟩, fun _ => Or.inl (by decide)⟩
  ·refine ⟨fun h => ?_, fun h => ?_⟩
   ·rcases h with h | h
    ·exact absurd h (by decide)
    ·exact absurd h.1 (by decide)
   ·omega
  ·refine ⟨fun h => ?_, fun h => ?_⟩
   ·rcases h with h | h
    ·exact absurd h (by decide)
    ·exact Or.inr ⟨h1, Or.inr ⟨h2, by omega⟩⟩
   ·refine Or.inr ⟨rfl, by omega⟩
theorem Hp.before {k : Nat} (hk : 3 <= k) (H : Hp κ n a it N L) {ν μ : Nd} (h : ν ∈ N) (e : μ ∈ N) :
  Do (vR k a (ν.c : Int) (μ.c : Int)) fun r => ∃ i, r = (decide ((it ν.c).lt (it μ.c)), i) /\ Hp κ (n + 6) i it N L := by
 unfold vR;refine (H.geti h).bind ?_;rintro _ ⟨a1, rfl, H⟩;refine (H.geti e).bind ?_;rintro _ ⟨a2, rfl, H⟩;refine (kL hk H (H.item h) (H.item e)).bind ?_;rintro _ ⟨a3, rfl, H⟩;exact ⟨_, rfl, _, rfl, H⟩
theorem lU {L : Heap} (H : Ar κ n a L) (hr : L.length < κ.C) (key serial : Int) :
  Do (oR a key serial) fun r => ∃ (i : Nat) (e : zb), r = ((i : Int), true, e) /\ i ∉ L.map Prod.fst /\ Ar κ (n + 3) e ((i, (It.mk i key serial).cell (-1)) :: L) := by
 unfold oR;refine (H.take hr).bind ?_;rintro _ ⟨c, a1, rfl, j, H⟩;refine Do.tb rfl ?_;refine Do.assoc ((H.set rfl).bind ?_);rintro _ ⟨a2, rfl, H⟩;refine Do.assoc ((H.set rfl).bind ?_);rintro _ ⟨a3, rfl, H⟩;exact ⟨_, rfl, c, _, rfl, j, H⟩
def upd (it : Nat -> It) (c : Nat) (x : It) : Nat -> It := fun d => if d = c then x else it d
theorem uq (it : Nat -> It) (c : Nat) (x : It) : upd it c x c = x := by simp [upd]
theorem vL (it : Nat -> It) {c d : Nat} (x : It) (h : d ≠ c) : upd it c x d = it d := by simp [upd, h]
def swp (it : Nat -> It) (c d : Nat) : Nat -> It := upd (upd it c (it d)) d (it c)
theorem rG {x : It} (H : Hp κ n a it N ((x.i, x.cell (-1)) :: L)) (hr : 2 * N.length + 1 + L.length < κ.C) :
  Do (qq a (x.i : Int)) fun r => ∃ (c : Nat) (l : zb), r = ((c : Int), true, l) /\ Hp κ (n + 3) l (upd it c x) (⟨c, -1, -1, -1, -1, 0, 0⟩ :: N) L /\ ∀ ν ∈ N, ν.c ≠ c := by
 unfold qq qp;simp only [Option.bind_assoc, bS];have hl : (lay it N ++ (x.i, x.cell (-1)) :: L).length < κ.C := by simp only [lA, lC, qz]; omega
 refine (Ar.take H hl).bind ?_;rintro _ ⟨c, a1, rfl, t, H⟩;refine Do.tb rfl ?_;refine Do.assoc ((Ar.set H rfl).bind ?_);rintro _ ⟨a2, rfl, H⟩;have H1 : Ar κ (n + 2) a2 ((c, (Nd.mk c (-1) (-1) (-1) (-1) 0 0).cell x.i) :: (lay it N ++ (x.i, x.cell (-1)) :: L)) := H;have u : Ar κ (n + 2) a2 ((x.i, x.cell (-1)) :: (c, (Nd.mk c (-1) (-1) (-1) (-1) 0 0).cell x.i) :: (lay it N ++ L)) := H1.p (pm fun p => by simp only [List.count_cons, List.count_append]; omega);refine Do.assoc ((Ar.set u (y := x.cell c) rfl).bind ?_);rintro _ ⟨a3, rfl, z⟩;have hn : ∀ ν ∈ N, ν.c ≠ c := fun ν j e => t (by
  rw [List.map_append];exact mL _ (e ▸ List.mem_map_of_mem (f := Prod.fst) (ky (it := it) j).1))
 refine ⟨_, rfl, c, _, rfl, ?_, hn⟩;unfold Hp;rw [vQ];simp only [uq];rw [ud (it := it) (it' := upd it c x) fun ν j => vL _ _ (hn ν j)];exact z.t2
theorem rK {ν : Nd} (H : Hp κ n a it (ν :: N) L) :
  Do (rv a (ν.c : Int)) fun r => ∃ (e : zb), r = (((it ν.c).i : Int), e) /\ Hp κ (n + 3) e it N (((it ν.c).i, (it ν.c).cell (-1)) :: L) := by
 unfold rv;refine (H.geti (List.mem_cons_self ..)).bind ?_;rintro _ ⟨a1, rfl, H⟩;unfold Hp at H;rw [vQ] at H;refine (Ar.set H.t2 (y := (it ν.c).cell (-1)) rfl).bind ?_;rintro _ ⟨a2, rfl, H⟩;refine (Ar.give H.t2).bind ?_;rintro _ ⟨a3, rfl, H⟩;refine ⟨_, rfl, _, rfl, ?_⟩;unfold Hp;exact H.p List.perm_middle.symm
theorem qF {ν μ : Nd} (H : Hp κ n a it (ν :: μ :: N) L) :
  Do (s0 a (ν.c : Int) (μ.c : Int)) fun t => Hp κ (n + 6) t (swp it ν.c μ.c) (ν :: μ :: N) L := by
 unfold s0 qp;simp only [Option.bind_assoc, bS];have j := H.ne;have l : ∀ ξ ∈ N, ξ.c ≠ ν.c /\ ξ.c ≠ μ.c := by
  intro ξ e;refine ⟨H.cy ξ (mC _ e), ?_⟩;have hp : (ν :: μ :: N).Perm (μ :: ν :: N) := List.Perm.swap ..;exact (H.p hp).cy ξ (mC _ e)
 refine (H.geti (List.mem_cons_self ..)).bind ?_;rintro _ ⟨a1, rfl, H⟩;refine (H.geti (mC _ (List.mem_cons_self ..))).bind ?_;rintro _ ⟨a2, rfl, H⟩;unfold Hp at H;rw [vQ, vQ] at H;refine (Ar.set H (y := ν.cell (it μ.c).i) rfl).bind ?_;rintro _ ⟨a3, rfl, H⟩;refine (Ar.set (Ar.t4 H) (y := (it μ.c).cell ν.c) rfl).bind ?_;rintro _ ⟨a4, rfl, H⟩;refine (Ar.set (Ar.t4 H) (y := μ.cell (it ν.c).i) rfl).bind ?_;rintro _ ⟨a5, rfl, H⟩;refine (Ar.set (Ar.t4 H) (y := (it ν.c).cell μ.c) rfl).bind ?_;rintro _ ⟨u, rfl, H⟩;refine ⟨_, rfl, ?_⟩;unfold Hp;rw [vQ, vQ];have x : swp it ν.c μ.c ν.c = it μ.c := by simp [swp, upd, j]
 have z : swp it ν.c μ.c μ.c = it ν.c := by simp [swp, upd]
 rw [x, z, ud (it := it) (it' := swp it ν.c μ.c) fun ξ e => by simp [swp, upd, l ξ e]];exact (show Ar κ (n + 6) u (_ :: _ :: _ :: _ :: (lay it N ++ L)) from H).p (pm fun p => by simp only [List.count_cons, List.cons_append]; omega)
theorem o7 {L : Heap} {x : It} {p : Int} (H : Ar κ n a ((x.i, x.cell p) :: L)) {key : Int} (hk : key <= x.k) :
  Do (tO a (x.i : Int) key) fun r => ∃ (e : zb), r = (true, e) /\ Ar κ (n + 2) e ((x.i, (It.mk x.i key x.s).cell p) :: L) := by
 unfold tO;refine Do.assoc ((H.get (List.mem_cons_self ..) rfl).bind ?_);rintro _ ⟨a1, rfl, H⟩;refine Do.f (dF (by simp only [It.cell]; omega)) ?_;refine (Ar.set H (y := (It.mk x.i key x.s).cell p) rfl).bind ?_;rintro _ ⟨a2, rfl, H⟩;exact ⟨_, rfl, _, rfl, H⟩
end
end
noncomputable section
set_option maxRecDepth 10000
inductive F where
 | nil : F
 | cons (c r : Nat) (kids rest : F) : F
def F.hd : F -> Int
 | .nil => -1
 | .cons c _ _ _ => (c : Int)
def F.size : F -> Nat
 | .nil => 0
 | .cons _ _ kids rest => kids.size + rest.size + 1
structure Tr where
 c : Nat
 r : Nat
 kids : F
def F.trees : F -> List Tr
 | .nil => []
 | .cons c r kids rest => ⟨c, r, kids⟩ :: rest.trees
def F.of : List Tr -> F
 | [] => .nil
 | t :: e => .cons t.c t.r t.kids (F.of e)
theorem F.oP : ∀ e : List Tr, (F.of e).trees = e
 | [] => rfl
 | t :: e => by rw [F.of, F.trees, F.oP e]
def Tr.under (t l : Tr) : Tr := ⟨t.c, t.r + 1, .cons l.c l.r l.kids t.kids⟩
def nd : F -> Int -> List Nd
 | .nil, _ => []
 | .cons c r kids rest, up => ⟨c, up, kids.hd, -1, rest.hd, r, 0⟩ :: (nd kids c ++ nd rest up)
def Tr.nd (t : Tr) (u w : Int) : List Nd := ⟨t.c, u, t.kids.hd, -1, w, t.r, 0⟩ :: Go.Proofs.YteflmnbkdhneiaaGreat.nd t.kids t.c
structure Lt where
 t : Tr
 u : Int
 w : Int
def Lt.nd (l : Lt) : List Nd := l.t.nd l.u l.w
def LN (ls : List Lt) : List Nd := ls.flatMap Lt.nd
theorem sg (l : Lt) (ls : List Lt) : LN (l :: ls) = l.nd ++ LN ls := rfl
theorem vc (l m : List Lt) : LN (l ++ m) = LN l ++ LN m := List.flatMap_append
theorem jS {l m : List Lt} (h : l.Perm m) : (LN l).Perm (LN m) := h.flatMap_right _
def F.loose : F -> Int -> List Lt
 | .nil, _ => []
 | .cons c r kids rest, up => ⟨⟨c, r, kids⟩, up, rest.hd⟩ :: rest.loose up
theorem w7 : ∀ (f : F) (up : Int), nd f up = LN (f.loose up)
 | .nil, _ => rfl
 | .cons c r kids rest, up => by
  rw [F.loose, sg, nd, w7 rest up]; rfl
theorem xI : ∀ (f : F) (up : Int), (f.loose up).map Lt.t = f.trees
 | .nil, _ => rfl
 | .cons c r kids rest, up => by rw [F.loose, pC, xI rest up, F.trees]
def F.cells : F -> List Nat
 | .nil => []
 | .cons c _ kids rest => c :: (kids.cells ++ rest.cells)
def Tr.cells (t : Tr) : List Nat := t.c :: t.kids.cells
def TC (e : List Tr) : List Nat := e.flatMap Tr.cells
theorem xn : ∀ (f : F) (up : Int), (nd f up).map Nd.c = f.cells
 | .nil, _ => rfl
 | .cons c r kids rest, up => by rw [nd, pC, List.map_append, xn, xn, F.cells]
theorem F.xg : ∀ f : F, f.cells = TC f.trees
 | .nil => rfl
 | .cons c r kids rest => by rw [F.cells, F.trees, F.xg rest]; rfl
theorem F.ve : ∀ f : F, f.cells.length = f.size
 | .nil => rfl
 | .cons c r kids rest => by rw [F.cells, F.size, lC, lA, F.ve, F.ve]
theorem rV (f : F) (up : Int) : (nd f up).length = f.size := by
 rw [<- F.ve, <- xn f up, lM]
theorem gi : ∀ ls : List Lt, (LN ls).map Nd.c = TC (ls.map Lt.t)
 | [] => rfl
 | l :: ls => by
  rw [sg, List.map_append, gi ls, pC];show (⟨l.t.c, l.u, l.t.kids.hd, -1, l.w, l.t.r, 0⟩ :: nd l.t.kids l.t.c : List Nd).map Nd.c ++ _ = _;rw [pC, xn]; rfl
section
variable {κ : Cfg} {n : Nat} {a : zb} {it : Nat -> It} {N : List Nd} {L : Heap}
theorem qV (H : Hp κ n a it N L) {f : F} {up : Int} (h : ∀ ν ∈ nd f up, ν ∈ N) : -1 <= f.hd /\ f.hd < κ.C := by
 cases f with
 | nil => simp only [F.hd]; omega
 | cons c r kids rest =>
  have := H.lt (h _ (List.mem_cons_self ..));simp only [F.hd]; simp only at this; omega
def F.roots : F -> List Int
 | .nil => []
 | .cons c _ _ rest => (c : Int) :: rest.roots
theorem qU : ∀ f : F, f.roots = f.trees.map fun t => (t.c : Int)
 | .nil => rfl
 | .cons c r kids rest => by rw [F.roots, F.trees, pC, qU rest]
def F.len (f : F) : Nat := f.trees.length
theorem F.vO : ∀ f : F, f.len <= f.size
 | .nil => Nat.le_refl _
 | .cons c r kids rest => by
  have := F.vO rest;simp only [F.len, F.trees, F.size, lC] at *; omega
theorem eS : ∀ (f : F) (up : Int) {n : Nat} {a : zb} (H : Hp κ n a it N L) (hs : ∀ ν ∈ nd f up, ν ∈ N) (m : Nat) (out : List Int), f.len < m -> out.length + f.len <= κ.C ->
  Do (u7 3 m f.hd out a) fun r => ∃ i, r = (out ++ f.roots, i) /\ Hp κ (n + f.len) i it N L
 | .nil, up, n, a, H, hs, m, out, hm, j => by
  obtain ⟨m, rfl⟩ : ∃ q, m = q + 1 := ⟨m - 1, by omega⟩
  rw [u7];refine Do.assoc (Do.seq (kE (by decide)) ?_);exact ⟨_, rfl, a, by simp [F.roots], H⟩
 | .cons c r kids rest, up, n, a, H, hs, m, out, hm, j => by
  obtain ⟨m, rfl⟩ : ∃ q, m = q + 1 := ⟨m - 1, by omega⟩
  have hlen : (F.cons c r kids rest).len = rest.len + 1 := rfl;rw [hlen] at hm j ⊢;have l := hs _ (List.mem_cons_self ..);have e : ∀ ν ∈ nd rest up, ν ∈ N := fun ν h => hs ν (mC _ (List.mem_append_right _ h))
  rw [u7];refine Do.assoc (Do.seq (H.live l) (Do.tb rfl ?_));refine Do.assoc (Do.seq (Ar.cells H) ?_);have u := H.cap;refine Do.seq rfl (Do.t (dT (by omega)) ?_);refine Do.seq (xd (by simp only [List.length_singleton]; omega)) ?_;have hh := qV H e;refine (H.getc l (f := 3) hh.1 hh.2).bind ?_;rintro _ ⟨a1, rfl, H⟩;refine (eS rest up H e m (out ++ [(c : Int)]) (by omega) (by simp only [lA, List.length_singleton]; omega)).mono ?_;rintro _ ⟨a2, rfl, H⟩;exact ⟨a2, by simp [F.roots], H.mono (by omega)⟩
theorem qh : ∀ {l m : List Nat}, l.Nodup -> (∀ x ∈ l, x ∈ m) -> l.length <= m.length
 | [], _, _, _ => Nat.zero_le _
 | x :: l, m, hn, hs => by
  obtain ⟨h1, h2⟩ := List.nodup_cons.1 hn;have j := hs x (List.mem_cons_self ..);have := qh (m := m.erase x) h2 fun y t => by
   have i : y ≠ x := fun e => h1 (e ▸ t)
   exact (List.mem_erase_of_ne i).2 (hs y (mC _ t))
  rw [List.length_erase_of_mem j] at this;have : 0 < m.length := List.length_pos_of_mem j;simp only [lC]; omega
end
theorem mM {κ : Cfg} {n : Nat} {a : zb} {it : Nat -> It} {N : List Nd} {L : Heap} {ν μ : Nd} (H : Hp κ n a it (ν :: μ :: N) L) (h0 : -1 <= μ.down) (h1 : μ.down < κ.C) :
  Do (uB a (ν.c : Int) (μ.c : Int)) fun i => Hp κ (n + 4) i it (⟨ν.c, μ.c, ν.down, ν.left, μ.down, ν.rank, ν.mark⟩ :: ⟨μ.c, μ.up, ν.c, μ.left, μ.right, μ.rank, μ.mark⟩ :: N) L := by
 unfold uB;refine (H.getc (mC _ (List.mem_cons_self ..)) (f := 1) h0 h1).bind ?_;rintro _ ⟨a1, rfl, H⟩;refine (H.set ⟨ν.c, ν.up, ν.down, ν.left, μ.down, ν.rank, ν.mark⟩).bind ?_;rintro _ ⟨a2, rfl, H⟩;refine (H.set (ν := ⟨ν.c, ν.up, ν.down, ν.left, μ.down, ν.rank, ν.mark⟩) ⟨ν.c, μ.c, ν.down, ν.left, μ.down, ν.rank, ν.mark⟩).bind ?_;rintro _ ⟨a3, rfl, H⟩;have e := H.p (List.Perm.swap ..);refine (e.set ⟨μ.c, μ.up, ν.c, μ.left, μ.right, μ.rank, μ.mark⟩).bind ?_;rintro _ ⟨a4, rfl, e⟩;exact ⟨_, rfl, e.p (List.Perm.swap ..)⟩
def lk (it : Nat -> It) (s t : Tr) : Tr := if (it t.c).lt (it s.c) then t.under s else s.under t
theorem npm {l l' : List Nd} (h : ∀ p : Nd -> Bool, l.countP p = l'.countP p) : l.Perm l' := by
 classical
 exact List.perm_iff_count.2 fun x => h _
theorem linked {κ : Cfg} {n : Nat} {a : zb} {it : Nat -> It} {N : List Nd} {L : Heap} {s t : Tr} {u w j w' : Int} {r : Nat} (H : Hp κ n a it (s.nd u w ++ (t.nd j w' ++ N)) L) (hs : s.r = r) (B : r < 1000) :
  Do ((uB a (t.c : Int) (s.c : Int)).bind fun e => (zy e (s.c : Int) 4 (w64 ((r : Int) + 1))).bind fun i => some ((s.c : Int), i.2)) fun res => ∃ l, res = ((s.c : Int), l) /\ Hp κ (n + 5) l it ((s.under t).nd u w ++ N) L := by
 have H1 : Hp κ n a it (⟨t.c, j, t.kids.hd, -1, w', t.r, 0⟩ :: ⟨s.c, u, s.kids.hd, -1, w, s.r, 0⟩ :: (nd s.kids s.c ++ (nd t.kids t.c ++ N))) L := by
  refine H.p (npm fun p => ?_);simp only [Tr.nd, List.countP_cons, List.countP_append]; omega
 have hh := qV H1 (f := s.kids) (up := s.c) fun ν h => mC _ (mC _ (mL _ h))
 refine (mM H1 hh.1 hh.2).bind ?_;intro a1 x;have y := x.p (List.Perm.swap ..);rw [zG (by omega) (by omega)];refine (y.set ⟨s.c, u, t.c, -1, w, (r : Int) + 1, 0⟩ rfl rfl).bind ?_;rintro _ ⟨a2, rfl, z⟩;refine ⟨_, rfl, _, rfl, ?_⟩;have : (((s.under t).r : Nat) : Int) = (r : Int) + 1 := by simp only [Tr.under, hs]; omega
 have A := z.p (M := (s.under t).nd u w ++ N) (npm fun p => by
  simp only [Tr.nd, this];simp only [Tr.under, nd, F.hd, List.countP_cons, List.countP_append]; omega)
 exact A
theorem eO {κ : Cfg} {n : Nat} {a : zb} {it : Nat -> It} {N : List Nd} {L : Heap} {k : Nat} (hk : 3 <= k) {s t : Tr} {u w e w' : Int} {r : Nat} (H : Hp κ n a it (s.nd u w ++ (t.nd e w' ++ N)) L) (hs : s.r = r) (ht : t.r = r) (j : r < 1000) :
  Do (te k a (s.c : Int) (t.c : Int) (r : Int)) fun res => ∃ u w l, res = (((lk it s t).c : Int), l) /\ Hp κ (n + 11) l it ((lk it s t).nd u w ++ N) L := by
 unfold te;have x : (⟨s.c, u, s.kids.hd, -1, w, s.r, 0⟩ : Nd) ∈ s.nd u w ++ (t.nd e w' ++ N) := mL _ (List.mem_cons_self ..);have m2 : (⟨t.c, e, t.kids.hd, -1, w', t.r, 0⟩ : Nd) ∈ s.nd u w ++ (t.nd e w' ++ N) := List.mem_append_right _ (mL _ (List.mem_cons_self ..));refine (H.before hk m2 x).bind ?_;rintro _ ⟨a1, rfl, H⟩;unfold lk;by_cases c : (it t.c).lt (it s.c)
 ·rw [if_pos c];refine Do.tb (dT c) ?_;have H1 : Hp κ (n + 6) a1 it (t.nd e w' ++ (s.nd u w ++ N)) L := H.p (npm fun p => by simp only [List.countP_append]; omega);refine (linked H1 ht j).mono ?_;rintro _ ⟨a2, rfl, i⟩;exact ⟨_, _, _, rfl, i⟩
 ·rw [if_neg c];refine Do.fb (dF c) ?_;refine (linked H hs j).mono ?_;rintro _ ⟨a2, rfl, i⟩;exact ⟨_, _, _, rfl, i⟩
end
noncomputable section
set_option maxRecDepth 10000
def Lt.top (l : Lt) : Nd := ⟨l.t.c, l.u, l.t.kids.hd, -1, l.w, l.t.r, 0⟩
theorem kO (l : Lt) : l.nd = l.top :: nd l.t.kids l.t.c := rfl
theorem nS {ls : List Lt} {l : Lt} (h : l ∈ ls) : l.top ∈ LN ls := List.mem_flatMap.2 ⟨l, h, List.mem_cons_self ..⟩
def cs (e : List Tr) : List Int := e.map fun t => (t.c : Int)
def lc (ls : List Lt) : List Int := cs (ls.map Lt.t)
theorem vd (l m : List Lt) : lc (l ++ m) = lc l ++ lc m := by simp [lc, cs]
theorem kb (l : Lt) (m : List Lt) : lc (l :: m) = (l.t.c : Int) :: lc m := rfl
theorem vq (l : List Lt) : (lc l).length = l.length := by simp [lc, cs]
section
variable {κ : Cfg} {it : Nat -> It} {N : List Nd} {L : Heap}
theorem fS (all : List Lt) (hl : all.length < 100000) : ∀ (rs i : List Lt) {n : Nat} {a : zb} (H : Hp κ n a it (LN rs ++ (nd (F.of (i.map Lt.t)) (-1) ++ N)) L) (m : Nat), rs.length < m -> all = rs.reverse ++ i ->
  Do (uI (lc all) m (F.of (i.map Lt.t)).hd ((rs.length : Int) - 1) a) fun r => ∃ x, r = ((F.of (all.map Lt.t)).hd, x) /\ Hp κ (n + 2 * rs.length) x it (nd (F.of (all.map Lt.t)) (-1) ++ N) L
 | [], i, n, a, H, m, hm, e => by
  obtain ⟨m, rfl⟩ : ∃ q, m = q + 1 := ⟨m - 1, by omega⟩
  rw [uI];refine Do.f (dF (by simp)) ?_;have y : all = i := e;subst y;exact ⟨_, rfl, a, rfl, H⟩
 | l :: rs, i, n, a, H, m, hm, e => by
  obtain ⟨m, rfl⟩ : ∃ q, m = q + 1 := ⟨m - 1, by simp at hm; omega⟩
  simp only [lC] at hm;have hlen : rs.length < 100000 := by have := congrArg List.length e; simp at this; omega
  have z : (((l :: rs).length : Nat) : Int) - 1 = (rs.length : Int) := by simp only [lC]; omega
  have j : mIdx (lc all) (rs.length : Int) = some (l.t.c : Int) := by
   rw [e, List.reverse_cons, aA, vd];have := yF (lc rs.reverse) (lc i) (l.t.c : Int);rw [vq, List.length_reverse] at this;exact this
  rw [z, uI];refine Do.t (dT (by omega)) ?_;refine Do.seq j ?_;have H1 : Hp κ n a it (l.top :: (nd l.t.kids l.t.c ++ (LN rs ++ (nd (F.of (i.map Lt.t)) (-1) ++ N)))) L := by
   refine H.p (npm fun p => ?_);rw [sg, kO];simp only [List.countP_cons, List.countP_append]; omega
  refine (H1.set ⟨l.t.c, l.u, l.t.kids.hd, -1, (F.of (i.map Lt.t)).hd, l.t.r, 0⟩).bind ?_;rintro _ ⟨a1, rfl, A⟩;refine Do.seq j ?_;refine (A.set (ν := ⟨l.t.c, l.u, l.t.kids.hd, -1, (F.of (i.map Lt.t)).hd, l.t.r, 0⟩) ⟨l.t.c, -1, l.t.kids.hd, -1, (F.of (i.map Lt.t)).hd, l.t.r, 0⟩).bind ?_;rintro _ ⟨a2, rfl, B⟩;refine Do.seq j ?_;rw [zG (by omega) (by omega)];have D : Hp κ (n + 2) a2 it (LN rs ++ (nd (F.of ((l :: i).map Lt.t)) (-1) ++ N)) L := by
   refine B.p (npm fun p => ?_);simp only [pC, F.of, nd, List.countP_cons, List.countP_append]; omega
  refine (fS all hl rs (l :: i) D m (by omega) (by rw [e]; simp)).mono ?_;rintro _ ⟨a3, rfl, I⟩;exact ⟨a3, rfl, I.mono (by simp only [lC]; omega)⟩
theorem eV {k : Nat} (ls : List Lt) (hl : ls.length < 100000) (hk : ls.length < k) {n : Nat} {a : zb} (H : Hp κ n a it (LN ls ++ N) L) :
  Do (q7 k a (lc ls)) fun r => ∃ e, r = ((F.of (ls.map Lt.t)).hd, e) /\ Hp κ (n + 2 * ls.length) e it (nd (F.of (ls.map Lt.t)) (-1) ++ N) L := by
 unfold q7;rw [vq, zG (by omega) (by omega)];have H1 : Hp κ n a it (LN ls.reverse ++ (nd (F.of (([] : List Lt).map Lt.t)) (-1) ++ N)) L := H.p ((jS ls.reverse_perm.symm).append_right _);have := fS ls hl ls.reverse [] H1 k (by simpa using hk) (by simp);rw [List.length_reverse] at this;refine this.bind ?_;rintro _ ⟨a1, rfl, i⟩;exact ⟨_, rfl, a1, rfl, i⟩
def zl (l : List Nat) : List Int := l.map fun c : Nat => (c : Int)
def bst (it : Nat -> It) : Nat -> List Nat -> Nat
 | b, [] => b
 | b, c :: r => bst it (if (it c).lt (it b) then c else b) r
theorem j8 : ∀ (l : List Nat) (b : Nat), bst it b l = b \/ bst it b l ∈ l
 | [], b => Or.inl rfl
 | c :: r, b => by
  rw [bst];split
  ·rcases j8 r c with h | h
   ·exact Or.inr (by rw [h]; exact List.mem_cons_self ..)
   ·exact Or.inr (mC _ h)
  ·rcases j8 r b with h | h
   ·exact Or.inl h
   ·exact Or.inr (mC _ h)
theorem ie : ∀ (l : List Nat) (b : Nat), (¬ (it b).lt (it (bst it b l))) /\ ∀ c ∈ l, ¬ (it c).lt (it (bst it b l))
 | [], b => ⟨It.lt_irrefl _, by simp⟩
 | c :: r, b => by
  rw [bst];split
  ·rename_i h;obtain ⟨h1, h2⟩ := ie r c;refine ⟨It.le_trans h1 (It.lt_asymm h), fun d hd => ?_⟩;rcases List.mem_cons.1 hd with rfl | hd
   ·exact h1
   ·exact h2 d hd
  ·rename_i h;obtain ⟨h1, h2⟩ := ie r b;refine ⟨h1, fun d hd => ?_⟩;rcases List.mem_cons.1 hd with rfl | hd
   ·exact It.le_trans h1 h
   ·exact h2 d hd
theorem dc {k : Nat} (all : List Nat) (j : ∀ c ∈ all, ∃ ν ∈ N, ν.c = c) (hl : all.length < 100000) : ∀ (post pre : List Nat) (b : Nat) {n : Nat} {a : zb} (H : Hp κ n a it N L) (m : Nat), post.length + 3 < m -> all = pre ++ post -> b ∈ all ->
  Do (wY (all.length : Int) (zl all) m (b : Int) (pre.length : Int) a) fun r => ∃ y, r = (((bst it b post : Nat) : Int), y) /\ Hp κ (n + 6 * post.length) y it N L
 | [], pre, b, n, a, H, m, hm, e, l => by
  obtain ⟨m, rfl⟩ : ∃ q, m = q + 1 := ⟨m - 1, by simp at hm; omega⟩
  rw [wY];refine Do.f (dF (by rw [e]; simp)) ?_;exact ⟨_, rfl, a, rfl, H⟩
 | c :: post, pre, b, n, a, H, m, hm, e, l => by
  obtain ⟨m, rfl⟩ : ∃ q, m = q + 1 := ⟨m - 1, by simp at hm; omega⟩
  simp only [lC] at hm;have hlen : pre.length < 100000 := by have := congrArg List.length e; simp at this; omega
  have z : mIdx (zl all) (pre.length : Int) = some (c : Int) := by
   rw [e, zl, List.map_append];have := yF (zl pre) (zl post) (c : Int)
   rwa [zl, lM] at this
  rw [wY];refine Do.t (dT (by rw [e]; simp; omega)) ?_;refine Do.assoc (Do.seq z ?_);obtain ⟨ν, A, B⟩ := j c (by rw [e]; simp);obtain ⟨μ, D, F⟩ := j b l;refine Do.assoc (Do.fb (by simp) ?_);have := H.before (k := m) (by omega) A D;rw [B, F] at this;refine Do.assoc (this.bind ?_);rintro _ ⟨a1, rfl, H1⟩;have u : (if (it c).lt (it b) then c else b) ∈ all := by
   split
   ·rw [e]; simp
   ·exact l
  have := dc (k := k) all j hl post (pre ++ [c]) (if (it c).lt (it b) then c else b) H1 m (by omega) (by rw [e]; simp) u;have I : w64 ((pre.length : Int) + 1) = ((pre ++ [c]).length : Int) := by rw [zG (by omega) (by omega)]; simp
  rw [<- I] at this;simp only [bS];rw [bst];by_cases i : (it c).lt (it b)
  ·rw [if_pos i] at this ⊢;refine Do.tb (dT i) ?_;simp only [bS];refine this.mono ?_;rintro _ ⟨a2, rfl, x⟩;exact ⟨a2, rfl, x.mono (by simp only [lC]; omega)⟩
  ·rw [if_neg i] at this ⊢;refine Do.fb (dF i) ?_;simp only [bS];refine this.mono ?_;rintro _ ⟨a2, rfl, x⟩;exact ⟨a2, rfl, x.mono (by simp only [lC]; omega)⟩
theorem iM {k : Nat} (hk : 0 < k) (a : zb) : vG k a [] = some (-1, a) := by
 obtain ⟨m, rfl⟩ : ∃ q, k = q + 1 := ⟨k - 1, by omega⟩
 unfold vG;rw [wY]; rfl
theorem eu {k : Nat} (c : Nat) (r : List Nat) (j : ∀ d ∈ c :: r, ∃ ν ∈ N, ν.c = d) (hl : r.length < 90000) (hk : r.length + 4 < k) {n : Nat} {a : zb} (H : Hp κ n a it N L) :
  Do (vG k a (zl (c :: r))) fun res => ∃ i, res = (((bst it c r : Nat) : Int), i) /\ Hp κ (n + 6 * r.length) i it N L := by
 obtain ⟨m, rfl⟩ : ∃ q, k = q + 1 := ⟨k - 1, by omega⟩
 unfold vG;rw [wY];refine Do.bind (P := fun res => ∃ i, res = (((bst it c r : Nat) : Int), i) /\ Hp κ (n + 6 * r.length) i it N L) ?_ (by
  rintro _ ⟨a2, rfl, l⟩;exact ⟨_, rfl, a2, rfl, l⟩)
 refine Do.t (dT (by simp [zl])) ?_;refine Do.assoc (Do.seq (yF [] (zl r) (c : Int)) ?_);simp only [bS, beq_self_eq_true, cT];have := dc (k := 0) (c :: r) j (by simp only [lC]; omega) r [c] c H m (by omega) rfl (List.mem_cons_self ..);have e : ((zl (c :: r)).length : Int) = ((c :: r).length : Int) := by simp [zl]
 rw [e];exact this
end
def rOk (x : zm) : Prop := 0 <= x.rank /\ x.rank < 1000
theorem cA {x y : zm} (e : rOk x) (i : rOk y) : (uk x y).map (fun t => decide (t < 0)) = some (decide (x.rank < y.rank)) := by
 obtain ⟨h1, h2⟩ := e;obtain ⟨h3, h4⟩ := i;unfold uk;rw [zG (by omega) (by omega)];simp only [Option.map_some];congr 1;rw [decide_eq_decide];split <;> split <;> omega
def RS (l : List zm) : Prop := l.Pairwise fun x y => x.rank <= y.rank
theorem nG {α : Type} (p q : List α) (x y : α) : mSet (p ++ x :: q) (p.length : Int) y = p ++ y :: q := by
 unfold mSet;simp
theorem bE (A i1 : Int) : ∀ (e : List zm) (x : zm) (S : List zm) (m : Nat), e.length < m -> e.length < 1000 -> rOk x -> (∀ y ∈ e, rOk y) -> RS e.reverse ->
  Do (zT 0 A i1 m (e.length : Int) (e.reverse ++ x :: S)) fun r => ∃ q, r = q ++ S /\ RS q /\ q.Perm (x :: e)
 | [], x, S, m, hm, B, l, hr, hs => by
  obtain ⟨m, rfl⟩ : ∃ q, m = q + 1 := ⟨m - 1, by omega⟩
  rw [zT];refine Do.fb (dF (by simp)) ?_;refine Do.seq rfl (Do.f rfl ?_);exact ⟨_, rfl, [x], rfl, by simp [RS], .refl _⟩
 | y :: e, x, S, m, hm, B, l, hr, hs => by
  obtain ⟨m, rfl⟩ : ∃ q, m = q + 1 := ⟨m - 1, by omega⟩
  simp only [lC] at hm B;have D := hr y (List.mem_cons_self ..);have e0 : (y :: e).reverse ++ x :: S = e.reverse ++ y :: x :: S := by simp
  have F : mIdx (e.reverse ++ y :: x :: S) (((y :: e).length : Nat) : Int) = some x := by
   have := yF (e.reverse ++ [y]) S x;simpa using this
  have I : w64 ((((y :: e).length : Nat) : Int) - 1) = (e.length : Int) := by simp only [lC]; rw [zG (by omega) (by omega)]; omega
  have J : mIdx (e.reverse ++ y :: x :: S) (e.length : Int) = some y := by
   have := yF e.reverse (x :: S) y;simpa using this
  rw [e0, zT, F, I, J];refine Do.tb (dT (by simp only [lC]; omega)) ?_;simp only [bS];have i := cA l D;cases hf : uk x y with
  | none => rw [hf] at i; cases i
  | some t =>
   rw [hf] at i;simp only [Option.map_some, Option.some.injEq] at i;simp only [bS];rw [i];have hs' : RS e.reverse := by
    simp only [RS, List.reverse_cons, List.pairwise_append] at hs;exact hs.1
   have hle : ∀ z ∈ e, z.rank <= y.rank := by
    simp only [RS, List.reverse_cons, List.pairwise_append] at hs;intro z hz;exact hs.2.2 z (by simpa using hz) y (by simp)
   by_cases j : x.rank < y.rank
   ·refine Do.t (dT j) ?_;have O : mSet (e.reverse ++ y :: x :: S) (((y :: e).length : Nat) : Int) y = e.reverse ++ y :: y :: S := by
     have := nG (e.reverse ++ [y]) S x y;simpa using this
    have U : mIdx (e.reverse ++ y :: y :: S) (e.length : Int) = some y := by
     have := yF e.reverse (y :: S) y;simpa using this
    have W : mSet (e.reverse ++ y :: y :: S) (e.length : Int) x = e.reverse ++ x :: y :: S := by
     have := nG e.reverse (y :: S) y x;simpa using this
    rw [O, U, W];simp only [bS];refine (bE A i1 e x (y :: S) m (by omega) (by omega) l (fun z hz => hr z (mC _ hz)) hs').mono ?_;rintro _ ⟨q, rfl, hq, hp⟩;refine ⟨q ++ [y], by simp, ?_, ?_⟩
    ·simp only [RS, List.pairwise_append];refine ⟨hq, by simp, fun z hz u hu => ?_⟩;simp only [List.mem_singleton] at hu;subst hu;rcases List.mem_cons.1 (hp.mem_iff.1 hz) with rfl | hz
     ·omega
     ·exact hle z hz
    ·refine (List.perm_append_singleton y q).trans ((hp.cons y).trans (List.Perm.swap ..))
   ·refine Do.f (dF j) ?_;refine ⟨_, rfl, e.reverse ++ [y, x], by simp, ?_, ?_⟩
    ·simp only [RS, List.pairwise_append];refine ⟨hs', by simp; omega, fun z hz u hu => ?_⟩;have := hle z (by simpa using hz);simp only [iC, List.not_mem_nil, or_false] at hu;rcases hu with rfl | rfl <;> omega
    ·refine (List.perm_append_comm).trans ?_;simp only [List.cons_append, List.nil_append];exact (List.Perm.swap ..).trans (((List.reverse_perm e).cons y).cons x)
theorem bc (all : Nat) (u : all < 1000) : ∀ (d i : Nat) (A S : List zm) (m : Nat), A.length = i -> S.length = d -> all = i + d -> all + d < m -> RS A -> (∀ y ∈ A ++ S, rOk y) ->
  Do (zI 0 (all : Int) m (i : Int) (A ++ S)) fun r => RS r /\ r.Perm (A ++ S)
 | 0, i, A, S, m, hA, z, e, hm, hs, hr => by
  obtain ⟨m, rfl⟩ : ∃ q, m = q + 1 := ⟨m - 1, by omega⟩
  rw [zI];refine Do.f (dF (by omega)) ?_;have := List.eq_nil_of_length_eq_zero z;subst this;exact ⟨_, rfl, by simpa using hs, .refl _⟩
 | d + 1, i, A, S, m, hA, z, e, hm, hs, hr => by
  obtain ⟨m, rfl⟩ : ∃ q, m = q + 1 := ⟨m - 1, by omega⟩
  rw [zI];refine Do.t (dT (by omega)) ?_;cases S with
  | nil => simp at z
  | cons x S =>
   simp only [lC] at z;have := bE (all : Int) (i : Int) A.reverse x S m (by simp; omega) (by simp; omega) (hr x (by simp)) (fun y j => hr y (by simp at j; simp [j])) (by simpa using hs);rw [List.reverse_reverse, List.length_reverse, hA] at this;refine this.bind ?_;rintro _ ⟨q, rfl, hq, hp⟩;have l : q.Perm (A ++ [x]) := hp.trans ((List.reverse_perm A).cons x |>.trans (List.perm_append_singleton x A).symm);rw [zG (by omega) (by omega)];have hl : q.length = i + 1 := by rw [l.length_eq]; simp [hA]
   refine (bc all u d (i + 1) q S m hl (by omega) (by omega) (by omega) hq (fun y j => hr y ?_)).mono ?_
   ·rcases List.mem_append.1 j with j | j
    ·have := l.mem_iff.1 j;simp at this ⊢;rcases this with h | h <;> simp [h]
    ·simp [j]
   ·rintro r ⟨h1, h2⟩;refine ⟨h1, h2.trans ?_⟩;have := l.append_right S;simpa using this
theorem iR {k : Nat} (l : List zm) (hl : l.length <= 20) (hk : 100 <= k) (hr : ∀ y ∈ l, rOk y) :
  Do (zN k l 0 (l.length : Int)) fun r => RS r /\ r.Perm l := by
 unfold zN;rw [show w64 (0 + 1) = ((1 : Nat) : Int) from rfl];cases l with
 | nil =>
  obtain ⟨m, rfl⟩ : ∃ q, k = q + 1 := ⟨k - 1, by omega⟩
  rw [zI];exact ⟨_, rfl, by simp [RS], .refl _⟩
 | cons x S =>
  have := bc (x :: S).length (by omega) S.length 1 [x] S k rfl rfl (by simp; omega) (by simp at *; omega) (by simp [RS]) (by simpa using hr);refine this.bind ?_;rintro r ⟨h1, h2⟩;have e : uo r.length (x :: S).length = some () := by unfold uo; rw [if_pos (by simpa using h2.length_eq)]
  simp only [e, bS];exact ⟨_, rfl, h1, h2⟩
theorem dO {k : Nat} (l : List zm) (hl : l.length <= 20) (hk : 200 <= k) (hr : ∀ y ∈ l, rOk y) :
  Do (yP k l) fun r => RS r /\ r.Perm l := by
 unfold yP xo;obtain ⟨m, rfl⟩ : ∃ q, k = q + 2 := ⟨k - 2, by omega⟩
 by_cases h : l.length = 20
 ·have hi := iR (k := m + 1) l hl (by omega) hr;have i : (l.length : Int) = 20 := by omega
  rw [ye, i, dT (by decide : (20 : Int) <= 20)];rw [i] at hi;simp only [cT];refine Do.assoc (Do.assoc (hi.bind ?_));rintro r ⟨h1, h2⟩;have e : uo r.length l.length = some () := by unfold uo; rw [if_pos h2.length_eq]
  rw [ye, show w64 (20 + 20) = 40 from rfl, dF (by decide : ¬ (40 : Int) <= 20)];simp only [cF, bS];have j : zN (m + 2) r 20 20 = some r := by
   unfold zN;rw [zI, show w64 (20 + 1) = 21 from rfl, dF (by decide : ¬ (21 : Int) < 20)];simp [uo]
  rw [j];simp only [bS];rw [yp, dF (by decide : ¬ (20 : Int) < 20)];simp only [cF, bS, e];exact ⟨_, rfl, h1, h2⟩
 ·rw [ye, dF (by omega : ¬ (20 : Int) <= (l.length : Int))];simp only [cF, bS];refine Do.assoc ((iR l hl (by omega) hr).bind ?_);rintro r ⟨h1, h2⟩;have e : uo r.length l.length = some () := by unfold uo; rw [if_pos h2.length_eq]
  rw [yp, dF (by omega : ¬ (20 : Int) < (l.length : Int))];simp only [cF, bS, e];exact ⟨_, rfl, h1, h2⟩
end
noncomputable section
set_option maxRecDepth 10000
theorem sj {α : Type} {l p q : List α} {y : α} (e : l = p ++ y :: q) {i : Int} (hi : i = (p.length : Int)) : mIdx l i = some y := by
 rw [e, hi]; exact yF p q y
theorem oI {α : Type} {l p q : List α} {x y : α} (e : l = p ++ x :: q) {i : Int} (hi : i = (p.length : Int)) : mSet l i y = p ++ y :: q := by
 rw [e, hi]; exact nG p q x y
theorem eT (a b n : Nat) (j : a + b + n < 100000) (B : List zi) : ∀ (U V A M : List zi) (i e : Nat), U.length = V.length -> A.length = a + i -> A.length + U.length + M.length = b + i -> n = i + U.length -> U.length < e ->
  yf (a : Int) (b : Int) (n : Int) e (i : Int) (A ++ (U ++ (M ++ (V ++ B)))) = some (A ++ (V ++ (M ++ (U ++ B))))
 | [], V, A, M, i, e, hl, hA, t, hn, hf => by
  obtain ⟨f, rfl⟩ : ∃ f, e = f + 1 := ⟨e - 1, by omega⟩
  have : V = [] := List.eq_nil_of_length_eq_zero hl.symm;subst this;simp only [List.length_nil] at hn;rw [yf, dF (by omega), cF]
 | u :: U, [], A, M, i, e, hl, hA, t, hn, hf => by simp at hl
 | u :: U, v :: V, A, M, i, e, hl, hA, t, hn, hf => by
  obtain ⟨f, rfl⟩ : ∃ f, e = f + 1 := ⟨e - 1, by omega⟩
  simp only [lC] at hl t hn hf;have F : A ++ (u :: U ++ (M ++ (v :: V ++ B))) = (A ++ (u :: U ++ M)) ++ v :: (V ++ B) := by simp
  have y : A ++ (u :: U ++ (M ++ (v :: V ++ B))) = A ++ u :: (U ++ (M ++ (v :: V ++ B))) := by simp
  have z : A ++ v :: (U ++ (M ++ (v :: V ++ B))) = (A ++ v :: (U ++ M)) ++ v :: (V ++ B) := by simp
  have I : w64 ((b : Int) + (i : Int)) = ((A ++ (u :: U ++ M)).length : Int) := by rw [zG (by omega) (by omega)]; simp; omega
  have l : w64 ((b : Int) + (i : Int)) = ((A ++ v :: (U ++ M)).length : Int) := by rw [zG (by omega) (by omega)]; simp; omega
  have D : w64 ((a : Int) + (i : Int)) = (A.length : Int) := by rw [zG (by omega) (by omega)]; omega
  rw [yf, dT (by omega), cT, sj F I];simp only [bS];rw [sj y D];simp only [bS];rw [oI y D, sj z l, oI z l];simp only [bS];rw [zG (x := (i : Int) + 1) (by omega) (by omega)];have ih := eT a b n j B U V (A ++ [v]) (M ++ [u]) (i + 1) f (by omega) (by simp; omega) (by simp; omega) (by omega) (by omega);rw [show ((i + 1 : Nat) : Int) = (i : Int) + 1 by simp] at ih;have J : (A ++ v :: (U ++ M)) ++ u :: (V ++ B) = (A ++ [v]) ++ (U ++ ((M ++ [u]) ++ (V ++ B))) := by simp
  rw [J, ih];simp
theorem nr {A U M V B : List zi} {f : Nat} (hl : U.length = V.length) (i : (A ++ (U ++ (M ++ (V ++ B)))).length < 10000) (hf : 10000 < f) {a b n : Int} (ha : a = (A.length : Int)) (j : b = (A.length : Int) + U.length + M.length) (hn : n = (U.length : Int)) :
  yj f (A ++ (U ++ (M ++ (V ++ B)))) a b n = some (A ++ (V ++ (M ++ (U ++ B)))) := by
 simp only [lA] at i;have h := eT A.length (A.length + U.length + M.length) U.length (by omega) B U V A M 0 f hl (by omega) (by omega) (by omega) (by omega);unfold yj;have e : b = ((A.length + U.length + M.length : Nat) : Int) := by omega
 rw [ha, e, hn];rw [show ((0 : Nat) : Int) = 0 from rfl] at h;rw [h];simp only [bS];unfold uo;rw [if_pos (by simp only [lA]; omega)]
 rfl
theorem fI (m2 : Nat) : ∀ (s : Nat) (A X Y B : List zi) (J : Nat), X.length + Y.length <= s -> 0 < X.length -> 0 < Y.length -> A.length + X.length = m2 -> (A ++ (X ++ (Y ++ B))).length < 10000 -> 10001 + s < J ->
  ∃ (i : Nat) (y z D O : List zi), yi (m2 : Int) J (X.length : Int) (Y.length : Int) (A ++ (X ++ (Y ++ B))) = some ((i : Int), y ++ (z ++ (D ++ O))) /\ z.length = i /\ D.length = i /\ y.length + i = m2 /\ y ++ (D ++ (z ++ O)) = A ++ (Y ++ (X ++ B))
 | 0, A, X, Y, B, J, hs, hx, hy, hm, hb, hf => by omega
 | s + 1, A, X, Y, B, J, hs, hx, hy, hm, hb, hf => by
  obtain ⟨f, rfl⟩ : ∃ f, J = f + 1 := ⟨J - 1, by omega⟩
  have F := hb;simp only [lA] at F;rw [yi];by_cases he : X.length = Y.length
  ·refine ⟨X.length, A, X, Y, B, ?_, rfl, he.symm, hm, rfl⟩;rw [show ((X.length : Int) != (Y.length : Int)) = false by simp [he], cF]
  ·rw [show ((X.length : Int) != (Y.length : Int)) = true by simp; omega, cT];by_cases S : X.length > Y.length
   ·rw [dT (by omega), cT, zG (x := (m2 : Int) - (X.length : Int)) (by omega) (by omega), zG (x := (X.length : Int) - (Y.length : Int)) (by omega) (by omega)];obtain ⟨j, l, rfl, h1⟩ : ∃ j l, X = j ++ l /\ j.length = Y.length := ⟨X.take Y.length, X.drop Y.length, (List.take_append_drop _ _).symm, by simp; omega⟩
    simp only [lA] at hs hx hm F S he;have I := nr (A := A) (U := j) (M := l) (V := Y) (B := B) (f := f) h1 (by simp only [lA]; omega) (by omega) (a := (m2 : Int) - ((j ++ l).length : Int)) (b := (m2 : Int)) (n := (Y.length : Int)) (by simp only [lA]; omega) (by omega) (by omega);rw [show A ++ (j ++ l ++ (Y ++ B)) = A ++ (j ++ (l ++ (Y ++ B))) by simp, I];simp only [bS];obtain ⟨i, y, z, D, O, e, h3, h4, W, Z⟩ := fI m2 s (A ++ Y) l j B f (by omega) (by omega) (by omega) (by simp only [lA]; omega) (by simp only [lA]; omega) (by omega);refine ⟨i, y, z, D, O, ?_, h3, h4, W, by rw [Z]; simp⟩;rw [show (((j ++ l).length : Int) - (Y.length : Int)) = (l.length : Int) by simp only [lA]; omega, <- h1];rw [show A ++ (Y ++ (l ++ (j ++ B))) = (A ++ Y) ++ (l ++ (j ++ B)) by simp];exact e
   ·rw [dF (by omega), cF, zG (x := (m2 : Int) - (X.length : Int)) (by omega) (by omega), zG (x := (m2 : Int) + (Y.length : Int)) (by omega) (by omega), zG (x := (m2 : Int) + (Y.length : Int) - (X.length : Int)) (by omega) (by omega), zG (x := (Y.length : Int) - (X.length : Int)) (by omega) (by omega)];obtain ⟨t, u, rfl, h1⟩ : ∃ t u, Y = t ++ u /\ u.length = X.length := ⟨Y.take (Y.length - X.length), Y.drop (Y.length - X.length), (List.take_append_drop _ _).symm, by simp; omega⟩
    simp only [lA] at hs hy F S he;have I := nr (A := A) (U := X) (M := t) (V := u) (B := B) (f := f) h1.symm (by simp only [lA]; omega) (by omega) (a := (m2 : Int) - (X.length : Int)) (b := (m2 : Int) + ((t ++ u).length : Int) - (X.length : Int)) (n := (X.length : Int)) (by omega) (by simp only [lA]; omega) rfl;rw [show A ++ (X ++ (t ++ u ++ B)) = A ++ (X ++ (t ++ (u ++ B))) by simp, I];simp only [bS];obtain ⟨i, y, z, D, O, e, h3, h4, W, Z⟩ := fI m2 s A u t (X ++ B) f (by omega) (by omega) (by omega) (by omega) (by simp only [lA]; omega) (by omega);refine ⟨i, y, z, D, O, ?_, h3, h4, W, by rw [Z]; simp⟩;rw [show (((t ++ u).length : Int) - (X.length : Int)) = (t.length : Int) by simp only [lA]; omega, <- h1];exact e
theorem cp {A X Y B : List zi} {f : Nat} (z : 0 < X.length) (D : 0 < Y.length) (u : (A ++ (X ++ (Y ++ B))).length < 10000) (hf : 30000 < f) {a m b : Int} (S : a = (A.length : Int)) (em : m = (A.length : Int) + X.length) (W : b = (A.length : Int) + X.length + Y.length) :
  yK f (A ++ (X ++ (Y ++ B))) a m b = some (A ++ (Y ++ (X ++ B))) := by
 have l := u;simp only [lA] at l;obtain ⟨i, F, I, J, O, e, h3, h4, Z, y⟩ := fI (A.length + X.length) (X.length + Y.length) A X Y B f (Nat.le_refl _) z D rfl u (by omega);have t : m = ((A.length + X.length : Nat) : Int) := by omega
 have hlen := congrArg List.length y;simp only [lA] at hlen;unfold yK;rw [zG (x := m - a) (by omega) (by omega), zG (x := b - m) (by omega) (by omega), show m - a = (X.length : Int) by omega, show b - m = (Y.length : Int) by omega, t, e];simp only [bS];rw [zG (by omega) (by omega)];have j := nr (A := F) (U := I) (M := []) (V := J) (B := O) (f := f) (by omega) (by simp only [lA, List.length_nil]; omega) (by omega) (a := ((A.length + X.length : Nat) : Int) - (i : Int)) (b := ((A.length + X.length : Nat) : Int)) (n := (i : Int)) (by omega) (by simp only [List.length_nil]; omega) (by omega);rw [List.nil_append, List.nil_append] at j;rw [j];simp only [bS];rw [y];unfold uo;rw [if_pos (by simp only [lA]; omega)]
 rfl
end
noncomputable section
set_option maxRecDepth 10000
def elt (x y : zi) : Prop := x.Key < y.Key \/ (x.Key = y.Key /\ x.Serial < y.Serial)
instance (x y : zi) : Decidable (elt x y) := by unfold elt; exact inferInstance
def ES (l : List zi) : Prop := l.Pairwise fun x y => ¬ elt y x
theorem rq {x y z : zi} (h : ¬ elt y x) (e : ¬ elt z y) : ¬ elt z x := by unfold elt at *; omega
theorem pM {k : Nat} (hk : 3 <= k) (x y : zi) : ∃ t, xY k x y = some t /\ decide (t < 0) = decide (elt x y) := by
 unfold xY;rw [ry, ry];simp only [bS];rw [cY hk];refine ⟨_, rfl, ?_⟩;rw [decide_eq_decide];unfold elt sgn;split <;> split <;> (try split) <;> (try split) <;> omega
theorem half (i j : Nat) (h : i + j < 1000000) : w64 (Int.fdiv (IntKind.wrap .u64 (w64 ((i : Int) + (j : Int)))) (2 ^ (min (Int.toNat 1) 64))) = (((i + j) / 2 : Nat) : Int) := by
 rw [zG (x := (i : Int) + (j : Int)) (by omega) (by omega)];have e : IntKind.wrap .u64 ((i : Int) + (j : Int)) = (i : Int) + (j : Int) := by
  unfold IntKind.wrap;simp only [IntKind.signed, IntKind.bits];simp;omega
 have l : ((2 : Int) ^ (min (Int.toNat 1) 64)) = 2 := by decide
 rw [e, l, Int.fdiv_eq_ediv_of_nonneg _ (by decide), zG (by omega) (by omega)];omega
theorem bs {G : Nat -> Int -> Int -> Option Int} {P : Nat -> Prop} [DecidablePred P] {lo hi : Nat}
  (e : ∀ (m i j : Nat), ¬ i < j -> G (m + 1) (i : Int) (j : Int) = some (i : Int))
  (t : ∀ (m i j : Nat), 3 <= m -> lo <= i -> i < j -> j <= hi -> G (m + 1) (i : Int) (j : Int) = if P ((i + j) / 2) then G m (((i + j) / 2 + 1 : Nat) : Int) (j : Int) else G m (i : Int) (((i + j) / 2 : Nat) : Int))
  (hm : ∀ c c', lo <= c -> c <= c' -> c' < hi -> P c' -> P c) :
  ∀ (d i j m : Nat), j - i <= d -> lo <= i -> i <= j -> j <= hi -> d + 4 <= m -> (∀ c, lo <= c -> c < i -> P c) -> (∀ c, j <= c -> c < hi -> ¬ P c) ->
   ∃ s : Nat, G m (i : Int) (j : Int) = some (s : Int) /\ lo <= s /\ s <= hi /\ (∀ c, lo <= c -> c < s -> P c) /\ (∀ c, s <= c -> c < hi -> ¬ P c)
 | 0, i, j, u, hd, h1, h2, h3, h4, hl, hr => by
  obtain ⟨m, rfl⟩ : ∃ m, u = m + 1 := ⟨u - 1, by omega⟩
  have : i = j := by omega
  subst this;exact ⟨i, e m i i (by omega), h1, h3, hl, hr⟩
 | d + 1, i, j, u, hd, h1, h2, h3, h4, hl, hr => by
  obtain ⟨m, rfl⟩ : ∃ m, u = m + 1 := ⟨u - 1, by omega⟩
  by_cases h : i < j
  ·rw [t m i j (by omega) h1 h h3];by_cases hp : P ((i + j) / 2)
   ·rw [if_pos hp];exact bs e t hm d ((i + j) / 2 + 1) j m (by omega) (by omega) (by omega) h3 (by omega) (fun c x l => hm c ((i + j) / 2) x (by omega) (by omega) hp) hr
   ·rw [if_neg hp];exact bs e t hm d i ((i + j) / 2) m (by omega) h1 (by omega) (by omega) (by omega) hl (fun c x l y => hp (hm ((i + j) / 2) c (by omega) x l y))
  ·exact ⟨i, e m i j h, h1, by omega, hl, fun c x l => by
    have : j <= c := by omega
    exact hr c this l⟩
theorem cD {l : List zi} {i : Nat} (h : i < l.length) : mIdx l (i : Int) = some l[i] := by rw [yC]; exact List.getElem?_eq_getElem h
theorem qZ {l : List zi} (hs : ES l) {i j : Nat} (hi : i <= j) (hj : j < l.length) : ¬ elt l[j] (l[i]'(by omega)) := by
 rcases Nat.lt_or_eq_of_le hi with h | h
 ·exact List.pairwise_iff_getElem.1 hs i j (by omega) hj h
 ·subst h; unfold elt; omega
end
noncomputable section
set_option maxRecDepth 10000
theorem gb {rc : List zi -> Int -> Int -> Int -> Option (List zi)} {x : zi} {R : List zi} {s : Nat} (i : s < 100000) : ∀ (Y A : List zi) (e : Nat), s = A.length + Y.length + 1 -> Y.length < e ->
  z6 rc (s : Int) e (A.length : Int) (A ++ x :: (Y ++ R)) = some (A ++ (Y ++ x :: R))
 | [], A, e, hs, hf => by
  obtain ⟨f, rfl⟩ : ∃ f, e = f + 1 := ⟨e - 1, by omega⟩
  simp only [List.length_nil] at hs;rw [z6, zG (by omega) (by omega), dF (by omega), cF]
  rfl
 | y :: Y, A, e, hs, hf => by
  obtain ⟨f, rfl⟩ : ∃ f, e = f + 1 := ⟨e - 1, by omega⟩
  simp only [lC] at hs hf;have l : A ++ x :: (y :: Y ++ R) = (A ++ [x]) ++ y :: (Y ++ R) := by simp
  have j : A ++ y :: (y :: Y ++ R) = (A ++ [y]) ++ y :: (Y ++ R) := by simp
  have i1 : w64 ((A.length : Int) + 1) = ((A ++ [x]).length : Int) := by rw [zG (by omega) (by omega)]; simp
  have i2 : w64 ((A.length : Int) + 1) = ((A ++ [y]).length : Int) := by rw [zG (by omega) (by omega)]; simp
  rw [z6, zG (x := (s : Int) - 1) (by omega) (by omega), dT (by omega), cT, sj l i1];simp only [bS];rw [sj (rfl : A ++ x :: (y :: Y ++ R) = A ++ x :: (y :: Y ++ R)) rfl];simp only [bS];rw [oI (rfl : A ++ x :: (y :: Y ++ R) = A ++ x :: (y :: Y ++ R)) rfl, sj j i2, oI j i2];simp only [bS];have ih := gb (rc := rc) (x := x) (R := R) i Y (A ++ [y]) f (by simp; omega) (by omega);rw [i2, ih];simp
theorem ee {rc : List zi -> Int -> Int -> Int -> Option (List zi)} {y : zi} {A : List zi} : ∀ (n : Nat) (X R : List zi) (i : Nat), X.length = n -> A.length + X.length < 100000 -> n < i ->
  zZ rc (A.length : Int) i ((A.length + X.length : Nat) : Int) (A ++ (X ++ y :: R)) = some (A ++ y :: (X ++ R))
 | 0, X, R, i, hX, j, hf => by
  obtain ⟨f, rfl⟩ : ∃ f, i = f + 1 := ⟨i - 1, by omega⟩
  have := List.eq_nil_of_length_eq_zero hX;subst this;rw [zZ, dF (by simp), cF]
  rfl
 | n + 1, X, R, i, hX, j, hf => by
  obtain ⟨f, rfl⟩ : ∃ f, i = f + 1 := ⟨i - 1, by omega⟩
  rcases List.eq_nil_or_concat X with h | ⟨e, z, h⟩
  ·subst h; simp at hX
  ·rw [List.concat_eq_append] at h;subst h;simp only [lA, lC, List.length_nil] at hX j;have e0 : A ++ (e ++ [z] ++ y :: R) = (A ++ (e ++ [z])) ++ y :: R := by simp
   have t : A ++ (e ++ [z] ++ y :: R) = (A ++ e) ++ z :: y :: R := by simp
   have l : (A ++ (e ++ [z])) ++ z :: R = (A ++ e) ++ z :: z :: R := by simp
   have i0 : ((A.length + (e ++ [z]).length : Nat) : Int) = ((A ++ (e ++ [z])).length : Int) := by simp
   have i1 : w64 (((A.length + (e ++ [z]).length : Nat) : Int) - 1) = ((A ++ e).length : Int) := by rw [zG (by simp; omega) (by simp; omega)]; simp; omega
   rw [zZ, dT (by simp; omega), cT, sj t i1];simp only [bS];rw [sj e0 i0];simp only [bS];rw [oI e0 i0, sj l i1, oI l i1];simp only [bS];have ih := ee (rc := rc) (y := y) (A := A) n e (z :: R) f (by omega) (by omega) (by omega);have u : (A ++ e) ++ y :: z :: R = A ++ (e ++ y :: (z :: R)) := by simp
   have i5 : w64 (((A.length + (e ++ [z]).length : Nat) : Int) - 1) = ((A.length + e.length : Nat) : Int) := by rw [i1]; simp
   rw [i5, u, ih];simp
theorem cz {rc : List zi -> Int -> Int -> Int -> Option (List zi)} {A Y B : List zi} {x : zi} {f : Nat} (l : (A ++ x :: (Y ++ B)).length < 10000) (hf : 20000 < f) (hs : ES Y) :
  ∃ s : Nat, zR rc (A.length : Int) (A ++ x :: (Y ++ B)) f ((A.length + 1 : Nat) : Int) ((A.length + 1 + Y.length : Nat) : Int) = some (s : Int) /\
   ∃ Z, z6 rc (s : Int) f (A.length : Int) (A ++ x :: (Y ++ B)) = some (A ++ (Z ++ B)) /\ ES Z /\ Z.Perm (x :: Y) := by
 have z := l;simp only [lA, lC] at z;have u : ∀ h (h1 : A.length + 1 <= h) (hh : h < A.length + 1 + Y.length), (A ++ x :: (Y ++ B))[h]? = some (Y[h - (A.length + 1)]'(by omega)) := by
  intro h h1 h2;rw [List.getElem?_append_right (by omega), show h - A.length = (h - (A.length + 1)) + 1 by omega, List.getElem?_cons_succ, List.getElem?_append_left (by omega), List.getElem?_eq_getElem (by omega)]
 have F : mIdx (A ++ x :: (Y ++ B)) (A.length : Int) = some x := yF A (Y ++ B) x;obtain ⟨s, e, s1, s2, sl, sr⟩ := bs (G := zR rc (A.length : Int) (A ++ x :: (Y ++ B))) (P := fun h => elt (((A ++ x :: (Y ++ B))[h]?).getD x) x) (lo := A.length + 1) (hi := A.length + 1 + Y.length)
  (fun m i j h => by rw [zR, dF (by omega), cF])
  (fun m i j hm h1 h2 h3 => by
   have hq := u ((i + j) / 2) (by omega) (by omega);rw [zR, dT (by omega), cT, half i j (by omega), yC, hq];simp only [bS];rw [F];simp only [bS, Option.getD_some];obtain ⟨t, I, ht⟩ := pM hm (Y[(i + j) / 2 - (A.length + 1)]'(by omega)) x;rw [I];simp only [bS];rw [ht, zG (by omega) (by omega)];by_cases hp : elt (Y[(i + j) / 2 - (A.length + 1)]'(by omega)) x
   ·rw [dT hp, cT, if_pos hp]; simp
   ·rw [dF hp, cF, if_neg hp])
  (fun c c' h1 h2 h3 hp => by
   rw [u c h1 (by omega)];rw [u c' (by omega) h3] at hp;simp only [Option.getD_some] at hp ⊢;have := qZ hs (i := c - (A.length + 1)) (j := c' - (A.length + 1)) (by omega) (by omega);unfold elt at *; omega)
  (Y.length + 1) (A.length + 1) (A.length + 1 + Y.length) f (by omega) (Nat.le_refl _) (by omega) (Nat.le_refl _) (by omega) (fun c h1 h2 => by omega) (fun c h1 h2 => by omega)
 refine ⟨s, e, Y.take (s - (A.length + 1)) ++ x :: Y.drop (s - (A.length + 1)), ?_, ?_, ?_⟩
 ·have := gb (rc := rc) (x := x) (R := Y.drop (s - (A.length + 1)) ++ B) (s := s) (by omega) (Y.take (s - (A.length + 1))) A f (by simp; omega) (by simp; omega);rw [<- aA (Y.take _), List.take_append_drop] at this;rw [this]; simp
 ·have hs' := hs;rw [<- List.take_append_drop (s - (A.length + 1)) Y] at hs';obtain ⟨p1, p2, p3⟩ := List.pairwise_append.1 hs';have J : ∀ y ∈ Y.take (s - (A.length + 1)), elt y x := by
   intro y D;obtain ⟨i, hi, rfl⟩ := List.mem_iff_getElem.1 D;simp only [List.length_take] at hi;have h := sl (A.length + 1 + i) (by omega) (by omega);rw [u _ (by omega) (by omega)] at h;simp only [Option.getD_some] at h;rw [List.getElem_take];have e : A.length + 1 + i - (A.length + 1) = i := by omega
   simp only [e] at h;exact h
  have qr : ∀ y ∈ Y.drop (s - (A.length + 1)), ¬ elt y x := by
   intro y D;obtain ⟨i, hi, rfl⟩ := List.mem_iff_getElem.1 D;simp only [List.length_drop] at hi;have h := sr (s + i) (by omega) (by omega);rw [u _ (by omega) (by omega)] at h;simp only [Option.getD_some] at h;rw [List.getElem_drop];have e : s + i - (A.length + 1) = s - (A.length + 1) + i := by omega
   simp only [e] at h;exact h
  refine List.pairwise_append.2 ⟨p1, List.pairwise_cons.2 ⟨qr, p2⟩, ?_⟩;intro a ha b l;rcases List.mem_cons.1 l with rfl | l
  ·have := J a ha; unfold elt at *; omega
  ·exact p3 a ha b l
 ·have := List.take_append_drop (s - (A.length + 1)) Y;exact List.perm_middle.trans ((by rw [this] : (Y.take (s - (A.length + 1)) ++ Y.drop (s - (A.length + 1))).Perm Y).cons x)
end
noncomputable section
set_option maxRecDepth 10000
theorem fV {rc : List zi -> Int -> Int -> Int -> Option (List zi)} {A X B : List zi} {y : zi} {f : Nat} (l : (A ++ (X ++ y :: B)).length < 10000) (hf : 20000 < f) (hs : ES X) :
  ∃ s : Nat, zQ rc ((A.length + X.length : Nat) : Int) (A ++ (X ++ y :: B)) f (A.length : Int) ((A.length + X.length : Nat) : Int) = some (s : Int) /\
   ∃ Z, zZ rc (s : Int) f ((A.length + X.length : Nat) : Int) (A ++ (X ++ y :: B)) = some (A ++ (Z ++ B)) /\ ES Z /\ Z.Perm (X ++ [y]) := by
 have u := l;simp only [lA, lC] at u;have hX : ∀ h (h1 : A.length <= h) (hh : h < A.length + X.length), (A ++ (X ++ y :: B))[h]? = some (X[h - A.length]'(by omega)) := by
  intro h h1 h2;rw [List.getElem?_append_right (by omega), List.getElem?_append_left (by omega), List.getElem?_eq_getElem (by omega)]
 have D : mIdx (A ++ (X ++ y :: B)) ((A.length + X.length : Nat) : Int) = some y := sj (p := A ++ X) (q := B) (by simp) (by simp);obtain ⟨s, e, s1, s2, sl, sr⟩ := bs (G := zQ rc ((A.length + X.length : Nat) : Int) (A ++ (X ++ y :: B))) (P := fun h => ¬ elt y (((A ++ (X ++ y :: B))[h]?).getD y)) (lo := A.length) (hi := A.length + X.length)
  (fun m i j h => by rw [zQ, dF (by omega), cF])
  (fun m i j hm h1 h2 h3 => by
   have hq := hX ((i + j) / 2) (by omega) (by omega);rw [zQ, dT (by omega), cT, half i j (by omega), D];simp only [bS];rw [yC, hq];simp only [bS, Option.getD_some];obtain ⟨t, F, ht⟩ := pM hm y (X[(i + j) / 2 - A.length]'(by omega));rw [F];simp only [bS];rw [ht, zG (by omega) (by omega)];by_cases hp : elt y (X[(i + j) / 2 - A.length]'(by omega))
   ·rw [dT hp, Bool.not_true, cF, if_neg (fun h => h hp)]
   ·rw [dF hp, Bool.not_false, cT, if_pos hp]; simp)
  (fun c c' h1 h2 h3 hp => by
   rw [hX c h1 (by omega)];rw [hX c' (by omega) h3] at hp;simp only [Option.getD_some] at hp ⊢;have := qZ hs (i := c - A.length) (j := c' - A.length) (by omega) (by omega);unfold elt at *; omega)
  (X.length + 1) A.length (A.length + X.length) f (by omega) (Nat.le_refl _) (by omega) (Nat.le_refl _) (by omega) (fun c h1 h2 => by omega) (fun c h1 h2 => by omega)
 refine ⟨s, e, X.take (s - A.length) ++ y :: X.drop (s - A.length), ?_, ?_, ?_⟩
 ·have hd := ee (rc := rc) (y := y) (A := A ++ X.take (s - A.length)) (X.drop (s - A.length)).length (X.drop (s - A.length)) B f rfl (by simp; omega) (by simp; omega);have I : ((A ++ X.take (s - A.length)).length : Int) = (s : Int) := by simp; omega
  have J : (((A ++ X.take (s - A.length)).length + (X.drop (s - A.length)).length : Nat) : Int) = ((A.length + X.length : Nat) : Int) := by simp; omega
  have O : (A ++ X.take (s - A.length)) ++ (X.drop (s - A.length) ++ y :: B) = A ++ (X ++ y :: B) := by
   rw [aA, <- aA (X.take _), List.take_append_drop]
  rw [I, J, O] at hd;rw [hd]; simp
 ·have hs' := hs;rw [<- List.take_append_drop (s - A.length) X] at hs';obtain ⟨p1, p2, p3⟩ := List.pairwise_append.1 hs';have S : ∀ x ∈ X.take (s - A.length), ¬ elt y x := by
   intro x z;obtain ⟨i, hi, rfl⟩ := List.mem_iff_getElem.1 z;simp only [List.length_take] at hi;have h := sl (A.length + i) (by omega) (by omega);rw [hX _ (by omega) (by omega)] at h;simp only [Option.getD_some] at h;rw [List.getElem_take];have e : A.length + i - A.length = i := by omega
   simp only [e] at h;exact h
  have qr : ∀ x ∈ X.drop (s - A.length), ¬ elt x y := by
   intro x z;obtain ⟨i, hi, rfl⟩ := List.mem_iff_getElem.1 z;simp only [List.length_drop] at hi;have h := sr (s + i) (by omega) (by omega);rw [hX _ (by omega) (by omega)] at h;simp only [Option.getD_some] at h;rw [List.getElem_drop];have e : s + i - A.length = s - A.length + i := by omega
   simp only [e] at h;unfold elt at *; omega
  refine List.pairwise_append.2 ⟨p1, List.pairwise_cons.2 ⟨qr, p2⟩, ?_⟩;intro a ha b l;rcases List.mem_cons.1 l with rfl | l
  ·exact S a ha
  ·exact p3 a ha b l
 ·have := List.take_append_drop (s - A.length) X;refine List.perm_middle.trans (((by rw [this] : (X.take (s - A.length) ++ X.drop (s - A.length)).Perm X).cons y).trans ?_);exact (List.perm_append_singleton y X).symm
theorem hF : ∀ (d : Nat) (A X Y B : List zi) (f' : Nat), X.length + Y.length <= d -> 0 < X.length -> 0 < Y.length -> (A ++ (X ++ (Y ++ B))).length < 10000 -> 40000 + d < f' -> ES X -> ES Y ->
  ∃ Z, zt f' (A ++ (X ++ (Y ++ B))) (A.length : Int) ((A.length + X.length : Nat) : Int) ((A.length + X.length + Y.length : Nat) : Int) = some (A ++ (Z ++ B)) /\ ES Z /\ Z.Perm (X ++ Y)
 | 0, A, X, Y, B, f', hd, hx, hy, hb, hf, sx, sy => by omega
 | d + 1, A, X, Y, B, f', hd, hx, hy, hb, hf, sx, sy => by
  obtain ⟨f, rfl⟩ : ∃ f, f' = f + 1 := ⟨f' - 1, by omega⟩
  have c3 := hb;simp only [lA] at c3;have same : ∀ {Z : List zi}, Z.Perm (X ++ Y) -> uo (A ++ (Z ++ B)).length (A ++ (X ++ (Y ++ B))).length = some () := by
   intro Z hz;have := hz.length_eq;simp only [lA] at this;unfold uo;rw [if_pos (by simp only [lA]; omega)]
  rw [zt];by_cases c4 : X.length = 1
  ·obtain ⟨x, rfl⟩ : ∃ x, X = [x] := List.length_eq_one_iff.1 c4;rw [zG (x := ((A.length + [x].length : Nat) : Int) - (A.length : Int)) (by simp; omega) (by simp; omega)];rw [show (((A.length + [x].length : Nat) : Int) - (A.length : Int) == 1) = true by simp; omega, cT];obtain ⟨s, e1, Z, e2, h1, h2⟩ := cz (rc := zt f) (A := A) (Y := Y) (B := B) (x := x) (f := f) (by simpa using hb) (by omega) sy;refine ⟨Z, ?_, h1, h2⟩;rw [show A ++ ([x] ++ (Y ++ B)) = A ++ x :: (Y ++ B) from rfl, show (A.length + [x].length : Nat) = A.length + 1 from rfl, e1];simp only [bS];rw [e2];simp only [bS];have := same (Z := Z) h2;rw [show A ++ ([x] ++ (Y ++ B)) = A ++ x :: (Y ++ B) from rfl] at this;rw [this]
   rfl
  ·rw [zG (x := ((A.length + X.length : Nat) : Int) - (A.length : Int)) (by omega) (by omega)];rw [show (((A.length + X.length : Nat) : Int) - (A.length : Int) == 1) = false by simp; omega, cF];rw [zG (x := ((A.length + X.length + Y.length : Nat) : Int) - ((A.length + X.length : Nat) : Int)) (by omega) (by omega)];by_cases c7 : Y.length = 1
   ·obtain ⟨y, rfl⟩ : ∃ y, Y = [y] := List.length_eq_one_iff.1 c7;rw [show (((A.length + X.length + [y].length : Nat) : Int) - ((A.length + X.length : Nat) : Int) == 1) = true by simp; omega, cT];obtain ⟨s, e1, Z, e2, h1, h2⟩ := fV (rc := zt f) (A := A) (X := X) (B := B) (y := y) (f := f) (by simpa using hb) (by omega) sx;refine ⟨Z, ?_, h1, h2⟩;rw [show A ++ (X ++ ([y] ++ B)) = A ++ (X ++ y :: B) from rfl, e1];simp only [bS];rw [e2];simp only [bS];have := same (Z := Z) h2;rw [show A ++ (X ++ ([y] ++ B)) = A ++ (X ++ y :: B) from rfl] at this;rw [this]
    rfl
   ·rw [show (((A.length + X.length + Y.length : Nat) : Int) - ((A.length + X.length : Nat) : Int) == 1) = false by simp; omega, cF];obtain ⟨l, a6⟩ : ∃ l : Nat, l = (A.length + (A.length + X.length + Y.length)) / 2 := ⟨_, rfl⟩
    rw [half A.length (A.length + X.length + Y.length) (by omega), <- a6];rw [zG (x := (l : Int) + ((A.length + X.length : Nat) : Int)) (by omega) (by omega)];have a7 : ∃ st r : Nat, (bif decide (((A.length + X.length : Nat) : Int) > (l : Int)) then some (w64 ((l : Int) + ((A.length + X.length : Nat) : Int) - ((A.length + X.length + Y.length : Nat) : Int)), (l : Int)) else some ((A.length : Int), ((A.length + X.length : Nat) : Int))) = some ((st : Int), (r : Int)) /\
      ((A.length + X.length > l /\ st = l + (A.length + X.length) - (A.length + X.length + Y.length) /\ r = l) \/ (A.length + X.length <= l /\ st = A.length /\ r = A.length + X.length)) := by
     by_cases h : A.length + X.length > l
     ·refine ⟨l + (A.length + X.length) - (A.length + X.length + Y.length), l, ?_, Or.inl ⟨h, rfl, rfl⟩⟩;rw [dT (by omega), cT, zG (by omega) (by omega)];congr 2;omega
     ·refine ⟨A.length, A.length + X.length, ?_, Or.inr ⟨by omega, rfl, rfl⟩⟩;rw [dF (by omega), cF]
    obtain ⟨st, r, a8, d8⟩ := a7;rw [a8];simp only [bS];rw [zG (x := (l : Int) + ((A.length + X.length : Nat) : Int) - 1) (by omega) (by omega)];have gX : ∀ h (h1 : A.length <= h) (hh : h < A.length + X.length), (A ++ (X ++ (Y ++ B)))[h]? = some (X[h - A.length]'(by omega)) := by
     intro h h1 h2;rw [List.getElem?_append_right (by omega), List.getElem?_append_left (by omega), List.getElem?_eq_getElem (by omega)]
    have gY : ∀ h (h1 : A.length + X.length <= h) (hh : h < A.length + X.length + Y.length), (A ++ (X ++ (Y ++ B)))[h]? = some (Y[h - (A.length + X.length)]'(by omega)) := by
     intro h h1 h2;rw [List.getElem?_append_right (by omega), List.getElem?_append_right (by omega), List.getElem?_append_left (by omega), show h - A.length - X.length = h - (A.length + X.length) by omega, List.getElem?_eq_getElem (by omega)]
    have J : ∀ c, st <= c -> c < r -> A.length <= c /\ c < A.length + X.length /\ A.length + X.length <= l + (A.length + X.length) - 1 - c /\ l + (A.length + X.length) - 1 - c < A.length + X.length + Y.length := by
     intro c h1 h2;omega
    obtain ⟨s, e4, s1, s2, sl, sr⟩ := bs (G := zY (zt f) (A.length : Int) ((A.length + X.length : Nat) : Int) ((A.length + X.length + Y.length : Nat) : Int) (l : Int) ((l : Int) + ((A.length + X.length : Nat) : Int)) ((l : Int) + ((A.length + X.length : Nat) : Int) - 1) (A ++ (X ++ (Y ++ B))))
     (P := fun c => ¬ elt (((A ++ (X ++ (Y ++ B)))[l + (A.length + X.length) - 1 - c]?).getD ⟨0, 0⟩) (((A ++ (X ++ (Y ++ B)))[c]?).getD ⟨0, 0⟩)) (lo := st) (hi := r)
     (fun m i j h => by rw [zY, dF (by omega), cF])
     (fun m i j hm h1 h2 h3 => by
      obtain ⟨q1, q2, q3, U⟩ := J ((i + j) / 2) (by omega) (by omega);have g1 := gX _ q1 q2;have g2 := gY _ q3 U;rw [zY, dT (by omega), cT, half i j (by omega)];rw [zG (x := (l : Int) + ((A.length + X.length : Nat) : Int) - 1 - (((i + j) / 2 : Nat) : Int)) (by omega) (by omega)];rw [show (l : Int) + ((A.length + X.length : Nat) : Int) - 1 - (((i + j) / 2 : Nat) : Int) = ((l + (A.length + X.length) - 1 - (i + j) / 2 : Nat) : Int) by omega];rw [yC, yC, g2];simp only [bS];rw [g1];simp only [bS, Option.getD_some];obtain ⟨t, et, ht⟩ := pM hm (Y[l + (A.length + X.length) - 1 - (i + j) / 2 - (A.length + X.length)]'(by omega)) (X[(i + j) / 2 - A.length]'(by omega));rw [et];simp only [bS];rw [ht, zG (by omega) (by omega)];by_cases hp : elt (Y[l + (A.length + X.length) - 1 - (i + j) / 2 - (A.length + X.length)]'(by omega)) (X[(i + j) / 2 - A.length]'(by omega))
      ·rw [dT hp, Bool.not_true, cF, if_neg (fun h => h hp)]
      ·rw [dF hp, Bool.not_false, cT, if_pos hp]; simp)
     (fun c c' h1 h2 h3 hp => by
      obtain ⟨q1, q2, q3, U⟩ := J c h1 (by omega);obtain ⟨u1, u2, u3, u4⟩ := J c' (by omega) h3;rw [gX _ q1 q2, gY _ q3 U];rw [gX _ u1 u2, gY _ u3 u4] at hp;simp only [Option.getD_some] at hp ⊢;have t1 := qZ sx (i := c - A.length) (j := c' - A.length) (by omega) (by omega);have t2 := qZ sy (i := l + (A.length + X.length) - 1 - c' - (A.length + X.length)) (j := l + (A.length + X.length) - 1 - c - (A.length + X.length)) (by omega) (by omega);unfold elt at *; omega)
     (r - st) st r f (by omega) (Nat.le_refl _) (by omega) (Nat.le_refl _) (by omega) (fun c h1 h2 => by omega) (fun c h1 h2 => by omega)
    rw [e4];simp only [bS];rw [zG (x := (l : Int) + ((A.length + X.length : Nat) : Int) - (s : Int)) (by omega) (by omega)];obtain ⟨en, e6⟩ : ∃ en : Nat, en = l + (A.length + X.length) - s := ⟨_, rfl⟩
    rw [show (l : Int) + ((A.length + X.length : Nat) : Int) - (s : Int) = (en : Int) by omega];obtain ⟨D, u, W, lX⟩ : ∃ D u, X = D ++ u /\ D.length = s - A.length := ⟨X.take (s - A.length), X.drop (s - A.length), (List.take_append_drop _ _).symm, by simp; omega⟩
    obtain ⟨F, z, eY, lY⟩ : ∃ F z, Y = F ++ z /\ F.length = en - (A.length + X.length) := ⟨Y.take (en - (A.length + X.length)), Y.drop (en - (A.length + X.length)), (List.take_append_drop _ _).symm, by simp; omega⟩
    have e7 : D.length + u.length = X.length := by rw [W]; simp
    have e8 : F.length + z.length = Y.length := by rw [eY]; simp
    have b3 := sx;rw [W] at b3;obtain ⟨x1, x2, x3⟩ := List.pairwise_append.1 b3;have b4 := sy;rw [eY] at b4;obtain ⟨y1, y2, y3⟩ := List.pairwise_append.1 b4;have b5 : (bif (decide ((s : Int) < ((A.length + X.length : Nat) : Int))) && (decide (((A.length + X.length : Nat) : Int) < (en : Int))) then (yK f (A ++ (X ++ (Y ++ B))) (s : Int) ((A.length + X.length : Nat) : Int) (en : Int)).bind fun c8 => some c8 else some (A ++ (X ++ (Y ++ B)))) = some (A ++ (D ++ (F ++ (u ++ (z ++ B))))) := by
     by_cases h : s < A.length + X.length /\ A.length + X.length < en
     ·rw [dT (by omega), dT (by omega), Bool.and_self, cT];have e : A ++ (X ++ (Y ++ B)) = (A ++ D) ++ (u ++ (F ++ (z ++ B))) := by rw [W, eY]; simp
      have hr := cp (A := A ++ D) (X := u) (Y := F) (B := z ++ B) (f := f) (by omega) (by omega) (by simp only [lA]; omega) (by omega) (a := (s : Int)) (m := ((A.length + X.length : Nat) : Int)) (b := (en : Int)) (by simp only [lA]; omega) (by simp only [lA]; omega) (by simp only [lA]; omega);rw [e, hr];simp
     ·have hc : ((decide ((s : Int) < ((A.length + X.length : Nat) : Int))) && (decide (((A.length + X.length : Nat) : Int) < (en : Int)))) = false := by
       rw [Bool.and_eq_false_iff];by_cases h1 : s < A.length + X.length
       ·exact Or.inr (dF (by omega))
       ·exact Or.inl (dF (by omega))
      rw [hc, cF, W, eY];by_cases h1 : s < A.length + X.length
      ·have : F = [] := List.eq_nil_of_length_eq_zero (by omega);rw [this]; simp
      ·have : u = [] := List.eq_nil_of_length_eq_zero (by omega);rw [this]; simp
    rw [b5];simp only [bS];have a1 : ∃ I, (bif (decide ((A.length : Int) < (s : Int))) && (decide ((s : Int) < (l : Int))) then (zt f (A ++ (D ++ (F ++ (u ++ (z ++ B))))) (A.length : Int) (s : Int) (l : Int)).bind fun c9 => some c9 else some (A ++ (D ++ (F ++ (u ++ (z ++ B)))))) = some (A ++ (I ++ (u ++ (z ++ B)))) /\ ES I /\ I.Perm (D ++ F) := by
     by_cases h : A.length < s /\ s < l
     ·obtain ⟨Z, ez, z1, z2⟩ := hF d A D F (u ++ (z ++ B)) f (by omega) (by omega) (by omega) (by simp only [lA]; omega) (by omega) x1 y1;rw [show ((A.length + D.length : Nat) : Int) = (s : Int) by omega, show ((A.length + D.length + F.length : Nat) : Int) = (l : Int) by omega] at ez;refine ⟨Z, ?_, z1, z2⟩;rw [dT (by omega), dT (by omega), Bool.and_self, cT, ez]
      rfl
     ·have hc : ((decide ((A.length : Int) < (s : Int))) && (decide ((s : Int) < (l : Int)))) = false := by
       rw [Bool.and_eq_false_iff];by_cases h1 : A.length < s
       ·exact Or.inr (dF (by omega))
       ·exact Or.inl (dF (by omega))
      rw [hc, cF];refine ⟨D ++ F, by simp, ?_, .refl _⟩;by_cases h1 : A.length < s
      ·have : F = [] := List.eq_nil_of_length_eq_zero (by omega);rw [this, aN]; exact x1
      ·have : D = [] := List.eq_nil_of_length_eq_zero (by omega);rw [this, List.nil_append]; exact y1
    obtain ⟨I, el, d0, a2⟩ := a1;rw [el];simp only [bS];have d1 := a2.length_eq;rw [lA] at d1;have c1 : ∀ a ∈ D, ∀ b ∈ z, ¬ elt b a := by
     intro a ha b O;obtain ⟨i, hi, rfl⟩ := List.mem_iff_getElem.1 ha;obtain ⟨j, hj, rfl⟩ := List.mem_iff_getElem.1 O;have d2 : st < s := by omega
     obtain ⟨q1, q2, q3, U⟩ := J (s - 1) (by omega) (by omega);have h := sl (s - 1) (by omega) (by omega);rw [gX _ q1 q2, gY _ q3 U] at h;simp only [Option.getD_some] at h;have t1 := qZ sx (i := i) (j := s - 1 - A.length) (by omega) (by omega);have t2 := qZ sy (i := l + (A.length + X.length) - 1 - (s - 1) - (A.length + X.length)) (j := F.length + j) (by omega) (by omega);have u1 : X[i]'(by omega) = D[i] := by simp only [W]; rw [List.getElem_append_left hi]
     have u2 : Y[F.length + j]'(by omega) = z[j] := by simp only [eY]; rw [List.getElem_append_right (by omega)]; simp
     rw [u1] at t1;rw [u2] at t2;exact rq (rq t1 h) t2
    have c2 : ∀ a ∈ F, ∀ b ∈ u, ¬ elt b a := by
     intro a ha b O;obtain ⟨i, hi, rfl⟩ := List.mem_iff_getElem.1 ha;obtain ⟨j, hj, rfl⟩ := List.mem_iff_getElem.1 O;have d2 : s < r := by omega
     obtain ⟨q1, q2, q3, U⟩ := J s (by omega) (by omega);have h := sr s (by omega) (by omega);rw [gX _ q1 q2, gY _ q3 U] at h;simp only [Option.getD_some] at h;have t1 := qZ sy (i := i) (j := l + (A.length + X.length) - 1 - s - (A.length + X.length)) (by omega) (by omega);have t2 := qZ sx (i := s - A.length) (j := D.length + j) (by omega) (by omega);have u1 : Y[i]'(by omega) = F[i] := by simp only [eY]; rw [List.getElem_append_left hi]
     have u2 : X[D.length + j]'(by omega) = u[j] := by simp only [W]; rw [List.getElem_append_right (by omega)]; simp
     rw [u1] at t1;rw [u2] at t2;refine rq (rq t1 ?_) t2;have := Classical.not_not.1 h;unfold elt at *; omega
    have fin : ∀ S : List zi, ES S -> S.Perm (u ++ z) -> ES (I ++ S) /\ (I ++ S).Perm (X ++ Y) := by
     intro S d3 b9;refine ⟨List.pairwise_append.2 ⟨d0, d3, ?_⟩, ?_⟩
     ·intro a ha b O;rcases List.mem_append.1 (a2.mem_iff.1 ha) with h1 | h1 <;> rcases List.mem_append.1 (b9.mem_iff.1 O) with h2 | h2
      ·exact x3 a h1 b h2
      ·exact c1 a h1 b h2
      ·exact c2 a h1 b h2
      ·exact y3 a h1 b h2
     ·refine (a2.append b9).trans ?_;rw [W, eY];rw [aA, aA];refine List.Perm.append_left D ?_;rw [<- aA, <- aA];exact List.perm_append_comm.append_right z
    by_cases h : l < en /\ en < A.length + X.length + Y.length
    ·obtain ⟨S, ez, z1, z2⟩ := hF d (A ++ I) u z B f (by omega) (by omega) (by omega) (by simp only [lA]; omega) (by omega) x2 y2;rw [show ((A ++ I).length : Int) = (l : Int) by simp only [lA]; omega, show (((A ++ I).length + u.length : Nat) : Int) = (en : Int) by simp only [lA]; omega, show (((A ++ I).length + u.length + z.length : Nat) : Int) = ((A.length + X.length + Y.length : Nat) : Int) by simp only [lA]; omega] at ez;obtain ⟨f1, f2⟩ := fin S z1 z2;refine ⟨I ++ S, ?_, f1, f2⟩;rw [dT (by omega), dT (by omega), Bool.and_self, cT];rw [show A ++ (I ++ (u ++ (z ++ B))) = (A ++ I) ++ (u ++ (z ++ B)) by simp, ez];simp only [bS];rw [show (A ++ I) ++ (S ++ B) = A ++ ((I ++ S) ++ B) by simp, same f2]
     rfl
    ·have hc : ((decide ((l : Int) < (en : Int))) && (decide ((en : Int) < ((A.length + X.length + Y.length : Nat) : Int)))) = false := by
      rw [Bool.and_eq_false_iff];by_cases h1 : l < en
      ·exact Or.inr (dF (by omega))
      ·exact Or.inl (dF (by omega))
     rw [hc, cF];have z1 : ES (u ++ z) := by
      by_cases h1 : l < en
      ·have : z = [] := List.eq_nil_of_length_eq_zero (by omega);rw [this, aN]; exact x2
      ·have : u = [] := List.eq_nil_of_length_eq_zero (by omega);rw [this, List.nil_append]; exact y2
     obtain ⟨f1, f2⟩ := fin (u ++ z) z1 (.refl _);refine ⟨I ++ (u ++ z), ?_, f1, f2⟩;rw [show A ++ (I ++ (u ++ (z ++ B))) = A ++ ((I ++ (u ++ z)) ++ B) by simp, same f2]
     rfl
end
noncomputable section
set_option maxRecDepth 10000
theorem bl (A : List zi) (D i1 : Int) : ∀ (e : List zi) (x : zi) (S : List zi) (l : Nat), e.length + 4 < l -> A.length + e.length < 10000 -> ES e.reverse ->
  ∃ q, z7 (A.length : Int) D i1 l ((A.length + e.length : Nat) : Int) (A ++ (e.reverse ++ x :: S)) = some (A ++ (q ++ S)) /\ ES q /\ q.Perm (x :: e)
 | [], x, S, l, hm, F, hs => by
  obtain ⟨m, rfl⟩ : ∃ q, l = q + 1 := ⟨l - 1, by omega⟩
  refine ⟨[x], ?_, by simp [ES], .refl _⟩;rw [z7, dF (by simp)]
  rfl
 | y :: e, x, S, l, hm, F, hs => by
  obtain ⟨m, rfl⟩ : ∃ q, l = q + 1 := ⟨l - 1, by omega⟩
  simp only [lC] at hm F;have e0 : A ++ ((y :: e).reverse ++ x :: S) = (A ++ e.reverse) ++ y :: x :: S := by simp
  have B : (A ++ e.reverse) ++ y :: x :: S = (A ++ (e.reverse ++ [y])) ++ x :: S := by simp
  have i0 : ((A.length + (y :: e).length : Nat) : Int) = ((A ++ (e.reverse ++ [y])).length : Int) := by simp
  have i : w64 (((A.length + (y :: e).length : Nat) : Int) - 1) = ((A ++ e.reverse).length : Int) := by
   rw [zG (by simp; omega) (by simp; omega)]; simp; omega
  have hs' := hs;rw [List.reverse_cons] at hs';obtain ⟨p1, _, p3⟩ := List.pairwise_append.1 hs';rw [e0, z7, dT (by simp; omega), cT, sj B i0];simp only [bS];rw [sj rfl i];simp only [bS];obtain ⟨t, O, ht⟩ := pM (k := m) (by omega) x y;rw [O];simp only [bS];rw [ht];by_cases j : elt x y
  ·rw [dT j, cT];have I : (A ++ (e.reverse ++ [y])) ++ y :: S = (A ++ e.reverse) ++ y :: y :: S := by simp
   rw [oI B i0, sj I i, oI I i];simp only [bS];obtain ⟨q, U, h1, h2⟩ := bl A D i1 e x (y :: S) m (by omega) (by omega) p1;have W : (A ++ e.reverse) ++ x :: y :: S = A ++ (e.reverse ++ x :: (y :: S)) := by simp
   have i4 : w64 (((A.length + (y :: e).length : Nat) : Int) - 1) = ((A.length + e.length : Nat) : Int) := by rw [i]; simp
   rw [i4, W, U];refine ⟨q ++ [y], by simp, ?_, ?_⟩
   ·refine List.pairwise_append.2 ⟨h1, by simp, ?_⟩;intro z hz u hu;rw [List.mem_singleton.1 hu];rcases List.mem_cons.1 (h2.mem_iff.1 hz) with rfl | hz
    ·unfold elt at *; omega
    ·exact p3 z (by simpa using hz) y (by simp)
   ·refine (List.perm_append_singleton y q).trans ((h2.cons y).trans (List.Perm.swap ..))
  ·rw [dF j, cF];refine ⟨e.reverse ++ [y, x], by simp, ?_, ?_⟩
   ·refine List.pairwise_append.2 ⟨p1, ?_, ?_⟩
    ·simp only [List.pairwise_cons, List.mem_singleton, List.not_mem_nil, List.Pairwise.nil, and_true];exact ⟨fun z hz => by rw [hz]; exact j, fun z hz => by cases hz⟩
    ·intro z hz u hu;have J := p3 z hz y (by simp);simp only [iC, List.not_mem_nil, or_false] at hu;rcases hu with rfl | rfl
     ·exact J
     ·exact rq J j
   ·refine (List.perm_append_comm).trans ?_;simp only [List.cons_append, List.nil_append];exact (List.Perm.swap ..).trans (((List.reverse_perm e).cons y).cons x)
theorem bp (A B : List zi) : ∀ (S Q : List zi) (e b : Nat), b = A.length + Q.length + S.length -> b < 1000 -> 2000 + S.length < e -> ES Q ->
  ∃ r, zP (A.length : Int) (b : Int) e ((A.length + Q.length : Nat) : Int) (A ++ (Q ++ (S ++ B))) = some (A ++ (r ++ B)) /\ ES r /\ r.Perm (Q ++ S)
 | [], Q, e, b, j, i, hm, hq => by
  obtain ⟨m, rfl⟩ : ∃ q, e = q + 1 := ⟨e - 1, by omega⟩
  refine ⟨Q, ?_, hq, by simp⟩;simp only [List.length_nil] at j;rw [zP, dF (by omega), cF]
  rfl
 | x :: S, Q, e, b, j, i, hm, hq => by
  obtain ⟨m, rfl⟩ : ∃ q, e = q + 1 := ⟨e - 1, by omega⟩
  simp only [lC] at j hm;rw [zP, dT (by omega), cT];obtain ⟨q, l, h1, h2⟩ := bl A (b : Int) ((A.length + Q.length : Nat) : Int) Q.reverse x (S ++ B) m (by simp; omega) (by simp; omega) (by rw [List.reverse_reverse]; exact hq);rw [List.reverse_reverse, List.length_reverse] at l;rw [show A ++ (Q ++ (x :: S ++ B)) = A ++ (Q ++ x :: (S ++ B)) from rfl, l];simp only [bS];have hp : q.Perm (Q ++ [x]) := h2.trans (((List.reverse_perm Q).cons x).trans (List.perm_append_singleton x Q).symm);have hl := hp.length_eq;simp only [lA, lC, List.length_nil] at hl;rw [zG (by omega) (by omega), show ((A.length + Q.length : Nat) : Int) + 1 = ((A.length + q.length : Nat) : Int) by omega];obtain ⟨r, t, h3, h4⟩ := bp A B S q m b (by omega) i (by omega) h1;refine ⟨r, t, h3, h4.trans ?_⟩;have := hp.append_right S;simpa using this
theorem p6 {A X B : List zi} {k : Nat} (j : A.length + X.length < 1000) (hk : 4000 < k) {a b : Int} (l : a = (A.length : Int)) (t : b = (A.length : Int) + X.length) :
  ∃ r, yq k (A ++ (X ++ B)) a b = some (A ++ (r ++ B)) /\ ES r /\ r.Perm X := by
 have i : b = ((A.length + X.length : Nat) : Int) := by omega
 unfold yq;rw [l, i, zG (by omega) (by omega)];have same : ∀ r : List zi, r.Perm X -> uo (A ++ (r ++ B)).length (A ++ (X ++ B)).length = some () := by
  intro r h;unfold uo;rw [if_pos (by simp [h.length_eq])]
 cases X with
 | nil =>
  obtain ⟨m, rfl⟩ : ∃ q, k = q + 1 := ⟨k - 1, by omega⟩
  refine ⟨[], ?_, List.Pairwise.nil, .refl _⟩;rw [zP, dF (by simp; omega), cF];simp only [bS];rw [same [] (.refl _)]
  rfl
 | cons x S =>
  simp only [lC] at j;obtain ⟨r, e, h1, h2⟩ := bp A B S [x] k (A.length + (x :: S).length) (by simp; omega) (by simp; omega) (by omega) (by simp [ES]);refine ⟨r, ?_, h1, h2⟩;rw [show (A.length : Int) + 1 = ((A.length + [x].length : Nat) : Int) by simp, show A ++ (x :: S ++ B) = A ++ ([x] ++ (S ++ B)) from rfl, e];simp only [bS];have := same r h2;rw [show A ++ (x :: S ++ B) = A ++ ([x] ++ (S ++ B)) from rfl] at this;rw [this]
  rfl
end
noncomputable section
set_option maxRecDepth 10000
theorem cL {k : Nat} (hk : 60000 < k) (l : List zi) (hl : l.length <= 40) : ∃ r, y7 k l (l.length : Int) = some r /\ ES r /\ r.Perm l := by
 obtain ⟨m, rfl⟩ : ∃ q, k = q + 3 := ⟨k - 3, by omega⟩
 have same : ∀ r : List zi, r.Perm l -> uo r.length l.length = some () := by
  intro r h;unfold uo;rw [if_pos h.length_eq]
 unfold y7;by_cases O : l.length < 20
 ·rw [yd, dF (by omega), cF];simp only [bS];obtain ⟨r, e, h1, h2⟩ := p6 (A := []) (X := l) (B := []) (k := m + 3) (by simp; omega) (by omega) (a := 0) (b := (l.length : Int)) rfl (by simp);simp only [List.nil_append, aN] at e;rw [e];simp only [bS];rw [zV, dF (by omega), cF];simp only [bS];rw [same r h2];exact ⟨r, rfl, h1, h2⟩
 ·obtain ⟨X, Y, rfl, hX⟩ : ∃ X Y, l = X ++ Y /\ X.length = 20 := ⟨l.take 20, l.drop 20, (List.take_append_drop _ _).symm, by simp; omega⟩
  rw [lA] at hl;have hn : ((X ++ Y).length : Int) = 20 + (Y.length : Int) := by rw [lA, hX]; simp
  rw [hn];obtain ⟨Z, J, z, z2⟩ := p6 (A := []) (X := X) (B := Y) (k := m + 2) (by simp; omega) (by omega) (a := 0) (b := 20) rfl (by simp [hX]);simp only [List.nil_append] at J;have S := z2.length_eq;rw [yd, dT (by omega), cT, J];simp only [bS];rw [show w64 (20 + 20) = 40 from rfl];have fin : ∀ W : List zi, ES W -> W.Perm Y -> ∃ r, ((zV (20 + (Y.length : Int)) (m + 3) 20 (Z ++ W)).bind fun s1 => (uo s1.length (X ++ Y).length).bind fun u => some s1) = some r /\ ES r /\ r.Perm (X ++ Y) := by
   intro W w1 i;have hW := i.length_eq;have hp : (Z ++ W).Perm (X ++ Y) := z2.append i;rw [zV];by_cases U : Y.length = 0
   ·rw [dF (by omega), cF];simp only [bS];rw [same _ hp];have : W = [] := List.eq_nil_of_length_eq_zero (by omega);subst this;exact ⟨_, rfl, by rw [aN]; exact z, hp⟩
   ·rw [dT (by omega), cT, show w64 (2 * 20) = 40 from rfl];obtain ⟨V, j, v1, v2⟩ := hF 40 [] Z W [] (m + 1) (by omega) (by omega) (by omega) (by simp; omega) (by omega) z w1;obtain ⟨D, t, F, x⟩ := hF 40 [] Z W [] (m + 2) (by omega) (by omega) (by omega) (by simp; omega) (by omega) z w1;simp only [List.nil_append, aN, List.length_nil, Nat.zero_add] at j t;rw [show ((Z.length : Nat) : Int) = 20 by omega, show ((Z.length + W.length : Nat) : Int) = 20 + (Y.length : Int) by omega, show ((0 : Nat) : Int) = 0 from rfl] at j t;have stop : ∀ V : List zi, zV (20 + (Y.length : Int)) (m + 2) 40 V = some V := by
     intro V;rw [zV, dF (by omega), cF]
    rw [yy];by_cases I : Y.length = 20
    ·rw [dT (by omega), cT];rw [show w64 (0 + 20) = 20 from rfl];rw [show (20 : Int) + (Y.length : Int) = 40 by omega] at j ⊢;rw [j];simp only [bS];rw [show w64 (40 + w64 (2 * 20)) = 80 from rfl, yy, dF (by decide), cF];simp only [bS];rw [show decide (w64 (40 + 20) < 40) = false from rfl, cF];simp only [bS];rw [show w64 (20 * 2) = 40 from rfl];have := stop V;rw [show (20 : Int) + (Y.length : Int) = 40 by omega] at this;rw [this];simp only [bS];rw [same V (v2.trans hp)];exact ⟨V, rfl, v1, v2.trans hp⟩
    ·rw [dF (by omega), cF];simp only [bS];rw [show w64 (0 + 20) = 20 from rfl, dT (by omega), cT, t];simp only [bS];rw [show w64 (20 * 2) = 40 from rfl, stop D];simp only [bS];rw [same D (x.trans hp)];exact ⟨D, rfl, F, x.trans hp⟩
  rw [yd];by_cases I : Y.length = 20
  ·obtain ⟨W, y, w1, i⟩ := p6 (A := Z) (X := Y) (B := []) (k := m + 1) (by omega) (by omega) (a := 20) (b := 40) (by omega) (by omega);simp only [aN] at y;have hW := i.length_eq;rw [dT (by omega), cT, y];simp only [bS];rw [show w64 (40 + 20) = 60 from rfl, yd, dF (by omega), cF];simp only [bS];obtain ⟨V, j, v1, v2⟩ := p6 (A := Z ++ W) (X := []) (B := []) (k := m + 3) (by simp; omega) (by omega) (a := 40) (b := 20 + (Y.length : Int)) (by simp; omega) (by simp; omega);have : V = [] := List.eq_nil_of_length_eq_zero (by rw [v2.length_eq]; rfl);subst this;simp only [aN] at j;rw [j];simp only [bS];exact fin W w1 i
  ·rw [dF (by omega), cF];simp only [bS];obtain ⟨W, y, w1, i⟩ := p6 (A := Z) (X := Y) (B := []) (k := m + 3) (by omega) (by omega) (a := 20) (b := 20 + (Y.length : Int)) (by omega) (by omega);simp only [aN] at y;rw [y];simp only [bS];exact fin W w1 i
theorem jn {k : Nat} (hk : 60000 < k) (l : List zi) (hl : l.length <= 40) : ∃ r, qi k l = some r /\ ES r /\ r.Perm l := by
 obtain ⟨r, e, h1, h2⟩ := cL hk l hl;refine ⟨r, ?_, h1, h2⟩;unfold qi mj;rw [if_pos (by omega)];simp only [bS];unfold xD;rw [e];simp only [bS];unfold uo;rw [if_pos h2.length_eq]
 rfl
theorem dg : ∀ {a b : List zi}, ES a -> ES b -> a.Perm b -> a = b
 | [], b, _, _, h => (h.nil_eq)
 | x :: a, [], _, _, h => by simpa using h.length_eq
 | x :: a, y :: b, ha, j, h => by
  have i : x = y := by
   have h1 : x ∈ y :: b := h.mem_iff.1 (List.mem_cons_self ..);have h2 : y ∈ x :: a := h.mem_iff.2 (List.mem_cons_self ..);rcases List.mem_cons.1 h1 with e | h1
   ·exact e
   ·rcases List.mem_cons.1 h2 with e | h2
    ·exact e.symm
    ·have l := (List.pairwise_cons.1 j).1 x h1;have t := (List.pairwise_cons.1 ha).1 y h2;unfold elt at l t;cases x; cases y; simp only at l t; congr 1 <;> omega
  subst i;rw [dg (List.pairwise_cons.1 ha).2 (List.pairwise_cons.1 j).2 (h.cons_inv)]
end
noncomputable section
set_option maxRecDepth 10000
namespace Le
inductive B where
 | nil : B
 | node (c : Nat) (rk : Int) (l r : B)
def B.hd : B -> Int
 | .nil => -1
 | .node c _ _ _ => (c : Int)
def B.cells : B -> List Nat
 | .nil => []
 | .node c _ l r => c :: (l.cells ++ r.cells)
def bn : B -> Int -> List Nd
 | .nil, _ => []
 | .node c rk l r, u => ⟨c, u, -1, l.hd, r.hd, rk, 0⟩ :: (bn l c ++ bn r c)
theorem vi : ∀ (t : B) (u : Int), (bn t u).map Nd.c = t.cells
 | .nil, _ => rfl
 | .node c rk l r, u => by rw [bn, pC, List.map_append, vi l, vi r]; rfl
theorem lD (t : B) (u : Int) : (bn t u).length = t.cells.length := by rw [<- vi t u, lM]
def Or (it : Nat -> It) : B -> Prop
 | .nil => True
 | .node c _ l r => (∀ d ∈ l.cells ++ r.cells, ¬ (it d).lt (it c)) /\ Or it l /\ Or it r
theorem Or.least {it : Nat -> It} {c : Nat} {rk : Int} {l r : B} (h : Or it (.node c rk l r)) : ∀ d ∈ (B.node c rk l r).cells, ¬ (it d).lt (it c) := by
 intro d hd;rcases List.mem_cons.1 hd with rfl | hd
 ·exact It.lt_irrefl _
 ·exact h.1 d hd
theorem Or.congr {it it' : Nat -> It} : ∀ {t : B}, Or it t -> (∀ d ∈ t.cells, it' d = it d) -> Or it' t
 | .nil, _, _ => trivial
 | .node c rk l r, h, e => by
  refine ⟨fun d hd => ?_, h.2.1.congr fun d hd => e d (mC _ (mL _ hd)), h.2.2.congr fun d hd => e d (mC _ (List.mem_append_right _ hd))⟩;rw [e d (mC _ hd), e c (List.mem_cons_self ..)];exact h.1 d hd
theorem cpm {l l' : List Nat} (h : ∀ p : Nat -> Bool, l.countP p = l'.countP p) : l.Perm l' := List.perm_iff_count.2 fun x => h _
section
variable {κ : Cfg} {n : Nat} {a : zb} {it : Nat -> It} {N : List Nd} {L : Heap}
theorem qV (H : Hp κ n a it N L) {t : B} {u : Int} (h : ∀ ν ∈ bn t u, ν ∈ N) : -1 <= t.hd /\ t.hd < κ.C := by
 cases t with
 | nil => simp only [B.hd]; omega
 | node c rk l r =>
  have := H.lt (h _ (List.mem_cons_self ..));simp only [B.hd]; simp only at this; omega
theorem kP (H : Hp κ n a it N L) {t : B} {u : Int} (h : ∀ ν ∈ bn t u, ν ∈ N) : Do (tw a t.hd) fun r => ∃ v e, r = (v, e) /\ Hp κ (n + 1) e it N L := by
 unfold tw;cases t with
 | nil => exact Do.t rfl ⟨_, rfl, _, _, rfl, H.mono (by omega)⟩
 | node c rk l r =>
  refine Do.f (by simp only [B.hd]; simp) ?_;refine (H.get (h _ (List.mem_cons_self ..)) (f := 4)).bind ?_;rintro _ ⟨a1, rfl, H1⟩;exact ⟨_, rfl, _, _, rfl, H1⟩
def Fx (c : Nat) (l r T : B) : Prop := ∃ rk, T = .node c rk l r \/ T = .node c rk r l
theorem Fx.cells {c : Nat} {l r T : B} (h : Fx c l r T) : T.cells.Perm (c :: (l.cells ++ r.cells)) := by
 obtain ⟨rk, rfl | rfl⟩ := h
 ·exact .refl _
 ·exact List.Perm.cons _ List.perm_append_comm
theorem Fx.hd {c : Nat} {l r T : B} (h : Fx c l r T) : T.hd = (c : Int) := by
 obtain ⟨rk, rfl | rfl⟩ := h <;> rfl
theorem Fx.or {c : Nat} {rk : Int} {l r T : B} (h : Fx c l r T) (e : Or it (.node c rk l r)) : Or it T := by
 obtain ⟨i, rfl | rfl⟩ := h
 ·exact ⟨e.1, e.2⟩
 ·exact ⟨fun d hd => e.1 d ((List.perm_append_comm.mem_iff).1 hd), e.2.2, e.2.1⟩
theorem ga {c : Nat} {u rk v b : Int} {x y : B} (H : Hp κ n a it (bn (.node c rk x y) u ++ N) L) :
  Do ((zX a (c : Int) 4).bind fun e => (zy e.2 (c : Int) 4 v).bind fun i => some (e.1 != v, i.2)) fun res => ∃ b j T, res = (b, j) /\ Fx c x y T /\ Hp κ (n + 2) j it (bn T u ++ N) L := by
 refine (Hp.get H (List.mem_cons_self ..) (f := 4)).bind ?_;rintro _ ⟨a1, rfl, H1⟩;refine (Hp.set H1 ⟨c, u, -1, x.hd, y.hd, v, 0⟩).bind ?_;rintro _ ⟨a2, rfl, l⟩;exact ⟨_, rfl, _, a2, .node c v x y, rfl, ⟨v, Or.inl rfl⟩, l⟩
theorem gf {c : Nat} {u rk : Int} {l r : B} (H : Hp κ n a it (bn (.node c rk l r) u ++ N) L) :
  Do (sm a (c : Int)) fun res => ∃ b x T, res = (b, x) /\ Fx c l r T /\ Hp κ (n + 8) x it (bn T u ++ N) L := by
 unfold sm;have y : ∀ ν ∈ bn l c, ν ∈ bn (.node c rk l r) u ++ N := fun ν h => mL _ (mC _ (mL _ h))
 have z : ∀ ν ∈ bn r c, ν ∈ bn (.node c rk l r) u ++ N := fun ν h => mL _ (mC _ (List.mem_append_right _ h))
 have hl := qV H y;have hr := qV H z;refine (H.getc (List.mem_cons_self ..) (f := 2) hl.1 hl.2).bind ?_;rintro _ ⟨a1, rfl, H1⟩;refine (H1.getc (List.mem_cons_self ..) (f := 3) hr.1 hr.2).bind ?_;rintro _ ⟨a2, rfl, F⟩;refine (kP F y).bind ?_;rintro _ ⟨v1, a3, rfl, I⟩;refine (kP I z).bind ?_;rintro _ ⟨v2, a4, rfl, A⟩;by_cases hv : v1 < v2
 ·refine Do.tb (dT hv) ?_;refine Do.assoc ((Hp.set A ⟨c, u, -1, r.hd, r.hd, rk, 0⟩).bind ?_);rintro _ ⟨a5, rfl, J⟩;refine Do.assoc ((Hp.set (ν := ⟨c, u, -1, r.hd, r.hd, rk, 0⟩) J ⟨c, u, -1, r.hd, l.hd, rk, 0⟩).bind ?_);rintro _ ⟨D, rfl, O⟩;refine Do.seq rfl ?_;have e : Hp κ (n + 6) D it (⟨c, u, -1, r.hd, l.hd, rk, 0⟩ :: (bn l c ++ bn r c ++ N)) L := O;have S : Hp κ (n + 6) D it (bn (.node c rk r l) u ++ N) L := Hp.p e (npm fun p => by
   simp only [bn, List.countP_cons, List.countP_append, List.cons_append]; omega)
  refine (ga (v := _) (b := 0) S).mono ?_;rintro _ ⟨b, i, T, rfl, ⟨j, h⟩, t⟩;exact ⟨b, i, T, rfl, ⟨j, h.symm⟩, t⟩
 ·refine Do.fb (dF hv) ?_;refine Do.seq rfl ?_;refine (ga (v := _) (b := 0) A).mono ?_;rintro _ ⟨b, i, T, rfl, h, t⟩;exact ⟨b, i, T, rfl, h, t.mono (by omega)⟩
structure PE where
 c : Nat
 rk : Int
 l : B
 u : Int
 w : Int
def PE.nd (p : PE) : List Nd := ⟨p.c, p.u, -1, p.l.hd, p.w, p.rk, 0⟩ :: bn p.l p.c
def PN (ps : List PE) : List Nd := ps.flatMap PE.nd
theorem dA (p : PE) (ps : List PE) : PN (p :: ps) = p.nd ++ PN ps := rfl
theorem aq (p : PE) (ps : List PE) : PN (ps ++ [p]) = PN ps ++ p.nd := by simp [PN]
def pc (ps : List PE) : List Int := ps.map fun p => (p.c : Int)
def reb : List PE -> B -> B
 | [], T => T
 | p :: ps, T => .node p.c p.rk p.l (reb ps T)
theorem lQ (p : PE) (T : B) : ∀ ps : List PE, reb (ps ++ [p]) T = reb ps (.node p.c p.rk p.l T)
 | [] => rfl
 | q :: ps => by rw [List.cons_append, reb, lQ p T ps, reb]
theorem bq {it : Nat -> It} {T T' : B} : ∀ {ps : List PE}, Or it (reb ps T) -> T'.cells.Perm T.cells -> (Or it T -> Or it T') -> (reb ps T').cells.Perm (reb ps T).cells /\ Or it (reb ps T')
 | [], h, hp, e => ⟨hp, e h⟩
 | p :: ps, h, hp, e => by
  obtain ⟨h1, h2⟩ := bq (ps := ps) h.2.2 hp e;refine ⟨List.Perm.cons _ (h1.append_left _), fun d hd => h.1 d ?_, h.2.1, h2⟩;exact ((h1.append_left _).mem_iff).1 hd
theorem kN {T T' : B} (hp : T'.cells.Perm T.cells) : ∀ ps : List PE, (reb ps T').cells.Perm (reb ps T).cells
 | [] => hp
 | p :: ps => List.Perm.cons _ ((kN hp ps).append_left _)
theorem jh : ∀ (q : Nat) (R S : B) (u v : Int) {n : Nat} {a : zb} (H : Hp κ n a it N L) (A : ∀ ν ∈ bn R u, ν ∈ N) (j : ∀ ν ∈ bn S v, ν ∈ N) (m : Nat) (pre : List Int), R.cells.length + S.cells.length <= q -> q + 5 < m -> pre.length + q <= κ.C ->
  Do (w8 m R.hd S.hd pre a) fun res => ∃ (ps : List PE) (T : B) (ut r1 s1 : Int) (W : zb), res = (r1, s1, pre ++ pc ps, W) /\ (if s1 > r1 then s1 else r1) = T.hd /\ Hp κ (n + 7 * ps.length) W it N L /\ (bn R u ++ bn S v).Perm (PN ps ++ bn T ut) /\
   (Or it R -> Or it S -> Or it (reb ps T)) /\ (reb ps T).cells.Perm (R.cells ++ S.cells) /\ ps.length <= q := by
 intro q;induction q with
 | zero =>
  intro R S u v n a H A j m pre hq hm hp;obtain ⟨m, rfl⟩ : ∃ q, m = q + 1 := ⟨m - 1, by omega⟩
  cases R with
  | node c rk l r => simp [B.cells] at hq
  | nil =>
   rw [w8];refine Do.fb rfl ?_;refine Do.seq rfl (Do.f rfl ?_);have hs : -1 <= S.hd := (qV H j).1;refine ⟨_, rfl, [], S, v, -1, S.hd, a, by simp [pc, B.hd], ?_, H.mono (by omega), by simp [PN, bn], fun _ h => h, by simp [reb, B.cells], by simp⟩;split <;> omega
 | succ q ih =>
  intro R S u v n a H A j m pre hq hm hp;obtain ⟨m, rfl⟩ : ∃ q, m = q + 1 := ⟨m - 1, by omega⟩
  rw [w8];cases R with
  | nil =>
   refine Do.fb rfl ?_;refine Do.seq rfl (Do.f rfl ?_);have hs : -1 <= S.hd := (qV H j).1;refine ⟨_, rfl, [], S, v, -1, S.hd, a, by simp [pc, B.hd], ?_, H.mono (by omega), by simp [PN, bn], fun _ h => h, by simp [reb, B.cells], by simp⟩;split <;> omega
  | node c rk l r =>
   cases S with
   | nil =>
    refine Do.tb (by simp only [B.hd]; simp) ?_;refine Do.fb rfl ?_;refine Do.seq rfl (Do.f rfl ?_);refine ⟨_, rfl, [], .node c rk l r, u, (c : Int), -1, a, by simp [pc, B.hd], ?_, H.mono (by omega), by simp [PN, bn], fun h _ => h, by simp [reb, B.cells], by simp⟩;simp only [B.hd]; split <;> omega
   | node c' D l' r' =>
    refine Do.tb (by simp only [B.hd]; simp) ?_;refine Do.tb (by simp only [B.hd]; simp) ?_;refine Do.assoc (Do.seq (Ar.cells H) ?_);have X := H.cap;have Y := A _ (List.mem_cons_self ..);have Z := j _ (List.mem_cons_self ..);have mr : ∀ ν ∈ bn r c, ν ∈ N := fun ν h => A ν (mC _ (List.mem_append_right _ h))
    have F : ∀ ν ∈ bn r' c', ν ∈ N := fun ν h => j ν (mC _ (List.mem_append_right _ h))
    refine Do.seq rfl (Do.t (dT (by omega)) ?_);refine (H.before (by omega) Z Y).bind ?_;rintro _ ⟨a1, rfl, H1⟩;simp only [B.cells, lC, lA] at hq;by_cases i : (it c').lt (it c)
    ·refine Do.tb (dT i) ?_;refine Do.seq rfl ?_;refine Do.seq (xd (by simp only [List.length_singleton]; omega)) ?_;have hh := qV H1 F;refine (H1.getc Z (f := 3) hh.1 hh.2).bind ?_;rintro _ ⟨a2, rfl, J⟩;refine (ih r' (.node c rk l r) c' u J F A m (pre ++ [(c' : Int)]) (by simp only [B.cells, lC, lA]; omega) (by omega) (by simp only [lA, List.length_singleton]; omega)).mono ?_;rintro _ ⟨ps, T, ut, r1, s1, a3, rfl, e, O, x, U, I, hl⟩;refine ⟨⟨c', D, l', v, r'.hd⟩ :: ps, T, ut, r1, s1, a3, by simp [pc], e, O.mono (by simp only [lC]; omega), npm fun P => ?_, fun y z => ⟨fun d hd => ?_, z.2.1, U z.2.2 y⟩, ?_, by simp only [lC]; omega⟩
     ·have := x.countP_eq P;simp only [dA, PE.nd, bn, List.countP_cons, List.countP_append, List.cons_append] at this ⊢; omega
     ·rcases List.mem_append.1 hd with hd | hd
      ·exact z.1 d (mL _ hd)
      ·rcases List.mem_append.1 (I.mem_iff.1 hd) with hd | hd
       ·exact z.1 d (List.mem_append_right _ hd)
       ·exact It.le_trans (It.lt_asymm i) (y.least d hd)
     ·refine cpm fun P => ?_
      have := I.countP_eq P;simp only [reb, B.cells, List.countP_cons, List.countP_append, List.cons_append] at this ⊢; omega
    ·refine Do.fb (dF i) ?_;refine Do.seq rfl ?_;refine Do.seq (xd (by simp only [List.length_singleton]; omega)) ?_;have hh := qV H1 mr;refine (H1.getc Y (f := 3) hh.1 hh.2).bind ?_;rintro _ ⟨a2, rfl, J⟩;refine (ih r (.node c' D l' r') c v J mr j m (pre ++ [(c : Int)]) (by simp only [B.cells, lC, lA]; omega) (by omega) (by simp only [lA, List.length_singleton]; omega)).mono ?_;rintro _ ⟨ps, T, ut, r1, s1, a3, rfl, e, O, x, U, I, hl⟩;refine ⟨⟨c, rk, l, u, r.hd⟩ :: ps, T, ut, r1, s1, a3, by simp [pc], e, O.mono (by simp only [lC]; omega), npm fun P => ?_, fun y z => ⟨fun d hd => ?_, y.2.1, U y.2.2 z⟩, ?_, by simp only [lC]; omega⟩
     ·have := x.countP_eq P;simp only [dA, PE.nd, bn, List.countP_cons, List.countP_append, List.cons_append] at this ⊢; omega
     ·rcases List.mem_append.1 hd with hd | hd
      ·exact y.1 d (mL _ hd)
      ·rcases List.mem_append.1 (I.mem_iff.1 hd) with hd | hd
       ·exact y.1 d (List.mem_append_right _ hd)
       ·exact It.le_trans i (z.least d hd)
     ·refine cpm fun P => ?_
      have := I.countP_eq P;simp only [reb, B.cells, List.countP_cons, List.countP_append, List.cons_append] at this ⊢; omega
theorem jr {T : B} {u : Int} (H : Hp κ n a it (bn T u ++ N) L) (v : Int) : Do (zy a T.hd 0 v) fun r => ∃ b e, r = (b, e) /\ Hp κ (n + 1) e it (bn T v ++ N) L := by
 cases T with
 | nil =>
  refine (Hp.setN H (c := -1) (by decide)).mono ?_;rintro _ ⟨a1, rfl, H1⟩;exact ⟨_, a1, rfl, H1⟩
 | node c rk l r =>
  refine (Hp.set H ⟨c, v, -1, l.hd, r.hd, rk, 0⟩).mono ?_;rintro _ ⟨a1, rfl, H1⟩;exact ⟨_, a1, rfl, H1⟩
theorem AF (ps : List PE) : (pc ps).length = ps.length := by simp [pc]
theorem kF (all : List PE) (x : all.length < 70000) : ∀ (q : Nat) (pre post : List PE) (T : B) (ut : Int) {n : Nat} {a : zb} (H : Hp κ n a it (PN pre ++ (bn T ut ++ N)) L) (m : Nat), all = pre ++ post -> pre.length = q -> q < m ->
  Do (wm (pc all) m T.hd ((q : Int) - 1) a) fun res => ∃ (T' : B) (i : Int) (F : zb), res = (T'.hd, F) /\ Hp κ (n + 10 * q) F it (bn T' i ++ N) L /\ T'.cells.Perm (reb pre T).cells /\ (Or it (reb pre T) -> Or it T') := by
 intro q;induction q with
 | zero =>
  intro pre post T ut n a H m x hq hm;obtain ⟨m, rfl⟩ : ∃ q, m = q + 1 := ⟨m - 1, by omega⟩
  have : pre = [] := List.length_eq_zero_iff.1 hq;subst this;rw [wm];refine Do.f (dF (by omega)) ?_;exact ⟨_, rfl, T, ut, a, rfl, H, .refl _, fun h => h⟩
 | succ q ih =>
  intro pre post T ut n a H m e hq hm;obtain ⟨m, rfl⟩ : ∃ q, m = q + 1 := ⟨m - 1, by omega⟩
  rcases List.eq_nil_or_concat pre with rfl | ⟨pre, p, rfl⟩
  ·simp at hq
  ·rw [List.concat_eq_append] at *
   have y : pre.length = q := by simpa using hq
   have J : q < all.length := by rw [e]; simp; omega
   have j : mIdx (pc all) (((q + 1 : Nat) : Int) - 1) = some (p.c : Int) := by
    have O : ((q + 1 : Nat) : Int) - 1 = (q : Int) := by omega
    rw [O, yC, e];simp [pc, <- y]
   rw [wm];refine Do.t (dT (by omega)) ?_;refine Do.seq j ?_;have S : Hp κ n a it (⟨p.c, p.u, -1, p.l.hd, p.w, p.rk, 0⟩ :: (bn p.l p.c ++ (PN pre ++ (bn T ut ++ N)))) L := Hp.p H (npm fun P => by
    simp only [aq, PE.nd, List.countP_cons, List.countP_append, List.cons_append]; omega)
   refine (S.set ⟨p.c, p.u, -1, p.l.hd, T.hd, p.rk, 0⟩).bind ?_;rintro _ ⟨a1, rfl, H1⟩;refine Do.seq j ?_;have A : Hp κ (n + 1) a1 it (bn T ut ++ (⟨p.c, p.u, -1, p.l.hd, T.hd, p.rk, 0⟩ :: (bn p.l p.c ++ (PN pre ++ N)))) L := H1.p (npm fun P => by
    simp only [List.countP_cons, List.countP_append, List.cons_append]; omega)
   refine (jr A (p.c : Int)).bind ?_;rintro _ ⟨b, a2, rfl, U⟩;refine Do.seq j ?_;have W : Hp κ (n + 2) a2 it (bn (.node p.c p.rk p.l T) p.u ++ (PN pre ++ N)) L := U.p (npm fun P => by
    simp only [bn, List.countP_cons, List.countP_append, List.cons_append]; omega)
   refine (gf W).bind ?_;rintro _ ⟨b', a3, D, rfl, hf, X⟩;have Y : Hp κ (n + 10) a3 it (PN pre ++ (bn D p.u ++ N)) L := X.p (npm fun P => by simp only [List.countP_append]; omega);have Z : w64 (((q + 1 : Nat) : Int) - 1 - 1) = (q : Int) - 1 := by rw [zG] <;> omega
   have := ih pre ([p] ++ post) D p.u Y m (by rw [e]; simp) y (by omega);rw [hf.hd] at this;show Do (wm (pc all) m (p.c : Int) (w64 (((q + 1 : Nat) : Int) - 1 - 1)) a3) _;rw [Z];refine this.mono ?_;rintro _ ⟨T', i, a4, rfl, H6, h1, h2⟩;have z : D.cells.Perm (B.node p.c p.rk p.l T).cells := hf.cells;refine ⟨T', i, a4, rfl, H6.mono (by omega), ?_, fun I => ?_⟩
   ·rw [lQ];exact h1.trans (kN z pre)
   ·rw [lQ] at I;exact h2 (bq I z fun h => hf.or h).2
theorem uP {k : Nat} {R S : B} {u v : Int} (H : Hp κ n a it (bn R u ++ (bn S v ++ N)) L) (y : Or it R) (z : Or it S) (hk : 70010 < k) :
  Do (vg k a R.hd S.hd) fun res => ∃ (T : B) (j : zb), res = (T.hd, j) /\ Hp κ (n + 17 * (R.cells.length + S.cells.length) + 1) j it (bn T (-1) ++ N) L /\ T.cells.Perm (R.cells ++ S.cells) /\ Or it T := by
 unfold vg;have i := H.room;simp only [lA, lD] at i;have x := H.cap;by_cases he : R.hd = S.hd
 ·have : R = .nil /\ S = .nil := by
   cases R with
   | nil => cases S with
    | nil => exact ⟨rfl, rfl⟩
    | node c rk l r => simp only [B.hd] at he; omega
   | node c rk l r => cases S with
    | nil => simp only [B.hd] at he; omega
    | node c' A l' r' =>
     have hn := H.nd;simp only [B.hd] at he;have : c = c' := by omega
     subst this;rw [List.map_append, List.map_append, vi, vi] at hn;exact absurd rfl ((List.nodup_append.1 hn).2.2 c (List.mem_cons_self ..) c (mL _ (List.mem_cons_self ..)))
  obtain ⟨rfl, rfl⟩ := this;refine Do.t (by simp) ?_;exact ⟨_, rfl, .nil, a, rfl, H.mono (by omega), .refl _, trivial⟩
 ·refine Do.f (by simpa using he) ?_;refine (jh (R.cells.length + S.cells.length) R S u v H (fun ν h => mL _ h) (fun ν h => List.mem_append_right _ (mL _ h)) k [] (Nat.le_refl _) (by omega) (by simp; omega)).bind ?_;rintro _ ⟨ps, T, ut, r1, s1, a1, rfl, e, H1, hp, D, F, hl⟩;have I : Hp κ (n + 7 * ps.length) a1 it (PN ps ++ (bn T ut ++ N)) L := H1.p (by
   rw [<- aA, <- aA]; exact hp.append_right N)
  have h3 := kF ps (by omega) ps.length ps [] T ut I k (by simp) rfl (by omega);rw [<- e] at h3;have J : w64 ((([] ++ pc ps).length : Int) - 1) = (ps.length : Int) - 1 := by rw [List.nil_append, AF, zG] <;> omega
  refine Do.bind (P := _) (o := wm ([] ++ pc ps) k (if s1 > r1 then s1 else r1) (w64 ((([] ++ pc ps).length : Int) - 1)) a1) (by rw [J]; exact h3) ?_;rintro _ ⟨T', O, a2, rfl, U, h4, W⟩;refine (jr U (-1)).bind ?_;rintro _ ⟨b, a3, rfl, X⟩;exact ⟨_, rfl, T', a3, rfl, X.mono (by omega), h4.trans F, W (D y z)⟩
end
end Le
end
noncomputable section
set_option maxRecDepth 10000
theorem cU {κ : Cfg} {n : Nat} {a : zb} {it : Nat -> It} {N : List Nd} {L : Heap} (H : Hp κ n a it N L) {ν : Nd} (t : ν ∈ N) {key : Int} (hk : key <= (it ν.c).k) :
  Do (tO a ((it ν.c).i : Int) key) fun r => ∃ l, r = (true, l) /\ Hp κ (n + 2) l (upd it ν.c ⟨(it ν.c).i, key, (it ν.c).s⟩) N L := by
 obtain ⟨p, q, e⟩ := List.append_of_mem t;have hp : N.Perm (ν :: (p ++ q)) := by rw [e]; exact List.perm_middle
 have H1 := H.p hp;have j := H1.cy;unfold Hp at H1;rw [vQ] at H1;refine (o7 (x := it ν.c) (Ar.t2 H1) hk).mono ?_;rintro _ ⟨a1, rfl, u⟩;refine ⟨a1, rfl, Hp.p (N := ν :: (p ++ q)) ?_ hp.symm⟩;unfold Hp;rw [vQ, uq, ud (it := it) (it' := upd it ν.c ⟨(it ν.c).i, key, (it ν.c).s⟩) fun μ y => vL _ _ (j μ y)];exact Ar.t2 u
abbrev KS := (Nat -> It) -> List Nd -> Int -> Prop
def HK (K : KS) (r : Int) (its : List It) (C : Heap) : Prop := ∃ (it : Nat -> It) (M : List Nd), K it M r /\ C.Perm (lay it M) /\ its.Perm (M.map fun ν => it ν.c)
def HL (K : KS) (r : Int) (its : List It) (x y : It) (C : Heap) : Prop := ∃ (it : Nat -> It) (M : List Nd) (ν : Nd), K it M r /\ ν ∈ M /\ it ν.c = x /\ C.Perm (lay (upd it ν.c y) M) /\ its.Perm (M.map fun ν => it ν.c)
theorem HK.p {K : KS} {r : Int} {its e : List It} {C C' : Heap} (h : HK K r its C) (h1 : its.Perm e) (h2 : C.Perm C') : HK K r e C' := by
 obtain ⟨it, M, hk, hC, i⟩ := h;exact ⟨it, M, hk, h2.symm.trans hC, h1.symm.trans i⟩
theorem HK.len {K : KS} {r : Int} {its : List It} {C : Heap} (h : HK K r its C) : C.length = 2 * its.length := by
 obtain ⟨it, M, hk, hC, e⟩ := h;rw [hC.length_eq, qz, e.length_eq, lM]
section
variable {κ : Cfg} {n : Nat} {a : zb} {L : Heap} {K : KS} {r : Int} {its : List It} {C : Heap}
theorem HK.mem (h : HK K r its C) {x : It} (e : x ∈ its) : ∃ p, (x.i, x.cell p) ∈ C := by
 obtain ⟨it, M, hk, hC, j⟩ := h;obtain ⟨ν, l, rfl⟩ := List.mem_map.1 (j.mem_iff.1 e);exact ⟨_, hC.mem_iff.2 (ky l).2⟩
theorem HK.lower (h : HK K r its C) (H : Ar κ n a (C ++ L)) {x : It} (t : x ∈ its) {key : Int} (hk : key <= x.k) :
  Do (tO a (x.i : Int) key) fun res => ∃ C' e, res = (true, e) /\ HL K r its x ⟨x.i, key, x.s⟩ C' /\ Ar κ (n + 2) e (C' ++ L) := by
 obtain ⟨it, M, u, hC, j⟩ := h;obtain ⟨ν, l, rfl⟩ := List.mem_map.1 (j.mem_iff.1 t);have H1 : Hp κ n a it M L := Ar.p H (hC.append_right L);refine (cU H1 l hk).mono ?_;rintro _ ⟨a1, rfl, y⟩;exact ⟨_, a1, rfl, ⟨it, M, ν, u, l, rfl, .refl _, j⟩, y⟩
theorem jU {it : Nat -> It} {M : List Nd} {ν : Nd} {x y : It} (hn : (M.map Nd.c).Nodup) (j : ν ∈ M) (l : it ν.c = x) : ∃ q, (M.map fun μ => it μ.c).Perm (x :: q) /\ (M.map fun μ => upd it ν.c y μ.c).Perm (y :: q) := by
 obtain ⟨p, s, rfl⟩ := List.append_of_mem j;have hp : (p ++ ν :: s).Perm (ν :: (p ++ s)) := List.perm_middle;have i := ((hp.map Nd.c).nodup_iff).1 hn;simp only [pC, List.nodup_cons] at i;refine ⟨(p ++ s).map fun μ => it μ.c, ?_, ?_⟩
 ·have := hp.map fun μ => it μ.c
  rwa [pC, l] at this
 ·have := hp.map fun μ => upd it ν.c y μ.c
  rw [pC, uq] at this;have e : ((p ++ s).map fun μ => upd it ν.c y μ.c) = (p ++ s).map fun μ => it μ.c := List.map_congr_left fun μ t => vL _ _ fun e => i.1 (e ▸ List.mem_map_of_mem (f := Nd.c) t)
  rwa [e] at this
end
end
noncomputable section
set_option maxRecDepth 10000
namespace Le
structure Fr where
 c : Nat
 rk : Int
 left : Bool
 sib : B
def Fr.lb (f : Fr) (X : B) : B := bif f.left then X else f.sib
def Fr.rb (f : Fr) (X : B) : B := bif f.left then f.sib else X
def Fr.plug (f : Fr) (X : B) : B := .node f.c f.rk (f.lb X) (f.rb X)
def plug : List Fr -> B -> B
 | [], X => X
 | f :: fs, X => plug fs (f.plug X)
def upOf (u : Int) : List Fr -> Int
 | [] => u
 | f :: _ => (f.c : Int)
theorem px (f : Fr) : ∀ (fs : List Fr) (X : B), plug (fs ++ [f]) X = f.plug (plug fs X)
 | [], X => rfl
 | g :: fs, X => by rw [List.cons_append, plug, px f fs, plug]
theorem find {c : Nat} : ∀ {t : B}, c ∈ t.cells -> ∃ fs rk l r, t = plug fs (.node c rk l r)
 | .nil, h => by simp [B.cells] at h
 | .node j i u r0, h => by
  rcases List.mem_cons.1 h with rfl | h
  ·exact ⟨[], i, u, r0, rfl⟩
  ·rcases List.mem_append.1 h with h | h
   ·obtain ⟨fs, rk, l, r, e⟩ := find h;exact ⟨fs ++ [⟨j, i, true, r0⟩], rk, l, r, by rw [px, <- e]; rfl⟩
   ·obtain ⟨fs, rk, l, r, e⟩ := find h;exact ⟨fs ++ [⟨j, i, false, u⟩], rk, l, r, by rw [px, <- e]; rfl⟩
def fn : List Fr -> Int -> Int -> List Nd
 | [], _, _ => []
 | f :: fs, h, u => ⟨f.c, upOf u fs, -1, bif f.left then h else f.sib.hd, bif f.left then f.sib.hd else h, f.rk, 0⟩ :: (bn f.sib f.c ++ fn fs f.c u)
theorem sQ (u : Int) : ∀ (fs : List Fr) (X : B), (bn (plug fs X) u).Perm (fn fs X.hd u ++ bn X (upOf u fs))
 | [], X => .refl _
 | f :: fs, X => by
  rw [plug];refine (sQ u fs (f.plug X)).trans (npm fun P => ?_);obtain ⟨c, rk, b, s⟩ := f;cases b <;> simp only [Fr.plug, Fr.lb, Fr.rb, fn, bn, B.hd, upOf, cT, cF, List.countP_cons, List.countP_append, List.cons_append] <;> omega
def fc (fs : List Fr) : List Nat := fs.flatMap fun f => f.c :: f.sib.cells
theorem wy : ∀ (fs : List Fr) (X : B), (plug fs X).cells.Perm (fc fs ++ X.cells)
 | [], X => .refl _
 | f :: fs, X => by
  rw [plug];refine (wy fs (f.plug X)).trans (cpm fun P => ?_);obtain ⟨c, rk, b, s⟩ := f;cases b <;> simp only [fc, List.flatMap_cons, Fr.plug, Fr.lb, Fr.rb, B.cells, cT, cF, List.countP_cons, List.countP_append, List.cons_append] <;> omega
theorem jN : ∀ (fs : List Fr) {X Y : B}, X.hd = Y.hd -> (plug fs X).hd = (plug fs Y).hd
 | [], _, _, h => h
 | f :: fs, X, Y, _ => jN fs (X := f.plug X) (Y := f.plug Y) rfl
theorem q6 {it : Nat -> It} : ∀ {fs : List Fr} {X : B}, Or it (plug fs X) -> Or it X
 | [], X, h => h
 | f :: fs, X, h => by
  have h1 : Or it (f.plug X) := q6 (fs := fs) h;obtain ⟨c, rk, b, s⟩ := f;cases b
  ·exact h1.2.2
  ·exact h1.2.1
theorem kc {it : Nat -> It} : ∀ {fs : List Fr} {X Y : B}, Or it (plug fs X) -> (∀ d ∈ Y.cells, d ∈ X.cells) -> Or it Y -> Or it (plug fs Y)
 | [], X, Y, _, _, h => h
 | f :: fs, X, Y, h, hs, e => by
  have h1 : Or it (f.plug X) := q6 (fs := fs) h;obtain ⟨c, rk, b, s⟩ := f;refine kc (fs := fs) h ?_ ?_
  ·intro d hd;cases b <;> simp only [Fr.plug, Fr.lb, Fr.rb, B.cells, cT, cF, iC, iA] at hd ⊢
   ·rcases hd with h | h | h
    ·exact Or.inl h
    ·exact Or.inr (Or.inl h)
    ·exact Or.inr (Or.inr (hs d h))
   ·rcases hd with h | h | h
    ·exact Or.inl h
    ·exact Or.inr (Or.inl (hs d h))
    ·exact Or.inr (Or.inr h)
  ·cases b
   ·refine ⟨fun d hd => h1.1 d ?_, h1.2.1, e⟩;rcases List.mem_append.1 hd with h | h
    ·exact mL _ h
    ·exact List.mem_append_right _ (hs d h)
   ·refine ⟨fun d hd => h1.1 d ?_, e, h1.2.2⟩;rcases List.mem_append.1 hd with h | h
    ·exact mL _ (hs d h)
    ·exact List.mem_append_right _ h
section
variable {κ : Cfg} {n : Nat} {a : zb} {it : Nat -> It} {N : List Nd} {L : Heap}
theorem pe : ∀ (fs : List Fr) (Y : B) {n : Nat} {a : zb} (H : Hp κ n a it (bn (plug fs Y) (-1) ++ N) L) (m j : Nat), fs.length < m -> j + fs.length <= κ.C + 1 ->
  Do (xy m (upOf (-1) fs) (j : Int) a) fun J => ∃ T : B, Hp κ (n + 9 * fs.length) J it (bn T (-1) ++ N) L /\ T.cells.Perm (plug fs Y).cells /\ (Or it (plug fs Y) -> Or it T) /\ T.hd = (plug fs Y).hd
 | [], Y, n, a, H, m, j, hm, hj => by
  obtain ⟨m, rfl⟩ : ∃ q, m = q + 1 := ⟨m - 1, by omega⟩
  rw [xy];refine Do.fb rfl ?_;refine Do.seq rfl (Do.f rfl ?_);exact ⟨_, rfl, Y, H, .refl _, fun h => h, rfl⟩
 | f :: fs, Y, n, a, H, m, j, hm, hj => by
  obtain ⟨m, rfl⟩ : ∃ q, m = q + 1 := ⟨m - 1, by omega⟩
  simp only [lC] at hm hj;have I := H.cap;rw [xy];refine Do.tb (by simp only [upOf]; simp) ?_;refine Do.assoc (Do.seq (Ar.cells H) ?_);refine Do.tb (dT (by omega)) ?_;have H1 : Hp κ n a it (bn (f.plug Y) (upOf (-1) fs) ++ (fn fs f.c (-1) ++ N)) L := H.p (by
   rw [<- aA];exact ((sQ (-1) fs (f.plug Y)).trans List.perm_append_comm).append_right N)
  refine Do.assoc ((gf H1).bind ?_);rintro _ ⟨b, a1, e, rfl, hf, D⟩;refine Do.seq rfl ?_;have i := hf.hd;have u : ∀ d ∈ e.cells, d ∈ (f.plug Y).cells := fun d hd => hf.cells.mem_iff.1 hd
  have O : Hp κ (n + 8) a1 it (bn (plug fs e) (-1) ++ N) L := D.p (by
   rw [<- aA];refine List.Perm.append_right N ?_;have := sQ (-1) fs e;rw [i] at this;exact List.perm_append_comm.trans this.symm)
  have x : (plug fs e).cells.Perm (plug (f :: fs) Y).cells := (wy fs e).trans (((hf.cells).append_left _).trans (wy fs (f.plug Y)).symm);have y : Or it (plug (f :: fs) Y) -> Or it (plug fs e) := fun h => kc (fs := fs) (X := f.plug Y) h u (hf.or (q6 (fs := fs) h))
  have z : (plug fs e).hd = (plug (f :: fs) Y).hd := jN fs (Y := f.plug Y) i;cases b with
  | false =>
   refine Do.f rfl ?_;exact ⟨_, rfl, plug fs e, O.mono (by simp only [lC]; omega), x, y, z⟩
  | true =>
   refine Do.t rfl ?_;have S : ∃ rk l r, e = .node f.c rk l r := by
    obtain ⟨rk, rfl | rfl⟩ := hf
    ·exact ⟨_, _, _, rfl⟩
    ·exact ⟨_, _, _, rfl⟩
   obtain ⟨rk, l, r, U⟩ := S;have F : (⟨f.c, upOf (-1) fs, -1, l.hd, r.hd, rk, 0⟩ : Nd) ∈ bn e (upOf (-1) fs) ++ (fn fs f.c (-1) ++ N) := by rw [U]; exact List.mem_cons_self ..
   have A : -1 <= upOf (-1) fs /\ upOf (-1) fs < κ.C := by
    cases fs with
    | nil => simp only [upOf]; omega
    | cons g gs =>
     have := D.lt (ν := ⟨g.c, upOf (-1) gs, -1, bif g.left then (f.c : Int) else g.sib.hd, bif g.left then g.sib.hd else (f.c : Int), g.rk, 0⟩) (List.mem_append_right _ (mL _ (List.mem_cons_self ..)));simp only [upOf]; simp only at this; omega
   refine (D.getc F (f := 0) A.1 A.2).bind ?_;rintro _ ⟨a2, rfl, W⟩;have Z : Hp κ (n + 9) a2 it (bn (plug fs e) (-1) ++ N) L := W.p (by
    rw [<- aA];refine List.Perm.append_right N ?_;have := sQ (-1) fs e;rw [i] at this;exact List.perm_append_comm.trans this.symm)
   have ew : w64 ((j : Int) + 1) = ((j + 1 : Nat) : Int) := by rw [zG] <;> omega
   show Do (xy m (upOf (-1) fs) (w64 ((j : Int) + 1)) a2) _;rw [ew];refine (pe fs e Z m (j + 1) (by omega) (by omega)).mono ?_;rintro a3 ⟨T, H6, h1, h2, h3⟩;exact ⟨T, H6.mono (by simp only [lC]; omega), h1.trans x, fun h => h2 (y h), h3.trans z⟩
theorem oh {fs : List Fr} {X : B} : fs.length <= (plug fs X).cells.length := by
 have h := (wy fs X).length_eq;have : ∀ fs : List Fr, fs.length <= (fc fs).length := by
  intro fs;induction fs with
  | nil => simp
  | cons f fs ih => simp only [fc, List.flatMap_cons, lC, lA] at *; omega
 have := this fs;rw [h, lA]; omega
theorem mU {k : Nat} {f : Fr} {fs : List Fr} {c : Nat} {rk : Int} {l r : B} (H : Hp κ n a it (bn (plug (f :: fs) (.node c rk l r)) (-1) ++ N) L) (hk : 70010 < k) :
  Do (uS k a (c : Int)) fun j => ∃ T : B, Hp κ (n + 5 + 9 * (fs.length + 1)) j it (bn T (-1) ++ (bn (.node c rk l r) (-1) ++ N)) L /\ T.cells.Perm (plug (f :: fs) .nil).cells /\ (Or it (plug (f :: fs) .nil) -> Or it T) /\ T.hd = (plug (f :: fs) (.node c rk l r)).hd := by
 unfold uS;have Z := H.cap;have x := H.room;simp only [lA, lD] at x;have O := oh (fs := f :: fs) (X := .node c rk l r);simp only [lC] at O;have z : Hp κ n a it (⟨c, f.c, -1, l.hd, r.hd, rk, 0⟩ :: ⟨f.c, upOf (-1) fs, -1, bif f.left then (c : Int) else f.sib.hd, bif f.left then f.sib.hd else (c : Int), f.rk, 0⟩ :: (bn l c ++ (bn r c ++ (bn f.sib f.c ++ (fn fs f.c (-1) ++ N))))) L := H.p (npm fun P => by
  have := (sQ (-1) (f :: fs) (.node c rk l r)).countP_eq P;simp only [fn, bn, B.hd, upOf, List.countP_cons, List.countP_append, List.cons_append] at this ⊢; omega)
 have y : (⟨f.c, upOf (-1) fs, -1, bif f.left then (c : Int) else f.sib.hd, bif f.left then f.sib.hd else (c : Int), f.rk, 0⟩ : Nd) ∈ (⟨c, f.c, -1, l.hd, r.hd, rk, 0⟩ : Nd) :: ⟨f.c, upOf (-1) fs, -1, bif f.left then (c : Int) else f.sib.hd, bif f.left then f.sib.hd else (c : Int), f.rk, 0⟩ :: (bn l c ++ (bn r c ++ (bn f.sib f.c ++ (fn fs f.c (-1) ++ N)))) := mC _ (List.mem_cons_self ..);have S : (f.c : Int) < κ.C := by have := z.lt y; simp only at this; omega
 have A : (c : Int) < κ.C := by have := z.lt (List.mem_cons_self ..); simp only at this; omega
 have i := qV z (t := f.sib) (u := f.c) fun ν h => by
  refine mC _ (mC _ (List.mem_append_right _ (List.mem_append_right _ (mL _ h))))
 have U : f.sib.hd ≠ (c : Int) := by
  intro e;have hn := z.nd;cases hs : f.sib with
  | nil => rw [hs] at e; simp only [B.hd] at e; omega
  | node c2 a5 l2 r2 =>
   rw [hs] at e;simp only [B.hd] at e;have : c2 = c := by omega
   subst this;rw [hs] at hn;simp only [pC, List.map_append, bn, List.nodup_cons, iC, iA] at hn;exact hn.1 (by simp)
 refine (z.getc (List.mem_cons_self ..) (f := 0) (by omega) S).bind ?_;rintro _ ⟨a1, rfl, H1⟩;have fin : ∀ {I : Nat} {j : zb}, Hp κ I j it (⟨c, f.c, -1, l.hd, r.hd, rk, 0⟩ :: ⟨f.c, upOf (-1) fs, -1, bif f.left then (-1 : Int) else f.sib.hd, bif f.left then f.sib.hd else (-1 : Int), f.rk, 0⟩ :: (bn l c ++ (bn r c ++ (bn f.sib f.c ++ (fn fs f.c (-1) ++ N))))) L -> I + 1 <= n + 5 ->
   Do ((zy j (c : Int) 0 (-1)).bind fun W => (xy k (f.c : Int) 0 W.2).bind fun s1 => some s1) fun j => ∃ T : B, Hp κ (n + 5 + 9 * (fs.length + 1)) j it (bn T (-1) ++ (bn (.node c rk l r) (-1) ++ N)) L /\ T.cells.Perm (plug (f :: fs) .nil).cells /\ (Or it (plug (f :: fs) .nil) -> Or it T) /\ T.hd = (plug (f :: fs) (.node c rk l r)).hd := by
  intro I j H hn;refine (H.set ⟨c, -1, -1, l.hd, r.hd, rk, 0⟩).bind ?_;rintro _ ⟨a2, rfl, D⟩;have F : Hp κ (I + 1) a2 it (bn (plug (f :: fs) .nil) (-1) ++ (bn (.node c rk l r) (-1) ++ N)) L := D.p (npm fun P => by
   have := (sQ (-1) (f :: fs) .nil).countP_eq P;simp only [fn, bn, B.hd, upOf, List.countP_cons, List.countP_append, List.cons_append, List.countP_nil] at this ⊢; omega)
  have h4 := pe (f :: fs) .nil F k 0 (by simp only [lC]; omega) (by simp only [lC]; omega);refine Do.bind (show Do (xy k (f.c : Int) 0 a2) _ from h4) ?_;rintro a3 ⟨T, H5, h5, h6, h7⟩;exact ⟨_, rfl, T, H5.mono (by simp only [lC]; omega), h5, h6, h7.trans (jN fs (X := f.plug .nil) (Y := f.plug (.node c rk l r)) rfl)⟩
 by_cases J : f.left = true
 ·simp only [J, cT] at H1 y fin;refine (H1.getc y (f := 2) (by omega) A).bind ?_;rintro _ ⟨a2, rfl, D⟩;refine Do.tb (by simp) ?_;refine Do.assoc ((Hp.set (D.p (List.Perm.swap ..)) ⟨f.c, upOf (-1) fs, -1, -1, f.sib.hd, f.rk, 0⟩).bind ?_);rintro _ ⟨a3, rfl, F⟩;refine Do.seq rfl ?_;exact fin (F.p (List.Perm.swap ..)) (by omega)
 ·have J : f.left = false := by simpa using J
  simp only [J, cF] at H1 y fin;refine (H1.getc y (f := 2) i.1 i.2).bind ?_;rintro _ ⟨a2, rfl, D⟩;refine Do.fb (by simpa using U) ?_;refine Do.assoc ((D.getc y (f := 3) (by omega) A).bind ?_);rintro _ ⟨a3, rfl, F⟩;refine Do.tb (by simp) ?_;refine Do.assoc ((Hp.set (F.p (List.Perm.swap ..)) ⟨f.c, upOf (-1) fs, -1, f.sib.hd, -1, f.rk, 0⟩).bind ?_);rintro _ ⟨a4, rfl, H4⟩;refine Do.seq rfl ?_;exact fin (H4.p (List.Perm.swap ..)) (by omega)
end
end Le
end
noncomputable section
set_option maxRecDepth 10000
namespace Le
def KL : KS := fun it M r => ∃ t : B, M = bn t (-1) /\ r = t.hd /\ Or it t
section
variable {κ : Cfg} {n : Nat} {a : zb} {L : Heap} {r : Int} {its : List It} {C : Heap}
theorem yE {it : Nat -> It} (t : B) (u : Int) : ((bn t u).map fun ν => it ν.c) = t.cells.map it := by rw [<- vi t u, List.map_map]; rfl
theorem eJ : HK KL (-1) [] [] := ⟨fun _ => ⟨0, 0, 0⟩, [], ⟨.nil, rfl, rfl, trivial⟩, .refl _, .refl _⟩
theorem kJ {k : Nat} {x : It} (h : HK KL r its C) (H : Ar κ n a (C ++ ((x.i, x.cell (-1)) :: L))) (hr : 2 * its.length + 1 + L.length < κ.C) (hk : 70010 < k) :
  Do (sC k a r (x.i : Int)) fun res => ∃ r' C' y, res = (r', true, y) /\ HK KL r' (x :: its) C' /\ Ar κ (n + 17 * its.length + 30) y (C' ++ L) := by
 obtain ⟨it, M, ⟨t, rfl, rfl, z⟩, hC, l⟩ := h;unfold sC;have hl := l.length_eq;rw [lM, lD] at hl;have A : Hp κ n a it (bn t (-1)) ((x.i, x.cell (-1)) :: L) := Ar.p H (hC.append_right _);refine (rG A (by rw [lD]; omega)).bind ?_;rintro _ ⟨c, a1, rfl, H1, D⟩;refine Do.f rfl ?_;refine (Hp.set H1 ⟨c, -1, -1, -1, -1, 1, 0⟩).bind ?_;rintro _ ⟨a2, rfl, F⟩;have I : Hp κ (n + 4) a2 (upd it c x) (bn t (-1) ++ (bn (.node c 1 .nil .nil) (-1) ++ [])) L := F.p (npm fun P => by
  simp only [bn, B.hd, List.countP_cons, List.countP_append, List.cons_append, List.countP_nil]; omega)
 have j : ∀ d ∈ t.cells, upd it c x d = it d := fun d hd => vL _ _ fun e => by
  rw [<- vi t (-1)] at hd;obtain ⟨ν, J, O⟩ := List.mem_map.1 hd;exact D ν J (O.trans e)
 refine (uP (R := t) (S := .node c 1 .nil .nil) I (z.congr j) ⟨by simp [B.cells], trivial, trivial⟩ hk).bind ?_;rintro _ ⟨T, a3, rfl, U, hp, u⟩;refine ⟨_, rfl, T.hd, lay (upd it c x) (bn T (-1)), a3, rfl, ⟨_, _, ⟨T, rfl, rfl, u⟩, .refl _, ?_⟩, Ar.mono (n := n + 4 + 17 * (t.cells.length + (B.node c 1 .nil .nil).cells.length) + 1) ?_ (by simp only [B.cells, lC, aN, List.length_nil]; omega)⟩
 ·rw [yE];have h1 := (hp.map (upd it c x)).symm;rw [List.map_append] at h1;have h2 : t.cells.map (upd it c x) = t.cells.map it := List.map_congr_left j;rw [h2] at h1;refine List.Perm.trans ?_ h1;rw [yE] at l;refine (l.cons x).trans ?_;simp only [B.cells, aN, pC, List.map_nil, uq];exact (List.perm_append_singleton _ _).symm
 ·have := U;rw [aN] at this;exact this
theorem eR (h : HK KL r its C) (H : Ar κ n a (C ++ L)) : Do (rE a r) fun res => ∃ j, Ar κ (n + 1) j (C ++ L) /\ ((its = [] /\ res = (-1, j)) \/ ∃ x ∈ its, res = ((x.i : Int), j) /\ ∀ y ∈ its, ¬ y.lt x) := by
 obtain ⟨it, M, ⟨t, rfl, rfl, z⟩, hC, e⟩ := h;unfold rE;have u : Hp κ n a it (bn t (-1)) L := Ar.p H (hC.append_right _);rw [yE] at e;cases t with
 | nil =>
  refine (u.eZ (c := -1) (by decide)).bind ?_;rintro _ ⟨a1, rfl, H1⟩;exact ⟨_, rfl, a1, Ar.p H1 (hC.append_right _).symm, Or.inl ⟨e.eq_nil, rfl⟩⟩
 | node c rk l r' =>
  refine (u.geti (List.mem_cons_self ..)).bind ?_;rintro _ ⟨a1, rfl, H1⟩;refine ⟨_, rfl, a1, Ar.p H1 (hC.append_right _).symm, Or.inr ⟨it c, e.mem_iff.2 (List.mem_map_of_mem (List.mem_cons_self ..)), rfl, fun y A => ?_⟩⟩;obtain ⟨d, hd, rfl⟩ := List.mem_map.1 (e.mem_iff.1 A);exact z.least d hd
theorem kr {k : Nat} {it : Nat -> It} {N : List Nd} {c : Nat} {rk u : Int} {l r : B} (H : Hp κ n a it (bn (.node c rk l r) u ++ N) L) (e : Or it (.node c rk l r)) (hk : 70010 < k) :
  Do (uE k a (c : Int)) fun res => ∃ (T : B) (j : zb), res = (T.hd, ((it c).i : Int), j) /\ Hp κ (n + 17 * (l.cells.length + r.cells.length) + 7) j it (bn T (-1) ++ N) (((it c).i, (it c).cell (-1)) :: L) /\ T.cells.Perm (l.cells ++ r.cells) /\ Or it T := by
 unfold uE qg;have t : ∀ ν ∈ bn l c, ν ∈ bn (.node c rk l r) u ++ N := fun ν h => mL _ (mC _ (mL _ h))
 have x : ∀ ν ∈ bn r c, ν ∈ bn (.node c rk l r) u ++ N := fun ν h => mL _ (mC _ (List.mem_append_right _ h))
 have hl := qV H t;have hr := qV H x;refine Do.assoc (Do.seq (H.live (ν := ⟨c, u, -1, l.hd, r.hd, rk, 0⟩) (List.mem_cons_self ..)) ?_);refine Do.seq rfl (Do.f rfl ?_);refine Do.assoc ((H.getc (List.mem_cons_self ..) (f := 2) hl.1 hl.2).bind ?_);rintro _ ⟨a1, rfl, H1⟩;refine Do.assoc ((H1.getc (List.mem_cons_self ..) (f := 3) hr.1 hr.2).bind ?_);rintro _ ⟨a2, rfl, y⟩;have z : Hp κ (n + 2) a2 it (bn l c ++ (bn r c ++ (⟨c, u, -1, l.hd, r.hd, rk, 0⟩ :: N))) L := Hp.p y (npm fun P => by
  simp only [bn, List.countP_cons, List.countP_append, List.cons_append]; omega)
 refine Do.assoc ((uP z e.2.1 e.2.2 hk).bind ?_);rintro _ ⟨T, a3, rfl, A, h1, h2⟩;refine Do.seq rfl ?_;refine (jr A (-1)).bind ?_;rintro _ ⟨b, a4, rfl, D⟩;have F : Hp κ (n + 2 + 17 * (l.cells.length + r.cells.length) + 1 + 1) a4 it (⟨c, u, -1, l.hd, r.hd, rk, 0⟩ :: (bn T (-1) ++ N)) L := D.p List.perm_middle;refine (rK F).bind ?_;rintro _ ⟨a5, rfl, I⟩;exact ⟨_, rfl, T, a5, rfl, I.mono (by omega), h1, h2⟩
theorem fD {k : Nat} (h : HK KL r its C) (H : Ar κ n a (C ++ L)) (j : its ≠ []) (hk : 70010 < k) :
  Do (uE k a r) fun res => ∃ x q r' C' u, res = (r', (x.i : Int), u) /\ its.Perm (x :: q) /\ (∀ y ∈ its, ¬ y.lt x) /\ HK KL r' q C' /\ Ar κ (n + 17 * its.length + 30) u (C' ++ ((x.i, x.cell (-1)) :: L)) := by
 obtain ⟨it, M, ⟨t, rfl, rfl, z⟩, hC, e⟩ := h;rw [yE] at e;cases t with
 | nil => exact absurd e.eq_nil j
 | node c rk l r' =>
  have A : Hp κ n a it (bn (.node c rk l r') (-1) ++ []) L := by rw [aN]; exact Ar.p H (hC.append_right _)
  have hl := e.length_eq;simp only [B.cells, lM, lC, lA] at hl;refine (kr A z hk).mono ?_;rintro _ ⟨T, a1, rfl, H1, h1, h2⟩;rw [aN] at H1;refine ⟨it c, T.cells.map it, T.hd, _, a1, rfl, ?_, fun y D => ?_, ⟨it, _, ⟨T, rfl, rfl, h2⟩, .refl _, by rw [yE]⟩, Ar.mono H1 (by omega)⟩
  ·refine e.trans ?_;simp only [B.cells, pC];exact List.Perm.cons _ (h1.map it).symm
  ·obtain ⟨d, hd, rfl⟩ := List.mem_map.1 (e.mem_iff.1 D);exact z.least d hd
theorem kT {k : Nat} {s : Int} {e : List It} {C' : Heap} (h : HK KL r its C) (W : HK KL s e C') (H : Ar κ n a (C ++ (C' ++ L))) (hk : 70010 < k) :
  Do (sB k a r s) fun res => ∃ t u U, res = (t, U) /\ HK KL t (its ++ e) u /\ Ar κ (n + 17 * (its.length + e.length) + 30) U (u ++ L) := by
 obtain ⟨it, M, ⟨t, rfl, rfl, X⟩, hC, z⟩ := h;obtain ⟨it', Z, ⟨i, rfl, rfl, A⟩, x, l⟩ := W;rw [yE] at z l;unfold sB;have hl := z.length_eq;have B := l.length_eq;rw [lM] at hl B;have y : ∀ d ∈ t.cells, d ∉ i.cells := by
  have hn := Ar.nodup H;have h1 := ((((hC.append ((x).append_right L)).map Prod.fst)).nodup_iff).1 hn;rw [List.map_append, List.map_append] at h1;intro d hd D;have F : d ∈ (lay it (bn t (-1))).map Prod.fst := ((sD it (bn t (-1))).mem_iff).2 (mL _ (by rw [vi]; exact hd));have I : d ∈ (lay it' (bn i (-1))).map Prod.fst := ((sD it' (bn i (-1))).mem_iff).2 (mL _ (by rw [vi]; exact D));exact (List.nodup_append.1 h1).2.2 d F d (mL _ I) rfl
 let j : Nat -> It := fun d => if d ∈ t.cells then it d else it' d
 have J : ∀ d ∈ t.cells, j d = it d := fun d hd => if_pos hd
 have O : ∀ d ∈ i.cells, j d = it' d := fun d hd => if_neg fun h => y d h hd
 have F : lay j (bn t (-1)) = lay it (bn t (-1)) := ud fun ν S => J _ (by rw [<- vi t (-1)]; exact List.mem_map_of_mem S)
 have I : lay j (bn i (-1)) = lay it' (bn i (-1)) := ud fun ν S => O _ (by rw [<- vi i (-1)]; exact List.mem_map_of_mem S)
 have Y : Hp κ n a j (bn t (-1) ++ (bn i (-1) ++ [])) L := by
  unfold Hp;rw [aN, oD, F, I, aA];exact Ar.p H (hC.append (x.append_right L))
 refine (uP Y (X.congr J) (A.congr O) hk).bind ?_;rintro _ ⟨T, a1, rfl, H1, h1, h2⟩;rw [aN] at H1;refine ⟨_, rfl, T.hd, _, a1, rfl, ⟨j, _, ⟨T, rfl, rfl, h2⟩, .refl _, ?_⟩, Ar.mono H1 (by omega)⟩;rw [yE];have h3 := (h1.map j).symm;rw [List.map_append] at h3;have f1 : t.cells.map j = t.cells.map it := List.map_congr_left J;have f2 : i.cells.map j = i.cells.map it' := List.map_congr_left O;rw [f1, f2] at h3;exact (z.append l).trans h3
theorem bB {fs : List Fr} {c : Nat} {rk : Int} {l r : B} : (plug fs (.node c rk l r)).hd = (c : Int) -> fs ≠ [] -> (plug fs (.node c rk l r)).cells.Nodup -> False := by
 intro h e hn;obtain ⟨gs, g, rfl⟩ : ∃ gs g, fs = gs ++ [g] := by
  rcases List.eq_nil_or_concat fs with h | ⟨gs, g, h⟩
  ·exact absurd h e
  ·exact ⟨gs, g, by rw [h, List.concat_eq_append]⟩
 rw [px] at h hn;have i : g.c = c := by simp only [Fr.plug, B.hd] at h; omega
 have h2 := ((wy gs (.node c rk l r))).mem_iff (a := c);have j : c ∈ (plug gs (.node c rk l r)).cells := h2.2 (List.mem_append_right _ (List.mem_cons_self ..));obtain ⟨gc, t, u, x⟩ := g;simp only [Fr.plug, B.cells, List.nodup_cons, iA] at hn;simp only at i;subst i;cases u
 ·exact hn.1 (Or.inr j)
 ·exact hn.1 (Or.inl j)
theorem jk {k : Nat} {x y : It} (h : HL KL r its x y C) (hi : y.i = x.i) (J : ¬ x.lt y) (H : Ar κ n a (C ++ L)) (hk : 70010 < k) :
  Do (sG k a r (y.i : Int)) fun res => ∃ r' q C' D, res = (r', D) /\ its.Perm (x :: q) /\ HK KL r' (y :: q) C' /\ Ar κ (n + 26 * its.length + 30) D (C' ++ L) := by
 obtain ⟨it, M, ν, ⟨t, rfl, rfl, F⟩, hν, rfl, hC, hI⟩ := h;unfold sG vW;have hl := hI.length_eq;rw [lM, lD] at hl;have O : Hp κ n a (upd it ν.c y) (bn t (-1)) L := Ar.p H (hC.append_right _);have hn := O.nd;obtain ⟨q, W, Z⟩ := jU (y := y) hn hν rfl;rw [vi] at hn;have a9 : ν.c ∈ t.cells := by rw [<- vi t (-1)]; exact List.mem_map_of_mem hν
 have c3 := O.lt hν;have b0 : ((upd it ν.c y ν.c).i : Int) = (y.i : Int) := by rw [uq]
 have A := Ar.cell O (O.item hν) (f := 9) (v := (ν.c : Int)) rfl (by omega) (by omega);rw [b0] at A;refine Do.assoc (A.bind ?_);rintro _ ⟨a1, rfl, H1⟩;refine Do.seq rfl ?_;refine Do.fb (by simp) ?_;obtain ⟨fs, rk, l, r', z⟩ := find a9;have done : ∀ {n' : Nat} {D : zb}, Hp κ n' D (upd it ν.c y) (bn t (-1)) L -> fs = [] -> n' <= n + 26 * its.length + 30 -> Do (some (t.hd, D)) fun res => ∃ r' q C' D, res = (r', D) /\ its.Perm (it ν.c :: q) /\ HK KL r' (y :: q) C' /\ Ar κ (n + 26 * its.length + 30) D (C' ++ L) := by
  intro n' D H b2 b3;refine ⟨_, rfl, t.hd, q, _, D, rfl, hI.trans W, ⟨upd it ν.c y, _, ⟨t, rfl, rfl, ?_⟩, .refl _, Z.symm⟩, Ar.mono H b3⟩;rw [b2] at z;rw [z] at F hn ⊢;simp only [plug] at F hn ⊢;have I := List.nodup_cons.1 hn;have u : ∀ d ∈ l.cells ++ r'.cells, d ≠ ν.c := fun d hd e => I.1 (e ▸ hd)
  refine ⟨fun d hd => ?_, F.2.1.congr fun d hd => vL _ _ (u d (mL _ hd)), F.2.2.congr fun d hd => vL _ _ (u d (List.mem_append_right _ hd))⟩;rw [vL _ _ (u d hd), uq];exact It.le_trans J (F.1 d hd)
 by_cases j : (ν.c : Int) = t.hd
 ·refine Do.tb (by simpa using j) ?_;refine Do.seq rfl (Do.t rfl ?_);refine done H1 ?_ (by omega);cases fs with
  | nil => rfl
  | cons f fs => rw [z] at j hn; exact (bB j.symm (by simp) hn).elim
 ·refine Do.fb (by simpa using j) ?_;cases fs with
  | nil => rw [z] at j; exact absurd rfl j
  | cons f fs =>
   have c4 : Hp κ (n + 1) a1 (upd it ν.c y) (bn (plug (f :: fs) (.node ν.c rk l r')) (-1) ++ []) L := by rw [aN, <- z]; exact H1
   have b4 : (⟨ν.c, f.c, -1, l.hd, r'.hd, rk, 0⟩ : Nd) ∈ bn t (-1) := by
    rw [z];exact ((sQ (-1) (f :: fs) (.node ν.c rk l r')).mem_iff).2 (List.mem_append_right _ (List.mem_cons_self ..))
   have b5 : (f.c : Int) < κ.C := by
    have := O.lt (ν := ⟨f.c, upOf (-1) fs, -1, bif f.left then (ν.c : Int) else f.sib.hd, bif f.left then f.sib.hd else (ν.c : Int), f.rk, 0⟩) (by
     rw [z];exact ((sQ (-1) (f :: fs) (.node ν.c rk l r')).mem_iff).2 (mL _ (List.mem_cons_self ..)))
    simp only at this; omega
   refine Do.assoc ((Hp.getc H1 b4 (f := 0) (by omega) b5).bind ?_);rintro _ ⟨a2, rfl, H2⟩;refine Do.seq rfl (Do.f (by simp) ?_);have b6 : Hp κ (n + 2) a2 (upd it ν.c y) (bn (plug (f :: fs) (.node ν.c rk l r')) (-1) ++ []) L := by rw [aN, <- z]; exact H2
   refine (mU (k := k) b6 hk).bind ?_;rintro a3 ⟨T, H3, h1, h2, a0⟩;have b7 : ν.c ∉ (plug (f :: fs) .nil).cells := by
    have p1 := wy (f :: fs) (.node ν.c rk l r');rw [z] at hn;have b8 := p1.nodup_iff.1 hn;intro hm;have := (wy (f :: fs) .nil).mem_iff.1 hm;simp only [B.cells, aN] at this;exact (List.nodup_append.1 b8).2.2 _ this _ (List.mem_cons_self ..) rfl
   have o1 : Or (upd it ν.c y) (plug (f :: fs) .nil) := by
    rw [z] at F;refine (kc (fs := f :: fs) (Y := .nil) F (by simp [B.cells]) trivial).congr fun d hd => vL _ _ fun e => b7 (e ▸ hd)
   have o2 : Or (upd it ν.c y) (.node ν.c rk l r') := by
    rw [z] at F hn;have o3 : Or it (.node ν.c rk l r') := q6 (fs := f :: fs) F;have c0 : (B.node ν.c rk l r').cells.Nodup := (List.nodup_append.1 ((wy (f :: fs) (.node ν.c rk l r')).nodup_iff.1 hn)).2.1;have I := List.nodup_cons.1 c0;have u : ∀ d ∈ l.cells ++ r'.cells, d ≠ ν.c := fun d hd e => I.1 (e ▸ hd)
    refine ⟨fun d hd => ?_, o3.2.1.congr fun d hd => vL _ _ (u d (mL _ hd)), o3.2.2.congr fun d hd => vL _ _ (u d (List.mem_append_right _ hd))⟩;rw [vL _ _ (u d hd), uq];exact It.le_trans J (o3.1 d hd)
   rw [<- z] at a0;rw [<- a0];refine (uP (R := T) (S := .node ν.c rk l r') H3 (h2 o1) o2 hk).bind ?_;rintro _ ⟨U, a4, rfl, H4, h3, h4⟩;rw [aN] at H4;have a5 := (wy (f :: fs) (.node ν.c rk l r')).length_eq;have a6 := (wy (f :: fs) .nil).length_eq;have c1 := oh (fs := f :: fs) (X := .nil);have e1 := h1.length_eq;rw [<- z] at a5;simp only [B.cells, aN, lA, lC, List.length_nil] at a5 a6 c1 e1;refine ⟨_, rfl, U.hd, q, _, a4, rfl, hI.trans W, ⟨upd it ν.c y, _, ⟨U, rfl, rfl, h4⟩, .refl _, ?_⟩, Ar.mono H4 (by simp only [B.cells, lC, lA]; omega)⟩;rw [yE];refine Z.symm.trans ?_;rw [yE];refine List.Perm.map _ ?_;rw [z];refine (wy (f :: fs) (.node ν.c rk l r')).trans (List.Perm.trans (List.Perm.append_right _ ?_) h3.symm);have := (wy (f :: fs) .nil)
   simp only [B.cells, aN] at this;exact (h1.trans this).symm
theorem dh {k : Nat} {x : It} (h : HK KL r its C) (hx : x ∈ its) (H : Ar κ n a (C ++ L)) (hk : 70010 < k) :
  Do (rz k a r (x.i : Int)) fun res => ∃ q r' C' a', res = (r', a') /\ its.Perm (x :: q) /\ HK KL r' q C' /\ Ar κ (n + 43 * its.length + 50) a' (C' ++ ((x.i, x.cell (-1)) :: L)) := by
 obtain ⟨it, M, ⟨t, rfl, rfl, A⟩, hC, D⟩ := h;obtain ⟨ν, W, rfl⟩ := List.mem_map.1 (D.mem_iff.1 hx);unfold rz vW;have hl := D.length_eq;rw [lM, lD] at hl;have F : Hp κ n a it (bn t (-1)) L := Ar.p H (hC.append_right _);have hn := F.nd;rw [vi] at hn;rw [yE] at D;have Z : ν.c ∈ t.cells := by rw [<- vi t (-1)]; exact List.mem_map_of_mem W
 have b5 := F.lt W;refine Do.assoc ((Ar.cell F (F.item W) (f := 9) (v := (ν.c : Int)) rfl (by omega) (by omega)).bind ?_);rintro _ ⟨a1, rfl, H1⟩;refine Do.seq rfl ?_;refine Do.f (by simp) ?_;obtain ⟨fs, rk, l, r', j⟩ := find Z;have I := (wy fs (.node ν.c rk l r'))
 have y := I.length_eq;rw [<- j] at y;simp only [B.cells, lA, lC] at y;by_cases e : (ν.c : Int) = t.hd
 ·have a0 : fs = [] := by
   cases fs with
   | nil => rfl
   | cons f fs => rw [j] at e hn; exact (bB e.symm (by simp) hn).elim
  subst a0;simp only [plug] at j;subst j;refine Do.tb (by simpa using e) ?_;refine Do.seq rfl (Do.t rfl ?_);have H2 : Hp κ (n + 1) a1 it (bn (.node ν.c rk l r') (-1) ++ []) L := by rw [aN]; exact H1
  refine (kr H2 A hk).bind ?_;rintro _ ⟨T, a2, rfl, J, h1, h2⟩;rw [aN] at J;refine ⟨_, rfl, T.cells.map it, T.hd, _, a2, rfl, ?_, ⟨it, _, ⟨T, rfl, rfl, h2⟩, .refl _, by rw [yE]⟩, Ar.mono J (by omega)⟩;refine D.trans ?_;simp only [B.cells, pC];exact List.Perm.cons _ (h1.map it).symm
 ·refine Do.fb (by simpa using e) ?_;cases fs with
  | nil => rw [j] at e; exact absurd rfl e
  | cons f fs =>
   have a7 : (⟨ν.c, f.c, -1, l.hd, r'.hd, rk, 0⟩ : Nd) ∈ bn t (-1) := by
    rw [j];exact ((sQ (-1) (f :: fs) (.node ν.c rk l r')).mem_iff).2 (List.mem_append_right _ (List.mem_cons_self ..))
   have a8 : (f.c : Int) < κ.C := by
    have := F.lt (ν := ⟨f.c, upOf (-1) fs, -1, bif f.left then (ν.c : Int) else f.sib.hd, bif f.left then f.sib.hd else (ν.c : Int), f.rk, 0⟩) (by
     rw [j];exact ((sQ (-1) (f :: fs) (.node ν.c rk l r')).mem_iff).2 (mL _ (List.mem_cons_self ..)))
    simp only at this; omega
   refine Do.assoc ((Hp.getc H1 a7 (f := 0) (by omega) a8).bind ?_);rintro _ ⟨a2, rfl, H2⟩;refine Do.seq rfl (Do.f (by simp) ?_);have a9 : Hp κ (n + 2) a2 it (bn (plug (f :: fs) (.node ν.c rk l r')) (-1) ++ []) L := by rw [aN, <- j]; exact H2
   refine (mU (k := k) a9 hk).bind ?_;rintro a3 ⟨T, J, h1, h2, O⟩;rw [<- j] at O;have o1 : Or it (plug (f :: fs) .nil) := by
    rw [j] at A;exact kc (fs := f :: fs) (Y := .nil) A (by simp [B.cells]) trivial
   have o2 : Or it (.node ν.c rk l r') := by
    rw [j] at A;exact q6 (fs := f :: fs) A
   have b0 : Hp κ (n + 2 + 5 + 9 * (fs.length + 1)) a3 it (bn (.node ν.c rk l r') (-1) ++ bn T (-1)) L := by
    rw [aN] at J;exact J.p List.perm_append_comm
   refine (kr b0 o2 hk).bind ?_;rintro _ ⟨U, a4, rfl, H4, h3, h4⟩;rw [<- O];have H5 : Hp κ (n + 2 + 5 + 9 * (fs.length + 1) + 17 * (l.cells.length + r'.cells.length) + 7) a4 it (bn T (-1) ++ (bn U (-1) ++ [])) (((it ν.c).i, (it ν.c).cell (-1)) :: L) := by
    rw [aN];exact H4.p List.perm_append_comm
   refine (uP (R := T) (S := U) H5 (h2 o1) h4 hk).bind ?_;rintro _ ⟨V, a5, rfl, H6, h5, h6⟩;rw [aN] at H6;have u := (wy (f :: fs) .nil)
   have z := u.length_eq;have b1 := oh (fs := f :: fs) (X := .nil);have e1 := h1.length_eq;have e3 := h3.length_eq;simp only [B.cells, aN, lA, lC, List.length_nil] at u z b1 e1 e3;refine ⟨_, rfl, V.cells.map it, V.hd, _, a5, rfl, ?_, ⟨it, _, ⟨V, rfl, rfl, h6⟩, .refl _, by rw [yE]⟩, Ar.mono H6 (by omega)⟩;refine D.trans ?_;rw [j];refine (I.map it).trans ?_;have h7 : (fc (f :: fs) ++ (B.node ν.c rk l r').cells).Perm (ν.c :: V.cells) := by
    refine cpm fun P => ?_
    have q1 := h5.countP_eq P;have q2 := h1.countP_eq P;have q3 := h3.countP_eq P;have q4 := u.countP_eq P;simp only [B.cells, List.countP_append, List.countP_cons, List.cons_append] at q1 q2 q3 q4 ⊢;omega
   have := h7.map it
   rwa [pC] at this
end
end Le
end
noncomputable section
set_option maxRecDepth 10000
inductive SK (b : Bool) : F -> Nat -> Prop
 | nil : SK b .nil 0
 | real {c r : Nat} {kids rest : F} : SK b kids r -> SK b rest r -> SK b (.cons c r kids rest) (r + 1)
 | leaf {d c r : Nat} {kids rest : F} : b = true -> SK b kids r -> SK b rest r -> SK b (.cons d 0 .nil (.cons c r kids rest)) (r + 1)
theorem SK.size {b : Bool} {f : F} {r : Nat} (h : SK b f r) : 2 ^ r <= f.size + 1 /\ f.size + 1 < 2 ^ (r + 1) /\ (b = false -> f.size + 1 = 2 ^ r) := by
 induction h with
 | nil => simp [F.size]
 | real h1 h2 i1 i2 =>
  simp only [F.size, Nat.pow_succ] at *
  refine ⟨by omega, by omega, fun e => ?_⟩;have j := i1.2.2 e;have l := i2.2.2 e;omega
 | leaf i h1 h2 i1 i2 =>
  simp only [F.size, Nat.pow_succ] at *
  refine ⟨by omega, by omega, fun e => ?_⟩;rw [e] at i; cases i
def Ord (it : Nat -> It) (N : List Nd) : Prop := ∀ ν ∈ N, ∀ q : Nat, ν.up = (q : Int) -> ¬ (it ν.c).lt (it q)
theorem Ord.append {it : Nat -> It} {M N : List Nd} (h : Ord it M) (e : Ord it N) : Ord it (M ++ N) := fun ν i => by
 rcases List.mem_append.1 i with h1 | h1
 ·exact h ν h1
 ·exact e ν h1
theorem Ord.sub {it : Nat -> It} {M N : List Nd} (h : Ord it N) (hs : ∀ ν ∈ M, ν ∈ N) : Ord it M := fun ν e => h ν (hs ν e)
structure GT (b : Bool) (it : Nat -> It) (t : Tr) : Prop where
 sk : SK b t.kids t.r
 ord : Ord it (nd t.kids t.c)
theorem GT.under {b : Bool} {it : Nat -> It} {t l : Tr} (ht : GT b it t) (hl : GT b it l) (hr : l.r = t.r) (i : ¬ (it l.c).lt (it t.c)) : GT b it (t.under l) where
 sk := by
  show SK b (.cons l.c l.r l.kids t.kids) (t.r + 1);rw [hr];exact .real (hr ▸ hl.sk) ht.sk
 ord := by
  show Ord it (⟨l.c, t.c, l.kids.hd, -1, t.kids.hd, l.r, 0⟩ :: (nd l.kids l.c ++ nd t.kids t.c));intro ν e q hq;rcases List.mem_cons.1 e with rfl | e
  ·simp only at hq ⊢;have : q = t.c := by omega
   rw [this]; exact i
  ·exact (hl.ord.append ht.ord) ν e q hq
theorem bI {b : Bool} {it : Nat -> It} {s t : Tr} (hs : GT b it s) (ht : GT b it t) (hr : s.r = t.r) : GT b it (lk it s t) /\ (lk it s t).r = s.r + 1 /\ (lk it s t).cells.Perm (s.cells ++ t.cells) := by
 unfold lk;split
 ·rename_i h;refine ⟨ht.under hs hr (It.lt_asymm h), by simp [Tr.under, hr], ?_⟩;simp only [Tr.cells, Tr.under, F.cells, List.cons_append];exact (List.Perm.swap ..).trans (List.Perm.cons _ (List.perm_middle.symm))
 ·rename_i h;refine ⟨hs.under ht hr.symm h, rfl, ?_⟩;simp only [Tr.cells, Tr.under, F.cells, List.cons_append];refine List.Perm.cons _ ?_;exact List.perm_append_comm (l₁ := t.c :: t.kids.cells) (l₂ := s.kids.cells)
theorem eI {α β : Type} {f : α -> β} {l r : List β} (h : r.Perm l) : ∀ ls : List α, ls.map f = l -> ∃ ws : List α, ws.Perm ls /\ ws.map f = r := by
 induction h with
 | nil => intro ls e; exact ⟨ls, .refl _, e⟩
 | cons x h ih =>
  intro ls e;cases ls with
  | nil => simp at e
  | cons y ls =>
   simp only [pC, List.cons.injEq] at e;obtain ⟨ws, h1, h2⟩ := ih ls e.2;exact ⟨y :: ws, h1.cons y, by simp [h2, e.1]⟩
 | swap x y l =>
  intro ls e;cases ls with
  | nil => simp at e
  | cons u ls =>
   cases ls with
   | nil => simp at e
   | cons v ls =>
    simp only [pC, List.cons.injEq] at e;exact ⟨v :: u :: ls, List.Perm.swap .., by simp [e]⟩
 | trans h1 h2 i1 i2 =>
  intro ls e;obtain ⟨ws, h3, h4⟩ := i2 ls e;obtain ⟨vs, i, j⟩ := i1 ws h4;exact ⟨vs, i.trans h3, j⟩
theorem pT {α : Type} {l : List α} {i : Nat} (h : i <= l.length) : mCut l (i : Int) (l.length : Int) = some (l.drop i) := by
 unfold mCut;rw [if_pos ⟨by omega, by omega, by omega⟩];simp
def rk (l : Lt) : zm := zm.mk (l.t.c : Int) (l.t.r : Int)
section
variable {κ : Cfg} {it : Nat -> It} {N : List Nd} {L : Heap} {b : Bool}
theorem fN {n : Nat} {a : zb} {ls : List Lt} (H : Hp κ n a it (LN ls ++ N) L) (e : ∀ l ∈ ls, GT b it l.t) : ∀ l ∈ ls, l.t.r < 17 := by
 intro l hl;have h1 := (e l hl).sk.size.1;have h2 := H.room;have h3 := H.cap;have h4 : l.nd.length <= (LN ls).length := by
  obtain ⟨p, q, rfl⟩ := List.append_of_mem hl;rw [vc, sg];simp only [lA]; omega
 rw [kO, lC, rV] at h4;rw [lA] at h2;have i : 2 ^ l.t.r < 2 ^ 17 := by
  have : (2 : Nat) ^ 17 = 131072 := by decide
  omega
 exact (Nat.pow_lt_pow_iff_right (by decide)).1 i
theorem iY (all : List Lt) (i : ∀ l ∈ all, l.top ∈ N) (hl : all.length < 100000) : ∀ (post pre : List Lt) {n : Nat} {a : zb} (H : Hp κ n a it N L) (m : Nat), post.length < m -> all = pre ++ post ->
  Do (vE (all.length : Int) (lc all) m (pre.map rk) (pre.length : Int) a) fun r => ∃ j, r = (all.map rk, j) /\ Hp κ (n + post.length) j it N L
 | [], pre, n, a, H, m, hm, e => by
  obtain ⟨m, rfl⟩ : ∃ q, m = q + 1 := ⟨m - 1, by simp at hm; omega⟩
  rw [vE];refine Do.f (dF (by rw [e]; simp)) ?_;exact ⟨_, rfl, a, by rw [e]; simp, H⟩
 | l :: post, pre, n, a, H, m, hm, e => by
  obtain ⟨m, rfl⟩ : ∃ q, m = q + 1 := ⟨m - 1, by simp at hm; omega⟩
  simp only [lC] at hm;have hlen : pre.length < 100000 := by have := congrArg List.length e; simp at this; omega
  have u : mIdx (lc all) (pre.length : Int) = some (l.t.c : Int) := by
   rw [e, vd, kb];have := yF (lc pre) (lc post) (l.t.c : Int)
   rwa [vq] at this
  rw [vE];refine Do.t (dT (by rw [e]; simp; omega)) ?_;refine Do.seq u ?_;refine (H.get (i l (by rw [e]; simp)) (f := 4) (v := (l.t.r : Int))).bind ?_;rintro _ ⟨a1, rfl, H1⟩;refine Do.seq (xd (by simp; omega)) ?_;rw [zG (by omega) (by omega)];have := iY all i hl post (pre ++ [l]) H1 m (by omega) (by rw [e]; simp);have x : ((pre ++ [l]).length : Int) = (pre.length : Int) + 1 := by simp
  rw [x, List.map_append] at this;refine this.mono ?_;rintro _ ⟨a2, rfl, y⟩;exact ⟨a2, rfl, y.mono (by simp only [lC]; omega)⟩
theorem iS (v v1 : Int) (j u : List Int) (a : zb) : ∀ (post pre : List Lt) (m : Nat), post.length < m -> (pre ++ post).length < 100000 -> (∀ l ∈ pre, (l.t.r : Int) < v1) ->
  Do (vH ((pre ++ post).map rk) v v1 j a u m (pre.length : Int)) fun r => ∃ p q, pre ++ post = p ++ q /\ r = (p.length : Int) /\ (∀ l ∈ p, (l.t.r : Int) < v1) /\ (∀ l y, q = l :: y -> ¬ (l.t.r : Int) < v1)
 | [], pre, m, hm, z, hp => by
  obtain ⟨m, rfl⟩ : ∃ q, m = q + 1 := ⟨m - 1, by simp at hm; omega⟩
  rw [vH];refine Do.fb (dF (by simp)) ?_;refine Do.seq rfl (Do.f rfl ?_);exact ⟨_, rfl, pre, [], rfl, rfl, hp, fun _ _ h => by cases h⟩
 | l :: post, pre, m, hm, z, hp => by
  obtain ⟨m, rfl⟩ : ∃ q, m = q + 1 := ⟨m - 1, by simp at hm; omega⟩
  simp only [lC, lA] at hm z;have A : mIdx ((pre ++ l :: post).map rk) (pre.length : Int) = some (rk l) := by
   rw [List.map_append, pC];have := yF (pre.map rk) (post.map rk) (rk l)
   rwa [lM] at this
  rw [vH];refine Do.tb (dT (by simp; omega)) ?_;refine Do.assoc (Do.seq A ?_);refine Do.seq rfl ?_;by_cases h : (l.t.r : Int) < v1
  ·refine Do.t (dT h) ?_;rw [zG (by omega) (by omega)];have := iS v v1 j u a post (pre ++ [l]) m (by omega) (by simp; omega) (by
    intro x i;rcases List.mem_append.1 i with i | i
    ·exact hp x i
    ·simp at i; subst i; exact h)
   have B : ((pre ++ [l]).length : Int) = (pre.length : Int) + 1 := by simp
   rw [B, aA] at this;exact this
  ·refine Do.f (dF h) ?_;exact ⟨_, rfl, pre, l :: post, rfl, rfl, hp, fun x y e => by cases e; exact h⟩
def LS (l : List Lt) : Prop := l.Pairwise fun x y => x.t.r <= y.t.r
def LSS (l : List Lt) : Prop := l.Pairwise fun x y => x.t.r < y.t.r
theorem um (s t : List Tr) : TC (s ++ t) = TC s ++ TC t := List.flatMap_append
theorem rX (s : Tr) (t : List Tr) : TC (s :: t) = s.cells ++ TC t := rfl
theorem df {s t : List Tr} (h : s.Perm t) : (TC s).Perm (TC t) := h.flatMap_right _
theorem cpm {l l' : List Nat} (h : ∀ p : Nat -> Bool, l.countP p = l'.countP p) : l.Perm l' := List.perm_iff_count.2 fun x => h _
theorem ko (J : List Int) : ∀ (q : Nat) (ws os : List Lt) {n : Nat} {a : zb} (H : Hp κ n a it (LN ws ++ (LN os ++ N)) L) (m : Nat), ws.length = q -> q + os.length < 1000 -> q + 10 + 1000 < m -> (∀ l ∈ ws, GT b it l.t) -> (∀ l ∈ os, GT b it l.t) -> LS ws -> LSS os -> (∀ o ∈ os, ∀ w ∈ ws, o.t.r < w.t.r) ->
  Do (wJ J m (ws.map rk) (lc os) a) fun r => ∃ fs O, r = (lc fs, O) /\ Hp κ (n + 11 * q) O it (LN fs ++ N) L /\ (∀ l ∈ fs, GT b it l.t) /\ LSS fs /\ (TC (fs.map Lt.t)).Perm (TC (ws.map Lt.t) ++ TC (os.map Lt.t)) /\ fs.length <= q + os.length
 | 0, ws, os, n, a, H, m, hq, hb, hm, F, z, hs, A, j => by
  obtain ⟨m, rfl⟩ : ∃ q, m = q + 1 := ⟨m - 1, by omega⟩
  have := List.eq_nil_of_length_eq_zero hq;subst this;rw [wJ];refine Do.f (dF (by simp)) ?_;exact ⟨_, rfl, os, a, rfl, H, z, A, by simp [TC], by simp⟩
 | q + 1, ws, os, n, a, H, m, hq, hb, hm, F, z, hs, A, j => by
  obtain ⟨m, rfl⟩ : ∃ q, m = q + 1 := ⟨m - 1, by omega⟩
  cases ws with
  | nil => simp at hq
  | cons x ws =>
   simp only [lC] at hq;have B : ws.length = q := by omega
   rw [wJ];refine Do.t (dT (by simp)) ?_;refine Do.seq (r := rk x) rfl ?_;have I : LS ws := (List.pairwise_cons.1 hs).2;have hx := (List.pairwise_cons.1 hs).1;have out : (∀ w ∈ ws, x.t.r < w.t.r) -> Do ((mCut (rk x :: ws.map rk) 1 (((x :: ws).map rk).length : Int)).bind fun l4 => (mApp (lc os) ([(rk x).n] : List Int)).bind fun l5 => wJ J m l4 l5 a) fun r => ∃ fs O, r = (lc fs, O) /\ Hp κ (n + 11 * (q + 1)) O it (LN fs ++ N) L /\ (∀ l ∈ fs, GT b it l.t) /\ LSS fs /\ (TC (fs.map Lt.t)).Perm (TC ((x :: ws).map Lt.t) ++ TC (os.map Lt.t)) /\ fs.length <= q + 1 + os.length := by
    intro S;have U : mCut (rk x :: ws.map rk) 1 (((x :: ws).map rk).length : Int) = some (ws.map rk) := pT (l := (x :: ws).map rk) (i := 1) (by simp);refine Do.seq U ?_;refine Do.seq (xd (by simp [vq]; omega)) ?_;have H1 : Hp κ n a it (LN ws ++ (LN (os ++ [x]) ++ N)) L := H.p (npm fun p => by
     simp only [sg, vc, List.countP_append, show LN ([] : List Lt) = [] from rfl, List.countP_nil]; omega)
    have := ko J q ws (os ++ [x]) H1 m B (by simp; omega) (by omega) (fun l h => F l (mC _ h)) (fun l h => by
     rcases List.mem_append.1 h with h | h
     ·exact z l h
     ·simp at h; subst h; exact F l (List.mem_cons_self ..)) I (List.pairwise_append.2 ⟨A, by simp, fun o e y hy => by simp at hy; subst hy; exact j o e y (List.mem_cons_self ..)⟩) (fun o e w hw => by
     rcases List.mem_append.1 e with e | e
     ·exact j o e w (mC _ hw)
     ·simp at e; subst e; exact S w hw)
    rw [vd] at this;refine this.mono ?_;rintro _ ⟨fs, a2, rfl, W, h1, h2, h3, h4⟩;refine ⟨fs, a2, rfl, W.mono (by omega), h1, h2, h3.trans (cpm fun p => ?_), by rw [lA, List.length_singleton] at h4; omega⟩;simp only [List.map_append, pC, List.map_nil, um, rX, List.countP_append, show TC ([] : List Tr) = [] from rfl, List.countP_nil]; omega
   cases ws with
   | nil =>
    refine Do.seq (r := true) rfl (Do.t rfl ?_);exact out (by simp)
   | cons y ws =>
    refine Do.fb (by simp; omega) ?_;refine Do.assoc (Do.seq (r := rk y) rfl ?_);refine Do.seq rfl ?_;by_cases hr : y.t.r = x.t.r
    ·refine Do.f (by simp [rk, hr]) ?_;refine Do.seq (r := rk y) rfl ?_;have H1 : Hp κ n a it (x.t.nd x.u x.w ++ (y.t.nd y.u y.w ++ (LN ws ++ (LN os ++ N)))) L := H.p (npm fun p => by
      simp only [sg, Lt.nd, List.countP_append]; omega)
     have a8 := fN H F x (List.mem_cons_self ..);refine (eO (k := m) (by omega) H1 rfl hr (by omega)).bind ?_;rintro _ ⟨u, w, a1, rfl, W⟩;have gx := F x (List.mem_cons_self ..);have gy := F y (mC _ (List.mem_cons_self ..));obtain ⟨g1, g2, g3⟩ := bI gx gy hr.symm;have U : mCut (rk x :: (y :: ws).map rk) 2 (((x :: y :: ws).map rk).length : Int) = some (ws.map rk) := pT (l := (x :: y :: ws).map rk) (i := 2) (by simp);refine Do.seq U ?_;have ew : w64 ((rk x).rank + 1) = ((x.t.r + 1 : Nat) : Int) := by
      simp only [rk]; rw [zG (by omega) (by omega)]; omega
     rw [ew];simp only [lC] at B;refine (iS (lk it x.t y.t).c ((x.t.r + 1 : Nat) : Int) (lc os) J a1 ws [] m (by omega) (by simp; omega) (by simp)).bind ?_;rintro _ ⟨p, r, ep, rfl, X, Y⟩;simp only [List.nil_append] at ep;subst ep;have el : qR ((p ++ r).map rk) (p.length : Int) ([zm.mk ((lk it x.t y.t).c : Int) ((x.t.r + 1 : Nat) : Int)] : List zm) = some ((p ++ (⟨lk it x.t y.t, u, w⟩ : Lt) :: r).map rk) := by
      unfold qR;simp only [lA] at B;rw [if_pos ⟨by omega, by simp; omega, by simp; omega⟩];simp only [tN, List.map_append, pC];rw [List.take_left' (by simp), List.drop_left' (by simp)];simp only [rk, g2]
      rfl
     refine Do.seq el ?_;have hlen : (p ++ (⟨lk it x.t y.t, u, w⟩ : Lt) :: r).length = q := by
      simp only [lA, lC] at B ⊢; omega
     have Z := List.pairwise_cons.1 I;have D := List.pairwise_append.1 Z.2;have H3 : Hp κ (n + 11) a1 it (LN (p ++ (⟨lk it x.t y.t, u, w⟩ : Lt) :: r) ++ (LN os ++ N)) L := W.p (npm fun p => by
      simp only [sg, vc, Lt.nd, List.countP_append]; omega)
     have := ko J q (p ++ (⟨lk it x.t y.t, u, w⟩ : Lt) :: r) os H3 m hlen (by omega) (by omega) (by
      intro l hl;rcases List.mem_append.1 hl with hl | hl
      ·exact F l (by simp [hl])
      ·rcases List.mem_cons.1 hl with rfl | hl
       ·exact g1
       ·exact F l (by simp [hl])) z (by
      refine List.pairwise_append.2 ⟨D.1, List.pairwise_cons.2 ⟨?_, D.2.1⟩, ?_⟩
      ·intro l hl;simp only [g2];cases r with
       | nil => cases hl
       | cons r0 r =>
        have h0 := Y r0 r rfl;have h1 : r0.t.r <= l.t.r := by
         rcases List.mem_cons.1 hl with rfl | hl
         ·exact Nat.le_refl _
         ·exact (List.pairwise_cons.1 D.2.1).1 l hl
        omega
      ·intro o e l hl;rcases List.mem_cons.1 hl with rfl | hl
       ·have := X o e;simp only [g2]; omega
       ·exact D.2.2 o e l hl) A (by
      intro o e l hl;have h0 := j o e x (List.mem_cons_self ..);rcases List.mem_append.1 hl with hl | hl
      ·exact j o e l (by simp [hl])
      ·rcases List.mem_cons.1 hl with rfl | hl
       ·simp only [g2]; omega
       ·exact j o e l (by simp [hl]))
     refine this.mono ?_;rintro _ ⟨fs, a2, rfl, H4, h1, h2, h3, h4⟩;refine ⟨fs, a2, rfl, H4.mono (by omega), h1, h2, h3.trans (cpm fun p => ?_), by omega⟩;have := g3.countP_eq p;simp only [List.map_append, pC, um, rX, List.countP_append] at this ⊢; omega
    ·refine Do.t (by simp [rk]; omega) ?_;refine out fun w hw => ?_
     have h1 := hx y (List.mem_cons_self ..);rcases List.mem_cons.1 hw with rfl | hw
     ·omega
     ·have := (List.pairwise_cons.1 I).1 w hw;omega
theorem s9 {k : Nat} (hk : 3000 <= k) (ls : List Lt) (hl : ls.length <= 20) {n : Nat} {a : zb} (H : Hp κ n a it (LN ls ++ N) L) (e : ∀ l ∈ ls, GT b it l.t) :
  Do (vj k a (lc ls)) fun r => ∃ f i, r = (f.hd, i) /\ Hp κ (n + 14 * ls.length) i it (nd f (-1) ++ N) L /\ (∀ t ∈ f.trees, GT b it t) /\ (f.trees.Pairwise fun s t => s.r < t.r) /\ f.cells.Perm (TC (ls.map Lt.t)) := by
 unfold vj;have hr := fN H e;have h0 := iY (κ := κ) (it := it) (N := LN ls ++ N) (L := L) ls (fun l h => mL _ (nS h)) (by omega) ls [] H k (by omega) rfl;rw [vq];refine h0.bind ?_;rintro _ ⟨a1, rfl, H1⟩;refine (dO (ls.map rk) (by simpa using hl) (by omega) (by
  intro y j;obtain ⟨l, hl, rfl⟩ := List.mem_map.1 j;have := hr l hl;exact ⟨by simp [rk], by simp only [rk]; omega⟩)).bind ?_
 rintro r ⟨hs, hp⟩;obtain ⟨ws, hw, rfl⟩ := eI hp ls rfl;have hlen : ws.length = ls.length := hw.length_eq;have u : Hp κ (n + ls.length) a1 it (LN ws ++ (LN ([] : List Lt) ++ N)) L := H1.p ((jS hw.symm).append_right _);have h1 := ko (b := b) (lc ls) ws.length ws [] u k rfl (by simp; omega) (by omega) (fun l h => e l (hw.mem_iff.1 h)) (by simp) (by
  have := List.pairwise_map.1 hs;refine this.imp fun {x y} h => ?_
  simp only [rk] at h; omega) (by simp [LSS]) (by simp)
 refine h1.bind ?_;rintro _ ⟨fs, a2, rfl, z, g1, g2, g3, g4⟩;simp only [List.length_nil, Nat.add_zero] at g4;refine (eV fs (by omega) (by omega) z).bind ?_;rintro _ ⟨a3, rfl, A⟩;refine ⟨_, rfl, F.of (fs.map Lt.t), a3, rfl, A.mono (by omega), ?_, ?_, ?_⟩
 ·rw [F.oP];intro t ht;obtain ⟨l, hl, rfl⟩ := List.mem_map.1 ht;exact g1 l hl
 ·rw [F.oP];exact List.pairwise_map.2 g2
 ·rw [F.xg, F.oP];refine g3.trans ?_;rw [show TC (([] : List Lt).map Lt.t) = [] from rfl, aN];exact df (hw.map _)
end
end
noncomputable section
set_option maxRecDepth 10000
section
variable {κ : Cfg} {n : Nat} {a : zb} {it : Nat -> It} {N : List Nd} {L : Heap} {b : Bool}
theorem pz (e : List Tr) : (cs e).length = e.length := by simp [cs]
theorem vU {k : Nat} {f : F} (H : Hp κ n a it N L) (hs : ∀ ν ∈ nd f (-1), ν ∈ N) (hl : f.len <= κ.C) (hk : f.len < k) :
  Do (wx k a f.hd) fun r => ∃ e, r = (cs f.trees, e) /\ Hp κ (n + f.len) e it N L := by
 unfold wx pk;refine Do.assoc ((eS f (-1) H hs k [] hk (by simpa using hl)).bind ?_);rintro _ ⟨a1, rfl, H1⟩;exact ⟨_, rfl, a1, by simp [qU, cs], H1⟩
theorem ji {k : Nat} {ν : Nd} {f : F} (H : Hp κ n a it N L) (i : ν ∈ N) (hd : ν.down = f.hd) (hs : ∀ μ ∈ nd f ν.c, μ ∈ N) (hl : f.len <= κ.C) (hk : f.len < k) :
  Do (tQ k a (ν.c : Int)) fun r => ∃ e, r = (cs f.trees, e) /\ Hp κ (n + 1 + f.len) e it N L := by
 unfold tQ pk;have hh := qV H hs;refine (H.getc i (f := 1) (v := f.hd) hh.1 hh.2 (by rw [<- hd]; rfl)).bind ?_;rintro _ ⟨a1, rfl, H1⟩;refine Do.assoc ((eS f ν.c H1 hs k [] hk (by simpa using hl)).bind ?_);rintro _ ⟨a2, rfl, j⟩;exact ⟨_, rfl, a2, by simp [qU, cs], j⟩
theorem lW : ∀ (f : F) (q : Nat), Ord it (nd f (q : Int)) -> ∀ c ∈ f.cells, ¬ (it c).lt (it q)
 | .nil, q, h, c, e => by simp [F.cells] at e
 | .cons d r kids rest, q, h, c, e => by
  have h0 : ¬ (it d).lt (it q) := h ⟨d, q, kids.hd, -1, rest.hd, r, 0⟩ (List.mem_cons_self ..) q rfl;have h1 : Ord it (nd kids d) := h.sub fun ν i => mC _ (mL _ i)
  have h2 : Ord it (nd rest q) := h.sub fun ν i => mC _ (List.mem_append_right _ i)
  rw [F.cells] at e;rcases List.mem_cons.1 e with rfl | e
  ·exact h0
  ·rcases List.mem_append.1 e with e | e
   ·exact It.le_trans h0 (lW kids d h1 c e)
   ·exact lW rest q h2 c e
theorem GT.least {t : Tr} (h : GT b it t) : ∀ c ∈ t.cells, ¬ (it c).lt (it t.c) := by
 intro c e;rcases List.mem_cons.1 e with rfl | e
 ·exact It.lt_irrefl _
 ·exact lW t.kids t.c h.ord c e
theorem tc {f : F} {up : Int} (h : ∀ t ∈ f.trees, GT b it t) : ∀ l ∈ f.loose up, GT b it l.t := fun l hl => h l.t (by rw [<- xI f up]; exact List.mem_map_of_mem hl)
theorem ov : ∀ {f : F} {r : Nat}, SK b f r -> ∀ t ∈ f.trees, SK b t.kids t.r /\ t.r < r := by
 intro f r h;induction h with
 | nil => intro t ht; simp [F.trees] at ht
 | real h1 h2 i1 i2 =>
  intro t ht;rw [F.trees] at ht;rcases List.mem_cons.1 ht with rfl | ht
  ·exact ⟨h1, Nat.lt_succ_self _⟩
  ·obtain ⟨e, i⟩ := i2 t ht;exact ⟨e, by omega⟩
 | leaf j h1 h2 i1 i2 =>
  intro t ht;rw [F.trees, F.trees] at ht;rcases List.mem_cons.1 ht with rfl | ht
  ·exact ⟨.nil, by simp⟩
  rcases List.mem_cons.1 ht with rfl | ht
  ·exact ⟨h1, Nat.lt_succ_self _⟩
  ·obtain ⟨e, i⟩ := i2 t ht;exact ⟨e, by omega⟩
theorem fH : ∀ {f : F} {r : Nat}, SK b f r -> f.len <= 2 * r /\ (b = false -> f.len = r) := by
 intro f r h;induction h with
 | nil => exact ⟨by simp [F.len, F.trees], fun _ => rfl⟩
 | real h1 h2 i1 i2 =>
  simp only [F.len, F.trees, lC] at *
  exact ⟨by omega, fun e => by have := i2.2 e; omega⟩
 | leaf i h1 h2 i1 i2 =>
  simp only [F.len, F.trees, lC] at *
  exact ⟨by omega, fun e => by rw [e] at i; cases i⟩
theorem pw : ∀ {f : F} {up : Int}, Ord it (nd f up) -> ∀ t ∈ f.trees, Ord it (nd t.kids t.c)
 | .nil, up, h, t, ht => by simp [F.trees] at ht
 | .cons c r kids rest, up, h, t, ht => by
  rw [F.trees] at ht;rcases List.mem_cons.1 ht with rfl | ht
  ·exact h.sub fun ν e => mC _ (mL _ e)
  ·exact pw (f := rest) (up := up) (h.sub fun ν e => mC _ (List.mem_append_right _ e)) t ht
theorem fL : ∀ {f : F}, (∀ t ∈ f.trees, Ord it (nd t.kids t.c)) -> Ord it (nd f (-1))
 | .nil, h => fun ν e => by simp [nd] at e
 | .cons c r kids rest, h => by
  intro ν e q hq;rw [nd] at e;rcases List.mem_cons.1 e with rfl | e
  ·simp only at hq; omega
  ·rcases List.mem_append.1 e with e | e
   ·exact h ⟨c, r, kids⟩ (by simp [F.trees]) ν e q hq
   ·exact fL (f := rest) (fun t ht => h t (by simp [F.trees, ht])) ν e q hq
theorem GT.kids {t : Tr} (h : GT b it t) : ∀ s ∈ t.kids.trees, GT b it s := fun s hs => ⟨(ov h.sk s hs).1, pw h.ord s hs⟩
end
theorem iP (l : List Int) (v : Int) (hl : l.length < 100000) : ∀ (post pre : List Int) (m : Nat), post.length < m -> l = pre ++ post -> v ∈ post ->
  ∃ j : Nat, wP v (l.length : Int) l m (pre.length : Int) = some (.inl (j : Int))
 | [], pre, m, hm, e, hv => by simp at hv
 | x :: post, pre, m, hm, e, hv => by
  obtain ⟨m, rfl⟩ : ∃ q, m = q + 1 := ⟨m - 1, by simp at hm; omega⟩
  simp only [lC] at hm;have hlen : pre.length < 100000 := by have := congrArg List.length e; simp at this; omega
  have i : mIdx l (pre.length : Int) = some x := by rw [e]; exact yF ..
  rw [wP, dT (by rw [e]; simp; omega), i];simp only [cT, bS];by_cases h : v = x
  ·subst h;exact ⟨pre.length, by simp⟩
  ·rw [show (v == x) = false by simpa using h, cF, zG (by omega) (by omega)];have := iP l v hl post (pre ++ [x]) m (by omega) (by rw [e]; simp) (by simpa [h] using hv);have t : ((pre ++ [x]).length : Int) = (pre.length : Int) + 1 := by simp
   rw [t] at this;exact this
theorem p9 {k : Nat} (l : List Int) (v : Int) (hl : l.length < 100000) (hk : l.length < k) (hv : v ∈ l) : wR k l v = some true := by
 unfold wR tE;obtain ⟨j, e⟩ := iP l v hl l [] k hk rfl hv;rw [show ((0 : Int)) = (([] : List Int).length : Int) from rfl, e];simp
section
variable {κ : Cfg} {n : Nat} {a : zb} {it : Nat -> It} {N : List Nd} {L : Heap} {b : Bool}
theorem ql {f : F} {t : Tr} (H : Hp κ n a it (nd f (-1) ++ N) L) (ht : t ∈ f.trees) : ∃ p q, f.trees = p ++ t :: q /\ (t.c : Int) ∉ cs p /\ (t.c : Int) ∉ cs q := by
 obtain ⟨p, q, e⟩ := List.append_of_mem ht;have h1 : (f.cells).Nodup := by
  rw [<- xn f (-1)];have := H.nd;rw [List.map_append] at this;exact (List.nodup_append.1 this).1
 rw [F.xg, e, um, rX] at h1;have h2 := (List.nodup_append.1 h1)
 have mem : ∀ {l : List Tr} {c : Nat}, (c : Int) ∈ cs l -> c ∈ TC l := by
  intro l c i;obtain ⟨s, hs, e⟩ := List.mem_map.1 i;have : s.c = c := by omega
  exact List.mem_flatMap.2 ⟨s, hs, by rw [<- this]; exact List.mem_cons_self ..⟩
 refine ⟨p, q, e, fun h => ?_, fun h => ?_⟩
 ·exact h2.2.2 _ (mem h) t.c (mL _ (List.mem_cons_self ..)) rfl
 ·exact (List.nodup_append.1 h2.2.1).2.2 t.c (List.mem_cons_self ..) _ (mem h) rfl
theorem qP : ∀ {f : F} {up : Int} {p q : List Tr} {t : Tr}, f.trees = p ++ t :: q -> ∃ p' i w, f.loose up = p' ++ (⟨t, up, w⟩ : Lt) :: i /\ p'.map Lt.t = p /\ i.map Lt.t = q
 | .nil, up, p, q, t, e => by simp [F.trees] at e
 | .cons c r kids rest, up, [], q, t, e => by
  simp only [F.trees, List.nil_append, List.cons.injEq] at e;exact ⟨[], rest.loose up, rest.hd, by rw [F.loose, e.1]; rfl, rfl, by rw [xI]; exact e.2⟩
 | .cons c r kids rest, up, x :: p, q, t, e => by
  simp only [F.trees, List.cons_append, List.cons.injEq] at e;obtain ⟨p', i, w, h1, h2, h3⟩ := qP (f := rest) (up := up) e.2;exact ⟨⟨⟨c, r, kids⟩, up, rest.hd⟩ :: p', i, w, by rw [F.loose, h1]; rfl, by simp [h2, e.1], h3⟩
end
end
noncomputable section
set_option maxRecDepth 10000
def UpOK (M : List Nd) : Prop := ∀ ν ∈ M, 0 <= ν.rank /\ (ν.up = -1 \/ ∃ μ ∈ M, ν.up = (μ.c : Int) /\ ν.rank < μ.rank)
structure RI (it : Nat -> It) (M : List Nd) (c : Nat) (any : Bool) : Prop where
 rest : ∀ ν ∈ M, ν.c ≠ c -> ∀ q : Nat, ν.up = (q : Int) -> q ≠ c -> ¬ (it ν.c).lt (it q)
 over : ∀ ν ∈ M, ν.up = (c : Int) -> ∀ μ ∈ M, μ.c = c -> ∀ q : Nat, μ.up = (q : Int) -> ¬ (it ν.c).lt (it q)
 down : any = false -> ∀ ν ∈ M, ν.up = (c : Int) -> ¬ (it ν.c).lt (it c)
theorem eQ (it : Nat -> It) {c d : Nat} (h : c ≠ d) : swp it c d c = it d := by simp [swp, upd, h]
theorem dD (it : Nat -> It) (c d : Nat) : swp it c d d = it c := by simp [swp, upd]
theorem k9 (it : Nat -> It) {c d e : Nat} (h : e ≠ c) (i : e ≠ d) : swp it c d e = it e := by simp [swp, upd, h, i]
theorem gq {it : Nat -> It} {c d : Nat} {l : List Nat} (hn : l.Nodup) (j : c ∈ l) (hd : d ∈ l) (h : c ≠ d) : (l.map (swp it c d)).Perm (l.map it) := by
 have h1 : l.Perm (c :: d :: (l.erase c).erase d) := (List.perm_cons_erase j).trans ((List.perm_cons_erase ((List.mem_erase_of_ne (Ne.symm h)).2 hd)).cons c);have h2 : (c :: d :: (l.erase c).erase d).Nodup := h1.nodup_iff.1 hn;simp only [List.nodup_cons, iC, not_or] at h2;refine (h1.map _).trans (List.Perm.trans ?_ (h1.map _).symm);simp only [pC];rw [eQ it h, dD];have : ((l.erase c).erase d).map (swp it c d) = ((l.erase c).erase d).map it := List.map_congr_left fun e he => k9 it (fun i => h2.1.2 (i ▸ he)) (fun i => h2.2.1 (i ▸ he))
 rw [this];exact List.Perm.swap ..
theorem av {M : List Nd} {ν μ : Nd} (i : ν ∈ M) (j : μ ∈ M) (h : ν.c ≠ μ.c) : ∃ l, M.Perm (ν :: μ :: l) := by
 obtain ⟨p, q, rfl⟩ := List.append_of_mem i;have hp : (p ++ ν :: q).Perm (ν :: (p ++ q)) := List.perm_middle;rcases List.mem_cons.1 (hp.mem_iff.1 j) with e | hm
 ·exact absurd (e ▸ rfl) h
 ·obtain ⟨p', t, e⟩ := List.append_of_mem hm;exact ⟨p' ++ t, hp.trans (by rw [e]; exact List.perm_middle.cons ν)⟩
section
variable {κ : Cfg} {N : List Nd} {L : Heap} {b : Bool}
theorem Aj (any : Bool) (M : List Nd) (hU : UpOK M) (R : Int) (hR : ∀ ν ∈ M, ν.rank <= R) : ∀ (d : Nat) {it : Nat -> It} {n : Nat} {a : zb} (H : Hp κ n a it (M ++ N) L) (ν : Nd), ν ∈ M -> R - ν.rank <= d -> ∀ (m : Nat) (O : Int), d + 10 < m -> 0 <= O -> O + d <= κ.C -> RI it M ν.c any ->
  Do (vn any m (ν.c : Int) O a) fun r => ∃ μ it' S, r = ((μ.c : Int), S) /\ μ ∈ M /\ Hp κ (n + 13 * d + 7) S it' (M ++ N) L /\ it' μ.c = it ν.c /\ (∀ c, c ∉ M.map Nd.c -> it' c = it c) /\ ((M.map Nd.c).map it').Perm ((M.map Nd.c).map it) /\ (any = false -> Ord it' M) /\ (any = true -> μ.up = -1 /\ RI it' M μ.c true) := by
 intro d;induction d with
 | zero =>
  intro it n a H ν x hd m O hm a6 hk y;obtain ⟨m, rfl⟩ : ∃ q, m = q + 1 := ⟨m - 1, by omega⟩
  have j : ν.up = -1 := by
   rcases (hU ν x).2 with h | ⟨μ, z, h1, h2⟩
   ·exact h
   ·have := hR μ z; omega
  have D : ν ∈ M ++ N := mL _ x;rw [vn];refine Do.tb (bne_iff_ne.2 (by omega)) ?_;refine Do.assoc (Do.seq (Ar.cells H) ?_);refine Do.seq rfl (Do.t (dT (by omega)) ?_);refine (H.getc D (f := 0) (v := ν.up) (by omega) (by omega)).bind ?_;rintro _ ⟨a1, rfl, H1⟩;refine Do.tb (by simp [j]) ?_;refine Do.seq rfl (Do.t rfl ?_);refine ⟨_, rfl, ν, it, a1, rfl, x, H1.mono (by omega), rfl, fun _ _ => rfl, .refl _, fun ha => ?_, fun ha => ⟨j, ha ▸ y⟩⟩;intro A i q hq;by_cases h1 : A.c = ν.c
  ·have := H.same (mL _ i) D h1;subst this; omega
  ·by_cases h2 : q = ν.c
   ·rw [h2] at hq ⊢; exact y.down ha A i hq
   ·exact y.rest A i h1 q hq h2
 | succ d ih =>
  intro it n a H ν x hd m O hm a6 hk y;obtain ⟨m, rfl⟩ : ∃ q, m = q + 1 := ⟨m - 1, by omega⟩
  have D : ν ∈ M ++ N := mL _ x;have b3 := H.cap;rw [vn];refine Do.tb (bne_iff_ne.2 (by omega)) ?_;refine Do.assoc (Do.seq (Ar.cells H) ?_);refine Do.seq rfl (Do.t (dT (by omega)) ?_);rcases (hU ν x).2 with j | ⟨μ, z, j, a7⟩
  ·refine (H.getc D (f := 0) (v := ν.up) (by omega) (by omega)).bind ?_;rintro _ ⟨a1, rfl, H1⟩;refine Do.tb (by simp [j]) ?_;refine Do.seq rfl (Do.t rfl ?_);refine ⟨_, rfl, ν, it, a1, rfl, x, H1.mono (by omega), rfl, fun _ _ => rfl, .refl _, fun ha => ?_, fun ha => ⟨j, ha ▸ y⟩⟩;intro A i q hq;by_cases h1 : A.c = ν.c
   ·have := H.same (mL _ i) D h1;subst this; omega
   ·by_cases h2 : q = ν.c
    ·rw [h2] at hq ⊢; exact y.down ha A i hq
    ·exact y.rest A i h1 q hq h2
  ·have mμ : μ ∈ M ++ N := mL _ z;have b5 := H.lt mμ;have l : ν.c ≠ μ.c := fun e => by
    have := H.same D mμ e;rw [this] at a7; omega
   refine (H.getc D (f := 0) (v := ν.up) (by omega) (by omega)).bind ?_;rintro _ ⟨a1, rfl, H1⟩;refine Do.fb (by simp [j]) ?_;have go : ∀ {U : Nat} {a2 : zb} (W : Hp κ U a2 it (M ++ N) L), U <= n + 7 -> (any = false -> (it ν.c).lt (it μ.c)) ->
     Do ((s0 a2 (ν.c : Int) (μ.c : Int)).bind fun a9 => vn any m (μ.c : Int) (w64 (O + 1)) a9) fun r => ∃ μ it' S, r = ((μ.c : Int), S) /\ μ ∈ M /\ Hp κ (n + 13 * (d + 1) + 7) S it' (M ++ N) L /\ it' μ.c = it ν.c /\ (∀ c, c ∉ M.map Nd.c -> it' c = it c) /\ ((M.map Nd.c).map it').Perm ((M.map Nd.c).map it) /\ (any = false -> Ord it' M) /\ (any = true -> μ.up = -1 /\ RI it' M μ.c true) := by
    intro U a2 W b6 F;obtain ⟨M', X⟩ := av x z l;have H3 : Hp κ U a2 it (ν :: μ :: (M' ++ N)) L := W.p (X.append_right N);refine (qF H3).bind ?_;intro a3 H4;have H5 : Hp κ (U + 6) a3 (swp it ν.c μ.c) (M ++ N) L := H4.p (X.append_right N).symm;have same : ∀ ξ ∈ M, ∀ ζ ∈ M, ξ.c = ζ.c -> ξ = ζ := fun ξ u ζ B e => H.same (mL _ u) (mL _ B) e
    have par : ∀ ξ ∈ M, ∀ q : Nat, ξ.up = (q : Int) -> ∃ ζ ∈ M, ζ.c = q /\ ξ.rank < ζ.rank := by
     intro ξ u q hq;rcases (hU ξ u).2 with h | ⟨ζ, B, h1, h2⟩
     ·omega
     ·exact ⟨ζ, B, by omega, h2⟩
    have b0 : RI (swp it ν.c μ.c) M μ.c any := by
     refine ⟨?_, ?_, ?_⟩
     ·intro ξ u h1 q hq h2;have h3 : ξ.c ≠ ν.c := fun e => by
       have := same ξ u ν x e;subst this; omega
      rw [k9 it h3 h1];by_cases h4 : q = ν.c
      ·rw [h4, eQ it l];rw [h4] at hq;exact y.over ξ u hq ν x rfl μ.c j
      ·rw [k9 it h4 h2];exact y.rest ξ u h3 q hq h4
     ·intro ξ u h1 I b1 e q hq;have := same I b1 μ z e;subst this;obtain ⟨ζ, B, e1, h2⟩ := par I z q hq;have q1 : q ≠ I.c := fun Y => by
       have := same ζ B I z (by omega);subst this; omega
      have q2 : q ≠ ν.c := fun Y => by
       have := same ζ B ν x (by omega);subst this; omega
      rw [k9 it q2 q1];have h3 := y.rest I z (Ne.symm l) q hq q2;by_cases h4 : ξ.c = ν.c
      ·rw [h4, eQ it l]; exact h3
      ·have Z : ξ.c ≠ I.c := fun Y => by
        have := same ξ u I z Y;subst this;obtain ⟨ζ, B, e1, h2⟩ := par ξ u ξ.c h1;have := same ζ B ξ u e1;subst this; omega
       rw [k9 it h4 Z];exact It.le_trans h3 (y.rest ξ u h4 I.c h1 (Ne.symm l))
     ·intro ha ξ u h1;rw [dD];by_cases h4 : ξ.c = ν.c
      ·rw [h4, eQ it l]; exact It.lt_asymm (F ha)
      ·have Z : ξ.c ≠ μ.c := fun Y => by
        have := same ξ u μ z Y;subst this;obtain ⟨ζ, B, e1, h2⟩ := par ξ u ξ.c h1;have := same ζ B ξ u e1;subst this; omega
       rw [k9 it h4 Z];exact It.le_trans (It.lt_asymm (F ha)) (y.rest ξ u h4 μ.c h1 (Ne.symm l))
    have := ih H5 μ z (by omega) m (w64 (O + 1)) (by omega) (by rw [zG (by omega) (by omega)]; omega) (by rw [zG (by omega) (by omega)]; omega) b0;refine this.mono ?_;rintro _ ⟨μ2, b2, a4, rfl, h1, h2, h3, h4, Z, h6, h7⟩;refine ⟨μ2, b2, a4, rfl, h1, h2.mono (by omega), by rw [h3, dD], ?_, ?_, h6, h7⟩
    ·intro c J;rw [h4 c J];exact k9 it (fun e => J (e ▸ List.mem_map_of_mem x)) (fun e => J (e ▸ List.mem_map_of_mem z))
    ·refine Z.trans (gq ?_ (List.mem_map_of_mem x) (List.mem_map_of_mem z) l);have := H.nd;rw [List.map_append] at this;exact (List.nodup_append.1 this).1
   rw [j];cases any with
   | true =>
    refine Do.fb rfl ?_;refine Do.seq rfl (Do.f rfl ?_);exact go H1 (by omega) (fun h => by cases h)
   | false =>
    refine Do.tb rfl ?_;refine Do.assoc ((H1.before (k := m) (by omega) D mμ).bind ?_);rintro _ ⟨a2, rfl, W⟩;refine Do.seq rfl ?_;by_cases J : (it ν.c).lt (it μ.c)
    ·refine Do.f (by simp [J]) ?_;exact go W (by omega) (fun _ => J)
    ·refine Do.t (by simp [J]) ?_;refine ⟨_, rfl, ν, it, a2, rfl, x, W.mono (by omega), rfl, fun _ _ => rfl, .refl _, fun ha => ?_, fun ha => by cases ha⟩;intro A i q hq;by_cases h1 : A.c = ν.c
     ·have := H.same (mL _ i) D h1;subst this;have : q = μ.c := by omega
      subst this; exact J
     ·by_cases h2 : q = ν.c
      ·rw [h2] at hq ⊢; exact y.down ha A i hq
      ·exact y.rest A i h1 q hq h2
theorem pD {k : Nat} (any : Bool) (M : List Nd) (j : UpOK M) (R : Nat) (u : ∀ ν ∈ M, ν.rank <= R) {it : Nat -> It} {n : Nat} {a : zb} (H : Hp κ n a it (M ++ N) L) (ν : Nd) (e : ν ∈ M) (hk : R + 10 < k) (hC : R <= κ.C) (x : RI it M ν.c any) :
  Do (uZ k a ((it ν.c).i : Int) any) fun r => ∃ μ it' l, r = ((μ.c : Int), l) /\ μ ∈ M /\ Hp κ (n + 13 * R + 8) l it' (M ++ N) L /\ it' μ.c = it ν.c /\ (∀ c, c ∉ M.map Nd.c -> it' c = it c) /\ ((M.map Nd.c).map it').Perm ((M.map Nd.c).map it) /\ (any = false -> Ord it' M) /\ (any = true -> μ.up = -1 /\ RI it' M μ.c true) := by
 unfold uZ vW;have t : ν ∈ M ++ N := mL _ e;refine Do.assoc ((Ar.cell H (H.item t) (f := 9) (v := (ν.c : Int)) rfl (by omega) (by have := H.lt t; omega)).bind ?_);rintro _ ⟨a1, rfl, H1⟩;have h0 := (j ν e).1;refine Do.seq rfl ?_;refine (Aj any M j R u R (N := N) H1 ν e (by omega) k 0 hk (by omega) (by omega) x).bind ?_;rintro _ ⟨μ, it', a2, rfl, h1, h2, h3⟩;exact ⟨_, rfl, μ, it', a2, rfl, h1, h2.mono (by omega), h3⟩
end
end
noncomputable section
set_option maxRecDepth 10000
def fC (b : Bool) : List Tr -> Prop
 | [] => True
 | t :: r => r.Pairwise (fun s u => s.r < u.r) /\ (∀ s ∈ r, t.r <= s.r) /\ (b = false -> ∀ s ∈ r, t.r < s.r)
theorem fC.of {b : Bool} {l : List Tr} (h : l.Pairwise fun s u => s.r < u.r) : fC b l := by
 cases l with
 | nil => trivial
 | cons t r =>
  obtain ⟨h1, h2⟩ := List.pairwise_cons.1 h;exact ⟨h2, fun s hs => Nat.le_of_lt (h1 s hs), fun _ => h1⟩
theorem gg {R : Nat} {l : List Tr} (h : l.Pairwise fun s u => s.r < u.r) (e : ∀ t ∈ l, t.r < R) : l.length <= R := by
 have h1 : (l.map Tr.r).Nodup := by
  refine List.pairwise_map.2 (h.imp fun {x y} h => ?_);omega
 have := qh (m := List.range R) h1 (by
  intro x i;obtain ⟨t, ht, rfl⟩ := List.mem_map.1 i;exact List.mem_range.2 (e t ht))
 simpa using this
structure HB (b : Bool) (it : Nat -> It) (f : F) : Prop where
 good : ∀ t ∈ f.trees, GT b it t
 row : fC b f.trees
theorem rZ : ∀ {f : F} {t : Tr}, t ∈ f.trees -> t.kids.size + 1 <= f.size
 | .nil, t, h => by simp [F.trees] at h
 | .cons c r kids rest, t, h => by
  rw [F.trees] at h;rcases List.mem_cons.1 h with rfl | h
  ·simp only [F.size]; omega
  ·have := rZ h;simp only [F.size]; omega
theorem HB.lt {b : Bool} {it : Nat -> It} {f : F} (h : HB b it f) {R : Nat} (e : f.size < 2 ^ R) : ∀ t ∈ f.trees, t.r < R := by
 intro t ht;have h1 := (h.good t ht).sk.size.1;have h2 := rZ ht;exact (Nat.pow_lt_pow_iff_right (a := 2) (by decide)).1 (by omega)
theorem HB.len {b : Bool} {it : Nat -> It} {f : F} (h : HB b it f) {R : Nat} (i : f.size < 2 ^ R) : f.len <= R + 1 := by
 have h1 := h.lt i;have h2 := h.row;unfold F.len;cases e : f.trees with
 | nil => simp
 | cons t r =>
  rw [e] at h1 h2;have := gg h2.1 (fun s hs => h1 s (mC _ hs));simp only [lC]; omega
theorem HB.lenB {it : Nat -> It} {f : F} (h : HB false it f) {R : Nat} (i : f.size < 2 ^ R) : f.len <= R := by
 have h1 := h.lt i;have h2 := h.row;unfold F.len;cases e : f.trees with
 | nil => simp
 | cons t r =>
  rw [e] at h1 h2;exact gg (List.pairwise_cons.2 ⟨h2.2.2 rfl, h2.1⟩) h1
theorem HB.nil {b : Bool} {it : Nat -> It} : HB b it .nil := ⟨by simp [F.trees], trivial⟩
theorem HB.congr {b : Bool} {it it' : Nat -> It} {f : F} (h : HB b it f) (i : ∀ c ∈ f.cells, it' c = it c) : HB b it' f := by
 refine ⟨fun t ht => ⟨(h.good t ht).sk, ?_⟩, h.row⟩;have h1 := (h.good t ht).ord;have l : ∀ c ∈ t.cells, c ∈ f.cells := fun c i => by rw [F.xg]; exact List.mem_flatMap.2 ⟨t, ht, i⟩
 have x : ∀ (g : F) (q : Nat), (∀ c ∈ g.cells, it' c = it c) -> it' q = it q -> Ord it (nd g (q : Int)) -> Ord it' (nd g (q : Int)) := by
  intro g;induction g with
  | nil => intro q _ _ _ ν e; simp [nd] at e
  | cons c r kids rest i1 i2 =>
   intro q y hq z;have hk : ∀ d ∈ kids.cells, it' d = it d := fun d hd => y d (by rw [F.cells]; exact mC _ (mL _ hd))
   have hr : ∀ d ∈ rest.cells, it' d = it d := fun d hd => y d (by rw [F.cells]; exact mC _ (List.mem_append_right _ hd))
   have i : it' c = it c := y c (by rw [F.cells]; exact List.mem_cons_self ..);intro ν e u j;rw [nd] at e;rcases List.mem_cons.1 e with rfl | e
   ·simp only at j ⊢;have : u = q := by omega
    subst this;rw [i, hq];exact z _ (List.mem_cons_self ..) u rfl
   ·rcases List.mem_append.1 e with e | e
    ·exact i1 c hk i (z.sub fun ν h => mC _ (mL _ h)) ν e u j
    ·exact i2 q hr hq (z.sub fun ν h => mC _ (List.mem_append_right _ h)) ν e u j
 exact x t.kids t.c (fun c A => i c (l c (mC _ A))) (i _ (l _ (List.mem_cons_self ..))) h1
theorem upok : ∀ {b : Bool} (f : F) (up : Int), (∀ t ∈ f.trees, SK b t.kids t.r) -> ∀ ν ∈ nd f up, 0 <= ν.rank /\ ((ν.up = up /\ ∃ t ∈ f.trees, ν.rank = t.r /\ ν.c = t.c) \/ ∃ μ ∈ nd f up, ν.up = (μ.c : Int) /\ ν.rank < μ.rank)
 | b, .nil, up, h, ν, e => by simp [nd] at e
 | b, .cons c r kids rest, up, h, ν, e => by
  have hh := h ⟨c, r, kids⟩ (by simp [F.trees]);rw [nd] at e;rcases List.mem_cons.1 e with rfl | e
  ·exact ⟨by simp only; omega, Or.inl ⟨rfl, ⟨c, r, kids⟩, by simp [F.trees], rfl, rfl⟩⟩
  ·rcases List.mem_append.1 e with e | e
   ·obtain ⟨h0, h1⟩ := upok (b := b) kids c (fun t ht => (ov hh t ht).1) ν e;refine ⟨h0, Or.inr ?_⟩;rcases h1 with ⟨h1, t, ht, h2, _⟩ | ⟨μ, i, h1⟩
    ·have : t.r < r := (ov hh t ht).2;exact ⟨_, List.mem_cons_self .., h1, by simp only; omega⟩
    ·exact ⟨μ, mC _ (mL _ i), h1⟩
   ·obtain ⟨h0, h1⟩ := upok (b := b) rest up (fun t ht => h t (by simp [F.trees, ht])) ν e;refine ⟨h0, ?_⟩;rcases h1 with ⟨h1, t, ht, h2⟩ | ⟨μ, i, h1⟩
    ·exact Or.inl ⟨h1, t, by simp [F.trees, ht], h2⟩
    ·exact Or.inr ⟨μ, mC _ (List.mem_append_right _ i), h1⟩
theorem oe : ∀ {b : Bool} (f : F) (up : Int), (∀ t ∈ f.trees, SK b t.kids t.r) -> ∀ ν ∈ nd f up, ∃ t ∈ f.trees, ν.rank <= t.r
 | b, .nil, up, h, ν, e => by simp [nd] at e
 | b, .cons c r kids rest, up, h, ν, e => by
  have hh := h ⟨c, r, kids⟩ (by simp [F.trees]);rw [nd] at e;rcases List.mem_cons.1 e with rfl | e
  ·exact ⟨⟨c, r, kids⟩, by simp [F.trees], Int.le_refl _⟩
  ·rcases List.mem_append.1 e with e | e
   ·obtain ⟨t, ht, h1⟩ := oe (b := b) kids c (fun t ht => (ov hh t ht).1) ν e;have : t.r < r := (ov hh t ht).2;exact ⟨⟨c, r, kids⟩, by simp [F.trees], by simp only; omega⟩
   ·obtain ⟨t, ht, h1⟩ := oe (b := b) rest up (fun t ht => h t (by simp [F.trees, ht])) ν e;exact ⟨t, by simp [F.trees, ht], h1⟩
theorem HB.upOK {b : Bool} {it : Nat -> It} {f : F} (h : HB b it f) : UpOK (nd f (-1)) := by
 intro ν e;obtain ⟨h0, h1⟩ := upok f (-1) (fun t ht => (h.good t ht).sk) ν e;refine ⟨h0, ?_⟩;rcases h1 with ⟨h1, _⟩ | h1
 ·exact Or.inl h1
 ·exact Or.inr h1
theorem HB.ord {b : Bool} {it : Nat -> It} {f : F} (h : HB b it f) : Ord it (nd f (-1)) := fL fun t ht => (h.good t ht).ord
theorem Ord.lower {it : Nat -> It} {M : List Nd} {c : Nat} {x : It} (h : Ord it M) (y : ¬ (it c).lt x) (t : ∀ ν ∈ M, ∀ μ ∈ M, ν.c = μ.c -> ν = μ) (i : ∀ ν ∈ M, ν.up ≠ (ν.c : Int)) : RI (upd it c x) M c false := by
 refine ⟨?_, ?_, ?_⟩
 ·intro ν j h1 q hq h2;rw [vL _ _ h1, vL _ _ h2]; exact h ν j q hq
 ·intro ν j h1 μ u e q hq;have h2 : ν.c ≠ c := fun l => by
   have := i ν j;rw [l] at this; exact this h1
  have h3 : q ≠ c := fun l => by
   have := i μ u;rw [e, <- l] at this; exact this hq
  rw [vL _ _ h2, vL _ _ h3];have := h μ u q hq;rw [e] at this;exact It.le_trans this (h ν j c h1)
 ·intro _ ν j h1;have h2 : ν.c ≠ c := fun l => by
   have := i ν j;rw [l] at this; exact this h1
  rw [vL _ _ h2, uq];exact fun h3 => h ν j c h1 (It.iI h3 y)
theorem Ord.any {it : Nat -> It} {M : List Nd} {c : Nat} (h : Ord it M) : RI it M c true := by
 refine ⟨fun ν i h1 q hq h2 => h ν i q hq, fun ν i h1 μ j e q hq => ?_, fun h => by cases h⟩;have := h μ j q hq;rw [e] at this;exact It.le_trans this (h ν i c h1)
theorem UpOK.self {M : List Nd} (h : UpOK M) (hs : ∀ ν ∈ M, ∀ μ ∈ M, ν.c = μ.c -> ν = μ) : ∀ ν ∈ M, ν.up ≠ (ν.c : Int) := by
 intro ν i e;rcases (h ν i).2 with h1 | ⟨μ, j, h1, h2⟩
 ·omega
 ·have := hs μ j ν i (by omega);subst this; omega
theorem cK : ∀ (f : F) (up : Int), ∀ ν ∈ nd f up, ν.c ∈ f.cells /\ (ν.up = up \/ ∃ d ∈ f.cells, ν.up = (d : Int))
 | .nil, up, ν, e => by simp [nd] at e
 | .cons c r kids rest, up, ν, e => by
  rw [nd] at e;rw [F.cells];rcases List.mem_cons.1 e with rfl | e
  ·exact ⟨List.mem_cons_self .., Or.inl rfl⟩
  ·rcases List.mem_append.1 e with e | e
   ·obtain ⟨h1, h2⟩ := cK kids c ν e;refine ⟨mC _ (mL _ h1), Or.inr ?_⟩;rcases h2 with h2 | ⟨d, hd, h2⟩
    ·exact ⟨c, List.mem_cons_self .., h2⟩
    ·exact ⟨d, mC _ (mL _ hd), h2⟩
   ·obtain ⟨h1, h2⟩ := cK rest up ν e;refine ⟨mC _ (List.mem_append_right _ h1), ?_⟩;rcases h2 with h2 | ⟨d, hd, h2⟩
    ·exact Or.inl h2
    ·exact Or.inr ⟨d, mC _ (List.mem_append_right _ hd), h2⟩
theorem iB {f : F} {up : Int} : ∀ {t : Tr}, t ∈ f.trees -> ∀ ν ∈ nd t.kids t.c, ν ∈ nd f up := by
 intro t ht ν e;rw [w7 f up];rw [<- xI f up] at ht;obtain ⟨l, hl, rfl⟩ := List.mem_map.1 ht;exact List.mem_flatMap.2 ⟨l, hl, by rw [kO]; exact mC _ e⟩
section
variable {κ : Cfg} {n : Nat} {a : zb} {it : Nat -> It} {N : List Nd} {L : Heap} {b : Bool}
theorem sE {f : F} (H : Hp κ n a it (nd f (-1) ++ N) L) : 2 * f.size + 2 * N.length + L.length <= κ.C := by
 have := H.room;rw [lA, rV] at this; omega
theorem pf {k : Nat} {f : F} (H : Hp κ n a it N L) (hs : ∀ ν ∈ nd f (-1), ν ∈ N) (z : HB b it f) {t0 : Tr} {j : List Tr} (e : f.trees = t0 :: j) (hk : 95000 < k) (hl : f.len < 90000) :
  Do (vG k a (cs f.trees)) fun res => ∃ t x, t ∈ f.trees /\ res = ((t.c : Int), x) /\ Hp κ (n + 6 * f.len) x it N L /\ ∀ d ∈ f.cells, ¬ (it d).lt (it t.c) := by
 have hz : cs f.trees = zl (t0.c :: j.map Tr.c) := by rw [e]; simp [cs, zl]
 have hlen : f.len = j.length + 1 := by unfold F.len; rw [e]; rfl
 rw [hz];have A : ∀ d ∈ t0.c :: j.map Tr.c, ∃ ν ∈ N, ν.c = d := by
  intro d hd;have : d ∈ f.trees.map Tr.c := by rw [e]; exact hd
  rw [<- xI f (-1), List.map_map] at this;obtain ⟨l, hl, rfl⟩ := List.mem_map.1 this;exact ⟨l.top, hs _ (by rw [w7]; exact nS hl), rfl⟩
 refine (eu t0.c (j.map Tr.c) A (by simp; omega) (by simp; omega) H).mono ?_;rintro _ ⟨a1, rfl, H1⟩;rw [lM] at H1;have u : bst it t0.c (j.map Tr.c) ∈ f.trees.map Tr.c := by
  rw [e];rcases j8 (it := it) (j.map Tr.c) t0.c with h | h
  ·rw [h]; exact List.mem_cons_self ..
  ·exact mC _ h
 obtain ⟨t, ht, y⟩ := List.mem_map.1 u;have i := ie (it := it) (j.map Tr.c) t0.c;rw [<- y] at i;refine ⟨t, a1, ht, by rw [y], H1.mono (by omega), fun d hd => ?_⟩;rw [F.xg] at hd;obtain ⟨s, hs', hd⟩ := List.mem_flatMap.1 hd;have h1 := (z.good s hs').least d hd;refine It.le_trans ?_ h1;rw [e] at hs';rcases List.mem_cons.1 hs' with rfl | hs'
 ·exact i.1
 ·exact i.2 _ (List.mem_map_of_mem hs')
theorem l6 {M : List Nd} (H : Hp κ n a it (M ++ N) L) : ∀ ν ∈ M, ∀ μ ∈ M, ν.c = μ.c -> ν = μ := fun ν i μ j e => H.same (mL _ i) (mL _ j) e
theorem sZ {f : F} {up : Int} {c : Nat} (h : c ∈ f.cells) : ∃ ν ∈ nd f up, ν.c = c := by
 rw [<- xn f up] at h;obtain ⟨ν, e, rfl⟩ := List.mem_map.1 h;exact ⟨ν, e, rfl⟩
theorem size_le {f : F} (H : Hp κ n a it (nd f (-1) ++ N) L) (e : 0 < f.size) (j : ∀ t ∈ f.trees, SK b t.kids t.r) : ∃ R, (∀ t ∈ f.trees, t.r <= R) /\ R <= κ.C /\ (∀ Q, f.size < 2 ^ Q -> R < Q) := by
 have i := sE H;have : ∀ l : List Tr, (∀ t ∈ l, 2 ^ t.r <= f.size) -> ∃ R, (∀ t ∈ l, t.r <= R) /\ 2 ^ R <= f.size := by
  intro l;induction l with
  | nil => intro _; exact ⟨0, by simp, by rw [Nat.pow_zero]; exact e⟩
  | cons t l ih =>
   intro h;obtain ⟨R, h1, h2⟩ := ih fun s hs => h s (mC _ hs)
   by_cases c : t.r <= R
   ·exact ⟨R, fun s hs => by
     rcases List.mem_cons.1 hs with rfl | hs
     ·exact c
     ·exact h1 s hs, h2⟩
   ·exact ⟨t.r, fun s hs => by
     rcases List.mem_cons.1 hs with rfl | hs
     ·exact Nat.le_refl _
     ·exact Nat.le_trans (h1 s hs) (by omega), h t (List.mem_cons_self ..)⟩
 obtain ⟨R, h1, h2⟩ := this f.trees fun t ht => by
  have u := (j t ht).size.1;have x := rZ ht;omega
 refine ⟨R, h1, ?_, fun Q y => (Nat.pow_lt_pow_iff_right (a := 2) (by decide)).1 (by omega)⟩;have : R < 2 ^ R := Nat.lt_two_pow_self;omega
theorem jj (s t : List Tr) : cs (s ++ t) = cs s ++ cs t := List.map_append
theorem rh {f : F} {p q : List Tr} {t : Tr} (e : f.trees = p ++ t :: q) : f.cells.Perm (t.c :: (TC (p ++ q) ++ t.kids.cells)) := by
 rw [F.xg, e];refine cpm fun P => ?_
 simp only [um, rX, Tr.cells, List.countP_append, List.countP_cons, List.cons_append];omega
theorem kM {b : Bool} {it' : Nat -> It} {f : F} {t : Tr} {p q : List Tr} (hn : f.cells.Nodup) (A : HB b it f) (e : f.trees = p ++ t :: q) (B : RI it' (nd f (-1)) t.c true) :
  (∀ s ∈ p ++ q, GT b it' s) /\ (∀ s ∈ t.kids.trees, GT b it' s) := by
 rw [F.xg, e] at hn;have u : (t.c :: (TC (p ++ q) ++ t.kids.cells)).Nodup := by
  refine (List.Perm.nodup_iff (cpm fun P => ?_)).1 hn;simp only [um, rX, Tr.cells, List.countP_append, List.countP_cons, List.cons_append]; omega
 obtain ⟨h1, h2⟩ := List.nodup_cons.1 u;have key : ∀ s : Tr, (∀ ν ∈ nd s.kids s.c, ν ∈ nd f (-1)) -> (∀ d ∈ s.cells, d ≠ t.c) -> Ord it' (nd s.kids s.c) := by
  intro s hs hd ν i q hq;obtain ⟨D, x⟩ := cK s.kids s.c ν i;refine B.rest ν (hs ν i) (hd _ (mC _ D)) q hq ?_;rcases x with x | ⟨d, y, x⟩
  ·have : q = s.c := by omega
   subst this; exact hd _ (List.mem_cons_self ..)
  ·have : q = d := by omega
   subst this; exact hd _ (mC _ y)
 refine ⟨fun s hs => ?_, fun s hs => ?_⟩
 ·have j : s ∈ f.trees := by rw [e]; rcases List.mem_append.1 hs with h | h <;> simp [h]
  refine ⟨(A.good s j).sk, key s (fun ν i => iB j ν i) fun d hd z => ?_⟩;exact h1 (z ▸ mL _ (List.mem_flatMap.2 ⟨s, hs, hd⟩))
 ·have l : t ∈ f.trees := by rw [e]; simp
  have gt := A.good t l;refine ⟨(ov gt.sk s hs).1, key s (fun ν i => iB l ν (iB hs ν i)) fun d hd z => ?_⟩;refine h1 (z ▸ List.mem_append_right _ ?_);rw [F.xg];exact List.mem_flatMap.2 ⟨s, hs, hd⟩
theorem fM {f : F} {μ : Nd} {b : Bool} (i : ∀ t ∈ f.trees, SK b t.kids t.r) (j : μ ∈ nd f (-1)) (l : μ.up = -1) : ∃ t ∈ f.trees, μ.c = t.c := by
 rcases (upok f (-1) i μ j).2 with ⟨_, t, ht, _, e⟩ | ⟨ξ, _, e, _⟩
 ·exact ⟨t, ht, e⟩
 ·omega
end
end
noncomputable section
set_option maxRecDepth 10000
section
variable {κ : Cfg} {n : Nat} {a : zb} {it : Nat -> It} {N : List Nd} {L : Heap} {b : Bool}
namespace Bi
theorem tz (l : List Int) (v : Int) (hl : l.length < 100000) : ∀ (post pre : List Int) (m : Nat), post.length < m -> l = pre ++ post -> v ∉ pre ->
  (yc (l.length : Int) l v m (pre.length : Int) = some (.inr ()) /\ v ∉ post) \/ ∃ p q, l = p ++ v :: q /\ v ∉ p /\ yc (l.length : Int) l v m (pre.length : Int) = some (.inl (p.length : Int))
 | [], pre, m, hm, e, hv => by
  obtain ⟨m, rfl⟩ : ∃ q, m = q + 1 := ⟨m - 1, by simp at hm; omega⟩
  left
  rw [yc, dF (by rw [e]; simp)];exact ⟨rfl, by simp⟩
 | x :: post, pre, m, hm, e, hv => by
  obtain ⟨m, rfl⟩ : ∃ q, m = q + 1 := ⟨m - 1, by simp at hm; omega⟩
  simp only [lC] at hm;have hlen : pre.length < 100000 := by have := congrArg List.length e; simp at this; omega
  have i : mIdx l (pre.length : Int) = some x := by rw [e]; exact yF ..
  rw [yc, dT (by rw [e]; simp; omega), i];simp only [cT, bS, wQ];by_cases h : x = v
  ·subst h
   right
   refine ⟨pre, post, e, hv, ?_⟩;simp
  ·have j : (x == v) = false := by simpa using h
   rw [j, cF, zG (by omega) (by omega)];have := tz l v hl post (pre ++ [x]) m (by omega) (by rw [e]; simp) (by simp [hv]; exact fun e => h e.symm);have t : ((pre ++ [x]).length : Int) = (pre.length : Int) + 1 := by simp
   rw [t] at this;rcases this with ⟨h1, h2⟩ | h1
   ·exact Or.inl ⟨h1, by simp [h2]; exact fun e => h e.symm⟩
   ·exact Or.inr h1
theorem uM (v : Int) : ∀ (R A : List Int) (g : Int) (m : Nat), R.length < m -> A.length + R.length < 100000 -> v ∉ R ->
  Do (yn v m (A.length : Int) ((A.length : Int) + 1) (A ++ g :: R)) fun r => ∃ i, r = (((A ++ R).length : Int), (A ++ R) ++ [i])
 | [], A, g, m, hm, j, hv => by
  obtain ⟨m, rfl⟩ : ∃ q, m = q + 1 := ⟨m - 1, by simp at hm; omega⟩
  rw [yn];refine Do.f (dF (by simp)) ?_;exact ⟨_, rfl, g, by simp⟩
 | x :: R, A, g, m, hm, j, hv => by
  obtain ⟨m, rfl⟩ : ∃ q, m = q + 1 := ⟨m - 1, by simp at hm; omega⟩
  simp only [lC] at hm j;simp only [iC, not_or] at hv;rw [yn];refine Do.t (dT (by simp; omega)) ?_;have l : mIdx (A ++ g :: x :: R) ((A.length : Int) + 1) = some x := by
   have := yF (A ++ [g]) R x;simpa using this
  refine Do.assoc (Do.seq l ?_);refine Do.assoc (Do.seq rfl ?_);refine Do.tb (by simp; exact fun e => hv.1 e.symm) ?_;refine Do.assoc (Do.seq (yF A (x :: R) g) ?_);refine Do.seq rfl ?_;have es : mSet (A ++ g :: x :: R) (A.length : Int) x = (A ++ [x]) ++ x :: R := by rw [nG]; simp
  rw [es, zG (by omega) (by omega), zG (by omega) (by omega)];have := uM v R (A ++ [x]) x m (by omega) (by simp; omega) hv.2;have u : ((A ++ [x]).length : Int) = (A.length : Int) + 1 := by simp
  rw [u] at this;refine this.mono ?_;rintro _ ⟨i, rfl⟩;exact ⟨i, by simp⟩
theorem tV {k : Nat} (p q : List Int) (v : Int) (hp : v ∉ p) (hq : v ∉ q) (hl : (p ++ v :: q).length < 100000) (hk : (p ++ v :: q).length < k) :
  xp k (p ++ v :: q) v = some (p ++ q) := by
 unfold xp wj;rcases tz (p ++ v :: q) v hl (p ++ v :: q) [] k hk rfl (by simp) with ⟨_, h2⟩ | ⟨p', i, e, hv, h⟩
 ·simp at h2
 ·have l : p' = p /\ i = q := by
   clear h;have := congrArg (List.takeWhile (fun x => x != v)) e;have h1 : ∀ (p q : List Int), v ∉ p -> (p ++ v :: q).takeWhile (fun x => x != v) = p := by
    intro p q hp;rw [List.takeWhile_append_of_pos (by intro x t; simp; exact fun e => hp (e ▸ t))];simp
   rw [h1 p q hp, h1 p' i hv] at this;subst this;simpa using e.symm
  obtain ⟨rfl, rfl⟩ := l;have u : yc ((p' ++ v :: i).length : Int) (p' ++ v :: i) v k 0 = some (.inl (p'.length : Int)) := h;rw [u];simp only [bS];rw [show ((p'.length : Int) == -1) = false by simp, cF];simp only [lA, lC] at hl hk;rw [zG (by omega) (by omega)];obtain ⟨r, y, j, rfl⟩ := uM v i p' v k (by omega) (by omega) hq;rw [y];simp only [bS];have z : mCut ((p' ++ i) ++ [j]) ((p' ++ i).length : Int) (((p' ++ i) ++ [j]).length : Int) = some [j] := by
   rw [pT (by simp)];simp
  rw [z];simp only [bS];have A : mCut (rT ((p' ++ i) ++ [j]) ((p' ++ i).length : Int) 0) 0 ((p' ++ i).length : Int) = some (p' ++ i) := by
   unfold mCut rT;have : ((p' ++ i ++ [j]).length - ((p' ++ i).length : Int).toNat) = 1 := by simp only [lA, List.length_singleton]; omega
   rw [this];simp only [tN];rw [List.take_left' (l₁ := p' ++ i) rfl];rw [if_pos ⟨by omega, by omega, by simp; omega⟩];simp only [Int.toNat_zero, List.drop_zero];rw [List.take_left' (l₁ := p' ++ i) rfl]
  rw [A]
  rfl
theorem lV {k : Nat} {f : F} (H : Hp κ n a it (nd f (-1) ++ N) L) (D : HB b it f) (hk : 95000 < k) :
  Do (tA k a f.hd) fun res => ∃ y, Hp κ (n + 7 * f.len + 1) y it (nd f (-1) ++ N) L /\ ((f = .nil /\ res = (-1, y)) \/ ∃ c ∈ f.cells, res = (((it c).i : Int), y) /\ ∀ d ∈ f.cells, ¬ (it d).lt (it c)) := by
 unfold tA;have j : ∀ ν ∈ nd f (-1), ν ∈ nd f (-1) ++ N := fun ν h => mL _ h
 have z := sE H;have I := f.vO;have B := H.cap;refine (vU (k := k) H j (by omega) (by omega)).bind ?_;rintro _ ⟨a1, rfl, H1⟩;cases e : f.trees with
 | nil =>
  have : f = .nil := by
   cases f with
   | nil => rfl
   | cons => simp [F.trees] at e
  subst this;refine Do.seq (iM (by omega) a1) ?_;refine (H1.eZ (c := -1) (by decide)).bind ?_;rintro _ ⟨a2, rfl, A⟩;exact ⟨_, rfl, a2, A.mono (by omega), Or.inl ⟨rfl, rfl⟩⟩
 | cons t0 O =>
  rw [<- e];refine (pf (k := k) H1 j D e hk (by omega)).bind ?_;rintro _ ⟨t, a2, ht, rfl, A, u⟩;have : t ∈ (f.loose (-1)).map Lt.t := by rw [xI]; exact ht
  obtain ⟨l, hl, rfl⟩ := List.mem_map.1 this;have x : l.top ∈ nd f (-1) ++ N := j _ (by rw [w7]; exact nS hl);refine (A.geti x).bind ?_;rintro _ ⟨a3, rfl, J⟩;refine ⟨_, rfl, a3, J.mono (by omega), Or.inr ⟨l.t.c, ?_, rfl, u⟩⟩;rw [F.xg];exact List.mem_flatMap.2 ⟨l.t, ht, List.mem_cons_self ..⟩
theorem nM {k : Nat} {f : F} {c : Nat} {x : It} (H : Hp κ n a (upd it c x) (nd f (-1) ++ N) L) (j : HB b it f) (u : c ∈ f.cells) (J : ¬ (it c).lt x) (hk : 70000 < k) {Q : Nat} (O : f.size < 2 ^ Q) (S : Q < 60) :
  Do (uU k a f.hd (x.i : Int)) fun r => ∃ it' A, r = (f.hd, A) /\ Hp κ (n + 13 * Q + 8) A it' (nd f (-1) ++ N) L /\ HB b it' f /\ (∀ d, d ∉ f.cells -> it' d = it d) /\ (f.cells.map it').Perm (f.cells.map (upd it c x)) := by
 unfold uU;obtain ⟨ν, y, B⟩ := sZ (up := -1) u;have hs := l6 H;have l : 0 < f.size := by
  rw [<- F.ve]; exact List.length_pos_of_mem u
 have z := sE H;obtain ⟨R, h1, h2, h3⟩ := size_le (b := b) H l fun t ht => (j.good t ht).sk
 have U := h3 Q O;have W : RI (upd it c x) (nd f (-1)) ν.c false := by rw [B]; exact j.ord.lower J hs (j.upOK.self hs)
 have := pD (k := k) false (nd f (-1)) j.upOK R (fun ν y => by
  obtain ⟨t, ht, e⟩ := oe f (-1) (fun t ht => (j.good t ht).sk) ν y;have := h1 t ht; omega) H ν y (by omega) h2 W
 rw [B, uq] at this;refine this.bind ?_;rintro _ ⟨μ, it', a1, rfl, Y, H1, Z, D, I, X, _⟩;rw [xn] at D I;refine ⟨_, rfl, it', a1, rfl, H1.mono (by omega), ⟨fun t ht => ⟨(j.good t ht).sk, pw (X rfl) t ht⟩, j.row⟩, fun d hd => ?_, I⟩;rw [D d hd];exact vL _ _ (fun e => hd (e ▸ u))
theorem tr {k : Nat} {f : F} {p q : List Tr} {t : Tr} (H : Hp κ n a it (nd f (-1) ++ N) L) (e : f.trees = p ++ t :: q) (hp : (t.c : Int) ∉ cs p) (hq : (t.c : Int) ∉ cs q)
  (I : ∀ s ∈ p ++ q, GT false it s) (y : ∀ s ∈ t.kids.trees, GT false it s) (hlen : (p ++ q).length + t.kids.len <= 20) (hk : 95000 < k) :
  Do (xK k a (cs f.trees) (t.c : Int)) fun r => ∃ u B, r = (u.hd, ((it t.c).i : Int), B) /\ Hp κ (n + 4 + t.kids.len + 14 * ((p ++ q).length + t.kids.len)) B it (nd u (-1) ++ N) (((it t.c).i, (it t.c).cell (-1)) :: L) /\ HB false it u /\ u.cells.Perm (TC (p ++ q) ++ t.kids.cells) := by
 unfold xK;have z := sE H;have D := H.cap;have x : (p ++ q).length <= 20 := by omega
 rw [lA] at x;rw [e, jj];refine Do.seq (tV (cs p) (cs q) (t.c : Int) hp hq (by simp [cs]; omega) (by simp [cs]; omega)) ?_;obtain ⟨p', j, w, hl, rfl, rfl⟩ := qP (f := f) (up := -1) e;have J : nd f (-1) = LN p' ++ ((⟨t, -1, w⟩ : Lt).top :: (nd t.kids t.c ++ LN j)) := by
  rw [w7, hl, vc, sg, kO]; simp
 have H1 : Hp κ n a it ((⟨t, -1, w⟩ : Lt).top :: (LN (p' ++ j ++ t.kids.loose t.c) ++ N)) L := H.p (npm fun P => by
  rw [J];simp only [vc, <- w7, List.countP_append, List.countP_cons]; omega)
 have O := t.kids.vO;have S : t.kids.size + 1 <= f.size := rZ (f := f) (by rw [e]; simp);refine (ji (k := k) (f := t.kids) H1 (List.mem_cons_self ..) rfl (fun μ U => ?_) (by omega) (by omega)).bind ?_
 ·refine mC _ (mL _ ?_);rw [vc, <- w7];exact List.mem_append_right _ U
 rintro _ ⟨a1, rfl, W⟩;refine Do.seq (xd (by simp [cs] at *; unfold F.len at hlen; omega)) ?_;refine (rK W).bind ?_;rintro _ ⟨a2, rfl, X⟩;have Y : cs (p'.map Lt.t) ++ cs (j.map Lt.t) ++ cs t.kids.trees = lc (p' ++ j ++ t.kids.loose t.c) := by
  rw [vd, vd]; simp only [lc, xI]
 have A : (p' ++ j ++ t.kids.loose t.c).length = (p'.map Lt.t ++ j.map Lt.t).length + t.kids.len := by
  unfold F.len; rw [<- xI t.kids t.c]; simp [Nat.add_assoc]
 simp only [Y];refine (s9 (b := false) (k := k) (by omega) (p' ++ j ++ t.kids.loose t.c) (by omega) X (by
  intro l hl;rcases List.mem_append.1 hl with hl | hl
  ·refine I l.t ?_;rw [<- List.map_append];exact List.mem_map_of_mem hl
  ·exact tc y l hl)).bind ?_
 rintro _ ⟨u, a3, rfl, Z, g1, g2, g3⟩;refine ⟨_, rfl, u, a3, rfl, Z.mono (by rw [A]; omega), ⟨g1, .of g2⟩, g3.trans ?_⟩;rw [List.map_append, List.map_append, um, xI, <- F.xg]
theorem kA {k : Nat} {f : F} (H : Hp κ n a it (nd f (-1) ++ N) L) (u : HB false it f) (y : f ≠ .nil) (hs : f.size < 1024) (hk : 95000 < k) :
  Do (tq k a f.hd) fun r => ∃ c x it' D, r = (x.hd, ((it c).i : Int), D) /\ Hp κ (n + 500) D it' (nd x (-1) ++ N) (((it c).i, (it c).cell (-1)) :: L) /\ HB false it' x /\ (f.cells.map it).Perm (it c :: x.cells.map it') /\ (∀ d, d ∉ f.cells -> it' d = it d) /\ c ∈ f.cells /\ ∀ d ∈ f.cells, ¬ (it d).lt (it c) := by
 unfold tq;have j : ∀ ν ∈ nd f (-1), ν ∈ nd f (-1) ++ N := fun ν h => mL _ h
 have B := sE H;have S := f.vO;have I := H.cap;have J : f.size < 2 ^ 10 := by simpa using hs
 have hlen := u.lenB J;cases ef : f.trees with
 | nil =>
  cases f with
  | nil => exact absurd rfl y
  | cons => simp [F.trees] at ef
 | cons t0 Z =>
  have l : yt a f.hd = some true := by
   cases f with
   | nil => exact absurd rfl y
   | cons c r kids rest => exact H.live (j _ (List.mem_cons_self ..))
  refine Do.assoc (Do.seq l ?_);refine Do.seq rfl (Do.f rfl ?_);refine (vU (k := k) H j (by omega) (by omega)).bind ?_;rintro _ ⟨a1, rfl, H1⟩;refine (pf (k := k) H1 j u ef hk (by omega)).bind ?_;rintro _ ⟨t, a2, ht, rfl, O, z⟩;obtain ⟨p, q, e, hp, hq⟩ := ql O ht;have U := u.lt J t ht;have W := (fH (u.good t ht).sk).2 rfl;have X : (p ++ q).length + 1 = f.len := by unfold F.len; rw [e]; simp; omega
  refine (tr (k := k) O e hp hq (fun s hs => u.good s (by rw [e]; rcases List.mem_append.1 hs with h | h <;> simp [h])) (u.good t ht).kids (by omega) hk).bind ?_;rintro _ ⟨x, a3, rfl, Y, h1, h2⟩;have A := (rh e).trans (h2.symm.cons _);refine ⟨_, rfl, t.c, x, it, a3, rfl, Y.mono (by omega), h1, ?_, fun _ _ => rfl, A.mem_iff.2 (List.mem_cons_self ..), z⟩;have := A.map it
  rwa [pC] at this
theorem nt {k : Nat} {f : F} {x : It} (H : Hp κ n a it (nd f (-1) ++ N) ((x.i, x.cell (-1)) :: L)) (B : HB false it f) (hs : f.size < 1024) (hr : 2 * f.size + 2 * N.length + 1 + L.length < κ.C) (hk : 95000 < k) :
  Do (uN k a f.hd (x.i : Int)) fun r => ∃ j it' D, r = (j.hd, true, D) /\ Hp κ (n + 500) D it' (nd j (-1) ++ N) L /\ HB false it' j /\ (j.cells.map it').Perm (x :: f.cells.map it) /\ ∀ ν ∈ N, it' ν.c = it ν.c := by
 unfold uN;have z := sE H;have O := f.vO;have I := H.cap;have S : f.size < 2 ^ 10 := by simpa using hs
 have hlen := B.lenB S;refine (rG H (by rw [lA, rV]; omega)).bind ?_;rintro _ ⟨c, a1, rfl, H1, J⟩;refine Do.f rfl ?_;have t : c ∉ f.cells := fun h => by
  obtain ⟨ν, u, e⟩ := sZ (up := -1) h;exact J ν (mL _ u) e
 have y : ∀ ν ∈ nd f (-1), ν ∈ (⟨c, -1, -1, -1, -1, 0, 0⟩ : Nd) :: (nd f (-1) ++ N) := fun ν h => mC _ (mL _ h)
 refine (vU (k := k) H1 y (by omega) (by omega)).bind ?_;rintro _ ⟨a2, rfl, U⟩;refine Do.seq (xd (by simp [cs] at *; unfold F.len at hlen; omega)) ?_;have A : HB false (upd it c x) f := B.congr fun d hd => vL _ _ (fun e => t (e ▸ hd))
 have W : ([(c : Int)] ++ cs f.trees : List Int) = lc ((⟨⟨c, 0, .nil⟩, -1, -1⟩ : Lt) :: f.loose (-1)) := by
  rw [kb, lc, xI]; rfl
 have X : Hp κ (n + 3 + f.len) a2 (upd it c x) (LN ((⟨⟨c, 0, .nil⟩, -1, -1⟩ : Lt) :: f.loose (-1)) ++ N) L := by
  rw [sg, <- w7]; exact U
 have Y : ((⟨⟨c, 0, .nil⟩, -1, -1⟩ : Lt) :: f.loose (-1)).length = f.len + 1 := by
  unfold F.len; rw [<- xI f (-1)]; simp
 simp only [W];refine (s9 (b := false) (k := k) (by omega) _ (by omega) X (by
  intro l hl;rcases List.mem_cons.1 hl with rfl | hl
  ·exact ⟨.nil, fun ν u => by simp [nd] at u⟩
  ·exact tc A.good l hl)).bind ?_
 rintro _ ⟨j, a3, rfl, Z, g1, g2, g3⟩;refine ⟨_, rfl, j, upd it c x, a3, rfl, Z.mono (by omega), ⟨g1, .of g2⟩, ?_, fun ν u => vL _ _ (J ν (List.mem_append_right _ u))⟩;rw [pC, rX, xI, <- F.xg] at g3;have h1 := g3.map (upd it c x);have h2 : f.cells.map (upd it c x) = f.cells.map it := List.map_congr_left fun d hd => vL _ _ fun e => t (e ▸ hd)
 have h3 : (Tr.cells ⟨c, 0, .nil⟩ ++ f.cells).map (upd it c x) = x :: f.cells.map it := by
  rw [<- h2]; simp [Tr.cells, F.cells, uq]
 rwa [h3] at h1
theorem uP {k : Nat} {f g : F} (H : Hp κ n a it (nd f (-1) ++ (nd g (-1) ++ N)) L) (hf : HB false it f) (z : HB false it g) (hs : f.size < 1024) (hs' : g.size < 1024) (hk : 95000 < k) :
  Do (uT k a f.hd g.hd) fun r => ∃ u A, r = (u.hd, A) /\ Hp κ (n + 500) A it (nd u (-1) ++ N) L /\ HB false it u /\ u.cells.Perm (f.cells ++ g.cells) := by
 unfold uT;have i := sE H;rw [lA, rV] at i;have I := f.vO;have B := g.vO;have D := H.cap;have hlen := hf.lenB (R := 10) (by simpa using hs);have j := z.lenB (R := 10) (by simpa using hs');by_cases e : f.hd = g.hd
 ·have : f = .nil /\ g = .nil := by
   cases f with
   | nil =>
    cases g with
    | nil => exact ⟨rfl, rfl⟩
    | cons c r kids rest => simp only [F.hd] at e; omega
   | cons c r kids rest =>
    cases g with
    | nil => simp only [F.hd] at e; omega
    | cons c' r' x y =>
     simp only [F.hd] at e;have hn := H.nd;have : c = c' := by omega
     subst this;rw [nd, List.cons_append, pC, List.nodup_cons] at hn;exact absurd (by simp [nd]) hn.1
  obtain ⟨rfl, rfl⟩ := this;refine Do.t (by simp) ?_;exact ⟨_, rfl, .nil, a, rfl, H.mono (by omega), HB.nil, .refl _⟩
 ·refine Do.f (by simpa using e) ?_;refine (vU (k := k) H (fun ν h => mL _ h) (by omega) (by omega)).bind ?_;rintro _ ⟨a1, rfl, H1⟩;refine (vU (k := k) H1 (fun ν h => List.mem_append_right _ (mL _ h)) (by omega) (by omega)).bind ?_;rintro _ ⟨a2, rfl, J⟩;refine Do.seq (xd (by simp [cs] at *; unfold F.len at hlen j; omega)) ?_;have O : cs f.trees ++ cs g.trees = lc (f.loose (-1) ++ g.loose (-1)) := by
   rw [vd, lc, lc, xI, xI]
  have S : Hp κ (n + f.len + g.len) a2 it (LN (f.loose (-1) ++ g.loose (-1)) ++ N) L := by
   rw [vc, <- w7, <- w7, aA]; exact J
  have U : (f.loose (-1) ++ g.loose (-1)).length = f.len + g.len := by
   unfold F.len; rw [<- xI f (-1), <- xI g (-1)]; simp
  simp only [O];refine (s9 (b := false) (k := k) (by omega) _ (by omega) S (by
   intro l hl;rcases List.mem_append.1 hl with hl | hl
   ·exact tc hf.good l hl
   ·exact tc z.good l hl)).bind ?_
  rintro _ ⟨u, a3, rfl, W, g1, g2, g3⟩;refine ⟨_, rfl, u, a3, rfl, W.mono (by omega), ⟨g1, .of g2⟩, g3.trans ?_⟩;rw [List.map_append, um, xI, xI, <- F.xg, <- F.xg]
theorem tj {k : Nat} {f : F} {c : Nat} (H : Hp κ n a it (nd f (-1) ++ N) L) (j : HB false it f) (J : c ∈ f.cells) (hs : f.size < 1024) (hk : 95000 < k) :
  Do (tp k a f.hd ((it c).i : Int)) fun r => ∃ it' l O, r = (l.hd, O) /\ Hp κ (n + 500) O it' (nd l (-1) ++ N) (((it c).i, (it c).cell (-1)) :: L) /\ HB false it' l /\ (∀ d, d ∉ f.cells -> it' d = it d) /\ (f.cells.map it).Perm (it c :: l.cells.map it') /\ (∀ d ∈ l.cells, d ∈ f.cells) := by
 unfold tp vW;obtain ⟨ν, z, rfl⟩ := sZ (up := -1) J;have S : ν ∈ nd f (-1) ++ N := mL _ z;have a5 := l6 H;have u : 0 < f.size := by
  rw [<- F.ve]; exact List.length_pos_of_mem J
 have A := sE H;have a6 := f.vO;have U := H.cap;have B : f.size < 2 ^ 10 := by simpa using hs
 have hlen := j.lenB B;obtain ⟨R, h1, h2, h3⟩ := size_le (b := false) H u fun t ht => (j.good t ht).sk
 have a7 := h3 10 B;refine Do.assoc ((Ar.cell H (H.item S) (f := 9) (v := (ν.c : Int)) rfl (by omega) (by have := H.lt S; omega)).bind ?_);rintro _ ⟨a1, rfl, H1⟩;refine Do.seq rfl ?_;refine Do.f (by simp) ?_;have := pD (k := k) true (nd f (-1)) j.upOK R (fun ν z => by
  obtain ⟨t, ht, e⟩ := oe f (-1) (fun t ht => (j.good t ht).sk) ν z;have := h1 t ht; omega) (N := N) (L := L) H1 ν z (by omega) h2 j.ord.any
 refine this.bind ?_;rintro _ ⟨μ, it', a2, rfl, hμ, H2, D, W, X, _, e5⟩;obtain ⟨I, Y⟩ := e5 rfl;rw [xn] at W X;obtain ⟨t, ht, et⟩ := fM (fun t ht => (j.good t ht).sk) hμ I;have x : ∀ ν ∈ nd f (-1), ν ∈ nd f (-1) ++ N := fun ν h => mL _ h
 refine (vU (k := k) H2 x (by omega) (by omega)).bind ?_;rintro _ ⟨a3, rfl, Z⟩;rw [et] at Y D ⊢;refine Do.seq (p9 (cs f.trees) (t.c : Int) (by rw [pz]; unfold F.len at hlen; omega) (by rw [pz]; unfold F.len at hlen; omega) (List.mem_map.2 ⟨t, ht, rfl⟩)) ?_;refine Do.f rfl ?_;obtain ⟨p, q, e, hp, hq⟩ := ql Z ht;have hn : f.cells.Nodup := by
  have := H.nd;rw [List.map_append, xn] at this;exact (List.nodup_append.1 this).1
 obtain ⟨g1, g2⟩ := kM hn j e Y;have b2 := j.lt B t ht;have b3 := (fH (j.good t ht).sk).2 rfl;have b4 : (p ++ q).length + 1 = f.len := by unfold F.len; rw [e]; simp; omega
 refine (tr (k := k) Z e hp hq g1 g2 (by omega) hk).bind ?_;rintro _ ⟨l, a4, rfl, H4, h4, h5⟩;rw [D] at H4;have y := (rh e).trans (h5.symm.cons _);refine ⟨_, rfl, it', l, a4, rfl, H4.mono (by omega), h4, W, ?_, fun d hd => y.mem_iff.2 (mC _ hd)⟩;refine X.symm.trans ?_;have := y.map it';rw [pC, D] at this;exact this
end Bi
end
end
noncomputable section
set_option maxRecDepth 10000
namespace Bi
def KH : KS := fun it M r => ∃ f : F, M = nd f (-1) /\ r = f.hd /\ HB false it f
section
variable {κ : Cfg} {n : Nat} {a : zb} {L : Heap} {r : Int} {its : List It} {C : Heap}
theorem yE {it : Nat -> It} (f : F) (u : Int) : ((nd f u).map fun ν => it ν.c) = f.cells.map it := by rw [<- xn f u, List.map_map]; rfl
theorem uG {it : Nat -> It} {f : F} (h : its.Perm ((nd f (-1)).map fun ν => it ν.c)) : its.length = f.size := by rw [h.length_eq, lM, rV]
theorem eJ : HK KH (-1) [] [] := ⟨fun _ => ⟨0, 0, 0⟩, [], ⟨.nil, rfl, rfl, HB.nil⟩, .refl _, .refl _⟩
theorem kJ {k : Nat} {x : It} (h : HK KH r its C) (H : Ar κ n a (C ++ ((x.i, x.cell (-1)) :: L))) (hr : 2 * its.length + 1 + L.length < κ.C) (hs : its.length < 1024) (hk : 95000 < k) :
  Do (uN k a r (x.i : Int)) fun res => ∃ r' C' e, res = (r', true, e) /\ HK KH r' (x :: its) C' /\ Ar κ (n + 500) e (C' ++ L) := by
 obtain ⟨it, M, ⟨f, rfl, rfl, t⟩, hC, j⟩ := h;have hl := uG j;have u : Hp κ n a it (nd f (-1) ++ []) ((x.i, x.cell (-1)) :: L) := by rw [aN]; exact Ar.p H (hC.append_right _)
 refine (nt u t (by omega) (by simp only [List.length_nil]; omega) hk).mono ?_;rintro _ ⟨l, it', e, rfl, H1, h1, h2, -⟩;rw [aN] at H1;refine ⟨l.hd, _, e, rfl, ⟨it', _, ⟨l, rfl, rfl, h1⟩, .refl _, ?_⟩, H1⟩;rw [yE] at j ⊢;exact (j.cons x).trans h2.symm
theorem eR {k : Nat} (h : HK KH r its C) (H : Ar κ n a (C ++ L)) (hs : its.length < 1024) (hk : 95000 < k) : Do (tA k a r) fun res => ∃ e, Ar κ (n + 100) e (C ++ L) /\ ((its = [] /\ res = (-1, e)) \/ ∃ x ∈ its, res = ((x.i : Int), e) /\ ∀ y ∈ its, ¬ y.lt x) := by
 obtain ⟨it, M, ⟨f, rfl, rfl, l⟩, hC, j⟩ := h;have hl := uG j;have t : Hp κ n a it (nd f (-1) ++ []) L := by rw [aN]; exact Ar.p H (hC.append_right _)
 have hlen := l.len (R := 10) (by omega);refine (lV t l hk).mono ?_;rintro res ⟨e, H1, h1⟩;rw [aN] at H1;rw [yE] at j;refine ⟨e, Ar.mono (Ar.p H1 (hC.append_right _).symm) (by omega), ?_⟩;rcases h1 with ⟨rfl, rfl⟩ | ⟨c, u, rfl, h2⟩
 ·exact Or.inl ⟨j.eq_nil, rfl⟩
 ·refine Or.inr ⟨it c, j.mem_iff.2 (List.mem_map_of_mem u), rfl, fun y z => ?_⟩;obtain ⟨d, hd, rfl⟩ := List.mem_map.1 (j.mem_iff.1 z);exact h2 d hd
theorem fD {k : Nat} (h : HK KH r its C) (H : Ar κ n a (C ++ L)) (l : its ≠ []) (hs : its.length < 1024) (hk : 95000 < k) :
  Do (tq k a r) fun res => ∃ x q r' C' j, res = (r', (x.i : Int), j) /\ its.Perm (x :: q) /\ (∀ y ∈ its, ¬ y.lt x) /\ HK KH r' q C' /\ Ar κ (n + 500) j (C' ++ ((x.i, x.cell (-1)) :: L)) := by
 obtain ⟨it, M, ⟨f, rfl, rfl, u⟩, hC, e⟩ := h;have hl := uG e;have z : Hp κ n a it (nd f (-1) ++ []) L := by rw [aN]; exact Ar.p H (hC.append_right _)
 rw [yE] at e;have hf : f ≠ .nil := by rintro rfl; exact l e.eq_nil
 refine (kA z u hf (by omega) hk).mono ?_;rintro _ ⟨c, t, it', j, rfl, H1, h1, h2, -, B, h3⟩;rw [aN] at H1;refine ⟨it c, t.cells.map it', t.hd, _, j, rfl, e.trans h2, fun y A => ?_, ⟨it', _, ⟨t, rfl, rfl, h1⟩, .refl _, by rw [yE]⟩, H1⟩;obtain ⟨d, hd, rfl⟩ := List.mem_map.1 (e.mem_iff.1 A);exact h3 d hd
theorem dh {k : Nat} {x : It} (h : HK KH r its C) (t : x ∈ its) (H : Ar κ n a (C ++ L)) (hs : its.length < 1024) (hk : 95000 < k) :
  Do (tp k a r (x.i : Int)) fun res => ∃ q r' C' e, res = (r', e) /\ its.Perm (x :: q) /\ HK KH r' q C' /\ Ar κ (n + 500) e (C' ++ ((x.i, x.cell (-1)) :: L)) := by
 obtain ⟨it, M, ⟨f, rfl, rfl, u⟩, hC, j⟩ := h;have hl := uG j;have y : Hp κ n a it (nd f (-1) ++ []) L := by rw [aN]; exact Ar.p H (hC.append_right _)
 rw [yE] at j;obtain ⟨c, z, rfl⟩ := List.mem_map.1 (j.mem_iff.1 t);refine (tj y u z (by omega) hk).mono ?_;rintro _ ⟨it', l, e, rfl, H1, h1, -, h2, -⟩;rw [aN] at H1;exact ⟨l.cells.map it', l.hd, _, e, rfl, j.trans h2, ⟨it', _, ⟨l, rfl, rfl, h1⟩, .refl _, by rw [yE]⟩, H1⟩
theorem jk {k : Nat} {x y : It} (h : HL KH r its x y C) (hi : y.i = x.i) (l : ¬ x.lt y) (H : Ar κ n a (C ++ L)) (hs : its.length < 1024) (hk : 95000 < k) :
  Do (uU k a r (y.i : Int)) fun res => ∃ r' q C' j, res = (r', j) /\ its.Perm (x :: q) /\ HK KH r' (y :: q) C' /\ Ar κ (n + 150) j (C' ++ L) := by
 obtain ⟨it, M, ν, ⟨f, rfl, rfl, D⟩, z, rfl, hC, A⟩ := h;have hl := uG A;have B : Hp κ n a (upd it ν.c y) (nd f (-1) ++ []) L := by rw [aN]; exact Ar.p H (hC.append_right _)
 have hn := B.nd;rw [aN] at hn;obtain ⟨q, t, e⟩ := jU (y := y) hn z rfl;have u : ν.c ∈ f.cells := by rw [<- xn f (-1)]; exact List.mem_map_of_mem z
 refine (nM B D u l (by omega) (Q := 10) (by omega) (by omega)).mono ?_;rintro _ ⟨it', j, rfl, H1, h1, -, h2⟩;rw [aN] at H1;refine ⟨f.hd, q, _, j, rfl, A.trans t, ⟨it', _, ⟨f, rfl, rfl, h1⟩, .refl _, ?_⟩, Ar.mono H1 (by omega)⟩;rw [yE] at e ⊢;exact e.symm.trans h2.symm
theorem kT {k : Nat} {s : Int} {e : List It} {C' : Heap} (h : HK KH r its C) (W : HK KH s e C') (H : Ar κ n a (C ++ (C' ++ L))) (hs : its.length < 256) (hs' : e.length < 256) (hk : 95000 < k) :
  Do (uT k a r s) fun res => ∃ t u S, res = (t, S) /\ HK KH t (its ++ e) u /\ Ar κ (n + 500) S (u ++ L) := by
 obtain ⟨it, M, ⟨t, rfl, rfl, X⟩, hC, z⟩ := h;obtain ⟨it', M', ⟨i, rfl, rfl, A⟩, x, l⟩ := W;have hl := uG z;have Y := uG l;rw [yE] at z l;have y : ∀ d ∈ t.cells, d ∉ i.cells := by
  have hn := Ar.nodup H;have h1 := ((((hC.append ((x).append_right L)).map Prod.fst)).nodup_iff).1 hn;rw [List.map_append, List.map_append] at h1;intro d hd B;have D : d ∈ (lay it (nd t (-1))).map Prod.fst := ((sD it (nd t (-1))).mem_iff).2 (mL _ (by rw [xn]; exact hd));have F : d ∈ (lay it' (nd i (-1))).map Prod.fst := ((sD it' (nd i (-1))).mem_iff).2 (mL _ (by rw [xn]; exact B));exact (List.nodup_append.1 h1).2.2 d D d (mL _ F) rfl
 let j : Nat -> It := fun d => if d ∈ t.cells then it d else it' d
 have I : ∀ d ∈ t.cells, j d = it d := fun d hd => if_pos hd
 have J : ∀ d ∈ i.cells, j d = it' d := fun d hd => if_neg fun h => y d h hd
 have D : lay j (nd t (-1)) = lay it (nd t (-1)) := ud fun ν O => I _ (by rw [<- xn t (-1)]; exact List.mem_map_of_mem O)
 have F : lay j (nd i (-1)) = lay it' (nd i (-1)) := ud fun ν O => J _ (by rw [<- xn i (-1)]; exact List.mem_map_of_mem O)
 have Z : Hp κ n a j (nd t (-1) ++ (nd i (-1) ++ [])) L := by
  unfold Hp;rw [aN, oD, D, F, aA];exact Ar.p H (hC.append (x.append_right L))
 refine (uP Z (X.congr I) (A.congr J) (by omega) (by omega) hk).mono ?_;rintro _ ⟨U, a1, rfl, H1, h1, h2⟩;rw [aN] at H1;refine ⟨U.hd, _, a1, rfl, ⟨j, _, ⟨U, rfl, rfl, h1⟩, .refl _, ?_⟩, H1⟩;rw [yE];have h3 := (h2.map j).symm;rw [List.map_append] at h3;have f1 : t.cells.map j = t.cells.map it := List.map_congr_left I;have f2 : i.cells.map j = i.cells.map it' := List.map_congr_left J;rw [f1, f2] at h3;exact (z.append l).trans h3
end
end Bi
end
noncomputable section
set_option maxRecDepth 10000
section
variable {κ : Cfg} {n : Nat} {a : zb} {it : Nat -> It} {N : List Nd} {L : Heap} {b : Bool}
theorem Ord.congr {it it' : Nat -> It} {f : F} {q : Nat} (h : Ord it (nd f (q : Int))) (i : ∀ d ∈ f.cells, it' d = it d) (hq : it' q = it q) : Ord it' (nd f (q : Int)) := by
 intro ν e r hr;obtain ⟨h1, h2⟩ := cK f q ν e;rw [i _ h1];rcases h2 with h2 | ⟨d, hd, h2⟩
 ·have : r = q := by omega
  subst this; rw [hq]; exact h ν e r hr
 ·have : r = d := by omega
  subst this; rw [i r hd]; exact h ν e r hr
namespace Sk
theorem tz (l : List Int) (v : Int) (hl : l.length < 100000) : ∀ (post pre : List Int) (m : Nat), post.length < m -> l = pre ++ post -> v ∉ pre ->
  (yb (l.length : Int) l v m (pre.length : Int) = some (.inr ()) /\ v ∉ post) \/ ∃ p q, l = p ++ v :: q /\ v ∉ p /\ yb (l.length : Int) l v m (pre.length : Int) = some (.inl (p.length : Int))
 | [], pre, m, hm, e, hv => by
  obtain ⟨m, rfl⟩ : ∃ q, m = q + 1 := ⟨m - 1, by simp at hm; omega⟩
  left
  rw [yb, dF (by rw [e]; simp)];exact ⟨rfl, by simp⟩
 | x :: post, pre, m, hm, e, hv => by
  obtain ⟨m, rfl⟩ : ∃ q, m = q + 1 := ⟨m - 1, by simp at hm; omega⟩
  simp only [lC] at hm;have hlen : pre.length < 100000 := by have := congrArg List.length e; simp at this; omega
  have i : mIdx l (pre.length : Int) = some x := by rw [e]; exact yF ..
  rw [yb, dT (by rw [e]; simp; omega), i];simp only [cT, bS, vX];by_cases h : x = v
  ·subst h
   right
   refine ⟨pre, post, e, hv, ?_⟩;simp
  ·have j : (x == v) = false := by simpa using h
   rw [j, cF, zG (by omega) (by omega)];have := tz l v hl post (pre ++ [x]) m (by omega) (by rw [e]; simp) (by simp [hv]; exact fun e => h e.symm);have t : ((pre ++ [x]).length : Int) = (pre.length : Int) + 1 := by simp
   rw [t] at this;rcases this with ⟨h1, h2⟩ | h1
   ·exact Or.inl ⟨h1, by simp [h2]; exact fun e => h e.symm⟩
   ·exact Or.inr h1
theorem uM (v : Int) : ∀ (R A : List Int) (g : Int) (m : Nat), R.length < m -> A.length + R.length < 100000 -> v ∉ R ->
  Do (ym v m (A.length : Int) ((A.length : Int) + 1) (A ++ g :: R)) fun r => ∃ i, r = (((A ++ R).length : Int), (A ++ R) ++ [i])
 | [], A, g, m, hm, j, hv => by
  obtain ⟨m, rfl⟩ : ∃ q, m = q + 1 := ⟨m - 1, by simp at hm; omega⟩
  rw [ym];refine Do.f (dF (by simp)) ?_;exact ⟨_, rfl, g, by simp⟩
 | x :: R, A, g, m, hm, j, hv => by
  obtain ⟨m, rfl⟩ : ∃ q, m = q + 1 := ⟨m - 1, by simp at hm; omega⟩
  simp only [lC] at hm j;simp only [iC, not_or] at hv;rw [ym];refine Do.t (dT (by simp; omega)) ?_;have l : mIdx (A ++ g :: x :: R) ((A.length : Int) + 1) = some x := by
   have := yF (A ++ [g]) R x;simpa using this
  refine Do.assoc (Do.seq l ?_);refine Do.assoc (Do.seq rfl ?_);refine Do.tb (by simp; exact fun e => hv.1 e.symm) ?_;refine Do.assoc (Do.seq (yF A (x :: R) g) ?_);refine Do.seq rfl ?_;have es : mSet (A ++ g :: x :: R) (A.length : Int) x = (A ++ [x]) ++ x :: R := by rw [nG]; simp
  rw [es, zG (by omega) (by omega), zG (by omega) (by omega)];have := uM v R (A ++ [x]) x m (by omega) (by simp; omega) hv.2;have u : ((A ++ [x]).length : Int) = (A.length : Int) + 1 := by simp
  rw [u] at this;refine this.mono ?_;rintro _ ⟨i, rfl⟩;exact ⟨i, by simp⟩
theorem tV {k : Nat} (p q : List Int) (v : Int) (hp : v ∉ p) (hq : v ∉ q) (hl : (p ++ v :: q).length < 100000) (hk : (p ++ v :: q).length < k) :
  xq k (p ++ v :: q) v = some (p ++ q) := by
 unfold xq wk;rcases tz (p ++ v :: q) v hl (p ++ v :: q) [] k hk rfl (by simp) with ⟨_, h2⟩ | ⟨p', i, e, hv, h⟩
 ·simp at h2
 ·have l : p' = p /\ i = q := by
   clear h;have := congrArg (List.takeWhile (fun x => x != v)) e;have h1 : ∀ (p q : List Int), v ∉ p -> (p ++ v :: q).takeWhile (fun x => x != v) = p := by
    intro p q hp;rw [List.takeWhile_append_of_pos (by intro x t; simp; exact fun e => hp (e ▸ t))];simp
   rw [h1 p q hp, h1 p' i hv] at this;subst this;simpa using e.symm
  obtain ⟨rfl, rfl⟩ := l;have u : yb ((p' ++ v :: i).length : Int) (p' ++ v :: i) v k 0 = some (.inl (p'.length : Int)) := h;rw [u];simp only [bS];rw [show ((p'.length : Int) == -1) = false by simp, cF];simp only [lA, lC] at hl hk;rw [zG (by omega) (by omega)];obtain ⟨r, y, j, rfl⟩ := uM v i p' v k (by omega) (by omega) hq;rw [y];simp only [bS];have z : mCut ((p' ++ i) ++ [j]) ((p' ++ i).length : Int) (((p' ++ i) ++ [j]).length : Int) = some [j] := by
   rw [pT (by simp)];simp
  rw [z];simp only [bS];have A : mCut (rT ((p' ++ i) ++ [j]) ((p' ++ i).length : Int) 0) 0 ((p' ++ i).length : Int) = some (p' ++ i) := by
   unfold mCut rT;have : ((p' ++ i ++ [j]).length - ((p' ++ i).length : Int).toNat) = 1 := by simp only [lA, List.length_singleton]; omega
   rw [this];simp only [tN];rw [List.take_left' (l₁ := p' ++ i) rfl];rw [if_pos ⟨by omega, by omega, by simp; omega⟩];simp only [Int.toNat_zero, List.drop_zero];rw [List.take_left' (l₁ := p' ++ i) rfl]
  rw [A]
  rfl
theorem lV {k : Nat} {f : F} (H : Hp κ n a it (nd f (-1) ++ N) L) (D : HB b it f) (hk : 95000 < k) :
  Do (pn k a f.hd) fun res => ∃ y, Hp κ (n + 7 * f.len + 1) y it (nd f (-1) ++ N) L /\ ((f = .nil /\ res = (-1, y)) \/ ∃ c ∈ f.cells, res = (((it c).i : Int), y) /\ ∀ d ∈ f.cells, ¬ (it d).lt (it c)) := by
 unfold pn;have j : ∀ ν ∈ nd f (-1), ν ∈ nd f (-1) ++ N := fun ν h => mL _ h
 have z := sE H;have I := f.vO;have B := H.cap;refine (vU (k := k) H j (by omega) (by omega)).bind ?_;rintro _ ⟨a1, rfl, H1⟩;cases e : f.trees with
 | nil =>
  have : f = .nil := by
   cases f with
   | nil => rfl
   | cons => simp [F.trees] at e
  subst this;refine Do.seq (iM (by omega) a1) ?_;refine (H1.eZ (c := -1) (by decide)).bind ?_;rintro _ ⟨a2, rfl, A⟩;exact ⟨_, rfl, a2, A.mono (by omega), Or.inl ⟨rfl, rfl⟩⟩
 | cons t0 O =>
  rw [<- e];refine (pf (k := k) H1 j D e hk (by omega)).bind ?_;rintro _ ⟨t, a2, ht, rfl, A, u⟩;have : t ∈ (f.loose (-1)).map Lt.t := by rw [xI]; exact ht
  obtain ⟨l, hl, rfl⟩ := List.mem_map.1 this;have x : l.top ∈ nd f (-1) ++ N := j _ (by rw [w7]; exact nS hl);refine (A.geti x).bind ?_;rintro _ ⟨a3, rfl, J⟩;refine ⟨_, rfl, a3, J.mono (by omega), Or.inr ⟨l.t.c, ?_, rfl, u⟩⟩;rw [F.xg];exact List.mem_flatMap.2 ⟨l.t, ht, List.mem_cons_self ..⟩
theorem nM {k : Nat} {f : F} {c : Nat} {x : It} (H : Hp κ n a (upd it c x) (nd f (-1) ++ N) L) (j : HB b it f) (u : c ∈ f.cells) (J : ¬ (it c).lt x) (hk : 70000 < k) {Q : Nat} (O : f.size < 2 ^ Q) (S : Q < 60) :
  Do (qf k a f.hd (x.i : Int)) fun r => ∃ it' A, r = (f.hd, A) /\ Hp κ (n + 13 * Q + 8) A it' (nd f (-1) ++ N) L /\ HB b it' f /\ (∀ d, d ∉ f.cells -> it' d = it d) /\ (f.cells.map it').Perm (f.cells.map (upd it c x)) := by
 unfold qf;obtain ⟨ν, y, B⟩ := sZ (up := -1) u;have hs := l6 H;have l : 0 < f.size := by
  rw [<- F.ve]; exact List.length_pos_of_mem u
 have z := sE H;obtain ⟨R, h1, h2, h3⟩ := size_le (b := b) H l fun t ht => (j.good t ht).sk
 have U := h3 Q O;have W : RI (upd it c x) (nd f (-1)) ν.c false := by rw [B]; exact j.ord.lower J hs (j.upOK.self hs)
 have := pD (k := k) false (nd f (-1)) j.upOK R (fun ν y => by
  obtain ⟨t, ht, e⟩ := oe f (-1) (fun t ht => (j.good t ht).sk) ν y;have := h1 t ht; omega) H ν y (by omega) h2 W
 rw [B, uq] at this;refine this.bind ?_;rintro _ ⟨μ, it', a1, rfl, Y, H1, Z, D, I, X, _⟩;rw [xn] at D I;refine ⟨_, rfl, it', a1, rfl, H1.mono (by omega), ⟨fun t ht => ⟨(j.good t ht).sk, pw (X rfl) t ht⟩, j.row⟩, fun d hd => ?_, I⟩;rw [D d hd];exact vL _ _ (fun e => hd (e ▸ u))
theorem dL {k : Nat} (hk : 3 <= k) {s t : Tr} {w w' : Int} {r : Nat} (H : Hp κ n a it (s.nd (-1) w ++ (t.nd (-1) w' ++ N)) L) (hs : s.r = r) (ht : t.r = r) (i : r < 1000) :
  Do (te k a (s.c : Int) (t.c : Int) (r : Int)) fun res => ∃ w j, res = (((lk it s t).c : Int), j) /\ Hp κ (n + 11) j it ((lk it s t).nd (-1) w ++ N) L := by
 unfold te;have l : (⟨s.c, -1, s.kids.hd, -1, w, s.r, 0⟩ : Nd) ∈ s.nd (-1) w ++ (t.nd (-1) w' ++ N) := mL _ (List.mem_cons_self ..);have m2 : (⟨t.c, -1, t.kids.hd, -1, w', t.r, 0⟩ : Nd) ∈ s.nd (-1) w ++ (t.nd (-1) w' ++ N) := List.mem_append_right _ (mL _ (List.mem_cons_self ..));refine (H.before hk m2 l).bind ?_;rintro _ ⟨a1, rfl, H⟩;unfold lk;by_cases c : (it t.c).lt (it s.c)
 ·rw [if_pos c];refine Do.tb (dT c) ?_;have H1 : Hp κ (n + 6) a1 it (t.nd (-1) w' ++ (s.nd (-1) w ++ N)) L := H.p (npm fun p => by simp only [List.countP_append]; omega);refine (linked H1 ht i).mono ?_;rintro _ ⟨a2, rfl, e⟩;exact ⟨_, _, rfl, e⟩
 ·rw [if_neg c];refine Do.fb (dF c) ?_;refine (linked H hs i).mono ?_;rintro _ ⟨a2, rfl, e⟩;exact ⟨_, _, rfl, e⟩
theorem iH {it it' : Nat -> It} {q : Nat} : ∀ {f : F}, Ord it (nd f (q : Int)) -> (∀ d ∈ f.cells, it' d = it d) -> ¬ (it q).lt (it' q) -> Ord it' (nd f (q : Int))
 | .nil, _, _, _ => fun ν e => by simp [nd] at e
 | .cons c r kids rest, h, j, hq => by
  have h1 : Ord it (nd kids c) := h.sub fun ν e => mC _ (mL _ e)
  have h2 : Ord it (nd rest q) := h.sub fun ν e => mC _ (List.mem_append_right _ e)
  have i : it' c = it c := j c (by rw [F.cells]; exact List.mem_cons_self ..);have h3 := h1.congr (it' := it') (fun d hd => j d (by rw [F.cells]; exact mC _ (mL _ hd))) i;have h4 := iH (f := rest) h2 (fun d hd => j d (by rw [F.cells]; exact mC _ (List.mem_append_right _ hd))) hq;intro ν e r' hr;rw [nd] at e;rcases List.mem_cons.1 e with rfl | e
  ·simp only at hr ⊢;have : r' = q := by omega
   subst this;rw [i];exact fun l => h _ (List.mem_cons_self ..) r' rfl (It.iI l hq)
  ·rcases List.mem_append.1 e with e | e
   ·exact h3 ν e r' hr
   ·exact h4 ν e r' hr
theorem dV (c r : Nat) (a b : F) : (F.cons c r a b).hd = (c : Int) := rfl
theorem bD : F.nil.hd = -1 := rfl
theorem cM (it : Nat -> It) (s t : Tr) : ∃ top low, lk it s t = top.under low /\ ((top = s /\ low = t) \/ (top = t /\ low = s)) /\ ¬ (it low.c).lt (it top.c) := by
 unfold lk;by_cases c : (it t.c).lt (it s.c)
 ·rw [if_pos c]; exact ⟨t, s, rfl, Or.inr ⟨rfl, rfl⟩, It.lt_asymm c⟩
 ·rw [if_neg c]; exact ⟨s, t, rfl, Or.inl ⟨rfl, rfl⟩, c⟩
theorem nh {k : Nat} (hk : 3 <= k) {f : F} {c : Nat} {u w : Int} (H : Hp κ n a it ((Tr.mk c 0 .nil).nd u w ++ (nd f (-1) ++ N)) L) (Z : HB true it f) (hr : ∀ t ∈ f.trees, t.r < 100) :
  Do (ta k a f.hd (c : Int)) fun r => ∃ l it' j, r = (l.hd, j) /\ Hp κ (n + 32) j it' (nd l (-1) ++ N) L /\ HB true it' l /\ l.cells.Perm (c :: f.cells) /\ ((c :: f.cells).map it').Perm ((c :: f.cells).map it) /\ ∀ d, d ∉ c :: f.cells -> it' d = it d := by
 unfold ta;have d3 := H.cap;have hN : ∀ ν ∈ nd f (-1), ν ∈ (Tr.mk c 0 .nil).nd u w ++ (nd f (-1) ++ N) := fun ν h => List.mem_append_right _ (mL _ h)
 have alone : (f.trees.Pairwise fun s t => s.r < t.r) -> ∀ {O : Nat} {j : zb}, O <= n + 3 -> Hp κ O j it ((Tr.mk c 0 .nil).nd u w ++ (nd f (-1) ++ N)) L ->
   Do ((zy j (c : Int) 3 f.hd).bind fun b9 => (zy b9.2 (c : Int) 0 (-1)).bind fun c0 => some ((c : Int), c0.2)) fun r => ∃ l it' j, r = (l.hd, j) /\ Hp κ (n + 32) j it' (nd l (-1) ++ N) L /\ HB true it' l /\ l.cells.Perm (c :: f.cells) /\ ((c :: f.cells).map it').Perm ((c :: f.cells).map it) /\ ∀ d, d ∉ c :: f.cells -> it' d = it d := by
  intro hp O j hn H1;refine (Hp.set (ν := ⟨c, u, -1, -1, w, 0, 0⟩) H1 ⟨c, u, -1, -1, f.hd, 0, 0⟩).bind ?_;rintro _ ⟨a2, rfl, H2⟩;refine (Hp.set (ν := ⟨c, u, -1, -1, f.hd, 0, 0⟩) H2 ⟨c, -1, -1, -1, f.hd, 0, 0⟩).bind ?_;rintro _ ⟨a3, rfl, H3⟩;refine ⟨_, rfl, .cons c 0 .nil f, it, a3, rfl, Hp.mono (n := O + 1 + 1) H3 (by omega), ⟨?_, ?_⟩, ?_, .refl _, fun _ _ => rfl⟩
  ·intro t ht;rw [F.trees] at ht;rcases List.mem_cons.1 ht with rfl | ht
   ·exact ⟨.nil, fun ν Y => by simp [nd] at Y⟩
   ·exact Z.good t ht
  ·exact ⟨hp, fun s _ => Nat.zero_le _, fun h => by cases h⟩
  ·simp [F.cells]
 cases f with
 | nil =>
  refine Do.fb rfl ?_;refine Do.seq rfl ?_;refine (H.getN (c := -1) (by decide)).bind ?_;rintro _ ⟨a1, rfl, H1⟩;refine Do.tb rfl (Do.seq rfl (Do.t rfl ?_));exact alone (by simp [F.trees]) (by omega) H1
 | cons A r1 k1 f1 =>
  have a8 := hN _ (List.mem_cons_self ..);have B : ∀ ν ∈ nd f1 (-1), ν ∈ (Tr.mk c 0 .nil).nd u w ++ (nd (.cons A r1 k1 f1) (-1) ++ N) := fun ν h => hN ν (mC _ (List.mem_append_right _ h))
  have a9 := qV H B;refine Do.tb (bne_iff_ne.2 (by simp only [F.hd]; omega)) ?_;refine Do.assoc ((H.getc a8 (f := 3) (v := f1.hd) a9.1 a9.2).bind ?_);rintro _ ⟨a1, rfl, H1⟩;refine Do.seq rfl ?_;refine (H1.get a8 (f := 4) (v := (r1 : Int))).bind ?_;rintro _ ⟨a2, rfl, H2⟩;cases f1 with
  | nil =>
   refine Do.tb rfl (Do.seq rfl (Do.t rfl ?_));exact alone (by simp [F.trees]) (by omega) H2
  | cons x r2 k2 f2 =>
   have b0 := B _ (List.mem_cons_self ..);refine Do.fb (by simp [F.hd]) ?_;refine Do.assoc ((H2.get b0 (f := 4) (v := (r2 : Int))).bind ?_);rintro _ ⟨a3, rfl, H3⟩;have S := Z.row;simp only [F.trees, fC] at S;obtain ⟨D, c3, _⟩ := S;have d8 : r1 <= r2 := c3 ⟨x, r2, k2⟩ (List.mem_cons_self ..);by_cases c4 : r2 = r1
   ·subst c4;refine Do.seq rfl (Do.f (by simp) ?_);have b1 : ∀ ν ∈ nd f2 (-1), ν ∈ (Tr.mk c 0 .nil).nd u w ++ (nd (.cons A r2 k1 (.cons x r2 k2 f2)) (-1) ++ N) := fun ν h => B ν (mC _ (List.mem_append_right _ h))
    have b2 := qV H3 b1;refine (H3.getc b0 (f := 3) (v := f2.hd) b2.1 b2.2).bind ?_;rintro _ ⟨a4, rfl, H4⟩;have c5 : Hp κ (n + 4) a4 it ((Tr.mk A r2 k1).nd (-1) (F.hd (.cons x r2 k2 f2)) ++ ((Tr.mk x r2 k2).nd (-1) f2.hd ++ ((Tr.mk c 0 .nil).nd u w ++ (nd f2 (-1) ++ N)))) L := H4.p (npm fun p => by
     simp only [nd, Tr.nd, List.countP_append, List.countP_cons]; omega)
    have e0 : r2 < 100 := hr ⟨x, r2, k2⟩ (by simp [F.trees]);refine (dL (k := k) (r := r2) hk c5 rfl rfl (by omega)).bind ?_;rintro _ ⟨wt, a5, rfl, H5⟩;have g1 := Z.good ⟨A, r2, k1⟩ (by simp [F.trees]);have g2 := Z.good ⟨x, r2, k2⟩ (by simp [F.trees]);obtain ⟨top, low, c6, U, c7⟩ := cM it (Tr.mk A r2 k1) (Tr.mk x r2 k2);rw [c6] at H5 ⊢;have i : GT true it top /\ top.r = r2 := by rcases U with ⟨rfl, rfl⟩ | ⟨rfl, rfl⟩ <;> exact ⟨by assumption, rfl⟩
    have y : GT true it low /\ low.r = r2 := by rcases U with ⟨rfl, rfl⟩ | ⟨rfl, rfl⟩ <;> exact ⟨by assumption, rfl⟩
    have I : (F.cells (.cons A r2 k1 (.cons x r2 k2 f2))).Perm (top.c :: (low.cells ++ (top.kids.cells ++ f2.cells))) := by
     rcases U with ⟨rfl, rfl⟩ | ⟨rfl, rfl⟩ <;> refine cpm fun p => ?_ <;> simp only [F.cells, Tr.cells, List.countP_append, List.countP_cons, List.cons_append] <;> omega
    have hn : (c :: (top.c :: (low.cells ++ (top.kids.cells ++ f2.cells)))).Nodup := by
     have h1 := H.nd;rw [List.map_append, List.map_append, xn, <- aA] at h1;have h2 := (List.nodup_append.1 h1).1;have h3 : ((Tr.mk c 0 .nil).nd u w).map Nd.c = [c] := by simp [Tr.nd, nd]
     rw [h3] at h2;exact (List.Perm.nodup_iff (I.cons c)).1 h2
    obtain ⟨b3, c8⟩ := List.nodup_cons.1 hn;obtain ⟨c9, e1⟩ := List.nodup_cons.1 c8;have b4 : c ≠ top.c := fun e => b3 (e ▸ List.mem_cons_self ..)
    have fin : ∀ (it' : Nat -> It) {O : Nat} {j : zb}, Hp κ O j it' (⟨c, u, -1, -1, w, 0, 0⟩ :: ⟨top.c, -1, low.c, -1, wt, ((r2 + 1 : Nat) : Int), 0⟩ :: (nd (.cons low.c low.r low.kids top.kids) top.c ++ (nd f2 (-1) ++ N))) L -> O <= n + 27 ->
      (∀ d, d ≠ c -> d ≠ top.c -> it' d = it d) -> ¬ (it' c).lt (it' top.c) -> ¬ (it top.c).lt (it' top.c) -> ((c :: F.cells (.cons A r2 k1 (.cons x r2 k2 f2))).map it').Perm ((c :: F.cells (.cons A r2 k1 (.cons x r2 k2 f2))).map it) ->
      Do ((uB j (c : Int) (top.c : Int)).bind fun d0 => (zy d0 (top.c : Int) 3 f2.hd).bind fun b5 => some ((top.c : Int), b5.2)) fun r => ∃ l it' j, r = (l.hd, j) /\ Hp κ (n + 32) j it' (nd l (-1) ++ N) L /\ HB true it' l /\ l.cells.Perm (c :: F.cells (.cons A r2 k1 (.cons x r2 k2 f2))) /\ ((c :: F.cells (.cons A r2 k1 (.cons x r2 k2 f2))).map it').Perm ((c :: F.cells (.cons A r2 k1 (.cons x r2 k2 f2))).map it) /\ ∀ d, d ∉ c :: F.cells (.cons A r2 k1 (.cons x r2 k2 f2)) -> it' d = it d := by
     intro it' O j K e2 hA hB hC hD;have d1 : low.c < κ.C := K.lt (ν := ⟨low.c, top.c, low.kids.hd, -1, top.kids.hd, low.r, 0⟩) (by simp [nd]);refine (mM K (by simp only; omega) (by simp only; omega)).bind ?_;intro a6 K1;have K2 := K1.p (List.Perm.swap ..);refine (K2.set ⟨top.c, -1, c, -1, f2.hd, ((r2 + 1 : Nat) : Int), 0⟩).bind ?_;rintro _ ⟨a7, rfl, K3⟩;have z : ∀ d ∈ low.cells ++ (top.kids.cells ++ f2.cells), d ≠ c /\ d ≠ top.c := fun d hd => ⟨fun e => b3 (e ▸ mC _ hd), fun e => c9 (e ▸ hd)⟩
     have d2 : ∀ d ∈ F.cells (.cons low.c low.r low.kids top.kids), it' d = it d := fun d hd => by
      have : d ∈ low.cells ++ (top.kids.cells ++ f2.cells) := by
       rw [F.cells] at hd;rcases List.mem_cons.1 hd with rfl | hd
       ·exact mL _ (List.mem_cons_self ..)
       ·rcases List.mem_append.1 hd with hd | hd
        ·exact mL _ (mC _ hd)
        ·exact List.mem_append_right _ (mL _ hd)
      exact hA d (z d this).1 (z d this).2
     have b6 : HB true it f2 := by
      refine ⟨fun t ht => Z.good t (by simp [F.trees, ht]), ?_⟩;have := (List.pairwise_cons.1 D).2;exact fC.of this
     have W : HB true it' f2 := b6.congr fun d hd => by
      have : d ∈ low.cells ++ (top.kids.cells ++ f2.cells) := List.mem_append_right _ (List.mem_append_right _ hd);exact hA d (z d this).1 (z d this).2
     have b7 := i.1.under y.1 (by rw [y.2, i.2]) c7;refine ⟨_, rfl, .cons top.c (r2 + 1) (.cons c 0 .nil (.cons low.c low.r low.kids top.kids)) f2, it', a7, rfl, ?_, ⟨?_, ?_⟩, ?_, hD, ?_⟩
     ·refine Hp.mono (n := O + 4 + 1) (Hp.p K3 (npm fun p => ?_)) (by omega);simp only [nd, dV, bD, (show ((0 : Nat) : Int) = 0 from rfl), List.countP_append, List.countP_cons, List.nil_append]; omega
     ·intro t ht;rw [F.trees] at ht;rcases List.mem_cons.1 ht with rfl | ht
      ·refine ⟨?_, ?_⟩
       ·have h1 := y.1.sk;have h2 := i.1.sk;rw [y.2] at h1 ⊢;rw [i.2] at h2;exact SK.leaf rfl h1 h2
       ·have h3 : Ord it' (nd (.cons low.c low.r low.kids top.kids) (top.c : Int)) := iH b7.ord d2 hC;intro ν Y q hq;rw [nd] at Y;rcases List.mem_cons.1 Y with rfl | Y
        ·simp only at hq ⊢;have : q = top.c := by omega
         subst this; exact hB
        ·exact h3 ν Y q hq
      ·exact W.good t ht
     ·refine ⟨(List.pairwise_cons.1 D).2, fun s hs => ?_, fun h => by cases h⟩;have := (List.pairwise_cons.1 D).1 s hs;simp only at this ⊢; omega
     ·refine List.Perm.trans ?_ (I.cons c).symm;refine cpm fun p => ?_
      simp only [F.cells, Tr.cells, List.countP_append, List.countP_cons, List.cons_append, List.nil_append, List.countP_nil]; omega
     ·intro d hd;have X : d ∉ c :: (top.c :: (low.cells ++ (top.kids.cells ++ f2.cells))) := fun h => hd ((I.cons c).mem_iff.2 h)
      simp only [iC, not_or] at X;exact hA d X.1 X.2.1
    have H6 : Hp κ (n + 15) a5 it (⟨c, u, -1, -1, w, 0, 0⟩ :: ⟨top.c, -1, low.c, -1, wt, ((r2 + 1 : Nat) : Int), 0⟩ :: (nd (.cons low.c low.r low.kids top.kids) top.c ++ (nd f2 (-1) ++ N))) L := H5.p (npm fun p => by
     simp only [Tr.nd, Tr.under, i.2, nd, dV, bD, (show ((0 : Nat) : Int) = 0 from rfl), List.countP_append, List.countP_cons, List.nil_append, List.countP_nil]; omega)
    refine (H6.before (k := k) hk (List.mem_cons_self ..) (mC _ (List.mem_cons_self ..))).bind ?_;rintro _ ⟨a6, rfl, H7⟩;by_cases J : (it c).lt (it top.c)
    ·refine Do.tb (dT J) ?_;refine Do.assoc ((qF H7).bind ?_);intro a7 H8;refine Do.seq rfl ?_;refine fin (swp it c top.c) H8 (by omega) (fun d h1 h2 => k9 it h1 h2) ?_ ?_ (gq ?_ (List.mem_cons_self ..) ?_ b4)
     ·rw [eQ it b4, dD]; exact It.lt_asymm J
     ·rw [dD]; exact It.lt_asymm J
     ·exact (List.Perm.nodup_iff (I.cons c)).2 hn
     ·exact (I.cons c).mem_iff.2 (mC _ (List.mem_cons_self ..))
    ·refine Do.fb (dF J) ?_;refine Do.seq rfl ?_;exact fin it H7 (by omega) (fun _ _ _ => rfl) J (It.lt_irrefl _) (.refl _)
   ·refine Do.seq rfl (Do.t (by simp; omega) ?_);refine alone ?_ (by omega) H3;simp only [F.trees];refine List.pairwise_cons.2 ⟨fun s hs => ?_, D⟩;rcases List.mem_cons.1 hs with rfl | hs
    ·simp only; omega
    ·have := (List.pairwise_cons.1 D).1 s hs;simp only at this ⊢; omega
def zer (ls : List Lt) : List Lt := ls.filter fun l => l.t.r == 0
def pos (ls : List Lt) : List Lt := ls.filter fun l => !(l.t.r == 0)
theorem fK (ls : List Lt) : (pos ls ++ zer ls).Perm ls := by
 have := List.filter_append_perm (fun l : Lt => !(l.t.r == 0)) ls;have e : zer ls = ls.filter fun l => !(!(l.t.r == 0)) := by unfold zer; congr 1; funext l; simp
 rw [e]; exact this
theorem m5 (v_ : Int) (all : List Lt) (x : ∀ l ∈ all, l.top ∈ N) (hl : all.length < 100000) (rest : List Int) (hr : rest.length < 100000) : ∀ (post pre : List Lt) {n : Nat} {a : zb} (H : Hp κ n a it N L) (m : Nat), post.length < m -> all = pre ++ post ->
  Do (wq (all.length : Int) (lc all) v_ m (rest ++ lc (pos pre)) (lc (zer pre)) (pre.length : Int) a) fun r => ∃ y, r = (rest ++ lc (pos all), lc (zer all), y) /\ Hp κ (n + post.length) y it N L
 | [], pre, n, a, H, m, hm, e => by
  obtain ⟨m, rfl⟩ : ∃ q, m = q + 1 := ⟨m - 1, by simp at hm; omega⟩
  rw [wq];refine Do.f (dF (by rw [e]; simp)) ?_;have : pre = all := by rw [e]; simp
  subst this;exact ⟨_, rfl, a, rfl, H⟩
 | l :: post, pre, n, a, H, m, hm, e => by
  obtain ⟨m, rfl⟩ : ∃ q, m = q + 1 := ⟨m - 1, by simp at hm; omega⟩
  simp only [lC] at hm;have hlen : pre.length < 100000 := by have := congrArg List.length e; simp at this; omega
  have hz : (zer pre).length <= pre.length := List.length_filter_le ..;have B : (pos pre).length <= pre.length := List.length_filter_le ..;have D : mIdx (lc all) (pre.length : Int) = some (l.t.c : Int) := by
   rw [e, vd, kb];have := yF (lc pre) (lc post) (l.t.c : Int)
   rwa [vq] at this
  rw [wq];refine Do.t (dT (by rw [e]; simp; omega)) ?_;refine Do.assoc (Do.seq D ?_);refine Do.assoc ((H.get (x l (by rw [e]; simp)) (f := 4) (v := (l.t.r : Int))).bind ?_);rintro _ ⟨a1, rfl, H1⟩;have := m5 v_ all x hl rest hr post (pre ++ [l]) H1 m (by omega) (by rw [e]; simp);have F : ((pre ++ [l]).length : Int) = (pre.length : Int) + 1 := by simp
  rw [F] at this;have z : zer (pre ++ [l]) = zer pre ++ zer [l] := List.filter_append ..;have A : pos (pre ++ [l]) = pos pre ++ pos [l] := List.filter_append ..;by_cases h0 : l.t.r = 0
  ·refine Do.tb (by simp [h0]) ?_;refine Do.assoc (Do.seq (xd (by rw [vq]; simp; omega)) ?_);refine Do.seq rfl ?_;rw [zG (by omega) (by omega)];have i : zer [l] = [l] := by simp [zer, h0]
   have j : pos [l] = [] := by simp [pos, h0]
   rw [z, A, i, j, aN, vd] at this;refine this.mono ?_;rintro _ ⟨a2, rfl, u⟩;exact ⟨a2, rfl, u.mono (by simp only [lC]; omega)⟩
  ·refine Do.fb (by simp [h0]) ?_;refine Do.assoc (Do.seq (xd (by rw [lA, vq]; simp; omega)) ?_);refine Do.seq rfl ?_;rw [zG (by omega) (by omega)];have i : zer [l] = [] := by simp [zer, h0]
   have j : pos [l] = [l] := by simp [pos, h0]
   rw [z, A, i, j, aN, vd, <- aA] at this;refine this.mono ?_;rintro _ ⟨a2, rfl, u⟩;exact ⟨a2, rfl, u.mono (by simp only [lC]; omega)⟩
theorem mJ (i : Int) (all : List Lt) (hl : all.length < 50) (S : Nat) (hS : S < 1024) : ∀ (post pre : List Lt) (f : F) {it : Nat -> It} {n : Nat} {a : zb} (H : Hp κ n a it (LN post ++ (nd f (-1) ++ N)) L) (m : Nat), post.length + 3 < m -> all = pre ++ post -> HB true it f -> (∀ l ∈ post, l.t.r = 0 /\ l.t.kids = .nil) -> f.size + post.length <= S ->
  Do (wv i (all.length : Int) (lc all) m f.hd (pre.length : Int) a) fun r => ∃ I it' a', r = (I.hd, a') /\ Hp κ (n + 32 * post.length) a' it' (nd I (-1) ++ N) L /\ HB true it' I /\ I.cells.Perm (TC (post.map Lt.t) ++ f.cells) /\ ((TC (post.map Lt.t) ++ f.cells).map it').Perm ((TC (post.map Lt.t) ++ f.cells).map it) /\ ∀ d, d ∉ TC (post.map Lt.t) ++ f.cells -> it' d = it d
 | [], pre, f, it, n, a, H, m, hm, e, J, hz, z => by
  obtain ⟨m, rfl⟩ : ∃ q, m = q + 1 := ⟨m - 1, by simp at hm; omega⟩
  rw [wv];refine Do.f (dF (by rw [e]; simp)) ?_;exact ⟨_, rfl, f, it, a, rfl, H, J, by simp [TC], by simp [TC], fun _ _ => rfl⟩
 | l :: post, pre, f, it, n, a, H, m, hm, e, J, hz, z => by
  obtain ⟨m, rfl⟩ : ∃ q, m = q + 1 := ⟨m - 1, by simp at hm; omega⟩
  simp only [lC] at hm z;have hlen : pre.length < 100000 := by have := congrArg List.length e; simp at this; omega
  have ei : mIdx (lc all) (pre.length : Int) = some (l.t.c : Int) := by
   rw [e, vd, kb];have := yF (lc pre) (lc post) (l.t.c : Int)
   rwa [vq] at this
  rw [wv];refine Do.t (dT (by rw [e]; simp; omega)) ?_;refine Do.seq ei ?_;obtain ⟨⟨c, r, kids⟩, u, w⟩ := l;obtain ⟨h0, h1⟩ := hz _ (List.mem_cons_self ..);simp only at h0 h1;subst h0 h1;have H1 : Hp κ n a it ((Tr.mk c 0 .nil).nd u w ++ (nd f (-1) ++ (LN post ++ N))) L := H.p (npm fun p => by
   simp only [sg, Lt.nd, List.countP_append]; omega)
  have hR : f.size < 2 ^ 10 := by simp; omega
  refine (nh (k := m) (by omega) H1 J (fun t ht => by have := J.lt hR t ht; omega)).bind ?_;rintro _ ⟨f1, x, a1, rfl, H2, O, A, U, B⟩;rw [zG (by omega) (by omega)];have H3 : Hp κ (n + 32) a1 x (LN post ++ (nd f1 (-1) ++ N)) L := H2.p (npm fun p => by
   simp only [List.countP_append]; omega)
  have b2 : f1.size = f.size + 1 := by rw [<- F.ve, A.length_eq, lC, F.ve]
  have := mJ i all hl S hS post (pre ++ [⟨⟨c, 0, .nil⟩, u, w⟩]) f1 H3 m (by omega) (by rw [e]; simp) O (fun l hl => hz l (mC _ hl)) (by omega);have e2 : ((pre ++ [(⟨⟨c, 0, .nil⟩, u, w⟩ : Lt)]).length : Int) = (pre.length : Int) + 1 := by simp
  rw [e2] at this;refine this.mono ?_;rintro _ ⟨f2, D, a2, rfl, H4, W, X, Y, Z⟩;have y : TC ((((⟨⟨c, 0, .nil⟩, u, w⟩ : Lt) :: post)).map Lt.t) = c :: TC (post.map Lt.t) := by simp [rX, Tr.cells, F.cells]
  rw [y];have j : (TC (post.map Lt.t) ++ f1.cells).Perm (c :: TC (post.map Lt.t) ++ f.cells) := by
   refine (A.append_left _).trans ?_;exact List.perm_middle
  have hnd : ∀ d ∈ TC (post.map Lt.t), d ∉ c :: f.cells := fun d hd a0 => by
   have h5 := H1.nd;rw [List.map_append, List.map_append, List.map_append, xn, gi] at h5;have h6 : ((Tr.mk c 0 .nil).nd u w).map Nd.c = [c] := by simp [Tr.nd, nd]
   rw [h6] at h5;have h7 : ((c :: f.cells) ++ (TC (post.map Lt.t) ++ N.map Nd.c)).Nodup := by
    simpa using h5
   exact (List.nodup_append.1 h7).2.2 d a0 d (mL _ hd) rfl
  refine ⟨f2, D, a2, rfl, H4.mono (by simp only [lC]; omega), W, X.trans j, ?_, ?_⟩
  ·refine (j.map D).symm.trans (Y.trans ?_);refine (j.map x).trans ?_;have h8 : (c :: TC (post.map Lt.t) ++ f.cells).Perm (TC (post.map Lt.t) ++ (c :: f.cells)) := List.perm_middle.symm;refine (h8.map x).trans (List.Perm.trans ?_ (h8.map it).symm);rw [List.map_append, List.map_append];have h9 : (TC (post.map Lt.t)).map x = (TC (post.map Lt.t)).map it := List.map_congr_left fun d hd => B d (hnd d hd)
   rw [h9];exact U.append_left _
  ·intro d hd;have a4 : d ∉ TC (post.map Lt.t) ++ f1.cells := fun h => hd (j.mem_iff.1 h)
   rw [Z d a4];refine B d fun h => hd ?_
   rcases List.mem_cons.1 h with rfl | h
   ·exact mL _ (List.mem_cons_self ..)
   ·exact List.mem_append_right _ h
theorem aT {b : Bool} {g : F} (h : SK b g 0) : g = .nil := by cases h; rfl
theorem A3 : ∀ {f : F} {r : Nat}, SK true f r -> (f.trees.filter fun t => !(t.r == 0)).length <= r /\ (f.trees.filter fun t => t.r == 0).length <= r + 1 := by
 intro f r h;induction h with
 | nil => simp [F.trees]
 | @real c r kids rest h1 h2 i1 i2 =>
  simp only [F.trees, List.filter_cons];cases r with
  | zero =>
   have hr : rest = .nil := by cases h2; rfl
   subst hr;simp [F.trees]
  | succ r => simp; omega
 | @leaf d c r kids rest e h1 h2 i1 i2 =>
  simp only [F.trees, List.filter_cons];cases r with
  | zero =>
   have hr : rest = .nil := by cases h2; rfl
   subst hr;simp [F.trees]
  | succ r => simp; omega
theorem tr {k : Nat} {f : F} {p q : List Tr} {t : Tr} (H : Hp κ n a it (nd f (-1) ++ N) L) (e : f.trees = p ++ t :: q) (hp : (t.c : Int) ∉ cs p) (hq : (t.c : Int) ∉ cs q)
  (hg : ∀ s ∈ p ++ q, GT true it s) (S : ∀ s ∈ t.kids.trees, GT true it s) (A : SK true t.kids t.r) (B : (p ++ q).length <= 10) (c0 : t.r <= 10) (U : f.size < 1024) (hk : 95000 < k) :
  Do (vh k a (cs f.trees) (t.c : Int)) fun r => ∃ y it' a', r = (y.hd, ((it t.c).i : Int), a') /\ Hp κ (n + 700) a' it' (nd y (-1) ++ N) (((it t.c).i, (it t.c).cell (-1)) :: L) /\ HB true it' y /\ y.cells.Perm (TC (p ++ q) ++ t.kids.cells) /\ ((TC (p ++ q) ++ t.kids.cells).map it').Perm ((TC (p ++ q) ++ t.kids.cells).map it) /\ ∀ d, d ∉ TC (p ++ q) ++ t.kids.cells -> it' d = it d := by
 unfold vh;have W := sE H;have b4 := H.cap;have D := B;rw [lA] at D;have b5 := (fH A).1;obtain ⟨b6, b7⟩ := A3 A;rw [e, jj];refine Do.seq (tV (cs p) (cs q) (t.c : Int) hp hq (by simp [cs]; omega) (by simp [cs]; omega)) ?_;obtain ⟨p', u, w, hl, rfl, rfl⟩ := qP (f := f) (up := -1) e;have hN : nd f (-1) = LN p' ++ ((⟨t, -1, w⟩ : Lt).top :: (nd t.kids t.c ++ LN u)) := by
  rw [w7, hl, vc, sg, kO]; simp
 have H1 : Hp κ n a it ((⟨t, -1, w⟩ : Lt).top :: (LN (p' ++ u ++ t.kids.loose t.c) ++ N)) L := H.p (npm fun P => by
  rw [hN];simp only [vc, <- w7, List.countP_append, List.countP_cons]; omega)
 have c2 := t.kids.vO;have c3 : t.kids.size + 1 <= f.size := rZ (f := f) (by rw [e]; simp);have X : ∀ μ ∈ nd t.kids t.c, μ ∈ (⟨t, -1, w⟩ : Lt).top :: (LN (p' ++ u ++ t.kids.loose t.c) ++ N) := fun μ hμ => by
  refine mC _ (mL _ ?_);rw [vc, <- w7];exact List.mem_append_right _ hμ
 refine (ji (k := k) (f := t.kids) H1 (List.mem_cons_self ..) rfl X (by omega) (by omega)).bind ?_;rintro _ ⟨a1, rfl, H2⟩;have ek : cs t.kids.trees = lc (t.kids.loose t.c) := by simp only [lc, xI]
 have c6 : (t.kids.loose t.c).length = t.kids.len := by unfold F.len; rw [<- xI t.kids t.c]; simp
 have Y : cs (p'.map Lt.t) ++ cs (u.map Lt.t) = lc (p' ++ u) := by rw [vd]; rfl
 have b8 : (p' ++ u).length <= 10 := by simpa using B
 have z : ∀ l ∈ t.kids.loose t.c, l.top ∈ (⟨t, -1, w⟩ : Lt).top :: (LN (p' ++ u ++ t.kids.loose t.c) ++ N) := fun l hl => by
  refine mC _ (mL _ (nS ?_));exact List.mem_append_right _ hl
 have h0 := m5 (t.c : Int) (t.kids.loose t.c) z (by omega) (lc (p' ++ u)) (by rw [vq]; omega) (t.kids.loose t.c) [] H2 k (by omega) rfl;simp only [ek, Y];rw [vq];have e0 : lc (p' ++ u) ++ lc (pos []) = lc (p' ++ u) := by simp [pos, lc, cs]
 rw [e0] at h0;refine h0.bind ?_;rintro _ ⟨a2, rfl, H3⟩;refine (rK H3).bind ?_;rintro _ ⟨a3, rfl, H4⟩;have ec : lc (p' ++ u) ++ lc (pos (t.kids.loose t.c)) = lc (p' ++ u ++ pos (t.kids.loose t.c)) := (vd _ _).symm;have Z : (pos (t.kids.loose t.c)).length <= t.r := by
  have : (pos (t.kids.loose t.c)).length = (t.kids.trees.filter fun t => !(t.r == 0)).length := by
   rw [<- xI t.kids t.c, List.filter_map, lM]; rfl
  omega
 have a0 : (zer (t.kids.loose t.c)).length <= t.r + 1 := by
  have : (zer (t.kids.loose t.c)).length = (t.kids.trees.filter fun t => t.r == 0).length := by
   rw [<- xI t.kids t.c, List.filter_map, lM]; rfl
  omega
 have a6 : (LN (p' ++ u ++ t.kids.loose t.c) ++ N).Perm (LN (p' ++ u ++ pos (t.kids.loose t.c)) ++ (LN (zer (t.kids.loose t.c)) ++ N)) := by
  have h1 := jS (fK (t.kids.loose t.c));rw [vc] at h1;refine npm fun P => ?_
  have := h1.countP_eq P;simp only [vc, List.countP_append] at this ⊢; omega
 have H5 := Hp.p H4 a6;have x : ∀ l ∈ t.kids.loose t.c, GT true it l.t := tc S;simp only [ec];refine (s9 (b := true) (k := k) (by omega) (p' ++ u ++ pos (t.kids.loose t.c)) (by rw [lA]; omega) H5 (by
  intro l hl;rcases List.mem_append.1 hl with hl | hl
  ·refine hg l.t ?_;rw [<- List.map_append];exact List.mem_map_of_mem hl
  ·exact x l (List.mem_filter.1 hl).1)).bind ?_
 rintro _ ⟨y, a4, rfl, H6, g1, g2, g3⟩;have H7 : Hp κ _ a4 it (LN (zer (t.kids.loose t.c)) ++ (nd y (-1) ++ N)) _ := H6.p (npm fun P => by simp only [List.countP_append]; omega);have I : ∀ l ∈ zer (t.kids.loose t.c), l.t.r = 0 /\ l.t.kids = .nil := by
  intro l hl;obtain ⟨h1, h2⟩ := List.mem_filter.1 hl;have h3 : l.t.r = 0 := by simpa using h2
  refine ⟨h3, ?_⟩;have h4 := (x l h1).sk;rw [h3] at h4;exact aT h4
 have a7 : (TC ((zer (t.kids.loose t.c)).map Lt.t)).length = (zer (t.kids.loose t.c)).length := by
  have : ∀ ls : List Lt, (∀ l ∈ ls, l.t.r = 0 /\ l.t.kids = .nil) -> (TC (ls.map Lt.t)).length = ls.length := by
   intro ls;induction ls with
   | nil => intro _; rfl
   | cons l ls ih =>
    intro h;rw [pC, rX, lA, ih fun l hl => h l (mC _ hl)];simp [Tr.cells, (h l (List.mem_cons_self ..)).2, F.cells]; omega
  exact this _ I
 have j : (TC ((zer (t.kids.loose t.c)).map Lt.t) ++ y.cells).Perm (TC (p'.map Lt.t ++ u.map Lt.t) ++ t.kids.cells) := by
  have h1 := df ((fK (t.kids.loose t.c)).map Lt.t);rw [List.map_append, um, xI, <- F.xg] at h1;refine cpm fun P => ?_
  have h2 := h1.countP_eq P;have h3 := g3.countP_eq P;simp only [List.map_append, um, List.countP_append] at h2 h3 ⊢; omega
 have a8 := (rh e).length_eq;rw [F.ve, lC] at a8;have J := j.length_eq;rw [lA, a7, F.ve] at J;have h1 := mJ ((it t.c).i : Int) (zer (t.kids.loose t.c)) (by omega) f.size U (zer (t.kids.loose t.c)) [] y H7 k (by omega) rfl ⟨g1, .of g2⟩ I (by omega);rw [vq];refine h1.bind ?_;rintro _ ⟨f2, O, a5, rfl, H8, a9, b0, b1, b2⟩;refine ⟨_, rfl, f2, O, a5, rfl, H8.mono ?_, a9, b0.trans j, (j.map O).symm.trans (b1.trans (j.map it)), fun d hd => b2 d fun h => hd (j.mem_iff.1 h)⟩;rw [lA];omega
theorem kA {k : Nat} {f : F} (H : Hp κ n a it (nd f (-1) ++ N) L) (x : HB true it f) (z : f ≠ .nil) (hs : f.size < 1024) (hk : 95000 < k) :
  Do (p4 k a f.hd) fun r => ∃ c y it' D, r = (y.hd, ((it c).i : Int), D) /\ Hp κ (n + 900) D it' (nd y (-1) ++ N) (((it c).i, (it c).cell (-1)) :: L) /\ HB true it' y /\ (f.cells.map it).Perm (it c :: y.cells.map it') /\ (∀ d, d ∉ f.cells -> it' d = it d) /\ c ∈ f.cells /\ ∀ d ∈ f.cells, ¬ (it d).lt (it c) := by
 unfold p4;have j : ∀ ν ∈ nd f (-1), ν ∈ nd f (-1) ++ N := fun ν h => mL _ h
 have B := sE H;have S := f.vO;have I := H.cap;have J : f.size < 2 ^ 10 := by simpa using hs
 have hlen := x.len J;cases ef : f.trees with
 | nil =>
  cases f with
  | nil => exact absurd rfl z
  | cons => simp [F.trees] at ef
 | cons t0 Y =>
  have l : yt a f.hd = some true := by
   cases f with
   | nil => exact absurd rfl z
   | cons c r kids rest => exact H.live (j _ (List.mem_cons_self ..))
  refine Do.assoc (Do.seq l ?_);refine Do.seq rfl (Do.f rfl ?_);refine (vU (k := k) H j (by omega) (by omega)).bind ?_;rintro _ ⟨a1, rfl, H1⟩;refine (pf (k := k) H1 j x ef hk (by omega)).bind ?_;rintro _ ⟨t, a2, ht, rfl, O, A⟩;obtain ⟨p, q, e, hp, hq⟩ := ql O ht;have U := x.lt J t ht;have W : (p ++ q).length + 1 = f.len := by unfold F.len; rw [e]; simp; omega
  refine (tr (k := k) O e hp hq (fun s hs => x.good s (by rw [e]; rcases List.mem_append.1 hs with h | h <;> simp [h])) (x.good t ht).kids (x.good t ht).sk (by omega) (by omega) hs hk).bind ?_;rintro _ ⟨y, it', a3, rfl, X, h1, h2, h3, h4⟩;have u := rh e;refine ⟨_, rfl, t.c, y, it', a3, rfl, X.mono (by omega), h1, ?_, fun d hd => h4 d fun h => hd (u.mem_iff.2 (mC _ h)), u.mem_iff.2 (List.mem_cons_self ..), A⟩;refine (u.map it).trans ?_;rw [pC];exact (h3.symm.trans (h2.symm.map it')).cons _
theorem nt {k : Nat} {f : F} {x : It} (H : Hp κ n a it (nd f (-1) ++ N) ((x.i, x.cell (-1)) :: L)) (B : HB true it f) (hs : f.size < 1024) (hr : 2 * f.size + 2 * N.length + 1 + L.length < κ.C) (hk : 95000 < k) :
  Do (r4 k a f.hd (x.i : Int)) fun r => ∃ j it' D, r = (j.hd, true, D) /\ Hp κ (n + 500) D it' (nd j (-1) ++ N) L /\ HB true it' j /\ (j.cells.map it').Perm (x :: f.cells.map it) /\ ∀ ν ∈ N, it' ν.c = it ν.c := by
 unfold r4;have J : f.size < 2 ^ 10 := by simpa using hs
 refine (rG H (by rw [lA, rV]; omega)).bind ?_;rintro _ ⟨c, a1, rfl, H1, I⟩;refine Do.f rfl ?_;have l : c ∉ f.cells := fun h => by
  obtain ⟨ν, y, e⟩ := sZ (up := -1) h;exact I ν (mL _ y) e
 have z : HB true (upd it c x) f := B.congr fun d hd => vL _ _ (fun e => l (e ▸ hd))
 have O : Hp κ (n + 3) a1 (upd it c x) ((Tr.mk c 0 .nil).nd (-1) (-1) ++ (nd f (-1) ++ N)) L := H1;refine (nh (k := k) (by omega) O z (fun t ht => by have := B.lt J t ht; omega)).bind ?_;rintro _ ⟨j, it', a2, rfl, S, h1, h2, h3, h4⟩;refine ⟨_, rfl, j, it', a2, rfl, S.mono (by omega), h1, ?_, fun ν y => ?_⟩
 ·refine (h2.map it').trans (h3.trans ?_);rw [pC, uq, List.map_congr_left (f := upd it c x) (g := it) fun d hd => vL _ _ fun e => l (e ▸ hd)]
 ·have u := I ν (List.mem_append_right _ y);rw [h4 ν.c ?_, vL _ _ u];intro hm;rcases List.mem_cons.1 hm with A | A
  ·exact u A
  ·have := H.nd;rw [List.map_append, xn] at this;exact (List.nodup_append.1 this).2.2 _ A _ (List.mem_map_of_mem y) rfl
theorem uP {k : Nat} {f g : F} (H : Hp κ n a it (nd f (-1) ++ (nd g (-1) ++ N)) L) (hf : HB true it f) (z : HB true it g) (hs : f.size < 256) (hs' : g.size < 256) (hk : 95000 < k) :
  Do (qb k a f.hd g.hd) fun r => ∃ u A, r = (u.hd, A) /\ Hp κ (n + 500) A it (nd u (-1) ++ N) L /\ HB true it u /\ u.cells.Perm (f.cells ++ g.cells) := by
 unfold qb;have i := sE H;rw [lA, rV] at i;have I := f.vO;have B := g.vO;have D := H.cap;have hlen := hf.len (R := 8) (by simpa using hs);have j := z.len (R := 8) (by simpa using hs');by_cases e : f.hd = g.hd
 ·have : f = .nil /\ g = .nil := by
   cases f with
   | nil =>
    cases g with
    | nil => exact ⟨rfl, rfl⟩
    | cons c r kids rest => simp only [F.hd] at e; omega
   | cons c r kids rest =>
    cases g with
    | nil => simp only [F.hd] at e; omega
    | cons c' r' x y =>
     simp only [F.hd] at e;have hn := H.nd;have : c = c' := by omega
     subst this;rw [nd, List.cons_append, pC, List.nodup_cons] at hn;exact absurd (by simp [nd]) hn.1
  obtain ⟨rfl, rfl⟩ := this;refine Do.t (by simp) ?_;exact ⟨_, rfl, .nil, a, rfl, H.mono (by omega), HB.nil, .refl _⟩
 ·refine Do.f (by simpa using e) ?_;refine (vU (k := k) H (fun ν h => mL _ h) (by omega) (by omega)).bind ?_;rintro _ ⟨a1, rfl, H1⟩;refine (vU (k := k) H1 (fun ν h => List.mem_append_right _ (mL _ h)) (by omega) (by omega)).bind ?_;rintro _ ⟨a2, rfl, J⟩;refine Do.seq (xd (by simp [cs] at *; unfold F.len at hlen j; omega)) ?_;have O : cs f.trees ++ cs g.trees = lc (f.loose (-1) ++ g.loose (-1)) := by
   rw [vd, lc, lc, xI, xI]
  have S : Hp κ (n + f.len + g.len) a2 it (LN (f.loose (-1) ++ g.loose (-1)) ++ N) L := by
   rw [vc, <- w7, <- w7, aA]; exact J
  have U : (f.loose (-1) ++ g.loose (-1)).length = f.len + g.len := by
   unfold F.len; rw [<- xI f (-1), <- xI g (-1)]; simp
  simp only [O];refine (s9 (b := true) (k := k) (by omega) _ (by omega) S (by
   intro l hl;rcases List.mem_append.1 hl with hl | hl
   ·exact tc hf.good l hl
   ·exact tc z.good l hl)).bind ?_
  rintro _ ⟨u, a3, rfl, W, g1, g2, g3⟩;refine ⟨_, rfl, u, a3, rfl, W.mono (by omega), ⟨g1, .of g2⟩, g3.trans ?_⟩;rw [List.map_append, um, xI, xI, <- F.xg, <- F.xg]
theorem tj {k : Nat} {f : F} {c : Nat} (H : Hp κ n a it (nd f (-1) ++ N) L) (j : HB true it f) (O : c ∈ f.cells) (hs : f.size < 1024) (hk : 95000 < k) :
  Do (py k a f.hd ((it c).i : Int)) fun r => ∃ it' l S, r = (l.hd, S) /\ Hp κ (n + 900) S it' (nd l (-1) ++ N) (((it c).i, (it c).cell (-1)) :: L) /\ HB true it' l /\ (∀ d, d ∉ f.cells -> it' d = it d) /\ (f.cells.map it).Perm (it c :: l.cells.map it') /\ (∀ d ∈ l.cells, d ∈ f.cells) := by
 unfold py vW;obtain ⟨ν, A, rfl⟩ := sZ (up := -1) O;have U : ν ∈ nd f (-1) ++ N := mL _ A;have a7 := l6 H;have x : 0 < f.size := by
  rw [<- F.ve]; exact List.length_pos_of_mem O
 have B := sE H;have a8 := f.vO;have W := H.cap;have D : f.size < 2 ^ 10 := by simpa using hs
 have hlen := j.len D;obtain ⟨R, h1, h2, h3⟩ := size_le (b := true) H x fun t ht => (j.good t ht).sk
 have a9 := h3 10 D;refine Do.assoc ((Ar.cell H (H.item U) (f := 9) (v := (ν.c : Int)) rfl (by omega) (by have := H.lt U; omega)).bind ?_);rintro _ ⟨a1, rfl, H1⟩;refine Do.seq rfl ?_;refine Do.f (by simp) ?_;have := pD (k := k) true (nd f (-1)) j.upOK R (fun ν A => by
  obtain ⟨t, ht, e⟩ := oe f (-1) (fun t ht => (j.good t ht).sk) ν A;have := h1 t ht; omega) (N := N) (L := L) H1 ν A (by omega) h2 j.ord.any
 refine this.bind ?_;rintro _ ⟨μ, it', a2, rfl, hμ, H2, I, X, Y, _, e5⟩;obtain ⟨J, Z⟩ := e5 rfl;rw [xn] at X Y;obtain ⟨t, ht, et⟩ := fM (fun t ht => (j.good t ht).sk) hμ J;have y : ∀ ν ∈ nd f (-1), ν ∈ nd f (-1) ++ N := fun ν h => mL _ h
 refine (vU (k := k) H2 y (by omega) (by omega)).bind ?_;rintro _ ⟨a3, rfl, H3⟩;rw [et] at Z I ⊢;refine Do.seq (p9 (cs f.trees) (t.c : Int) (by rw [pz]; unfold F.len at hlen; omega) (by rw [pz]; unfold F.len at hlen; omega) (List.mem_map.2 ⟨t, ht, rfl⟩)) ?_;refine Do.f rfl ?_;obtain ⟨p, q, e, hp, hq⟩ := ql H3 ht;have hn : f.cells.Nodup := by
  have := H.nd;rw [List.map_append, xn] at this;exact (List.nodup_append.1 this).1
 obtain ⟨g1, g2⟩ := kM hn j e Z;have b4 := j.lt D t ht;have b5 : (p ++ q).length + 1 = f.len := by unfold F.len; rw [e]; simp; omega
 refine (tr (k := k) H3 e hp hq g1 g2 (j.good t ht).sk (by omega) (by omega) hs hk).bind ?_;rintro _ ⟨l, z, a4, rfl, H4, h4, h5, h6, h7⟩;rw [I] at H4;have u := rh e;refine ⟨_, rfl, z, l, a4, rfl, H4.mono (by omega), h4, fun d hd => ?_, ?_, fun d hd => u.mem_iff.2 (mC _ (h5.mem_iff.1 hd))⟩
 ·rw [h7 d fun h => hd (u.mem_iff.2 (mC _ h)), X d hd]
 ·refine Y.symm.trans ?_;have := u.map it';rw [pC, I] at this;exact this.trans ((h6.symm.trans (h5.symm.map z)).cons _)
end Sk
end
end
noncomputable section
set_option maxRecDepth 10000
namespace Sk
def KH : KS := fun it M r => ∃ f : F, M = nd f (-1) /\ r = f.hd /\ HB true it f
section
variable {κ : Cfg} {n : Nat} {a : zb} {L : Heap} {r : Int} {its : List It} {C : Heap}
theorem yE {it : Nat -> It} (f : F) (u : Int) : ((nd f u).map fun ν => it ν.c) = f.cells.map it := by rw [<- xn f u, List.map_map]; rfl
theorem uG {it : Nat -> It} {f : F} (h : its.Perm ((nd f (-1)).map fun ν => it ν.c)) : its.length = f.size := by rw [h.length_eq, lM, rV]
theorem eJ : HK KH (-1) [] [] := ⟨fun _ => ⟨0, 0, 0⟩, [], ⟨.nil, rfl, rfl, HB.nil⟩, .refl _, .refl _⟩
theorem kJ {k : Nat} {x : It} (h : HK KH r its C) (H : Ar κ n a (C ++ ((x.i, x.cell (-1)) :: L))) (hr : 2 * its.length + 1 + L.length < κ.C) (hs : its.length < 1024) (hk : 95000 < k) :
  Do (r4 k a r (x.i : Int)) fun res => ∃ r' C' e, res = (r', true, e) /\ HK KH r' (x :: its) C' /\ Ar κ (n + 500) e (C' ++ L) := by
 obtain ⟨it, M, ⟨f, rfl, rfl, t⟩, hC, j⟩ := h;have hl := uG j;have u : Hp κ n a it (nd f (-1) ++ []) ((x.i, x.cell (-1)) :: L) := by rw [aN]; exact Ar.p H (hC.append_right _)
 refine (nt u t (by omega) (by simp only [List.length_nil]; omega) hk).mono ?_;rintro _ ⟨l, it', e, rfl, H1, h1, h2, -⟩;rw [aN] at H1;refine ⟨l.hd, _, e, rfl, ⟨it', _, ⟨l, rfl, rfl, h1⟩, .refl _, ?_⟩, H1⟩;rw [yE] at j ⊢;exact (j.cons x).trans h2.symm
theorem eR {k : Nat} (h : HK KH r its C) (H : Ar κ n a (C ++ L)) (hs : its.length < 1024) (hk : 95000 < k) : Do (pn k a r) fun res => ∃ e, Ar κ (n + 100) e (C ++ L) /\ ((its = [] /\ res = (-1, e)) \/ ∃ x ∈ its, res = ((x.i : Int), e) /\ ∀ y ∈ its, ¬ y.lt x) := by
 obtain ⟨it, M, ⟨f, rfl, rfl, l⟩, hC, j⟩ := h;have hl := uG j;have t : Hp κ n a it (nd f (-1) ++ []) L := by rw [aN]; exact Ar.p H (hC.append_right _)
 have hlen := l.len (R := 10) (by omega);refine (lV t l hk).mono ?_;rintro res ⟨e, H1, h1⟩;rw [aN] at H1;rw [yE] at j;refine ⟨e, Ar.mono (Ar.p H1 (hC.append_right _).symm) (by omega), ?_⟩;rcases h1 with ⟨rfl, rfl⟩ | ⟨c, u, rfl, h2⟩
 ·exact Or.inl ⟨j.eq_nil, rfl⟩
 ·refine Or.inr ⟨it c, j.mem_iff.2 (List.mem_map_of_mem u), rfl, fun y z => ?_⟩;obtain ⟨d, hd, rfl⟩ := List.mem_map.1 (j.mem_iff.1 z);exact h2 d hd
theorem fD {k : Nat} (h : HK KH r its C) (H : Ar κ n a (C ++ L)) (l : its ≠ []) (hs : its.length < 1024) (hk : 95000 < k) :
  Do (p4 k a r) fun res => ∃ x q r' C' j, res = (r', (x.i : Int), j) /\ its.Perm (x :: q) /\ (∀ y ∈ its, ¬ y.lt x) /\ HK KH r' q C' /\ Ar κ (n + 900) j (C' ++ ((x.i, x.cell (-1)) :: L)) := by
 obtain ⟨it, M, ⟨f, rfl, rfl, u⟩, hC, e⟩ := h;have hl := uG e;have z : Hp κ n a it (nd f (-1) ++ []) L := by rw [aN]; exact Ar.p H (hC.append_right _)
 rw [yE] at e;have hf : f ≠ .nil := by rintro rfl; exact l e.eq_nil
 refine (kA z u hf (by omega) hk).mono ?_;rintro _ ⟨c, t, it', j, rfl, H1, h1, h2, -, B, h3⟩;rw [aN] at H1;refine ⟨it c, t.cells.map it', t.hd, _, j, rfl, e.trans h2, fun y A => ?_, ⟨it', _, ⟨t, rfl, rfl, h1⟩, .refl _, by rw [yE]⟩, H1⟩;obtain ⟨d, hd, rfl⟩ := List.mem_map.1 (e.mem_iff.1 A);exact h3 d hd
theorem dh {k : Nat} {x : It} (h : HK KH r its C) (t : x ∈ its) (H : Ar κ n a (C ++ L)) (hs : its.length < 1024) (hk : 95000 < k) :
  Do (py k a r (x.i : Int)) fun res => ∃ q r' C' e, res = (r', e) /\ its.Perm (x :: q) /\ HK KH r' q C' /\ Ar κ (n + 900) e (C' ++ ((x.i, x.cell (-1)) :: L)) := by
 obtain ⟨it, M, ⟨f, rfl, rfl, u⟩, hC, j⟩ := h;have hl := uG j;have y : Hp κ n a it (nd f (-1) ++ []) L := by rw [aN]; exact Ar.p H (hC.append_right _)
 rw [yE] at j;obtain ⟨c, z, rfl⟩ := List.mem_map.1 (j.mem_iff.1 t);refine (tj y u z (by omega) hk).mono ?_;rintro _ ⟨it', l, e, rfl, H1, h1, -, h2, -⟩;rw [aN] at H1;exact ⟨l.cells.map it', l.hd, _, e, rfl, j.trans h2, ⟨it', _, ⟨l, rfl, rfl, h1⟩, .refl _, by rw [yE]⟩, H1⟩
theorem jk {k : Nat} {x y : It} (h : HL KH r its x y C) (hi : y.i = x.i) (l : ¬ x.lt y) (H : Ar κ n a (C ++ L)) (hs : its.length < 1024) (hk : 95000 < k) :
  Do (qf k a r (y.i : Int)) fun res => ∃ r' q C' j, res = (r', j) /\ its.Perm (x :: q) /\ HK KH r' (y :: q) C' /\ Ar κ (n + 150) j (C' ++ L) := by
 obtain ⟨it, M, ν, ⟨f, rfl, rfl, D⟩, z, rfl, hC, A⟩ := h;have hl := uG A;have B : Hp κ n a (upd it ν.c y) (nd f (-1) ++ []) L := by rw [aN]; exact Ar.p H (hC.append_right _)
 have hn := B.nd;rw [aN] at hn;obtain ⟨q, t, e⟩ := jU (y := y) hn z rfl;have u : ν.c ∈ f.cells := by rw [<- xn f (-1)]; exact List.mem_map_of_mem z
 refine (nM B D u l (by omega) (Q := 10) (by omega) (by omega)).mono ?_;rintro _ ⟨it', j, rfl, H1, h1, -, h2⟩;rw [aN] at H1;refine ⟨f.hd, q, _, j, rfl, A.trans t, ⟨it', _, ⟨f, rfl, rfl, h1⟩, .refl _, ?_⟩, Ar.mono H1 (by omega)⟩;rw [yE] at e ⊢;exact e.symm.trans h2.symm
theorem kT {k : Nat} {s : Int} {e : List It} {C' : Heap} (h : HK KH r its C) (W : HK KH s e C') (H : Ar κ n a (C ++ (C' ++ L))) (hs : its.length < 256) (hs' : e.length < 256) (hk : 95000 < k) :
  Do (qb k a r s) fun res => ∃ t u S, res = (t, S) /\ HK KH t (its ++ e) u /\ Ar κ (n + 500) S (u ++ L) := by
 obtain ⟨it, M, ⟨t, rfl, rfl, X⟩, hC, z⟩ := h;obtain ⟨it', M', ⟨i, rfl, rfl, A⟩, x, l⟩ := W;have hl := uG z;have Y := uG l;rw [yE] at z l;have y : ∀ d ∈ t.cells, d ∉ i.cells := by
  have hn := Ar.nodup H;have h1 := ((((hC.append ((x).append_right L)).map Prod.fst)).nodup_iff).1 hn;rw [List.map_append, List.map_append] at h1;intro d hd B;have D : d ∈ (lay it (nd t (-1))).map Prod.fst := ((sD it (nd t (-1))).mem_iff).2 (mL _ (by rw [xn]; exact hd));have F : d ∈ (lay it' (nd i (-1))).map Prod.fst := ((sD it' (nd i (-1))).mem_iff).2 (mL _ (by rw [xn]; exact B));exact (List.nodup_append.1 h1).2.2 d D d (mL _ F) rfl
 let j : Nat -> It := fun d => if d ∈ t.cells then it d else it' d
 have I : ∀ d ∈ t.cells, j d = it d := fun d hd => if_pos hd
 have J : ∀ d ∈ i.cells, j d = it' d := fun d hd => if_neg fun h => y d h hd
 have D : lay j (nd t (-1)) = lay it (nd t (-1)) := ud fun ν O => I _ (by rw [<- xn t (-1)]; exact List.mem_map_of_mem O)
 have F : lay j (nd i (-1)) = lay it' (nd i (-1)) := ud fun ν O => J _ (by rw [<- xn i (-1)]; exact List.mem_map_of_mem O)
 have Z : Hp κ n a j (nd t (-1) ++ (nd i (-1) ++ [])) L := by
  unfold Hp;rw [aN, oD, D, F, aA];exact Ar.p H (hC.append (x.append_right L))
 refine (uP Z (X.congr I) (A.congr J) (by omega) (by omega) hk).mono ?_;rintro _ ⟨U, a1, rfl, H1, h1, h2⟩;rw [aN] at H1;refine ⟨U.hd, _, a1, rfl, ⟨j, _, ⟨U, rfl, rfl, h1⟩, .refl _, ?_⟩, H1⟩;rw [yE];have h3 := (h2.map j).symm;rw [List.map_append] at h3;have f1 : t.cells.map j = t.cells.map it := List.map_congr_left I;have f2 : i.cells.map j = i.cells.map it' := List.map_congr_left J;rw [f1, f2] at h3;exact (z.append l).trans h3
end
end Sk
end
end Go.Proofs.YteflmnbkdhneiaaGreat
