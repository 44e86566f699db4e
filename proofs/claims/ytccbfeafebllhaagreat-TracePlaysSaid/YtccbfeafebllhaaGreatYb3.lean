/-
  The statements TracePlays of the program.
  Text 3 of 8: of what the proof needs (a row of the program: no condition is left); put together and made narrow by a program.
-/
import Derived.KernelRfl
import Derived.Test.YtccbfeafebllhaaGreatYb2
set_option linter.unusedVariables false
set_option linter.unusedSimpArgs false
namespace Go.Proofs.YtccbfeafebllhaaGreat
open Go.Th
noncomputable section
set_option maxRecDepth 10000
def Do {α : Type} (o : Option α) (Q : α -> Prop) : Prop := ∃ r, o = some r /\ Q r
theorem Do.bind {α β : Type} {o : Option α} {f : α -> Option β} {P : α -> Prop} {Q : β -> Prop} (h : Do o P) (k : ∀ r, P r -> Do (f r) Q) : Do (o.bind f) Q := by
 obtain ⟨r, rfl, hp⟩ := h;exact k r hp
theorem Do.ret {α : Type} {r : α} {Q : α -> Prop} (h : Q r) : Do (some r) Q := ⟨r, rfl, h⟩
theorem Do.mono {α : Type} {o : Option α} {P Q : α -> Prop} (h : Do o P) (k : ∀ r, P r -> Q r) : Do o Q := by
 obtain ⟨r, e, hp⟩ := h;exact ⟨r, e, k r hp⟩
theorem Do.of {α : Type} {o : Option α} {r : α} {Q : α -> Prop} (e : o = some r) (h : Q r) : Do o Q := ⟨r, e, h⟩
theorem Do.t {α : Type} {b : Bool} {x y : Option α} {Q : α -> Prop} (h : b = true) (k : Do x Q) : Do (bif b then x else y) Q := by subst h; exact k
theorem Do.f {α : Type} {b : Bool} {x y : Option α} {Q : α -> Prop} (h : b = false) (k : Do y Q) : Do (bif b then x else y) Q := by subst h; exact k
theorem Do.tb {α β : Type} {b : Bool} {x y : Option α} {g : α -> Option β} {Q : β -> Prop} (h : b = true) (k : Do (x.bind g) Q) : Do ((bif b then x else y).bind g) Q := by subst h; exact k
theorem Do.fb {α β : Type} {b : Bool} {x y : Option α} {g : α -> Option β} {Q : β -> Prop} (h : b = false) (k : Do (y.bind g) Q) : Do ((bif b then x else y).bind g) Q := by subst h; exact k
theorem Do.if {α : Type} {b : Bool} {x y : Option α} {Q : α -> Prop} (kt : b = true -> Do x Q) (e : b = false -> Do y Q) : Do (bif b then x else y) Q := by
 cases b
 ·exact e rfl
 ·exact kt rfl
theorem Do.seq {α β : Type} {o : Option α} {f : α -> Option β} {r : α} {Q : β -> Prop} (e : o = some r) (k : Do (f r) Q) : Do (o.bind f) Q := by subst e; exact k
theorem Do.elim {α : Type} {o : Option α} {Q : α -> Prop} (h : Do o Q) : ∃ r, o = some r /\ Q r := h
theorem Do.assoc {α β γ : Type} {o : Option α} {f : α -> Option β} {g : β -> Option γ} {Q : γ -> Prop} (h : Do (o.bind fun x => (f x).bind g) Q) : Do ((o.bind f).bind g) Q := by
 cases o <;> exact h
theorem zR {x : Int} (h1 : -9223372036854775808 <= x) (h2 : x < 9223372036854775808) : w64 x = x := by
 show (if (true && decide (x % 18446744073709551616 >= 9223372036854775808)) = true then x % 18446744073709551616 - 18446744073709551616 else x % 18446744073709551616) = x;by_cases h : x % 18446744073709551616 >= 9223372036854775808
 ·rw [if_pos (by simpa using h)]; omega
 ·rw [if_neg (by simpa using h)]; omega
theorem yJ {α : Type} (l : List α) (c : Nat) : mIdx l (c : Int) = l[c]? := by
 unfold mIdx; rw [if_pos (by omega)]; simp
theorem yr {α : Type} (p q : List α) (y : α) : mIdx (p ++ y :: q) (p.length : Int) = some y := by
 rw [yJ]; simp
theorem y4 {α : Type} {l ys : List α} (h : l.length + ys.length <= 1073741824) : mApp l ys = some (l ++ ys) := by unfold mApp; rw [if_pos h]
theorem bA {i : Int} {n : Nat} (h : 0 <= i) (e : i < (n : Int)) : mIn i n = some () := by unfold mIn; rw [if_pos ⟨h, e⟩]
instance B9 : DecidableEq zy := fun a b => by cases a; cases b; simp only [zy.mk.injEq]; exact inferInstance
abbrev Heap := List (Nat × zy)
theorem pm {l l' : Heap} (h : ∀ p, l.count p = l'.count p) : l.Perm l' := List.perm_iff_count.2 h
structure Cfg where
 C : Nat
 b : Int
 g : Int
 mo : Int
structure Ar (κ : Cfg) (n : Nat) (a : za) (L : Heap) : Prop where
 len : a.l.length = κ.C
 cap : κ.C <= 65536
 nev : ∃ N : Nat, a.never = (N : Int) /\ N <= κ.C /\ (L.map Prod.fst ++ a.free.map Int.toNat).Perm (List.range N)
 fre : ∀ f ∈ a.free, 0 <= f
 hav : ∀ p ∈ L, a.l[p.1]? = some p.2 /\ p.2.taken = true
 oth : ∀ (c : Nat) x, a.l[c]? = some x -> x.taken = true -> c ∈ L.map Prod.fst
 b0 : 0 <= κ.b
 lo : κ.b <= a.m_.steps
 hi : a.m_.steps <= κ.b + n
 mx : a.m_.steps <= 9223372036854775807
 beg : a.m_.begun = κ.g
 mst : a.m_.most = κ.mo
theorem Ar.p {κ : Cfg} {n : Nat} {a : za} {L L' : Heap} (H : Ar κ n a L) (h : L.Perm L') : Ar κ n a L' where
 len := H.len
 cap := H.cap
 nev := by
  obtain ⟨N, e, i, hp⟩ := H.nev;exact ⟨N, e, i, ((h.symm.map _).append_right _).trans hp⟩
 fre := H.fre
 hav := fun p hp => H.hav p (h.mem_iff.2 hp)
 oth := fun c x e t => ((h.map _).mem_iff).1 (H.oth c x e t)
 b0 := H.b0
 lo := H.lo
 hi := H.hi
 mx := H.mx
 beg := H.beg
 mst := H.mst
theorem Ar.mono {κ : Cfg} {n m : Nat} {a : za} {L : Heap} (H : Ar κ n a L) (h : n <= m) : Ar κ m a L := { H with hi := by have := H.hi; omega }
theorem Ar.t2 {κ : Cfg} {n : Nat} {a : za} {x y : Nat × zy} {L : Heap} (H : Ar κ n a (x :: y :: L)) : Ar κ n a (y :: x :: L) := H.p (List.Perm.swap ..)
theorem Ar.t3 {κ : Cfg} {n : Nat} {a : za} {x y z : Nat × zy} {L : Heap} (H : Ar κ n a (x :: y :: z :: L)) : Ar κ n a (z :: x :: y :: L) := H.p (pm fun p => by simp only [List.count_cons]; omega)
theorem Ar.t4 {κ : Cfg} {n : Nat} {a : za} {x y z u : Nat × zy} {L : Heap} (H : Ar κ n a (x :: y :: z :: u :: L)) : Ar κ n a (u :: x :: y :: z :: L) := H.p (pm fun p => by simp only [List.count_cons]; omega)
theorem Ar.lt {κ : Cfg} {n : Nat} {a : za} {L : Heap} (H : Ar κ n a L) {c : Nat} {x : zy} (h : (c, x) ∈ L) : c < κ.C := by
 have := (H.hav _ h).1;have h2 := (List.getElem?_eq_some_iff.1 this).1;rw [<- H.len]; exact h2
theorem Ar.nodup {κ : Cfg} {n : Nat} {a : za} {L : Heap} (H : Ar κ n a L) : (L.map Prod.fst).Nodup := by
 obtain ⟨N, _, _, hp⟩ := H.nev;exact (List.nodup_append.1 (hp.nodup_iff.2 List.nodup_range)).1
theorem Ar.room {κ : Cfg} {n : Nat} {a : za} {L : Heap} (H : Ar κ n a L) : L.length <= κ.C := by
 obtain ⟨N, _, e, hp⟩ := H.nev;have := hp.length_eq;simp at this; omega
theorem Ar.uniq {κ : Cfg} {n : Nat} {a : za} {L : Heap} (H : Ar κ n a L) {c : Nat} {x y : zy} (h : (c, x) ∈ L) (j : (c, y) ∈ L) : x = y := by
 have i := (H.hav _ h).1;have e := (H.hav _ j).1;simp only at i e;rw [i] at e; exact Option.some.inj e
theorem cx (m : zG) (h0 : 0 <= m.steps) (h1 : m.steps <= 9223372036854775807) :
  ∃ s, xp m 1 = some (zG.mk s m.begun m.most) /\ m.steps <= s /\ s <= m.steps + 1 /\ s <= 9223372036854775807 := by
 unfold xp vM;have e : w64 (9223372036854775807 - (if (1 : Int) > 0 then 1 else 0)) = 9223372036854775806 := by rw [if_pos (by decide)]; exact zR (by decide) (by decide)
 rw [e];simp only [Int.reduceLT, Int.reduceGT, gt_iff_lt, if_true, decide_true, Bool.true_and, decide_false, Bool.false_and, cF];by_cases h : 9223372036854775806 < m.steps
 ·rw [dT h]; exact ⟨_, rfl, by omega, by omega, by omega⟩
 ·rw [dF h];simp only [cF, bS];rw [zR (by omega) (by omega)];exact ⟨_, rfl, by omega, by omega, by omega⟩
theorem Ar.tick {κ : Cfg} {n : Nat} {a : za} {L : Heap} (H : Ar κ n a L) : ∃ m, xp a.m_ 1 = some m /\ Ar κ (n + 1) (za.mk a.l a.never a.free m) L := by
 obtain ⟨s, e, h1, h2, h3⟩ := cx a.m_ (Int.le_trans H.b0 H.lo) H.mx;have h4 := H.lo;have i := H.hi;exact ⟨_, e, { H with lo := by simp only; omega, hi := by simp only; omega, mx := h3, beg := H.beg, mst := H.mst }⟩
theorem ny {κ : Cfg} {n : Nat} {a : za} {L : Heap} (H : Ar κ n a L) {c : Nat} {x : zy} (h : (c, x) ∈ L) : ym a (c : Int) = some true := by
 unfold ym;have h1 := H.lt h;have h2 := H.hav _ h;have d1 : decide ((c : Int) >= 0) = true := by simp
 have d2 : decide ((c : Int) < (a.l.length : Int)) = true := by simp [H.len]; exact h1
 rw [d1, d2, yJ, h2.1];have h3 : x.taken = true := h2.2;simp [h3]
theorem ky {a : za} {c : Int} (h : c < 0) : ym a c = some false := by
 unfold ym;rw [dF (by omega)]
 rfl
theorem AA {a : za} {c f : Int} (h : ym a c = some true) (h0 : 0 <= f) (h1 : f < 10) : xZ a c f = some true := by
 unfold xZ;rw [h];simp [h0, h1]
theorem Bh {a : za} {c f : Int} (h : ym a c = some false) : xZ a c f = some false := by
 unfold xZ;rw [h]
 rfl
theorem Ar.get' {κ : Cfg} {n : Nat} {a : za} {L : Heap} (H : Ar κ n a L) {c : Nat} {x : zy} (h : (c, x) ∈ L) {f v : Int} (hf : zy.rZ x f = some v) (h0 : 0 <= f) (h1 : f < 10) :
  ∃ m, zW a (c : Int) f = some (v, za.mk a.l a.never a.free m) /\ Ar κ (n + 1) (za.mk a.l a.never a.free m) L := by
 obtain ⟨m, e, i⟩ := H.tick;refine ⟨m, ?_, i⟩;unfold zW;rw [e];simp only [bS];rw [AA (ny i h) h0 h1];simp only [bS, Bool.not_true, cF];rw [yJ, (H.hav _ h).1];simp only [bS];rw [bA h0 (by omega)];simp only [bS];rw [hf]
 rfl
theorem Ar.get {κ : Cfg} {n : Nat} {a : za} {L : Heap} (H : Ar κ n a L) {c : Nat} {x : zy} (h : (c, x) ∈ L) {f v : Int} (hf : zy.rZ x f = some v) (h0 : 0 <= f := by decide) (h1 : f < 10 := by decide) :
  Do (zW a (c : Int) f) fun r => ∃ a', r = (v, a') /\ Ar κ (n + 1) a' L := by
 obtain ⟨m, e, i⟩ := H.get' h hf h0 h1;exact ⟨_, e, _, rfl, i⟩
theorem Ar.A4 {κ : Cfg} {n : Nat} {a : za} {L : Heap} (H : Ar κ n a L) {c f : Int} (h : c < 0) :
  ∃ m, zW a c f = some (-1, za.mk a.l a.never a.free m) /\ Ar κ (n + 1) (za.mk a.l a.never a.free m) L := by
 obtain ⟨m, e, i⟩ := H.tick;refine ⟨m, ?_, i⟩;unfold zW;rw [e];simp only [bS];rw [Bh (ky h)]
 rfl
theorem Ar.getN {κ : Cfg} {n : Nat} {a : za} {L : Heap} (H : Ar κ n a L) {c f : Int} (h : c < 0) :
  Do (zW a c f) fun r => ∃ a', r = (-1, a') /\ Ar κ (n + 1) a' L := by
 obtain ⟨m, e, i⟩ := H.A4 (f := f) h;exact ⟨_, e, _, rfl, i⟩
theorem Ar.cell {κ : Cfg} {n : Nat} {a : za} {L : Heap} (H : Ar κ n a L) {c : Nat} {x : zy} (h : (c, x) ∈ L) {f v : Int} (hf : zy.rZ x f = some v) (hv : -1 <= v) (j : v < κ.C) (h0 : 0 <= f := by decide) (h1 : f < 10 := by decide) :
  Do (zI a (c : Int) f) fun r => ∃ a', r = (v, a') /\ Ar κ (n + 1) a' L := by
 obtain ⟨m, e, i⟩ := H.get' h hf h0 h1;unfold zI;rw [e];simp only [bS];by_cases hn : v < 0
 ·rw [dT hn];have : v = -1 := by omega
  subst this;exact ⟨_, rfl, _, rfl, i⟩
 ·rw [dF hn];have : decide (v >= (a.l.length : Int)) = false := by rw [H.len]; exact dF (by omega)
  simp only [cF, bS];rw [this];exact ⟨_, rfl, _, rfl, i⟩
theorem Ar.eY {κ : Cfg} {n : Nat} {a : za} {L : Heap} (H : Ar κ n a L) {c f : Int} (h : c < 0) :
  Do (zI a c f) fun r => ∃ a', r = (-1, a') /\ Ar κ (n + 1) a' L := by
 obtain ⟨m, e, i⟩ := H.A4 (f := f) h;unfold zI;rw [e];exact ⟨_, rfl, _, rfl, i⟩
theorem getD_set_ne {α : Type} {l : List α} {i j : Nat} {x : α} (h : i ≠ j) : (l.set i x)[j]? = l[j]? := by
 rw [List.getElem?_set]; rw [if_neg h]
theorem Ar.set {κ : Cfg} {n : Nat} {a : za} {L : Heap} {c : Nat} {x y : zy} (H : Ar κ n a ((c, x) :: L)) {f v : Int} (hf : zy.ph x f v = some y) (ht : y.taken = true := by rfl) (h0 : 0 <= f := by decide) (h1 : f < 10 := by decide) :
  Do (zB a (c : Int) f v) fun r => ∃ a', r = (true, a') /\ Ar κ (n + 1) a' ((c, y) :: L) := by
 obtain ⟨m, e, i⟩ := H.tick;have hm : (c, x) ∈ (c, x) :: L := List.mem_cons_self ..;unfold zB;rw [e];simp only [bS];rw [AA (ny i hm) h0 h1];simp only [bS, Bool.not_true, cF];rw [yJ, (H.hav _ hm).1];simp only [bS];rw [bA h0 (by omega)];simp only [bS];rw [hf];refine ⟨_, rfl, _, rfl, ?_⟩;have j : c < a.l.length := by rw [H.len]; exact H.lt hm
 have hnd := H.nodup;simp only [pC, List.nodup_cons] at hnd;exact { i with
  len := by simp [mSet, H.len]
  nev := i.nev
  hav := by
   intro p hp;rcases List.mem_cons.1 hp with rfl | hp
   ·refine ⟨?_, ht⟩;simp only [mSet, tN];rw [List.getElem?_set_self j]
   ·have h2 := H.hav p (mC _ hp);refine ⟨?_, h2.2⟩;simp only [mSet, tN];rw [getD_set_ne (fun e => hnd.1 (by rw [e]; exact List.mem_map_of_mem (f := Prod.fst) hp))];exact h2.1
  oth := by
   intro d z hz t;simp only [mSet, tN] at hz;by_cases hd : c = d
   ·subst hd; simp
   ·rw [getD_set_ne hd] at hz;have := H.oth d z hz t;simpa using this }
theorem Ar.setN {κ : Cfg} {n : Nat} {a : za} {L : Heap} (H : Ar κ n a L) {c f v : Int} (h : c < 0) :
  Do (zB a c f v) fun r => ∃ a', r = (false, a') /\ Ar κ (n + 1) a' L := by
 obtain ⟨m, e, i⟩ := H.tick;unfold zB;rw [e];simp only [bS];rw [Bh (ky h)];exact ⟨_, rfl, _, rfl, i⟩
theorem Ar.cells {κ : Cfg} {n : Nat} {a : za} {L : Heap} (H : Ar κ n a L) : xK a = some (κ.C : Int) := by
 unfold xK; rw [H.len]
def dO : zy := zy.mk (-1) (-1) (-1) (-1) 0 0 (-1) 0 0 (-1) true
theorem Ar.put {κ : Cfg} {n : Nat} {a : za} {L : Heap} (H : Ar κ n a L) {c N : Nat} {fr : List Int} (u : c < κ.C) (hl : ∀ x, a.l[c]? = some x -> x.taken = false) (y : N <= κ.C)
  (hp : (c :: (L.map Prod.fst ++ fr.map Int.toNat)).Perm (List.range N)) (i : ∀ f ∈ fr, 0 <= f) : Ar κ n (za.mk (mSet a.l (c : Int) dO) (N : Int) fr a.m_) ((c, dO) :: L) := by
 have j : c < a.l.length := by rw [H.len]; exact u
 have hnd : (c :: (L.map Prod.fst ++ fr.map Int.toNat)).Nodup := hp.nodup_iff.2 List.nodup_range;have t : c ∉ L.map Prod.fst := fun h => (List.nodup_cons.1 hnd).1 (mL _ h)
 exact { H with
  len := by simp [mSet, H.len]
  nev := ⟨N, rfl, y, by simpa using hp⟩
  fre := i
  hav := by
   intro p hp;rcases List.mem_cons.1 hp with rfl | hp
   ·refine ⟨?_, rfl⟩;simp only [mSet, tN];rw [List.getElem?_set_self j]
   ·have h2 := H.hav p hp;refine ⟨?_, h2.2⟩;simp only [mSet, tN];rw [getD_set_ne (fun e => t (by rw [e]; exact List.mem_map_of_mem (f := Prod.fst) hp))];exact h2.1
  oth := by
   intro d z hz A;simp only [mSet, tN] at hz;by_cases hd : c = d
   ·subst hd; simp
   ·rw [getD_set_ne hd] at hz;have := H.oth d z hz A;simp only [pC, iC]; exact Or.inr this }
theorem Ar.take {κ : Cfg} {n : Nat} {a : za} {L : Heap} (H : Ar κ n a L) (hr : L.length < κ.C) :
  Do (vh a) fun r => ∃ (c : Nat) (a' : za), r = ((c : Int), true, a') /\ c ∉ L.map Prod.fst /\ Ar κ (n + 1) a' ((c, dO) :: L) := by
 obtain ⟨m, e, t⟩ := H.tick;obtain ⟨N, u, A, hp⟩ := H.nev;have z := H.cap;have hlen := hp.length_eq;simp only [lA, lM, List.length_range] at hlen;unfold vh;rw [e];simp only [bS];rcases List.eq_nil_or_concat a.free with i | ⟨fr, c, i⟩
 ·rw [i] at hlen hp ⊢;simp only [List.length_nil, Nat.add_zero] at hlen;rw [dF (by rw [zR] <;> simp), cF, dF (by rw [H.len, u]; omega)];simp only [cF, bS, rB];rw [u, yJ, List.getElem?_eq_getElem (by rw [H.len]; omega)];simp only [bS];have j : N ∉ L.map Prod.fst := fun h => by
   have := hp.mem_iff.1 (mL _ h);simp at this
  refine ⟨_, rfl, N, _, rfl, j, ?_⟩;rw [zR (by omega) (by omega)];refine t.put (c := N) (N := N + 1) (fr := []) (by omega) (fun x y => ?_) (by omega) ?_ (by simp)
  ·cases ht : x.taken
   ·rfl
   ·exact absurd (t.oth N x y ht) j
  ·rw [List.range_succ];exact (hp.cons N).trans (List.perm_append_singleton N _).symm
 ·rw [List.concat_eq_append] at i;rw [i] at hlen;simp only [lA, List.length_singleton] at hlen;have B : w64 ((a.free.length : Int) - 1) = (fr.length : Int) := by rw [i, zR] <;> simp <;> omega
  rw [B, dT (by omega), cT];have D : mIdx a.free (fr.length : Int) = some c := by rw [i, yr]
  have F : mCut a.free 0 (fr.length : Int) = some fr := by
   unfold mCut; rw [if_pos ⟨by omega, by omega, by rw [i]; simp; omega⟩, i]; simp
  rw [D, F];simp only [bS, rB];have J : 0 <= c := H.fre c (by rw [i]; simp);obtain ⟨c, rfl⟩ : ∃ d : Nat, c = (d : Int) := ⟨c.toNat, by omega⟩
  have l : (c :: (L.map Prod.fst ++ fr.map Int.toNat)).Perm (List.range N) := by
   refine List.Perm.trans ?_ hp;rw [i];simp only [List.map_append, pC, List.map_nil, tN];rw [<- aA];exact (List.perm_append_singleton c _).symm
  have I : c < N := by
   have := l.mem_iff.1 (List.mem_cons_self ..);simpa using this
  have j : c ∉ L.map Prod.fst := fun h => (List.nodup_cons.1 (l.nodup_iff.2 List.nodup_range)).1 (mL _ h)
  rw [yJ, List.getElem?_eq_getElem (by rw [H.len]; omega)];simp only [bS];refine ⟨_, rfl, c, _, rfl, j, ?_⟩;rw [u];refine t.put (c := c) (N := N) (fr := fr) (by omega) (fun x y => ?_) A l (fun f hf => H.fre f (by rw [i]; simp [hf]));cases ht : x.taken
  ·rfl
  ·exact absurd (t.oth c x y ht) j
theorem Ar.give {κ : Cfg} {n : Nat} {a : za} {L : Heap} {c : Nat} {x : zy} (H : Ar κ n a ((c, x) :: L)) :
  Do (vi a (c : Int)) fun r => ∃ (a' : za), r = (true, a') /\ Ar κ (n + 1) a' L := by
 obtain ⟨m, e, j⟩ := H.tick;have hm : (c, x) ∈ (c, x) :: L := List.mem_cons_self ..;obtain ⟨N, y, A, hp⟩ := H.nev;have t := H.cap;have hlen := hp.length_eq;simp only [lA, lM, List.length_range, lC] at hlen;unfold vi;rw [e];simp only [bS];rw [ny j hm];simp only [bS, Bool.not_true, cF];rw [yJ, (H.hav _ hm).1];simp only [bS];rw [y4 (by simp only [List.length_singleton]; omega)];refine ⟨_, rfl, _, rfl, ?_⟩;have i : c < a.l.length := by rw [H.len]; exact H.lt hm
 have hnd := H.nodup;simp only [pC, List.nodup_cons] at hnd;exact { j with
  len := by simp [mSet, H.len]
  nev := ⟨N, y, A, by
   refine List.Perm.trans ?_ hp;simp only [List.map_append, pC, List.map_nil, tN];rw [<- aA];exact List.perm_append_singleton c _⟩
  fre := by
   intro f hf;rcases List.mem_append.1 hf with hf | hf
   ·exact H.fre f hf
   ·simp at hf; omega
  hav := by
   intro p hp;have h2 := H.hav p (mC _ hp);refine ⟨?_, h2.2⟩;simp only [mSet, tN];rw [getD_set_ne (fun e => hnd.1 (by rw [e]; exact List.mem_map_of_mem (f := Prod.fst) hp))];exact h2.1
  oth := by
   intro d z hz u;simp only [mSet, tN] at hz;by_cases hd : c = d
   ·subst hd;rw [List.getElem?_set_self i] at hz;cases hz;simp at u
   ·rw [getD_set_ne hd] at hz;have := H.oth d z hz u;simp only [pC, iC] at this;rcases this with rfl | h
    ·exact absurd rfl hd
    ·exact h }
theorem mW {C : Nat} (h : C <= 65536) : ∃ a, pS (C : Int) = some a /\ Ar ⟨C, 0, 0, 0⟩ 0 a [] := by
 unfold pS;have e : (if (if (65536 : Int) < (C : Int) then 65536 else (C : Int)) > 0 then (if (65536 : Int) < (C : Int) then 65536 else (C : Int)) else 0) = (C : Int) := by
  split <;> split <;> omega
 rw [e];unfold fQ mw;rw [if_pos (by omega)];refine ⟨_, rfl, ?_⟩;refine ⟨by simp, h, ⟨0, rfl, by simp, by simp⟩, by simp, by simp, ?_, by simp, by simp, by simp, by simp, rfl, rfl⟩;intro c x i ht;simp only [tN] at i;obtain ⟨h1, h2⟩ := List.getElem?_eq_some_iff.1 i;rw [List.getElem_replicate] at h2;subst h2;simp at ht
end
noncomputable section
set_option maxRecDepth 10000
structure It where
 i : Nat
 k : Int
 s : Int
def It.lt (x y : It) : Prop := x.k < y.k \/ (x.k = y.k /\ (x.s < y.s \/ (x.s = y.s /\ x.i < y.i)))
instance (x y : It) : Decidable (x.lt y) := by unfold It.lt; exact inferInstance
theorem It.lt_irrefl (x : It) : ¬ x.lt x := by unfold It.lt; omega
theorem It.le_trans {x y z : It} (h : ¬ y.lt x) (e : ¬ z.lt y) : ¬ z.lt x := by unfold It.lt at *; omega
theorem It.lt_asymm {x y : It} (h : x.lt y) : ¬ y.lt x := by unfold It.lt at *; omega
theorem It.le_of_lt {x y z : It} (h : ¬ y.lt x) (e : z.lt x) : z.lt y := by unfold It.lt at *; omega
theorem It.fe {x y z : It} (h : x.lt y) (e : ¬ z.lt y) : x.lt z := by unfold It.lt at *; omega
structure Nd where
 c : Nat
 up : Int
 down : Int
 left : Int
 right : Int
 rank : Int
 mark : Int
def Nd.cell (ν : Nd) (i : Nat) : zy := zy.mk ν.up ν.down ν.left ν.right ν.rank ν.mark (i : Int) 0 0 (-1) true
def It.cell (x : It) (n : Int) : zy := zy.mk (-1) (-1) (-1) (-1) 0 0 (-1) x.k x.s n true
def pr (it : Nat -> It) (ν : Nd) : Heap := [(ν.c, ν.cell (it ν.c).i), ((it ν.c).i, (it ν.c).cell ν.c)]
def lay (it : Nat -> It) (N : List Nd) : Heap := N.flatMap (pr it)
theorem vA (it : Nat -> It) (ν : Nd) (N : List Nd) : lay it (ν :: N) = (ν.c, ν.cell (it ν.c).i) :: ((it ν.c).i, (it ν.c).cell ν.c) :: lay it N := rfl
theorem oI (it : Nat -> It) (M N : List Nd) : lay it (M ++ N) = lay it M ++ lay it N := List.flatMap_append
theorem cJ {it : Nat -> It} {M N : List Nd} (h : M.Perm N) : (lay it M).Perm (lay it N) := h.flatMap_right _
theorem qK (it : Nat -> It) : ∀ N : List Nd, (lay it N).length = 2 * N.length
 | [] => rfl
 | ν :: N => by rw [vA]; simp only [lC, qK it N]; omega
theorem vZ {it it' : Nat -> It} : ∀ {N : List Nd}, (∀ ν ∈ N, it' ν.c = it ν.c) -> lay it' N = lay it N
 | [], _ => rfl
 | ν :: N, h => by
  rw [vA, vA, h ν (List.mem_cons_self ..), vZ (N := N) fun μ e => h μ (mC _ e)]
theorem kZ {it : Nat -> It} {ν : Nd} : ∀ {N : List Nd}, ν ∈ N -> (ν.c, ν.cell (it ν.c).i) ∈ lay it N /\ ((it ν.c).i, (it ν.c).cell ν.c) ∈ lay it N := fun {N} h =>
 ⟨List.mem_flatMap.2 ⟨ν, h, by simp [pr]⟩, List.mem_flatMap.2 ⟨ν, h, by simp [pr]⟩⟩
def Hp (κ : Cfg) (n : Nat) (a : za) (it : Nat -> It) (N : List Nd) (L : Heap) : Prop := Ar κ n a (lay it N ++ L)
section
variable {κ : Cfg} {n : Nat} {a : za} {it : Nat -> It} {N : List Nd} {L : Heap}
theorem Hp.p {M : List Nd} (H : Hp κ n a it N L) (h : N.Perm M) : Hp κ n a it M L := Ar.p H ((cJ h).append_right _)
theorem Hp.mono {m : Nat} (H : Hp κ n a it N L) (h : n <= m) : Hp κ m a it N L := Ar.mono H h
theorem Hp.node (H : Hp κ n a it N L) {ν : Nd} (h : ν ∈ N) : (ν.c, ν.cell (it ν.c).i) ∈ lay it N ++ L := mL _ (kZ h).1
theorem Hp.item (H : Hp κ n a it N L) {ν : Nd} (h : ν ∈ N) : ((it ν.c).i, (it ν.c).cell ν.c) ∈ lay it N ++ L := mL _ (kZ h).2
theorem Hp.lt (H : Hp κ n a it N L) {ν : Nd} (h : ν ∈ N) : ν.c < κ.C := Ar.lt H (H.node h)
theorem Hp.itlt (H : Hp κ n a it N L) {ν : Nd} (h : ν ∈ N) : (it ν.c).i < κ.C := Ar.lt H (H.item h)
theorem Hp.live (H : Hp κ n a it N L) {ν : Nd} (h : ν ∈ N) : ym a (ν.c : Int) = some true := ny H (H.node h)
theorem Hp.room (H : Hp κ n a it N L) : 2 * N.length + L.length <= κ.C := by
 have := Ar.room H;rw [lA, qK] at this; exact this
theorem sA (it : Nat -> It) : ∀ N : List Nd, ((lay it N).map Prod.fst).Perm (N.map Nd.c ++ N.map fun ν => (it ν.c).i)
 | [] => .refl _
 | ν :: N => by
  rw [vA];simp only [pC, List.cons_append];refine List.Perm.cons _ ?_;exact ((sA it N).cons _).trans List.perm_middle.symm
theorem Hp.nodup (H : Hp κ n a it N L) : ((N.map Nd.c ++ N.map fun ν => (it ν.c).i) ++ L.map Prod.fst).Nodup := by
 have := Ar.nodup H;rw [List.map_append] at this;exact ((sA it N).append_right _).nodup_iff.1 this
theorem Hp.nd (H : Hp κ n a it N L) : (N.map Nd.c).Nodup := (List.nodup_append.1 (List.nodup_append.1 H.nodup).1).1
theorem Hp.ne {ν μ : Nd} (H : Hp κ n a it (ν :: μ :: N) L) : ν.c ≠ μ.c := by
 have := H.nd;simp only [pC, List.nodup_cons, iC, not_or] at this;exact this.1.1
theorem Hp.bc {ν : Nd} (H : Hp κ n a it (ν :: N) L) : ∀ μ ∈ N, μ.c ≠ ν.c := by
 have := H.nd;simp only [pC, List.nodup_cons] at this;exact fun μ i e => this.1 (e ▸ List.mem_map_of_mem (f := Nd.c) i)
theorem Hp.same (H : Hp κ n a it N L) {ν μ : Nd} (h : ν ∈ N) (j : μ ∈ N) (e : ν.c = μ.c) : ν = μ := by
 obtain ⟨i, l2, rfl⟩ := List.append_of_mem h;have hp : (i ++ ν :: l2).Perm (ν :: (i ++ l2)) := List.perm_middle;rcases List.mem_cons.1 (hp.mem_iff.1 j) with r | r
 ·exact r.symm
 ·exact absurd e.symm ((H.p hp).bc μ r)
theorem Hp.get (H : Hp κ n a it N L) {ν : Nd} (h : ν ∈ N) {f v : Int} (hf : zy.rZ (ν.cell (it ν.c).i) f = some v := by rfl) (h0 : 0 <= f := by decide) (h1 : f < 10 := by decide) :
  Do (zW a (ν.c : Int) f) fun r => ∃ a', r = (v, a') /\ Hp κ (n + 1) a' it N L := Ar.get H (H.node h) hf h0 h1
theorem Hp.getc (H : Hp κ n a it N L) {ν : Nd} (h : ν ∈ N) {f v : Int} (hv : -1 <= v) (e : v < κ.C) (hf : zy.rZ (ν.cell (it ν.c).i) f = some v := by rfl) (h0 : 0 <= f := by decide) (h1 : f < 10 := by decide) :
  Do (zI a (ν.c : Int) f) fun r => ∃ a', r = (v, a') /\ Hp κ (n + 1) a' it N L := Ar.cell H (H.node h) hf hv e h0 h1
theorem Hp.geti (H : Hp κ n a it N L) {ν : Nd} (h : ν ∈ N) :
  Do (zI a (ν.c : Int) 6) fun r => ∃ a', r = (((it ν.c).i : Int), a') /\ Hp κ (n + 1) a' it N L := H.getc h (by omega) (by have := H.itlt h; omega)
theorem Hp.getN (H : Hp κ n a it N L) {c f : Int} (h : c < 0) : Do (zW a c f) fun r => ∃ a', r = (-1, a') /\ Hp κ (n + 1) a' it N L := Ar.getN H h
theorem Hp.eY (H : Hp κ n a it N L) {c f : Int} (h : c < 0) : Do (zI a c f) fun r => ∃ a', r = (-1, a') /\ Hp κ (n + 1) a' it N L := Ar.eY H h
theorem Hp.set {ν : Nd} (H : Hp κ n a it (ν :: N) L) (μ : Nd) {f v : Int} (e : μ.c = ν.c := by rfl) (hf : zy.ph (ν.cell (it ν.c).i) f v = some (μ.cell (it ν.c).i) := by rfl) (h0 : 0 <= f := by decide) (h1 : f < 10 := by decide) :
  Do (zB a (ν.c : Int) f v) fun r => ∃ a', r = (true, a') /\ Hp κ (n + 1) a' it (μ :: N) L := by
 unfold Hp at H;rw [vA] at H;refine (Ar.set H hf rfl h0 h1).mono ?_;rintro _ ⟨a', rfl, j⟩;refine ⟨a', rfl, ?_⟩;unfold Hp;rw [vA, e];exact j
theorem Hp.setN (H : Hp κ n a it N L) {c f v : Int} (h : c < 0) : Do (zB a c f v) fun r => ∃ a', r = (false, a') /\ Hp κ (n + 1) a' it N L := Ar.setN H h
theorem lI {L : Heap} (H : Ar κ n a L) {x : It} {p : Int} (h : (x.i, x.cell p) ∈ L) :
  Do (rl a (x.i : Int)) fun r => ∃ a', r = (zH.mk x.k x.s, a') /\ Ar κ (n + 2) a' L := by
 unfold rl;refine (H.get h rfl).bind ?_;rintro _ ⟨a1, rfl, H⟩;refine (H.get h rfl).bind ?_;rintro _ ⟨a2, rfl, H⟩;exact ⟨_, rfl, _, rfl, H⟩
theorem A0 (x : Int) : vK x = some false := by unfold vK; simp
def sgn (x y : Int) : Int := if x < y then -1 else if x > y then 1 else 0
theorem bK (x y : Int) : (sgn x y = -1 /\ x < y) \/ (sgn x y = 1 /\ y < x) \/ (sgn x y = 0 /\ x = y) := by
 unfold sgn; split
 ·exact Or.inl ⟨rfl, by assumption⟩
 ·split
  ·exact Or.inr (Or.inl ⟨rfl, by omega⟩)
  ·exact Or.inr (Or.inr ⟨rfl, by omega⟩)
theorem mS (x y : Int) : w5 x y = some (sgn x y) := by
 unfold w5 sgn;rw [A0, A0];simp only [bS, cF];by_cases h : x < y
 ·simp [h]
 ·by_cases e : x > y
  ·simp [h, e]
  ·simp [h, e]
theorem Al {k : Nat} (hk : 3 <= k) (x y : Int) : qH k [x, y] = some (if x ≠ 0 then x else y) := by
 obtain ⟨m, rfl⟩ : ∃ m, k = m + 3 := ⟨k - 3, by omega⟩
 unfold qH;rw [vQ];rw [show (([x, y] : List Int).length : Int) = 2 from rfl];rw [show decide ((0 : Int) < 2) = true from rfl, cT, show mIdx [x, y] 0 = some x from rfl];simp only [bS];by_cases h : x = 0
 ·subst h;rw [show ((0 : Int) != 0) = false from rfl, cF, show w64 (0 + 1) = 1 from rfl, vQ];rw [show decide ((1 : Int) < 2) = true from rfl, cT, show mIdx [0, y] 1 = some y from rfl];simp only [bS];by_cases e : y = 0
  ·subst e;rw [show ((0 : Int) != 0) = false from rfl, cF, show w64 (1 + 1) = 2 from rfl, vQ]
   rfl
  ·rw [show (y != 0) = true by simp [e], cT];simp
 ·rw [show (x != 0) = true by simp [h], cT];simp [h]
theorem jA {k : Nat} (hk : 3 <= k) (x y : zH) : tE k x y = some (if sgn x.Key y.Key ≠ 0 then sgn x.Key y.Key else sgn x.Serial y.Serial) := by
 unfold tE;rw [mS, mS];simp only [bS];rw [Al hk]
 rfl
theorem jw {k : Nat} (hk : 3 <= k) {L : Heap} (H : Ar κ n a L) {x y : It} {p q : Int} (h : (x.i, x.cell p) ∈ L) (j : (y.i, y.cell q) ∈ L) :
  Do (rN k a (x.i : Int) (y.i : Int)) fun r => ∃ a', r = (decide (x.lt y), a') /\ Ar κ (n + 4) a' L := by
 unfold rN;refine (lI H h).bind ?_;rintro _ ⟨a1, rfl, H⟩;refine (lI H j).bind ?_;rintro _ ⟨a2, rfl, H⟩;refine Do.seq (jA hk _ _) ?_;refine ⟨_, rfl, a2, ?_, H⟩;refine Prod.ext ?_ rfl;rw [Bool.eq_iff_iff];simp only [Bool.or_eq_true, Bool.and_eq_true, decide_eq_true_eq, beq_iff_eq];unfold It.lt;rcases bK x.k y.k with ⟨e, h1⟩ | ⟨e, h1⟩ | ⟨e, h1⟩ <;> rw [e]
 ·exact ⟨fun _ => Or.inl h1, fun _ => Or.inl (by rw [if_pos (by decide)]; decide)⟩
 ·rw [if_pos (by decide)];refine ⟨fun h => ?_, fun h => ?_⟩
  ·rcases h with h | h
   ·exact absurd h (by decide)
   ·exact absurd h.1 (by decide)
  ·omega
 ·rw [if_neg (by decide)];rcases bK x.s y.s with ⟨e, h2⟩ | ⟨e, h2⟩ | ⟨e, h2⟩ <;> rw [e]
  ·exact ⟨fun _ => Or.inr ⟨h1, Or.inl h2⟩, fun _ => Or.inl (by decide)⟩
  ·refine ⟨fun h => ?_, fun h => ?_⟩
   ·rcases h with h | h
    ·exact absurd h (by decide)
    ·exact absurd h.1 (by decide)
   ·omega
  ·refine ⟨fun h => ?_, fun h => ?_⟩
   ·rcases h with h | h
    ·exact absurd h (by decide)
    ·exact Or.inr ⟨h1, Or.inr ⟨h2, by omega⟩⟩
   ·refine Or.inr ⟨rfl, by omega⟩
theorem Hp.before {k : Nat} (hk : 3 <= k) (H : Hp κ n a it N L) {ν μ : Nd} (h : ν ∈ N) (e : μ ∈ N) :
  Do (vL k a (ν.c : Int) (μ.c : Int)) fun r => ∃ a', r = (decide ((it ν.c).lt (it μ.c)), a') /\ Hp κ (n + 6) a' it N L := by
 unfold vL;refine (H.geti h).bind ?_;rintro _ ⟨a1, rfl, H⟩;refine (H.geti e).bind ?_;rintro _ ⟨a2, rfl, H⟩;refine (jw hk H (H.item h) (H.item e)).bind ?_;rintro _ ⟨a3, rfl, H⟩;exact ⟨_, rfl, _, rfl, H⟩
theorem kM {L : Heap} (H : Ar κ n a L) (hr : L.length < κ.C) (key serial : Int) :
  Do (nF a key serial) fun r => ∃ (i : Nat) (a' : za), r = ((i : Int), true, a') /\ i ∉ L.map Prod.fst /\ Ar κ (n + 3) a' ((i, (It.mk i key serial).cell (-1)) :: L) := by
 unfold nF;refine (H.take hr).bind ?_;rintro _ ⟨c, a1, rfl, e, H⟩;refine Do.tb rfl ?_;refine Do.assoc ((H.set rfl).bind ?_);rintro _ ⟨a2, rfl, H⟩;refine Do.assoc ((H.set rfl).bind ?_);rintro _ ⟨a3, rfl, H⟩;exact ⟨_, rfl, c, _, rfl, e, H⟩
def upd (it : Nat -> It) (c : Nat) (x : It) : Nat -> It := fun d => if d = c then x else it d
theorem uj (it : Nat -> It) (c : Nat) (x : It) : upd it c x c = x := by simp [upd]
theorem vG (it : Nat -> It) {c d : Nat} (x : It) (h : d ≠ c) : upd it c x d = it d := by simp [upd, h]
def swp (it : Nat -> It) (c d : Nat) : Nat -> It := upd (upd it c (it d)) d (it c)
theorem rH {x : It} (H : Hp κ n a it N ((x.i, x.cell (-1)) :: L)) (hr : 2 * N.length + 1 + L.length < κ.C) :
  Do (qB a (x.i : Int)) fun r => ∃ (c : Nat) (a' : za), r = ((c : Int), true, a') /\ Hp κ (n + 3) a' (upd it c x) (⟨c, -1, -1, -1, -1, 0, 0⟩ :: N) L /\ ∀ ν ∈ N, ν.c ≠ c := by
 unfold qB qC;simp only [Option.bind_assoc, bS];have hl : (lay it N ++ (x.i, x.cell (-1)) :: L).length < κ.C := by simp only [lA, lC, qK]; omega
 refine (Ar.take H hl).bind ?_;rintro _ ⟨c, a1, rfl, l, H⟩;refine Do.tb rfl ?_;refine Do.assoc ((Ar.set H rfl).bind ?_);rintro _ ⟨a2, rfl, H⟩;have H1 : Ar κ (n + 2) a2 ((c, (Nd.mk c (-1) (-1) (-1) (-1) 0 0).cell x.i) :: (lay it N ++ (x.i, x.cell (-1)) :: L)) := H;have t : Ar κ (n + 2) a2 ((x.i, x.cell (-1)) :: (c, (Nd.mk c (-1) (-1) (-1) (-1) 0 0).cell x.i) :: (lay it N ++ L)) := H1.p (pm fun p => by simp only [List.count_cons, List.count_append]; omega);refine Do.assoc ((Ar.set t (y := x.cell c) rfl).bind ?_);rintro _ ⟨a3, rfl, u⟩;have hn : ∀ ν ∈ N, ν.c ≠ c := fun ν j e => l (by
  rw [List.map_append];exact mL _ (e ▸ List.mem_map_of_mem (f := Prod.fst) (kZ (it := it) j).1))
 refine ⟨_, rfl, c, _, rfl, ?_, hn⟩;unfold Hp;rw [vA];simp only [uj];rw [vZ (it := it) (it' := upd it c x) fun ν j => vG _ _ (hn ν j)];exact u.t2
theorem rL {ν : Nd} (H : Hp κ n a it (ν :: N) L) :
  Do (rG a (ν.c : Int)) fun r => ∃ (a' : za), r = (((it ν.c).i : Int), a') /\ Hp κ (n + 3) a' it N (((it ν.c).i, (it ν.c).cell (-1)) :: L) := by
 unfold rG;refine (H.geti (List.mem_cons_self ..)).bind ?_;rintro _ ⟨a1, rfl, H⟩;unfold Hp at H;rw [vA] at H;refine (Ar.set H.t2 (y := (it ν.c).cell (-1)) rfl).bind ?_;rintro _ ⟨a2, rfl, H⟩;refine (Ar.give H.t2).bind ?_;rintro _ ⟨a3, rfl, H⟩;refine ⟨_, rfl, _, rfl, ?_⟩;unfold Hp;exact H.p List.perm_middle.symm
theorem qQ {ν μ : Nd} (H : Hp κ n a it (ν :: μ :: N) L) :
  Do (rv a (ν.c : Int) (μ.c : Int)) fun a' => Hp κ (n + 6) a' (swp it ν.c μ.c) (ν :: μ :: N) L := by
 unfold rv qC;simp only [Option.bind_assoc, bS];have j := H.ne;have l : ∀ ξ ∈ N, ξ.c ≠ ν.c /\ ξ.c ≠ μ.c := by
  intro ξ e;refine ⟨H.bc ξ (mC _ e), ?_⟩;have hp : (ν :: μ :: N).Perm (μ :: ν :: N) := List.Perm.swap ..;exact (H.p hp).bc ξ (mC _ e)
 refine (H.geti (List.mem_cons_self ..)).bind ?_;rintro _ ⟨a1, rfl, H⟩;refine (H.geti (mC _ (List.mem_cons_self ..))).bind ?_;rintro _ ⟨a2, rfl, H⟩;unfold Hp at H;rw [vA, vA] at H;refine (Ar.set H (y := ν.cell (it μ.c).i) rfl).bind ?_;rintro _ ⟨a3, rfl, H⟩;refine (Ar.set (Ar.t4 H) (y := (it μ.c).cell ν.c) rfl).bind ?_;rintro _ ⟨a4, rfl, H⟩;refine (Ar.set (Ar.t4 H) (y := μ.cell (it ν.c).i) rfl).bind ?_;rintro _ ⟨a5, rfl, H⟩;refine (Ar.set (Ar.t4 H) (y := (it ν.c).cell μ.c) rfl).bind ?_;rintro _ ⟨t, rfl, H⟩;refine ⟨_, rfl, ?_⟩;unfold Hp;rw [vA, vA];have u : swp it ν.c μ.c ν.c = it μ.c := by simp [swp, upd, j]
 have x : swp it ν.c μ.c μ.c = it ν.c := by simp [swp, upd]
 rw [u, x, vZ (it := it) (it' := swp it ν.c μ.c) fun ξ e => by simp [swp, upd, l ξ e]];exact (show Ar κ (n + 6) t (_ :: _ :: _ :: _ :: (lay it N ++ L)) from H).p (pm fun p => by simp only [List.count_cons, List.cons_append]; omega)
theorem mr {L : Heap} {x : It} {p : Int} (H : Ar κ n a ((x.i, x.cell p) :: L)) {key : Int} (hk : key <= x.k) :
  Do (tM a (x.i : Int) key) fun r => ∃ (a' : za), r = (true, a') /\ Ar κ (n + 2) a' ((x.i, (It.mk x.i key x.s).cell p) :: L) := by
 unfold tM;refine Do.assoc ((H.get (List.mem_cons_self ..) rfl).bind ?_);rintro _ ⟨a1, rfl, H⟩;refine Do.f (dF (by simp only [It.cell]; omega)) ?_;refine (Ar.set H (y := (It.mk x.i key x.s).cell p) rfl).bind ?_;rintro _ ⟨a2, rfl, H⟩;exact ⟨_, rfl, _, rfl, H⟩
end
end
noncomputable section
set_option maxRecDepth 10000
inductive F where
 | nil : F
 | cons (c r : Nat) (kids rest : F) : F
def F.hd : F -> Int
 | .nil => -1
 | .cons c _ _ _ => (c : Int)
def F.size : F -> Nat
 | .nil => 0
 | .cons _ _ kids rest => kids.size + rest.size + 1
structure Tr where
 c : Nat
 r : Nat
 kids : F
def F.trees : F -> List Tr
 | .nil => []
 | .cons c r kids rest => ⟨c, r, kids⟩ :: rest.trees
def F.of : List Tr -> F
 | [] => .nil
 | t :: e => .cons t.c t.r t.kids (F.of e)
theorem F.nC : ∀ e : List Tr, (F.of e).trees = e
 | [] => rfl
 | t :: e => by rw [F.of, F.trees, F.nC e]
def Tr.under (t l : Tr) : Tr := ⟨t.c, t.r + 1, .cons l.c l.r l.kids t.kids⟩
def nd : F -> Int -> List Nd
 | .nil, _ => []
 | .cons c r kids rest, up => ⟨c, up, kids.hd, -1, rest.hd, r, 0⟩ :: (nd kids c ++ nd rest up)
def Tr.nd (t : Tr) (u w : Int) : List Nd := ⟨t.c, u, t.kids.hd, -1, w, t.r, 0⟩ :: Go.Proofs.YtccbfeafebllhaaGreat.nd t.kids t.c
structure Lt where
 t : Tr
 u : Int
 w : Int
def Lt.nd (l : Lt) : List Nd := l.t.nd l.u l.w
def LN (ls : List Lt) : List Nd := ls.flatMap Lt.nd
theorem sj (l : Lt) (ls : List Lt) : LN (l :: ls) = l.nd ++ LN ls := rfl
theorem wX (l m : List Lt) : LN (l ++ m) = LN l ++ LN m := List.flatMap_append
theorem hF {l m : List Lt} (h : l.Perm m) : (LN l).Perm (LN m) := h.flatMap_right _
def F.loose : F -> Int -> List Lt
 | .nil, _ => []
 | .cons c r kids rest, up => ⟨⟨c, r, kids⟩, up, rest.hd⟩ :: rest.loose up
theorem wU : ∀ (f : F) (up : Int), nd f up = LN (f.loose up)
 | .nil, _ => rfl
 | .cons c r kids rest, up => by
  rw [F.loose, sj, nd, wU rest up]; rfl
theorem xw : ∀ (f : F) (up : Int), (f.loose up).map Lt.t = f.trees
 | .nil, _ => rfl
 | .cons c r kids rest, up => by rw [F.loose, pC, xw rest up, F.trees]
def F.cells : F -> List Nat
 | .nil => []
 | .cons c _ kids rest => c :: (kids.cells ++ rest.cells)
def Tr.cells (t : Tr) : List Nat := t.c :: t.kids.cells
def TC (e : List Tr) : List Nat := e.flatMap Tr.cells
theorem xd : ∀ (f : F) (up : Int), (nd f up).map Nd.c = f.cells
 | .nil, _ => rfl
 | .cons c r kids rest, up => by rw [nd, pC, List.map_append, xd, xd, F.cells]
theorem F.y3 : ∀ f : F, f.cells = TC f.trees
 | .nil => rfl
 | .cons c r kids rest => by rw [F.cells, F.trees, F.y3 rest]; rfl
theorem F.w3 : ∀ f : F, f.cells.length = f.size
 | .nil => rfl
 | .cons c r kids rest => by rw [F.cells, F.size, lC, lA, F.w3, F.w3]
theorem qk (f : F) (up : Int) : (nd f up).length = f.size := by
 rw [<- F.w3, <- xd f up, lM]
theorem gG : ∀ ls : List Lt, (LN ls).map Nd.c = TC (ls.map Lt.t)
 | [] => rfl
 | l :: ls => by
  rw [sj, List.map_append, gG ls, pC];show (⟨l.t.c, l.u, l.t.kids.hd, -1, l.w, l.t.r, 0⟩ :: nd l.t.kids l.t.c : List Nd).map Nd.c ++ _ = _;rw [pC, xd]; rfl
section
variable {κ : Cfg} {n : Nat} {a : za} {it : Nat -> It} {N : List Nd} {L : Heap}
theorem qY (H : Hp κ n a it N L) {f : F} {up : Int} (h : ∀ ν ∈ nd f up, ν ∈ N) : -1 <= f.hd /\ f.hd < κ.C := by
 cases f with
 | nil => simp only [F.hd]; omega
 | cons c r kids rest =>
  have := H.lt (h _ (List.mem_cons_self ..));simp only [F.hd]; simp only at this; omega
def F.roots : F -> List Int
 | .nil => []
 | .cons c _ _ rest => (c : Int) :: rest.roots
theorem pn : ∀ f : F, f.roots = f.trees.map fun t => (t.c : Int)
 | .nil => rfl
 | .cons c r kids rest => by rw [F.roots, F.trees, pC, pn rest]
def F.len (f : F) : Nat := f.trees.length
theorem F.vD : ∀ f : F, f.len <= f.size
 | .nil => Nat.le_refl _
 | .cons c r kids rest => by
  have := F.vD rest;simp only [F.len, F.trees, F.size, lC] at *; omega
theorem er : ∀ (f : F) (up : Int) {n : Nat} {a : za} (H : Hp κ n a it N L) (hs : ∀ ν ∈ nd f up, ν ∈ N) (m : Nat) (out : List Int), f.len < m -> out.length + f.len <= κ.C ->
  Do (uX 3 m f.hd out a) fun r => ∃ a', r = (out ++ f.roots, a') /\ Hp κ (n + f.len) a' it N L
 | .nil, up, n, a, H, hs, m, out, hm, i => by
  obtain ⟨m, rfl⟩ : ∃ q, m = q + 1 := ⟨m - 1, by omega⟩
  rw [uX];refine Do.assoc (Do.seq (ky (by decide)) ?_);exact ⟨_, rfl, a, by simp [F.roots], H⟩
 | .cons c r kids rest, up, n, a, H, hs, m, out, hm, i => by
  obtain ⟨m, rfl⟩ : ∃ q, m = q + 1 := ⟨m - 1, by omega⟩
  have hlen : (F.cons c r kids rest).len = rest.len + 1 := rfl;rw [hlen] at hm i ⊢;have j := hs _ (List.mem_cons_self ..);have e : ∀ ν ∈ nd rest up, ν ∈ N := fun ν h => hs ν (mC _ (List.mem_append_right _ h))
  rw [uX];refine Do.assoc (Do.seq (H.live j) (Do.tb rfl ?_));refine Do.assoc (Do.seq (Ar.cells H) ?_);have l := H.cap;refine Do.seq rfl (Do.t (dT (by omega)) ?_);refine Do.seq (y4 (by simp only [List.length_singleton]; omega)) ?_;have hh := qY H e;refine (H.getc j (f := 3) hh.1 hh.2).bind ?_;rintro _ ⟨a1, rfl, H⟩;refine (er rest up H e m (out ++ [(c : Int)]) (by omega) (by simp only [lA, List.length_singleton]; omega)).mono ?_;rintro _ ⟨a2, rfl, H⟩;exact ⟨a2, by simp [F.roots], H.mono (by omega)⟩
theorem qs : ∀ {l m : List Nat}, l.Nodup -> (∀ x ∈ l, x ∈ m) -> l.length <= m.length
 | [], _, _, _ => Nat.zero_le _
 | x :: l, m, hn, hs => by
  obtain ⟨h1, h2⟩ := List.nodup_cons.1 hn;have j := hs x (List.mem_cons_self ..);have := qs (m := m.erase x) h2 fun y t => by
   have i : y ≠ x := fun e => h1 (e ▸ t)
   exact (List.mem_erase_of_ne i).2 (hs y (mC _ t))
  rw [List.length_erase_of_mem j] at this;have : 0 < m.length := List.length_pos_of_mem j;simp only [lC]; omega
end
theorem lj {κ : Cfg} {n : Nat} {a : za} {it : Nat -> It} {N : List Nd} {L : Heap} {ν μ : Nd} (H : Hp κ n a it (ν :: μ :: N) L) (h0 : -1 <= μ.down) (h1 : μ.down < κ.C) :
  Do (ur a (ν.c : Int) (μ.c : Int)) fun a' => Hp κ (n + 4) a' it (⟨ν.c, μ.c, ν.down, ν.left, μ.down, ν.rank, ν.mark⟩ :: ⟨μ.c, μ.up, ν.c, μ.left, μ.right, μ.rank, μ.mark⟩ :: N) L := by
 unfold ur;refine (H.getc (mC _ (List.mem_cons_self ..)) (f := 1) h0 h1).bind ?_;rintro _ ⟨a1, rfl, H⟩;refine (H.set ⟨ν.c, ν.up, ν.down, ν.left, μ.down, ν.rank, ν.mark⟩).bind ?_;rintro _ ⟨a2, rfl, H⟩;refine (H.set (ν := ⟨ν.c, ν.up, ν.down, ν.left, μ.down, ν.rank, ν.mark⟩) ⟨ν.c, μ.c, ν.down, ν.left, μ.down, ν.rank, ν.mark⟩).bind ?_;rintro _ ⟨a3, rfl, H⟩;have e := H.p (List.Perm.swap ..);refine (e.set ⟨μ.c, μ.up, ν.c, μ.left, μ.right, μ.rank, μ.mark⟩).bind ?_;rintro _ ⟨a4, rfl, e⟩;exact ⟨_, rfl, e.p (List.Perm.swap ..)⟩
def lk (it : Nat -> It) (s t : Tr) : Tr := if (it t.c).lt (it s.c) then t.under s else s.under t
theorem npm {l l' : List Nd} (h : ∀ p : Nd -> Bool, l.countP p = l'.countP p) : l.Perm l' := by
 classical
 exact List.perm_iff_count.2 fun x => h _
theorem linked {κ : Cfg} {n : Nat} {a : za} {it : Nat -> It} {N : List Nd} {L : Heap} {s t : Tr} {u w j w' : Int} {r : Nat} (H : Hp κ n a it (s.nd u w ++ (t.nd j w' ++ N)) L) (hs : s.r = r) (A : r < 1000) :
  Do ((ur a (t.c : Int) (s.c : Int)).bind fun e => (zB e (s.c : Int) 4 (w64 ((r : Int) + 1))).bind fun i => some ((s.c : Int), i.2)) fun res => ∃ a', res = ((s.c : Int), a') /\ Hp κ (n + 5) a' it ((s.under t).nd u w ++ N) L := by
 have H1 : Hp κ n a it (⟨t.c, j, t.kids.hd, -1, w', t.r, 0⟩ :: ⟨s.c, u, s.kids.hd, -1, w, s.r, 0⟩ :: (nd s.kids s.c ++ (nd t.kids t.c ++ N))) L := by
  refine H.p (npm fun p => ?_);simp only [Tr.nd, List.countP_cons, List.countP_append]; omega
 have hh := qY H1 (f := s.kids) (up := s.c) fun ν h => mC _ (mC _ (mL _ h))
 refine (lj H1 hh.1 hh.2).bind ?_;intro a1 l;have x := l.p (List.Perm.swap ..);rw [zR (by omega) (by omega)];refine (x.set ⟨s.c, u, t.c, -1, w, (r : Int) + 1, 0⟩ rfl rfl).bind ?_;rintro _ ⟨a2, rfl, y⟩;refine ⟨_, rfl, _, rfl, ?_⟩;have : (((s.under t).r : Nat) : Int) = (r : Int) + 1 := by simp only [Tr.under, hs]; omega
 have z := y.p (M := (s.under t).nd u w ++ N) (npm fun p => by
  simp only [Tr.nd, this];simp only [Tr.under, nd, F.hd, List.countP_cons, List.countP_append]; omega)
 exact z
theorem dw {κ : Cfg} {n : Nat} {a : za} {it : Nat -> It} {N : List Nd} {L : Heap} {k : Nat} (hk : 3 <= k) {s t : Tr} {u w e w' : Int} {r : Nat} (H : Hp κ n a it (s.nd u w ++ (t.nd e w' ++ N)) L) (hs : s.r = r) (ht : t.r = r) (j : r < 1000) :
  Do (uU k a (s.c : Int) (t.c : Int) (r : Int)) fun res => ∃ u w a', res = (((lk it s t).c : Int), a') /\ Hp κ (n + 11) a' it ((lk it s t).nd u w ++ N) L := by
 unfold uU;have l : (⟨s.c, u, s.kids.hd, -1, w, s.r, 0⟩ : Nd) ∈ s.nd u w ++ (t.nd e w' ++ N) := mL _ (List.mem_cons_self ..);have m2 : (⟨t.c, e, t.kids.hd, -1, w', t.r, 0⟩ : Nd) ∈ s.nd u w ++ (t.nd e w' ++ N) := List.mem_append_right _ (mL _ (List.mem_cons_self ..));refine (H.before hk m2 l).bind ?_;rintro _ ⟨a1, rfl, H⟩;unfold lk;by_cases c : (it t.c).lt (it s.c)
 ·rw [if_pos c];refine Do.tb (dT c) ?_;have H1 : Hp κ (n + 6) a1 it (t.nd e w' ++ (s.nd u w ++ N)) L := H.p (npm fun p => by simp only [List.countP_append]; omega);refine (linked H1 ht j).mono ?_;rintro _ ⟨a2, rfl, i⟩;exact ⟨_, _, _, rfl, i⟩
 ·rw [if_neg c];refine Do.fb (dF c) ?_;refine (linked H hs j).mono ?_;rintro _ ⟨a2, rfl, i⟩;exact ⟨_, _, _, rfl, i⟩
end
noncomputable section
set_option maxRecDepth 10000
namespace Le
inductive B where
 | nil : B
 | node (c : Nat) (rk : Int) (l r : B)
def B.hd : B -> Int
 | .nil => -1
 | .node c _ _ _ => (c : Int)
def B.cells : B -> List Nat
 | .nil => []
 | .node c _ l r => c :: (l.cells ++ r.cells)
def bn : B -> Int -> List Nd
 | .nil, _ => []
 | .node c rk l r, u => ⟨c, u, -1, l.hd, r.hd, rk, 0⟩ :: (bn l c ++ bn r c)
theorem w9 : ∀ (t : B) (u : Int), (bn t u).map Nd.c = t.cells
 | .nil, _ => rfl
 | .node c rk l r, u => by rw [bn, pC, List.map_append, w9 l, w9 r]; rfl
theorem lx (t : B) (u : Int) : (bn t u).length = t.cells.length := by rw [<- w9 t u, lM]
def Or (it : Nat -> It) : B -> Prop
 | .nil => True
 | .node c _ l r => (∀ d ∈ l.cells ++ r.cells, ¬ (it d).lt (it c)) /\ Or it l /\ Or it r
theorem Or.least {it : Nat -> It} {c : Nat} {rk : Int} {l r : B} (h : Or it (.node c rk l r)) : ∀ d ∈ (B.node c rk l r).cells, ¬ (it d).lt (it c) := by
 intro d hd;rcases List.mem_cons.1 hd with rfl | hd
 ·exact It.lt_irrefl _
 ·exact h.1 d hd
theorem Or.congr {it it' : Nat -> It} : ∀ {t : B}, Or it t -> (∀ d ∈ t.cells, it' d = it d) -> Or it' t
 | .nil, _, _ => trivial
 | .node c rk l r, h, e => by
  refine ⟨fun d hd => ?_, h.2.1.congr fun d hd => e d (mC _ (mL _ hd)), h.2.2.congr fun d hd => e d (mC _ (List.mem_append_right _ hd))⟩;rw [e d (mC _ hd), e c (List.mem_cons_self ..)];exact h.1 d hd
theorem cpm {l l' : List Nat} (h : ∀ p : Nat -> Bool, l.countP p = l'.countP p) : l.Perm l' := List.perm_iff_count.2 fun x => h _
section
variable {κ : Cfg} {n : Nat} {a : za} {it : Nat -> It} {N : List Nd} {L : Heap}
theorem qY (H : Hp κ n a it N L) {t : B} {u : Int} (h : ∀ ν ∈ bn t u, ν ∈ N) : -1 <= t.hd /\ t.hd < κ.C := by
 cases t with
 | nil => simp only [B.hd]; omega
 | node c rk l r =>
  have := H.lt (h _ (List.mem_cons_self ..));simp only [B.hd]; simp only at this; omega
theorem jb (H : Hp κ n a it N L) {t : B} {u : Int} (h : ∀ ν ∈ bn t u, ν ∈ N) : Do (th a t.hd) fun r => ∃ v a', r = (v, a') /\ Hp κ (n + 1) a' it N L := by
 unfold th;cases t with
 | nil => exact Do.t rfl ⟨_, rfl, _, _, rfl, H.mono (by omega)⟩
 | node c rk l r =>
  refine Do.f (by simp only [B.hd]; simp) ?_;refine (H.get (h _ (List.mem_cons_self ..)) (f := 4)).bind ?_;rintro _ ⟨a1, rfl, H1⟩;exact ⟨_, rfl, _, _, rfl, H1⟩
def Fx (c : Nat) (l r T : B) : Prop := ∃ rk, T = .node c rk l r \/ T = .node c rk r l
theorem Fx.cells {c : Nat} {l r T : B} (h : Fx c l r T) : T.cells.Perm (c :: (l.cells ++ r.cells)) := by
 obtain ⟨rk, rfl | rfl⟩ := h
 ·exact .refl _
 ·exact List.Perm.cons _ List.perm_append_comm
theorem Fx.hd {c : Nat} {l r T : B} (h : Fx c l r T) : T.hd = (c : Int) := by
 obtain ⟨rk, rfl | rfl⟩ := h <;> rfl
theorem Fx.or {c : Nat} {rk : Int} {l r T : B} (h : Fx c l r T) (e : Or it (.node c rk l r)) : Or it T := by
 obtain ⟨i, rfl | rfl⟩ := h
 ·exact ⟨e.1, e.2⟩
 ·exact ⟨fun d hd => e.1 d ((List.perm_append_comm.mem_iff).1 hd), e.2.2, e.2.1⟩
theorem gM {c : Nat} {u rk v b : Int} {x y : B} (H : Hp κ n a it (bn (.node c rk x y) u ++ N) L) :
  Do ((zW a (c : Int) 4).bind fun e => (zB e.2 (c : Int) 4 v).bind fun i => some (e.1 != v, i.2)) fun res => ∃ b a' T, res = (b, a') /\ Fx c x y T /\ Hp κ (n + 2) a' it (bn T u ++ N) L := by
 refine (Hp.get H (List.mem_cons_self ..) (f := 4)).bind ?_;rintro _ ⟨a1, rfl, H1⟩;refine (Hp.set H1 ⟨c, u, -1, x.hd, y.hd, v, 0⟩).bind ?_;rintro _ ⟨a2, rfl, j⟩;exact ⟨_, rfl, _, a2, .node c v x y, rfl, ⟨v, Or.inl rfl⟩, j⟩
theorem gR {c : Nat} {u rk : Int} {l r : B} (H : Hp κ n a it (bn (.node c rk l r) u ++ N) L) :
  Do (tV a (c : Int)) fun res => ∃ b a' T, res = (b, a') /\ Fx c l r T /\ Hp κ (n + 8) a' it (bn T u ++ N) L := by
 unfold tV;have x : ∀ ν ∈ bn l c, ν ∈ bn (.node c rk l r) u ++ N := fun ν h => mL _ (mC _ (mL _ h))
 have y : ∀ ν ∈ bn r c, ν ∈ bn (.node c rk l r) u ++ N := fun ν h => mL _ (mC _ (List.mem_append_right _ h))
 have hl := qY H x;have hr := qY H y;refine (H.getc (List.mem_cons_self ..) (f := 2) hl.1 hl.2).bind ?_;rintro _ ⟨a1, rfl, H1⟩;refine (H1.getc (List.mem_cons_self ..) (f := 3) hr.1 hr.2).bind ?_;rintro _ ⟨a2, rfl, D⟩;refine (jb D x).bind ?_;rintro _ ⟨v1, a3, rfl, F⟩;refine (jb F y).bind ?_;rintro _ ⟨v2, a4, rfl, z⟩;by_cases hv : v1 < v2
 ·refine Do.tb (dT hv) ?_;refine Do.assoc ((Hp.set z ⟨c, u, -1, r.hd, r.hd, rk, 0⟩).bind ?_);rintro _ ⟨a5, rfl, I⟩;refine Do.assoc ((Hp.set (ν := ⟨c, u, -1, r.hd, r.hd, rk, 0⟩) I ⟨c, u, -1, r.hd, l.hd, rk, 0⟩).bind ?_);rintro _ ⟨A, rfl, J⟩;refine Do.seq rfl ?_;have e : Hp κ (n + 6) A it (⟨c, u, -1, r.hd, l.hd, rk, 0⟩ :: (bn l c ++ bn r c ++ N)) L := J;have O : Hp κ (n + 6) A it (bn (.node c rk r l) u ++ N) L := Hp.p e (npm fun p => by
   simp only [bn, List.countP_cons, List.countP_append, List.cons_append]; omega)
  refine (gM (v := _) (b := 0) O).mono ?_;rintro _ ⟨b, i, T, rfl, ⟨j, h⟩, t⟩;exact ⟨b, i, T, rfl, ⟨j, h.symm⟩, t⟩
 ·refine Do.fb (dF hv) ?_;refine Do.seq rfl ?_;refine (gM (v := _) (b := 0) z).mono ?_;rintro _ ⟨b, i, T, rfl, h, t⟩;exact ⟨b, i, T, rfl, h, t.mono (by omega)⟩
structure PE where
 c : Nat
 rk : Int
 l : B
 u : Int
 w : Int
def PE.nd (p : PE) : List Nd := ⟨p.c, p.u, -1, p.l.hd, p.w, p.rk, 0⟩ :: bn p.l p.c
def PN (ps : List PE) : List Nd := ps.flatMap PE.nd
theorem dt (p : PE) (ps : List PE) : PN (p :: ps) = p.nd ++ PN ps := rfl
theorem aW (p : PE) (ps : List PE) : PN (ps ++ [p]) = PN ps ++ p.nd := by simp [PN]
def pc (ps : List PE) : List Int := ps.map fun p => (p.c : Int)
def reb : List PE -> B -> B
 | [], T => T
 | p :: ps, T => .node p.c p.rk p.l (reb ps T)
theorem kj (p : PE) (T : B) : ∀ ps : List PE, reb (ps ++ [p]) T = reb ps (.node p.c p.rk p.l T)
 | [] => rfl
 | q :: ps => by rw [List.cons_append, reb, kj p T ps, reb]
theorem bD {it : Nat -> It} {T T' : B} : ∀ {ps : List PE}, Or it (reb ps T) -> T'.cells.Perm T.cells -> (Or it T -> Or it T') -> (reb ps T').cells.Perm (reb ps T).cells /\ Or it (reb ps T')
 | [], h, hp, e => ⟨hp, e h⟩
 | p :: ps, h, hp, e => by
  obtain ⟨h1, h2⟩ := bD (ps := ps) h.2.2 hp e;refine ⟨List.Perm.cons _ (h1.append_left _), fun d hd => h.1 d ?_, h.2.1, h2⟩;exact ((h1.append_left _).mem_iff).1 hd
theorem jF {T T' : B} (hp : T'.cells.Perm T.cells) : ∀ ps : List PE, (reb ps T').cells.Perm (reb ps T).cells
 | [] => hp
 | p :: ps => List.Perm.cons _ ((jF hp ps).append_left _)
theorem jz : ∀ (q : Nat) (R S : B) (u v : Int) {n : Nat} {a : za} (H : Hp κ n a it N L) (A : ∀ ν ∈ bn R u, ν ∈ N) (j : ∀ ν ∈ bn S v, ν ∈ N) (m : Nat) (pre : List Int), R.cells.length + S.cells.length <= q -> q + 5 < m -> pre.length + q <= κ.C ->
  Do (w4 m R.hd S.hd pre a) fun res => ∃ (ps : List PE) (T : B) (ut r1 s1 : Int) (a' : za), res = (r1, s1, pre ++ pc ps, a') /\ (if s1 > r1 then s1 else r1) = T.hd /\ Hp κ (n + 7 * ps.length) a' it N L /\ (bn R u ++ bn S v).Perm (PN ps ++ bn T ut) /\
   (Or it R -> Or it S -> Or it (reb ps T)) /\ (reb ps T).cells.Perm (R.cells ++ S.cells) /\ ps.length <= q := by
 intro q;induction q with
 | zero =>
  intro R S u v n a H A j m pre hq hm hp;obtain ⟨m, rfl⟩ : ∃ q, m = q + 1 := ⟨m - 1, by omega⟩
  cases R with
  | node c rk l r => simp [B.cells] at hq
  | nil =>
   rw [w4];refine Do.fb rfl ?_;refine Do.seq rfl (Do.f rfl ?_);have hs : -1 <= S.hd := (qY H j).1;refine ⟨_, rfl, [], S, v, -1, S.hd, a, by simp [pc, B.hd], ?_, H.mono (by omega), by simp [PN, bn], fun _ h => h, by simp [reb, B.cells], by simp⟩;split <;> omega
 | succ q ih =>
  intro R S u v n a H A j m pre hq hm hp;obtain ⟨m, rfl⟩ : ∃ q, m = q + 1 := ⟨m - 1, by omega⟩
  rw [w4];cases R with
  | nil =>
   refine Do.fb rfl ?_;refine Do.seq rfl (Do.f rfl ?_);have hs : -1 <= S.hd := (qY H j).1;refine ⟨_, rfl, [], S, v, -1, S.hd, a, by simp [pc, B.hd], ?_, H.mono (by omega), by simp [PN, bn], fun _ h => h, by simp [reb, B.cells], by simp⟩;split <;> omega
  | node c rk l r =>
   cases S with
   | nil =>
    refine Do.tb (by simp only [B.hd]; simp) ?_;refine Do.fb rfl ?_;refine Do.seq rfl (Do.f rfl ?_);refine ⟨_, rfl, [], .node c rk l r, u, (c : Int), -1, a, by simp [pc, B.hd], ?_, H.mono (by omega), by simp [PN, bn], fun h _ => h, by simp [reb, B.cells], by simp⟩;simp only [B.hd]; split <;> omega
   | node c' D l' r' =>
    refine Do.tb (by simp only [B.hd]; simp) ?_;refine Do.tb (by simp only [B.hd]; simp) ?_;refine Do.assoc (Do.seq (Ar.cells H) ?_);have W := H.cap;have X := A _ (List.mem_cons_self ..);have Y := j _ (List.mem_cons_self ..);have Z : ∀ ν ∈ bn r c, ν ∈ N := fun ν h => A ν (mC _ (List.mem_append_right _ h))
    have F : ∀ ν ∈ bn r' c', ν ∈ N := fun ν h => j ν (mC _ (List.mem_append_right _ h))
    refine Do.seq rfl (Do.t (dT (by omega)) ?_);refine (H.before (by omega) Y X).bind ?_;rintro _ ⟨a1, rfl, H1⟩;simp only [B.cells, lC, lA] at hq;by_cases i : (it c').lt (it c)
    ·refine Do.tb (dT i) ?_;refine Do.seq rfl ?_;refine Do.seq (y4 (by simp only [List.length_singleton]; omega)) ?_;have hh := qY H1 F;refine (H1.getc Y (f := 3) hh.1 hh.2).bind ?_;rintro _ ⟨a2, rfl, J⟩;refine (ih r' (.node c rk l r) c' u J F A m (pre ++ [(c' : Int)]) (by simp only [B.cells, lC, lA]; omega) (by omega) (by simp only [lA, List.length_singleton]; omega)).mono ?_;rintro _ ⟨ps, T, ut, r1, s1, a3, rfl, e, O, x, U, I, hl⟩;refine ⟨⟨c', D, l', v, r'.hd⟩ :: ps, T, ut, r1, s1, a3, by simp [pc], e, O.mono (by simp only [lC]; omega), npm fun P => ?_, fun y z => ⟨fun d hd => ?_, z.2.1, U z.2.2 y⟩, ?_, by simp only [lC]; omega⟩
     ·have := x.countP_eq P;simp only [dt, PE.nd, bn, List.countP_cons, List.countP_append, List.cons_append] at this ⊢; omega
     ·rcases List.mem_append.1 hd with hd | hd
      ·exact z.1 d (mL _ hd)
      ·rcases List.mem_append.1 (I.mem_iff.1 hd) with hd | hd
       ·exact z.1 d (List.mem_append_right _ hd)
       ·exact It.le_trans (It.lt_asymm i) (y.least d hd)
     ·refine cpm fun P => ?_
      have := I.countP_eq P;simp only [reb, B.cells, List.countP_cons, List.countP_append, List.cons_append] at this ⊢; omega
    ·refine Do.fb (dF i) ?_;refine Do.seq rfl ?_;refine Do.seq (y4 (by simp only [List.length_singleton]; omega)) ?_;have hh := qY H1 Z;refine (H1.getc X (f := 3) hh.1 hh.2).bind ?_;rintro _ ⟨a2, rfl, J⟩;refine (ih r (.node c' D l' r') c v J Z j m (pre ++ [(c : Int)]) (by simp only [B.cells, lC, lA]; omega) (by omega) (by simp only [lA, List.length_singleton]; omega)).mono ?_;rintro _ ⟨ps, T, ut, r1, s1, a3, rfl, e, O, x, U, I, hl⟩;refine ⟨⟨c, rk, l, u, r.hd⟩ :: ps, T, ut, r1, s1, a3, by simp [pc], e, O.mono (by simp only [lC]; omega), npm fun P => ?_, fun y z => ⟨fun d hd => ?_, y.2.1, U y.2.2 z⟩, ?_, by simp only [lC]; omega⟩
     ·have := x.countP_eq P;simp only [dt, PE.nd, bn, List.countP_cons, List.countP_append, List.cons_append] at this ⊢; omega
     ·rcases List.mem_append.1 hd with hd | hd
      ·exact y.1 d (mL _ hd)
      ·rcases List.mem_append.1 (I.mem_iff.1 hd) with hd | hd
       ·exact y.1 d (List.mem_append_right _ hd)
       ·exact It.le_trans i (z.least d hd)
     ·refine cpm fun P => ?_
      have := I.countP_eq P;simp only [reb, B.cells, List.countP_cons, List.countP_append, List.cons_append] at this ⊢; omega
theorem iK {T : B} {u : Int} (H : Hp κ n a it (bn T u ++ N) L) (v : Int) : Do (zB a T.hd 0 v) fun r => ∃ b a', r = (b, a') /\ Hp κ (n + 1) a' it (bn T v ++ N) L := by
 cases T with
 | nil =>
  refine (Hp.setN H (c := -1) (by decide)).mono ?_;rintro _ ⟨a1, rfl, H1⟩;exact ⟨_, a1, rfl, H1⟩
 | node c rk l r =>
  refine (Hp.set H ⟨c, v, -1, l.hd, r.hd, rk, 0⟩).mono ?_;rintro _ ⟨a1, rfl, H1⟩;exact ⟨_, a1, rfl, H1⟩
theorem Bd (ps : List PE) : (pc ps).length = ps.length := by simp [pc]
theorem jo (all : List PE) (x : all.length < 70000) : ∀ (q : Nat) (pre post : List PE) (T : B) (ut : Int) {n : Nat} {a : za} (H : Hp κ n a it (PN pre ++ (bn T ut ++ N)) L) (m : Nat), all = pre ++ post -> pre.length = q -> q < m ->
  Do (xW (pc all) m T.hd ((q : Int) - 1) a) fun res => ∃ (T' : B) (i : Int) (a' : za), res = (T'.hd, a') /\ Hp κ (n + 10 * q) a' it (bn T' i ++ N) L /\ T'.cells.Perm (reb pre T).cells /\ (Or it (reb pre T) -> Or it T') := by
 intro q;induction q with
 | zero =>
  intro pre post T ut n a H m x hq hm;obtain ⟨m, rfl⟩ : ∃ q, m = q + 1 := ⟨m - 1, by omega⟩
  have : pre = [] := List.length_eq_zero_iff.1 hq;subst this;rw [xW];refine Do.f (dF (by omega)) ?_;exact ⟨_, rfl, T, ut, a, rfl, H, .refl _, fun h => h⟩
 | succ q ih =>
  intro pre post T ut n a H m e hq hm;obtain ⟨m, rfl⟩ : ∃ q, m = q + 1 := ⟨m - 1, by omega⟩
  rcases List.eq_nil_or_concat pre with rfl | ⟨pre, p, rfl⟩
  ·simp at hq
  ·rw [List.concat_eq_append] at *
   have y : pre.length = q := by simpa using hq
   have I : q < all.length := by rw [e]; simp; omega
   have j : mIdx (pc all) (((q + 1 : Nat) : Int) - 1) = some (p.c : Int) := by
    have J : ((q + 1 : Nat) : Int) - 1 = (q : Int) := by omega
    rw [J, yJ, e];simp [pc, <- y]
   rw [xW];refine Do.t (dT (by omega)) ?_;refine Do.seq j ?_;have O : Hp κ n a it (⟨p.c, p.u, -1, p.l.hd, p.w, p.rk, 0⟩ :: (bn p.l p.c ++ (PN pre ++ (bn T ut ++ N)))) L := Hp.p H (npm fun P => by
    simp only [aW, PE.nd, List.countP_cons, List.countP_append, List.cons_append]; omega)
   refine (O.set ⟨p.c, p.u, -1, p.l.hd, T.hd, p.rk, 0⟩).bind ?_;rintro _ ⟨a1, rfl, H1⟩;refine Do.seq j ?_;have A : Hp κ (n + 1) a1 it (bn T ut ++ (⟨p.c, p.u, -1, p.l.hd, T.hd, p.rk, 0⟩ :: (bn p.l p.c ++ (PN pre ++ N)))) L := H1.p (npm fun P => by
    simp only [List.countP_cons, List.countP_append, List.cons_append]; omega)
   refine (iK A (p.c : Int)).bind ?_;rintro _ ⟨b, a2, rfl, S⟩;refine Do.seq j ?_;have U : Hp κ (n + 2) a2 it (bn (.node p.c p.rk p.l T) p.u ++ (PN pre ++ N)) L := S.p (npm fun P => by
    simp only [bn, List.countP_cons, List.countP_append, List.cons_append]; omega)
   refine (gR U).bind ?_;rintro _ ⟨b', a3, D, rfl, hf, W⟩;have X : Hp κ (n + 10) a3 it (PN pre ++ (bn D p.u ++ N)) L := W.p (npm fun P => by simp only [List.countP_append]; omega);have Y : w64 (((q + 1 : Nat) : Int) - 1 - 1) = (q : Int) - 1 := by rw [zR] <;> omega
   have := ih pre ([p] ++ post) D p.u X m (by rw [e]; simp) y (by omega);rw [hf.hd] at this;show Do (xW (pc all) m (p.c : Int) (w64 (((q + 1 : Nat) : Int) - 1 - 1)) a3) _;rw [Y];refine this.mono ?_;rintro _ ⟨T', i, a4, rfl, Z, h1, h2⟩;have z : D.cells.Perm (B.node p.c p.rk p.l T).cells := hf.cells;refine ⟨T', i, a4, rfl, Z.mono (by omega), ?_, fun F => ?_⟩
   ·rw [kj];exact h1.trans (jF z pre)
   ·rw [kj] at F;exact h2 (bD F z fun h => hf.or h).2
theorem uK {k : Nat} {R S : B} {u v : Int} (H : Hp κ n a it (bn R u ++ (bn S v ++ N)) L) (x : Or it R) (y : Or it S) (hk : 70010 < k) :
  Do (w7 k a R.hd S.hd) fun res => ∃ (T : B) (a' : za), res = (T.hd, a') /\ Hp κ (n + 17 * (R.cells.length + S.cells.length) + 1) a' it (bn T (-1) ++ N) L /\ T.cells.Perm (R.cells ++ S.cells) /\ Or it T := by
 unfold w7;have i := H.room;simp only [lA, lx] at i;have j := H.cap;by_cases he : R.hd = S.hd
 ·have : R = .nil /\ S = .nil := by
   cases R with
   | nil => cases S with
    | nil => exact ⟨rfl, rfl⟩
    | node c rk l r => simp only [B.hd] at he; omega
   | node c rk l r => cases S with
    | nil => simp only [B.hd] at he; omega
    | node c' z l' r' =>
     have hn := H.nd;simp only [B.hd] at he;have : c = c' := by omega
     subst this;rw [List.map_append, List.map_append, w9, w9] at hn;exact absurd rfl ((List.nodup_append.1 hn).2.2 c (List.mem_cons_self ..) c (mL _ (List.mem_cons_self ..)))
  obtain ⟨rfl, rfl⟩ := this;refine Do.t (by simp) ?_;exact ⟨_, rfl, .nil, a, rfl, H.mono (by omega), .refl _, trivial⟩
 ·refine Do.f (by simpa using he) ?_;refine (jz (R.cells.length + S.cells.length) R S u v H (fun ν h => mL _ h) (fun ν h => List.mem_append_right _ (mL _ h)) k [] (Nat.le_refl _) (by omega) (by simp; omega)).bind ?_;rintro _ ⟨ps, T, ut, r1, s1, a1, rfl, e, H1, hp, A, D, hl⟩;have F : Hp κ (n + 7 * ps.length) a1 it (PN ps ++ (bn T ut ++ N)) L := H1.p (by
   rw [<- aA, <- aA]; exact hp.append_right N)
  have h3 := jo ps (by omega) ps.length ps [] T ut F k (by simp) rfl (by omega);rw [<- e] at h3;have I : w64 ((([] ++ pc ps).length : Int) - 1) = (ps.length : Int) - 1 := by rw [List.nil_append, Bd, zR] <;> omega
  refine Do.bind (P := _) (o := xW ([] ++ pc ps) k (if s1 > r1 then s1 else r1) (w64 ((([] ++ pc ps).length : Int) - 1)) a1) (by rw [I]; exact h3) ?_;rintro _ ⟨T', J, a2, rfl, O, h4, U⟩;refine (iK O (-1)).bind ?_;rintro _ ⟨b, a3, rfl, W⟩;exact ⟨_, rfl, T', a3, rfl, W.mono (by omega), h4.trans D, U (A x y)⟩
end
end Le
end
noncomputable section
set_option maxRecDepth 10000
theorem cH {κ : Cfg} {n : Nat} {a : za} {it : Nat -> It} {N : List Nd} {L : Heap} (H : Hp κ n a it N L) {ν : Nd} (l : ν ∈ N) {key : Int} (hk : key <= (it ν.c).k) :
  Do (tM a ((it ν.c).i : Int) key) fun r => ∃ a', r = (true, a') /\ Hp κ (n + 2) a' (upd it ν.c ⟨(it ν.c).i, key, (it ν.c).s⟩) N L := by
 obtain ⟨p, q, e⟩ := List.append_of_mem l;have hp : N.Perm (ν :: (p ++ q)) := by rw [e]; exact List.perm_middle
 have H1 := H.p hp;have j := H1.bc;unfold Hp at H1;rw [vA] at H1;refine (mr (x := it ν.c) (Ar.t2 H1) hk).mono ?_;rintro _ ⟨a1, rfl, t⟩;refine ⟨a1, rfl, Hp.p (N := ν :: (p ++ q)) ?_ hp.symm⟩;unfold Hp;rw [vA, uj, vZ (it := it) (it' := upd it ν.c ⟨(it ν.c).i, key, (it ν.c).s⟩) fun μ u => vG _ _ (j μ u)];exact Ar.t2 t
abbrev KS := (Nat -> It) -> List Nd -> Int -> Prop
def HK (K : KS) (r : Int) (its : List It) (C : Heap) : Prop := ∃ (it : Nat -> It) (M : List Nd), K it M r /\ C.Perm (lay it M) /\ its.Perm (M.map fun ν => it ν.c)
def HL (K : KS) (r : Int) (its : List It) (x y : It) (C : Heap) : Prop := ∃ (it : Nat -> It) (M : List Nd) (ν : Nd), K it M r /\ ν ∈ M /\ it ν.c = x /\ C.Perm (lay (upd it ν.c y) M) /\ its.Perm (M.map fun ν => it ν.c)
theorem HK.p {K : KS} {r : Int} {its e : List It} {C C' : Heap} (h : HK K r its C) (h1 : its.Perm e) (h2 : C.Perm C') : HK K r e C' := by
 obtain ⟨it, M, hk, hC, i⟩ := h;exact ⟨it, M, hk, h2.symm.trans hC, h1.symm.trans i⟩
theorem HK.len {K : KS} {r : Int} {its : List It} {C : Heap} (h : HK K r its C) : C.length = 2 * its.length := by
 obtain ⟨it, M, hk, hC, e⟩ := h;rw [hC.length_eq, qK, e.length_eq, lM]
section
variable {κ : Cfg} {n : Nat} {a : za} {L : Heap} {K : KS} {r : Int} {its : List It} {C : Heap}
theorem HK.mem (h : HK K r its C) {x : It} (e : x ∈ its) : ∃ p, (x.i, x.cell p) ∈ C := by
 obtain ⟨it, M, hk, hC, j⟩ := h;obtain ⟨ν, l, rfl⟩ := List.mem_map.1 (j.mem_iff.1 e);exact ⟨_, hC.mem_iff.2 (kZ l).2⟩
theorem HK.lower (h : HK K r its C) (H : Ar κ n a (C ++ L)) {x : It} (l : x ∈ its) {key : Int} (hk : key <= x.k) :
  Do (tM a (x.i : Int) key) fun res => ∃ C' a', res = (true, a') /\ HL K r its x ⟨x.i, key, x.s⟩ C' /\ Ar κ (n + 2) a' (C' ++ L) := by
 obtain ⟨it, M, t, hC, e⟩ := h;obtain ⟨ν, j, rfl⟩ := List.mem_map.1 (e.mem_iff.1 l);have H1 : Hp κ n a it M L := Ar.p H (hC.append_right L);refine (cH H1 j hk).mono ?_;rintro _ ⟨a1, rfl, u⟩;exact ⟨_, a1, rfl, ⟨it, M, ν, t, j, rfl, .refl _, e⟩, u⟩
theorem iG {it : Nat -> It} {M : List Nd} {ν : Nd} {x y : It} (hn : (M.map Nd.c).Nodup) (j : ν ∈ M) (l : it ν.c = x) : ∃ q, (M.map fun μ => it μ.c).Perm (x :: q) /\ (M.map fun μ => upd it ν.c y μ.c).Perm (y :: q) := by
 obtain ⟨p, s, rfl⟩ := List.append_of_mem j;have hp : (p ++ ν :: s).Perm (ν :: (p ++ s)) := List.perm_middle;have i := ((hp.map Nd.c).nodup_iff).1 hn;simp only [pC, List.nodup_cons] at i;refine ⟨(p ++ s).map fun μ => it μ.c, ?_, ?_⟩
 ·have := hp.map fun μ => it μ.c
  rwa [pC, l] at this
 ·have := hp.map fun μ => upd it ν.c y μ.c
  rw [pC, uj] at this;have e : ((p ++ s).map fun μ => upd it ν.c y μ.c) = (p ++ s).map fun μ => it μ.c := List.map_congr_left fun μ t => vG _ _ fun e => i.1 (e ▸ List.mem_map_of_mem (f := Nd.c) t)
  rwa [e] at this
end
end
noncomputable section
set_option maxRecDepth 10000
namespace Le
structure Fr where
 c : Nat
 rk : Int
 left : Bool
 sib : B
def Fr.lb (f : Fr) (X : B) : B := bif f.left then X else f.sib
def Fr.rb (f : Fr) (X : B) : B := bif f.left then f.sib else X
def Fr.plug (f : Fr) (X : B) : B := .node f.c f.rk (f.lb X) (f.rb X)
def plug : List Fr -> B -> B
 | [], X => X
 | f :: fs, X => plug fs (f.plug X)
def upOf (u : Int) : List Fr -> Int
 | [] => u
 | f :: _ => (f.c : Int)
theorem pP (f : Fr) : ∀ (fs : List Fr) (X : B), plug (fs ++ [f]) X = f.plug (plug fs X)
 | [], X => rfl
 | g :: fs, X => by rw [List.cons_append, plug, pP f fs, plug]
theorem find {c : Nat} : ∀ {t : B}, c ∈ t.cells -> ∃ fs rk l r, t = plug fs (.node c rk l r)
 | .nil, h => by simp [B.cells] at h
 | .node j i u r0, h => by
  rcases List.mem_cons.1 h with rfl | h
  ·exact ⟨[], i, u, r0, rfl⟩
  ·rcases List.mem_append.1 h with h | h
   ·obtain ⟨fs, rk, l, r, e⟩ := find h;exact ⟨fs ++ [⟨j, i, true, r0⟩], rk, l, r, by rw [pP, <- e]; rfl⟩
   ·obtain ⟨fs, rk, l, r, e⟩ := find h;exact ⟨fs ++ [⟨j, i, false, u⟩], rk, l, r, by rw [pP, <- e]; rfl⟩
def fn : List Fr -> Int -> Int -> List Nd
 | [], _, _ => []
 | f :: fs, h, u => ⟨f.c, upOf u fs, -1, bif f.left then h else f.sib.hd, bif f.left then f.sib.hd else h, f.rk, 0⟩ :: (bn f.sib f.c ++ fn fs f.c u)
theorem sP (u : Int) : ∀ (fs : List Fr) (X : B), (bn (plug fs X) u).Perm (fn fs X.hd u ++ bn X (upOf u fs))
 | [], X => .refl _
 | f :: fs, X => by
  rw [plug];refine (sP u fs (f.plug X)).trans (npm fun P => ?_);obtain ⟨c, rk, b, s⟩ := f;cases b <;> simp only [Fr.plug, Fr.lb, Fr.rb, fn, bn, B.hd, upOf, cT, cF, List.countP_cons, List.countP_append, List.cons_append] <;> omega
def fc (fs : List Fr) : List Nat := fs.flatMap fun f => f.c :: f.sib.cells
theorem wj : ∀ (fs : List Fr) (X : B), (plug fs X).cells.Perm (fc fs ++ X.cells)
 | [], X => .refl _
 | f :: fs, X => by
  rw [plug];refine (wj fs (f.plug X)).trans (cpm fun P => ?_);obtain ⟨c, rk, b, s⟩ := f;cases b <;> simp only [fc, List.flatMap_cons, Fr.plug, Fr.lb, Fr.rb, B.cells, cT, cF, List.countP_cons, List.countP_append, List.cons_append] <;> omega
theorem iv : ∀ (fs : List Fr) {X Y : B}, X.hd = Y.hd -> (plug fs X).hd = (plug fs Y).hd
 | [], _, _, h => h
 | f :: fs, X, Y, _ => iv fs (X := f.plug X) (Y := f.plug Y) rfl
theorem pD {it : Nat -> It} : ∀ {fs : List Fr} {X : B}, Or it (plug fs X) -> Or it X
 | [], X, h => h
 | f :: fs, X, h => by
  have h1 : Or it (f.plug X) := pD (fs := fs) h;obtain ⟨c, rk, b, s⟩ := f;cases b
  ·exact h1.2.2
  ·exact h1.2.1
theorem kQ {it : Nat -> It} : ∀ {fs : List Fr} {X Y : B}, Or it (plug fs X) -> (∀ d ∈ Y.cells, d ∈ X.cells) -> Or it Y -> Or it (plug fs Y)
 | [], X, Y, _, _, h => h
 | f :: fs, X, Y, h, hs, e => by
  have h1 : Or it (f.plug X) := pD (fs := fs) h;obtain ⟨c, rk, b, s⟩ := f;refine kQ (fs := fs) h ?_ ?_
  ·intro d hd;cases b <;> simp only [Fr.plug, Fr.lb, Fr.rb, B.cells, cT, cF, iC, iA] at hd ⊢
   ·rcases hd with h | h | h
    ·exact Or.inl h
    ·exact Or.inr (Or.inl h)
    ·exact Or.inr (Or.inr (hs d h))
   ·rcases hd with h | h | h
    ·exact Or.inl h
    ·exact Or.inr (Or.inl (hs d h))
    ·exact Or.inr (Or.inr h)
  ·cases b
   ·refine ⟨fun d hd => h1.1 d ?_, h1.2.1, e⟩;rcases List.mem_append.1 hd with h | h
    ·exact mL _ h
    ·exact List.mem_append_right _ (hs d h)
   ·refine ⟨fun d hd => h1.1 d ?_, e, h1.2.2⟩;rcases List.mem_append.1 hd with h | h
    ·exact mL _ (hs d h)
    ·exact List.mem_append_right _ h
section
variable {κ : Cfg} {n : Nat} {a : za} {it : Nat -> It} {N : List Nd} {L : Heap}
theorem pX : ∀ (fs : List Fr) (Y : B) {n : Nat} {a : za} (H : Hp κ n a it (bn (plug fs Y) (-1) ++ N) L) (m j : Nat), fs.length < m -> j + fs.length <= κ.C + 1 ->
  Do (xo m (upOf (-1) fs) (j : Int) a) fun a' => ∃ T : B, Hp κ (n + 9 * fs.length) a' it (bn T (-1) ++ N) L /\ T.cells.Perm (plug fs Y).cells /\ (Or it (plug fs Y) -> Or it T) /\ T.hd = (plug fs Y).hd
 | [], Y, n, a, H, m, j, hm, hj => by
  obtain ⟨m, rfl⟩ : ∃ q, m = q + 1 := ⟨m - 1, by omega⟩
  rw [xo];refine Do.fb rfl ?_;refine Do.seq rfl (Do.f rfl ?_);exact ⟨_, rfl, Y, H, .refl _, fun h => h, rfl⟩
 | f :: fs, Y, n, a, H, m, j, hm, hj => by
  obtain ⟨m, rfl⟩ : ∃ q, m = q + 1 := ⟨m - 1, by omega⟩
  simp only [lC] at hm hj;have I := H.cap;rw [xo];refine Do.tb (by simp only [upOf]; simp) ?_;refine Do.assoc (Do.seq (Ar.cells H) ?_);refine Do.tb (dT (by omega)) ?_;have H1 : Hp κ n a it (bn (f.plug Y) (upOf (-1) fs) ++ (fn fs f.c (-1) ++ N)) L := H.p (by
   rw [<- aA];exact ((sP (-1) fs (f.plug Y)).trans List.perm_append_comm).append_right N)
  refine Do.assoc ((gR H1).bind ?_);rintro _ ⟨b, a1, e, rfl, hf, D⟩;refine Do.seq rfl ?_;have i := hf.hd;have u : ∀ d ∈ e.cells, d ∈ (f.plug Y).cells := fun d hd => hf.cells.mem_iff.1 hd
  have J : Hp κ (n + 8) a1 it (bn (plug fs e) (-1) ++ N) L := D.p (by
   rw [<- aA];refine List.Perm.append_right N ?_;have := sP (-1) fs e;rw [i] at this;exact List.perm_append_comm.trans this.symm)
  have x : (plug fs e).cells.Perm (plug (f :: fs) Y).cells := (wj fs e).trans (((hf.cells).append_left _).trans (wj fs (f.plug Y)).symm);have y : Or it (plug (f :: fs) Y) -> Or it (plug fs e) := fun h => kQ (fs := fs) (X := f.plug Y) h u (hf.or (pD (fs := fs) h))
  have z : (plug fs e).hd = (plug (f :: fs) Y).hd := iv fs (Y := f.plug Y) i;cases b with
  | false =>
   refine Do.f rfl ?_;exact ⟨_, rfl, plug fs e, J.mono (by simp only [lC]; omega), x, y, z⟩
  | true =>
   refine Do.t rfl ?_;have O : ∃ rk l r, e = .node f.c rk l r := by
    obtain ⟨rk, rfl | rfl⟩ := hf
    ·exact ⟨_, _, _, rfl⟩
    ·exact ⟨_, _, _, rfl⟩
   obtain ⟨rk, l, r, S⟩ := O;have F : (⟨f.c, upOf (-1) fs, -1, l.hd, r.hd, rk, 0⟩ : Nd) ∈ bn e (upOf (-1) fs) ++ (fn fs f.c (-1) ++ N) := by rw [S]; exact List.mem_cons_self ..
   have A : -1 <= upOf (-1) fs /\ upOf (-1) fs < κ.C := by
    cases fs with
    | nil => simp only [upOf]; omega
    | cons g gs =>
     have := D.lt (ν := ⟨g.c, upOf (-1) gs, -1, bif g.left then (f.c : Int) else g.sib.hd, bif g.left then g.sib.hd else (f.c : Int), g.rk, 0⟩) (List.mem_append_right _ (mL _ (List.mem_cons_self ..)));simp only [upOf]; simp only at this; omega
   refine (D.getc F (f := 0) A.1 A.2).bind ?_;rintro _ ⟨a2, rfl, U⟩;have W : Hp κ (n + 9) a2 it (bn (plug fs e) (-1) ++ N) L := U.p (by
    rw [<- aA];refine List.Perm.append_right N ?_;have := sP (-1) fs e;rw [i] at this;exact List.perm_append_comm.trans this.symm)
   have Z : w64 ((j : Int) + 1) = ((j + 1 : Nat) : Int) := by rw [zR] <;> omega
   show Do (xo m (upOf (-1) fs) (w64 ((j : Int) + 1)) a2) _;rw [Z];refine (pX fs e W m (j + 1) (by omega) (by omega)).mono ?_;rintro a3 ⟨T, H6, h1, h2, h3⟩;exact ⟨T, H6.mono (by simp only [lC]; omega), h1.trans x, fun h => h2 (y h), h3.trans z⟩
theorem oT {fs : List Fr} {X : B} : fs.length <= (plug fs X).cells.length := by
 have h := (wj fs X).length_eq;have : ∀ fs : List Fr, fs.length <= (fc fs).length := by
  intro fs;induction fs with
  | nil => simp
  | cons f fs ih => simp only [fc, List.flatMap_cons, lC, lA] at *; omega
 have := this fs;rw [h, lA]; omega
theorem ke {k : Nat} {f : Fr} {fs : List Fr} {c : Nat} {rk : Int} {l r : B} (H : Hp κ n a it (bn (plug (f :: fs) (.node c rk l r)) (-1) ++ N) L) (hk : 70010 < k) :
  Do (uF k a (c : Int)) fun a' => ∃ T : B, Hp κ (n + 5 + 9 * (fs.length + 1)) a' it (bn T (-1) ++ (bn (.node c rk l r) (-1) ++ N)) L /\ T.cells.Perm (plug (f :: fs) .nil).cells /\ (Or it (plug (f :: fs) .nil) -> Or it T) /\ T.hd = (plug (f :: fs) (.node c rk l r)).hd := by
 unfold uF;have W := H.cap;have j := H.room;simp only [lA, lx] at j;have J := oT (fs := f :: fs) (X := .node c rk l r);simp only [lC] at J;have y : Hp κ n a it (⟨c, f.c, -1, l.hd, r.hd, rk, 0⟩ :: ⟨f.c, upOf (-1) fs, -1, bif f.left then (c : Int) else f.sib.hd, bif f.left then f.sib.hd else (c : Int), f.rk, 0⟩ :: (bn l c ++ (bn r c ++ (bn f.sib f.c ++ (fn fs f.c (-1) ++ N))))) L := H.p (npm fun P => by
  have := (sP (-1) (f :: fs) (.node c rk l r)).countP_eq P;simp only [fn, bn, B.hd, upOf, List.countP_cons, List.countP_append, List.cons_append] at this ⊢; omega)
 have x : (⟨f.c, upOf (-1) fs, -1, bif f.left then (c : Int) else f.sib.hd, bif f.left then f.sib.hd else (c : Int), f.rk, 0⟩ : Nd) ∈ (⟨c, f.c, -1, l.hd, r.hd, rk, 0⟩ : Nd) :: ⟨f.c, upOf (-1) fs, -1, bif f.left then (c : Int) else f.sib.hd, bif f.left then f.sib.hd else (c : Int), f.rk, 0⟩ :: (bn l c ++ (bn r c ++ (bn f.sib f.c ++ (fn fs f.c (-1) ++ N)))) := mC _ (List.mem_cons_self ..);have O : (f.c : Int) < κ.C := by have := y.lt x; simp only at this; omega
 have z : (c : Int) < κ.C := by have := y.lt (List.mem_cons_self ..); simp only at this; omega
 have i := qY y (t := f.sib) (u := f.c) fun ν h => by
  refine mC _ (mC _ (List.mem_append_right _ (List.mem_append_right _ (mL _ h))))
 have S : f.sib.hd ≠ (c : Int) := by
  intro e;have hn := y.nd;cases hs : f.sib with
  | nil => rw [hs] at e; simp only [B.hd] at e; omega
  | node Z a0 l2 r2 =>
   rw [hs] at e;simp only [B.hd] at e;have : Z = c := by omega
   subst this;rw [hs] at hn;simp only [pC, List.map_append, bn, List.nodup_cons, iC, iA] at hn;exact hn.1 (by simp)
 refine (y.getc (List.mem_cons_self ..) (f := 0) (by omega) O).bind ?_;rintro _ ⟨a1, rfl, H1⟩;have fin : ∀ {F : Nat} {a' : za}, Hp κ F a' it (⟨c, f.c, -1, l.hd, r.hd, rk, 0⟩ :: ⟨f.c, upOf (-1) fs, -1, bif f.left then (-1 : Int) else f.sib.hd, bif f.left then f.sib.hd else (-1 : Int), f.rk, 0⟩ :: (bn l c ++ (bn r c ++ (bn f.sib f.c ++ (fn fs f.c (-1) ++ N))))) L -> F + 1 <= n + 5 ->
   Do ((zB a' (c : Int) 0 (-1)).bind fun U => (xo k (f.c : Int) 0 U.2).bind fun s1 => some s1) fun a' => ∃ T : B, Hp κ (n + 5 + 9 * (fs.length + 1)) a' it (bn T (-1) ++ (bn (.node c rk l r) (-1) ++ N)) L /\ T.cells.Perm (plug (f :: fs) .nil).cells /\ (Or it (plug (f :: fs) .nil) -> Or it T) /\ T.hd = (plug (f :: fs) (.node c rk l r)).hd := by
  intro F a' H hn;refine (H.set ⟨c, -1, -1, l.hd, r.hd, rk, 0⟩).bind ?_;rintro _ ⟨a2, rfl, A⟩;have D : Hp κ (F + 1) a2 it (bn (plug (f :: fs) .nil) (-1) ++ (bn (.node c rk l r) (-1) ++ N)) L := A.p (npm fun P => by
   have := (sP (-1) (f :: fs) .nil).countP_eq P;simp only [fn, bn, B.hd, upOf, List.countP_cons, List.countP_append, List.cons_append, List.countP_nil] at this ⊢; omega)
  have h4 := pX (f :: fs) .nil D k 0 (by simp only [lC]; omega) (by simp only [lC]; omega);refine Do.bind (show Do (xo k (f.c : Int) 0 a2) _ from h4) ?_;rintro a3 ⟨T, H5, h5, h6, h7⟩;exact ⟨_, rfl, T, H5.mono (by simp only [lC]; omega), h5, h6, h7.trans (iv fs (X := f.plug .nil) (Y := f.plug (.node c rk l r)) rfl)⟩
 by_cases I : f.left = true
 ·simp only [I, cT] at H1 x fin;refine (H1.getc x (f := 2) (by omega) z).bind ?_;rintro _ ⟨a2, rfl, A⟩;refine Do.tb (by simp) ?_;refine Do.assoc ((Hp.set (A.p (List.Perm.swap ..)) ⟨f.c, upOf (-1) fs, -1, -1, f.sib.hd, f.rk, 0⟩).bind ?_);rintro _ ⟨a3, rfl, D⟩;refine Do.seq rfl ?_;exact fin (D.p (List.Perm.swap ..)) (by omega)
 ·have I : f.left = false := by simpa using I
  simp only [I, cF] at H1 x fin;refine (H1.getc x (f := 2) i.1 i.2).bind ?_;rintro _ ⟨a2, rfl, A⟩;refine Do.fb (by simpa using S) ?_;refine Do.assoc ((A.getc x (f := 3) (by omega) z).bind ?_);rintro _ ⟨a3, rfl, D⟩;refine Do.tb (by simp) ?_;refine Do.assoc ((Hp.set (D.p (List.Perm.swap ..)) ⟨f.c, upOf (-1) fs, -1, f.sib.hd, -1, f.rk, 0⟩).bind ?_);rintro _ ⟨a4, rfl, H4⟩;refine Do.seq rfl ?_;exact fin (H4.p (List.Perm.swap ..)) (by omega)
end
end Le
end
noncomputable section
set_option maxRecDepth 10000
namespace Le
def KL : KS := fun it M r => ∃ t : B, M = bn t (-1) /\ r = t.hd /\ Or it t
section
variable {κ : Cfg} {n : Nat} {a : za} {L : Heap} {r : Int} {its : List It} {C : Heap}
theorem yw {it : Nat -> It} (t : B) (u : Int) : ((bn t u).map fun ν => it ν.c) = t.cells.map it := by rw [<- w9 t u, List.map_map]; rfl
theorem cq : HK KL (-1) [] [] := ⟨fun _ => ⟨0, 0, 0⟩, [], ⟨.nil, rfl, rfl, trivial⟩, .refl _, .refl _⟩
theorem jc {k : Nat} {x : It} (h : HK KL r its C) (H : Ar κ n a (C ++ ((x.i, x.cell (-1)) :: L))) (hr : 2 * its.length + 1 + L.length < κ.C) (hk : 70010 < k) :
  Do (sG k a r (x.i : Int)) fun res => ∃ r' C' a', res = (r', true, a') /\ HK KL r' (x :: its) C' /\ Ar κ (n + 17 * its.length + 30) a' (C' ++ L) := by
 obtain ⟨it, M, ⟨t, rfl, rfl, y⟩, hC, l⟩ := h;unfold sG;have hl := l.length_eq;rw [lM, lx] at hl;have z : Hp κ n a it (bn t (-1)) ((x.i, x.cell (-1)) :: L) := Ar.p H (hC.append_right _);refine (rH z (by rw [lx]; omega)).bind ?_;rintro _ ⟨c, a1, rfl, H1, A⟩;refine Do.f rfl ?_;refine (Hp.set H1 ⟨c, -1, -1, -1, -1, 1, 0⟩).bind ?_;rintro _ ⟨a2, rfl, D⟩;have F : Hp κ (n + 4) a2 (upd it c x) (bn t (-1) ++ (bn (.node c 1 .nil .nil) (-1) ++ [])) L := D.p (npm fun P => by
  simp only [bn, B.hd, List.countP_cons, List.countP_append, List.cons_append, List.countP_nil]; omega)
 have j : ∀ d ∈ t.cells, upd it c x d = it d := fun d hd => vG _ _ fun e => by
  rw [<- w9 t (-1)] at hd;obtain ⟨ν, I, J⟩ := List.mem_map.1 hd;exact A ν I (J.trans e)
 refine (uK (R := t) (S := .node c 1 .nil .nil) F (y.congr j) ⟨by simp [B.cells], trivial, trivial⟩ hk).bind ?_;rintro _ ⟨T, a3, rfl, O, hp, u⟩;refine ⟨_, rfl, T.hd, lay (upd it c x) (bn T (-1)), a3, rfl, ⟨_, _, ⟨T, rfl, rfl, u⟩, .refl _, ?_⟩, Ar.mono (n := n + 4 + 17 * (t.cells.length + (B.node c 1 .nil .nil).cells.length) + 1) ?_ (by simp only [B.cells, lC, aN, List.length_nil]; omega)⟩
 ·rw [yw];have h1 := (hp.map (upd it c x)).symm;rw [List.map_append] at h1;have h2 : t.cells.map (upd it c x) = t.cells.map it := List.map_congr_left j;rw [h2] at h1;refine List.Perm.trans ?_ h1;rw [yw] at l;refine (l.cons x).trans ?_;simp only [B.cells, aN, pC, List.map_nil, uj];exact (List.perm_append_singleton _ _).symm
 ·have := O;rw [aN] at this;exact this
theorem eg (h : HK KL r its C) (H : Ar κ n a (C ++ L)) : Do (rV a r) fun res => ∃ a', Ar κ (n + 1) a' (C ++ L) /\ ((its = [] /\ res = (-1, a')) \/ ∃ x ∈ its, res = ((x.i : Int), a') /\ ∀ y ∈ its, ¬ y.lt x) := by
 obtain ⟨it, M, ⟨t, rfl, rfl, u⟩, hC, e⟩ := h;unfold rV;have j : Hp κ n a it (bn t (-1)) L := Ar.p H (hC.append_right _);rw [yw] at e;cases t with
 | nil =>
  refine (j.eY (c := -1) (by decide)).bind ?_;rintro _ ⟨a1, rfl, H1⟩;exact ⟨_, rfl, a1, Ar.p H1 (hC.append_right _).symm, Or.inl ⟨e.eq_nil, rfl⟩⟩
 | node c rk l r' =>
  refine (j.geti (List.mem_cons_self ..)).bind ?_;rintro _ ⟨a1, rfl, H1⟩;refine ⟨_, rfl, a1, Ar.p H1 (hC.append_right _).symm, Or.inr ⟨it c, e.mem_iff.2 (List.mem_map_of_mem (List.mem_cons_self ..)), rfl, fun y z => ?_⟩⟩;obtain ⟨d, hd, rfl⟩ := List.mem_map.1 (e.mem_iff.1 z);exact u.least d hd
theorem kA {k : Nat} {it : Nat -> It} {N : List Nd} {c : Nat} {rk u : Int} {l r : B} (H : Hp κ n a it (bn (.node c rk l r) u ++ N) L) (e : Or it (.node c rk l r)) (hk : 70010 < k) :
  Do (uu k a (c : Int)) fun res => ∃ (T : B) (a' : za), res = (T.hd, ((it c).i : Int), a') /\ Hp κ (n + 17 * (l.cells.length + r.cells.length) + 7) a' it (bn T (-1) ++ N) (((it c).i, (it c).cell (-1)) :: L) /\ T.cells.Perm (l.cells ++ r.cells) /\ Or it T := by
 unfold uu qg;have j : ∀ ν ∈ bn l c, ν ∈ bn (.node c rk l r) u ++ N := fun ν h => mL _ (mC _ (mL _ h))
 have t : ∀ ν ∈ bn r c, ν ∈ bn (.node c rk l r) u ++ N := fun ν h => mL _ (mC _ (List.mem_append_right _ h))
 have hl := qY H j;have hr := qY H t;refine Do.assoc (Do.seq (H.live (ν := ⟨c, u, -1, l.hd, r.hd, rk, 0⟩) (List.mem_cons_self ..)) ?_);refine Do.seq rfl (Do.f rfl ?_);refine Do.assoc ((H.getc (List.mem_cons_self ..) (f := 2) hl.1 hl.2).bind ?_);rintro _ ⟨a1, rfl, H1⟩;refine Do.assoc ((H1.getc (List.mem_cons_self ..) (f := 3) hr.1 hr.2).bind ?_);rintro _ ⟨a2, rfl, x⟩;have y : Hp κ (n + 2) a2 it (bn l c ++ (bn r c ++ (⟨c, u, -1, l.hd, r.hd, rk, 0⟩ :: N))) L := Hp.p x (npm fun P => by
  simp only [bn, List.countP_cons, List.countP_append, List.cons_append]; omega)
 refine Do.assoc ((uK y e.2.1 e.2.2 hk).bind ?_);rintro _ ⟨T, a3, rfl, z, h1, h2⟩;refine Do.seq rfl ?_;refine (iK z (-1)).bind ?_;rintro _ ⟨b, a4, rfl, A⟩;have D : Hp κ (n + 2 + 17 * (l.cells.length + r.cells.length) + 1 + 1) a4 it (⟨c, u, -1, l.hd, r.hd, rk, 0⟩ :: (bn T (-1) ++ N)) L := A.p List.perm_middle;refine (rL D).bind ?_;rintro _ ⟨a5, rfl, F⟩;exact ⟨_, rfl, T, a5, rfl, F.mono (by omega), h1, h2⟩
theorem dj {k : Nat} (h : HK KL r its C) (H : Ar κ n a (C ++ L)) (j : its ≠ []) (hk : 70010 < k) :
  Do (uu k a r) fun res => ∃ x q r' C' a', res = (r', (x.i : Int), a') /\ its.Perm (x :: q) /\ (∀ y ∈ its, ¬ y.lt x) /\ HK KL r' q C' /\ Ar κ (n + 17 * its.length + 30) a' (C' ++ ((x.i, x.cell (-1)) :: L)) := by
 obtain ⟨it, M, ⟨t, rfl, rfl, u⟩, hC, e⟩ := h;rw [yw] at e;cases t with
 | nil => exact absurd e.eq_nil j
 | node c rk l r' =>
  have z : Hp κ n a it (bn (.node c rk l r') (-1) ++ []) L := by rw [aN]; exact Ar.p H (hC.append_right _)
  have hl := e.length_eq;simp only [B.cells, lM, lC, lA] at hl;refine (kA z u hk).mono ?_;rintro _ ⟨T, a1, rfl, H1, h1, h2⟩;rw [aN] at H1;refine ⟨it c, T.cells.map it, T.hd, _, a1, rfl, ?_, fun y A => ?_, ⟨it, _, ⟨T, rfl, rfl, h2⟩, .refl _, by rw [yw]⟩, Ar.mono H1 (by omega)⟩
  ·refine e.trans ?_;simp only [B.cells, pC];exact List.Perm.cons _ (h1.map it).symm
  ·obtain ⟨d, hd, rfl⟩ := List.mem_map.1 (e.mem_iff.1 A);exact u.least d hd
theorem jO {k : Nat} {s : Int} {e : List It} {C' : Heap} (h : HK KL r its C) (U : HK KL s e C') (H : Ar κ n a (C ++ (C' ++ L))) (hk : 70010 < k) :
  Do (sK k a r s) fun res => ∃ t u a', res = (t, a') /\ HK KL t (its ++ e) u /\ Ar κ (n + 17 * (its.length + e.length) + 30) a' (u ++ L) := by
 obtain ⟨it, M, ⟨t, rfl, rfl, W⟩, hC, z⟩ := h;obtain ⟨it', Y, ⟨i, rfl, rfl, A⟩, x, l⟩ := U;rw [yw] at z l;unfold sK;have hl := z.length_eq;have B := l.length_eq;rw [lM] at hl B;have y : ∀ d ∈ t.cells, d ∉ i.cells := by
  have hn := Ar.nodup H;have h1 := ((((hC.append ((x).append_right L)).map Prod.fst)).nodup_iff).1 hn;rw [List.map_append, List.map_append] at h1;intro d hd D;have F : d ∈ (lay it (bn t (-1))).map Prod.fst := ((sA it (bn t (-1))).mem_iff).2 (mL _ (by rw [w9]; exact hd));have I : d ∈ (lay it' (bn i (-1))).map Prod.fst := ((sA it' (bn i (-1))).mem_iff).2 (mL _ (by rw [w9]; exact D));exact (List.nodup_append.1 h1).2.2 d F d (mL _ I) rfl
 let j : Nat -> It := fun d => if d ∈ t.cells then it d else it' d
 have J : ∀ d ∈ t.cells, j d = it d := fun d hd => if_pos hd
 have O : ∀ d ∈ i.cells, j d = it' d := fun d hd => if_neg fun h => y d h hd
 have F : lay j (bn t (-1)) = lay it (bn t (-1)) := vZ fun ν S => J _ (by rw [<- w9 t (-1)]; exact List.mem_map_of_mem S)
 have I : lay j (bn i (-1)) = lay it' (bn i (-1)) := vZ fun ν S => O _ (by rw [<- w9 i (-1)]; exact List.mem_map_of_mem S)
 have X : Hp κ n a j (bn t (-1) ++ (bn i (-1) ++ [])) L := by
  unfold Hp;rw [aN, oI, F, I, aA];exact Ar.p H (hC.append (x.append_right L))
 refine (uK X (W.congr J) (A.congr O) hk).bind ?_;rintro _ ⟨T, a1, rfl, H1, h1, h2⟩;rw [aN] at H1;refine ⟨_, rfl, T.hd, _, a1, rfl, ⟨j, _, ⟨T, rfl, rfl, h2⟩, .refl _, ?_⟩, Ar.mono H1 (by omega)⟩;rw [yw];have h3 := (h1.map j).symm;rw [List.map_append] at h3;have f1 : t.cells.map j = t.cells.map it := List.map_congr_left J;have f2 : i.cells.map j = i.cells.map it' := List.map_congr_left O;rw [f1, f2] at h3;exact (z.append l).trans h3
theorem bU {fs : List Fr} {c : Nat} {rk : Int} {l r : B} : (plug fs (.node c rk l r)).hd = (c : Int) -> fs ≠ [] -> (plug fs (.node c rk l r)).cells.Nodup -> False := by
 intro h e hn;obtain ⟨gs, g, rfl⟩ : ∃ gs g, fs = gs ++ [g] := by
  rcases List.eq_nil_or_concat fs with h | ⟨gs, g, h⟩
  ·exact absurd h e
  ·exact ⟨gs, g, by rw [h, List.concat_eq_append]⟩
 rw [pP] at h hn;have i : g.c = c := by simp only [Fr.plug, B.hd] at h; omega
 have h2 := ((wj gs (.node c rk l r))).mem_iff (a := c);have j : c ∈ (plug gs (.node c rk l r)).cells := h2.2 (List.mem_append_right _ (List.mem_cons_self ..));obtain ⟨gc, t, u, x⟩ := g;simp only [Fr.plug, B.cells, List.nodup_cons, iA] at hn;simp only at i;subst i;cases u
 ·exact hn.1 (Or.inr j)
 ·exact hn.1 (Or.inl j)
theorem jQ {k : Nat} {x y : It} (h : HL KL r its x y C) (hi : y.i = x.i) (I : ¬ x.lt y) (H : Ar κ n a (C ++ L)) (hk : 70010 < k) :
  Do (sB k a r (y.i : Int)) fun res => ∃ r' q C' a', res = (r', a') /\ its.Perm (x :: q) /\ HK KL r' (y :: q) C' /\ Ar κ (n + 26 * its.length + 30) a' (C' ++ L) := by
 obtain ⟨it, M, ν, ⟨t, rfl, rfl, D⟩, hν, rfl, hC, hI⟩ := h;unfold sB vJ;have hl := hI.length_eq;rw [lM, lx] at hl;have J : Hp κ n a (upd it ν.c y) (bn t (-1)) L := Ar.p H (hC.append_right _);have hn := J.nd;obtain ⟨q, O, W⟩ := iG (y := y) hn hν rfl;rw [w9] at hn;have a8 : ν.c ∈ t.cells := by rw [<- w9 t (-1)]; exact List.mem_map_of_mem hν
 have c2 := J.lt hν;have a9 : ((upd it ν.c y ν.c).i : Int) = (y.i : Int) := by rw [uj]
 have A := Ar.cell J (J.item hν) (f := 9) (v := (ν.c : Int)) rfl (by omega) (by omega);rw [a9] at A;refine Do.assoc (A.bind ?_);rintro _ ⟨a1, rfl, H1⟩;refine Do.seq rfl ?_;refine Do.fb (by simp) ?_;obtain ⟨fs, rk, l, r', z⟩ := find a8;have done : ∀ {n' : Nat} {a' : za}, Hp κ n' a' (upd it ν.c y) (bn t (-1)) L -> fs = [] -> n' <= n + 26 * its.length + 30 -> Do (some (t.hd, a')) fun res => ∃ r' q C' a', res = (r', a') /\ its.Perm (it ν.c :: q) /\ HK KL r' (y :: q) C' /\ Ar κ (n + 26 * its.length + 30) a' (C' ++ L) := by
  intro n' a' H b1 b2;refine ⟨_, rfl, t.hd, q, _, a', rfl, hI.trans O, ⟨upd it ν.c y, _, ⟨t, rfl, rfl, ?_⟩, .refl _, W.symm⟩, Ar.mono H b2⟩;rw [b1] at z;rw [z] at D hn ⊢;simp only [plug] at D hn ⊢;have F := List.nodup_cons.1 hn;have u : ∀ d ∈ l.cells ++ r'.cells, d ≠ ν.c := fun d hd e => F.1 (e ▸ hd)
  refine ⟨fun d hd => ?_, D.2.1.congr fun d hd => vG _ _ (u d (mL _ hd)), D.2.2.congr fun d hd => vG _ _ (u d (List.mem_append_right _ hd))⟩;rw [vG _ _ (u d hd), uj];exact It.le_trans I (D.1 d hd)
 by_cases j : (ν.c : Int) = t.hd
 ·refine Do.tb (by simpa using j) ?_;refine Do.seq rfl (Do.t rfl ?_);refine done H1 ?_ (by omega);cases fs with
  | nil => rfl
  | cons f fs => rw [z] at j hn; exact (bU j.symm (by simp) hn).elim
 ·refine Do.fb (by simpa using j) ?_;cases fs with
  | nil => rw [z] at j; exact absurd rfl j
  | cons f fs =>
   have c3 : Hp κ (n + 1) a1 (upd it ν.c y) (bn (plug (f :: fs) (.node ν.c rk l r')) (-1) ++ []) L := by rw [aN, <- z]; exact H1
   have b3 : (⟨ν.c, f.c, -1, l.hd, r'.hd, rk, 0⟩ : Nd) ∈ bn t (-1) := by
    rw [z];exact ((sP (-1) (f :: fs) (.node ν.c rk l r')).mem_iff).2 (List.mem_append_right _ (List.mem_cons_self ..))
   have b4 : (f.c : Int) < κ.C := by
    have := J.lt (ν := ⟨f.c, upOf (-1) fs, -1, bif f.left then (ν.c : Int) else f.sib.hd, bif f.left then f.sib.hd else (ν.c : Int), f.rk, 0⟩) (by
     rw [z];exact ((sP (-1) (f :: fs) (.node ν.c rk l r')).mem_iff).2 (mL _ (List.mem_cons_self ..)))
    simp only at this; omega
   refine Do.assoc ((Hp.getc H1 b3 (f := 0) (by omega) b4).bind ?_);rintro _ ⟨a2, rfl, H2⟩;refine Do.seq rfl (Do.f (by simp) ?_);have b5 : Hp κ (n + 2) a2 (upd it ν.c y) (bn (plug (f :: fs) (.node ν.c rk l r')) (-1) ++ []) L := by rw [aN, <- z]; exact H2
   refine (ke (k := k) b5 hk).bind ?_;rintro a3 ⟨T, H3, h1, h2, Z⟩;have b6 : ν.c ∉ (plug (f :: fs) .nil).cells := by
    have p1 := wj (f :: fs) (.node ν.c rk l r');rw [z] at hn;have b7 := p1.nodup_iff.1 hn;intro hm;have := (wj (f :: fs) .nil).mem_iff.1 hm;simp only [B.cells, aN] at this;exact (List.nodup_append.1 b7).2.2 _ this _ (List.mem_cons_self ..) rfl
   have o1 : Or (upd it ν.c y) (plug (f :: fs) .nil) := by
    rw [z] at D;refine (kQ (fs := f :: fs) (Y := .nil) D (by simp [B.cells]) trivial).congr fun d hd => vG _ _ fun e => b6 (e ▸ hd)
   have o2 : Or (upd it ν.c y) (.node ν.c rk l r') := by
    rw [z] at D hn;have o3 : Or it (.node ν.c rk l r') := pD (fs := f :: fs) D;have b9 : (B.node ν.c rk l r').cells.Nodup := (List.nodup_append.1 ((wj (f :: fs) (.node ν.c rk l r')).nodup_iff.1 hn)).2.1;have F := List.nodup_cons.1 b9;have u : ∀ d ∈ l.cells ++ r'.cells, d ≠ ν.c := fun d hd e => F.1 (e ▸ hd)
    refine ⟨fun d hd => ?_, o3.2.1.congr fun d hd => vG _ _ (u d (mL _ hd)), o3.2.2.congr fun d hd => vG _ _ (u d (List.mem_append_right _ hd))⟩;rw [vG _ _ (u d hd), uj];exact It.le_trans I (o3.1 d hd)
   rw [<- z] at Z;rw [<- Z];refine (uK (R := T) (S := .node ν.c rk l r') H3 (h2 o1) o2 hk).bind ?_;rintro _ ⟨U, a4, rfl, H4, h3, h4⟩;rw [aN] at H4;have a0 := (wj (f :: fs) (.node ν.c rk l r')).length_eq;have a5 := (wj (f :: fs) .nil).length_eq;have c0 := oT (fs := f :: fs) (X := .nil);have e1 := h1.length_eq;rw [<- z] at a0;simp only [B.cells, aN, lA, lC, List.length_nil] at a0 a5 c0 e1;refine ⟨_, rfl, U.hd, q, _, a4, rfl, hI.trans O, ⟨upd it ν.c y, _, ⟨U, rfl, rfl, h4⟩, .refl _, ?_⟩, Ar.mono H4 (by simp only [B.cells, lC, lA]; omega)⟩;rw [yw];refine W.symm.trans ?_;rw [yw];refine List.Perm.map _ ?_;rw [z];refine (wj (f :: fs) (.node ν.c rk l r')).trans (List.Perm.trans (List.Perm.append_right _ ?_) h3.symm);have := (wj (f :: fs) .nil)
   simp only [B.cells, aN] at this;exact (h1.trans this).symm
theorem dY {k : Nat} {x : It} (h : HK KL r its C) (hx : x ∈ its) (H : Ar κ n a (C ++ L)) (hk : 70010 < k) :
  Do (rT k a r (x.i : Int)) fun res => ∃ q r' C' a', res = (r', a') /\ its.Perm (x :: q) /\ HK KL r' q C' /\ Ar κ (n + 43 * its.length + 50) a' (C' ++ ((x.i, x.cell (-1)) :: L)) := by
 obtain ⟨it, M, ⟨t, rfl, rfl, A⟩, hC, D⟩ := h;obtain ⟨ν, W, rfl⟩ := List.mem_map.1 (D.mem_iff.1 hx);unfold rT vJ;have hl := D.length_eq;rw [lM, lx] at hl;have F : Hp κ n a it (bn t (-1)) L := Ar.p H (hC.append_right _);have hn := F.nd;rw [w9] at hn;rw [yw] at D;have Z : ν.c ∈ t.cells := by rw [<- w9 t (-1)]; exact List.mem_map_of_mem W
 have b4 := F.lt W;refine Do.assoc ((Ar.cell F (F.item W) (f := 9) (v := (ν.c : Int)) rfl (by omega) (by omega)).bind ?_);rintro _ ⟨a1, rfl, H1⟩;refine Do.seq rfl ?_;refine Do.f (by simp) ?_;obtain ⟨fs, rk, l, r', j⟩ := find Z;have I := (wj fs (.node ν.c rk l r'))
 have y := I.length_eq;rw [<- j] at y;simp only [B.cells, lA, lC] at y;by_cases e : (ν.c : Int) = t.hd
 ·have a0 : fs = [] := by
   cases fs with
   | nil => rfl
   | cons f fs => rw [j] at e hn; exact (bU e.symm (by simp) hn).elim
  subst a0;simp only [plug] at j;subst j;refine Do.tb (by simpa using e) ?_;refine Do.seq rfl (Do.t rfl ?_);have H2 : Hp κ (n + 1) a1 it (bn (.node ν.c rk l r') (-1) ++ []) L := by rw [aN]; exact H1
  refine (kA H2 A hk).bind ?_;rintro _ ⟨T, a2, rfl, J, h1, h2⟩;rw [aN] at J;refine ⟨_, rfl, T.cells.map it, T.hd, _, a2, rfl, ?_, ⟨it, _, ⟨T, rfl, rfl, h2⟩, .refl _, by rw [yw]⟩, Ar.mono J (by omega)⟩;refine D.trans ?_;simp only [B.cells, pC];exact List.Perm.cons _ (h1.map it).symm
 ·refine Do.fb (by simpa using e) ?_;cases fs with
  | nil => rw [j] at e; exact absurd rfl e
  | cons f fs =>
   have a7 : (⟨ν.c, f.c, -1, l.hd, r'.hd, rk, 0⟩ : Nd) ∈ bn t (-1) := by
    rw [j];exact ((sP (-1) (f :: fs) (.node ν.c rk l r')).mem_iff).2 (List.mem_append_right _ (List.mem_cons_self ..))
   have a8 : (f.c : Int) < κ.C := by
    have := F.lt (ν := ⟨f.c, upOf (-1) fs, -1, bif f.left then (ν.c : Int) else f.sib.hd, bif f.left then f.sib.hd else (ν.c : Int), f.rk, 0⟩) (by
     rw [j];exact ((sP (-1) (f :: fs) (.node ν.c rk l r')).mem_iff).2 (mL _ (List.mem_cons_self ..)))
    simp only at this; omega
   refine Do.assoc ((Hp.getc H1 a7 (f := 0) (by omega) a8).bind ?_);rintro _ ⟨a2, rfl, H2⟩;refine Do.seq rfl (Do.f (by simp) ?_);have a9 : Hp κ (n + 2) a2 it (bn (plug (f :: fs) (.node ν.c rk l r')) (-1) ++ []) L := by rw [aN, <- j]; exact H2
   refine (ke (k := k) a9 hk).bind ?_;rintro a3 ⟨T, J, h1, h2, O⟩;rw [<- j] at O;have o1 : Or it (plug (f :: fs) .nil) := by
    rw [j] at A;exact kQ (fs := f :: fs) (Y := .nil) A (by simp [B.cells]) trivial
   have o2 : Or it (.node ν.c rk l r') := by
    rw [j] at A;exact pD (fs := f :: fs) A
   have b0 : Hp κ (n + 2 + 5 + 9 * (fs.length + 1)) a3 it (bn (.node ν.c rk l r') (-1) ++ bn T (-1)) L := by
    rw [aN] at J;exact J.p List.perm_append_comm
   refine (kA b0 o2 hk).bind ?_;rintro _ ⟨U, a4, rfl, H4, h3, h4⟩;rw [<- O];have H5 : Hp κ (n + 2 + 5 + 9 * (fs.length + 1) + 17 * (l.cells.length + r'.cells.length) + 7) a4 it (bn T (-1) ++ (bn U (-1) ++ [])) (((it ν.c).i, (it ν.c).cell (-1)) :: L) := by
    rw [aN];exact H4.p List.perm_append_comm
   refine (uK (R := T) (S := U) H5 (h2 o1) h4 hk).bind ?_;rintro _ ⟨V, a5, rfl, H6, h5, h6⟩;rw [aN] at H6;have u := (wj (f :: fs) .nil)
   have z := u.length_eq;have b1 := oT (fs := f :: fs) (X := .nil);have e1 := h1.length_eq;have e3 := h3.length_eq;simp only [B.cells, aN, lA, lC, List.length_nil] at u z b1 e1 e3;refine ⟨_, rfl, V.cells.map it, V.hd, _, a5, rfl, ?_, ⟨it, _, ⟨V, rfl, rfl, h6⟩, .refl _, by rw [yw]⟩, Ar.mono H6 (by omega)⟩;refine D.trans ?_;rw [j];refine (I.map it).trans ?_;have h7 : (fc (f :: fs) ++ (B.node ν.c rk l r').cells).Perm (ν.c :: V.cells) := by
    refine cpm fun P => ?_
    have q1 := h5.countP_eq P;have q2 := h1.countP_eq P;have q3 := h3.countP_eq P;have q4 := u.countP_eq P;simp only [B.cells, List.countP_append, List.countP_cons, List.cons_append] at q1 q2 q3 q4 ⊢;omega
   have := h7.map it
   rwa [pC] at this
end
end Le
end
noncomputable section
set_option maxRecDepth 10000
def Lt.top (l : Lt) : Nd := ⟨l.t.c, l.u, l.t.kids.hd, -1, l.w, l.t.r, 0⟩
theorem jr (l : Lt) : l.nd = l.top :: nd l.t.kids l.t.c := rfl
theorem nQ {ls : List Lt} {l : Lt} (h : l ∈ ls) : l.top ∈ LN ls := List.mem_flatMap.2 ⟨l, h, List.mem_cons_self ..⟩
def cs (e : List Tr) : List Int := e.map fun t => (t.c : Int)
def lc (ls : List Lt) : List Int := cs (ls.map Lt.t)
theorem wY (l m : List Lt) : lc (l ++ m) = lc l ++ lc m := by simp [lc, cs]
theorem kS (l : Lt) (m : List Lt) : lc (l :: m) = (l.t.c : Int) :: lc m := rfl
theorem vk (l : List Lt) : (lc l).length = l.length := by simp [lc, cs]
section
variable {κ : Cfg} {it : Nat -> It} {N : List Nd} {L : Heap}
theorem de (all : List Lt) (hl : all.length < 100000) : ∀ (rs i : List Lt) {n : Nat} {a : za} (H : Hp κ n a it (LN rs ++ (nd (F.of (i.map Lt.t)) (-1) ++ N)) L) (m : Nat), rs.length < m -> all = rs.reverse ++ i ->
  Do (ux (lc all) m (F.of (i.map Lt.t)).hd ((rs.length : Int) - 1) a) fun r => ∃ a', r = ((F.of (all.map Lt.t)).hd, a') /\ Hp κ (n + 2 * rs.length) a' it (nd (F.of (all.map Lt.t)) (-1) ++ N) L
 | [], i, n, a, H, m, hm, e => by
  obtain ⟨m, rfl⟩ : ∃ q, m = q + 1 := ⟨m - 1, by omega⟩
  rw [ux];refine Do.f (dF (by simp)) ?_;have x : all = i := e;subst x;exact ⟨_, rfl, a, rfl, H⟩
 | l :: rs, i, n, a, H, m, hm, e => by
  obtain ⟨m, rfl⟩ : ∃ q, m = q + 1 := ⟨m - 1, by simp at hm; omega⟩
  simp only [lC] at hm;have hlen : rs.length < 100000 := by have := congrArg List.length e; simp at this; omega
  have y : (((l :: rs).length : Nat) : Int) - 1 = (rs.length : Int) := by simp only [lC]; omega
  have j : mIdx (lc all) (rs.length : Int) = some (l.t.c : Int) := by
   rw [e, List.reverse_cons, aA, wY];have := yr (lc rs.reverse) (lc i) (l.t.c : Int);rw [vk, List.length_reverse] at this;exact this
  rw [y, ux];refine Do.t (dT (by omega)) ?_;refine Do.seq j ?_;have H1 : Hp κ n a it (l.top :: (nd l.t.kids l.t.c ++ (LN rs ++ (nd (F.of (i.map Lt.t)) (-1) ++ N)))) L := by
   refine H.p (npm fun p => ?_);rw [sj, jr];simp only [List.countP_cons, List.countP_append]; omega
  refine (H1.set ⟨l.t.c, l.u, l.t.kids.hd, -1, (F.of (i.map Lt.t)).hd, l.t.r, 0⟩).bind ?_;rintro _ ⟨a1, rfl, z⟩;refine Do.seq j ?_;refine (z.set (ν := ⟨l.t.c, l.u, l.t.kids.hd, -1, (F.of (i.map Lt.t)).hd, l.t.r, 0⟩) ⟨l.t.c, -1, l.t.kids.hd, -1, (F.of (i.map Lt.t)).hd, l.t.r, 0⟩).bind ?_;rintro _ ⟨a2, rfl, A⟩;refine Do.seq j ?_;rw [zR (by omega) (by omega)];have B : Hp κ (n + 2) a2 it (LN rs ++ (nd (F.of ((l :: i).map Lt.t)) (-1) ++ N)) L := by
   refine A.p (npm fun p => ?_);simp only [pC, F.of, nd, List.countP_cons, List.countP_append]; omega
  refine (de all hl rs (l :: i) B m (by omega) (by rw [e]; simp)).mono ?_;rintro _ ⟨a3, rfl, D⟩;exact ⟨a3, rfl, D.mono (by simp only [lC]; omega)⟩
theorem ed {k : Nat} (ls : List Lt) (hl : ls.length < 100000) (hk : ls.length < k) {n : Nat} {a : za} (H : Hp κ n a it (LN ls ++ N) L) :
  Do (pY k a (lc ls)) fun r => ∃ a', r = ((F.of (ls.map Lt.t)).hd, a') /\ Hp κ (n + 2 * ls.length) a' it (nd (F.of (ls.map Lt.t)) (-1) ++ N) L := by
 unfold pY;rw [vk, zR (by omega) (by omega)];have H1 : Hp κ n a it (LN ls.reverse ++ (nd (F.of (([] : List Lt).map Lt.t)) (-1) ++ N)) L := H.p ((hF ls.reverse_perm.symm).append_right _);have := de ls hl ls.reverse [] H1 k (by simpa using hk) (by simp);rw [List.length_reverse] at this;refine this.bind ?_;rintro _ ⟨a1, rfl, e⟩;exact ⟨_, rfl, a1, rfl, e⟩
def zl (l : List Nat) : List Int := l.map fun c : Nat => (c : Int)
def bst (it : Nat -> It) : Nat -> List Nat -> Nat
 | b, [] => b
 | b, c :: r => bst it (if (it c).lt (it b) then c else b) r
theorem hY : ∀ (l : List Nat) (b : Nat), bst it b l = b \/ bst it b l ∈ l
 | [], b => Or.inl rfl
 | c :: r, b => by
  rw [bst];split
  ·rcases hY r c with h | h
   ·exact Or.inr (by rw [h]; exact List.mem_cons_self ..)
   ·exact Or.inr (mC _ h)
  ·rcases hY r b with h | h
   ·exact Or.inl h
   ·exact Or.inr (mC _ h)
theorem iD : ∀ (l : List Nat) (b : Nat), (¬ (it b).lt (it (bst it b l))) /\ ∀ c ∈ l, ¬ (it c).lt (it (bst it b l))
 | [], b => ⟨It.lt_irrefl _, by simp⟩
 | c :: r, b => by
  rw [bst];split
  ·rename_i h;obtain ⟨h1, h2⟩ := iD r c;refine ⟨It.le_trans h1 (It.lt_asymm h), fun d hd => ?_⟩;rcases List.mem_cons.1 hd with rfl | hd
   ·exact h1
   ·exact h2 d hd
  ·rename_i h;obtain ⟨h1, h2⟩ := iD r b;refine ⟨h1, fun d hd => ?_⟩;rcases List.mem_cons.1 hd with rfl | hd
   ·exact It.le_trans h1 h
   ·exact h2 d hd
theorem eN {k : Nat} (all : List Nat) (j : ∀ c ∈ all, ∃ ν ∈ N, ν.c = c) (hl : all.length < 100000) : ∀ (post pre : List Nat) (b : Nat) {n : Nat} {a : za} (H : Hp κ n a it N L) (m : Nat), post.length + 3 < m -> all = pre ++ post -> b ∈ all ->
  Do (wO (all.length : Int) (zl all) m (b : Int) (pre.length : Int) a) fun r => ∃ a', r = (((bst it b post : Nat) : Int), a') /\ Hp κ (n + 6 * post.length) a' it N L
 | [], pre, b, n, a, H, m, hm, e, l => by
  obtain ⟨m, rfl⟩ : ∃ q, m = q + 1 := ⟨m - 1, by simp at hm; omega⟩
  rw [wO];refine Do.f (dF (by rw [e]; simp)) ?_;exact ⟨_, rfl, a, rfl, H⟩
 | c :: post, pre, b, n, a, H, m, hm, e, l => by
  obtain ⟨m, rfl⟩ : ∃ q, m = q + 1 := ⟨m - 1, by simp at hm; omega⟩
  simp only [lC] at hm;have hlen : pre.length < 100000 := by have := congrArg List.length e; simp at this; omega
  have y : mIdx (zl all) (pre.length : Int) = some (c : Int) := by
   rw [e, zl, List.map_append];have := yr (zl pre) (zl post) (c : Int)
   rwa [zl, lM] at this
  rw [wO];refine Do.t (dT (by rw [e]; simp; omega)) ?_;refine Do.assoc (Do.seq y ?_);obtain ⟨ν, z, A⟩ := j c (by rw [e]; simp);obtain ⟨μ, B, D⟩ := j b l;refine Do.assoc (Do.fb (by simp) ?_);have := H.before (k := m) (by omega) z B;rw [A, D] at this;refine Do.assoc (this.bind ?_);rintro _ ⟨a1, rfl, H1⟩;have u : (if (it c).lt (it b) then c else b) ∈ all := by
   split
   ·rw [e]; simp
   ·exact l
  have := eN (k := k) all j hl post (pre ++ [c]) (if (it c).lt (it b) then c else b) H1 m (by omega) (by rw [e]; simp) u;have F : w64 ((pre.length : Int) + 1) = ((pre ++ [c]).length : Int) := by rw [zR (by omega) (by omega)]; simp
  rw [<- F] at this;simp only [bS];rw [bst];by_cases i : (it c).lt (it b)
  ·rw [if_pos i] at this ⊢;refine Do.tb (dT i) ?_;simp only [bS];refine this.mono ?_;rintro _ ⟨a2, rfl, x⟩;exact ⟨a2, rfl, x.mono (by simp only [lC]; omega)⟩
  ·rw [if_neg i] at this ⊢;refine Do.fb (dF i) ?_;simp only [bS];refine this.mono ?_;rintro _ ⟨a2, rfl, x⟩;exact ⟨a2, rfl, x.mono (by simp only [lC]; omega)⟩
theorem gb {k : Nat} (hk : 0 < k) (a : za) : vn k a [] = some (-1, a) := by
 obtain ⟨m, rfl⟩ : ∃ q, k = q + 1 := ⟨k - 1, by omega⟩
 unfold vn;rw [wO]; rfl
theorem cl {k : Nat} (c : Nat) (r : List Nat) (i : ∀ d ∈ c :: r, ∃ ν ∈ N, ν.c = d) (hl : r.length < 90000) (hk : r.length + 4 < k) {n : Nat} {a : za} (H : Hp κ n a it N L) :
  Do (vn k a (zl (c :: r))) fun res => ∃ a', res = (((bst it c r : Nat) : Int), a') /\ Hp κ (n + 6 * r.length) a' it N L := by
 obtain ⟨m, rfl⟩ : ∃ q, k = q + 1 := ⟨k - 1, by omega⟩
 unfold vn;rw [wO];refine Do.bind (P := fun res => ∃ a', res = (((bst it c r : Nat) : Int), a') /\ Hp κ (n + 6 * r.length) a' it N L) ?_ (by
  rintro _ ⟨a2, rfl, j⟩;exact ⟨_, rfl, a2, rfl, j⟩)
 refine Do.t (dT (by simp [zl])) ?_;refine Do.assoc (Do.seq (yr [] (zl r) (c : Int)) ?_);simp only [bS, beq_self_eq_true, cT];have := eN (k := 0) (c :: r) i (by simp only [lC]; omega) r [c] c H m (by omega) rfl (List.mem_cons_self ..);have e : ((zl (c :: r)).length : Int) = ((c :: r).length : Int) := by simp [zl]
 rw [e];exact this
end
def rOk (x : zm) : Prop := 0 <= x.rank /\ x.rank < 1000
theorem cK {x y : zm} (e : rOk x) (i : rOk y) : (uc x y).map (fun t => decide (t < 0)) = some (decide (x.rank < y.rank)) := by
 obtain ⟨h1, h2⟩ := e;obtain ⟨h3, h4⟩ := i;unfold uc;rw [zR (by omega) (by omega)];simp only [Option.map_some];congr 1;rw [decide_eq_decide];split <;> split <;> omega
def RS (l : List zm) : Prop := l.Pairwise fun x y => x.rank <= y.rank
theorem nO {α : Type} (p q : List α) (x y : α) : mSet (p ++ x :: q) (p.length : Int) y = p ++ y :: q := by
 unfold mSet;simp
theorem bC (A i1 : Int) : ∀ (e : List zm) (x : zm) (S : List zm) (m : Nat), e.length < m -> e.length < 1000 -> rOk x -> (∀ y ∈ e, rOk y) -> RS e.reverse ->
  Do (zT 0 A i1 m (e.length : Int) (e.reverse ++ x :: S)) fun r => ∃ q, r = q ++ S /\ RS q /\ q.Perm (x :: e)
 | [], x, S, m, hm, B, l, hr, hs => by
  obtain ⟨m, rfl⟩ : ∃ q, m = q + 1 := ⟨m - 1, by omega⟩
  rw [zT];refine Do.fb (dF (by simp)) ?_;refine Do.seq rfl (Do.f rfl ?_);exact ⟨_, rfl, [x], rfl, by simp [RS], .refl _⟩
 | y :: e, x, S, m, hm, B, l, hr, hs => by
  obtain ⟨m, rfl⟩ : ∃ q, m = q + 1 := ⟨m - 1, by omega⟩
  simp only [lC] at hm B;have D := hr y (List.mem_cons_self ..);have e0 : (y :: e).reverse ++ x :: S = e.reverse ++ y :: x :: S := by simp
  have F : mIdx (e.reverse ++ y :: x :: S) (((y :: e).length : Nat) : Int) = some x := by
   have := yr (e.reverse ++ [y]) S x;simpa using this
  have I : w64 ((((y :: e).length : Nat) : Int) - 1) = (e.length : Int) := by simp only [lC]; rw [zR (by omega) (by omega)]; omega
  have J : mIdx (e.reverse ++ y :: x :: S) (e.length : Int) = some y := by
   have := yr e.reverse (x :: S) y;simpa using this
  rw [e0, zT, F, I, J];refine Do.tb (dT (by simp only [lC]; omega)) ?_;simp only [bS];have i := cK l D;cases hf : uc x y with
  | none => rw [hf] at i; cases i
  | some t =>
   rw [hf] at i;simp only [Option.map_some, Option.some.injEq] at i;simp only [bS];rw [i];have hs' : RS e.reverse := by
    simp only [RS, List.reverse_cons, List.pairwise_append] at hs;exact hs.1
   have hle : ∀ z ∈ e, z.rank <= y.rank := by
    simp only [RS, List.reverse_cons, List.pairwise_append] at hs;intro z hz;exact hs.2.2 z (by simpa using hz) y (by simp)
   by_cases j : x.rank < y.rank
   ·refine Do.t (dT j) ?_;have O : mSet (e.reverse ++ y :: x :: S) (((y :: e).length : Nat) : Int) y = e.reverse ++ y :: y :: S := by
     have := nO (e.reverse ++ [y]) S x y;simpa using this
    have U : mIdx (e.reverse ++ y :: y :: S) (e.length : Int) = some y := by
     have := yr e.reverse (y :: S) y;simpa using this
    have W : mSet (e.reverse ++ y :: y :: S) (e.length : Int) x = e.reverse ++ x :: y :: S := by
     have := nO e.reverse (y :: S) y x;simpa using this
    rw [O, U, W];simp only [bS];refine (bC A i1 e x (y :: S) m (by omega) (by omega) l (fun z hz => hr z (mC _ hz)) hs').mono ?_;rintro _ ⟨q, rfl, hq, hp⟩;refine ⟨q ++ [y], by simp, ?_, ?_⟩
    ·simp only [RS, List.pairwise_append];refine ⟨hq, by simp, fun z hz u hu => ?_⟩;simp only [List.mem_singleton] at hu;subst hu;rcases List.mem_cons.1 (hp.mem_iff.1 hz) with rfl | hz
     ·omega
     ·exact hle z hz
    ·refine (List.perm_append_singleton y q).trans ((hp.cons y).trans (List.Perm.swap ..))
   ·refine Do.f (dF j) ?_;refine ⟨_, rfl, e.reverse ++ [y, x], by simp, ?_, ?_⟩
    ·simp only [RS, List.pairwise_append];refine ⟨hs', by simp; omega, fun z hz u hu => ?_⟩;have := hle z (by simpa using hz);simp only [iC, List.not_mem_nil, or_false] at hu;rcases hu with rfl | rfl <;> omega
    ·refine (List.perm_append_comm).trans ?_;simp only [List.cons_append, List.nil_append];exact (List.Perm.swap ..).trans (((List.reverse_perm e).cons y).cons x)
theorem bF (all : Nat) (u : all < 1000) : ∀ (d i : Nat) (A S : List zm) (m : Nat), A.length = i -> S.length = d -> all = i + d -> all + d < m -> RS A -> (∀ y ∈ A ++ S, rOk y) ->
  Do (zK 0 (all : Int) m (i : Int) (A ++ S)) fun r => RS r /\ r.Perm (A ++ S)
 | 0, i, A, S, m, hA, z, e, hm, hs, hr => by
  obtain ⟨m, rfl⟩ : ∃ q, m = q + 1 := ⟨m - 1, by omega⟩
  rw [zK];refine Do.f (dF (by omega)) ?_;have := List.eq_nil_of_length_eq_zero z;subst this;exact ⟨_, rfl, by simpa using hs, .refl _⟩
 | d + 1, i, A, S, m, hA, z, e, hm, hs, hr => by
  obtain ⟨m, rfl⟩ : ∃ q, m = q + 1 := ⟨m - 1, by omega⟩
  rw [zK];refine Do.t (dT (by omega)) ?_;cases S with
  | nil => simp at z
  | cons x S =>
   simp only [lC] at z;have := bC (all : Int) (i : Int) A.reverse x S m (by simp; omega) (by simp; omega) (hr x (by simp)) (fun y j => hr y (by simp at j; simp [j])) (by simpa using hs);rw [List.reverse_reverse, List.length_reverse, hA] at this;refine this.bind ?_;rintro _ ⟨q, rfl, hq, hp⟩;have l : q.Perm (A ++ [x]) := hp.trans ((List.reverse_perm A).cons x |>.trans (List.perm_append_singleton x A).symm);rw [zR (by omega) (by omega)];have hl : q.length = i + 1 := by rw [l.length_eq]; simp [hA]
   refine (bF all u d (i + 1) q S m hl (by omega) (by omega) (by omega) hq (fun y j => hr y ?_)).mono ?_
   ·rcases List.mem_append.1 j with j | j
    ·have := l.mem_iff.1 j;simp at this ⊢;rcases this with h | h <;> simp [h]
    ·simp [j]
   ·rintro r ⟨h1, h2⟩;refine ⟨h1, h2.trans ?_⟩;have := l.append_right S;simpa using this
theorem gX {k : Nat} (l : List zm) (hl : l.length <= 20) (hk : 100 <= k) (hr : ∀ y ∈ l, rOk y) :
  Do (zQ k l 0 (l.length : Int)) fun r => RS r /\ r.Perm l := by
 unfold zQ;rw [show w64 (0 + 1) = ((1 : Nat) : Int) from rfl];cases l with
 | nil =>
  obtain ⟨m, rfl⟩ : ∃ q, k = q + 1 := ⟨k - 1, by omega⟩
  rw [zK];exact ⟨_, rfl, by simp [RS], .refl _⟩
 | cons x S =>
  have := bF (x :: S).length (by omega) S.length 1 [x] S k rfl rfl (by simp; omega) (by simp at *; omega) (by simp [RS]) (by simpa using hr);refine this.bind ?_;rintro r ⟨h1, h2⟩;have e : oU r.length (x :: S).length = some () := by unfold oU; rw [if_pos (by simpa using h2.length_eq)]
  simp only [e, bS];exact ⟨_, rfl, h1, h2⟩
theorem cg {k : Nat} (l : List zm) (hl : l.length <= 20) (hk : 200 <= k) (hr : ∀ y ∈ l, rOk y) :
  Do (yG k l) fun r => RS r /\ r.Perm l := by
 unfold yG y8;obtain ⟨m, rfl⟩ : ∃ q, k = q + 2 := ⟨k - 2, by omega⟩
 by_cases h : l.length = 20
 ·have hi := gX (k := m + 1) l hl (by omega) hr;have i : (l.length : Int) = 20 := by omega
  rw [ya, i, dT (by decide : (20 : Int) <= 20)];rw [i] at hi;simp only [cT];refine Do.assoc (Do.assoc (hi.bind ?_));rintro r ⟨h1, h2⟩;have e : oU r.length l.length = some () := by unfold oU; rw [if_pos h2.length_eq]
  rw [ya, show w64 (20 + 20) = 40 from rfl, dF (by decide : ¬ (40 : Int) <= 20)];simp only [cF, bS];have j : zQ (m + 2) r 20 20 = some r := by
   unfold zQ;rw [zK, show w64 (20 + 1) = 21 from rfl, dF (by decide : ¬ (21 : Int) < 20)];simp [oU]
  rw [j];simp only [bS];rw [yk, dF (by decide : ¬ (20 : Int) < 20)];simp only [cF, bS, e];exact ⟨_, rfl, h1, h2⟩
 ·rw [ya, dF (by omega : ¬ (20 : Int) <= (l.length : Int))];simp only [cF, bS];refine Do.assoc ((gX l hl (by omega) hr).bind ?_);rintro r ⟨h1, h2⟩;have e : oU r.length l.length = some () := by unfold oU; rw [if_pos h2.length_eq]
  rw [yk, dF (by omega : ¬ (20 : Int) < (l.length : Int))];simp only [cF, bS, e];exact ⟨_, rfl, h1, h2⟩
end
noncomputable section
set_option maxRecDepth 10000
inductive SK (b : Bool) : F -> Nat -> Prop
 | nil : SK b .nil 0
 | real {c r : Nat} {kids rest : F} : SK b kids r -> SK b rest r -> SK b (.cons c r kids rest) (r + 1)
 | leaf {d c r : Nat} {kids rest : F} : b = true -> SK b kids r -> SK b rest r -> SK b (.cons d 0 .nil (.cons c r kids rest)) (r + 1)
theorem SK.size {b : Bool} {f : F} {r : Nat} (h : SK b f r) : 2 ^ r <= f.size + 1 /\ f.size + 1 < 2 ^ (r + 1) /\ (b = false -> f.size + 1 = 2 ^ r) := by
 induction h with
 | nil => simp [F.size]
 | real h1 h2 i1 i2 =>
  simp only [F.size, Nat.pow_succ] at *
  refine ⟨by omega, by omega, fun e => ?_⟩;have j := i1.2.2 e;have l := i2.2.2 e;omega
 | leaf i h1 h2 i1 i2 =>
  simp only [F.size, Nat.pow_succ] at *
  refine ⟨by omega, by omega, fun e => ?_⟩;rw [e] at i; cases i
def Ord (it : Nat -> It) (N : List Nd) : Prop := ∀ ν ∈ N, ∀ q : Nat, ν.up = (q : Int) -> ¬ (it ν.c).lt (it q)
theorem Ord.append {it : Nat -> It} {M N : List Nd} (h : Ord it M) (e : Ord it N) : Ord it (M ++ N) := fun ν i => by
 rcases List.mem_append.1 i with h1 | h1
 ·exact h ν h1
 ·exact e ν h1
theorem Ord.sub {it : Nat -> It} {M N : List Nd} (h : Ord it N) (hs : ∀ ν ∈ M, ν ∈ N) : Ord it M := fun ν e => h ν (hs ν e)
structure GT (b : Bool) (it : Nat -> It) (t : Tr) : Prop where
 sk : SK b t.kids t.r
 ord : Ord it (nd t.kids t.c)
theorem GT.under {b : Bool} {it : Nat -> It} {t l : Tr} (ht : GT b it t) (hl : GT b it l) (hr : l.r = t.r) (i : ¬ (it l.c).lt (it t.c)) : GT b it (t.under l) where
 sk := by
  show SK b (.cons l.c l.r l.kids t.kids) (t.r + 1);rw [hr];exact .real (hr ▸ hl.sk) ht.sk
 ord := by
  show Ord it (⟨l.c, t.c, l.kids.hd, -1, t.kids.hd, l.r, 0⟩ :: (nd l.kids l.c ++ nd t.kids t.c));intro ν e q hq;rcases List.mem_cons.1 e with rfl | e
  ·simp only at hq ⊢;have : q = t.c := by omega
   rw [this]; exact i
  ·exact (hl.ord.append ht.ord) ν e q hq
theorem aL {b : Bool} {it : Nat -> It} {s t : Tr} (hs : GT b it s) (ht : GT b it t) (hr : s.r = t.r) : GT b it (lk it s t) /\ (lk it s t).r = s.r + 1 /\ (lk it s t).cells.Perm (s.cells ++ t.cells) := by
 unfold lk;split
 ·rename_i h;refine ⟨ht.under hs hr (It.lt_asymm h), by simp [Tr.under, hr], ?_⟩;simp only [Tr.cells, Tr.under, F.cells, List.cons_append];exact (List.Perm.swap ..).trans (List.Perm.cons _ (List.perm_middle.symm))
 ·rename_i h;refine ⟨hs.under ht hr.symm h, rfl, ?_⟩;simp only [Tr.cells, Tr.under, F.cells, List.cons_append];refine List.Perm.cons _ ?_;exact List.perm_append_comm (l₁ := t.c :: t.kids.cells) (l₂ := s.kids.cells)
theorem ee {α β : Type} {f : α -> β} {l r : List β} (h : r.Perm l) : ∀ ls : List α, ls.map f = l -> ∃ ws : List α, ws.Perm ls /\ ws.map f = r := by
 induction h with
 | nil => intro ls e; exact ⟨ls, .refl _, e⟩
 | cons x h ih =>
  intro ls e;cases ls with
  | nil => simp at e
  | cons y ls =>
   simp only [pC, List.cons.injEq] at e;obtain ⟨ws, h1, h2⟩ := ih ls e.2;exact ⟨y :: ws, h1.cons y, by simp [h2, e.1]⟩
 | swap x y l =>
  intro ls e;cases ls with
  | nil => simp at e
  | cons u ls =>
   cases ls with
   | nil => simp at e
   | cons v ls =>
    simp only [pC, List.cons.injEq] at e;exact ⟨v :: u :: ls, List.Perm.swap .., by simp [e]⟩
 | trans h1 h2 i1 i2 =>
  intro ls e;obtain ⟨ws, h3, h4⟩ := i2 ls e;obtain ⟨vs, i, j⟩ := i1 ws h4;exact ⟨vs, i.trans h3, j⟩
theorem pE {α : Type} {l : List α} {i : Nat} (h : i <= l.length) : mCut l (i : Int) (l.length : Int) = some (l.drop i) := by
 unfold mCut;rw [if_pos ⟨by omega, by omega, by omega⟩];simp
def rk (l : Lt) : zm := zm.mk (l.t.c : Int) (l.t.r : Int)
section
variable {κ : Cfg} {it : Nat -> It} {N : List Nd} {L : Heap} {b : Bool}
theorem cu {n : Nat} {a : za} {ls : List Lt} (H : Hp κ n a it (LN ls ++ N) L) (e : ∀ l ∈ ls, GT b it l.t) : ∀ l ∈ ls, l.t.r < 17 := by
 intro l hl;have h1 := (e l hl).sk.size.1;have h2 := H.room;have h3 := H.cap;have h4 : l.nd.length <= (LN ls).length := by
  obtain ⟨p, q, rfl⟩ := List.append_of_mem hl;rw [wX, sj];simp only [lA]; omega
 rw [jr, lC, qk] at h4;rw [lA] at h2;have i : 2 ^ l.t.r < 2 ^ 17 := by
  have : (2 : Nat) ^ 17 = 131072 := by decide
  omega
 exact (Nat.pow_lt_pow_iff_right (by decide)).1 i
theorem gT (all : List Lt) (i : ∀ l ∈ all, l.top ∈ N) (hl : all.length < 100000) : ∀ (post pre : List Lt) {n : Nat} {a : za} (H : Hp κ n a it N L) (m : Nat), post.length < m -> all = pre ++ post ->
  Do (vr (all.length : Int) (lc all) m (pre.map rk) (pre.length : Int) a) fun r => ∃ a', r = (all.map rk, a') /\ Hp κ (n + post.length) a' it N L
 | [], pre, n, a, H, m, hm, e => by
  obtain ⟨m, rfl⟩ : ∃ q, m = q + 1 := ⟨m - 1, by simp at hm; omega⟩
  rw [vr];refine Do.f (dF (by rw [e]; simp)) ?_;exact ⟨_, rfl, a, by rw [e]; simp, H⟩
 | l :: post, pre, n, a, H, m, hm, e => by
  obtain ⟨m, rfl⟩ : ∃ q, m = q + 1 := ⟨m - 1, by simp at hm; omega⟩
  simp only [lC] at hm;have hlen : pre.length < 100000 := by have := congrArg List.length e; simp at this; omega
  have j : mIdx (lc all) (pre.length : Int) = some (l.t.c : Int) := by
   rw [e, wY, kS];have := yr (lc pre) (lc post) (l.t.c : Int)
   rwa [vk] at this
  rw [vr];refine Do.t (dT (by rw [e]; simp; omega)) ?_;refine Do.seq j ?_;refine (H.get (i l (by rw [e]; simp)) (f := 4) (v := (l.t.r : Int))).bind ?_;rintro _ ⟨a1, rfl, H1⟩;refine Do.seq (y4 (by simp; omega)) ?_;rw [zR (by omega) (by omega)];have := gT all i hl post (pre ++ [l]) H1 m (by omega) (by rw [e]; simp);have u : ((pre ++ [l]).length : Int) = (pre.length : Int) + 1 := by simp
  rw [u, List.map_append] at this;refine this.mono ?_;rintro _ ⟨a2, rfl, x⟩;exact ⟨a2, rfl, x.mono (by simp only [lC]; omega)⟩
theorem gf (v v1 : Int) (j u : List Int) (a : za) : ∀ (post pre : List Lt) (m : Nat), post.length < m -> (pre ++ post).length < 100000 -> (∀ l ∈ pre, (l.t.r : Int) < v1) ->
  Do (vp ((pre ++ post).map rk) v v1 j a u m (pre.length : Int)) fun r => ∃ p q, pre ++ post = p ++ q /\ r = (p.length : Int) /\ (∀ l ∈ p, (l.t.r : Int) < v1) /\ (∀ l y, q = l :: y -> ¬ (l.t.r : Int) < v1)
 | [], pre, m, hm, z, hp => by
  obtain ⟨m, rfl⟩ : ∃ q, m = q + 1 := ⟨m - 1, by simp at hm; omega⟩
  rw [vp];refine Do.fb (dF (by simp)) ?_;refine Do.seq rfl (Do.f rfl ?_);exact ⟨_, rfl, pre, [], rfl, rfl, hp, fun _ _ h => by cases h⟩
 | l :: post, pre, m, hm, z, hp => by
  obtain ⟨m, rfl⟩ : ∃ q, m = q + 1 := ⟨m - 1, by simp at hm; omega⟩
  simp only [lC, lA] at hm z;have A : mIdx ((pre ++ l :: post).map rk) (pre.length : Int) = some (rk l) := by
   rw [List.map_append, pC];have := yr (pre.map rk) (post.map rk) (rk l)
   rwa [lM] at this
  rw [vp];refine Do.tb (dT (by simp; omega)) ?_;refine Do.assoc (Do.seq A ?_);refine Do.seq rfl ?_;by_cases h : (l.t.r : Int) < v1
  ·refine Do.t (dT h) ?_;rw [zR (by omega) (by omega)];have := gf v v1 j u a post (pre ++ [l]) m (by omega) (by simp; omega) (by
    intro x i;rcases List.mem_append.1 i with i | i
    ·exact hp x i
    ·simp at i; subst i; exact h)
   have B : ((pre ++ [l]).length : Int) = (pre.length : Int) + 1 := by simp
   rw [B, aA] at this;exact this
  ·refine Do.f (dF h) ?_;exact ⟨_, rfl, pre, l :: post, rfl, rfl, hp, fun x y e => by cases e; exact h⟩
def LS (l : List Lt) : Prop := l.Pairwise fun x y => x.t.r <= y.t.r
def LSS (l : List Lt) : Prop := l.Pairwise fun x y => x.t.r < y.t.r
theorem v8 (s t : List Tr) : TC (s ++ t) = TC s ++ TC t := List.flatMap_append
theorem qc (s : Tr) (t : List Tr) : TC (s :: t) = s.cells ++ TC t := rfl
theorem dd {s t : List Tr} (h : s.Perm t) : (TC s).Perm (TC t) := h.flatMap_right _
theorem cpm {l l' : List Nat} (h : ∀ p : Nat -> Bool, l.countP p = l'.countP p) : l.Perm l' := List.perm_iff_count.2 fun x => h _
theorem kJ (J : List Int) : ∀ (q : Nat) (ws os : List Lt) {n : Nat} {a : za} (H : Hp κ n a it (LN ws ++ (LN os ++ N)) L) (m : Nat), ws.length = q -> q + os.length < 1000 -> q + 10 + 1000 < m -> (∀ l ∈ ws, GT b it l.t) -> (∀ l ∈ os, GT b it l.t) -> LS ws -> LSS os -> (∀ o ∈ os, ∀ w ∈ ws, o.t.r < w.t.r) ->
  Do (wy J m (ws.map rk) (lc os) a) fun r => ∃ fs a', r = (lc fs, a') /\ Hp κ (n + 11 * q) a' it (LN fs ++ N) L /\ (∀ l ∈ fs, GT b it l.t) /\ LSS fs /\ (TC (fs.map Lt.t)).Perm (TC (ws.map Lt.t) ++ TC (os.map Lt.t)) /\ fs.length <= q + os.length
 | 0, ws, os, n, a, H, m, hq, hb, hm, F, z, hs, A, j => by
  obtain ⟨m, rfl⟩ : ∃ q, m = q + 1 := ⟨m - 1, by omega⟩
  have := List.eq_nil_of_length_eq_zero hq;subst this;rw [wy];refine Do.f (dF (by simp)) ?_;exact ⟨_, rfl, os, a, rfl, H, z, A, by simp [TC], by simp⟩
 | q + 1, ws, os, n, a, H, m, hq, hb, hm, F, z, hs, A, j => by
  obtain ⟨m, rfl⟩ : ∃ q, m = q + 1 := ⟨m - 1, by omega⟩
  cases ws with
  | nil => simp at hq
  | cons x ws =>
   simp only [lC] at hq;have B : ws.length = q := by omega
   rw [wy];refine Do.t (dT (by simp)) ?_;refine Do.seq (r := rk x) rfl ?_;have I : LS ws := (List.pairwise_cons.1 hs).2;have hx := (List.pairwise_cons.1 hs).1;have out : (∀ w ∈ ws, x.t.r < w.t.r) -> Do ((mCut (rk x :: ws.map rk) 1 (((x :: ws).map rk).length : Int)).bind fun l4 => (mApp (lc os) ([(rk x).n] : List Int)).bind fun l5 => wy J m l4 l5 a) fun r => ∃ fs a', r = (lc fs, a') /\ Hp κ (n + 11 * (q + 1)) a' it (LN fs ++ N) L /\ (∀ l ∈ fs, GT b it l.t) /\ LSS fs /\ (TC (fs.map Lt.t)).Perm (TC ((x :: ws).map Lt.t) ++ TC (os.map Lt.t)) /\ fs.length <= q + 1 + os.length := by
    intro O;have S : mCut (rk x :: ws.map rk) 1 (((x :: ws).map rk).length : Int) = some (ws.map rk) := pE (l := (x :: ws).map rk) (i := 1) (by simp);refine Do.seq S ?_;refine Do.seq (y4 (by simp [vk]; omega)) ?_;have H1 : Hp κ n a it (LN ws ++ (LN (os ++ [x]) ++ N)) L := H.p (npm fun p => by
     simp only [sj, wX, List.countP_append, show LN ([] : List Lt) = [] from rfl, List.countP_nil]; omega)
    have := kJ J q ws (os ++ [x]) H1 m B (by simp; omega) (by omega) (fun l h => F l (mC _ h)) (fun l h => by
     rcases List.mem_append.1 h with h | h
     ·exact z l h
     ·simp at h; subst h; exact F l (List.mem_cons_self ..)) I (List.pairwise_append.2 ⟨A, by simp, fun o e y Z => by simp at Z; subst Z; exact j o e y (List.mem_cons_self ..)⟩) (fun o e w hw => by
     rcases List.mem_append.1 e with e | e
     ·exact j o e w (mC _ hw)
     ·simp at e; subst e; exact O w hw)
    rw [wY] at this;refine this.mono ?_;rintro _ ⟨fs, a2, rfl, U, h1, h2, h3, h4⟩;refine ⟨fs, a2, rfl, U.mono (by omega), h1, h2, h3.trans (cpm fun p => ?_), by rw [lA, List.length_singleton] at h4; omega⟩;simp only [List.map_append, pC, List.map_nil, v8, qc, List.countP_append, show TC ([] : List Tr) = [] from rfl, List.countP_nil]; omega
   cases ws with
   | nil =>
    refine Do.seq (r := true) rfl (Do.t rfl ?_);exact out (by simp)
   | cons y ws =>
    refine Do.fb (by simp; omega) ?_;refine Do.assoc (Do.seq (r := rk y) rfl ?_);refine Do.seq rfl ?_;by_cases hr : y.t.r = x.t.r
    ·refine Do.f (by simp [rk, hr]) ?_;refine Do.seq (r := rk y) rfl ?_;have H1 : Hp κ n a it (x.t.nd x.u x.w ++ (y.t.nd y.u y.w ++ (LN ws ++ (LN os ++ N)))) L := H.p (npm fun p => by
      simp only [sj, Lt.nd, List.countP_append]; omega)
     have a7 := cu H F x (List.mem_cons_self ..);refine (dw (k := m) (by omega) H1 rfl hr (by omega)).bind ?_;rintro _ ⟨u, w, a1, rfl, U⟩;have gx := F x (List.mem_cons_self ..);have gy := F y (mC _ (List.mem_cons_self ..));obtain ⟨g1, g2, g3⟩ := aL gx gy hr.symm;have S : mCut (rk x :: (y :: ws).map rk) 2 (((x :: y :: ws).map rk).length : Int) = some (ws.map rk) := pE (l := (x :: y :: ws).map rk) (i := 2) (by simp);refine Do.seq S ?_;have ew : w64 ((rk x).rank + 1) = ((x.t.r + 1 : Nat) : Int) := by
      simp only [rk]; rw [zR (by omega) (by omega)]; omega
     rw [ew];simp only [lC] at B;refine (gf (lk it x.t y.t).c ((x.t.r + 1 : Nat) : Int) (lc os) J a1 ws [] m (by omega) (by simp; omega) (by simp)).bind ?_;rintro _ ⟨p, r, ep, rfl, W, X⟩;simp only [List.nil_append] at ep;subst ep;have el : qV ((p ++ r).map rk) (p.length : Int) ([zm.mk ((lk it x.t y.t).c : Int) ((x.t.r + 1 : Nat) : Int)] : List zm) = some ((p ++ (⟨lk it x.t y.t, u, w⟩ : Lt) :: r).map rk) := by
      unfold qV;simp only [lA] at B;rw [if_pos ⟨by omega, by simp; omega, by simp; omega⟩];simp only [tN, List.map_append, pC];rw [List.take_left' (by simp), List.drop_left' (by simp)];simp only [rk, g2]
      rfl
     refine Do.seq el ?_;have hlen : (p ++ (⟨lk it x.t y.t, u, w⟩ : Lt) :: r).length = q := by
      simp only [lA, lC] at B ⊢; omega
     have Y := List.pairwise_cons.1 I;have D := List.pairwise_append.1 Y.2;have H3 : Hp κ (n + 11) a1 it (LN (p ++ (⟨lk it x.t y.t, u, w⟩ : Lt) :: r) ++ (LN os ++ N)) L := U.p (npm fun p => by
      simp only [sj, wX, Lt.nd, List.countP_append]; omega)
     have := kJ J q (p ++ (⟨lk it x.t y.t, u, w⟩ : Lt) :: r) os H3 m hlen (by omega) (by omega) (by
      intro l hl;rcases List.mem_append.1 hl with hl | hl
      ·exact F l (by simp [hl])
      ·rcases List.mem_cons.1 hl with rfl | hl
       ·exact g1
       ·exact F l (by simp [hl])) z (by
      refine List.pairwise_append.2 ⟨D.1, List.pairwise_cons.2 ⟨?_, D.2.1⟩, ?_⟩
      ·intro l hl;simp only [g2];cases r with
       | nil => cases hl
       | cons r0 r =>
        have h0 := X r0 r rfl;have h1 : r0.t.r <= l.t.r := by
         rcases List.mem_cons.1 hl with rfl | hl
         ·exact Nat.le_refl _
         ·exact (List.pairwise_cons.1 D.2.1).1 l hl
        omega
      ·intro o e l hl;rcases List.mem_cons.1 hl with rfl | hl
       ·have := W o e;simp only [g2]; omega
       ·exact D.2.2 o e l hl) A (by
      intro o e l hl;have h0 := j o e x (List.mem_cons_self ..);rcases List.mem_append.1 hl with hl | hl
      ·exact j o e l (by simp [hl])
      ·rcases List.mem_cons.1 hl with rfl | hl
       ·simp only [g2]; omega
       ·exact j o e l (by simp [hl]))
     refine this.mono ?_;rintro _ ⟨fs, a2, rfl, H4, h1, h2, h3, h4⟩;refine ⟨fs, a2, rfl, H4.mono (by omega), h1, h2, h3.trans (cpm fun p => ?_), by omega⟩;have := g3.countP_eq p;simp only [List.map_append, pC, v8, qc, List.countP_append] at this ⊢; omega
    ·refine Do.t (by simp [rk]; omega) ?_;refine out fun w hw => ?_
     have h1 := hx y (List.mem_cons_self ..);rcases List.mem_cons.1 hw with rfl | hw
     ·omega
     ·have := (List.pairwise_cons.1 I).1 w hw;omega
theorem rz {k : Nat} (hk : 3000 <= k) (ls : List Lt) (hl : ls.length <= 20) {n : Nat} {a : za} (H : Hp κ n a it (LN ls ++ N) L) (e : ∀ l ∈ ls, GT b it l.t) :
  Do (vd k a (lc ls)) fun r => ∃ f a', r = (f.hd, a') /\ Hp κ (n + 14 * ls.length) a' it (nd f (-1) ++ N) L /\ (∀ t ∈ f.trees, GT b it t) /\ (f.trees.Pairwise fun s t => s.r < t.r) /\ f.cells.Perm (TC (ls.map Lt.t)) := by
 unfold vd;have hr := cu H e;have h0 := gT (κ := κ) (it := it) (N := LN ls ++ N) (L := L) ls (fun l h => mL _ (nQ h)) (by omega) ls [] H k (by omega) rfl;rw [vk];refine h0.bind ?_;rintro _ ⟨a1, rfl, H1⟩;refine (cg (ls.map rk) (by simpa using hl) (by omega) (by
  intro y i;obtain ⟨l, hl, rfl⟩ := List.mem_map.1 i;have := hr l hl;exact ⟨by simp [rk], by simp only [rk]; omega⟩)).bind ?_
 rintro r ⟨hs, hp⟩;obtain ⟨ws, hw, rfl⟩ := ee hp ls rfl;have hlen : ws.length = ls.length := hw.length_eq;have j : Hp κ (n + ls.length) a1 it (LN ws ++ (LN ([] : List Lt) ++ N)) L := H1.p ((hF hw.symm).append_right _);have h1 := kJ (b := b) (lc ls) ws.length ws [] j k rfl (by simp; omega) (by omega) (fun l h => e l (hw.mem_iff.1 h)) (by simp) (by
  have := List.pairwise_map.1 hs;refine this.imp fun {x y} h => ?_
  simp only [rk] at h; omega) (by simp [LSS]) (by simp)
 refine h1.bind ?_;rintro _ ⟨fs, a2, rfl, u, g1, g2, g3, g4⟩;simp only [List.length_nil, Nat.add_zero] at g4;refine (ed fs (by omega) (by omega) u).bind ?_;rintro _ ⟨a3, rfl, z⟩;refine ⟨_, rfl, F.of (fs.map Lt.t), a3, rfl, z.mono (by omega), ?_, ?_, ?_⟩
 ·rw [F.nC];intro t ht;obtain ⟨l, hl, rfl⟩ := List.mem_map.1 ht;exact g1 l hl
 ·rw [F.nC];exact List.pairwise_map.2 g2
 ·rw [F.y3, F.nC];refine g3.trans ?_;rw [show TC (([] : List Lt).map Lt.t) = [] from rfl, aN];exact dd (hw.map _)
end
end
noncomputable section
set_option maxRecDepth 10000
section
variable {κ : Cfg} {n : Nat} {a : za} {it : Nat -> It} {N : List Nd} {L : Heap} {b : Bool}
theorem oh (e : List Tr) : (cs e).length = e.length := by simp [cs]
theorem vH {k : Nat} {f : F} (H : Hp κ n a it N L) (hs : ∀ ν ∈ nd f (-1), ν ∈ N) (hl : f.len <= κ.C) (hk : f.len < k) :
  Do (wk k a f.hd) fun r => ∃ a', r = (cs f.trees, a') /\ Hp κ (n + f.len) a' it N L := by
 unfold wk pz;refine Do.assoc ((er f (-1) H hs k [] hk (by simpa using hl)).bind ?_);rintro _ ⟨a1, rfl, H1⟩;exact ⟨_, rfl, a1, by simp [pn, cs], H1⟩
theorem jk {k : Nat} {ν : Nd} {f : F} (H : Hp κ n a it N L) (e : ν ∈ N) (hd : ν.down = f.hd) (hs : ∀ μ ∈ nd f ν.c, μ ∈ N) (hl : f.len <= κ.C) (hk : f.len < k) :
  Do (tP k a (ν.c : Int)) fun r => ∃ a', r = (cs f.trees, a') /\ Hp κ (n + 1 + f.len) a' it N L := by
 unfold tP pz;have hh := qY H hs;refine (H.getc e (f := 1) (v := f.hd) hh.1 hh.2 (by rw [<- hd]; rfl)).bind ?_;rintro _ ⟨a1, rfl, H1⟩;refine Do.assoc ((er f ν.c H1 hs k [] hk (by simpa using hl)).bind ?_);rintro _ ⟨a2, rfl, i⟩;exact ⟨_, rfl, a2, by simp [pn, cs], i⟩
theorem ko : ∀ (f : F) (q : Nat), Ord it (nd f (q : Int)) -> ∀ c ∈ f.cells, ¬ (it c).lt (it q)
 | .nil, q, h, c, e => by simp [F.cells] at e
 | .cons d r kids rest, q, h, c, e => by
  have h0 : ¬ (it d).lt (it q) := h ⟨d, q, kids.hd, -1, rest.hd, r, 0⟩ (List.mem_cons_self ..) q rfl;have h1 : Ord it (nd kids d) := h.sub fun ν i => mC _ (mL _ i)
  have h2 : Ord it (nd rest q) := h.sub fun ν i => mC _ (List.mem_append_right _ i)
  rw [F.cells] at e;rcases List.mem_cons.1 e with rfl | e
  ·exact h0
  ·rcases List.mem_append.1 e with e | e
   ·exact It.le_trans h0 (ko kids d h1 c e)
   ·exact ko rest q h2 c e
theorem GT.least {t : Tr} (h : GT b it t) : ∀ c ∈ t.cells, ¬ (it c).lt (it t.c) := by
 intro c e;rcases List.mem_cons.1 e with rfl | e
 ·exact It.lt_irrefl _
 ·exact ko t.kids t.c h.ord c e
theorem uR {f : F} {up : Int} (h : ∀ t ∈ f.trees, GT b it t) : ∀ l ∈ f.loose up, GT b it l.t := fun l hl => h l.t (by rw [<- xw f up]; exact List.mem_map_of_mem hl)
theorem oE : ∀ {f : F} {r : Nat}, SK b f r -> ∀ t ∈ f.trees, SK b t.kids t.r /\ t.r < r := by
 intro f r h;induction h with
 | nil => intro t ht; simp [F.trees] at ht
 | real h1 h2 i1 i2 =>
  intro t ht;rw [F.trees] at ht;rcases List.mem_cons.1 ht with rfl | ht
  ·exact ⟨h1, Nat.lt_succ_self _⟩
  ·obtain ⟨e, i⟩ := i2 t ht;exact ⟨e, by omega⟩
 | leaf j h1 h2 i1 i2 =>
  intro t ht;rw [F.trees, F.trees] at ht;rcases List.mem_cons.1 ht with rfl | ht
  ·exact ⟨.nil, by simp⟩
  rcases List.mem_cons.1 ht with rfl | ht
  ·exact ⟨h1, Nat.lt_succ_self _⟩
  ·obtain ⟨e, i⟩ := i2 t ht;exact ⟨e, by omega⟩
theorem eU : ∀ {f : F} {r : Nat}, SK b f r -> f.len <= 2 * r /\ (b = false -> f.len = r) := by
 intro f r h;induction h with
 | nil => exact ⟨by simp [F.len, F.trees], fun _ => rfl⟩
 | real h1 h2 i1 i2 =>
  simp only [F.len, F.trees, lC] at *
  exact ⟨by omega, fun e => by have := i2.2 e; omega⟩
 | leaf i h1 h2 i1 i2 =>
  simp only [F.len, F.trees, lC] at *
  exact ⟨by omega, fun e => by rw [e] at i; cases i⟩
theorem oA : ∀ {f : F} {up : Int}, Ord it (nd f up) -> ∀ t ∈ f.trees, Ord it (nd t.kids t.c)
 | .nil, up, h, t, ht => by simp [F.trees] at ht
 | .cons c r kids rest, up, h, t, ht => by
  rw [F.trees] at ht;rcases List.mem_cons.1 ht with rfl | ht
  ·exact h.sub fun ν e => mC _ (mL _ e)
  ·exact oA (f := rest) (up := up) (h.sub fun ν e => mC _ (List.mem_append_right _ e)) t ht
theorem eW : ∀ {f : F}, (∀ t ∈ f.trees, Ord it (nd t.kids t.c)) -> Ord it (nd f (-1))
 | .nil, h => fun ν e => by simp [nd] at e
 | .cons c r kids rest, h => by
  intro ν e q hq;rw [nd] at e;rcases List.mem_cons.1 e with rfl | e
  ·simp only at hq; omega
  ·rcases List.mem_append.1 e with e | e
   ·exact h ⟨c, r, kids⟩ (by simp [F.trees]) ν e q hq
   ·exact eW (f := rest) (fun t ht => h t (by simp [F.trees, ht])) ν e q hq
theorem GT.kids {t : Tr} (h : GT b it t) : ∀ s ∈ t.kids.trees, GT b it s := fun s hs => ⟨(oE h.sk s hs).1, oA h.ord s hs⟩
end
theorem gS (l : List Int) (v : Int) (hl : l.length < 100000) : ∀ (post pre : List Int) (m : Nat), post.length < m -> l = pre ++ post -> v ∈ post ->
  ∃ j : Nat, wJ v (l.length : Int) l m (pre.length : Int) = some (.inl (j : Int))
 | [], pre, m, hm, e, hv => by simp at hv
 | x :: post, pre, m, hm, e, hv => by
  obtain ⟨m, rfl⟩ : ∃ q, m = q + 1 := ⟨m - 1, by simp at hm; omega⟩
  simp only [lC] at hm;have hlen : pre.length < 100000 := by have := congrArg List.length e; simp at this; omega
  have i : mIdx l (pre.length : Int) = some x := by rw [e]; exact yr ..
  rw [wJ, dT (by rw [e]; simp; omega), i];simp only [cT, bS];by_cases h : v = x
  ·subst h;exact ⟨pre.length, by simp⟩
  ·rw [show (v == x) = false by simpa using h, cF, zR (by omega) (by omega)];have := gS l v hl post (pre ++ [x]) m (by omega) (by rw [e]; simp) (by simpa [h] using hv);have t : ((pre ++ [x]).length : Int) = (pre.length : Int) + 1 := by simp
   rw [t] at this;exact this
theorem oe {k : Nat} (l : List Int) (v : Int) (hl : l.length < 100000) (hk : l.length < k) (hv : v ∈ l) : wF k l v = some true := by
 unfold wF tv;obtain ⟨j, e⟩ := gS l v hl l [] k hk rfl hv;rw [show ((0 : Int)) = (([] : List Int).length : Int) from rfl, e];simp
section
variable {κ : Cfg} {n : Nat} {a : za} {it : Nat -> It} {N : List Nd} {L : Heap} {b : Bool}
theorem qG {f : F} {t : Tr} (H : Hp κ n a it (nd f (-1) ++ N) L) (ht : t ∈ f.trees) : ∃ p q, f.trees = p ++ t :: q /\ (t.c : Int) ∉ cs p /\ (t.c : Int) ∉ cs q := by
 obtain ⟨p, q, e⟩ := List.append_of_mem ht;have h1 : (f.cells).Nodup := by
  rw [<- xd f (-1)];have := H.nd;rw [List.map_append] at this;exact (List.nodup_append.1 this).1
 rw [F.y3, e, v8, qc] at h1;have h2 := (List.nodup_append.1 h1)
 have mem : ∀ {l : List Tr} {c : Nat}, (c : Int) ∈ cs l -> c ∈ TC l := by
  intro l c i;obtain ⟨s, hs, e⟩ := List.mem_map.1 i;have : s.c = c := by omega
  exact List.mem_flatMap.2 ⟨s, hs, by rw [<- this]; exact List.mem_cons_self ..⟩
 refine ⟨p, q, e, fun h => ?_, fun h => ?_⟩
 ·exact h2.2.2 _ (mem h) t.c (mL _ (List.mem_cons_self ..)) rfl
 ·exact (List.nodup_append.1 h2.2.1).2.2 t.c (List.mem_cons_self ..) _ (mem h) rfl
theorem qU : ∀ {f : F} {up : Int} {p q : List Tr} {t : Tr}, f.trees = p ++ t :: q -> ∃ p' i w, f.loose up = p' ++ (⟨t, up, w⟩ : Lt) :: i /\ p'.map Lt.t = p /\ i.map Lt.t = q
 | .nil, up, p, q, t, e => by simp [F.trees] at e
 | .cons c r kids rest, up, [], q, t, e => by
  simp only [F.trees, List.nil_append, List.cons.injEq] at e;exact ⟨[], rest.loose up, rest.hd, by rw [F.loose, e.1]; rfl, rfl, by rw [xw]; exact e.2⟩
 | .cons c r kids rest, up, x :: p, q, t, e => by
  simp only [F.trees, List.cons_append, List.cons.injEq] at e;obtain ⟨p', i, w, h1, h2, h3⟩ := qU (f := rest) (up := up) e.2;exact ⟨⟨⟨c, r, kids⟩, up, rest.hd⟩ :: p', i, w, by rw [F.loose, h1]; rfl, by simp [h2, e.1], h3⟩
end
end
noncomputable section
set_option maxRecDepth 10000
def UpOK (M : List Nd) : Prop := ∀ ν ∈ M, 0 <= ν.rank /\ (ν.up = -1 \/ ∃ μ ∈ M, ν.up = (μ.c : Int) /\ ν.rank < μ.rank)
structure RI (it : Nat -> It) (M : List Nd) (c : Nat) (any : Bool) : Prop where
 rest : ∀ ν ∈ M, ν.c ≠ c -> ∀ q : Nat, ν.up = (q : Int) -> q ≠ c -> ¬ (it ν.c).lt (it q)
 over : ∀ ν ∈ M, ν.up = (c : Int) -> ∀ μ ∈ M, μ.c = c -> ∀ q : Nat, μ.up = (q : Int) -> ¬ (it ν.c).lt (it q)
 down : any = false -> ∀ ν ∈ M, ν.up = (c : Int) -> ¬ (it ν.c).lt (it c)
theorem dh (it : Nat -> It) {c d : Nat} (h : c ≠ d) : swp it c d c = it d := by simp [swp, upd, h]
theorem ck (it : Nat -> It) (c d : Nat) : swp it c d d = it c := by simp [swp, upd]
theorem jJ (it : Nat -> It) {c d e : Nat} (h : e ≠ c) (i : e ≠ d) : swp it c d e = it e := by simp [swp, upd, h, i]
theorem gQ {it : Nat -> It} {c d : Nat} {l : List Nat} (hn : l.Nodup) (j : c ∈ l) (hd : d ∈ l) (h : c ≠ d) : (l.map (swp it c d)).Perm (l.map it) := by
 have h1 : l.Perm (c :: d :: (l.erase c).erase d) := (List.perm_cons_erase j).trans ((List.perm_cons_erase ((List.mem_erase_of_ne (Ne.symm h)).2 hd)).cons c);have h2 : (c :: d :: (l.erase c).erase d).Nodup := h1.nodup_iff.1 hn;simp only [List.nodup_cons, iC, not_or] at h2;refine (h1.map _).trans (List.Perm.trans ?_ (h1.map _).symm);simp only [pC];rw [dh it h, ck];have : ((l.erase c).erase d).map (swp it c d) = ((l.erase c).erase d).map it := List.map_congr_left fun e he => jJ it (fun i => h2.1.2 (i ▸ he)) (fun i => h2.2.1 (i ▸ he))
 rw [this];exact List.Perm.swap ..
theorem bW {M : List Nd} {ν μ : Nd} (i : ν ∈ M) (j : μ ∈ M) (h : ν.c ≠ μ.c) : ∃ l, M.Perm (ν :: μ :: l) := by
 obtain ⟨p, q, rfl⟩ := List.append_of_mem i;have hp : (p ++ ν :: q).Perm (ν :: (p ++ q)) := List.perm_middle;rcases List.mem_cons.1 (hp.mem_iff.1 j) with e | hm
 ·exact absurd (e ▸ rfl) h
 ·obtain ⟨p', t, e⟩ := List.append_of_mem hm;exact ⟨p' ++ t, hp.trans (by rw [e]; exact List.perm_middle.cons ν)⟩
section
variable {κ : Cfg} {N : List Nd} {L : Heap} {b : Bool}
theorem aP (any : Bool) (M : List Nd) (hU : UpOK M) (R : Int) (hR : ∀ ν ∈ M, ν.rank <= R) : ∀ (d : Nat) {it : Nat -> It} {n : Nat} {a : za} (H : Hp κ n a it (M ++ N) L) (ν : Nd), ν ∈ M -> R - ν.rank <= d -> ∀ (m : Nat) (O : Int), d + 10 < m -> 0 <= O -> O + d <= κ.C -> RI it M ν.c any ->
  Do (vc any m (ν.c : Int) O a) fun r => ∃ μ it' a', r = ((μ.c : Int), a') /\ μ ∈ M /\ Hp κ (n + 13 * d + 7) a' it' (M ++ N) L /\ it' μ.c = it ν.c /\ (∀ c, c ∉ M.map Nd.c -> it' c = it c) /\ ((M.map Nd.c).map it').Perm ((M.map Nd.c).map it) /\ (any = false -> Ord it' M) /\ (any = true -> μ.up = -1 /\ RI it' M μ.c true) := by
 intro d;induction d with
 | zero =>
  intro it n a H ν x hd m O hm a5 hk y;obtain ⟨m, rfl⟩ : ∃ q, m = q + 1 := ⟨m - 1, by omega⟩
  have j : ν.up = -1 := by
   rcases (hU ν x).2 with h | ⟨μ, z, h1, h2⟩
   ·exact h
   ·have := hR μ z; omega
  have D : ν ∈ M ++ N := mL _ x;rw [vc];refine Do.tb (bne_iff_ne.2 (by omega)) ?_;refine Do.assoc (Do.seq (Ar.cells H) ?_);refine Do.seq rfl (Do.t (dT (by omega)) ?_);refine (H.getc D (f := 0) (v := ν.up) (by omega) (by omega)).bind ?_;rintro _ ⟨a1, rfl, H1⟩;refine Do.tb (by simp [j]) ?_;refine Do.seq rfl (Do.t rfl ?_);refine ⟨_, rfl, ν, it, a1, rfl, x, H1.mono (by omega), rfl, fun _ _ => rfl, .refl _, fun ha => ?_, fun ha => ⟨j, ha ▸ y⟩⟩;intro A i q hq;by_cases h1 : A.c = ν.c
  ·have := H.same (mL _ i) D h1;subst this; omega
  ·by_cases h2 : q = ν.c
   ·rw [h2] at hq ⊢; exact y.down ha A i hq
   ·exact y.rest A i h1 q hq h2
 | succ d ih =>
  intro it n a H ν x hd m O hm a5 hk y;obtain ⟨m, rfl⟩ : ∃ q, m = q + 1 := ⟨m - 1, by omega⟩
  have D : ν ∈ M ++ N := mL _ x;have b2 := H.cap;rw [vc];refine Do.tb (bne_iff_ne.2 (by omega)) ?_;refine Do.assoc (Do.seq (Ar.cells H) ?_);refine Do.seq rfl (Do.t (dT (by omega)) ?_);rcases (hU ν x).2 with j | ⟨μ, z, j, a6⟩
  ·refine (H.getc D (f := 0) (v := ν.up) (by omega) (by omega)).bind ?_;rintro _ ⟨a1, rfl, H1⟩;refine Do.tb (by simp [j]) ?_;refine Do.seq rfl (Do.t rfl ?_);refine ⟨_, rfl, ν, it, a1, rfl, x, H1.mono (by omega), rfl, fun _ _ => rfl, .refl _, fun ha => ?_, fun ha => ⟨j, ha ▸ y⟩⟩;intro A i q hq;by_cases h1 : A.c = ν.c
   ·have := H.same (mL _ i) D h1;subst this; omega
   ·by_cases h2 : q = ν.c
    ·rw [h2] at hq ⊢; exact y.down ha A i hq
    ·exact y.rest A i h1 q hq h2
  ·have mμ : μ ∈ M ++ N := mL _ z;have b4 := H.lt mμ;have l : ν.c ≠ μ.c := fun e => by
    have := H.same D mμ e;rw [this] at a6; omega
   refine (H.getc D (f := 0) (v := ν.up) (by omega) (by omega)).bind ?_;rintro _ ⟨a1, rfl, H1⟩;refine Do.fb (by simp [j]) ?_;have go : ∀ {S : Nat} {a2 : za} (U : Hp κ S a2 it (M ++ N) L), S <= n + 7 -> (any = false -> (it ν.c).lt (it μ.c)) ->
     Do ((rv a2 (ν.c : Int) (μ.c : Int)).bind fun a8 => vc any m (μ.c : Int) (w64 (O + 1)) a8) fun r => ∃ μ it' a', r = ((μ.c : Int), a') /\ μ ∈ M /\ Hp κ (n + 13 * (d + 1) + 7) a' it' (M ++ N) L /\ it' μ.c = it ν.c /\ (∀ c, c ∉ M.map Nd.c -> it' c = it c) /\ ((M.map Nd.c).map it').Perm ((M.map Nd.c).map it) /\ (any = false -> Ord it' M) /\ (any = true -> μ.up = -1 /\ RI it' M μ.c true) := by
    intro S a2 U b5 F;obtain ⟨M', W⟩ := bW x z l;have H3 : Hp κ S a2 it (ν :: μ :: (M' ++ N)) L := U.p (W.append_right N);refine (qQ H3).bind ?_;intro a3 H4;have H5 : Hp κ (S + 6) a3 (swp it ν.c μ.c) (M ++ N) L := H4.p (W.append_right N).symm;have same : ∀ ξ ∈ M, ∀ ζ ∈ M, ξ.c = ζ.c -> ξ = ζ := fun ξ u ζ B e => H.same (mL _ u) (mL _ B) e
    have par : ∀ ξ ∈ M, ∀ q : Nat, ξ.up = (q : Int) -> ∃ ζ ∈ M, ζ.c = q /\ ξ.rank < ζ.rank := by
     intro ξ u q hq;rcases (hU ξ u).2 with h | ⟨ζ, B, h1, h2⟩
     ·omega
     ·exact ⟨ζ, B, by omega, h2⟩
    have a9 : RI (swp it ν.c μ.c) M μ.c any := by
     refine ⟨?_, ?_, ?_⟩
     ·intro ξ u h1 q hq h2;have h3 : ξ.c ≠ ν.c := fun e => by
       have := same ξ u ν x e;subst this; omega
      rw [jJ it h3 h1];by_cases h4 : q = ν.c
      ·rw [h4, dh it l];rw [h4] at hq;exact y.over ξ u hq ν x rfl μ.c j
      ·rw [jJ it h4 h2];exact y.rest ξ u h3 q hq h4
     ·intro ξ u h1 I b0 e q hq;have := same I b0 μ z e;subst this;obtain ⟨ζ, B, Z, h2⟩ := par I z q hq;have q1 : q ≠ I.c := fun X => by
       have := same ζ B I z (by omega);subst this; omega
      have q2 : q ≠ ν.c := fun X => by
       have := same ζ B ν x (by omega);subst this; omega
      rw [jJ it q2 q1];have h3 := y.rest I z (Ne.symm l) q hq q2;by_cases h4 : ξ.c = ν.c
      ·rw [h4, dh it l]; exact h3
      ·have Y : ξ.c ≠ I.c := fun X => by
        have := same ξ u I z X;subst this;obtain ⟨ζ, B, Z, h2⟩ := par ξ u ξ.c h1;have := same ζ B ξ u Z;subst this; omega
       rw [jJ it h4 Y];exact It.le_trans h3 (y.rest ξ u h4 I.c h1 (Ne.symm l))
     ·intro ha ξ u h1;rw [ck];by_cases h4 : ξ.c = ν.c
      ·rw [h4, dh it l]; exact It.lt_asymm (F ha)
      ·have Y : ξ.c ≠ μ.c := fun X => by
        have := same ξ u μ z X;subst this;obtain ⟨ζ, B, Z, h2⟩ := par ξ u ξ.c h1;have := same ζ B ξ u Z;subst this; omega
       rw [jJ it h4 Y];exact It.le_trans (It.lt_asymm (F ha)) (y.rest ξ u h4 μ.c h1 (Ne.symm l))
    have := ih H5 μ z (by omega) m (w64 (O + 1)) (by omega) (by rw [zR (by omega) (by omega)]; omega) (by rw [zR (by omega) (by omega)]; omega) a9;refine this.mono ?_;rintro _ ⟨μ2, b1, a4, rfl, h1, h2, h3, h4, Y, h6, h7⟩;refine ⟨μ2, b1, a4, rfl, h1, h2.mono (by omega), by rw [h3, ck], ?_, ?_, h6, h7⟩
    ·intro c J;rw [h4 c J];exact jJ it (fun e => J (e ▸ List.mem_map_of_mem x)) (fun e => J (e ▸ List.mem_map_of_mem z))
    ·refine Y.trans (gQ ?_ (List.mem_map_of_mem x) (List.mem_map_of_mem z) l);have := H.nd;rw [List.map_append] at this;exact (List.nodup_append.1 this).1
   rw [j];cases any with
   | true =>
    refine Do.fb rfl ?_;refine Do.seq rfl (Do.f rfl ?_);exact go H1 (by omega) (fun h => by cases h)
   | false =>
    refine Do.tb rfl ?_;refine Do.assoc ((H1.before (k := m) (by omega) D mμ).bind ?_);rintro _ ⟨a2, rfl, U⟩;refine Do.seq rfl ?_;by_cases J : (it ν.c).lt (it μ.c)
    ·refine Do.f (by simp [J]) ?_;exact go U (by omega) (fun _ => J)
    ·refine Do.t (by simp [J]) ?_;refine ⟨_, rfl, ν, it, a2, rfl, x, U.mono (by omega), rfl, fun _ _ => rfl, .refl _, fun ha => ?_, fun ha => by cases ha⟩;intro A i q hq;by_cases h1 : A.c = ν.c
     ·have := H.same (mL _ i) D h1;subst this;have : q = μ.c := by omega
      subst this; exact J
     ·by_cases h2 : q = ν.c
      ·rw [h2] at hq ⊢; exact y.down ha A i hq
      ·exact y.rest A i h1 q hq h2
theorem pQ {k : Nat} (any : Bool) (M : List Nd) (j : UpOK M) (R : Nat) (t : ∀ ν ∈ M, ν.rank <= R) {it : Nat -> It} {n : Nat} {a : za} (H : Hp κ n a it (M ++ N) L) (ν : Nd) (e : ν ∈ M) (hk : R + 10 < k) (hC : R <= κ.C) (u : RI it M ν.c any) :
  Do (uZ k a ((it ν.c).i : Int) any) fun r => ∃ μ it' a', r = ((μ.c : Int), a') /\ μ ∈ M /\ Hp κ (n + 13 * R + 8) a' it' (M ++ N) L /\ it' μ.c = it ν.c /\ (∀ c, c ∉ M.map Nd.c -> it' c = it c) /\ ((M.map Nd.c).map it').Perm ((M.map Nd.c).map it) /\ (any = false -> Ord it' M) /\ (any = true -> μ.up = -1 /\ RI it' M μ.c true) := by
 unfold uZ vJ;have l : ν ∈ M ++ N := mL _ e;refine Do.assoc ((Ar.cell H (H.item l) (f := 9) (v := (ν.c : Int)) rfl (by omega) (by have := H.lt l; omega)).bind ?_);rintro _ ⟨a1, rfl, H1⟩;have h0 := (j ν e).1;refine Do.seq rfl ?_;refine (aP any M j R t R (N := N) H1 ν e (by omega) k 0 hk (by omega) (by omega) u).bind ?_;rintro _ ⟨μ, it', a2, rfl, h1, h2, h3⟩;exact ⟨_, rfl, μ, it', a2, rfl, h1, h2.mono (by omega), h3⟩
end
end
noncomputable section
set_option maxRecDepth 10000
def eS (b : Bool) : List Tr -> Prop
 | [] => True
 | t :: r => r.Pairwise (fun s u => s.r < u.r) /\ (∀ s ∈ r, t.r <= s.r) /\ (b = false -> ∀ s ∈ r, t.r < s.r)
theorem eS.of {b : Bool} {l : List Tr} (h : l.Pairwise fun s u => s.r < u.r) : eS b l := by
 cases l with
 | nil => trivial
 | cons t r =>
  obtain ⟨h1, h2⟩ := List.pairwise_cons.1 h;exact ⟨h2, fun s hs => Nat.le_of_lt (h1 s hs), fun _ => h1⟩
theorem gz {R : Nat} {l : List Tr} (h : l.Pairwise fun s u => s.r < u.r) (e : ∀ t ∈ l, t.r < R) : l.length <= R := by
 have h1 : (l.map Tr.r).Nodup := by
  refine List.pairwise_map.2 (h.imp fun {x y} h => ?_);omega
 have := qs (m := List.range R) h1 (by
  intro x i;obtain ⟨t, ht, rfl⟩ := List.mem_map.1 i;exact List.mem_range.2 (e t ht))
 simpa using this
structure HB (b : Bool) (it : Nat -> It) (f : F) : Prop where
 good : ∀ t ∈ f.trees, GT b it t
 row : eS b f.trees
theorem ql : ∀ {f : F} {t : Tr}, t ∈ f.trees -> t.kids.size + 1 <= f.size
 | .nil, t, h => by simp [F.trees] at h
 | .cons c r kids rest, t, h => by
  rw [F.trees] at h;rcases List.mem_cons.1 h with rfl | h
  ·simp only [F.size]; omega
  ·have := ql h;simp only [F.size]; omega
theorem HB.lt {b : Bool} {it : Nat -> It} {f : F} (h : HB b it f) {R : Nat} (e : f.size < 2 ^ R) : ∀ t ∈ f.trees, t.r < R := by
 intro t ht;have h1 := (h.good t ht).sk.size.1;have h2 := ql ht;exact (Nat.pow_lt_pow_iff_right (a := 2) (by decide)).1 (by omega)
theorem HB.len {b : Bool} {it : Nat -> It} {f : F} (h : HB b it f) {R : Nat} (i : f.size < 2 ^ R) : f.len <= R + 1 := by
 have h1 := h.lt i;have h2 := h.row;unfold F.len;cases e : f.trees with
 | nil => simp
 | cons t r =>
  rw [e] at h1 h2;have := gz h2.1 (fun s hs => h1 s (mC _ hs));simp only [lC]; omega
theorem HB.lenB {it : Nat -> It} {f : F} (h : HB false it f) {R : Nat} (i : f.size < 2 ^ R) : f.len <= R := by
 have h1 := h.lt i;have h2 := h.row;unfold F.len;cases e : f.trees with
 | nil => simp
 | cons t r =>
  rw [e] at h1 h2;exact gz (List.pairwise_cons.2 ⟨h2.2.2 rfl, h2.1⟩) h1
theorem HB.nil {b : Bool} {it : Nat -> It} : HB b it .nil := ⟨by simp [F.trees], trivial⟩
theorem HB.congr {b : Bool} {it it' : Nat -> It} {f : F} (h : HB b it f) (i : ∀ c ∈ f.cells, it' c = it c) : HB b it' f := by
 refine ⟨fun t ht => ⟨(h.good t ht).sk, ?_⟩, h.row⟩;have h1 := (h.good t ht).ord;have l : ∀ c ∈ t.cells, c ∈ f.cells := fun c i => by rw [F.y3]; exact List.mem_flatMap.2 ⟨t, ht, i⟩
 have x : ∀ (g : F) (q : Nat), (∀ c ∈ g.cells, it' c = it c) -> it' q = it q -> Ord it (nd g (q : Int)) -> Ord it' (nd g (q : Int)) := by
  intro g;induction g with
  | nil => intro q _ _ _ ν e; simp [nd] at e
  | cons c r kids rest i1 i2 =>
   intro q y hq z;have hk : ∀ d ∈ kids.cells, it' d = it d := fun d hd => y d (by rw [F.cells]; exact mC _ (mL _ hd))
   have hr : ∀ d ∈ rest.cells, it' d = it d := fun d hd => y d (by rw [F.cells]; exact mC _ (List.mem_append_right _ hd))
   have i : it' c = it c := y c (by rw [F.cells]; exact List.mem_cons_self ..);intro ν e u j;rw [nd] at e;rcases List.mem_cons.1 e with rfl | e
   ·simp only at j ⊢;have : u = q := by omega
    subst this;rw [i, hq];exact z _ (List.mem_cons_self ..) u rfl
   ·rcases List.mem_append.1 e with e | e
    ·exact i1 c hk i (z.sub fun ν h => mC _ (mL _ h)) ν e u j
    ·exact i2 q hr hq (z.sub fun ν h => mC _ (List.mem_append_right _ h)) ν e u j
 exact x t.kids t.c (fun c A => i c (l c (mC _ A))) (i _ (l _ (List.mem_cons_self ..))) h1
theorem upok : ∀ {b : Bool} (f : F) (up : Int), (∀ t ∈ f.trees, SK b t.kids t.r) -> ∀ ν ∈ nd f up, 0 <= ν.rank /\ ((ν.up = up /\ ∃ t ∈ f.trees, ν.rank = t.r /\ ν.c = t.c) \/ ∃ μ ∈ nd f up, ν.up = (μ.c : Int) /\ ν.rank < μ.rank)
 | b, .nil, up, h, ν, e => by simp [nd] at e
 | b, .cons c r kids rest, up, h, ν, e => by
  have hh := h ⟨c, r, kids⟩ (by simp [F.trees]);rw [nd] at e;rcases List.mem_cons.1 e with rfl | e
  ·exact ⟨by simp only; omega, Or.inl ⟨rfl, ⟨c, r, kids⟩, by simp [F.trees], rfl, rfl⟩⟩
  ·rcases List.mem_append.1 e with e | e
   ·obtain ⟨h0, h1⟩ := upok (b := b) kids c (fun t ht => (oE hh t ht).1) ν e;refine ⟨h0, Or.inr ?_⟩;rcases h1 with ⟨h1, t, ht, h2, _⟩ | ⟨μ, i, h1⟩
    ·have : t.r < r := (oE hh t ht).2;exact ⟨_, List.mem_cons_self .., h1, by simp only; omega⟩
    ·exact ⟨μ, mC _ (mL _ i), h1⟩
   ·obtain ⟨h0, h1⟩ := upok (b := b) rest up (fun t ht => h t (by simp [F.trees, ht])) ν e;refine ⟨h0, ?_⟩;rcases h1 with ⟨h1, t, ht, h2⟩ | ⟨μ, i, h1⟩
    ·exact Or.inl ⟨h1, t, by simp [F.trees, ht], h2⟩
    ·exact Or.inr ⟨μ, mC _ (List.mem_append_right _ i), h1⟩
theorem oF : ∀ {b : Bool} (f : F) (up : Int), (∀ t ∈ f.trees, SK b t.kids t.r) -> ∀ ν ∈ nd f up, ∃ t ∈ f.trees, ν.rank <= t.r
 | b, .nil, up, h, ν, e => by simp [nd] at e
 | b, .cons c r kids rest, up, h, ν, e => by
  have hh := h ⟨c, r, kids⟩ (by simp [F.trees]);rw [nd] at e;rcases List.mem_cons.1 e with rfl | e
  ·exact ⟨⟨c, r, kids⟩, by simp [F.trees], Int.le_refl _⟩
  ·rcases List.mem_append.1 e with e | e
   ·obtain ⟨t, ht, h1⟩ := oF (b := b) kids c (fun t ht => (oE hh t ht).1) ν e;have : t.r < r := (oE hh t ht).2;exact ⟨⟨c, r, kids⟩, by simp [F.trees], by simp only; omega⟩
   ·obtain ⟨t, ht, h1⟩ := oF (b := b) rest up (fun t ht => h t (by simp [F.trees, ht])) ν e;exact ⟨t, by simp [F.trees, ht], h1⟩
theorem HB.upOK {b : Bool} {it : Nat -> It} {f : F} (h : HB b it f) : UpOK (nd f (-1)) := by
 intro ν e;obtain ⟨h0, h1⟩ := upok f (-1) (fun t ht => (h.good t ht).sk) ν e;refine ⟨h0, ?_⟩;rcases h1 with ⟨h1, _⟩ | h1
 ·exact Or.inl h1
 ·exact Or.inr h1
theorem HB.ord {b : Bool} {it : Nat -> It} {f : F} (h : HB b it f) : Ord it (nd f (-1)) := eW fun t ht => (h.good t ht).ord
theorem Ord.lower {it : Nat -> It} {M : List Nd} {c : Nat} {x : It} (h : Ord it M) (y : ¬ (it c).lt x) (t : ∀ ν ∈ M, ∀ μ ∈ M, ν.c = μ.c -> ν = μ) (i : ∀ ν ∈ M, ν.up ≠ (ν.c : Int)) : RI (upd it c x) M c false := by
 refine ⟨?_, ?_, ?_⟩
 ·intro ν j h1 q hq h2;rw [vG _ _ h1, vG _ _ h2]; exact h ν j q hq
 ·intro ν j h1 μ u e q hq;have h2 : ν.c ≠ c := fun l => by
   have := i ν j;rw [l] at this; exact this h1
  have h3 : q ≠ c := fun l => by
   have := i μ u;rw [e, <- l] at this; exact this hq
  rw [vG _ _ h2, vG _ _ h3];have := h μ u q hq;rw [e] at this;exact It.le_trans this (h ν j c h1)
 ·intro _ ν j h1;have h2 : ν.c ≠ c := fun l => by
   have := i ν j;rw [l] at this; exact this h1
  rw [vG _ _ h2, uj];exact fun h3 => h ν j c h1 (It.fe h3 y)
theorem Ord.any {it : Nat -> It} {M : List Nd} {c : Nat} (h : Ord it M) : RI it M c true := by
 refine ⟨fun ν i h1 q hq h2 => h ν i q hq, fun ν i h1 μ j e q hq => ?_, fun h => by cases h⟩;have := h μ j q hq;rw [e] at this;exact It.le_trans this (h ν i c h1)
theorem UpOK.self {M : List Nd} (h : UpOK M) (hs : ∀ ν ∈ M, ∀ μ ∈ M, ν.c = μ.c -> ν = μ) : ∀ ν ∈ M, ν.up ≠ (ν.c : Int) := by
 intro ν i e;rcases (h ν i).2 with h1 | ⟨μ, j, h1, h2⟩
 ·omega
 ·have := hs μ j ν i (by omega);subst this; omega
theorem cN : ∀ (f : F) (up : Int), ∀ ν ∈ nd f up, ν.c ∈ f.cells /\ (ν.up = up \/ ∃ d ∈ f.cells, ν.up = (d : Int))
 | .nil, up, ν, e => by simp [nd] at e
 | .cons c r kids rest, up, ν, e => by
  rw [nd] at e;rw [F.cells];rcases List.mem_cons.1 e with rfl | e
  ·exact ⟨List.mem_cons_self .., Or.inl rfl⟩
  ·rcases List.mem_append.1 e with e | e
   ·obtain ⟨h1, h2⟩ := cN kids c ν e;refine ⟨mC _ (mL _ h1), Or.inr ?_⟩;rcases h2 with h2 | ⟨d, hd, h2⟩
    ·exact ⟨c, List.mem_cons_self .., h2⟩
    ·exact ⟨d, mC _ (mL _ hd), h2⟩
   ·obtain ⟨h1, h2⟩ := cN rest up ν e;refine ⟨mC _ (List.mem_append_right _ h1), ?_⟩;rcases h2 with h2 | ⟨d, hd, h2⟩
    ·exact Or.inl h2
    ·exact Or.inr ⟨d, mC _ (List.mem_append_right _ hd), h2⟩
theorem im {f : F} {up : Int} : ∀ {t : Tr}, t ∈ f.trees -> ∀ ν ∈ nd t.kids t.c, ν ∈ nd f up := by
 intro t ht ν e;rw [wU f up];rw [<- xw f up] at ht;obtain ⟨l, hl, rfl⟩ := List.mem_map.1 ht;exact List.mem_flatMap.2 ⟨l, hl, by rw [jr]; exact mC _ e⟩
section
variable {κ : Cfg} {n : Nat} {a : za} {it : Nat -> It} {N : List Nd} {L : Heap} {b : Bool}
theorem sI {f : F} (H : Hp κ n a it (nd f (-1) ++ N) L) : 2 * f.size + 2 * N.length + L.length <= κ.C := by
 have := H.room;rw [lA, qk] at this; omega
theorem og {k : Nat} {f : F} (H : Hp κ n a it N L) (hs : ∀ ν ∈ nd f (-1), ν ∈ N) (y : HB b it f) {t0 : Tr} {j : List Tr} (e : f.trees = t0 :: j) (hk : 95000 < k) (hl : f.len < 90000) :
  Do (vn k a (cs f.trees)) fun res => ∃ t a', t ∈ f.trees /\ res = ((t.c : Int), a') /\ Hp κ (n + 6 * f.len) a' it N L /\ ∀ d ∈ f.cells, ¬ (it d).lt (it t.c) := by
 have hz : cs f.trees = zl (t0.c :: j.map Tr.c) := by rw [e]; simp [cs, zl]
 have hlen : f.len = j.length + 1 := by unfold F.len; rw [e]; rfl
 rw [hz];have z : ∀ d ∈ t0.c :: j.map Tr.c, ∃ ν ∈ N, ν.c = d := by
  intro d hd;have : d ∈ f.trees.map Tr.c := by rw [e]; exact hd
  rw [<- xw f (-1), List.map_map] at this;obtain ⟨l, hl, rfl⟩ := List.mem_map.1 this;exact ⟨l.top, hs _ (by rw [wU]; exact nQ hl), rfl⟩
 refine (cl t0.c (j.map Tr.c) z (by simp; omega) (by simp; omega) H).mono ?_;rintro _ ⟨a1, rfl, H1⟩;rw [lM] at H1;have u : bst it t0.c (j.map Tr.c) ∈ f.trees.map Tr.c := by
  rw [e];rcases hY (it := it) (j.map Tr.c) t0.c with h | h
  ·rw [h]; exact List.mem_cons_self ..
  ·exact mC _ h
 obtain ⟨t, ht, x⟩ := List.mem_map.1 u;have i := iD (it := it) (j.map Tr.c) t0.c;rw [<- x] at i;refine ⟨t, a1, ht, by rw [x], H1.mono (by omega), fun d hd => ?_⟩;rw [F.y3] at hd;obtain ⟨s, hs', hd⟩ := List.mem_flatMap.1 hd;have h1 := (y.good s hs').least d hd;refine It.le_trans ?_ h1;rw [e] at hs';rcases List.mem_cons.1 hs' with rfl | hs'
 ·exact i.1
 ·exact i.2 _ (List.mem_map_of_mem hs')
theorem kN {M : List Nd} (H : Hp κ n a it (M ++ N) L) : ∀ ν ∈ M, ∀ μ ∈ M, ν.c = μ.c -> ν = μ := fun ν i μ j e => H.same (mL _ i) (mL _ j) e
theorem sX {f : F} {up : Int} {c : Nat} (h : c ∈ f.cells) : ∃ ν ∈ nd f up, ν.c = c := by
 rw [<- xd f up] at h;obtain ⟨ν, e, rfl⟩ := List.mem_map.1 h;exact ⟨ν, e, rfl⟩
theorem size_le {f : F} (H : Hp κ n a it (nd f (-1) ++ N) L) (e : 0 < f.size) (j : ∀ t ∈ f.trees, SK b t.kids t.r) : ∃ R, (∀ t ∈ f.trees, t.r <= R) /\ R <= κ.C /\ (∀ Q, f.size < 2 ^ Q -> R < Q) := by
 have i := sI H;have : ∀ l : List Tr, (∀ t ∈ l, 2 ^ t.r <= f.size) -> ∃ R, (∀ t ∈ l, t.r <= R) /\ 2 ^ R <= f.size := by
  intro l;induction l with
  | nil => intro _; exact ⟨0, by simp, by rw [Nat.pow_zero]; exact e⟩
  | cons t l ih =>
   intro h;obtain ⟨R, h1, h2⟩ := ih fun s hs => h s (mC _ hs)
   by_cases c : t.r <= R
   ·exact ⟨R, fun s hs => by
     rcases List.mem_cons.1 hs with rfl | hs
     ·exact c
     ·exact h1 s hs, h2⟩
   ·exact ⟨t.r, fun s hs => by
     rcases List.mem_cons.1 hs with rfl | hs
     ·exact Nat.le_refl _
     ·exact Nat.le_trans (h1 s hs) (by omega), h t (List.mem_cons_self ..)⟩
 obtain ⟨R, h1, h2⟩ := this f.trees fun t ht => by
  have u := (j t ht).size.1;have x := ql ht;omega
 refine ⟨R, h1, ?_, fun Q y => (Nat.pow_lt_pow_iff_right (a := 2) (by decide)).1 (by omega)⟩;have : R < 2 ^ R := Nat.lt_two_pow_self;omega
theorem jj (s t : List Tr) : cs (s ++ t) = cs s ++ cs t := List.map_append
theorem rf {f : F} {p q : List Tr} {t : Tr} (e : f.trees = p ++ t :: q) : f.cells.Perm (t.c :: (TC (p ++ q) ++ t.kids.cells)) := by
 rw [F.y3, e];refine cpm fun P => ?_
 simp only [v8, qc, Tr.cells, List.countP_append, List.countP_cons, List.cons_append];omega
theorem jE {b : Bool} {it' : Nat -> It} {f : F} {t : Tr} {p q : List Tr} (hn : f.cells.Nodup) (A : HB b it f) (e : f.trees = p ++ t :: q) (B : RI it' (nd f (-1)) t.c true) :
  (∀ s ∈ p ++ q, GT b it' s) /\ (∀ s ∈ t.kids.trees, GT b it' s) := by
 rw [F.y3, e] at hn;have u : (t.c :: (TC (p ++ q) ++ t.kids.cells)).Nodup := by
  refine (List.Perm.nodup_iff (cpm fun P => ?_)).1 hn;simp only [v8, qc, Tr.cells, List.countP_append, List.countP_cons, List.cons_append]; omega
 obtain ⟨h1, h2⟩ := List.nodup_cons.1 u;have key : ∀ s : Tr, (∀ ν ∈ nd s.kids s.c, ν ∈ nd f (-1)) -> (∀ d ∈ s.cells, d ≠ t.c) -> Ord it' (nd s.kids s.c) := by
  intro s hs hd ν i q hq;obtain ⟨D, x⟩ := cN s.kids s.c ν i;refine B.rest ν (hs ν i) (hd _ (mC _ D)) q hq ?_;rcases x with x | ⟨d, y, x⟩
  ·have : q = s.c := by omega
   subst this; exact hd _ (List.mem_cons_self ..)
  ·have : q = d := by omega
   subst this; exact hd _ (mC _ y)
 refine ⟨fun s hs => ?_, fun s hs => ?_⟩
 ·have j : s ∈ f.trees := by rw [e]; rcases List.mem_append.1 hs with h | h <;> simp [h]
  refine ⟨(A.good s j).sk, key s (fun ν i => im j ν i) fun d hd z => ?_⟩;exact h1 (z ▸ mL _ (List.mem_flatMap.2 ⟨s, hs, hd⟩))
 ·have l : t ∈ f.trees := by rw [e]; simp
  have gt := A.good t l;refine ⟨(oE gt.sk s hs).1, key s (fun ν i => im l ν (im hs ν i)) fun d hd z => ?_⟩;refine h1 (z ▸ List.mem_append_right _ ?_);rw [F.y3];exact List.mem_flatMap.2 ⟨s, hs, hd⟩
theorem cp {f : F} {μ : Nd} {b : Bool} (i : ∀ t ∈ f.trees, SK b t.kids t.r) (j : μ ∈ nd f (-1)) (l : μ.up = -1) : ∃ t ∈ f.trees, μ.c = t.c := by
 rcases (upok f (-1) i μ j).2 with ⟨_, t, ht, _, e⟩ | ⟨ξ, _, e, _⟩
 ·exact ⟨t, ht, e⟩
 ·omega
end
end
noncomputable section
set_option maxRecDepth 10000
section
variable {κ : Cfg} {n : Nat} {a : za} {it : Nat -> It} {N : List Nd} {L : Heap} {b : Bool}
namespace Bi
theorem tj (l : List Int) (v : Int) (hl : l.length < 100000) : ∀ (post pre : List Int) (m : Nat), post.length < m -> l = pre ++ post -> v ∉ pre ->
  (zY (l.length : Int) l v m (pre.length : Int) = some (.inr ()) /\ v ∉ post) \/ ∃ p q, l = p ++ v :: q /\ v ∉ p /\ zY (l.length : Int) l v m (pre.length : Int) = some (.inl (p.length : Int))
 | [], pre, m, hm, e, hv => by
  obtain ⟨m, rfl⟩ : ∃ q, m = q + 1 := ⟨m - 1, by simp at hm; omega⟩
  left
  rw [zY, dF (by rw [e]; simp)];exact ⟨rfl, by simp⟩
 | x :: post, pre, m, hm, e, hv => by
  obtain ⟨m, rfl⟩ : ∃ q, m = q + 1 := ⟨m - 1, by simp at hm; omega⟩
  simp only [lC] at hm;have hlen : pre.length < 100000 := by have := congrArg List.length e; simp at this; omega
  have i : mIdx l (pre.length : Int) = some x := by rw [e]; exact yr ..
  rw [zY, dT (by rw [e]; simp; omega), i];simp only [cT, bS, wG];by_cases h : x = v
  ·subst h
   right
   refine ⟨pre, post, e, hv, ?_⟩;simp
  ·have j : (x == v) = false := by simpa using h
   rw [j, cF, zR (by omega) (by omega)];have := tj l v hl post (pre ++ [x]) m (by omega) (by rw [e]; simp) (by simp [hv]; exact fun e => h e.symm);have t : ((pre ++ [x]).length : Int) = (pre.length : Int) + 1 := by simp
   rw [t] at this;rcases this with ⟨h1, h2⟩ | h1
   ·exact Or.inl ⟨h1, by simp [h2]; exact fun e => h e.symm⟩
   ·exact Or.inr h1
theorem uI (v : Int) : ∀ (R A : List Int) (g : Int) (m : Nat), R.length < m -> A.length + R.length < 100000 -> v ∉ R ->
  Do (yf v m (A.length : Int) ((A.length : Int) + 1) (A ++ g :: R)) fun r => ∃ g', r = (((A ++ R).length : Int), (A ++ R) ++ [g'])
 | [], A, g, m, hm, i, hv => by
  obtain ⟨m, rfl⟩ : ∃ q, m = q + 1 := ⟨m - 1, by simp at hm; omega⟩
  rw [yf];refine Do.f (dF (by simp)) ?_;exact ⟨_, rfl, g, by simp⟩
 | x :: R, A, g, m, hm, i, hv => by
  obtain ⟨m, rfl⟩ : ∃ q, m = q + 1 := ⟨m - 1, by simp at hm; omega⟩
  simp only [lC] at hm i;simp only [iC, not_or] at hv;rw [yf];refine Do.t (dT (by simp; omega)) ?_;have j : mIdx (A ++ g :: x :: R) ((A.length : Int) + 1) = some x := by
   have := yr (A ++ [g]) R x;simpa using this
  refine Do.assoc (Do.seq j ?_);refine Do.assoc (Do.seq rfl ?_);refine Do.tb (by simp; exact fun e => hv.1 e.symm) ?_;refine Do.assoc (Do.seq (yr A (x :: R) g) ?_);refine Do.seq rfl ?_;have es : mSet (A ++ g :: x :: R) (A.length : Int) x = (A ++ [x]) ++ x :: R := by rw [nO]; simp
  rw [es, zR (by omega) (by omega), zR (by omega) (by omega)];have := uI v R (A ++ [x]) x m (by omega) (by simp; omega) hv.2;have l : ((A ++ [x]).length : Int) = (A.length : Int) + 1 := by simp
  rw [l] at this;refine this.mono ?_;rintro _ ⟨g', rfl⟩;exact ⟨g', by simp⟩
theorem se {k : Nat} (p q : List Int) (v : Int) (hp : v ∉ p) (hq : v ∉ q) (hl : (p ++ v :: q).length < 100000) (hk : (p ++ v :: q).length < k) :
  xg k (p ++ v :: q) v = some (p ++ q) := by
 unfold xg xQ;rcases tj (p ++ v :: q) v hl (p ++ v :: q) [] k hk rfl (by simp) with ⟨_, h2⟩ | ⟨p', i, e, hv, h⟩
 ·simp at h2
 ·have j : p' = p /\ i = q := by
   clear h;have := congrArg (List.takeWhile (fun x => x != v)) e;have h1 : ∀ (p q : List Int), v ∉ p -> (p ++ v :: q).takeWhile (fun x => x != v) = p := by
    intro p q hp;rw [List.takeWhile_append_of_pos (by intro x l; simp; exact fun e => hp (e ▸ l))];simp
   rw [h1 p q hp, h1 p' i hv] at this;subst this;simpa using e.symm
  obtain ⟨rfl, rfl⟩ := j;have t : zY ((p' ++ v :: i).length : Int) (p' ++ v :: i) v k 0 = some (.inl (p'.length : Int)) := h;rw [t];simp only [bS];rw [show ((p'.length : Int) == -1) = false by simp, cF];simp only [lA, lC] at hl hk;rw [zR (by omega) (by omega)];obtain ⟨r, u, g', rfl⟩ := uI v i p' v k (by omega) (by omega) hq;rw [u];simp only [bS];have y : mCut ((p' ++ i) ++ [g']) ((p' ++ i).length : Int) (((p' ++ i) ++ [g']).length : Int) = some [g'] := by
   rw [pE (by simp)];simp
  rw [y];simp only [bS];have z : mCut (rW ((p' ++ i) ++ [g']) ((p' ++ i).length : Int) 0) 0 ((p' ++ i).length : Int) = some (p' ++ i) := by
   unfold mCut rW;have : ((p' ++ i ++ [g']).length - ((p' ++ i).length : Int).toNat) = 1 := by simp only [lA, List.length_singleton]; omega
   rw [this];simp only [tN];rw [List.take_left' (l₁ := p' ++ i) rfl];rw [if_pos ⟨by omega, by omega, by simp; omega⟩];simp only [Int.toNat_zero, List.drop_zero];rw [List.take_left' (l₁ := p' ++ i) rfl]
  rw [z]
  rfl
theorem kT {k : Nat} {f : F} (H : Hp κ n a it (nd f (-1) ++ N) L) (B : HB b it f) (hk : 95000 < k) :
  Do (tn k a f.hd) fun res => ∃ a', Hp κ (n + 7 * f.len + 1) a' it (nd f (-1) ++ N) L /\ ((f = .nil /\ res = (-1, a')) \/ ∃ c ∈ f.cells, res = (((it c).i : Int), a') /\ ∀ d ∈ f.cells, ¬ (it d).lt (it c)) := by
 unfold tn;have j : ∀ ν ∈ nd f (-1), ν ∈ nd f (-1) ++ N := fun ν h => mL _ h
 have y := sI H;have D := f.vD;have A := H.cap;refine (vH (k := k) H j (by omega) (by omega)).bind ?_;rintro _ ⟨a1, rfl, H1⟩;cases e : f.trees with
 | nil =>
  have : f = .nil := by
   cases f with
   | nil => rfl
   | cons => simp [F.trees] at e
  subst this;refine Do.seq (gb (by omega) a1) ?_;refine (H1.eY (c := -1) (by decide)).bind ?_;rintro _ ⟨a2, rfl, z⟩;exact ⟨_, rfl, a2, z.mono (by omega), Or.inl ⟨rfl, rfl⟩⟩
 | cons t0 J =>
  rw [<- e];refine (og (k := k) H1 j B e hk (by omega)).bind ?_;rintro _ ⟨t, a2, ht, rfl, z, u⟩;have : t ∈ (f.loose (-1)).map Lt.t := by rw [xw]; exact ht
  obtain ⟨l, hl, rfl⟩ := List.mem_map.1 this;have x : l.top ∈ nd f (-1) ++ N := j _ (by rw [wU]; exact nQ hl);refine (z.geti x).bind ?_;rintro _ ⟨a3, rfl, I⟩;refine ⟨_, rfl, a3, I.mono (by omega), Or.inr ⟨l.t.c, ?_, rfl, u⟩⟩;rw [F.y3];exact List.mem_flatMap.2 ⟨l.t, ht, List.mem_cons_self ..⟩
theorem nV {k : Nat} {f : F} {c : Nat} {x : It} (H : Hp κ n a (upd it c x) (nd f (-1) ++ N) L) (j : HB b it f) (u : c ∈ f.cells) (I : ¬ (it c).lt x) (hk : 70000 < k) {Q : Nat} (J : f.size < 2 ^ Q) (O : Q < 60) :
  Do (uE k a f.hd (x.i : Int)) fun r => ∃ it' a', r = (f.hd, a') /\ Hp κ (n + 13 * Q + 8) a' it' (nd f (-1) ++ N) L /\ HB b it' f /\ (∀ d, d ∉ f.cells -> it' d = it d) /\ (f.cells.map it').Perm (f.cells.map (upd it c x)) := by
 unfold uE;obtain ⟨ν, y, A⟩ := sX (up := -1) u;have hs := kN H;have l : 0 < f.size := by
  rw [<- F.w3]; exact List.length_pos_of_mem u
 have z := sI H;obtain ⟨R, h1, h2, h3⟩ := size_le (b := b) H l fun t ht => (j.good t ht).sk
 have S := h3 Q J;have U : RI (upd it c x) (nd f (-1)) ν.c false := by rw [A]; exact j.ord.lower I hs (j.upOK.self hs)
 have := pQ (k := k) false (nd f (-1)) j.upOK R (fun ν y => by
  obtain ⟨t, ht, e⟩ := oF f (-1) (fun t ht => (j.good t ht).sk) ν y;have := h1 t ht; omega) H ν y (by omega) h2 U
 rw [A, uj] at this;refine this.bind ?_;rintro _ ⟨μ, it', a1, rfl, X, H1, Y, B, D, W, _⟩;rw [xd] at B D;refine ⟨_, rfl, it', a1, rfl, H1.mono (by omega), ⟨fun t ht => ⟨(j.good t ht).sk, oA (W rfl) t ht⟩, j.row⟩, fun d hd => ?_, D⟩;rw [B d hd];exact vG _ _ (fun e => hd (e ▸ u))
theorem tq {k : Nat} {f : F} {p q : List Tr} {t : Tr} (H : Hp κ n a it (nd f (-1) ++ N) L) (e : f.trees = p ++ t :: q) (hp : (t.c : Int) ∉ cs p) (hq : (t.c : Int) ∉ cs q)
  (D : ∀ s ∈ p ++ q, GT false it s) (y : ∀ s ∈ t.kids.trees, GT false it s) (hlen : (p ++ q).length + t.kids.len <= 20) (hk : 95000 < k) :
  Do (xB k a (cs f.trees) (t.c : Int)) fun r => ∃ u a', r = (u.hd, ((it t.c).i : Int), a') /\ Hp κ (n + 4 + t.kids.len + 14 * ((p ++ q).length + t.kids.len)) a' it (nd u (-1) ++ N) (((it t.c).i, (it t.c).cell (-1)) :: L) /\ HB false it u /\ u.cells.Perm (TC (p ++ q) ++ t.kids.cells) := by
 unfold xB;have z := sI H;have B := H.cap;have x : (p ++ q).length <= 20 := by omega
 rw [lA] at x;rw [e, jj];refine Do.seq (se (cs p) (cs q) (t.c : Int) hp hq (by simp [cs]; omega) (by simp [cs]; omega)) ?_;obtain ⟨p', j, w, hl, rfl, rfl⟩ := qU (f := f) (up := -1) e;have I : nd f (-1) = LN p' ++ ((⟨t, -1, w⟩ : Lt).top :: (nd t.kids t.c ++ LN j)) := by
  rw [wU, hl, wX, sj, jr]; simp
 have H1 : Hp κ n a it ((⟨t, -1, w⟩ : Lt).top :: (LN (p' ++ j ++ t.kids.loose t.c) ++ N)) L := H.p (npm fun P => by
  rw [I];simp only [wX, <- wU, List.countP_append, List.countP_cons]; omega)
 have J := t.kids.vD;have O : t.kids.size + 1 <= f.size := ql (f := f) (by rw [e]; simp);refine (jk (k := k) (f := t.kids) H1 (List.mem_cons_self ..) rfl (fun μ S => ?_) (by omega) (by omega)).bind ?_
 ·refine mC _ (mL _ ?_);rw [wX, <- wU];exact List.mem_append_right _ S
 rintro _ ⟨a1, rfl, U⟩;refine Do.seq (y4 (by simp [cs] at *; unfold F.len at hlen; omega)) ?_;refine (rL U).bind ?_;rintro _ ⟨a2, rfl, W⟩;have X : cs (p'.map Lt.t) ++ cs (j.map Lt.t) ++ cs t.kids.trees = lc (p' ++ j ++ t.kids.loose t.c) := by
  rw [wY, wY]; simp only [lc, xw]
 have A : (p' ++ j ++ t.kids.loose t.c).length = (p'.map Lt.t ++ j.map Lt.t).length + t.kids.len := by
  unfold F.len; rw [<- xw t.kids t.c]; simp [Nat.add_assoc]
 simp only [X];refine (rz (b := false) (k := k) (by omega) (p' ++ j ++ t.kids.loose t.c) (by omega) W (by
  intro l hl;rcases List.mem_append.1 hl with hl | hl
  ·refine D l.t ?_;rw [<- List.map_append];exact List.mem_map_of_mem hl
  ·exact uR y l hl)).bind ?_
 rintro _ ⟨u, a3, rfl, Y, g1, g2, g3⟩;refine ⟨_, rfl, u, a3, rfl, Y.mono (by rw [A]; omega), ⟨g1, .of g2⟩, g3.trans ?_⟩;rw [List.map_append, List.map_append, v8, xw, <- F.y3]
theorem ku {k : Nat} {f : F} (H : Hp κ n a it (nd f (-1) ++ N) L) (u : HB false it f) (y : f ≠ .nil) (hs : f.size < 1024) (hk : 95000 < k) :
  Do (te k a f.hd) fun r => ∃ c x it' a', r = (x.hd, ((it c).i : Int), a') /\ Hp κ (n + 500) a' it' (nd x (-1) ++ N) (((it c).i, (it c).cell (-1)) :: L) /\ HB false it' x /\ (f.cells.map it).Perm (it c :: x.cells.map it') /\ (∀ d, d ∉ f.cells -> it' d = it d) /\ c ∈ f.cells /\ ∀ d ∈ f.cells, ¬ (it d).lt (it c) := by
 unfold te;have j : ∀ ν ∈ nd f (-1), ν ∈ nd f (-1) ++ N := fun ν h => mL _ h
 have B := sI H;have O := f.vD;have D := H.cap;have I : f.size < 2 ^ 10 := by simpa using hs
 have hlen := u.lenB I;cases ef : f.trees with
 | nil =>
  cases f with
  | nil => exact absurd rfl y
  | cons => simp [F.trees] at ef
 | cons t0 Y =>
  have l : ym a f.hd = some true := by
   cases f with
   | nil => exact absurd rfl y
   | cons c r kids rest => exact H.live (j _ (List.mem_cons_self ..))
  refine Do.assoc (Do.seq l ?_);refine Do.seq rfl (Do.f rfl ?_);refine (vH (k := k) H j (by omega) (by omega)).bind ?_;rintro _ ⟨a1, rfl, H1⟩;refine (og (k := k) H1 j u ef hk (by omega)).bind ?_;rintro _ ⟨t, a2, ht, rfl, J, z⟩;obtain ⟨p, q, e, hp, hq⟩ := qG J ht;have S := u.lt I t ht;have U := (eU (u.good t ht).sk).2 rfl;have W : (p ++ q).length + 1 = f.len := by unfold F.len; rw [e]; simp; omega
  refine (tq (k := k) J e hp hq (fun s hs => u.good s (by rw [e]; rcases List.mem_append.1 hs with h | h <;> simp [h])) (u.good t ht).kids (by omega) hk).bind ?_;rintro _ ⟨x, a3, rfl, X, h1, h2⟩;have A := (rf e).trans (h2.symm.cons _);refine ⟨_, rfl, t.c, x, it, a3, rfl, X.mono (by omega), h1, ?_, fun _ _ => rfl, A.mem_iff.2 (List.mem_cons_self ..), z⟩;have := A.map it
  rwa [pC] at this
theorem mI {k : Nat} {f : F} {x : It} (H : Hp κ n a it (nd f (-1) ++ N) ((x.i, x.cell (-1)) :: L)) (B : HB false it f) (hs : f.size < 1024) (hr : 2 * f.size + 2 * N.length + 1 + L.length < κ.C) (hk : 95000 < k) :
  Do (uG k a f.hd (x.i : Int)) fun r => ∃ j it' a', r = (j.hd, true, a') /\ Hp κ (n + 500) a' it' (nd j (-1) ++ N) L /\ HB false it' j /\ (j.cells.map it').Perm (x :: f.cells.map it) /\ ∀ ν ∈ N, it' ν.c = it ν.c := by
 unfold uG;have z := sI H;have J := f.vD;have D := H.cap;have O : f.size < 2 ^ 10 := by simpa using hs
 have hlen := B.lenB O;refine (rH H (by rw [lA, qk]; omega)).bind ?_;rintro _ ⟨c, a1, rfl, H1, I⟩;refine Do.f rfl ?_;have t : c ∉ f.cells := fun h => by
  obtain ⟨ν, u, e⟩ := sX (up := -1) h;exact I ν (mL _ u) e
 have y : ∀ ν ∈ nd f (-1), ν ∈ (⟨c, -1, -1, -1, -1, 0, 0⟩ : Nd) :: (nd f (-1) ++ N) := fun ν h => mC _ (mL _ h)
 refine (vH (k := k) H1 y (by omega) (by omega)).bind ?_;rintro _ ⟨a2, rfl, S⟩;refine Do.seq (y4 (by simp [cs] at *; unfold F.len at hlen; omega)) ?_;have A : HB false (upd it c x) f := B.congr fun d hd => vG _ _ (fun e => t (e ▸ hd))
 have U : ([(c : Int)] ++ cs f.trees : List Int) = lc ((⟨⟨c, 0, .nil⟩, -1, -1⟩ : Lt) :: f.loose (-1)) := by
  rw [kS, lc, xw]; rfl
 have W : Hp κ (n + 3 + f.len) a2 (upd it c x) (LN ((⟨⟨c, 0, .nil⟩, -1, -1⟩ : Lt) :: f.loose (-1)) ++ N) L := by
  rw [sj, <- wU]; exact S
 have X : ((⟨⟨c, 0, .nil⟩, -1, -1⟩ : Lt) :: f.loose (-1)).length = f.len + 1 := by
  unfold F.len; rw [<- xw f (-1)]; simp
 simp only [U];refine (rz (b := false) (k := k) (by omega) _ (by omega) W (by
  intro l hl;rcases List.mem_cons.1 hl with rfl | hl
  ·exact ⟨.nil, fun ν u => by simp [nd] at u⟩
  ·exact uR A.good l hl)).bind ?_
 rintro _ ⟨j, a3, rfl, Y, g1, g2, g3⟩;refine ⟨_, rfl, j, upd it c x, a3, rfl, Y.mono (by omega), ⟨g1, .of g2⟩, ?_, fun ν u => vG _ _ (I ν (List.mem_append_right _ u))⟩;rw [pC, qc, xw, <- F.y3] at g3;have h1 := g3.map (upd it c x);have h2 : f.cells.map (upd it c x) = f.cells.map it := List.map_congr_left fun d hd => vG _ _ fun e => t (e ▸ hd)
 have h3 : (Tr.cells ⟨c, 0, .nil⟩ ++ f.cells).map (upd it c x) = x :: f.cells.map it := by
  rw [<- h2]; simp [Tr.cells, F.cells, uj]
 rwa [h3] at h1
theorem uK {k : Nat} {f g : F} (H : Hp κ n a it (nd f (-1) ++ (nd g (-1) ++ N)) L) (hf : HB false it f) (z : HB false it g) (hs : f.size < 1024) (hs' : g.size < 1024) (hk : 95000 < k) :
  Do (uM k a f.hd g.hd) fun r => ∃ u a', r = (u.hd, a') /\ Hp κ (n + 500) a' it (nd u (-1) ++ N) L /\ HB false it u /\ u.cells.Perm (f.cells ++ g.cells) := by
 unfold uM;have i := sI H;rw [lA, qk] at i;have D := f.vD;have A := g.vD;have B := H.cap;have hlen := hf.lenB (R := 10) (by simpa using hs);have j := z.lenB (R := 10) (by simpa using hs');by_cases e : f.hd = g.hd
 ·have : f = .nil /\ g = .nil := by
   cases f with
   | nil =>
    cases g with
    | nil => exact ⟨rfl, rfl⟩
    | cons c r kids rest => simp only [F.hd] at e; omega
   | cons c r kids rest =>
    cases g with
    | nil => simp only [F.hd] at e; omega
    | cons c' r' x y =>
     simp only [F.hd] at e;have hn := H.nd;have : c = c' := by omega
     subst this;rw [nd, List.cons_append, pC, List.nodup_cons] at hn;exact absurd (by simp [nd]) hn.1
  obtain ⟨rfl, rfl⟩ := this;refine Do.t (by simp) ?_;exact ⟨_, rfl, .nil, a, rfl, H.mono (by omega), HB.nil, .refl _⟩
 ·refine Do.f (by simpa using e) ?_;refine (vH (k := k) H (fun ν h => mL _ h) (by omega) (by omega)).bind ?_;rintro _ ⟨a1, rfl, H1⟩;refine (vH (k := k) H1 (fun ν h => List.mem_append_right _ (mL _ h)) (by omega) (by omega)).bind ?_;rintro _ ⟨a2, rfl, I⟩;refine Do.seq (y4 (by simp [cs] at *; unfold F.len at hlen j; omega)) ?_;have J : cs f.trees ++ cs g.trees = lc (f.loose (-1) ++ g.loose (-1)) := by
   rw [wY, lc, lc, xw, xw]
  have O : Hp κ (n + f.len + g.len) a2 it (LN (f.loose (-1) ++ g.loose (-1)) ++ N) L := by
   rw [wX, <- wU, <- wU, aA]; exact I
  have S : (f.loose (-1) ++ g.loose (-1)).length = f.len + g.len := by
   unfold F.len; rw [<- xw f (-1), <- xw g (-1)]; simp
  simp only [J];refine (rz (b := false) (k := k) (by omega) _ (by omega) O (by
   intro l hl;rcases List.mem_append.1 hl with hl | hl
   ·exact uR hf.good l hl
   ·exact uR z.good l hl)).bind ?_
  rintro _ ⟨u, a3, rfl, U, g1, g2, g3⟩;refine ⟨_, rfl, u, a3, rfl, U.mono (by omega), ⟨g1, .of g2⟩, g3.trans ?_⟩;rw [List.map_append, v8, xw, xw, <- F.y3, <- F.y3]
theorem ta {k : Nat} {f : F} {c : Nat} (H : Hp κ n a it (nd f (-1) ++ N) L) (j : HB false it f) (J : c ∈ f.cells) (hs : f.size < 1024) (hk : 95000 < k) :
  Do (tf k a f.hd ((it c).i : Int)) fun r => ∃ it' l a', r = (l.hd, a') /\ Hp κ (n + 500) a' it' (nd l (-1) ++ N) (((it c).i, (it c).cell (-1)) :: L) /\ HB false it' l /\ (∀ d, d ∉ f.cells -> it' d = it d) /\ (f.cells.map it).Perm (it c :: l.cells.map it') /\ (∀ d ∈ l.cells, d ∈ f.cells) := by
 unfold tf vJ;obtain ⟨ν, z, rfl⟩ := sX (up := -1) J;have O : ν ∈ nd f (-1) ++ N := mL _ z;have a0 := kN H;have u : 0 < f.size := by
  rw [<- F.w3]; exact List.length_pos_of_mem J
 have A := sI H;have a5 := f.vD;have S := H.cap;have B : f.size < 2 ^ 10 := by simpa using hs
 have hlen := j.lenB B;obtain ⟨R, h1, h2, h3⟩ := size_le (b := false) H u fun t ht => (j.good t ht).sk
 have a6 := h3 10 B;refine Do.assoc ((Ar.cell H (H.item O) (f := 9) (v := (ν.c : Int)) rfl (by omega) (by have := H.lt O; omega)).bind ?_);rintro _ ⟨a1, rfl, H1⟩;refine Do.seq rfl ?_;refine Do.f (by simp) ?_;have := pQ (k := k) true (nd f (-1)) j.upOK R (fun ν z => by
  obtain ⟨t, ht, e⟩ := oF f (-1) (fun t ht => (j.good t ht).sk) ν z;have := h1 t ht; omega) (N := N) (L := L) H1 ν z (by omega) h2 j.ord.any
 refine this.bind ?_;rintro _ ⟨μ, it', a2, rfl, hμ, H2, D, U, W, _, e5⟩;obtain ⟨I, X⟩ := e5 rfl;rw [xd] at U W;obtain ⟨t, ht, et⟩ := cp (fun t ht => (j.good t ht).sk) hμ I;have x : ∀ ν ∈ nd f (-1), ν ∈ nd f (-1) ++ N := fun ν h => mL _ h
 refine (vH (k := k) H2 x (by omega) (by omega)).bind ?_;rintro _ ⟨a3, rfl, Y⟩;rw [et] at X D ⊢;refine Do.seq (oe (cs f.trees) (t.c : Int) (by rw [oh]; unfold F.len at hlen; omega) (by rw [oh]; unfold F.len at hlen; omega) (List.mem_map.2 ⟨t, ht, rfl⟩)) ?_;refine Do.f rfl ?_;obtain ⟨p, q, e, hp, hq⟩ := qG Y ht;have hn : f.cells.Nodup := by
  have := H.nd;rw [List.map_append, xd] at this;exact (List.nodup_append.1 this).1
 obtain ⟨g1, g2⟩ := jE hn j e X;have b1 := j.lt B t ht;have b2 := (eU (j.good t ht).sk).2 rfl;have b3 : (p ++ q).length + 1 = f.len := by unfold F.len; rw [e]; simp; omega
 refine (tq (k := k) Y e hp hq g1 g2 (by omega) hk).bind ?_;rintro _ ⟨l, a4, rfl, Z, h4, h5⟩;rw [D] at Z;have y := (rf e).trans (h5.symm.cons _);refine ⟨_, rfl, it', l, a4, rfl, Z.mono (by omega), h4, U, ?_, fun d hd => y.mem_iff.2 (mC _ hd)⟩;refine W.symm.trans ?_;have := y.map it';rw [pC, D] at this;exact this
end Bi
end
end
noncomputable section
set_option maxRecDepth 10000
namespace Bi
def KH : KS := fun it M r => ∃ f : F, M = nd f (-1) /\ r = f.hd /\ HB false it f
section
variable {κ : Cfg} {n : Nat} {a : za} {L : Heap} {r : Int} {its : List It} {C : Heap}
theorem yw {it : Nat -> It} (f : F) (u : Int) : ((nd f u).map fun ν => it ν.c) = f.cells.map it := by rw [<- xd f u, List.map_map]; rfl
theorem uv {it : Nat -> It} {f : F} (h : its.Perm ((nd f (-1)).map fun ν => it ν.c)) : its.length = f.size := by rw [h.length_eq, lM, qk]
theorem cq : HK KH (-1) [] [] := ⟨fun _ => ⟨0, 0, 0⟩, [], ⟨.nil, rfl, rfl, HB.nil⟩, .refl _, .refl _⟩
theorem jc {k : Nat} {x : It} (h : HK KH r its C) (H : Ar κ n a (C ++ ((x.i, x.cell (-1)) :: L))) (hr : 2 * its.length + 1 + L.length < κ.C) (hs : its.length < 1024) (hk : 95000 < k) :
  Do (uG k a r (x.i : Int)) fun res => ∃ r' C' a', res = (r', true, a') /\ HK KH r' (x :: its) C' /\ Ar κ (n + 500) a' (C' ++ L) := by
 obtain ⟨it, M, ⟨f, rfl, rfl, l⟩, hC, e⟩ := h;have hl := uv e;have t : Hp κ n a it (nd f (-1) ++ []) ((x.i, x.cell (-1)) :: L) := by rw [aN]; exact Ar.p H (hC.append_right _)
 refine (mI t l (by omega) (by simp only [List.length_nil]; omega) hk).mono ?_;rintro _ ⟨j, it', a', rfl, H1, h1, h2, -⟩;rw [aN] at H1;refine ⟨j.hd, _, a', rfl, ⟨it', _, ⟨j, rfl, rfl, h1⟩, .refl _, ?_⟩, H1⟩;rw [yw] at e ⊢;exact (e.cons x).trans h2.symm
theorem eg {k : Nat} (h : HK KH r its C) (H : Ar κ n a (C ++ L)) (hs : its.length < 1024) (hk : 95000 < k) : Do (tn k a r) fun res => ∃ a', Ar κ (n + 100) a' (C ++ L) /\ ((its = [] /\ res = (-1, a')) \/ ∃ x ∈ its, res = ((x.i : Int), a') /\ ∀ y ∈ its, ¬ y.lt x) := by
 obtain ⟨it, M, ⟨f, rfl, rfl, j⟩, hC, e⟩ := h;have hl := uv e;have l : Hp κ n a it (nd f (-1) ++ []) L := by rw [aN]; exact Ar.p H (hC.append_right _)
 have hlen := j.len (R := 10) (by omega);refine (kT l j hk).mono ?_;rintro res ⟨a', H1, h1⟩;rw [aN] at H1;rw [yw] at e;refine ⟨a', Ar.mono (Ar.p H1 (hC.append_right _).symm) (by omega), ?_⟩;rcases h1 with ⟨rfl, rfl⟩ | ⟨c, t, rfl, h2⟩
 ·exact Or.inl ⟨e.eq_nil, rfl⟩
 ·refine Or.inr ⟨it c, e.mem_iff.2 (List.mem_map_of_mem t), rfl, fun y u => ?_⟩;obtain ⟨d, hd, rfl⟩ := List.mem_map.1 (e.mem_iff.1 u);exact h2 d hd
theorem dj {k : Nat} (h : HK KH r its C) (H : Ar κ n a (C ++ L)) (j : its ≠ []) (hs : its.length < 1024) (hk : 95000 < k) :
  Do (te k a r) fun res => ∃ x q r' C' a', res = (r', (x.i : Int), a') /\ its.Perm (x :: q) /\ (∀ y ∈ its, ¬ y.lt x) /\ HK KH r' q C' /\ Ar κ (n + 500) a' (C' ++ ((x.i, x.cell (-1)) :: L)) := by
 obtain ⟨it, M, ⟨f, rfl, rfl, t⟩, hC, e⟩ := h;have hl := uv e;have u : Hp κ n a it (nd f (-1) ++ []) L := by rw [aN]; exact Ar.p H (hC.append_right _)
 rw [yw] at e;have hf : f ≠ .nil := by rintro rfl; exact j e.eq_nil
 refine (ku u t hf (by omega) hk).mono ?_;rintro _ ⟨c, l, it', a', rfl, H1, h1, h2, -, A, h3⟩;rw [aN] at H1;refine ⟨it c, l.cells.map it', l.hd, _, a', rfl, e.trans h2, fun y z => ?_, ⟨it', _, ⟨l, rfl, rfl, h1⟩, .refl _, by rw [yw]⟩, H1⟩;obtain ⟨d, hd, rfl⟩ := List.mem_map.1 (e.mem_iff.1 z);exact h3 d hd
theorem dY {k : Nat} {x : It} (h : HK KH r its C) (l : x ∈ its) (H : Ar κ n a (C ++ L)) (hs : its.length < 1024) (hk : 95000 < k) :
  Do (tf k a r (x.i : Int)) fun res => ∃ q r' C' a', res = (r', a') /\ its.Perm (x :: q) /\ HK KH r' q C' /\ Ar κ (n + 500) a' (C' ++ ((x.i, x.cell (-1)) :: L)) := by
 obtain ⟨it, M, ⟨f, rfl, rfl, t⟩, hC, e⟩ := h;have hl := uv e;have u : Hp κ n a it (nd f (-1) ++ []) L := by rw [aN]; exact Ar.p H (hC.append_right _)
 rw [yw] at e;obtain ⟨c, y, rfl⟩ := List.mem_map.1 (e.mem_iff.1 l);refine (ta u t y (by omega) hk).mono ?_;rintro _ ⟨it', j, a', rfl, H1, h1, -, h2, -⟩;rw [aN] at H1;exact ⟨j.cells.map it', j.hd, _, a', rfl, e.trans h2, ⟨it', _, ⟨j, rfl, rfl, h1⟩, .refl _, by rw [yw]⟩, H1⟩
theorem jQ {k : Nat} {x y : It} (h : HL KH r its x y C) (hi : y.i = x.i) (j : ¬ x.lt y) (H : Ar κ n a (C ++ L)) (hs : its.length < 1024) (hk : 95000 < k) :
  Do (uE k a r (y.i : Int)) fun res => ∃ r' q C' a', res = (r', a') /\ its.Perm (x :: q) /\ HK KH r' (y :: q) C' /\ Ar κ (n + 150) a' (C' ++ L) := by
 obtain ⟨it, M, ν, ⟨f, rfl, rfl, B⟩, u, rfl, hC, z⟩ := h;have hl := uv z;have A : Hp κ n a (upd it ν.c y) (nd f (-1) ++ []) L := by rw [aN]; exact Ar.p H (hC.append_right _)
 have hn := A.nd;rw [aN] at hn;obtain ⟨q, l, e⟩ := iG (y := y) hn u rfl;have t : ν.c ∈ f.cells := by rw [<- xd f (-1)]; exact List.mem_map_of_mem u
 refine (nV A B t j (by omega) (Q := 10) (by omega) (by omega)).mono ?_;rintro _ ⟨it', a', rfl, H1, h1, -, h2⟩;rw [aN] at H1;refine ⟨f.hd, q, _, a', rfl, z.trans l, ⟨it', _, ⟨f, rfl, rfl, h1⟩, .refl _, ?_⟩, Ar.mono H1 (by omega)⟩;rw [yw] at e ⊢;exact e.symm.trans h2.symm
theorem jO {k : Nat} {s : Int} {e : List It} {C' : Heap} (h : HK KH r its C) (U : HK KH s e C') (H : Ar κ n a (C ++ (C' ++ L))) (hs : its.length < 256) (hs' : e.length < 256) (hk : 95000 < k) :
  Do (uM k a r s) fun res => ∃ t u a', res = (t, a') /\ HK KH t (its ++ e) u /\ Ar κ (n + 500) a' (u ++ L) := by
 obtain ⟨it, M, ⟨t, rfl, rfl, W⟩, hC, z⟩ := h;obtain ⟨it', Z, ⟨i, rfl, rfl, A⟩, x, l⟩ := U;have hl := uv z;have X := uv l;rw [yw] at z l;have y : ∀ d ∈ t.cells, d ∉ i.cells := by
  have hn := Ar.nodup H;have h1 := ((((hC.append ((x).append_right L)).map Prod.fst)).nodup_iff).1 hn;rw [List.map_append, List.map_append] at h1;intro d hd B;have D : d ∈ (lay it (nd t (-1))).map Prod.fst := ((sA it (nd t (-1))).mem_iff).2 (mL _ (by rw [xd]; exact hd));have F : d ∈ (lay it' (nd i (-1))).map Prod.fst := ((sA it' (nd i (-1))).mem_iff).2 (mL _ (by rw [xd]; exact B));exact (List.nodup_append.1 h1).2.2 d D d (mL _ F) rfl
 let j : Nat -> It := fun d => if d ∈ t.cells then it d else it' d
 have I : ∀ d ∈ t.cells, j d = it d := fun d hd => if_pos hd
 have J : ∀ d ∈ i.cells, j d = it' d := fun d hd => if_neg fun h => y d h hd
 have D : lay j (nd t (-1)) = lay it (nd t (-1)) := vZ fun ν O => I _ (by rw [<- xd t (-1)]; exact List.mem_map_of_mem O)
 have F : lay j (nd i (-1)) = lay it' (nd i (-1)) := vZ fun ν O => J _ (by rw [<- xd i (-1)]; exact List.mem_map_of_mem O)
 have Y : Hp κ n a j (nd t (-1) ++ (nd i (-1) ++ [])) L := by
  unfold Hp;rw [aN, oI, D, F, aA];exact Ar.p H (hC.append (x.append_right L))
 refine (uK Y (W.congr I) (A.congr J) (by omega) (by omega) hk).mono ?_;rintro _ ⟨S, a1, rfl, H1, h1, h2⟩;rw [aN] at H1;refine ⟨S.hd, _, a1, rfl, ⟨j, _, ⟨S, rfl, rfl, h1⟩, .refl _, ?_⟩, H1⟩;rw [yw];have h3 := (h2.map j).symm;rw [List.map_append] at h3;have f1 : t.cells.map j = t.cells.map it := List.map_congr_left I;have f2 : i.cells.map j = i.cells.map it' := List.map_congr_left J;rw [f1, f2] at h3;exact (z.append l).trans h3
end
end Bi
end
noncomputable section
set_option maxRecDepth 10000
section
variable {κ : Cfg} {n : Nat} {a : za} {it : Nat -> It} {N : List Nd} {L : Heap} {b : Bool}
theorem Ord.congr {it it' : Nat -> It} {f : F} {q : Nat} (h : Ord it (nd f (q : Int))) (i : ∀ d ∈ f.cells, it' d = it d) (hq : it' q = it q) : Ord it' (nd f (q : Int)) := by
 intro ν e r hr;obtain ⟨h1, h2⟩ := cN f q ν e;rw [i _ h1];rcases h2 with h2 | ⟨d, hd, h2⟩
 ·have : r = q := by omega
  subst this; rw [hq]; exact h ν e r hr
 ·have : r = d := by omega
  subst this; rw [i r hd]; exact h ν e r hr
namespace Sk
theorem tj (l : List Int) (v : Int) (hl : l.length < 100000) : ∀ (post pre : List Int) (m : Nat), post.length < m -> l = pre ++ post -> v ∉ pre ->
  (zZ (l.length : Int) l v m (pre.length : Int) = some (.inr ()) /\ v ∉ post) \/ ∃ p q, l = p ++ v :: q /\ v ∉ p /\ zZ (l.length : Int) l v m (pre.length : Int) = some (.inl (p.length : Int))
 | [], pre, m, hm, e, hv => by
  obtain ⟨m, rfl⟩ : ∃ q, m = q + 1 := ⟨m - 1, by simp at hm; omega⟩
  left
  rw [zZ, dF (by rw [e]; simp)];exact ⟨rfl, by simp⟩
 | x :: post, pre, m, hm, e, hv => by
  obtain ⟨m, rfl⟩ : ∃ q, m = q + 1 := ⟨m - 1, by simp at hm; omega⟩
  simp only [lC] at hm;have hlen : pre.length < 100000 := by have := congrArg List.length e; simp at this; omega
  have i : mIdx l (pre.length : Int) = some x := by rw [e]; exact yr ..
  rw [zZ, dT (by rw [e]; simp; omega), i];simp only [cT, bS, vN];by_cases h : x = v
  ·subst h
   right
   refine ⟨pre, post, e, hv, ?_⟩;simp
  ·have j : (x == v) = false := by simpa using h
   rw [j, cF, zR (by omega) (by omega)];have := tj l v hl post (pre ++ [x]) m (by omega) (by rw [e]; simp) (by simp [hv]; exact fun e => h e.symm);have t : ((pre ++ [x]).length : Int) = (pre.length : Int) + 1 := by simp
   rw [t] at this;rcases this with ⟨h1, h2⟩ | h1
   ·exact Or.inl ⟨h1, by simp [h2]; exact fun e => h e.symm⟩
   ·exact Or.inr h1
theorem uI (v : Int) : ∀ (R A : List Int) (g : Int) (m : Nat), R.length < m -> A.length + R.length < 100000 -> v ∉ R ->
  Do (yg v m (A.length : Int) ((A.length : Int) + 1) (A ++ g :: R)) fun r => ∃ g', r = (((A ++ R).length : Int), (A ++ R) ++ [g'])
 | [], A, g, m, hm, i, hv => by
  obtain ⟨m, rfl⟩ : ∃ q, m = q + 1 := ⟨m - 1, by simp at hm; omega⟩
  rw [yg];refine Do.f (dF (by simp)) ?_;exact ⟨_, rfl, g, by simp⟩
 | x :: R, A, g, m, hm, i, hv => by
  obtain ⟨m, rfl⟩ : ∃ q, m = q + 1 := ⟨m - 1, by simp at hm; omega⟩
  simp only [lC] at hm i;simp only [iC, not_or] at hv;rw [yg];refine Do.t (dT (by simp; omega)) ?_;have j : mIdx (A ++ g :: x :: R) ((A.length : Int) + 1) = some x := by
   have := yr (A ++ [g]) R x;simpa using this
  refine Do.assoc (Do.seq j ?_);refine Do.assoc (Do.seq rfl ?_);refine Do.tb (by simp; exact fun e => hv.1 e.symm) ?_;refine Do.assoc (Do.seq (yr A (x :: R) g) ?_);refine Do.seq rfl ?_;have es : mSet (A ++ g :: x :: R) (A.length : Int) x = (A ++ [x]) ++ x :: R := by rw [nO]; simp
  rw [es, zR (by omega) (by omega), zR (by omega) (by omega)];have := uI v R (A ++ [x]) x m (by omega) (by simp; omega) hv.2;have l : ((A ++ [x]).length : Int) = (A.length : Int) + 1 := by simp
  rw [l] at this;refine this.mono ?_;rintro _ ⟨g', rfl⟩;exact ⟨g', by simp⟩
theorem se {k : Nat} (p q : List Int) (v : Int) (hp : v ∉ p) (hq : v ∉ q) (hl : (p ++ v :: q).length < 100000) (hk : (p ++ v :: q).length < k) :
  xh k (p ++ v :: q) v = some (p ++ q) := by
 unfold xh xU;rcases tj (p ++ v :: q) v hl (p ++ v :: q) [] k hk rfl (by simp) with ⟨_, h2⟩ | ⟨p', i, e, hv, h⟩
 ·simp at h2
 ·have j : p' = p /\ i = q := by
   clear h;have := congrArg (List.takeWhile (fun x => x != v)) e;have h1 : ∀ (p q : List Int), v ∉ p -> (p ++ v :: q).takeWhile (fun x => x != v) = p := by
    intro p q hp;rw [List.takeWhile_append_of_pos (by intro x l; simp; exact fun e => hp (e ▸ l))];simp
   rw [h1 p q hp, h1 p' i hv] at this;subst this;simpa using e.symm
  obtain ⟨rfl, rfl⟩ := j;have t : zZ ((p' ++ v :: i).length : Int) (p' ++ v :: i) v k 0 = some (.inl (p'.length : Int)) := h;rw [t];simp only [bS];rw [show ((p'.length : Int) == -1) = false by simp, cF];simp only [lA, lC] at hl hk;rw [zR (by omega) (by omega)];obtain ⟨r, u, g', rfl⟩ := uI v i p' v k (by omega) (by omega) hq;rw [u];simp only [bS];have y : mCut ((p' ++ i) ++ [g']) ((p' ++ i).length : Int) (((p' ++ i) ++ [g']).length : Int) = some [g'] := by
   rw [pE (by simp)];simp
  rw [y];simp only [bS];have z : mCut (rW ((p' ++ i) ++ [g']) ((p' ++ i).length : Int) 0) 0 ((p' ++ i).length : Int) = some (p' ++ i) := by
   unfold mCut rW;have : ((p' ++ i ++ [g']).length - ((p' ++ i).length : Int).toNat) = 1 := by simp only [lA, List.length_singleton]; omega
   rw [this];simp only [tN];rw [List.take_left' (l₁ := p' ++ i) rfl];rw [if_pos ⟨by omega, by omega, by simp; omega⟩];simp only [Int.toNat_zero, List.drop_zero];rw [List.take_left' (l₁ := p' ++ i) rfl]
  rw [z]
  rfl
theorem kT {k : Nat} {f : F} (H : Hp κ n a it (nd f (-1) ++ N) L) (B : HB b it f) (hk : 95000 < k) :
  Do (ow k a f.hd) fun res => ∃ a', Hp κ (n + 7 * f.len + 1) a' it (nd f (-1) ++ N) L /\ ((f = .nil /\ res = (-1, a')) \/ ∃ c ∈ f.cells, res = (((it c).i : Int), a') /\ ∀ d ∈ f.cells, ¬ (it d).lt (it c)) := by
 unfold ow;have j : ∀ ν ∈ nd f (-1), ν ∈ nd f (-1) ++ N := fun ν h => mL _ h
 have y := sI H;have D := f.vD;have A := H.cap;refine (vH (k := k) H j (by omega) (by omega)).bind ?_;rintro _ ⟨a1, rfl, H1⟩;cases e : f.trees with
 | nil =>
  have : f = .nil := by
   cases f with
   | nil => rfl
   | cons => simp [F.trees] at e
  subst this;refine Do.seq (gb (by omega) a1) ?_;refine (H1.eY (c := -1) (by decide)).bind ?_;rintro _ ⟨a2, rfl, z⟩;exact ⟨_, rfl, a2, z.mono (by omega), Or.inl ⟨rfl, rfl⟩⟩
 | cons t0 J =>
  rw [<- e];refine (og (k := k) H1 j B e hk (by omega)).bind ?_;rintro _ ⟨t, a2, ht, rfl, z, u⟩;have : t ∈ (f.loose (-1)).map Lt.t := by rw [xw]; exact ht
  obtain ⟨l, hl, rfl⟩ := List.mem_map.1 this;have x : l.top ∈ nd f (-1) ++ N := j _ (by rw [wU]; exact nQ hl);refine (z.geti x).bind ?_;rintro _ ⟨a3, rfl, I⟩;refine ⟨_, rfl, a3, I.mono (by omega), Or.inr ⟨l.t.c, ?_, rfl, u⟩⟩;rw [F.y3];exact List.mem_flatMap.2 ⟨l.t, ht, List.mem_cons_self ..⟩
theorem nV {k : Nat} {f : F} {c : Nat} {x : It} (H : Hp κ n a (upd it c x) (nd f (-1) ++ N) L) (j : HB b it f) (u : c ∈ f.cells) (I : ¬ (it c).lt x) (hk : 70000 < k) {Q : Nat} (J : f.size < 2 ^ Q) (O : Q < 60) :
  Do (qp k a f.hd (x.i : Int)) fun r => ∃ it' a', r = (f.hd, a') /\ Hp κ (n + 13 * Q + 8) a' it' (nd f (-1) ++ N) L /\ HB b it' f /\ (∀ d, d ∉ f.cells -> it' d = it d) /\ (f.cells.map it').Perm (f.cells.map (upd it c x)) := by
 unfold qp;obtain ⟨ν, y, A⟩ := sX (up := -1) u;have hs := kN H;have l : 0 < f.size := by
  rw [<- F.w3]; exact List.length_pos_of_mem u
 have z := sI H;obtain ⟨R, h1, h2, h3⟩ := size_le (b := b) H l fun t ht => (j.good t ht).sk
 have S := h3 Q J;have U : RI (upd it c x) (nd f (-1)) ν.c false := by rw [A]; exact j.ord.lower I hs (j.upOK.self hs)
 have := pQ (k := k) false (nd f (-1)) j.upOK R (fun ν y => by
  obtain ⟨t, ht, e⟩ := oF f (-1) (fun t ht => (j.good t ht).sk) ν y;have := h1 t ht; omega) H ν y (by omega) h2 U
 rw [A, uj] at this;refine this.bind ?_;rintro _ ⟨μ, it', a1, rfl, X, H1, Y, B, D, W, _⟩;rw [xd] at B D;refine ⟨_, rfl, it', a1, rfl, H1.mono (by omega), ⟨fun t ht => ⟨(j.good t ht).sk, oA (W rfl) t ht⟩, j.row⟩, fun d hd => ?_, D⟩;rw [B d hd];exact vG _ _ (fun e => hd (e ▸ u))
theorem eE {k : Nat} (hk : 3 <= k) {s t : Tr} {w w' : Int} {r : Nat} (H : Hp κ n a it (s.nd (-1) w ++ (t.nd (-1) w' ++ N)) L) (hs : s.r = r) (ht : t.r = r) (i : r < 1000) :
  Do (uU k a (s.c : Int) (t.c : Int) (r : Int)) fun res => ∃ w a', res = (((lk it s t).c : Int), a') /\ Hp κ (n + 11) a' it ((lk it s t).nd (-1) w ++ N) L := by
 unfold uU;have j : (⟨s.c, -1, s.kids.hd, -1, w, s.r, 0⟩ : Nd) ∈ s.nd (-1) w ++ (t.nd (-1) w' ++ N) := mL _ (List.mem_cons_self ..);have m2 : (⟨t.c, -1, t.kids.hd, -1, w', t.r, 0⟩ : Nd) ∈ s.nd (-1) w ++ (t.nd (-1) w' ++ N) := List.mem_append_right _ (mL _ (List.mem_cons_self ..));refine (H.before hk m2 j).bind ?_;rintro _ ⟨a1, rfl, H⟩;unfold lk;by_cases c : (it t.c).lt (it s.c)
 ·rw [if_pos c];refine Do.tb (dT c) ?_;have H1 : Hp κ (n + 6) a1 it (t.nd (-1) w' ++ (s.nd (-1) w ++ N)) L := H.p (npm fun p => by simp only [List.countP_append]; omega);refine (linked H1 ht i).mono ?_;rintro _ ⟨a2, rfl, e⟩;exact ⟨_, _, rfl, e⟩
 ·rw [if_neg c];refine Do.fb (dF c) ?_;refine (linked H hs i).mono ?_;rintro _ ⟨a2, rfl, e⟩;exact ⟨_, _, rfl, e⟩
theorem gp {it it' : Nat -> It} {q : Nat} : ∀ {f : F}, Ord it (nd f (q : Int)) -> (∀ d ∈ f.cells, it' d = it d) -> ¬ (it q).lt (it' q) -> Ord it' (nd f (q : Int))
 | .nil, _, _, _ => fun ν e => by simp [nd] at e
 | .cons c r kids rest, h, j, hq => by
  have h1 : Ord it (nd kids c) := h.sub fun ν e => mC _ (mL _ e)
  have h2 : Ord it (nd rest q) := h.sub fun ν e => mC _ (List.mem_append_right _ e)
  have i : it' c = it c := j c (by rw [F.cells]; exact List.mem_cons_self ..);have h3 := h1.congr (it' := it') (fun d hd => j d (by rw [F.cells]; exact mC _ (mL _ hd))) i;have h4 := gp (f := rest) h2 (fun d hd => j d (by rw [F.cells]; exact mC _ (List.mem_append_right _ hd))) hq;intro ν e r' hr;rw [nd] at e;rcases List.mem_cons.1 e with rfl | e
  ·simp only at hr ⊢;have : r' = q := by omega
   subst this;rw [i];exact fun l => h _ (List.mem_cons_self ..) r' rfl (It.fe l hq)
  ·rcases List.mem_append.1 e with e | e
   ·exact h3 ν e r' hr
   ·exact h4 ν e r' hr
theorem eQ (c r : Nat) (a b : F) : (F.cons c r a b).hd = (c : Int) := rfl
theorem bR : F.nil.hd = -1 := rfl
theorem cW (it : Nat -> It) (s t : Tr) : ∃ top low, lk it s t = top.under low /\ ((top = s /\ low = t) \/ (top = t /\ low = s)) /\ ¬ (it low.c).lt (it top.c) := by
 unfold lk;by_cases c : (it t.c).lt (it s.c)
 ·rw [if_pos c]; exact ⟨t, s, rfl, Or.inr ⟨rfl, rfl⟩, It.lt_asymm c⟩
 ·rw [if_neg c]; exact ⟨s, t, rfl, Or.inl ⟨rfl, rfl⟩, c⟩
theorem mc {k : Nat} (hk : 3 <= k) {f : F} {c : Nat} {u w : Int} (H : Hp κ n a it ((Tr.mk c 0 .nil).nd u w ++ (nd f (-1) ++ N)) L) (Z : HB true it f) (hr : ∀ t ∈ f.trees, t.r < 100) :
  Do (uW k a f.hd (c : Int)) fun r => ∃ j it' a', r = (j.hd, a') /\ Hp κ (n + 32) a' it' (nd j (-1) ++ N) L /\ HB true it' j /\ j.cells.Perm (c :: f.cells) /\ ((c :: f.cells).map it').Perm ((c :: f.cells).map it) /\ ∀ d, d ∉ c :: f.cells -> it' d = it d := by
 unfold uW;have d4 := H.cap;have hN : ∀ ν ∈ nd f (-1), ν ∈ (Tr.mk c 0 .nil).nd u w ++ (nd f (-1) ++ N) := fun ν h => List.mem_append_right _ (mL _ h)
 have alone : (f.trees.Pairwise fun s t => s.r < t.r) -> ∀ {O : Nat} {a' : za}, O <= n + 3 -> Hp κ O a' it ((Tr.mk c 0 .nil).nd u w ++ (nd f (-1) ++ N)) L ->
   Do ((zB a' (c : Int) 3 f.hd).bind fun b9 => (zB b9.2 (c : Int) 0 (-1)).bind fun c0 => some ((c : Int), c0.2)) fun r => ∃ j it' a', r = (j.hd, a') /\ Hp κ (n + 32) a' it' (nd j (-1) ++ N) L /\ HB true it' j /\ j.cells.Perm (c :: f.cells) /\ ((c :: f.cells).map it').Perm ((c :: f.cells).map it) /\ ∀ d, d ∉ c :: f.cells -> it' d = it d := by
  intro hp O a' hn H1;refine (Hp.set (ν := ⟨c, u, -1, -1, w, 0, 0⟩) H1 ⟨c, u, -1, -1, f.hd, 0, 0⟩).bind ?_;rintro _ ⟨a2, rfl, H2⟩;refine (Hp.set (ν := ⟨c, u, -1, -1, f.hd, 0, 0⟩) H2 ⟨c, -1, -1, -1, f.hd, 0, 0⟩).bind ?_;rintro _ ⟨a3, rfl, H3⟩;refine ⟨_, rfl, .cons c 0 .nil f, it, a3, rfl, Hp.mono (n := O + 1 + 1) H3 (by omega), ⟨?_, ?_⟩, ?_, .refl _, fun _ _ => rfl⟩
  ·intro t ht;rw [F.trees] at ht;rcases List.mem_cons.1 ht with rfl | ht
   ·exact ⟨.nil, fun ν Y => by simp [nd] at Y⟩
   ·exact Z.good t ht
  ·exact ⟨hp, fun s _ => Nat.zero_le _, fun h => by cases h⟩
  ·simp [F.cells]
 cases f with
 | nil =>
  refine Do.fb rfl ?_;refine Do.seq rfl ?_;refine (H.getN (c := -1) (by decide)).bind ?_;rintro _ ⟨a1, rfl, H1⟩;refine Do.tb rfl (Do.seq rfl (Do.t rfl ?_));exact alone (by simp [F.trees]) (by omega) H1
 | cons z r1 A f1 =>
  have a8 := hN _ (List.mem_cons_self ..);have B : ∀ ν ∈ nd f1 (-1), ν ∈ (Tr.mk c 0 .nil).nd u w ++ (nd (.cons z r1 A f1) (-1) ++ N) := fun ν h => hN ν (mC _ (List.mem_append_right _ h))
  have a9 := qY H B;refine Do.tb (bne_iff_ne.2 (by simp only [F.hd]; omega)) ?_;refine Do.assoc ((H.getc a8 (f := 3) (v := f1.hd) a9.1 a9.2).bind ?_);rintro _ ⟨a1, rfl, H1⟩;refine Do.seq rfl ?_;refine (H1.get a8 (f := 4) (v := (r1 : Int))).bind ?_;rintro _ ⟨a2, rfl, H2⟩;cases f1 with
  | nil =>
   refine Do.tb rfl (Do.seq rfl (Do.t rfl ?_));exact alone (by simp [F.trees]) (by omega) H2
  | cons l r2 k2 f2 =>
   have b0 := B _ (List.mem_cons_self ..);refine Do.fb (by simp [F.hd]) ?_;refine Do.assoc ((H2.get b0 (f := 4) (v := (r2 : Int))).bind ?_);rintro _ ⟨a3, rfl, H3⟩;have S := Z.row;simp only [F.trees, eS] at S;obtain ⟨D, c3, _⟩ := S;have d9 : r1 <= r2 := c3 ⟨l, r2, k2⟩ (List.mem_cons_self ..);by_cases c4 : r2 = r1
   ·subst c4;refine Do.seq rfl (Do.f (by simp) ?_);have b1 : ∀ ν ∈ nd f2 (-1), ν ∈ (Tr.mk c 0 .nil).nd u w ++ (nd (.cons z r2 A (.cons l r2 k2 f2)) (-1) ++ N) := fun ν h => B ν (mC _ (List.mem_append_right _ h))
    have b2 := qY H3 b1;refine (H3.getc b0 (f := 3) (v := f2.hd) b2.1 b2.2).bind ?_;rintro _ ⟨a4, rfl, H4⟩;have c5 : Hp κ (n + 4) a4 it ((Tr.mk z r2 A).nd (-1) (F.hd (.cons l r2 k2 f2)) ++ ((Tr.mk l r2 k2).nd (-1) f2.hd ++ ((Tr.mk c 0 .nil).nd u w ++ (nd f2 (-1) ++ N)))) L := H4.p (npm fun p => by
     simp only [nd, Tr.nd, List.countP_append, List.countP_cons]; omega)
    have e1 : r2 < 100 := hr ⟨l, r2, k2⟩ (by simp [F.trees]);refine (eE (k := k) (r := r2) hk c5 rfl rfl (by omega)).bind ?_;rintro _ ⟨wt, a5, rfl, H5⟩;have g1 := Z.good ⟨z, r2, A⟩ (by simp [F.trees]);have g2 := Z.good ⟨l, r2, k2⟩ (by simp [F.trees]);obtain ⟨top, low, c6, U, c7⟩ := cW it (Tr.mk z r2 A) (Tr.mk l r2 k2);rw [c6] at H5 ⊢;have i : GT true it top /\ top.r = r2 := by rcases U with ⟨rfl, rfl⟩ | ⟨rfl, rfl⟩ <;> exact ⟨by assumption, rfl⟩
    have x : GT true it low /\ low.r = r2 := by rcases U with ⟨rfl, rfl⟩ | ⟨rfl, rfl⟩ <;> exact ⟨by assumption, rfl⟩
    have I : (F.cells (.cons z r2 A (.cons l r2 k2 f2))).Perm (top.c :: (low.cells ++ (top.kids.cells ++ f2.cells))) := by
     rcases U with ⟨rfl, rfl⟩ | ⟨rfl, rfl⟩ <;> refine cpm fun p => ?_ <;> simp only [F.cells, Tr.cells, List.countP_append, List.countP_cons, List.cons_append] <;> omega
    have hn : (c :: (top.c :: (low.cells ++ (top.kids.cells ++ f2.cells)))).Nodup := by
     have h1 := H.nd;rw [List.map_append, List.map_append, xd, <- aA] at h1;have h2 := (List.nodup_append.1 h1).1;have h3 : ((Tr.mk c 0 .nil).nd u w).map Nd.c = [c] := by simp [Tr.nd, nd]
     rw [h3] at h2;exact (List.Perm.nodup_iff (I.cons c)).1 h2
    obtain ⟨b3, c8⟩ := List.nodup_cons.1 hn;obtain ⟨c9, e2⟩ := List.nodup_cons.1 c8;have b4 : c ≠ top.c := fun e => b3 (e ▸ List.mem_cons_self ..)
    have fin : ∀ (it' : Nat -> It) {O : Nat} {a' : za}, Hp κ O a' it' (⟨c, u, -1, -1, w, 0, 0⟩ :: ⟨top.c, -1, low.c, -1, wt, ((r2 + 1 : Nat) : Int), 0⟩ :: (nd (.cons low.c low.r low.kids top.kids) top.c ++ (nd f2 (-1) ++ N))) L -> O <= n + 27 ->
      (∀ d, d ≠ c -> d ≠ top.c -> it' d = it d) -> ¬ (it' c).lt (it' top.c) -> ¬ (it top.c).lt (it' top.c) -> ((c :: F.cells (.cons z r2 A (.cons l r2 k2 f2))).map it').Perm ((c :: F.cells (.cons z r2 A (.cons l r2 k2 f2))).map it) ->
      Do ((ur a' (c : Int) (top.c : Int)).bind fun d1 => (zB d1 (top.c : Int) 3 f2.hd).bind fun b5 => some ((top.c : Int), b5.2)) fun r => ∃ j it' a', r = (j.hd, a') /\ Hp κ (n + 32) a' it' (nd j (-1) ++ N) L /\ HB true it' j /\ j.cells.Perm (c :: F.cells (.cons z r2 A (.cons l r2 k2 f2))) /\ ((c :: F.cells (.cons z r2 A (.cons l r2 k2 f2))).map it').Perm ((c :: F.cells (.cons z r2 A (.cons l r2 k2 f2))).map it) /\ ∀ d, d ∉ c :: F.cells (.cons z r2 A (.cons l r2 k2 f2)) -> it' d = it d := by
     intro it' O a' K e3 hA hB hC hD;have d2 : low.c < κ.C := K.lt (ν := ⟨low.c, top.c, low.kids.hd, -1, top.kids.hd, low.r, 0⟩) (by simp [nd]);refine (lj K (by simp only; omega) (by simp only; omega)).bind ?_;intro a6 K1;have K2 := K1.p (List.Perm.swap ..);refine (K2.set ⟨top.c, -1, c, -1, f2.hd, ((r2 + 1 : Nat) : Int), 0⟩).bind ?_;rintro _ ⟨a7, rfl, K3⟩;have y : ∀ d ∈ low.cells ++ (top.kids.cells ++ f2.cells), d ≠ c /\ d ≠ top.c := fun d hd => ⟨fun e => b3 (e ▸ mC _ hd), fun e => c9 (e ▸ hd)⟩
     have d3 : ∀ d ∈ F.cells (.cons low.c low.r low.kids top.kids), it' d = it d := fun d hd => by
      have : d ∈ low.cells ++ (top.kids.cells ++ f2.cells) := by
       rw [F.cells] at hd;rcases List.mem_cons.1 hd with rfl | hd
       ·exact mL _ (List.mem_cons_self ..)
       ·rcases List.mem_append.1 hd with hd | hd
        ·exact mL _ (mC _ hd)
        ·exact List.mem_append_right _ (mL _ hd)
      exact hA d (y d this).1 (y d this).2
     have b6 : HB true it f2 := by
      refine ⟨fun t ht => Z.good t (by simp [F.trees, ht]), ?_⟩;have := (List.pairwise_cons.1 D).2;exact eS.of this
     have W : HB true it' f2 := b6.congr fun d hd => by
      have : d ∈ low.cells ++ (top.kids.cells ++ f2.cells) := List.mem_append_right _ (List.mem_append_right _ hd);exact hA d (y d this).1 (y d this).2
     have b7 := i.1.under x.1 (by rw [x.2, i.2]) c7;refine ⟨_, rfl, .cons top.c (r2 + 1) (.cons c 0 .nil (.cons low.c low.r low.kids top.kids)) f2, it', a7, rfl, ?_, ⟨?_, ?_⟩, ?_, hD, ?_⟩
     ·refine Hp.mono (n := O + 4 + 1) (Hp.p K3 (npm fun p => ?_)) (by omega);simp only [nd, eQ, bR, (show ((0 : Nat) : Int) = 0 from rfl), List.countP_append, List.countP_cons, List.nil_append]; omega
     ·intro t ht;rw [F.trees] at ht;rcases List.mem_cons.1 ht with rfl | ht
      ·refine ⟨?_, ?_⟩
       ·have h1 := x.1.sk;have h2 := i.1.sk;rw [x.2] at h1 ⊢;rw [i.2] at h2;exact SK.leaf rfl h1 h2
       ·have h3 : Ord it' (nd (.cons low.c low.r low.kids top.kids) (top.c : Int)) := gp b7.ord d3 hC;intro ν Y q hq;rw [nd] at Y;rcases List.mem_cons.1 Y with rfl | Y
        ·simp only at hq ⊢;have : q = top.c := by omega
         subst this; exact hB
        ·exact h3 ν Y q hq
      ·exact W.good t ht
     ·refine ⟨(List.pairwise_cons.1 D).2, fun s hs => ?_, fun h => by cases h⟩;have := (List.pairwise_cons.1 D).1 s hs;simp only at this ⊢; omega
     ·refine List.Perm.trans ?_ (I.cons c).symm;refine cpm fun p => ?_
      simp only [F.cells, Tr.cells, List.countP_append, List.countP_cons, List.cons_append, List.nil_append, List.countP_nil]; omega
     ·intro d hd;have X : d ∉ c :: (top.c :: (low.cells ++ (top.kids.cells ++ f2.cells))) := fun h => hd ((I.cons c).mem_iff.2 h)
      simp only [iC, not_or] at X;exact hA d X.1 X.2.1
    have H6 : Hp κ (n + 15) a5 it (⟨c, u, -1, -1, w, 0, 0⟩ :: ⟨top.c, -1, low.c, -1, wt, ((r2 + 1 : Nat) : Int), 0⟩ :: (nd (.cons low.c low.r low.kids top.kids) top.c ++ (nd f2 (-1) ++ N))) L := H5.p (npm fun p => by
     simp only [Tr.nd, Tr.under, i.2, nd, eQ, bR, (show ((0 : Nat) : Int) = 0 from rfl), List.countP_append, List.countP_cons, List.nil_append, List.countP_nil]; omega)
    refine (H6.before (k := k) hk (List.mem_cons_self ..) (mC _ (List.mem_cons_self ..))).bind ?_;rintro _ ⟨a6, rfl, H7⟩;by_cases J : (it c).lt (it top.c)
    ·refine Do.tb (dT J) ?_;refine Do.assoc ((qQ H7).bind ?_);intro a7 H8;refine Do.seq rfl ?_;refine fin (swp it c top.c) H8 (by omega) (fun d h1 h2 => jJ it h1 h2) ?_ ?_ (gQ ?_ (List.mem_cons_self ..) ?_ b4)
     ·rw [dh it b4, ck]; exact It.lt_asymm J
     ·rw [ck]; exact It.lt_asymm J
     ·exact (List.Perm.nodup_iff (I.cons c)).2 hn
     ·exact (I.cons c).mem_iff.2 (mC _ (List.mem_cons_self ..))
    ·refine Do.fb (dF J) ?_;refine Do.seq rfl ?_;exact fin it H7 (by omega) (fun _ _ _ => rfl) J (It.lt_irrefl _) (.refl _)
   ·refine Do.seq rfl (Do.t (by simp; omega) ?_);refine alone ?_ (by omega) H3;simp only [F.trees];refine List.pairwise_cons.2 ⟨fun s hs => ?_, D⟩;rcases List.mem_cons.1 hs with rfl | hs
    ·simp only; omega
    ·have := (List.pairwise_cons.1 D).1 s hs;simp only at this ⊢; omega
def zer (ls : List Lt) : List Lt := ls.filter fun l => l.t.r == 0
def pos (ls : List Lt) : List Lt := ls.filter fun l => !(l.t.r == 0)
theorem da (ls : List Lt) : (pos ls ++ zer ls).Perm ls := by
 have := List.filter_append_perm (fun l : Lt => !(l.t.r == 0)) ls;have e : zer ls = ls.filter fun l => !(!(l.t.r == 0)) := by unfold zer; congr 1; funext l; simp
 rw [e]; exact this
theorem lg (v_ : Int) (all : List Lt) (x : ∀ l ∈ all, l.top ∈ N) (hl : all.length < 100000) (rest : List Int) (hr : rest.length < 100000) : ∀ (post pre : List Lt) {n : Nat} {a : za} (H : Hp κ n a it N L) (m : Nat), post.length < m -> all = pre ++ post ->
  Do (we (all.length : Int) (lc all) v_ m (rest ++ lc (pos pre)) (lc (zer pre)) (pre.length : Int) a) fun r => ∃ a', r = (rest ++ lc (pos all), lc (zer all), a') /\ Hp κ (n + post.length) a' it N L
 | [], pre, n, a, H, m, hm, e => by
  obtain ⟨m, rfl⟩ : ∃ q, m = q + 1 := ⟨m - 1, by simp at hm; omega⟩
  rw [we];refine Do.f (dF (by rw [e]; simp)) ?_;have : pre = all := by rw [e]; simp
  subst this;exact ⟨_, rfl, a, rfl, H⟩
 | l :: post, pre, n, a, H, m, hm, e => by
  obtain ⟨m, rfl⟩ : ∃ q, m = q + 1 := ⟨m - 1, by simp at hm; omega⟩
  simp only [lC] at hm;have hlen : pre.length < 100000 := by have := congrArg List.length e; simp at this; omega
  have hz : (zer pre).length <= pre.length := List.length_filter_le ..;have A : (pos pre).length <= pre.length := List.length_filter_le ..;have B : mIdx (lc all) (pre.length : Int) = some (l.t.c : Int) := by
   rw [e, wY, kS];have := yr (lc pre) (lc post) (l.t.c : Int)
   rwa [vk] at this
  rw [we];refine Do.t (dT (by rw [e]; simp; omega)) ?_;refine Do.assoc (Do.seq B ?_);refine Do.assoc ((H.get (x l (by rw [e]; simp)) (f := 4) (v := (l.t.r : Int))).bind ?_);rintro _ ⟨a1, rfl, H1⟩;have := lg v_ all x hl rest hr post (pre ++ [l]) H1 m (by omega) (by rw [e]; simp);have D : ((pre ++ [l]).length : Int) = (pre.length : Int) + 1 := by simp
  rw [D] at this;have y : zer (pre ++ [l]) = zer pre ++ zer [l] := List.filter_append ..;have z : pos (pre ++ [l]) = pos pre ++ pos [l] := List.filter_append ..;by_cases h0 : l.t.r = 0
  ·refine Do.tb (by simp [h0]) ?_;refine Do.assoc (Do.seq (y4 (by rw [vk]; simp; omega)) ?_);refine Do.seq rfl ?_;rw [zR (by omega) (by omega)];have i : zer [l] = [l] := by simp [zer, h0]
   have j : pos [l] = [] := by simp [pos, h0]
   rw [y, z, i, j, aN, wY] at this;refine this.mono ?_;rintro _ ⟨a2, rfl, u⟩;exact ⟨a2, rfl, u.mono (by simp only [lC]; omega)⟩
  ·refine Do.fb (by simp [h0]) ?_;refine Do.assoc (Do.seq (y4 (by rw [lA, vk]; simp; omega)) ?_);refine Do.seq rfl ?_;rw [zR (by omega) (by omega)];have i : zer [l] = [] := by simp [zer, h0]
   have j : pos [l] = [l] := by simp [pos, h0]
   rw [y, z, i, j, aN, wY, <- aA] at this;refine this.mono ?_;rintro _ ⟨a2, rfl, u⟩;exact ⟨a2, rfl, u.mono (by simp only [lC]; omega)⟩
theorem lR (i : Int) (all : List Lt) (hl : all.length < 50) (S : Nat) (hS : S < 1024) : ∀ (post pre : List Lt) (f : F) {it : Nat -> It} {n : Nat} {a : za} (H : Hp κ n a it (LN post ++ (nd f (-1) ++ N)) L) (m : Nat), post.length + 3 < m -> all = pre ++ post -> HB true it f -> (∀ l ∈ post, l.t.r = 0 /\ l.t.kids = .nil) -> f.size + post.length <= S ->
  Do (xY i (all.length : Int) (lc all) m f.hd (pre.length : Int) a) fun r => ∃ I it' a', r = (I.hd, a') /\ Hp κ (n + 32 * post.length) a' it' (nd I (-1) ++ N) L /\ HB true it' I /\ I.cells.Perm (TC (post.map Lt.t) ++ f.cells) /\ ((TC (post.map Lt.t) ++ f.cells).map it').Perm ((TC (post.map Lt.t) ++ f.cells).map it) /\ ∀ d, d ∉ TC (post.map Lt.t) ++ f.cells -> it' d = it d
 | [], pre, f, it, n, a, H, m, hm, e, J, hz, z => by
  obtain ⟨m, rfl⟩ : ∃ q, m = q + 1 := ⟨m - 1, by simp at hm; omega⟩
  rw [xY];refine Do.f (dF (by rw [e]; simp)) ?_;exact ⟨_, rfl, f, it, a, rfl, H, J, by simp [TC], by simp [TC], fun _ _ => rfl⟩
 | l :: post, pre, f, it, n, a, H, m, hm, e, J, hz, z => by
  obtain ⟨m, rfl⟩ : ∃ q, m = q + 1 := ⟨m - 1, by simp at hm; omega⟩
  simp only [lC] at hm z;have hlen : pre.length < 100000 := by have := congrArg List.length e; simp at this; omega
  have ei : mIdx (lc all) (pre.length : Int) = some (l.t.c : Int) := by
   rw [e, wY, kS];have := yr (lc pre) (lc post) (l.t.c : Int)
   rwa [vk] at this
  rw [xY];refine Do.t (dT (by rw [e]; simp; omega)) ?_;refine Do.seq ei ?_;obtain ⟨⟨c, r, kids⟩, u, w⟩ := l;obtain ⟨h0, h1⟩ := hz _ (List.mem_cons_self ..);simp only at h0 h1;subst h0 h1;have H1 : Hp κ n a it ((Tr.mk c 0 .nil).nd u w ++ (nd f (-1) ++ (LN post ++ N))) L := H.p (npm fun p => by
   simp only [sj, Lt.nd, List.countP_append]; omega)
  have hR : f.size < 2 ^ 10 := by simp; omega
  refine (mc (k := m) (by omega) H1 J (fun t ht => by have := J.lt hR t ht; omega)).bind ?_;rintro _ ⟨f1, x, a1, rfl, H2, O, A, U, B⟩;rw [zR (by omega) (by omega)];have H3 : Hp κ (n + 32) a1 x (LN post ++ (nd f1 (-1) ++ N)) L := H2.p (npm fun p => by
   simp only [List.countP_append]; omega)
  have b1 : f1.size = f.size + 1 := by rw [<- F.w3, A.length_eq, lC, F.w3]
  have := lR i all hl S hS post (pre ++ [⟨⟨c, 0, .nil⟩, u, w⟩]) f1 H3 m (by omega) (by rw [e]; simp) O (fun l hl => hz l (mC _ hl)) (by omega);have e2 : ((pre ++ [(⟨⟨c, 0, .nil⟩, u, w⟩ : Lt)]).length : Int) = (pre.length : Int) + 1 := by simp
  rw [e2] at this;refine this.mono ?_;rintro _ ⟨f2, D, a2, rfl, H4, W, X, Y, Z⟩;have y : TC ((((⟨⟨c, 0, .nil⟩, u, w⟩ : Lt) :: post)).map Lt.t) = c :: TC (post.map Lt.t) := by simp [qc, Tr.cells, F.cells]
  rw [y];have j : (TC (post.map Lt.t) ++ f1.cells).Perm (c :: TC (post.map Lt.t) ++ f.cells) := by
   refine (A.append_left _).trans ?_;exact List.perm_middle
  have hnd : ∀ d ∈ TC (post.map Lt.t), d ∉ c :: f.cells := fun d hd a0 => by
   have h5 := H1.nd;rw [List.map_append, List.map_append, List.map_append, xd, gG] at h5;have h6 : ((Tr.mk c 0 .nil).nd u w).map Nd.c = [c] := by simp [Tr.nd, nd]
   rw [h6] at h5;have h7 : ((c :: f.cells) ++ (TC (post.map Lt.t) ++ N.map Nd.c)).Nodup := by
    simpa using h5
   exact (List.nodup_append.1 h7).2.2 d a0 d (mL _ hd) rfl
  refine ⟨f2, D, a2, rfl, H4.mono (by simp only [lC]; omega), W, X.trans j, ?_, ?_⟩
  ·refine (j.map D).symm.trans (Y.trans ?_);refine (j.map x).trans ?_;have h8 : (c :: TC (post.map Lt.t) ++ f.cells).Perm (TC (post.map Lt.t) ++ (c :: f.cells)) := List.perm_middle.symm;refine (h8.map x).trans (List.Perm.trans ?_ (h8.map it).symm);rw [List.map_append, List.map_append];have h9 : (TC (post.map Lt.t)).map x = (TC (post.map Lt.t)).map it := List.map_congr_left fun d hd => B d (hnd d hd)
   rw [h9];exact U.append_left _
  ·intro d hd;have a4 : d ∉ TC (post.map Lt.t) ++ f1.cells := fun h => hd (j.mem_iff.1 h)
   rw [Z d a4];refine B d fun h => hd ?_
   rcases List.mem_cons.1 h with rfl | h
   ·exact mL _ (List.mem_cons_self ..)
   ·exact List.mem_append_right _ h
theorem aD {b : Bool} {g : F} (h : SK b g 0) : g = .nil := by cases h; rfl
theorem AE : ∀ {f : F} {r : Nat}, SK true f r -> (f.trees.filter fun t => !(t.r == 0)).length <= r /\ (f.trees.filter fun t => t.r == 0).length <= r + 1 := by
 intro f r h;induction h with
 | nil => simp [F.trees]
 | @real c r kids rest h1 h2 i1 i2 =>
  simp only [F.trees, List.filter_cons];cases r with
  | zero =>
   have hr : rest = .nil := by cases h2; rfl
   subst hr;simp [F.trees]
  | succ r => simp; omega
 | @leaf d c r kids rest e h1 h2 i1 i2 =>
  simp only [F.trees, List.filter_cons];cases r with
  | zero =>
   have hr : rest = .nil := by cases h2; rfl
   subst hr;simp [F.trees]
  | succ r => simp; omega
theorem tq {k : Nat} {f : F} {p q : List Tr} {t : Tr} (H : Hp κ n a it (nd f (-1) ++ N) L) (e : f.trees = p ++ t :: q) (hp : (t.c : Int) ∉ cs p) (hq : (t.c : Int) ∉ cs q)
  (hg : ∀ s ∈ p ++ q, GT true it s) (S : ∀ s ∈ t.kids.trees, GT true it s) (A : SK true t.kids t.r) (B : (p ++ q).length <= 10) (b9 : t.r <= 10) (U : f.size < 1024) (hk : 95000 < k) :
  Do (w6 k a (cs f.trees) (t.c : Int)) fun r => ∃ y it' a', r = (y.hd, ((it t.c).i : Int), a') /\ Hp κ (n + 700) a' it' (nd y (-1) ++ N) (((it t.c).i, (it t.c).cell (-1)) :: L) /\ HB true it' y /\ y.cells.Perm (TC (p ++ q) ++ t.kids.cells) /\ ((TC (p ++ q) ++ t.kids.cells).map it').Perm ((TC (p ++ q) ++ t.kids.cells).map it) /\ ∀ d, d ∉ TC (p ++ q) ++ t.kids.cells -> it' d = it d := by
 unfold w6;have W := sI H;have b3 := H.cap;have D := B;rw [lA] at D;have b4 := (eU A).1;obtain ⟨b5, b6⟩ := AE A;rw [e, jj];refine Do.seq (se (cs p) (cs q) (t.c : Int) hp hq (by simp [cs]; omega) (by simp [cs]; omega)) ?_;obtain ⟨p', u, w, hl, rfl, rfl⟩ := qU (f := f) (up := -1) e;have hN : nd f (-1) = LN p' ++ ((⟨t, -1, w⟩ : Lt).top :: (nd t.kids t.c ++ LN u)) := by
  rw [wU, hl, wX, sj, jr]; simp
 have H1 : Hp κ n a it ((⟨t, -1, w⟩ : Lt).top :: (LN (p' ++ u ++ t.kids.loose t.c) ++ N)) L := H.p (npm fun P => by
  rw [hN];simp only [wX, <- wU, List.countP_append, List.countP_cons]; omega)
 have c1 := t.kids.vD;have c2 : t.kids.size + 1 <= f.size := ql (f := f) (by rw [e]; simp);have X : ∀ μ ∈ nd t.kids t.c, μ ∈ (⟨t, -1, w⟩ : Lt).top :: (LN (p' ++ u ++ t.kids.loose t.c) ++ N) := fun μ hμ => by
  refine mC _ (mL _ ?_);rw [wX, <- wU];exact List.mem_append_right _ hμ
 refine (jk (k := k) (f := t.kids) H1 (List.mem_cons_self ..) rfl X (by omega) (by omega)).bind ?_;rintro _ ⟨a1, rfl, H2⟩;have ek : cs t.kids.trees = lc (t.kids.loose t.c) := by simp only [lc, xw]
 have c5 : (t.kids.loose t.c).length = t.kids.len := by unfold F.len; rw [<- xw t.kids t.c]; simp
 have Y : cs (p'.map Lt.t) ++ cs (u.map Lt.t) = lc (p' ++ u) := by rw [wY]; rfl
 have b7 : (p' ++ u).length <= 10 := by simpa using B
 have z : ∀ l ∈ t.kids.loose t.c, l.top ∈ (⟨t, -1, w⟩ : Lt).top :: (LN (p' ++ u ++ t.kids.loose t.c) ++ N) := fun l hl => by
  refine mC _ (mL _ (nQ ?_));exact List.mem_append_right _ hl
 have h0 := lg (t.c : Int) (t.kids.loose t.c) z (by omega) (lc (p' ++ u)) (by rw [vk]; omega) (t.kids.loose t.c) [] H2 k (by omega) rfl;simp only [ek, Y];rw [vk];have e0 : lc (p' ++ u) ++ lc (pos []) = lc (p' ++ u) := by simp [pos, lc, cs]
 rw [e0] at h0;refine h0.bind ?_;rintro _ ⟨a2, rfl, H3⟩;refine (rL H3).bind ?_;rintro _ ⟨a3, rfl, H4⟩;have ec : lc (p' ++ u) ++ lc (pos (t.kids.loose t.c)) = lc (p' ++ u ++ pos (t.kids.loose t.c)) := (wY _ _).symm;have Z : (pos (t.kids.loose t.c)).length <= t.r := by
  have : (pos (t.kids.loose t.c)).length = (t.kids.trees.filter fun t => !(t.r == 0)).length := by
   rw [<- xw t.kids t.c, List.filter_map, lM]; rfl
  omega
 have a0 : (zer (t.kids.loose t.c)).length <= t.r + 1 := by
  have : (zer (t.kids.loose t.c)).length = (t.kids.trees.filter fun t => t.r == 0).length := by
   rw [<- xw t.kids t.c, List.filter_map, lM]; rfl
  omega
 have a6 : (LN (p' ++ u ++ t.kids.loose t.c) ++ N).Perm (LN (p' ++ u ++ pos (t.kids.loose t.c)) ++ (LN (zer (t.kids.loose t.c)) ++ N)) := by
  have h1 := hF (da (t.kids.loose t.c));rw [wX] at h1;refine npm fun P => ?_
  have := h1.countP_eq P;simp only [wX, List.countP_append] at this ⊢; omega
 have H5 := Hp.p H4 a6;have x : ∀ l ∈ t.kids.loose t.c, GT true it l.t := uR S;simp only [ec];refine (rz (b := true) (k := k) (by omega) (p' ++ u ++ pos (t.kids.loose t.c)) (by rw [lA]; omega) H5 (by
  intro l hl;rcases List.mem_append.1 hl with hl | hl
  ·refine hg l.t ?_;rw [<- List.map_append];exact List.mem_map_of_mem hl
  ·exact x l (List.mem_filter.1 hl).1)).bind ?_
 rintro _ ⟨y, a4, rfl, H6, g1, g2, g3⟩;have H7 : Hp κ _ a4 it (LN (zer (t.kids.loose t.c)) ++ (nd y (-1) ++ N)) _ := H6.p (npm fun P => by simp only [List.countP_append]; omega);have I : ∀ l ∈ zer (t.kids.loose t.c), l.t.r = 0 /\ l.t.kids = .nil := by
  intro l hl;obtain ⟨h1, h2⟩ := List.mem_filter.1 hl;have h3 : l.t.r = 0 := by simpa using h2
  refine ⟨h3, ?_⟩;have h4 := (x l h1).sk;rw [h3] at h4;exact aD h4
 have a7 : (TC ((zer (t.kids.loose t.c)).map Lt.t)).length = (zer (t.kids.loose t.c)).length := by
  have : ∀ ls : List Lt, (∀ l ∈ ls, l.t.r = 0 /\ l.t.kids = .nil) -> (TC (ls.map Lt.t)).length = ls.length := by
   intro ls;induction ls with
   | nil => intro _; rfl
   | cons l ls ih =>
    intro h;rw [pC, qc, lA, ih fun l hl => h l (mC _ hl)];simp [Tr.cells, (h l (List.mem_cons_self ..)).2, F.cells]; omega
  exact this _ I
 have j : (TC ((zer (t.kids.loose t.c)).map Lt.t) ++ y.cells).Perm (TC (p'.map Lt.t ++ u.map Lt.t) ++ t.kids.cells) := by
  have h1 := dd ((da (t.kids.loose t.c)).map Lt.t);rw [List.map_append, v8, xw, <- F.y3] at h1;refine cpm fun P => ?_
  have h2 := h1.countP_eq P;have h3 := g3.countP_eq P;simp only [List.map_append, v8, List.countP_append] at h2 h3 ⊢; omega
 have a8 := (rf e).length_eq;rw [F.w3, lC] at a8;have J := j.length_eq;rw [lA, a7, F.w3] at J;have h1 := lR ((it t.c).i : Int) (zer (t.kids.loose t.c)) (by omega) f.size U (zer (t.kids.loose t.c)) [] y H7 k (by omega) rfl ⟨g1, .of g2⟩ I (by omega);rw [vk];refine h1.bind ?_;rintro _ ⟨f2, O, a5, rfl, H8, a9, b0, b1, b2⟩;refine ⟨_, rfl, f2, O, a5, rfl, H8.mono ?_, a9, b0.trans j, (j.map O).symm.trans (b1.trans (j.map it)), fun d hd => b2 d fun h => hd (j.mem_iff.1 h)⟩;rw [lA];omega
theorem ku {k : Nat} {f : F} (H : Hp κ n a it (nd f (-1) ++ N) L) (x : HB true it f) (z : f ≠ .nil) (hs : f.size < 1024) (hk : 95000 < k) :
  Do (oc k a f.hd) fun r => ∃ c y it' a', r = (y.hd, ((it c).i : Int), a') /\ Hp κ (n + 900) a' it' (nd y (-1) ++ N) (((it c).i, (it c).cell (-1)) :: L) /\ HB true it' y /\ (f.cells.map it).Perm (it c :: y.cells.map it') /\ (∀ d, d ∉ f.cells -> it' d = it d) /\ c ∈ f.cells /\ ∀ d ∈ f.cells, ¬ (it d).lt (it c) := by
 unfold oc;have j : ∀ ν ∈ nd f (-1), ν ∈ nd f (-1) ++ N := fun ν h => mL _ h
 have B := sI H;have O := f.vD;have D := H.cap;have I : f.size < 2 ^ 10 := by simpa using hs
 have hlen := x.len I;cases ef : f.trees with
 | nil =>
  cases f with
  | nil => exact absurd rfl z
  | cons => simp [F.trees] at ef
 | cons t0 X =>
  have l : ym a f.hd = some true := by
   cases f with
   | nil => exact absurd rfl z
   | cons c r kids rest => exact H.live (j _ (List.mem_cons_self ..))
  refine Do.assoc (Do.seq l ?_);refine Do.seq rfl (Do.f rfl ?_);refine (vH (k := k) H j (by omega) (by omega)).bind ?_;rintro _ ⟨a1, rfl, H1⟩;refine (og (k := k) H1 j x ef hk (by omega)).bind ?_;rintro _ ⟨t, a2, ht, rfl, J, A⟩;obtain ⟨p, q, e, hp, hq⟩ := qG J ht;have S := x.lt I t ht;have U : (p ++ q).length + 1 = f.len := by unfold F.len; rw [e]; simp; omega
  refine (tq (k := k) J e hp hq (fun s hs => x.good s (by rw [e]; rcases List.mem_append.1 hs with h | h <;> simp [h])) (x.good t ht).kids (x.good t ht).sk (by omega) (by omega) hs hk).bind ?_;rintro _ ⟨y, it', a3, rfl, W, h1, h2, h3, h4⟩;have u := rf e;refine ⟨_, rfl, t.c, y, it', a3, rfl, W.mono (by omega), h1, ?_, fun d hd => h4 d fun h => hd (u.mem_iff.2 (mC _ h)), u.mem_iff.2 (List.mem_cons_self ..), A⟩;refine (u.map it).trans ?_;rw [pC];exact (h3.symm.trans (h2.symm.map it')).cons _
theorem mI {k : Nat} {f : F} {x : It} (H : Hp κ n a it (nd f (-1) ++ N) ((x.i, x.cell (-1)) :: L)) (B : HB true it f) (hs : f.size < 1024) (hr : 2 * f.size + 2 * N.length + 1 + L.length < κ.C) (hk : 95000 < k) :
  Do (qj k a f.hd (x.i : Int)) fun r => ∃ j it' a', r = (j.hd, true, a') /\ Hp κ (n + 500) a' it' (nd j (-1) ++ N) L /\ HB true it' j /\ (j.cells.map it').Perm (x :: f.cells.map it) /\ ∀ ν ∈ N, it' ν.c = it ν.c := by
 unfold qj;have I : f.size < 2 ^ 10 := by simpa using hs
 refine (rH H (by rw [lA, qk]; omega)).bind ?_;rintro _ ⟨c, a1, rfl, H1, D⟩;refine Do.f rfl ?_;have l : c ∉ f.cells := fun h => by
  obtain ⟨ν, y, e⟩ := sX (up := -1) h;exact D ν (mL _ y) e
 have z : HB true (upd it c x) f := B.congr fun d hd => vG _ _ (fun e => l (e ▸ hd))
 have J : Hp κ (n + 3) a1 (upd it c x) ((Tr.mk c 0 .nil).nd (-1) (-1) ++ (nd f (-1) ++ N)) L := H1;refine (mc (k := k) (by omega) J z (fun t ht => by have := B.lt I t ht; omega)).bind ?_;rintro _ ⟨j, it', a2, rfl, O, h1, h2, h3, h4⟩;refine ⟨_, rfl, j, it', a2, rfl, O.mono (by omega), h1, ?_, fun ν y => ?_⟩
 ·refine (h2.map it').trans (h3.trans ?_);rw [pC, uj, List.map_congr_left (f := upd it c x) (g := it) fun d hd => vG _ _ fun e => l (e ▸ hd)]
 ·have u := D ν (List.mem_append_right _ y);rw [h4 ν.c ?_, vG _ _ u];intro hm;rcases List.mem_cons.1 hm with A | A
  ·exact u A
  ·have := H.nd;rw [List.map_append, xd] at this;exact (List.nodup_append.1 this).2.2 _ A _ (List.mem_map_of_mem y) rfl
theorem uK {k : Nat} {f g : F} (H : Hp κ n a it (nd f (-1) ++ (nd g (-1) ++ N)) L) (hf : HB true it f) (z : HB true it g) (hs : f.size < 256) (hs' : g.size < 256) (hk : 95000 < k) :
  Do (qe k a f.hd g.hd) fun r => ∃ u a', r = (u.hd, a') /\ Hp κ (n + 500) a' it (nd u (-1) ++ N) L /\ HB true it u /\ u.cells.Perm (f.cells ++ g.cells) := by
 unfold qe;have i := sI H;rw [lA, qk] at i;have D := f.vD;have A := g.vD;have B := H.cap;have hlen := hf.len (R := 8) (by simpa using hs);have j := z.len (R := 8) (by simpa using hs');by_cases e : f.hd = g.hd
 ·have : f = .nil /\ g = .nil := by
   cases f with
   | nil =>
    cases g with
    | nil => exact ⟨rfl, rfl⟩
    | cons c r kids rest => simp only [F.hd] at e; omega
   | cons c r kids rest =>
    cases g with
    | nil => simp only [F.hd] at e; omega
    | cons c' r' x y =>
     simp only [F.hd] at e;have hn := H.nd;have : c = c' := by omega
     subst this;rw [nd, List.cons_append, pC, List.nodup_cons] at hn;exact absurd (by simp [nd]) hn.1
  obtain ⟨rfl, rfl⟩ := this;refine Do.t (by simp) ?_;exact ⟨_, rfl, .nil, a, rfl, H.mono (by omega), HB.nil, .refl _⟩
 ·refine Do.f (by simpa using e) ?_;refine (vH (k := k) H (fun ν h => mL _ h) (by omega) (by omega)).bind ?_;rintro _ ⟨a1, rfl, H1⟩;refine (vH (k := k) H1 (fun ν h => List.mem_append_right _ (mL _ h)) (by omega) (by omega)).bind ?_;rintro _ ⟨a2, rfl, I⟩;refine Do.seq (y4 (by simp [cs] at *; unfold F.len at hlen j; omega)) ?_;have J : cs f.trees ++ cs g.trees = lc (f.loose (-1) ++ g.loose (-1)) := by
   rw [wY, lc, lc, xw, xw]
  have O : Hp κ (n + f.len + g.len) a2 it (LN (f.loose (-1) ++ g.loose (-1)) ++ N) L := by
   rw [wX, <- wU, <- wU, aA]; exact I
  have S : (f.loose (-1) ++ g.loose (-1)).length = f.len + g.len := by
   unfold F.len; rw [<- xw f (-1), <- xw g (-1)]; simp
  simp only [J];refine (rz (b := true) (k := k) (by omega) _ (by omega) O (by
   intro l hl;rcases List.mem_append.1 hl with hl | hl
   ·exact uR hf.good l hl
   ·exact uR z.good l hl)).bind ?_
  rintro _ ⟨u, a3, rfl, U, g1, g2, g3⟩;refine ⟨_, rfl, u, a3, rfl, U.mono (by omega), ⟨g1, .of g2⟩, g3.trans ?_⟩;rw [List.map_append, v8, xw, xw, <- F.y3, <- F.y3]
theorem ta {k : Nat} {f : F} {c : Nat} (H : Hp κ n a it (nd f (-1) ++ N) L) (j : HB true it f) (O : c ∈ f.cells) (hs : f.size < 1024) (hk : 95000 < k) :
  Do (pF k a f.hd ((it c).i : Int)) fun r => ∃ it' l a', r = (l.hd, a') /\ Hp κ (n + 900) a' it' (nd l (-1) ++ N) (((it c).i, (it c).cell (-1)) :: L) /\ HB true it' l /\ (∀ d, d ∉ f.cells -> it' d = it d) /\ (f.cells.map it).Perm (it c :: l.cells.map it') /\ (∀ d ∈ l.cells, d ∈ f.cells) := by
 unfold pF vJ;obtain ⟨ν, A, rfl⟩ := sX (up := -1) O;have S : ν ∈ nd f (-1) ++ N := mL _ A;have a6 := kN H;have x : 0 < f.size := by
  rw [<- F.w3]; exact List.length_pos_of_mem O
 have B := sI H;have a7 := f.vD;have U := H.cap;have D : f.size < 2 ^ 10 := by simpa using hs
 have hlen := j.len D;obtain ⟨R, h1, h2, h3⟩ := size_le (b := true) H x fun t ht => (j.good t ht).sk
 have a8 := h3 10 D;refine Do.assoc ((Ar.cell H (H.item S) (f := 9) (v := (ν.c : Int)) rfl (by omega) (by have := H.lt S; omega)).bind ?_);rintro _ ⟨a1, rfl, H1⟩;refine Do.seq rfl ?_;refine Do.f (by simp) ?_;have := pQ (k := k) true (nd f (-1)) j.upOK R (fun ν A => by
  obtain ⟨t, ht, e⟩ := oF f (-1) (fun t ht => (j.good t ht).sk) ν A;have := h1 t ht; omega) (N := N) (L := L) H1 ν A (by omega) h2 j.ord.any
 refine this.bind ?_;rintro _ ⟨μ, it', a2, rfl, hμ, H2, I, W, X, _, e5⟩;obtain ⟨J, Y⟩ := e5 rfl;rw [xd] at W X;obtain ⟨t, ht, et⟩ := cp (fun t ht => (j.good t ht).sk) hμ J;have y : ∀ ν ∈ nd f (-1), ν ∈ nd f (-1) ++ N := fun ν h => mL _ h
 refine (vH (k := k) H2 y (by omega) (by omega)).bind ?_;rintro _ ⟨a3, rfl, Z⟩;rw [et] at Y I ⊢;refine Do.seq (oe (cs f.trees) (t.c : Int) (by rw [oh]; unfold F.len at hlen; omega) (by rw [oh]; unfold F.len at hlen; omega) (List.mem_map.2 ⟨t, ht, rfl⟩)) ?_;refine Do.f rfl ?_;obtain ⟨p, q, e, hp, hq⟩ := qG Z ht;have hn : f.cells.Nodup := by
  have := H.nd;rw [List.map_append, xd] at this;exact (List.nodup_append.1 this).1
 obtain ⟨g1, g2⟩ := jE hn j e Y;have b3 := j.lt D t ht;have b4 : (p ++ q).length + 1 = f.len := by unfold F.len; rw [e]; simp; omega
 refine (tq (k := k) Z e hp hq g1 g2 (j.good t ht).sk (by omega) (by omega) hs hk).bind ?_;rintro _ ⟨l, z, a4, rfl, H4, h4, h5, h6, h7⟩;rw [I] at H4;have u := rf e;refine ⟨_, rfl, z, l, a4, rfl, H4.mono (by omega), h4, fun d hd => ?_, ?_, fun d hd => u.mem_iff.2 (mC _ (h5.mem_iff.1 hd))⟩
 ·rw [h7 d fun h => hd (u.mem_iff.2 (mC _ h)), W d hd]
 ·refine X.symm.trans ?_;have := u.map it';rw [pC, I] at this;exact this.trans ((h6.symm.trans (h5.symm.map z)).cons _)
end Sk
end
end
noncomputable section
set_option maxRecDepth 10000
namespace Sk
def KH : KS := fun it M r => ∃ f : F, M = nd f (-1) /\ r = f.hd /\ HB true it f
section
variable {κ : Cfg} {n : Nat} {a : za} {L : Heap} {r : Int} {its : List It} {C : Heap}
theorem yw {it : Nat -> It} (f : F) (u : Int) : ((nd f u).map fun ν => it ν.c) = f.cells.map it := by rw [<- xd f u, List.map_map]; rfl
theorem uv {it : Nat -> It} {f : F} (h : its.Perm ((nd f (-1)).map fun ν => it ν.c)) : its.length = f.size := by rw [h.length_eq, lM, qk]
theorem cq : HK KH (-1) [] [] := ⟨fun _ => ⟨0, 0, 0⟩, [], ⟨.nil, rfl, rfl, HB.nil⟩, .refl _, .refl _⟩
theorem jc {k : Nat} {x : It} (h : HK KH r its C) (H : Ar κ n a (C ++ ((x.i, x.cell (-1)) :: L))) (hr : 2 * its.length + 1 + L.length < κ.C) (hs : its.length < 1024) (hk : 95000 < k) :
  Do (qj k a r (x.i : Int)) fun res => ∃ r' C' a', res = (r', true, a') /\ HK KH r' (x :: its) C' /\ Ar κ (n + 500) a' (C' ++ L) := by
 obtain ⟨it, M, ⟨f, rfl, rfl, l⟩, hC, e⟩ := h;have hl := uv e;have t : Hp κ n a it (nd f (-1) ++ []) ((x.i, x.cell (-1)) :: L) := by rw [aN]; exact Ar.p H (hC.append_right _)
 refine (mI t l (by omega) (by simp only [List.length_nil]; omega) hk).mono ?_;rintro _ ⟨j, it', a', rfl, H1, h1, h2, -⟩;rw [aN] at H1;refine ⟨j.hd, _, a', rfl, ⟨it', _, ⟨j, rfl, rfl, h1⟩, .refl _, ?_⟩, H1⟩;rw [yw] at e ⊢;exact (e.cons x).trans h2.symm
theorem eg {k : Nat} (h : HK KH r its C) (H : Ar κ n a (C ++ L)) (hs : its.length < 1024) (hk : 95000 < k) : Do (ow k a r) fun res => ∃ a', Ar κ (n + 100) a' (C ++ L) /\ ((its = [] /\ res = (-1, a')) \/ ∃ x ∈ its, res = ((x.i : Int), a') /\ ∀ y ∈ its, ¬ y.lt x) := by
 obtain ⟨it, M, ⟨f, rfl, rfl, j⟩, hC, e⟩ := h;have hl := uv e;have l : Hp κ n a it (nd f (-1) ++ []) L := by rw [aN]; exact Ar.p H (hC.append_right _)
 have hlen := j.len (R := 10) (by omega);refine (kT l j hk).mono ?_;rintro res ⟨a', H1, h1⟩;rw [aN] at H1;rw [yw] at e;refine ⟨a', Ar.mono (Ar.p H1 (hC.append_right _).symm) (by omega), ?_⟩;rcases h1 with ⟨rfl, rfl⟩ | ⟨c, t, rfl, h2⟩
 ·exact Or.inl ⟨e.eq_nil, rfl⟩
 ·refine Or.inr ⟨it c, e.mem_iff.2 (List.mem_map_of_mem t), rfl, fun y u => ?_⟩;obtain ⟨d, hd, rfl⟩ := List.mem_map.1 (e.mem_iff.1 u);exact h2 d hd
theorem dj {k : Nat} (h : HK KH r its C) (H : Ar κ n a (C ++ L)) (j : its ≠ []) (hs : its.length < 1024) (hk : 95000 < k) :
  Do (oc k a r) fun res => ∃ x q r' C' a', res = (r', (x.i : Int), a') /\ its.Perm (x :: q) /\ (∀ y ∈ its, ¬ y.lt x) /\ HK KH r' q C' /\ Ar κ (n + 900) a' (C' ++ ((x.i, x.cell (-1)) :: L)) := by
 obtain ⟨it, M, ⟨f, rfl, rfl, t⟩, hC, e⟩ := h;have hl := uv e;have u : Hp κ n a it (nd f (-1) ++ []) L := by rw [aN]; exact Ar.p H (hC.append_right _)
 rw [yw] at e;have hf : f ≠ .nil := by rintro rfl; exact j e.eq_nil
 refine (ku u t hf (by omega) hk).mono ?_;rintro _ ⟨c, l, it', a', rfl, H1, h1, h2, -, A, h3⟩;rw [aN] at H1;refine ⟨it c, l.cells.map it', l.hd, _, a', rfl, e.trans h2, fun y z => ?_, ⟨it', _, ⟨l, rfl, rfl, h1⟩, .refl _, by rw [yw]⟩, H1⟩;obtain ⟨d, hd, rfl⟩ := List.mem_map.1 (e.mem_iff.1 z);exact h3 d hd
theorem dY {k : Nat} {x : It} (h : HK KH r its C) (l : x ∈ its) (H : Ar κ n a (C ++ L)) (hs : its.length < 1024) (hk : 95000 < k) :
  Do (pF k a r (x.i : Int)) fun res => ∃ q r' C' a', res = (r', a') /\ its.Perm (x :: q) /\ HK KH r' q C' /\ Ar κ (n + 900) a' (C' ++ ((x.i, x.cell (-1)) :: L)) := by
 obtain ⟨it, M, ⟨f, rfl, rfl, t⟩, hC, e⟩ := h;have hl := uv e;have u : Hp κ n a it (nd f (-1) ++ []) L := by rw [aN]; exact Ar.p H (hC.append_right _)
 rw [yw] at e;obtain ⟨c, y, rfl⟩ := List.mem_map.1 (e.mem_iff.1 l);refine (ta u t y (by omega) hk).mono ?_;rintro _ ⟨it', j, a', rfl, H1, h1, -, h2, -⟩;rw [aN] at H1;exact ⟨j.cells.map it', j.hd, _, a', rfl, e.trans h2, ⟨it', _, ⟨j, rfl, rfl, h1⟩, .refl _, by rw [yw]⟩, H1⟩
theorem jQ {k : Nat} {x y : It} (h : HL KH r its x y C) (hi : y.i = x.i) (j : ¬ x.lt y) (H : Ar κ n a (C ++ L)) (hs : its.length < 1024) (hk : 95000 < k) :
  Do (qp k a r (y.i : Int)) fun res => ∃ r' q C' a', res = (r', a') /\ its.Perm (x :: q) /\ HK KH r' (y :: q) C' /\ Ar κ (n + 150) a' (C' ++ L) := by
 obtain ⟨it, M, ν, ⟨f, rfl, rfl, B⟩, u, rfl, hC, z⟩ := h;have hl := uv z;have A : Hp κ n a (upd it ν.c y) (nd f (-1) ++ []) L := by rw [aN]; exact Ar.p H (hC.append_right _)
 have hn := A.nd;rw [aN] at hn;obtain ⟨q, l, e⟩ := iG (y := y) hn u rfl;have t : ν.c ∈ f.cells := by rw [<- xd f (-1)]; exact List.mem_map_of_mem u
 refine (nV A B t j (by omega) (Q := 10) (by omega) (by omega)).mono ?_;rintro _ ⟨it', a', rfl, H1, h1, -, h2⟩;rw [aN] at H1;refine ⟨f.hd, q, _, a', rfl, z.trans l, ⟨it', _, ⟨f, rfl, rfl, h1⟩, .refl _, ?_⟩, Ar.mono H1 (by omega)⟩;rw [yw] at e ⊢;exact e.symm.trans h2.symm
theorem jO {k : Nat} {s : Int} {e : List It} {C' : Heap} (h : HK KH r its C) (U : HK KH s e C') (H : Ar κ n a (C ++ (C' ++ L))) (hs : its.length < 256) (hs' : e.length < 256) (hk : 95000 < k) :
  Do (qe k a r s) fun res => ∃ t u a', res = (t, a') /\ HK KH t (its ++ e) u /\ Ar κ (n + 500) a' (u ++ L) := by
 obtain ⟨it, M, ⟨t, rfl, rfl, W⟩, hC, z⟩ := h;obtain ⟨it', Z, ⟨i, rfl, rfl, A⟩, x, l⟩ := U;have hl := uv z;have X := uv l;rw [yw] at z l;have y : ∀ d ∈ t.cells, d ∉ i.cells := by
  have hn := Ar.nodup H;have h1 := ((((hC.append ((x).append_right L)).map Prod.fst)).nodup_iff).1 hn;rw [List.map_append, List.map_append] at h1;intro d hd B;have D : d ∈ (lay it (nd t (-1))).map Prod.fst := ((sA it (nd t (-1))).mem_iff).2 (mL _ (by rw [xd]; exact hd));have F : d ∈ (lay it' (nd i (-1))).map Prod.fst := ((sA it' (nd i (-1))).mem_iff).2 (mL _ (by rw [xd]; exact B));exact (List.nodup_append.1 h1).2.2 d D d (mL _ F) rfl
 let j : Nat -> It := fun d => if d ∈ t.cells then it d else it' d
 have I : ∀ d ∈ t.cells, j d = it d := fun d hd => if_pos hd
 have J : ∀ d ∈ i.cells, j d = it' d := fun d hd => if_neg fun h => y d h hd
 have D : lay j (nd t (-1)) = lay it (nd t (-1)) := vZ fun ν O => I _ (by rw [<- xd t (-1)]; exact List.mem_map_of_mem O)
 have F : lay j (nd i (-1)) = lay it' (nd i (-1)) := vZ fun ν O => J _ (by rw [<- xd i (-1)]; exact List.mem_map_of_mem O)
 have Y : Hp κ n a j (nd t (-1) ++ (nd i (-1) ++ [])) L := by
  unfold Hp;rw [aN, oI, D, F, aA];exact Ar.p H (hC.append (x.append_right L))
 refine (uK Y (W.congr I) (A.congr J) (by omega) (by omega) hk).mono ?_;rintro _ ⟨S, a1, rfl, H1, h1, h2⟩;rw [aN] at H1;refine ⟨S.hd, _, a1, rfl, ⟨j, _, ⟨S, rfl, rfl, h1⟩, .refl _, ?_⟩, H1⟩;rw [yw];have h3 := (h2.map j).symm;rw [List.map_append] at h3;have f1 : t.cells.map j = t.cells.map it := List.map_congr_left I;have f2 : i.cells.map j = i.cells.map it' := List.map_congr_left J;rw [f1, f2] at h3;exact (z.append l).trans h3
end
end Sk
end
noncomputable section
set_option maxRecDepth 10000
section
variable {K V : Type} {eq : K -> K -> Bool}
theorem ja (hq : ∀ a b, eq a b = true ↔ a = b) {k : K} : ∀ {m : List (K × V)}, k ∉ m.map Prod.fst -> mGet eq k m = none
 | [], _ => rfl
 | p :: m, h => by
  simp only [pC, iC, not_or] at h;rw [mGet, show eq k p.1 = false by simpa using fun e => h.1 ((hq _ _).1 e), cF];exact ja hq h.2
theorem rU (hq : ∀ a b, eq a b = true ↔ a = b) {k : K} {v : V} {s : K} {u : V} : ∀ {m : List (K × V)}, mGet eq s (mPut eq k v m) = some u ↔ (s = k /\ u = v) \/ (s ≠ k /\ mGet eq s m = some u)
 | [] => by
  simp only [mPut, mGet];cases i : eq s k with
  | true => have := (hq _ _).1 i; simp [this, eq_comm]
  | false =>
   have : s ≠ k := fun e => by rw [(hq _ _).2 e] at i; cases i
   simp [this]
 | p :: m => by
  rw [mPut];cases hk : eq k p.1 with
  | true =>
   have l := (hq _ _).1 hk;rw [cT, mGet, mGet];cases i : eq s k with
   | true => have := (hq _ _).1 i; simp [this, eq_comm]
   | false =>
    have j : s ≠ k := fun e => by rw [(hq _ _).2 e] at i; cases i
    have : eq s p.1 = false := by rw [<- l]; exact i
    simp [j, this]
  | false =>
   rw [cF, mGet, mGet];cases i : eq s p.1 with
   | true =>
    have l := (hq _ _).1 i;have j : s ≠ k := fun e => by rw [<- l, (hq _ _).2 e.symm] at hk; cases hk
    simp [j]
   | false =>
    rw [cF, cF];exact rU hq
theorem tW (hq : ∀ a b, eq a b = true ↔ a = b) {k : K} {v : V} : ∀ {m : List (K × V)}, (m.map Prod.fst).Nodup -> ((mPut eq k v m).map Prod.fst).Nodup
 | [], _ => by simp [mPut]
 | p :: m, h => by
  simp only [pC, List.nodup_cons] at h;rw [mPut];cases hk : eq k p.1 with
  | true =>
   have j := (hq _ _).1 hk;rw [cT];simp only [pC, List.nodup_cons];rw [j]; exact h
  | false =>
   rw [cF];simp only [pC, List.nodup_cons];refine ⟨fun hm => ?_, tW hq h.2⟩;have key : ∀ {m : List (K × V)} {s : K}, s ∈ (mPut eq k v m).map Prod.fst -> s = k \/ s ∈ m.map Prod.fst := by
    intro m;induction m with
    | nil => intro s hs; simp [mPut] at hs; exact Or.inl hs
    | cons q m ih =>
     intro s hs;rw [mPut] at hs;cases i : eq k q.1 with
     | true =>
      rw [i, cT] at hs;simp only [pC, iC] at hs ⊢;rcases hs with h | h
      ·exact Or.inl h
      ·exact Or.inr (Or.inr h)
     | false =>
      rw [i, cF] at hs;simp only [pC, iC] at hs ⊢;rcases hs with h | h
      ·exact Or.inr (Or.inl h)
      ·rcases ih h with h | h
       ·exact Or.inl h
       ·exact Or.inr (Or.inr h)
   rcases key hm with e | e
   ·rw [(hq _ _).2 e.symm] at hk; cases hk
   ·exact h.1 e
theorem gK {k s : K} : ∀ {m : List (K × V)}, s ∈ (mDel eq k m).map Prod.fst -> s ∈ m.map Prod.fst
 | [], h => h
 | p :: m, h => by
  rw [mDel] at h;cases hk : eq k p.1 with
  | true => rw [hk, cT] at h; exact mC _ h
  | false =>
   rw [hk, cF] at h;simp only [pC, iC] at h ⊢;rcases h with h | h
   ·exact Or.inl h
   ·exact Or.inr (gK h)
theorem ri {k : K} : ∀ {m : List (K × V)}, (m.map Prod.fst).Nodup -> ((mDel eq k m).map Prod.fst).Nodup
 | [], h => h
 | p :: m, h => by
  simp only [pC, List.nodup_cons] at h;rw [mDel];cases hk : eq k p.1 with
  | true => exact h.2
  | false =>
   simp only [cF, pC, List.nodup_cons];exact ⟨fun hm => h.1 (gK hm), ri h.2⟩
theorem qx (hq : ∀ a b, eq a b = true ↔ a = b) {k s : K} {u : V} : ∀ {m : List (K × V)}, (m.map Prod.fst).Nodup -> (mGet eq s (mDel eq k m) = some u ↔ s ≠ k /\ mGet eq s m = some u)
 | [], _ => by simp [mDel, mGet]
 | p :: m, h => by
  simp only [pC, List.nodup_cons] at h;rw [mDel, mGet];cases hk : eq k p.1 with
  | true =>
   have i := (hq _ _).1 hk;rw [cT];by_cases hs : s = k
   ·subst hs;rw [ja hq (by rw [i]; exact h.1)];simp
   ·have : eq s p.1 = false := by rw [<- i]; simpa using fun e => hs ((hq _ _).1 e)
    simp [this, hs]
  | false =>
   rw [cF, mGet];cases l : eq s p.1 with
   | true =>
    have i := (hq _ _).1 l;have j : s ≠ k := fun e => by rw [<- i, (hq _ _).2 e.symm] at hk; cases hk
    simp [j]
   | false =>
    rw [cF, cF];exact qx hq h.2
end
theorem vW (a b : zd) : zd.eq a b = true ↔ a = b := by
 cases a; cases b; simp [zd.eq]
theorem ae (a b : Int) : kI a b = true ↔ a = b := by simp [kI]
def Kd (k : Int) : Prop := k = 1 \/ k = 2 \/ k = 3
def KD (k : Int) : KS := if k = 1 then Le.KL else if k = 2 then Bi.KH else Sk.KH
def bd (k : Int) (m : Nat) : Nat := if k = 1 then 43 * m + 50 else 900
section
variable {κ : Cfg} {n : Nat} {a : za} {L : Heap} {k r : Int} {its : List It} {C : Heap} {f : Nat}
theorem Ce (hk : Kd k) : HK (KD k) (-1) [] [] := by
 rcases hk with rfl | rfl | rfl
 ·exact Le.cq
 ·exact Bi.cq
 ·exact Sk.cq
theorem Bg {x : It} (hk : Kd k) (h : HK (KD k) r its C) (H : Ar κ n a (C ++ ((x.i, x.cell (-1)) :: L))) (hr : 2 * its.length + 1 + L.length < κ.C) (hs : its.length < 1024) (hf : 95000 < f) :
  Do (oC f k a r (x.i : Int)) fun res => ∃ r' C' a', res = (r', true, a') /\ HK (KD k) r' (x :: its) C' /\ Ar κ (n + bd k its.length) a' (C' ++ L) := by
 unfold oC;rcases hk with rfl | rfl | rfl
 ·refine Do.t rfl ((Le.jc (k := f) h H hr (by omega)).bind ?_);rintro _ ⟨r', C', a', rfl, h1, H1⟩;exact ⟨_, rfl, r', C', a', rfl, h1, H1.mono (by simp only [bd, if_true]; omega)⟩
 ·refine Do.f rfl (Do.t rfl ((Bi.jc (k := f) h H hr hs hf).bind ?_));rintro _ ⟨r', C', a', rfl, h1, H1⟩;exact ⟨_, rfl, r', C', a', rfl, h1, H1.mono (by simp [bd])⟩
 ·refine Do.f rfl (Do.f rfl (Do.t rfl ((Sk.jc (k := f) h H hr hs hf).bind ?_)));rintro _ ⟨r', C', a', rfl, h1, H1⟩;exact ⟨_, rfl, r', C', a', rfl, h1, H1.mono (by simp [bd])⟩
theorem Bp (hk : Kd k) (h : HK (KD k) r its C) (H : Ar κ n a (C ++ L)) (hs : its.length < 1024) (hf : 95000 < f) :
  Do (nD f k a r) fun res => ∃ a', Ar κ (n + 100) a' (C ++ L) /\ ((its = [] /\ res = (-1, a')) \/ ∃ x ∈ its, res = ((x.i : Int), a') /\ ∀ y ∈ its, ¬ y.lt x) := by
 unfold nD;rcases hk with rfl | rfl | rfl
 ·refine Do.t rfl ((Le.eg h H).bind ?_);rintro ⟨v, b⟩ ⟨a', H1, h1⟩;exact ⟨_, rfl, a', H1.mono (by omega), h1⟩
 ·refine Do.f rfl (Do.t rfl ((Bi.eg (k := f) h H hs hf).bind ?_));rintro ⟨v, b⟩ ⟨a', H1, h1⟩;exact ⟨_, rfl, a', H1, h1⟩
 ·refine Do.f rfl (Do.f rfl (Do.t rfl ((Sk.eg (k := f) h H hs hf).bind ?_)));rintro ⟨v, b⟩ ⟨a', H1, h1⟩;exact ⟨_, rfl, a', H1, h1⟩
theorem BG (hk : Kd k) (h : HK (KD k) r its C) (H : Ar κ n a (C ++ L)) (e : its ≠ []) (hs : its.length < 1024) (hf : 95000 < f) :
  Do (nz f k a r) fun res => ∃ x q r' C' a', res = (r', (x.i : Int), a') /\ its.Perm (x :: q) /\ (∀ y ∈ its, ¬ y.lt x) /\ HK (KD k) r' q C' /\ Ar κ (n + bd k its.length) a' (C' ++ ((x.i, x.cell (-1)) :: L)) := by
 unfold nz;rcases hk with rfl | rfl | rfl
 ·refine Do.t rfl ((Le.dj (k := f) h H e (by omega)).bind ?_);rintro _ ⟨x, q, r', C', a', rfl, h1, h2, h3, H1⟩;exact ⟨_, rfl, x, q, r', C', a', rfl, h1, h2, h3, H1.mono (by simp only [bd, if_true]; omega)⟩
 ·refine Do.f rfl (Do.t rfl ((Bi.dj (k := f) h H e hs hf).bind ?_));rintro _ ⟨x, q, r', C', a', rfl, h1, h2, h3, H1⟩;exact ⟨_, rfl, x, q, r', C', a', rfl, h1, h2, h3, H1.mono (by simp [bd])⟩
 ·refine Do.f rfl (Do.f rfl (Do.t rfl ((Sk.dj (k := f) h H e hs hf).bind ?_)));rintro _ ⟨x, q, r', C', a', rfl, h1, h2, h3, H1⟩;exact ⟨_, rfl, x, q, r', C', a', rfl, h1, h2, h3, H1.mono (by simp [bd])⟩
theorem BR {x : It} (hk : Kd k) (h : HK (KD k) r its C) (e : x ∈ its) (H : Ar κ n a (C ++ L)) (hs : its.length < 1024) (hf : 95000 < f) :
  Do (nG f k a r (x.i : Int)) fun res => ∃ q r' C' a', res = (r', a') /\ its.Perm (x :: q) /\ HK (KD k) r' q C' /\ Ar κ (n + bd k its.length) a' (C' ++ ((x.i, x.cell (-1)) :: L)) := by
 unfold nG;rcases hk with rfl | rfl | rfl
 ·refine Do.t rfl ((Le.dY (k := f) h e H (by omega)).bind ?_);rintro _ ⟨q, r', C', a', rfl, h1, h3, H1⟩;exact ⟨_, rfl, q, r', C', a', rfl, h1, h3, H1.mono (by simp only [bd, if_true]; omega)⟩
 ·refine Do.f rfl (Do.t rfl ((Bi.dY (k := f) h e H hs hf).bind ?_));rintro _ ⟨q, r', C', a', rfl, h1, h3, H1⟩;exact ⟨_, rfl, q, r', C', a', rfl, h1, h3, H1.mono (by simp [bd])⟩
 ·refine Do.f rfl (Do.f rfl (Do.t rfl ((Sk.dY (k := f) h e H hs hf).bind ?_)));rintro _ ⟨q, r', C', a', rfl, h1, h3, H1⟩;exact ⟨_, rfl, q, r', C', a', rfl, h1, h3, H1.mono (by simp [bd])⟩
theorem AB {x y : It} (hk : Kd k) (h : HL (KD k) r its x y C) (hi : y.i = x.i) (e : ¬ x.lt y) (H : Ar κ n a (C ++ L)) (hs : its.length < 1024) (hf : 95000 < f) :
  Do (ou f k a r (y.i : Int)) fun res => ∃ r' q C' a', res = (r', a') /\ its.Perm (x :: q) /\ HK (KD k) r' (y :: q) C' /\ Ar κ (n + bd k its.length) a' (C' ++ L) := by
 unfold ou;rcases hk with rfl | rfl | rfl
 ·refine Do.t rfl ((Le.jQ (k := f) h hi e H (by omega)).bind ?_);rintro _ ⟨r', q, C', a', rfl, h1, h3, H1⟩;exact ⟨_, rfl, r', q, C', a', rfl, h1, h3, H1.mono (by simp only [bd, if_true]; omega)⟩
 ·refine Do.f rfl (Do.t rfl ((Bi.jQ (k := f) h hi e H hs hf).bind ?_));rintro _ ⟨r', q, C', a', rfl, h1, h3, H1⟩;exact ⟨_, rfl, r', q, C', a', rfl, h1, h3, H1.mono (by simp [bd])⟩
 ·refine Do.f rfl (Do.f rfl (Do.t rfl ((Sk.jQ (k := f) h hi e H hs hf).bind ?_)));rintro _ ⟨r', q, C', a', rfl, h1, h3, H1⟩;exact ⟨_, rfl, r', q, C', a', rfl, h1, h3, H1.mono (by simp [bd])⟩
theorem Ax {s : Int} {i : List It} {C' : Heap} (hk : Kd k) (h : HK (KD k) r its C) (j : HK (KD k) s i C') (H : Ar κ n a (C ++ (C' ++ L))) (hs : its.length < 256) (hs' : i.length < 256) (hf : 95000 < f) :
  Do (oD f k a r s) fun res => ∃ t e a', res = (t, a') /\ HK (KD k) t (its ++ i) e /\ Ar κ (n + bd k (its.length + i.length)) a' (e ++ L) := by
 unfold oD;rcases hk with rfl | rfl | rfl
 ·refine Do.t rfl ((Le.jO (k := f) h j H (by omega)).bind ?_);rintro _ ⟨t, e, a', rfl, h1, H1⟩;exact ⟨_, rfl, t, e, a', rfl, h1, H1.mono (by simp only [bd, if_true]; omega)⟩
 ·refine Do.f rfl (Do.t rfl ((Bi.jO (k := f) h j H hs hs' hf).bind ?_));rintro _ ⟨t, e, a', rfl, h1, H1⟩;exact ⟨_, rfl, t, e, a', rfl, h1, H1.mono (by simp [bd])⟩
 ·refine Do.f rfl (Do.f rfl (Do.t rfl ((Sk.jO (k := f) h j H hs hs' hf).bind ?_)));rintro _ ⟨t, e, a', rfl, h1, H1⟩;exact ⟨_, rfl, t, e, a', rfl, h1, H1.mono (by simp [bd])⟩
end
end
noncomputable section
set_option maxRecDepth 10000
namespace Ph
structure Inv (p : zh) (T : Nat) : Prop where
 most : 0 <= p.most /\ p.most <= 65536
 len : (p.l.length : Int) <= p.most
 fre : ∀ f ∈ p.free, ∃ (j : Nat) (x : zz), f = (j : Int) /\ p.l[j]? = some x /\ x.taken = false
 fnd : p.free.Nodup
 cov : ∀ (j : Nat) (x : zz), p.l[j]? = some x -> x.taken = false -> (j : Int) ∈ p.free
 gen : ∀ (j : Nat) (x : zz), p.l[j]? = some x -> 1 <= x.gen /\ x.gen <= T
def Live (p : zh) (r : zd) (v : zE) : Prop := ∃ j : Nat, r.At = (j : Int) /\ p.l[j]? = some ⟨r.Gen, true, v⟩
section
variable {p : zh} {T : Nat} {r : zd} {v : zE}
theorem Live.idx (h : Live p r v) : mIdx p.l r.At = some ⟨r.Gen, true, v⟩ := by
 obtain ⟨j, e, h⟩ := h;rw [e, yJ]; exact h
theorem Live.uniq {w : zE} (h : Live p r v) (i : Live p r w) : v = w := by
 have j := h.idx;have e := i.idx;rw [j] at e;simp only [Option.some.injEq, zz.mk.injEq, true_and] at e;exact e
theorem Inv.flen (I : Inv p T) : p.free.length <= p.l.length := by
 have h1 : (p.free.map Int.toNat).Nodup := List.pairwise_map.2 (I.fnd.imp_of_mem fun {x y} t z u e => by
  obtain ⟨i, _, rfl, _⟩ := I.fre x t;obtain ⟨j, _, rfl, _⟩ := I.fre y z;simp only [tN] at e;exact u (by rw [e]))
 have h2 := qs (m := List.range p.l.length) h1 fun x t => by
  obtain ⟨f, hf, rfl⟩ := List.mem_map.1 t;obtain ⟨j, y, rfl, hj, _⟩ := I.fre f hf;simp only [tN, List.mem_range];exact (List.getElem?_eq_some_iff.1 hj).1
 simpa using h2
theorem wH (I : Inv p T) (h : Live p r v) : yS p r = some (some r.At, 0) := by
 have hi := h.idx;obtain ⟨j, e, h⟩ := h;have i := I.gen _ _ h;simp only at i;have hl := (List.getElem?_eq_some_iff.1 h).1;unfold yS;rw [dF (by omega), dF (by omega), dF (by omega), hi];simp
theorem wV (I : Inv p T) (h : Live p r v) : yA p r = some (v, 0) := by
 unfold yA;rw [wH I h];simp [uz, oS, h.idx]
theorem rE (I : Inv p T) (h : Live p r v) (w : zE) : xu p r w = some (0, zh.mk p.most (mSet p.l r.At ⟨r.Gen, true, w⟩) p.free) := by
 unfold xu;rw [wH I h];simp [uz, oS, h.idx]
theorem rr (I : Inv p T) (h : Live p r v) : xV p r = some (v, 0, zh.mk p.most (mSet p.l r.At ⟨r.Gen, false, (zE.mk 0 0 0)⟩) (p.free ++ [r.At])) := by
 have e := I.flen;have h1 := I.len;have h2 := I.most;unfold xV;rw [wH I h];simp only [bS, uz, oS, h.idx];rw [y4 (by simp only [List.length_singleton]; omega)];simp [mSet]
theorem rq (I : Inv p T) (u : T < 4611686018427387904) {fs : List Int} {j : Nat} {x : zz} (hf : p.free = fs ++ [(j : Int)]) (hj : p.l[j]? = some x) :
  yH p v = some (zd.mk (j : Int) (x.gen + 1), true, zh.mk p.most (mSet p.l (j : Int) ⟨x.gen + 1, true, v⟩) fs) := by
 have y := I.gen _ _ hj;have t : fs.length < 1000000 := by
  have h0 := I.flen;rw [hf] at h0;simp only [lA, List.length_singleton] at h0;have := I.len;have := I.most;omega
 have hw : w64 (((fs ++ [(j : Int)]).length : Int) - 1) = (fs.length : Int) := by
  rw [zR] <;> simp <;> omega
 have i : mIdx (fs ++ [(j : Int)]) (fs.length : Int) = some (j : Int) := yr fs [] (j : Int);have e : mCut (fs ++ [(j : Int)]) 0 (fs.length : Int) = some fs := by
  unfold mCut;rw [if_pos ⟨by omega, by omega, by simp; omega⟩];simp
 unfold yH;rw [hf, hw, dT (by omega)];simp only [cT, i, e, bS];rw [yJ, hj];simp only [bS];rw [zR (by omega) (by omega)];simp [mSet]
theorem qI (I : Inv p T) (hf : p.free = []) (hl : (p.l.length : Int) < p.most) :
  yH p v = some (zd.mk (p.l.length : Int) 1, true, zh.mk p.most (p.l ++ [⟨1, true, v⟩]) []) := by
 have := I.most;unfold yH;rw [hf];rw [show w64 ((([] : List Int).length : Int) - 1) = -1 by rw [zR] <;> simp];rw [dF (by omega)];simp only [cF];rw [dF (by omega)];simp only [cF];rw [y4 (by simp only [List.length_singleton]; omega)];simp only [bS];rw [yr];simp only [bS];rw [show w64 (0 + 1) = 1 by rw [zR] <;> simp];simp [mSet]
theorem yK {l : List zz} {j i : Nat} {x y : zz} (h : l[j]? = some y) : (l.set j x)[i]? = if i = j then some x else l[i]? := by
 have := (List.getElem?_eq_some_iff.1 h).1;by_cases e : i = j
 ·subst e; rw [if_pos rfl, List.getElem?_set_self this]
 ·rw [if_neg e, getD_set_ne (fun h => e h.symm)]
theorem rF (I : Inv p T) (h : Live p r v) (w : zE) : Inv (zh.mk p.most (mSet p.l r.At ⟨r.Gen, true, w⟩) p.free) T := by
 obtain ⟨j, e, h⟩ := h;have u := I.gen _ _ h;refine ⟨I.most, by simpa [mSet] using I.len, fun f hf => ?_, I.fnd, fun i x t ht => ?_, fun i x t => ?_⟩
 ·obtain ⟨i, x, rfl, hi, t⟩ := I.fre f hf;refine ⟨i, x, rfl, ?_, t⟩;simp only [mSet, e, tN];rw [yK h, if_neg]; exact hi;rintro rfl;rw [h] at hi; cases hi; simp at t
 ·simp only [mSet, e, tN] at t;rw [yK h] at t;split at t
  ·cases t; simp at ht
  ·exact I.cov i x t ht
 ·simp only [mSet, e, tN] at t;rw [yK h] at t;split at t
  ·cases t; exact u
  ·exact I.gen i x t
theorem tK (h : Live p r v) (w : zE) (s : zd) (u : zE) : Live (zh.mk p.most (mSet p.l r.At ⟨r.Gen, true, w⟩) p.free) s u ↔ (s = r /\ u = w) \/ (s ≠ r /\ Live p s u) := by
 obtain ⟨j, e, h⟩ := h;constructor
 ·rintro ⟨i, t, hi⟩;simp only [mSet, e, tN] at hi;rw [yK h] at hi;split at hi
  ·rename_i x;subst x;simp only [Option.some.injEq, zz.mk.injEq, true_and] at hi;refine Or.inl ⟨?_, hi.2.symm⟩;cases s; cases r; simp only at e t hi ⊢; rw [t, e, hi.1]
  ·rename_i x;refine Or.inr ⟨?_, i, t, hi⟩;rintro rfl;exact x (by omega)
 ·rintro (⟨rfl, rfl⟩ | ⟨y, i, t, hi⟩)
  ·refine ⟨j, e, ?_⟩;simp only [mSet, e, tN];rw [yK h, if_pos rfl]
  ·refine ⟨i, t, ?_⟩;simp only [mSet, e, tN];rw [yK h, if_neg]; exact hi;rintro rfl;rw [h] at hi;simp only [Option.some.injEq, zz.mk.injEq, true_and] at hi;refine y ?_;cases s; cases r; simp only at e t hi ⊢; rw [t, e, hi.1]
theorem pT (I : Inv p T) (h : Live p r v) : Inv (zh.mk p.most (mSet p.l r.At ⟨r.Gen, false, (zE.mk 0 0 0)⟩) (p.free ++ [r.At])) T := by
 obtain ⟨j, e, h⟩ := h;have z := I.gen _ _ h;have u : r.At ∉ p.free := by
  intro hf;obtain ⟨i, x, B, hi, t⟩ := I.fre _ hf;have : i = j := by omega
  subst this;rw [h] at hi; cases hi; simp at t
 refine ⟨I.most, by simpa [mSet] using I.len, fun f hf => ?_, ?_, fun i x t ht => ?_, fun i x t => ?_⟩
 ·simp only [mSet, e, tN];rcases List.mem_append.1 hf with hf | hf
  ·obtain ⟨i, x, rfl, hi, t⟩ := I.fre f hf;refine ⟨i, x, rfl, ?_, t⟩;rw [yK h, if_neg]; exact hi;rintro rfl;rw [h] at hi; cases hi; simp at t
  ·rw [List.mem_singleton.1 hf, e];exact ⟨j, _, rfl, by rw [yK h, if_pos rfl], rfl⟩
 ·exact List.nodup_append.2 ⟨I.fnd, by simp, fun a ha b A => by rw [List.mem_singleton.1 A]; rintro rfl; exact u ha⟩
 ·simp only [mSet, e, tN] at t;rw [yK h] at t;split at t
  ·rename_i y; subst y; exact List.mem_append_right _ (by rw [e]; simp)
  ·exact mL _ (I.cov i x t ht)
 ·simp only [mSet, e, tN] at t;rw [yK h] at t;split at t
  ·cases t; exact z
  ·exact I.gen i x t
theorem qo (h : Live p r v) (s : zd) (u : zE) : Live (zh.mk p.most (mSet p.l r.At ⟨r.Gen, false, (zE.mk 0 0 0)⟩) (p.free ++ [r.At])) s u ↔ s ≠ r /\ Live p s u := by
 obtain ⟨j, e, h⟩ := h;constructor
 ·rintro ⟨i, t, hi⟩;simp only [mSet, e, tN] at hi;rw [yK h] at hi;split at hi
  ·simp at hi
  ·rename_i x;refine ⟨?_, i, t, hi⟩;rintro rfl;exact x (by omega)
 ·rintro ⟨y, i, t, hi⟩;refine ⟨i, t, ?_⟩;simp only [mSet, e, tN];rw [yK h, if_neg]; exact hi;rintro rfl;rw [h] at hi;simp only [Option.some.injEq, zz.mk.injEq, true_and] at hi;refine y ?_;cases s; cases r; simp only at e t hi ⊢; rw [t, e, hi.1]
theorem qd (I : Inv p T) (U : T < 4611686018427387904) (z : (p.l.length : Int) < p.most + p.free.length) (v : zE) :
  ∃ r p', yH p v = some (r, true, p') /\ Inv p' (T + 1) /\ (∀ w, ¬ Live p r w) /\ (∀ s u, Live p' s u ↔ (s = r /\ u = v) \/ Live p s u) /\ p'.most = p.most /\ (p'.l.length : Int) - p'.free.length = (p.l.length : Int) - p.free.length + 1 := by
 rcases List.eq_nil_or_concat p.free with hf | ⟨fs, f, hf⟩
 ·rw [hf] at z;refine ⟨_, _, qI I hf (by simpa using z), ⟨I.most, by simp at z ⊢; omega, by simp, by simp, ?_, ?_⟩, ?_, ?_, rfl, by rw [hf]; simp⟩
  ·intro j x t ht;simp only at t;by_cases hj : j < p.l.length
   ·rw [List.getElem?_append_left hj] at t;have := I.cov j x t ht;rw [hf] at this; simp at this
   ·rw [List.getElem?_append_right (by omega)] at t;by_cases e : j - p.l.length = 0
    ·rw [e] at t; simp at t; subst t; simp at ht
    ·rw [List.getElem?_eq_none (by simp; omega)] at t; cases t
  ·intro j x t;simp only at t;by_cases hj : j < p.l.length
   ·rw [List.getElem?_append_left hj] at t;have := I.gen j x t;omega
   ·rw [List.getElem?_append_right (by omega)] at t;by_cases e : j - p.l.length = 0
    ·rw [e] at t; simp at t; subst t; simp; omega
    ·rw [List.getElem?_eq_none (by simp; omega)] at t; cases t
  ·rintro w ⟨j, e, h⟩;have := (List.getElem?_eq_some_iff.1 h).1;simp only at e;omega
  ·intro s u;constructor
   ·rintro ⟨j, e, h⟩;simp only at h;by_cases hj : j < p.l.length
    ·rw [List.getElem?_append_left hj] at h;exact Or.inr ⟨j, e, h⟩
    ·rw [List.getElem?_append_right (by omega)] at h;by_cases W : j - p.l.length = 0
     ·rw [W] at h;simp at h;refine Or.inl ⟨?_, h.2.symm⟩;cases s; simp only at e h ⊢;rw [e, <- h.1]; congr 1; omega
     ·rw [List.getElem?_eq_none (by simp; omega)] at h; cases h
   ·rintro (⟨rfl, rfl⟩ | ⟨j, e, h⟩)
    ·exact ⟨p.l.length, rfl, by simp⟩
    ·have := (List.getElem?_eq_some_iff.1 h).1;exact ⟨j, e, by rw [List.getElem?_append_left this]; exact h⟩
 ·rw [List.concat_eq_append] at hf;obtain ⟨j, x, rfl, hj, ht⟩ := I.fre f (by rw [hf]; simp);have X := I.gen j x hj;have hn := I.fnd;rw [hf] at hn;obtain ⟨J, -, O⟩ := List.nodup_append.1 hn;have S : (j : Int) ∉ fs := fun h => O _ h _ (List.mem_singleton.2 rfl) rfl
  refine ⟨_, _, rq I U hf hj, ⟨I.most, by simpa [mSet] using I.len, ?_, J, ?_, ?_⟩, ?_, ?_, rfl, by rw [hf]; simp [mSet]; omega⟩
  ·intro f B;obtain ⟨i, y, rfl, hi, A⟩ := I.fre f (by rw [hf]; exact mL _ B);refine ⟨i, y, rfl, ?_, A⟩;simp only [mSet, tN];rw [yK hj, if_neg]; exact hi;rintro rfl; exact S B
  ·intro i y A D;simp only [mSet, tN] at A;rw [yK hj] at A;split at A
   ·cases A; simp at D
   ·rename_i F;have := I.cov i y A D;rw [hf] at this;rcases List.mem_append.1 this with h | h
    ·exact h
    ·simp at h; omega
  ·intro i y A;simp only [mSet, tN] at A;rw [yK hj] at A;split at A
   ·cases A; simp only; omega
   ·have := I.gen i y A; omega
  ·rintro w ⟨i, e, h⟩;simp only at e h;have : i = j := by omega
   subst this;rw [hj] at h;simp only [Option.some.injEq] at h;rw [h] at ht; simp at ht
  ·intro s u;constructor
   ·rintro ⟨i, e, h⟩;simp only [mSet, tN] at h;rw [yK hj] at h;split at h
    ·rename_i F;subst F;simp only [Option.some.injEq, zz.mk.injEq, true_and] at h;refine Or.inl ⟨?_, h.2.symm⟩;cases s; simp only at e h ⊢; rw [e, <- h.1]
    ·exact Or.inr ⟨i, e, h⟩
   ·rintro (⟨rfl, rfl⟩ | ⟨i, e, h⟩)
    ·refine ⟨j, rfl, ?_⟩;simp only [mSet, tN];rw [yK hj, if_pos rfl]
    ·refine ⟨i, e, ?_⟩;simp only [mSet, tN];rw [yK hj, if_neg]; exact h;rintro rfl;rw [hj] at h;simp only [Option.some.injEq] at h;rw [h] at ht; simp at ht
end
end Ph
end
noncomputable section
set_option maxRecDepth 10000
namespace Pt
structure Inv (p : ze) (T : Nat) : Prop where
 most : 0 <= p.most /\ p.most <= 65536
 len : (p.l.length : Int) <= p.most
 fre : ∀ f ∈ p.free, ∃ (j : Nat) (x : zu), f = (j : Int) /\ p.l[j]? = some x /\ x.taken = false
 fnd : p.free.Nodup
 cov : ∀ (j : Nat) (x : zu), p.l[j]? = some x -> x.taken = false -> (j : Int) ∈ p.free
 gen : ∀ (j : Nat) (x : zu), p.l[j]? = some x -> 1 <= x.gen /\ x.gen <= T
def Live (p : ze) (r : zd) (v : zC) : Prop := ∃ j : Nat, r.At = (j : Int) /\ p.l[j]? = some ⟨r.Gen, true, v⟩
section
variable {p : ze} {T : Nat} {r : zd} {v : zC}
theorem Live.idx (h : Live p r v) : mIdx p.l r.At = some ⟨r.Gen, true, v⟩ := by
 obtain ⟨j, e, h⟩ := h;rw [e, yJ]; exact h
theorem Live.uniq {w : zC} (h : Live p r v) (i : Live p r w) : v = w := by
 have j := h.idx;have e := i.idx;rw [j] at e;simp only [Option.some.injEq, zu.mk.injEq, true_and] at e;exact e
theorem Inv.flen (I : Inv p T) : p.free.length <= p.l.length := by
 have h1 : (p.free.map Int.toNat).Nodup := List.pairwise_map.2 (I.fnd.imp_of_mem fun {x y} t z u e => by
  obtain ⟨i, _, rfl, _⟩ := I.fre x t;obtain ⟨j, _, rfl, _⟩ := I.fre y z;simp only [tN] at e;exact u (by rw [e]))
 have h2 := qs (m := List.range p.l.length) h1 fun x t => by
  obtain ⟨f, hf, rfl⟩ := List.mem_map.1 t;obtain ⟨j, y, rfl, hj, _⟩ := I.fre f hf;simp only [tN, List.mem_range];exact (List.getElem?_eq_some_iff.1 hj).1
 simpa using h2
theorem wH (I : Inv p T) (h : Live p r v) : yP p r = some (some r.At, 0) := by
 have hi := h.idx;obtain ⟨j, e, h⟩ := h;have i := I.gen _ _ h;simp only at i;have hl := (List.getElem?_eq_some_iff.1 h).1;unfold yP;rw [dF (by omega), dF (by omega), dF (by omega), hi];simp
theorem wV (I : Inv p T) (h : Live p r v) : yn p r = some (v, 0) := by
 unfold yn;rw [wH I h];simp [uz, oS, h.idx]
theorem rE (I : Inv p T) (h : Live p r v) (w : zC) : xP p r w = some (0, ze.mk p.most (mSet p.l r.At ⟨r.Gen, true, w⟩) p.free) := by
 unfold xP;rw [wH I h];simp [uz, oS, h.idx]
theorem rr (I : Inv p T) (h : Live p r v) : xF p r = some (v, 0, ze.mk p.most (mSet p.l r.At ⟨r.Gen, false, (zC.mk 0 (zd.mk 0 0))⟩) (p.free ++ [r.At])) := by
 have e := I.flen;have h1 := I.len;have h2 := I.most;unfold xF;rw [wH I h];simp only [bS, uz, oS, h.idx];rw [y4 (by simp only [List.length_singleton]; omega)];simp [mSet]
theorem rq (I : Inv p T) (u : T < 4611686018427387904) {fs : List Int} {j : Nat} {x : zu} (hf : p.free = fs ++ [(j : Int)]) (hj : p.l[j]? = some x) :
  yC p v = some (zd.mk (j : Int) (x.gen + 1), true, ze.mk p.most (mSet p.l (j : Int) ⟨x.gen + 1, true, v⟩) fs) := by
 have y := I.gen _ _ hj;have t : fs.length < 1000000 := by
  have h0 := I.flen;rw [hf] at h0;simp only [lA, List.length_singleton] at h0;have := I.len;have := I.most;omega
 have hw : w64 (((fs ++ [(j : Int)]).length : Int) - 1) = (fs.length : Int) := by
  rw [zR] <;> simp <;> omega
 have i : mIdx (fs ++ [(j : Int)]) (fs.length : Int) = some (j : Int) := yr fs [] (j : Int);have e : mCut (fs ++ [(j : Int)]) 0 (fs.length : Int) = some fs := by
  unfold mCut;rw [if_pos ⟨by omega, by omega, by simp; omega⟩];simp
 unfold yC;rw [hf, hw, dT (by omega)];simp only [cT, i, e, bS];rw [yJ, hj];simp only [bS];rw [zR (by omega) (by omega)];simp [mSet]
theorem qI (I : Inv p T) (hf : p.free = []) (hl : (p.l.length : Int) < p.most) :
  yC p v = some (zd.mk (p.l.length : Int) 1, true, ze.mk p.most (p.l ++ [⟨1, true, v⟩]) []) := by
 have := I.most;unfold yC;rw [hf];rw [show w64 ((([] : List Int).length : Int) - 1) = -1 by rw [zR] <;> simp];rw [dF (by omega)];simp only [cF];rw [dF (by omega)];simp only [cF];rw [y4 (by simp only [List.length_singleton]; omega)];simp only [bS];rw [yr];simp only [bS];rw [show w64 (0 + 1) = 1 by rw [zR] <;> simp];simp [mSet]
theorem yK {l : List zu} {j i : Nat} {x y : zu} (h : l[j]? = some y) : (l.set j x)[i]? = if i = j then some x else l[i]? := by
 have := (List.getElem?_eq_some_iff.1 h).1;by_cases e : i = j
 ·subst e; rw [if_pos rfl, List.getElem?_set_self this]
 ·rw [if_neg e, getD_set_ne (fun h => e h.symm)]
theorem rF (I : Inv p T) (h : Live p r v) (w : zC) : Inv (ze.mk p.most (mSet p.l r.At ⟨r.Gen, true, w⟩) p.free) T := by
 obtain ⟨j, e, h⟩ := h;have u := I.gen _ _ h;refine ⟨I.most, by simpa [mSet] using I.len, fun f hf => ?_, I.fnd, fun i x t ht => ?_, fun i x t => ?_⟩
 ·obtain ⟨i, x, rfl, hi, t⟩ := I.fre f hf;refine ⟨i, x, rfl, ?_, t⟩;simp only [mSet, e, tN];rw [yK h, if_neg]; exact hi;rintro rfl;rw [h] at hi; cases hi; simp at t
 ·simp only [mSet, e, tN] at t;rw [yK h] at t;split at t
  ·cases t; simp at ht
  ·exact I.cov i x t ht
 ·simp only [mSet, e, tN] at t;rw [yK h] at t;split at t
  ·cases t; exact u
  ·exact I.gen i x t
theorem tK (h : Live p r v) (w : zC) (s : zd) (u : zC) : Live (ze.mk p.most (mSet p.l r.At ⟨r.Gen, true, w⟩) p.free) s u ↔ (s = r /\ u = w) \/ (s ≠ r /\ Live p s u) := by
 obtain ⟨j, e, h⟩ := h;constructor
 ·rintro ⟨i, t, hi⟩;simp only [mSet, e, tN] at hi;rw [yK h] at hi;split at hi
  ·rename_i x;subst x;simp only [Option.some.injEq, zu.mk.injEq, true_and] at hi;refine Or.inl ⟨?_, hi.2.symm⟩;cases s; cases r; simp only at e t hi ⊢; rw [t, e, hi.1]
  ·rename_i x;refine Or.inr ⟨?_, i, t, hi⟩;rintro rfl;exact x (by omega)
 ·rintro (⟨rfl, rfl⟩ | ⟨y, i, t, hi⟩)
  ·refine ⟨j, e, ?_⟩;simp only [mSet, e, tN];rw [yK h, if_pos rfl]
  ·refine ⟨i, t, ?_⟩;simp only [mSet, e, tN];rw [yK h, if_neg]; exact hi;rintro rfl;rw [h] at hi;simp only [Option.some.injEq, zu.mk.injEq, true_and] at hi;refine y ?_;cases s; cases r; simp only at e t hi ⊢; rw [t, e, hi.1]
theorem pT (I : Inv p T) (h : Live p r v) : Inv (ze.mk p.most (mSet p.l r.At ⟨r.Gen, false, (zC.mk 0 (zd.mk 0 0))⟩) (p.free ++ [r.At])) T := by
 obtain ⟨j, e, h⟩ := h;have z := I.gen _ _ h;have u : r.At ∉ p.free := by
  intro hf;obtain ⟨i, x, B, hi, t⟩ := I.fre _ hf;have : i = j := by omega
  subst this;rw [h] at hi; cases hi; simp at t
 refine ⟨I.most, by simpa [mSet] using I.len, fun f hf => ?_, ?_, fun i x t ht => ?_, fun i x t => ?_⟩
 ·simp only [mSet, e, tN];rcases List.mem_append.1 hf with hf | hf
  ·obtain ⟨i, x, rfl, hi, t⟩ := I.fre f hf;refine ⟨i, x, rfl, ?_, t⟩;rw [yK h, if_neg]; exact hi;rintro rfl;rw [h] at hi; cases hi; simp at t
  ·rw [List.mem_singleton.1 hf, e];exact ⟨j, _, rfl, by rw [yK h, if_pos rfl], rfl⟩
 ·exact List.nodup_append.2 ⟨I.fnd, by simp, fun a ha b A => by rw [List.mem_singleton.1 A]; rintro rfl; exact u ha⟩
 ·simp only [mSet, e, tN] at t;rw [yK h] at t;split at t
  ·rename_i y; subst y; exact List.mem_append_right _ (by rw [e]; simp)
  ·exact mL _ (I.cov i x t ht)
 ·simp only [mSet, e, tN] at t;rw [yK h] at t;split at t
  ·cases t; exact z
  ·exact I.gen i x t
theorem qo (h : Live p r v) (s : zd) (u : zC) : Live (ze.mk p.most (mSet p.l r.At ⟨r.Gen, false, (zC.mk 0 (zd.mk 0 0))⟩) (p.free ++ [r.At])) s u ↔ s ≠ r /\ Live p s u := by
 obtain ⟨j, e, h⟩ := h;constructor
 ·rintro ⟨i, t, hi⟩;simp only [mSet, e, tN] at hi;rw [yK h] at hi;split at hi
  ·simp at hi
  ·rename_i x;refine ⟨?_, i, t, hi⟩;rintro rfl;exact x (by omega)
 ·rintro ⟨y, i, t, hi⟩;refine ⟨i, t, ?_⟩;simp only [mSet, e, tN];rw [yK h, if_neg]; exact hi;rintro rfl;rw [h] at hi;simp only [Option.some.injEq, zu.mk.injEq, true_and] at hi;refine y ?_;cases s; cases r; simp only at e t hi ⊢; rw [t, e, hi.1]
theorem qd (I : Inv p T) (U : T < 4611686018427387904) (z : (p.l.length : Int) < p.most + p.free.length) (v : zC) :
  ∃ r p', yC p v = some (r, true, p') /\ Inv p' (T + 1) /\ (∀ w, ¬ Live p r w) /\ (∀ s u, Live p' s u ↔ (s = r /\ u = v) \/ Live p s u) /\ p'.most = p.most /\ (p'.l.length : Int) - p'.free.length = (p.l.length : Int) - p.free.length + 1 := by
 rcases List.eq_nil_or_concat p.free with hf | ⟨fs, f, hf⟩
 ·rw [hf] at z;refine ⟨_, _, qI I hf (by simpa using z), ⟨I.most, by simp at z ⊢; omega, by simp, by simp, ?_, ?_⟩, ?_, ?_, rfl, by rw [hf]; simp⟩
  ·intro j x t ht;simp only at t;by_cases hj : j < p.l.length
   ·rw [List.getElem?_append_left hj] at t;have := I.cov j x t ht;rw [hf] at this; simp at this
   ·rw [List.getElem?_append_right (by omega)] at t;by_cases e : j - p.l.length = 0
    ·rw [e] at t; simp at t; subst t; simp at ht
    ·rw [List.getElem?_eq_none (by simp; omega)] at t; cases t
  ·intro j x t;simp only at t;by_cases hj : j < p.l.length
   ·rw [List.getElem?_append_left hj] at t;have := I.gen j x t;omega
   ·rw [List.getElem?_append_right (by omega)] at t;by_cases e : j - p.l.length = 0
    ·rw [e] at t; simp at t; subst t; simp; omega
    ·rw [List.getElem?_eq_none (by simp; omega)] at t; cases t
  ·rintro w ⟨j, e, h⟩;have := (List.getElem?_eq_some_iff.1 h).1;simp only at e;omega
  ·intro s u;constructor
   ·rintro ⟨j, e, h⟩;simp only at h;by_cases hj : j < p.l.length
    ·rw [List.getElem?_append_left hj] at h;exact Or.inr ⟨j, e, h⟩
    ·rw [List.getElem?_append_right (by omega)] at h;by_cases W : j - p.l.length = 0
     ·rw [W] at h;simp at h;refine Or.inl ⟨?_, h.2.symm⟩;cases s; simp only at e h ⊢;rw [e, <- h.1]; congr 1; omega
     ·rw [List.getElem?_eq_none (by simp; omega)] at h; cases h
   ·rintro (⟨rfl, rfl⟩ | ⟨j, e, h⟩)
    ·exact ⟨p.l.length, rfl, by simp⟩
    ·have := (List.getElem?_eq_some_iff.1 h).1;exact ⟨j, e, by rw [List.getElem?_append_left this]; exact h⟩
 ·rw [List.concat_eq_append] at hf;obtain ⟨j, x, rfl, hj, ht⟩ := I.fre f (by rw [hf]; simp);have X := I.gen j x hj;have hn := I.fnd;rw [hf] at hn;obtain ⟨J, -, O⟩ := List.nodup_append.1 hn;have S : (j : Int) ∉ fs := fun h => O _ h _ (List.mem_singleton.2 rfl) rfl
  refine ⟨_, _, rq I U hf hj, ⟨I.most, by simpa [mSet] using I.len, ?_, J, ?_, ?_⟩, ?_, ?_, rfl, by rw [hf]; simp [mSet]; omega⟩
  ·intro f B;obtain ⟨i, y, rfl, hi, A⟩ := I.fre f (by rw [hf]; exact mL _ B);refine ⟨i, y, rfl, ?_, A⟩;simp only [mSet, tN];rw [yK hj, if_neg]; exact hi;rintro rfl; exact S B
  ·intro i y A D;simp only [mSet, tN] at A;rw [yK hj] at A;split at A
   ·cases A; simp at D
   ·rename_i F;have := I.cov i y A D;rw [hf] at this;rcases List.mem_append.1 this with h | h
    ·exact h
    ·simp at h; omega
  ·intro i y A;simp only [mSet, tN] at A;rw [yK hj] at A;split at A
   ·cases A; simp only; omega
   ·have := I.gen i y A; omega
  ·rintro w ⟨i, e, h⟩;simp only at e h;have : i = j := by omega
   subst this;rw [hj] at h;simp only [Option.some.injEq] at h;rw [h] at ht; simp at ht
  ·intro s u;constructor
   ·rintro ⟨i, e, h⟩;simp only [mSet, tN] at h;rw [yK hj] at h;split at h
    ·rename_i F;subst F;simp only [Option.some.injEq, zu.mk.injEq, true_and] at h;refine Or.inl ⟨?_, h.2.symm⟩;cases s; simp only at e h ⊢; rw [e, <- h.1]
    ·exact Or.inr ⟨i, e, h⟩
   ·rintro (⟨rfl, rfl⟩ | ⟨i, e, h⟩)
    ·refine ⟨j, rfl, ?_⟩;simp only [mSet, tN];rw [yK hj, if_pos rfl]
    ·refine ⟨i, e, ?_⟩;simp only [mSet, tN];rw [yK hj, if_neg]; exact h;rintro rfl;rw [hj] at h;simp only [Option.some.injEq] at h;rw [h] at ht; simp at ht
end
end Pt
end
noncomputable section
set_option maxRecDepth 10000
structure HR where
 ref : zd
 k : Int
 r : Int
 C : Heap
 rs : List (zd × It)
def HR.its (h : HR) : List It := h.rs.map Prod.snd
def HR.val (h : HR) : zE := zE.mk h.k h.r (h.rs.length : Int)
def allC (hs : List HR) : Heap := hs.flatMap HR.C
def allR (hs : List HR) : List (zd × It) := hs.flatMap HR.rs
theorem oB (h : HR) (hs : List HR) : allC (h :: hs) = h.C ++ allC hs := rfl
theorem wR (h : HR) (hs : List HR) : allR (h :: hs) = h.rs ++ allR hs := rfl
theorem HR.vv (h : HR) : h.its.length = h.rs.length := by simp [HR.its]
structure PQ (M : Nat) (q : zs) (T : Nat) (hs : List HR) : Prop where
 ih : Ph.Inv q.t_.heaps T
 ii : Pt.Inv q.t_.items T
 hl : ∀ s u, Ph.Live q.t_.heaps s u ↔ ∃ h ∈ hs, s = h.ref /\ u = h.val
 il : ∀ s u, Pt.Live q.t_.items s u ↔ ∃ h ∈ hs, ∃ p ∈ h.rs, s = p.1 /\ u = ⟨(p.2.i : Int), h.ref⟩
 at1 : (q.t_.at_.map Prod.fst).Nodup
 at2 : ∀ c s, mGet kI c q.t_.at_ = some s ↔ ∃ p ∈ allR hs, c = (p.2.i : Int) /\ s = p.1
 en1 : (q.entries.map Prod.fst).Nodup
 en2 : ∀ s e, mGet zd.eq s q.entries = some e ↔ ∃ p ∈ allR hs, s = p.1 /\ e = ⟨p.2.k, p.2.s⟩
 hk : ∀ h ∈ hs, Kd h.k /\ HK (KD h.k) h.r h.its h.C
 hn : (hs.map HR.ref).Nodup
 rn : ((allR hs).map Prod.fst).Nodup
 sn : ((allR hs).map fun p => p.2.s).Nodup
 ar : ∃ κ n, κ.C = 2 * M /\ Ar κ n q.a_ (allC hs)
 mi : q.items = M
 mm : q.t_.items.most = M
 mb : 1 <= M /\ M <= 16384
 ci : (q.t_.items.l.length : Int) - q.t_.items.free.length = (allR hs).length
 ch : (q.t_.heaps.l.length : Int) - q.t_.heaps.free.length = hs.length
 cm : q.t_.heaps.most = 64
 sr : ∀ p ∈ allR hs, 0 <= p.2.s /\ p.2.s < q.serial
 sq : 0 <= q.serial /\ q.serial <= T
def Stp' (q e : zs) (B : Nat) : Prop := q.a_.m_.steps <= e.a_.m_.steps /\ e.a_.m_.steps <= q.a_.m_.steps + B
section
variable {M : Nat} {q : zs} {T : Nat} {h : HR} {hs hs' : List HR}
theorem PQ.p (Q : PQ M q T hs) (hp : hs.Perm hs') : PQ M q T hs' := by
 have j : ∀ p, p ∈ allR hs ↔ p ∈ allR hs' := fun p => (hp.flatMap_right HR.rs).mem_iff
 refine ⟨Q.ih, Q.ii, fun s u => (Q.hl s u).trans ⟨?_, ?_⟩, fun s u => (Q.il s u).trans ⟨?_, ?_⟩, Q.at1, fun c s => (Q.at2 c s).trans ⟨?_, ?_⟩, Q.en1, fun s e => (Q.en2 s e).trans ⟨?_, ?_⟩, fun h hh => Q.hk h (hp.mem_iff.2 hh), ((hp.map _).nodup_iff).1 Q.hn, (((hp.flatMap_right HR.rs).map _).nodup_iff).1 Q.rn, (((hp.flatMap_right HR.rs).map _).nodup_iff).1 Q.sn, ?_, Q.mi, Q.mm, Q.mb, Q.ci.trans ?_, Q.ch.trans ?_, Q.cm, fun p hh => Q.sr p ((j p).2 hh), Q.sq⟩
 ·rintro ⟨g, i, h⟩; exact ⟨g, hp.mem_iff.1 i, h⟩
 ·rintro ⟨g, i, h⟩; exact ⟨g, hp.mem_iff.2 i, h⟩
 ·rintro ⟨g, i, h⟩; exact ⟨g, hp.mem_iff.1 i, h⟩
 ·rintro ⟨g, i, h⟩; exact ⟨g, hp.mem_iff.2 i, h⟩
 ·rintro ⟨g, i, h⟩; exact ⟨g, (j g).1 i, h⟩
 ·rintro ⟨g, i, h⟩; exact ⟨g, (j g).2 i, h⟩
 ·rintro ⟨g, i, h⟩; exact ⟨g, (j g).1 i, h⟩
 ·rintro ⟨g, i, h⟩; exact ⟨g, (j g).2 i, h⟩
 ·obtain ⟨κ, n, e, H⟩ := Q.ar;exact ⟨κ, n, e, H.p (hp.flatMap_right HR.C)⟩
 ·have := (hp.flatMap_right HR.rs).length_eq;show ((hs.flatMap HR.rs).length : Int) = ((hs'.flatMap HR.rs).length : Int);rw [this]
 ·rw [hp.length_eq]
theorem PQ.live (Q : PQ M q T hs) (hh : h ∈ hs) : Ph.Live q.t_.heaps h.ref h.val := (Q.hl _ _).2 ⟨h, hh, rfl, rfl⟩
theorem PQ.heap (Q : PQ M q T hs) (hh : h ∈ hs) : y7 q.t_ h.ref = some (h.k, h.r, (h.rs.length : Int), 0) := by
 unfold y7;rw [Ph.wV Q.ih (Q.live hh)]
 rfl
theorem PQ.lenC (Q : PQ M q T hs) : (allC hs).length = 2 * (allR hs).length := by
 have : ∀ hs : List HR, (∀ h ∈ hs, Kd h.k /\ HK (KD h.k) h.r h.its h.C) -> (allC hs).length = 2 * (allR hs).length := by
  intro hs;induction hs with
  | nil => intro _; rfl
  | cons h hs ih =>
   intro hk;have h1 := (hk h (List.mem_cons_self ..)).2.len;have h2 := ih fun g e => hk g (mC _ e)
   rw [HR.vv] at h1;rw [oB, wR, lA, lA]; omega
 exact this hs Q.hk
theorem PQ.Ca (Q : PQ M q T hs) : (allR hs).length <= M := by
 obtain ⟨κ, n, e, H⟩ := Q.ar;have := H.room;rw [Q.lenC, e] at this; omega
theorem PQ.bN (Q : PQ M q T hs) {p : zd × It} (hp : p ∈ allR hs) : p.2.i ∈ (allC hs).map Prod.fst := by
 obtain ⟨h, hh, hp⟩ := List.mem_flatMap.1 hp;obtain ⟨c, e⟩ := (Q.hk h hh).2.mem (List.mem_map_of_mem (f := Prod.snd) hp);exact List.mem_map.2 ⟨_, List.mem_flatMap.2 ⟨h, hh, e⟩, rfl⟩
theorem Ar.yF {κ : Cfg} {n : Nat} {a : za} {L : Heap} (H : Ar κ n a L) : Ar ⟨κ.C, a.m_.steps, κ.g, κ.mo⟩ 0 a L :=
 { H with b0 := Int.le_trans H.b0 H.lo, lo := Int.le_refl _, hi := by simp }
theorem gH {P l : zd -> zE -> Prop} {h1 : HR} (hl : ∀ s u, P s u ↔ ∃ g ∈ h :: hs, s = g.ref /\ u = g.val) (hn : ((h :: hs).map HR.ref).Nodup) (e : h1.ref = h.ref) (t : ∀ s u, l s u ↔ (s = h.ref /\ u = h1.val) \/ (s ≠ h.ref /\ P s u)) :
  ∀ s u, l s u ↔ ∃ g ∈ h1 :: hs, s = g.ref /\ u = g.val := by
 intro s u;simp only [pC, List.nodup_cons] at hn;rw [t];constructor
 ·rintro (⟨rfl, rfl⟩ | ⟨j, hp⟩)
  ·exact ⟨h1, List.mem_cons_self .., e.symm, rfl⟩
  ·obtain ⟨g, i, rfl, rfl⟩ := (hl _ _).1 hp;rcases List.mem_cons.1 i with rfl | i
   ·exact absurd rfl j
   ·exact ⟨g, mC _ i, rfl, rfl⟩
 ·rintro ⟨g, i, rfl, rfl⟩;rcases List.mem_cons.1 i with rfl | i
  ·exact Or.inl ⟨e, rfl⟩
  ·refine Or.inr ⟨fun x => hn.1 (x ▸ List.mem_map_of_mem (f := HR.ref) i), (hl _ _).2 ⟨g, mC _ i, rfl, rfl⟩⟩
theorem PQ.root {t : zj} {T' : Nat} (hh : Ph.Inv t.heaps T') (e : Ph.Live t.heaps h.ref h.val) (r n : Int) :
  xm t h.ref r n = some (0, zj.mk (zh.mk t.heaps.most (mSet t.heaps.l h.ref.At ⟨h.ref.Gen, true, ⟨h.k, r, n⟩⟩) t.heaps.free) t.items t.at_) := by
 unfold xm;rw [Ph.wV hh e];simp only [bS];rw [show ((0 : Int) == 0) = true from rfl, cT];show ((xu t.heaps h.ref (zE.mk h.val.kind r n)).bind _).bind _ = _;rw [Ph.rE hh e]
 rfl
theorem PQ.insert (Q : PQ M q T (h :: hs)) (W : (allR (h :: hs)).length < M) (a6 : h.rs.length < 1000) (hT : T < 4611686018427387000) {f : Nat} (hf : 95000 < f) (kk : Int) (key : Int) (o i0 : zd) :
  Do (ui f q (yc.mk 2 kk h.ref o i0 key)) fun res => ∃ (i : zd) (x : It) (r' : Int) (C' : Heap) (U : zs), res = (zM.mk 0 (zd.mk 0 0) i (zH.mk key q.serial) 0, U) /\ x.k = key /\ x.s = q.serial /\
   PQ M U (T + 1) (⟨h.ref, h.k, r', C', (i, x) :: h.rs⟩ :: hs) /\ U.serial = q.serial + 1 /\ Stp' q U (bd h.k h.rs.length + 3) := by
 have hm : h ∈ h :: hs := List.mem_cons_self ..;obtain ⟨κ, n, eC, H0⟩ := Q.ar;have H := H0.yF;have A := Q.hk h hm;have F := Q.lenC;have b0 := Q.mb;unfold ui;rw [Q.heap hm];simp only [bS];refine Do.f rfl ?_;have X : vU q.t_ = some ((allR (h :: hs)).length : Int) := by
  unfold vU yW;rw [Q.ci, zR (by omega) (by omega)]
  rfl
 rw [X];simp only [bS];refine Do.f (dF (by rw [Q.mi]; omega)) ?_;refine (kM H (by rw [F]; simp only; omega) key q.serial).bind ?_;rintro _ ⟨i, a1, rfl, hi, H1⟩;have Y : Ar ⟨κ.C, q.a_.m_.steps, κ.g, κ.mo⟩ (0 + 3) a1 (h.C ++ (((It.mk i key q.serial).i, (It.mk i key q.serial).cell (-1)) :: allC hs)) := H1.p (List.perm_middle (l₁ := h.C) (l₂ := allC hs)).symm;have I := A.2.len;rw [HR.vv] at I;rw [oB, lA] at F;refine (Bg (f := f) (x := It.mk i key q.serial) A.1 A.2 Y (by rw [HR.vv]; simp only; omega) (by rw [HR.vv]; omega) hf).bind ?_;rintro _ ⟨r', C', a2, rfl, h1, Z⟩;have a0 : mGet kI (i : Int) q.t_.at_ = none := by
  cases y : mGet kI (i : Int) q.t_.at_ with
  | none => rfl
  | some s =>
   obtain ⟨p, hp, e, _⟩ := (Q.at2 _ _).1 y;have : i = p.2.i := by omega
   rw [this] at hi;exact absurd (Q.bN hp) hi
 obtain ⟨B, p', e2, I', a4, J, O, S⟩ := Pt.qd Q.ii (by omega) (by rw [Q.mm]; have := Q.ci; omega) (zC.mk (i : Int) h.ref);have e3 : uL q.t_ h.ref (i : Int) = some (B, 0, zj.mk q.t_.heaps p' (mPut kI (i : Int) B q.t_.at_)) := by
  unfold uL;rw [Ph.wV Q.ih (Q.live hm)];simp only [bS];rw [show ((0 : Int) != 0) = false from rfl, cF];unfold rC;rw [a0];simp only [bS];have e4 : yW q.t_.items = some ((allR (h :: hs)).length : Int) := by
   unfold yW;rw [Q.ci, zR (by omega) (by omega)]
  rw [e4];unfold wq;simp only [bS];rw [show (((allR (h :: hs)).length : Int) == q.t_.items.most) = false by rw [Q.mm]; simp; omega, cF, cF, e2]
  rfl
 refine Do.seq e3 ?_;refine Do.seq (PQ.root (t := zj.mk q.t_.heaps p' (mPut kI (i : Int) B q.t_.at_)) Q.ih (Q.live hm) r' (w64 ((h.rs.length : Int) + 1))) ?_;rw [zR (by omega) (by omega), zR (by have := Q.sq; omega) (by have := Q.sq; omega)];have z : ∀ p ∈ allR (h :: hs), p.1 ≠ B := by
  intro p hp e;obtain ⟨g, y, hp⟩ := List.mem_flatMap.1 hp;exact a4 _ ((Q.il _ _).2 ⟨g, y, p, hp, e.symm, rfl⟩)
 have l : ∀ p, p ∈ allR (⟨h.ref, h.k, r', C', (B, It.mk i key q.serial) :: h.rs⟩ :: hs) ↔ p = (B, It.mk i key q.serial) \/ p ∈ allR (h :: hs) := by
  intro p;simp only [wR, List.cons_append, iC]
 refine ⟨_, rfl, B, It.mk i key q.serial, r', C', _, rfl, rfl, rfl, ?_, rfl, ?_, ?_⟩
 ·refine ⟨?_, I', ?_, ?_, tW ae Q.at1, ?_, tW vW Q.en1, ?_, ?_, ?_, ?_, ?_, ⟨⟨κ.C, q.a_.m_.steps, κ.g, κ.mo⟩, _, eC, Z⟩, Q.mi, O.trans Q.mm, Q.mb, ?_, ?_, Q.cm, ?_, ?_⟩
  ·have := Ph.rF Q.ih (Q.live hm) (zE.mk h.k r' ((h.rs.length : Int) + 1));exact { this with gen := fun j x hx => by have := this.gen j x hx; omega }
  ·refine gH Q.hl Q.hn rfl fun s u => ?_
   have := Ph.tK (Q.live hm) (zE.mk h.k r' ((h.rs.length : Int) + 1)) s u;simpa [HR.val] using this
  ·intro s u;refine (J s u).trans ⟨?_, ?_⟩
   ·rintro (⟨rfl, rfl⟩ | hl)
    ·exact ⟨_, List.mem_cons_self .., _, List.mem_cons_self .., rfl, rfl⟩
    ·obtain ⟨g, y, p, hp, rfl, rfl⟩ := (Q.il _ _).1 hl;rcases List.mem_cons.1 y with rfl | y
     ·exact ⟨_, List.mem_cons_self .., p, mC _ hp, rfl, rfl⟩
     ·exact ⟨g, mC _ y, p, hp, rfl, rfl⟩
   ·rintro ⟨g, y, p, hp, rfl, rfl⟩;rcases List.mem_cons.1 y with rfl | y
    ·rcases List.mem_cons.1 hp with rfl | hp
     ·exact Or.inl ⟨rfl, rfl⟩
     ·exact Or.inr ((Q.il _ _).2 ⟨h, hm, p, hp, rfl, rfl⟩)
    ·exact Or.inr ((Q.il _ _).2 ⟨g, mC _ y, p, hp, rfl, rfl⟩)
  ·intro c s;refine (rU ae).trans ⟨?_, ?_⟩
   ·rintro (⟨rfl, rfl⟩ | ⟨a5, y⟩)
    ·exact ⟨_, (l _).2 (Or.inl rfl), rfl, rfl⟩
    ·obtain ⟨p, hp, e, e'⟩ := (Q.at2 _ _).1 y;exact ⟨p, (l _).2 (Or.inr hp), e, e'⟩
   ·rintro ⟨p, hp, rfl, rfl⟩;rcases (l _).1 hp with rfl | hp
    ·exact Or.inl ⟨rfl, rfl⟩
    ·refine Or.inr ⟨fun e => ?_, (Q.at2 _ _).2 ⟨p, hp, rfl, rfl⟩⟩;have : p.2.i = i := by omega
     exact hi (this ▸ Q.bN hp)
  ·intro s e;refine (rU vW).trans ⟨?_, ?_⟩
   ·rintro (⟨rfl, rfl⟩ | ⟨a5, y⟩)
    ·exact ⟨_, (l _).2 (Or.inl rfl), rfl, rfl⟩
    ·obtain ⟨p, hp, X, e2⟩ := (Q.en2 _ _).1 y;exact ⟨p, (l _).2 (Or.inr hp), X, e2⟩
   ·rintro ⟨p, hp, rfl, rfl⟩;rcases (l _).1 hp with rfl | hp
    ·exact Or.inl ⟨rfl, rfl⟩
    ·exact Or.inr ⟨z p hp, (Q.en2 _ _).2 ⟨p, hp, rfl, rfl⟩⟩
  ·intro g y;rcases List.mem_cons.1 y with rfl | y
   ·exact ⟨A.1, h1⟩
   ·exact Q.hk g (mC _ y)
  ·exact Q.hn
  ·show ((B, It.mk i key q.serial) :: (h.rs ++ allR hs) |>.map Prod.fst).Nodup;rw [pC, List.nodup_cons];refine ⟨fun D => ?_, Q.rn⟩;obtain ⟨p, hp, e⟩ := List.mem_map.1 D;exact z p hp e
  ·show ((B, It.mk i key q.serial) :: (h.rs ++ allR hs) |>.map fun p => p.2.s).Nodup;rw [pC, List.nodup_cons];refine ⟨fun D => ?_, Q.sn⟩;obtain ⟨p, hp, e⟩ := List.mem_map.1 D;have := (Q.sr p hp).2;simp only at e; omega
  ·rw [S, Q.ci];simp only [wR, lA, lC]; omega
  ·have := Q.ch;simpa [mSet] using this
  ·intro p hp;have := Q.sq;rcases (l _).1 hp with rfl | hp
   ·simp only; omega
   ·have := Q.sr p hp; simp only; omega
  ·have := Q.sq; simp only; omega
 ·exact Z.lo
 ·have := Z.hi;rw [HR.vv] at this;simp only at this ⊢; omega
end
end
end Go.Proofs.YtccbfeafebllhaaGreat
