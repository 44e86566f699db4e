/-
  The statements TopTimes of the program.
  Text 3 of 8: of what the proof needs (a row of the program: no condition is left); put together and made narrow by a program.
-/
import Derived.KernelRfl
import Derived.Test.YtojpmaakhdmhmaaGreatYw2
set_option linter.unusedVariables false
set_option linter.unusedSimpArgs false
namespace Go.Proofs.YtojpmaakhdmhmaaGreat
open Go.Th
noncomputable section
set_option maxRecDepth 10000
def Do {α : Type} (o : Option α) (Q : α -> Prop) : Prop := ∃ r,o = some r /\ Q r
theorem Do.bind {α β : Type} {o : Option α} {f : α -> Option β} {P : α -> Prop} {Q : β -> Prop} (h : Do o P) (k : ∀ r,P r -> Do (f r) Q) : Do (o.bind f) Q := by
 obtain ⟨r,rfl,hp⟩ := h;exact k r hp
theorem Do.ret {α : Type} {r : α} {Q : α -> Prop} (h : Q r) : Do (some r) Q := ⟨r,rfl,h⟩
theorem Do.mono {α : Type} {o : Option α} {P Q : α -> Prop} (h : Do o P) (k : ∀ r,P r -> Q r) : Do o Q := by
 obtain ⟨r,e,hp⟩ := h;exact ⟨r,e,k r hp⟩
theorem Do.of {α : Type} {o : Option α} {r : α} {Q : α -> Prop} (e : o = some r) (h : Q r) : Do o Q := ⟨r,e,h⟩
theorem Do.t {α : Type} {b : Bool} {x y : Option α} {Q : α -> Prop} (h : b = true) (k : Do x Q) : Do (bif b then x else y) Q := by subst h; exact k
theorem Do.f {α : Type} {b : Bool} {x y : Option α} {Q : α -> Prop} (h : b = false) (k : Do y Q) : Do (bif b then x else y) Q := by subst h; exact k
theorem Do.tb {α β : Type} {b : Bool} {x y : Option α} {g : α -> Option β} {Q : β -> Prop} (h : b = true) (k : Do (x.bind g) Q) : Do ((bif b then x else y).bind g) Q := by subst h; exact k
theorem Do.fb {α β : Type} {b : Bool} {x y : Option α} {g : α -> Option β} {Q : β -> Prop} (h : b = false) (k : Do (y.bind g) Q) : Do ((bif b then x else y).bind g) Q := by subst h; exact k
theorem Do.if {α : Type} {b : Bool} {x y : Option α} {Q : α -> Prop} (kt : b = true -> Do x Q) (e : b = false -> Do y Q) : Do (bif b then x else y) Q := by
 cases b
 ·exact e rfl
 ·exact kt rfl
theorem Do.seq {α β : Type} {o : Option α} {f : α -> Option β} {r : α} {Q : β -> Prop} (e : o = some r) (k : Do (f r) Q) : Do (o.bind f) Q := by subst e; exact k
theorem Do.elim {α : Type} {o : Option α} {Q : α -> Prop} (h : Do o Q) : ∃ r,o = some r /\ Q r := h
theorem Do.assoc {α β γ : Type} {o : Option α} {f : α -> Option β} {g : β -> Option γ} {Q : γ -> Prop} (h : Do (o.bind fun x => (f x).bind g) Q) : Do ((o.bind f).bind g) Q := by
 cases o <;> exact h
theorem zF {x : Int} (h1 : -9223372036854775808 <= x) (h2 : x < 9223372036854775808) : w64 x = x := by
 show (if (true && decide (x % 18446744073709551616 >= 9223372036854775808)) = true then x % 18446744073709551616 - 18446744073709551616 else x % 18446744073709551616) = x;by_cases h : x % 18446744073709551616 >= 9223372036854775808
 ·rw [if_pos (by simpa using h)]; omega
 ·rw [if_neg (by simpa using h)]; omega
theorem yv {α : Type} (l : List α) (c : Nat) : mIdx l (c : Int) = l[c]? := by
 unfold mIdx; rw [if_pos (by omega)]; simp
theorem yu {α : Type} (p q : List α) (y : α) : mIdx (p ++ y :: q) (p.length : Int) = some y := by
 rw [yv]; simp
theorem yP {α : Type} {l e : List α} (h : l.length + e.length <= 1073741824) : mApp l e = some (l ++ e) := by unfold mApp; rw [if_pos h]
theorem dZ {i : Int} {n : Nat} (h : 0 <= i) (e : i < (n : Int)) : mIn i n = some () := by unfold mIn; rw [if_pos ⟨h,e⟩]
instance AY : DecidableEq zr := fun a b => by cases a; cases b; simp only [zr.mk.injEq]; exact inferInstance
abbrev Heap := List (Nat × zr)
theorem pm {l l' : Heap} (h : ∀ p,l.count p = l'.count p) : l.Perm l' := List.perm_iff_count.2 h
structure Cfg where
 C : Nat
 b : Int
 g : Int
 mo : Int
structure Ar (κ : Cfg) (n : Nat) (a : zb) (L : Heap) : Prop where
 len : a.l.length = κ.C
 cap : κ.C <= 65536
 nev : ∃ N : Nat,a.never = (N : Int) /\ N <= κ.C /\ (L.map Prod.fst ++ a.free.map Int.toNat).Perm (List.range N)
 fre : ∀ f ∈ a.free,0 <= f
 hav : ∀ p ∈ L,a.l[p.1]? = some p.2 /\ p.2.taken = true
 oth : ∀ (c : Nat) x,a.l[c]? = some x -> x.taken = true -> c ∈ L.map Prod.fst
 b0 : 0 <= κ.b
 lo : κ.b <= a.m_.steps
 hi : a.m_.steps <= κ.b + n
 mx : a.m_.steps <= 9223372036854775807
 beg : a.m_.begun = κ.g
 mst : a.m_.most = κ.mo
theorem Ar.p {κ : Cfg} {n : Nat} {a : zb} {L L' : Heap} (H : Ar κ n a L) (h : L.Perm L') : Ar κ n a L' where
 len := H.len
 cap := H.cap
 nev := by
  obtain ⟨N,e,i,hp⟩ := H.nev;exact ⟨N,e,i,((h.symm.map _).append_right _).trans hp⟩
 fre := H.fre
 hav := fun p hp => H.hav p (h.mem_iff.2 hp)
 oth := fun c x e t => ((h.map _).mem_iff).1 (H.oth c x e t)
 b0 := H.b0
 lo := H.lo
 hi := H.hi
 mx := H.mx
 beg := H.beg
 mst := H.mst
theorem Ar.mono {κ : Cfg} {n m : Nat} {a : zb} {L : Heap} (H : Ar κ n a L) (h : n <= m) : Ar κ m a L := { H with hi := by have := H.hi; omega }
theorem Ar.t2 {κ : Cfg} {n : Nat} {a : zb} {x y : Nat × zr} {L : Heap} (H : Ar κ n a (x :: y :: L)) : Ar κ n a (y :: x :: L) := H.p (List.Perm.swap ..)
theorem Ar.t3 {κ : Cfg} {n : Nat} {a : zb} {x y z : Nat × zr} {L : Heap} (H : Ar κ n a (x :: y :: z :: L)) : Ar κ n a (z :: x :: y :: L) := H.p (pm fun p => by simp only [List.count_cons]; omega)
theorem Ar.t4 {κ : Cfg} {n : Nat} {a : zb} {x y z u : Nat × zr} {L : Heap} (H : Ar κ n a (x :: y :: z :: u :: L)) : Ar κ n a (u :: x :: y :: z :: L) := H.p (pm fun p => by simp only [List.count_cons]; omega)
theorem Ar.lt {κ : Cfg} {n : Nat} {a : zb} {L : Heap} (H : Ar κ n a L) {c : Nat} {x : zr} (h : (c,x) ∈ L) : c < κ.C := by
 have := (H.hav _ h).1;have h2 := (List.getElem?_eq_some_iff.1 this).1;rw [<- H.len]; exact h2
theorem Ar.nodup {κ : Cfg} {n : Nat} {a : zb} {L : Heap} (H : Ar κ n a L) : (L.map Prod.fst).Nodup := by
 obtain ⟨N,_,_,hp⟩ := H.nev;exact (List.nodup_append.1 (hp.nodup_iff.2 List.nodup_range)).1
theorem Ar.room {κ : Cfg} {n : Nat} {a : zb} {L : Heap} (H : Ar κ n a L) : L.length <= κ.C := by
 obtain ⟨N,_,e,hp⟩ := H.nev;have := hp.length_eq;simp at this; omega
theorem Ar.uniq {κ : Cfg} {n : Nat} {a : zb} {L : Heap} (H : Ar κ n a L) {c : Nat} {x y : zr} (h : (c,x) ∈ L) (j : (c,y) ∈ L) : x = y := by
 have i := (H.hav _ h).1;have e := (H.hav _ j).1;simp only at i e;rw [i] at e; exact Option.some.inj e
theorem eS (m : zB) (h0 : 0 <= m.steps) (h1 : m.steps <= 9223372036854775807) :
  ∃ s,xi m 1 = some (zB.mk s m.begun m.most) /\ m.steps <= s /\ s <= m.steps + 1 /\ s <= 9223372036854775807 := by
 unfold xi vB;have e : w64 (9223372036854775807 - (if (1 : Int) > 0 then 1 else 0)) = 9223372036854775806 := by rw [if_pos (by decide)]; exact zF (by decide) (by decide)
 rw [e];simp only [Int.reduceLT,Int.reduceGT,gt_iff_lt,if_true,decide_true,Bool.true_and,decide_false,Bool.false_and,cF];by_cases h : 9223372036854775806 < m.steps
 ·rw [dT h]; exact ⟨_,rfl,by omega,by omega,by omega⟩
 ·rw [dF h];simp only [cF,bS];rw [zF (by omega) (by omega)];exact ⟨_,rfl,by omega,by omega,by omega⟩
theorem Ar.tick {κ : Cfg} {n : Nat} {a : zb} {L : Heap} (H : Ar κ n a L) : ∃ m,xi a.m_ 1 = some m /\ Ar κ (n + 1) (zb.mk a.l a.never a.free m) L := by
 obtain ⟨s,e,h1,h2,h3⟩ := eS a.m_ (Int.le_trans H.b0 H.lo) H.mx;have h4 := H.lo;have i := H.hi;exact ⟨_,e,{ H with lo := by simp only; omega,hi := by simp only; omega,mx := h3,beg := H.beg,mst := H.mst }⟩
theorem oD {κ : Cfg} {n : Nat} {a : zb} {L : Heap} (H : Ar κ n a L) {c : Nat} {x : zr} (h : (c,x) ∈ L) : yk a (c : Int) = some true := by
 unfold yk;have h1 := H.lt h;have h2 := H.hav _ h;have d1 : decide ((c : Int) >= 0) = true := by simp
 have d2 : decide ((c : Int) < (a.l.length : Int)) = true := by simp [H.len]; exact h1
 rw [d1,d2,yv,h2.1];have h3 : x.taken = true := h2.2;simp [h3]
theorem lx {a : zb} {c : Int} (h : c < 0) : yk a c = some false := by
 unfold yk;rw [dF (by omega)]
 rfl
theorem aJ {a : zb} {c f : Int} (h : yk a c = some true) (h0 : 0 <= f) (h1 : f < 10) : xS a c f = some true := by
 unfold xS;rw [h];simp [h0,h1]
theorem aI {a : zb} {c f : Int} (h : yk a c = some false) : xS a c f = some false := by
 unfold xS;rw [h]
 rfl
theorem Ar.get' {κ : Cfg} {n : Nat} {a : zb} {L : Heap} (H : Ar κ n a L) {c : Nat} {x : zr} (h : (c,x) ∈ L) {f v : Int} (hf : zr.rC x f = some v) (h0 : 0 <= f) (h1 : f < 10) :
  ∃ m,zS a (c : Int) f = some (v,zb.mk a.l a.never a.free m) /\ Ar κ (n + 1) (zb.mk a.l a.never a.free m) L := by
 obtain ⟨m,e,i⟩ := H.tick;refine ⟨m,?_,i⟩;unfold zS;rw [e];simp only [bS];rw [aJ (oD i h) h0 h1];simp only [bS,Bool.not_true,cF];rw [yv,(H.hav _ h).1];simp only [bS];rw [dZ h0 (by omega)];simp only [bS];rw [hf]
 rfl
theorem Ar.get {κ : Cfg} {n : Nat} {a : zb} {L : Heap} (H : Ar κ n a L) {c : Nat} {x : zr} (h : (c,x) ∈ L) {f v : Int} (hf : zr.rC x f = some v) (h0 : 0 <= f := by decide) (h1 : f < 10 := by decide) :
  Do (zS a (c : Int) f) fun r => ∃ i,r = (v,i) /\ Ar κ (n + 1) i L := by
 obtain ⟨m,e,j⟩ := H.get' h hf h0 h1;exact ⟨_,e,_,rfl,j⟩
theorem Ar.aH {κ : Cfg} {n : Nat} {a : zb} {L : Heap} (H : Ar κ n a L) {c f : Int} (h : c < 0) :
  ∃ m,zS a c f = some (-1,zb.mk a.l a.never a.free m) /\ Ar κ (n + 1) (zb.mk a.l a.never a.free m) L := by
 obtain ⟨m,e,i⟩ := H.tick;refine ⟨m,?_,i⟩;unfold zS;rw [e];simp only [bS];rw [aI (lx h)]
 rfl
theorem Ar.getN {κ : Cfg} {n : Nat} {a : zb} {L : Heap} (H : Ar κ n a L) {c f : Int} (h : c < 0) :
  Do (zS a c f) fun r => ∃ i,r = (-1,i) /\ Ar κ (n + 1) i L := by
 obtain ⟨m,e,j⟩ := H.aH (f := f) h;exact ⟨_,e,_,rfl,j⟩
theorem Ar.cell {κ : Cfg} {n : Nat} {a : zb} {L : Heap} (H : Ar κ n a L) {c : Nat} {x : zr} (h : (c,x) ∈ L) {f v : Int} (hf : zr.rC x f = some v) (hv : -1 <= v) (t : v < κ.C) (h0 : 0 <= f := by decide) (h1 : f < 10 := by decide) :
  Do (zC a (c : Int) f) fun r => ∃ j,r = (v,j) /\ Ar κ (n + 1) j L := by
 obtain ⟨m,e,i⟩ := H.get' h hf h0 h1;unfold zC;rw [e];simp only [bS];by_cases hn : v < 0
 ·rw [dT hn];have : v = -1 := by omega
  subst this;exact ⟨_,rfl,_,rfl,i⟩
 ·rw [dF hn];have : decide (v >= (a.l.length : Int)) = false := by rw [H.len]; exact dF (by omega)
  simp only [cF,bS];rw [this];exact ⟨_,rfl,_,rfl,i⟩
theorem Ar.fk {κ : Cfg} {n : Nat} {a : zb} {L : Heap} (H : Ar κ n a L) {c f : Int} (h : c < 0) :
  Do (zC a c f) fun r => ∃ i,r = (-1,i) /\ Ar κ (n + 1) i L := by
 obtain ⟨m,e,j⟩ := H.aH (f := f) h;unfold zC;rw [e];exact ⟨_,rfl,_,rfl,j⟩
theorem getD_set_ne {α : Type} {l : List α} {i j : Nat} {x : α} (h : i ≠ j) : (l.set i x)[j]? = l[j]? := by
 rw [List.getElem?_set]; rw [if_neg h]
theorem Ar.set {κ : Cfg} {n : Nat} {a : zb} {L : Heap} {c : Nat} {x y : zr} (H : Ar κ n a ((c,x) :: L)) {f v : Int} (hf : zr.qD x f v = some y) (ht : y.taken = true := by rfl) (h0 : 0 <= f := by decide) (h1 : f < 10 := by decide) :
  Do (zx a (c : Int) f v) fun r => ∃ u,r = (true,u) /\ Ar κ (n + 1) u ((c,y) :: L) := by
 obtain ⟨m,e,i⟩ := H.tick;have hm : (c,x) ∈ (c,x) :: L := List.mem_cons_self ..;unfold zx;rw [e];simp only [bS];rw [aJ (oD i hm) h0 h1];simp only [bS,Bool.not_true,cF];rw [yv,(H.hav _ hm).1];simp only [bS];rw [dZ h0 (by omega)];simp only [bS];rw [hf];refine ⟨_,rfl,_,rfl,?_⟩;have j : c < a.l.length := by rw [H.len]; exact H.lt hm
 have hnd := H.nodup;simp only [pC,List.nodup_cons] at hnd;exact { i with
  len := by simp [mSet,H.len]
  nev := i.nev
  hav := by
   intro p hp;rcases List.mem_cons.1 hp with rfl | hp
   ·refine ⟨?_,ht⟩;simp only [mSet,tN];rw [List.getElem?_set_self j]
   ·have h2 := H.hav p (mC _ hp);refine ⟨?_,h2.2⟩;simp only [mSet,tN];rw [getD_set_ne (fun e => hnd.1 (by rw [e]; exact List.mem_map_of_mem (f := Prod.fst) hp))];exact h2.1
  oth := by
   intro d z t A;simp only [mSet,tN] at t;by_cases hd : c = d
   ·subst hd; simp
   ·rw [getD_set_ne hd] at t;have := H.oth d z t A;simpa using this }
theorem Ar.setN {κ : Cfg} {n : Nat} {a : zb} {L : Heap} (H : Ar κ n a L) {c f v : Int} (h : c < 0) :
  Do (zx a c f v) fun r => ∃ i,r = (false,i) /\ Ar κ (n + 1) i L := by
 obtain ⟨m,e,j⟩ := H.tick;unfold zx;rw [e];simp only [bS];rw [aI (lx h)];exact ⟨_,rfl,_,rfl,j⟩
theorem Ar.cells {κ : Cfg} {n : Nat} {a : zb} {L : Heap} (H : Ar κ n a L) : xB a = some (κ.C : Int) := by
 unfold xB; rw [H.len]
def fH : zr := zr.mk (-1) (-1) (-1) (-1) 0 0 (-1) 0 0 (-1) true
theorem Ar.put {κ : Cfg} {n : Nat} {a : zb} {L : Heap} (H : Ar κ n a L) {c N : Nat} {fr : List Int} (A : c < κ.C) (hl : ∀ x,a.l[c]? = some x -> x.taken = false) (y : N <= κ.C)
  (hp : (c :: (L.map Prod.fst ++ fr.map Int.toNat)).Perm (List.range N)) (j : ∀ f ∈ fr,0 <= f) : Ar κ n (zb.mk (mSet a.l (c : Int) fH) (N : Int) fr a.m_) ((c,fH) :: L) := by
 have t : c < a.l.length := by rw [H.len]; exact A
 have hnd : (c :: (L.map Prod.fst ++ fr.map Int.toNat)).Nodup := hp.nodup_iff.2 List.nodup_range;have i : c ∉ L.map Prod.fst := fun h => (List.nodup_cons.1 hnd).1 (mL _ h)
 exact { H with
  len := by simp [mSet,H.len]
  nev := ⟨N,rfl,y,by simpa using hp⟩
  fre := j
  hav := by
   intro p hp;rcases List.mem_cons.1 hp with rfl | hp
   ·refine ⟨?_,rfl⟩;simp only [mSet,tN];rw [List.getElem?_set_self t]
   ·have h2 := H.hav p hp;refine ⟨?_,h2.2⟩;simp only [mSet,tN];rw [getD_set_ne (fun e => i (by rw [e]; exact List.mem_map_of_mem (f := Prod.fst) hp))];exact h2.1
  oth := by
   intro d z u B;simp only [mSet,tN] at u;by_cases hd : c = d
   ·subst hd; simp
   ·rw [getD_set_ne hd] at u;have := H.oth d z u B;simp only [pC,iC]; exact Or.inr this }
theorem Ar.take {κ : Cfg} {n : Nat} {a : zb} {L : Heap} (H : Ar κ n a L) (S : L.length < κ.C) :
  Do (w6 a) fun r => ∃ (c : Nat) (z : zb),r = ((c : Int),true,z) /\ c ∉ L.map Prod.fst /\ Ar κ (n + 1) z ((c,fH) :: L) := by
 obtain ⟨m,e,t⟩ := H.tick;obtain ⟨N,u,I,hp⟩ := H.nev;have A := H.cap;have hlen := hp.length_eq;simp only [lA,lM,List.length_range] at hlen;unfold w6;rw [e];simp only [bS];rcases List.eq_nil_or_concat a.free with i | ⟨fr,c,i⟩
 ·rw [i] at hlen hp ⊢;simp only [List.length_nil,Nat.add_zero] at hlen;rw [dF (by rw [zF] <;> simp),cF,dF (by rw [H.len,u]; omega)];simp only [cF,bS,sY];rw [u,yv,List.getElem?_eq_getElem (by rw [H.len]; omega)];simp only [bS];have j : N ∉ L.map Prod.fst := fun h => by
   have := hp.mem_iff.1 (mL _ h);simp at this
  refine ⟨_,rfl,N,_,rfl,j,?_⟩;rw [zF (by omega) (by omega)];refine t.put (c := N) (N := N + 1) (fr := []) (by omega) (fun x y => ?_) (by omega) ?_ (by simp)
  ·cases ht : x.taken
   ·rfl
   ·exact absurd (t.oth N x y ht) j
  ·rw [List.range_succ];exact (hp.cons N).trans (List.perm_append_singleton N _).symm
 ·rw [List.concat_eq_append] at i;rw [i] at hlen;simp only [lA,List.length_singleton] at hlen;have B : w64 ((a.free.length : Int) - 1) = (fr.length : Int) := by rw [i,zF] <;> simp <;> omega
  rw [B,dT (by omega),cT];have D : mIdx a.free (fr.length : Int) = some c := by rw [i,yu]
  have F : mCut a.free 0 (fr.length : Int) = some fr := by
   unfold mCut; rw [if_pos ⟨by omega,by omega,by rw [i]; simp; omega⟩,i]; simp
  rw [D,F];simp only [bS,sY];have O : 0 <= c := H.fre c (by rw [i]; simp);obtain ⟨c,rfl⟩ : ∃ d : Nat,c = (d : Int) := ⟨c.toNat,by omega⟩
  have l : (c :: (L.map Prod.fst ++ fr.map Int.toNat)).Perm (List.range N) := by
   refine List.Perm.trans ?_ hp;rw [i];simp only [List.map_append,pC,List.map_nil,tN];rw [<- aA];exact (List.perm_append_singleton c _).symm
  have J : c < N := by
   have := l.mem_iff.1 (List.mem_cons_self ..);simpa using this
  have j : c ∉ L.map Prod.fst := fun h => (List.nodup_cons.1 (l.nodup_iff.2 List.nodup_range)).1 (mL _ h)
  rw [yv,List.getElem?_eq_getElem (by rw [H.len]; omega)];simp only [bS];refine ⟨_,rfl,c,_,rfl,j,?_⟩;rw [u];refine t.put (c := c) (N := N) (fr := fr) (by omega) (fun x y => ?_) I l (fun f hf => H.fre f (by rw [i]; simp [hf]));cases ht : x.taken
  ·rfl
  ·exact absurd (t.oth c x y ht) j
theorem Ar.give {κ : Cfg} {n : Nat} {a : zb} {L : Heap} {c : Nat} {x : zr} (H : Ar κ n a ((c,x) :: L)) :
  Do (w5 a (c : Int)) fun r => ∃ (u : zb),r = (true,u) /\ Ar κ (n + 1) u L := by
 obtain ⟨m,e,t⟩ := H.tick;have hm : (c,x) ∈ (c,x) :: L := List.mem_cons_self ..;obtain ⟨N,B,D,hp⟩ := H.nev;have y := H.cap;have hlen := hp.length_eq;simp only [lA,lM,List.length_range,lC] at hlen;unfold w5;rw [e];simp only [bS];rw [oD t hm];simp only [bS,Bool.not_true,cF];rw [yv,(H.hav _ hm).1];simp only [bS];rw [yP (by simp only [List.length_singleton]; omega)];refine ⟨_,rfl,_,rfl,?_⟩;have j : c < a.l.length := by rw [H.len]; exact H.lt hm
 have hnd := H.nodup;simp only [pC,List.nodup_cons] at hnd;exact { t with
  len := by simp [mSet,H.len]
  nev := ⟨N,B,D,by
   refine List.Perm.trans ?_ hp;simp only [List.map_append,pC,List.map_nil,tN];rw [<- aA];exact List.perm_append_singleton c _⟩
  fre := by
   intro f hf;rcases List.mem_append.1 hf with hf | hf
   ·exact H.fre f hf
   ·simp at hf; omega
  hav := by
   intro p hp;have h2 := H.hav p (mC _ hp);refine ⟨?_,h2.2⟩;simp only [mSet,tN];rw [getD_set_ne (fun e => hnd.1 (by rw [e]; exact List.mem_map_of_mem (f := Prod.fst) hp))];exact h2.1
  oth := by
   intro d z i A;simp only [mSet,tN] at i;by_cases hd : c = d
   ·subst hd;rw [List.getElem?_set_self j] at i;cases i;simp at A
   ·rw [getD_set_ne hd] at i;have := H.oth d z i A;simp only [pC,iC] at this;rcases this with rfl | h
    ·exact absurd rfl hd
    ·exact h }
theorem nC {C : Nat} (h : C <= 65536) : ∃ a,qK (C : Int) = some a /\ Ar ⟨C,0,0,0⟩ 0 a [] := by
 unfold qK;have e : (if (if (65536 : Int) < (C : Int) then 65536 else (C : Int)) > 0 then (if (65536 : Int) < (C : Int) then 65536 else (C : Int)) else 0) = (C : Int) := by
  split <;> split <;> omega
 rw [e];unfold hP oX;rw [if_pos (by omega)];refine ⟨_,rfl,?_⟩;refine ⟨by simp,h,⟨0,rfl,by simp,by simp⟩,by simp,by simp,?_,by simp,by simp,by simp,by simp,rfl,rfl⟩;intro c x i ht;simp only [tN] at i;obtain ⟨h1,h2⟩ := List.getElem?_eq_some_iff.1 i;rw [List.getElem_replicate] at h2;subst h2;simp at ht
end
noncomputable section
set_option maxRecDepth 10000
structure It where
 i : Nat
 k : Int
 s : Int
def It.lt (x y : It) : Prop := x.k < y.k \/ (x.k = y.k /\ (x.s < y.s \/ (x.s = y.s /\ x.i < y.i)))
instance (x y : It) : Decidable (x.lt y) := by unfold It.lt; exact inferInstance
theorem It.lt_irrefl (x : It) : ¬ x.lt x := by unfold It.lt; omega
theorem It.le_trans {x y z : It} (h : ¬ y.lt x) (e : ¬ z.lt y) : ¬ z.lt x := by unfold It.lt at *; omega
theorem It.lt_asymm {x y : It} (h : x.lt y) : ¬ y.lt x := by unfold It.lt at *; omega
theorem It.le_of_lt {x y z : It} (h : ¬ y.lt x) (e : z.lt x) : z.lt y := by unfold It.lt at *; omega
theorem It.ia {x y z : It} (h : x.lt y) (e : ¬ z.lt y) : x.lt z := by unfold It.lt at *; omega
structure Nd where
 c : Nat
 up : Int
 down : Int
 left : Int
 right : Int
 rank : Int
 mark : Int
def Nd.cell (ν : Nd) (i : Nat) : zr := zr.mk ν.up ν.down ν.left ν.right ν.rank ν.mark (i : Int) 0 0 (-1) true
def It.cell (x : It) (n : Int) : zr := zr.mk (-1) (-1) (-1) (-1) 0 0 (-1) x.k x.s n true
def pr (it : Nat -> It) (ν : Nd) : Heap := [(ν.c,ν.cell (it ν.c).i),((it ν.c).i,(it ν.c).cell ν.c)]
def lay (it : Nat -> It) (N : List Nd) : Heap := N.flatMap (pr it)
theorem vi (it : Nat -> It) (ν : Nd) (N : List Nd) : lay it (ν :: N) = (ν.c,ν.cell (it ν.c).i) :: ((it ν.c).i,(it ν.c).cell ν.c) :: lay it N := rfl
theorem pZ (it : Nat -> It) (M N : List Nd) : lay it (M ++ N) = lay it M ++ lay it N := List.flatMap_append
theorem dy {it : Nat -> It} {M N : List Nd} (h : M.Perm N) : (lay it M).Perm (lay it N) := h.flatMap_right _
theorem r8 (it : Nat -> It) : ∀ N : List Nd,(lay it N).length = 2 * N.length
 | [] => rfl
 | ν :: N => by rw [vi]; simp only [lC,r8 it N]; omega
theorem vO {it it' : Nat -> It} : ∀ {N : List Nd},(∀ ν ∈ N,it' ν.c = it ν.c) -> lay it' N = lay it N
 | [],_ => rfl
 | ν :: N,h => by
  rw [vi,vi,h ν (List.mem_cons_self ..),vO (N := N) fun μ e => h μ (mC _ e)]
theorem lz {it : Nat -> It} {ν : Nd} : ∀ {N : List Nd},ν ∈ N -> (ν.c,ν.cell (it ν.c).i) ∈ lay it N /\ ((it ν.c).i,(it ν.c).cell ν.c) ∈ lay it N := fun {N} h =>
 ⟨List.mem_flatMap.2 ⟨ν,h,by simp [pr]⟩,List.mem_flatMap.2 ⟨ν,h,by simp [pr]⟩⟩
def Hp (κ : Cfg) (n : Nat) (a : zb) (it : Nat -> It) (N : List Nd) (L : Heap) : Prop := Ar κ n a (lay it N ++ L)
section
variable {κ : Cfg} {n : Nat} {a : zb} {it : Nat -> It} {N : List Nd} {L : Heap}
theorem Hp.p {M : List Nd} (H : Hp κ n a it N L) (h : N.Perm M) : Hp κ n a it M L := Ar.p H ((dy h).append_right _)
theorem Hp.mono {m : Nat} (H : Hp κ n a it N L) (h : n <= m) : Hp κ m a it N L := Ar.mono H h
theorem Hp.node (H : Hp κ n a it N L) {ν : Nd} (h : ν ∈ N) : (ν.c,ν.cell (it ν.c).i) ∈ lay it N ++ L := mL _ (lz h).1
theorem Hp.item (H : Hp κ n a it N L) {ν : Nd} (h : ν ∈ N) : ((it ν.c).i,(it ν.c).cell ν.c) ∈ lay it N ++ L := mL _ (lz h).2
theorem Hp.lt (H : Hp κ n a it N L) {ν : Nd} (h : ν ∈ N) : ν.c < κ.C := Ar.lt H (H.node h)
theorem Hp.itlt (H : Hp κ n a it N L) {ν : Nd} (h : ν ∈ N) : (it ν.c).i < κ.C := Ar.lt H (H.item h)
theorem Hp.live (H : Hp κ n a it N L) {ν : Nd} (h : ν ∈ N) : yk a (ν.c : Int) = some true := oD H (H.node h)
theorem Hp.room (H : Hp κ n a it N L) : 2 * N.length + L.length <= κ.C := by
 have := Ar.room H;rw [lA,r8] at this; exact this
theorem tZ (it : Nat -> It) : ∀ N : List Nd,((lay it N).map Prod.fst).Perm (N.map Nd.c ++ N.map fun ν => (it ν.c).i)
 | [] => .refl _
 | ν :: N => by
  rw [vi];simp only [pC,List.cons_append];refine List.Perm.cons _ ?_;exact ((tZ it N).cons _).trans List.perm_middle.symm
theorem Hp.nodup (H : Hp κ n a it N L) : ((N.map Nd.c ++ N.map fun ν => (it ν.c).i) ++ L.map Prod.fst).Nodup := by
 have := Ar.nodup H;rw [List.map_append] at this;exact ((tZ it N).append_right _).nodup_iff.1 this
theorem Hp.nd (H : Hp κ n a it N L) : (N.map Nd.c).Nodup := (List.nodup_append.1 (List.nodup_append.1 H.nodup).1).1
theorem Hp.ne {ν μ : Nd} (H : Hp κ n a it (ν :: μ :: N) L) : ν.c ≠ μ.c := by
 have := H.nd;simp only [pC,List.nodup_cons,iC,not_or] at this;exact this.1.1
theorem Hp.dE {ν : Nd} (H : Hp κ n a it (ν :: N) L) : ∀ μ ∈ N,μ.c ≠ ν.c := by
 have := H.nd;simp only [pC,List.nodup_cons] at this;exact fun μ i e => this.1 (e ▸ List.mem_map_of_mem (f := Nd.c) i)
theorem Hp.same (H : Hp κ n a it N L) {ν μ : Nd} (h : ν ∈ N) (i : μ ∈ N) (e : ν.c = μ.c) : ν = μ := by
 obtain ⟨l1,l2,rfl⟩ := List.append_of_mem h;have hp : (l1 ++ ν :: l2).Perm (ν :: (l1 ++ l2)) := List.perm_middle;rcases List.mem_cons.1 (hp.mem_iff.1 i) with r | r
 ·exact r.symm
 ·exact absurd e.symm ((H.p hp).dE μ r)
theorem Hp.get (H : Hp κ n a it N L) {ν : Nd} (h : ν ∈ N) {f v : Int} (hf : zr.rC (ν.cell (it ν.c).i) f = some v := by rfl) (h0 : 0 <= f := by decide) (h1 : f < 10 := by decide) :
  Do (zS a (ν.c : Int) f) fun r => ∃ e,r = (v,e) /\ Hp κ (n + 1) e it N L := Ar.get H (H.node h) hf h0 h1
theorem Hp.getc (H : Hp κ n a it N L) {ν : Nd} (h : ν ∈ N) {f v : Int} (hv : -1 <= v) (j : v < κ.C) (hf : zr.rC (ν.cell (it ν.c).i) f = some v := by rfl) (h0 : 0 <= f := by decide) (h1 : f < 10 := by decide) :
  Do (zC a (ν.c : Int) f) fun r => ∃ e,r = (v,e) /\ Hp κ (n + 1) e it N L := Ar.cell H (H.node h) hf hv j h0 h1
theorem Hp.geti (H : Hp κ n a it N L) {ν : Nd} (h : ν ∈ N) :
  Do (zC a (ν.c : Int) 6) fun r => ∃ e,r = (((it ν.c).i : Int),e) /\ Hp κ (n + 1) e it N L := H.getc h (by omega) (by have := H.itlt h; omega)
theorem Hp.getN (H : Hp κ n a it N L) {c f : Int} (h : c < 0) : Do (zS a c f) fun r => ∃ e,r = (-1,e) /\ Hp κ (n + 1) e it N L := Ar.getN H h
theorem Hp.fk (H : Hp κ n a it N L) {c f : Int} (h : c < 0) : Do (zC a c f) fun r => ∃ e,r = (-1,e) /\ Hp κ (n + 1) e it N L := Ar.fk H h
theorem Hp.set {ν : Nd} (H : Hp κ n a it (ν :: N) L) (μ : Nd) {f v : Int} (l : μ.c = ν.c := by rfl) (hf : zr.qD (ν.cell (it ν.c).i) f v = some (μ.cell (it ν.c).i) := by rfl) (h0 : 0 <= f := by decide) (h1 : f < 10 := by decide) :
  Do (zx a (ν.c : Int) f v) fun r => ∃ e,r = (true,e) /\ Hp κ (n + 1) e it (μ :: N) L := by
 unfold Hp at H;rw [vi] at H;refine (Ar.set H hf rfl h0 h1).mono ?_;rintro _ ⟨e,rfl,j⟩;refine ⟨e,rfl,?_⟩;unfold Hp;rw [vi,l];exact j
theorem Hp.setN (H : Hp κ n a it N L) {c f v : Int} (h : c < 0) : Do (zx a c f v) fun r => ∃ e,r = (false,e) /\ Hp κ (n + 1) e it N L := Ar.setN H h
theorem mz {L : Heap} (H : Ar κ n a L) {x : It} {p : Int} (h : (x.i,x.cell p) ∈ L) :
  Do (sL a (x.i : Int)) fun r => ∃ e,r = (zg.mk x.k x.s,e) /\ Ar κ (n + 2) e L := by
 unfold sL;refine (H.get h rfl).bind ?_;rintro _ ⟨a1,rfl,H⟩;refine (H.get h rfl).bind ?_;rintro _ ⟨a2,rfl,H⟩;exact ⟨_,rfl,_,rfl,H⟩
theorem aL (x : Int) : vr x = some false := by unfold vr; simp
def sgn (x y : Int) : Int := if x < y then -1 else if x > y then 1 else 0
theorem cr (x y : Int) : (sgn x y = -1 /\ x < y) \/ (sgn x y = 1 /\ y < x) \/ (sgn x y = 0 /\ x = y) := by
 unfold sgn; split
 ·exact Or.inl ⟨rfl,by assumption⟩
 ·split
  ·exact Or.inr (Or.inl ⟨rfl,by omega⟩)
  ·exact Or.inr (Or.inr ⟨rfl,by omega⟩)
theorem sZ (x y : Int) : wQ x y = some (sgn x y) := by
 unfold wQ sgn;rw [aL,aL];simp only [bS,cF];by_cases h : x < y
 ·simp [h]
 ·by_cases e : x > y
  ·simp [h,e]
  ·simp [h,e]
theorem cl {k : Nat} (hk : 3 <= k) (x y : Int) : rW k [x,y] = some (if x ≠ 0 then x else y) := by
 obtain ⟨m,rfl⟩ : ∃ m,k = m + 3 := ⟨k - 3,by omega⟩
 unfold rW;rw [vF];rw [show (([x,y] : List Int).length : Int) = 2 from rfl];rw [show decide ((0 : Int) < 2) = true from rfl,cT,show mIdx [x,y] 0 = some x from rfl];simp only [bS];by_cases h : x = 0
 ·subst h;rw [show ((0 : Int) != 0) = false from rfl,cF,show w64 (0 + 1) = 1 from rfl,vF];rw [show decide ((1 : Int) < 2) = true from rfl,cT,show mIdx [0,y] 1 = some y from rfl];simp only [bS];by_cases e : y = 0
  ·subst e;rw [show ((0 : Int) != 0) = false from rfl,cF,show w64 (1 + 1) = 2 from rfl,vF]
   rfl
  ·rw [show (y != 0) = true by simp [e],cT];simp
 ·rw [show (x != 0) = true by simp [h],cT];simp [h]
theorem l7 {k : Nat} (hk : 3 <= k) (x y : zg) : xL k x y = some (if sgn x.Key y.Key ≠ 0 then sgn x.Key y.Key else sgn x.Serial y.Serial) := by
 unfold xL;rw [sZ,sZ];simp only [bS];rw [cl hk]
 rfl
theorem l0 {k : Nat} (hk : 3 <= k) {L : Heap} (H : Ar κ n a L) {x y : It} {p q : Int} (h : (x.i,x.cell p) ∈ L) (l : (y.i,y.cell q) ∈ L) :
  Do (s7 k a (x.i : Int) (y.i : Int)) fun r => ∃ j,r = (decide (x.lt y),j) /\ Ar κ (n + 4) j L := by
 unfold s7;refine (mz H h).bind ?_;rintro _ ⟨a1,rfl,H⟩;refine (mz H l).bind ?_;rintro _ ⟨a2,rfl,H⟩;refine Do.seq (l7 hk _ _) ?_;refine ⟨_,rfl,a2,?_,H⟩;refine Prod.ext ?_ rfl;rw [Bool.eq_iff_iff];simp only [Bool.or_eq_true,Bool.and_eq_true,decide_eq_true_eq,beq_iff_eq];unfold It.lt;rcases cr x.k y.k with ⟨e,h1⟩ | ⟨e,h1⟩ | ⟨e,h1⟩ <;> rw [e]
 ·exact ⟨fun _ => Or.inl h1,fun _ => Or.inl (by rw [if_pos (by decide)]; decide)⟩
 ·rw [if_pos (by decide)];refine ⟨fun h => ?_,fun h => ?_⟩
  ·rcases h with h | h
   ·exact absurd h (by decide)
   ·exact absurd h.1 (by decide)
  ·omega
 ·rw [if_neg (by decide)];rcases cr x.s y.s with ⟨e,h2⟩ | ⟨e,h2⟩ | ⟨e,h2⟩ <;> rw [e]
  ·exact ⟨fun _ => Or.inr ⟨h1,Or.inl h2⟩,fun _ => Or.inl (by decide)⟩
  ·refine ⟨fun h => ?_,fun h => ?_⟩
   ·rcases h with h | h
    ·exact absurd h (by decide)
    ·exact absurd h.1 (by decide)
   ·omega
  ·refine ⟨fun h => ?_,fun h => ?_⟩
   ·rcases h with h | h
    ·exact absurd h (by decide)
    ·exact Or.inr ⟨h1,Or.inr ⟨h2,by omega⟩⟩
   ·refine Or.inr ⟨rfl,by omega⟩
theorem Hp.before {k : Nat} (hk : 3 <= k) (H : Hp κ n a it N L) {ν μ : Nd} (h : ν ∈ N) (i : μ ∈ N) :
  Do (vA k a (ν.c : Int) (μ.c : Int)) fun r => ∃ e,r = (decide ((it ν.c).lt (it μ.c)),e) /\ Hp κ (n + 6) e it N L := by
 unfold vA;refine (H.geti h).bind ?_;rintro _ ⟨a1,rfl,H⟩;refine (H.geti i).bind ?_;rintro _ ⟨a2,rfl,H⟩;refine (l0 hk H (H.item h) (H.item i)).bind ?_;rintro _ ⟨a3,rfl,H⟩;exact ⟨_,rfl,_,rfl,H⟩
theorem lq {L : Heap} (H : Ar κ n a L) (l : L.length < κ.C) (key serial : Int) :
  Do (oz a key serial) fun r => ∃ (i : Nat) (e : zb),r = ((i : Int),true,e) /\ i ∉ L.map Prod.fst /\ Ar κ (n + 3) e ((i,(It.mk i key serial).cell (-1)) :: L) := by
 unfold oz;refine (H.take l).bind ?_;rintro _ ⟨c,a1,rfl,j,H⟩;refine Do.tb rfl ?_;refine Do.assoc ((H.set rfl).bind ?_);rintro _ ⟨a2,rfl,H⟩;refine Do.assoc ((H.set rfl).bind ?_);rintro _ ⟨a3,rfl,H⟩;exact ⟨_,rfl,c,_,rfl,j,H⟩
def upd (it : Nat -> It) (c : Nat) (x : It) : Nat -> It := fun d => if d = c then x else it d
theorem ub (it : Nat -> It) (c : Nat) (x : It) : upd it c x c = x := by simp [upd]
theorem vq (it : Nat -> It) {c d : Nat} (x : It) (h : d ≠ c) : upd it c x d = it d := by simp [upd,h]
def swp (it : Nat -> It) (c d : Nat) : Nat -> It := upd (upd it c (it d)) d (it c)
theorem rp {x : It} (H : Hp κ n a it N ((x.i,x.cell (-1)) :: L)) (A : 2 * N.length + 1 + L.length < κ.C) :
  Do (qa a (x.i : Int)) fun r => ∃ (c : Nat) (l : zb),r = ((c : Int),true,l) /\ Hp κ (n + 3) l (upd it c x) (⟨c,-1,-1,-1,-1,0,0⟩ :: N) L /\ ∀ ν ∈ N,ν.c ≠ c := by
 unfold qa rZ;simp only [Option.bind_assoc,bS];have hl : (lay it N ++ (x.i,x.cell (-1)) :: L).length < κ.C := by simp only [lA,lC,r8]; omega
 refine (Ar.take H hl).bind ?_;rintro _ ⟨c,a1,rfl,z,H⟩;refine Do.tb rfl ?_;refine Do.assoc ((Ar.set H rfl).bind ?_);rintro _ ⟨a2,rfl,H⟩;have H1 : Ar κ (n + 2) a2 ((c,(Nd.mk c (-1) (-1) (-1) (-1) 0 0).cell x.i) :: (lay it N ++ (x.i,x.cell (-1)) :: L)) := H;have t : Ar κ (n + 2) a2 ((x.i,x.cell (-1)) :: (c,(Nd.mk c (-1) (-1) (-1) (-1) 0 0).cell x.i) :: (lay it N ++ L)) := H1.p (pm fun p => by simp only [List.count_cons,List.count_append]; omega);refine Do.assoc ((Ar.set t (y := x.cell c) rfl).bind ?_);rintro _ ⟨a3,rfl,u⟩;have hn : ∀ ν ∈ N,ν.c ≠ c := fun ν j e => z (by
  rw [List.map_append];exact mL _ (e ▸ List.mem_map_of_mem (f := Prod.fst) (lz (it := it) j).1))
 refine ⟨_,rfl,c,_,rfl,?_,hn⟩;unfold Hp;rw [vi];simp only [ub];rw [vO (it := it) (it' := upd it c x) fun ν j => vq _ _ (hn ν j)];exact u.t2
theorem rm {ν : Nd} (H : Hp κ n a it (ν :: N) L) :
  Do (rl a (ν.c : Int)) fun r => ∃ (e : zb),r = (((it ν.c).i : Int),e) /\ Hp κ (n + 3) e it N (((it ν.c).i,(it ν.c).cell (-1)) :: L) := by
 unfold rl;refine (H.geti (List.mem_cons_self ..)).bind ?_;rintro _ ⟨a1,rfl,H⟩;unfold Hp at H;rw [vi] at H;refine (Ar.set H.t2 (y := (it ν.c).cell (-1)) rfl).bind ?_;rintro _ ⟨a2,rfl,H⟩;refine (Ar.give H.t2).bind ?_;rintro _ ⟨a3,rfl,H⟩;refine ⟨_,rfl,_,rfl,?_⟩;unfold Hp;exact H.p List.perm_middle.symm
theorem qo {ν μ : Nd} (H : Hp κ n a it (ν :: μ :: N) L) :
  Do (sM a (ν.c : Int) (μ.c : Int)) fun t => Hp κ (n + 6) t (swp it ν.c μ.c) (ν :: μ :: N) L := by
 unfold sM rZ;simp only [Option.bind_assoc,bS];have j := H.ne;have l : ∀ ξ ∈ N,ξ.c ≠ ν.c /\ ξ.c ≠ μ.c := by
  intro ξ e;refine ⟨H.dE ξ (mC _ e),?_⟩;have hp : (ν :: μ :: N).Perm (μ :: ν :: N) := List.Perm.swap ..;exact (H.p hp).dE ξ (mC _ e)
 refine (H.geti (List.mem_cons_self ..)).bind ?_;rintro _ ⟨a1,rfl,H⟩;refine (H.geti (mC _ (List.mem_cons_self ..))).bind ?_;rintro _ ⟨a2,rfl,H⟩;unfold Hp at H;rw [vi,vi] at H;refine (Ar.set H (y := ν.cell (it μ.c).i) rfl).bind ?_;rintro _ ⟨a3,rfl,H⟩;refine (Ar.set (Ar.t4 H) (y := (it μ.c).cell ν.c) rfl).bind ?_;rintro _ ⟨a4,rfl,H⟩;refine (Ar.set (Ar.t4 H) (y := μ.cell (it ν.c).i) rfl).bind ?_;rintro _ ⟨a5,rfl,H⟩;refine (Ar.set (Ar.t4 H) (y := (it ν.c).cell μ.c) rfl).bind ?_;rintro _ ⟨u,rfl,H⟩;refine ⟨_,rfl,?_⟩;unfold Hp;rw [vi,vi];have x : swp it ν.c μ.c ν.c = it μ.c := by simp [swp,upd,j]
 have z : swp it ν.c μ.c μ.c = it ν.c := by simp [swp,upd]
 rw [x,z,vO (it := it) (it' := swp it ν.c μ.c) fun ξ e => by simp [swp,upd,l ξ e]];exact (show Ar κ (n + 6) u (_ :: _ :: _ :: _ :: (lay it N ++ L)) from H).p (pm fun p => by simp only [List.count_cons,List.cons_append]; omega)
theorem oU {L : Heap} {x : It} {p : Int} (H : Ar κ n a ((x.i,x.cell p) :: L)) {key : Int} (hk : key <= x.k) :
  Do (tr a (x.i : Int) key) fun r => ∃ (e : zb),r = (true,e) /\ Ar κ (n + 2) e ((x.i,(It.mk x.i key x.s).cell p) :: L) := by
 unfold tr;refine Do.assoc ((H.get (List.mem_cons_self ..) rfl).bind ?_);rintro _ ⟨a1,rfl,H⟩;refine Do.f (dF (by simp only [It.cell]; omega)) ?_;refine (Ar.set H (y := (It.mk x.i key x.s).cell p) rfl).bind ?_;rintro _ ⟨a2,rfl,H⟩;exact ⟨_,rfl,_,rfl,H⟩
end
end
noncomputable section
set_option maxRecDepth 10000
inductive F where
 | nil : F
 | cons (c r : Nat) (kids rest : F) : F
def F.hd : F -> Int
 | .nil => -1
 | .cons c _ _ _ => (c : Int)
def F.size : F -> Nat
 | .nil => 0
 | .cons _ _ kids rest => kids.size + rest.size + 1
structure Tr where
 c : Nat
 r : Nat
 kids : F
def F.trees : F -> List Tr
 | .nil => []
 | .cons c r kids rest => ⟨c,r,kids⟩ :: rest.trees
def F.of : List Tr -> F
 | [] => .nil
 | t :: e => .cons t.c t.r t.kids (F.of e)
theorem F.oG : ∀ e : List Tr,(F.of e).trees = e
 | [] => rfl
 | t :: e => by rw [F.of,F.trees,F.oG e]
def Tr.under (t l : Tr) : Tr := ⟨t.c,t.r + 1,.cons l.c l.r l.kids t.kids⟩
def nd : F -> Int -> List Nd
 | .nil,_ => []
 | .cons c r kids rest,up => ⟨c,up,kids.hd,-1,rest.hd,r,0⟩ :: (nd kids c ++ nd rest up)
def Tr.nd (t : Tr) (u w : Int) : List Nd := ⟨t.c,u,t.kids.hd,-1,w,t.r,0⟩ :: Go.Proofs.YtojpmaakhdmhmaaGreat.nd t.kids t.c
structure Lt where
 t : Tr
 u : Int
 w : Int
def Lt.nd (l : Lt) : List Nd := l.t.nd l.u l.w
def LN (ls : List Lt) : List Nd := ls.flatMap Lt.nd
theorem tx (l : Lt) (ls : List Lt) : LN (l :: ls) = l.nd ++ LN ls := rfl
theorem wP (l m : List Lt) : LN (l ++ m) = LN l ++ LN m := List.flatMap_append
theorem jh {l m : List Lt} (h : l.Perm m) : (LN l).Perm (LN m) := h.flatMap_right _
def F.loose : F -> Int -> List Lt
 | .nil,_ => []
 | .cons c r kids rest,up => ⟨⟨c,r,kids⟩,up,rest.hd⟩ :: rest.loose up
theorem wN : ∀ (f : F) (up : Int),nd f up = LN (f.loose up)
 | .nil,_ => rfl
 | .cons c r kids rest,up => by
  rw [F.loose,tx,nd,wN rest up]; rfl
theorem xq : ∀ (f : F) (up : Int),(f.loose up).map Lt.t = f.trees
 | .nil,_ => rfl
 | .cons c r kids rest,up => by rw [F.loose,pC,xq rest up,F.trees]
def F.cells : F -> List Nat
 | .nil => []
 | .cons c _ kids rest => c :: (kids.cells ++ rest.cells)
def Tr.cells (t : Tr) : List Nat := t.c :: t.kids.cells
def TC (e : List Tr) : List Nat := e.flatMap Tr.cells
theorem y4 : ∀ (f : F) (up : Int),(nd f up).map Nd.c = f.cells
 | .nil,_ => rfl
 | .cons c r kids rest,up => by rw [nd,pC,List.map_append,y4,y4,F.cells]
theorem F.yZ : ∀ f : F,f.cells = TC f.trees
 | .nil => rfl
 | .cons c r kids rest => by rw [F.cells,F.trees,F.yZ rest]; rfl
theorem F.wU : ∀ f : F,f.cells.length = f.size
 | .nil => rfl
 | .cons c r kids rest => by rw [F.cells,F.size,lC,lA,F.wU,F.wU]
theorem rK (f : F) (up : Int) : (nd f up).length = f.size := by
 rw [<- F.wU,<- y4 f up,lM]
theorem jN : ∀ ls : List Lt,(LN ls).map Nd.c = TC (ls.map Lt.t)
 | [] => rfl
 | l :: ls => by
  rw [tx,List.map_append,jN ls,pC];show (⟨l.t.c,l.u,l.t.kids.hd,-1,l.w,l.t.r,0⟩ :: nd l.t.kids l.t.c : List Nd).map Nd.c ++ _ = _;rw [pC,y4]; rfl
section
variable {κ : Cfg} {n : Nat} {a : zb} {it : Nat -> It} {N : List Nd} {L : Heap}
theorem qu (H : Hp κ n a it N L) {f : F} {up : Int} (h : ∀ ν ∈ nd f up,ν ∈ N) : -1 <= f.hd /\ f.hd < κ.C := by
 cases f with
 | nil => simp only [F.hd]; omega
 | cons c r kids rest =>
  have := H.lt (h _ (List.mem_cons_self ..));simp only [F.hd]; simp only at this; omega
def F.roots : F -> List Int
 | .nil => []
 | .cons c _ _ rest => (c : Int) :: rest.roots
theorem qB : ∀ f : F,f.roots = f.trees.map fun t => (t.c : Int)
 | .nil => rfl
 | .cons c r kids rest => by rw [F.roots,F.trees,pC,qB rest]
def F.len (f : F) : Nat := f.trees.length
theorem F.vj : ∀ f : F,f.len <= f.size
 | .nil => Nat.le_refl _
 | .cons c r kids rest => by
  have := F.vj rest;simp only [F.len,F.trees,F.size,lC] at *; omega
theorem eB : ∀ (f : F) (up : Int) {n : Nat} {a : zb} (H : Hp κ n a it N L) (hs : ∀ ν ∈ nd f up,ν ∈ N) (m : Nat) (out : List Int),f.len < m -> out.length + f.len <= κ.C ->
  Do (uL 3 m f.hd out a) fun r => ∃ i,r = (out ++ f.roots,i) /\ Hp κ (n + f.len) i it N L
 | .nil,up,n,a,H,hs,m,out,hm,l => by
  obtain ⟨m,rfl⟩ : ∃ q,m = q + 1 := ⟨m - 1,by omega⟩
  rw [uL];refine Do.assoc (Do.seq (lx (by decide)) ?_);exact ⟨_,rfl,a,by simp [F.roots],H⟩
 | .cons c r kids rest,up,n,a,H,hs,m,out,hm,l => by
  obtain ⟨m,rfl⟩ : ∃ q,m = q + 1 := ⟨m - 1,by omega⟩
  have hlen : (F.cons c r kids rest).len = rest.len + 1 := rfl;rw [hlen] at hm l ⊢;have u := hs _ (List.mem_cons_self ..);have e : ∀ ν ∈ nd rest up,ν ∈ N := fun ν h => hs ν (mC _ (List.mem_append_right _ h))
  rw [uL];refine Do.assoc (Do.seq (H.live u) (Do.tb rfl ?_));refine Do.assoc (Do.seq (Ar.cells H) ?_);have j := H.cap;refine Do.seq rfl (Do.t (dT (by omega)) ?_);refine Do.seq (yP (by simp only [List.length_singleton]; omega)) ?_;have hh := qu H e;refine (H.getc u (f := 3) hh.1 hh.2).bind ?_;rintro _ ⟨a1,rfl,H⟩;refine (eB rest up H e m (out ++ [(c : Int)]) (by omega) (by simp only [lA,List.length_singleton]; omega)).mono ?_;rintro _ ⟨a2,rfl,H⟩;exact ⟨a2,by simp [F.roots],H.mono (by omega)⟩
theorem rL : ∀ {l m : List Nat},l.Nodup -> (∀ x ∈ l,x ∈ m) -> l.length <= m.length
 | [],_,_,_ => Nat.zero_le _
 | x :: l,m,hn,hs => by
  obtain ⟨h1,h2⟩ := List.nodup_cons.1 hn;have j := hs x (List.mem_cons_self ..);have := rL (m := m.erase x) h2 fun y t => by
   have i : y ≠ x := fun e => h1 (e ▸ t)
   exact (List.mem_erase_of_ne i).2 (hs y (mC _ t))
  rw [List.length_erase_of_mem j] at this;have : 0 < m.length := List.length_pos_of_mem j;simp only [lC]; omega
end
theorem mX {κ : Cfg} {n : Nat} {a : zb} {it : Nat -> It} {N : List Nd} {L : Heap} {ν μ : Nd} (H : Hp κ n a it (ν :: μ :: N) L) (h0 : -1 <= μ.down) (h1 : μ.down < κ.C) :
  Do (ug a (ν.c : Int) (μ.c : Int)) fun i => Hp κ (n + 4) i it (⟨ν.c,μ.c,ν.down,ν.left,μ.down,ν.rank,ν.mark⟩ :: ⟨μ.c,μ.up,ν.c,μ.left,μ.right,μ.rank,μ.mark⟩ :: N) L := by
 unfold ug;refine (H.getc (mC _ (List.mem_cons_self ..)) (f := 1) h0 h1).bind ?_;rintro _ ⟨a1,rfl,H⟩;refine (H.set ⟨ν.c,ν.up,ν.down,ν.left,μ.down,ν.rank,ν.mark⟩).bind ?_;rintro _ ⟨a2,rfl,H⟩;refine (H.set (ν := ⟨ν.c,ν.up,ν.down,ν.left,μ.down,ν.rank,ν.mark⟩) ⟨ν.c,μ.c,ν.down,ν.left,μ.down,ν.rank,ν.mark⟩).bind ?_;rintro _ ⟨a3,rfl,H⟩;have e := H.p (List.Perm.swap ..);refine (e.set ⟨μ.c,μ.up,ν.c,μ.left,μ.right,μ.rank,μ.mark⟩).bind ?_;rintro _ ⟨a4,rfl,e⟩;exact ⟨_,rfl,e.p (List.Perm.swap ..)⟩
def lk (it : Nat -> It) (s t : Tr) : Tr := if (it t.c).lt (it s.c) then t.under s else s.under t
theorem npm {l l' : List Nd} (h : ∀ p : Nd -> Bool,l.countP p = l'.countP p) : l.Perm l' := by
 classical
 exact List.perm_iff_count.2 fun x => h _
theorem linked {κ : Cfg} {n : Nat} {a : zb} {it : Nat -> It} {N : List Nd} {L : Heap} {s t : Tr} {u w l w' : Int} {r : Nat} (H : Hp κ n a it (s.nd u w ++ (t.nd l w' ++ N)) L) (hs : s.r = r) (B : r < 1000) :
  Do ((ug a (t.c : Int) (s.c : Int)).bind fun e => (zx e (s.c : Int) 4 (w64 ((r : Int) + 1))).bind fun i => some ((s.c : Int),i.2)) fun res => ∃ j,res = ((s.c : Int),j) /\ Hp κ (n + 5) j it ((s.under t).nd u w ++ N) L := by
 have H1 : Hp κ n a it (⟨t.c,l,t.kids.hd,-1,w',t.r,0⟩ :: ⟨s.c,u,s.kids.hd,-1,w,s.r,0⟩ :: (nd s.kids s.c ++ (nd t.kids t.c ++ N))) L := by
  refine H.p (npm fun p => ?_);simp only [Tr.nd,List.countP_cons,List.countP_append]; omega
 have hh := qu H1 (f := s.kids) (up := s.c) fun ν h => mC _ (mC _ (mL _ h))
 refine (mX H1 hh.1 hh.2).bind ?_;intro a1 x;have y := x.p (List.Perm.swap ..);rw [zF (by omega) (by omega)];refine (y.set ⟨s.c,u,t.c,-1,w,(r : Int) + 1,0⟩ rfl rfl).bind ?_;rintro _ ⟨a2,rfl,z⟩;refine ⟨_,rfl,_,rfl,?_⟩;have : (((s.under t).r : Nat) : Int) = (r : Int) + 1 := by simp only [Tr.under,hs]; omega
 have A := z.p (M := (s.under t).nd u w ++ N) (npm fun p => by
  simp only [Tr.nd,this];simp only [Tr.under,nd,F.hd,List.countP_cons,List.countP_append]; omega)
 exact A
theorem fO {κ : Cfg} {n : Nat} {a : zb} {it : Nat -> It} {N : List Nd} {L : Heap} {k : Nat} (hk : 3 <= k) {s t : Tr} {u w e w' : Int} {r : Nat} (H : Hp κ n a it (s.nd u w ++ (t.nd e w' ++ N)) L) (hs : s.r = r) (ht : t.r = r) (l : r < 1000) :
  Do (uQ k a (s.c : Int) (t.c : Int) (r : Int)) fun res => ∃ u w j,res = (((lk it s t).c : Int),j) /\ Hp κ (n + 11) j it ((lk it s t).nd u w ++ N) L := by
 unfold uQ;have x : (⟨s.c,u,s.kids.hd,-1,w,s.r,0⟩ : Nd) ∈ s.nd u w ++ (t.nd e w' ++ N) := mL _ (List.mem_cons_self ..);have m2 : (⟨t.c,e,t.kids.hd,-1,w',t.r,0⟩ : Nd) ∈ s.nd u w ++ (t.nd e w' ++ N) := List.mem_append_right _ (mL _ (List.mem_cons_self ..));refine (H.before hk m2 x).bind ?_;rintro _ ⟨a1,rfl,H⟩;unfold lk;by_cases c : (it t.c).lt (it s.c)
 ·rw [if_pos c];refine Do.tb (dT c) ?_;have H1 : Hp κ (n + 6) a1 it (t.nd e w' ++ (s.nd u w ++ N)) L := H.p (npm fun p => by simp only [List.countP_append]; omega);refine (linked H1 ht l).mono ?_;rintro _ ⟨a2,rfl,i⟩;exact ⟨_,_,_,rfl,i⟩
 ·rw [if_neg c];refine Do.fb (dF c) ?_;refine (linked H hs l).mono ?_;rintro _ ⟨a2,rfl,i⟩;exact ⟨_,_,_,rfl,i⟩
end
noncomputable section
set_option maxRecDepth 10000
def Lt.top (l : Lt) : Nd := ⟨l.t.c,l.u,l.t.kids.hd,-1,l.w,l.t.r,0⟩
theorem lU (l : Lt) : l.nd = l.top :: nd l.t.kids l.t.c := rfl
theorem nz {ls : List Lt} {l : Lt} (h : l ∈ ls) : l.top ∈ LN ls := List.mem_flatMap.2 ⟨l,h,List.mem_cons_self ..⟩
def cs (e : List Tr) : List Int := e.map fun t => (t.c : Int)
def lc (ls : List Lt) : List Int := cs (ls.map Lt.t)
theorem wR (l m : List Lt) : lc (l ++ m) = lc l ++ lc m := by simp [lc,cs]
theorem lu (l : Lt) (m : List Lt) : lc (l :: m) = (l.t.c : Int) :: lc m := rfl
theorem w7 (l : List Lt) : (lc l).length = l.length := by simp [lc,cs]
section
variable {κ : Cfg} {it : Nat -> It} {N : List Nd} {L : Heap}
theorem eT (all : List Lt) (hl : all.length < 100000) : ∀ (rs i : List Lt) {n : Nat} {a : zb} (H : Hp κ n a it (LN rs ++ (nd (F.of (i.map Lt.t)) (-1) ++ N)) L) (m : Nat),rs.length < m -> all = rs.reverse ++ i ->
  Do (um (lc all) m (F.of (i.map Lt.t)).hd ((rs.length : Int) - 1) a) fun r => ∃ x,r = ((F.of (all.map Lt.t)).hd,x) /\ Hp κ (n + 2 * rs.length) x it (nd (F.of (all.map Lt.t)) (-1) ++ N) L
 | [],i,n,a,H,m,hm,e => by
  obtain ⟨m,rfl⟩ : ∃ q,m = q + 1 := ⟨m - 1,by omega⟩
  rw [um];refine Do.f (dF (by simp)) ?_;have D : all = i := e;subst D;exact ⟨_,rfl,a,rfl,H⟩
 | l :: rs,i,n,a,H,m,hm,e => by
  obtain ⟨m,rfl⟩ : ∃ q,m = q + 1 := ⟨m - 1,by simp at hm; omega⟩
  simp only [lC] at hm;have hlen : rs.length < 100000 := by have := congrArg List.length e; simp at this; omega
  have I : (((l :: rs).length : Nat) : Int) - 1 = (rs.length : Int) := by simp only [lC]; omega
  have j : mIdx (lc all) (rs.length : Int) = some (l.t.c : Int) := by
   rw [e,List.reverse_cons,aA,wR];have := yu (lc rs.reverse) (lc i) (l.t.c : Int);rw [w7,List.length_reverse] at this;exact this
  rw [I,um];refine Do.t (dT (by omega)) ?_;refine Do.seq j ?_;have H1 : Hp κ n a it (l.top :: (nd l.t.kids l.t.c ++ (LN rs ++ (nd (F.of (i.map Lt.t)) (-1) ++ N)))) L := by
   refine H.p (npm fun p => ?_);rw [tx,lU];simp only [List.countP_cons,List.countP_append]; omega
  refine (H1.set ⟨l.t.c,l.u,l.t.kids.hd,-1,(F.of (i.map Lt.t)).hd,l.t.r,0⟩).bind ?_;rintro _ ⟨a1,rfl,y⟩;refine Do.seq j ?_;refine (y.set (ν := ⟨l.t.c,l.u,l.t.kids.hd,-1,(F.of (i.map Lt.t)).hd,l.t.r,0⟩) ⟨l.t.c,-1,l.t.kids.hd,-1,(F.of (i.map Lt.t)).hd,l.t.r,0⟩).bind ?_;rintro _ ⟨a2,rfl,z⟩;refine Do.seq j ?_;rw [zF (by omega) (by omega)];have A : Hp κ (n + 2) a2 it (LN rs ++ (nd (F.of ((l :: i).map Lt.t)) (-1) ++ N)) L := by
   refine z.p (npm fun p => ?_);simp only [pC,F.of,nd,List.countP_cons,List.countP_append]; omega
  refine (eT all hl rs (l :: i) A m (by omega) (by rw [e]; simp)).mono ?_;rintro _ ⟨a3,rfl,B⟩;exact ⟨a3,rfl,B.mono (by simp only [lC]; omega)⟩
theorem eU {k : Nat} (ls : List Lt) (hl : ls.length < 100000) (hk : ls.length < k) {n : Nat} {a : zb} (H : Hp κ n a it (LN ls ++ N) L) :
  Do (pH k a (lc ls)) fun r => ∃ e,r = ((F.of (ls.map Lt.t)).hd,e) /\ Hp κ (n + 2 * ls.length) e it (nd (F.of (ls.map Lt.t)) (-1) ++ N) L := by
 unfold pH;rw [w7,zF (by omega) (by omega)];have H1 : Hp κ n a it (LN ls.reverse ++ (nd (F.of (([] : List Lt).map Lt.t)) (-1) ++ N)) L := H.p ((jh ls.reverse_perm.symm).append_right _);have := eT ls hl ls.reverse [] H1 k (by simpa using hk) (by simp);rw [List.length_reverse] at this;refine this.bind ?_;rintro _ ⟨a1,rfl,i⟩;exact ⟨_,rfl,a1,rfl,i⟩
def zl (l : List Nat) : List Int := l.map fun c : Nat => (c : Int)
def bst (it : Nat -> It) : Nat -> List Nat -> Nat
 | b,[] => b
 | b,c :: r => bst it (if (it c).lt (it b) then c else b) r
theorem jj : ∀ (l : List Nat) (b : Nat),bst it b l = b \/ bst it b l ∈ l
 | [],b => Or.inl rfl
 | c :: r,b => by
  rw [bst];split
  ·rcases jj r c with h | h
   ·exact Or.inr (by rw [h]; exact List.mem_cons_self ..)
   ·exact Or.inr (mC _ h)
  ·rcases jj r b with h | h
   ·exact Or.inl h
   ·exact Or.inr (mC _ h)
theorem jk : ∀ (l : List Nat) (b : Nat),(¬ (it b).lt (it (bst it b l))) /\ ∀ c ∈ l,¬ (it c).lt (it (bst it b l))
 | [],b => ⟨It.lt_irrefl _,by simp⟩
 | c :: r,b => by
  rw [bst];split
  ·rename_i h;obtain ⟨h1,h2⟩ := jk r c;refine ⟨It.le_trans h1 (It.lt_asymm h),fun d hd => ?_⟩;rcases List.mem_cons.1 hd with rfl | hd
   ·exact h1
   ·exact h2 d hd
  ·rename_i h;obtain ⟨h1,h2⟩ := jk r b;refine ⟨h1,fun d hd => ?_⟩;rcases List.mem_cons.1 hd with rfl | hd
   ·exact It.le_trans h1 h
   ·exact h2 d hd
theorem fg {k : Nat} (all : List Nat) (l : ∀ c ∈ all,∃ ν ∈ N,ν.c = c) (hl : all.length < 100000) : ∀ (post pre : List Nat) (b : Nat) {n : Nat} {a : zb} (H : Hp κ n a it N L) (m : Nat),post.length + 3 < m -> all = pre ++ post -> b ∈ all ->
  Do (wK (all.length : Int) (zl all) m (b : Int) (pre.length : Int) a) fun r => ∃ y,r = (((bst it b post : Nat) : Int),y) /\ Hp κ (n + 6 * post.length) y it N L
 | [],pre,b,n,a,H,m,hm,e,u => by
  obtain ⟨m,rfl⟩ : ∃ q,m = q + 1 := ⟨m - 1,by simp at hm; omega⟩
  rw [wK];refine Do.f (dF (by rw [e]; simp)) ?_;exact ⟨_,rfl,a,rfl,H⟩
 | c :: post,pre,b,n,a,H,m,hm,e,u => by
  obtain ⟨m,rfl⟩ : ∃ q,m = q + 1 := ⟨m - 1,by simp at hm; omega⟩
  simp only [lC] at hm;have hlen : pre.length < 100000 := by have := congrArg List.length e; simp at this; omega
  have D : mIdx (zl all) (pre.length : Int) = some (c : Int) := by
   rw [e,zl,List.map_append];have := yu (zl pre) (zl post) (c : Int)
   rwa [zl,lM] at this
  rw [wK];refine Do.t (dT (by rw [e]; simp; omega)) ?_;refine Do.assoc (Do.seq D ?_);obtain ⟨ν,I,B⟩ := l c (by rw [e]; simp);obtain ⟨μ,F,A⟩ := l b u;refine Do.assoc (Do.fb (by simp) ?_);have := H.before (k := m) (by omega) I F;rw [B,A] at this;refine Do.assoc (this.bind ?_);rintro _ ⟨a1,rfl,H1⟩;have x : (if (it c).lt (it b) then c else b) ∈ all := by
   split
   ·rw [e]; simp
   ·exact u
  have := fg (k := k) all l hl post (pre ++ [c]) (if (it c).lt (it b) then c else b) H1 m (by omega) (by rw [e]; simp) x;have z : w64 ((pre.length : Int) + 1) = ((pre ++ [c]).length : Int) := by rw [zF (by omega) (by omega)]; simp
  rw [<- z] at this;simp only [bS];rw [bst];by_cases i : (it c).lt (it b)
  ·rw [if_pos i] at this ⊢;refine Do.tb (dT i) ?_;simp only [bS];refine this.mono ?_;rintro _ ⟨a2,rfl,j⟩;exact ⟨a2,rfl,j.mono (by simp only [lC]; omega)⟩
  ·rw [if_neg i] at this ⊢;refine Do.fb (dF i) ?_;simp only [bS];refine this.mono ?_;rintro _ ⟨a2,rfl,j⟩;exact ⟨a2,rfl,j.mono (by simp only [lC]; omega)⟩
theorem jO {k : Nat} (hk : 0 < k) (a : zb) : ve k a [] = some (-1,a) := by
 obtain ⟨m,rfl⟩ : ∃ q,k = q + 1 := ⟨k - 1,by omega⟩
 unfold ve;rw [wK]; rfl
theorem fh {k : Nat} (c : Nat) (r : List Nat) (l : ∀ d ∈ c :: r,∃ ν ∈ N,ν.c = d) (hl : r.length < 90000) (hk : r.length + 4 < k) {n : Nat} {a : zb} (H : Hp κ n a it N L) :
  Do (ve k a (zl (c :: r))) fun res => ∃ i,res = (((bst it c r : Nat) : Int),i) /\ Hp κ (n + 6 * r.length) i it N L := by
 obtain ⟨m,rfl⟩ : ∃ q,k = q + 1 := ⟨k - 1,by omega⟩
 unfold ve;rw [wK];refine Do.bind (P := fun res => ∃ i,res = (((bst it c r : Nat) : Int),i) /\ Hp κ (n + 6 * r.length) i it N L) ?_ (by
  rintro _ ⟨a2,rfl,j⟩;exact ⟨_,rfl,a2,rfl,j⟩)
 refine Do.t (dT (by simp [zl])) ?_;refine Do.assoc (Do.seq (yu [] (zl r) (c : Int)) ?_);simp only [bS,beq_self_eq_true,cT];have := fg (k := 0) (c :: r) l (by simp only [lC]; omega) r [c] c H m (by omega) rfl (List.mem_cons_self ..);have e : ((zl (c :: r)).length : Int) = ((c :: r).length : Int) := by simp [zl]
 rw [e];exact this
end
def rOk (x : zk) : Prop := 0 <= x.rank /\ x.rank < 1000
theorem dd {x y : zk} (e : rOk x) (i : rOk y) : (vT x y).map (fun t => decide (t < 0)) = some (decide (x.rank < y.rank)) := by
 obtain ⟨h1,h2⟩ := e;obtain ⟨h3,h4⟩ := i;unfold vT;rw [zF (by omega) (by omega)];simp only [Option.map_some];congr 1;rw [decide_eq_decide];split <;> split <;> omega
def RS (l : List zk) : Prop := l.Pairwise fun x y => x.rank <= y.rank
theorem nq {α : Type} (p q : List α) (x y : α) : mSet (p ++ x :: q) (p.length : Int) y = p ++ y :: q := by
 unfold mSet;simp
theorem dY (D i1 : Int) : ∀ (e : List zk) (x : zk) (S : List zk) (m : Nat),e.length < m -> e.length < 1000 -> rOk x -> (∀ y ∈ e,rOk y) -> RS e.reverse ->
  Do (zP 0 D i1 m (e.length : Int) (e.reverse ++ x :: S)) fun r => ∃ q,r = q ++ S /\ RS q /\ q.Perm (x :: e)
 | [],x,S,m,hm,F,B,A,hs => by
  obtain ⟨m,rfl⟩ : ∃ q,m = q + 1 := ⟨m - 1,by omega⟩
  rw [zP];refine Do.fb (dF (by simp)) ?_;refine Do.seq rfl (Do.f rfl ?_);exact ⟨_,rfl,[x],rfl,by simp [RS],.refl _⟩
 | y :: e,x,S,m,hm,F,B,A,hs => by
  obtain ⟨m,rfl⟩ : ∃ q,m = q + 1 := ⟨m - 1,by omega⟩
  simp only [lC] at hm F;have Y := A y (List.mem_cons_self ..);have e0 : (y :: e).reverse ++ x :: S = e.reverse ++ y :: x :: S := by simp
  have I : mIdx (e.reverse ++ y :: x :: S) (((y :: e).length : Nat) : Int) = some x := by
   have := yu (e.reverse ++ [y]) S x;simpa using this
  have J : w64 ((((y :: e).length : Nat) : Int) - 1) = (e.length : Int) := by simp only [lC]; rw [zF (by omega) (by omega)]; omega
  have O : mIdx (e.reverse ++ y :: x :: S) (e.length : Int) = some y := by
   have := yu e.reverse (x :: S) y;simpa using this
  rw [e0,zP,I,J,O];refine Do.tb (dT (by simp only [lC]; omega)) ?_;simp only [bS];have j := dd B Y;cases hf : vT x y with
  | none => rw [hf] at j; cases j
  | some t =>
   rw [hf] at j;simp only [Option.map_some,Option.some.injEq] at j;simp only [bS];rw [j];have hs' : RS e.reverse := by
    simp only [RS,List.reverse_cons,List.pairwise_append] at hs;exact hs.1
   have hle : ∀ z ∈ e,z.rank <= y.rank := by
    simp only [RS,List.reverse_cons,List.pairwise_append] at hs;intro z i;exact hs.2.2 z (by simpa using i) y (by simp)
   by_cases l : x.rank < y.rank
   ·refine Do.t (dT l) ?_;have U : mSet (e.reverse ++ y :: x :: S) (((y :: e).length : Nat) : Int) y = e.reverse ++ y :: y :: S := by
     have := nq (e.reverse ++ [y]) S x y;simpa using this
    have W : mIdx (e.reverse ++ y :: y :: S) (e.length : Int) = some y := by
     have := yu e.reverse (y :: S) y;simpa using this
    have X : mSet (e.reverse ++ y :: y :: S) (e.length : Int) x = e.reverse ++ x :: y :: S := by
     have := nq e.reverse (y :: S) y x;simpa using this
    rw [U,W,X];simp only [bS];refine (dY D i1 e x (y :: S) m (by omega) (by omega) B (fun z i => A z (mC _ i)) hs').mono ?_;rintro _ ⟨q,rfl,hq,hp⟩;refine ⟨q ++ [y],by simp,?_,?_⟩
    ·simp only [RS,List.pairwise_append];refine ⟨hq,by simp,fun z i u hu => ?_⟩;simp only [List.mem_singleton] at hu;subst hu;rcases List.mem_cons.1 (hp.mem_iff.1 i) with rfl | i
     ·omega
     ·exact hle z i
    ·refine (List.perm_append_singleton y q).trans ((hp.cons y).trans (List.Perm.swap ..))
   ·refine Do.f (dF l) ?_;refine ⟨_,rfl,e.reverse ++ [y,x],by simp,?_,?_⟩
    ·simp only [RS,List.pairwise_append];refine ⟨hs',by simp; omega,fun z i u hu => ?_⟩;have := hle z (by simpa using i);simp only [iC,List.not_mem_nil,or_false] at hu;rcases hu with rfl | rfl <;> omega
    ·refine (List.perm_append_comm).trans ?_;simp only [List.cons_append,List.nil_append];exact (List.Perm.swap ..).trans (((List.reverse_perm e).cons y).cons x)
theorem dX (all : Nat) (u : all < 1000) : ∀ (d i : Nat) (A S : List zk) (m : Nat),A.length = i -> S.length = d -> all = i + d -> all + d < m -> RS A -> (∀ y ∈ A ++ S,rOk y) ->
  Do (zG 0 (all : Int) m (i : Int) (A ++ S)) fun r => RS r /\ r.Perm (A ++ S)
 | 0,i,A,S,m,hA,z,e,hm,hs,B => by
  obtain ⟨m,rfl⟩ : ∃ q,m = q + 1 := ⟨m - 1,by omega⟩
  rw [zG];refine Do.f (dF (by omega)) ?_;have := List.eq_nil_of_length_eq_zero z;subst this;exact ⟨_,rfl,by simpa using hs,.refl _⟩
 | d + 1,i,A,S,m,hA,z,e,hm,hs,B => by
  obtain ⟨m,rfl⟩ : ∃ q,m = q + 1 := ⟨m - 1,by omega⟩
  rw [zG];refine Do.t (dT (by omega)) ?_;cases S with
  | nil => simp at z
  | cons x S =>
   simp only [lC] at z;have := dY (all : Int) (i : Int) A.reverse x S m (by simp; omega) (by simp; omega) (B x (by simp)) (fun y j => B y (by simp at j; simp [j])) (by simpa using hs);rw [List.reverse_reverse,List.length_reverse,hA] at this;refine this.bind ?_;rintro _ ⟨q,rfl,hq,hp⟩;have l : q.Perm (A ++ [x]) := hp.trans ((List.reverse_perm A).cons x |>.trans (List.perm_append_singleton x A).symm);rw [zF (by omega) (by omega)];have hl : q.length = i + 1 := by rw [l.length_eq]; simp [hA]
   refine (dX all u d (i + 1) q S m hl (by omega) (by omega) (by omega) hq (fun y j => B y ?_)).mono ?_
   ·rcases List.mem_append.1 j with j | j
    ·have := l.mem_iff.1 j;simp at this ⊢;rcases this with h | h <;> simp [h]
    ·simp [j]
   ·rintro r ⟨h1,h2⟩;refine ⟨h1,h2.trans ?_⟩;have := l.append_right S;simpa using this
theorem j6 {k : Nat} (l : List zk) (hl : l.length <= 20) (hk : 100 <= k) (i : ∀ y ∈ l,rOk y) :
  Do (zK k l 0 (l.length : Int)) fun r => RS r /\ r.Perm l := by
 unfold zK;rw [show w64 (0 + 1) = ((1 : Nat) : Int) from rfl];cases l with
 | nil =>
  obtain ⟨m,rfl⟩ : ∃ q,k = q + 1 := ⟨k - 1,by omega⟩
  rw [zG];exact ⟨_,rfl,by simp [RS],.refl _⟩
 | cons x S =>
  have := dX (x :: S).length (by omega) S.length 1 [x] S k rfl rfl (by simp; omega) (by simp at *; omega) (by simp [RS]) (by simpa using i);refine this.bind ?_;rintro r ⟨h1,h2⟩;have e : uo r.length (x :: S).length = some () := by unfold uo; rw [if_pos (by simpa using h2.length_eq)]
  simp only [e,bS];exact ⟨_,rfl,h1,h2⟩
theorem eN {k : Nat} (l : List zk) (hl : l.length <= 20) (hk : 200 <= k) (j : ∀ y ∈ l,rOk y) :
  Do (yB k l) fun r => RS r /\ r.Perm l := by
 unfold yB y5;obtain ⟨m,rfl⟩ : ∃ q,k = q + 2 := ⟨k - 2,by omega⟩
 by_cases h : l.length = 20
 ·have hi := j6 (k := m + 1) l hl (by omega) j;have i : (l.length : Int) = 20 := by omega
  rw [z7,i,dT (by decide : (20 : Int) <= 20)];rw [i] at hi;simp only [cT];refine Do.assoc (Do.assoc (hi.bind ?_));rintro r ⟨h1,h2⟩;have e : uo r.length l.length = some () := by unfold uo; rw [if_pos h2.length_eq]
  rw [z7,show w64 (20 + 20) = 40 from rfl,dF (by decide : ¬ (40 : Int) <= 20)];simp only [cF,bS];have t : zK (m + 2) r 20 20 = some r := by
   unfold zK;rw [zG,show w64 (20 + 1) = 21 from rfl,dF (by decide : ¬ (21 : Int) < 20)];simp [uo]
  rw [t];simp only [bS];rw [yj,dF (by decide : ¬ (20 : Int) < 20)];simp only [cF,bS,e];exact ⟨_,rfl,h1,h2⟩
 ·rw [z7,dF (by omega : ¬ (20 : Int) <= (l.length : Int))];simp only [cF,bS];refine Do.assoc ((j6 l hl (by omega) j).bind ?_);rintro r ⟨h1,h2⟩;have e : uo r.length l.length = some () := by unfold uo; rw [if_pos h2.length_eq]
  rw [yj,dF (by omega : ¬ (20 : Int) < (l.length : Int))];simp only [cF,bS,e];exact ⟨_,rfl,h1,h2⟩
end
noncomputable section
set_option maxRecDepth 10000
theorem tD {α : Type} {l p q : List α} {y : α} (e : l = p ++ y :: q) {i : Int} (hi : i = (p.length : Int)) : mIdx l i = some y := by
 rw [e,hi]; exact yu p q y
theorem ov {α : Type} {l p q : List α} {x y : α} (e : l = p ++ x :: q) {i : Int} (hi : i = (p.length : Int)) : mSet l i y = p ++ y :: q := by
 rw [e,hi]; exact nq p q x y
theorem eO (a b n : Nat) (j : a + b + n < 100000) (B : List zg) : ∀ (U V A M : List zg) (i e : Nat),U.length = V.length -> A.length = a + i -> A.length + U.length + M.length = b + i -> n = i + U.length -> U.length < e ->
  ya (a : Int) (b : Int) (n : Int) e (i : Int) (A ++ (U ++ (M ++ (V ++ B)))) = some (A ++ (V ++ (M ++ (U ++ B))))
 | [],V,A,M,i,e,hl,hA,t,hn,hf => by
  obtain ⟨f,rfl⟩ : ∃ f,e = f + 1 := ⟨e - 1,by omega⟩
  have : V = [] := List.eq_nil_of_length_eq_zero hl.symm;subst this;simp only [List.length_nil] at hn;rw [ya,dF (by omega),cF]
 | u :: U,[],A,M,i,e,hl,hA,t,hn,hf => by simp at hl
 | u :: U,v :: V,A,M,i,e,hl,hA,t,hn,hf => by
  obtain ⟨f,rfl⟩ : ∃ f,e = f + 1 := ⟨e - 1,by omega⟩
  simp only [lC] at hl t hn hf;have F : A ++ (u :: U ++ (M ++ (v :: V ++ B))) = (A ++ (u :: U ++ M)) ++ v :: (V ++ B) := by simp
  have y : A ++ (u :: U ++ (M ++ (v :: V ++ B))) = A ++ u :: (U ++ (M ++ (v :: V ++ B))) := by simp
  have z : A ++ v :: (U ++ (M ++ (v :: V ++ B))) = (A ++ v :: (U ++ M)) ++ v :: (V ++ B) := by simp
  have J : w64 ((b : Int) + (i : Int)) = ((A ++ (u :: U ++ M)).length : Int) := by rw [zF (by omega) (by omega)]; simp; omega
  have l : w64 ((b : Int) + (i : Int)) = ((A ++ v :: (U ++ M)).length : Int) := by rw [zF (by omega) (by omega)]; simp; omega
  have D : w64 ((a : Int) + (i : Int)) = (A.length : Int) := by rw [zF (by omega) (by omega)]; omega
  rw [ya,dT (by omega),cT,tD F J];simp only [bS];rw [tD y D];simp only [bS];rw [ov y D,tD z l,ov z l];simp only [bS];rw [zF (x := (i : Int) + 1) (by omega) (by omega)];have ih := eO a b n j B U V (A ++ [v]) (M ++ [u]) (i + 1) f (by omega) (by simp; omega) (by simp; omega) (by omega) (by omega);rw [show ((i + 1 : Nat) : Int) = (i : Int) + 1 by simp] at ih;have I : (A ++ v :: (U ++ M)) ++ u :: (V ++ B) = (A ++ [v]) ++ (U ++ ((M ++ [u]) ++ (V ++ B))) := by simp
  rw [I,ih];simp
theorem ny {A U M V B : List zg} {f : Nat} (hl : U.length = V.length) (i : (A ++ (U ++ (M ++ (V ++ B)))).length < 10000) (hf : 10000 < f) {a b n : Int} (ha : a = (A.length : Int)) (j : b = (A.length : Int) + U.length + M.length) (hn : n = (U.length : Int)) :
  yf f (A ++ (U ++ (M ++ (V ++ B)))) a b n = some (A ++ (V ++ (M ++ (U ++ B)))) := by
 simp only [lA] at i;have h := eO A.length (A.length + U.length + M.length) U.length (by omega) B U V A M 0 f hl (by omega) (by omega) (by omega) (by omega);unfold yf;have e : b = ((A.length + U.length + M.length : Nat) : Int) := by omega
 rw [ha,e,hn];rw [show ((0 : Nat) : Int) = 0 from rfl] at h;rw [h];simp only [bS];unfold uo;rw [if_pos (by simp only [lA]; omega)]
 rfl
theorem eA (m2 : Nat) : ∀ (s : Nat) (A X Y B : List zg) (O : Nat),X.length + Y.length <= s -> 0 < X.length -> 0 < Y.length -> A.length + X.length = m2 -> (A ++ (X ++ (Y ++ B))).length < 10000 -> 10001 + s < O ->
  ∃ (i : Nat) (y z D J : List zg),yd (m2 : Int) O (X.length : Int) (Y.length : Int) (A ++ (X ++ (Y ++ B))) = some ((i : Int),y ++ (z ++ (D ++ J))) /\ z.length = i /\ D.length = i /\ y.length + i = m2 /\ y ++ (D ++ (z ++ J)) = A ++ (Y ++ (X ++ B))
 | 0,A,X,Y,B,O,hs,hx,hy,hm,hb,hf => by omega
 | s + 1,A,X,Y,B,O,hs,hx,hy,hm,hb,hf => by
  obtain ⟨f,rfl⟩ : ∃ f,O = f + 1 := ⟨O - 1,by omega⟩
  have F := hb;simp only [lA] at F;rw [yd];by_cases he : X.length = Y.length
  ·refine ⟨X.length,A,X,Y,B,?_,rfl,he.symm,hm,rfl⟩;rw [show ((X.length : Int) != (Y.length : Int)) = false by simp [he],cF]
  ·rw [show ((X.length : Int) != (Y.length : Int)) = true by simp; omega,cT];by_cases S : X.length > Y.length
   ·rw [dT (by omega),cT,zF (x := (m2 : Int) - (X.length : Int)) (by omega) (by omega),zF (x := (X.length : Int) - (Y.length : Int)) (by omega) (by omega)];obtain ⟨j,l,rfl,h1⟩ : ∃ j l,X = j ++ l /\ j.length = Y.length := ⟨X.take Y.length,X.drop Y.length,(List.take_append_drop _ _).symm,by simp; omega⟩
    simp only [lA] at hs hx hm F S he;have I := ny (A := A) (U := j) (M := l) (V := Y) (B := B) (f := f) h1 (by simp only [lA]; omega) (by omega) (a := (m2 : Int) - ((j ++ l).length : Int)) (b := (m2 : Int)) (n := (Y.length : Int)) (by simp only [lA]; omega) (by omega) (by omega);rw [show A ++ (j ++ l ++ (Y ++ B)) = A ++ (j ++ (l ++ (Y ++ B))) by simp,I];simp only [bS];obtain ⟨i,y,z,D,J,e,h3,h4,W,Z⟩ := eA m2 s (A ++ Y) l j B f (by omega) (by omega) (by omega) (by simp only [lA]; omega) (by simp only [lA]; omega) (by omega);refine ⟨i,y,z,D,J,?_,h3,h4,W,by rw [Z]; simp⟩;rw [show (((j ++ l).length : Int) - (Y.length : Int)) = (l.length : Int) by simp only [lA]; omega,<- h1];rw [show A ++ (Y ++ (l ++ (j ++ B))) = (A ++ Y) ++ (l ++ (j ++ B)) by simp];exact e
   ·rw [dF (by omega),cF,zF (x := (m2 : Int) - (X.length : Int)) (by omega) (by omega),zF (x := (m2 : Int) + (Y.length : Int)) (by omega) (by omega),zF (x := (m2 : Int) + (Y.length : Int) - (X.length : Int)) (by omega) (by omega),zF (x := (Y.length : Int) - (X.length : Int)) (by omega) (by omega)];obtain ⟨t,u,rfl,h1⟩ : ∃ t u,Y = t ++ u /\ u.length = X.length := ⟨Y.take (Y.length - X.length),Y.drop (Y.length - X.length),(List.take_append_drop _ _).symm,by simp; omega⟩
    simp only [lA] at hs hy F S he;have I := ny (A := A) (U := X) (M := t) (V := u) (B := B) (f := f) h1.symm (by simp only [lA]; omega) (by omega) (a := (m2 : Int) - (X.length : Int)) (b := (m2 : Int) + ((t ++ u).length : Int) - (X.length : Int)) (n := (X.length : Int)) (by omega) (by simp only [lA]; omega) rfl;rw [show A ++ (X ++ (t ++ u ++ B)) = A ++ (X ++ (t ++ (u ++ B))) by simp,I];simp only [bS];obtain ⟨i,y,z,D,J,e,h3,h4,W,Z⟩ := eA m2 s A u t (X ++ B) f (by omega) (by omega) (by omega) (by omega) (by simp only [lA]; omega) (by omega);refine ⟨i,y,z,D,J,?_,h3,h4,W,by rw [Z]; simp⟩;rw [show (((t ++ u).length : Int) - (X.length : Int)) = (t.length : Int) by simp only [lA]; omega,<- h1];exact e
theorem dL {A X Y B : List zg} {f : Nat} (J : 0 < X.length) (O : 0 < Y.length) (y : (A ++ (X ++ (Y ++ B))).length < 10000) (hf : 30000 < f) {a m b : Int} (S : a = (A.length : Int)) (em : m = (A.length : Int) + X.length) (W : b = (A.length : Int) + X.length + Y.length) :
  yx f (A ++ (X ++ (Y ++ B))) a m b = some (A ++ (Y ++ (X ++ B))) := by
 have t := y;simp only [lA] at t;obtain ⟨i,z,F,I,D,e,h3,h4,Z,u⟩ := eA (A.length + X.length) (X.length + Y.length) A X Y B f (Nat.le_refl _) J O rfl y (by omega);have l : m = ((A.length + X.length : Nat) : Int) := by omega
 have hlen := congrArg List.length u;simp only [lA] at hlen;unfold yx;rw [zF (x := m - a) (by omega) (by omega),zF (x := b - m) (by omega) (by omega),show m - a = (X.length : Int) by omega,show b - m = (Y.length : Int) by omega,l,e];simp only [bS];rw [zF (by omega) (by omega)];have j := ny (A := z) (U := F) (M := []) (V := I) (B := D) (f := f) (by omega) (by simp only [lA,List.length_nil]; omega) (by omega) (a := ((A.length + X.length : Nat) : Int) - (i : Int)) (b := ((A.length + X.length : Nat) : Int)) (n := (i : Int)) (by omega) (by simp only [List.length_nil]; omega) (by omega);rw [List.nil_append,List.nil_append] at j;rw [j];simp only [bS];rw [u];unfold uo;rw [if_pos (by simp only [lA]; omega)]
 rfl
end
noncomputable section
set_option maxRecDepth 10000
def elt (x y : zg) : Prop := x.Key < y.Key \/ (x.Key = y.Key /\ x.Serial < y.Serial)
instance (x y : zg) : Decidable (elt x y) := by unfold elt; exact inferInstance
def ES (l : List zg) : Prop := l.Pairwise fun x y => ¬ elt y x
theorem sI {x y z : zg} (h : ¬ elt y x) (e : ¬ elt z y) : ¬ elt z x := by unfold elt at *; omega
theorem qO {k : Nat} (hk : 3 <= k) (x y : zg) : ∃ t,xL k x y = some t /\ decide (t < 0) = decide (elt x y) := by
 unfold xL;rw [sZ,sZ];simp only [bS];rw [cl hk];refine ⟨_,rfl,?_⟩;rw [decide_eq_decide];unfold elt sgn;split <;> split <;> (try split) <;> (try split) <;> omega
theorem half (i j : Nat) (h : i + j < 1000000) : w64 (Int.fdiv (IntKind.wrap .u64 (w64 ((i : Int) + (j : Int)))) (2 ^ (min (Int.toNat 1) 64))) = (((i + j) / 2 : Nat) : Int) := by
 rw [zF (x := (i : Int) + (j : Int)) (by omega) (by omega)];have e : IntKind.wrap .u64 ((i : Int) + (j : Int)) = (i : Int) + (j : Int) := by
  unfold IntKind.wrap;simp only [IntKind.signed,IntKind.bits];simp;omega
 have l : ((2 : Int) ^ (min (Int.toNat 1) 64)) = 2 := by decide
 rw [e,l,Int.fdiv_eq_ediv_of_nonneg _ (by decide),zF (by omega) (by omega)];omega
theorem bs {G : Nat -> Int -> Int -> Option Int} {P : Nat -> Prop} [DecidablePred P] {lo hi : Nat}
  (e : ∀ (m i j : Nat),¬ i < j -> G (m + 1) (i : Int) (j : Int) = some (i : Int))
  (t : ∀ (m i j : Nat),3 <= m -> lo <= i -> i < j -> j <= hi -> G (m + 1) (i : Int) (j : Int) = if P ((i + j) / 2) then G m (((i + j) / 2 + 1 : Nat) : Int) (j : Int) else G m (i : Int) (((i + j) / 2 : Nat) : Int))
  (hm : ∀ c c',lo <= c -> c <= c' -> c' < hi -> P c' -> P c) :
  ∀ (d i j m : Nat),j - i <= d -> lo <= i -> i <= j -> j <= hi -> d + 4 <= m -> (∀ c,lo <= c -> c < i -> P c) -> (∀ c,j <= c -> c < hi -> ¬ P c) ->
   ∃ s : Nat,G m (i : Int) (j : Int) = some (s : Int) /\ lo <= s /\ s <= hi /\ (∀ c,lo <= c -> c < s -> P c) /\ (∀ c,s <= c -> c < hi -> ¬ P c)
 | 0,i,j,u,hd,h1,h2,h3,h4,hl,y => by
  obtain ⟨m,rfl⟩ : ∃ m,u = m + 1 := ⟨u - 1,by omega⟩
  have : i = j := by omega
  subst this;exact ⟨i,e m i i (by omega),h1,h3,hl,y⟩
 | d + 1,i,j,u,hd,h1,h2,h3,h4,hl,y => by
  obtain ⟨m,rfl⟩ : ∃ m,u = m + 1 := ⟨u - 1,by omega⟩
  by_cases h : i < j
  ·rw [t m i j (by omega) h1 h h3];by_cases hp : P ((i + j) / 2)
   ·rw [if_pos hp];exact bs e t hm d ((i + j) / 2 + 1) j m (by omega) (by omega) (by omega) h3 (by omega) (fun c x l => hm c ((i + j) / 2) x (by omega) (by omega) hp) y
   ·rw [if_neg hp];exact bs e t hm d i ((i + j) / 2) m (by omega) h1 (by omega) (by omega) (by omega) hl (fun c x l z => hp (hm ((i + j) / 2) c (by omega) x l z))
  ·exact ⟨i,e m i j h,h1,by omega,hl,fun c x l => by
    have : j <= c := by omega
    exact y c this l⟩
theorem dw {l : List zg} {i : Nat} (h : i < l.length) : mIdx l (i : Int) = some l[i] := by rw [yv]; exact List.getElem?_eq_getElem h
theorem qR {l : List zg} (hs : ES l) {i j : Nat} (hi : i <= j) (hj : j < l.length) : ¬ elt l[j] (l[i]'(by omega)) := by
 rcases Nat.lt_or_eq_of_le hi with h | h
 ·exact List.pairwise_iff_getElem.1 hs i j (by omega) hj h
 ·subst h; unfold elt; omega
end
noncomputable section
set_option maxRecDepth 10000
theorem iw {rc : List zg -> Int -> Int -> Int -> Option (List zg)} {x : zg} {R : List zg} {s : Nat} (i : s < 100000) : ∀ (Y A : List zg) (e : Nat),s = A.length + Y.length + 1 -> Y.length < e ->
  zT rc (s : Int) e (A.length : Int) (A ++ x :: (Y ++ R)) = some (A ++ (Y ++ x :: R))
 | [],A,e,hs,hf => by
  obtain ⟨f,rfl⟩ : ∃ f,e = f + 1 := ⟨e - 1,by omega⟩
  simp only [List.length_nil] at hs;rw [zT,zF (by omega) (by omega),dF (by omega),cF]
  rfl
 | y :: Y,A,e,hs,hf => by
  obtain ⟨f,rfl⟩ : ∃ f,e = f + 1 := ⟨e - 1,by omega⟩
  simp only [lC] at hs hf;have l : A ++ x :: (y :: Y ++ R) = (A ++ [x]) ++ y :: (Y ++ R) := by simp
  have j : A ++ y :: (y :: Y ++ R) = (A ++ [y]) ++ y :: (Y ++ R) := by simp
  have i1 : w64 ((A.length : Int) + 1) = ((A ++ [x]).length : Int) := by rw [zF (by omega) (by omega)]; simp
  have i2 : w64 ((A.length : Int) + 1) = ((A ++ [y]).length : Int) := by rw [zF (by omega) (by omega)]; simp
  rw [zT,zF (x := (s : Int) - 1) (by omega) (by omega),dT (by omega),cT,tD l i1];simp only [bS];rw [tD (rfl : A ++ x :: (y :: Y ++ R) = A ++ x :: (y :: Y ++ R)) rfl];simp only [bS];rw [ov (rfl : A ++ x :: (y :: Y ++ R) = A ++ x :: (y :: Y ++ R)) rfl,tD j i2,ov j i2];simp only [bS];have ih := iw (rc := rc) (x := x) (R := R) i Y (A ++ [y]) f (by simp; omega) (by omega);rw [i2,ih];simp
theorem fy {rc : List zg -> Int -> Int -> Int -> Option (List zg)} {y : zg} {A : List zg} : ∀ (n : Nat) (X R : List zg) (i : Nat),X.length = n -> A.length + X.length < 100000 -> n < i ->
  zU rc (A.length : Int) i ((A.length + X.length : Nat) : Int) (A ++ (X ++ y :: R)) = some (A ++ y :: (X ++ R))
 | 0,X,R,i,hX,l,hf => by
  obtain ⟨f,rfl⟩ : ∃ f,i = f + 1 := ⟨i - 1,by omega⟩
  have := List.eq_nil_of_length_eq_zero hX;subst this;rw [zU,dF (by simp),cF]
  rfl
 | n + 1,X,R,i,hX,l,hf => by
  obtain ⟨f,rfl⟩ : ∃ f,i = f + 1 := ⟨i - 1,by omega⟩
  rcases List.eq_nil_or_concat X with h | ⟨e,z,h⟩
  ·subst h; simp at hX
  ·rw [List.concat_eq_append] at h;subst h;simp only [lA,lC,List.length_nil] at hX l;have e0 : A ++ (e ++ [z] ++ y :: R) = (A ++ (e ++ [z])) ++ y :: R := by simp
   have t : A ++ (e ++ [z] ++ y :: R) = (A ++ e) ++ z :: y :: R := by simp
   have j : (A ++ (e ++ [z])) ++ z :: R = (A ++ e) ++ z :: z :: R := by simp
   have i0 : ((A.length + (e ++ [z]).length : Nat) : Int) = ((A ++ (e ++ [z])).length : Int) := by simp
   have i1 : w64 (((A.length + (e ++ [z]).length : Nat) : Int) - 1) = ((A ++ e).length : Int) := by rw [zF (by simp; omega) (by simp; omega)]; simp; omega
   rw [zU,dT (by simp; omega),cT,tD t i1];simp only [bS];rw [tD e0 i0];simp only [bS];rw [ov e0 i0,tD j i1,ov j i1];simp only [bS];have ih := fy (rc := rc) (y := y) (A := A) n e (z :: R) f (by omega) (by omega) (by omega);have u : (A ++ e) ++ y :: z :: R = A ++ (e ++ y :: (z :: R)) := by simp
   have i5 : w64 (((A.length + (e ++ [z]).length : Nat) : Int) - 1) = ((A.length + e.length : Nat) : Int) := by rw [i1]; simp
   rw [i5,u,ih];simp
theorem dH {rc : List zg -> Int -> Int -> Int -> Option (List zg)} {A Y B : List zg} {x : zg} {f : Nat} (u : (A ++ x :: (Y ++ B)).length < 10000) (hf : 20000 < f) (hs : ES Y) :
  ∃ s : Nat,zM rc (A.length : Int) (A ++ x :: (Y ++ B)) f ((A.length + 1 : Nat) : Int) ((A.length + 1 + Y.length : Nat) : Int) = some (s : Int) /\
   ∃ Z,zT rc (s : Int) f (A.length : Int) (A ++ x :: (Y ++ B)) = some (A ++ (Z ++ B)) /\ ES Z /\ Z.Perm (x :: Y) := by
 have z := u;simp only [lA,lC] at z;have l : ∀ h (h1 : A.length + 1 <= h) (hh : h < A.length + 1 + Y.length),(A ++ x :: (Y ++ B))[h]? = some (Y[h - (A.length + 1)]'(by omega)) := by
  intro h h1 h2;rw [List.getElem?_append_right (by omega),show h - A.length = (h - (A.length + 1)) + 1 by omega,List.getElem?_cons_succ,List.getElem?_append_left (by omega),List.getElem?_eq_getElem (by omega)]
 have I : mIdx (A ++ x :: (Y ++ B)) (A.length : Int) = some x := yu A (Y ++ B) x;obtain ⟨s,e,s1,s2,sl,sr⟩ := bs (G := zM rc (A.length : Int) (A ++ x :: (Y ++ B))) (P := fun h => elt (((A ++ x :: (Y ++ B))[h]?).getD x) x) (lo := A.length + 1) (hi := A.length + 1 + Y.length)
  (fun m i j h => by rw [zM,dF (by omega),cF])
  (fun m i j hm h1 h2 h3 => by
   have hq := l ((i + j) / 2) (by omega) (by omega);rw [zM,dT (by omega),cT,half i j (by omega),yv,hq];simp only [bS];rw [I];simp only [bS,Option.getD_some];obtain ⟨t,F,ht⟩ := qO hm (Y[(i + j) / 2 - (A.length + 1)]'(by omega)) x;rw [F];simp only [bS];rw [ht,zF (by omega) (by omega)];by_cases hp : elt (Y[(i + j) / 2 - (A.length + 1)]'(by omega)) x
   ·rw [dT hp,cT,if_pos hp]; simp
   ·rw [dF hp,cF,if_neg hp])
  (fun c c' h1 h2 h3 hp => by
   rw [l c h1 (by omega)];rw [l c' (by omega) h3] at hp;simp only [Option.getD_some] at hp ⊢;have := qR hs (i := c - (A.length + 1)) (j := c' - (A.length + 1)) (by omega) (by omega);unfold elt at *; omega)
  (Y.length + 1) (A.length + 1) (A.length + 1 + Y.length) f (by omega) (Nat.le_refl _) (by omega) (Nat.le_refl _) (by omega) (fun c h1 h2 => by omega) (fun c h1 h2 => by omega)
 refine ⟨s,e,Y.take (s - (A.length + 1)) ++ x :: Y.drop (s - (A.length + 1)),?_,?_,?_⟩
 ·have := iw (rc := rc) (x := x) (R := Y.drop (s - (A.length + 1)) ++ B) (s := s) (by omega) (Y.take (s - (A.length + 1))) A f (by simp; omega) (by simp; omega);rw [<- aA (Y.take _),List.take_append_drop] at this;rw [this]; simp
 ·have hs' := hs;rw [<- List.take_append_drop (s - (A.length + 1)) Y] at hs';obtain ⟨p1,p2,J⟩ := List.pairwise_append.1 hs';have O : ∀ y ∈ Y.take (s - (A.length + 1)),elt y x := by
   intro y D;obtain ⟨i,hi,rfl⟩ := List.mem_iff_getElem.1 D;simp only [List.length_take] at hi;have h := sl (A.length + 1 + i) (by omega) (by omega);rw [l _ (by omega) (by omega)] at h;simp only [Option.getD_some] at h;rw [List.getElem_take];have e : A.length + 1 + i - (A.length + 1) = i := by omega
   simp only [e] at h;exact h
  have qr : ∀ y ∈ Y.drop (s - (A.length + 1)),¬ elt y x := by
   intro y D;obtain ⟨i,hi,rfl⟩ := List.mem_iff_getElem.1 D;simp only [List.length_drop] at hi;have h := sr (s + i) (by omega) (by omega);rw [l _ (by omega) (by omega)] at h;simp only [Option.getD_some] at h;rw [List.getElem_drop];have e : s + i - (A.length + 1) = s - (A.length + 1) + i := by omega
   simp only [e] at h;exact h
  refine List.pairwise_append.2 ⟨p1,List.pairwise_cons.2 ⟨qr,p2⟩,?_⟩;intro a ha b u;rcases List.mem_cons.1 u with rfl | u
  ·have := O a ha; unfold elt at *; omega
  ·exact J a ha b u
 ·have := List.take_append_drop (s - (A.length + 1)) Y;exact List.perm_middle.trans ((by rw [this] : (Y.take (s - (A.length + 1)) ++ Y.drop (s - (A.length + 1))).Perm Y).cons x)
end
noncomputable section
set_option maxRecDepth 10000
theorem ea {rc : List zg -> Int -> Int -> Int -> Option (List zg)} {A X B : List zg} {y : zg} {f : Nat} (l : (A ++ (X ++ y :: B)).length < 10000) (hf : 20000 < f) (hs : ES X) :
  ∃ s : Nat,zN rc ((A.length + X.length : Nat) : Int) (A ++ (X ++ y :: B)) f (A.length : Int) ((A.length + X.length : Nat) : Int) = some (s : Int) /\
   ∃ Z,zU rc (s : Int) f ((A.length + X.length : Nat) : Int) (A ++ (X ++ y :: B)) = some (A ++ (Z ++ B)) /\ ES Z /\ Z.Perm (X ++ [y]) := by
 have u := l;simp only [lA,lC] at u;have hX : ∀ h (h1 : A.length <= h) (hh : h < A.length + X.length),(A ++ (X ++ y :: B))[h]? = some (X[h - A.length]'(by omega)) := by
  intro h h1 h2;rw [List.getElem?_append_right (by omega),List.getElem?_append_left (by omega),List.getElem?_eq_getElem (by omega)]
 have O : mIdx (A ++ (X ++ y :: B)) ((A.length + X.length : Nat) : Int) = some y := tD (p := A ++ X) (q := B) (by simp) (by simp);obtain ⟨s,e,s1,s2,sl,sr⟩ := bs (G := zN rc ((A.length + X.length : Nat) : Int) (A ++ (X ++ y :: B))) (P := fun h => ¬ elt y (((A ++ (X ++ y :: B))[h]?).getD y)) (lo := A.length) (hi := A.length + X.length)
  (fun m i j h => by rw [zN,dF (by omega),cF])
  (fun m i j hm h1 h2 h3 => by
   have hq := hX ((i + j) / 2) (by omega) (by omega);rw [zN,dT (by omega),cT,half i j (by omega),O];simp only [bS];rw [yv,hq];simp only [bS,Option.getD_some];obtain ⟨t,J,ht⟩ := qO hm y (X[(i + j) / 2 - A.length]'(by omega));rw [J];simp only [bS];rw [ht,zF (by omega) (by omega)];by_cases hp : elt y (X[(i + j) / 2 - A.length]'(by omega))
   ·rw [dT hp,Bool.not_true,cF,if_neg (fun h => h hp)]
   ·rw [dF hp,Bool.not_false,cT,if_pos hp]; simp)
  (fun c c' h1 h2 h3 hp => by
   rw [hX c h1 (by omega)];rw [hX c' (by omega) h3] at hp;simp only [Option.getD_some] at hp ⊢;have := qR hs (i := c - A.length) (j := c' - A.length) (by omega) (by omega);unfold elt at *; omega)
  (X.length + 1) A.length (A.length + X.length) f (by omega) (Nat.le_refl _) (by omega) (Nat.le_refl _) (by omega) (fun c h1 h2 => by omega) (fun c h1 h2 => by omega)
 refine ⟨s,e,X.take (s - A.length) ++ y :: X.drop (s - A.length),?_,?_,?_⟩
 ·have hd := fy (rc := rc) (y := y) (A := A ++ X.take (s - A.length)) (X.drop (s - A.length)).length (X.drop (s - A.length)) B f rfl (by simp; omega) (by simp; omega);have D : ((A ++ X.take (s - A.length)).length : Int) = (s : Int) := by simp; omega
  have F : (((A ++ X.take (s - A.length)).length + (X.drop (s - A.length)).length : Nat) : Int) = ((A.length + X.length : Nat) : Int) := by simp; omega
  have I : (A ++ X.take (s - A.length)) ++ (X.drop (s - A.length) ++ y :: B) = A ++ (X ++ y :: B) := by
   rw [aA,<- aA (X.take _),List.take_append_drop]
  rw [D,F,I] at hd;rw [hd]; simp
 ·have hs' := hs;rw [<- List.take_append_drop (s - A.length) X] at hs';obtain ⟨p1,p2,S⟩ := List.pairwise_append.1 hs';have U : ∀ x ∈ X.take (s - A.length),¬ elt y x := by
   intro x z;obtain ⟨i,hi,rfl⟩ := List.mem_iff_getElem.1 z;simp only [List.length_take] at hi;have h := sl (A.length + i) (by omega) (by omega);rw [hX _ (by omega) (by omega)] at h;simp only [Option.getD_some] at h;rw [List.getElem_take];have e : A.length + i - A.length = i := by omega
   simp only [e] at h;exact h
  have qr : ∀ x ∈ X.drop (s - A.length),¬ elt x y := by
   intro x z;obtain ⟨i,hi,rfl⟩ := List.mem_iff_getElem.1 z;simp only [List.length_drop] at hi;have h := sr (s + i) (by omega) (by omega);rw [hX _ (by omega) (by omega)] at h;simp only [Option.getD_some] at h;rw [List.getElem_drop];have e : s + i - A.length = s - A.length + i := by omega
   simp only [e] at h;unfold elt at *; omega
  refine List.pairwise_append.2 ⟨p1,List.pairwise_cons.2 ⟨qr,p2⟩,?_⟩;intro a ha b l;rcases List.mem_cons.1 l with rfl | l
  ·exact U a ha
  ·exact S a ha b l
 ·have := List.take_append_drop (s - A.length) X;refine List.perm_middle.trans (((by rw [this] : (X.take (s - A.length) ++ X.drop (s - A.length)).Perm X).cons y).trans ?_);exact (List.perm_append_singleton y X).symm
theorem iz : ∀ (d : Nat) (A X Y B : List zg) (f' : Nat),X.length + Y.length <= d -> 0 < X.length -> 0 < Y.length -> (A ++ (X ++ (Y ++ B))).length < 10000 -> 40000 + d < f' -> ES X -> ES Y ->
  ∃ Z,zt f' (A ++ (X ++ (Y ++ B))) (A.length : Int) ((A.length + X.length : Nat) : Int) ((A.length + X.length + Y.length : Nat) : Int) = some (A ++ (Z ++ B)) /\ ES Z /\ Z.Perm (X ++ Y)
 | 0,A,X,Y,B,f',hd,hx,hy,hb,hf,sx,sy => by omega
 | d + 1,A,X,Y,B,f',hd,hx,hy,hb,hf,sx,sy => by
  obtain ⟨f,rfl⟩ : ∃ f,f' = f + 1 := ⟨f' - 1,by omega⟩
  have c6 := hb;simp only [lA] at c6;have same : ∀ {Z : List zg},Z.Perm (X ++ Y) -> uo (A ++ (Z ++ B)).length (A ++ (X ++ (Y ++ B))).length = some () := by
   intro Z hz;have := hz.length_eq;simp only [lA] at this;unfold uo;rw [if_pos (by simp only [lA]; omega)]
  rw [zt];by_cases c8 : X.length = 1
  ·obtain ⟨x,rfl⟩ : ∃ x,X = [x] := List.length_eq_one_iff.1 c8;rw [zF (x := ((A.length + [x].length : Nat) : Int) - (A.length : Int)) (by simp; omega) (by simp; omega)];rw [show (((A.length + [x].length : Nat) : Int) - (A.length : Int) == 1) = true by simp; omega,cT];obtain ⟨s,e1,Z,e2,h1,h2⟩ := dH (rc := zt f) (A := A) (Y := Y) (B := B) (x := x) (f := f) (by simpa using hb) (by omega) sy;refine ⟨Z,?_,h1,h2⟩;rw [show A ++ ([x] ++ (Y ++ B)) = A ++ x :: (Y ++ B) from rfl,show (A.length + [x].length : Nat) = A.length + 1 from rfl,e1];simp only [bS];rw [e2];simp only [bS];have := same (Z := Z) h2;rw [show A ++ ([x] ++ (Y ++ B)) = A ++ x :: (Y ++ B) from rfl] at this;rw [this]
   rfl
  ·rw [zF (x := ((A.length + X.length : Nat) : Int) - (A.length : Int)) (by omega) (by omega)];rw [show (((A.length + X.length : Nat) : Int) - (A.length : Int) == 1) = false by simp; omega,cF];rw [zF (x := ((A.length + X.length + Y.length : Nat) : Int) - ((A.length + X.length : Nat) : Int)) (by omega) (by omega)];by_cases c9 : Y.length = 1
   ·obtain ⟨y,rfl⟩ : ∃ y,Y = [y] := List.length_eq_one_iff.1 c9;rw [show (((A.length + X.length + [y].length : Nat) : Int) - ((A.length + X.length : Nat) : Int) == 1) = true by simp; omega,cT];obtain ⟨s,e1,Z,e2,h1,h2⟩ := ea (rc := zt f) (A := A) (X := X) (B := B) (y := y) (f := f) (by simpa using hb) (by omega) sx;refine ⟨Z,?_,h1,h2⟩;rw [show A ++ (X ++ ([y] ++ B)) = A ++ (X ++ y :: B) from rfl,e1];simp only [bS];rw [e2];simp only [bS];have := same (Z := Z) h2;rw [show A ++ (X ++ ([y] ++ B)) = A ++ (X ++ y :: B) from rfl] at this;rw [this]
    rfl
   ·rw [show (((A.length + X.length + Y.length : Nat) : Int) - ((A.length + X.length : Nat) : Int) == 1) = false by simp; omega,cF];obtain ⟨l,a7⟩ : ∃ l : Nat,l = (A.length + (A.length + X.length + Y.length)) / 2 := ⟨_,rfl⟩
    rw [half A.length (A.length + X.length + Y.length) (by omega),<- a7];rw [zF (x := (l : Int) + ((A.length + X.length : Nat) : Int)) (by omega) (by omega)];have b4 : ∃ st r : Nat,(bif decide (((A.length + X.length : Nat) : Int) > (l : Int)) then some (w64 ((l : Int) + ((A.length + X.length : Nat) : Int) - ((A.length + X.length + Y.length : Nat) : Int)),(l : Int)) else some ((A.length : Int),((A.length + X.length : Nat) : Int))) = some ((st : Int),(r : Int)) /\
      ((A.length + X.length > l /\ st = l + (A.length + X.length) - (A.length + X.length + Y.length) /\ r = l) \/ (A.length + X.length <= l /\ st = A.length /\ r = A.length + X.length)) := by
     by_cases h : A.length + X.length > l
     ·refine ⟨l + (A.length + X.length) - (A.length + X.length + Y.length),l,?_,Or.inl ⟨h,rfl,rfl⟩⟩;rw [dT (by omega),cT,zF (by omega) (by omega)];congr 2;omega
     ·refine ⟨A.length,A.length + X.length,?_,Or.inr ⟨by omega,rfl,rfl⟩⟩;rw [dF (by omega),cF]
    obtain ⟨st,r,a8,e6⟩ := b4;rw [a8];simp only [bS];rw [zF (x := (l : Int) + ((A.length + X.length : Nat) : Int) - 1) (by omega) (by omega)];have gX : ∀ h (h1 : A.length <= h) (hh : h < A.length + X.length),(A ++ (X ++ (Y ++ B)))[h]? = some (X[h - A.length]'(by omega)) := by
     intro h h1 h2;rw [List.getElem?_append_right (by omega),List.getElem?_append_left (by omega),List.getElem?_eq_getElem (by omega)]
    have gY : ∀ h (h1 : A.length + X.length <= h) (hh : h < A.length + X.length + Y.length),(A ++ (X ++ (Y ++ B)))[h]? = some (Y[h - (A.length + X.length)]'(by omega)) := by
     intro h h1 h2;rw [List.getElem?_append_right (by omega),List.getElem?_append_right (by omega),List.getElem?_append_left (by omega),show h - A.length - X.length = h - (A.length + X.length) by omega,List.getElem?_eq_getElem (by omega)]
    have O : ∀ c,st <= c -> c < r -> A.length <= c /\ c < A.length + X.length /\ A.length + X.length <= l + (A.length + X.length) - 1 - c /\ l + (A.length + X.length) - 1 - c < A.length + X.length + Y.length := by
     intro c h1 h2;omega
    obtain ⟨s,e4,s1,s2,sl,sr⟩ := bs (G := zV (zt f) (A.length : Int) ((A.length + X.length : Nat) : Int) ((A.length + X.length + Y.length : Nat) : Int) (l : Int) ((l : Int) + ((A.length + X.length : Nat) : Int)) ((l : Int) + ((A.length + X.length : Nat) : Int) - 1) (A ++ (X ++ (Y ++ B))))
     (P := fun c => ¬ elt (((A ++ (X ++ (Y ++ B)))[l + (A.length + X.length) - 1 - c]?).getD ⟨0,0⟩) (((A ++ (X ++ (Y ++ B)))[c]?).getD ⟨0,0⟩)) (lo := st) (hi := r)
     (fun m i j h => by rw [zV,dF (by omega),cF])
     (fun m i j hm h1 h2 h3 => by
      obtain ⟨q1,q2,q3,q4⟩ := O ((i + j) / 2) (by omega) (by omega);have g1 := gX _ q1 q2;have g2 := gY _ q3 q4;rw [zV,dT (by omega),cT,half i j (by omega)];rw [zF (x := (l : Int) + ((A.length + X.length : Nat) : Int) - 1 - (((i + j) / 2 : Nat) : Int)) (by omega) (by omega)];rw [show (l : Int) + ((A.length + X.length : Nat) : Int) - 1 - (((i + j) / 2 : Nat) : Int) = ((l + (A.length + X.length) - 1 - (i + j) / 2 : Nat) : Int) by omega];rw [yv,yv,g2];simp only [bS];rw [g1];simp only [bS,Option.getD_some];obtain ⟨t,et,ht⟩ := qO hm (Y[l + (A.length + X.length) - 1 - (i + j) / 2 - (A.length + X.length)]'(by omega)) (X[(i + j) / 2 - A.length]'(by omega));rw [et];simp only [bS];rw [ht,zF (by omega) (by omega)];by_cases hp : elt (Y[l + (A.length + X.length) - 1 - (i + j) / 2 - (A.length + X.length)]'(by omega)) (X[(i + j) / 2 - A.length]'(by omega))
      ·rw [dT hp,Bool.not_true,cF,if_neg (fun h => h hp)]
      ·rw [dF hp,Bool.not_false,cT,if_pos hp]; simp)
     (fun c c' h1 h2 h3 hp => by
      obtain ⟨q1,q2,q3,q4⟩ := O c h1 (by omega);obtain ⟨u1,u2,u3,u4⟩ := O c' (by omega) h3;rw [gX _ q1 q2,gY _ q3 q4];rw [gX _ u1 u2,gY _ u3 u4] at hp;simp only [Option.getD_some] at hp ⊢;have t1 := qR sx (i := c - A.length) (j := c' - A.length) (by omega) (by omega);have t2 := qR sy (i := l + (A.length + X.length) - 1 - c' - (A.length + X.length)) (j := l + (A.length + X.length) - 1 - c - (A.length + X.length)) (by omega) (by omega);unfold elt at *; omega)
     (r - st) st r f (by omega) (Nat.le_refl _) (by omega) (Nat.le_refl _) (by omega) (fun c h1 h2 => by omega) (fun c h1 h2 => by omega)
    rw [e4];simp only [bS];rw [zF (x := (l : Int) + ((A.length + X.length : Nat) : Int) - (s : Int)) (by omega) (by omega)];obtain ⟨en,e0⟩ : ∃ en : Nat,en = l + (A.length + X.length) - s := ⟨_,rfl⟩
    rw [show (l : Int) + ((A.length + X.length : Nat) : Int) - (s : Int) = (en : Int) by omega];obtain ⟨D,u,U,lX⟩ : ∃ D u,X = D ++ u /\ D.length = s - A.length := ⟨X.take (s - A.length),X.drop (s - A.length),(List.take_append_drop _ _).symm,by simp; omega⟩
    obtain ⟨F,z,W,lY⟩ : ∃ F z,Y = F ++ z /\ F.length = en - (A.length + X.length) := ⟨Y.take (en - (A.length + X.length)),Y.drop (en - (A.length + X.length)),(List.take_append_drop _ _).symm,by simp; omega⟩
    have f0 : D.length + u.length = X.length := by rw [U]; simp
    have f3 : F.length + z.length = Y.length := by rw [W]; simp
    have b5 := sx;rw [U] at b5;obtain ⟨x1,x2,x3⟩ := List.pairwise_append.1 b5;have b6 := sy;rw [W] at b6;obtain ⟨y1,y2,y3⟩ := List.pairwise_append.1 b6;have b3 : (bif (decide ((s : Int) < ((A.length + X.length : Nat) : Int))) && (decide (((A.length + X.length : Nat) : Int) < (en : Int))) then (yx f (A ++ (X ++ (Y ++ B))) (s : Int) ((A.length + X.length : Nat) : Int) (en : Int)).bind fun d1 => some d1 else some (A ++ (X ++ (Y ++ B)))) = some (A ++ (D ++ (F ++ (u ++ (z ++ B))))) := by
     by_cases h : s < A.length + X.length /\ A.length + X.length < en
     ·rw [dT (by omega),dT (by omega),Bool.and_self,cT];have e : A ++ (X ++ (Y ++ B)) = (A ++ D) ++ (u ++ (F ++ (z ++ B))) := by rw [U,W]; simp
      have hr := dL (A := A ++ D) (X := u) (Y := F) (B := z ++ B) (f := f) (by omega) (by omega) (by simp only [lA]; omega) (by omega) (a := (s : Int)) (m := ((A.length + X.length : Nat) : Int)) (b := (en : Int)) (by simp only [lA]; omega) (by simp only [lA]; omega) (by simp only [lA]; omega);rw [e,hr];simp
     ·have hc : ((decide ((s : Int) < ((A.length + X.length : Nat) : Int))) && (decide (((A.length + X.length : Nat) : Int) < (en : Int)))) = false := by
       rw [Bool.and_eq_false_iff];by_cases h1 : s < A.length + X.length
       ·exact Or.inr (dF (by omega))
       ·exact Or.inl (dF (by omega))
      rw [hc,cF,U,W];by_cases h1 : s < A.length + X.length
      ·have : F = [] := List.eq_nil_of_length_eq_zero (by omega);rw [this]; simp
      ·have : u = [] := List.eq_nil_of_length_eq_zero (by omega);rw [this]; simp
    rw [b3];simp only [bS];have a0 : ∃ I,(bif (decide ((A.length : Int) < (s : Int))) && (decide ((s : Int) < (l : Int))) then (zt f (A ++ (D ++ (F ++ (u ++ (z ++ B))))) (A.length : Int) (s : Int) (l : Int)).bind fun d2 => some d2 else some (A ++ (D ++ (F ++ (u ++ (z ++ B)))))) = some (A ++ (I ++ (u ++ (z ++ B)))) /\ ES I /\ I.Perm (D ++ F) := by
     by_cases h : A.length < s /\ s < l
     ·obtain ⟨Z,ez,z1,z2⟩ := iz d A D F (u ++ (z ++ B)) f (by omega) (by omega) (by omega) (by simp only [lA]; omega) (by omega) x1 y1;rw [show ((A.length + D.length : Nat) : Int) = (s : Int) by omega,show ((A.length + D.length + F.length : Nat) : Int) = (l : Int) by omega] at ez;refine ⟨Z,?_,z1,z2⟩;rw [dT (by omega),dT (by omega),Bool.and_self,cT,ez]
      rfl
     ·have hc : ((decide ((A.length : Int) < (s : Int))) && (decide ((s : Int) < (l : Int)))) = false := by
       rw [Bool.and_eq_false_iff];by_cases h1 : A.length < s
       ·exact Or.inr (dF (by omega))
       ·exact Or.inl (dF (by omega))
      rw [hc,cF];refine ⟨D ++ F,by simp,?_,.refl _⟩;by_cases h1 : A.length < s
      ·have : F = [] := List.eq_nil_of_length_eq_zero (by omega);rw [this,aN]; exact x1
      ·have : D = [] := List.eq_nil_of_length_eq_zero (by omega);rw [this,List.nil_append]; exact y1
    obtain ⟨I,el,d3,a3⟩ := a0;rw [el];simp only [bS];have d0 := a3.length_eq;rw [lA] at d0;have c1 : ∀ a ∈ D,∀ b ∈ z,¬ elt b a := by
     intro a ha b J;obtain ⟨i,hi,rfl⟩ := List.mem_iff_getElem.1 ha;obtain ⟨j,hj,rfl⟩ := List.mem_iff_getElem.1 J;have c7 : st < s := by omega
     obtain ⟨q1,q2,q3,q4⟩ := O (s - 1) (by omega) (by omega);have h := sl (s - 1) (by omega) (by omega);rw [gX _ q1 q2,gY _ q3 q4] at h;simp only [Option.getD_some] at h;have t1 := qR sx (i := i) (j := s - 1 - A.length) (by omega) (by omega);have t2 := qR sy (i := l + (A.length + X.length) - 1 - (s - 1) - (A.length + X.length)) (j := F.length + j) (by omega) (by omega);have u1 : X[i]'(by omega) = D[i] := by simp only [U]; rw [List.getElem_append_left hi]
     have u2 : Y[F.length + j]'(by omega) = z[j] := by simp only [W]; rw [List.getElem_append_right (by omega)]; simp
     rw [u1] at t1;rw [u2] at t2;exact sI (sI t1 h) t2
    have c2 : ∀ a ∈ F,∀ b ∈ u,¬ elt b a := by
     intro a ha b J;obtain ⟨i,hi,rfl⟩ := List.mem_iff_getElem.1 ha;obtain ⟨j,hj,rfl⟩ := List.mem_iff_getElem.1 J;have c7 : s < r := by omega
     obtain ⟨q1,q2,q3,q4⟩ := O s (by omega) (by omega);have h := sr s (by omega) (by omega);rw [gX _ q1 q2,gY _ q3 q4] at h;simp only [Option.getD_some] at h;have t1 := qR sy (i := i) (j := l + (A.length + X.length) - 1 - s - (A.length + X.length)) (by omega) (by omega);have t2 := qR sx (i := s - A.length) (j := D.length + j) (by omega) (by omega);have u1 : Y[i]'(by omega) = F[i] := by simp only [W]; rw [List.getElem_append_left hi]
     have u2 : X[D.length + j]'(by omega) = u[j] := by simp only [U]; rw [List.getElem_append_right (by omega)]; simp
     rw [u1] at t1;rw [u2] at t2;refine sI (sI t1 ?_) t2;have := Classical.not_not.1 h;unfold elt at *; omega
    have fin : ∀ S : List zg,ES S -> S.Perm (u ++ z) -> ES (I ++ S) /\ (I ++ S).Perm (X ++ Y) := by
     intro S d4 c0;refine ⟨List.pairwise_append.2 ⟨d3,d4,?_⟩,?_⟩
     ·intro a ha b J;rcases List.mem_append.1 (a3.mem_iff.1 ha) with h1 | h1 <;> rcases List.mem_append.1 (c0.mem_iff.1 J) with h2 | h2
      ·exact x3 a h1 b h2
      ·exact c1 a h1 b h2
      ·exact c2 a h1 b h2
      ·exact y3 a h1 b h2
     ·refine (a3.append c0).trans ?_;rw [U,W];rw [aA,aA];refine List.Perm.append_left D ?_;rw [<- aA,<- aA];exact List.perm_append_comm.append_right z
    by_cases h : l < en /\ en < A.length + X.length + Y.length
    ·obtain ⟨S,ez,z1,z2⟩ := iz d (A ++ I) u z B f (by omega) (by omega) (by omega) (by simp only [lA]; omega) (by omega) x2 y2;rw [show ((A ++ I).length : Int) = (l : Int) by simp only [lA]; omega,show (((A ++ I).length + u.length : Nat) : Int) = (en : Int) by simp only [lA]; omega,show (((A ++ I).length + u.length + z.length : Nat) : Int) = ((A.length + X.length + Y.length : Nat) : Int) by simp only [lA]; omega] at ez;obtain ⟨f1,f2⟩ := fin S z1 z2;refine ⟨I ++ S,?_,f1,f2⟩;rw [dT (by omega),dT (by omega),Bool.and_self,cT];rw [show A ++ (I ++ (u ++ (z ++ B))) = (A ++ I) ++ (u ++ (z ++ B)) by simp,ez];simp only [bS];rw [show (A ++ I) ++ (S ++ B) = A ++ ((I ++ S) ++ B) by simp,same f2]
     rfl
    ·have hc : ((decide ((l : Int) < (en : Int))) && (decide ((en : Int) < ((A.length + X.length + Y.length : Nat) : Int)))) = false := by
      rw [Bool.and_eq_false_iff];by_cases h1 : l < en
      ·exact Or.inr (dF (by omega))
      ·exact Or.inl (dF (by omega))
     rw [hc,cF];have z1 : ES (u ++ z) := by
      by_cases h1 : l < en
      ·have : z = [] := List.eq_nil_of_length_eq_zero (by omega);rw [this,aN]; exact x2
      ·have : u = [] := List.eq_nil_of_length_eq_zero (by omega);rw [this,List.nil_append]; exact y2
     obtain ⟨f1,f2⟩ := fin (u ++ z) z1 (.refl _);refine ⟨I ++ (u ++ z),?_,f1,f2⟩;rw [show A ++ (I ++ (u ++ (z ++ B))) = A ++ ((I ++ (u ++ z)) ++ B) by simp,same f2]
     rfl
end
noncomputable section
set_option maxRecDepth 10000
theorem dU (A : List zg) (F i1 : Int) : ∀ (e : List zg) (x : zg) (S : List zg) (B : Nat),e.length + 4 < B -> A.length + e.length < 10000 -> ES e.reverse ->
  ∃ q,zW (A.length : Int) F i1 B ((A.length + e.length : Nat) : Int) (A ++ (e.reverse ++ x :: S)) = some (A ++ (q ++ S)) /\ ES q /\ q.Perm (x :: e)
 | [],x,S,B,hm,O,hs => by
  obtain ⟨m,rfl⟩ : ∃ q,B = q + 1 := ⟨B - 1,by omega⟩
  refine ⟨[x],?_,by simp [ES],.refl _⟩;rw [zW,dF (by simp)]
  rfl
 | y :: e,x,S,B,hm,O,hs => by
  obtain ⟨m,rfl⟩ : ∃ q,B = q + 1 := ⟨B - 1,by omega⟩
  simp only [lC] at hm O;have e0 : A ++ ((y :: e).reverse ++ x :: S) = (A ++ e.reverse) ++ y :: x :: S := by simp
  have D : (A ++ e.reverse) ++ y :: x :: S = (A ++ (e.reverse ++ [y])) ++ x :: S := by simp
  have i0 : ((A.length + (y :: e).length : Nat) : Int) = ((A ++ (e.reverse ++ [y])).length : Int) := by simp
  have l : w64 (((A.length + (y :: e).length : Nat) : Int) - 1) = ((A ++ e.reverse).length : Int) := by
   rw [zF (by simp; omega) (by simp; omega)]; simp; omega
  have hs' := hs;rw [List.reverse_cons] at hs';obtain ⟨p1,_,U⟩ := List.pairwise_append.1 hs';rw [e0,zW,dT (by simp; omega),cT,tD D i0];simp only [bS];rw [tD rfl l];simp only [bS];obtain ⟨t,Y,ht⟩ := qO (k := m) (by omega) x y;rw [Y];simp only [bS];rw [ht];by_cases i : elt x y
  ·rw [dT i,cT];have I : (A ++ (e.reverse ++ [y])) ++ y :: S = (A ++ e.reverse) ++ y :: y :: S := by simp
   rw [ov D i0,tD I l,ov I l];simp only [bS];obtain ⟨q,W,h1,h2⟩ := dU A F i1 e x (y :: S) m (by omega) (by omega) p1;have X : (A ++ e.reverse) ++ x :: y :: S = A ++ (e.reverse ++ x :: (y :: S)) := by simp
   have i4 : w64 (((A.length + (y :: e).length : Nat) : Int) - 1) = ((A.length + e.length : Nat) : Int) := by rw [l]; simp
   rw [i4,X,W];refine ⟨q ++ [y],by simp,?_,?_⟩
   ·refine List.pairwise_append.2 ⟨h1,by simp,?_⟩;intro z j u hu;rw [List.mem_singleton.1 hu];rcases List.mem_cons.1 (h2.mem_iff.1 j) with rfl | j
    ·unfold elt at *; omega
    ·exact U z (by simpa using j) y (by simp)
   ·refine (List.perm_append_singleton y q).trans ((h2.cons y).trans (List.Perm.swap ..))
  ·rw [dF i,cF];refine ⟨e.reverse ++ [y,x],by simp,?_,?_⟩
   ·refine List.pairwise_append.2 ⟨p1,?_,?_⟩
    ·simp only [List.pairwise_cons,List.mem_singleton,List.not_mem_nil,List.Pairwise.nil,and_true];exact ⟨fun z j => by rw [j]; exact i,fun z j => by cases j⟩
    ·intro z j u hu;have J := U z j y (by simp);simp only [iC,List.not_mem_nil,or_false] at hu;rcases hu with rfl | rfl
     ·exact J
     ·exact sI J i
   ·refine (List.perm_append_comm).trans ?_;simp only [List.cons_append,List.nil_append];exact (List.Perm.swap ..).trans (((List.reverse_perm e).cons y).cons x)
theorem dS (A B : List zg) : ∀ (S Q : List zg) (e b : Nat),b = A.length + Q.length + S.length -> b < 1000 -> 2000 + S.length < e -> ES Q ->
  ∃ r,zL (A.length : Int) (b : Int) e ((A.length + Q.length : Nat) : Int) (A ++ (Q ++ (S ++ B))) = some (A ++ (r ++ B)) /\ ES r /\ r.Perm (Q ++ S)
 | [],Q,e,b,j,i,hm,hq => by
  obtain ⟨m,rfl⟩ : ∃ q,e = q + 1 := ⟨e - 1,by omega⟩
  refine ⟨Q,?_,hq,by simp⟩;simp only [List.length_nil] at j;rw [zL,dF (by omega),cF]
  rfl
 | x :: S,Q,e,b,j,i,hm,hq => by
  obtain ⟨m,rfl⟩ : ∃ q,e = q + 1 := ⟨e - 1,by omega⟩
  simp only [lC] at j hm;rw [zL,dT (by omega),cT];obtain ⟨q,l,h1,h2⟩ := dU A (b : Int) ((A.length + Q.length : Nat) : Int) Q.reverse x (S ++ B) m (by simp; omega) (by simp; omega) (by rw [List.reverse_reverse]; exact hq);rw [List.reverse_reverse,List.length_reverse] at l;rw [show A ++ (Q ++ (x :: S ++ B)) = A ++ (Q ++ x :: (S ++ B)) from rfl,l];simp only [bS];have hp : q.Perm (Q ++ [x]) := h2.trans (((List.reverse_perm Q).cons x).trans (List.perm_append_singleton x Q).symm);have hl := hp.length_eq;simp only [lA,lC,List.length_nil] at hl;rw [zF (by omega) (by omega),show ((A.length + Q.length : Nat) : Int) + 1 = ((A.length + q.length : Nat) : Int) by omega];obtain ⟨r,t,h3,h4⟩ := dS A B S q m b (by omega) i (by omega) h1;refine ⟨r,t,h3,h4.trans ?_⟩;have := hp.append_right S;simpa using this
theorem jU {A X B : List zg} {k : Nat} (l : A.length + X.length < 1000) (hk : 4000 < k) {a b : Int} (j : a = (A.length : Int)) (t : b = (A.length : Int) + X.length) :
  ∃ r,yi k (A ++ (X ++ B)) a b = some (A ++ (r ++ B)) /\ ES r /\ r.Perm X := by
 have i : b = ((A.length + X.length : Nat) : Int) := by omega
 unfold yi;rw [j,i,zF (by omega) (by omega)];have same : ∀ r : List zg,r.Perm X -> uo (A ++ (r ++ B)).length (A ++ (X ++ B)).length = some () := by
  intro r h;unfold uo;rw [if_pos (by simp [h.length_eq])]
 cases X with
 | nil =>
  obtain ⟨m,rfl⟩ : ∃ q,k = q + 1 := ⟨k - 1,by omega⟩
  refine ⟨[],?_,List.Pairwise.nil,.refl _⟩;rw [zL,dF (by simp; omega),cF];simp only [bS];rw [same [] (.refl _)]
  rfl
 | cons x S =>
  simp only [lC] at l;obtain ⟨r,e,h1,h2⟩ := dS A B S [x] k (A.length + (x :: S).length) (by simp; omega) (by simp; omega) (by omega) (by simp [ES]);refine ⟨r,?_,h1,h2⟩;rw [show (A.length : Int) + 1 = ((A.length + [x].length : Nat) : Int) by simp,show A ++ (x :: S ++ B) = A ++ ([x] ++ (S ++ B)) from rfl,e];simp only [bS];have := same r h2;rw [show A ++ (x :: S ++ B) = A ++ ([x] ++ (S ++ B)) from rfl] at this;rw [this]
  rfl
end
noncomputable section
set_option maxRecDepth 10000
inductive Bl (b : Nat) : List zg -> Prop
 | last {l : List zg} (h : l.length <= b) (s : ES l) : Bl b l
 | step {X Y : List zg} (h : X.length = b) (s : ES X) (r : Bl b Y) : Bl b (X ++ Y)
theorem Bl.one {b : Nat} {l : List zg} (h : Bl b l) (hl : l.length <= b) : ES l := by
 cases h with
 | last _ s => exact s
 | step h s r =>
  rename_i X Y;have : Y = [] := List.eq_nil_of_length_eq_zero (by rw [lA] at hl; omega);subst this;rw [aN]; exact s
theorem Bl.two {b : Nat} {l : List zg} (h : Bl b l) (hl : b < l.length) : ∃ X Y,l = X ++ Y /\ X.length = b /\ ES X /\ Bl b Y /\ 0 < Y.length := by
 cases h with
 | last h s => omega
 | step h s r =>
  rename_i X Y;rw [lA] at hl;exact ⟨X,Y,rfl,h,s,r,by omega⟩
theorem Bl.three {b : Nat} (j : 0 < b) {l : List zg} (h : Bl b l) (hl : 2 * b <= l.length) : ∃ X Y Z,l = X ++ (Y ++ Z) /\ X.length = b /\ ES X /\ Y.length = b /\ ES Y /\ Bl b Z := by
 obtain ⟨X,Y,rfl,hX,e,i,hp⟩ := h.two (by omega);rw [lA] at hl;cases i with
 | last h s => exact ⟨X,Y,[],by simp,hX,e,by omega,s,.last (by simp) List.Pairwise.nil⟩
 | step h1 s r => exact ⟨X,_,_,rfl,hX,e,h1,s,r⟩
theorem Ab {n : Nat} (hn : n <= 900) (c : Nat) (P l : List zg) (i : Nat) (t : l.length <= c) (hl : P.length + l.length = n) (hf : 5000 + c < i) :
  ∃ Q R,yo (n : Int) i (P.length : Int) ((P.length + 20 : Nat) : Int) (P ++ l) = some (((P ++ Q).length : Int),P ++ (Q ++ R)) /\ R.length < 20 /\ (Q ++ R).Perm l /\ ∀ S,S.length <= 20 -> ES S -> Bl 20 (Q ++ S) := by
 obtain ⟨f,rfl⟩ : ∃ f,i = f + 1 := ⟨i - 1,by omega⟩
 rw [yo];by_cases h : 20 <= l.length
 ·obtain ⟨X,Y,rfl,hX⟩ : ∃ X Y,l = X ++ Y /\ X.length = 20 := ⟨l.take 20,l.drop 20,(List.take_append_drop _ _).symm,by simp; omega⟩
  rw [lA] at t hl h;obtain ⟨Z,j,x,z2⟩ := jU (A := P) (X := X) (B := Y) (k := f) (by omega) (by omega) (a := (P.length : Int)) (b := ((P.length + 20 : Nat) : Int)) rfl (by rw [hX]; simp);have y := z2.length_eq;obtain ⟨Q,R,e,r1,r2,u⟩ := Ab hn (c - 1) (P ++ Z) Y f (by omega) (by rw [lA]; omega) (by omega);rw [dT (by omega),cT,j];simp only [bS];have hl2 : (P ++ Z).length = P.length + 20 := by rw [lA]; omega
  rw [hl2,aA] at e;rw [zF (by omega) (by omega),show ((P.length + 20 : Nat) : Int) + 20 = ((P.length + 20 + 20 : Nat) : Int) by simp,e];refine ⟨Z ++ Q,R,by simp,r1,?_,fun S h s => ?_⟩
  ·rw [aA]; exact z2.append r2
  ·rw [aA]; exact .step (by omega) x (u S h s)
 ·rw [dF (by omega),cF];exact ⟨[],l,by simp,by omega,by simp,fun S h s => .last h s⟩
termination_by c
decreasing_by omega
theorem Ad {n b : Nat} (hn : n <= 900) (y : 0 < b) (j : b <= 1000) (c : Nat) (P l : List zg) (i : Nat) (B : l.length <= c) (hl : P.length + l.length = n) (hf : 45000 + c < i) (u : Bl b l) :
  ∃ Q R,yp (n : Int) (b : Int) i (P.length : Int) ((P.length + 2 * b : Nat) : Int) (P ++ l) = some (((P ++ Q).length : Int),P ++ (Q ++ R)) /\ R.length < 2 * b /\ (Q ++ R).Perm l /\ Bl b R /\ ∀ S,S.length <= 2 * b -> ES S -> Bl (2 * b) (Q ++ S) := by
 obtain ⟨f,rfl⟩ : ∃ f,i = f + 1 := ⟨i - 1,by omega⟩
 rw [yp];by_cases h : 2 * b <= l.length
 ·obtain ⟨X,Y,Z,rfl,hX,I,A,J,z⟩ := u.three y h;rw [lA,lA] at B hl h;obtain ⟨V,t,v1,v2⟩ := iz 3000 P X Y Z f (by omega) (by omega) (by omega) (by simp only [lA]; omega) (by omega) I J;have hV := v2.length_eq;rw [lA] at hV;obtain ⟨Q,R,e,r1,r2,D,F⟩ := Ad hn y j (c - 1) (P ++ V) Z f (by omega) (by rw [lA]; omega) (by omega) z;have hl2 : (P ++ V).length = P.length + 2 * b := by rw [lA]; omega
  rw [hl2,aA] at e;rw [hX,A,show P.length + b + b = P.length + 2 * b by omega] at t;rw [dT (by omega),cT,zF (x := (P.length : Int) + b) (by omega) (by omega),show (P.length : Int) + b = ((P.length + b : Nat) : Int) by simp,t];simp only [bS];rw [zF (x := 2 * (b : Int)) (by omega) (by omega),zF (by omega) (by omega),show ((P.length + 2 * b : Nat) : Int) + 2 * (b : Int) = ((P.length + 2 * b + 2 * b : Nat) : Int) by simp,e];refine ⟨V ++ Q,R,by simp,r1,?_,D,fun S h s => ?_⟩
  ·rw [aA,<- aA X Y Z]; exact v2.append r2
  ·rw [aA]; exact .step (by omega) v1 (F S h s)
 ·rw [dF (by omega),cF];exact ⟨[],l,by simp,by omega,by simp,u,fun S h s => .last h s⟩
termination_by c
decreasing_by omega
theorem Ac {n : Nat} (hn : n <= 900) (c b : Nat) (l : List zg) (i : Nat) (S : n <= b + c) (D : 0 < b) (hf : 50000 + c < i) (hl : l.length = n) (t : Bl b l) :
  ∃ r,ye (n : Int) i (b : Int) l = some r /\ ES r /\ r.Perm l := by
 obtain ⟨f,rfl⟩ : ∃ f,i = f + 1 := ⟨i - 1,by omega⟩
 rw [ye];by_cases h : b < n
 ·obtain ⟨Q,R,e,r1,r2,u,F⟩ := Ad hn D (by omega) 1000 [] l f (by omega) (by simpa using hl) (by omega) t;simp only [List.nil_append,List.length_nil,Nat.zero_add] at e;have hp := r2.length_eq;rw [lA] at hp;have go : ∀ V,ES V -> V.Perm R -> ∃ r,ye (n : Int) f (w64 ((b : Int) * 2)) (Q ++ V) = some r /\ ES r /\ r.Perm l := by
   intro V v1 v2;have hV := v2.length_eq;obtain ⟨r,z,A,B⟩ := Ac hn (c - 1) (2 * b) (Q ++ V) f (by omega) (by omega) (by omega) (by rw [lA]; omega) (F V (by omega) v1);rw [zF (by omega) (by omega),show (b : Int) * 2 = ((2 * b : Nat) : Int) by omega];exact ⟨r,z,A,B.trans (((List.Perm.refl Q).append v2).trans r2)⟩
  rw [dT (by omega),cT,zF (x := 2 * (b : Int)) (by omega) (by omega),show 2 * (b : Int) = ((2 * b : Nat) : Int) by simp];rw [show ((0 : Nat) : Int) = 0 from rfl] at e;rw [e];simp only [bS];rw [zF (x := (Q.length : Int) + b) (by omega) (by omega)];by_cases h2 : b < R.length
  ·obtain ⟨X,Y,rfl,hX,I,y,O⟩ := u.two h2;rw [lA] at r1 hp;have J := y.one (by omega);obtain ⟨V,j,v1,v2⟩ := iz 3000 Q X Y [] f (by omega) (by omega) (by omega) (by simp only [lA,List.length_nil]; omega) (by omega) I J;simp only [aN] at j;rw [hX] at j;rw [dT (by omega),cT,show (Q.length : Int) + b = ((Q.length + b : Nat) : Int) by simp,show (n : Int) = ((Q.length + b + Y.length : Nat) : Int) by omega,j];simp only [bS];rw [show ((Q.length + b + Y.length : Nat) : Int) = (n : Int) by omega];exact go V v1 v2
  ·rw [dF (by omega),cF];simp only [bS];exact go R (u.one (by omega)) (.refl _)
 ·rw [dF (by omega),cF];exact ⟨l,rfl,t.one (by omega),.refl _⟩
termination_by c
decreasing_by omega
theorem dN {k : Nat} (hk : 60000 < k) (l : List zg) (hl : l.length <= 900) : ∃ r,yR k l (l.length : Int) = some r /\ ES r /\ r.Perm l := by
 unfold yR;obtain ⟨Q,R,e,r1,r2,t⟩ := Ab (n := l.length) hl 1000 [] l k (by omega) (by simp) (by omega);simp only [List.nil_append,List.length_nil,Nat.zero_add] at e;rw [show ((0 : Nat) : Int) = 0 from rfl,show ((20 : Nat) : Int) = 20 from rfl] at e;have hp := r2.length_eq;rw [lA] at hp;obtain ⟨S,i,s1,s2⟩ := jU (A := Q) (X := R) (B := []) (k := k) (by omega) (by omega) (a := (Q.length : Int)) (b := (l.length : Int)) rfl (by omega);simp only [aN] at i;have u := s2.length_eq;obtain ⟨r,j,q1,q2⟩ := Ac (n := l.length) hl 1000 20 (Q ++ S) k (by omega) (by omega) (by omega) (by rw [lA]; omega) (t S (by omega) s1);rw [show ((20 : Nat) : Int) = 20 from rfl] at j;have hq : r.Perm l := q2.trans (((List.Perm.refl Q).append s2).trans r2);rw [e];simp only [bS];rw [i];simp only [bS];rw [j];simp only [bS];unfold uo;rw [if_pos hq.length_eq];exact ⟨r,rfl,q1,hq⟩
theorem kF {k : Nat} (hk : 60000 < k) (l : List zg) (hl : l.length <= 900) : ∃ r,qc k l = some r /\ ES r /\ r.Perm l := by
 obtain ⟨r,e,h1,h2⟩ := dN hk l hl;refine ⟨r,?_,h1,h2⟩;unfold qc mO;rw [if_pos (by omega)];simp only [bS];unfold xl;rw [e];simp only [bS];unfold uo;rw [if_pos h2.length_eq]
 rfl
theorem fC : ∀ {a b : List zg},ES a -> ES b -> a.Perm b -> a = b
 | [],b,_,_,h => (h.nil_eq)
 | x :: a,[],_,_,h => by simpa using h.length_eq
 | x :: a,y :: b,ha,t,h => by
  have i : x = y := by
   have h1 : x ∈ y :: b := h.mem_iff.1 (List.mem_cons_self ..);have h2 : y ∈ x :: a := h.mem_iff.2 (List.mem_cons_self ..);rcases List.mem_cons.1 h1 with e | h1
   ·exact e
   ·rcases List.mem_cons.1 h2 with e | h2
    ·exact e.symm
    ·have j := (List.pairwise_cons.1 t).1 x h1;have l := (List.pairwise_cons.1 ha).1 y h2;unfold elt at j l;cases x; cases y; simp only at j l; congr 1 <;> omega
  subst i;rw [fC (List.pairwise_cons.1 ha).2 (List.pairwise_cons.1 t).2 (h.cons_inv)]
end
noncomputable section
set_option maxRecDepth 10000
namespace Le
inductive B where
 | nil : B
 | node (c : Nat) (rk : Int) (l r : B)
def B.hd : B -> Int
 | .nil => -1
 | .node c _ _ _ => (c : Int)
def B.cells : B -> List Nat
 | .nil => []
 | .node c _ l r => c :: (l.cells ++ r.cells)
def bn : B -> Int -> List Nd
 | .nil,_ => []
 | .node c rk l r,u => ⟨c,u,-1,l.hd,r.hd,rk,0⟩ :: (bn l c ++ bn r c)
theorem wX : ∀ (t : B) (u : Int),(bn t u).map Nd.c = t.cells
 | .nil,_ => rfl
 | .node c rk l r,u => by rw [bn,pC,List.map_append,wX l,wX r]; rfl
theorem ml (t : B) (u : Int) : (bn t u).length = t.cells.length := by rw [<- wX t u,lM]
def Or (it : Nat -> It) : B -> Prop
 | .nil => True
 | .node c _ l r => (∀ d ∈ l.cells ++ r.cells,¬ (it d).lt (it c)) /\ Or it l /\ Or it r
theorem Or.least {it : Nat -> It} {c : Nat} {rk : Int} {l r : B} (h : Or it (.node c rk l r)) : ∀ d ∈ (B.node c rk l r).cells,¬ (it d).lt (it c) := by
 intro d hd;rcases List.mem_cons.1 hd with rfl | hd
 ·exact It.lt_irrefl _
 ·exact h.1 d hd
theorem Or.congr {it it' : Nat -> It} : ∀ {t : B},Or it t -> (∀ d ∈ t.cells,it' d = it d) -> Or it' t
 | .nil,_,_ => trivial
 | .node c rk l r,h,e => by
  refine ⟨fun d hd => ?_,h.2.1.congr fun d hd => e d (mC _ (mL _ hd)),h.2.2.congr fun d hd => e d (mC _ (List.mem_append_right _ hd))⟩;rw [e d (mC _ hd),e c (List.mem_cons_self ..)];exact h.1 d hd
theorem cpm {l l' : List Nat} (h : ∀ p : Nat -> Bool,l.countP p = l'.countP p) : l.Perm l' := List.perm_iff_count.2 fun x => h _
section
variable {κ : Cfg} {n : Nat} {a : zb} {it : Nat -> It} {N : List Nd} {L : Heap}
theorem qu (H : Hp κ n a it N L) {t : B} {u : Int} (h : ∀ ν ∈ bn t u,ν ∈ N) : -1 <= t.hd /\ t.hd < κ.C := by
 cases t with
 | nil => simp only [B.hd]; omega
 | node c rk l r =>
  have := H.lt (h _ (List.mem_cons_self ..));simp only [B.hd]; simp only at this; omega
theorem ku (H : Hp κ n a it N L) {t : B} {u : Int} (h : ∀ ν ∈ bn t u,ν ∈ N) : Do (u5 a t.hd) fun r => ∃ v e,r = (v,e) /\ Hp κ (n + 1) e it N L := by
 unfold u5;cases t with
 | nil => exact Do.t rfl ⟨_,rfl,_,_,rfl,H.mono (by omega)⟩
 | node c rk l r =>
  refine Do.f (by simp only [B.hd]; simp) ?_;refine (H.get (h _ (List.mem_cons_self ..)) (f := 4)).bind ?_;rintro _ ⟨a1,rfl,H1⟩;exact ⟨_,rfl,_,_,rfl,H1⟩
def Fx (c : Nat) (l r T : B) : Prop := ∃ rk,T = .node c rk l r \/ T = .node c rk r l
theorem Fx.cells {c : Nat} {l r T : B} (h : Fx c l r T) : T.cells.Perm (c :: (l.cells ++ r.cells)) := by
 obtain ⟨rk,rfl | rfl⟩ := h
 ·exact .refl _
 ·exact List.Perm.cons _ List.perm_append_comm
theorem Fx.hd {c : Nat} {l r T : B} (h : Fx c l r T) : T.hd = (c : Int) := by
 obtain ⟨rk,rfl | rfl⟩ := h <;> rfl
theorem Fx.or {c : Nat} {rk : Int} {l r T : B} (h : Fx c l r T) (e : Or it (.node c rk l r)) : Or it T := by
 obtain ⟨i,rfl | rfl⟩ := h
 ·exact ⟨e.1,e.2⟩
 ·exact ⟨fun d hd => e.1 d ((List.perm_append_comm.mem_iff).1 hd),e.2.2,e.2.1⟩
theorem j0 {c : Nat} {u rk v b : Int} {x y : B} (H : Hp κ n a it (bn (.node c rk x y) u ++ N) L) :
  Do ((zS a (c : Int) 4).bind fun e => (zx e.2 (c : Int) 4 v).bind fun i => some (e.1 != v,i.2)) fun res => ∃ b j T,res = (b,j) /\ Fx c x y T /\ Hp κ (n + 2) j it (bn T u ++ N) L := by
 refine (Hp.get H (List.mem_cons_self ..) (f := 4)).bind ?_;rintro _ ⟨a1,rfl,H1⟩;refine (Hp.set H1 ⟨c,u,-1,x.hd,y.hd,v,0⟩).bind ?_;rintro _ ⟨a2,rfl,l⟩;exact ⟨_,rfl,_,a2,.node c v x y,rfl,⟨v,Or.inl rfl⟩,l⟩
theorem jZ {c : Nat} {u rk : Int} {l r : B} (H : Hp κ n a it (bn (.node c rk l r) u ++ N) L) :
  Do (tF a (c : Int)) fun res => ∃ b y T,res = (b,y) /\ Fx c l r T /\ Hp κ (n + 8) y it (bn T u ++ N) L := by
 unfold tF;have D : ∀ ν ∈ bn l c,ν ∈ bn (.node c rk l r) u ++ N := fun ν h => mL _ (mC _ (mL _ h))
 have F : ∀ ν ∈ bn r c,ν ∈ bn (.node c rk l r) u ++ N := fun ν h => mL _ (mC _ (List.mem_append_right _ h))
 have hl := qu H D;have A := qu H F;refine (H.getc (List.mem_cons_self ..) (f := 2) hl.1 hl.2).bind ?_;rintro _ ⟨a1,rfl,H1⟩;refine (H1.getc (List.mem_cons_self ..) (f := 3) A.1 A.2).bind ?_;rintro _ ⟨a2,rfl,I⟩;refine (ku I D).bind ?_;rintro _ ⟨v1,a3,rfl,J⟩;refine (ku J F).bind ?_;rintro _ ⟨v2,a4,rfl,x⟩;by_cases hv : v1 < v2
 ·refine Do.tb (dT hv) ?_;refine Do.assoc ((Hp.set x ⟨c,u,-1,r.hd,r.hd,rk,0⟩).bind ?_);rintro _ ⟨a5,rfl,O⟩;refine Do.assoc ((Hp.set (ν := ⟨c,u,-1,r.hd,r.hd,rk,0⟩) O ⟨c,u,-1,r.hd,l.hd,rk,0⟩).bind ?_);rintro _ ⟨z,rfl,S⟩;refine Do.seq rfl ?_;have e : Hp κ (n + 6) z it (⟨c,u,-1,r.hd,l.hd,rk,0⟩ :: (bn l c ++ bn r c ++ N)) L := S;have U : Hp κ (n + 6) z it (bn (.node c rk r l) u ++ N) L := Hp.p e (npm fun p => by
   simp only [bn,List.countP_cons,List.countP_append,List.cons_append]; omega)
  refine (j0 (v := _) (b := 0) U).mono ?_;rintro _ ⟨b,j,T,rfl,⟨t,h⟩,i⟩;exact ⟨b,j,T,rfl,⟨t,h.symm⟩,i⟩
 ·refine Do.fb (dF hv) ?_;refine Do.seq rfl ?_;refine (j0 (v := _) (b := 0) x).mono ?_;rintro _ ⟨b,j,T,rfl,h,i⟩;exact ⟨b,j,T,rfl,h,i.mono (by omega)⟩
structure PE where
 c : Nat
 rk : Int
 l : B
 u : Int
 w : Int
def PE.nd (p : PE) : List Nd := ⟨p.c,p.u,-1,p.l.hd,p.w,p.rk,0⟩ :: bn p.l p.c
def PN (ps : List PE) : List Nd := ps.flatMap PE.nd
theorem gT (p : PE) (ps : List PE) : PN (p :: ps) = p.nd ++ PN ps := rfl
theorem bq (p : PE) (ps : List PE) : PN (ps ++ [p]) = PN ps ++ p.nd := by simp [PN]
def pc (ps : List PE) : List Int := ps.map fun p => (p.c : Int)
def reb : List PE -> B -> B
 | [],T => T
 | p :: ps,T => .node p.c p.rk p.l (reb ps T)
theorem lK (p : PE) (T : B) : ∀ ps : List PE,reb (ps ++ [p]) T = reb ps (.node p.c p.rk p.l T)
 | [] => rfl
 | q :: ps => by rw [List.cons_append,reb,lK p T ps,reb]
theorem cp {it : Nat -> It} {T T' : B} : ∀ {ps : List PE},Or it (reb ps T) -> T'.cells.Perm T.cells -> (Or it T -> Or it T') -> (reb ps T').cells.Perm (reb ps T).cells /\ Or it (reb ps T')
 | [],h,hp,e => ⟨hp,e h⟩
 | p :: ps,h,hp,e => by
  obtain ⟨h1,h2⟩ := cp (ps := ps) h.2.2 hp e;refine ⟨List.Perm.cons _ (h1.append_left _),fun d hd => h.1 d ?_,h.2.1,h2⟩;exact ((h1.append_left _).mem_iff).1 hd
theorem kx {T T' : B} (hp : T'.cells.Perm T.cells) : ∀ ps : List PE,(reb ps T').cells.Perm (reb ps T).cells
 | [] => hp
 | p :: ps => List.Perm.cons _ ((kx hp ps).append_left _)
theorem kl : ∀ (q : Nat) (R S : B) (u v : Int) {n : Nat} {a : zb} (H : Hp κ n a it N L) (A : ∀ ν ∈ bn R u,ν ∈ N) (j : ∀ ν ∈ bn S v,ν ∈ N) (m : Nat) (pre : List Int),R.cells.length + S.cells.length <= q -> q + 5 < m -> pre.length + q <= κ.C ->
  Do (wS m R.hd S.hd pre a) fun res => ∃ (ps : List PE) (T : B) (ut r1 s1 : Int) (W : zb),res = (r1,s1,pre ++ pc ps,W) /\ (if s1 > r1 then s1 else r1) = T.hd /\ Hp κ (n + 7 * ps.length) W it N L /\ (bn R u ++ bn S v).Perm (PN ps ++ bn T ut) /\
   (Or it R -> Or it S -> Or it (reb ps T)) /\ (reb ps T).cells.Perm (R.cells ++ S.cells) /\ ps.length <= q := by
 intro q;induction q with
 | zero =>
  intro R S u v n a H A j m pre hq hm hp;obtain ⟨m,rfl⟩ : ∃ q,m = q + 1 := ⟨m - 1,by omega⟩
  cases R with
  | node c rk l r => simp [B.cells] at hq
  | nil =>
   rw [wS];refine Do.fb rfl ?_;refine Do.seq rfl (Do.f rfl ?_);have hs : -1 <= S.hd := (qu H j).1;refine ⟨_,rfl,[],S,v,-1,S.hd,a,by simp [pc,B.hd],?_,H.mono (by omega),by simp [PN,bn],fun _ h => h,by simp [reb,B.cells],by simp⟩;split <;> omega
 | succ q ih =>
  intro R S u v n a H A j m pre hq hm hp;obtain ⟨m,rfl⟩ : ∃ q,m = q + 1 := ⟨m - 1,by omega⟩
  rw [wS];cases R with
  | nil =>
   refine Do.fb rfl ?_;refine Do.seq rfl (Do.f rfl ?_);have hs : -1 <= S.hd := (qu H j).1;refine ⟨_,rfl,[],S,v,-1,S.hd,a,by simp [pc,B.hd],?_,H.mono (by omega),by simp [PN,bn],fun _ h => h,by simp [reb,B.cells],by simp⟩;split <;> omega
  | node c rk l r =>
   cases S with
   | nil =>
    refine Do.tb (by simp only [B.hd]; simp) ?_;refine Do.fb rfl ?_;refine Do.seq rfl (Do.f rfl ?_);refine ⟨_,rfl,[],.node c rk l r,u,(c : Int),-1,a,by simp [pc,B.hd],?_,H.mono (by omega),by simp [PN,bn],fun h _ => h,by simp [reb,B.cells],by simp⟩;simp only [B.hd]; split <;> omega
   | node c' I l' r' =>
    refine Do.tb (by simp only [B.hd]; simp) ?_;refine Do.tb (by simp only [B.hd]; simp) ?_;refine Do.assoc (Do.seq (Ar.cells H) ?_);have X := H.cap;have Y := A _ (List.mem_cons_self ..);have Z := j _ (List.mem_cons_self ..);have mr : ∀ ν ∈ bn r c,ν ∈ N := fun ν h => A ν (mC _ (List.mem_append_right _ h))
    have F : ∀ ν ∈ bn r' c',ν ∈ N := fun ν h => j ν (mC _ (List.mem_append_right _ h))
    refine Do.seq rfl (Do.t (dT (by omega)) ?_);refine (H.before (by omega) Z Y).bind ?_;rintro _ ⟨a1,rfl,H1⟩;simp only [B.cells,lC,lA] at hq;by_cases i : (it c').lt (it c)
    ·refine Do.tb (dT i) ?_;refine Do.seq rfl ?_;refine Do.seq (yP (by simp only [List.length_singleton]; omega)) ?_;have hh := qu H1 F;refine (H1.getc Z (f := 3) hh.1 hh.2).bind ?_;rintro _ ⟨a2,rfl,J⟩;refine (ih r' (.node c rk l r) c' u J F A m (pre ++ [(c' : Int)]) (by simp only [B.cells,lC,lA]; omega) (by omega) (by simp only [lA,List.length_singleton]; omega)).mono ?_;rintro _ ⟨ps,T,ut,r1,s1,a3,rfl,e,O,x,U,D,hl⟩;refine ⟨⟨c',I,l',v,r'.hd⟩ :: ps,T,ut,r1,s1,a3,by simp [pc],e,O.mono (by simp only [lC]; omega),npm fun P => ?_,fun y z => ⟨fun d hd => ?_,z.2.1,U z.2.2 y⟩,?_,by simp only [lC]; omega⟩
     ·have := x.countP_eq P;simp only [gT,PE.nd,bn,List.countP_cons,List.countP_append,List.cons_append] at this ⊢; omega
     ·rcases List.mem_append.1 hd with hd | hd
      ·exact z.1 d (mL _ hd)
      ·rcases List.mem_append.1 (D.mem_iff.1 hd) with hd | hd
       ·exact z.1 d (List.mem_append_right _ hd)
       ·exact It.le_trans (It.lt_asymm i) (y.least d hd)
     ·refine cpm fun P => ?_
      have := D.countP_eq P;simp only [reb,B.cells,List.countP_cons,List.countP_append,List.cons_append] at this ⊢; omega
    ·refine Do.fb (dF i) ?_;refine Do.seq rfl ?_;refine Do.seq (yP (by simp only [List.length_singleton]; omega)) ?_;have hh := qu H1 mr;refine (H1.getc Y (f := 3) hh.1 hh.2).bind ?_;rintro _ ⟨a2,rfl,J⟩;refine (ih r (.node c' I l' r') c v J mr j m (pre ++ [(c : Int)]) (by simp only [B.cells,lC,lA]; omega) (by omega) (by simp only [lA,List.length_singleton]; omega)).mono ?_;rintro _ ⟨ps,T,ut,r1,s1,a3,rfl,e,O,x,U,D,hl⟩;refine ⟨⟨c,rk,l,u,r.hd⟩ :: ps,T,ut,r1,s1,a3,by simp [pc],e,O.mono (by simp only [lC]; omega),npm fun P => ?_,fun y z => ⟨fun d hd => ?_,y.2.1,U y.2.2 z⟩,?_,by simp only [lC]; omega⟩
     ·have := x.countP_eq P;simp only [gT,PE.nd,bn,List.countP_cons,List.countP_append,List.cons_append] at this ⊢; omega
     ·rcases List.mem_append.1 hd with hd | hd
      ·exact y.1 d (mL _ hd)
      ·rcases List.mem_append.1 (D.mem_iff.1 hd) with hd | hd
       ·exact y.1 d (List.mem_append_right _ hd)
       ·exact It.le_trans i (z.least d hd)
     ·refine cpm fun P => ?_
      have := D.countP_eq P;simp only [reb,B.cells,List.countP_cons,List.countP_append,List.cons_append] at this ⊢; omega
theorem jF {T : B} {u : Int} (H : Hp κ n a it (bn T u ++ N) L) (v : Int) : Do (zx a T.hd 0 v) fun r => ∃ b e,r = (b,e) /\ Hp κ (n + 1) e it (bn T v ++ N) L := by
 cases T with
 | nil =>
  refine (Hp.setN H (c := -1) (by decide)).mono ?_;rintro _ ⟨a1,rfl,H1⟩;exact ⟨_,a1,rfl,H1⟩
 | node c rk l r =>
  refine (Hp.set H ⟨c,v,-1,l.hd,r.hd,rk,0⟩).mono ?_;rintro _ ⟨a1,rfl,H1⟩;exact ⟨_,a1,rfl,H1⟩
theorem aW (ps : List PE) : (pc ps).length = ps.length := by simp [pc]
theorem km (all : List PE) (x : all.length < 70000) : ∀ (q : Nat) (pre post : List PE) (T : B) (ut : Int) {n : Nat} {a : zb} (H : Hp κ n a it (PN pre ++ (bn T ut ++ N)) L) (m : Nat),all = pre ++ post -> pre.length = q -> q < m ->
  Do (xT (pc all) m T.hd ((q : Int) - 1) a) fun res => ∃ (T' : B) (j : Int) (F : zb),res = (T'.hd,F) /\ Hp κ (n + 10 * q) F it (bn T' j ++ N) L /\ T'.cells.Perm (reb pre T).cells /\ (Or it (reb pre T) -> Or it T') := by
 intro q;induction q with
 | zero =>
  intro pre post T ut n a H m x hq hm;obtain ⟨m,rfl⟩ : ∃ q,m = q + 1 := ⟨m - 1,by omega⟩
  have : pre = [] := List.length_eq_zero_iff.1 hq;subst this;rw [xT];refine Do.f (dF (by omega)) ?_;exact ⟨_,rfl,T,ut,a,rfl,H,.refl _,fun h => h⟩
 | succ q ih =>
  intro pre post T ut n a H m e hq hm;obtain ⟨m,rfl⟩ : ∃ q,m = q + 1 := ⟨m - 1,by omega⟩
  rcases List.eq_nil_or_concat pre with rfl | ⟨pre,p,rfl⟩
  ·simp at hq
  ·rw [List.concat_eq_append] at *
   have z : pre.length = q := by simpa using hq
   have a0 : q < all.length := by rw [e]; simp; omega
   have i : mIdx (pc all) (((q + 1 : Nat) : Int) - 1) = some (p.c : Int) := by
    have Y : ((q + 1 : Nat) : Int) - 1 = (q : Int) := by omega
    rw [Y,yv,e];simp [pc,<- z]
   rw [xT];refine Do.t (dT (by omega)) ?_;refine Do.seq i ?_;have J : Hp κ n a it (⟨p.c,p.u,-1,p.l.hd,p.w,p.rk,0⟩ :: (bn p.l p.c ++ (PN pre ++ (bn T ut ++ N)))) L := Hp.p H (npm fun P => by
    simp only [bq,PE.nd,List.countP_cons,List.countP_append,List.cons_append]; omega)
   refine (J.set ⟨p.c,p.u,-1,p.l.hd,T.hd,p.rk,0⟩).bind ?_;rintro _ ⟨a1,rfl,H1⟩;refine Do.seq i ?_;have A : Hp κ (n + 1) a1 it (bn T ut ++ (⟨p.c,p.u,-1,p.l.hd,T.hd,p.rk,0⟩ :: (bn p.l p.c ++ (PN pre ++ N)))) L := H1.p (npm fun P => by
    simp only [List.countP_cons,List.countP_append,List.cons_append]; omega)
   refine (jF A (p.c : Int)).bind ?_;rintro _ ⟨b,a2,rfl,O⟩;refine Do.seq i ?_;have S : Hp κ (n + 2) a2 it (bn (.node p.c p.rk p.l T) p.u ++ (PN pre ++ N)) L := O.p (npm fun P => by
    simp only [bn,List.countP_cons,List.countP_append,List.cons_append]; omega)
   refine (jZ S).bind ?_;rintro _ ⟨b',a3,D,rfl,hf,U⟩;have W : Hp κ (n + 10) a3 it (PN pre ++ (bn D p.u ++ N)) L := U.p (npm fun P => by simp only [List.countP_append]; omega);have Z : w64 (((q + 1 : Nat) : Int) - 1 - 1) = (q : Int) - 1 := by rw [zF] <;> omega
   have := ih pre ([p] ++ post) D p.u W m (by rw [e]; simp) z (by omega);rw [hf.hd] at this;show Do (xT (pc all) m (p.c : Int) (w64 (((q + 1 : Nat) : Int) - 1 - 1)) a3) _;rw [Z];refine this.mono ?_;rintro _ ⟨T',j,a4,rfl,X,h1,h2⟩;have y : D.cells.Perm (B.node p.c p.rk p.l T).cells := hf.cells;refine ⟨T',j,a4,rfl,X.mono (by omega),?_,fun I => ?_⟩
   ·rw [lK];exact h1.trans (kx y pre)
   ·rw [lK] at I;exact h2 (cp I y fun h => hf.or h).2
theorem uD {k : Nat} {R S : B} {u v : Int} (H : Hp κ n a it (bn R u ++ (bn S v ++ N)) L) (I : Or it R) (J : Or it S) (hk : 70010 < k) :
  Do (wV k a R.hd S.hd) fun res => ∃ (T : B) (j : zb),res = (T.hd,j) /\ Hp κ (n + 17 * (R.cells.length + S.cells.length) + 1) j it (bn T (-1) ++ N) L /\ T.cells.Perm (R.cells ++ S.cells) /\ Or it T := by
 unfold wV;have i := H.room;simp only [lA,ml] at i;have x := H.cap;by_cases he : R.hd = S.hd
 ·have : R = .nil /\ S = .nil := by
   cases R with
   | nil => cases S with
    | nil => exact ⟨rfl,rfl⟩
    | node c rk l r => simp only [B.hd] at he; omega
   | node c rk l r => cases S with
    | nil => simp only [B.hd] at he; omega
    | node c' W l' r' =>
     have hn := H.nd;simp only [B.hd] at he;have : c = c' := by omega
     subst this;rw [List.map_append,List.map_append,wX,wX] at hn;exact absurd rfl ((List.nodup_append.1 hn).2.2 c (List.mem_cons_self ..) c (mL _ (List.mem_cons_self ..)))
  obtain ⟨rfl,rfl⟩ := this;refine Do.t (by simp) ?_;exact ⟨_,rfl,.nil,a,rfl,H.mono (by omega),.refl _,trivial⟩
 ·refine Do.f (by simpa using he) ?_;refine (kl (R.cells.length + S.cells.length) R S u v H (fun ν h => mL _ h) (fun ν h => List.mem_append_right _ (mL _ h)) k [] (Nat.le_refl _) (by omega) (by simp; omega)).bind ?_;rintro _ ⟨ps,T,ut,r1,s1,a1,rfl,e,H1,hp,U,O,hl⟩;have y : Hp κ (n + 7 * ps.length) a1 it (PN ps ++ (bn T ut ++ N)) L := H1.p (by
   rw [<- aA,<- aA]; exact hp.append_right N)
  have h3 := km ps (by omega) ps.length ps [] T ut y k (by simp) rfl (by omega);rw [<- e] at h3;have D : w64 ((([] ++ pc ps).length : Int) - 1) = (ps.length : Int) - 1 := by rw [List.nil_append,aW,zF] <;> omega
  refine Do.bind (P := _) (o := xT ([] ++ pc ps) k (if s1 > r1 then s1 else r1) (w64 ((([] ++ pc ps).length : Int) - 1)) a1) (by rw [D]; exact h3) ?_;rintro _ ⟨T',X,a2,rfl,z,h4,F⟩;refine (jF z (-1)).bind ?_;rintro _ ⟨b,a3,rfl,A⟩;exact ⟨_,rfl,T',a3,rfl,A.mono (by omega),h4.trans O,F (U I J)⟩
end
end Le
end
noncomputable section
set_option maxRecDepth 10000
theorem dA {κ : Cfg} {n : Nat} {a : zb} {it : Nat -> It} {N : List Nd} {L : Heap} (H : Hp κ n a it N L) {ν : Nd} (y : ν ∈ N) {key : Int} (hk : key <= (it ν.c).k) :
  Do (tr a ((it ν.c).i : Int) key) fun r => ∃ l,r = (true,l) /\ Hp κ (n + 2) l (upd it ν.c ⟨(it ν.c).i,key,(it ν.c).s⟩) N L := by
 obtain ⟨p,q,e⟩ := List.append_of_mem y;have hp : N.Perm (ν :: (p ++ q)) := by rw [e]; exact List.perm_middle
 have H1 := H.p hp;have j := H1.dE;unfold Hp at H1;rw [vi] at H1;refine (oU (x := it ν.c) (Ar.t2 H1) hk).mono ?_;rintro _ ⟨a1,rfl,t⟩;refine ⟨a1,rfl,Hp.p (N := ν :: (p ++ q)) ?_ hp.symm⟩;unfold Hp;rw [vi,ub,vO (it := it) (it' := upd it ν.c ⟨(it ν.c).i,key,(it ν.c).s⟩) fun μ u => vq _ _ (j μ u)];exact Ar.t2 t
abbrev KS := (Nat -> It) -> List Nd -> Int -> Prop
def HK (K : KS) (r : Int) (its : List It) (C : Heap) : Prop := ∃ (it : Nat -> It) (M : List Nd),K it M r /\ C.Perm (lay it M) /\ its.Perm (M.map fun ν => it ν.c)
def HL (K : KS) (r : Int) (its : List It) (x y : It) (C : Heap) : Prop := ∃ (it : Nat -> It) (M : List Nd) (ν : Nd),K it M r /\ ν ∈ M /\ it ν.c = x /\ C.Perm (lay (upd it ν.c y) M) /\ its.Perm (M.map fun ν => it ν.c)
theorem HK.p {K : KS} {r : Int} {its e : List It} {C C' : Heap} (h : HK K r its C) (h1 : its.Perm e) (h2 : C.Perm C') : HK K r e C' := by
 obtain ⟨it,M,hk,hC,i⟩ := h;exact ⟨it,M,hk,h2.symm.trans hC,h1.symm.trans i⟩
theorem HK.len {K : KS} {r : Int} {its : List It} {C : Heap} (h : HK K r its C) : C.length = 2 * its.length := by
 obtain ⟨it,M,hk,hC,e⟩ := h;rw [hC.length_eq,r8,e.length_eq,lM]
section
variable {κ : Cfg} {n : Nat} {a : zb} {L : Heap} {K : KS} {r : Int} {its : List It} {C : Heap}
theorem HK.mem (h : HK K r its C) {x : It} (j : x ∈ its) : ∃ p,(x.i,x.cell p) ∈ C := by
 obtain ⟨it,M,hk,hC,e⟩ := h;obtain ⟨ν,l,rfl⟩ := List.mem_map.1 (e.mem_iff.1 j);exact ⟨_,hC.mem_iff.2 (lz l).2⟩
theorem HK.lower (h : HK K r its C) (H : Ar κ n a (C ++ L)) {x : It} (y : x ∈ its) {key : Int} (hk : key <= x.k) :
  Do (tr a (x.i : Int) key) fun res => ∃ C' e,res = (true,e) /\ HL K r its x ⟨x.i,key,x.s⟩ C' /\ Ar κ (n + 2) e (C' ++ L) := by
 obtain ⟨it,M,u,hC,j⟩ := h;obtain ⟨ν,l,rfl⟩ := List.mem_map.1 (j.mem_iff.1 y);have H1 : Hp κ n a it M L := Ar.p H (hC.append_right L);refine (dA H1 l hk).mono ?_;rintro _ ⟨a1,rfl,t⟩;exact ⟨_,a1,rfl,⟨it,M,ν,u,l,rfl,.refl _,j⟩,t⟩
theorem jx {it : Nat -> It} {M : List Nd} {ν : Nd} {x y : It} (hn : (M.map Nd.c).Nodup) (t : ν ∈ M) (j : it ν.c = x) : ∃ q,(M.map fun μ => it μ.c).Perm (x :: q) /\ (M.map fun μ => upd it ν.c y μ.c).Perm (y :: q) := by
 obtain ⟨p,s,rfl⟩ := List.append_of_mem t;have hp : (p ++ ν :: s).Perm (ν :: (p ++ s)) := List.perm_middle;have i := ((hp.map Nd.c).nodup_iff).1 hn;simp only [pC,List.nodup_cons] at i;refine ⟨(p ++ s).map fun μ => it μ.c,?_,?_⟩
 ·have := hp.map fun μ => it μ.c
  rwa [pC,j] at this
 ·have := hp.map fun μ => upd it ν.c y μ.c
  rw [pC,ub] at this;have e : ((p ++ s).map fun μ => upd it ν.c y μ.c) = (p ++ s).map fun μ => it μ.c := List.map_congr_left fun μ l => vq _ _ fun e => i.1 (e ▸ List.mem_map_of_mem (f := Nd.c) l)
  rwa [e] at this
end
end
noncomputable section
set_option maxRecDepth 10000
namespace Le
structure Fr where
 c : Nat
 rk : Int
 left : Bool
 sib : B
def Fr.lb (f : Fr) (X : B) : B := bif f.left then X else f.sib
def Fr.rb (f : Fr) (X : B) : B := bif f.left then f.sib else X
def Fr.plug (f : Fr) (X : B) : B := .node f.c f.rk (f.lb X) (f.rb X)
def plug : List Fr -> B -> B
 | [],X => X
 | f :: fs,X => plug fs (f.plug X)
def upOf (u : Int) : List Fr -> Int
 | [] => u
 | f :: _ => (f.c : Int)
theorem pk (f : Fr) : ∀ (fs : List Fr) (X : B),plug (fs ++ [f]) X = f.plug (plug fs X)
 | [],X => rfl
 | g :: fs,X => by rw [List.cons_append,plug,pk f fs,plug]
theorem find {c : Nat} : ∀ {t : B},c ∈ t.cells -> ∃ fs rk l r,t = plug fs (.node c rk l r)
 | .nil,h => by simp [B.cells] at h
 | .node j i u r0,h => by
  rcases List.mem_cons.1 h with rfl | h
  ·exact ⟨[],i,u,r0,rfl⟩
  ·rcases List.mem_append.1 h with h | h
   ·obtain ⟨fs,rk,l,r,e⟩ := find h;exact ⟨fs ++ [⟨j,i,true,r0⟩],rk,l,r,by rw [pk,<- e]; rfl⟩
   ·obtain ⟨fs,rk,l,r,e⟩ := find h;exact ⟨fs ++ [⟨j,i,false,u⟩],rk,l,r,by rw [pk,<- e]; rfl⟩
def fn : List Fr -> Int -> Int -> List Nd
 | [],_,_ => []
 | f :: fs,h,u => ⟨f.c,upOf u fs,-1,bif f.left then h else f.sib.hd,bif f.left then f.sib.hd else h,f.rk,0⟩ :: (bn f.sib f.c ++ fn fs f.c u)
theorem sA (u : Int) : ∀ (fs : List Fr) (X : B),(bn (plug fs X) u).Perm (fn fs X.hd u ++ bn X (upOf u fs))
 | [],X => .refl _
 | f :: fs,X => by
  rw [plug];refine (sA u fs (f.plug X)).trans (npm fun P => ?_);obtain ⟨c,rk,b,s⟩ := f;cases b <;> simp only [Fr.plug,Fr.lb,Fr.rb,fn,bn,B.hd,upOf,cT,cF,List.countP_cons,List.countP_append,List.cons_append] <;> omega
def fc (fs : List Fr) : List Nat := fs.flatMap fun f => f.c :: f.sib.cells
theorem wc : ∀ (fs : List Fr) (X : B),(plug fs X).cells.Perm (fc fs ++ X.cells)
 | [],X => .refl _
 | f :: fs,X => by
  rw [plug];refine (wc fs (f.plug X)).trans (cpm fun P => ?_);obtain ⟨c,rk,b,s⟩ := f;cases b <;> simp only [fc,List.flatMap_cons,Fr.plug,Fr.lb,Fr.rb,B.cells,cT,cF,List.countP_cons,List.countP_append,List.cons_append] <;> omega
theorem jC : ∀ (fs : List Fr) {X Y : B},X.hd = Y.hd -> (plug fs X).hd = (plug fs Y).hd
 | [],_,_,h => h
 | f :: fs,X,Y,_ => jC fs (X := f.plug X) (Y := f.plug Y) rfl
theorem pn {it : Nat -> It} : ∀ {fs : List Fr} {X : B},Or it (plug fs X) -> Or it X
 | [],X,h => h
 | f :: fs,X,h => by
  have h1 : Or it (f.plug X) := pn (fs := fs) h;obtain ⟨c,rk,b,s⟩ := f;cases b
  ·exact h1.2.2
  ·exact h1.2.1
theorem lG {it : Nat -> It} : ∀ {fs : List Fr} {X Y : B},Or it (plug fs X) -> (∀ d ∈ Y.cells,d ∈ X.cells) -> Or it Y -> Or it (plug fs Y)
 | [],X,Y,_,_,h => h
 | f :: fs,X,Y,h,hs,e => by
  have h1 : Or it (f.plug X) := pn (fs := fs) h;obtain ⟨c,rk,b,s⟩ := f;refine lG (fs := fs) h ?_ ?_
  ·intro d hd;cases b <;> simp only [Fr.plug,Fr.lb,Fr.rb,B.cells,cT,cF,iC,iA] at hd ⊢
   ·rcases hd with h | h | h
    ·exact Or.inl h
    ·exact Or.inr (Or.inl h)
    ·exact Or.inr (Or.inr (hs d h))
   ·rcases hd with h | h | h
    ·exact Or.inl h
    ·exact Or.inr (Or.inl (hs d h))
    ·exact Or.inr (Or.inr h)
  ·cases b
   ·refine ⟨fun d hd => h1.1 d ?_,h1.2.1,e⟩;rcases List.mem_append.1 hd with h | h
    ·exact mL _ h
    ·exact List.mem_append_right _ (hs d h)
   ·refine ⟨fun d hd => h1.1 d ?_,e,h1.2.2⟩;rcases List.mem_append.1 hd with h | h
    ·exact mL _ (hs d h)
    ·exact List.mem_append_right _ h
section
variable {κ : Cfg} {n : Nat} {a : zb} {it : Nat -> It} {N : List Nd} {L : Heap}
theorem q6 : ∀ (fs : List Fr) (Y : B) {n : Nat} {a : zb} (H : Hp κ n a it (bn (plug fs Y) (-1) ++ N) L) (m j : Nat),fs.length < m -> j + fs.length <= κ.C + 1 ->
  Do (xh m (upOf (-1) fs) (j : Int) a) fun W => ∃ T : B,Hp κ (n + 9 * fs.length) W it (bn T (-1) ++ N) L /\ T.cells.Perm (plug fs Y).cells /\ (Or it (plug fs Y) -> Or it T) /\ T.hd = (plug fs Y).hd
 | [],Y,n,a,H,m,j,hm,hj => by
  obtain ⟨m,rfl⟩ : ∃ q,m = q + 1 := ⟨m - 1,by omega⟩
  rw [xh];refine Do.fb rfl ?_;refine Do.seq rfl (Do.f rfl ?_);exact ⟨_,rfl,Y,H,.refl _,fun h => h,rfl⟩
 | f :: fs,Y,n,a,H,m,j,hm,hj => by
  obtain ⟨m,rfl⟩ : ∃ q,m = q + 1 := ⟨m - 1,by omega⟩
  simp only [lC] at hm hj;have I := H.cap;rw [xh];refine Do.tb (by simp only [upOf]; simp) ?_;refine Do.assoc (Do.seq (Ar.cells H) ?_);refine Do.tb (dT (by omega)) ?_;have H1 : Hp κ n a it (bn (f.plug Y) (upOf (-1) fs) ++ (fn fs f.c (-1) ++ N)) L := H.p (by
   rw [<- aA];exact ((sA (-1) fs (f.plug Y)).trans List.perm_append_comm).append_right N)
  refine Do.assoc ((jZ H1).bind ?_);rintro _ ⟨b,a1,e,rfl,hf,D⟩;refine Do.seq rfl ?_;have i := hf.hd;have z : ∀ d ∈ e.cells,d ∈ (f.plug Y).cells := fun d hd => hf.cells.mem_iff.1 hd
  have J : Hp κ (n + 8) a1 it (bn (plug fs e) (-1) ++ N) L := D.p (by
   rw [<- aA];refine List.Perm.append_right N ?_;have := sA (-1) fs e;rw [i] at this;exact List.perm_append_comm.trans this.symm)
  have u : (plug fs e).cells.Perm (plug (f :: fs) Y).cells := (wc fs e).trans (((hf.cells).append_left _).trans (wc fs (f.plug Y)).symm);have y : Or it (plug (f :: fs) Y) -> Or it (plug fs e) := fun h => lG (fs := fs) (X := f.plug Y) h z (hf.or (pn (fs := fs) h))
  have x : (plug fs e).hd = (plug (f :: fs) Y).hd := jC fs (Y := f.plug Y) i;cases b with
  | false =>
   refine Do.f rfl ?_;exact ⟨_,rfl,plug fs e,J.mono (by simp only [lC]; omega),u,y,x⟩
  | true =>
   refine Do.t rfl ?_;have hT : ∃ rk l r,e = .node f.c rk l r := by
    obtain ⟨rk,rfl | rfl⟩ := hf
    ·exact ⟨_,_,_,rfl⟩
    ·exact ⟨_,_,_,rfl⟩
   obtain ⟨rk,l,r,Z⟩ := hT;have F : (⟨f.c,upOf (-1) fs,-1,l.hd,r.hd,rk,0⟩ : Nd) ∈ bn e (upOf (-1) fs) ++ (fn fs f.c (-1) ++ N) := by rw [Z]; exact List.mem_cons_self ..
   have A : -1 <= upOf (-1) fs /\ upOf (-1) fs < κ.C := by
    cases fs with
    | nil => simp only [upOf]; omega
    | cons g gs =>
     have := D.lt (ν := ⟨g.c,upOf (-1) gs,-1,bif g.left then (f.c : Int) else g.sib.hd,bif g.left then g.sib.hd else (f.c : Int),g.rk,0⟩) (List.mem_append_right _ (mL _ (List.mem_cons_self ..)));simp only [upOf]; simp only at this; omega
   refine (D.getc F (f := 0) A.1 A.2).bind ?_;rintro _ ⟨a2,rfl,O⟩;have S : Hp κ (n + 9) a2 it (bn (plug fs e) (-1) ++ N) L := O.p (by
    rw [<- aA];refine List.Perm.append_right N ?_;have := sA (-1) fs e;rw [i] at this;exact List.perm_append_comm.trans this.symm)
   have ew : w64 ((j : Int) + 1) = ((j + 1 : Nat) : Int) := by rw [zF] <;> omega
   show Do (xh m (upOf (-1) fs) (w64 ((j : Int) + 1)) a2) _;rw [ew];refine (q6 fs e S m (j + 1) (by omega) (by omega)).mono ?_;rintro a3 ⟨T,U,h1,h2,h3⟩;exact ⟨T,U.mono (by simp only [lC]; omega),h1.trans u,fun h => h2 (y h),h3.trans x⟩
theorem pY {fs : List Fr} {X : B} : fs.length <= (plug fs X).cells.length := by
 have h := (wc fs X).length_eq;have : ∀ fs : List Fr,fs.length <= (fc fs).length := by
  intro fs;induction fs with
  | nil => simp
  | cons f fs ih => simp only [fc,List.flatMap_cons,lC,lA] at *; omega
 have := this fs;rw [h,lA]; omega
theorem mP {k : Nat} {f : Fr} {fs : List Fr} {c : Nat} {rk : Int} {l r : B} (H : Hp κ n a it (bn (plug (f :: fs) (.node c rk l r)) (-1) ++ N) L) (hk : 70010 < k) :
  Do (uC k a (c : Int)) fun j => ∃ T : B,Hp κ (n + 5 + 9 * (fs.length + 1)) j it (bn T (-1) ++ (bn (.node c rk l r) (-1) ++ N)) L /\ T.cells.Perm (plug (f :: fs) .nil).cells /\ (Or it (plug (f :: fs) .nil) -> Or it T) /\ T.hd = (plug (f :: fs) (.node c rk l r)).hd := by
 unfold uC;have Z := H.cap;have x := H.room;simp only [lA,ml] at x;have S := pY (fs := f :: fs) (X := .node c rk l r);simp only [lC] at S;have z : Hp κ n a it (⟨c,f.c,-1,l.hd,r.hd,rk,0⟩ :: ⟨f.c,upOf (-1) fs,-1,bif f.left then (c : Int) else f.sib.hd,bif f.left then f.sib.hd else (c : Int),f.rk,0⟩ :: (bn l c ++ (bn r c ++ (bn f.sib f.c ++ (fn fs f.c (-1) ++ N))))) L := H.p (npm fun P => by
  have := (sA (-1) (f :: fs) (.node c rk l r)).countP_eq P;simp only [fn,bn,B.hd,upOf,List.countP_cons,List.countP_append,List.cons_append] at this ⊢; omega)
 have y : (⟨f.c,upOf (-1) fs,-1,bif f.left then (c : Int) else f.sib.hd,bif f.left then f.sib.hd else (c : Int),f.rk,0⟩ : Nd) ∈ (⟨c,f.c,-1,l.hd,r.hd,rk,0⟩ : Nd) :: ⟨f.c,upOf (-1) fs,-1,bif f.left then (c : Int) else f.sib.hd,bif f.left then f.sib.hd else (c : Int),f.rk,0⟩ :: (bn l c ++ (bn r c ++ (bn f.sib f.c ++ (fn fs f.c (-1) ++ N)))) := mC _ (List.mem_cons_self ..);have O : (f.c : Int) < κ.C := by have := z.lt y; simp only at this; omega
 have F : (c : Int) < κ.C := by have := z.lt (List.mem_cons_self ..); simp only at this; omega
 have i := qu z (t := f.sib) (u := f.c) fun ν h => by
  refine mC _ (mC _ (List.mem_append_right _ (List.mem_append_right _ (mL _ h))))
 have U : f.sib.hd ≠ (c : Int) := by
  intro e;have hn := z.nd;cases hs : f.sib with
  | nil => rw [hs] at e; simp only [B.hd] at e; omega
  | node c2 b0 l2 r2 =>
   rw [hs] at e;simp only [B.hd] at e;have : c2 = c := by omega
   subst this;rw [hs] at hn;simp only [pC,List.map_append,bn,List.nodup_cons,iC,iA] at hn;exact hn.1 (by simp)
 refine (z.getc (List.mem_cons_self ..) (f := 0) (by omega) O).bind ?_;rintro _ ⟨a1,rfl,H1⟩;have fin : ∀ {J : Nat} {j : zb},Hp κ J j it (⟨c,f.c,-1,l.hd,r.hd,rk,0⟩ :: ⟨f.c,upOf (-1) fs,-1,bif f.left then (-1 : Int) else f.sib.hd,bif f.left then f.sib.hd else (-1 : Int),f.rk,0⟩ :: (bn l c ++ (bn r c ++ (bn f.sib f.c ++ (fn fs f.c (-1) ++ N))))) L -> J + 1 <= n + 5 ->
   Do ((zx j (c : Int) 0 (-1)).bind fun W => (xh k (f.c : Int) 0 W.2).bind fun s1 => some s1) fun j => ∃ T : B,Hp κ (n + 5 + 9 * (fs.length + 1)) j it (bn T (-1) ++ (bn (.node c rk l r) (-1) ++ N)) L /\ T.cells.Perm (plug (f :: fs) .nil).cells /\ (Or it (plug (f :: fs) .nil) -> Or it T) /\ T.hd = (plug (f :: fs) (.node c rk l r)).hd := by
  intro J j H hn;refine (H.set ⟨c,-1,-1,l.hd,r.hd,rk,0⟩).bind ?_;rintro _ ⟨a2,rfl,A⟩;have D : Hp κ (J + 1) a2 it (bn (plug (f :: fs) .nil) (-1) ++ (bn (.node c rk l r) (-1) ++ N)) L := A.p (npm fun P => by
   have := (sA (-1) (f :: fs) .nil).countP_eq P;simp only [fn,bn,B.hd,upOf,List.countP_cons,List.countP_append,List.cons_append,List.countP_nil] at this ⊢; omega)
  have h4 := q6 (f :: fs) .nil D k 0 (by simp only [lC]; omega) (by simp only [lC]; omega);refine Do.bind (show Do (xh k (f.c : Int) 0 a2) _ from h4) ?_;rintro a3 ⟨T,H5,h5,h6,h7⟩;exact ⟨_,rfl,T,H5.mono (by simp only [lC]; omega),h5,h6,h7.trans (jC fs (X := f.plug .nil) (Y := f.plug (.node c rk l r)) rfl)⟩
 by_cases I : f.left = true
 ·simp only [I,cT] at H1 y fin;refine (H1.getc y (f := 2) (by omega) F).bind ?_;rintro _ ⟨a2,rfl,A⟩;refine Do.tb (by simp) ?_;refine Do.assoc ((Hp.set (A.p (List.Perm.swap ..)) ⟨f.c,upOf (-1) fs,-1,-1,f.sib.hd,f.rk,0⟩).bind ?_);rintro _ ⟨a3,rfl,D⟩;refine Do.seq rfl ?_;exact fin (D.p (List.Perm.swap ..)) (by omega)
 ·have I : f.left = false := by simpa using I
  simp only [I,cF] at H1 y fin;refine (H1.getc y (f := 2) i.1 i.2).bind ?_;rintro _ ⟨a2,rfl,A⟩;refine Do.fb (by simpa using U) ?_;refine Do.assoc ((A.getc y (f := 3) (by omega) F).bind ?_);rintro _ ⟨a3,rfl,D⟩;refine Do.tb (by simp) ?_;refine Do.assoc ((Hp.set (D.p (List.Perm.swap ..)) ⟨f.c,upOf (-1) fs,-1,f.sib.hd,-1,f.rk,0⟩).bind ?_);rintro _ ⟨a4,rfl,H4⟩;refine Do.seq rfl ?_;exact fin (H4.p (List.Perm.swap ..)) (by omega)
end
end Le
end
noncomputable section
set_option maxRecDepth 10000
namespace Le
def KL : KS := fun it M r => ∃ t : B,M = bn t (-1) /\ r = t.hd /\ Or it t
section
variable {κ : Cfg} {n : Nat} {a : zb} {L : Heap} {r : Int} {its : List It} {C : Heap}
theorem yt {it : Nat -> It} (t : B) (u : Int) : ((bn t u).map fun ν => it ν.c) = t.cells.map it := by rw [<- wX t u,List.map_map]; rfl
theorem fX : HK KL (-1) [] [] := ⟨fun _ => ⟨0,0,0⟩,[],⟨.nil,rfl,rfl,trivial⟩,.refl _,.refl _⟩
theorem kr {k : Nat} {x : It} (h : HK KL r its C) (H : Ar κ n a (C ++ ((x.i,x.cell (-1)) :: L))) (W : 2 * its.length + 1 + L.length < κ.C) (hk : 70010 < k) :
  Do (se k a r (x.i : Int)) fun res => ∃ r' C' y,res = (r',true,y) /\ HK KL r' (x :: its) C' /\ Ar κ (n + 17 * its.length + 30) y (C' ++ L) := by
 obtain ⟨it,M,⟨t,rfl,rfl,O⟩,hC,l⟩ := h;unfold se;have hl := l.length_eq;rw [lM,ml] at hl;have z : Hp κ n a it (bn t (-1)) ((x.i,x.cell (-1)) :: L) := Ar.p H (hC.append_right _);refine (rp z (by rw [ml]; omega)).bind ?_;rintro _ ⟨c,a1,rfl,H1,J⟩;refine Do.f rfl ?_;refine (Hp.set H1 ⟨c,-1,-1,-1,-1,1,0⟩).bind ?_;rintro _ ⟨a2,rfl,A⟩;have D : Hp κ (n + 4) a2 (upd it c x) (bn t (-1) ++ (bn (.node c 1 .nil .nil) (-1) ++ [])) L := A.p (npm fun P => by
  simp only [bn,B.hd,List.countP_cons,List.countP_append,List.cons_append,List.countP_nil]; omega)
 have j : ∀ d ∈ t.cells,upd it c x d = it d := fun d hd => vq _ _ fun e => by
  rw [<- wX t (-1)] at hd;obtain ⟨ν,U,I⟩ := List.mem_map.1 hd;exact J ν U (I.trans e)
 refine (uD (R := t) (S := .node c 1 .nil .nil) D (O.congr j) ⟨by simp [B.cells],trivial,trivial⟩ hk).bind ?_;rintro _ ⟨T,a3,rfl,F,hp,u⟩;refine ⟨_,rfl,T.hd,lay (upd it c x) (bn T (-1)),a3,rfl,⟨_,_,⟨T,rfl,rfl,u⟩,.refl _,?_⟩,Ar.mono (n := n + 4 + 17 * (t.cells.length + (B.node c 1 .nil .nil).cells.length) + 1) ?_ (by simp only [B.cells,lC,aN,List.length_nil]; omega)⟩
 ·rw [yt];have h1 := (hp.map (upd it c x)).symm;rw [List.map_append] at h1;have h2 : t.cells.map (upd it c x) = t.cells.map it := List.map_congr_left j;rw [h2] at h1;refine List.Perm.trans ?_ h1;rw [yt] at l;refine (l.cons x).trans ?_;simp only [B.cells,aN,pC,List.map_nil,ub];exact (List.perm_append_singleton _ _).symm
 ·have := F;rw [aN] at this;exact this
theorem fU (h : HK KL r its C) (H : Ar κ n a (C ++ L)) : Do (ra a r) fun res => ∃ j,Ar κ (n + 1) j (C ++ L) /\ ((its = [] /\ res = (-1,j)) \/ ∃ x ∈ its,res = ((x.i : Int),j) /\ ∀ y ∈ its,¬ y.lt x) := by
 obtain ⟨it,M,⟨t,rfl,rfl,z⟩,hC,e⟩ := h;unfold ra;have u : Hp κ n a it (bn t (-1)) L := Ar.p H (hC.append_right _);rw [yt] at e;cases t with
 | nil =>
  refine (u.fk (c := -1) (by decide)).bind ?_;rintro _ ⟨a1,rfl,H1⟩;exact ⟨_,rfl,a1,Ar.p H1 (hC.append_right _).symm,Or.inl ⟨e.eq_nil,rfl⟩⟩
 | node c rk l r' =>
  refine (u.geti (List.mem_cons_self ..)).bind ?_;rintro _ ⟨a1,rfl,H1⟩;refine ⟨_,rfl,a1,Ar.p H1 (hC.append_right _).symm,Or.inr ⟨it c,e.mem_iff.2 (List.mem_map_of_mem (List.mem_cons_self ..)),rfl,fun y A => ?_⟩⟩;obtain ⟨d,hd,rfl⟩ := List.mem_map.1 (e.mem_iff.1 A);exact z.least d hd
theorem lI {k : Nat} {it : Nat -> It} {N : List Nd} {c : Nat} {rk u : Int} {l r : B} (H : Hp κ n a it (bn (.node c rk l r) u ++ N) L) (j : Or it (.node c rk l r)) (hk : 70010 < k) :
  Do (uc k a (c : Int)) fun res => ∃ (T : B) (e : zb),res = (T.hd,((it c).i : Int),e) /\ Hp κ (n + 17 * (l.cells.length + r.cells.length) + 7) e it (bn T (-1) ++ N) (((it c).i,(it c).cell (-1)) :: L) /\ T.cells.Perm (l.cells ++ r.cells) /\ Or it T := by
 unfold uc rH;have I : ∀ ν ∈ bn l c,ν ∈ bn (.node c rk l r) u ++ N := fun ν h => mL _ (mC _ (mL _ h))
 have J : ∀ ν ∈ bn r c,ν ∈ bn (.node c rk l r) u ++ N := fun ν h => mL _ (mC _ (List.mem_append_right _ h))
 have hl := qu H I;have t := qu H J;refine Do.assoc (Do.seq (H.live (ν := ⟨c,u,-1,l.hd,r.hd,rk,0⟩) (List.mem_cons_self ..)) ?_);refine Do.seq rfl (Do.f rfl ?_);refine Do.assoc ((H.getc (List.mem_cons_self ..) (f := 2) hl.1 hl.2).bind ?_);rintro _ ⟨a1,rfl,H1⟩;refine Do.assoc ((H1.getc (List.mem_cons_self ..) (f := 3) t.1 t.2).bind ?_);rintro _ ⟨a2,rfl,x⟩;have y : Hp κ (n + 2) a2 it (bn l c ++ (bn r c ++ (⟨c,u,-1,l.hd,r.hd,rk,0⟩ :: N))) L := Hp.p x (npm fun P => by
  simp only [bn,List.countP_cons,List.countP_append,List.cons_append]; omega)
 refine Do.assoc ((uD y j.2.1 j.2.2 hk).bind ?_);rintro _ ⟨T,a3,rfl,z,h1,h2⟩;refine Do.seq rfl ?_;refine (jF z (-1)).bind ?_;rintro _ ⟨b,a4,rfl,A⟩;have D : Hp κ (n + 2 + 17 * (l.cells.length + r.cells.length) + 1 + 1) a4 it (⟨c,u,-1,l.hd,r.hd,rk,0⟩ :: (bn T (-1) ++ N)) L := A.p List.perm_middle;refine (rm D).bind ?_;rintro _ ⟨a5,rfl,F⟩;exact ⟨_,rfl,T,a5,rfl,F.mono (by omega),h1,h2⟩
theorem eg {k : Nat} (h : HK KL r its C) (H : Ar κ n a (C ++ L)) (j : its ≠ []) (hk : 70010 < k) :
  Do (uc k a r) fun res => ∃ x q r' C' u,res = (r',(x.i : Int),u) /\ its.Perm (x :: q) /\ (∀ y ∈ its,¬ y.lt x) /\ HK KL r' q C' /\ Ar κ (n + 17 * its.length + 30) u (C' ++ ((x.i,x.cell (-1)) :: L)) := by
 obtain ⟨it,M,⟨t,rfl,rfl,z⟩,hC,e⟩ := h;rw [yt] at e;cases t with
 | nil => exact absurd e.eq_nil j
 | node c rk l r' =>
  have A : Hp κ n a it (bn (.node c rk l r') (-1) ++ []) L := by rw [aN]; exact Ar.p H (hC.append_right _)
  have hl := e.length_eq;simp only [B.cells,lM,lC,lA] at hl;refine (lI A z hk).mono ?_;rintro _ ⟨T,a1,rfl,H1,h1,h2⟩;rw [aN] at H1;refine ⟨it c,T.cells.map it,T.hd,_,a1,rfl,?_,fun y D => ?_,⟨it,_,⟨T,rfl,rfl,h2⟩,.refl _,by rw [yt]⟩,Ar.mono H1 (by omega)⟩
  ·refine e.trans ?_;simp only [B.cells,pC];exact List.Perm.cons _ (h1.map it).symm
  ·obtain ⟨d,hd,rfl⟩ := List.mem_map.1 (e.mem_iff.1 D);exact z.least d hd
theorem kj {k : Nat} {s : Int} {e : List It} {C' : Heap} (h : HK KL r its C) (X : HK KL s e C') (H : Ar κ n a (C ++ (C' ++ L))) (hk : 70010 < k) :
  Do (sd k a r s) fun res => ∃ t u U,res = (t,U) /\ HK KL t (its ++ e) u /\ Ar κ (n + 17 * (its.length + e.length) + 30) U (u ++ L) := by
 obtain ⟨it,M,⟨t,rfl,rfl,Y⟩,hC,B⟩ := h;obtain ⟨it',Z,⟨i,rfl,rfl,I⟩,x,l⟩ := X;rw [yt] at B l;unfold sd;have hl := B.length_eq;have F := l.length_eq;rw [lM] at hl F;have y : ∀ d ∈ t.cells,d ∉ i.cells := by
  have hn := Ar.nodup H;have h1 := ((((hC.append ((x).append_right L)).map Prod.fst)).nodup_iff).1 hn;rw [List.map_append,List.map_append] at h1;intro d hd D;have z : d ∈ (lay it (bn t (-1))).map Prod.fst := ((tZ it (bn t (-1))).mem_iff).2 (mL _ (by rw [wX]; exact hd));have A : d ∈ (lay it' (bn i (-1))).map Prod.fst := ((tZ it' (bn i (-1))).mem_iff).2 (mL _ (by rw [wX]; exact D));exact (List.nodup_append.1 h1).2.2 d z d (mL _ A) rfl
 let j : Nat -> It := fun d => if d ∈ t.cells then it d else it' d
 have O : ∀ d ∈ t.cells,j d = it d := fun d hd => if_pos hd
 have S : ∀ d ∈ i.cells,j d = it' d := fun d hd => if_neg fun h => y d h hd
 have z : lay j (bn t (-1)) = lay it (bn t (-1)) := vO fun ν J => O _ (by rw [<- wX t (-1)]; exact List.mem_map_of_mem J)
 have A : lay j (bn i (-1)) = lay it' (bn i (-1)) := vO fun ν J => S _ (by rw [<- wX i (-1)]; exact List.mem_map_of_mem J)
 have W : Hp κ n a j (bn t (-1) ++ (bn i (-1) ++ [])) L := by
  unfold Hp;rw [aN,pZ,z,A,aA];exact Ar.p H (hC.append (x.append_right L))
 refine (uD W (Y.congr O) (I.congr S) hk).bind ?_;rintro _ ⟨T,a1,rfl,H1,h1,h2⟩;rw [aN] at H1;refine ⟨_,rfl,T.hd,_,a1,rfl,⟨j,_,⟨T,rfl,rfl,h2⟩,.refl _,?_⟩,Ar.mono H1 (by omega)⟩;rw [yt];have h3 := (h1.map j).symm;rw [List.map_append] at h3;have f1 : t.cells.map j = t.cells.map it := List.map_congr_left O;have f2 : i.cells.map j = i.cells.map it' := List.map_congr_left S;rw [f1,f2] at h3;exact (B.append l).trans h3
theorem cx {fs : List Fr} {c : Nat} {rk : Int} {l r : B} : (plug fs (.node c rk l r)).hd = (c : Int) -> fs ≠ [] -> (plug fs (.node c rk l r)).cells.Nodup -> False := by
 intro h e hn;obtain ⟨gs,g,rfl⟩ : ∃ gs g,fs = gs ++ [g] := by
  rcases List.eq_nil_or_concat fs with h | ⟨gs,g,h⟩
  ·exact absurd h e
  ·exact ⟨gs,g,by rw [h,List.concat_eq_append]⟩
 rw [pk] at h hn;have j : g.c = c := by simp only [Fr.plug,B.hd] at h; omega
 have h2 := ((wc gs (.node c rk l r))).mem_iff (a := c);have i : c ∈ (plug gs (.node c rk l r)).cells := h2.2 (List.mem_append_right _ (List.mem_cons_self ..));obtain ⟨gc,u,t,x⟩ := g;simp only [Fr.plug,B.cells,List.nodup_cons,iA] at hn;simp only at j;subst j;cases t
 ·exact hn.1 (Or.inr i)
 ·exact hn.1 (Or.inl i)
theorem ke {k : Nat} {x y : It} (h : HL KL r its x y C) (hi : y.i = x.i) (a6 : ¬ x.lt y) (H : Ar κ n a (C ++ L)) (hk : 70010 < k) :
  Do (sa k a r (y.i : Int)) fun res => ∃ r' q C' D,res = (r',D) /\ its.Perm (x :: q) /\ HK KL r' (y :: q) C' /\ Ar κ (n + 26 * its.length + 30) D (C' ++ L) := by
 obtain ⟨it,M,ν,⟨t,rfl,rfl,F⟩,hν,rfl,hC,hI⟩ := h;unfold sa vu;have hl := hI.length_eq;rw [lM,ml] at hl;have J : Hp κ n a (upd it ν.c y) (bn t (-1)) L := Ar.p H (hC.append_right _);have hn := J.nd;obtain ⟨q,a0,a5⟩ := jx (y := y) hn hν rfl;rw [wX] at hn;have b0 : ν.c ∈ t.cells := by rw [<- wX t (-1)]; exact List.mem_map_of_mem hν
 have c7 := J.lt hν;have b5 : ((upd it ν.c y ν.c).i : Int) = (y.i : Int) := by rw [ub]
 have A := Ar.cell J (J.item hν) (f := 9) (v := (ν.c : Int)) rfl (by omega) (by omega);rw [b5] at A;refine Do.assoc (A.bind ?_);rintro _ ⟨a1,rfl,H1⟩;refine Do.seq rfl ?_;refine Do.fb (by simp) ?_;obtain ⟨fs,rk,l,r',z⟩ := find b0;have done : ∀ {n' : Nat} {D : zb},Hp κ n' D (upd it ν.c y) (bn t (-1)) L -> fs = [] -> n' <= n + 26 * its.length + 30 -> Do (some (t.hd,D)) fun res => ∃ r' q C' D,res = (r',D) /\ its.Perm (it ν.c :: q) /\ HK KL r' (y :: q) C' /\ Ar κ (n + 26 * its.length + 30) D (C' ++ L) := by
  intro n' D H b4 b7;refine ⟨_,rfl,t.hd,q,_,D,rfl,hI.trans a0,⟨upd it ν.c y,_,⟨t,rfl,rfl,?_⟩,.refl _,a5.symm⟩,Ar.mono H b7⟩;rw [b4] at z;rw [z] at F hn ⊢;simp only [plug] at F hn ⊢;have I := List.nodup_cons.1 hn;have u : ∀ d ∈ l.cells ++ r'.cells,d ≠ ν.c := fun d hd e => I.1 (e ▸ hd)
  refine ⟨fun d hd => ?_,F.2.1.congr fun d hd => vq _ _ (u d (mL _ hd)),F.2.2.congr fun d hd => vq _ _ (u d (List.mem_append_right _ hd))⟩;rw [vq _ _ (u d hd),ub];exact It.le_trans a6 (F.1 d hd)
 by_cases j : (ν.c : Int) = t.hd
 ·refine Do.tb (by simpa using j) ?_;refine Do.seq rfl (Do.t rfl ?_);refine done H1 ?_ (by omega);cases fs with
  | nil => rfl
  | cons f fs => rw [z] at j hn; exact (cx j.symm (by simp) hn).elim
 ·refine Do.fb (by simpa using j) ?_;cases fs with
  | nil => rw [z] at j; exact absurd rfl j
  | cons f fs =>
   have c3 : Hp κ (n + 1) a1 (upd it ν.c y) (bn (plug (f :: fs) (.node ν.c rk l r')) (-1) ++ []) L := by rw [aN,<- z]; exact H1
   have b6 : (⟨ν.c,f.c,-1,l.hd,r'.hd,rk,0⟩ : Nd) ∈ bn t (-1) := by
    rw [z];exact ((sA (-1) (f :: fs) (.node ν.c rk l r')).mem_iff).2 (List.mem_append_right _ (List.mem_cons_self ..))
   have b2 : (f.c : Int) < κ.C := by
    have := J.lt (ν := ⟨f.c,upOf (-1) fs,-1,bif f.left then (ν.c : Int) else f.sib.hd,bif f.left then f.sib.hd else (ν.c : Int),f.rk,0⟩) (by
     rw [z];exact ((sA (-1) (f :: fs) (.node ν.c rk l r')).mem_iff).2 (mL _ (List.mem_cons_self ..)))
    simp only at this; omega
   refine Do.assoc ((Hp.getc H1 b6 (f := 0) (by omega) b2).bind ?_);rintro _ ⟨a2,rfl,H2⟩;refine Do.seq rfl (Do.f (by simp) ?_);have a8 : Hp κ (n + 2) a2 (upd it ν.c y) (bn (plug (f :: fs) (.node ν.c rk l r')) (-1) ++ []) L := by rw [aN,<- z]; exact H2
   refine (mP (k := k) a8 hk).bind ?_;rintro a3 ⟨T,H3,h1,h2,O⟩;have b1 : ν.c ∉ (plug (f :: fs) .nil).cells := by
    have p1 := wc (f :: fs) (.node ν.c rk l r');rw [z] at hn;have b8 := p1.nodup_iff.1 hn;intro hm;have := (wc (f :: fs) .nil).mem_iff.1 hm;simp only [B.cells,aN] at this;exact (List.nodup_append.1 b8).2.2 _ this _ (List.mem_cons_self ..) rfl
   have o1 : Or (upd it ν.c y) (plug (f :: fs) .nil) := by
    rw [z] at F;refine (lG (fs := f :: fs) (Y := .nil) F (by simp [B.cells]) trivial).congr fun d hd => vq _ _ fun e => b1 (e ▸ hd)
   have o2 : Or (upd it ν.c y) (.node ν.c rk l r') := by
    rw [z] at F hn;have o3 : Or it (.node ν.c rk l r') := pn (fs := f :: fs) F;have b9 : (B.node ν.c rk l r').cells.Nodup := (List.nodup_append.1 ((wc (f :: fs) (.node ν.c rk l r')).nodup_iff.1 hn)).2.1;have I := List.nodup_cons.1 b9;have u : ∀ d ∈ l.cells ++ r'.cells,d ≠ ν.c := fun d hd e => I.1 (e ▸ hd)
    refine ⟨fun d hd => ?_,o3.2.1.congr fun d hd => vq _ _ (u d (mL _ hd)),o3.2.2.congr fun d hd => vq _ _ (u d (List.mem_append_right _ hd))⟩;rw [vq _ _ (u d hd),ub];exact It.le_trans a6 (o3.1 d hd)
   rw [<- z] at O;rw [<- O];refine (uD (R := T) (S := .node ν.c rk l r') H3 (h2 o1) o2 hk).bind ?_;rintro _ ⟨U,a4,rfl,H4,h3,h4⟩;rw [aN] at H4;have W := (wc (f :: fs) (.node ν.c rk l r')).length_eq;have Z := (wc (f :: fs) .nil).length_eq;have b3 := pY (fs := f :: fs) (X := .nil);have e1 := h1.length_eq;rw [<- z] at W;simp only [B.cells,aN,lA,lC,List.length_nil] at W Z b3 e1;refine ⟨_,rfl,U.hd,q,_,a4,rfl,hI.trans a0,⟨upd it ν.c y,_,⟨U,rfl,rfl,h4⟩,.refl _,?_⟩,Ar.mono H4 (by simp only [B.cells,lC,lA]; omega)⟩;rw [yt];refine a5.symm.trans ?_;rw [yt];refine List.Perm.map _ ?_;rw [z];refine (wc (f :: fs) (.node ν.c rk l r')).trans (List.Perm.trans (List.Perm.append_right _ ?_) h3.symm);have := (wc (f :: fs) .nil)
   simp only [B.cells,aN] at this;exact (h1.trans this).symm
theorem fo {k : Nat} {x : It} (h : HK KL r its C) (hx : x ∈ its) (H : Ar κ n a (C ++ L)) (hk : 70010 < k) :
  Do (s9 k a r (x.i : Int)) fun res => ∃ q r' C' a',res = (r',a') /\ its.Perm (x :: q) /\ HK KL r' q C' /\ Ar κ (n + 43 * its.length + 50) a' (C' ++ ((x.i,x.cell (-1)) :: L)) := by
 obtain ⟨it,M,⟨t,rfl,rfl,O⟩,hC,F⟩ := h;obtain ⟨ν,hν,rfl⟩ := List.mem_map.1 (F.mem_iff.1 hx);unfold s9 vu;have hl := F.length_eq;rw [lM,ml] at hl;have A : Hp κ n a it (bn t (-1)) L := Ar.p H (hC.append_right _);have hn := A.nd;rw [wX] at hn;rw [yt] at F;have a6 : ν.c ∈ t.cells := by rw [<- wX t (-1)]; exact List.mem_map_of_mem hν
 have c2 := A.lt hν;refine Do.assoc ((Ar.cell A (A.item hν) (f := 9) (v := (ν.c : Int)) rfl (by omega) (by omega)).bind ?_);rintro _ ⟨a1,rfl,H1⟩;refine Do.seq rfl ?_;refine Do.f (by simp) ?_;obtain ⟨fs,rk,l,r',j⟩ := find a6;have J := (wc fs (.node ν.c rk l r'))
 have y := J.length_eq;rw [<- j] at y;simp only [B.cells,lA,lC] at y;by_cases e : (ν.c : Int) = t.hd
 ·have a9 : fs = [] := by
   cases fs with
   | nil => rfl
   | cons f fs => rw [j] at e hn; exact (cx e.symm (by simp) hn).elim
  subst a9;simp only [plug] at j;subst j;refine Do.tb (by simpa using e) ?_;refine Do.seq rfl (Do.t rfl ?_);have W : Hp κ (n + 1) a1 it (bn (.node ν.c rk l r') (-1) ++ []) L := by rw [aN]; exact H1
  refine (lI W O hk).bind ?_;rintro _ ⟨T,a2,rfl,D,h1,h2⟩;rw [aN] at D;refine ⟨_,rfl,T.cells.map it,T.hd,_,a2,rfl,?_,⟨it,_,⟨T,rfl,rfl,h2⟩,.refl _,by rw [yt]⟩,Ar.mono D (by omega)⟩;refine F.trans ?_;simp only [B.cells,pC];exact List.Perm.cons _ (h1.map it).symm
 ·refine Do.fb (by simpa using e) ?_;cases fs with
  | nil => rw [j] at e; exact absurd rfl e
  | cons f fs =>
   have b0 : (⟨ν.c,f.c,-1,l.hd,r'.hd,rk,0⟩ : Nd) ∈ bn t (-1) := by
    rw [j];exact ((sA (-1) (f :: fs) (.node ν.c rk l r')).mem_iff).2 (List.mem_append_right _ (List.mem_cons_self ..))
   have a7 : (f.c : Int) < κ.C := by
    have := A.lt (ν := ⟨f.c,upOf (-1) fs,-1,bif f.left then (ν.c : Int) else f.sib.hd,bif f.left then f.sib.hd else (ν.c : Int),f.rk,0⟩) (by
     rw [j];exact ((sA (-1) (f :: fs) (.node ν.c rk l r')).mem_iff).2 (mL _ (List.mem_cons_self ..)))
    simp only at this; omega
   refine Do.assoc ((Hp.getc H1 b0 (f := 0) (by omega) a7).bind ?_);rintro _ ⟨a2,rfl,W⟩;refine Do.seq rfl (Do.f (by simp) ?_);have Z : Hp κ (n + 2) a2 it (bn (plug (f :: fs) (.node ν.c rk l r')) (-1) ++ []) L := by rw [aN,<- j]; exact W
   refine (mP (k := k) Z hk).bind ?_;rintro a3 ⟨T,D,h1,h2,I⟩;rw [<- j] at I;have o1 : Or it (plug (f :: fs) .nil) := by
    rw [j] at O;exact lG (fs := f :: fs) (Y := .nil) O (by simp [B.cells]) trivial
   have o2 : Or it (.node ν.c rk l r') := by
    rw [j] at O;exact pn (fs := f :: fs) O
   have a0 : Hp κ (n + 2 + 5 + 9 * (fs.length + 1)) a3 it (bn (.node ν.c rk l r') (-1) ++ bn T (-1)) L := by
    rw [aN] at D;exact D.p List.perm_append_comm
   refine (lI a0 o2 hk).bind ?_;rintro _ ⟨U,a4,rfl,H4,h3,h4⟩;rw [<- I];have H5 : Hp κ (n + 2 + 5 + 9 * (fs.length + 1) + 17 * (l.cells.length + r'.cells.length) + 7) a4 it (bn T (-1) ++ (bn U (-1) ++ [])) (((it ν.c).i,(it ν.c).cell (-1)) :: L) := by
    rw [aN];exact H4.p List.perm_append_comm
   refine (uD (R := T) (S := U) H5 (h2 o1) h4 hk).bind ?_;rintro _ ⟨V,a5,rfl,H6,h5,h6⟩;rw [aN] at H6;have u := (wc (f :: fs) .nil)
   have z := u.length_eq;have a8 := pY (fs := f :: fs) (X := .nil);have e1 := h1.length_eq;have e3 := h3.length_eq;simp only [B.cells,aN,lA,lC,List.length_nil] at u z a8 e1 e3;refine ⟨_,rfl,V.cells.map it,V.hd,_,a5,rfl,?_,⟨it,_,⟨V,rfl,rfl,h6⟩,.refl _,by rw [yt]⟩,Ar.mono H6 (by omega)⟩;refine F.trans ?_;rw [j];refine (J.map it).trans ?_;have h7 : (fc (f :: fs) ++ (B.node ν.c rk l r').cells).Perm (ν.c :: V.cells) := by
    refine cpm fun P => ?_
    have q1 := h5.countP_eq P;have q2 := h1.countP_eq P;have q3 := h3.countP_eq P;have q4 := u.countP_eq P;simp only [B.cells,List.countP_append,List.countP_cons,List.cons_append] at q1 q2 q3 q4 ⊢;omega
   have := h7.map it
   rwa [pC] at this
end
end Le
end
noncomputable section
set_option maxRecDepth 10000
inductive SK (b : Bool) : F -> Nat -> Prop
 | nil : SK b .nil 0
 | real {c r : Nat} {kids rest : F} : SK b kids r -> SK b rest r -> SK b (.cons c r kids rest) (r + 1)
 | leaf {d c r : Nat} {kids rest : F} : b = true -> SK b kids r -> SK b rest r -> SK b (.cons d 0 .nil (.cons c r kids rest)) (r + 1)
theorem SK.size {b : Bool} {f : F} {r : Nat} (h : SK b f r) : 2 ^ r <= f.size + 1 /\ f.size + 1 < 2 ^ (r + 1) /\ (b = false -> f.size + 1 = 2 ^ r) := by
 induction h with
 | nil => simp [F.size]
 | real h1 h2 i1 i2 =>
  simp only [F.size,Nat.pow_succ] at *
  refine ⟨by omega,by omega,fun e => ?_⟩;have j := i1.2.2 e;have l := i2.2.2 e;omega
 | leaf i h1 h2 i1 i2 =>
  simp only [F.size,Nat.pow_succ] at *
  refine ⟨by omega,by omega,fun e => ?_⟩;rw [e] at i; cases i
def Ord (it : Nat -> It) (N : List Nd) : Prop := ∀ ν ∈ N,∀ q : Nat,ν.up = (q : Int) -> ¬ (it ν.c).lt (it q)
theorem Ord.append {it : Nat -> It} {M N : List Nd} (h : Ord it M) (e : Ord it N) : Ord it (M ++ N) := fun ν i => by
 rcases List.mem_append.1 i with h1 | h1
 ·exact h ν h1
 ·exact e ν h1
theorem Ord.sub {it : Nat -> It} {M N : List Nd} (h : Ord it N) (hs : ∀ ν ∈ M,ν ∈ N) : Ord it M := fun ν e => h ν (hs ν e)
structure GT (b : Bool) (it : Nat -> It) (t : Tr) : Prop where
 sk : SK b t.kids t.r
 ord : Ord it (nd t.kids t.c)
theorem GT.under {b : Bool} {it : Nat -> It} {t l : Tr} (ht : GT b it t) (hl : GT b it l) (i : l.r = t.r) (j : ¬ (it l.c).lt (it t.c)) : GT b it (t.under l) where
 sk := by
  show SK b (.cons l.c l.r l.kids t.kids) (t.r + 1);rw [i];exact .real (i ▸ hl.sk) ht.sk
 ord := by
  show Ord it (⟨l.c,t.c,l.kids.hd,-1,t.kids.hd,l.r,0⟩ :: (nd l.kids l.c ++ nd t.kids t.c));intro ν e q hq;rcases List.mem_cons.1 e with rfl | e
  ·simp only at hq ⊢;have : q = t.c := by omega
   rw [this]; exact j
  ·exact (hl.ord.append ht.ord) ν e q hq
theorem bC {b : Bool} {it : Nat -> It} {s t : Tr} (hs : GT b it s) (ht : GT b it t) (e : s.r = t.r) : GT b it (lk it s t) /\ (lk it s t).r = s.r + 1 /\ (lk it s t).cells.Perm (s.cells ++ t.cells) := by
 unfold lk;split
 ·rename_i h;refine ⟨ht.under hs e (It.lt_asymm h),by simp [Tr.under,e],?_⟩;simp only [Tr.cells,Tr.under,F.cells,List.cons_append];exact (List.Perm.swap ..).trans (List.Perm.cons _ (List.perm_middle.symm))
 ·rename_i h;refine ⟨hs.under ht e.symm h,rfl,?_⟩;simp only [Tr.cells,Tr.under,F.cells,List.cons_append];refine List.Perm.cons _ ?_;exact List.perm_append_comm (l₁ := t.c :: t.kids.cells) (l₂ := s.kids.cells)
theorem fM {α β : Type} {f : α -> β} {l r : List β} (h : r.Perm l) : ∀ ls : List α,ls.map f = l -> ∃ ws : List α,ws.Perm ls /\ ws.map f = r := by
 induction h with
 | nil => intro ls e; exact ⟨ls,.refl _,e⟩
 | cons x h ih =>
  intro ls e;cases ls with
  | nil => simp at e
  | cons y ls =>
   simp only [pC,List.cons.injEq] at e;obtain ⟨ws,h1,h2⟩ := ih ls e.2;exact ⟨y :: ws,h1.cons y,by simp [h2,e.1]⟩
 | swap x y l =>
  intro ls e;cases ls with
  | nil => simp at e
  | cons u ls =>
   cases ls with
   | nil => simp at e
   | cons v ls =>
    simp only [pC,List.cons.injEq] at e;exact ⟨v :: u :: ls,List.Perm.swap ..,by simp [e]⟩
 | trans h1 h2 i1 i2 =>
  intro ls e;obtain ⟨ws,h3,h4⟩ := i2 ls e;obtain ⟨vs,i,j⟩ := i1 ws h4;exact ⟨vs,i.trans h3,j⟩
theorem q8 {α : Type} {l : List α} {i : Nat} (h : i <= l.length) : mCut l (i : Int) (l.length : Int) = some (l.drop i) := by
 unfold mCut;rw [if_pos ⟨by omega,by omega,by omega⟩];simp
def rk (l : Lt) : zk := zk.mk (l.t.c : Int) (l.t.r : Int)
section
variable {κ : Cfg} {it : Nat -> It} {N : List Nd} {L : Heap} {b : Bool}
theorem ej {n : Nat} {a : zb} {ls : List Lt} (H : Hp κ n a it (LN ls ++ N) L) (i : ∀ l ∈ ls,GT b it l.t) : ∀ l ∈ ls,l.t.r < 17 := by
 intro l hl;have h1 := (i l hl).sk.size.1;have h2 := H.room;have h3 := H.cap;have h4 : l.nd.length <= (LN ls).length := by
  obtain ⟨p,q,rfl⟩ := List.append_of_mem hl;rw [wP,tx];simp only [lA]; omega
 rw [lU,lC,rK] at h4;rw [lA] at h2;have e : 2 ^ l.t.r < 2 ^ 17 := by
  have : (2 : Nat) ^ 17 = 131072 := by decide
  omega
 exact (Nat.pow_lt_pow_iff_right (by decide)).1 e
theorem jR (all : List Lt) (j : ∀ l ∈ all,l.top ∈ N) (hl : all.length < 100000) : ∀ (post pre : List Lt) {n : Nat} {a : zb} (H : Hp κ n a it N L) (m : Nat),post.length < m -> all = pre ++ post ->
  Do (vf (all.length : Int) (lc all) m (pre.map rk) (pre.length : Int) a) fun r => ∃ i,r = (all.map rk,i) /\ Hp κ (n + post.length) i it N L
 | [],pre,n,a,H,m,hm,e => by
  obtain ⟨m,rfl⟩ : ∃ q,m = q + 1 := ⟨m - 1,by simp at hm; omega⟩
  rw [vf];refine Do.f (dF (by rw [e]; simp)) ?_;exact ⟨_,rfl,a,by rw [e]; simp,H⟩
 | l :: post,pre,n,a,H,m,hm,e => by
  obtain ⟨m,rfl⟩ : ∃ q,m = q + 1 := ⟨m - 1,by simp at hm; omega⟩
  simp only [lC] at hm;have hlen : pre.length < 100000 := by have := congrArg List.length e; simp at this; omega
  have y : mIdx (lc all) (pre.length : Int) = some (l.t.c : Int) := by
   rw [e,wR,lu];have := yu (lc pre) (lc post) (l.t.c : Int)
   rwa [w7] at this
  rw [vf];refine Do.t (dT (by rw [e]; simp; omega)) ?_;refine Do.seq y ?_;refine (H.get (j l (by rw [e]; simp)) (f := 4) (v := (l.t.r : Int))).bind ?_;rintro _ ⟨a1,rfl,H1⟩;refine Do.seq (yP (by simp; omega)) ?_;rw [zF (by omega) (by omega)];have := jR all j hl post (pre ++ [l]) H1 m (by omega) (by rw [e]; simp);have x : ((pre ++ [l]).length : Int) = (pre.length : Int) + 1 := by simp
  rw [x,List.map_append] at this;refine this.mono ?_;rintro _ ⟨a2,rfl,u⟩;exact ⟨a2,rfl,u.mono (by simp only [lC]; omega)⟩
theorem jS (v v1 : Int) (u y : List Int) (a : zb) : ∀ (post pre : List Lt) (m : Nat),post.length < m -> (pre ++ post).length < 100000 -> (∀ l ∈ pre,(l.t.r : Int) < v1) ->
  Do (vg ((pre ++ post).map rk) v v1 u a y m (pre.length : Int)) fun r => ∃ p q,pre ++ post = p ++ q /\ r = (p.length : Int) /\ (∀ l ∈ p,(l.t.r : Int) < v1) /\ (∀ l z,q = l :: z -> ¬ (l.t.r : Int) < v1)
 | [],pre,m,hm,j,hp => by
  obtain ⟨m,rfl⟩ : ∃ q,m = q + 1 := ⟨m - 1,by simp at hm; omega⟩
  rw [vg];refine Do.fb (dF (by simp)) ?_;refine Do.seq rfl (Do.f rfl ?_);exact ⟨_,rfl,pre,[],rfl,rfl,hp,fun _ _ h => by cases h⟩
 | l :: post,pre,m,hm,j,hp => by
  obtain ⟨m,rfl⟩ : ∃ q,m = q + 1 := ⟨m - 1,by simp at hm; omega⟩
  simp only [lC,lA] at hm j;have B : mIdx ((pre ++ l :: post).map rk) (pre.length : Int) = some (rk l) := by
   rw [List.map_append,pC];have := yu (pre.map rk) (post.map rk) (rk l)
   rwa [lM] at this
  rw [vg];refine Do.tb (dT (by simp; omega)) ?_;refine Do.assoc (Do.seq B ?_);refine Do.seq rfl ?_;by_cases h : (l.t.r : Int) < v1
  ·refine Do.t (dT h) ?_;rw [zF (by omega) (by omega)];have := jS v v1 u y a post (pre ++ [l]) m (by omega) (by simp; omega) (by
    intro x i;rcases List.mem_append.1 i with i | i
    ·exact hp x i
    ·simp at i; subst i; exact h)
   have A : ((pre ++ [l]).length : Int) = (pre.length : Int) + 1 := by simp
   rw [A,aA] at this;exact this
  ·refine Do.f (dF h) ?_;exact ⟨_,rfl,pre,l :: post,rfl,rfl,hp,fun x z e => by cases e; exact h⟩
def LS (l : List Lt) : Prop := l.Pairwise fun x y => x.t.r <= y.t.r
def LSS (l : List Lt) : Prop := l.Pairwise fun x y => x.t.r < y.t.r
theorem vL (s t : List Tr) : TC (s ++ t) = TC s ++ TC t := List.flatMap_append
theorem rE (s : Tr) (t : List Tr) : TC (s :: t) = s.cells ++ TC t := rfl
theorem gW {s t : List Tr} (h : s.Perm t) : (TC s).Perm (TC t) := h.flatMap_right _
theorem cpm {l l' : List Nat} (h : ∀ p : Nat -> Bool,l.countP p = l'.countP p) : l.Perm l' := List.perm_iff_count.2 fun x => h _
theorem m9 (O : List Int) : ∀ (q : Nat) (ws os : List Lt) {n : Nat} {a : zb} (H : Hp κ n a it (LN ws ++ (LN os ++ N)) L) (m : Nat),ws.length = q -> q + os.length < 1000 -> q + 10 + 1000 < m -> (∀ l ∈ ws,GT b it l.t) -> (∀ l ∈ os,GT b it l.t) -> LS ws -> LSS os -> (∀ o ∈ os,∀ w ∈ ws,o.t.r < w.t.r) ->
  Do (wv O m (ws.map rk) (lc os) a) fun r => ∃ fs J,r = (lc fs,J) /\ Hp κ (n + 11 * q) J it (LN fs ++ N) L /\ (∀ l ∈ fs,GT b it l.t) /\ LSS fs /\ (TC (fs.map Lt.t)).Perm (TC (ws.map Lt.t) ++ TC (os.map Lt.t)) /\ fs.length <= q + os.length
 | 0,ws,os,n,a,H,m,hq,hb,hm,F,z,hs,B,j => by
  obtain ⟨m,rfl⟩ : ∃ q,m = q + 1 := ⟨m - 1,by omega⟩
  have := List.eq_nil_of_length_eq_zero hq;subst this;rw [wv];refine Do.f (dF (by simp)) ?_;exact ⟨_,rfl,os,a,rfl,H,z,B,by simp [TC],by simp⟩
 | q + 1,ws,os,n,a,H,m,hq,hb,hm,F,z,hs,B,j => by
  obtain ⟨m,rfl⟩ : ∃ q,m = q + 1 := ⟨m - 1,by omega⟩
  cases ws with
  | nil => simp at hq
  | cons x ws =>
   simp only [lC] at hq;have A : ws.length = q := by omega
   rw [wv];refine Do.t (dT (by simp)) ?_;refine Do.seq (r := rk x) rfl ?_;have I : LS ws := (List.pairwise_cons.1 hs).2;have hx := (List.pairwise_cons.1 hs).1;have out : (∀ w ∈ ws,x.t.r < w.t.r) -> Do ((mCut (rk x :: ws.map rk) 1 (((x :: ws).map rk).length : Int)).bind fun l4 => (mApp (lc os) ([(rk x).n] : List Int)).bind fun l5 => wv O m l4 l5 a) fun r => ∃ fs J,r = (lc fs,J) /\ Hp κ (n + 11 * (q + 1)) J it (LN fs ++ N) L /\ (∀ l ∈ fs,GT b it l.t) /\ LSS fs /\ (TC (fs.map Lt.t)).Perm (TC ((x :: ws).map Lt.t) ++ TC (os.map Lt.t)) /\ fs.length <= q + 1 + os.length := by
    intro W;have U : mCut (rk x :: ws.map rk) 1 (((x :: ws).map rk).length : Int) = some (ws.map rk) := q8 (l := (x :: ws).map rk) (i := 1) (by simp);refine Do.seq U ?_;refine Do.seq (yP (by simp [w7]; omega)) ?_;have H1 : Hp κ n a it (LN ws ++ (LN (os ++ [x]) ++ N)) L := H.p (npm fun p => by
     simp only [tx,wP,List.countP_append,show LN ([] : List Lt) = [] from rfl,List.countP_nil]; omega)
    have := m9 O q ws (os ++ [x]) H1 m A (by simp; omega) (by omega) (fun l h => F l (mC _ h)) (fun l h => by
     rcases List.mem_append.1 h with h | h
     ·exact z l h
     ·simp at h; subst h; exact F l (List.mem_cons_self ..)) I (List.pairwise_append.2 ⟨B,by simp,fun o e y hy => by simp at hy; subst hy; exact j o e y (List.mem_cons_self ..)⟩) (fun o e w hw => by
     rcases List.mem_append.1 e with e | e
     ·exact j o e w (mC _ hw)
     ·simp at e; subst e; exact W w hw)
    rw [wR] at this;refine this.mono ?_;rintro _ ⟨fs,a2,rfl,S,h1,h2,h3,h4⟩;refine ⟨fs,a2,rfl,S.mono (by omega),h1,h2,h3.trans (cpm fun p => ?_),by rw [lA,List.length_singleton] at h4; omega⟩;simp only [List.map_append,pC,List.map_nil,vL,rE,List.countP_append,show TC ([] : List Tr) = [] from rfl,List.countP_nil]; omega
   cases ws with
   | nil =>
    refine Do.seq (r := true) rfl (Do.t rfl ?_);exact out (by simp)
   | cons y ws =>
    refine Do.fb (by simp; omega) ?_;refine Do.assoc (Do.seq (r := rk y) rfl ?_);refine Do.seq rfl ?_;by_cases Z : y.t.r = x.t.r
    ·refine Do.f (by simp [rk,Z]) ?_;refine Do.seq (r := rk y) rfl ?_;have H1 : Hp κ n a it (x.t.nd x.u x.w ++ (y.t.nd y.u y.w ++ (LN ws ++ (LN os ++ N)))) L := H.p (npm fun p => by
      simp only [tx,Lt.nd,List.countP_append]; omega)
     have b2 := ej H F x (List.mem_cons_self ..);refine (fO (k := m) (by omega) H1 rfl Z (by omega)).bind ?_;rintro _ ⟨u,w,a1,rfl,S⟩;have gx := F x (List.mem_cons_self ..);have gy := F y (mC _ (List.mem_cons_self ..));obtain ⟨g1,g2,g3⟩ := bC gx gy Z.symm;have U : mCut (rk x :: (y :: ws).map rk) 2 (((x :: y :: ws).map rk).length : Int) = some (ws.map rk) := q8 (l := (x :: y :: ws).map rk) (i := 2) (by simp);refine Do.seq U ?_;have ew : w64 ((rk x).rank + 1) = ((x.t.r + 1 : Nat) : Int) := by
      simp only [rk]; rw [zF (by omega) (by omega)]; omega
     rw [ew];simp only [lC] at A;refine (jS (lk it x.t y.t).c ((x.t.r + 1 : Nat) : Int) (lc os) O a1 ws [] m (by omega) (by simp; omega) (by simp)).bind ?_;rintro _ ⟨p,r,ep,rfl,X,Y⟩;simp only [List.nil_append] at ep;subst ep;have el : qx ((p ++ r).map rk) (p.length : Int) ([zk.mk ((lk it x.t y.t).c : Int) ((x.t.r + 1 : Nat) : Int)] : List zk) = some ((p ++ (⟨lk it x.t y.t,u,w⟩ : Lt) :: r).map rk) := by
      unfold qx;simp only [lA] at A;rw [if_pos ⟨by omega,by simp; omega,by simp; omega⟩];simp only [tN,List.map_append,pC];rw [List.take_left' (by simp),List.drop_left' (by simp)];simp only [rk,g2]
      rfl
     refine Do.seq el ?_;have hlen : (p ++ (⟨lk it x.t y.t,u,w⟩ : Lt) :: r).length = q := by
      simp only [lA,lC] at A ⊢; omega
     have a0 := List.pairwise_cons.1 I;have D := List.pairwise_append.1 a0.2;have H3 : Hp κ (n + 11) a1 it (LN (p ++ (⟨lk it x.t y.t,u,w⟩ : Lt) :: r) ++ (LN os ++ N)) L := S.p (npm fun p => by
      simp only [tx,wP,Lt.nd,List.countP_append]; omega)
     have := m9 O q (p ++ (⟨lk it x.t y.t,u,w⟩ : Lt) :: r) os H3 m hlen (by omega) (by omega) (by
      intro l hl;rcases List.mem_append.1 hl with hl | hl
      ·exact F l (by simp [hl])
      ·rcases List.mem_cons.1 hl with rfl | hl
       ·exact g1
       ·exact F l (by simp [hl])) z (by
      refine List.pairwise_append.2 ⟨D.1,List.pairwise_cons.2 ⟨?_,D.2.1⟩,?_⟩
      ·intro l hl;simp only [g2];cases r with
       | nil => cases hl
       | cons r0 r =>
        have h0 := Y r0 r rfl;have h1 : r0.t.r <= l.t.r := by
         rcases List.mem_cons.1 hl with rfl | hl
         ·exact Nat.le_refl _
         ·exact (List.pairwise_cons.1 D.2.1).1 l hl
        omega
      ·intro o e l hl;rcases List.mem_cons.1 hl with rfl | hl
       ·have := X o e;simp only [g2]; omega
       ·exact D.2.2 o e l hl) B (by
      intro o e l hl;have h0 := j o e x (List.mem_cons_self ..);rcases List.mem_append.1 hl with hl | hl
      ·exact j o e l (by simp [hl])
      ·rcases List.mem_cons.1 hl with rfl | hl
       ·simp only [g2]; omega
       ·exact j o e l (by simp [hl]))
     refine this.mono ?_;rintro _ ⟨fs,a2,rfl,H4,h1,h2,h3,h4⟩;refine ⟨fs,a2,rfl,H4.mono (by omega),h1,h2,h3.trans (cpm fun p => ?_),by omega⟩;have := g3.countP_eq p;simp only [List.map_append,pC,vL,rE,List.countP_append] at this ⊢; omega
    ·refine Do.t (by simp [rk]; omega) ?_;refine out fun w hw => ?_
     have h1 := hx y (List.mem_cons_self ..);rcases List.mem_cons.1 hw with rfl | hw
     ·omega
     ·have := (List.pairwise_cons.1 I).1 w hw;omega
theorem sF {k : Nat} (hk : 3000 <= k) (ls : List Lt) (hl : ls.length <= 20) {n : Nat} {a : zb} (H : Hp κ n a it (LN ls ++ N) L) (i : ∀ l ∈ ls,GT b it l.t) :
  Do (w3 k a (lc ls)) fun r => ∃ f e,r = (f.hd,e) /\ Hp κ (n + 14 * ls.length) e it (nd f (-1) ++ N) L /\ (∀ t ∈ f.trees,GT b it t) /\ (f.trees.Pairwise fun s t => s.r < t.r) /\ f.cells.Perm (TC (ls.map Lt.t)) := by
 unfold w3;have A := ej H i;have h0 := jR (κ := κ) (it := it) (N := LN ls ++ N) (L := L) ls (fun l h => mL _ (nz h)) (by omega) ls [] H k (by omega) rfl;rw [w7];refine h0.bind ?_;rintro _ ⟨a1,rfl,H1⟩;refine (eN (ls.map rk) (by simpa using hl) (by omega) (by
  intro y B;obtain ⟨l,hl,rfl⟩ := List.mem_map.1 B;have := A l hl;exact ⟨by simp [rk],by simp only [rk]; omega⟩)).bind ?_
 rintro r ⟨hs,hp⟩;obtain ⟨ws,hw,rfl⟩ := fM hp ls rfl;have hlen : ws.length = ls.length := hw.length_eq;have j : Hp κ (n + ls.length) a1 it (LN ws ++ (LN ([] : List Lt) ++ N)) L := H1.p ((jh hw.symm).append_right _);have h1 := m9 (b := b) (lc ls) ws.length ws [] j k rfl (by simp; omega) (by omega) (fun l h => i l (hw.mem_iff.1 h)) (by simp) (by
  have := List.pairwise_map.1 hs;refine this.imp fun {x y} h => ?_
  simp only [rk] at h; omega) (by simp [LSS]) (by simp)
 refine h1.bind ?_;rintro _ ⟨fs,a2,rfl,u,g1,g2,g3,g4⟩;simp only [List.length_nil,Nat.add_zero] at g4;refine (eU fs (by omega) (by omega) u).bind ?_;rintro _ ⟨a3,rfl,z⟩;refine ⟨_,rfl,F.of (fs.map Lt.t),a3,rfl,z.mono (by omega),?_,?_,?_⟩
 ·rw [F.oG];intro t ht;obtain ⟨l,hl,rfl⟩ := List.mem_map.1 ht;exact g1 l hl
 ·rw [F.oG];exact List.pairwise_map.2 g2
 ·rw [F.yZ,F.oG];refine g3.trans ?_;rw [show TC (([] : List Lt).map Lt.t) = [] from rfl,aN];exact gW (hw.map _)
end
end
noncomputable section
set_option maxRecDepth 10000
section
variable {κ : Cfg} {n : Nat} {a : zb} {it : Nat -> It} {N : List Nd} {L : Heap} {b : Bool}
theorem qQ (e : List Tr) : (cs e).length = e.length := by simp [cs]
theorem vv {k : Nat} {f : F} (H : Hp κ n a it N L) (hs : ∀ ν ∈ nd f (-1),ν ∈ N) (hl : f.len <= κ.C) (hk : f.len < k) :
  Do (wg k a f.hd) fun r => ∃ e,r = (cs f.trees,e) /\ Hp κ (n + f.len) e it N L := by
 unfold wg pf;refine Do.assoc ((eB f (-1) H hs k [] hk (by simpa using hl)).bind ?_);rintro _ ⟨a1,rfl,H1⟩;exact ⟨_,rfl,a1,by simp [qB,cs],H1⟩
theorem kg {k : Nat} {ν : Nd} {f : F} (H : Hp κ n a it N L) (j : ν ∈ N) (hd : ν.down = f.hd) (hs : ∀ μ ∈ nd f ν.c,μ ∈ N) (hl : f.len <= κ.C) (hk : f.len < k) :
  Do (tw k a (ν.c : Int)) fun r => ∃ e,r = (cs f.trees,e) /\ Hp κ (n + 1 + f.len) e it N L := by
 unfold tw pf;have hh := qu H hs;refine (H.getc j (f := 1) (v := f.hd) hh.1 hh.2 (by rw [<- hd]; rfl)).bind ?_;rintro _ ⟨a1,rfl,H1⟩;refine Do.assoc ((eB f ν.c H1 hs k [] hk (by simpa using hl)).bind ?_);rintro _ ⟨a2,rfl,i⟩;exact ⟨_,rfl,a2,by simp [qB,cs],i⟩
theorem lv : ∀ (f : F) (q : Nat),Ord it (nd f (q : Int)) -> ∀ c ∈ f.cells,¬ (it c).lt (it q)
 | .nil,q,h,c,e => by simp [F.cells] at e
 | .cons d r kids rest,q,h,c,e => by
  have h0 : ¬ (it d).lt (it q) := h ⟨d,q,kids.hd,-1,rest.hd,r,0⟩ (List.mem_cons_self ..) q rfl;have h1 : Ord it (nd kids d) := h.sub fun ν i => mC _ (mL _ i)
  have h2 : Ord it (nd rest q) := h.sub fun ν i => mC _ (List.mem_append_right _ i)
  rw [F.cells] at e;rcases List.mem_cons.1 e with rfl | e
  ·exact h0
  ·rcases List.mem_append.1 e with e | e
   ·exact It.le_trans h0 (lv kids d h1 c e)
   ·exact lv rest q h2 c e
theorem GT.least {t : Tr} (h : GT b it t) : ∀ c ∈ t.cells,¬ (it c).lt (it t.c) := by
 intro c e;rcases List.mem_cons.1 e with rfl | e
 ·exact It.lt_irrefl _
 ·exact lv t.kids t.c h.ord c e
theorem uJ {f : F} {up : Int} (h : ∀ t ∈ f.trees,GT b it t) : ∀ l ∈ f.loose up,GT b it l.t := fun l hl => h l.t (by rw [<- xq f up]; exact List.mem_map_of_mem hl)
theorem oc : ∀ {f : F} {r : Nat},SK b f r -> ∀ t ∈ f.trees,SK b t.kids t.r /\ t.r < r := by
 intro f r h;induction h with
 | nil => intro t ht; simp [F.trees] at ht
 | real h1 h2 i1 i2 =>
  intro t ht;rw [F.trees] at ht;rcases List.mem_cons.1 ht with rfl | ht
  ·exact ⟨h1,Nat.lt_succ_self _⟩
  ·obtain ⟨e,i⟩ := i2 t ht;exact ⟨e,by omega⟩
 | leaf j h1 h2 i1 i2 =>
  intro t ht;rw [F.trees,F.trees] at ht;rcases List.mem_cons.1 ht with rfl | ht
  ·exact ⟨.nil,by simp⟩
  rcases List.mem_cons.1 ht with rfl | ht
  ·exact ⟨h1,Nat.lt_succ_self _⟩
  ·obtain ⟨e,i⟩ := i2 t ht;exact ⟨e,by omega⟩
theorem eK : ∀ {f : F} {r : Nat},SK b f r -> f.len <= 2 * r /\ (b = false -> f.len = r) := by
 intro f r h;induction h with
 | nil => exact ⟨by simp [F.len,F.trees],fun _ => rfl⟩
 | real h1 h2 i1 i2 =>
  simp only [F.len,F.trees,lC] at *
  exact ⟨by omega,fun e => by have := i2.2 e; omega⟩
 | leaf i h1 h2 i1 i2 =>
  simp only [F.len,F.trees,lC] at *
  exact ⟨by omega,fun e => by rw [e] at i; cases i⟩
theorem pg : ∀ {f : F} {up : Int},Ord it (nd f up) -> ∀ t ∈ f.trees,Ord it (nd t.kids t.c)
 | .nil,up,h,t,ht => by simp [F.trees] at ht
 | .cons c r kids rest,up,h,t,ht => by
  rw [F.trees] at ht;rcases List.mem_cons.1 ht with rfl | ht
  ·exact h.sub fun ν e => mC _ (mL _ e)
  ·exact pg (f := rest) (up := up) (h.sub fun ν e => mC _ (List.mem_append_right _ e)) t ht
theorem ee : ∀ {f : F},(∀ t ∈ f.trees,Ord it (nd t.kids t.c)) -> Ord it (nd f (-1))
 | .nil,h => fun ν e => by simp [nd] at e
 | .cons c r kids rest,h => by
  intro ν e q hq;rw [nd] at e;rcases List.mem_cons.1 e with rfl | e
  ·simp only at hq; omega
  ·rcases List.mem_append.1 e with e | e
   ·exact h ⟨c,r,kids⟩ (by simp [F.trees]) ν e q hq
   ·exact ee (f := rest) (fun t ht => h t (by simp [F.trees,ht])) ν e q hq
theorem GT.kids {t : Tr} (h : GT b it t) : ∀ s ∈ t.kids.trees,GT b it s := fun s hs => ⟨(oc h.sk s hs).1,pg h.ord s hs⟩
end
theorem j5 (l : List Int) (v : Int) (hl : l.length < 100000) : ∀ (post pre : List Int) (m : Nat),post.length < m -> l = pre ++ post -> v ∈ post ->
  ∃ j : Nat,wC v (l.length : Int) l m (pre.length : Int) = some (.inl (j : Int))
 | [],pre,m,hm,e,hv => by simp at hv
 | x :: post,pre,m,hm,e,hv => by
  obtain ⟨m,rfl⟩ : ∃ q,m = q + 1 := ⟨m - 1,by simp at hm; omega⟩
  simp only [lC] at hm;have hlen : pre.length < 100000 := by have := congrArg List.length e; simp at this; omega
  have t : mIdx l (pre.length : Int) = some x := by rw [e]; exact yu ..
  rw [wC,dT (by rw [e]; simp; omega),t];simp only [cT,bS];by_cases h : v = x
  ·subst h;exact ⟨pre.length,by simp⟩
  ·rw [show (v == x) = false by simpa using h,cF,zF (by omega) (by omega)];have := j5 l v hl post (pre ++ [x]) m (by omega) (by rw [e]; simp) (by simpa [h] using hv);have i : ((pre ++ [x]).length : Int) = (pre.length : Int) + 1 := by simp
   rw [i] at this;exact this
theorem qP {k : Nat} (l : List Int) (v : Int) (hl : l.length < 100000) (hk : l.length < k) (hv : v ∈ l) : wB k l v = some true := by
 unfold wB te;obtain ⟨j,e⟩ := j5 l v hl l [] k hk rfl hv;rw [show ((0 : Int)) = (([] : List Int).length : Int) from rfl,e];simp
section
variable {κ : Cfg} {n : Nat} {a : zb} {it : Nat -> It} {N : List Nd} {L : Heap} {b : Bool}
theorem qg {f : F} {t : Tr} (H : Hp κ n a it (nd f (-1) ++ N) L) (ht : t ∈ f.trees) : ∃ p q,f.trees = p ++ t :: q /\ (t.c : Int) ∉ cs p /\ (t.c : Int) ∉ cs q := by
 obtain ⟨p,q,e⟩ := List.append_of_mem ht;have h1 : (f.cells).Nodup := by
  rw [<- y4 f (-1)];have := H.nd;rw [List.map_append] at this;exact (List.nodup_append.1 this).1
 rw [F.yZ,e,vL,rE] at h1;have h2 := (List.nodup_append.1 h1)
 have mem : ∀ {l : List Tr} {c : Nat},(c : Int) ∈ cs l -> c ∈ TC l := by
  intro l c i;obtain ⟨s,hs,e⟩ := List.mem_map.1 i;have : s.c = c := by omega
  exact List.mem_flatMap.2 ⟨s,hs,by rw [<- this]; exact List.mem_cons_self ..⟩
 refine ⟨p,q,e,fun h => ?_,fun h => ?_⟩
 ·exact h2.2.2 _ (mem h) t.c (mL _ (List.mem_cons_self ..)) rfl
 ·exact (List.nodup_append.1 h2.2.1).2.2 t.c (List.mem_cons_self ..) _ (mem h) rfl
theorem qy : ∀ {f : F} {up : Int} {p q : List Tr} {t : Tr},f.trees = p ++ t :: q -> ∃ p' i w,f.loose up = p' ++ (⟨t,up,w⟩ : Lt) :: i /\ p'.map Lt.t = p /\ i.map Lt.t = q
 | .nil,up,p,q,t,e => by simp [F.trees] at e
 | .cons c r kids rest,up,[],q,t,e => by
  simp only [F.trees,List.nil_append,List.cons.injEq] at e;exact ⟨[],rest.loose up,rest.hd,by rw [F.loose,e.1]; rfl,rfl,by rw [xq]; exact e.2⟩
 | .cons c r kids rest,up,x :: p,q,t,e => by
  simp only [F.trees,List.cons_append,List.cons.injEq] at e;obtain ⟨p',i,w,h1,h2,h3⟩ := qy (f := rest) (up := up) e.2;exact ⟨⟨⟨c,r,kids⟩,up,rest.hd⟩ :: p',i,w,by rw [F.loose,h1]; rfl,by simp [h2,e.1],h3⟩
end
end
noncomputable section
set_option maxRecDepth 10000
def UpOK (M : List Nd) : Prop := ∀ ν ∈ M,0 <= ν.rank /\ (ν.up = -1 \/ ∃ μ ∈ M,ν.up = (μ.c : Int) /\ ν.rank < μ.rank)
structure RI (it : Nat -> It) (M : List Nd) (c : Nat) (any : Bool) : Prop where
 rest : ∀ ν ∈ M,ν.c ≠ c -> ∀ q : Nat,ν.up = (q : Int) -> q ≠ c -> ¬ (it ν.c).lt (it q)
 over : ∀ ν ∈ M,ν.up = (c : Int) -> ∀ μ ∈ M,μ.c = c -> ∀ q : Nat,μ.up = (q : Int) -> ¬ (it ν.c).lt (it q)
 down : any = false -> ∀ ν ∈ M,ν.up = (c : Int) -> ¬ (it ν.c).lt (it c)
theorem eP (it : Nat -> It) {c d : Nat} (h : c ≠ d) : swp it c d c = it d := by simp [swp,upd,h]
theorem eQ (it : Nat -> It) (c d : Nat) : swp it c d d = it c := by simp [swp,upd]
theorem kH (it : Nat -> It) {c d e : Nat} (h : e ≠ c) (i : e ≠ d) : swp it c d e = it e := by simp [swp,upd,h,i]
theorem iy {it : Nat -> It} {c d : Nat} {l : List Nat} (hn : l.Nodup) (j : c ∈ l) (hd : d ∈ l) (h : c ≠ d) : (l.map (swp it c d)).Perm (l.map it) := by
 have h1 : l.Perm (c :: d :: (l.erase c).erase d) := (List.perm_cons_erase j).trans ((List.perm_cons_erase ((List.mem_erase_of_ne (Ne.symm h)).2 hd)).cons c);have h2 : (c :: d :: (l.erase c).erase d).Nodup := h1.nodup_iff.1 hn;simp only [List.nodup_cons,iC,not_or] at h2;refine (h1.map _).trans (List.Perm.trans ?_ (h1.map _).symm);simp only [pC];rw [eP it h,eQ];have : ((l.erase c).erase d).map (swp it c d) = ((l.erase c).erase d).map it := List.map_congr_left fun e he => kH it (fun i => h2.1.2 (i ▸ he)) (fun i => h2.2.1 (i ▸ he))
 rw [this];exact List.Perm.swap ..
theorem bG {M : List Nd} {ν μ : Nd} (l : ν ∈ M) (j : μ ∈ M) (h : ν.c ≠ μ.c) : ∃ i,M.Perm (ν :: μ :: i) := by
 obtain ⟨p,q,rfl⟩ := List.append_of_mem l;have hp : (p ++ ν :: q).Perm (ν :: (p ++ q)) := List.perm_middle;rcases List.mem_cons.1 (hp.mem_iff.1 j) with e | hm
 ·exact absurd (e ▸ rfl) h
 ·obtain ⟨p',t,e⟩ := List.append_of_mem hm;exact ⟨p' ++ t,hp.trans (by rw [e]; exact List.perm_middle.cons ν)⟩
section
variable {κ : Cfg} {N : List Nd} {L : Heap} {b : Bool}
theorem bP (any : Bool) (M : List Nd) (hU : UpOK M) (R : Int) (hR : ∀ ν ∈ M,ν.rank <= R) : ∀ (d : Nat) {it : Nat -> It} {n : Nat} {a : zb} (H : Hp κ n a it (M ++ N) L) (ν : Nd),ν ∈ M -> R - ν.rank <= d -> ∀ (m : Nat) (O : Int),d + 10 < m -> 0 <= O -> O + d <= κ.C -> RI it M ν.c any ->
  Do (w4 any m (ν.c : Int) O a) fun r => ∃ μ it' U,r = ((μ.c : Int),U) /\ μ ∈ M /\ Hp κ (n + 13 * d + 7) U it' (M ++ N) L /\ it' μ.c = it ν.c /\ (∀ c,c ∉ M.map Nd.c -> it' c = it c) /\ ((M.map Nd.c).map it').Perm ((M.map Nd.c).map it) /\ (any = false -> Ord it' M) /\ (any = true -> μ.up = -1 /\ RI it' M μ.c true) := by
 intro d;induction d with
 | zero =>
  intro it n a H ν y hd m O hm a7 hk x;obtain ⟨m,rfl⟩ : ∃ q,m = q + 1 := ⟨m - 1,by omega⟩
  have j : ν.up = -1 := by
   rcases (hU ν y).2 with h | ⟨μ,z,h1,h2⟩
   ·exact h
   ·have := hR μ z; omega
  have D : ν ∈ M ++ N := mL _ y;rw [w4];refine Do.tb (bne_iff_ne.2 (by omega)) ?_;refine Do.assoc (Do.seq (Ar.cells H) ?_);refine Do.seq rfl (Do.t (dT (by omega)) ?_);refine (H.getc D (f := 0) (v := ν.up) (by omega) (by omega)).bind ?_;rintro _ ⟨a1,rfl,H1⟩;refine Do.tb (by simp [j]) ?_;refine Do.seq rfl (Do.t rfl ?_);refine ⟨_,rfl,ν,it,a1,rfl,y,H1.mono (by omega),rfl,fun _ _ => rfl,.refl _,fun ha => ?_,fun ha => ⟨j,ha ▸ x⟩⟩;intro A i q hq;by_cases h1 : A.c = ν.c
  ·have := H.same (mL _ i) D h1;subst this; omega
  ·by_cases h2 : q = ν.c
   ·rw [h2] at hq ⊢; exact x.down ha A i hq
   ·exact x.rest A i h1 q hq h2
 | succ d ih =>
  intro it n a H ν y hd m O hm a7 hk x;obtain ⟨m,rfl⟩ : ∃ q,m = q + 1 := ⟨m - 1,by omega⟩
  have D : ν ∈ M ++ N := mL _ y;have b3 := H.cap;rw [w4];refine Do.tb (bne_iff_ne.2 (by omega)) ?_;refine Do.assoc (Do.seq (Ar.cells H) ?_);refine Do.seq rfl (Do.t (dT (by omega)) ?_);rcases (hU ν y).2 with j | ⟨μ,z,j,a8⟩
  ·refine (H.getc D (f := 0) (v := ν.up) (by omega) (by omega)).bind ?_;rintro _ ⟨a1,rfl,H1⟩;refine Do.tb (by simp [j]) ?_;refine Do.seq rfl (Do.t rfl ?_);refine ⟨_,rfl,ν,it,a1,rfl,y,H1.mono (by omega),rfl,fun _ _ => rfl,.refl _,fun ha => ?_,fun ha => ⟨j,ha ▸ x⟩⟩;intro A i q hq;by_cases h1 : A.c = ν.c
   ·have := H.same (mL _ i) D h1;subst this; omega
   ·by_cases h2 : q = ν.c
    ·rw [h2] at hq ⊢; exact x.down ha A i hq
    ·exact x.rest A i h1 q hq h2
  ·have mμ : μ ∈ M ++ N := mL _ z;have c1 := H.lt mμ;have l : ν.c ≠ μ.c := fun e => by
    have := H.same D mμ e;rw [this] at a8; omega
   refine (H.getc D (f := 0) (v := ν.up) (by omega) (by omega)).bind ?_;rintro _ ⟨a1,rfl,H1⟩;refine Do.fb (by simp [j]) ?_;have go : ∀ {Z : Nat} {a2 : zb} (S : Hp κ Z a2 it (M ++ N) L),Z <= n + 7 -> (any = false -> (it ν.c).lt (it μ.c)) ->
     Do ((sM a2 (ν.c : Int) (μ.c : Int)).bind fun b2 => w4 any m (μ.c : Int) (w64 (O + 1)) b2) fun r => ∃ μ it' U,r = ((μ.c : Int),U) /\ μ ∈ M /\ Hp κ (n + 13 * (d + 1) + 7) U it' (M ++ N) L /\ it' μ.c = it ν.c /\ (∀ c,c ∉ M.map Nd.c -> it' c = it c) /\ ((M.map Nd.c).map it').Perm ((M.map Nd.c).map it) /\ (any = false -> Ord it' M) /\ (any = true -> μ.up = -1 /\ RI it' M μ.c true) := by
    intro Z a2 S c2 I;obtain ⟨M',Y⟩ := bG y z l;have H3 : Hp κ Z a2 it (ν :: μ :: (M' ++ N)) L := S.p (Y.append_right N);refine (qo H3).bind ?_;intro a3 H4;have H5 : Hp κ (Z + 6) a3 (swp it ν.c μ.c) (M ++ N) L := H4.p (Y.append_right N).symm;have same : ∀ ξ ∈ M,∀ ζ ∈ M,ξ.c = ζ.c -> ξ = ζ := fun ξ u ζ B e => H.same (mL _ u) (mL _ B) e
    have par : ∀ ξ ∈ M,∀ q : Nat,ξ.up = (q : Int) -> ∃ ζ ∈ M,ζ.c = q /\ ξ.rank < ζ.rank := by
     intro ξ u q hq;rcases (hU ξ u).2 with h | ⟨ζ,B,h1,h2⟩
     ·omega
     ·exact ⟨ζ,B,by omega,h2⟩
    have a5 : RI (swp it ν.c μ.c) M μ.c any := by
     refine ⟨?_,?_,?_⟩
     ·intro ξ u h1 q hq h2;have h3 : ξ.c ≠ ν.c := fun e => by
       have := same ξ u ν y e;subst this; omega
      rw [kH it h3 h1];by_cases h4 : q = ν.c
      ·rw [h4,eP it l];rw [h4] at hq;exact x.over ξ u hq ν y rfl μ.c j
      ·rw [kH it h4 h2];exact x.rest ξ u h3 q hq h4
     ·intro ξ u h1 J a9 e q hq;have := same J a9 μ z e;subst this;obtain ⟨ζ,B,e1,h2⟩ := par J z q hq;have q1 : q ≠ J.c := fun W => by
       have := same ζ B J z (by omega);subst this; omega
      have q2 : q ≠ ν.c := fun W => by
       have := same ζ B ν y (by omega);subst this; omega
      rw [kH it q2 q1];have h3 := x.rest J z (Ne.symm l) q hq q2;by_cases h4 : ξ.c = ν.c
      ·rw [h4,eP it l]; exact h3
      ·have X : ξ.c ≠ J.c := fun W => by
        have := same ξ u J z W;subst this;obtain ⟨ζ,B,e1,h2⟩ := par ξ u ξ.c h1;have := same ζ B ξ u e1;subst this; omega
       rw [kH it h4 X];exact It.le_trans h3 (x.rest ξ u h4 J.c h1 (Ne.symm l))
     ·intro ha ξ u h1;rw [eQ];by_cases h4 : ξ.c = ν.c
      ·rw [h4,eP it l]; exact It.lt_asymm (I ha)
      ·have X : ξ.c ≠ μ.c := fun W => by
        have := same ξ u μ z W;subst this;obtain ⟨ζ,B,e1,h2⟩ := par ξ u ξ.c h1;have := same ζ B ξ u e1;subst this; omega
       rw [kH it h4 X];exact It.le_trans (It.lt_asymm (I ha)) (x.rest ξ u h4 μ.c h1 (Ne.symm l))
    have := ih H5 μ z (by omega) m (w64 (O + 1)) (by omega) (by rw [zF (by omega) (by omega)]; omega) (by rw [zF (by omega) (by omega)]; omega) a5;refine this.mono ?_;rintro _ ⟨μ2,b0,a4,rfl,h1,h2,h3,h4,X,h6,h7⟩;refine ⟨μ2,b0,a4,rfl,h1,h2.mono (by omega),by rw [h3,eQ],?_,?_,h6,h7⟩
    ·intro c F;rw [h4 c F];exact kH it (fun e => F (e ▸ List.mem_map_of_mem y)) (fun e => F (e ▸ List.mem_map_of_mem z))
    ·refine X.trans (iy ?_ (List.mem_map_of_mem y) (List.mem_map_of_mem z) l);have := H.nd;rw [List.map_append] at this;exact (List.nodup_append.1 this).1
   rw [j];cases any with
   | true =>
    refine Do.fb rfl ?_;refine Do.seq rfl (Do.f rfl ?_);exact go H1 (by omega) (fun h => by cases h)
   | false =>
    refine Do.tb rfl ?_;refine Do.assoc ((H1.before (k := m) (by omega) D mμ).bind ?_);rintro _ ⟨a2,rfl,S⟩;refine Do.seq rfl ?_;by_cases F : (it ν.c).lt (it μ.c)
    ·refine Do.f (by simp [F]) ?_;exact go S (by omega) (fun _ => F)
    ·refine Do.t (by simp [F]) ?_;refine ⟨_,rfl,ν,it,a2,rfl,y,S.mono (by omega),rfl,fun _ _ => rfl,.refl _,fun ha => ?_,fun ha => by cases ha⟩;intro A i q hq;by_cases h1 : A.c = ν.c
     ·have := H.same (mL _ i) D h1;subst this;have : q = μ.c := by omega
      subst this; exact F
     ·by_cases h2 : q = ν.c
      ·rw [h2] at hq ⊢; exact x.down ha A i hq
      ·exact x.rest A i h1 q hq h2
theorem px {k : Nat} (any : Bool) (M : List Nd) (l : UpOK M) (R : Nat) (x : ∀ ν ∈ M,ν.rank <= R) {it : Nat -> It} {n : Nat} {a : zb} (H : Hp κ n a it (M ++ N) L) (ν : Nd) (e : ν ∈ M) (hk : R + 10 < k) (hC : R <= κ.C) (u : RI it M ν.c any) :
  Do (uR k a ((it ν.c).i : Int) any) fun r => ∃ μ it' j,r = ((μ.c : Int),j) /\ μ ∈ M /\ Hp κ (n + 13 * R + 8) j it' (M ++ N) L /\ it' μ.c = it ν.c /\ (∀ c,c ∉ M.map Nd.c -> it' c = it c) /\ ((M.map Nd.c).map it').Perm ((M.map Nd.c).map it) /\ (any = false -> Ord it' M) /\ (any = true -> μ.up = -1 /\ RI it' M μ.c true) := by
 unfold uR vu;have t : ν ∈ M ++ N := mL _ e;refine Do.assoc ((Ar.cell H (H.item t) (f := 9) (v := (ν.c : Int)) rfl (by omega) (by have := H.lt t; omega)).bind ?_);rintro _ ⟨a1,rfl,H1⟩;have h0 := (l ν e).1;refine Do.seq rfl ?_;refine (bP any M l R x R (N := N) H1 ν e (by omega) k 0 hk (by omega) (by omega) u).bind ?_;rintro _ ⟨μ,it',a2,rfl,h1,h2,h3⟩;exact ⟨_,rfl,μ,it',a2,rfl,h1,h2.mono (by omega),h3⟩
end
end
noncomputable section
set_option maxRecDepth 10000
def gV (b : Bool) : List Tr -> Prop
 | [] => True
 | t :: r => r.Pairwise (fun s u => s.r < u.r) /\ (∀ s ∈ r,t.r <= s.r) /\ (b = false -> ∀ s ∈ r,t.r < s.r)
theorem gV.of {b : Bool} {l : List Tr} (h : l.Pairwise fun s u => s.r < u.r) : gV b l := by
 cases l with
 | nil => trivial
 | cons t r =>
  obtain ⟨h1,h2⟩ := List.pairwise_cons.1 h;exact ⟨h2,fun s hs => Nat.le_of_lt (h1 s hs),fun _ => h1⟩
theorem iq {R : Nat} {l : List Tr} (h : l.Pairwise fun s u => s.r < u.r) (e : ∀ t ∈ l,t.r < R) : l.length <= R := by
 have h1 : (l.map Tr.r).Nodup := by
  refine List.pairwise_map.2 (h.imp fun {x y} h => ?_);omega
 have := rL (m := List.range R) h1 (by
  intro x i;obtain ⟨t,ht,rfl⟩ := List.mem_map.1 i;exact List.mem_range.2 (e t ht))
 simpa using this
structure HB (b : Bool) (it : Nat -> It) (f : F) : Prop where
 good : ∀ t ∈ f.trees,GT b it t
 row : gV b f.trees
theorem rV : ∀ {f : F} {t : Tr},t ∈ f.trees -> t.kids.size + 1 <= f.size
 | .nil,t,h => by simp [F.trees] at h
 | .cons c r kids rest,t,h => by
  rw [F.trees] at h;rcases List.mem_cons.1 h with rfl | h
  ·simp only [F.size]; omega
  ·have := rV h;simp only [F.size]; omega
theorem HB.lt {b : Bool} {it : Nat -> It} {f : F} (h : HB b it f) {R : Nat} (e : f.size < 2 ^ R) : ∀ t ∈ f.trees,t.r < R := by
 intro t ht;have h1 := (h.good t ht).sk.size.1;have h2 := rV ht;exact (Nat.pow_lt_pow_iff_right (a := 2) (by decide)).1 (by omega)
theorem HB.len {b : Bool} {it : Nat -> It} {f : F} (h : HB b it f) {R : Nat} (i : f.size < 2 ^ R) : f.len <= R + 1 := by
 have h1 := h.lt i;have h2 := h.row;unfold F.len;cases e : f.trees with
 | nil => simp
 | cons t r =>
  rw [e] at h1 h2;have := iq h2.1 (fun s hs => h1 s (mC _ hs));simp only [lC]; omega
theorem HB.lenB {it : Nat -> It} {f : F} (h : HB false it f) {R : Nat} (i : f.size < 2 ^ R) : f.len <= R := by
 have h1 := h.lt i;have h2 := h.row;unfold F.len;cases e : f.trees with
 | nil => simp
 | cons t r =>
  rw [e] at h1 h2;exact iq (List.pairwise_cons.2 ⟨h2.2.2 rfl,h2.1⟩) h1
theorem HB.nil {b : Bool} {it : Nat -> It} : HB b it .nil := ⟨by simp [F.trees],trivial⟩
theorem HB.congr {b : Bool} {it it' : Nat -> It} {f : F} (h : HB b it f) (i : ∀ c ∈ f.cells,it' c = it c) : HB b it' f := by
 refine ⟨fun t ht => ⟨(h.good t ht).sk,?_⟩,h.row⟩;have h1 := (h.good t ht).ord;have l : ∀ c ∈ t.cells,c ∈ f.cells := fun c i => by rw [F.yZ]; exact List.mem_flatMap.2 ⟨t,ht,i⟩
 have A : ∀ (g : F) (q : Nat),(∀ c ∈ g.cells,it' c = it c) -> it' q = it q -> Ord it (nd g (q : Int)) -> Ord it' (nd g (q : Int)) := by
  intro g;induction g with
  | nil => intro q _ _ _ ν e; simp [nd] at e
  | cons c r kids rest i1 i2 =>
   intro q y hq z;have hk : ∀ d ∈ kids.cells,it' d = it d := fun d hd => y d (by rw [F.cells]; exact mC _ (mL _ hd))
   have B : ∀ d ∈ rest.cells,it' d = it d := fun d hd => y d (by rw [F.cells]; exact mC _ (List.mem_append_right _ hd))
   have i : it' c = it c := y c (by rw [F.cells]; exact List.mem_cons_self ..);intro ν e u j;rw [nd] at e;rcases List.mem_cons.1 e with rfl | e
   ·simp only at j ⊢;have : u = q := by omega
    subst this;rw [i,hq];exact z _ (List.mem_cons_self ..) u rfl
   ·rcases List.mem_append.1 e with e | e
    ·exact i1 c hk i (z.sub fun ν h => mC _ (mL _ h)) ν e u j
    ·exact i2 q B hq (z.sub fun ν h => mC _ (List.mem_append_right _ h)) ν e u j
 exact A t.kids t.c (fun c x => i c (l c (mC _ x))) (i _ (l _ (List.mem_cons_self ..))) h1
theorem upok : ∀ {b : Bool} (f : F) (up : Int),(∀ t ∈ f.trees,SK b t.kids t.r) -> ∀ ν ∈ nd f up,0 <= ν.rank /\ ((ν.up = up /\ ∃ t ∈ f.trees,ν.rank = t.r /\ ν.c = t.c) \/ ∃ μ ∈ nd f up,ν.up = (μ.c : Int) /\ ν.rank < μ.rank)
 | b,.nil,up,h,ν,e => by simp [nd] at e
 | b,.cons c r kids rest,up,h,ν,e => by
  have hh := h ⟨c,r,kids⟩ (by simp [F.trees]);rw [nd] at e;rcases List.mem_cons.1 e with rfl | e
  ·exact ⟨by simp only; omega,Or.inl ⟨rfl,⟨c,r,kids⟩,by simp [F.trees],rfl,rfl⟩⟩
  ·rcases List.mem_append.1 e with e | e
   ·obtain ⟨h0,h1⟩ := upok (b := b) kids c (fun t ht => (oc hh t ht).1) ν e;refine ⟨h0,Or.inr ?_⟩;rcases h1 with ⟨h1,t,ht,h2,_⟩ | ⟨μ,i,h1⟩
    ·have : t.r < r := (oc hh t ht).2;exact ⟨_,List.mem_cons_self ..,h1,by simp only; omega⟩
    ·exact ⟨μ,mC _ (mL _ i),h1⟩
   ·obtain ⟨h0,h1⟩ := upok (b := b) rest up (fun t ht => h t (by simp [F.trees,ht])) ν e;refine ⟨h0,?_⟩;rcases h1 with ⟨h1,t,ht,h2⟩ | ⟨μ,i,h1⟩
    ·exact Or.inl ⟨h1,t,by simp [F.trees,ht],h2⟩
    ·exact Or.inr ⟨μ,mC _ (List.mem_append_right _ i),h1⟩
theorem p9 : ∀ {b : Bool} (f : F) (up : Int),(∀ t ∈ f.trees,SK b t.kids t.r) -> ∀ ν ∈ nd f up,∃ t ∈ f.trees,ν.rank <= t.r
 | b,.nil,up,h,ν,e => by simp [nd] at e
 | b,.cons c r kids rest,up,h,ν,e => by
  have hh := h ⟨c,r,kids⟩ (by simp [F.trees]);rw [nd] at e;rcases List.mem_cons.1 e with rfl | e
  ·exact ⟨⟨c,r,kids⟩,by simp [F.trees],Int.le_refl _⟩
  ·rcases List.mem_append.1 e with e | e
   ·obtain ⟨t,ht,h1⟩ := p9 (b := b) kids c (fun t ht => (oc hh t ht).1) ν e;have : t.r < r := (oc hh t ht).2;exact ⟨⟨c,r,kids⟩,by simp [F.trees],by simp only; omega⟩
   ·obtain ⟨t,ht,h1⟩ := p9 (b := b) rest up (fun t ht => h t (by simp [F.trees,ht])) ν e;exact ⟨t,by simp [F.trees,ht],h1⟩
theorem HB.upOK {b : Bool} {it : Nat -> It} {f : F} (h : HB b it f) : UpOK (nd f (-1)) := by
 intro ν e;obtain ⟨h0,h1⟩ := upok f (-1) (fun t ht => (h.good t ht).sk) ν e;refine ⟨h0,?_⟩;rcases h1 with ⟨h1,_⟩ | h1
 ·exact Or.inl h1
 ·exact Or.inr h1
theorem HB.ord {b : Bool} {it : Nat -> It} {f : F} (h : HB b it f) : Ord it (nd f (-1)) := ee fun t ht => (h.good t ht).ord
theorem Ord.lower {it : Nat -> It} {M : List Nd} {c : Nat} {x : It} (h : Ord it M) (y : ¬ (it c).lt x) (t : ∀ ν ∈ M,∀ μ ∈ M,ν.c = μ.c -> ν = μ) (i : ∀ ν ∈ M,ν.up ≠ (ν.c : Int)) : RI (upd it c x) M c false := by
 refine ⟨?_,?_,?_⟩
 ·intro ν j h1 q hq h2;rw [vq _ _ h1,vq _ _ h2]; exact h ν j q hq
 ·intro ν j h1 μ u e q hq;have h2 : ν.c ≠ c := fun l => by
   have := i ν j;rw [l] at this; exact this h1
  have h3 : q ≠ c := fun l => by
   have := i μ u;rw [e,<- l] at this; exact this hq
  rw [vq _ _ h2,vq _ _ h3];have := h μ u q hq;rw [e] at this;exact It.le_trans this (h ν j c h1)
 ·intro _ ν j h1;have h2 : ν.c ≠ c := fun l => by
   have := i ν j;rw [l] at this; exact this h1
  rw [vq _ _ h2,ub];exact fun h3 => h ν j c h1 (It.ia h3 y)
theorem Ord.any {it : Nat -> It} {M : List Nd} {c : Nat} (h : Ord it M) : RI it M c true := by
 refine ⟨fun ν i h1 q hq h2 => h ν i q hq,fun ν i h1 μ j e q hq => ?_,fun h => by cases h⟩;have := h μ j q hq;rw [e] at this;exact It.le_trans this (h ν i c h1)
theorem UpOK.self {M : List Nd} (h : UpOK M) (hs : ∀ ν ∈ M,∀ μ ∈ M,ν.c = μ.c -> ν = μ) : ∀ ν ∈ M,ν.up ≠ (ν.c : Int) := by
 intro ν i e;rcases (h ν i).2 with h1 | ⟨μ,j,h1,h2⟩
 ·omega
 ·have := hs μ j ν i (by omega);subst this; omega
theorem dD : ∀ (f : F) (up : Int),∀ ν ∈ nd f up,ν.c ∈ f.cells /\ (ν.up = up \/ ∃ d ∈ f.cells,ν.up = (d : Int))
 | .nil,up,ν,e => by simp [nd] at e
 | .cons c r kids rest,up,ν,e => by
  rw [nd] at e;rw [F.cells];rcases List.mem_cons.1 e with rfl | e
  ·exact ⟨List.mem_cons_self ..,Or.inl rfl⟩
  ·rcases List.mem_append.1 e with e | e
   ·obtain ⟨h1,h2⟩ := dD kids c ν e;refine ⟨mC _ (mL _ h1),Or.inr ?_⟩;rcases h2 with h2 | ⟨d,hd,h2⟩
    ·exact ⟨c,List.mem_cons_self ..,h2⟩
    ·exact ⟨d,mC _ (mL _ hd),h2⟩
   ·obtain ⟨h1,h2⟩ := dD rest up ν e;refine ⟨mC _ (List.mem_append_right _ h1),?_⟩;rcases h2 with h2 | ⟨d,hd,h2⟩
    ·exact Or.inl h2
    ·exact Or.inr ⟨d,mC _ (List.mem_append_right _ hd),h2⟩
theorem jz {f : F} {up : Int} : ∀ {t : Tr},t ∈ f.trees -> ∀ ν ∈ nd t.kids t.c,ν ∈ nd f up := by
 intro t ht ν e;rw [wN f up];rw [<- xq f up] at ht;obtain ⟨l,hl,rfl⟩ := List.mem_map.1 ht;exact List.mem_flatMap.2 ⟨l,hl,by rw [lU]; exact mC _ e⟩
section
variable {κ : Cfg} {n : Nat} {a : zb} {it : Nat -> It} {N : List Nd} {L : Heap} {b : Bool}
theorem sf {f : F} (H : Hp κ n a it (nd f (-1) ++ N) L) : 2 * f.size + 2 * N.length + L.length <= κ.C := by
 have := H.room;rw [lA,rK] at this; omega
theorem qM {k : Nat} {f : F} (H : Hp κ n a it N L) (hs : ∀ ν ∈ nd f (-1),ν ∈ N) (A : HB b it f) {t0 : Tr} {j : List Tr} (e : f.trees = t0 :: j) (hk : 95000 < k) (hl : f.len < 90000) :
  Do (ve k a (cs f.trees)) fun res => ∃ t x,t ∈ f.trees /\ res = ((t.c : Int),x) /\ Hp κ (n + 6 * f.len) x it N L /\ ∀ d ∈ f.cells,¬ (it d).lt (it t.c) := by
 have B : cs f.trees = zl (t0.c :: j.map Tr.c) := by rw [e]; simp [cs,zl]
 have hlen : f.len = j.length + 1 := by unfold F.len; rw [e]; rfl
 rw [B];have z : ∀ d ∈ t0.c :: j.map Tr.c,∃ ν ∈ N,ν.c = d := by
  intro d hd;have : d ∈ f.trees.map Tr.c := by rw [e]; exact hd
  rw [<- xq f (-1),List.map_map] at this;obtain ⟨l,hl,rfl⟩ := List.mem_map.1 this;exact ⟨l.top,hs _ (by rw [wN]; exact nz hl),rfl⟩
 refine (fh t0.c (j.map Tr.c) z (by simp; omega) (by simp; omega) H).mono ?_;rintro _ ⟨a1,rfl,H1⟩;rw [lM] at H1;have u : bst it t0.c (j.map Tr.c) ∈ f.trees.map Tr.c := by
  rw [e];rcases jj (it := it) (j.map Tr.c) t0.c with h | h
  ·rw [h]; exact List.mem_cons_self ..
  ·exact mC _ h
 obtain ⟨t,ht,y⟩ := List.mem_map.1 u;have i := jk (it := it) (j.map Tr.c) t0.c;rw [<- y] at i;refine ⟨t,a1,ht,by rw [y],H1.mono (by omega),fun d hd => ?_⟩;rw [F.yZ] at hd;obtain ⟨s,hs',hd⟩ := List.mem_flatMap.1 hd;have h1 := (A.good s hs').least d hd;refine It.le_trans ?_ h1;rw [e] at hs';rcases List.mem_cons.1 hs' with rfl | hs'
 ·exact i.1
 ·exact i.2 _ (List.mem_map_of_mem hs')
theorem ln {M : List Nd} (H : Hp κ n a it (M ++ N) L) : ∀ ν ∈ M,∀ μ ∈ M,ν.c = μ.c -> ν = μ := fun ν j μ i e => H.same (mL _ j) (mL _ i) e
theorem sG {f : F} {up : Int} {c : Nat} (h : c ∈ f.cells) : ∃ ν ∈ nd f up,ν.c = c := by
 rw [<- y4 f up] at h;obtain ⟨ν,e,rfl⟩ := List.mem_map.1 h;exact ⟨ν,e,rfl⟩
theorem size_le {f : F} (H : Hp κ n a it (nd f (-1) ++ N) L) (e : 0 < f.size) (j : ∀ t ∈ f.trees,SK b t.kids t.r) : ∃ R,(∀ t ∈ f.trees,t.r <= R) /\ R <= κ.C /\ (∀ Q,f.size < 2 ^ Q -> R < Q) := by
 have i := sf H;have : ∀ l : List Tr,(∀ t ∈ l,2 ^ t.r <= f.size) -> ∃ R,(∀ t ∈ l,t.r <= R) /\ 2 ^ R <= f.size := by
  intro l;induction l with
  | nil => intro _; exact ⟨0,by simp,by rw [Nat.pow_zero]; exact e⟩
  | cons t l ih =>
   intro h;obtain ⟨R,h1,h2⟩ := ih fun s hs => h s (mC _ hs)
   by_cases c : t.r <= R
   ·exact ⟨R,fun s hs => by
     rcases List.mem_cons.1 hs with rfl | hs
     ·exact c
     ·exact h1 s hs,h2⟩
   ·exact ⟨t.r,fun s hs => by
     rcases List.mem_cons.1 hs with rfl | hs
     ·exact Nat.le_refl _
     ·exact Nat.le_trans (h1 s hs) (by omega),h t (List.mem_cons_self ..)⟩
 obtain ⟨R,h1,h2⟩ := this f.trees fun t ht => by
  have u := (j t ht).size.1;have x := rV ht;omega
 refine ⟨R,h1,?_,fun Q y => (Nat.pow_lt_pow_iff_right (a := 2) (by decide)).1 (by omega)⟩;have : R < 2 ^ R := Nat.lt_two_pow_self;omega
theorem l8 (s t : List Tr) : cs (s ++ t) = cs s ++ cs t := List.map_append
theorem sH {f : F} {p q : List Tr} {t : Tr} (e : f.trees = p ++ t :: q) : f.cells.Perm (t.c :: (TC (p ++ q) ++ t.kids.cells)) := by
 rw [F.yZ,e];refine cpm fun P => ?_
 simp only [vL,rE,Tr.cells,List.countP_append,List.countP_cons,List.cons_append];omega
theorem kA {b : Bool} {it' : Nat -> It} {f : F} {t : Tr} {p q : List Tr} (hn : f.cells.Nodup) (A : HB b it f) (e : f.trees = p ++ t :: q) (D : RI it' (nd f (-1)) t.c true) :
  (∀ s ∈ p ++ q,GT b it' s) /\ (∀ s ∈ t.kids.trees,GT b it' s) := by
 rw [F.yZ,e] at hn;have z : (t.c :: (TC (p ++ q) ++ t.kids.cells)).Nodup := by
  refine (List.Perm.nodup_iff (cpm fun P => ?_)).1 hn;simp only [vL,rE,Tr.cells,List.countP_append,List.countP_cons,List.cons_append]; omega
 obtain ⟨h1,h2⟩ := List.nodup_cons.1 z;have key : ∀ s : Tr,(∀ ν ∈ nd s.kids s.c,ν ∈ nd f (-1)) -> (∀ d ∈ s.cells,d ≠ t.c) -> Ord it' (nd s.kids s.c) := by
  intro s hs hd ν i q hq;obtain ⟨B,x⟩ := dD s.kids s.c ν i;refine D.rest ν (hs ν i) (hd _ (mC _ B)) q hq ?_;rcases x with x | ⟨d,y,x⟩
  ·have : q = s.c := by omega
   subst this; exact hd _ (List.mem_cons_self ..)
  ·have : q = d := by omega
   subst this; exact hd _ (mC _ y)
 refine ⟨fun s hs => ?_,fun s hs => ?_⟩
 ·have j : s ∈ f.trees := by rw [e]; rcases List.mem_append.1 hs with h | h <;> simp [h]
  refine ⟨(A.good s j).sk,key s (fun ν i => jz j ν i) fun d hd u => ?_⟩;exact h1 (u ▸ mL _ (List.mem_flatMap.2 ⟨s,hs,hd⟩))
 ·have l : t ∈ f.trees := by rw [e]; simp
  have gt := A.good t l;refine ⟨(oc gt.sk s hs).1,key s (fun ν i => jz l ν (jz hs ν i)) fun d hd u => ?_⟩;refine h1 (u ▸ List.mem_append_right _ ?_);rw [F.yZ];exact List.mem_flatMap.2 ⟨s,hs,hd⟩
theorem ey {f : F} {μ : Nd} {b : Bool} (i : ∀ t ∈ f.trees,SK b t.kids t.r) (l : μ ∈ nd f (-1)) (j : μ.up = -1) : ∃ t ∈ f.trees,μ.c = t.c := by
 rcases (upok f (-1) i μ l).2 with ⟨_,t,ht,_,e⟩ | ⟨ξ,_,e,_⟩
 ·exact ⟨t,ht,e⟩
 ·omega
end
end
noncomputable section
set_option maxRecDepth 10000
section
variable {κ : Cfg} {n : Nat} {a : zb} {it : Nat -> It} {N : List Nd} {L : Heap} {b : Bool}
namespace Bi
theorem u0 (l : List Int) (v : Int) (hl : l.length < 100000) : ∀ (post pre : List Int) (m : Nat),post.length < m -> l = pre ++ post -> v ∉ pre ->
  (zX (l.length : Int) l v m (pre.length : Int) = some (.inr ()) /\ v ∉ post) \/ ∃ p q,l = p ++ v :: q /\ v ∉ p /\ zX (l.length : Int) l v m (pre.length : Int) = some (.inl (p.length : Int))
 | [],pre,m,hm,e,hv => by
  obtain ⟨m,rfl⟩ : ∃ q,m = q + 1 := ⟨m - 1,by simp at hm; omega⟩
  left
  rw [zX,dF (by rw [e]; simp)];exact ⟨rfl,by simp⟩
 | x :: post,pre,m,hm,e,hv => by
  obtain ⟨m,rfl⟩ : ∃ q,m = q + 1 := ⟨m - 1,by simp at hm; omega⟩
  simp only [lC] at hm;have hlen : pre.length < 100000 := by have := congrArg List.length e; simp at this; omega
  have j : mIdx l (pre.length : Int) = some x := by rw [e]; exact yu ..
  rw [zX,dT (by rw [e]; simp; omega),j];simp only [cT,bS,wz];by_cases h : x = v
  ·subst h
   right
   refine ⟨pre,post,e,hv,?_⟩;simp
  ·have t : (x == v) = false := by simpa using h
   rw [t,cF,zF (by omega) (by omega)];have := u0 l v hl post (pre ++ [x]) m (by omega) (by rw [e]; simp) (by simp [hv]; exact fun e => h e.symm);have i : ((pre ++ [x]).length : Int) = (pre.length : Int) + 1 := by simp
   rw [i] at this;rcases this with ⟨h1,h2⟩ | h1
   ·exact Or.inl ⟨h1,by simp [h2]; exact fun e => h e.symm⟩
   ·exact Or.inr h1
theorem uz (v : Int) : ∀ (R A : List Int) (g : Int) (m : Nat),R.length < m -> A.length + R.length < 100000 -> v ∉ R ->
  Do (yg v m (A.length : Int) ((A.length : Int) + 1) (A ++ g :: R)) fun r => ∃ i,r = (((A ++ R).length : Int),(A ++ R) ++ [i])
 | [],A,g,m,hm,j,hv => by
  obtain ⟨m,rfl⟩ : ∃ q,m = q + 1 := ⟨m - 1,by simp at hm; omega⟩
  rw [yg];refine Do.f (dF (by simp)) ?_;exact ⟨_,rfl,g,by simp⟩
 | x :: R,A,g,m,hm,j,hv => by
  obtain ⟨m,rfl⟩ : ∃ q,m = q + 1 := ⟨m - 1,by simp at hm; omega⟩
  simp only [lC] at hm j;simp only [iC,not_or] at hv;rw [yg];refine Do.t (dT (by simp; omega)) ?_;have u : mIdx (A ++ g :: x :: R) ((A.length : Int) + 1) = some x := by
   have := yu (A ++ [g]) R x;simpa using this
  refine Do.assoc (Do.seq u ?_);refine Do.assoc (Do.seq rfl ?_);refine Do.tb (by simp; exact fun e => hv.1 e.symm) ?_;refine Do.assoc (Do.seq (yu A (x :: R) g) ?_);refine Do.seq rfl ?_;have es : mSet (A ++ g :: x :: R) (A.length : Int) x = (A ++ [x]) ++ x :: R := by rw [nq]; simp
  rw [es,zF (by omega) (by omega),zF (by omega) (by omega)];have := uz v R (A ++ [x]) x m (by omega) (by simp; omega) hv.2;have l : ((A ++ [x]).length : Int) = (A.length : Int) + 1 := by simp
  rw [l] at this;refine this.mono ?_;rintro _ ⟨i,rfl⟩;exact ⟨i,by simp⟩
theorem tA {k : Nat} (p q : List Int) (v : Int) (hp : v ∉ p) (hq : v ∉ q) (hl : (p ++ v :: q).length < 100000) (hk : (p ++ v :: q).length < k) :
  y6 k (p ++ v :: q) v = some (p ++ q) := by
 unfold y6 xP;rcases u0 (p ++ v :: q) v hl (p ++ v :: q) [] k hk rfl (by simp) with ⟨_,h2⟩ | ⟨p',i,e,hv,h⟩
 ·simp at h2
 ·have l : p' = p /\ i = q := by
   clear h;have := congrArg (List.takeWhile (fun x => x != v)) e;have h1 : ∀ (p q : List Int),v ∉ p -> (p ++ v :: q).takeWhile (fun x => x != v) = p := by
    intro p q hp;rw [List.takeWhile_append_of_pos (by intro x A; simp; exact fun e => hp (e ▸ A))];simp
   rw [h1 p q hp,h1 p' i hv] at this;subst this;simpa using e.symm
  obtain ⟨rfl,rfl⟩ := l;have z : zX ((p' ++ v :: i).length : Int) (p' ++ v :: i) v k 0 = some (.inl (p'.length : Int)) := h;rw [z];simp only [bS];rw [show ((p'.length : Int) == -1) = false by simp,cF];simp only [lA,lC] at hl hk;rw [zF (by omega) (by omega)];obtain ⟨r,t,j,rfl⟩ := uz v i p' v k (by omega) (by omega) hq;rw [t];simp only [bS];have u : mCut ((p' ++ i) ++ [j]) ((p' ++ i).length : Int) (((p' ++ i) ++ [j]).length : Int) = some [j] := by
   rw [q8 (by simp)];simp
  rw [u];simp only [bS];have y : mCut (rz ((p' ++ i) ++ [j]) ((p' ++ i).length : Int) 0) 0 ((p' ++ i).length : Int) = some (p' ++ i) := by
   unfold mCut rz;have : ((p' ++ i ++ [j]).length - ((p' ++ i).length : Int).toNat) = 1 := by simp only [lA,List.length_singleton]; omega
   rw [this];simp only [tN];rw [List.take_left' (l₁ := p' ++ i) rfl];rw [if_pos ⟨by omega,by omega,by simp; omega⟩];simp only [Int.toNat_zero,List.drop_zero];rw [List.take_left' (l₁ := p' ++ i) rfl]
  rw [y]
  rfl
theorem lB {k : Nat} {f : F} (H : Hp κ n a it (nd f (-1) ++ N) L) (I : HB b it f) (hk : 95000 < k) :
  Do (uY k a f.hd) fun res => ∃ z,Hp κ (n + 7 * f.len + 1) z it (nd f (-1) ++ N) L /\ ((f = .nil /\ res = (-1,z)) \/ ∃ c ∈ f.cells,res = (((it c).i : Int),z) /\ ∀ d ∈ f.cells,¬ (it d).lt (it c)) := by
 unfold uY;have j : ∀ ν ∈ nd f (-1),ν ∈ nd f (-1) ++ N := fun ν h => mL _ h
 have A := sf H;have J := f.vj;have B := H.cap;refine (vv (k := k) H j (by omega) (by omega)).bind ?_;rintro _ ⟨a1,rfl,H1⟩;cases e : f.trees with
 | nil =>
  have : f = .nil := by
   cases f with
   | nil => rfl
   | cons => simp [F.trees] at e
  subst this;refine Do.seq (jO (by omega) a1) ?_;refine (H1.fk (c := -1) (by decide)).bind ?_;rintro _ ⟨a2,rfl,y⟩;exact ⟨_,rfl,a2,y.mono (by omega),Or.inl ⟨rfl,rfl⟩⟩
 | cons t0 O =>
  rw [<- e];refine (qM (k := k) H1 j I e hk (by omega)).bind ?_;rintro _ ⟨t,a2,ht,rfl,y,u⟩;have : t ∈ (f.loose (-1)).map Lt.t := by rw [xq]; exact ht
  obtain ⟨l,hl,rfl⟩ := List.mem_map.1 this;have x : l.top ∈ nd f (-1) ++ N := j _ (by rw [wN]; exact nz hl);refine (y.geti x).bind ?_;rintro _ ⟨a3,rfl,D⟩;refine ⟨_,rfl,a3,D.mono (by omega),Or.inr ⟨l.t.c,?_,rfl,u⟩⟩;rw [F.yZ];exact List.mem_flatMap.2 ⟨l.t,ht,List.mem_cons_self ..⟩
theorem oR {k : Nat} {f : F} {c : Nat} {x : It} (H : Hp κ n a (upd it c x) (nd f (-1) ++ N) L) (j : HB b it f) (u : c ∈ f.cells) (X : ¬ (it c).lt x) (hk : 70000 < k) {Q : Nat} (S : f.size < 2 ^ Q) (U : Q < 60) :
  Do (uq k a f.hd (x.i : Int)) fun r => ∃ it' A,r = (f.hd,A) /\ Hp κ (n + 13 * Q + 8) A it' (nd f (-1) ++ N) L /\ HB b it' f /\ (∀ d,d ∉ f.cells -> it' d = it d) /\ (f.cells.map it').Perm (f.cells.map (upd it c x)) := by
 unfold uq;obtain ⟨ν,z,I⟩ := sG (up := -1) u;have hs := ln H;have l : 0 < f.size := by
  rw [<- F.wU]; exact List.length_pos_of_mem u
 have y := sf H;obtain ⟨R,h1,h2,h3⟩ := size_le (b := b) H l fun t ht => (j.good t ht).sk
 have W := h3 Q S;have O : RI (upd it c x) (nd f (-1)) ν.c false := by rw [I]; exact j.ord.lower X hs (j.upOK.self hs)
 have := px (k := k) false (nd f (-1)) j.upOK R (fun ν z => by
  obtain ⟨t,ht,e⟩ := p9 f (-1) (fun t ht => (j.good t ht).sk) ν z;have := h1 t ht; omega) H ν z (by omega) h2 O
 rw [I,ub] at this;refine this.bind ?_;rintro _ ⟨μ,it',a1,rfl,Z,H1,Y,B,D,J,_⟩;rw [y4] at B D;refine ⟨_,rfl,it',a1,rfl,H1.mono (by omega),⟨fun t ht => ⟨(j.good t ht).sk,pg (J rfl) t ht⟩,j.row⟩,fun d hd => ?_,D⟩;rw [B d hd];exact vq _ _ (fun e => hd (e ▸ u))
theorem u7 {k : Nat} {f : F} {p q : List Tr} {t : Tr} (H : Hp κ n a it (nd f (-1) ++ N) L) (e : f.trees = p ++ t :: q) (hp : (t.c : Int) ∉ cs p) (hq : (t.c : Int) ∉ cs q)
  (W : ∀ s ∈ p ++ q,GT false it s) (y : ∀ s ∈ t.kids.trees,GT false it s) (hlen : (p ++ q).length + t.kids.len <= 20) (hk : 95000 < k) :
  Do (xv k a (cs f.trees) (t.c : Int)) fun r => ∃ u B,r = (u.hd,((it t.c).i : Int),B) /\ Hp κ (n + 4 + t.kids.len + 14 * ((p ++ q).length + t.kids.len)) B it (nd u (-1) ++ N) (((it t.c).i,(it t.c).cell (-1)) :: L) /\ HB false it u /\ u.cells.Perm (TC (p ++ q) ++ t.kids.cells) := by
 unfold xv;have A := sf H;have D := H.cap;have x : (p ++ q).length <= 20 := by omega
 rw [lA] at x;rw [e,l8];refine Do.seq (tA (cs p) (cs q) (t.c : Int) hp hq (by simp [cs]; omega) (by simp [cs]; omega)) ?_;obtain ⟨p',j,w,hl,rfl,rfl⟩ := qy (f := f) (up := -1) e;have U : nd f (-1) = LN p' ++ ((⟨t,-1,w⟩ : Lt).top :: (nd t.kids t.c ++ LN j)) := by
  rw [wN,hl,wP,tx,lU]; simp
 have H1 : Hp κ n a it ((⟨t,-1,w⟩ : Lt).top :: (LN (p' ++ j ++ t.kids.loose t.c) ++ N)) L := H.p (npm fun P => by
  rw [U];simp only [wP,<- wN,List.countP_append,List.countP_cons]; omega)
 have X := t.kids.vj;have Y : t.kids.size + 1 <= f.size := rV (f := f) (by rw [e]; simp);refine (kg (k := k) (f := t.kids) H1 (List.mem_cons_self ..) rfl (fun μ Z => ?_) (by omega) (by omega)).bind ?_
 ·refine mC _ (mL _ ?_);rw [wP,<- wN];exact List.mem_append_right _ Z
 rintro _ ⟨a1,rfl,I⟩;refine Do.seq (yP (by simp [cs] at *; unfold F.len at hlen; omega)) ?_;refine (rm I).bind ?_;rintro _ ⟨a2,rfl,J⟩;have S : cs (p'.map Lt.t) ++ cs (j.map Lt.t) ++ cs t.kids.trees = lc (p' ++ j ++ t.kids.loose t.c) := by
  rw [wR,wR]; simp only [lc,xq]
 have z : (p' ++ j ++ t.kids.loose t.c).length = (p'.map Lt.t ++ j.map Lt.t).length + t.kids.len := by
  unfold F.len; rw [<- xq t.kids t.c]; simp [Nat.add_assoc]
 simp only [S];refine (sF (b := false) (k := k) (by omega) (p' ++ j ++ t.kids.loose t.c) (by omega) J (by
  intro l hl;rcases List.mem_append.1 hl with hl | hl
  ·refine W l.t ?_;rw [<- List.map_append];exact List.mem_map_of_mem hl
  ·exact uJ y l hl)).bind ?_
 rintro _ ⟨u,a3,rfl,O,g1,g2,g3⟩;refine ⟨_,rfl,u,a3,rfl,O.mono (by rw [z]; omega),⟨g1,.of g2⟩,g3.trans ?_⟩;rw [List.map_append,List.map_append,vL,xq,<- F.yZ]
theorem lH {k : Nat} {f : F} (H : Hp κ n a it (nd f (-1) ++ N) L) (x : HB false it f) (A : f ≠ .nil) (hs : f.size < 1024) (hk : 95000 < k) :
  Do (uZ k a f.hd) fun r => ∃ c u it' I,r = (u.hd,((it c).i : Int),I) /\ Hp κ (n + 500) I it' (nd u (-1) ++ N) (((it c).i,(it c).cell (-1)) :: L) /\ HB false it' u /\ (f.cells.map it).Perm (it c :: u.cells.map it') /\ (∀ d,d ∉ f.cells -> it' d = it d) /\ c ∈ f.cells /\ ∀ d ∈ f.cells,¬ (it d).lt (it c) := by
 unfold uZ;have j : ∀ ν ∈ nd f (-1),ν ∈ nd f (-1) ++ N := fun ν h => mL _ h
 have B := sf H;have W := f.vj;have O := H.cap;have J : f.size < 2 ^ 10 := by simpa using hs
 have hlen := x.lenB J;cases ef : f.trees with
 | nil =>
  cases f with
  | nil => exact absurd rfl A
  | cons => simp [F.trees] at ef
 | cons t0 Z =>
  have l : yk a f.hd = some true := by
   cases f with
   | nil => exact absurd rfl A
   | cons c r kids rest => exact H.live (j _ (List.mem_cons_self ..))
  refine Do.assoc (Do.seq l ?_);refine Do.seq rfl (Do.f rfl ?_);refine (vv (k := k) H j (by omega) (by omega)).bind ?_;rintro _ ⟨a1,rfl,H1⟩;refine (qM (k := k) H1 j x ef hk (by omega)).bind ?_;rintro _ ⟨t,a2,ht,rfl,D,z⟩;obtain ⟨p,q,e,hp,hq⟩ := qg D ht;have Y := x.lt J t ht;have U := (eK (x.good t ht).sk).2 rfl;have X : (p ++ q).length + 1 = f.len := by unfold F.len; rw [e]; simp; omega
  refine (u7 (k := k) D e hp hq (fun s hs => x.good s (by rw [e]; rcases List.mem_append.1 hs with h | h <;> simp [h])) (x.good t ht).kids (by omega) hk).bind ?_;rintro _ ⟨u,a3,rfl,S,h1,h2⟩;have y := (sH e).trans (h2.symm.cons _);refine ⟨_,rfl,t.c,u,it,a3,rfl,S.mono (by omega),h1,?_,fun _ _ => rfl,y.mem_iff.2 (List.mem_cons_self ..),z⟩;have := y.map it
  rwa [pC] at this
theorem nc {k : Nat} {f : F} {x : It} (H : Hp κ n a it (nd f (-1) ++ N) ((x.i,x.cell (-1)) :: L)) (D : HB false it f) (hs : f.size < 1024) (hr : 2 * f.size + 2 * N.length + 1 + L.length < κ.C) (hk : 95000 < k) :
  Do (uu k a f.hd (x.i : Int)) fun r => ∃ j it' B,r = (j.hd,true,B) /\ Hp κ (n + 500) B it' (nd j (-1) ++ N) L /\ HB false it' j /\ (j.cells.map it').Perm (x :: f.cells.map it) /\ ∀ ν ∈ N,it' ν.c = it ν.c := by
 unfold uu;have A := sf H;have Z := f.vj;have J := H.cap;have X : f.size < 2 ^ 10 := by simpa using hs
 have hlen := D.lenB X;refine (rp H (by rw [lA,rK]; omega)).bind ?_;rintro _ ⟨c,a1,rfl,H1,I⟩;refine Do.f rfl ?_;have t : c ∉ f.cells := fun h => by
  obtain ⟨ν,y,e⟩ := sG (up := -1) h;exact I ν (mL _ y) e
 have u : ∀ ν ∈ nd f (-1),ν ∈ (⟨c,-1,-1,-1,-1,0,0⟩ : Nd) :: (nd f (-1) ++ N) := fun ν h => mC _ (mL _ h)
 refine (vv (k := k) H1 u (by omega) (by omega)).bind ?_;rintro _ ⟨a2,rfl,O⟩;refine Do.seq (yP (by simp [cs] at *; unfold F.len at hlen; omega)) ?_;have z : HB false (upd it c x) f := D.congr fun d hd => vq _ _ (fun e => t (e ▸ hd))
 have W : ([(c : Int)] ++ cs f.trees : List Int) = lc ((⟨⟨c,0,.nil⟩,-1,-1⟩ : Lt) :: f.loose (-1)) := by
  rw [lu,lc,xq]; rfl
 have S : Hp κ (n + 3 + f.len) a2 (upd it c x) (LN ((⟨⟨c,0,.nil⟩,-1,-1⟩ : Lt) :: f.loose (-1)) ++ N) L := by
  rw [tx,<- wN]; exact O
 have Y : ((⟨⟨c,0,.nil⟩,-1,-1⟩ : Lt) :: f.loose (-1)).length = f.len + 1 := by
  unfold F.len; rw [<- xq f (-1)]; simp
 simp only [W];refine (sF (b := false) (k := k) (by omega) _ (by omega) S (by
  intro l hl;rcases List.mem_cons.1 hl with rfl | hl
  ·exact ⟨.nil,fun ν y => by simp [nd] at y⟩
  ·exact uJ z.good l hl)).bind ?_
 rintro _ ⟨j,a3,rfl,U,g1,g2,g3⟩;refine ⟨_,rfl,j,upd it c x,a3,rfl,U.mono (by omega),⟨g1,.of g2⟩,?_,fun ν y => vq _ _ (I ν (List.mem_append_right _ y))⟩;rw [pC,rE,xq,<- F.yZ] at g3;have h1 := g3.map (upd it c x);have h2 : f.cells.map (upd it c x) = f.cells.map it := List.map_congr_left fun d hd => vq _ _ fun e => t (e ▸ hd)
 have h3 : (Tr.cells ⟨c,0,.nil⟩ ++ f.cells).map (upd it c x) = x :: f.cells.map it := by
  rw [<- h2]; simp [Tr.cells,F.cells,ub]
 rwa [h3] at h1
theorem uD {k : Nat} {f g : F} (H : Hp κ n a it (nd f (-1) ++ (nd g (-1) ++ N)) L) (hf : HB false it f) (B : HB false it g) (hs : f.size < 1024) (hs' : g.size < 1024) (hk : 95000 < k) :
  Do (ur k a f.hd g.hd) fun r => ∃ u z,r = (u.hd,z) /\ Hp κ (n + 500) z it (nd u (-1) ++ N) L /\ HB false it u /\ u.cells.Perm (f.cells ++ g.cells) := by
 unfold ur;have j := sf H;rw [lA,rK] at j;have W := f.vj;have D := g.vj;have A := H.cap;have hlen := hf.lenB (R := 10) (by simpa using hs);have i := B.lenB (R := 10) (by simpa using hs');by_cases e : f.hd = g.hd
 ·have : f = .nil /\ g = .nil := by
   cases f with
   | nil =>
    cases g with
    | nil => exact ⟨rfl,rfl⟩
    | cons c r kids rest => simp only [F.hd] at e; omega
   | cons c r kids rest =>
    cases g with
    | nil => simp only [F.hd] at e; omega
    | cons c' r' x y =>
     simp only [F.hd] at e;have hn := H.nd;have : c = c' := by omega
     subst this;rw [nd,List.cons_append,pC,List.nodup_cons] at hn;exact absurd (by simp [nd]) hn.1
  obtain ⟨rfl,rfl⟩ := this;refine Do.t (by simp) ?_;exact ⟨_,rfl,.nil,a,rfl,H.mono (by omega),HB.nil,.refl _⟩
 ·refine Do.f (by simpa using e) ?_;refine (vv (k := k) H (fun ν h => mL _ h) (by omega) (by omega)).bind ?_;rintro _ ⟨a1,rfl,H1⟩;refine (vv (k := k) H1 (fun ν h => List.mem_append_right _ (mL _ h)) (by omega) (by omega)).bind ?_;rintro _ ⟨a2,rfl,I⟩;refine Do.seq (yP (by simp [cs] at *; unfold F.len at hlen i; omega)) ?_;have S : cs f.trees ++ cs g.trees = lc (f.loose (-1) ++ g.loose (-1)) := by
   rw [wR,lc,lc,xq,xq]
  have J : Hp κ (n + f.len + g.len) a2 it (LN (f.loose (-1) ++ g.loose (-1)) ++ N) L := by
   rw [wP,<- wN,<- wN,aA]; exact I
  have U : (f.loose (-1) ++ g.loose (-1)).length = f.len + g.len := by
   unfold F.len; rw [<- xq f (-1),<- xq g (-1)]; simp
  simp only [S];refine (sF (b := false) (k := k) (by omega) _ (by omega) J (by
   intro l hl;rcases List.mem_append.1 hl with hl | hl
   ·exact uJ hf.good l hl
   ·exact uJ B.good l hl)).bind ?_
  rintro _ ⟨u,a3,rfl,O,g1,g2,g3⟩;refine ⟨_,rfl,u,a3,rfl,O.mono (by omega),⟨g1,.of g2⟩,g3.trans ?_⟩;rw [List.map_append,vL,xq,xq,<- F.yZ,<- F.yZ]
theorem uS {k : Nat} {f : F} {c : Nat} (H : Hp κ n a it (nd f (-1) ++ N) L) (j : HB false it f) (Y : c ∈ f.cells) (hs : f.size < 1024) (hk : 95000 < k) :
  Do (uX k a f.hd ((it c).i : Int)) fun r => ∃ it' l S,r = (l.hd,S) /\ Hp κ (n + 500) S it' (nd l (-1) ++ N) (((it c).i,(it c).cell (-1)) :: L) /\ HB false it' l /\ (∀ d,d ∉ f.cells -> it' d = it d) /\ (f.cells.map it).Perm (it c :: l.cells.map it') /\ (∀ d ∈ l.cells,d ∈ f.cells) := by
 unfold uX vu;obtain ⟨ν,z,rfl⟩ := sG (up := -1) Y;have mν : ν ∈ nd f (-1) ++ N := mL _ z;have b4 := ln H;have x : 0 < f.size := by
  rw [<- F.wU]; exact List.length_pos_of_mem Y
 have D := sf H;have b1 := f.vj;have Z := H.cap;have B : f.size < 2 ^ 10 := by simpa using hs
 have hlen := j.lenB B;obtain ⟨R,h1,h2,h3⟩ := size_le (b := false) H x fun t ht => (j.good t ht).sk
 have a9 := h3 10 B;refine Do.assoc ((Ar.cell H (H.item mν) (f := 9) (v := (ν.c : Int)) rfl (by omega) (by have := H.lt mν; omega)).bind ?_);rintro _ ⟨a1,rfl,H1⟩;refine Do.seq rfl ?_;refine Do.f (by simp) ?_;have := px (k := k) true (nd f (-1)) j.upOK R (fun ν z => by
  obtain ⟨t,ht,e⟩ := p9 f (-1) (fun t ht => (j.good t ht).sk) ν z;have := h1 t ht; omega) (N := N) (L := L) H1 ν z (by omega) h2 j.ord.any
 refine this.bind ?_;rintro _ ⟨μ,it',a2,rfl,hμ,H2,A,U,W,_,e5⟩;obtain ⟨I,X⟩ := e5 rfl;rw [y4] at U W;obtain ⟨t,ht,et⟩ := ey (fun t ht => (j.good t ht).sk) hμ I;have y : ∀ ν ∈ nd f (-1),ν ∈ nd f (-1) ++ N := fun ν h => mL _ h
 refine (vv (k := k) H2 y (by omega) (by omega)).bind ?_;rintro _ ⟨a3,rfl,J⟩;rw [et] at X A ⊢;refine Do.seq (qP (cs f.trees) (t.c : Int) (by rw [qQ]; unfold F.len at hlen; omega) (by rw [qQ]; unfold F.len at hlen; omega) (List.mem_map.2 ⟨t,ht,rfl⟩)) ?_;refine Do.f rfl ?_;obtain ⟨p,q,e,hp,hq⟩ := qg J ht;have hn : f.cells.Nodup := by
  have := H.nd;rw [List.map_append,y4] at this;exact (List.nodup_append.1 this).1
 obtain ⟨g1,g2⟩ := kA hn j e X;have b3 := j.lt B t ht;have b0 := (eK (j.good t ht).sk).2 rfl;have b2 : (p ++ q).length + 1 = f.len := by unfold F.len; rw [e]; simp; omega
 refine (u7 (k := k) J e hp hq g1 g2 (by omega) hk).bind ?_;rintro _ ⟨l,a4,rfl,O,h4,h5⟩;rw [A] at O;have u := (sH e).trans (h5.symm.cons _);refine ⟨_,rfl,it',l,a4,rfl,O.mono (by omega),h4,U,?_,fun d hd => u.mem_iff.2 (mC _ hd)⟩;refine W.symm.trans ?_;have := u.map it';rw [pC,A] at this;exact this
end Bi
end
end
noncomputable section
set_option maxRecDepth 10000
namespace Bi
def KH : KS := fun it M r => ∃ f : F,M = nd f (-1) /\ r = f.hd /\ HB false it f
section
variable {κ : Cfg} {n : Nat} {a : zb} {L : Heap} {r : Int} {its : List It} {C : Heap}
theorem yt {it : Nat -> It} (f : F) (u : Int) : ((nd f u).map fun ν => it ν.c) = f.cells.map it := by rw [<- y4 f u,List.map_map]; rfl
theorem ud {it : Nat -> It} {f : F} (h : its.Perm ((nd f (-1)).map fun ν => it ν.c)) : its.length = f.size := by rw [h.length_eq,lM,rK]
theorem fX : HK KH (-1) [] [] := ⟨fun _ => ⟨0,0,0⟩,[],⟨.nil,rfl,rfl,HB.nil⟩,.refl _,.refl _⟩
theorem kr {k : Nat} {x : It} (h : HK KH r its C) (H : Ar κ n a (C ++ ((x.i,x.cell (-1)) :: L))) (y : 2 * its.length + 1 + L.length < κ.C) (hs : its.length < 1024) (hk : 95000 < k) :
  Do (uu k a r (x.i : Int)) fun res => ∃ r' C' e,res = (r',true,e) /\ HK KH r' (x :: its) C' /\ Ar κ (n + 500) e (C' ++ L) := by
 obtain ⟨it,M,⟨f,rfl,rfl,u⟩,hC,j⟩ := h;have hl := ud j;have t : Hp κ n a it (nd f (-1) ++ []) ((x.i,x.cell (-1)) :: L) := by rw [aN]; exact Ar.p H (hC.append_right _)
 refine (nc t u (by omega) (by simp only [List.length_nil]; omega) hk).mono ?_;rintro _ ⟨l,it',e,rfl,H1,h1,h2,-⟩;rw [aN] at H1;refine ⟨l.hd,_,e,rfl,⟨it',_,⟨l,rfl,rfl,h1⟩,.refl _,?_⟩,H1⟩;rw [yt] at j ⊢;exact (j.cons x).trans h2.symm
theorem fU {k : Nat} (h : HK KH r its C) (H : Ar κ n a (C ++ L)) (hs : its.length < 1024) (hk : 95000 < k) : Do (uY k a r) fun res => ∃ e,Ar κ (n + 100) e (C ++ L) /\ ((its = [] /\ res = (-1,e)) \/ ∃ x ∈ its,res = ((x.i : Int),e) /\ ∀ y ∈ its,¬ y.lt x) := by
 obtain ⟨it,M,⟨f,rfl,rfl,l⟩,hC,j⟩ := h;have hl := ud j;have t : Hp κ n a it (nd f (-1) ++ []) L := by rw [aN]; exact Ar.p H (hC.append_right _)
 have hlen := l.len (R := 10) (by omega);refine (lB t l hk).mono ?_;rintro res ⟨e,H1,h1⟩;rw [aN] at H1;rw [yt] at j;refine ⟨e,Ar.mono (Ar.p H1 (hC.append_right _).symm) (by omega),?_⟩;rcases h1 with ⟨rfl,rfl⟩ | ⟨c,u,rfl,h2⟩
 ·exact Or.inl ⟨j.eq_nil,rfl⟩
 ·refine Or.inr ⟨it c,j.mem_iff.2 (List.mem_map_of_mem u),rfl,fun y z => ?_⟩;obtain ⟨d,hd,rfl⟩ := List.mem_map.1 (j.mem_iff.1 z);exact h2 d hd
theorem eg {k : Nat} (h : HK KH r its C) (H : Ar κ n a (C ++ L)) (t : its ≠ []) (hs : its.length < 1024) (hk : 95000 < k) :
  Do (uZ k a r) fun res => ∃ x q r' C' j,res = (r',(x.i : Int),j) /\ its.Perm (x :: q) /\ (∀ y ∈ its,¬ y.lt x) /\ HK KH r' q C' /\ Ar κ (n + 500) j (C' ++ ((x.i,x.cell (-1)) :: L)) := by
 obtain ⟨it,M,⟨f,rfl,rfl,z⟩,hC,e⟩ := h;have hl := ud e;have u : Hp κ n a it (nd f (-1) ++ []) L := by rw [aN]; exact Ar.p H (hC.append_right _)
 rw [yt] at e;have hf : f ≠ .nil := by rintro rfl; exact t e.eq_nil
 refine (lH u z hf (by omega) hk).mono ?_;rintro _ ⟨c,l,it',j,rfl,H1,h1,h2,-,B,h3⟩;rw [aN] at H1;refine ⟨it c,l.cells.map it',l.hd,_,j,rfl,e.trans h2,fun y A => ?_,⟨it',_,⟨l,rfl,rfl,h1⟩,.refl _,by rw [yt]⟩,H1⟩;obtain ⟨d,hd,rfl⟩ := List.mem_map.1 (e.mem_iff.1 A);exact h3 d hd
theorem fo {k : Nat} {x : It} (h : HK KH r its C) (z : x ∈ its) (H : Ar κ n a (C ++ L)) (hs : its.length < 1024) (hk : 95000 < k) :
  Do (uX k a r (x.i : Int)) fun res => ∃ q r' C' e,res = (r',e) /\ its.Perm (x :: q) /\ HK KH r' q C' /\ Ar κ (n + 500) e (C' ++ ((x.i,x.cell (-1)) :: L)) := by
 obtain ⟨it,M,⟨f,rfl,rfl,y⟩,hC,j⟩ := h;have hl := ud j;have t : Hp κ n a it (nd f (-1) ++ []) L := by rw [aN]; exact Ar.p H (hC.append_right _)
 rw [yt] at j;obtain ⟨c,u,rfl⟩ := List.mem_map.1 (j.mem_iff.1 z);refine (uS t y u (by omega) hk).mono ?_;rintro _ ⟨it',l,e,rfl,H1,h1,-,h2,-⟩;rw [aN] at H1;exact ⟨l.cells.map it',l.hd,_,e,rfl,j.trans h2,⟨it',_,⟨l,rfl,rfl,h1⟩,.refl _,by rw [yt]⟩,H1⟩
theorem ke {k : Nat} {x y : It} (h : HL KH r its x y C) (hi : y.i = x.i) (u : ¬ x.lt y) (H : Ar κ n a (C ++ L)) (hs : its.length < 1024) (hk : 95000 < k) :
  Do (uq k a r (y.i : Int)) fun res => ∃ r' q C' j,res = (r',j) /\ its.Perm (x :: q) /\ HK KH r' (y :: q) C' /\ Ar κ (n + 150) j (C' ++ L) := by
 obtain ⟨it,M,ν,⟨f,rfl,rfl,D⟩,B,rfl,hC,A⟩ := h;have hl := ud A;have z : Hp κ n a (upd it ν.c y) (nd f (-1) ++ []) L := by rw [aN]; exact Ar.p H (hC.append_right _)
 have hn := z.nd;rw [aN] at hn;obtain ⟨q,t,e⟩ := jx (y := y) hn B rfl;have l : ν.c ∈ f.cells := by rw [<- y4 f (-1)]; exact List.mem_map_of_mem B
 refine (oR z D l u (by omega) (Q := 10) (by omega) (by omega)).mono ?_;rintro _ ⟨it',j,rfl,H1,h1,-,h2⟩;rw [aN] at H1;refine ⟨f.hd,q,_,j,rfl,A.trans t,⟨it',_,⟨f,rfl,rfl,h1⟩,.refl _,?_⟩,Ar.mono H1 (by omega)⟩;rw [yt] at e ⊢;exact e.symm.trans h2.symm
theorem kj {k : Nat} {s : Int} {e : List It} {C' : Heap} (h : HK KH r its C) (X : HK KH s e C') (H : Ar κ n a (C ++ (C' ++ L))) (hs : its.length < 256) (hs' : e.length < 256) (hk : 95000 < k) :
  Do (ur k a r s) fun res => ∃ t u S,res = (t,S) /\ HK KH t (its ++ e) u /\ Ar κ (n + 500) S (u ++ L) := by
 obtain ⟨it,M,⟨t,rfl,rfl,Z⟩,hC,B⟩ := h;obtain ⟨it',M',⟨i,rfl,rfl,F⟩,x,l⟩ := X;have hl := ud B;have Y := ud l;rw [yt] at B l;have y : ∀ d ∈ t.cells,d ∉ i.cells := by
  have hn := Ar.nodup H;have h1 := ((((hC.append ((x).append_right L)).map Prod.fst)).nodup_iff).1 hn;rw [List.map_append,List.map_append] at h1;intro d hd D;have z : d ∈ (lay it (nd t (-1))).map Prod.fst := ((tZ it (nd t (-1))).mem_iff).2 (mL _ (by rw [y4]; exact hd));have A : d ∈ (lay it' (nd i (-1))).map Prod.fst := ((tZ it' (nd i (-1))).mem_iff).2 (mL _ (by rw [y4]; exact D));exact (List.nodup_append.1 h1).2.2 d z d (mL _ A) rfl
 let j : Nat -> It := fun d => if d ∈ t.cells then it d else it' d
 have J : ∀ d ∈ t.cells,j d = it d := fun d hd => if_pos hd
 have O : ∀ d ∈ i.cells,j d = it' d := fun d hd => if_neg fun h => y d h hd
 have z : lay j (nd t (-1)) = lay it (nd t (-1)) := vO fun ν I => J _ (by rw [<- y4 t (-1)]; exact List.mem_map_of_mem I)
 have A : lay j (nd i (-1)) = lay it' (nd i (-1)) := vO fun ν I => O _ (by rw [<- y4 i (-1)]; exact List.mem_map_of_mem I)
 have W : Hp κ n a j (nd t (-1) ++ (nd i (-1) ++ [])) L := by
  unfold Hp;rw [aN,pZ,z,A,aA];exact Ar.p H (hC.append (x.append_right L))
 refine (uD W (Z.congr J) (F.congr O) (by omega) (by omega) hk).mono ?_;rintro _ ⟨U,a1,rfl,H1,h1,h2⟩;rw [aN] at H1;refine ⟨U.hd,_,a1,rfl,⟨j,_,⟨U,rfl,rfl,h1⟩,.refl _,?_⟩,H1⟩;rw [yt];have h3 := (h2.map j).symm;rw [List.map_append] at h3;have f1 : t.cells.map j = t.cells.map it := List.map_congr_left J;have f2 : i.cells.map j = i.cells.map it' := List.map_congr_left O;rw [f1,f2] at h3;exact (B.append l).trans h3
end
end Bi
end
noncomputable section
set_option maxRecDepth 10000
section
variable {κ : Cfg} {n : Nat} {a : zb} {it : Nat -> It} {N : List Nd} {L : Heap} {b : Bool}
theorem Ord.congr {it it' : Nat -> It} {f : F} {q : Nat} (h : Ord it (nd f (q : Int))) (i : ∀ d ∈ f.cells,it' d = it d) (hq : it' q = it q) : Ord it' (nd f (q : Int)) := by
 intro ν e r j;obtain ⟨h1,h2⟩ := dD f q ν e;rw [i _ h1];rcases h2 with h2 | ⟨d,hd,h2⟩
 ·have : r = q := by omega
  subst this; rw [hq]; exact h ν e r j
 ·have : r = d := by omega
  subst this; rw [i r hd]; exact h ν e r j
namespace Sk
theorem u0 (l : List Int) (v : Int) (hl : l.length < 100000) : ∀ (post pre : List Int) (m : Nat),post.length < m -> l = pre ++ post -> v ∉ pre ->
  (zY (l.length : Int) l v m (pre.length : Int) = some (.inr ()) /\ v ∉ post) \/ ∃ p q,l = p ++ v :: q /\ v ∉ p /\ zY (l.length : Int) l v m (pre.length : Int) = some (.inl (p.length : Int))
 | [],pre,m,hm,e,hv => by
  obtain ⟨m,rfl⟩ : ∃ q,m = q + 1 := ⟨m - 1,by simp at hm; omega⟩
  left
  rw [zY,dF (by rw [e]; simp)];exact ⟨rfl,by simp⟩
 | x :: post,pre,m,hm,e,hv => by
  obtain ⟨m,rfl⟩ : ∃ q,m = q + 1 := ⟨m - 1,by simp at hm; omega⟩
  simp only [lC] at hm;have hlen : pre.length < 100000 := by have := congrArg List.length e; simp at this; omega
  have j : mIdx l (pre.length : Int) = some x := by rw [e]; exact yu ..
  rw [zY,dT (by rw [e]; simp; omega),j];simp only [cT,bS,vC];by_cases h : x = v
  ·subst h
   right
   refine ⟨pre,post,e,hv,?_⟩;simp
  ·have t : (x == v) = false := by simpa using h
   rw [t,cF,zF (by omega) (by omega)];have := u0 l v hl post (pre ++ [x]) m (by omega) (by rw [e]; simp) (by simp [hv]; exact fun e => h e.symm);have i : ((pre ++ [x]).length : Int) = (pre.length : Int) + 1 := by simp
   rw [i] at this;rcases this with ⟨h1,h2⟩ | h1
   ·exact Or.inl ⟨h1,by simp [h2]; exact fun e => h e.symm⟩
   ·exact Or.inr h1
theorem uz (v : Int) : ∀ (R A : List Int) (g : Int) (m : Nat),R.length < m -> A.length + R.length < 100000 -> v ∉ R ->
  Do (yh v m (A.length : Int) ((A.length : Int) + 1) (A ++ g :: R)) fun r => ∃ i,r = (((A ++ R).length : Int),(A ++ R) ++ [i])
 | [],A,g,m,hm,j,hv => by
  obtain ⟨m,rfl⟩ : ∃ q,m = q + 1 := ⟨m - 1,by simp at hm; omega⟩
  rw [yh];refine Do.f (dF (by simp)) ?_;exact ⟨_,rfl,g,by simp⟩
 | x :: R,A,g,m,hm,j,hv => by
  obtain ⟨m,rfl⟩ : ∃ q,m = q + 1 := ⟨m - 1,by simp at hm; omega⟩
  simp only [lC] at hm j;simp only [iC,not_or] at hv;rw [yh];refine Do.t (dT (by simp; omega)) ?_;have u : mIdx (A ++ g :: x :: R) ((A.length : Int) + 1) = some x := by
   have := yu (A ++ [g]) R x;simpa using this
  refine Do.assoc (Do.seq u ?_);refine Do.assoc (Do.seq rfl ?_);refine Do.tb (by simp; exact fun e => hv.1 e.symm) ?_;refine Do.assoc (Do.seq (yu A (x :: R) g) ?_);refine Do.seq rfl ?_;have es : mSet (A ++ g :: x :: R) (A.length : Int) x = (A ++ [x]) ++ x :: R := by rw [nq]; simp
  rw [es,zF (by omega) (by omega),zF (by omega) (by omega)];have := uz v R (A ++ [x]) x m (by omega) (by simp; omega) hv.2;have l : ((A ++ [x]).length : Int) = (A.length : Int) + 1 := by simp
  rw [l] at this;refine this.mono ?_;rintro _ ⟨i,rfl⟩;exact ⟨i,by simp⟩
theorem tA {k : Nat} (p q : List Int) (v : Int) (hp : v ∉ p) (hq : v ∉ q) (hl : (p ++ v :: q).length < 100000) (hk : (p ++ v :: q).length < k) :
  y7 k (p ++ v :: q) v = some (p ++ q) := by
 unfold y7 xQ;rcases u0 (p ++ v :: q) v hl (p ++ v :: q) [] k hk rfl (by simp) with ⟨_,h2⟩ | ⟨p',i,e,hv,h⟩
 ·simp at h2
 ·have l : p' = p /\ i = q := by
   clear h;have := congrArg (List.takeWhile (fun x => x != v)) e;have h1 : ∀ (p q : List Int),v ∉ p -> (p ++ v :: q).takeWhile (fun x => x != v) = p := by
    intro p q hp;rw [List.takeWhile_append_of_pos (by intro x A; simp; exact fun e => hp (e ▸ A))];simp
   rw [h1 p q hp,h1 p' i hv] at this;subst this;simpa using e.symm
  obtain ⟨rfl,rfl⟩ := l;have z : zY ((p' ++ v :: i).length : Int) (p' ++ v :: i) v k 0 = some (.inl (p'.length : Int)) := h;rw [z];simp only [bS];rw [show ((p'.length : Int) == -1) = false by simp,cF];simp only [lA,lC] at hl hk;rw [zF (by omega) (by omega)];obtain ⟨r,t,j,rfl⟩ := uz v i p' v k (by omega) (by omega) hq;rw [t];simp only [bS];have u : mCut ((p' ++ i) ++ [j]) ((p' ++ i).length : Int) (((p' ++ i) ++ [j]).length : Int) = some [j] := by
   rw [q8 (by simp)];simp
  rw [u];simp only [bS];have y : mCut (rz ((p' ++ i) ++ [j]) ((p' ++ i).length : Int) 0) 0 ((p' ++ i).length : Int) = some (p' ++ i) := by
   unfold mCut rz;have : ((p' ++ i ++ [j]).length - ((p' ++ i).length : Int).toNat) = 1 := by simp only [lA,List.length_singleton]; omega
   rw [this];simp only [tN];rw [List.take_left' (l₁ := p' ++ i) rfl];rw [if_pos ⟨by omega,by omega,by simp; omega⟩];simp only [Int.toNat_zero,List.drop_zero];rw [List.take_left' (l₁ := p' ++ i) rfl]
  rw [y]
  rfl
theorem lB {k : Nat} {f : F} (H : Hp κ n a it (nd f (-1) ++ N) L) (I : HB b it f) (hk : 95000 < k) :
  Do (pz k a f.hd) fun res => ∃ z,Hp κ (n + 7 * f.len + 1) z it (nd f (-1) ++ N) L /\ ((f = .nil /\ res = (-1,z)) \/ ∃ c ∈ f.cells,res = (((it c).i : Int),z) /\ ∀ d ∈ f.cells,¬ (it d).lt (it c)) := by
 unfold pz;have j : ∀ ν ∈ nd f (-1),ν ∈ nd f (-1) ++ N := fun ν h => mL _ h
 have A := sf H;have J := f.vj;have B := H.cap;refine (vv (k := k) H j (by omega) (by omega)).bind ?_;rintro _ ⟨a1,rfl,H1⟩;cases e : f.trees with
 | nil =>
  have : f = .nil := by
   cases f with
   | nil => rfl
   | cons => simp [F.trees] at e
  subst this;refine Do.seq (jO (by omega) a1) ?_;refine (H1.fk (c := -1) (by decide)).bind ?_;rintro _ ⟨a2,rfl,y⟩;exact ⟨_,rfl,a2,y.mono (by omega),Or.inl ⟨rfl,rfl⟩⟩
 | cons t0 O =>
  rw [<- e];refine (qM (k := k) H1 j I e hk (by omega)).bind ?_;rintro _ ⟨t,a2,ht,rfl,y,u⟩;have : t ∈ (f.loose (-1)).map Lt.t := by rw [xq]; exact ht
  obtain ⟨l,hl,rfl⟩ := List.mem_map.1 this;have x : l.top ∈ nd f (-1) ++ N := j _ (by rw [wN]; exact nz hl);refine (y.geti x).bind ?_;rintro _ ⟨a3,rfl,D⟩;refine ⟨_,rfl,a3,D.mono (by omega),Or.inr ⟨l.t.c,?_,rfl,u⟩⟩;rw [F.yZ];exact List.mem_flatMap.2 ⟨l.t,ht,List.mem_cons_self ..⟩
theorem oR {k : Nat} {f : F} {c : Nat} {x : It} (H : Hp κ n a (upd it c x) (nd f (-1) ++ N) L) (j : HB b it f) (u : c ∈ f.cells) (X : ¬ (it c).lt x) (hk : 70000 < k) {Q : Nat} (S : f.size < 2 ^ Q) (U : Q < 60) :
  Do (rQ k a f.hd (x.i : Int)) fun r => ∃ it' A,r = (f.hd,A) /\ Hp κ (n + 13 * Q + 8) A it' (nd f (-1) ++ N) L /\ HB b it' f /\ (∀ d,d ∉ f.cells -> it' d = it d) /\ (f.cells.map it').Perm (f.cells.map (upd it c x)) := by
 unfold rQ;obtain ⟨ν,z,I⟩ := sG (up := -1) u;have hs := ln H;have l : 0 < f.size := by
  rw [<- F.wU]; exact List.length_pos_of_mem u
 have y := sf H;obtain ⟨R,h1,h2,h3⟩ := size_le (b := b) H l fun t ht => (j.good t ht).sk
 have W := h3 Q S;have O : RI (upd it c x) (nd f (-1)) ν.c false := by rw [I]; exact j.ord.lower X hs (j.upOK.self hs)
 have := px (k := k) false (nd f (-1)) j.upOK R (fun ν z => by
  obtain ⟨t,ht,e⟩ := p9 f (-1) (fun t ht => (j.good t ht).sk) ν z;have := h1 t ht; omega) H ν z (by omega) h2 O
 rw [I,ub] at this;refine this.bind ?_;rintro _ ⟨μ,it',a1,rfl,Z,H1,Y,B,D,J,_⟩;rw [y4] at B D;refine ⟨_,rfl,it',a1,rfl,H1.mono (by omega),⟨fun t ht => ⟨(j.good t ht).sk,pg (J rfl) t ht⟩,j.row⟩,fun d hd => ?_,D⟩;rw [B d hd];exact vq _ _ (fun e => hd (e ▸ u))
theorem fN {k : Nat} (hk : 3 <= k) {s t : Tr} {w w' : Int} {r : Nat} (H : Hp κ n a it (s.nd (-1) w ++ (t.nd (-1) w' ++ N)) L) (hs : s.r = r) (ht : t.r = r) (j : r < 1000) :
  Do (uQ k a (s.c : Int) (t.c : Int) (r : Int)) fun res => ∃ w i,res = (((lk it s t).c : Int),i) /\ Hp κ (n + 11) i it ((lk it s t).nd (-1) w ++ N) L := by
 unfold uQ;have l : (⟨s.c,-1,s.kids.hd,-1,w,s.r,0⟩ : Nd) ∈ s.nd (-1) w ++ (t.nd (-1) w' ++ N) := mL _ (List.mem_cons_self ..);have m2 : (⟨t.c,-1,t.kids.hd,-1,w',t.r,0⟩ : Nd) ∈ s.nd (-1) w ++ (t.nd (-1) w' ++ N) := List.mem_append_right _ (mL _ (List.mem_cons_self ..));refine (H.before hk m2 l).bind ?_;rintro _ ⟨a1,rfl,H⟩;unfold lk;by_cases c : (it t.c).lt (it s.c)
 ·rw [if_pos c];refine Do.tb (dT c) ?_;have H1 : Hp κ (n + 6) a1 it (t.nd (-1) w' ++ (s.nd (-1) w ++ N)) L := H.p (npm fun p => by simp only [List.countP_append]; omega);refine (linked H1 ht j).mono ?_;rintro _ ⟨a2,rfl,e⟩;exact ⟨_,_,rfl,e⟩
 ·rw [if_neg c];refine Do.fb (dF c) ?_;refine (linked H hs j).mono ?_;rintro _ ⟨a2,rfl,e⟩;exact ⟨_,_,rfl,e⟩
theorem ij {it it' : Nat -> It} {q : Nat} : ∀ {f : F},Ord it (nd f (q : Int)) -> (∀ d ∈ f.cells,it' d = it d) -> ¬ (it q).lt (it' q) -> Ord it' (nd f (q : Int))
 | .nil,_,_,_ => fun ν e => by simp [nd] at e
 | .cons c r kids rest,h,j,hq => by
  have h1 : Ord it (nd kids c) := h.sub fun ν e => mC _ (mL _ e)
  have h2 : Ord it (nd rest q) := h.sub fun ν e => mC _ (List.mem_append_right _ e)
  have i : it' c = it c := j c (by rw [F.cells]; exact List.mem_cons_self ..);have h3 := h1.congr (it' := it') (fun d hd => j d (by rw [F.cells]; exact mC _ (mL _ hd))) i;have h4 := ij (f := rest) h2 (fun d hd => j d (by rw [F.cells]; exact mC _ (List.mem_append_right _ hd))) hq;intro ν e r' l;rw [nd] at e;rcases List.mem_cons.1 e with rfl | e
  ·simp only at l ⊢;have : r' = q := by omega
   subst this;rw [i];exact fun t => h _ (List.mem_cons_self ..) r' rfl (It.ia t hq)
  ·rcases List.mem_append.1 e with e | e
   ·exact h3 ν e r' l
   ·exact h4 ν e r' l
theorem fK (c r : Nat) (a b : F) : (F.cons c r a b).hd = (c : Int) := rfl
theorem dW : F.nil.hd = -1 := rfl
theorem dz (it : Nat -> It) (s t : Tr) : ∃ top low,lk it s t = top.under low /\ ((top = s /\ low = t) \/ (top = t /\ low = s)) /\ ¬ (it low.c).lt (it top.c) := by
 unfold lk;by_cases c : (it t.c).lt (it s.c)
 ·rw [if_pos c]; exact ⟨t,s,rfl,Or.inr ⟨rfl,rfl⟩,It.lt_asymm c⟩
 ·rw [if_neg c]; exact ⟨s,t,rfl,Or.inl ⟨rfl,rfl⟩,c⟩
theorem nr {k : Nat} (hk : 3 <= k) {f : F} {c : Nat} {u w : Int} (H : Hp κ n a it ((Tr.mk c 0 .nil).nd u w ++ (nd f (-1) ++ N)) L) (hb : HB true it f) (hr : ∀ t ∈ f.trees,t.r < 100) :
  Do (uO k a f.hd (c : Int)) fun r => ∃ x it' j,r = (x.hd,j) /\ Hp κ (n + 32) j it' (nd x (-1) ++ N) L /\ HB true it' x /\ x.cells.Perm (c :: f.cells) /\ ((c :: f.cells).map it').Perm ((c :: f.cells).map it) /\ ∀ d,d ∉ c :: f.cells -> it' d = it d := by
 unfold uO;have d7 := H.cap;have hN : ∀ ν ∈ nd f (-1),ν ∈ (Tr.mk c 0 .nil).nd u w ++ (nd f (-1) ++ N) := fun ν h => List.mem_append_right _ (mL _ h)
 have alone : (f.trees.Pairwise fun s t => s.r < t.r) -> ∀ {O : Nat} {j : zb},O <= n + 3 -> Hp κ O j it ((Tr.mk c 0 .nil).nd u w ++ (nd f (-1) ++ N)) L ->
   Do ((zx j (c : Int) 3 f.hd).bind fun d0 => (zx d0.2 (c : Int) 0 (-1)).bind fun d1 => some ((c : Int),d1.2)) fun r => ∃ x it' j,r = (x.hd,j) /\ Hp κ (n + 32) j it' (nd x (-1) ++ N) L /\ HB true it' x /\ x.cells.Perm (c :: f.cells) /\ ((c :: f.cells).map it').Perm ((c :: f.cells).map it) /\ ∀ d,d ∉ c :: f.cells -> it' d = it d := by
  intro hp O j hn H1;refine (Hp.set (ν := ⟨c,u,-1,-1,w,0,0⟩) H1 ⟨c,u,-1,-1,f.hd,0,0⟩).bind ?_;rintro _ ⟨a2,rfl,H2⟩;refine (Hp.set (ν := ⟨c,u,-1,-1,f.hd,0,0⟩) H2 ⟨c,-1,-1,-1,f.hd,0,0⟩).bind ?_;rintro _ ⟨a3,rfl,Z⟩;refine ⟨_,rfl,.cons c 0 .nil f,it,a3,rfl,Hp.mono (n := O + 1 + 1) Z (by omega),⟨?_,?_⟩,?_,.refl _,fun _ _ => rfl⟩
  ·intro t ht;rw [F.trees] at ht;rcases List.mem_cons.1 ht with rfl | ht
   ·exact ⟨.nil,fun ν Y => by simp [nd] at Y⟩
   ·exact hb.good t ht
  ·exact ⟨hp,fun s _ => Nat.zero_le _,fun h => by cases h⟩
  ·simp [F.cells]
 cases f with
 | nil =>
  refine Do.fb rfl ?_;refine Do.seq rfl ?_;refine (H.getN (c := -1) (by decide)).bind ?_;rintro _ ⟨a1,rfl,H1⟩;refine Do.tb rfl (Do.seq rfl (Do.t rfl ?_));exact alone (by simp [F.trees]) (by omega) H1
 | cons A r1 k1 f1 =>
  have a8 := hN _ (List.mem_cons_self ..);have D : ∀ ν ∈ nd f1 (-1),ν ∈ (Tr.mk c 0 .nil).nd u w ++ (nd (.cons A r1 k1 f1) (-1) ++ N) := fun ν h => hN ν (mC _ (List.mem_append_right _ h))
  have b4 := qu H D;refine Do.tb (bne_iff_ne.2 (by simp only [F.hd]; omega)) ?_;refine Do.assoc ((H.getc a8 (f := 3) (v := f1.hd) b4.1 b4.2).bind ?_);rintro _ ⟨a1,rfl,H1⟩;refine Do.seq rfl ?_;refine (H1.get a8 (f := 4) (v := (r1 : Int))).bind ?_;rintro _ ⟨a2,rfl,H2⟩;cases f1 with
  | nil =>
   refine Do.tb rfl (Do.seq rfl (Do.t rfl ?_));exact alone (by simp [F.trees]) (by omega) H2
  | cons l r2 k2 f2 =>
   have a9 := D _ (List.mem_cons_self ..);refine Do.fb (by simp [F.hd]) ?_;refine Do.assoc ((H2.get a9 (f := 4) (v := (r2 : Int))).bind ?_);rintro _ ⟨a3,rfl,Z⟩;have S := hb.row;simp only [F.trees,gV] at S;obtain ⟨J,c9,_⟩ := S;have e4 : r1 <= r2 := c9 ⟨l,r2,k2⟩ (List.mem_cons_self ..);by_cases c8 : r2 = r1
   ·subst c8;refine Do.seq rfl (Do.f (by simp) ?_);have b3 : ∀ ν ∈ nd f2 (-1),ν ∈ (Tr.mk c 0 .nil).nd u w ++ (nd (.cons A r2 k1 (.cons l r2 k2 f2)) (-1) ++ N) := fun ν h => D ν (mC _ (List.mem_append_right _ h))
    have b5 := qu Z b3;refine (Z.getc a9 (f := 3) (v := f2.hd) b5.1 b5.2).bind ?_;rintro _ ⟨a4,rfl,H4⟩;have b9 : Hp κ (n + 4) a4 it ((Tr.mk A r2 k1).nd (-1) (F.hd (.cons l r2 k2 f2)) ++ ((Tr.mk l r2 k2).nd (-1) f2.hd ++ ((Tr.mk c 0 .nil).nd u w ++ (nd f2 (-1) ++ N)))) L := H4.p (npm fun p => by
     simp only [nd,Tr.nd,List.countP_append,List.countP_cons]; omega)
    have f0 : r2 < 100 := hr ⟨l,r2,k2⟩ (by simp [F.trees]);refine (fN (k := k) (r := r2) hk b9 rfl rfl (by omega)).bind ?_;rintro _ ⟨wt,a5,rfl,H5⟩;have g1 := hb.good ⟨A,r2,k1⟩ (by simp [F.trees]);have g2 := hb.good ⟨l,r2,k2⟩ (by simp [F.trees]);obtain ⟨top,low,c0,X,c5⟩ := dz it (Tr.mk A r2 k1) (Tr.mk l r2 k2);rw [c0] at H5 ⊢;have i : GT true it top /\ top.r = r2 := by rcases X with ⟨rfl,rfl⟩ | ⟨rfl,rfl⟩ <;> exact ⟨by assumption,rfl⟩
    have y : GT true it low /\ low.r = r2 := by rcases X with ⟨rfl,rfl⟩ | ⟨rfl,rfl⟩ <;> exact ⟨by assumption,rfl⟩
    have I : (F.cells (.cons A r2 k1 (.cons l r2 k2 f2))).Perm (top.c :: (low.cells ++ (top.kids.cells ++ f2.cells))) := by
     rcases X with ⟨rfl,rfl⟩ | ⟨rfl,rfl⟩ <;> refine cpm fun p => ?_ <;> simp only [F.cells,Tr.cells,List.countP_append,List.countP_cons,List.cons_append] <;> omega
    have hn : (c :: (top.c :: (low.cells ++ (top.kids.cells ++ f2.cells)))).Nodup := by
     have h1 := H.nd;rw [List.map_append,List.map_append,y4,<- aA] at h1;have h2 := (List.nodup_append.1 h1).1;have h3 : ((Tr.mk c 0 .nil).nd u w).map Nd.c = [c] := by simp [Tr.nd,nd]
     rw [h3] at h2;exact (List.Perm.nodup_iff (I.cons c)).1 h2
    obtain ⟨b6,c6⟩ := List.nodup_cons.1 hn;obtain ⟨c7,e8⟩ := List.nodup_cons.1 c6;have b2 : c ≠ top.c := fun e => b6 (e ▸ List.mem_cons_self ..)
    have fin : ∀ (it' : Nat -> It) {O : Nat} {j : zb},Hp κ O j it' (⟨c,u,-1,-1,w,0,0⟩ :: ⟨top.c,-1,low.c,-1,wt,((r2 + 1 : Nat) : Int),0⟩ :: (nd (.cons low.c low.r low.kids top.kids) top.c ++ (nd f2 (-1) ++ N))) L -> O <= n + 27 ->
      (∀ d,d ≠ c -> d ≠ top.c -> it' d = it d) -> ¬ (it' c).lt (it' top.c) -> ¬ (it top.c).lt (it' top.c) -> ((c :: F.cells (.cons A r2 k1 (.cons l r2 k2 f2))).map it').Perm ((c :: F.cells (.cons A r2 k1 (.cons l r2 k2 f2))).map it) ->
      Do ((ug j (c : Int) (top.c : Int)).bind fun d2 => (zx d2 (top.c : Int) 3 f2.hd).bind fun b7 => some ((top.c : Int),b7.2)) fun r => ∃ x it' j,r = (x.hd,j) /\ Hp κ (n + 32) j it' (nd x (-1) ++ N) L /\ HB true it' x /\ x.cells.Perm (c :: F.cells (.cons A r2 k1 (.cons l r2 k2 f2))) /\ ((c :: F.cells (.cons A r2 k1 (.cons l r2 k2 f2))).map it').Perm ((c :: F.cells (.cons A r2 k1 (.cons l r2 k2 f2))).map it) /\ ∀ d,d ∉ c :: F.cells (.cons A r2 k1 (.cons l r2 k2 f2)) -> it' d = it d := by
     intro it' O j K e7 hA hB hC hD;have c4 : low.c < κ.C := K.lt (ν := ⟨low.c,top.c,low.kids.hd,-1,top.kids.hd,low.r,0⟩) (by simp [nd]);refine (mX K (by simp only; omega) (by simp only; omega)).bind ?_;intro a6 K1;have K2 := K1.p (List.Perm.swap ..);refine (K2.set ⟨top.c,-1,c,-1,f2.hd,((r2 + 1 : Nat) : Int),0⟩).bind ?_;rintro _ ⟨a7,rfl,K3⟩;have z : ∀ d ∈ low.cells ++ (top.kids.cells ++ f2.cells),d ≠ c /\ d ≠ top.c := fun d hd => ⟨fun e => b6 (e ▸ mC _ hd),fun e => c7 (e ▸ hd)⟩
     have c3 : ∀ d ∈ F.cells (.cons low.c low.r low.kids top.kids),it' d = it d := fun d hd => by
      have : d ∈ low.cells ++ (top.kids.cells ++ f2.cells) := by
       rw [F.cells] at hd;rcases List.mem_cons.1 hd with rfl | hd
       ·exact mL _ (List.mem_cons_self ..)
       ·rcases List.mem_append.1 hd with hd | hd
        ·exact mL _ (mC _ hd)
        ·exact List.mem_append_right _ (mL _ hd)
      exact hA d (z d this).1 (z d this).2
     have b1 : HB true it f2 := by
      refine ⟨fun t ht => hb.good t (by simp [F.trees,ht]),?_⟩;have := (List.pairwise_cons.1 J).2;exact gV.of this
     have U : HB true it' f2 := b1.congr fun d hd => by
      have : d ∈ low.cells ++ (top.kids.cells ++ f2.cells) := List.mem_append_right _ (List.mem_append_right _ hd);exact hA d (z d this).1 (z d this).2
     have a0 := i.1.under y.1 (by rw [y.2,i.2]) c5;refine ⟨_,rfl,.cons top.c (r2 + 1) (.cons c 0 .nil (.cons low.c low.r low.kids top.kids)) f2,it',a7,rfl,?_,⟨?_,?_⟩,?_,hD,?_⟩
     ·refine Hp.mono (n := O + 4 + 1) (Hp.p K3 (npm fun p => ?_)) (by omega);simp only [nd,fK,dW,(show ((0 : Nat) : Int) = 0 from rfl),List.countP_append,List.countP_cons,List.nil_append]; omega
     ·intro t ht;rw [F.trees] at ht;rcases List.mem_cons.1 ht with rfl | ht
      ·refine ⟨?_,?_⟩
       ·have h1 := y.1.sk;have h2 := i.1.sk;rw [y.2] at h1 ⊢;rw [i.2] at h2;exact SK.leaf rfl h1 h2
       ·have h3 : Ord it' (nd (.cons low.c low.r low.kids top.kids) (top.c : Int)) := ij a0.ord c3 hC;intro ν Y q hq;rw [nd] at Y;rcases List.mem_cons.1 Y with rfl | Y
        ·simp only at hq ⊢;have : q = top.c := by omega
         subst this; exact hB
        ·exact h3 ν Y q hq
      ·exact U.good t ht
     ·refine ⟨(List.pairwise_cons.1 J).2,fun s hs => ?_,fun h => by cases h⟩;have := (List.pairwise_cons.1 J).1 s hs;simp only at this ⊢; omega
     ·refine List.Perm.trans ?_ (I.cons c).symm;refine cpm fun p => ?_
      simp only [F.cells,Tr.cells,List.countP_append,List.countP_cons,List.cons_append,List.nil_append,List.countP_nil]; omega
     ·intro d hd;have W : d ∉ c :: (top.c :: (low.cells ++ (top.kids.cells ++ f2.cells))) := fun h => hd ((I.cons c).mem_iff.2 h)
      simp only [iC,not_or] at W;exact hA d W.1 W.2.1
    have H6 : Hp κ (n + 15) a5 it (⟨c,u,-1,-1,w,0,0⟩ :: ⟨top.c,-1,low.c,-1,wt,((r2 + 1 : Nat) : Int),0⟩ :: (nd (.cons low.c low.r low.kids top.kids) top.c ++ (nd f2 (-1) ++ N))) L := H5.p (npm fun p => by
     simp only [Tr.nd,Tr.under,i.2,nd,fK,dW,(show ((0 : Nat) : Int) = 0 from rfl),List.countP_append,List.countP_cons,List.nil_append,List.countP_nil]; omega)
    refine (H6.before (k := k) hk (List.mem_cons_self ..) (mC _ (List.mem_cons_self ..))).bind ?_;rintro _ ⟨a6,rfl,H7⟩;by_cases B : (it c).lt (it top.c)
    ·refine Do.tb (dT B) ?_;refine Do.assoc ((qo H7).bind ?_);intro a7 H8;refine Do.seq rfl ?_;refine fin (swp it c top.c) H8 (by omega) (fun d h1 h2 => kH it h1 h2) ?_ ?_ (iy ?_ (List.mem_cons_self ..) ?_ b2)
     ·rw [eP it b2,eQ]; exact It.lt_asymm B
     ·rw [eQ]; exact It.lt_asymm B
     ·exact (List.Perm.nodup_iff (I.cons c)).2 hn
     ·exact (I.cons c).mem_iff.2 (mC _ (List.mem_cons_self ..))
    ·refine Do.fb (dF B) ?_;refine Do.seq rfl ?_;exact fin it H7 (by omega) (fun _ _ _ => rfl) B (It.lt_irrefl _) (.refl _)
   ·refine Do.seq rfl (Do.t (by simp; omega) ?_);refine alone ?_ (by omega) Z;simp only [F.trees];refine List.pairwise_cons.2 ⟨fun s hs => ?_,J⟩;rcases List.mem_cons.1 hs with rfl | hs
    ·simp only; omega
    ·have := (List.pairwise_cons.1 J).1 s hs;simp only at this ⊢; omega
def zer (ls : List Lt) : List Lt := ls.filter fun l => l.t.r == 0
def pos (ls : List Lt) : List Lt := ls.filter fun l => !(l.t.r == 0)
theorem eV (ls : List Lt) : (pos ls ++ zer ls).Perm ls := by
 have := List.filter_append_perm (fun l : Lt => !(l.t.r == 0)) ls;have e : zer ls = ls.filter fun l => !(!(l.t.r == 0)) := by unfold zer; congr 1; funext l; simp
 rw [e]; exact this
theorem mZ (v_ : Int) (all : List Lt) (A : ∀ l ∈ all,l.top ∈ N) (hl : all.length < 100000) (rest : List Int) (I : rest.length < 100000) : ∀ (post pre : List Lt) {n : Nat} {a : zb} (H : Hp κ n a it N L) (m : Nat),post.length < m -> all = pre ++ post ->
  Do (xU (all.length : Int) (lc all) v_ m (rest ++ lc (pos pre)) (lc (zer pre)) (pre.length : Int) a) fun r => ∃ x,r = (rest ++ lc (pos all),lc (zer all),x) /\ Hp κ (n + post.length) x it N L
 | [],pre,n,a,H,m,hm,e => by
  obtain ⟨m,rfl⟩ : ∃ q,m = q + 1 := ⟨m - 1,by simp at hm; omega⟩
  rw [xU];refine Do.f (dF (by rw [e]; simp)) ?_;have : pre = all := by rw [e]; simp
  subst this;exact ⟨_,rfl,a,rfl,H⟩
 | l :: post,pre,n,a,H,m,hm,e => by
  obtain ⟨m,rfl⟩ : ∃ q,m = q + 1 := ⟨m - 1,by simp at hm; omega⟩
  simp only [lC] at hm;have hlen : pre.length < 100000 := by have := congrArg List.length e; simp at this; omega
  have J : (zer pre).length <= pre.length := List.length_filter_le ..;have F : (pos pre).length <= pre.length := List.length_filter_le ..;have D : mIdx (lc all) (pre.length : Int) = some (l.t.c : Int) := by
   rw [e,wR,lu];have := yu (lc pre) (lc post) (l.t.c : Int)
   rwa [w7] at this
  rw [xU];refine Do.t (dT (by rw [e]; simp; omega)) ?_;refine Do.assoc (Do.seq D ?_);refine Do.assoc ((H.get (A l (by rw [e]; simp)) (f := 4) (v := (l.t.r : Int))).bind ?_);rintro _ ⟨a1,rfl,H1⟩;have := mZ v_ all A hl rest I post (pre ++ [l]) H1 m (by omega) (by rw [e]; simp);have B : ((pre ++ [l]).length : Int) = (pre.length : Int) + 1 := by simp
  rw [B] at this;have z : zer (pre ++ [l]) = zer pre ++ zer [l] := List.filter_append ..;have y : pos (pre ++ [l]) = pos pre ++ pos [l] := List.filter_append ..;by_cases h0 : l.t.r = 0
  ·refine Do.tb (by simp [h0]) ?_;refine Do.assoc (Do.seq (yP (by rw [w7]; simp; omega)) ?_);refine Do.seq rfl ?_;rw [zF (by omega) (by omega)];have j : zer [l] = [l] := by simp [zer,h0]
   have u : pos [l] = [] := by simp [pos,h0]
   rw [z,y,j,u,aN,wR] at this;refine this.mono ?_;rintro _ ⟨a2,rfl,i⟩;exact ⟨a2,rfl,i.mono (by simp only [lC]; omega)⟩
  ·refine Do.fb (by simp [h0]) ?_;refine Do.assoc (Do.seq (yP (by rw [lA,w7]; simp; omega)) ?_);refine Do.seq rfl ?_;rw [zF (by omega) (by omega)];have j : zer [l] = [] := by simp [zer,h0]
   have u : pos [l] = [l] := by simp [pos,h0]
   rw [z,y,j,u,aN,wR,<- aA] at this;refine this.mono ?_;rintro _ ⟨a2,rfl,i⟩;exact ⟨a2,rfl,i.mono (by simp only [lC]; omega)⟩
theorem m0 (i : Int) (all : List Lt) (hl : all.length < 50) (S : Nat) (hS : S < 1024) : ∀ (post pre : List Lt) (f : F) {it : Nat -> It} {n : Nat} {a : zb} (H : Hp κ n a it (LN post ++ (nd f (-1) ++ N)) L) (m : Nat),post.length + 3 < m -> all = pre ++ post -> HB true it f -> (∀ l ∈ post,l.t.r = 0 /\ l.t.kids = .nil) -> f.size + post.length <= S ->
  Do (xV i (all.length : Int) (lc all) m f.hd (pre.length : Int) a) fun r => ∃ I it' a',r = (I.hd,a') /\ Hp κ (n + 32 * post.length) a' it' (nd I (-1) ++ N) L /\ HB true it' I /\ I.cells.Perm (TC (post.map Lt.t) ++ f.cells) /\ ((TC (post.map Lt.t) ++ f.cells).map it').Perm ((TC (post.map Lt.t) ++ f.cells).map it) /\ ∀ d,d ∉ TC (post.map Lt.t) ++ f.cells -> it' d = it d
 | [],pre,f,it,n,a,H,m,hm,e,J,hz,B => by
  obtain ⟨m,rfl⟩ : ∃ q,m = q + 1 := ⟨m - 1,by simp at hm; omega⟩
  rw [xV];refine Do.f (dF (by rw [e]; simp)) ?_;exact ⟨_,rfl,f,it,a,rfl,H,J,by simp [TC],by simp [TC],fun _ _ => rfl⟩
 | l :: post,pre,f,it,n,a,H,m,hm,e,J,hz,B => by
  obtain ⟨m,rfl⟩ : ∃ q,m = q + 1 := ⟨m - 1,by simp at hm; omega⟩
  simp only [lC] at hm B;have hlen : pre.length < 100000 := by have := congrArg List.length e; simp at this; omega
  have ei : mIdx (lc all) (pre.length : Int) = some (l.t.c : Int) := by
   rw [e,wR,lu];have := yu (lc pre) (lc post) (l.t.c : Int)
   rwa [w7] at this
  rw [xV];refine Do.t (dT (by rw [e]; simp; omega)) ?_;refine Do.seq ei ?_;obtain ⟨⟨c,r,kids⟩,u,w⟩ := l;obtain ⟨h0,h1⟩ := hz _ (List.mem_cons_self ..);simp only at h0 h1;subst h0 h1;have H1 : Hp κ n a it ((Tr.mk c 0 .nil).nd u w ++ (nd f (-1) ++ (LN post ++ N))) L := H.p (npm fun p => by
   simp only [tx,Lt.nd,List.countP_append]; omega)
  have hR : f.size < 2 ^ 10 := by simp; omega
  refine (nr (k := m) (by omega) H1 J (fun t ht => by have := J.lt hR t ht; omega)).bind ?_;rintro _ ⟨f1,x,a1,rfl,H2,U,z,a3,A⟩;rw [zF (by omega) (by omega)];have H3 : Hp κ (n + 32) a1 x (LN post ++ (nd f1 (-1) ++ N)) L := H2.p (npm fun p => by
   simp only [List.countP_append]; omega)
  have b8 : f1.size = f.size + 1 := by rw [<- F.wU,z.length_eq,lC,F.wU]
  have := m0 i all hl S hS post (pre ++ [⟨⟨c,0,.nil⟩,u,w⟩]) f1 H3 m (by omega) (by rw [e]; simp) U (fun l hl => hz l (mC _ hl)) (by omega);have e2 : ((pre ++ [(⟨⟨c,0,.nil⟩,u,w⟩ : Lt)]).length : Int) = (pre.length : Int) + 1 := by simp
  rw [e2] at this;refine this.mono ?_;rintro _ ⟨f2,D,a2,rfl,H4,W,X,a4,a0⟩;have y : TC ((((⟨⟨c,0,.nil⟩,u,w⟩ : Lt) :: post)).map Lt.t) = c :: TC (post.map Lt.t) := by simp [rE,Tr.cells,F.cells]
  rw [y];have j : (TC (post.map Lt.t) ++ f1.cells).Perm (c :: TC (post.map Lt.t) ++ f.cells) := by
   refine (z.append_left _).trans ?_;exact List.perm_middle
  have hnd : ∀ d ∈ TC (post.map Lt.t),d ∉ c :: f.cells := fun d hd Z => by
   have O := H1.nd;rw [List.map_append,List.map_append,List.map_append,y4,jN] at O;have h6 : ((Tr.mk c 0 .nil).nd u w).map Nd.c = [c] := by simp [Tr.nd,nd]
   rw [h6] at O;have h7 : ((c :: f.cells) ++ (TC (post.map Lt.t) ++ N.map Nd.c)).Nodup := by
    simpa using O
   exact (List.nodup_append.1 h7).2.2 d Z d (mL _ hd) rfl
  refine ⟨f2,D,a2,rfl,H4.mono (by simp only [lC]; omega),W,X.trans j,?_,?_⟩
  ·refine (j.map D).symm.trans (a4.trans ?_);refine (j.map x).trans ?_;have h8 : (c :: TC (post.map Lt.t) ++ f.cells).Perm (TC (post.map Lt.t) ++ (c :: f.cells)) := List.perm_middle.symm;refine (h8.map x).trans (List.Perm.trans ?_ (h8.map it).symm);rw [List.map_append,List.map_append];have h9 : (TC (post.map Lt.t)).map x = (TC (post.map Lt.t)).map it := List.map_congr_left fun d hd => A d (hnd d hd)
   rw [h9];exact a3.append_left _
  ·intro d hd;have Y : d ∉ TC (post.map Lt.t) ++ f1.cells := fun h => hd (j.mem_iff.1 h)
   rw [a0 d Y];refine A d fun h => hd ?_
   rcases List.mem_cons.1 h with rfl | h
   ·exact mL _ (List.mem_cons_self ..)
   ·exact List.mem_append_right _ h
theorem bR {b : Bool} {g : F} (h : SK b g 0) : g = .nil := by cases h; rfl
theorem aZ : ∀ {f : F} {r : Nat},SK true f r -> (f.trees.filter fun t => !(t.r == 0)).length <= r /\ (f.trees.filter fun t => t.r == 0).length <= r + 1 := by
 intro f r h;induction h with
 | nil => simp [F.trees]
 | @real c r kids rest h1 h2 i1 i2 =>
  simp only [F.trees,List.filter_cons];cases r with
  | zero =>
   have e : rest = .nil := by cases h2; rfl
   subst e;simp [F.trees]
  | succ r => simp; omega
 | @leaf d c r kids rest i h1 h2 i1 i2 =>
  simp only [F.trees,List.filter_cons];cases r with
  | zero =>
   have e : rest = .nil := by cases h2; rfl
   subst e;simp [F.trees]
  | succ r => simp; omega
theorem u7 {k : Nat} {f : F} {p q : List Tr} {t : Tr} (H : Hp κ n a it (nd f (-1) ++ N) L) (e : f.trees = p ++ t :: q) (hp : (t.c : Int) ∉ cs p) (hq : (t.c : Int) ∉ cs q)
  (hg : ∀ s ∈ p ++ q,GT true it s) (Z : ∀ s ∈ t.kids.trees,GT true it s) (D : SK true t.kids t.r) (B : (p ++ q).length <= 10) (d1 : t.r <= 10) (b0 : f.size < 1024) (hk : 95000 < k) :
  Do (wW k a (cs f.trees) (t.c : Int)) fun r => ∃ y it' a',r = (y.hd,((it t.c).i : Int),a') /\ Hp κ (n + 700) a' it' (nd y (-1) ++ N) (((it t.c).i,(it t.c).cell (-1)) :: L) /\ HB true it' y /\ y.cells.Perm (TC (p ++ q) ++ t.kids.cells) /\ ((TC (p ++ q) ++ t.kids.cells).map it').Perm ((TC (p ++ q) ++ t.kids.cells).map it) /\ ∀ d,d ∉ TC (p ++ q) ++ t.kids.cells -> it' d = it d := by
 unfold wW;have a9 := sf H;have b4 := H.cap;have A := B;rw [lA] at A;have b7 := (eK D).1;obtain ⟨b5,b8⟩ := aZ D;rw [e,l8];refine Do.seq (tA (cs p) (cs q) (t.c : Int) hp hq (by simp [cs]; omega) (by simp [cs]; omega)) ?_;obtain ⟨p',u,w,hl,rfl,rfl⟩ := qy (f := f) (up := -1) e;have hN : nd f (-1) = LN p' ++ ((⟨t,-1,w⟩ : Lt).top :: (nd t.kids t.c ++ LN u)) := by
  rw [wN,hl,wP,tx,lU]; simp
 have H1 : Hp κ n a it ((⟨t,-1,w⟩ : Lt).top :: (LN (p' ++ u ++ t.kids.loose t.c) ++ N)) L := H.p (npm fun P => by
  rw [hN];simp only [wP,<- wN,List.countP_append,List.countP_cons]; omega)
 have d0 := t.kids.vj;have d2 : t.kids.size + 1 <= f.size := rV (f := f) (by rw [e]; simp);have a0 : ∀ μ ∈ nd t.kids t.c,μ ∈ (⟨t,-1,w⟩ : Lt).top :: (LN (p' ++ u ++ t.kids.loose t.c) ++ N) := fun μ hμ => by
  refine mC _ (mL _ ?_);rw [wP,<- wN];exact List.mem_append_right _ hμ
 refine (kg (k := k) (f := t.kids) H1 (List.mem_cons_self ..) rfl a0 (by omega) (by omega)).bind ?_;rintro _ ⟨a1,rfl,H2⟩;have ek : cs t.kids.trees = lc (t.kids.loose t.c) := by simp only [lc,xq]
 have c7 : (t.kids.loose t.c).length = t.kids.len := by unfold F.len; rw [<- xq t.kids t.c]; simp
 have S : cs (p'.map Lt.t) ++ cs (u.map Lt.t) = lc (p' ++ u) := by rw [wR]; rfl
 have b6 : (p' ++ u).length <= 10 := by simpa using B
 have z : ∀ l ∈ t.kids.loose t.c,l.top ∈ (⟨t,-1,w⟩ : Lt).top :: (LN (p' ++ u ++ t.kids.loose t.c) ++ N) := fun l hl => by
  refine mC _ (mL _ (nz ?_));exact List.mem_append_right _ hl
 have h0 := mZ (t.c : Int) (t.kids.loose t.c) z (by omega) (lc (p' ++ u)) (by rw [w7]; omega) (t.kids.loose t.c) [] H2 k (by omega) rfl;simp only [ek,S];rw [w7];have e0 : lc (p' ++ u) ++ lc (pos []) = lc (p' ++ u) := by simp [pos,lc,cs]
 rw [e0] at h0;refine h0.bind ?_;rintro _ ⟨a2,rfl,H3⟩;refine (rm H3).bind ?_;rintro _ ⟨a3,rfl,H4⟩;have ec : lc (p' ++ u) ++ lc (pos (t.kids.loose t.c)) = lc (p' ++ u ++ pos (t.kids.loose t.c)) := (wR _ _).symm;have a8 : (pos (t.kids.loose t.c)).length <= t.r := by
  have : (pos (t.kids.loose t.c)).length = (t.kids.trees.filter fun t => !(t.r == 0)).length := by
   rw [<- xq t.kids t.c,List.filter_map,lM]; rfl
  omega
 have b2 : (zer (t.kids.loose t.c)).length <= t.r + 1 := by
  have : (zer (t.kids.loose t.c)).length = (t.kids.trees.filter fun t => t.r == 0).length := by
   rw [<- xq t.kids t.c,List.filter_map,lM]; rfl
  omega
 have U : (LN (p' ++ u ++ t.kids.loose t.c) ++ N).Perm (LN (p' ++ u ++ pos (t.kids.loose t.c)) ++ (LN (zer (t.kids.loose t.c)) ++ N)) := by
  have h1 := jh (eV (t.kids.loose t.c));rw [wP] at h1;refine npm fun P => ?_
  have := h1.countP_eq P;simp only [wP,List.countP_append] at this ⊢; omega
 have H5 := Hp.p H4 U;have x : ∀ l ∈ t.kids.loose t.c,GT true it l.t := uJ Z;simp only [ec];refine (sF (b := true) (k := k) (by omega) (p' ++ u ++ pos (t.kids.loose t.c)) (by rw [lA]; omega) H5 (by
  intro l hl;rcases List.mem_append.1 hl with hl | hl
  ·refine hg l.t ?_;rw [<- List.map_append];exact List.mem_map_of_mem hl
  ·exact x l (List.mem_filter.1 hl).1)).bind ?_
 rintro _ ⟨y,a4,rfl,H6,g1,g2,g3⟩;have H7 : Hp κ _ a4 it (LN (zer (t.kids.loose t.c)) ++ (nd y (-1) ++ N)) _ := H6.p (npm fun P => by simp only [List.countP_append]; omega);have J : ∀ l ∈ zer (t.kids.loose t.c),l.t.r = 0 /\ l.t.kids = .nil := by
  intro l hl;obtain ⟨h1,h2⟩ := List.mem_filter.1 hl;have h3 : l.t.r = 0 := by simpa using h2
  refine ⟨h3,?_⟩;have h4 := (x l h1).sk;rw [h3] at h4;exact bR h4
 have b1 : (TC ((zer (t.kids.loose t.c)).map Lt.t)).length = (zer (t.kids.loose t.c)).length := by
  have : ∀ ls : List Lt,(∀ l ∈ ls,l.t.r = 0 /\ l.t.kids = .nil) -> (TC (ls.map Lt.t)).length = ls.length := by
   intro ls;induction ls with
   | nil => intro _; rfl
   | cons l ls ih =>
    intro h;rw [pC,rE,lA,ih fun l hl => h l (mC _ hl)];simp [Tr.cells,(h l (List.mem_cons_self ..)).2,F.cells]; omega
  exact this _ J
 have j : (TC ((zer (t.kids.loose t.c)).map Lt.t) ++ y.cells).Perm (TC (p'.map Lt.t ++ u.map Lt.t) ++ t.kids.cells) := by
  have h1 := gW ((eV (t.kids.loose t.c)).map Lt.t);rw [List.map_append,vL,xq,<- F.yZ] at h1;refine cpm fun P => ?_
  have h2 := h1.countP_eq P;have h3 := g3.countP_eq P;simp only [List.map_append,vL,List.countP_append] at h2 h3 ⊢; omega
 have Y := (sH e).length_eq;rw [F.wU,lC] at Y;have I := j.length_eq;rw [lA,b1,F.wU] at I;have h1 := m0 ((it t.c).i : Int) (zer (t.kids.loose t.c)) (by omega) f.size b0 (zer (t.kids.loose t.c)) [] y H7 k (by omega) rfl ⟨g1,.of g2⟩ J (by omega);rw [w7];refine h1.bind ?_;rintro _ ⟨f2,O,a5,rfl,H8,W,X,a7,a6⟩;refine ⟨_,rfl,f2,O,a5,rfl,H8.mono ?_,W,X.trans j,(j.map O).symm.trans (a7.trans (j.map it)),fun d hd => a6 d fun h => hd (j.mem_iff.1 h)⟩;rw [lA];omega
theorem lH {k : Nat} {f : F} (H : Hp κ n a it (nd f (-1) ++ N) L) (y : HB true it f) (A : f ≠ .nil) (hs : f.size < 1024) (hk : 95000 < k) :
  Do (pD k a f.hd) fun r => ∃ c x it' I,r = (x.hd,((it c).i : Int),I) /\ Hp κ (n + 900) I it' (nd x (-1) ++ N) (((it c).i,(it c).cell (-1)) :: L) /\ HB true it' x /\ (f.cells.map it).Perm (it c :: x.cells.map it') /\ (∀ d,d ∉ f.cells -> it' d = it d) /\ c ∈ f.cells /\ ∀ d ∈ f.cells,¬ (it d).lt (it c) := by
 unfold pD;have j : ∀ ν ∈ nd f (-1),ν ∈ nd f (-1) ++ N := fun ν h => mL _ h
 have B := sf H;have U := f.vj;have O := H.cap;have J : f.size < 2 ^ 10 := by simpa using hs
 have hlen := y.len J;cases ef : f.trees with
 | nil =>
  cases f with
  | nil => exact absurd rfl A
  | cons => simp [F.trees] at ef
 | cons t0 Y =>
  have u : yk a f.hd = some true := by
   cases f with
   | nil => exact absurd rfl A
   | cons c r kids rest => exact H.live (j _ (List.mem_cons_self ..))
  refine Do.assoc (Do.seq u ?_);refine Do.seq rfl (Do.f rfl ?_);refine (vv (k := k) H j (by omega) (by omega)).bind ?_;rintro _ ⟨a1,rfl,H1⟩;refine (qM (k := k) H1 j y ef hk (by omega)).bind ?_;rintro _ ⟨t,a2,ht,rfl,D,z⟩;obtain ⟨p,q,e,hp,hq⟩ := qg D ht;have X := y.lt J t ht;have W : (p ++ q).length + 1 = f.len := by unfold F.len; rw [e]; simp; omega
  refine (u7 (k := k) D e hp hq (fun s hs => y.good s (by rw [e]; rcases List.mem_append.1 hs with h | h <;> simp [h])) (y.good t ht).kids (y.good t ht).sk (by omega) (by omega) hs hk).bind ?_;rintro _ ⟨x,it',a3,rfl,S,h1,h2,h3,h4⟩;have l := sH e;refine ⟨_,rfl,t.c,x,it',a3,rfl,S.mono (by omega),h1,?_,fun d hd => h4 d fun h => hd (l.mem_iff.2 (mC _ h)),l.mem_iff.2 (List.mem_cons_self ..),z⟩;refine (l.map it).trans ?_;rw [pC];exact (h3.symm.trans (h2.symm.map it')).cons _
theorem nc {k : Nat} {f : F} {x : It} (H : Hp κ n a it (nd f (-1) ++ N) ((x.i,x.cell (-1)) :: L)) (D : HB true it f) (hs : f.size < 1024) (U : 2 * f.size + 2 * N.length + 1 + L.length < κ.C) (hk : 95000 < k) :
  Do (rT k a f.hd (x.i : Int)) fun r => ∃ j it' B,r = (j.hd,true,B) /\ Hp κ (n + 500) B it' (nd j (-1) ++ N) L /\ HB true it' j /\ (j.cells.map it').Perm (x :: f.cells.map it) /\ ∀ ν ∈ N,it' ν.c = it ν.c := by
 unfold rT;have S : f.size < 2 ^ 10 := by simpa using hs
 refine (rp H (by rw [lA,rK]; omega)).bind ?_;rintro _ ⟨c,a1,rfl,H1,I⟩;refine Do.f rfl ?_;have l : c ∉ f.cells := fun h => by
  obtain ⟨ν,y,e⟩ := sG (up := -1) h;exact I ν (mL _ y) e
 have A : HB true (upd it c x) f := D.congr fun d hd => vq _ _ (fun e => l (e ▸ hd))
 have J : Hp κ (n + 3) a1 (upd it c x) ((Tr.mk c 0 .nil).nd (-1) (-1) ++ (nd f (-1) ++ N)) L := H1;refine (nr (k := k) (by omega) J A (fun t ht => by have := D.lt S t ht; omega)).bind ?_;rintro _ ⟨j,it',a2,rfl,O,h1,h2,h3,h4⟩;refine ⟨_,rfl,j,it',a2,rfl,O.mono (by omega),h1,?_,fun ν y => ?_⟩
 ·refine (h2.map it').trans (h3.trans ?_);rw [pC,ub,List.map_congr_left (f := upd it c x) (g := it) fun d hd => vq _ _ fun e => l (e ▸ hd)]
 ·have u := I ν (List.mem_append_right _ y);rw [h4 ν.c ?_,vq _ _ u];intro hm;rcases List.mem_cons.1 hm with z | z
  ·exact u z
  ·have := H.nd;rw [List.map_append,y4] at this;exact (List.nodup_append.1 this).2.2 _ z _ (List.mem_map_of_mem y) rfl
theorem uD {k : Nat} {f g : F} (H : Hp κ n a it (nd f (-1) ++ (nd g (-1) ++ N)) L) (hf : HB true it f) (B : HB true it g) (hs : f.size < 256) (hs' : g.size < 256) (hk : 95000 < k) :
  Do (rR k a f.hd g.hd) fun r => ∃ u z,r = (u.hd,z) /\ Hp κ (n + 500) z it (nd u (-1) ++ N) L /\ HB true it u /\ u.cells.Perm (f.cells ++ g.cells) := by
 unfold rR;have j := sf H;rw [lA,rK] at j;have W := f.vj;have D := g.vj;have A := H.cap;have hlen := hf.len (R := 8) (by simpa using hs);have i := B.len (R := 8) (by simpa using hs');by_cases e : f.hd = g.hd
 ·have : f = .nil /\ g = .nil := by
   cases f with
   | nil =>
    cases g with
    | nil => exact ⟨rfl,rfl⟩
    | cons c r kids rest => simp only [F.hd] at e; omega
   | cons c r kids rest =>
    cases g with
    | nil => simp only [F.hd] at e; omega
    | cons c' r' x y =>
     simp only [F.hd] at e;have hn := H.nd;have : c = c' := by omega
     subst this;rw [nd,List.cons_append,pC,List.nodup_cons] at hn;exact absurd (by simp [nd]) hn.1
  obtain ⟨rfl,rfl⟩ := this;refine Do.t (by simp) ?_;exact ⟨_,rfl,.nil,a,rfl,H.mono (by omega),HB.nil,.refl _⟩
 ·refine Do.f (by simpa using e) ?_;refine (vv (k := k) H (fun ν h => mL _ h) (by omega) (by omega)).bind ?_;rintro _ ⟨a1,rfl,H1⟩;refine (vv (k := k) H1 (fun ν h => List.mem_append_right _ (mL _ h)) (by omega) (by omega)).bind ?_;rintro _ ⟨a2,rfl,I⟩;refine Do.seq (yP (by simp [cs] at *; unfold F.len at hlen i; omega)) ?_;have S : cs f.trees ++ cs g.trees = lc (f.loose (-1) ++ g.loose (-1)) := by
   rw [wR,lc,lc,xq,xq]
  have J : Hp κ (n + f.len + g.len) a2 it (LN (f.loose (-1) ++ g.loose (-1)) ++ N) L := by
   rw [wP,<- wN,<- wN,aA]; exact I
  have U : (f.loose (-1) ++ g.loose (-1)).length = f.len + g.len := by
   unfold F.len; rw [<- xq f (-1),<- xq g (-1)]; simp
  simp only [S];refine (sF (b := true) (k := k) (by omega) _ (by omega) J (by
   intro l hl;rcases List.mem_append.1 hl with hl | hl
   ·exact uJ hf.good l hl
   ·exact uJ B.good l hl)).bind ?_
  rintro _ ⟨u,a3,rfl,O,g1,g2,g3⟩;refine ⟨_,rfl,u,a3,rfl,O.mono (by omega),⟨g1,.of g2⟩,g3.trans ?_⟩;rw [List.map_append,vL,xq,xq,<- F.yZ,<- F.yZ]
theorem uS {k : Nat} {f : F} {c : Nat} (H : Hp κ n a it (nd f (-1) ++ N) L) (j : HB true it f) (hc : c ∈ f.cells) (hs : f.size < 1024) (hk : 95000 < k) :
  Do (py k a f.hd ((it c).i : Int)) fun r => ∃ it' l U,r = (l.hd,U) /\ Hp κ (n + 900) U it' (nd l (-1) ++ N) (((it c).i,(it c).cell (-1)) :: L) /\ HB true it' l /\ (∀ d,d ∉ f.cells -> it' d = it d) /\ (f.cells.map it).Perm (it c :: l.cells.map it') /\ (∀ d ∈ l.cells,d ∈ f.cells) := by
 unfold py vu;obtain ⟨ν,A,rfl⟩ := sG (up := -1) hc;have mν : ν ∈ nd f (-1) ++ N := mL _ A;have b6 := ln H;have x : 0 < f.size := by
  rw [<- F.wU]; exact List.length_pos_of_mem hc
 have I := sf H;have b3 := f.vj;have a5 := H.cap;have D : f.size < 2 ^ 10 := by simpa using hs
 have hlen := j.len D;obtain ⟨R,h1,h2,h3⟩ := size_le (b := true) H x fun t ht => (j.good t ht).sk
 have b2 := h3 10 D;refine Do.assoc ((Ar.cell H (H.item mν) (f := 9) (v := (ν.c : Int)) rfl (by omega) (by have := H.lt mν; omega)).bind ?_);rintro _ ⟨a1,rfl,H1⟩;refine Do.seq rfl ?_;refine Do.f (by simp) ?_;have := px (k := k) true (nd f (-1)) j.upOK R (fun ν A => by
  obtain ⟨t,ht,e⟩ := p9 f (-1) (fun t ht => (j.good t ht).sk) ν A;have := h1 t ht; omega) (N := N) (L := L) H1 ν A (by omega) h2 j.ord.any
 refine this.bind ?_;rintro _ ⟨μ,it',a2,rfl,hμ,H2,B,W,X,_,e5⟩;obtain ⟨J,Z⟩ := e5 rfl;rw [y4] at W X;obtain ⟨t,ht,et⟩ := ey (fun t ht => (j.good t ht).sk) hμ J;have y : ∀ ν ∈ nd f (-1),ν ∈ nd f (-1) ++ N := fun ν h => mL _ h
 refine (vv (k := k) H2 y (by omega) (by omega)).bind ?_;rintro _ ⟨a3,rfl,O⟩;rw [et] at Z B ⊢;refine Do.seq (qP (cs f.trees) (t.c : Int) (by rw [qQ]; unfold F.len at hlen; omega) (by rw [qQ]; unfold F.len at hlen; omega) (List.mem_map.2 ⟨t,ht,rfl⟩)) ?_;refine Do.f rfl ?_;obtain ⟨p,q,e,hp,hq⟩ := qg O ht;have hn : f.cells.Nodup := by
  have := H.nd;rw [List.map_append,y4] at this;exact (List.nodup_append.1 this).1
 obtain ⟨g1,g2⟩ := kA hn j e Z;have b5 := j.lt D t ht;have b4 : (p ++ q).length + 1 = f.len := by unfold F.len; rw [e]; simp; omega
 refine (u7 (k := k) O e hp hq g1 g2 (j.good t ht).sk (by omega) (by omega) hs hk).bind ?_;rintro _ ⟨l,z,a4,rfl,S,h4,Y,h6,h7⟩;rw [B] at S;have u := sH e;refine ⟨_,rfl,z,l,a4,rfl,S.mono (by omega),h4,fun d hd => ?_,?_,fun d hd => u.mem_iff.2 (mC _ (Y.mem_iff.1 hd))⟩
 ·rw [h7 d fun h => hd (u.mem_iff.2 (mC _ h)),W d hd]
 ·refine X.symm.trans ?_;have := u.map it';rw [pC,B] at this;exact this.trans ((h6.symm.trans (Y.symm.map z)).cons _)
end Sk
end
end
noncomputable section
set_option maxRecDepth 10000
namespace Sk
def KH : KS := fun it M r => ∃ f : F,M = nd f (-1) /\ r = f.hd /\ HB true it f
section
variable {κ : Cfg} {n : Nat} {a : zb} {L : Heap} {r : Int} {its : List It} {C : Heap}
theorem yt {it : Nat -> It} (f : F) (u : Int) : ((nd f u).map fun ν => it ν.c) = f.cells.map it := by rw [<- y4 f u,List.map_map]; rfl
theorem ud {it : Nat -> It} {f : F} (h : its.Perm ((nd f (-1)).map fun ν => it ν.c)) : its.length = f.size := by rw [h.length_eq,lM,rK]
theorem fX : HK KH (-1) [] [] := ⟨fun _ => ⟨0,0,0⟩,[],⟨.nil,rfl,rfl,HB.nil⟩,.refl _,.refl _⟩
theorem kr {k : Nat} {x : It} (h : HK KH r its C) (H : Ar κ n a (C ++ ((x.i,x.cell (-1)) :: L))) (y : 2 * its.length + 1 + L.length < κ.C) (hs : its.length < 1024) (hk : 95000 < k) :
  Do (rT k a r (x.i : Int)) fun res => ∃ r' C' e,res = (r',true,e) /\ HK KH r' (x :: its) C' /\ Ar κ (n + 500) e (C' ++ L) := by
 obtain ⟨it,M,⟨f,rfl,rfl,u⟩,hC,j⟩ := h;have hl := ud j;have t : Hp κ n a it (nd f (-1) ++ []) ((x.i,x.cell (-1)) :: L) := by rw [aN]; exact Ar.p H (hC.append_right _)
 refine (nc t u (by omega) (by simp only [List.length_nil]; omega) hk).mono ?_;rintro _ ⟨l,it',e,rfl,H1,h1,h2,-⟩;rw [aN] at H1;refine ⟨l.hd,_,e,rfl,⟨it',_,⟨l,rfl,rfl,h1⟩,.refl _,?_⟩,H1⟩;rw [yt] at j ⊢;exact (j.cons x).trans h2.symm
theorem fU {k : Nat} (h : HK KH r its C) (H : Ar κ n a (C ++ L)) (hs : its.length < 1024) (hk : 95000 < k) : Do (pz k a r) fun res => ∃ e,Ar κ (n + 100) e (C ++ L) /\ ((its = [] /\ res = (-1,e)) \/ ∃ x ∈ its,res = ((x.i : Int),e) /\ ∀ y ∈ its,¬ y.lt x) := by
 obtain ⟨it,M,⟨f,rfl,rfl,l⟩,hC,j⟩ := h;have hl := ud j;have t : Hp κ n a it (nd f (-1) ++ []) L := by rw [aN]; exact Ar.p H (hC.append_right _)
 have hlen := l.len (R := 10) (by omega);refine (lB t l hk).mono ?_;rintro res ⟨e,H1,h1⟩;rw [aN] at H1;rw [yt] at j;refine ⟨e,Ar.mono (Ar.p H1 (hC.append_right _).symm) (by omega),?_⟩;rcases h1 with ⟨rfl,rfl⟩ | ⟨c,u,rfl,h2⟩
 ·exact Or.inl ⟨j.eq_nil,rfl⟩
 ·refine Or.inr ⟨it c,j.mem_iff.2 (List.mem_map_of_mem u),rfl,fun y z => ?_⟩;obtain ⟨d,hd,rfl⟩ := List.mem_map.1 (j.mem_iff.1 z);exact h2 d hd
theorem eg {k : Nat} (h : HK KH r its C) (H : Ar κ n a (C ++ L)) (t : its ≠ []) (hs : its.length < 1024) (hk : 95000 < k) :
  Do (pD k a r) fun res => ∃ x q r' C' j,res = (r',(x.i : Int),j) /\ its.Perm (x :: q) /\ (∀ y ∈ its,¬ y.lt x) /\ HK KH r' q C' /\ Ar κ (n + 900) j (C' ++ ((x.i,x.cell (-1)) :: L)) := by
 obtain ⟨it,M,⟨f,rfl,rfl,z⟩,hC,e⟩ := h;have hl := ud e;have u : Hp κ n a it (nd f (-1) ++ []) L := by rw [aN]; exact Ar.p H (hC.append_right _)
 rw [yt] at e;have hf : f ≠ .nil := by rintro rfl; exact t e.eq_nil
 refine (lH u z hf (by omega) hk).mono ?_;rintro _ ⟨c,l,it',j,rfl,H1,h1,h2,-,B,h3⟩;rw [aN] at H1;refine ⟨it c,l.cells.map it',l.hd,_,j,rfl,e.trans h2,fun y A => ?_,⟨it',_,⟨l,rfl,rfl,h1⟩,.refl _,by rw [yt]⟩,H1⟩;obtain ⟨d,hd,rfl⟩ := List.mem_map.1 (e.mem_iff.1 A);exact h3 d hd
theorem fo {k : Nat} {x : It} (h : HK KH r its C) (z : x ∈ its) (H : Ar κ n a (C ++ L)) (hs : its.length < 1024) (hk : 95000 < k) :
  Do (py k a r (x.i : Int)) fun res => ∃ q r' C' e,res = (r',e) /\ its.Perm (x :: q) /\ HK KH r' q C' /\ Ar κ (n + 900) e (C' ++ ((x.i,x.cell (-1)) :: L)) := by
 obtain ⟨it,M,⟨f,rfl,rfl,y⟩,hC,j⟩ := h;have hl := ud j;have t : Hp κ n a it (nd f (-1) ++ []) L := by rw [aN]; exact Ar.p H (hC.append_right _)
 rw [yt] at j;obtain ⟨c,u,rfl⟩ := List.mem_map.1 (j.mem_iff.1 z);refine (uS t y u (by omega) hk).mono ?_;rintro _ ⟨it',l,e,rfl,H1,h1,-,h2,-⟩;rw [aN] at H1;exact ⟨l.cells.map it',l.hd,_,e,rfl,j.trans h2,⟨it',_,⟨l,rfl,rfl,h1⟩,.refl _,by rw [yt]⟩,H1⟩
theorem ke {k : Nat} {x y : It} (h : HL KH r its x y C) (hi : y.i = x.i) (u : ¬ x.lt y) (H : Ar κ n a (C ++ L)) (hs : its.length < 1024) (hk : 95000 < k) :
  Do (rQ k a r (y.i : Int)) fun res => ∃ r' q C' j,res = (r',j) /\ its.Perm (x :: q) /\ HK KH r' (y :: q) C' /\ Ar κ (n + 150) j (C' ++ L) := by
 obtain ⟨it,M,ν,⟨f,rfl,rfl,D⟩,B,rfl,hC,A⟩ := h;have hl := ud A;have z : Hp κ n a (upd it ν.c y) (nd f (-1) ++ []) L := by rw [aN]; exact Ar.p H (hC.append_right _)
 have hn := z.nd;rw [aN] at hn;obtain ⟨q,t,e⟩ := jx (y := y) hn B rfl;have l : ν.c ∈ f.cells := by rw [<- y4 f (-1)]; exact List.mem_map_of_mem B
 refine (oR z D l u (by omega) (Q := 10) (by omega) (by omega)).mono ?_;rintro _ ⟨it',j,rfl,H1,h1,-,h2⟩;rw [aN] at H1;refine ⟨f.hd,q,_,j,rfl,A.trans t,⟨it',_,⟨f,rfl,rfl,h1⟩,.refl _,?_⟩,Ar.mono H1 (by omega)⟩;rw [yt] at e ⊢;exact e.symm.trans h2.symm
theorem kj {k : Nat} {s : Int} {e : List It} {C' : Heap} (h : HK KH r its C) (X : HK KH s e C') (H : Ar κ n a (C ++ (C' ++ L))) (hs : its.length < 256) (hs' : e.length < 256) (hk : 95000 < k) :
  Do (rR k a r s) fun res => ∃ t u S,res = (t,S) /\ HK KH t (its ++ e) u /\ Ar κ (n + 500) S (u ++ L) := by
 obtain ⟨it,M,⟨t,rfl,rfl,Z⟩,hC,B⟩ := h;obtain ⟨it',M',⟨i,rfl,rfl,F⟩,x,l⟩ := X;have hl := ud B;have Y := ud l;rw [yt] at B l;have y : ∀ d ∈ t.cells,d ∉ i.cells := by
  have hn := Ar.nodup H;have h1 := ((((hC.append ((x).append_right L)).map Prod.fst)).nodup_iff).1 hn;rw [List.map_append,List.map_append] at h1;intro d hd D;have z : d ∈ (lay it (nd t (-1))).map Prod.fst := ((tZ it (nd t (-1))).mem_iff).2 (mL _ (by rw [y4]; exact hd));have A : d ∈ (lay it' (nd i (-1))).map Prod.fst := ((tZ it' (nd i (-1))).mem_iff).2 (mL _ (by rw [y4]; exact D));exact (List.nodup_append.1 h1).2.2 d z d (mL _ A) rfl
 let j : Nat -> It := fun d => if d ∈ t.cells then it d else it' d
 have J : ∀ d ∈ t.cells,j d = it d := fun d hd => if_pos hd
 have O : ∀ d ∈ i.cells,j d = it' d := fun d hd => if_neg fun h => y d h hd
 have z : lay j (nd t (-1)) = lay it (nd t (-1)) := vO fun ν I => J _ (by rw [<- y4 t (-1)]; exact List.mem_map_of_mem I)
 have A : lay j (nd i (-1)) = lay it' (nd i (-1)) := vO fun ν I => O _ (by rw [<- y4 i (-1)]; exact List.mem_map_of_mem I)
 have W : Hp κ n a j (nd t (-1) ++ (nd i (-1) ++ [])) L := by
  unfold Hp;rw [aN,pZ,z,A,aA];exact Ar.p H (hC.append (x.append_right L))
 refine (uD W (Z.congr J) (F.congr O) (by omega) (by omega) hk).mono ?_;rintro _ ⟨U,a1,rfl,H1,h1,h2⟩;rw [aN] at H1;refine ⟨U.hd,_,a1,rfl,⟨j,_,⟨U,rfl,rfl,h1⟩,.refl _,?_⟩,H1⟩;rw [yt];have h3 := (h2.map j).symm;rw [List.map_append] at h3;have f1 : t.cells.map j = t.cells.map it := List.map_congr_left J;have f2 : i.cells.map j = i.cells.map it' := List.map_congr_left O;rw [f1,f2] at h3;exact (B.append l).trans h3
end
end Sk
end
noncomputable section
set_option maxRecDepth 10000
section
variable {K V : Type} {eq : K -> K -> Bool}
theorem ki (hq : ∀ a b,eq a b = true ↔ a = b) {k : K} : ∀ {m : List (K × V)},k ∉ m.map Prod.fst -> mGet eq k m = none
 | [],_ => rfl
 | p :: m,h => by
  simp only [pC,iC,not_or] at h;rw [mGet,show eq k p.1 = false by simpa using fun e => h.1 ((hq _ _).1 e),cF];exact ki hq h.2
theorem rh (hq : ∀ a b,eq a b = true ↔ a = b) {k : K} {v : V} {s : K} {u : V} : ∀ {m : List (K × V)},mGet eq s (mPut eq k v m) = some u ↔ (s = k /\ u = v) \/ (s ≠ k /\ mGet eq s m = some u)
 | [] => by
  simp only [mPut,mGet];cases i : eq s k with
  | true => have := (hq _ _).1 i; simp [this,eq_comm]
  | false =>
   have : s ≠ k := fun e => by rw [(hq _ _).2 e] at i; cases i
   simp [this]
 | p :: m => by
  rw [mPut];cases hk : eq k p.1 with
  | true =>
   have l := (hq _ _).1 hk;rw [cT,mGet,mGet];cases i : eq s k with
   | true => have := (hq _ _).1 i; simp [this,eq_comm]
   | false =>
    have j : s ≠ k := fun e => by rw [(hq _ _).2 e] at i; cases i
    have : eq s p.1 = false := by rw [<- l]; exact i
    simp [j,this]
  | false =>
   rw [cF,mGet,mGet];cases i : eq s p.1 with
   | true =>
    have l := (hq _ _).1 i;have j : s ≠ k := fun e => by rw [<- l,(hq _ _).2 e.symm] at hk; cases hk
    simp [j]
   | false =>
    rw [cF,cF];exact rh hq
theorem tG (hq : ∀ a b,eq a b = true ↔ a = b) {k : K} {v : V} : ∀ {m : List (K × V)},(m.map Prod.fst).Nodup -> ((mPut eq k v m).map Prod.fst).Nodup
 | [],_ => by simp [mPut]
 | p :: m,h => by
  simp only [pC,List.nodup_cons] at h;rw [mPut];cases hk : eq k p.1 with
  | true =>
   have j := (hq _ _).1 hk;rw [cT];simp only [pC,List.nodup_cons];rw [j]; exact h
  | false =>
   rw [cF];simp only [pC,List.nodup_cons];refine ⟨fun hm => ?_,tG hq h.2⟩;have key : ∀ {m : List (K × V)} {s : K},s ∈ (mPut eq k v m).map Prod.fst -> s = k \/ s ∈ m.map Prod.fst := by
    intro m;induction m with
    | nil => intro s hs; simp [mPut] at hs; exact Or.inl hs
    | cons q m ih =>
     intro s hs;rw [mPut] at hs;cases i : eq k q.1 with
     | true =>
      rw [i,cT] at hs;simp only [pC,iC] at hs ⊢;rcases hs with h | h
      ·exact Or.inl h
      ·exact Or.inr (Or.inr h)
     | false =>
      rw [i,cF] at hs;simp only [pC,iC] at hs ⊢;rcases hs with h | h
      ·exact Or.inr (Or.inl h)
      ·rcases ih h with h | h
       ·exact Or.inl h
       ·exact Or.inr (Or.inr h)
   rcases key hm with e | e
   ·rw [(hq _ _).2 e.symm] at hk; cases hk
   ·exact h.1 e
theorem ib {k s : K} : ∀ {m : List (K × V)},s ∈ (mDel eq k m).map Prod.fst -> s ∈ m.map Prod.fst
 | [],h => h
 | p :: m,h => by
  rw [mDel] at h;cases hk : eq k p.1 with
  | true => rw [hk,cT] at h; exact mC _ h
  | false =>
   rw [hk,cF] at h;simp only [pC,iC] at h ⊢;rcases h with h | h
   ·exact Or.inl h
   ·exact Or.inr (ib h)
theorem sO {k : K} : ∀ {m : List (K × V)},(m.map Prod.fst).Nodup -> ((mDel eq k m).map Prod.fst).Nodup
 | [],h => h
 | p :: m,h => by
  simp only [pC,List.nodup_cons] at h;rw [mDel];cases hk : eq k p.1 with
  | true => exact h.2
  | false =>
   simp only [cF,pC,List.nodup_cons];exact ⟨fun hm => h.1 (ib hm),sO h.2⟩
theorem r9 (hq : ∀ a b,eq a b = true ↔ a = b) {k s : K} {u : V} : ∀ {m : List (K × V)},(m.map Prod.fst).Nodup -> (mGet eq s (mDel eq k m) = some u ↔ s ≠ k /\ mGet eq s m = some u)
 | [],_ => by simp [mDel,mGet]
 | p :: m,h => by
  simp only [pC,List.nodup_cons] at h;rw [mDel,mGet];cases hk : eq k p.1 with
  | true =>
   have i := (hq _ _).1 hk;rw [cT];by_cases hs : s = k
   ·subst hs;rw [ki hq (by rw [i]; exact h.1)];simp
   ·have : eq s p.1 = false := by rw [<- i]; simpa using fun e => hs ((hq _ _).1 e)
    simp [this,hs]
  | false =>
   rw [cF,mGet];cases l : eq s p.1 with
   | true =>
    have i := (hq _ _).1 l;have j : s ≠ k := fun e => by rw [<- i,(hq _ _).2 e.symm] at hk; cases hk
    simp [j]
   | false =>
    rw [cF,cF];exact r9 hq h.2
end
theorem vQ (a b : zd) : zd.eq a b = true ↔ a = b := by
 cases a; cases b; simp [zd.eq]
theorem bB (a b : Int) : kI a b = true ↔ a = b := by simp [kI]
def Kd (k : Int) : Prop := k = 1 \/ k = 2 \/ k = 3
def KD (k : Int) : KS := if k = 1 then Le.KL else if k = 2 then Bi.KH else Sk.KH
def bd (k : Int) (m : Nat) : Nat := if k = 1 then 43 * m + 50 else 900
section
variable {κ : Cfg} {n : Nat} {a : zb} {L : Heap} {k r : Int} {its : List It} {C : Heap} {f : Nat}
theorem A7 (hk : Kd k) : HK (KD k) (-1) [] [] := by
 rcases hk with rfl | rfl | rfl
 ·exact Le.fX
 ·exact Bi.fX
 ·exact Sk.fX
theorem aP {x : It} (hk : Kd k) (h : HK (KD k) r its C) (H : Ar κ n a (C ++ ((x.i,x.cell (-1)) :: L))) (j : 2 * its.length + 1 + L.length < κ.C) (hs : its.length < 1024) (hf : 95000 < f) :
  Do (qZ f k a r (x.i : Int)) fun res => ∃ r' C' e,res = (r',true,e) /\ HK (KD k) r' (x :: its) C' /\ Ar κ (n + bd k its.length) e (C' ++ L) := by
 unfold qZ;rcases hk with rfl | rfl | rfl
 ·refine Do.t rfl ((Le.kr (k := f) h H j (by omega)).bind ?_);rintro _ ⟨r',C',e,rfl,h1,H1⟩;exact ⟨_,rfl,r',C',e,rfl,h1,H1.mono (by simp only [bd,if_true]; omega)⟩
 ·refine Do.f rfl (Do.t rfl ((Bi.kr (k := f) h H j hs hf).bind ?_));rintro _ ⟨r',C',e,rfl,h1,H1⟩;exact ⟨_,rfl,r',C',e,rfl,h1,H1.mono (by simp [bd])⟩
 ·refine Do.f rfl (Do.f rfl (Do.t rfl ((Sk.kr (k := f) h H j hs hf).bind ?_)));rintro _ ⟨r',C',e,rfl,h1,H1⟩;exact ⟨_,rfl,r',C',e,rfl,h1,H1.mono (by simp [bd])⟩
theorem A6 (hk : Kd k) (h : HK (KD k) r its C) (H : Ar κ n a (C ++ L)) (hs : its.length < 1024) (hf : 95000 < f) :
  Do (oB f k a r) fun res => ∃ e,Ar κ (n + 100) e (C ++ L) /\ ((its = [] /\ res = (-1,e)) \/ ∃ x ∈ its,res = ((x.i : Int),e) /\ ∀ y ∈ its,¬ y.lt x) := by
 unfold oB;rcases hk with rfl | rfl | rfl
 ·refine Do.t rfl ((Le.fU h H).bind ?_);rintro ⟨v,b⟩ ⟨e,H1,h1⟩;exact ⟨_,rfl,e,H1.mono (by omega),h1⟩
 ·refine Do.f rfl (Do.t rfl ((Bi.fU (k := f) h H hs hf).bind ?_));rintro ⟨v,b⟩ ⟨e,H1,h1⟩;exact ⟨_,rfl,e,H1,h1⟩
 ·refine Do.f rfl (Do.f rfl (Do.t rfl ((Sk.fU (k := f) h H hs hf).bind ?_)));rintro ⟨v,b⟩ ⟨e,H1,h1⟩;exact ⟨_,rfl,e,H1,h1⟩
theorem A8 (hk : Kd k) (h : HK (KD k) r its C) (H : Ar κ n a (C ++ L)) (j : its ≠ []) (hs : its.length < 1024) (hf : 95000 < f) :
  Do (oC f k a r) fun res => ∃ x q r' C' e,res = (r',(x.i : Int),e) /\ its.Perm (x :: q) /\ (∀ y ∈ its,¬ y.lt x) /\ HK (KD k) r' q C' /\ Ar κ (n + bd k its.length) e (C' ++ ((x.i,x.cell (-1)) :: L)) := by
 unfold oC;rcases hk with rfl | rfl | rfl
 ·refine Do.t rfl ((Le.eg (k := f) h H j (by omega)).bind ?_);rintro _ ⟨x,q,r',C',e,rfl,h1,h2,h3,H1⟩;exact ⟨_,rfl,x,q,r',C',e,rfl,h1,h2,h3,H1.mono (by simp only [bd,if_true]; omega)⟩
 ·refine Do.f rfl (Do.t rfl ((Bi.eg (k := f) h H j hs hf).bind ?_));rintro _ ⟨x,q,r',C',e,rfl,h1,h2,h3,H1⟩;exact ⟨_,rfl,x,q,r',C',e,rfl,h1,h2,h3,H1.mono (by simp [bd])⟩
 ·refine Do.f rfl (Do.f rfl (Do.t rfl ((Sk.eg (k := f) h H j hs hf).bind ?_)));rintro _ ⟨x,q,r',C',e,rfl,h1,h2,h3,H1⟩;exact ⟨_,rfl,x,q,r',C',e,rfl,h1,h2,h3,H1.mono (by simp [bd])⟩
theorem A5 {x : It} (hk : Kd k) (h : HK (KD k) r its C) (j : x ∈ its) (H : Ar κ n a (C ++ L)) (hs : its.length < 1024) (hf : 95000 < f) :
  Do (oA f k a r (x.i : Int)) fun res => ∃ q r' C' e,res = (r',e) /\ its.Perm (x :: q) /\ HK (KD k) r' q C' /\ Ar κ (n + bd k its.length) e (C' ++ ((x.i,x.cell (-1)) :: L)) := by
 unfold oA;rcases hk with rfl | rfl | rfl
 ·refine Do.t rfl ((Le.fo (k := f) h j H (by omega)).bind ?_);rintro _ ⟨q,r',C',e,rfl,h1,h3,H1⟩;exact ⟨_,rfl,q,r',C',e,rfl,h1,h3,H1.mono (by simp only [bd,if_true]; omega)⟩
 ·refine Do.f rfl (Do.t rfl ((Bi.fo (k := f) h j H hs hf).bind ?_));rintro _ ⟨q,r',C',e,rfl,h1,h3,H1⟩;exact ⟨_,rfl,q,r',C',e,rfl,h1,h3,H1.mono (by simp [bd])⟩
 ·refine Do.f rfl (Do.f rfl (Do.t rfl ((Sk.fo (k := f) h j H hs hf).bind ?_)));rintro _ ⟨q,r',C',e,rfl,h1,h3,H1⟩;exact ⟨_,rfl,q,r',C',e,rfl,h1,h3,H1.mono (by simp [bd])⟩
theorem aM {x y : It} (hk : Kd k) (h : HL (KD k) r its x y C) (hi : y.i = x.i) (j : ¬ x.lt y) (H : Ar κ n a (C ++ L)) (hs : its.length < 1024) (hf : 95000 < f) :
  Do (qX f k a r (y.i : Int)) fun res => ∃ r' q C' e,res = (r',e) /\ its.Perm (x :: q) /\ HK (KD k) r' (y :: q) C' /\ Ar κ (n + bd k its.length) e (C' ++ L) := by
 unfold qX;rcases hk with rfl | rfl | rfl
 ·refine Do.t rfl ((Le.ke (k := f) h hi j H (by omega)).bind ?_);rintro _ ⟨r',q,C',e,rfl,h1,h3,H1⟩;exact ⟨_,rfl,r',q,C',e,rfl,h1,h3,H1.mono (by simp only [bd,if_true]; omega)⟩
 ·refine Do.f rfl (Do.t rfl ((Bi.ke (k := f) h hi j H hs hf).bind ?_));rintro _ ⟨r',q,C',e,rfl,h1,h3,H1⟩;exact ⟨_,rfl,r',q,C',e,rfl,h1,h3,H1.mono (by simp [bd])⟩
 ·refine Do.f rfl (Do.f rfl (Do.t rfl ((Sk.ke (k := f) h hi j H hs hf).bind ?_)));rintro _ ⟨r',q,C',e,rfl,h1,h3,H1⟩;exact ⟨_,rfl,r',q,C',e,rfl,h1,h3,H1.mono (by simp [bd])⟩
theorem aO {s : Int} {i : List It} {C' : Heap} (hk : Kd k) (h : HK (KD k) r its C) (l : HK (KD k) s i C') (H : Ar κ n a (C ++ (C' ++ L))) (hs : its.length < 256) (hs' : i.length < 256) (hf : 95000 < f) :
  Do (qY f k a r s) fun res => ∃ t e j,res = (t,j) /\ HK (KD k) t (its ++ i) e /\ Ar κ (n + bd k (its.length + i.length)) j (e ++ L) := by
 unfold qY;rcases hk with rfl | rfl | rfl
 ·refine Do.t rfl ((Le.kj (k := f) h l H (by omega)).bind ?_);rintro _ ⟨t,e,j,rfl,h1,H1⟩;exact ⟨_,rfl,t,e,j,rfl,h1,H1.mono (by simp only [bd,if_true]; omega)⟩
 ·refine Do.f rfl (Do.t rfl ((Bi.kj (k := f) h l H hs hs' hf).bind ?_));rintro _ ⟨t,e,j,rfl,h1,H1⟩;exact ⟨_,rfl,t,e,j,rfl,h1,H1.mono (by simp [bd])⟩
 ·refine Do.f rfl (Do.f rfl (Do.t rfl ((Sk.kj (k := f) h l H hs hs' hf).bind ?_)));rintro _ ⟨t,e,j,rfl,h1,H1⟩;exact ⟨_,rfl,t,e,j,rfl,h1,H1.mono (by simp [bd])⟩
end
end
end Go.Proofs.YtojpmaakhdmhmaaGreat
