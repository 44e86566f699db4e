/-
  The statements ServerPlays of the program.
  Text 3 of 10: of what the proof needs (a row of the program: no condition is left); put together and made narrow by a program.
-/
import Derived.KernelRfl
import Derived.Test.YtcepppmiplonfaaGreatYa2
set_option linter.unusedVariables false
set_option linter.unusedSimpArgs false
namespace Go.Proofs.YtcepppmiplonfaaGreat
open Go.Th
noncomputable section
set_option maxRecDepth 10000
def Do {α : Type} (o : Option α) (Q : α -> Prop) : Prop := ∃ r,o = some r /\ Q r
theorem Do.bind {α β : Type} {o : Option α} {f : α -> Option β} {P : α -> Prop} {Q : β -> Prop} (h : Do o P) (k : ∀ r,P r -> Do (f r) Q) : Do (o.bind f) Q := by
 obtain ⟨r,rfl,hp⟩ := h;exact k r hp
theorem Do.ret {α : Type} {r : α} {Q : α -> Prop} (h : Q r) : Do (some r) Q := ⟨r,rfl,h⟩
theorem Do.mono {α : Type} {o : Option α} {P Q : α -> Prop} (h : Do o P) (k : ∀ r,P r -> Q r) : Do o Q := by
 obtain ⟨r,e,hp⟩ := h;exact ⟨r,e,k r hp⟩
theorem Do.of {α : Type} {o : Option α} {r : α} {Q : α -> Prop} (e : o = some r) (h : Q r) : Do o Q := ⟨r,e,h⟩
theorem Do.t {α : Type} {b : Bool} {x y : Option α} {Q : α -> Prop} (h : b = true) (k : Do x Q) : Do (bif b then x else y) Q := by subst h; exact k
theorem Do.f {α : Type} {b : Bool} {x y : Option α} {Q : α -> Prop} (h : b = false) (k : Do y Q) : Do (bif b then x else y) Q := by subst h; exact k
theorem Do.tb {α β : Type} {b : Bool} {x y : Option α} {g : α -> Option β} {Q : β -> Prop} (h : b = true) (k : Do (x.bind g) Q) : Do ((bif b then x else y).bind g) Q := by subst h; exact k
theorem Do.fb {α β : Type} {b : Bool} {x y : Option α} {g : α -> Option β} {Q : β -> Prop} (h : b = false) (k : Do (y.bind g) Q) : Do ((bif b then x else y).bind g) Q := by subst h; exact k
theorem Do.if {α : Type} {b : Bool} {x y : Option α} {Q : α -> Prop} (kt : b = true -> Do x Q) (e : b = false -> Do y Q) : Do (bif b then x else y) Q := by
 cases b
 ·exact e rfl
 ·exact kt rfl
theorem Do.seq {α β : Type} {o : Option α} {f : α -> Option β} {r : α} {Q : β -> Prop} (e : o = some r) (k : Do (f r) Q) : Do (o.bind f) Q := by subst e; exact k
theorem Do.elim {α : Type} {o : Option α} {Q : α -> Prop} (h : Do o Q) : ∃ r,o = some r /\ Q r := h
theorem Do.assoc {α β γ : Type} {o : Option α} {f : α -> Option β} {g : β -> Option γ} {Q : γ -> Prop} (h : Do (o.bind fun x => (f x).bind g) Q) : Do ((o.bind f).bind g) Q := by
 cases o <;> exact h
theorem zV {x : Int} (h1 : -9223372036854775808 <= x) (h2 : x < 9223372036854775808) : w64 x = x := by
 show (if (true && decide (x % 18446744073709551616 >= 9223372036854775808)) = true then x % 18446744073709551616 - 18446744073709551616 else x % 18446744073709551616) = x;by_cases h : x % 18446744073709551616 >= 9223372036854775808
 ·rw [if_pos (by simpa using h)]; omega
 ·rw [if_neg (by simpa using h)]; omega
theorem yR {α : Type} (l : List α) (c : Nat) : mIdx l (c : Int) = l[c]? := by
 unfold mIdx; rw [if_pos (by omega)]; simp
theorem yv {α : Type} (p q : List α) (y : α) : mIdx (p ++ y :: q) (p.length : Int) = some y := by
 rw [yR]; simp
theorem xh {α : Type} {l ys : List α} (h : l.length + ys.length <= 1073741824) : mApp l ys = some (l ++ ys) := by unfold mApp; rw [if_pos h]
theorem az {i : Int} {n : Nat} (h : 0 <= i) (e : i < (n : Int)) : mIn i n = some () := by unfold mIn; rw [if_pos ⟨h,e⟩]
instance CT : DecidableEq zu := fun a b => by cases a; cases b; simp only [zu.mk.injEq]; exact inferInstance
abbrev Heap := List (Nat × zu)
theorem pm {l l' : Heap} (h : ∀ p,l.count p = l'.count p) : l.Perm l' := List.perm_iff_count.2 h
structure Cfg where
 C : Nat
 b : Int
 g : Int
 mo : Int
structure Ar (κ : Cfg) (n : Nat) (a : za) (L : Heap) : Prop where
 len : a.l.length = κ.C
 cap : κ.C <= 65536
 nev : ∃ N : Nat,a.never = (N : Int) /\ N <= κ.C /\ (L.map Prod.fst ++ a.free.map Int.toNat).Perm (List.range N)
 fre : ∀ f ∈ a.free,0 <= f
 hav : ∀ p ∈ L,a.l[p.1]? = some p.2 /\ p.2.taken = true
 oth : ∀ (c : Nat) x,a.l[c]? = some x -> x.taken = true -> c ∈ L.map Prod.fst
 b0 : 0 <= κ.b
 lo : κ.b <= a.m_.steps
 hi : a.m_.steps <= κ.b + n
 mx : a.m_.steps <= 9223372036854775807
 beg : a.m_.begun = κ.g
 mst : a.m_.most = κ.mo
theorem Ar.p {κ : Cfg} {n : Nat} {a : za} {L L' : Heap} (H : Ar κ n a L) (h : L.Perm L') : Ar κ n a L' where
 len := H.len
 cap := H.cap
 nev := by
  obtain ⟨N,e,j,hp⟩ := H.nev;exact ⟨N,e,j,((h.symm.map _).append_right _).trans hp⟩
 fre := H.fre
 hav := fun p hp => H.hav p (h.mem_iff.2 hp)
 oth := fun c x e t => ((h.map _).mem_iff).1 (H.oth c x e t)
 b0 := H.b0
 lo := H.lo
 hi := H.hi
 mx := H.mx
 beg := H.beg
 mst := H.mst
theorem Ar.mono {κ : Cfg} {n m : Nat} {a : za} {L : Heap} (H : Ar κ n a L) (h : n <= m) : Ar κ m a L := { H with hi := by have := H.hi; omega }
theorem Ar.t2 {κ : Cfg} {n : Nat} {a : za} {x y : Nat × zu} {L : Heap} (H : Ar κ n a (x :: y :: L)) : Ar κ n a (y :: x :: L) := H.p (List.Perm.swap ..)
theorem Ar.t3 {κ : Cfg} {n : Nat} {a : za} {x y z : Nat × zu} {L : Heap} (H : Ar κ n a (x :: y :: z :: L)) : Ar κ n a (z :: x :: y :: L) := H.p (pm fun p => by simp only [List.count_cons]; omega)
theorem Ar.t4 {κ : Cfg} {n : Nat} {a : za} {x y z u : Nat × zu} {L : Heap} (H : Ar κ n a (x :: y :: z :: u :: L)) : Ar κ n a (u :: x :: y :: z :: L) := H.p (pm fun p => by simp only [List.count_cons]; omega)
theorem Ar.lt {κ : Cfg} {n : Nat} {a : za} {L : Heap} (H : Ar κ n a L) {c : Nat} {x : zu} (h : (c,x) ∈ L) : c < κ.C := by
 have := (H.hav _ h).1;have h2 := (List.getElem?_eq_some_iff.1 this).1;rw [<- H.len]; exact h2
theorem Ar.nodup {κ : Cfg} {n : Nat} {a : za} {L : Heap} (H : Ar κ n a L) : (L.map Prod.fst).Nodup := by
 obtain ⟨N,_,_,hp⟩ := H.nev;exact (List.nodup_append.1 (hp.nodup_iff.2 List.nodup_range)).1
theorem Ar.room {κ : Cfg} {n : Nat} {a : za} {L : Heap} (H : Ar κ n a L) : L.length <= κ.C := by
 obtain ⟨N,_,e,hp⟩ := H.nev;have := hp.length_eq;simp at this; omega
theorem Ar.uniq {κ : Cfg} {n : Nat} {a : za} {L : Heap} (H : Ar κ n a L) {c : Nat} {x y : zu} (h : (c,x) ∈ L) (t : (c,y) ∈ L) : x = y := by
 have j := (H.hav _ h).1;have e := (H.hav _ t).1;simp only at j e;rw [j] at e; exact Option.some.inj e
theorem bm (m : zF) (h0 : 0 <= m.steps) (h1 : m.steps <= 9223372036854775807) :
  ∃ s,xB m 1 = some (zF.mk s m.begun m.most) /\ m.steps <= s /\ s <= m.steps + 1 /\ s <= 9223372036854775807 := by
 unfold xB uj;have e : w64 (9223372036854775807 - (if (1 : Int) > 0 then 1 else 0)) = 9223372036854775806 := by rw [if_pos (by decide)]; exact zV (by decide) (by decide)
 rw [e];simp only [Int.reduceLT,Int.reduceGT,gt_iff_lt,if_true,decide_true,Bool.true_and,decide_false,Bool.false_and,cF];by_cases h : 9223372036854775806 < m.steps
 ·rw [dT h]; exact ⟨_,rfl,by omega,by omega,by omega⟩
 ·rw [dF h];simp only [cF,bS];rw [zV (by omega) (by omega)];exact ⟨_,rfl,by omega,by omega,by omega⟩
theorem Ar.tick {κ : Cfg} {n : Nat} {a : za} {L : Heap} (H : Ar κ n a L) : ∃ m,xB a.m_ 1 = some m /\ Ar κ (n + 1) (za.mk a.l a.never a.free m) L := by
 obtain ⟨s,e,h1,h2,h3⟩ := bm a.m_ (Int.le_trans H.b0 H.lo) H.mx;have h4 := H.lo;have j := H.hi;exact ⟨_,e,{ H with lo := by simp only; omega,hi := by simp only; omega,mx := h3,beg := H.beg,mst := H.mst }⟩
theorem ml {κ : Cfg} {n : Nat} {a : za} {L : Heap} (H : Ar κ n a L) {c : Nat} {x : zu} (h : (c,x) ∈ L) : yr a (c : Int) = some true := by
 unfold yr;have h1 := H.lt h;have h2 := H.hav _ h;have d1 : decide ((c : Int) >= 0) = true := by simp
 have d2 : decide ((c : Int) < (a.l.length : Int)) = true := by simp [H.len]; exact h1
 rw [d1,d2,yR,h2.1];have h3 : x.taken = true := h2.2;simp [h3]
theorem jA {a : za} {c : Int} (h : c < 0) : yr a c = some false := by
 unfold yr;rw [dF (by omega)]
 rfl
theorem BH {a : za} {c f : Int} (h : yr a c = some true) (h0 : 0 <= f) (h1 : f < 10) : wq a c f = some true := by
 unfold wq;rw [h];simp [h0,h1]
theorem BG {a : za} {c f : Int} (h : yr a c = some false) : wq a c f = some false := by
 unfold wq;rw [h]
 rfl
theorem Ar.get' {κ : Cfg} {n : Nat} {a : za} {L : Heap} (H : Ar κ n a L) {c : Nat} {x : zu} (h : (c,x) ∈ L) {f v : Int} (hf : zu.qF x f = some v) (h0 : 0 <= f) (h1 : f < 10) :
  ∃ m,zW a (c : Int) f = some (v,za.mk a.l a.never a.free m) /\ Ar κ (n + 1) (za.mk a.l a.never a.free m) L := by
 obtain ⟨m,e,j⟩ := H.tick;refine ⟨m,?_,j⟩;unfold zW;rw [e];simp only [bS];rw [BH (ml j h) h0 h1];simp only [bS,Bool.not_true,cF];rw [yR,(H.hav _ h).1];simp only [bS];rw [az h0 (by omega)];simp only [bS];rw [hf]
 rfl
theorem Ar.get {κ : Cfg} {n : Nat} {a : za} {L : Heap} (H : Ar κ n a L) {c : Nat} {x : zu} (h : (c,x) ∈ L) {f v : Int} (hf : zu.qF x f = some v) (h0 : 0 <= f := by decide) (h1 : f < 10 := by decide) :
  Do (zW a (c : Int) f) fun r => ∃ a',r = (v,a') /\ Ar κ (n + 1) a' L := by
 obtain ⟨m,e,j⟩ := H.get' h hf h0 h1;exact ⟨_,e,_,rfl,j⟩
theorem Ar.BF {κ : Cfg} {n : Nat} {a : za} {L : Heap} (H : Ar κ n a L) {c f : Int} (h : c < 0) :
  ∃ m,zW a c f = some (-1,za.mk a.l a.never a.free m) /\ Ar κ (n + 1) (za.mk a.l a.never a.free m) L := by
 obtain ⟨m,e,j⟩ := H.tick;refine ⟨m,?_,j⟩;unfold zW;rw [e];simp only [bS];rw [BG (jA h)]
 rfl
theorem Ar.getN {κ : Cfg} {n : Nat} {a : za} {L : Heap} (H : Ar κ n a L) {c f : Int} (h : c < 0) :
  Do (zW a c f) fun r => ∃ a',r = (-1,a') /\ Ar κ (n + 1) a' L := by
 obtain ⟨m,e,j⟩ := H.BF (f := f) h;exact ⟨_,e,_,rfl,j⟩
theorem Ar.cell {κ : Cfg} {n : Nat} {a : za} {L : Heap} (H : Ar κ n a L) {c : Nat} {x : zu} (h : (c,x) ∈ L) {f v : Int} (hf : zu.qF x f = some v) (hv : -1 <= v) (t : v < κ.C) (h0 : 0 <= f := by decide) (h1 : f < 10 := by decide) :
  Do (zH a (c : Int) f) fun r => ∃ a',r = (v,a') /\ Ar κ (n + 1) a' L := by
 obtain ⟨m,e,j⟩ := H.get' h hf h0 h1;unfold zH;rw [e];simp only [bS];by_cases hn : v < 0
 ·rw [dT hn];have : v = -1 := by omega
  subst this;exact ⟨_,rfl,_,rfl,j⟩
 ·rw [dF hn];have : decide (v >= (a.l.length : Int)) = false := by rw [H.len]; exact dF (by omega)
  simp only [cF,bS];rw [this];exact ⟨_,rfl,_,rfl,j⟩
theorem Ar.dL {κ : Cfg} {n : Nat} {a : za} {L : Heap} (H : Ar κ n a L) {c f : Int} (h : c < 0) :
  Do (zH a c f) fun r => ∃ a',r = (-1,a') /\ Ar κ (n + 1) a' L := by
 obtain ⟨m,e,j⟩ := H.BF (f := f) h;unfold zH;rw [e];exact ⟨_,rfl,_,rfl,j⟩
theorem getD_set_ne {α : Type} {l : List α} {i j : Nat} {x : α} (h : i ≠ j) : (l.set i x)[j]? = l[j]? := by
 rw [List.getElem?_set]; rw [if_neg h]
theorem Ar.set {κ : Cfg} {n : Nat} {a : za} {L : Heap} {c : Nat} {x y : zu} (H : Ar κ n a ((c,x) :: L)) {f v : Int} (hf : zu.ou x f v = some y) (ht : y.taken = true := by rfl) (h0 : 0 <= f := by decide) (h1 : f < 10 := by decide) :
  Do (zz a (c : Int) f v) fun r => ∃ a',r = (true,a') /\ Ar κ (n + 1) a' ((c,y) :: L) := by
 obtain ⟨m,e,j⟩ := H.tick;have hm : (c,x) ∈ (c,x) :: L := List.mem_cons_self ..;unfold zz;rw [e];simp only [bS];rw [BH (ml j hm) h0 h1];simp only [bS,Bool.not_true,cF];rw [yR,(H.hav _ hm).1];simp only [bS];rw [az h0 (by omega)];simp only [bS];rw [hf];refine ⟨_,rfl,_,rfl,?_⟩;have t : c < a.l.length := by rw [H.len]; exact H.lt hm
 have hnd := H.nodup;simp only [pC,List.nodup_cons] at hnd;exact { j with
  len := by simp [mSet,H.len]
  nev := j.nev
  hav := by
   intro p hp;rcases List.mem_cons.1 hp with rfl | hp
   ·refine ⟨?_,ht⟩;simp only [mSet,tN];rw [List.getElem?_set_self t]
   ·have h2 := H.hav p (mC _ hp);refine ⟨?_,h2.2⟩;simp only [mSet,tN];rw [getD_set_ne (fun e => hnd.1 (by rw [e]; exact List.mem_map_of_mem (f := Prod.fst) hp))];exact h2.1
  oth := by
   intro d z hz u;simp only [mSet,tN] at hz;by_cases hd : c = d
   ·subst hd; simp
   ·rw [getD_set_ne hd] at hz;have := H.oth d z hz u;simpa using this }
theorem Ar.setN {κ : Cfg} {n : Nat} {a : za} {L : Heap} (H : Ar κ n a L) {c f v : Int} (h : c < 0) :
  Do (zz a c f v) fun r => ∃ a',r = (false,a') /\ Ar κ (n + 1) a' L := by
 obtain ⟨m,e,j⟩ := H.tick;unfold zz;rw [e];simp only [bS];rw [BG (jA h)];exact ⟨_,rfl,_,rfl,j⟩
theorem Ar.cells {κ : Cfg} {n : Nat} {a : za} {L : Heap} (H : Ar κ n a L) : xW a = some (κ.C : Int) := by
 unfold xW; rw [H.len]
def cf : zu := zu.mk (-1) (-1) (-1) (-1) 0 0 (-1) 0 0 (-1) true
theorem Ar.put {κ : Cfg} {n : Nat} {a : za} {L : Heap} (H : Ar κ n a L) {c N : Nat} {fr : List Int} (A : c < κ.C) (hl : ∀ x,a.l[c]? = some x -> x.taken = false) (y : N <= κ.C)
  (hp : (c :: (L.map Prod.fst ++ fr.map Int.toNat)).Perm (List.range N)) (t : ∀ f ∈ fr,0 <= f) : Ar κ n (za.mk (mSet a.l (c : Int) cf) (N : Int) fr a.m_) ((c,cf) :: L) := by
 have u : c < a.l.length := by rw [H.len]; exact A
 have hnd : (c :: (L.map Prod.fst ++ fr.map Int.toNat)).Nodup := hp.nodup_iff.2 List.nodup_range;have j : c ∉ L.map Prod.fst := fun h => (List.nodup_cons.1 hnd).1 (mL _ h)
 exact { H with
  len := by simp [mSet,H.len]
  nev := ⟨N,rfl,y,by simpa using hp⟩
  fre := t
  hav := by
   intro p hp;rcases List.mem_cons.1 hp with rfl | hp
   ·refine ⟨?_,rfl⟩;simp only [mSet,tN];rw [List.getElem?_set_self u]
   ·have h2 := H.hav p hp;refine ⟨?_,h2.2⟩;simp only [mSet,tN];rw [getD_set_ne (fun e => j (by rw [e]; exact List.mem_map_of_mem (f := Prod.fst) hp))];exact h2.1
  oth := by
   intro d z hz B;simp only [mSet,tN] at hz;by_cases hd : c = d
   ·subst hd; simp
   ·rw [getD_set_ne hd] at hz;have := H.oth d z hz B;simp only [pC,iC]; exact Or.inr this }
theorem Ar.take {κ : Cfg} {n : Nat} {a : za} {L : Heap} (H : Ar κ n a L) (hr : L.length < κ.C) :
  Do (vK a) fun r => ∃ (c : Nat) (a' : za),r = ((c : Int),true,a') /\ c ∉ L.map Prod.fst /\ Ar κ (n + 1) a' ((c,cf) :: L) := by
 obtain ⟨m,e,y⟩ := H.tick;obtain ⟨N,z,J,hp⟩ := H.nev;have B := H.cap;have hlen := hp.length_eq;simp only [lA,lM,List.length_range] at hlen;unfold vK;rw [e];simp only [bS];rcases List.eq_nil_or_concat a.free with j | ⟨fr,c,j⟩
 ·rw [j] at hlen hp ⊢;simp only [List.length_nil,Nat.add_zero] at hlen;rw [dF (by rw [zV] <;> simp),cF,dF (by rw [H.len,z]; omega)];simp only [cF,bS,qg];rw [z,yR,List.getElem?_eq_getElem (by rw [H.len]; omega)];simp only [bS];have t : N ∉ L.map Prod.fst := fun h => by
   have := hp.mem_iff.1 (mL _ h);simp at this
  refine ⟨_,rfl,N,_,rfl,t,?_⟩;rw [zV (by omega) (by omega)];refine y.put (c := N) (N := N + 1) (fr := []) (by omega) (fun x A => ?_) (by omega) ?_ (by simp)
  ·cases ht : x.taken
   ·rfl
   ·exact absurd (y.oth N x A ht) t
  ·rw [List.range_succ];exact (hp.cons N).trans (List.perm_append_singleton N _).symm
 ·rw [List.concat_eq_append] at j;rw [j] at hlen;simp only [lA,List.length_singleton] at hlen;have D : w64 ((a.free.length : Int) - 1) = (fr.length : Int) := by rw [j,zV] <;> simp <;> omega
  rw [D,dT (by omega),cT];have F : mIdx a.free (fr.length : Int) = some c := by rw [j,yv]
  have I : mCut a.free 0 (fr.length : Int) = some fr := by
   unfold mCut; rw [if_pos ⟨by omega,by omega,by rw [j]; simp; omega⟩,j]; simp
  rw [F,I];simp only [bS,qg];have S : 0 <= c := H.fre c (by rw [j]; simp);obtain ⟨c,rfl⟩ : ∃ d : Nat,c = (d : Int) := ⟨c.toNat,by omega⟩
  have u : (c :: (L.map Prod.fst ++ fr.map Int.toNat)).Perm (List.range N) := by
   refine List.Perm.trans ?_ hp;rw [j];simp only [List.map_append,pC,List.map_nil,tN];rw [<- aA];exact (List.perm_append_singleton c _).symm
  have O : c < N := by
   have := u.mem_iff.1 (List.mem_cons_self ..);simpa using this
  have t : c ∉ L.map Prod.fst := fun h => (List.nodup_cons.1 (u.nodup_iff.2 List.nodup_range)).1 (mL _ h)
  rw [yR,List.getElem?_eq_getElem (by rw [H.len]; omega)];simp only [bS];refine ⟨_,rfl,c,_,rfl,t,?_⟩;rw [z];refine y.put (c := c) (N := N) (fr := fr) (by omega) (fun x A => ?_) J u (fun f hf => H.fre f (by rw [j]; simp [hf]));cases ht : x.taken
  ·rfl
  ·exact absurd (y.oth c x A ht) t
theorem Ar.give {κ : Cfg} {n : Nat} {a : za} {L : Heap} {c : Nat} {x : zu} (H : Ar κ n a ((c,x) :: L)) :
  Do (vJ a (c : Int)) fun r => ∃ (a' : za),r = (true,a') /\ Ar κ (n + 1) a' L := by
 obtain ⟨m,e,t⟩ := H.tick;have hm : (c,x) ∈ (c,x) :: L := List.mem_cons_self ..;obtain ⟨N,A,B,hp⟩ := H.nev;have u := H.cap;have hlen := hp.length_eq;simp only [lA,lM,List.length_range,lC] at hlen;unfold vJ;rw [e];simp only [bS];rw [ml t hm];simp only [bS,Bool.not_true,cF];rw [yR,(H.hav _ hm).1];simp only [bS];rw [xh (by simp only [List.length_singleton]; omega)];refine ⟨_,rfl,_,rfl,?_⟩;have j : c < a.l.length := by rw [H.len]; exact H.lt hm
 have hnd := H.nodup;simp only [pC,List.nodup_cons] at hnd;exact { t with
  len := by simp [mSet,H.len]
  nev := ⟨N,A,B,by
   refine List.Perm.trans ?_ hp;simp only [List.map_append,pC,List.map_nil,tN];rw [<- aA];exact List.perm_append_singleton c _⟩
  fre := by
   intro f hf;rcases List.mem_append.1 hf with hf | hf
   ·exact H.fre f hf
   ·simp at hf; omega
  hav := by
   intro p hp;have h2 := H.hav p (mC _ hp);refine ⟨?_,h2.2⟩;simp only [mSet,tN];rw [getD_set_ne (fun e => hnd.1 (by rw [e]; exact List.mem_map_of_mem (f := Prod.fst) hp))];exact h2.1
  oth := by
   intro d z hz y;simp only [mSet,tN] at hz;by_cases hd : c = d
   ·subst hd;rw [List.getElem?_set_self j] at hz;cases hz;simp at y
   ·rw [getD_set_ne hd] at hz;have := H.oth d z hz y;simp only [pC,iC] at this;rcases this with rfl | h
    ·exact absurd rfl hd
    ·exact h }
theorem lO {C : Nat} (h : C <= 65536) : ∃ a,oB (C : Int) = some a /\ Ar ⟨C,0,0,0⟩ 0 a [] := by
 unfold oB;have e : (if (if (65536 : Int) < (C : Int) then 65536 else (C : Int)) > 0 then (if (65536 : Int) < (C : Int) then 65536 else (C : Int)) else 0) = (C : Int) := by
  split <;> split <;> omega
 rw [e];unfold mW mX;rw [if_pos (by omega)];refine ⟨_,rfl,?_⟩;refine ⟨by simp,h,⟨0,rfl,by simp,by simp⟩,by simp,by simp,?_,by simp,by simp,by simp,by simp,rfl,rfl⟩;intro c x j ht;simp only [tN] at j;obtain ⟨h1,h2⟩ := List.getElem?_eq_some_iff.1 j;rw [List.getElem_replicate] at h2;subst h2;simp at ht
end
noncomputable section
set_option maxRecDepth 10000
structure It where
 i : Nat
 k : Int
 s : Int
def It.lt (x y : It) : Prop := x.k < y.k \/ (x.k = y.k /\ (x.s < y.s \/ (x.s = y.s /\ x.i < y.i)))
instance (x y : It) : Decidable (x.lt y) := by unfold It.lt; exact inferInstance
theorem It.lt_irrefl (x : It) : ¬ x.lt x := by unfold It.lt; omega
theorem It.le_trans {x y z : It} (h : ¬ y.lt x) (e : ¬ z.lt y) : ¬ z.lt x := by unfold It.lt at *; omega
theorem It.lt_asymm {x y : It} (h : x.lt y) : ¬ y.lt x := by unfold It.lt at *; omega
theorem It.le_of_lt {x y z : It} (h : ¬ y.lt x) (e : z.lt x) : z.lt y := by unfold It.lt at *; omega
theorem It.fQ {x y z : It} (h : x.lt y) (e : ¬ z.lt y) : x.lt z := by unfold It.lt at *; omega
structure Nd where
 c : Nat
 up : Int
 down : Int
 left : Int
 right : Int
 rank : Int
 mark : Int
def Nd.cell (ν : Nd) (i : Nat) : zu := zu.mk ν.up ν.down ν.left ν.right ν.rank ν.mark (i : Int) 0 0 (-1) true
def It.cell (x : It) (n : Int) : zu := zu.mk (-1) (-1) (-1) (-1) 0 0 (-1) x.k x.s n true
def pr (it : Nat -> It) (ν : Nd) : Heap := [(ν.c,ν.cell (it ν.c).i),((it ν.c).i,(it ν.c).cell ν.c)]
def lay (it : Nat -> It) (N : List Nd) : Heap := N.flatMap (pr it)
theorem vW (it : Nat -> It) (ν : Nd) (N : List Nd) : lay it (ν :: N) = (ν.c,ν.cell (it ν.c).i) :: ((it ν.c).i,(it ν.c).cell ν.c) :: lay it N := rfl
theorem nF (it : Nat -> It) (M N : List Nd) : lay it (M ++ N) = lay it M ++ lay it N := List.flatMap_append
theorem bR {it : Nat -> It} {M N : List Nd} (h : M.Perm N) : (lay it M).Perm (lay it N) := h.flatMap_right _
theorem pt (it : Nat -> It) : ∀ N : List Nd,(lay it N).length = 2 * N.length
 | [] => rfl
 | ν :: N => by rw [vW]; simp only [lC,pt it N]; omega
theorem uE {it it' : Nat -> It} : ∀ {N : List Nd},(∀ ν ∈ N,it' ν.c = it ν.c) -> lay it' N = lay it N
 | [],_ => rfl
 | ν :: N,h => by
  rw [vW,vW,h ν (List.mem_cons_self ..),uE (N := N) fun μ e => h μ (mC _ e)]
theorem jC {it : Nat -> It} {ν : Nd} : ∀ {N : List Nd},ν ∈ N -> (ν.c,ν.cell (it ν.c).i) ∈ lay it N /\ ((it ν.c).i,(it ν.c).cell ν.c) ∈ lay it N := fun {N} h =>
 ⟨List.mem_flatMap.2 ⟨ν,h,by simp [pr]⟩,List.mem_flatMap.2 ⟨ν,h,by simp [pr]⟩⟩
def Hp (κ : Cfg) (n : Nat) (a : za) (it : Nat -> It) (N : List Nd) (L : Heap) : Prop := Ar κ n a (lay it N ++ L)
section
variable {κ : Cfg} {n : Nat} {a : za} {it : Nat -> It} {N : List Nd} {L : Heap}
theorem Hp.p {M : List Nd} (H : Hp κ n a it N L) (h : N.Perm M) : Hp κ n a it M L := Ar.p H ((bR h).append_right _)
theorem Hp.mono {m : Nat} (H : Hp κ n a it N L) (h : n <= m) : Hp κ m a it N L := Ar.mono H h
theorem Hp.node (H : Hp κ n a it N L) {ν : Nd} (h : ν ∈ N) : (ν.c,ν.cell (it ν.c).i) ∈ lay it N ++ L := mL _ (jC h).1
theorem Hp.item (H : Hp κ n a it N L) {ν : Nd} (h : ν ∈ N) : ((it ν.c).i,(it ν.c).cell ν.c) ∈ lay it N ++ L := mL _ (jC h).2
theorem Hp.lt (H : Hp κ n a it N L) {ν : Nd} (h : ν ∈ N) : ν.c < κ.C := Ar.lt H (H.node h)
theorem Hp.itlt (H : Hp κ n a it N L) {ν : Nd} (h : ν ∈ N) : (it ν.c).i < κ.C := Ar.lt H (H.item h)
theorem Hp.live (H : Hp κ n a it N L) {ν : Nd} (h : ν ∈ N) : yr a (ν.c : Int) = some true := ml H (H.node h)
theorem Hp.room (H : Hp κ n a it N L) : 2 * N.length + L.length <= κ.C := by
 have := Ar.room H;rw [lA,pt] at this; exact this
theorem ry (it : Nat -> It) : ∀ N : List Nd,((lay it N).map Prod.fst).Perm (N.map Nd.c ++ N.map fun ν => (it ν.c).i)
 | [] => .refl _
 | ν :: N => by
  rw [vW];simp only [pC,List.cons_append];refine List.Perm.cons _ ?_;exact ((ry it N).cons _).trans List.perm_middle.symm
theorem Hp.nodup (H : Hp κ n a it N L) : ((N.map Nd.c ++ N.map fun ν => (it ν.c).i) ++ L.map Prod.fst).Nodup := by
 have := Ar.nodup H;rw [List.map_append] at this;exact ((ry it N).append_right _).nodup_iff.1 this
theorem Hp.nd (H : Hp κ n a it N L) : (N.map Nd.c).Nodup := (List.nodup_append.1 (List.nodup_append.1 H.nodup).1).1
theorem Hp.ne {ν μ : Nd} (H : Hp κ n a it (ν :: μ :: N) L) : ν.c ≠ μ.c := by
 have := H.nd;simp only [pC,List.nodup_cons,iC,not_or] at this;exact this.1.1
theorem Hp.bZ {ν : Nd} (H : Hp κ n a it (ν :: N) L) : ∀ μ ∈ N,μ.c ≠ ν.c := by
 have := H.nd;simp only [pC,List.nodup_cons] at this;exact fun μ j e => this.1 (e ▸ List.mem_map_of_mem (f := Nd.c) j)
theorem Hp.same (H : Hp κ n a it N L) {ν μ : Nd} (h : ν ∈ N) (u : μ ∈ N) (e : ν.c = μ.c) : ν = μ := by
 obtain ⟨j,t,rfl⟩ := List.append_of_mem h;have hp : (j ++ ν :: t).Perm (ν :: (j ++ t)) := List.perm_middle;rcases List.mem_cons.1 (hp.mem_iff.1 u) with r | r
 ·exact r.symm
 ·exact absurd e.symm ((H.p hp).bZ μ r)
theorem Hp.get (H : Hp κ n a it N L) {ν : Nd} (h : ν ∈ N) {f v : Int} (hf : zu.qF (ν.cell (it ν.c).i) f = some v := by rfl) (h0 : 0 <= f := by decide) (h1 : f < 10 := by decide) :
  Do (zW a (ν.c : Int) f) fun r => ∃ a',r = (v,a') /\ Hp κ (n + 1) a' it N L := Ar.get H (H.node h) hf h0 h1
theorem Hp.getc (H : Hp κ n a it N L) {ν : Nd} (h : ν ∈ N) {f v : Int} (hv : -1 <= v) (e : v < κ.C) (hf : zu.qF (ν.cell (it ν.c).i) f = some v := by rfl) (h0 : 0 <= f := by decide) (h1 : f < 10 := by decide) :
  Do (zH a (ν.c : Int) f) fun r => ∃ a',r = (v,a') /\ Hp κ (n + 1) a' it N L := Ar.cell H (H.node h) hf hv e h0 h1
theorem Hp.geti (H : Hp κ n a it N L) {ν : Nd} (h : ν ∈ N) :
  Do (zH a (ν.c : Int) 6) fun r => ∃ a',r = (((it ν.c).i : Int),a') /\ Hp κ (n + 1) a' it N L := H.getc h (by omega) (by have := H.itlt h; omega)
theorem Hp.getN (H : Hp κ n a it N L) {c f : Int} (h : c < 0) : Do (zW a c f) fun r => ∃ a',r = (-1,a') /\ Hp κ (n + 1) a' it N L := Ar.getN H h
theorem Hp.dL (H : Hp κ n a it N L) {c f : Int} (h : c < 0) : Do (zH a c f) fun r => ∃ a',r = (-1,a') /\ Hp κ (n + 1) a' it N L := Ar.dL H h
theorem Hp.set {ν : Nd} (H : Hp κ n a it (ν :: N) L) (μ : Nd) {f v : Int} (j : μ.c = ν.c := by rfl) (hf : zu.ou (ν.cell (it ν.c).i) f v = some (μ.cell (it ν.c).i) := by rfl) (h0 : 0 <= f := by decide) (h1 : f < 10 := by decide) :
  Do (zz a (ν.c : Int) f v) fun r => ∃ a',r = (true,a') /\ Hp κ (n + 1) a' it (μ :: N) L := by
 unfold Hp at H;rw [vW] at H;refine (Ar.set H hf rfl h0 h1).mono ?_;rintro _ ⟨a',rfl,e⟩;refine ⟨a',rfl,?_⟩;unfold Hp;rw [vW,j];exact e
theorem Hp.setN (H : Hp κ n a it N L) {c f v : Int} (h : c < 0) : Do (zz a c f v) fun r => ∃ a',r = (false,a') /\ Hp κ (n + 1) a' it N L := Ar.setN H h
theorem kG {L : Heap} (H : Ar κ n a L) {x : It} {p : Int} (h : (x.i,x.cell p) ∈ L) :
  Do (rW a (x.i : Int)) fun r => ∃ a',r = (zG.mk x.k x.s,a') /\ Ar κ (n + 2) a' L := by
 unfold rW;refine (H.get h rfl).bind ?_;rintro _ ⟨a1,rfl,H⟩;refine (H.get h rfl).bind ?_;rintro _ ⟨a2,rfl,H⟩;exact ⟨_,rfl,_,rfl,H⟩
theorem BL (x : Int) : ud x = some false := by unfold ud; simp
def sgn (x y : Int) : Int := if x < y then -1 else if x > y then 1 else 0
theorem aK (x y : Int) : (sgn x y = -1 /\ x < y) \/ (sgn x y = 1 /\ y < x) \/ (sgn x y = 0 /\ x = y) := by
 unfold sgn; split
 ·exact Or.inl ⟨rfl,by assumption⟩
 ·split
  ·exact Or.inr (Or.inl ⟨rfl,by omega⟩)
  ·exact Or.inr (Or.inr ⟨rfl,by omega⟩)
theorem mE (x y : Int) : vp x y = some (sgn x y) := by
 unfold vp sgn;rw [BL,BL];simp only [bS,cF];by_cases h : x < y
 ·simp [h]
 ·by_cases e : x > y
  ·simp [h,e]
  ·simp [h,e]
theorem B0 {k : Nat} (hk : 3 <= k) (x y : Int) : pf k [x,y] = some (if x ≠ 0 then x else y) := by
 obtain ⟨m,rfl⟩ : ∃ m,k = m + 3 := ⟨k - 3,by omega⟩
 unfold pf;rw [uq];rw [show (([x,y] : List Int).length : Int) = 2 from rfl];rw [show decide ((0 : Int) < 2) = true from rfl,cT,show mIdx [x,y] 0 = some x from rfl];simp only [bS];by_cases h : x = 0
 ·subst h;rw [show ((0 : Int) != 0) = false from rfl,cF,show w64 (0 + 1) = 1 from rfl,uq];rw [show decide ((1 : Int) < 2) = true from rfl,cT,show mIdx [0,y] 1 = some y from rfl];simp only [bS];by_cases e : y = 0
  ·subst e;rw [show ((0 : Int) != 0) = false from rfl,cF,show w64 (1 + 1) = 2 from rfl,uq]
   rfl
  ·rw [show (y != 0) = true by simp [e],cT];simp
 ·rw [show (x != 0) = true by simp [h],cT];simp [h]
theorem ia {k : Nat} (hk : 3 <= k) (x y : zG) : sE k x y = some (if sgn x.Key y.Key ≠ 0 then sgn x.Key y.Key else sgn x.Serial y.Serial) := by
 unfold sE;rw [mE,mE];simp only [bS];rw [B0 hk]
 rfl
theorem jX {k : Nat} (hk : 3 <= k) {L : Heap} (H : Ar κ n a L) {x y : It} {p q : Int} (h : (x.i,x.cell p) ∈ L) (j : (y.i,y.cell q) ∈ L) :
  Do (qi k a (x.i : Int) (y.i : Int)) fun r => ∃ a',r = (decide (x.lt y),a') /\ Ar κ (n + 4) a' L := by
 unfold qi;refine (kG H h).bind ?_;rintro _ ⟨a1,rfl,H⟩;refine (kG H j).bind ?_;rintro _ ⟨a2,rfl,H⟩;refine Do.seq (ia hk _ _) ?_;refine ⟨_,rfl,a2,?_,H⟩;refine Prod.ext ?_ rfl;rw [Bool.eq_iff_iff];simp only [Bool.or_eq_true,Bool.and_eq_true,decide_eq_true_eq,beq_iff_eq];unfold It.lt;rcases aK x.k y.k with ⟨e,h1⟩ | ⟨e,h1⟩ | ⟨e,h1⟩ <;> rw [e]
 ·exact ⟨fun _ => Or.inl h1,fun _ => Or.inl (by rw [if_pos (by decide)]; decide)⟩
 ·rw [if_pos (by decide)];refine ⟨fun h => ?_,fun h => ?_⟩
  ·rcases h with h | h
   ·exact absurd h (by decide)
   ·exact absurd h.1 (by decide)
  ·omega
 ·rw [if_neg (by decide)];rcases aK x.s y.s with ⟨e,h2⟩ | ⟨e,h2⟩ | ⟨e,h2⟩ <;> rw [e]
  ·exact ⟨fun _ => Or.inr ⟨h1,Or.inl h2⟩,fun _ => Or.inl (by decide)⟩
  ·refine ⟨fun h => ?_,fun h => ?_⟩
   ·rcases h with h | h
    ·exact absurd h (by decide)
    ·exact absurd h.1 (by decide)
   ·omega
  ·refine ⟨fun h => ?_,fun h => ?_⟩
   ·rcases h with h | h
    ·exact absurd h (by decide)
    ·exact Or.inr ⟨h1,Or.inr ⟨h2,by omega⟩⟩
   ·refine Or.inr ⟨rfl,by omega⟩
theorem Hp.before {k : Nat} (hk : 3 <= k) (H : Hp κ n a it N L) {ν μ : Nd} (h : ν ∈ N) (e : μ ∈ N) :
  Do (ui k a (ν.c : Int) (μ.c : Int)) fun r => ∃ a',r = (decide ((it ν.c).lt (it μ.c)),a') /\ Hp κ (n + 6) a' it N L := by
 unfold ui;refine (H.geti h).bind ?_;rintro _ ⟨a1,rfl,H⟩;refine (H.geti e).bind ?_;rintro _ ⟨a2,rfl,H⟩;refine (jX hk H (H.item h) (H.item e)).bind ?_;rintro _ ⟨a3,rfl,H⟩;exact ⟨_,rfl,_,rfl,H⟩
theorem jx {L : Heap} (H : Ar κ n a L) (hr : L.length < κ.C) (key serial : Int) :
  Do (mf a key serial) fun r => ∃ (i : Nat) (a' : za),r = ((i : Int),true,a') /\ i ∉ L.map Prod.fst /\ Ar κ (n + 3) a' ((i,(It.mk i key serial).cell (-1)) :: L) := by
 unfold mf;refine (H.take hr).bind ?_;rintro _ ⟨c,a1,rfl,e,H⟩;refine Do.tb rfl ?_;refine Do.assoc ((H.set rfl).bind ?_);rintro _ ⟨a2,rfl,H⟩;refine Do.assoc ((H.set rfl).bind ?_);rintro _ ⟨a3,rfl,H⟩;exact ⟨_,rfl,c,_,rfl,e,H⟩
def upd (it : Nat -> It) (c : Nat) (x : It) : Nat -> It := fun d => if d = c then x else it d
theorem uQ (it : Nat -> It) (c : Nat) (x : It) : upd it c x c = x := by simp [upd]
theorem ub (it : Nat -> It) {c d : Nat} (x : It) (h : d ≠ c) : upd it c x d = it d := by simp [upd,h]
def swp (it : Nat -> It) (c d : Nat) : Nat -> It := upd (upd it c (it d)) d (it c)
theorem qt {x : It} (H : Hp κ n a it N ((x.i,x.cell (-1)) :: L)) (hr : 2 * N.length + 1 + L.length < κ.C) :
  Do (px a (x.i : Int)) fun r => ∃ (c : Nat) (a' : za),r = ((c : Int),true,a') /\ Hp κ (n + 3) a' (upd it c x) (⟨c,-1,-1,-1,-1,0,0⟩ :: N) L /\ ∀ ν ∈ N,ν.c ≠ c := by
 unfold px pk;simp only [Option.bind_assoc,bS];have hl : (lay it N ++ (x.i,x.cell (-1)) :: L).length < κ.C := by simp only [lA,lC,pt]; omega
 refine (Ar.take H hl).bind ?_;rintro _ ⟨c,a1,rfl,z,H⟩;refine Do.tb rfl ?_;refine Do.assoc ((Ar.set H rfl).bind ?_);rintro _ ⟨a2,rfl,H⟩;have H1 : Ar κ (n + 2) a2 ((c,(Nd.mk c (-1) (-1) (-1) (-1) 0 0).cell x.i) :: (lay it N ++ (x.i,x.cell (-1)) :: L)) := H;have t : Ar κ (n + 2) a2 ((x.i,x.cell (-1)) :: (c,(Nd.mk c (-1) (-1) (-1) (-1) 0 0).cell x.i) :: (lay it N ++ L)) := H1.p (pm fun p => by simp only [List.count_cons,List.count_append]; omega);refine Do.assoc ((Ar.set t (y := x.cell c) rfl).bind ?_);rintro _ ⟨a3,rfl,u⟩;have hn : ∀ ν ∈ N,ν.c ≠ c := fun ν j e => z (by
  rw [List.map_append];exact mL _ (e ▸ List.mem_map_of_mem (f := Prod.fst) (jC (it := it) j).1))
 refine ⟨_,rfl,c,_,rfl,?_,hn⟩;unfold Hp;rw [vW];simp only [uQ];rw [uE (it := it) (it' := upd it c x) fun ν j => ub _ _ (hn ν j)];exact u.t2
theorem qs {ν : Nd} (H : Hp κ n a it (ν :: N) L) :
  Do (qq a (ν.c : Int)) fun r => ∃ (a' : za),r = (((it ν.c).i : Int),a') /\ Hp κ (n + 3) a' it N (((it ν.c).i,(it ν.c).cell (-1)) :: L) := by
 unfold qq;refine (H.geti (List.mem_cons_self ..)).bind ?_;rintro _ ⟨a1,rfl,H⟩;unfold Hp at H;rw [vW] at H;refine (Ar.set H.t2 (y := (it ν.c).cell (-1)) rfl).bind ?_;rintro _ ⟨a2,rfl,H⟩;refine (Ar.give H.t2).bind ?_;rintro _ ⟨a3,rfl,H⟩;refine ⟨_,rfl,_,rfl,?_⟩;unfold Hp;exact H.p List.perm_middle.symm
theorem pU {ν μ : Nd} (H : Hp κ n a it (ν :: μ :: N) L) :
  Do (rX a (ν.c : Int) (μ.c : Int)) fun a' => Hp κ (n + 6) a' (swp it ν.c μ.c) (ν :: μ :: N) L := by
 unfold rX pk;simp only [Option.bind_assoc,bS];have j := H.ne;have t : ∀ ξ ∈ N,ξ.c ≠ ν.c /\ ξ.c ≠ μ.c := by
  intro ξ e;refine ⟨H.bZ ξ (mC _ e),?_⟩;have hp : (ν :: μ :: N).Perm (μ :: ν :: N) := List.Perm.swap ..;exact (H.p hp).bZ ξ (mC _ e)
 refine (H.geti (List.mem_cons_self ..)).bind ?_;rintro _ ⟨a1,rfl,H⟩;refine (H.geti (mC _ (List.mem_cons_self ..))).bind ?_;rintro _ ⟨a2,rfl,H⟩;unfold Hp at H;rw [vW,vW] at H;refine (Ar.set H (y := ν.cell (it μ.c).i) rfl).bind ?_;rintro _ ⟨a3,rfl,H⟩;refine (Ar.set (Ar.t4 H) (y := (it μ.c).cell ν.c) rfl).bind ?_;rintro _ ⟨a4,rfl,H⟩;refine (Ar.set (Ar.t4 H) (y := μ.cell (it ν.c).i) rfl).bind ?_;rintro _ ⟨a5,rfl,H⟩;refine (Ar.set (Ar.t4 H) (y := (it ν.c).cell μ.c) rfl).bind ?_;rintro _ ⟨u,rfl,H⟩;refine ⟨_,rfl,?_⟩;unfold Hp;rw [vW,vW];have x : swp it ν.c μ.c ν.c = it μ.c := by simp [swp,upd,j]
 have z : swp it ν.c μ.c μ.c = it ν.c := by simp [swp,upd]
 rw [x,z,uE (it := it) (it' := swp it ν.c μ.c) fun ξ e => by simp [swp,upd,t ξ e]];exact (show Ar κ (n + 6) u (_ :: _ :: _ :: _ :: (lay it N ++ L)) from H).p (pm fun p => by simp only [List.count_cons,List.cons_append]; omega)
theorem mS {L : Heap} {x : It} {p : Int} (H : Ar κ n a ((x.i,x.cell p) :: L)) {key : Int} (hk : key <= x.k) :
  Do (sJ a (x.i : Int) key) fun r => ∃ (a' : za),r = (true,a') /\ Ar κ (n + 2) a' ((x.i,(It.mk x.i key x.s).cell p) :: L) := by
 unfold sJ;refine Do.assoc ((H.get (List.mem_cons_self ..) rfl).bind ?_);rintro _ ⟨a1,rfl,H⟩;refine Do.f (dF (by simp only [It.cell]; omega)) ?_;refine (Ar.set H (y := (It.mk x.i key x.s).cell p) rfl).bind ?_;rintro _ ⟨a2,rfl,H⟩;exact ⟨_,rfl,_,rfl,H⟩
end
end
noncomputable section
set_option maxRecDepth 10000
inductive F where
 | nil : F
 | cons (c r : Nat) (kids rest : F) : F
def F.hd : F -> Int
 | .nil => -1
 | .cons c _ _ _ => (c : Int)
def F.size : F -> Nat
 | .nil => 0
 | .cons _ _ kids rest => kids.size + rest.size + 1
structure Tr where
 c : Nat
 r : Nat
 kids : F
def F.trees : F -> List Tr
 | .nil => []
 | .cons c r kids rest => ⟨c,r,kids⟩ :: rest.trees
def F.of : List Tr -> F
 | [] => .nil
 | t :: e => .cons t.c t.r t.kids (F.of e)
theorem F.mq : ∀ e : List Tr,(F.of e).trees = e
 | [] => rfl
 | t :: e => by rw [F.of,F.trees,F.mq e]
def Tr.under (t l : Tr) : Tr := ⟨t.c,t.r + 1,.cons l.c l.r l.kids t.kids⟩
def nd : F -> Int -> List Nd
 | .nil,_ => []
 | .cons c r kids rest,up => ⟨c,up,kids.hd,-1,rest.hd,r,0⟩ :: (nd kids c ++ nd rest up)
def Tr.nd (t : Tr) (u w : Int) : List Nd := ⟨t.c,u,t.kids.hd,-1,w,t.r,0⟩ :: Go.Proofs.YtcepppmiplonfaaGreat.nd t.kids t.c
structure Lt where
 t : Tr
 u : Int
 w : Int
def Lt.nd (l : Lt) : List Nd := l.t.nd l.u l.w
def LN (ls : List Lt) : List Nd := ls.flatMap Lt.nd
theorem sN (l : Lt) (ls : List Lt) : LN (l :: ls) = l.nd ++ LN ls := rfl
theorem vn (l m : List Lt) : LN (l ++ m) = LN l ++ LN m := List.flatMap_append
theorem gq {l m : List Lt} (h : l.Perm m) : (LN l).Perm (LN m) := h.flatMap_right _
def F.loose : F -> Int -> List Lt
 | .nil,_ => []
 | .cons c r kids rest,up => ⟨⟨c,r,kids⟩,up,rest.hd⟩ :: rest.loose up
theorem vk : ∀ (f : F) (up : Int),nd f up = LN (f.loose up)
 | .nil,_ => rfl
 | .cons c r kids rest,up => by
  rw [F.loose,sN,nd,vk rest up]; rfl
theorem xK : ∀ (f : F) (up : Int),(f.loose up).map Lt.t = f.trees
 | .nil,_ => rfl
 | .cons c r kids rest,up => by rw [F.loose,pC,xK rest up,F.trees]
def F.cells : F -> List Nat
 | .nil => []
 | .cons c _ kids rest => c :: (kids.cells ++ rest.cells)
def Tr.cells (t : Tr) : List Nat := t.c :: t.kids.cells
def TC (e : List Tr) : List Nat := e.flatMap Tr.cells
theorem xr : ∀ (f : F) (up : Int),(nd f up).map Nd.c = f.cells
 | .nil,_ => rfl
 | .cons c r kids rest,up => by rw [nd,pC,List.map_append,xr,xr,F.cells]
theorem F.xk : ∀ f : F,f.cells = TC f.trees
 | .nil => rfl
 | .cons c r kids rest => by rw [F.cells,F.trees,F.xk rest]; rfl
theorem F.vA : ∀ f : F,f.cells.length = f.size
 | .nil => rfl
 | .cons c r kids rest => by rw [F.cells,F.size,lC,lA,F.vA,F.vA]
theorem qP (f : F) (up : Int) : (nd f up).length = f.size := by
 rw [<- F.vA,<- xr f up,lM]
theorem fo : ∀ ls : List Lt,(LN ls).map Nd.c = TC (ls.map Lt.t)
 | [] => rfl
 | l :: ls => by
  rw [sN,List.map_append,fo ls,pC];show (⟨l.t.c,l.u,l.t.kids.hd,-1,l.w,l.t.r,0⟩ :: nd l.t.kids l.t.c : List Nd).map Nd.c ++ _ = _;rw [pC,xr]; rfl
section
variable {κ : Cfg} {n : Nat} {a : za} {it : Nat -> It} {N : List Nd} {L : Heap}
theorem ob (H : Hp κ n a it N L) {f : F} {up : Int} (h : ∀ ν ∈ nd f up,ν ∈ N) : -1 <= f.hd /\ f.hd < κ.C := by
 cases f with
 | nil => simp only [F.hd]; omega
 | cons c r kids rest =>
  have := H.lt (h _ (List.mem_cons_self ..));simp only [F.hd]; simp only at this; omega
def F.roots : F -> List Int
 | .nil => []
 | .cons c _ _ rest => (c : Int) :: rest.roots
theorem oo : ∀ f : F,f.roots = f.trees.map fun t => (t.c : Int)
 | .nil => rfl
 | .cons c r kids rest => by rw [F.roots,F.trees,pC,oo rest]
def F.len (f : F) : Nat := f.trees.length
theorem F.vX : ∀ f : F,f.len <= f.size
 | .nil => Nat.le_refl _
 | .cons c r kids rest => by
  have := F.vX rest;simp only [F.len,F.trees,F.size,lC] at *; omega
theorem cQ : ∀ (f : F) (up : Int) {n : Nat} {a : za} (H : Hp κ n a it N L) (hs : ∀ ν ∈ nd f up,ν ∈ N) (m : Nat) (out : List Int),f.len < m -> out.length + f.len <= κ.C ->
  Do (tF 3 m f.hd out a) fun r => ∃ a',r = (out ++ f.roots,a') /\ Hp κ (n + f.len) a' it N L
 | .nil,up,n,a,H,hs,m,out,hm,u => by
  obtain ⟨m,rfl⟩ : ∃ q,m = q + 1 := ⟨m - 1,by omega⟩
  rw [tF];refine Do.assoc (Do.seq (jA (by decide)) ?_);exact ⟨_,rfl,a,by simp [F.roots],H⟩
 | .cons c r kids rest,up,n,a,H,hs,m,out,hm,u => by
  obtain ⟨m,rfl⟩ : ∃ q,m = q + 1 := ⟨m - 1,by omega⟩
  have hlen : (F.cons c r kids rest).len = rest.len + 1 := rfl;rw [hlen] at hm u ⊢;have x := hs _ (List.mem_cons_self ..);have e : ∀ ν ∈ nd rest up,ν ∈ N := fun ν h => hs ν (mC _ (List.mem_append_right _ h))
  rw [tF];refine Do.assoc (Do.seq (H.live x) (Do.tb rfl ?_));refine Do.assoc (Do.seq (Ar.cells H) ?_);have j := H.cap;refine Do.seq rfl (Do.t (dT (by omega)) ?_);refine Do.seq (xh (by simp only [List.length_singleton]; omega)) ?_;have hh := ob H e;refine (H.getc x (f := 3) hh.1 hh.2).bind ?_;rintro _ ⟨a1,rfl,H⟩;refine (cQ rest up H e m (out ++ [(c : Int)]) (by omega) (by simp only [lA,List.length_singleton]; omega)).mono ?_;rintro _ ⟨a2,rfl,H⟩;exact ⟨a2,by simp [F.roots],H.mono (by omega)⟩
theorem qQ : ∀ {l m : List Nat},l.Nodup -> (∀ x ∈ l,x ∈ m) -> l.length <= m.length
 | [],_,_,_ => Nat.zero_le _
 | x :: l,m,hn,hs => by
  obtain ⟨h1,h2⟩ := List.nodup_cons.1 hn;have t := hs x (List.mem_cons_self ..);have := qQ (m := m.erase x) h2 fun y u => by
   have j : y ≠ x := fun e => h1 (e ▸ u)
   exact (List.mem_erase_of_ne j).2 (hs y (mC _ u))
  rw [List.length_erase_of_mem t] at this;have : 0 < m.length := List.length_pos_of_mem t;simp only [lC]; omega
end
theorem kZ {κ : Cfg} {n : Nat} {a : za} {it : Nat -> It} {N : List Nd} {L : Heap} {ν μ : Nd} (H : Hp κ n a it (ν :: μ :: N) L) (h0 : -1 <= μ.down) (h1 : μ.down < κ.C) :
  Do (uW a (ν.c : Int) (μ.c : Int)) fun a' => Hp κ (n + 4) a' it (⟨ν.c,μ.c,ν.down,ν.left,μ.down,ν.rank,ν.mark⟩ :: ⟨μ.c,μ.up,ν.c,μ.left,μ.right,μ.rank,μ.mark⟩ :: N) L := by
 unfold uW;refine (H.getc (mC _ (List.mem_cons_self ..)) (f := 1) h0 h1).bind ?_;rintro _ ⟨a1,rfl,H⟩;refine (H.set ⟨ν.c,ν.up,ν.down,ν.left,μ.down,ν.rank,ν.mark⟩).bind ?_;rintro _ ⟨a2,rfl,H⟩;refine (H.set (ν := ⟨ν.c,ν.up,ν.down,ν.left,μ.down,ν.rank,ν.mark⟩) ⟨ν.c,μ.c,ν.down,ν.left,μ.down,ν.rank,ν.mark⟩).bind ?_;rintro _ ⟨a3,rfl,H⟩;have e := H.p (List.Perm.swap ..);refine (e.set ⟨μ.c,μ.up,ν.c,μ.left,μ.right,μ.rank,μ.mark⟩).bind ?_;rintro _ ⟨a4,rfl,e⟩;exact ⟨_,rfl,e.p (List.Perm.swap ..)⟩
def lk (it : Nat -> It) (s t : Tr) : Tr := if (it t.c).lt (it s.c) then t.under s else s.under t
theorem npm {l l' : List Nd} (h : ∀ p : Nd -> Bool,l.countP p = l'.countP p) : l.Perm l' := by
 classical
 exact List.perm_iff_count.2 fun x => h _
theorem linked {κ : Cfg} {n : Nat} {a : za} {it : Nat -> It} {N : List Nd} {L : Heap} {s t : Tr} {u w x w' : Int} {r : Nat} (H : Hp κ n a it (s.nd u w ++ (t.nd x w' ++ N)) L) (hs : s.r = r) (D : r < 1000) :
  Do ((uW a (t.c : Int) (s.c : Int)).bind fun e => (zz e (s.c : Int) 4 (w64 ((r : Int) + 1))).bind fun j => some ((s.c : Int),j.2)) fun res => ∃ a',res = ((s.c : Int),a') /\ Hp κ (n + 5) a' it ((s.under t).nd u w ++ N) L := by
 have H1 : Hp κ n a it (⟨t.c,x,t.kids.hd,-1,w',t.r,0⟩ :: ⟨s.c,u,s.kids.hd,-1,w,s.r,0⟩ :: (nd s.kids s.c ++ (nd t.kids t.c ++ N))) L := by
  refine H.p (npm fun p => ?_);simp only [Tr.nd,List.countP_cons,List.countP_append]; omega
 have hh := ob H1 (f := s.kids) (up := s.c) fun ν h => mC _ (mC _ (mL _ h))
 refine (kZ H1 hh.1 hh.2).bind ?_;intro a1 y;have z := y.p (List.Perm.swap ..);rw [zV (by omega) (by omega)];refine (z.set ⟨s.c,u,t.c,-1,w,(r : Int) + 1,0⟩ rfl rfl).bind ?_;rintro _ ⟨a2,rfl,A⟩;refine ⟨_,rfl,_,rfl,?_⟩;have : (((s.under t).r : Nat) : Int) = (r : Int) + 1 := by simp only [Tr.under,hs]; omega
 have B := A.p (M := (s.under t).nd u w ++ N) (npm fun p => by
  simp only [Tr.nd,this];simp only [Tr.under,nd,F.hd,List.countP_cons,List.countP_append]; omega)
 exact B
theorem cu {κ : Cfg} {n : Nat} {a : za} {it : Nat -> It} {N : List Nd} {L : Heap} {k : Nat} (hk : 3 <= k) {s t : Tr} {u w e w' : Int} {r : Nat} (H : Hp κ n a it (s.nd u w ++ (t.nd e w' ++ N)) L) (hs : s.r = r) (ht : t.r = r) (x : r < 1000) :
  Do (tK k a (s.c : Int) (t.c : Int) (r : Int)) fun res => ∃ u w a',res = (((lk it s t).c : Int),a') /\ Hp κ (n + 11) a' it ((lk it s t).nd u w ++ N) L := by
 unfold tK;have y : (⟨s.c,u,s.kids.hd,-1,w,s.r,0⟩ : Nd) ∈ s.nd u w ++ (t.nd e w' ++ N) := mL _ (List.mem_cons_self ..);have m2 : (⟨t.c,e,t.kids.hd,-1,w',t.r,0⟩ : Nd) ∈ s.nd u w ++ (t.nd e w' ++ N) := List.mem_append_right _ (mL _ (List.mem_cons_self ..));refine (H.before hk m2 y).bind ?_;rintro _ ⟨a1,rfl,H⟩;unfold lk;by_cases c : (it t.c).lt (it s.c)
 ·rw [if_pos c];refine Do.tb (dT c) ?_;have H1 : Hp κ (n + 6) a1 it (t.nd e w' ++ (s.nd u w ++ N)) L := H.p (npm fun p => by simp only [List.countP_append]; omega);refine (linked H1 ht x).mono ?_;rintro _ ⟨a2,rfl,j⟩;exact ⟨_,_,_,rfl,j⟩
 ·rw [if_neg c];refine Do.fb (dF c) ?_;refine (linked H hs x).mono ?_;rintro _ ⟨a2,rfl,j⟩;exact ⟨_,_,_,rfl,j⟩
end
noncomputable section
set_option maxRecDepth 10000
namespace Le
inductive B where
 | nil : B
 | node (c : Nat) (rk : Int) (l r : B)
def B.hd : B -> Int
 | .nil => -1
 | .node c _ _ _ => (c : Int)
def B.cells : B -> List Nat
 | .nil => []
 | .node c _ l r => c :: (l.cells ++ r.cells)
def bn : B -> Int -> List Nd
 | .nil,_ => []
 | .node c rk l r,u => ⟨c,u,-1,l.hd,r.hd,rk,0⟩ :: (bn l c ++ bn r c)
theorem vD : ∀ (t : B) (u : Int),(bn t u).map Nd.c = t.cells
 | .nil,_ => rfl
 | .node c rk l r,u => by rw [bn,pC,List.map_append,vD l,vD r]; rfl
theorem kB (t : B) (u : Int) : (bn t u).length = t.cells.length := by rw [<- vD t u,lM]
def Or (it : Nat -> It) : B -> Prop
 | .nil => True
 | .node c _ l r => (∀ d ∈ l.cells ++ r.cells,¬ (it d).lt (it c)) /\ Or it l /\ Or it r
theorem Or.least {it : Nat -> It} {c : Nat} {rk : Int} {l r : B} (h : Or it (.node c rk l r)) : ∀ d ∈ (B.node c rk l r).cells,¬ (it d).lt (it c) := by
 intro d hd;rcases List.mem_cons.1 hd with rfl | hd
 ·exact It.lt_irrefl _
 ·exact h.1 d hd
theorem Or.congr {it it' : Nat -> It} : ∀ {t : B},Or it t -> (∀ d ∈ t.cells,it' d = it d) -> Or it' t
 | .nil,_,_ => trivial
 | .node c rk l r,h,e => by
  refine ⟨fun d hd => ?_,h.2.1.congr fun d hd => e d (mC _ (mL _ hd)),h.2.2.congr fun d hd => e d (mC _ (List.mem_append_right _ hd))⟩;rw [e d (mC _ hd),e c (List.mem_cons_self ..)];exact h.1 d hd
theorem cpm {l l' : List Nat} (h : ∀ p : Nat -> Bool,l.countP p = l'.countP p) : l.Perm l' := List.perm_iff_count.2 fun x => h _
section
variable {κ : Cfg} {n : Nat} {a : za} {it : Nat -> It} {N : List Nd} {L : Heap}
theorem ob (H : Hp κ n a it N L) {t : B} {u : Int} (h : ∀ ν ∈ bn t u,ν ∈ N) : -1 <= t.hd /\ t.hd < κ.C := by
 cases t with
 | nil => simp only [B.hd]; omega
 | node c rk l r =>
  have := H.lt (h _ (List.mem_cons_self ..));simp only [B.hd]; simp only at this; omega
theorem iG (H : Hp κ n a it N L) {t : B} {u : Int} (h : ∀ ν ∈ bn t u,ν ∈ N) : Do (tZ a t.hd) fun r => ∃ v a',r = (v,a') /\ Hp κ (n + 1) a' it N L := by
 unfold tZ;cases t with
 | nil => exact Do.t rfl ⟨_,rfl,_,_,rfl,H.mono (by omega)⟩
 | node c rk l r =>
  refine Do.f (by simp only [B.hd]; simp) ?_;refine (H.get (h _ (List.mem_cons_self ..)) (f := 4)).bind ?_;rintro _ ⟨a1,rfl,H1⟩;exact ⟨_,rfl,_,_,rfl,H1⟩
def Fx (c : Nat) (l r T : B) : Prop := ∃ rk,T = .node c rk l r \/ T = .node c rk r l
theorem Fx.cells {c : Nat} {l r T : B} (h : Fx c l r T) : T.cells.Perm (c :: (l.cells ++ r.cells)) := by
 obtain ⟨rk,rfl | rfl⟩ := h
 ·exact .refl _
 ·exact List.Perm.cons _ List.perm_append_comm
theorem Fx.hd {c : Nat} {l r T : B} (h : Fx c l r T) : T.hd = (c : Int) := by
 obtain ⟨rk,rfl | rfl⟩ := h <;> rfl
theorem Fx.or {c : Nat} {rk : Int} {l r T : B} (h : Fx c l r T) (e : Or it (.node c rk l r)) : Or it T := by
 obtain ⟨j,rfl | rfl⟩ := h
 ·exact ⟨e.1,e.2⟩
 ·exact ⟨fun d hd => e.1 d ((List.perm_append_comm.mem_iff).1 hd),e.2.2,e.2.1⟩
theorem fF {c : Nat} {u rk v b : Int} {x y : B} (H : Hp κ n a it (bn (.node c rk x y) u ++ N) L) :
  Do ((zW a (c : Int) 4).bind fun e => (zz e.2 (c : Int) 4 v).bind fun j => some (e.1 != v,j.2)) fun res => ∃ b a' T,res = (b,a') /\ Fx c x y T /\ Hp κ (n + 2) a' it (bn T u ++ N) L := by
 refine (Hp.get H (List.mem_cons_self ..) (f := 4)).bind ?_;rintro _ ⟨a1,rfl,H1⟩;refine (Hp.set H1 ⟨c,u,-1,x.hd,y.hd,v,0⟩).bind ?_;rintro _ ⟨a2,rfl,t⟩;exact ⟨_,rfl,_,a2,.node c v x y,rfl,⟨v,Or.inl rfl⟩,t⟩
theorem fE {c : Nat} {u rk : Int} {l r : B} (H : Hp κ n a it (bn (.node c rk l r) u ++ N) L) :
  Do (sV a (c : Int)) fun res => ∃ b a' T,res = (b,a') /\ Fx c l r T /\ Hp κ (n + 8) a' it (bn T u ++ N) L := by
 unfold sV;have A : ∀ ν ∈ bn l c,ν ∈ bn (.node c rk l r) u ++ N := fun ν h => mL _ (mC _ (mL _ h))
 have D : ∀ ν ∈ bn r c,ν ∈ bn (.node c rk l r) u ++ N := fun ν h => mL _ (mC _ (List.mem_append_right _ h))
 have hl := ob H A;have hr := ob H D;refine (H.getc (List.mem_cons_self ..) (f := 2) hl.1 hl.2).bind ?_;rintro _ ⟨a1,rfl,H1⟩;refine (H1.getc (List.mem_cons_self ..) (f := 3) hr.1 hr.2).bind ?_;rintro _ ⟨a2,rfl,F⟩;refine (iG F A).bind ?_;rintro _ ⟨v1,a3,rfl,I⟩;refine (iG I D).bind ?_;rintro _ ⟨v2,a4,rfl,y⟩;by_cases hv : v1 < v2
 ·refine Do.tb (dT hv) ?_;refine Do.assoc ((Hp.set y ⟨c,u,-1,r.hd,r.hd,rk,0⟩).bind ?_);rintro _ ⟨a5,rfl,J⟩;refine Do.assoc ((Hp.set (ν := ⟨c,u,-1,r.hd,r.hd,rk,0⟩) J ⟨c,u,-1,r.hd,l.hd,rk,0⟩).bind ?_);rintro _ ⟨z,rfl,O⟩;refine Do.seq rfl ?_;have e : Hp κ (n + 6) z it (⟨c,u,-1,r.hd,l.hd,rk,0⟩ :: (bn l c ++ bn r c ++ N)) L := O;have S : Hp κ (n + 6) z it (bn (.node c rk r l) u ++ N) L := Hp.p e (npm fun p => by
   simp only [bn,List.countP_cons,List.countP_append,List.cons_append]; omega)
  refine (fF (v := _) (b := 0) S).mono ?_;rintro _ ⟨b,t,T,rfl,⟨x,h⟩,j⟩;exact ⟨b,t,T,rfl,⟨x,h.symm⟩,j⟩
 ·refine Do.fb (dF hv) ?_;refine Do.seq rfl ?_;refine (fF (v := _) (b := 0) y).mono ?_;rintro _ ⟨b,t,T,rfl,h,j⟩;exact ⟨b,t,T,rfl,h,j.mono (by omega)⟩
structure PE where
 c : Nat
 rk : Int
 l : B
 u : Int
 w : Int
def PE.nd (p : PE) : List Nd := ⟨p.c,p.u,-1,p.l.hd,p.w,p.rk,0⟩ :: bn p.l p.c
def PN (ps : List PE) : List Nd := ps.flatMap PE.nd
theorem dy (p : PE) (ps : List PE) : PN (p :: ps) = p.nd ++ PN ps := rfl
theorem AA (p : PE) (ps : List PE) : PN (ps ++ [p]) = PN ps ++ p.nd := by simp [PN]
def pc (ps : List PE) : List Int := ps.map fun p => (p.c : Int)
def reb : List PE -> B -> B
 | [],T => T
 | p :: ps,T => .node p.c p.rk p.l (reb ps T)
theorem jL (p : PE) (T : B) : ∀ ps : List PE,reb (ps ++ [p]) T = reb ps (.node p.c p.rk p.l T)
 | [] => rfl
 | q :: ps => by rw [List.cons_append,reb,jL p T ps,reb]
theorem aH {it : Nat -> It} {T T' : B} : ∀ {ps : List PE},Or it (reb ps T) -> T'.cells.Perm T.cells -> (Or it T -> Or it T') -> (reb ps T').cells.Perm (reb ps T).cells /\ Or it (reb ps T')
 | [],h,hp,e => ⟨hp,e h⟩
 | p :: ps,h,hp,e => by
  obtain ⟨h1,h2⟩ := aH (ps := ps) h.2.2 hp e;refine ⟨List.Perm.cons _ (h1.append_left _),fun d hd => h.1 d ?_,h.2.1,h2⟩;exact ((h1.append_left _).mem_iff).1 hd
theorem iI {T T' : B} (hp : T'.cells.Perm T.cells) : ∀ ps : List PE,(reb ps T').cells.Perm (reb ps T).cells
 | [] => hp
 | p :: ps => List.Perm.cons _ ((iI hp ps).append_left _)
theorem iy : ∀ (q : Nat) (R S : B) (u v : Int) {n : Nat} {a : za} (H : Hp κ n a it N L) (D : ∀ ν ∈ bn R u,ν ∈ N) (x : ∀ ν ∈ bn S v,ν ∈ N) (m : Nat) (pre : List Int),R.cells.length + S.cells.length <= q -> q + 5 < m -> pre.length + q <= κ.C ->
  Do (vu m R.hd S.hd pre a) fun res => ∃ (ps : List PE) (T : B) (ut r1 s1 : Int) (a' : za),res = (r1,s1,pre ++ pc ps,a') /\ (if s1 > r1 then s1 else r1) = T.hd /\ Hp κ (n + 7 * ps.length) a' it N L /\ (bn R u ++ bn S v).Perm (PN ps ++ bn T ut) /\
   (Or it R -> Or it S -> Or it (reb ps T)) /\ (reb ps T).cells.Perm (R.cells ++ S.cells) /\ ps.length <= q := by
 intro q;induction q with
 | zero =>
  intro R S u v n a H D x m pre hq hm hp;obtain ⟨m,rfl⟩ : ∃ q,m = q + 1 := ⟨m - 1,by omega⟩
  cases R with
  | node c rk l r => simp [B.cells] at hq
  | nil =>
   rw [vu];refine Do.fb rfl ?_;refine Do.seq rfl (Do.f rfl ?_);have hs : -1 <= S.hd := (ob H x).1;refine ⟨_,rfl,[],S,v,-1,S.hd,a,by simp [pc,B.hd],?_,H.mono (by omega),by simp [PN,bn],fun _ h => h,by simp [reb,B.cells],by simp⟩;split <;> omega
 | succ q ih =>
  intro R S u v n a H D x m pre hq hm hp;obtain ⟨m,rfl⟩ : ∃ q,m = q + 1 := ⟨m - 1,by omega⟩
  rw [vu];cases R with
  | nil =>
   refine Do.fb rfl ?_;refine Do.seq rfl (Do.f rfl ?_);have hs : -1 <= S.hd := (ob H x).1;refine ⟨_,rfl,[],S,v,-1,S.hd,a,by simp [pc,B.hd],?_,H.mono (by omega),by simp [PN,bn],fun _ h => h,by simp [reb,B.cells],by simp⟩;split <;> omega
  | node c rk l r =>
   cases S with
   | nil =>
    refine Do.tb (by simp only [B.hd]; simp) ?_;refine Do.fb rfl ?_;refine Do.seq rfl (Do.f rfl ?_);refine ⟨_,rfl,[],.node c rk l r,u,(c : Int),-1,a,by simp [pc,B.hd],?_,H.mono (by omega),by simp [PN,bn],fun h _ => h,by simp [reb,B.cells],by simp⟩;simp only [B.hd]; split <;> omega
   | node c' J l' r' =>
    refine Do.tb (by simp only [B.hd]; simp) ?_;refine Do.tb (by simp only [B.hd]; simp) ?_;refine Do.assoc (Do.seq (Ar.cells H) ?_);have X := H.cap;have Y := D _ (List.mem_cons_self ..);have Z := x _ (List.mem_cons_self ..);have mr : ∀ ν ∈ bn r c,ν ∈ N := fun ν h => D ν (mC _ (List.mem_append_right _ h))
    have I : ∀ ν ∈ bn r' c',ν ∈ N := fun ν h => x ν (mC _ (List.mem_append_right _ h))
    refine Do.seq rfl (Do.t (dT (by omega)) ?_);refine (H.before (by omega) Z Y).bind ?_;rintro _ ⟨a1,rfl,H1⟩;simp only [B.cells,lC,lA] at hq;by_cases j : (it c').lt (it c)
    ·refine Do.tb (dT j) ?_;refine Do.seq rfl ?_;refine Do.seq (xh (by simp only [List.length_singleton]; omega)) ?_;have hh := ob H1 I;refine (H1.getc Z (f := 3) hh.1 hh.2).bind ?_;rintro _ ⟨a2,rfl,O⟩;refine (ih r' (.node c rk l r) c' u O I D m (pre ++ [(c' : Int)]) (by simp only [B.cells,lC,lA]; omega) (by omega) (by simp only [lA,List.length_singleton]; omega)).mono ?_;rintro _ ⟨ps,T,ut,r1,s1,a3,rfl,e,U,y,W,F,hl⟩;refine ⟨⟨c',J,l',v,r'.hd⟩ :: ps,T,ut,r1,s1,a3,by simp [pc],e,U.mono (by simp only [lC]; omega),npm fun P => ?_,fun z A => ⟨fun d hd => ?_,A.2.1,W A.2.2 z⟩,?_,by simp only [lC]; omega⟩
     ·have := y.countP_eq P;simp only [dy,PE.nd,bn,List.countP_cons,List.countP_append,List.cons_append] at this ⊢; omega
     ·rcases List.mem_append.1 hd with hd | hd
      ·exact A.1 d (mL _ hd)
      ·rcases List.mem_append.1 (F.mem_iff.1 hd) with hd | hd
       ·exact A.1 d (List.mem_append_right _ hd)
       ·exact It.le_trans (It.lt_asymm j) (z.least d hd)
     ·refine cpm fun P => ?_
      have := F.countP_eq P;simp only [reb,B.cells,List.countP_cons,List.countP_append,List.cons_append] at this ⊢; omega
    ·refine Do.fb (dF j) ?_;refine Do.seq rfl ?_;refine Do.seq (xh (by simp only [List.length_singleton]; omega)) ?_;have hh := ob H1 mr;refine (H1.getc Y (f := 3) hh.1 hh.2).bind ?_;rintro _ ⟨a2,rfl,O⟩;refine (ih r (.node c' J l' r') c v O mr x m (pre ++ [(c : Int)]) (by simp only [B.cells,lC,lA]; omega) (by omega) (by simp only [lA,List.length_singleton]; omega)).mono ?_;rintro _ ⟨ps,T,ut,r1,s1,a3,rfl,e,U,y,W,F,hl⟩;refine ⟨⟨c,rk,l,u,r.hd⟩ :: ps,T,ut,r1,s1,a3,by simp [pc],e,U.mono (by simp only [lC]; omega),npm fun P => ?_,fun z A => ⟨fun d hd => ?_,z.2.1,W z.2.2 A⟩,?_,by simp only [lC]; omega⟩
     ·have := y.countP_eq P;simp only [dy,PE.nd,bn,List.countP_cons,List.countP_append,List.cons_append] at this ⊢; omega
     ·rcases List.mem_append.1 hd with hd | hd
      ·exact z.1 d (mL _ hd)
      ·rcases List.mem_append.1 (F.mem_iff.1 hd) with hd | hd
       ·exact z.1 d (List.mem_append_right _ hd)
       ·exact It.le_trans j (A.least d hd)
     ·refine cpm fun P => ?_
      have := F.countP_eq P;simp only [reb,B.cells,List.countP_cons,List.countP_append,List.cons_append] at this ⊢; omega
theorem gV {T : B} {u : Int} (H : Hp κ n a it (bn T u ++ N) L) (v : Int) : Do (zz a T.hd 0 v) fun r => ∃ b a',r = (b,a') /\ Hp κ (n + 1) a' it (bn T v ++ N) L := by
 cases T with
 | nil =>
  refine (Hp.setN H (c := -1) (by decide)).mono ?_;rintro _ ⟨a1,rfl,H1⟩;exact ⟨_,a1,rfl,H1⟩
 | node c rk l r =>
  refine (Hp.set H ⟨c,v,-1,l.hd,r.hd,rk,0⟩).mono ?_;rintro _ ⟨a1,rfl,H1⟩;exact ⟨_,a1,rfl,H1⟩
theorem B1 (ps : List PE) : (pc ps).length = ps.length := by simp [pc]
theorem iz (all : List PE) (y : all.length < 70000) : ∀ (q : Nat) (pre post : List PE) (T : B) (ut : Int) {n : Nat} {a : za} (H : Hp κ n a it (PN pre ++ (bn T ut ++ N)) L) (m : Nat),all = pre ++ post -> pre.length = q -> q < m ->
  Do (wu (pc all) m T.hd ((q : Int) - 1) a) fun res => ∃ (T' : B) (x : Int) (a' : za),res = (T'.hd,a') /\ Hp κ (n + 10 * q) a' it (bn T' x ++ N) L /\ T'.cells.Perm (reb pre T).cells /\ (Or it (reb pre T) -> Or it T') := by
 intro q;induction q with
 | zero =>
  intro pre post T ut n a H m y hq hm;obtain ⟨m,rfl⟩ : ∃ q,m = q + 1 := ⟨m - 1,by omega⟩
  have : pre = [] := List.length_eq_zero_iff.1 hq;subst this;rw [wu];refine Do.f (dF (by omega)) ?_;exact ⟨_,rfl,T,ut,a,rfl,H,.refl _,fun h => h⟩
 | succ q ih =>
  intro pre post T ut n a H m e hq hm;obtain ⟨m,rfl⟩ : ∃ q,m = q + 1 := ⟨m - 1,by omega⟩
  rcases List.eq_nil_or_concat pre with rfl | ⟨pre,p,rfl⟩
  ·simp at hq
  ·rw [List.concat_eq_append] at *
   have A : pre.length = q := by simpa using hq
   have a0 : q < all.length := by rw [e]; simp; omega
   have j : mIdx (pc all) (((q + 1 : Nat) : Int) - 1) = some (p.c : Int) := by
    have Y : ((q + 1 : Nat) : Int) - 1 = (q : Int) := by omega
    rw [Y,yR,e];simp [pc,<- A]
   rw [wu];refine Do.t (dT (by omega)) ?_;refine Do.seq j ?_;have J : Hp κ n a it (⟨p.c,p.u,-1,p.l.hd,p.w,p.rk,0⟩ :: (bn p.l p.c ++ (PN pre ++ (bn T ut ++ N)))) L := Hp.p H (npm fun P => by
    simp only [AA,PE.nd,List.countP_cons,List.countP_append,List.cons_append]; omega)
   refine (J.set ⟨p.c,p.u,-1,p.l.hd,T.hd,p.rk,0⟩).bind ?_;rintro _ ⟨a1,rfl,H1⟩;refine Do.seq j ?_;have D : Hp κ (n + 1) a1 it (bn T ut ++ (⟨p.c,p.u,-1,p.l.hd,T.hd,p.rk,0⟩ :: (bn p.l p.c ++ (PN pre ++ N)))) L := H1.p (npm fun P => by
    simp only [List.countP_cons,List.countP_append,List.cons_append]; omega)
   refine (gV D (p.c : Int)).bind ?_;rintro _ ⟨b,a2,rfl,O⟩;refine Do.seq j ?_;have S : Hp κ (n + 2) a2 it (bn (.node p.c p.rk p.l T) p.u ++ (PN pre ++ N)) L := O.p (npm fun P => by
    simp only [bn,List.countP_cons,List.countP_append,List.cons_append]; omega)
   refine (fE S).bind ?_;rintro _ ⟨b',a3,F,rfl,hf,U⟩;have W : Hp κ (n + 10) a3 it (PN pre ++ (bn F p.u ++ N)) L := U.p (npm fun P => by simp only [List.countP_append]; omega);have Z : w64 (((q + 1 : Nat) : Int) - 1 - 1) = (q : Int) - 1 := by rw [zV] <;> omega
   have := ih pre ([p] ++ post) F p.u W m (by rw [e]; simp) A (by omega);rw [hf.hd] at this;show Do (wu (pc all) m (p.c : Int) (w64 (((q + 1 : Nat) : Int) - 1 - 1)) a3) _;rw [Z];refine this.mono ?_;rintro _ ⟨T',x,a4,rfl,X,h1,h2⟩;have z : F.cells.Perm (B.node p.c p.rk p.l T).cells := hf.cells;refine ⟨T',x,a4,rfl,X.mono (by omega),?_,fun I => ?_⟩
   ·rw [jL];exact h1.trans (iI z pre)
   ·rw [jL] at I;exact h2 (aH I z fun h => hf.or h).2
theorem tq {k : Nat} {R S : B} {u v : Int} (H : Hp κ n a it (bn R u ++ (bn S v ++ N)) L) (I : Or it R) (J : Or it S) (hk : 70010 < k) :
  Do (vB k a R.hd S.hd) fun res => ∃ (T : B) (a' : za),res = (T.hd,a') /\ Hp κ (n + 17 * (R.cells.length + S.cells.length) + 1) a' it (bn T (-1) ++ N) L /\ T.cells.Perm (R.cells ++ S.cells) /\ Or it T := by
 unfold vB;have j := H.room;simp only [lA,kB] at j;have x := H.cap;by_cases he : R.hd = S.hd
 ·have : R = .nil /\ S = .nil := by
   cases R with
   | nil => cases S with
    | nil => exact ⟨rfl,rfl⟩
    | node c rk l r => simp only [B.hd] at he; omega
   | node c rk l r => cases S with
    | nil => simp only [B.hd] at he; omega
    | node c' W l' r' =>
     have hn := H.nd;simp only [B.hd] at he;have : c = c' := by omega
     subst this;rw [List.map_append,List.map_append,vD,vD] at hn;exact absurd rfl ((List.nodup_append.1 hn).2.2 c (List.mem_cons_self ..) c (mL _ (List.mem_cons_self ..)))
  obtain ⟨rfl,rfl⟩ := this;refine Do.t (by simp) ?_;exact ⟨_,rfl,.nil,a,rfl,H.mono (by omega),.refl _,trivial⟩
 ·refine Do.f (by simpa using he) ?_;refine (iy (R.cells.length + S.cells.length) R S u v H (fun ν h => mL _ h) (fun ν h => List.mem_append_right _ (mL _ h)) k [] (Nat.le_refl _) (by omega) (by simp; omega)).bind ?_;rintro _ ⟨ps,T,ut,r1,s1,a1,rfl,e,H1,hp,U,O,hl⟩;have y : Hp κ (n + 7 * ps.length) a1 it (PN ps ++ (bn T ut ++ N)) L := H1.p (by
   rw [<- aA,<- aA]; exact hp.append_right N)
  have h3 := iz ps (by omega) ps.length ps [] T ut y k (by simp) rfl (by omega);rw [<- e] at h3;have D : w64 ((([] ++ pc ps).length : Int) - 1) = (ps.length : Int) - 1 := by rw [List.nil_append,B1,zV] <;> omega
  refine Do.bind (P := _) (o := wu ([] ++ pc ps) k (if s1 > r1 then s1 else r1) (w64 ((([] ++ pc ps).length : Int) - 1)) a1) (by rw [D]; exact h3) ?_;rintro _ ⟨T',X,a2,rfl,z,h4,F⟩;refine (gV z (-1)).bind ?_;rintro _ ⟨b,a3,rfl,A⟩;exact ⟨_,rfl,T',a3,rfl,A.mono (by omega),h4.trans O,F (U I J)⟩
end
end Le
end
noncomputable section
set_option maxRecDepth 10000
theorem bU {κ : Cfg} {n : Nat} {a : za} {it : Nat -> It} {N : List Nd} {L : Heap} (H : Hp κ n a it N L) {ν : Nd} (y : ν ∈ N) {key : Int} (hk : key <= (it ν.c).k) :
  Do (sJ a ((it ν.c).i : Int) key) fun r => ∃ a',r = (true,a') /\ Hp κ (n + 2) a' (upd it ν.c ⟨(it ν.c).i,key,(it ν.c).s⟩) N L := by
 obtain ⟨p,q,e⟩ := List.append_of_mem y;have hp : N.Perm (ν :: (p ++ q)) := by rw [e]; exact List.perm_middle
 have H1 := H.p hp;have j := H1.bZ;unfold Hp at H1;rw [vW] at H1;refine (mS (x := it ν.c) (Ar.t2 H1) hk).mono ?_;rintro _ ⟨a1,rfl,t⟩;refine ⟨a1,rfl,Hp.p (N := ν :: (p ++ q)) ?_ hp.symm⟩;unfold Hp;rw [vW,uQ,uE (it := it) (it' := upd it ν.c ⟨(it ν.c).i,key,(it ν.c).s⟩) fun μ u => ub _ _ (j μ u)];exact Ar.t2 t
abbrev KS := (Nat -> It) -> List Nd -> Int -> Prop
def HK (K : KS) (r : Int) (its : List It) (C : Heap) : Prop := ∃ (it : Nat -> It) (M : List Nd),K it M r /\ C.Perm (lay it M) /\ its.Perm (M.map fun ν => it ν.c)
def HL (K : KS) (r : Int) (its : List It) (x y : It) (C : Heap) : Prop := ∃ (it : Nat -> It) (M : List Nd) (ν : Nd),K it M r /\ ν ∈ M /\ it ν.c = x /\ C.Perm (lay (upd it ν.c y) M) /\ its.Perm (M.map fun ν => it ν.c)
theorem HK.p {K : KS} {r : Int} {its e : List It} {C C' : Heap} (h : HK K r its C) (h1 : its.Perm e) (h2 : C.Perm C') : HK K r e C' := by
 obtain ⟨it,M,hk,hC,j⟩ := h;exact ⟨it,M,hk,h2.symm.trans hC,h1.symm.trans j⟩
theorem HK.len {K : KS} {r : Int} {its : List It} {C : Heap} (h : HK K r its C) : C.length = 2 * its.length := by
 obtain ⟨it,M,hk,hC,e⟩ := h;rw [hC.length_eq,pt,e.length_eq,lM]
section
variable {κ : Cfg} {n : Nat} {a : za} {L : Heap} {K : KS} {r : Int} {its : List It} {C : Heap}
theorem HK.mem (h : HK K r its C) {x : It} (j : x ∈ its) : ∃ p,(x.i,x.cell p) ∈ C := by
 obtain ⟨it,M,hk,hC,e⟩ := h;obtain ⟨ν,t,rfl⟩ := List.mem_map.1 (e.mem_iff.1 j);exact ⟨_,hC.mem_iff.2 (jC t).2⟩
theorem HK.lower (h : HK K r its C) (H : Ar κ n a (C ++ L)) {x : It} (y : x ∈ its) {key : Int} (hk : key <= x.k) :
  Do (sJ a (x.i : Int) key) fun res => ∃ C' a',res = (true,a') /\ HL K r its x ⟨x.i,key,x.s⟩ C' /\ Ar κ (n + 2) a' (C' ++ L) := by
 obtain ⟨it,M,u,hC,e⟩ := h;obtain ⟨ν,j,rfl⟩ := List.mem_map.1 (e.mem_iff.1 y);have H1 : Hp κ n a it M L := Ar.p H (hC.append_right L);refine (bU H1 j hk).mono ?_;rintro _ ⟨a1,rfl,t⟩;exact ⟨_,a1,rfl,⟨it,M,ν,u,j,rfl,.refl _,e⟩,t⟩
theorem gJ {it : Nat -> It} {M : List Nd} {ν : Nd} {x y : It} (hn : (M.map Nd.c).Nodup) (z : ν ∈ M) (t : it ν.c = x) : ∃ q,(M.map fun μ => it μ.c).Perm (x :: q) /\ (M.map fun μ => upd it ν.c y μ.c).Perm (y :: q) := by
 obtain ⟨p,s,rfl⟩ := List.append_of_mem z;have hp : (p ++ ν :: s).Perm (ν :: (p ++ s)) := List.perm_middle;have j := ((hp.map Nd.c).nodup_iff).1 hn;simp only [pC,List.nodup_cons] at j;refine ⟨(p ++ s).map fun μ => it μ.c,?_,?_⟩
 ·have := hp.map fun μ => it μ.c
  rwa [pC,t] at this
 ·have := hp.map fun μ => upd it ν.c y μ.c
  rw [pC,uQ] at this;have e : ((p ++ s).map fun μ => upd it ν.c y μ.c) = (p ++ s).map fun μ => it μ.c := List.map_congr_left fun μ u => ub _ _ fun e => j.1 (e ▸ List.mem_map_of_mem (f := Nd.c) u)
  rwa [e] at this
end
end
noncomputable section
set_option maxRecDepth 10000
namespace Le
structure Fr where
 c : Nat
 rk : Int
 left : Bool
 sib : B
def Fr.lb (f : Fr) (X : B) : B := bif f.left then X else f.sib
def Fr.rb (f : Fr) (X : B) : B := bif f.left then f.sib else X
def Fr.plug (f : Fr) (X : B) : B := .node f.c f.rk (f.lb X) (f.rb X)
def plug : List Fr -> B -> B
 | [],X => X
 | f :: fs,X => plug fs (f.plug X)
def upOf (u : Int) : List Fr -> Int
 | [] => u
 | f :: _ => (f.c : Int)
theorem oX (f : Fr) : ∀ (fs : List Fr) (X : B),plug (fs ++ [f]) X = f.plug (plug fs X)
 | [],X => rfl
 | g :: fs,X => by rw [List.cons_append,plug,oX f fs,plug]
theorem find {c : Nat} : ∀ {t : B},c ∈ t.cells -> ∃ fs rk l r,t = plug fs (.node c rk l r)
 | .nil,h => by simp [B.cells] at h
 | .node u j x r0,h => by
  rcases List.mem_cons.1 h with rfl | h
  ·exact ⟨[],j,x,r0,rfl⟩
  ·rcases List.mem_append.1 h with h | h
   ·obtain ⟨fs,rk,l,r,e⟩ := find h;exact ⟨fs ++ [⟨u,j,true,r0⟩],rk,l,r,by rw [oX,<- e]; rfl⟩
   ·obtain ⟨fs,rk,l,r,e⟩ := find h;exact ⟨fs ++ [⟨u,j,false,x⟩],rk,l,r,by rw [oX,<- e]; rfl⟩
def fn : List Fr -> Int -> Int -> List Nd
 | [],_,_ => []
 | f :: fs,h,u => ⟨f.c,upOf u fs,-1,bif f.left then h else f.sib.hd,bif f.left then f.sib.hd else h,f.rk,0⟩ :: (bn f.sib f.c ++ fn fs f.c u)
theorem rL (u : Int) : ∀ (fs : List Fr) (X : B),(bn (plug fs X) u).Perm (fn fs X.hd u ++ bn X (upOf u fs))
 | [],X => .refl _
 | f :: fs,X => by
  rw [plug];refine (rL u fs (f.plug X)).trans (npm fun P => ?_);obtain ⟨c,rk,b,s⟩ := f;cases b <;> simp only [Fr.plug,Fr.lb,Fr.rb,fn,bn,B.hd,upOf,cT,cF,List.countP_cons,List.countP_append,List.cons_append] <;> omega
def fc (fs : List Fr) : List Nat := fs.flatMap fun f => f.c :: f.sib.cells
theorem wE : ∀ (fs : List Fr) (X : B),(plug fs X).cells.Perm (fc fs ++ X.cells)
 | [],X => .refl _
 | f :: fs,X => by
  rw [plug];refine (wE fs (f.plug X)).trans (cpm fun P => ?_);obtain ⟨c,rk,b,s⟩ := f;cases b <;> simp only [fc,List.flatMap_cons,Fr.plug,Fr.lb,Fr.rb,B.cells,cT,cF,List.countP_cons,List.countP_append,List.cons_append] <;> omega
theorem gR : ∀ (fs : List Fr) {X Y : B},X.hd = Y.hd -> (plug fs X).hd = (plug fs Y).hd
 | [],_,_,h => h
 | f :: fs,X,Y,_ => gR fs (X := f.plug X) (Y := f.plug Y) rfl
theorem oY {it : Nat -> It} : ∀ {fs : List Fr} {X : B},Or it (plug fs X) -> Or it X
 | [],X,h => h
 | f :: fs,X,h => by
  have h1 : Or it (f.plug X) := oY (fs := fs) h;obtain ⟨c,rk,b,s⟩ := f;cases b
  ·exact h1.2.2
  ·exact h1.2.1
theorem jH {it : Nat -> It} : ∀ {fs : List Fr} {X Y : B},Or it (plug fs X) -> (∀ d ∈ Y.cells,d ∈ X.cells) -> Or it Y -> Or it (plug fs Y)
 | [],X,Y,_,_,h => h
 | f :: fs,X,Y,h,hs,e => by
  have h1 : Or it (f.plug X) := oY (fs := fs) h;obtain ⟨c,rk,b,s⟩ := f;refine jH (fs := fs) h ?_ ?_
  ·intro d hd;cases b <;> simp only [Fr.plug,Fr.lb,Fr.rb,B.cells,cT,cF,iC,iA] at hd ⊢
   ·rcases hd with h | h | h
    ·exact Or.inl h
    ·exact Or.inr (Or.inl h)
    ·exact Or.inr (Or.inr (hs d h))
   ·rcases hd with h | h | h
    ·exact Or.inl h
    ·exact Or.inr (Or.inl (hs d h))
    ·exact Or.inr (Or.inr h)
  ·cases b
   ·refine ⟨fun d hd => h1.1 d ?_,h1.2.1,e⟩;rcases List.mem_append.1 hd with h | h
    ·exact mL _ h
    ·exact List.mem_append_right _ (hs d h)
   ·refine ⟨fun d hd => h1.1 d ?_,e,h1.2.2⟩;rcases List.mem_append.1 hd with h | h
    ·exact mL _ (hs d h)
    ·exact List.mem_append_right _ h
section
variable {κ : Cfg} {n : Nat} {a : za} {it : Nat -> It} {N : List Nd} {L : Heap}
theorem oP : ∀ (fs : List Fr) (Y : B) {n : Nat} {a : za} (H : Hp κ n a it (bn (plug fs Y) (-1) ++ N) L) (m j : Nat),fs.length < m -> j + fs.length <= κ.C + 1 ->
  Do (xA m (upOf (-1) fs) (j : Int) a) fun a' => ∃ T : B,Hp κ (n + 9 * fs.length) a' it (bn T (-1) ++ N) L /\ T.cells.Perm (plug fs Y).cells /\ (Or it (plug fs Y) -> Or it T) /\ T.hd = (plug fs Y).hd
 | [],Y,n,a,H,m,j,hm,hj => by
  obtain ⟨m,rfl⟩ : ∃ q,m = q + 1 := ⟨m - 1,by omega⟩
  rw [xA];refine Do.fb rfl ?_;refine Do.seq rfl (Do.f rfl ?_);exact ⟨_,rfl,Y,H,.refl _,fun h => h,rfl⟩
 | f :: fs,Y,n,a,H,m,j,hm,hj => by
  obtain ⟨m,rfl⟩ : ∃ q,m = q + 1 := ⟨m - 1,by omega⟩
  simp only [lC] at hm hj;have J := H.cap;rw [xA];refine Do.tb (by simp only [upOf]; simp) ?_;refine Do.assoc (Do.seq (Ar.cells H) ?_);refine Do.tb (dT (by omega)) ?_;have H1 : Hp κ n a it (bn (f.plug Y) (upOf (-1) fs) ++ (fn fs f.c (-1) ++ N)) L := H.p (by
   rw [<- aA];exact ((rL (-1) fs (f.plug Y)).trans List.perm_append_comm).append_right N)
  refine Do.assoc ((fE H1).bind ?_);rintro _ ⟨b,a1,e,rfl,hf,F⟩;refine Do.seq rfl ?_;have u := hf.hd;have A : ∀ d ∈ e.cells,d ∈ (f.plug Y).cells := fun d hd => hf.cells.mem_iff.1 hd
  have O : Hp κ (n + 8) a1 it (bn (plug fs e) (-1) ++ N) L := F.p (by
   rw [<- aA];refine List.Perm.append_right N ?_;have := rL (-1) fs e;rw [u] at this;exact List.perm_append_comm.trans this.symm)
  have x : (plug fs e).cells.Perm (plug (f :: fs) Y).cells := (wE fs e).trans (((hf.cells).append_left _).trans (wE fs (f.plug Y)).symm);have z : Or it (plug (f :: fs) Y) -> Or it (plug fs e) := fun h => jH (fs := fs) (X := f.plug Y) h A (hf.or (oY (fs := fs) h))
  have y : (plug fs e).hd = (plug (f :: fs) Y).hd := gR fs (Y := f.plug Y) u;cases b with
  | false =>
   refine Do.f rfl ?_;exact ⟨_,rfl,plug fs e,O.mono (by simp only [lC]; omega),x,z,y⟩
  | true =>
   refine Do.t rfl ?_;have hT : ∃ rk l r,e = .node f.c rk l r := by
    obtain ⟨rk,rfl | rfl⟩ := hf
    ·exact ⟨_,_,_,rfl⟩
    ·exact ⟨_,_,_,rfl⟩
   obtain ⟨rk,l,r,Z⟩ := hT;have I : (⟨f.c,upOf (-1) fs,-1,l.hd,r.hd,rk,0⟩ : Nd) ∈ bn e (upOf (-1) fs) ++ (fn fs f.c (-1) ++ N) := by rw [Z]; exact List.mem_cons_self ..
   have D : -1 <= upOf (-1) fs /\ upOf (-1) fs < κ.C := by
    cases fs with
    | nil => simp only [upOf]; omega
    | cons g gs =>
     have := F.lt (ν := ⟨g.c,upOf (-1) gs,-1,bif g.left then (f.c : Int) else g.sib.hd,bif g.left then g.sib.hd else (f.c : Int),g.rk,0⟩) (List.mem_append_right _ (mL _ (List.mem_cons_self ..)));simp only [upOf]; simp only at this; omega
   refine (F.getc I (f := 0) D.1 D.2).bind ?_;rintro _ ⟨a2,rfl,S⟩;have U : Hp κ (n + 9) a2 it (bn (plug fs e) (-1) ++ N) L := S.p (by
    rw [<- aA];refine List.Perm.append_right N ?_;have := rL (-1) fs e;rw [u] at this;exact List.perm_append_comm.trans this.symm)
   have ew : w64 ((j : Int) + 1) = ((j + 1 : Nat) : Int) := by rw [zV] <;> omega
   show Do (xA m (upOf (-1) fs) (w64 ((j : Int) + 1)) a2) _;rw [ew];refine (oP fs e U m (j + 1) (by omega) (by omega)).mono ?_;rintro a3 ⟨T,W,h1,h2,h3⟩;exact ⟨T,W.mono (by simp only [lC]; omega),h1.trans x,fun h => h2 (z h),h3.trans y⟩
theorem nE {fs : List Fr} {X : B} : fs.length <= (plug fs X).cells.length := by
 have h := (wE fs X).length_eq;have : ∀ fs : List Fr,fs.length <= (fc fs).length := by
  intro fs;induction fs with
  | nil => simp
  | cons f fs ih => simp only [fc,List.flatMap_cons,lC,lA] at *; omega
 have := this fs;rw [h,lA]; omega
theorem kQ {k : Nat} {f : Fr} {fs : List Fr} {c : Nat} {rk : Int} {l r : B} (H : Hp κ n a it (bn (plug (f :: fs) (.node c rk l r)) (-1) ++ N) L) (hk : 70010 < k) :
  Do (tp k a (c : Int)) fun a' => ∃ T : B,Hp κ (n + 5 + 9 * (fs.length + 1)) a' it (bn T (-1) ++ (bn (.node c rk l r) (-1) ++ N)) L /\ T.cells.Perm (plug (f :: fs) .nil).cells /\ (Or it (plug (f :: fs) .nil) -> Or it T) /\ T.hd = (plug (f :: fs) (.node c rk l r)).hd := by
 unfold tp;have Z := H.cap;have x := H.room;simp only [lA,kB] at x;have S := nE (fs := f :: fs) (X := .node c rk l r);simp only [lC] at S;have z : Hp κ n a it (⟨c,f.c,-1,l.hd,r.hd,rk,0⟩ :: ⟨f.c,upOf (-1) fs,-1,bif f.left then (c : Int) else f.sib.hd,bif f.left then f.sib.hd else (c : Int),f.rk,0⟩ :: (bn l c ++ (bn r c ++ (bn f.sib f.c ++ (fn fs f.c (-1) ++ N))))) L := H.p (npm fun P => by
  have := (rL (-1) (f :: fs) (.node c rk l r)).countP_eq P;simp only [fn,bn,B.hd,upOf,List.countP_cons,List.countP_append,List.cons_append] at this ⊢; omega)
 have y : (⟨f.c,upOf (-1) fs,-1,bif f.left then (c : Int) else f.sib.hd,bif f.left then f.sib.hd else (c : Int),f.rk,0⟩ : Nd) ∈ (⟨c,f.c,-1,l.hd,r.hd,rk,0⟩ : Nd) :: ⟨f.c,upOf (-1) fs,-1,bif f.left then (c : Int) else f.sib.hd,bif f.left then f.sib.hd else (c : Int),f.rk,0⟩ :: (bn l c ++ (bn r c ++ (bn f.sib f.c ++ (fn fs f.c (-1) ++ N)))) := mC _ (List.mem_cons_self ..);have O : (f.c : Int) < κ.C := by have := z.lt y; simp only at this; omega
 have F : (c : Int) < κ.C := by have := z.lt (List.mem_cons_self ..); simp only at this; omega
 have j := ob z (t := f.sib) (u := f.c) fun ν h => by
  refine mC _ (mC _ (List.mem_append_right _ (List.mem_append_right _ (mL _ h))))
 have U : f.sib.hd ≠ (c : Int) := by
  intro e;have hn := z.nd;cases hs : f.sib with
  | nil => rw [hs] at e; simp only [B.hd] at e; omega
  | node c2 b0 l2 r2 =>
   rw [hs] at e;simp only [B.hd] at e;have : c2 = c := by omega
   subst this;rw [hs] at hn;simp only [pC,List.map_append,bn,List.nodup_cons,iC,iA] at hn;exact hn.1 (by simp)
 refine (z.getc (List.mem_cons_self ..) (f := 0) (by omega) O).bind ?_;rintro _ ⟨a1,rfl,H1⟩;have fin : ∀ {J : Nat} {a' : za},Hp κ J a' it (⟨c,f.c,-1,l.hd,r.hd,rk,0⟩ :: ⟨f.c,upOf (-1) fs,-1,bif f.left then (-1 : Int) else f.sib.hd,bif f.left then f.sib.hd else (-1 : Int),f.rk,0⟩ :: (bn l c ++ (bn r c ++ (bn f.sib f.c ++ (fn fs f.c (-1) ++ N))))) L -> J + 1 <= n + 5 ->
   Do ((zz a' (c : Int) 0 (-1)).bind fun W => (xA k (f.c : Int) 0 W.2).bind fun s1 => some s1) fun a' => ∃ T : B,Hp κ (n + 5 + 9 * (fs.length + 1)) a' it (bn T (-1) ++ (bn (.node c rk l r) (-1) ++ N)) L /\ T.cells.Perm (plug (f :: fs) .nil).cells /\ (Or it (plug (f :: fs) .nil) -> Or it T) /\ T.hd = (plug (f :: fs) (.node c rk l r)).hd := by
  intro J a' H hn;refine (H.set ⟨c,-1,-1,l.hd,r.hd,rk,0⟩).bind ?_;rintro _ ⟨a2,rfl,A⟩;have D : Hp κ (J + 1) a2 it (bn (plug (f :: fs) .nil) (-1) ++ (bn (.node c rk l r) (-1) ++ N)) L := A.p (npm fun P => by
   have := (rL (-1) (f :: fs) .nil).countP_eq P;simp only [fn,bn,B.hd,upOf,List.countP_cons,List.countP_append,List.cons_append,List.countP_nil] at this ⊢; omega)
  have h4 := oP (f :: fs) .nil D k 0 (by simp only [lC]; omega) (by simp only [lC]; omega);refine Do.bind (show Do (xA k (f.c : Int) 0 a2) _ from h4) ?_;rintro a3 ⟨T,H5,h5,h6,h7⟩;exact ⟨_,rfl,T,H5.mono (by simp only [lC]; omega),h5,h6,h7.trans (gR fs (X := f.plug .nil) (Y := f.plug (.node c rk l r)) rfl)⟩
 by_cases I : f.left = true
 ·simp only [I,cT] at H1 y fin;refine (H1.getc y (f := 2) (by omega) F).bind ?_;rintro _ ⟨a2,rfl,A⟩;refine Do.tb (by simp) ?_;refine Do.assoc ((Hp.set (A.p (List.Perm.swap ..)) ⟨f.c,upOf (-1) fs,-1,-1,f.sib.hd,f.rk,0⟩).bind ?_);rintro _ ⟨a3,rfl,D⟩;refine Do.seq rfl ?_;exact fin (D.p (List.Perm.swap ..)) (by omega)
 ·have I : f.left = false := by simpa using I
  simp only [I,cF] at H1 y fin;refine (H1.getc y (f := 2) j.1 j.2).bind ?_;rintro _ ⟨a2,rfl,A⟩;refine Do.fb (by simpa using U) ?_;refine Do.assoc ((A.getc y (f := 3) (by omega) F).bind ?_);rintro _ ⟨a3,rfl,D⟩;refine Do.tb (by simp) ?_;refine Do.assoc ((Hp.set (D.p (List.Perm.swap ..)) ⟨f.c,upOf (-1) fs,-1,f.sib.hd,-1,f.rk,0⟩).bind ?_);rintro _ ⟨a4,rfl,H4⟩;refine Do.seq rfl ?_;exact fin (H4.p (List.Perm.swap ..)) (by omega)
end
end Le
end
noncomputable section
set_option maxRecDepth 10000
namespace Le
def KL : KS := fun it M r => ∃ t : B,M = bn t (-1) /\ r = t.hd /\ Or it t
section
variable {κ : Cfg} {n : Nat} {a : za} {L : Heap} {r : Int} {its : List It} {C : Heap}
theorem yB {it : Nat -> It} (t : B) (u : Int) : ((bn t u).map fun ν => it ν.c) = t.cells.map it := by rw [<- vD t u,List.map_map]; rfl
theorem cG : HK KL (-1) [] [] := ⟨fun _ => ⟨0,0,0⟩,[],⟨.nil,rfl,rfl,trivial⟩,.refl _,.refl _⟩
theorem iF {k : Nat} {x : It} (h : HK KL r its C) (H : Ar κ n a (C ++ ((x.i,x.cell (-1)) :: L))) (hr : 2 * its.length + 1 + L.length < κ.C) (hk : 70010 < k) :
  Do (rB k a r (x.i : Int)) fun res => ∃ r' C' a',res = (r',true,a') /\ HK KL r' (x :: its) C' /\ Ar κ (n + 17 * its.length + 30) a' (C' ++ L) := by
 obtain ⟨it,M,⟨t,rfl,rfl,O⟩,hC,u⟩ := h;unfold rB;have hl := u.length_eq;rw [lM,kB] at hl;have z : Hp κ n a it (bn t (-1)) ((x.i,x.cell (-1)) :: L) := Ar.p H (hC.append_right _);refine (qt z (by rw [kB]; omega)).bind ?_;rintro _ ⟨c,a1,rfl,H1,J⟩;refine Do.f rfl ?_;refine (Hp.set H1 ⟨c,-1,-1,-1,-1,1,0⟩).bind ?_;rintro _ ⟨a2,rfl,A⟩;have D : Hp κ (n + 4) a2 (upd it c x) (bn t (-1) ++ (bn (.node c 1 .nil .nil) (-1) ++ [])) L := A.p (npm fun P => by
  simp only [bn,B.hd,List.countP_cons,List.countP_append,List.cons_append,List.countP_nil]; omega)
 have j : ∀ d ∈ t.cells,upd it c x d = it d := fun d hd => ub _ _ fun e => by
  rw [<- vD t (-1)] at hd;obtain ⟨ν,U,I⟩ := List.mem_map.1 hd;exact J ν U (I.trans e)
 refine (tq (R := t) (S := .node c 1 .nil .nil) D (O.congr j) ⟨by simp [B.cells],trivial,trivial⟩ hk).bind ?_;rintro _ ⟨T,a3,rfl,F,hp,y⟩;refine ⟨_,rfl,T.hd,lay (upd it c x) (bn T (-1)),a3,rfl,⟨_,_,⟨T,rfl,rfl,y⟩,.refl _,?_⟩,Ar.mono (n := n + 4 + 17 * (t.cells.length + (B.node c 1 .nil .nil).cells.length) + 1) ?_ (by simp only [B.cells,lC,aN,List.length_nil]; omega)⟩
 ·rw [yB];have h1 := (hp.map (upd it c x)).symm;rw [List.map_append] at h1;have h2 : t.cells.map (upd it c x) = t.cells.map it := List.map_congr_left j;rw [h2] at h1;refine List.Perm.trans ?_ h1;rw [yB] at u;refine (u.cons x).trans ?_;simp only [B.cells,aN,pC,List.map_nil,uQ];exact (List.perm_append_singleton _ _).symm
 ·have := F;rw [aN] at this;exact this
theorem cA (h : HK KL r its C) (H : Ar κ n a (C ++ L)) : Do (ql a r) fun res => ∃ a',Ar κ (n + 1) a' (C ++ L) /\ ((its = [] /\ res = (-1,a')) \/ ∃ x ∈ its,res = ((x.i : Int),a') /\ ∀ y ∈ its,¬ y.lt x) := by
 obtain ⟨it,M,⟨t,rfl,rfl,u⟩,hC,e⟩ := h;unfold ql;have j : Hp κ n a it (bn t (-1)) L := Ar.p H (hC.append_right _);rw [yB] at e;cases t with
 | nil =>
  refine (j.dL (c := -1) (by decide)).bind ?_;rintro _ ⟨a1,rfl,H1⟩;exact ⟨_,rfl,a1,Ar.p H1 (hC.append_right _).symm,Or.inl ⟨e.eq_nil,rfl⟩⟩
 | node c rk l r' =>
  refine (j.geti (List.mem_cons_self ..)).bind ?_;rintro _ ⟨a1,rfl,H1⟩;refine ⟨_,rfl,a1,Ar.p H1 (hC.append_right _).symm,Or.inr ⟨it c,e.mem_iff.2 (List.mem_map_of_mem (List.mem_cons_self ..)),rfl,fun y z => ?_⟩⟩;obtain ⟨d,hd,rfl⟩ := List.mem_map.1 (e.mem_iff.1 z);exact u.least d hd
theorem jJ {k : Nat} {it : Nat -> It} {N : List Nd} {c : Nat} {rk u : Int} {l r : B} (H : Hp κ n a it (bn (.node c rk l r) u ++ N) L) (e : Or it (.node c rk l r)) (hk : 70010 < k) :
  Do (uS k a (c : Int)) fun res => ∃ (T : B) (a' : za),res = (T.hd,((it c).i : Int),a') /\ Hp κ (n + 17 * (l.cells.length + r.cells.length) + 7) a' it (bn T (-1) ++ N) (((it c).i,(it c).cell (-1)) :: L) /\ T.cells.Perm (l.cells ++ r.cells) /\ Or it T := by
 unfold uS qM;have D : ∀ ν ∈ bn l c,ν ∈ bn (.node c rk l r) u ++ N := fun ν h => mL _ (mC _ (mL _ h))
 have F : ∀ ν ∈ bn r c,ν ∈ bn (.node c rk l r) u ++ N := fun ν h => mL _ (mC _ (List.mem_append_right _ h))
 have hl := ob H D;have hr := ob H F;refine Do.assoc (Do.seq (H.live (ν := ⟨c,u,-1,l.hd,r.hd,rk,0⟩) (List.mem_cons_self ..)) ?_);refine Do.seq rfl (Do.f rfl ?_);refine Do.assoc ((H.getc (List.mem_cons_self ..) (f := 2) hl.1 hl.2).bind ?_);rintro _ ⟨a1,rfl,H1⟩;refine Do.assoc ((H1.getc (List.mem_cons_self ..) (f := 3) hr.1 hr.2).bind ?_);rintro _ ⟨a2,rfl,j⟩;have t : Hp κ (n + 2) a2 it (bn l c ++ (bn r c ++ (⟨c,u,-1,l.hd,r.hd,rk,0⟩ :: N))) L := Hp.p j (npm fun P => by
  simp only [bn,List.countP_cons,List.countP_append,List.cons_append]; omega)
 refine Do.assoc ((tq t e.2.1 e.2.2 hk).bind ?_);rintro _ ⟨T,a3,rfl,x,h1,h2⟩;refine Do.seq rfl ?_;refine (gV x (-1)).bind ?_;rintro _ ⟨b,a4,rfl,y⟩;have z : Hp κ (n + 2 + 17 * (l.cells.length + r.cells.length) + 1 + 1) a4 it (⟨c,u,-1,l.hd,r.hd,rk,0⟩ :: (bn T (-1) ++ N)) L := y.p List.perm_middle;refine (qs z).bind ?_;rintro _ ⟨a5,rfl,A⟩;exact ⟨_,rfl,T,a5,rfl,A.mono (by omega),h1,h2⟩
theorem cK {k : Nat} (h : HK KL r its C) (H : Ar κ n a (C ++ L)) (j : its ≠ []) (hk : 70010 < k) :
  Do (uS k a r) fun res => ∃ x q r' C' a',res = (r',(x.i : Int),a') /\ its.Perm (x :: q) /\ (∀ y ∈ its,¬ y.lt x) /\ HK KL r' q C' /\ Ar κ (n + 17 * its.length + 30) a' (C' ++ ((x.i,x.cell (-1)) :: L)) := by
 obtain ⟨it,M,⟨t,rfl,rfl,u⟩,hC,e⟩ := h;rw [yB] at e;cases t with
 | nil => exact absurd e.eq_nil j
 | node c rk l r' =>
  have z : Hp κ n a it (bn (.node c rk l r') (-1) ++ []) L := by rw [aN]; exact Ar.p H (hC.append_right _)
  have hl := e.length_eq;simp only [B.cells,lM,lC,lA] at hl;refine (jJ z u hk).mono ?_;rintro _ ⟨T,a1,rfl,H1,h1,h2⟩;rw [aN] at H1;refine ⟨it c,T.cells.map it,T.hd,_,a1,rfl,?_,fun y A => ?_,⟨it,_,⟨T,rfl,rfl,h2⟩,.refl _,by rw [yB]⟩,Ar.mono H1 (by omega)⟩
  ·refine e.trans ?_;simp only [B.cells,pC];exact List.Perm.cons _ (h1.map it).symm
  ·obtain ⟨d,hd,rfl⟩ := List.mem_map.1 (e.mem_iff.1 A);exact u.least d hd
theorem iw {k : Nat} {s : Int} {e : List It} {C' : Heap} (h : HK KL r its C) (Y : HK KL s e C') (H : Ar κ n a (C ++ (C' ++ L))) (hk : 70010 < k) :
  Do (rA k a r s) fun res => ∃ t y a',res = (t,a') /\ HK KL t (its ++ e) y /\ Ar κ (n + 17 * (its.length + e.length) + 30) a' (y ++ L) := by
 obtain ⟨it,M,⟨t,rfl,rfl,Z⟩,hC,F⟩ := h;obtain ⟨it',M',⟨j,rfl,rfl,O⟩,z,x⟩ := Y;rw [yB] at F x;unfold rA;have hl := F.length_eq;have J := x.length_eq;rw [lM] at hl J;have A : ∀ d ∈ t.cells,d ∉ j.cells := by
  have hn := Ar.nodup H;have h1 := ((((hC.append ((z).append_right L)).map Prod.fst)).nodup_iff).1 hn;rw [List.map_append,List.map_append] at h1;intro d hd I;have B : d ∈ (lay it (bn t (-1))).map Prod.fst := ((ry it (bn t (-1))).mem_iff).2 (mL _ (by rw [vD]; exact hd));have D : d ∈ (lay it' (bn j (-1))).map Prod.fst := ((ry it' (bn j (-1))).mem_iff).2 (mL _ (by rw [vD]; exact I));exact (List.nodup_append.1 h1).2.2 d B d (mL _ D) rfl
 let u : Nat -> It := fun d => if d ∈ t.cells then it d else it' d
 have U : ∀ d ∈ t.cells,u d = it d := fun d hd => if_pos hd
 have W : ∀ d ∈ j.cells,u d = it' d := fun d hd => if_neg fun h => A d h hd
 have B : lay u (bn t (-1)) = lay it (bn t (-1)) := uE fun ν S => U _ (by rw [<- vD t (-1)]; exact List.mem_map_of_mem S)
 have D : lay u (bn j (-1)) = lay it' (bn j (-1)) := uE fun ν S => W _ (by rw [<- vD j (-1)]; exact List.mem_map_of_mem S)
 have X : Hp κ n a u (bn t (-1) ++ (bn j (-1) ++ [])) L := by
  unfold Hp;rw [aN,nF,B,D,aA];exact Ar.p H (hC.append (z.append_right L))
 refine (tq X (Z.congr U) (O.congr W) hk).bind ?_;rintro _ ⟨T,a1,rfl,H1,h1,h2⟩;rw [aN] at H1;refine ⟨_,rfl,T.hd,_,a1,rfl,⟨u,_,⟨T,rfl,rfl,h2⟩,.refl _,?_⟩,Ar.mono H1 (by omega)⟩;rw [yB];have h3 := (h1.map u).symm;rw [List.map_append] at h3;have f1 : t.cells.map u = t.cells.map it := List.map_congr_left U;have f2 : j.cells.map u = j.cells.map it' := List.map_congr_left W;rw [f1,f2] at h3;exact (F.append x).trans h3
theorem aO {fs : List Fr} {c : Nat} {rk : Int} {l r : B} : (plug fs (.node c rk l r)).hd = (c : Int) -> fs ≠ [] -> (plug fs (.node c rk l r)).cells.Nodup -> False := by
 intro h e hn;obtain ⟨gs,g,rfl⟩ : ∃ gs g,fs = gs ++ [g] := by
  rcases List.eq_nil_or_concat fs with h | ⟨gs,g,h⟩
  ·exact absurd h e
  ·exact ⟨gs,g,by rw [h,List.concat_eq_append]⟩
 rw [oX] at h hn;have t : g.c = c := by simp only [Fr.plug,B.hd] at h; omega
 have h2 := ((wE gs (.node c rk l r))).mem_iff (a := c);have j : c ∈ (plug gs (.node c rk l r)).cells := h2.2 (List.mem_append_right _ (List.mem_cons_self ..));obtain ⟨gc,x,u,y⟩ := g;simp only [Fr.plug,B.cells,List.nodup_cons,iA] at hn;simp only at t;subst t;cases u
 ·exact hn.1 (Or.inr j)
 ·exact hn.1 (Or.inl j)
theorem ij {k : Nat} {x y : It} (h : HL KL r its x y C) (hi : y.i = x.i) (a5 : ¬ x.lt y) (H : Ar κ n a (C ++ L)) (hk : 70010 < k) :
  Do (rz k a r (y.i : Int)) fun res => ∃ r' q C' a',res = (r',a') /\ its.Perm (x :: q) /\ HK KL r' (y :: q) C' /\ Ar κ (n + 26 * its.length + 30) a' (C' ++ L) := by
 obtain ⟨it,M,ν,⟨t,rfl,rfl,D⟩,hν,rfl,hC,hI⟩ := h;unfold rz uf;have hl := hI.length_eq;rw [lM,kB] at hl;have I : Hp κ n a (upd it ν.c y) (bn t (-1)) L := Ar.p H (hC.append_right _);have hn := I.nd;obtain ⟨q,Z,a0⟩ := gJ (y := y) hn hν rfl;rw [vD] at hn;have a9 : ν.c ∈ t.cells := by rw [<- vD t (-1)]; exact List.mem_map_of_mem hν
 have c6 := I.lt hν;have b4 : ((upd it ν.c y ν.c).i : Int) = (y.i : Int) := by rw [uQ]
 have A := Ar.cell I (I.item hν) (f := 9) (v := (ν.c : Int)) rfl (by omega) (by omega);rw [b4] at A;refine Do.assoc (A.bind ?_);rintro _ ⟨a1,rfl,H1⟩;refine Do.seq rfl ?_;refine Do.fb (by simp) ?_;obtain ⟨fs,rk,l,r',z⟩ := find a9;have done : ∀ {n' : Nat} {a' : za},Hp κ n' a' (upd it ν.c y) (bn t (-1)) L -> fs = [] -> n' <= n + 26 * its.length + 30 -> Do (some (t.hd,a')) fun res => ∃ r' q C' a',res = (r',a') /\ its.Perm (it ν.c :: q) /\ HK KL r' (y :: q) C' /\ Ar κ (n + 26 * its.length + 30) a' (C' ++ L) := by
  intro n' a' H b3 b6;refine ⟨_,rfl,t.hd,q,_,a',rfl,hI.trans Z,⟨upd it ν.c y,_,⟨t,rfl,rfl,?_⟩,.refl _,a0.symm⟩,Ar.mono H b6⟩;rw [b3] at z;rw [z] at D hn ⊢;simp only [plug] at D hn ⊢;have F := List.nodup_cons.1 hn;have u : ∀ d ∈ l.cells ++ r'.cells,d ≠ ν.c := fun d hd e => F.1 (e ▸ hd)
  refine ⟨fun d hd => ?_,D.2.1.congr fun d hd => ub _ _ (u d (mL _ hd)),D.2.2.congr fun d hd => ub _ _ (u d (List.mem_append_right _ hd))⟩;rw [ub _ _ (u d hd),uQ];exact It.le_trans a5 (D.1 d hd)
 by_cases j : (ν.c : Int) = t.hd
 ·refine Do.tb (by simpa using j) ?_;refine Do.seq rfl (Do.t rfl ?_);refine done H1 ?_ (by omega);cases fs with
  | nil => rfl
  | cons f fs => rw [z] at j hn; exact (aO j.symm (by simp) hn).elim
 ·refine Do.fb (by simpa using j) ?_;cases fs with
  | nil => rw [z] at j; exact absurd rfl j
  | cons f fs =>
   have c2 : Hp κ (n + 1) a1 (upd it ν.c y) (bn (plug (f :: fs) (.node ν.c rk l r')) (-1) ++ []) L := by rw [aN,<- z]; exact H1
   have b5 : (⟨ν.c,f.c,-1,l.hd,r'.hd,rk,0⟩ : Nd) ∈ bn t (-1) := by
    rw [z];exact ((rL (-1) (f :: fs) (.node ν.c rk l r')).mem_iff).2 (List.mem_append_right _ (List.mem_cons_self ..))
   have b1 : (f.c : Int) < κ.C := by
    have := I.lt (ν := ⟨f.c,upOf (-1) fs,-1,bif f.left then (ν.c : Int) else f.sib.hd,bif f.left then f.sib.hd else (ν.c : Int),f.rk,0⟩) (by
     rw [z];exact ((rL (-1) (f :: fs) (.node ν.c rk l r')).mem_iff).2 (mL _ (List.mem_cons_self ..)))
    simp only at this; omega
   refine Do.assoc ((Hp.getc H1 b5 (f := 0) (by omega) b1).bind ?_);rintro _ ⟨a2,rfl,H2⟩;refine Do.seq rfl (Do.f (by simp) ?_);have a7 : Hp κ (n + 2) a2 (upd it ν.c y) (bn (plug (f :: fs) (.node ν.c rk l r')) (-1) ++ []) L := by rw [aN,<- z]; exact H2
   refine (kQ (k := k) a7 hk).bind ?_;rintro a3 ⟨T,H3,h1,h2,J⟩;have b0 : ν.c ∉ (plug (f :: fs) .nil).cells := by
    have p1 := wE (f :: fs) (.node ν.c rk l r');rw [z] at hn;have b7 := p1.nodup_iff.1 hn;intro hm;have := (wE (f :: fs) .nil).mem_iff.1 hm;simp only [B.cells,aN] at this;exact (List.nodup_append.1 b7).2.2 _ this _ (List.mem_cons_self ..) rfl
   have o1 : Or (upd it ν.c y) (plug (f :: fs) .nil) := by
    rw [z] at D;refine (jH (fs := f :: fs) (Y := .nil) D (by simp [B.cells]) trivial).congr fun d hd => ub _ _ fun e => b0 (e ▸ hd)
   have o2 : Or (upd it ν.c y) (.node ν.c rk l r') := by
    rw [z] at D hn;have o3 : Or it (.node ν.c rk l r') := oY (fs := f :: fs) D;have b8 : (B.node ν.c rk l r').cells.Nodup := (List.nodup_append.1 ((wE (f :: fs) (.node ν.c rk l r')).nodup_iff.1 hn)).2.1;have F := List.nodup_cons.1 b8;have u : ∀ d ∈ l.cells ++ r'.cells,d ≠ ν.c := fun d hd e => F.1 (e ▸ hd)
    refine ⟨fun d hd => ?_,o3.2.1.congr fun d hd => ub _ _ (u d (mL _ hd)),o3.2.2.congr fun d hd => ub _ _ (u d (List.mem_append_right _ hd))⟩;rw [ub _ _ (u d hd),uQ];exact It.le_trans a5 (o3.1 d hd)
   rw [<- z] at J;rw [<- J];refine (tq (R := T) (S := .node ν.c rk l r') H3 (h2 o1) o2 hk).bind ?_;rintro _ ⟨U,a4,rfl,H4,h3,h4⟩;rw [aN] at H4;have O := (wE (f :: fs) (.node ν.c rk l r')).length_eq;have W := (wE (f :: fs) .nil).length_eq;have b2 := nE (fs := f :: fs) (X := .nil);have e1 := h1.length_eq;rw [<- z] at O;simp only [B.cells,aN,lA,lC,List.length_nil] at O W b2 e1;refine ⟨_,rfl,U.hd,q,_,a4,rfl,hI.trans Z,⟨upd it ν.c y,_,⟨U,rfl,rfl,h4⟩,.refl _,?_⟩,Ar.mono H4 (by simp only [B.cells,lC,lA]; omega)⟩;rw [yB];refine a0.symm.trans ?_;rw [yB];refine List.Perm.map _ ?_;rw [z];refine (wE (f :: fs) (.node ν.c rk l r')).trans (List.Perm.trans (List.Perm.append_right _ ?_) h3.symm);have := (wE (f :: fs) .nil)
   simp only [B.cells,aN] at this;exact (h1.trans this).symm
theorem dO {k : Nat} {x : It} (h : HK KL r its C) (hx : x ∈ its) (H : Ar κ n a (C ++ L)) (hk : 70010 < k) :
  Do (qk k a r (x.i : Int)) fun res => ∃ q r' C' a',res = (r',a') /\ its.Perm (x :: q) /\ HK KL r' q C' /\ Ar κ (n + 43 * its.length + 50) a' (C' ++ ((x.i,x.cell (-1)) :: L)) := by
 obtain ⟨it,M,⟨t,rfl,rfl,O⟩,hC,F⟩ := h;obtain ⟨ν,hν,rfl⟩ := List.mem_map.1 (F.mem_iff.1 hx);unfold qk uf;have hl := F.length_eq;rw [lM,kB] at hl;have A : Hp κ n a it (bn t (-1)) L := Ar.p H (hC.append_right _);have hn := A.nd;rw [vD] at hn;rw [yB] at F;have a6 : ν.c ∈ t.cells := by rw [<- vD t (-1)]; exact List.mem_map_of_mem hν
 have c1 := A.lt hν;refine Do.assoc ((Ar.cell A (A.item hν) (f := 9) (v := (ν.c : Int)) rfl (by omega) (by omega)).bind ?_);rintro _ ⟨a1,rfl,H1⟩;refine Do.seq rfl ?_;refine Do.f (by simp) ?_;obtain ⟨fs,rk,l,r',j⟩ := find a6;have J := (wE fs (.node ν.c rk l r'))
 have y := J.length_eq;rw [<- j] at y;simp only [B.cells,lA,lC] at y;by_cases e : (ν.c : Int) = t.hd
 ·have a9 : fs = [] := by
   cases fs with
   | nil => rfl
   | cons f fs => rw [j] at e hn; exact (aO e.symm (by simp) hn).elim
  subst a9;simp only [plug] at j;subst j;refine Do.tb (by simpa using e) ?_;refine Do.seq rfl (Do.t rfl ?_);have W : Hp κ (n + 1) a1 it (bn (.node ν.c rk l r') (-1) ++ []) L := by rw [aN]; exact H1
  refine (jJ W O hk).bind ?_;rintro _ ⟨T,a2,rfl,D,h1,h2⟩;rw [aN] at D;refine ⟨_,rfl,T.cells.map it,T.hd,_,a2,rfl,?_,⟨it,_,⟨T,rfl,rfl,h2⟩,.refl _,by rw [yB]⟩,Ar.mono D (by omega)⟩;refine F.trans ?_;simp only [B.cells,pC];exact List.Perm.cons _ (h1.map it).symm
 ·refine Do.fb (by simpa using e) ?_;cases fs with
  | nil => rw [j] at e; exact absurd rfl e
  | cons f fs =>
   have b0 : (⟨ν.c,f.c,-1,l.hd,r'.hd,rk,0⟩ : Nd) ∈ bn t (-1) := by
    rw [j];exact ((rL (-1) (f :: fs) (.node ν.c rk l r')).mem_iff).2 (List.mem_append_right _ (List.mem_cons_self ..))
   have a7 : (f.c : Int) < κ.C := by
    have := A.lt (ν := ⟨f.c,upOf (-1) fs,-1,bif f.left then (ν.c : Int) else f.sib.hd,bif f.left then f.sib.hd else (ν.c : Int),f.rk,0⟩) (by
     rw [j];exact ((rL (-1) (f :: fs) (.node ν.c rk l r')).mem_iff).2 (mL _ (List.mem_cons_self ..)))
    simp only at this; omega
   refine Do.assoc ((Hp.getc H1 b0 (f := 0) (by omega) a7).bind ?_);rintro _ ⟨a2,rfl,W⟩;refine Do.seq rfl (Do.f (by simp) ?_);have Z : Hp κ (n + 2) a2 it (bn (plug (f :: fs) (.node ν.c rk l r')) (-1) ++ []) L := by rw [aN,<- j]; exact W
   refine (kQ (k := k) Z hk).bind ?_;rintro a3 ⟨T,D,h1,h2,I⟩;rw [<- j] at I;have o1 : Or it (plug (f :: fs) .nil) := by
    rw [j] at O;exact jH (fs := f :: fs) (Y := .nil) O (by simp [B.cells]) trivial
   have o2 : Or it (.node ν.c rk l r') := by
    rw [j] at O;exact oY (fs := f :: fs) O
   have a0 : Hp κ (n + 2 + 5 + 9 * (fs.length + 1)) a3 it (bn (.node ν.c rk l r') (-1) ++ bn T (-1)) L := by
    rw [aN] at D;exact D.p List.perm_append_comm
   refine (jJ a0 o2 hk).bind ?_;rintro _ ⟨U,a4,rfl,H4,h3,h4⟩;rw [<- I];have H5 : Hp κ (n + 2 + 5 + 9 * (fs.length + 1) + 17 * (l.cells.length + r'.cells.length) + 7) a4 it (bn T (-1) ++ (bn U (-1) ++ [])) (((it ν.c).i,(it ν.c).cell (-1)) :: L) := by
    rw [aN];exact H4.p List.perm_append_comm
   refine (tq (R := T) (S := U) H5 (h2 o1) h4 hk).bind ?_;rintro _ ⟨V,a5,rfl,H6,h5,h6⟩;rw [aN] at H6;have u := (wE (f :: fs) .nil)
   have z := u.length_eq;have a8 := nE (fs := f :: fs) (X := .nil);have e1 := h1.length_eq;have e3 := h3.length_eq;simp only [B.cells,aN,lA,lC,List.length_nil] at u z a8 e1 e3;refine ⟨_,rfl,V.cells.map it,V.hd,_,a5,rfl,?_,⟨it,_,⟨V,rfl,rfl,h6⟩,.refl _,by rw [yB]⟩,Ar.mono H6 (by omega)⟩;refine F.trans ?_;rw [j];refine (J.map it).trans ?_;have h7 : (fc (f :: fs) ++ (B.node ν.c rk l r').cells).Perm (ν.c :: V.cells) := by
    refine cpm fun P => ?_
    have q1 := h5.countP_eq P;have q2 := h1.countP_eq P;have q3 := h3.countP_eq P;have q4 := u.countP_eq P;simp only [B.cells,List.countP_append,List.countP_cons,List.cons_append] at q1 q2 q3 q4 ⊢;omega
   have := h7.map it
   rwa [pC] at this
end
end Le
end
noncomputable section
set_option maxRecDepth 10000
def Lt.top (l : Lt) : Nd := ⟨l.t.c,l.u,l.t.kids.hd,-1,l.w,l.t.r,0⟩
theorem jT (l : Lt) : l.nd = l.top :: nd l.t.kids l.t.c := rfl
theorem lL {ls : List Lt} {l : Lt} (h : l ∈ ls) : l.top ∈ LN ls := List.mem_flatMap.2 ⟨l,h,List.mem_cons_self ..⟩
def cs (e : List Tr) : List Int := e.map fun t => (t.c : Int)
def lc (ls : List Lt) : List Int := cs (ls.map Lt.t)
theorem vr (l m : List Lt) : lc (l ++ m) = lc l ++ lc m := by simp [lc,cs]
theorem jy (l : Lt) (m : List Lt) : lc (l :: m) = (l.t.c : Int) :: lc m := rfl
theorem vM (l : List Lt) : (lc l).length = l.length := by simp [lc,cs]
section
variable {κ : Cfg} {it : Nat -> It} {N : List Nd} {L : Heap}
theorem bo (all : List Lt) (hl : all.length < 100000) : ∀ (rs j : List Lt) {n : Nat} {a : za} (H : Hp κ n a it (LN rs ++ (nd (F.of (j.map Lt.t)) (-1) ++ N)) L) (m : Nat),rs.length < m -> all = rs.reverse ++ j ->
  Do (tc (lc all) m (F.of (j.map Lt.t)).hd ((rs.length : Int) - 1) a) fun r => ∃ a',r = ((F.of (all.map Lt.t)).hd,a') /\ Hp κ (n + 2 * rs.length) a' it (nd (F.of (all.map Lt.t)) (-1) ++ N) L
 | [],j,n,a,H,m,hm,e => by
  obtain ⟨m,rfl⟩ : ∃ q,m = q + 1 := ⟨m - 1,by omega⟩
  rw [tc];refine Do.f (dF (by simp)) ?_;have D : all = j := e;subst D;exact ⟨_,rfl,a,rfl,H⟩
 | l :: rs,j,n,a,H,m,hm,e => by
  obtain ⟨m,rfl⟩ : ∃ q,m = q + 1 := ⟨m - 1,by simp at hm; omega⟩
  simp only [lC] at hm;have hlen : rs.length < 100000 := by have := congrArg List.length e; simp at this; omega
  have I : (((l :: rs).length : Nat) : Int) - 1 = (rs.length : Int) := by simp only [lC]; omega
  have x : mIdx (lc all) (rs.length : Int) = some (l.t.c : Int) := by
   rw [e,List.reverse_cons,aA,vr];have := yv (lc rs.reverse) (lc j) (l.t.c : Int);rw [vM,List.length_reverse] at this;exact this
  rw [I,tc];refine Do.t (dT (by omega)) ?_;refine Do.seq x ?_;have H1 : Hp κ n a it (l.top :: (nd l.t.kids l.t.c ++ (LN rs ++ (nd (F.of (j.map Lt.t)) (-1) ++ N)))) L := by
   refine H.p (npm fun p => ?_);rw [sN,jT];simp only [List.countP_cons,List.countP_append]; omega
  refine (H1.set ⟨l.t.c,l.u,l.t.kids.hd,-1,(F.of (j.map Lt.t)).hd,l.t.r,0⟩).bind ?_;rintro _ ⟨a1,rfl,y⟩;refine Do.seq x ?_;refine (y.set (ν := ⟨l.t.c,l.u,l.t.kids.hd,-1,(F.of (j.map Lt.t)).hd,l.t.r,0⟩) ⟨l.t.c,-1,l.t.kids.hd,-1,(F.of (j.map Lt.t)).hd,l.t.r,0⟩).bind ?_;rintro _ ⟨a2,rfl,z⟩;refine Do.seq x ?_;rw [zV (by omega) (by omega)];have A : Hp κ (n + 2) a2 it (LN rs ++ (nd (F.of ((l :: j).map Lt.t)) (-1) ++ N)) L := by
   refine z.p (npm fun p => ?_);simp only [pC,F.of,nd,List.countP_cons,List.countP_append]; omega
  refine (bo all hl rs (l :: j) A m (by omega) (by rw [e]; simp)).mono ?_;rintro _ ⟨a3,rfl,B⟩;exact ⟨a3,rfl,B.mono (by simp only [lC]; omega)⟩
theorem bp {k : Nat} (ls : List Lt) (hl : ls.length < 100000) (hk : ls.length < k) {n : Nat} {a : za} (H : Hp κ n a it (LN ls ++ N) L) :
  Do (nq k a (lc ls)) fun r => ∃ a',r = ((F.of (ls.map Lt.t)).hd,a') /\ Hp κ (n + 2 * ls.length) a' it (nd (F.of (ls.map Lt.t)) (-1) ++ N) L := by
 unfold nq;rw [vM,zV (by omega) (by omega)];have H1 : Hp κ n a it (LN ls.reverse ++ (nd (F.of (([] : List Lt).map Lt.t)) (-1) ++ N)) L := H.p ((gq ls.reverse_perm.symm).append_right _);have := bo ls hl ls.reverse [] H1 k (by simpa using hk) (by simp);rw [List.length_reverse] at this;refine this.bind ?_;rintro _ ⟨a1,rfl,e⟩;exact ⟨_,rfl,a1,rfl,e⟩
def zl (l : List Nat) : List Int := l.map fun c : Nat => (c : Int)
def bst (it : Nat -> It) : Nat -> List Nat -> Nat
 | b,[] => b
 | b,c :: r => bst it (if (it c).lt (it b) then c else b) r
theorem gu : ∀ (l : List Nat) (b : Nat),bst it b l = b \/ bst it b l ∈ l
 | [],b => Or.inl rfl
 | c :: r,b => by
  rw [bst];split
  ·rcases gu r c with h | h
   ·exact Or.inr (by rw [h]; exact List.mem_cons_self ..)
   ·exact Or.inr (mC _ h)
  ·rcases gu r b with h | h
   ·exact Or.inl h
   ·exact Or.inr (mC _ h)
theorem gv : ∀ (l : List Nat) (b : Nat),(¬ (it b).lt (it (bst it b l))) /\ ∀ c ∈ l,¬ (it c).lt (it (bst it b l))
 | [],b => ⟨It.lt_irrefl _,by simp⟩
 | c :: r,b => by
  rw [bst];split
  ·rename_i h;obtain ⟨h1,h2⟩ := gv r c;refine ⟨It.le_trans h1 (It.lt_asymm h),fun d hd => ?_⟩;rcases List.mem_cons.1 hd with rfl | hd
   ·exact h1
   ·exact h2 d hd
  ·rename_i h;obtain ⟨h1,h2⟩ := gv r b;refine ⟨h1,fun d hd => ?_⟩;rcases List.mem_cons.1 hd with rfl | hd
   ·exact It.le_trans h1 h
   ·exact h2 d hd
theorem dG {k : Nat} (all : List Nat) (x : ∀ c ∈ all,∃ ν ∈ N,ν.c = c) (hl : all.length < 100000) : ∀ (post pre : List Nat) (b : Nat) {n : Nat} {a : za} (H : Hp κ n a it N L) (m : Nat),post.length + 3 < m -> all = pre ++ post -> b ∈ all ->
  Do (vh (all.length : Int) (zl all) m (b : Int) (pre.length : Int) a) fun r => ∃ a',r = (((bst it b post : Nat) : Int),a') /\ Hp κ (n + 6 * post.length) a' it N L
 | [],pre,b,n,a,H,m,hm,e,y => by
  obtain ⟨m,rfl⟩ : ∃ q,m = q + 1 := ⟨m - 1,by simp at hm; omega⟩
  rw [vh];refine Do.f (dF (by rw [e]; simp)) ?_;exact ⟨_,rfl,a,rfl,H⟩
 | c :: post,pre,b,n,a,H,m,hm,e,y => by
  obtain ⟨m,rfl⟩ : ∃ q,m = q + 1 := ⟨m - 1,by simp at hm; omega⟩
  simp only [lC] at hm;have hlen : pre.length < 100000 := by have := congrArg List.length e; simp at this; omega
  have F : mIdx (zl all) (pre.length : Int) = some (c : Int) := by
   rw [e,zl,List.map_append];have := yv (zl pre) (zl post) (c : Int)
   rwa [zl,lM] at this
  rw [vh];refine Do.t (dT (by rw [e]; simp; omega)) ?_;refine Do.assoc (Do.seq F ?_);obtain ⟨ν,J,D⟩ := x c (by rw [e]; simp);obtain ⟨μ,I,B⟩ := x b y;refine Do.assoc (Do.fb (by simp) ?_);have := H.before (k := m) (by omega) J I;rw [D,B] at this;refine Do.assoc (this.bind ?_);rintro _ ⟨a1,rfl,H1⟩;have z : (if (it c).lt (it b) then c else b) ∈ all := by
   split
   ·rw [e]; simp
   ·exact y
  have := dG (k := k) all x hl post (pre ++ [c]) (if (it c).lt (it b) then c else b) H1 m (by omega) (by rw [e]; simp) z;have A : w64 ((pre.length : Int) + 1) = ((pre ++ [c]).length : Int) := by rw [zV (by omega) (by omega)]; simp
  rw [<- A] at this;simp only [bS];rw [bst];by_cases j : (it c).lt (it b)
  ·rw [if_pos j] at this ⊢;refine Do.tb (dT j) ?_;simp only [bS];refine this.mono ?_;rintro _ ⟨a2,rfl,u⟩;exact ⟨a2,rfl,u.mono (by simp only [lC]; omega)⟩
  ·rw [if_neg j] at this ⊢;refine Do.fb (dF j) ?_;simp only [bS];refine this.mono ?_;rintro _ ⟨a2,rfl,u⟩;exact ⟨a2,rfl,u.mono (by simp only [lC]; omega)⟩
theorem fq {k : Nat} (hk : 0 < k) (a : za) : vS k a [] = some (-1,a) := by
 obtain ⟨m,rfl⟩ : ∃ q,k = q + 1 := ⟨k - 1,by omega⟩
 unfold vS;rw [vh]; rfl
theorem dH {k : Nat} (c : Nat) (r : List Nat) (u : ∀ d ∈ c :: r,∃ ν ∈ N,ν.c = d) (hl : r.length < 90000) (hk : r.length + 4 < k) {n : Nat} {a : za} (H : Hp κ n a it N L) :
  Do (vS k a (zl (c :: r))) fun res => ∃ a',res = (((bst it c r : Nat) : Int),a') /\ Hp κ (n + 6 * r.length) a' it N L := by
 obtain ⟨m,rfl⟩ : ∃ q,k = q + 1 := ⟨k - 1,by omega⟩
 unfold vS;rw [vh];refine Do.bind (P := fun res => ∃ a',res = (((bst it c r : Nat) : Int),a') /\ Hp κ (n + 6 * r.length) a' it N L) ?_ (by
  rintro _ ⟨a2,rfl,j⟩;exact ⟨_,rfl,a2,rfl,j⟩)
 refine Do.t (dT (by simp [zl])) ?_;refine Do.assoc (Do.seq (yv [] (zl r) (c : Int)) ?_);simp only [bS,beq_self_eq_true,cT];have := dG (k := 0) (c :: r) u (by simp only [lC]; omega) r [c] c H m (by omega) rfl (List.mem_cons_self ..);have e : ((zl (c :: r)).length : Int) = ((c :: r).length : Int) := by simp [zl]
 rw [e];exact this
end
def rOk (x : zo) : Prop := 0 <= x.rank /\ x.rank < 1000
theorem bF {x y : zo} (e : rOk x) (j : rOk y) : (uI x y).map (fun t => decide (t < 0)) = some (decide (x.rank < y.rank)) := by
 obtain ⟨h1,h2⟩ := e;obtain ⟨h3,h4⟩ := j;unfold uI;rw [zV (by omega) (by omega)];simp only [Option.map_some];congr 1;rw [decide_eq_decide];split <;> split <;> omega
def RS (l : List zo) : Prop := l.Pairwise fun x y => x.rank <= y.rank
theorem si {α : Type} (p q : List α) (x y : α) : mSet (p ++ x :: q) (p.length : Int) y = p ++ y :: q := by
 unfold mSet;simp
theorem ax (D i1 : Int) : ∀ (e : List zo) (x : zo) (S : List zo) (m : Nat),e.length < m -> e.length < 1000 -> rOk x -> (∀ y ∈ e,rOk y) -> RS e.reverse ->
  Do (zT 0 D i1 m (e.length : Int) (e.reverse ++ x :: S)) fun r => ∃ q,r = q ++ S /\ RS q /\ q.Perm (x :: e)
 | [],x,S,m,hm,F,B,hr,hs => by
  obtain ⟨m,rfl⟩ : ∃ q,m = q + 1 := ⟨m - 1,by omega⟩
  rw [zT];refine Do.fb (dF (by simp)) ?_;refine Do.seq rfl (Do.f rfl ?_);exact ⟨_,rfl,[x],rfl,by simp [RS],.refl _⟩
 | y :: e,x,S,m,hm,F,B,hr,hs => by
  obtain ⟨m,rfl⟩ : ∃ q,m = q + 1 := ⟨m - 1,by omega⟩
  simp only [lC] at hm F;have Y := hr y (List.mem_cons_self ..);have e0 : (y :: e).reverse ++ x :: S = e.reverse ++ y :: x :: S := by simp
  have I : mIdx (e.reverse ++ y :: x :: S) (((y :: e).length : Nat) : Int) = some x := by
   have := yv (e.reverse ++ [y]) S x;simpa using this
  have J : w64 ((((y :: e).length : Nat) : Int) - 1) = (e.length : Int) := by simp only [lC]; rw [zV (by omega) (by omega)]; omega
  have O : mIdx (e.reverse ++ y :: x :: S) (e.length : Int) = some y := by
   have := yv e.reverse (x :: S) y;simpa using this
  rw [e0,zT,I,J,O];refine Do.tb (dT (by simp only [lC]; omega)) ?_;simp only [bS];have j := bF B Y;cases hf : uI x y with
  | none => rw [hf] at j; cases j
  | some t =>
   rw [hf] at j;simp only [Option.map_some,Option.some.injEq] at j;simp only [bS];rw [j];have hs' : RS e.reverse := by
    simp only [RS,List.reverse_cons,List.pairwise_append] at hs;exact hs.1
   have hle : ∀ z ∈ e,z.rank <= y.rank := by
    simp only [RS,List.reverse_cons,List.pairwise_append] at hs;intro z hz;exact hs.2.2 z (by simpa using hz) y (by simp)
   by_cases A : x.rank < y.rank
   ·refine Do.t (dT A) ?_;have U : mSet (e.reverse ++ y :: x :: S) (((y :: e).length : Nat) : Int) y = e.reverse ++ y :: y :: S := by
     have := si (e.reverse ++ [y]) S x y;simpa using this
    have W : mIdx (e.reverse ++ y :: y :: S) (e.length : Int) = some y := by
     have := yv e.reverse (y :: S) y;simpa using this
    have X : mSet (e.reverse ++ y :: y :: S) (e.length : Int) x = e.reverse ++ x :: y :: S := by
     have := si e.reverse (y :: S) y x;simpa using this
    rw [U,W,X];simp only [bS];refine (ax D i1 e x (y :: S) m (by omega) (by omega) B (fun z hz => hr z (mC _ hz)) hs').mono ?_;rintro _ ⟨q,rfl,hq,hp⟩;refine ⟨q ++ [y],by simp,?_,?_⟩
    ·simp only [RS,List.pairwise_append];refine ⟨hq,by simp,fun z hz u hu => ?_⟩;simp only [List.mem_singleton] at hu;subst hu;rcases List.mem_cons.1 (hp.mem_iff.1 hz) with rfl | hz
     ·omega
     ·exact hle z hz
    ·refine (List.perm_append_singleton y q).trans ((hp.cons y).trans (List.Perm.swap ..))
   ·refine Do.f (dF A) ?_;refine ⟨_,rfl,e.reverse ++ [y,x],by simp,?_,?_⟩
    ·simp only [RS,List.pairwise_append];refine ⟨hs',by simp; omega,fun z hz u hu => ?_⟩;have := hle z (by simpa using hz);simp only [iC,List.not_mem_nil,or_false] at hu;rcases hu with rfl | rfl <;> omega
    ·refine (List.perm_append_comm).trans ?_;simp only [List.cons_append,List.nil_append];exact (List.Perm.swap ..).trans (((List.reverse_perm e).cons y).cons x)
theorem aw (all : Nat) (z : all < 1000) : ∀ (d i : Nat) (A S : List zo) (m : Nat),A.length = i -> S.length = d -> all = i + d -> all + d < m -> RS A -> (∀ y ∈ A ++ S,rOk y) ->
  Do (zJ 0 (all : Int) m (i : Int) (A ++ S)) fun r => RS r /\ r.Perm (A ++ S)
 | 0,i,A,S,m,hA,B,e,hm,hs,hr => by
  obtain ⟨m,rfl⟩ : ∃ q,m = q + 1 := ⟨m - 1,by omega⟩
  rw [zJ];refine Do.f (dF (by omega)) ?_;have := List.eq_nil_of_length_eq_zero B;subst this;exact ⟨_,rfl,by simpa using hs,.refl _⟩
 | d + 1,i,A,S,m,hA,B,e,hm,hs,hr => by
  obtain ⟨m,rfl⟩ : ∃ q,m = q + 1 := ⟨m - 1,by omega⟩
  rw [zJ];refine Do.t (dT (by omega)) ?_;cases S with
  | nil => simp at B
  | cons x S =>
   simp only [lC] at B;have := ax (all : Int) (i : Int) A.reverse x S m (by simp; omega) (by simp; omega) (hr x (by simp)) (fun y j => hr y (by simp at j; simp [j])) (by simpa using hs);rw [List.reverse_reverse,List.length_reverse,hA] at this;refine this.bind ?_;rintro _ ⟨q,rfl,hq,hp⟩;have u : q.Perm (A ++ [x]) := hp.trans ((List.reverse_perm A).cons x |>.trans (List.perm_append_singleton x A).symm);rw [zV (by omega) (by omega)];have hl : q.length = i + 1 := by rw [u.length_eq]; simp [hA]
   refine (aw all z d (i + 1) q S m hl (by omega) (by omega) (by omega) hq (fun y j => hr y ?_)).mono ?_
   ·rcases List.mem_append.1 j with j | j
    ·have := u.mem_iff.1 j;simp at this ⊢;rcases this with h | h <;> simp [h]
    ·simp [j]
   ·rintro r ⟨h1,h2⟩;refine ⟨h1,h2.trans ?_⟩;have := u.append_right S;simpa using this
theorem fL {k : Nat} (l : List zo) (hl : l.length <= 20) (hk : 100 <= k) (hr : ∀ y ∈ l,rOk y) :
  Do (zR k l 0 (l.length : Int)) fun r => RS r /\ r.Perm l := by
 unfold zR;rw [show w64 (0 + 1) = ((1 : Nat) : Int) from rfl];cases l with
 | nil =>
  obtain ⟨m,rfl⟩ : ∃ q,k = q + 1 := ⟨k - 1,by omega⟩
  rw [zJ];exact ⟨_,rfl,by simp [RS],.refl _⟩
 | cons x S =>
  have := aw (x :: S).length (by omega) S.length 1 [x] S k rfl rfl (by simp; omega) (by simp at *; omega) (by simp [RS]) (by simpa using hr);refine this.bind ?_;rintro r ⟨h1,h2⟩;have e : nH r.length (x :: S).length = some () := by unfold nH; rw [if_pos (by simpa using h2.length_eq)]
  simp only [e,bS];exact ⟨_,rfl,h1,h2⟩
theorem bf {k : Nat} (l : List zo) (hl : l.length <= 20) (hk : 200 <= k) (hr : ∀ y ∈ l,rOk y) :
  Do (yK k l) fun r => RS r /\ r.Perm l := by
 unfold yK xt;obtain ⟨m,rfl⟩ : ∃ q,k = q + 2 := ⟨k - 2,by omega⟩
 by_cases h : l.length = 20
 ·have hi := fL (k := m + 1) l hl (by omega) hr;have j : (l.length : Int) = 20 := by omega
  rw [ya,j,dT (by decide : (20 : Int) <= 20)];rw [j] at hi;simp only [cT];refine Do.assoc (Do.assoc (hi.bind ?_));rintro r ⟨h1,h2⟩;have e : nH r.length l.length = some () := by unfold nH; rw [if_pos h2.length_eq]
  rw [ya,show w64 (20 + 20) = 40 from rfl,dF (by decide : ¬ (40 : Int) <= 20)];simp only [cF,bS];have t : zR (m + 2) r 20 20 = some r := by
   unfold zR;rw [zJ,show w64 (20 + 1) = 21 from rfl,dF (by decide : ¬ (21 : Int) < 20)];simp [nH]
  rw [t];simp only [bS];rw [yp,dF (by decide : ¬ (20 : Int) < 20)];simp only [cF,bS,e];exact ⟨_,rfl,h1,h2⟩
 ·rw [ya,dF (by omega : ¬ (20 : Int) <= (l.length : Int))];simp only [cF,bS];refine Do.assoc ((fL l hl (by omega) hr).bind ?_);rintro r ⟨h1,h2⟩;have e : nH r.length l.length = some () := by unfold nH; rw [if_pos h2.length_eq]
  rw [yp,dF (by omega : ¬ (20 : Int) < (l.length : Int))];simp only [cF,bS,e];exact ⟨_,rfl,h1,h2⟩
end
noncomputable section
set_option maxRecDepth 10000
inductive SK (b : Bool) : F -> Nat -> Prop
 | nil : SK b .nil 0
 | real {c r : Nat} {kids rest : F} : SK b kids r -> SK b rest r -> SK b (.cons c r kids rest) (r + 1)
 | leaf {d c r : Nat} {kids rest : F} : b = true -> SK b kids r -> SK b rest r -> SK b (.cons d 0 .nil (.cons c r kids rest)) (r + 1)
theorem SK.size {b : Bool} {f : F} {r : Nat} (h : SK b f r) : 2 ^ r <= f.size + 1 /\ f.size + 1 < 2 ^ (r + 1) /\ (b = false -> f.size + 1 = 2 ^ r) := by
 induction h with
 | nil => simp [F.size]
 | real h1 h2 i1 i2 =>
  simp only [F.size,Nat.pow_succ] at *
  refine ⟨by omega,by omega,fun e => ?_⟩;have t := i1.2.2 e;have u := i2.2.2 e;omega
 | leaf j h1 h2 i1 i2 =>
  simp only [F.size,Nat.pow_succ] at *
  refine ⟨by omega,by omega,fun e => ?_⟩;rw [e] at j; cases j
def Ord (it : Nat -> It) (N : List Nd) : Prop := ∀ ν ∈ N,∀ q : Nat,ν.up = (q : Int) -> ¬ (it ν.c).lt (it q)
theorem Ord.append {it : Nat -> It} {M N : List Nd} (h : Ord it M) (e : Ord it N) : Ord it (M ++ N) := fun ν j => by
 rcases List.mem_append.1 j with h1 | h1
 ·exact h ν h1
 ·exact e ν h1
theorem Ord.sub {it : Nat -> It} {M N : List Nd} (h : Ord it N) (hs : ∀ ν ∈ M,ν ∈ N) : Ord it M := fun ν e => h ν (hs ν e)
structure GT (b : Bool) (it : Nat -> It) (t : Tr) : Prop where
 sk : SK b t.kids t.r
 ord : Ord it (nd t.kids t.c)
theorem GT.under {b : Bool} {it : Nat -> It} {t l : Tr} (ht : GT b it t) (hl : GT b it l) (hr : l.r = t.r) (j : ¬ (it l.c).lt (it t.c)) : GT b it (t.under l) where
 sk := by
  show SK b (.cons l.c l.r l.kids t.kids) (t.r + 1);rw [hr];exact .real (hr ▸ hl.sk) ht.sk
 ord := by
  show Ord it (⟨l.c,t.c,l.kids.hd,-1,t.kids.hd,l.r,0⟩ :: (nd l.kids l.c ++ nd t.kids t.c));intro ν e q hq;rcases List.mem_cons.1 e with rfl | e
  ·simp only at hq ⊢;have : q = t.c := by omega
   rw [this]; exact j
  ·exact (hl.ord.append ht.ord) ν e q hq
theorem AM {b : Bool} {it : Nat -> It} {s t : Tr} (hs : GT b it s) (ht : GT b it t) (hr : s.r = t.r) : GT b it (lk it s t) /\ (lk it s t).r = s.r + 1 /\ (lk it s t).cells.Perm (s.cells ++ t.cells) := by
 unfold lk;split
 ·rename_i h;refine ⟨ht.under hs hr (It.lt_asymm h),by simp [Tr.under,hr],?_⟩;simp only [Tr.cells,Tr.under,F.cells,List.cons_append];exact (List.Perm.swap ..).trans (List.Perm.cons _ (List.perm_middle.symm))
 ·rename_i h;refine ⟨hs.under ht hr.symm h,rfl,?_⟩;simp only [Tr.cells,Tr.under,F.cells,List.cons_append];refine List.Perm.cons _ ?_;exact List.perm_append_comm (l₁ := t.c :: t.kids.cells) (l₂ := s.kids.cells)
theorem cq {α β : Type} {f : α -> β} {l r : List β} (h : r.Perm l) : ∀ ls : List α,ls.map f = l -> ∃ ws : List α,ws.Perm ls /\ ws.map f = r := by
 induction h with
 | nil => intro ls e; exact ⟨ls,.refl _,e⟩
 | cons x h ih =>
  intro ls e;cases ls with
  | nil => simp at e
  | cons y ls =>
   simp only [pC,List.cons.injEq] at e;obtain ⟨ws,h1,h2⟩ := ih ls e.2;exact ⟨y :: ws,h1.cons y,by simp [h2,e.1]⟩
 | swap x y l =>
  intro ls e;cases ls with
  | nil => simp at e
  | cons u ls =>
   cases ls with
   | nil => simp at e
   | cons v ls =>
    simp only [pC,List.cons.injEq] at e;exact ⟨v :: u :: ls,List.Perm.swap ..,by simp [e]⟩
 | trans h1 h2 i1 i2 =>
  intro ls e;obtain ⟨ws,h3,h4⟩ := i2 ls e;obtain ⟨vs,j,t⟩ := i1 ws h4;exact ⟨vs,j.trans h3,t⟩
theorem oR {α : Type} {l : List α} {i : Nat} (h : i <= l.length) : mCut l (i : Int) (l.length : Int) = some (l.drop i) := by
 unfold mCut;rw [if_pos ⟨by omega,by omega,by omega⟩];simp
def rk (l : Lt) : zo := zo.mk (l.t.c : Int) (l.t.r : Int)
section
variable {κ : Cfg} {it : Nat -> It} {N : List Nd} {L : Heap} {b : Bool}
theorem cM {n : Nat} {a : za} {ls : List Lt} (H : Hp κ n a it (LN ls ++ N) L) (j : ∀ l ∈ ls,GT b it l.t) : ∀ l ∈ ls,l.t.r < 17 := by
 intro l hl;have h1 := (j l hl).sk.size.1;have h2 := H.room;have h3 := H.cap;have h4 : l.nd.length <= (LN ls).length := by
  obtain ⟨p,q,rfl⟩ := List.append_of_mem hl;rw [vn,sN];simp only [lA]; omega
 rw [jT,lC,qP] at h4;rw [lA] at h2;have e : 2 ^ l.t.r < 2 ^ 17 := by
  have : (2 : Nat) ^ 17 = 131072 := by decide
  omega
 exact (Nat.pow_lt_pow_iff_right (by decide)).1 e
theorem fw (all : List Lt) (j : ∀ l ∈ all,l.top ∈ N) (hl : all.length < 100000) : ∀ (post pre : List Lt) {n : Nat} {a : za} (H : Hp κ n a it N L) (m : Nat),post.length < m -> all = pre ++ post ->
  Do (vT (all.length : Int) (lc all) m (pre.map rk) (pre.length : Int) a) fun r => ∃ a',r = (all.map rk,a') /\ Hp κ (n + post.length) a' it N L
 | [],pre,n,a,H,m,hm,e => by
  obtain ⟨m,rfl⟩ : ∃ q,m = q + 1 := ⟨m - 1,by simp at hm; omega⟩
  rw [vT];refine Do.f (dF (by rw [e]; simp)) ?_;exact ⟨_,rfl,a,by rw [e]; simp,H⟩
 | l :: post,pre,n,a,H,m,hm,e => by
  obtain ⟨m,rfl⟩ : ∃ q,m = q + 1 := ⟨m - 1,by simp at hm; omega⟩
  simp only [lC] at hm;have hlen : pre.length < 100000 := by have := congrArg List.length e; simp at this; omega
  have y : mIdx (lc all) (pre.length : Int) = some (l.t.c : Int) := by
   rw [e,vr,jy];have := yv (lc pre) (lc post) (l.t.c : Int)
   rwa [vM] at this
  rw [vT];refine Do.t (dT (by rw [e]; simp; omega)) ?_;refine Do.seq y ?_;refine (H.get (j l (by rw [e]; simp)) (f := 4) (v := (l.t.r : Int))).bind ?_;rintro _ ⟨a1,rfl,H1⟩;refine Do.seq (xh (by simp; omega)) ?_;rw [zV (by omega) (by omega)];have := fw all j hl post (pre ++ [l]) H1 m (by omega) (by rw [e]; simp);have x : ((pre ++ [l]).length : Int) = (pre.length : Int) + 1 := by simp
  rw [x,List.map_append] at this;refine this.mono ?_;rintro _ ⟨a2,rfl,u⟩;exact ⟨a2,rfl,u.mono (by simp only [lC]; omega)⟩
theorem fy (v v1 : Int) (y z : List Int) (a : za) : ∀ (post pre : List Lt) (m : Nat),post.length < m -> (pre ++ post).length < 100000 -> (∀ l ∈ pre,(l.t.r : Int) < v1) ->
  Do (vU ((pre ++ post).map rk) v v1 y a z m (pre.length : Int)) fun r => ∃ p q,pre ++ post = p ++ q /\ r = (p.length : Int) /\ (∀ l ∈ p,(l.t.r : Int) < v1) /\ (∀ l A,q = l :: A -> ¬ (l.t.r : Int) < v1)
 | [],pre,m,hm,u,hp => by
  obtain ⟨m,rfl⟩ : ∃ q,m = q + 1 := ⟨m - 1,by simp at hm; omega⟩
  rw [vU];refine Do.fb (dF (by simp)) ?_;refine Do.seq rfl (Do.f rfl ?_);exact ⟨_,rfl,pre,[],rfl,rfl,hp,fun _ _ h => by cases h⟩
 | l :: post,pre,m,hm,u,hp => by
  obtain ⟨m,rfl⟩ : ∃ q,m = q + 1 := ⟨m - 1,by simp at hm; omega⟩
  simp only [lC,lA] at hm u;have D : mIdx ((pre ++ l :: post).map rk) (pre.length : Int) = some (rk l) := by
   rw [List.map_append,pC];have := yv (pre.map rk) (post.map rk) (rk l)
   rwa [lM] at this
  rw [vU];refine Do.tb (dT (by simp; omega)) ?_;refine Do.assoc (Do.seq D ?_);refine Do.seq rfl ?_;by_cases h : (l.t.r : Int) < v1
  ·refine Do.t (dT h) ?_;rw [zV (by omega) (by omega)];have := fy v v1 y z a post (pre ++ [l]) m (by omega) (by simp; omega) (by
    intro x j;rcases List.mem_append.1 j with j | j
    ·exact hp x j
    ·simp at j; subst j; exact h)
   have B : ((pre ++ [l]).length : Int) = (pre.length : Int) + 1 := by simp
   rw [B,aA] at this;exact this
  ·refine Do.f (dF h) ?_;exact ⟨_,rfl,pre,l :: post,rfl,rfl,hp,fun x A e => by cases e; exact h⟩
def LS (l : List Lt) : Prop := l.Pairwise fun x y => x.t.r <= y.t.r
def LSS (l : List Lt) : Prop := l.Pairwise fun x y => x.t.r < y.t.r
theorem uA (s t : List Tr) : TC (s ++ t) = TC s ++ TC t := List.flatMap_append
theorem qH (s : Tr) (t : List Tr) : TC (s :: t) = s.cells ++ TC t := rfl
theorem dA {s t : List Tr} (h : s.Perm t) : (TC s).Perm (TC t) := h.flatMap_right _
theorem cpm {l l' : List Nat} (h : ∀ p : Nat -> Bool,l.countP p = l'.countP p) : l.Perm l' := List.perm_iff_count.2 fun x => h _
theorem jj (J : List Int) : ∀ (q : Nat) (ws os : List Lt) {n : Nat} {a : za} (H : Hp κ n a it (LN ws ++ (LN os ++ N)) L) (m : Nat),ws.length = q -> q + os.length < 1000 -> q + 10 + 1000 < m -> (∀ l ∈ ws,GT b it l.t) -> (∀ l ∈ os,GT b it l.t) -> LS ws -> LSS os -> (∀ o ∈ os,∀ w ∈ ws,o.t.r < w.t.r) ->
  Do (wN J m (ws.map rk) (lc os) a) fun r => ∃ fs a',r = (lc fs,a') /\ Hp κ (n + 11 * q) a' it (LN fs ++ N) L /\ (∀ l ∈ fs,GT b it l.t) /\ LSS fs /\ (TC (fs.map Lt.t)).Perm (TC (ws.map Lt.t) ++ TC (os.map Lt.t)) /\ fs.length <= q + os.length
 | 0,ws,os,n,a,H,m,hq,hb,hm,F,z,hs,B,j => by
  obtain ⟨m,rfl⟩ : ∃ q,m = q + 1 := ⟨m - 1,by omega⟩
  have := List.eq_nil_of_length_eq_zero hq;subst this;rw [wN];refine Do.f (dF (by simp)) ?_;exact ⟨_,rfl,os,a,rfl,H,z,B,by simp [TC],by simp⟩
 | q + 1,ws,os,n,a,H,m,hq,hb,hm,F,z,hs,B,j => by
  obtain ⟨m,rfl⟩ : ∃ q,m = q + 1 := ⟨m - 1,by omega⟩
  cases ws with
  | nil => simp at hq
  | cons x ws =>
   simp only [lC] at hq;have A : ws.length = q := by omega
   rw [wN];refine Do.t (dT (by simp)) ?_;refine Do.seq (r := rk x) rfl ?_;have I : LS ws := (List.pairwise_cons.1 hs).2;have hx := (List.pairwise_cons.1 hs).1;have out : (∀ w ∈ ws,x.t.r < w.t.r) -> Do ((mCut (rk x :: ws.map rk) 1 (((x :: ws).map rk).length : Int)).bind fun l4 => (mApp (lc os) ([(rk x).n] : List Int)).bind fun l5 => wN J m l4 l5 a) fun r => ∃ fs a',r = (lc fs,a') /\ Hp κ (n + 11 * (q + 1)) a' it (LN fs ++ N) L /\ (∀ l ∈ fs,GT b it l.t) /\ LSS fs /\ (TC (fs.map Lt.t)).Perm (TC ((x :: ws).map Lt.t) ++ TC (os.map Lt.t)) /\ fs.length <= q + 1 + os.length := by
    intro U;have S : mCut (rk x :: ws.map rk) 1 (((x :: ws).map rk).length : Int) = some (ws.map rk) := oR (l := (x :: ws).map rk) (i := 1) (by simp);refine Do.seq S ?_;refine Do.seq (xh (by simp [vM]; omega)) ?_;have H1 : Hp κ n a it (LN ws ++ (LN (os ++ [x]) ++ N)) L := H.p (npm fun p => by
     simp only [sN,vn,List.countP_append,show LN ([] : List Lt) = [] from rfl,List.countP_nil]; omega)
    have := jj J q ws (os ++ [x]) H1 m A (by simp; omega) (by omega) (fun l h => F l (mC _ h)) (fun l h => by
     rcases List.mem_append.1 h with h | h
     ·exact z l h
     ·simp at h; subst h; exact F l (List.mem_cons_self ..)) I (List.pairwise_append.2 ⟨B,by simp,fun o e y hy => by simp at hy; subst hy; exact j o e y (List.mem_cons_self ..)⟩) (fun o e w hw => by
     rcases List.mem_append.1 e with e | e
     ·exact j o e w (mC _ hw)
     ·simp at e; subst e; exact U w hw)
    rw [vr] at this;refine this.mono ?_;rintro _ ⟨fs,a2,rfl,O,h1,h2,h3,h4⟩;refine ⟨fs,a2,rfl,O.mono (by omega),h1,h2,h3.trans (cpm fun p => ?_),by rw [lA,List.length_singleton] at h4; omega⟩;simp only [List.map_append,pC,List.map_nil,uA,qH,List.countP_append,show TC ([] : List Tr) = [] from rfl,List.countP_nil]; omega
   cases ws with
   | nil =>
    refine Do.seq (r := true) rfl (Do.t rfl ?_);exact out (by simp)
   | cons y ws =>
    refine Do.fb (by simp; omega) ?_;refine Do.assoc (Do.seq (r := rk y) rfl ?_);refine Do.seq rfl ?_;by_cases hr : y.t.r = x.t.r
    ·refine Do.f (by simp [rk,hr]) ?_;refine Do.seq (r := rk y) rfl ?_;have H1 : Hp κ n a it (x.t.nd x.u x.w ++ (y.t.nd y.u y.w ++ (LN ws ++ (LN os ++ N)))) L := H.p (npm fun p => by
      simp only [sN,Lt.nd,List.countP_append]; omega)
     have b0 := cM H F x (List.mem_cons_self ..);refine (cu (k := m) (by omega) H1 rfl hr (by omega)).bind ?_;rintro _ ⟨u,w,a1,rfl,O⟩;have gx := F x (List.mem_cons_self ..);have gy := F y (mC _ (List.mem_cons_self ..));obtain ⟨g1,g2,g3⟩ := AM gx gy hr.symm;have S : mCut (rk x :: (y :: ws).map rk) 2 (((x :: y :: ws).map rk).length : Int) = some (ws.map rk) := oR (l := (x :: y :: ws).map rk) (i := 2) (by simp);refine Do.seq S ?_;have ew : w64 ((rk x).rank + 1) = ((x.t.r + 1 : Nat) : Int) := by
      simp only [rk]; rw [zV (by omega) (by omega)]; omega
     rw [ew];simp only [lC] at A;refine (fy (lk it x.t y.t).c ((x.t.r + 1 : Nat) : Int) (lc os) J a1 ws [] m (by omega) (by simp; omega) (by simp)).bind ?_;rintro _ ⟨p,r,Z,rfl,W,X⟩;simp only [List.nil_append] at Z;subst Z;have el : oe ((p ++ r).map rk) (p.length : Int) ([zo.mk ((lk it x.t y.t).c : Int) ((x.t.r + 1 : Nat) : Int)] : List zo) = some ((p ++ (⟨lk it x.t y.t,u,w⟩ : Lt) :: r).map rk) := by
      unfold oe;simp only [lA] at A;rw [if_pos ⟨by omega,by simp; omega,by simp; omega⟩];simp only [tN,List.map_append,pC];rw [List.take_left' (by simp),List.drop_left' (by simp)];simp only [rk,g2]
      rfl
     refine Do.seq el ?_;have hlen : (p ++ (⟨lk it x.t y.t,u,w⟩ : Lt) :: r).length = q := by
      simp only [lA,lC] at A ⊢; omega
     have Y := List.pairwise_cons.1 I;have D := List.pairwise_append.1 Y.2;have H3 : Hp κ (n + 11) a1 it (LN (p ++ (⟨lk it x.t y.t,u,w⟩ : Lt) :: r) ++ (LN os ++ N)) L := O.p (npm fun p => by
      simp only [sN,vn,Lt.nd,List.countP_append]; omega)
     have := jj J q (p ++ (⟨lk it x.t y.t,u,w⟩ : Lt) :: r) os H3 m hlen (by omega) (by omega) (by
      intro l hl;rcases List.mem_append.1 hl with hl | hl
      ·exact F l (by simp [hl])
      ·rcases List.mem_cons.1 hl with rfl | hl
       ·exact g1
       ·exact F l (by simp [hl])) z (by
      refine List.pairwise_append.2 ⟨D.1,List.pairwise_cons.2 ⟨?_,D.2.1⟩,?_⟩
      ·intro l hl;simp only [g2];cases r with
       | nil => cases hl
       | cons r0 r =>
        have h0 := X r0 r rfl;have h1 : r0.t.r <= l.t.r := by
         rcases List.mem_cons.1 hl with rfl | hl
         ·exact Nat.le_refl _
         ·exact (List.pairwise_cons.1 D.2.1).1 l hl
        omega
      ·intro o e l hl;rcases List.mem_cons.1 hl with rfl | hl
       ·have := W o e;simp only [g2]; omega
       ·exact D.2.2 o e l hl) B (by
      intro o e l hl;have h0 := j o e x (List.mem_cons_self ..);rcases List.mem_append.1 hl with hl | hl
      ·exact j o e l (by simp [hl])
      ·rcases List.mem_cons.1 hl with rfl | hl
       ·simp only [g2]; omega
       ·exact j o e l (by simp [hl]))
     refine this.mono ?_;rintro _ ⟨fs,a2,rfl,H4,h1,h2,h3,h4⟩;refine ⟨fs,a2,rfl,H4.mono (by omega),h1,h2,h3.trans (cpm fun p => ?_),by omega⟩;have := g3.countP_eq p;simp only [List.map_append,pC,uA,qH,List.countP_append] at this ⊢; omega
    ·refine Do.t (by simp [rk]; omega) ?_;refine out fun w hw => ?_
     have h1 := hx y (List.mem_cons_self ..);rcases List.mem_cons.1 hw with rfl | hw
     ·omega
     ·have := (List.pairwise_cons.1 I).1 w hw;omega
theorem rQ {k : Nat} (hk : 3000 <= k) (ls : List Lt) (hl : ls.length <= 20) {n : Nat} {a : za} (H : Hp κ n a it (LN ls ++ N) L) (e : ∀ l ∈ ls,GT b it l.t) :
  Do (vG k a (lc ls)) fun r => ∃ f a',r = (f.hd,a') /\ Hp κ (n + 14 * ls.length) a' it (nd f (-1) ++ N) L /\ (∀ t ∈ f.trees,GT b it t) /\ (f.trees.Pairwise fun s t => s.r < t.r) /\ f.cells.Perm (TC (ls.map Lt.t)) := by
 unfold vG;have hr := cM H e;have h0 := fw (κ := κ) (it := it) (N := LN ls ++ N) (L := L) ls (fun l h => mL _ (lL h)) (by omega) ls [] H k (by omega) rfl;rw [vM];refine h0.bind ?_;rintro _ ⟨a1,rfl,H1⟩;refine (bf (ls.map rk) (by simpa using hl) (by omega) (by
  intro y A;obtain ⟨l,hl,rfl⟩ := List.mem_map.1 A;have := hr l hl;exact ⟨by simp [rk],by simp only [rk]; omega⟩)).bind ?_
 rintro r ⟨hs,hp⟩;obtain ⟨ws,hw,rfl⟩ := cq hp ls rfl;have hlen : ws.length = ls.length := hw.length_eq;have j : Hp κ (n + ls.length) a1 it (LN ws ++ (LN ([] : List Lt) ++ N)) L := H1.p ((gq hw.symm).append_right _);have h1 := jj (b := b) (lc ls) ws.length ws [] j k rfl (by simp; omega) (by omega) (fun l h => e l (hw.mem_iff.1 h)) (by simp) (by
  have := List.pairwise_map.1 hs;refine this.imp fun {x y} h => ?_
  simp only [rk] at h; omega) (by simp [LSS]) (by simp)
 refine h1.bind ?_;rintro _ ⟨fs,a2,rfl,u,g1,g2,g3,g4⟩;simp only [List.length_nil,Nat.add_zero] at g4;refine (bp fs (by omega) (by omega) u).bind ?_;rintro _ ⟨a3,rfl,z⟩;refine ⟨_,rfl,F.of (fs.map Lt.t),a3,rfl,z.mono (by omega),?_,?_,?_⟩
 ·rw [F.mq];intro t ht;obtain ⟨l,hl,rfl⟩ := List.mem_map.1 ht;exact g1 l hl
 ·rw [F.mq];exact List.pairwise_map.2 g2
 ·rw [F.xk,F.mq];refine g3.trans ?_;rw [show TC (([] : List Lt).map Lt.t) = [] from rfl,aN];exact dA (hw.map _)
end
end
noncomputable section
set_option maxRecDepth 10000
section
variable {κ : Cfg} {n : Nat} {a : za} {it : Nat -> It} {N : List Nd} {L : Heap} {b : Bool}
theorem oF (e : List Tr) : (cs e).length = e.length := by simp [cs]
theorem ug {k : Nat} {f : F} (H : Hp κ n a it N L) (hs : ∀ ν ∈ nd f (-1),ν ∈ N) (hl : f.len <= κ.C) (hk : f.len < k) :
  Do (wH k a f.hd) fun r => ∃ a',r = (cs f.trees,a') /\ Hp κ (n + f.len) a' it N L := by
 unfold wH oU;refine Do.assoc ((cQ f (-1) H hs k [] hk (by simpa using hl)).bind ?_);rintro _ ⟨a1,rfl,H1⟩;exact ⟨_,rfl,a1,by simp [oo,cs],H1⟩
theorem im {k : Nat} {ν : Nd} {f : F} (H : Hp κ n a it N L) (j : ν ∈ N) (hd : ν.down = f.hd) (hs : ∀ μ ∈ nd f ν.c,μ ∈ N) (hl : f.len <= κ.C) (hk : f.len < k) :
  Do (sM k a (ν.c : Int)) fun r => ∃ a',r = (cs f.trees,a') /\ Hp κ (n + 1 + f.len) a' it N L := by
 unfold sM oU;have hh := ob H hs;refine (H.getc j (f := 1) (v := f.hd) hh.1 hh.2 (by rw [<- hd]; rfl)).bind ?_;rintro _ ⟨a1,rfl,H1⟩;refine Do.assoc ((cQ f ν.c H1 hs k [] hk (by simpa using hl)).bind ?_);rintro _ ⟨a2,rfl,e⟩;exact ⟨_,rfl,a2,by simp [oo,cs],e⟩
theorem jz : ∀ (f : F) (q : Nat),Ord it (nd f (q : Int)) -> ∀ c ∈ f.cells,¬ (it c).lt (it q)
 | .nil,q,h,c,e => by simp [F.cells] at e
 | .cons d r kids rest,q,h,c,e => by
  have h0 : ¬ (it d).lt (it q) := h ⟨d,q,kids.hd,-1,rest.hd,r,0⟩ (List.mem_cons_self ..) q rfl;have h1 : Ord it (nd kids d) := h.sub fun ν j => mC _ (mL _ j)
  have h2 : Ord it (nd rest q) := h.sub fun ν j => mC _ (List.mem_append_right _ j)
  rw [F.cells] at e;rcases List.mem_cons.1 e with rfl | e
  ·exact h0
  ·rcases List.mem_append.1 e with e | e
   ·exact It.le_trans h0 (jz kids d h1 c e)
   ·exact jz rest q h2 c e
theorem GT.least {t : Tr} (h : GT b it t) : ∀ c ∈ t.cells,¬ (it c).lt (it t.c) := by
 intro c e;rcases List.mem_cons.1 e with rfl | e
 ·exact It.lt_irrefl _
 ·exact jz t.kids t.c h.ord c e
theorem tC {f : F} {up : Int} (h : ∀ t ∈ f.trees,GT b it t) : ∀ l ∈ f.loose up,GT b it l.t := fun l hl => h l.t (by rw [<- xK f up]; exact List.mem_map_of_mem hl)
theorem nR : ∀ {f : F} {r : Nat},SK b f r -> ∀ t ∈ f.trees,SK b t.kids t.r /\ t.r < r := by
 intro f r h;induction h with
 | nil => intro t ht; simp [F.trees] at ht
 | real h1 h2 i1 i2 =>
  intro t ht;rw [F.trees] at ht;rcases List.mem_cons.1 ht with rfl | ht
  ·exact ⟨h1,Nat.lt_succ_self _⟩
  ·obtain ⟨e,j⟩ := i2 t ht;exact ⟨e,by omega⟩
 | leaf u h1 h2 i1 i2 =>
  intro t ht;rw [F.trees,F.trees] at ht;rcases List.mem_cons.1 ht with rfl | ht
  ·exact ⟨.nil,by simp⟩
  rcases List.mem_cons.1 ht with rfl | ht
  ·exact ⟨h1,Nat.lt_succ_self _⟩
  ·obtain ⟨e,j⟩ := i2 t ht;exact ⟨e,by omega⟩
theorem cZ : ∀ {f : F} {r : Nat},SK b f r -> f.len <= 2 * r /\ (b = false -> f.len = r) := by
 intro f r h;induction h with
 | nil => exact ⟨by simp [F.len,F.trees],fun _ => rfl⟩
 | real h1 h2 i1 i2 =>
  simp only [F.len,F.trees,lC] at *
  exact ⟨by omega,fun e => by have := i2.2 e; omega⟩
 | leaf j h1 h2 i1 i2 =>
  simp only [F.len,F.trees,lC] at *
  exact ⟨by omega,fun e => by rw [e] at j; cases j⟩
theorem oV : ∀ {f : F} {up : Int},Ord it (nd f up) -> ∀ t ∈ f.trees,Ord it (nd t.kids t.c)
 | .nil,up,h,t,ht => by simp [F.trees] at ht
 | .cons c r kids rest,up,h,t,ht => by
  rw [F.trees] at ht;rcases List.mem_cons.1 ht with rfl | ht
  ·exact h.sub fun ν e => mC _ (mL _ e)
  ·exact oV (f := rest) (up := up) (h.sub fun ν e => mC _ (List.mem_append_right _ e)) t ht
theorem cJ : ∀ {f : F},(∀ t ∈ f.trees,Ord it (nd t.kids t.c)) -> Ord it (nd f (-1))
 | .nil,h => fun ν e => by simp [nd] at e
 | .cons c r kids rest,h => by
  intro ν e q hq;rw [nd] at e;rcases List.mem_cons.1 e with rfl | e
  ·simp only at hq; omega
  ·rcases List.mem_append.1 e with e | e
   ·exact h ⟨c,r,kids⟩ (by simp [F.trees]) ν e q hq
   ·exact cJ (f := rest) (fun t ht => h t (by simp [F.trees,ht])) ν e q hq
theorem GT.kids {t : Tr} (h : GT b it t) : ∀ s ∈ t.kids.trees,GT b it s := fun s hs => ⟨(nR h.sk s hs).1,oV h.ord s hs⟩
end
theorem fK (l : List Int) (v : Int) (hl : l.length < 100000) : ∀ (post pre : List Int) (m : Nat),post.length < m -> l = pre ++ post -> v ∈ post ->
  ∃ j : Nat,wU v (l.length : Int) l m (pre.length : Int) = some (.inl (j : Int))
 | [],pre,m,hm,e,hv => by simp at hv
 | x :: post,pre,m,hm,e,hv => by
  obtain ⟨m,rfl⟩ : ∃ q,m = q + 1 := ⟨m - 1,by simp at hm; omega⟩
  simp only [lC] at hm;have hlen : pre.length < 100000 := by have := congrArg List.length e; simp at this; omega
  have u : mIdx l (pre.length : Int) = some x := by rw [e]; exact yv ..
  rw [wU,dT (by rw [e]; simp; omega),u];simp only [cT,bS];by_cases h : v = x
  ·subst h;exact ⟨pre.length,by simp⟩
  ·rw [show (v == x) = false by simpa using h,cF,zV (by omega) (by omega)];have := fK l v hl post (pre ++ [x]) m (by omega) (by rw [e]; simp) (by simpa [h] using hv);have t : ((pre ++ [x]).length : Int) = (pre.length : Int) + 1 := by simp
   rw [t] at this;exact this
theorem oE {k : Nat} (l : List Int) (v : Int) (hl : l.length < 100000) (hk : l.length < k) (hv : v ∈ l) : wT k l v = some true := by
 unfold wT ss;obtain ⟨j,e⟩ := fK l v hl l [] k hk rfl hv;rw [show ((0 : Int)) = (([] : List Int).length : Int) from rfl,e];simp
section
variable {κ : Cfg} {n : Nat} {a : za} {it : Nat -> It} {N : List Nd} {L : Heap} {b : Bool}
theorem pF {f : F} {t : Tr} (H : Hp κ n a it (nd f (-1) ++ N) L) (ht : t ∈ f.trees) : ∃ p q,f.trees = p ++ t :: q /\ (t.c : Int) ∉ cs p /\ (t.c : Int) ∉ cs q := by
 obtain ⟨p,q,e⟩ := List.append_of_mem ht;have h1 : (f.cells).Nodup := by
  rw [<- xr f (-1)];have := H.nd;rw [List.map_append] at this;exact (List.nodup_append.1 this).1
 rw [F.xk,e,uA,qH] at h1;have h2 := (List.nodup_append.1 h1)
 have mem : ∀ {l : List Tr} {c : Nat},(c : Int) ∈ cs l -> c ∈ TC l := by
  intro l c j;obtain ⟨s,hs,e⟩ := List.mem_map.1 j;have : s.c = c := by omega
  exact List.mem_flatMap.2 ⟨s,hs,by rw [<- this]; exact List.mem_cons_self ..⟩
 refine ⟨p,q,e,fun h => ?_,fun h => ?_⟩
 ·exact h2.2.2 _ (mem h) t.c (mL _ (List.mem_cons_self ..)) rfl
 ·exact (List.nodup_append.1 h2.2.1).2.2 t.c (List.mem_cons_self ..) _ (mem h) rfl
theorem og : ∀ {f : F} {up : Int} {p q : List Tr} {t : Tr},f.trees = p ++ t :: q -> ∃ p' j w,f.loose up = p' ++ (⟨t,up,w⟩ : Lt) :: j /\ p'.map Lt.t = p /\ j.map Lt.t = q
 | .nil,up,p,q,t,e => by simp [F.trees] at e
 | .cons c r kids rest,up,[],q,t,e => by
  simp only [F.trees,List.nil_append,List.cons.injEq] at e;exact ⟨[],rest.loose up,rest.hd,by rw [F.loose,e.1]; rfl,rfl,by rw [xK]; exact e.2⟩
 | .cons c r kids rest,up,x :: p,q,t,e => by
  simp only [F.trees,List.cons_append,List.cons.injEq] at e;obtain ⟨p',j,w,h1,h2,h3⟩ := og (f := rest) (up := up) e.2;exact ⟨⟨⟨c,r,kids⟩,up,rest.hd⟩ :: p',j,w,by rw [F.loose,h1]; rfl,by simp [h2,e.1],h3⟩
end
end
noncomputable section
set_option maxRecDepth 10000
def UpOK (M : List Nd) : Prop := ∀ ν ∈ M,0 <= ν.rank /\ (ν.up = -1 \/ ∃ μ ∈ M,ν.up = (μ.c : Int) /\ ν.rank < μ.rank)
structure RI (it : Nat -> It) (M : List Nd) (c : Nat) (any : Bool) : Prop where
 rest : ∀ ν ∈ M,ν.c ≠ c -> ∀ q : Nat,ν.up = (q : Int) -> q ≠ c -> ¬ (it ν.c).lt (it q)
 over : ∀ ν ∈ M,ν.up = (c : Int) -> ∀ μ ∈ M,μ.c = c -> ∀ q : Nat,μ.up = (q : Int) -> ¬ (it ν.c).lt (it q)
 down : any = false -> ∀ ν ∈ M,ν.up = (c : Int) -> ¬ (it ν.c).lt (it c)
theorem bh (it : Nat -> It) {c d : Nat} (h : c ≠ d) : swp it c d c = it d := by simp [swp,upd,h]
theorem bj (it : Nat -> It) (c d : Nat) : swp it c d d = it c := by simp [swp,upd]
theorem iQ (it : Nat -> It) {c d e : Nat} (h : e ≠ c) (j : e ≠ d) : swp it c d e = it e := by simp [swp,upd,h,j]
theorem eh {it : Nat -> It} {c d : Nat} {l : List Nat} (hn : l.Nodup) (t : c ∈ l) (hd : d ∈ l) (h : c ≠ d) : (l.map (swp it c d)).Perm (l.map it) := by
 have h1 : l.Perm (c :: d :: (l.erase c).erase d) := (List.perm_cons_erase t).trans ((List.perm_cons_erase ((List.mem_erase_of_ne (Ne.symm h)).2 hd)).cons c);have h2 : (c :: d :: (l.erase c).erase d).Nodup := h1.nodup_iff.1 hn;simp only [List.nodup_cons,iC,not_or] at h2;refine (h1.map _).trans (List.Perm.trans ?_ (h1.map _).symm);simp only [pC];rw [bh it h,bj];have : ((l.erase c).erase d).map (swp it c d) = ((l.erase c).erase d).map it := List.map_congr_left fun e he => iQ it (fun j => h2.1.2 (j ▸ he)) (fun j => h2.2.1 (j ▸ he))
 rw [this];exact List.Perm.swap ..
theorem AU {M : List Nd} {ν μ : Nd} (u : ν ∈ M) (t : μ ∈ M) (h : ν.c ≠ μ.c) : ∃ j,M.Perm (ν :: μ :: j) := by
 obtain ⟨p,q,rfl⟩ := List.append_of_mem u;have hp : (p ++ ν :: q).Perm (ν :: (p ++ q)) := List.perm_middle;rcases List.mem_cons.1 (hp.mem_iff.1 t) with e | hm
 ·exact absurd (e ▸ rfl) h
 ·obtain ⟨p',x,e⟩ := List.append_of_mem hm;exact ⟨p' ++ x,hp.trans (by rw [e]; exact List.perm_middle.cons ν)⟩
section
variable {κ : Cfg} {N : List Nd} {L : Heap} {b : Bool}
theorem A7 (any : Bool) (M : List Nd) (hU : UpOK M) (R : Int) (hR : ∀ ν ∈ M,ν.rank <= R) : ∀ (d : Nat) {it : Nat -> It} {n : Nat} {a : za} (H : Hp κ n a it (M ++ N) L) (ν : Nd),ν ∈ M -> R - ν.rank <= d -> ∀ (m : Nat) (U : Int),d + 10 < m -> 0 <= U -> U + d <= κ.C -> RI it M ν.c any ->
  Do (vH any m (ν.c : Int) U a) fun r => ∃ μ it' a',r = ((μ.c : Int),a') /\ μ ∈ M /\ Hp κ (n + 13 * d + 7) a' it' (M ++ N) L /\ it' μ.c = it ν.c /\ (∀ c,c ∉ M.map Nd.c -> it' c = it c) /\ ((M.map Nd.c).map it').Perm ((M.map Nd.c).map it) /\ (any = false -> Ord it' M) /\ (any = true -> μ.up = -1 /\ RI it' M μ.c true) := by
 intro d;induction d with
 | zero =>
  intro it n a H ν A hd m U hm a8 hk z;obtain ⟨m,rfl⟩ : ∃ q,m = q + 1 := ⟨m - 1,by omega⟩
  have u : ν.up = -1 := by
   rcases (hU ν A).2 with h | ⟨μ,B,h1,h2⟩
   ·exact h
   ·have := hR μ B; omega
  have I : ν ∈ M ++ N := mL _ A;rw [vH];refine Do.tb (bne_iff_ne.2 (by omega)) ?_;refine Do.assoc (Do.seq (Ar.cells H) ?_);refine Do.seq rfl (Do.t (dT (by omega)) ?_);refine (H.getc I (f := 0) (v := ν.up) (by omega) (by omega)).bind ?_;rintro _ ⟨a1,rfl,H1⟩;refine Do.tb (by simp [u]) ?_;refine Do.seq rfl (Do.t rfl ?_);refine ⟨_,rfl,ν,it,a1,rfl,A,H1.mono (by omega),rfl,fun _ _ => rfl,.refl _,fun ha => ?_,fun ha => ⟨u,ha ▸ z⟩⟩;intro D j q hq;by_cases h1 : D.c = ν.c
  ·have := H.same (mL _ j) I h1;subst this; omega
  ·by_cases h2 : q = ν.c
   ·rw [h2] at hq ⊢; exact z.down ha D j hq
   ·exact z.rest D j h1 q hq h2
 | succ d ih =>
  intro it n a H ν A hd m U hm a8 hk z;obtain ⟨m,rfl⟩ : ∃ q,m = q + 1 := ⟨m - 1,by omega⟩
  have I : ν ∈ M ++ N := mL _ A;have b4 := H.cap;rw [vH];refine Do.tb (bne_iff_ne.2 (by omega)) ?_;refine Do.assoc (Do.seq (Ar.cells H) ?_);refine Do.seq rfl (Do.t (dT (by omega)) ?_);rcases (hU ν A).2 with u | ⟨μ,B,u,a9⟩
  ·refine (H.getc I (f := 0) (v := ν.up) (by omega) (by omega)).bind ?_;rintro _ ⟨a1,rfl,H1⟩;refine Do.tb (by simp [u]) ?_;refine Do.seq rfl (Do.t rfl ?_);refine ⟨_,rfl,ν,it,a1,rfl,A,H1.mono (by omega),rfl,fun _ _ => rfl,.refl _,fun ha => ?_,fun ha => ⟨u,ha ▸ z⟩⟩;intro D j q hq;by_cases h1 : D.c = ν.c
   ·have := H.same (mL _ j) I h1;subst this; omega
   ·by_cases h2 : q = ν.c
    ·rw [h2] at hq ⊢; exact z.down ha D j hq
    ·exact z.rest D j h1 q hq h2
  ·have mμ : μ ∈ M ++ N := mL _ B;have c2 := H.lt mμ;have x : ν.c ≠ μ.c := fun e => by
    have := H.same I mμ e;rw [this] at a9; omega
   refine (H.getc I (f := 0) (v := ν.up) (by omega) (by omega)).bind ?_;rintro _ ⟨a1,rfl,H1⟩;refine Do.fb (by simp [u]) ?_;have go : ∀ {n' : Nat} {a2 : za} (W : Hp κ n' a2 it (M ++ N) L),n' <= n + 7 -> (any = false -> (it ν.c).lt (it μ.c)) ->
     Do ((rX a2 (ν.c : Int) (μ.c : Int)).bind fun b3 => vH any m (μ.c : Int) (w64 (U + 1)) b3) fun r => ∃ μ it' a',r = ((μ.c : Int),a') /\ μ ∈ M /\ Hp κ (n + 13 * (d + 1) + 7) a' it' (M ++ N) L /\ it' μ.c = it ν.c /\ (∀ c,c ∉ M.map Nd.c -> it' c = it c) /\ ((M.map Nd.c).map it').Perm ((M.map Nd.c).map it) /\ (any = false -> Ord it' M) /\ (any = true -> μ.up = -1 /\ RI it' M μ.c true) := by
    intro n' a2 W c3 O;obtain ⟨M',Z⟩ := AU A B x;have H3 : Hp κ n' a2 it (ν :: μ :: (M' ++ N)) L := W.p (Z.append_right N);refine (pU H3).bind ?_;intro a3 H4;have H5 : Hp κ (n' + 6) a3 (swp it ν.c μ.c) (M ++ N) L := H4.p (Z.append_right N).symm;have same : ∀ ξ ∈ M,∀ ζ ∈ M,ξ.c = ζ.c -> ξ = ζ := fun ξ y ζ F e => H.same (mL _ y) (mL _ F) e
    have par : ∀ ξ ∈ M,∀ q : Nat,ξ.up = (q : Int) -> ∃ ζ ∈ M,ζ.c = q /\ ξ.rank < ζ.rank := by
     intro ξ y q hq;rcases (hU ξ y).2 with h | ⟨ζ,F,h1,h2⟩
     ·omega
     ·exact ⟨ζ,F,by omega,h2⟩
    have a6 : RI (swp it ν.c μ.c) M μ.c any := by
     refine ⟨?_,?_,?_⟩
     ·intro ξ y h1 q hq h2;have h3 : ξ.c ≠ ν.c := fun e => by
       have := same ξ y ν A e;subst this; omega
      rw [iQ it h3 h1];by_cases h4 : q = ν.c
      ·rw [h4,bh it x];rw [h4] at hq;exact z.over ξ y hq ν A rfl μ.c u
      ·rw [iQ it h4 h2];exact z.rest ξ y h3 q hq h4
     ·intro ξ y h1 S b0 e q hq;have := same S b0 μ B e;subst this;obtain ⟨ζ,F,e1,h2⟩ := par S B q hq;have q1 : q ≠ S.c := fun X => by
       have := same ζ F S B (by omega);subst this; omega
      have q2 : q ≠ ν.c := fun X => by
       have := same ζ F ν A (by omega);subst this; omega
      rw [iQ it q2 q1];have h3 := z.rest S B (Ne.symm x) q hq q2;by_cases h4 : ξ.c = ν.c
      ·rw [h4,bh it x]; exact h3
      ·have Y : ξ.c ≠ S.c := fun X => by
        have := same ξ y S B X;subst this;obtain ⟨ζ,F,e1,h2⟩ := par ξ y ξ.c h1;have := same ζ F ξ y e1;subst this; omega
       rw [iQ it h4 Y];exact It.le_trans h3 (z.rest ξ y h4 S.c h1 (Ne.symm x))
     ·intro ha ξ y h1;rw [bj];by_cases h4 : ξ.c = ν.c
      ·rw [h4,bh it x]; exact It.lt_asymm (O ha)
      ·have Y : ξ.c ≠ μ.c := fun X => by
        have := same ξ y μ B X;subst this;obtain ⟨ζ,F,e1,h2⟩ := par ξ y ξ.c h1;have := same ζ F ξ y e1;subst this; omega
       rw [iQ it h4 Y];exact It.le_trans (It.lt_asymm (O ha)) (z.rest ξ y h4 μ.c h1 (Ne.symm x))
    have := ih H5 μ B (by omega) m (w64 (U + 1)) (by omega) (by rw [zV (by omega) (by omega)]; omega) (by rw [zV (by omega) (by omega)]; omega) a6;refine this.mono ?_;rintro _ ⟨μ2,b1,a4,rfl,h1,h2,h3,h4,Y,h6,h7⟩;refine ⟨μ2,b1,a4,rfl,h1,h2.mono (by omega),by rw [h3,bj],?_,?_,h6,h7⟩
    ·intro c J;rw [h4 c J];exact iQ it (fun e => J (e ▸ List.mem_map_of_mem A)) (fun e => J (e ▸ List.mem_map_of_mem B))
    ·refine Y.trans (eh ?_ (List.mem_map_of_mem A) (List.mem_map_of_mem B) x);have := H.nd;rw [List.map_append] at this;exact (List.nodup_append.1 this).1
   rw [u];cases any with
   | true =>
    refine Do.fb rfl ?_;refine Do.seq rfl (Do.f rfl ?_);exact go H1 (by omega) (fun h => by cases h)
   | false =>
    refine Do.tb rfl ?_;refine Do.assoc ((H1.before (k := m) (by omega) I mμ).bind ?_);rintro _ ⟨a2,rfl,W⟩;refine Do.seq rfl ?_;by_cases J : (it ν.c).lt (it μ.c)
    ·refine Do.f (by simp [J]) ?_;exact go W (by omega) (fun _ => J)
    ·refine Do.t (by simp [J]) ?_;refine ⟨_,rfl,ν,it,a2,rfl,A,W.mono (by omega),rfl,fun _ _ => rfl,.refl _,fun ha => ?_,fun ha => by cases ha⟩;intro D j q hq;by_cases h1 : D.c = ν.c
     ·have := H.same (mL _ j) I h1;subst this;have : q = μ.c := by omega
      subst this; exact J
     ·by_cases h2 : q = ν.c
      ·rw [h2] at hq ⊢; exact z.down ha D j hq
      ·exact z.rest D j h1 q hq h2
theorem ng {k : Nat} (any : Bool) (M : List Nd) (j : UpOK M) (R : Nat) (x : ∀ ν ∈ M,ν.rank <= R) {it : Nat -> It} {n : Nat} {a : za} (H : Hp κ n a it (M ++ N) L) (ν : Nd) (e : ν ∈ M) (hk : R + 10 < k) (hC : R <= κ.C) (u : RI it M ν.c any) :
  Do (tL k a ((it ν.c).i : Int) any) fun r => ∃ μ it' a',r = ((μ.c : Int),a') /\ μ ∈ M /\ Hp κ (n + 13 * R + 8) a' it' (M ++ N) L /\ it' μ.c = it ν.c /\ (∀ c,c ∉ M.map Nd.c -> it' c = it c) /\ ((M.map Nd.c).map it').Perm ((M.map Nd.c).map it) /\ (any = false -> Ord it' M) /\ (any = true -> μ.up = -1 /\ RI it' M μ.c true) := by
 unfold tL uf;have t : ν ∈ M ++ N := mL _ e;refine Do.assoc ((Ar.cell H (H.item t) (f := 9) (v := (ν.c : Int)) rfl (by omega) (by have := H.lt t; omega)).bind ?_);rintro _ ⟨a1,rfl,H1⟩;have h0 := (j ν e).1;refine Do.seq rfl ?_;refine (A7 any M j R x R (N := N) H1 ν e (by omega) k 0 hk (by omega) (by omega) u).bind ?_;rintro _ ⟨μ,it',a2,rfl,h1,h2,h3⟩;exact ⟨_,rfl,μ,it',a2,rfl,h1,h2.mono (by omega),h3⟩
end
end
noncomputable section
set_option maxRecDepth 10000
def dz (b : Bool) : List Tr -> Prop
 | [] => True
 | t :: r => r.Pairwise (fun s u => s.r < u.r) /\ (∀ s ∈ r,t.r <= s.r) /\ (b = false -> ∀ s ∈ r,t.r < s.r)
theorem dz.of {b : Bool} {l : List Tr} (h : l.Pairwise fun s u => s.r < u.r) : dz b l := by
 cases l with
 | nil => trivial
 | cons t r =>
  obtain ⟨h1,h2⟩ := List.pairwise_cons.1 h;exact ⟨h2,fun s hs => Nat.le_of_lt (h1 s hs),fun _ => h1⟩
theorem fZ {R : Nat} {l : List Tr} (h : l.Pairwise fun s u => s.r < u.r) (e : ∀ t ∈ l,t.r < R) : l.length <= R := by
 have h1 : (l.map Tr.r).Nodup := by
  refine List.pairwise_map.2 (h.imp fun {x y} h => ?_);omega
 have := qQ (m := List.range R) h1 (by
  intro x j;obtain ⟨t,ht,rfl⟩ := List.mem_map.1 j;exact List.mem_range.2 (e t ht))
 simpa using this
structure HB (b : Bool) (it : Nat -> It) (f : F) : Prop where
 good : ∀ t ∈ f.trees,GT b it t
 row : dz b f.trees
theorem pe : ∀ {f : F} {t : Tr},t ∈ f.trees -> t.kids.size + 1 <= f.size
 | .nil,t,h => by simp [F.trees] at h
 | .cons c r kids rest,t,h => by
  rw [F.trees] at h;rcases List.mem_cons.1 h with rfl | h
  ·simp only [F.size]; omega
  ·have := pe h;simp only [F.size]; omega
theorem HB.lt {b : Bool} {it : Nat -> It} {f : F} (h : HB b it f) {R : Nat} (e : f.size < 2 ^ R) : ∀ t ∈ f.trees,t.r < R := by
 intro t ht;have h1 := (h.good t ht).sk.size.1;have h2 := pe ht;exact (Nat.pow_lt_pow_iff_right (a := 2) (by decide)).1 (by omega)
theorem HB.len {b : Bool} {it : Nat -> It} {f : F} (h : HB b it f) {R : Nat} (j : f.size < 2 ^ R) : f.len <= R + 1 := by
 have h1 := h.lt j;have h2 := h.row;unfold F.len;cases e : f.trees with
 | nil => simp
 | cons t r =>
  rw [e] at h1 h2;have := fZ h2.1 (fun s hs => h1 s (mC _ hs));simp only [lC]; omega
theorem HB.lenB {it : Nat -> It} {f : F} (h : HB false it f) {R : Nat} (j : f.size < 2 ^ R) : f.len <= R := by
 have h1 := h.lt j;have h2 := h.row;unfold F.len;cases e : f.trees with
 | nil => simp
 | cons t r =>
  rw [e] at h1 h2;exact fZ (List.pairwise_cons.2 ⟨h2.2.2 rfl,h2.1⟩) h1
theorem HB.nil {b : Bool} {it : Nat -> It} : HB b it .nil := ⟨by simp [F.trees],trivial⟩
theorem HB.congr {b : Bool} {it it' : Nat -> It} {f : F} (h : HB b it f) (j : ∀ c ∈ f.cells,it' c = it c) : HB b it' f := by
 refine ⟨fun t ht => ⟨(h.good t ht).sk,?_⟩,h.row⟩;have h1 := (h.good t ht).ord;have x : ∀ c ∈ t.cells,c ∈ f.cells := fun c j => by rw [F.xk]; exact List.mem_flatMap.2 ⟨t,ht,j⟩
 have D : ∀ (g : F) (q : Nat),(∀ c ∈ g.cells,it' c = it c) -> it' q = it q -> Ord it (nd g (q : Int)) -> Ord it' (nd g (q : Int)) := by
  intro g;induction g with
  | nil => intro q _ _ _ ν e; simp [nd] at e
  | cons c r kids rest i1 i2 =>
   intro q A hq B;have hk : ∀ d ∈ kids.cells,it' d = it d := fun d hd => A d (by rw [F.cells]; exact mC _ (mL _ hd))
   have hr : ∀ d ∈ rest.cells,it' d = it d := fun d hd => A d (by rw [F.cells]; exact mC _ (List.mem_append_right _ hd))
   have j : it' c = it c := A c (by rw [F.cells]; exact List.mem_cons_self ..);intro ν e y u;rw [nd] at e;rcases List.mem_cons.1 e with rfl | e
   ·simp only at u ⊢;have : y = q := by omega
    subst this;rw [j,hq];exact B _ (List.mem_cons_self ..) y rfl
   ·rcases List.mem_append.1 e with e | e
    ·exact i1 c hk j (B.sub fun ν h => mC _ (mL _ h)) ν e y u
    ·exact i2 q hr hq (B.sub fun ν h => mC _ (List.mem_append_right _ h)) ν e y u
 exact D t.kids t.c (fun c z => j c (x c (mC _ z))) (j _ (x _ (List.mem_cons_self ..))) h1
theorem upok : ∀ {b : Bool} (f : F) (up : Int),(∀ t ∈ f.trees,SK b t.kids t.r) -> ∀ ν ∈ nd f up,0 <= ν.rank /\ ((ν.up = up /\ ∃ t ∈ f.trees,ν.rank = t.r /\ ν.c = t.c) \/ ∃ μ ∈ nd f up,ν.up = (μ.c : Int) /\ ν.rank < μ.rank)
 | b,.nil,up,h,ν,e => by simp [nd] at e
 | b,.cons c r kids rest,up,h,ν,e => by
  have hh := h ⟨c,r,kids⟩ (by simp [F.trees]);rw [nd] at e;rcases List.mem_cons.1 e with rfl | e
  ·exact ⟨by simp only; omega,Or.inl ⟨rfl,⟨c,r,kids⟩,by simp [F.trees],rfl,rfl⟩⟩
  ·rcases List.mem_append.1 e with e | e
   ·obtain ⟨h0,h1⟩ := upok (b := b) kids c (fun t ht => (nR hh t ht).1) ν e;refine ⟨h0,Or.inr ?_⟩;rcases h1 with ⟨h1,t,ht,h2,_⟩ | ⟨μ,j,h1⟩
    ·have : t.r < r := (nR hh t ht).2;exact ⟨_,List.mem_cons_self ..,h1,by simp only; omega⟩
    ·exact ⟨μ,mC _ (mL _ j),h1⟩
   ·obtain ⟨h0,h1⟩ := upok (b := b) rest up (fun t ht => h t (by simp [F.trees,ht])) ν e;refine ⟨h0,?_⟩;rcases h1 with ⟨h1,t,ht,h2⟩ | ⟨μ,j,h1⟩
    ·exact Or.inl ⟨h1,t,by simp [F.trees,ht],h2⟩
    ·exact Or.inr ⟨μ,mC _ (List.mem_append_right _ j),h1⟩
theorem nO : ∀ {b : Bool} (f : F) (up : Int),(∀ t ∈ f.trees,SK b t.kids t.r) -> ∀ ν ∈ nd f up,∃ t ∈ f.trees,ν.rank <= t.r
 | b,.nil,up,h,ν,e => by simp [nd] at e
 | b,.cons c r kids rest,up,h,ν,e => by
  have hh := h ⟨c,r,kids⟩ (by simp [F.trees]);rw [nd] at e;rcases List.mem_cons.1 e with rfl | e
  ·exact ⟨⟨c,r,kids⟩,by simp [F.trees],Int.le_refl _⟩
  ·rcases List.mem_append.1 e with e | e
   ·obtain ⟨t,ht,h1⟩ := nO (b := b) kids c (fun t ht => (nR hh t ht).1) ν e;have : t.r < r := (nR hh t ht).2;exact ⟨⟨c,r,kids⟩,by simp [F.trees],by simp only; omega⟩
   ·obtain ⟨t,ht,h1⟩ := nO (b := b) rest up (fun t ht => h t (by simp [F.trees,ht])) ν e;exact ⟨t,by simp [F.trees,ht],h1⟩
theorem HB.upOK {b : Bool} {it : Nat -> It} {f : F} (h : HB b it f) : UpOK (nd f (-1)) := by
 intro ν e;obtain ⟨h0,h1⟩ := upok f (-1) (fun t ht => (h.good t ht).sk) ν e;refine ⟨h0,?_⟩;rcases h1 with ⟨h1,_⟩ | h1
 ·exact Or.inl h1
 ·exact Or.inr h1
theorem HB.ord {b : Bool} {it : Nat -> It} {f : F} (h : HB b it f) : Ord it (nd f (-1)) := cJ fun t ht => (h.good t ht).ord
theorem Ord.lower {it : Nat -> It} {M : List Nd} {c : Nat} {x : It} (h : Ord it M) (A : ¬ (it c).lt x) (y : ∀ ν ∈ M,∀ μ ∈ M,ν.c = μ.c -> ν = μ) (j : ∀ ν ∈ M,ν.up ≠ (ν.c : Int)) : RI (upd it c x) M c false := by
 refine ⟨?_,?_,?_⟩
 ·intro ν t h1 q hq h2;rw [ub _ _ h1,ub _ _ h2]; exact h ν t q hq
 ·intro ν t h1 μ z e q hq;have h2 : ν.c ≠ c := fun u => by
   have := j ν t;rw [u] at this; exact this h1
  have h3 : q ≠ c := fun u => by
   have := j μ z;rw [e,<- u] at this; exact this hq
  rw [ub _ _ h2,ub _ _ h3];have := h μ z q hq;rw [e] at this;exact It.le_trans this (h ν t c h1)
 ·intro _ ν t h1;have h2 : ν.c ≠ c := fun u => by
   have := j ν t;rw [u] at this; exact this h1
  rw [ub _ _ h2,uQ];exact fun h3 => h ν t c h1 (It.fQ h3 A)
theorem Ord.any {it : Nat -> It} {M : List Nd} {c : Nat} (h : Ord it M) : RI it M c true := by
 refine ⟨fun ν j h1 q hq h2 => h ν j q hq,fun ν j h1 μ t e q hq => ?_,fun h => by cases h⟩;have := h μ t q hq;rw [e] at this;exact It.le_trans this (h ν j c h1)
theorem UpOK.self {M : List Nd} (h : UpOK M) (hs : ∀ ν ∈ M,∀ μ ∈ M,ν.c = μ.c -> ν = μ) : ∀ ν ∈ M,ν.up ≠ (ν.c : Int) := by
 intro ν j e;rcases (h ν j).2 with h1 | ⟨μ,t,h1,h2⟩
 ·omega
 ·have := hs μ t ν j (by omega);subst this; omega
theorem bY : ∀ (f : F) (up : Int),∀ ν ∈ nd f up,ν.c ∈ f.cells /\ (ν.up = up \/ ∃ d ∈ f.cells,ν.up = (d : Int))
 | .nil,up,ν,e => by simp [nd] at e
 | .cons c r kids rest,up,ν,e => by
  rw [nd] at e;rw [F.cells];rcases List.mem_cons.1 e with rfl | e
  ·exact ⟨List.mem_cons_self ..,Or.inl rfl⟩
  ·rcases List.mem_append.1 e with e | e
   ·obtain ⟨h1,h2⟩ := bY kids c ν e;refine ⟨mC _ (mL _ h1),Or.inr ?_⟩;rcases h2 with h2 | ⟨d,hd,h2⟩
    ·exact ⟨c,List.mem_cons_self ..,h2⟩
    ·exact ⟨d,mC _ (mL _ hd),h2⟩
   ·obtain ⟨h1,h2⟩ := bY rest up ν e;refine ⟨mC _ (List.mem_append_right _ h1),?_⟩;rcases h2 with h2 | ⟨d,hd,h2⟩
    ·exact Or.inl h2
    ·exact Or.inr ⟨d,mC _ (List.mem_append_right _ hd),h2⟩
theorem gM {f : F} {up : Int} : ∀ {t : Tr},t ∈ f.trees -> ∀ ν ∈ nd t.kids t.c,ν ∈ nd f up := by
 intro t ht ν e;rw [vk f up];rw [<- xK f up] at ht;obtain ⟨l,hl,rfl⟩ := List.mem_map.1 ht;exact List.mem_flatMap.2 ⟨l,hl,by rw [jT]; exact mC _ e⟩
section
variable {κ : Cfg} {n : Nat} {a : za} {it : Nat -> It} {N : List Nd} {L : Heap} {b : Bool}
theorem rC {f : F} (H : Hp κ n a it (nd f (-1) ++ N) L) : 2 * f.size + 2 * N.length + L.length <= κ.C := by
 have := H.room;rw [lA,qP] at this; omega
theorem oC {k : Nat} {f : F} (H : Hp κ n a it N L) (hs : ∀ ν ∈ nd f (-1),ν ∈ N) (A : HB b it f) {t0 : Tr} {u : List Tr} (e : f.trees = t0 :: u) (hk : 95000 < k) (hl : f.len < 90000) :
  Do (vS k a (cs f.trees)) fun res => ∃ t a',t ∈ f.trees /\ res = ((t.c : Int),a') /\ Hp κ (n + 6 * f.len) a' it N L /\ ∀ d ∈ f.cells,¬ (it d).lt (it t.c) := by
 have hz : cs f.trees = zl (t0.c :: u.map Tr.c) := by rw [e]; simp [cs,zl]
 have hlen : f.len = u.length + 1 := by unfold F.len; rw [e]; rfl
 rw [hz];have z : ∀ d ∈ t0.c :: u.map Tr.c,∃ ν ∈ N,ν.c = d := by
  intro d hd;have : d ∈ f.trees.map Tr.c := by rw [e]; exact hd
  rw [<- xK f (-1),List.map_map] at this;obtain ⟨l,hl,rfl⟩ := List.mem_map.1 this;exact ⟨l.top,hs _ (by rw [vk]; exact lL hl),rfl⟩
 refine (dH t0.c (u.map Tr.c) z (by simp; omega) (by simp; omega) H).mono ?_;rintro _ ⟨a1,rfl,H1⟩;rw [lM] at H1;have x : bst it t0.c (u.map Tr.c) ∈ f.trees.map Tr.c := by
  rw [e];rcases gu (it := it) (u.map Tr.c) t0.c with h | h
  ·rw [h]; exact List.mem_cons_self ..
  ·exact mC _ h
 obtain ⟨t,ht,y⟩ := List.mem_map.1 x;have j := gv (it := it) (u.map Tr.c) t0.c;rw [<- y] at j;refine ⟨t,a1,ht,by rw [y],H1.mono (by omega),fun d hd => ?_⟩;rw [F.xk] at hd;obtain ⟨s,hs',hd⟩ := List.mem_flatMap.1 hd;have h1 := (A.good s hs').least d hd;refine It.le_trans ?_ h1;rw [e] at hs';rcases List.mem_cons.1 hs' with rfl | hs'
 ·exact j.1
 ·exact j.2 _ (List.mem_map_of_mem hs')
theorem jv {M : List Nd} (H : Hp κ n a it (M ++ N) L) : ∀ ν ∈ M,∀ μ ∈ M,ν.c = μ.c -> ν = μ := fun ν t μ j e => H.same (mL _ t) (mL _ j) e
theorem rR {f : F} {up : Int} {c : Nat} (h : c ∈ f.cells) : ∃ ν ∈ nd f up,ν.c = c := by
 rw [<- xr f up] at h;obtain ⟨ν,e,rfl⟩ := List.mem_map.1 h;exact ⟨ν,e,rfl⟩
theorem size_le {f : F} (H : Hp κ n a it (nd f (-1) ++ N) L) (e : 0 < f.size) (u : ∀ t ∈ f.trees,SK b t.kids t.r) : ∃ R,(∀ t ∈ f.trees,t.r <= R) /\ R <= κ.C /\ (∀ Q,f.size < 2 ^ Q -> R < Q) := by
 have j := rC H;have : ∀ l : List Tr,(∀ t ∈ l,2 ^ t.r <= f.size) -> ∃ R,(∀ t ∈ l,t.r <= R) /\ 2 ^ R <= f.size := by
  intro l;induction l with
  | nil => intro _; exact ⟨0,by simp,by rw [Nat.pow_zero]; exact e⟩
  | cons t l ih =>
   intro h;obtain ⟨R,h1,h2⟩ := ih fun s hs => h s (mC _ hs)
   by_cases c : t.r <= R
   ·exact ⟨R,fun s hs => by
     rcases List.mem_cons.1 hs with rfl | hs
     ·exact c
     ·exact h1 s hs,h2⟩
   ·exact ⟨t.r,fun s hs => by
     rcases List.mem_cons.1 hs with rfl | hs
     ·exact Nat.le_refl _
     ·exact Nat.le_trans (h1 s hs) (by omega),h t (List.mem_cons_self ..)⟩
 obtain ⟨R,h1,h2⟩ := this f.trees fun t ht => by
  have x := (u t ht).size.1;have y := pe ht;omega
 refine ⟨R,h1,?_,fun Q z => (Nat.pow_lt_pow_iff_right (a := 2) (by decide)).1 (by omega)⟩;have : R < 2 ^ R := Nat.lt_two_pow_self;omega
theorem ib (s t : List Tr) : cs (s ++ t) = cs s ++ cs t := List.map_append
theorem rT {f : F} {p q : List Tr} {t : Tr} (e : f.trees = p ++ t :: q) : f.cells.Perm (t.c :: (TC (p ++ q) ++ t.kids.cells)) := by
 rw [F.xk,e];refine cpm fun P => ?_
 simp only [uA,qH,Tr.cells,List.countP_append,List.countP_cons,List.cons_append];omega
theorem iK {b : Bool} {it' : Nat -> It} {f : F} {t : Tr} {p q : List Tr} (hn : f.cells.Nodup) (D : HB b it f) (e : f.trees = p ++ t :: q) (J : RI it' (nd f (-1)) t.c true) :
  (∀ s ∈ p ++ q,GT b it' s) /\ (∀ s ∈ t.kids.trees,GT b it' s) := by
 rw [F.xk,e] at hn;have B : (t.c :: (TC (p ++ q) ++ t.kids.cells)).Nodup := by
  refine (List.Perm.nodup_iff (cpm fun P => ?_)).1 hn;simp only [uA,qH,Tr.cells,List.countP_append,List.countP_cons,List.cons_append]; omega
 obtain ⟨h1,h2⟩ := List.nodup_cons.1 B;have key : ∀ s : Tr,(∀ ν ∈ nd s.kids s.c,ν ∈ nd f (-1)) -> (∀ d ∈ s.cells,d ≠ t.c) -> Ord it' (nd s.kids s.c) := by
  intro s hs hd ν j q hq;obtain ⟨I,z⟩ := bY s.kids s.c ν j;refine J.rest ν (hs ν j) (hd _ (mC _ I)) q hq ?_;rcases z with z | ⟨d,A,z⟩
  ·have : q = s.c := by omega
   subst this; exact hd _ (List.mem_cons_self ..)
  ·have : q = d := by omega
   subst this; exact hd _ (mC _ A)
 refine ⟨fun s hs => ?_,fun s hs => ?_⟩
 ·have u : s ∈ f.trees := by rw [e]; rcases List.mem_append.1 hs with h | h <;> simp [h]
  refine ⟨(D.good s u).sk,key s (fun ν j => gM u ν j) fun d hd y => ?_⟩;exact h1 (y ▸ mL _ (List.mem_flatMap.2 ⟨s,hs,hd⟩))
 ·have x : t ∈ f.trees := by rw [e]; simp
  have gt := D.good t x;refine ⟨(nR gt.sk s hs).1,key s (fun ν j => gM x ν (gM hs ν j)) fun d hd y => ?_⟩;refine h1 (y ▸ List.mem_append_right _ ?_);rw [F.xk];exact List.mem_flatMap.2 ⟨s,hs,hd⟩
theorem cP {f : F} {μ : Nd} {b : Bool} (j : ∀ t ∈ f.trees,SK b t.kids t.r) (x : μ ∈ nd f (-1)) (u : μ.up = -1) : ∃ t ∈ f.trees,μ.c = t.c := by
 rcases (upok f (-1) j μ x).2 with ⟨_,t,ht,_,e⟩ | ⟨ξ,_,e,_⟩
 ·exact ⟨t,ht,e⟩
 ·omega
end
end
noncomputable section
set_option maxRecDepth 10000
section
variable {κ : Cfg} {n : Nat} {a : za} {it : Nat -> It} {N : List Nd} {L : Heap} {b : Bool}
namespace Bi
theorem tY (l : List Int) (v : Int) (hl : l.length < 100000) : ∀ (post pre : List Int) (m : Nat),post.length < m -> l = pre ++ post -> v ∉ pre ->
  (zY (l.length : Int) l v m (pre.length : Int) = some (.inr ()) /\ v ∉ post) \/ ∃ p q,l = p ++ v :: q /\ v ∉ p /\ zY (l.length : Int) l v m (pre.length : Int) = some (.inl (p.length : Int))
 | [],pre,m,hm,e,hv => by
  obtain ⟨m,rfl⟩ : ∃ q,m = q + 1 := ⟨m - 1,by simp at hm; omega⟩
  left
  rw [zY,dF (by rw [e]; simp)];exact ⟨rfl,by simp⟩
 | x :: post,pre,m,hm,e,hv => by
  obtain ⟨m,rfl⟩ : ∃ q,m = q + 1 := ⟨m - 1,by simp at hm; omega⟩
  simp only [lC] at hm;have hlen : pre.length < 100000 := by have := congrArg List.length e; simp at this; omega
  have t : mIdx l (pre.length : Int) = some x := by rw [e]; exact yv ..
  rw [zY,dT (by rw [e]; simp; omega),t];simp only [cT,bS,wQ];by_cases h : x = v
  ·subst h
   right
   refine ⟨pre,post,e,hv,?_⟩;simp
  ·have u : (x == v) = false := by simpa using h
   rw [u,cF,zV (by omega) (by omega)];have := tY l v hl post (pre ++ [x]) m (by omega) (by rw [e]; simp) (by simp [hv]; exact fun e => h e.symm);have j : ((pre ++ [x]).length : Int) = (pre.length : Int) + 1 := by simp
   rw [j] at this;rcases this with ⟨h1,h2⟩ | h1
   ·exact Or.inl ⟨h1,by simp [h2]; exact fun e => h e.symm⟩
   ·exact Or.inr h1
theorem th (v : Int) : ∀ (R A : List Int) (g : Int) (m : Nat),R.length < m -> A.length + R.length < 100000 -> v ∉ R ->
  Do (yl v m (A.length : Int) ((A.length : Int) + 1) (A ++ g :: R)) fun r => ∃ g',r = (((A ++ R).length : Int),(A ++ R) ++ [g'])
 | [],A,g,m,hm,j,hv => by
  obtain ⟨m,rfl⟩ : ∃ q,m = q + 1 := ⟨m - 1,by simp at hm; omega⟩
  rw [yl];refine Do.f (dF (by simp)) ?_;exact ⟨_,rfl,g,by simp⟩
 | x :: R,A,g,m,hm,j,hv => by
  obtain ⟨m,rfl⟩ : ∃ q,m = q + 1 := ⟨m - 1,by simp at hm; omega⟩
  simp only [lC] at hm j;simp only [iC,not_or] at hv;rw [yl];refine Do.t (dT (by simp; omega)) ?_;have y : mIdx (A ++ g :: x :: R) ((A.length : Int) + 1) = some x := by
   have := yv (A ++ [g]) R x;simpa using this
  refine Do.assoc (Do.seq y ?_);refine Do.assoc (Do.seq rfl ?_);refine Do.tb (by simp; exact fun e => hv.1 e.symm) ?_;refine Do.assoc (Do.seq (yv A (x :: R) g) ?_);refine Do.seq rfl ?_;have es : mSet (A ++ g :: x :: R) (A.length : Int) x = (A ++ [x]) ++ x :: R := by rw [si]; simp
  rw [es,zV (by omega) (by omega),zV (by omega) (by omega)];have := th v R (A ++ [x]) x m (by omega) (by simp; omega) hv.2;have u : ((A ++ [x]).length : Int) = (A.length : Int) + 1 := by simp
  rw [u] at this;refine this.mono ?_;rintro _ ⟨g',rfl⟩;exact ⟨g',by simp⟩
theorem sQ {k : Nat} (p q : List Int) (v : Int) (hp : v ∉ p) (hq : v ∉ q) (hl : (p ++ v :: q).length < 100000) (hk : (p ++ v :: q).length < k) :
  xv k (p ++ v :: q) v = some (p ++ q) := by
 unfold xv wk;rcases tY (p ++ v :: q) v hl (p ++ v :: q) [] k hk rfl (by simp) with ⟨_,h2⟩ | ⟨p',j,e,hv,h⟩
 ·simp at h2
 ·have t : p' = p /\ j = q := by
   clear h;have := congrArg (List.takeWhile (fun x => x != v)) e;have h1 : ∀ (p q : List Int),v ∉ p -> (p ++ v :: q).takeWhile (fun x => x != v) = p := by
    intro p q hp;rw [List.takeWhile_append_of_pos (by intro x B; simp; exact fun e => hp (e ▸ B))];simp
   rw [h1 p q hp,h1 p' j hv] at this;subst this;simpa using e.symm
  obtain ⟨rfl,rfl⟩ := t;have A : zY ((p' ++ v :: j).length : Int) (p' ++ v :: j) v k 0 = some (.inl (p'.length : Int)) := h;rw [A];simp only [bS];rw [show ((p'.length : Int) == -1) = false by simp,cF];simp only [lA,lC] at hl hk;rw [zV (by omega) (by omega)];obtain ⟨r,u,g',rfl⟩ := th v j p' v k (by omega) (by omega) hq;rw [u];simp only [bS];have y : mCut ((p' ++ j) ++ [g']) ((p' ++ j).length : Int) (((p' ++ j) ++ [g']).length : Int) = some [g'] := by
   rw [oR (by simp)];simp
  rw [y];simp only [bS];have z : mCut (qB ((p' ++ j) ++ [g']) ((p' ++ j).length : Int) 0) 0 ((p' ++ j).length : Int) = some (p' ++ j) := by
   unfold mCut qB;have : ((p' ++ j ++ [g']).length - ((p' ++ j).length : Int).toNat) = 1 := by simp only [lA,List.length_singleton]; omega
   rw [this];simp only [tN];rw [List.take_left' (l₁ := p' ++ j) rfl];rw [if_pos ⟨by omega,by omega,by simp; omega⟩];simp only [Int.toNat_zero,List.drop_zero];rw [List.take_left' (l₁ := p' ++ j) rfl]
  rw [z]
  rfl
theorem jD {k : Nat} {f : F} (H : Hp κ n a it (nd f (-1) ++ N) L) (D : HB b it f) (hk : 95000 < k) :
  Do (tV k a f.hd) fun res => ∃ a',Hp κ (n + 7 * f.len + 1) a' it (nd f (-1) ++ N) L /\ ((f = .nil /\ res = (-1,a')) \/ ∃ c ∈ f.cells,res = (((it c).i : Int),a') /\ ∀ d ∈ f.cells,¬ (it d).lt (it c)) := by
 unfold tV;have j : ∀ ν ∈ nd f (-1),ν ∈ nd f (-1) ++ N := fun ν h => mL _ h
 have z := rC H;have I := f.vX;have A := H.cap;refine (ug (k := k) H j (by omega) (by omega)).bind ?_;rintro _ ⟨a1,rfl,H1⟩;cases e : f.trees with
 | nil =>
  have : f = .nil := by
   cases f with
   | nil => rfl
   | cons => simp [F.trees] at e
  subst this;refine Do.seq (fq (by omega) a1) ?_;refine (H1.dL (c := -1) (by decide)).bind ?_;rintro _ ⟨a2,rfl,y⟩;exact ⟨_,rfl,a2,y.mono (by omega),Or.inl ⟨rfl,rfl⟩⟩
 | cons t0 J =>
  rw [<- e];refine (oC (k := k) H1 j D e hk (by omega)).bind ?_;rintro _ ⟨t,a2,ht,rfl,y,u⟩;have : t ∈ (f.loose (-1)).map Lt.t := by rw [xK]; exact ht
  obtain ⟨l,hl,rfl⟩ := List.mem_map.1 this;have x : l.top ∈ nd f (-1) ++ N := j _ (by rw [vk]; exact lL hl);refine (y.geti x).bind ?_;rintro _ ⟨a3,rfl,B⟩;refine ⟨_,rfl,a3,B.mono (by omega),Or.inr ⟨l.t.c,?_,rfl,u⟩⟩;rw [F.xk];exact List.mem_flatMap.2 ⟨l.t,ht,List.mem_cons_self ..⟩
theorem mQ {k : Nat} {f : F} {c : Nat} {x : It} (H : Hp κ n a (upd it c x) (nd f (-1) ++ N) L) (j : HB b it f) (y : c ∈ f.cells) (X : ¬ (it c).lt x) (hk : 70000 < k) {Q : Nat} (S : f.size < 2 ^ Q) (U : Q < 60) :
  Do (td k a f.hd (x.i : Int)) fun r => ∃ it' a',r = (f.hd,a') /\ Hp κ (n + 13 * Q + 8) a' it' (nd f (-1) ++ N) L /\ HB b it' f /\ (∀ d,d ∉ f.cells -> it' d = it d) /\ (f.cells.map it').Perm (f.cells.map (upd it c x)) := by
 unfold td;obtain ⟨ν,A,I⟩ := rR (up := -1) y;have hs := jv H;have u : 0 < f.size := by
  rw [<- F.vA]; exact List.length_pos_of_mem y
 have z := rC H;obtain ⟨R,h1,h2,h3⟩ := size_le (b := b) H u fun t ht => (j.good t ht).sk
 have W := h3 Q S;have O : RI (upd it c x) (nd f (-1)) ν.c false := by rw [I]; exact j.ord.lower X hs (j.upOK.self hs)
 have := ng (k := k) false (nd f (-1)) j.upOK R (fun ν A => by
  obtain ⟨t,ht,e⟩ := nO f (-1) (fun t ht => (j.good t ht).sk) ν A;have := h1 t ht; omega) H ν A (by omega) h2 O
 rw [I,uQ] at this;refine this.bind ?_;rintro _ ⟨μ,it',a1,rfl,Z,H1,Y,B,D,J,_⟩;rw [xr] at B D;refine ⟨_,rfl,it',a1,rfl,H1.mono (by omega),⟨fun t ht => ⟨(j.good t ht).sk,oV (J rfl) t ht⟩,j.row⟩,fun d hd => ?_,D⟩;rw [B d hd];exact ub _ _ (fun e => hd (e ▸ y))
theorem se {k : Nat} {f : F} {p q : List Tr} {t : Tr} (H : Hp κ n a it (nd f (-1) ++ N) L) (e : f.trees = p ++ t :: q) (hp : (t.c : Int) ∉ cs p) (hq : (t.c : Int) ∉ cs q)
  (U : ∀ s ∈ p ++ q,GT false it s) (y : ∀ s ∈ t.kids.trees,GT false it s) (hlen : (p ++ q).length + t.kids.len <= 20) (hk : 95000 < k) :
  Do (xM k a (cs f.trees) (t.c : Int)) fun r => ∃ u a',r = (u.hd,((it t.c).i : Int),a') /\ Hp κ (n + 4 + t.kids.len + 14 * ((p ++ q).length + t.kids.len)) a' it (nd u (-1) ++ N) (((it t.c).i,(it t.c).cell (-1)) :: L) /\ HB false it u /\ u.cells.Perm (TC (p ++ q) ++ t.kids.cells) := by
 unfold xM;have A := rC H;have B := H.cap;have x : (p ++ q).length <= 20 := by omega
 rw [lA] at x;rw [e,ib];refine Do.seq (sQ (cs p) (cs q) (t.c : Int) hp hq (by simp [cs]; omega) (by simp [cs]; omega)) ?_;obtain ⟨p',j,w,hl,rfl,rfl⟩ := og (f := f) (up := -1) e;have S : nd f (-1) = LN p' ++ ((⟨t,-1,w⟩ : Lt).top :: (nd t.kids t.c ++ LN j)) := by
  rw [vk,hl,vn,sN,jT]; simp
 have H1 : Hp κ n a it ((⟨t,-1,w⟩ : Lt).top :: (LN (p' ++ j ++ t.kids.loose t.c) ++ N)) L := H.p (npm fun P => by
  rw [S];simp only [vn,<- vk,List.countP_append,List.countP_cons]; omega)
 have W := t.kids.vX;have X : t.kids.size + 1 <= f.size := pe (f := f) (by rw [e]; simp);refine (im (k := k) (f := t.kids) H1 (List.mem_cons_self ..) rfl (fun μ Y => ?_) (by omega) (by omega)).bind ?_
 ·refine mC _ (mL _ ?_);rw [vn,<- vk];exact List.mem_append_right _ Y
 rintro _ ⟨a1,rfl,D⟩;refine Do.seq (xh (by simp [cs] at *; unfold F.len at hlen; omega)) ?_;refine (qs D).bind ?_;rintro _ ⟨a2,rfl,I⟩;have O : cs (p'.map Lt.t) ++ cs (j.map Lt.t) ++ cs t.kids.trees = lc (p' ++ j ++ t.kids.loose t.c) := by
  rw [vr,vr]; simp only [lc,xK]
 have z : (p' ++ j ++ t.kids.loose t.c).length = (p'.map Lt.t ++ j.map Lt.t).length + t.kids.len := by
  unfold F.len; rw [<- xK t.kids t.c]; simp [Nat.add_assoc]
 simp only [O];refine (rQ (b := false) (k := k) (by omega) (p' ++ j ++ t.kids.loose t.c) (by omega) I (by
  intro l hl;rcases List.mem_append.1 hl with hl | hl
  ·refine U l.t ?_;rw [<- List.map_append];exact List.mem_map_of_mem hl
  ·exact tC y l hl)).bind ?_
 rintro _ ⟨u,a3,rfl,J,g1,g2,g3⟩;refine ⟨_,rfl,u,a3,rfl,J.mono (by rw [z]; omega),⟨g1,.of g2⟩,g3.trans ?_⟩;rw [List.map_append,List.map_append,uA,xK,<- F.xk]
theorem jI {k : Nat} {f : F} (H : Hp κ n a it (nd f (-1) ++ N) L) (y : HB false it f) (B : f ≠ .nil) (hs : f.size < 1024) (hk : 95000 < k) :
  Do (tW k a f.hd) fun r => ∃ c x it' a',r = (x.hd,((it c).i : Int),a') /\ Hp κ (n + 500) a' it' (nd x (-1) ++ N) (((it c).i,(it c).cell (-1)) :: L) /\ HB false it' x /\ (f.cells.map it).Perm (it c :: x.cells.map it') /\ (∀ d,d ∉ f.cells -> it' d = it d) /\ c ∈ f.cells /\ ∀ d ∈ f.cells,¬ (it d).lt (it c) := by
 unfold tW;have j : ∀ ν ∈ nd f (-1),ν ∈ nd f (-1) ++ N := fun ν h => mL _ h
 have D := rC H;have W := f.vX;have O := H.cap;have J : f.size < 2 ^ 10 := by simpa using hs
 have hlen := y.lenB J;cases ef : f.trees with
 | nil =>
  cases f with
  | nil => exact absurd rfl B
  | cons => simp [F.trees] at ef
 | cons t0 Z =>
  have u : yr a f.hd = some true := by
   cases f with
   | nil => exact absurd rfl B
   | cons c r kids rest => exact H.live (j _ (List.mem_cons_self ..))
  refine Do.assoc (Do.seq u ?_);refine Do.seq rfl (Do.f rfl ?_);refine (ug (k := k) H j (by omega) (by omega)).bind ?_;rintro _ ⟨a1,rfl,H1⟩;refine (oC (k := k) H1 j y ef hk (by omega)).bind ?_;rintro _ ⟨t,a2,ht,rfl,I,A⟩;obtain ⟨p,q,e,hp,hq⟩ := pF I ht;have Y := y.lt J t ht;have U := (cZ (y.good t ht).sk).2 rfl;have X : (p ++ q).length + 1 = f.len := by unfold F.len; rw [e]; simp; omega
  refine (se (k := k) I e hp hq (fun s hs => y.good s (by rw [e]; rcases List.mem_append.1 hs with h | h <;> simp [h])) (y.good t ht).kids (by omega) hk).bind ?_;rintro _ ⟨x,a3,rfl,S,h1,h2⟩;have z := (rT e).trans (h2.symm.cons _);refine ⟨_,rfl,t.c,x,it,a3,rfl,S.mono (by omega),h1,?_,fun _ _ => rfl,z.mem_iff.2 (List.mem_cons_self ..),A⟩;have := z.map it
  rwa [pC] at this
theorem lu {k : Nat} {f : F} {x : It} (H : Hp κ n a it (nd f (-1) ++ N) ((x.i,x.cell (-1)) :: L)) (B : HB false it f) (hs : f.size < 1024) (hr : 2 * f.size + 2 * N.length + 1 + L.length < κ.C) (hk : 95000 < k) :
  Do (tf k a f.hd (x.i : Int)) fun r => ∃ j it' a',r = (j.hd,true,a') /\ Hp κ (n + 500) a' it' (nd j (-1) ++ N) L /\ HB false it' j /\ (j.cells.map it').Perm (x :: f.cells.map it) /\ ∀ ν ∈ N,it' ν.c = it ν.c := by
 unfold tf;have A := rC H;have Y := f.vX;have I := H.cap;have W : f.size < 2 ^ 10 := by simpa using hs
 have hlen := B.lenB W;refine (qt H (by rw [lA,qP]; omega)).bind ?_;rintro _ ⟨c,a1,rfl,H1,D⟩;refine Do.f rfl ?_;have t : c ∉ f.cells := fun h => by
  obtain ⟨ν,y,e⟩ := rR (up := -1) h;exact D ν (mL _ y) e
 have u : ∀ ν ∈ nd f (-1),ν ∈ (⟨c,-1,-1,-1,-1,0,0⟩ : Nd) :: (nd f (-1) ++ N) := fun ν h => mC _ (mL _ h)
 refine (ug (k := k) H1 u (by omega) (by omega)).bind ?_;rintro _ ⟨a2,rfl,J⟩;refine Do.seq (xh (by simp [cs] at *; unfold F.len at hlen; omega)) ?_;have z : HB false (upd it c x) f := B.congr fun d hd => ub _ _ (fun e => t (e ▸ hd))
 have U : ([(c : Int)] ++ cs f.trees : List Int) = lc ((⟨⟨c,0,.nil⟩,-1,-1⟩ : Lt) :: f.loose (-1)) := by
  rw [jy,lc,xK]; rfl
 have O : Hp κ (n + 3 + f.len) a2 (upd it c x) (LN ((⟨⟨c,0,.nil⟩,-1,-1⟩ : Lt) :: f.loose (-1)) ++ N) L := by
  rw [sN,<- vk]; exact J
 have X : ((⟨⟨c,0,.nil⟩,-1,-1⟩ : Lt) :: f.loose (-1)).length = f.len + 1 := by
  unfold F.len; rw [<- xK f (-1)]; simp
 simp only [U];refine (rQ (b := false) (k := k) (by omega) _ (by omega) O (by
  intro l hl;rcases List.mem_cons.1 hl with rfl | hl
  ·exact ⟨.nil,fun ν y => by simp [nd] at y⟩
  ·exact tC z.good l hl)).bind ?_
 rintro _ ⟨j,a3,rfl,S,g1,g2,g3⟩;refine ⟨_,rfl,j,upd it c x,a3,rfl,S.mono (by omega),⟨g1,.of g2⟩,?_,fun ν y => ub _ _ (D ν (List.mem_append_right _ y))⟩;rw [pC,qH,xK,<- F.xk] at g3;have h1 := g3.map (upd it c x);have h2 : f.cells.map (upd it c x) = f.cells.map it := List.map_congr_left fun d hd => ub _ _ fun e => t (e ▸ hd)
 have h3 : (Tr.cells ⟨c,0,.nil⟩ ++ f.cells).map (upd it c x) = x :: f.cells.map it := by
  rw [<- h2]; simp [Tr.cells,F.cells,uQ]
 rwa [h3] at h1
theorem tq {k : Nat} {f g : F} (H : Hp κ n a it (nd f (-1) ++ (nd g (-1) ++ N)) L) (hf : HB false it f) (B : HB false it g) (hs : f.size < 1024) (hs' : g.size < 1024) (hk : 95000 < k) :
  Do (te k a f.hd g.hd) fun r => ∃ x a',r = (x.hd,a') /\ Hp κ (n + 500) a' it (nd x (-1) ++ N) L /\ HB false it x /\ x.cells.Perm (f.cells ++ g.cells) := by
 unfold te;have u := rC H;rw [lA,qP] at u;have W := f.vX;have D := g.vX;have A := H.cap;have hlen := hf.lenB (R := 10) (by simpa using hs);have j := B.lenB (R := 10) (by simpa using hs');by_cases e : f.hd = g.hd
 ·have : f = .nil /\ g = .nil := by
   cases f with
   | nil =>
    cases g with
    | nil => exact ⟨rfl,rfl⟩
    | cons c r kids rest => simp only [F.hd] at e; omega
   | cons c r kids rest =>
    cases g with
    | nil => simp only [F.hd] at e; omega
    | cons c' r' y z =>
     simp only [F.hd] at e;have hn := H.nd;have : c = c' := by omega
     subst this;rw [nd,List.cons_append,pC,List.nodup_cons] at hn;exact absurd (by simp [nd]) hn.1
  obtain ⟨rfl,rfl⟩ := this;refine Do.t (by simp) ?_;exact ⟨_,rfl,.nil,a,rfl,H.mono (by omega),HB.nil,.refl _⟩
 ·refine Do.f (by simpa using e) ?_;refine (ug (k := k) H (fun ν h => mL _ h) (by omega) (by omega)).bind ?_;rintro _ ⟨a1,rfl,H1⟩;refine (ug (k := k) H1 (fun ν h => List.mem_append_right _ (mL _ h)) (by omega) (by omega)).bind ?_;rintro _ ⟨a2,rfl,I⟩;refine Do.seq (xh (by simp [cs] at *; unfold F.len at hlen j; omega)) ?_;have S : cs f.trees ++ cs g.trees = lc (f.loose (-1) ++ g.loose (-1)) := by
   rw [vr,lc,lc,xK,xK]
  have J : Hp κ (n + f.len + g.len) a2 it (LN (f.loose (-1) ++ g.loose (-1)) ++ N) L := by
   rw [vn,<- vk,<- vk,aA]; exact I
  have U : (f.loose (-1) ++ g.loose (-1)).length = f.len + g.len := by
   unfold F.len; rw [<- xK f (-1),<- xK g (-1)]; simp
  simp only [S];refine (rQ (b := false) (k := k) (by omega) _ (by omega) J (by
   intro l hl;rcases List.mem_append.1 hl with hl | hl
   ·exact tC hf.good l hl
   ·exact tC B.good l hl)).bind ?_
  rintro _ ⟨x,a3,rfl,O,g1,g2,g3⟩;refine ⟨_,rfl,x,a3,rfl,O.mono (by omega),⟨g1,.of g2⟩,g3.trans ?_⟩;rw [List.map_append,uA,xK,xK,<- F.xk,<- F.xk]
theorem tM {k : Nat} {f : F} {c : Nat} (H : Hp κ n a it (nd f (-1) ++ N) L) (j : HB false it f) (Y : c ∈ f.cells) (hs : f.size < 1024) (hk : 95000 < k) :
  Do (tU k a f.hd ((it c).i : Int)) fun r => ∃ it' u a',r = (u.hd,a') /\ Hp κ (n + 500) a' it' (nd u (-1) ++ N) (((it c).i,(it c).cell (-1)) :: L) /\ HB false it' u /\ (∀ d,d ∉ f.cells -> it' d = it d) /\ (f.cells.map it).Perm (it c :: u.cells.map it') /\ (∀ d ∈ u.cells,d ∈ f.cells) := by
 unfold tU uf;obtain ⟨ν,A,rfl⟩ := rR (up := -1) Y;have mν : ν ∈ nd f (-1) ++ N := mL _ A;have b4 := jv H;have y : 0 < f.size := by
  rw [<- F.vA]; exact List.length_pos_of_mem Y
 have I := rC H;have b1 := f.vX;have Z := H.cap;have D : f.size < 2 ^ 10 := by simpa using hs
 have hlen := j.lenB D;obtain ⟨R,h1,h2,h3⟩ := size_le (b := false) H y fun t ht => (j.good t ht).sk
 have a9 := h3 10 D;refine Do.assoc ((Ar.cell H (H.item mν) (f := 9) (v := (ν.c : Int)) rfl (by omega) (by have := H.lt mν; omega)).bind ?_);rintro _ ⟨a1,rfl,H1⟩;refine Do.seq rfl ?_;refine Do.f (by simp) ?_;have := ng (k := k) true (nd f (-1)) j.upOK R (fun ν A => by
  obtain ⟨t,ht,e⟩ := nO f (-1) (fun t ht => (j.good t ht).sk) ν A;have := h1 t ht; omega) (N := N) (L := L) H1 ν A (by omega) h2 j.ord.any
 refine this.bind ?_;rintro _ ⟨μ,it',a2,rfl,hμ,H2,B,U,W,_,e5⟩;obtain ⟨J,X⟩ := e5 rfl;rw [xr] at U W;obtain ⟨t,ht,et⟩ := cP (fun t ht => (j.good t ht).sk) hμ J;have z : ∀ ν ∈ nd f (-1),ν ∈ nd f (-1) ++ N := fun ν h => mL _ h
 refine (ug (k := k) H2 z (by omega) (by omega)).bind ?_;rintro _ ⟨a3,rfl,O⟩;rw [et] at X B ⊢;refine Do.seq (oE (cs f.trees) (t.c : Int) (by rw [oF]; unfold F.len at hlen; omega) (by rw [oF]; unfold F.len at hlen; omega) (List.mem_map.2 ⟨t,ht,rfl⟩)) ?_;refine Do.f rfl ?_;obtain ⟨p,q,e,hp,hq⟩ := pF O ht;have hn : f.cells.Nodup := by
  have := H.nd;rw [List.map_append,xr] at this;exact (List.nodup_append.1 this).1
 obtain ⟨g1,g2⟩ := iK hn j e X;have b3 := j.lt D t ht;have b0 := (cZ (j.good t ht).sk).2 rfl;have b2 : (p ++ q).length + 1 = f.len := by unfold F.len; rw [e]; simp; omega
 refine (se (k := k) O e hp hq g1 g2 (by omega) hk).bind ?_;rintro _ ⟨u,a4,rfl,S,h4,h5⟩;rw [B] at S;have x := (rT e).trans (h5.symm.cons _);refine ⟨_,rfl,it',u,a4,rfl,S.mono (by omega),h4,U,?_,fun d hd => x.mem_iff.2 (mC _ hd)⟩;refine W.symm.trans ?_;have := x.map it';rw [pC,B] at this;exact this
end Bi
end
end
noncomputable section
set_option maxRecDepth 10000
namespace Bi
def KH : KS := fun it M r => ∃ f : F,M = nd f (-1) /\ r = f.hd /\ HB false it f
section
variable {κ : Cfg} {n : Nat} {a : za} {L : Heap} {r : Int} {its : List It} {C : Heap}
theorem yB {it : Nat -> It} (f : F) (u : Int) : ((nd f u).map fun ν => it ν.c) = f.cells.map it := by rw [<- xr f u,List.map_map]; rfl
theorem uU {it : Nat -> It} {f : F} (h : its.Perm ((nd f (-1)).map fun ν => it ν.c)) : its.length = f.size := by rw [h.length_eq,lM,qP]
theorem cG : HK KH (-1) [] [] := ⟨fun _ => ⟨0,0,0⟩,[],⟨.nil,rfl,rfl,HB.nil⟩,.refl _,.refl _⟩
theorem iF {k : Nat} {x : It} (h : HK KH r its C) (H : Ar κ n a (C ++ ((x.i,x.cell (-1)) :: L))) (hr : 2 * its.length + 1 + L.length < κ.C) (hs : its.length < 1024) (hk : 95000 < k) :
  Do (tf k a r (x.i : Int)) fun res => ∃ r' C' a',res = (r',true,a') /\ HK KH r' (x :: its) C' /\ Ar κ (n + 500) a' (C' ++ L) := by
 obtain ⟨it,M,⟨f,rfl,rfl,u⟩,hC,e⟩ := h;have hl := uU e;have t : Hp κ n a it (nd f (-1) ++ []) ((x.i,x.cell (-1)) :: L) := by rw [aN]; exact Ar.p H (hC.append_right _)
 refine (lu t u (by omega) (by simp only [List.length_nil]; omega) hk).mono ?_;rintro _ ⟨j,it',a',rfl,H1,h1,h2,-⟩;rw [aN] at H1;refine ⟨j.hd,_,a',rfl,⟨it',_,⟨j,rfl,rfl,h1⟩,.refl _,?_⟩,H1⟩;rw [yB] at e ⊢;exact (e.cons x).trans h2.symm
theorem cA {k : Nat} (h : HK KH r its C) (H : Ar κ n a (C ++ L)) (hs : its.length < 1024) (hk : 95000 < k) : Do (tV k a r) fun res => ∃ a',Ar κ (n + 100) a' (C ++ L) /\ ((its = [] /\ res = (-1,a')) \/ ∃ x ∈ its,res = ((x.i : Int),a') /\ ∀ y ∈ its,¬ y.lt x) := by
 obtain ⟨it,M,⟨f,rfl,rfl,j⟩,hC,e⟩ := h;have hl := uU e;have t : Hp κ n a it (nd f (-1) ++ []) L := by rw [aN]; exact Ar.p H (hC.append_right _)
 have hlen := j.len (R := 10) (by omega);refine (jD t j hk).mono ?_;rintro res ⟨a',H1,h1⟩;rw [aN] at H1;rw [yB] at e;refine ⟨a',Ar.mono (Ar.p H1 (hC.append_right _).symm) (by omega),?_⟩;rcases h1 with ⟨rfl,rfl⟩ | ⟨c,u,rfl,h2⟩
 ·exact Or.inl ⟨e.eq_nil,rfl⟩
 ·refine Or.inr ⟨it c,e.mem_iff.2 (List.mem_map_of_mem u),rfl,fun y z => ?_⟩;obtain ⟨d,hd,rfl⟩ := List.mem_map.1 (e.mem_iff.1 z);exact h2 d hd
theorem cK {k : Nat} (h : HK KH r its C) (H : Ar κ n a (C ++ L)) (t : its ≠ []) (hs : its.length < 1024) (hk : 95000 < k) :
  Do (tW k a r) fun res => ∃ x q r' C' a',res = (r',(x.i : Int),a') /\ its.Perm (x :: q) /\ (∀ y ∈ its,¬ y.lt x) /\ HK KH r' q C' /\ Ar κ (n + 500) a' (C' ++ ((x.i,x.cell (-1)) :: L)) := by
 obtain ⟨it,M,⟨f,rfl,rfl,z⟩,hC,e⟩ := h;have hl := uU e;have u : Hp κ n a it (nd f (-1) ++ []) L := by rw [aN]; exact Ar.p H (hC.append_right _)
 rw [yB] at e;have hf : f ≠ .nil := by rintro rfl; exact t e.eq_nil
 refine (jI u z hf (by omega) hk).mono ?_;rintro _ ⟨c,j,it',a',rfl,H1,h1,h2,-,B,h3⟩;rw [aN] at H1;refine ⟨it c,j.cells.map it',j.hd,_,a',rfl,e.trans h2,fun y A => ?_,⟨it',_,⟨j,rfl,rfl,h1⟩,.refl _,by rw [yB]⟩,H1⟩;obtain ⟨d,hd,rfl⟩ := List.mem_map.1 (e.mem_iff.1 A);exact h3 d hd
theorem dO {k : Nat} {x : It} (h : HK KH r its C) (z : x ∈ its) (H : Ar κ n a (C ++ L)) (hs : its.length < 1024) (hk : 95000 < k) :
  Do (tU k a r (x.i : Int)) fun res => ∃ q r' C' a',res = (r',a') /\ its.Perm (x :: q) /\ HK KH r' q C' /\ Ar κ (n + 500) a' (C' ++ ((x.i,x.cell (-1)) :: L)) := by
 obtain ⟨it,M,⟨f,rfl,rfl,y⟩,hC,e⟩ := h;have hl := uU e;have t : Hp κ n a it (nd f (-1) ++ []) L := by rw [aN]; exact Ar.p H (hC.append_right _)
 rw [yB] at e;obtain ⟨c,u,rfl⟩ := List.mem_map.1 (e.mem_iff.1 z);refine (tM t y u (by omega) hk).mono ?_;rintro _ ⟨it',j,a',rfl,H1,h1,-,h2,-⟩;rw [aN] at H1;exact ⟨j.cells.map it',j.hd,_,a',rfl,e.trans h2,⟨it',_,⟨j,rfl,rfl,h1⟩,.refl _,by rw [yB]⟩,H1⟩
theorem ij {k : Nat} {x y : It} (h : HL KH r its x y C) (hi : y.i = x.i) (u : ¬ x.lt y) (H : Ar κ n a (C ++ L)) (hs : its.length < 1024) (hk : 95000 < k) :
  Do (td k a r (y.i : Int)) fun res => ∃ r' q C' a',res = (r',a') /\ its.Perm (x :: q) /\ HK KH r' (y :: q) C' /\ Ar κ (n + 150) a' (C' ++ L) := by
 obtain ⟨it,M,ν,⟨f,rfl,rfl,D⟩,B,rfl,hC,A⟩ := h;have hl := uU A;have z : Hp κ n a (upd it ν.c y) (nd f (-1) ++ []) L := by rw [aN]; exact Ar.p H (hC.append_right _)
 have hn := z.nd;rw [aN] at hn;obtain ⟨q,t,e⟩ := gJ (y := y) hn B rfl;have j : ν.c ∈ f.cells := by rw [<- xr f (-1)]; exact List.mem_map_of_mem B
 refine (mQ z D j u (by omega) (Q := 10) (by omega) (by omega)).mono ?_;rintro _ ⟨it',a',rfl,H1,h1,-,h2⟩;rw [aN] at H1;refine ⟨f.hd,q,_,a',rfl,A.trans t,⟨it',_,⟨f,rfl,rfl,h1⟩,.refl _,?_⟩,Ar.mono H1 (by omega)⟩;rw [yB] at e ⊢;exact e.symm.trans h2.symm
theorem iw {k : Nat} {s : Int} {e : List It} {C' : Heap} (h : HK KH r its C) (Y : HK KH s e C') (H : Ar κ n a (C ++ (C' ++ L))) (hs : its.length < 256) (hs' : e.length < 256) (hk : 95000 < k) :
  Do (te k a r s) fun res => ∃ t y a',res = (t,a') /\ HK KH t (its ++ e) y /\ Ar κ (n + 500) a' (y ++ L) := by
 obtain ⟨it,M,⟨t,rfl,rfl,ho⟩,hC,F⟩ := h;obtain ⟨it',M',⟨j,rfl,rfl,J⟩,z,x⟩ := Y;have hl := uU F;have Z := uU x;rw [yB] at F x;have A : ∀ d ∈ t.cells,d ∉ j.cells := by
  have hn := Ar.nodup H;have h1 := ((((hC.append ((z).append_right L)).map Prod.fst)).nodup_iff).1 hn;rw [List.map_append,List.map_append] at h1;intro d hd I;have B : d ∈ (lay it (nd t (-1))).map Prod.fst := ((ry it (nd t (-1))).mem_iff).2 (mL _ (by rw [xr]; exact hd));have D : d ∈ (lay it' (nd j (-1))).map Prod.fst := ((ry it' (nd j (-1))).mem_iff).2 (mL _ (by rw [xr]; exact I));exact (List.nodup_append.1 h1).2.2 d B d (mL _ D) rfl
 let u : Nat -> It := fun d => if d ∈ t.cells then it d else it' d
 have S : ∀ d ∈ t.cells,u d = it d := fun d hd => if_pos hd
 have U : ∀ d ∈ j.cells,u d = it' d := fun d hd => if_neg fun h => A d h hd
 have B : lay u (nd t (-1)) = lay it (nd t (-1)) := uE fun ν O => S _ (by rw [<- xr t (-1)]; exact List.mem_map_of_mem O)
 have D : lay u (nd j (-1)) = lay it' (nd j (-1)) := uE fun ν O => U _ (by rw [<- xr j (-1)]; exact List.mem_map_of_mem O)
 have X : Hp κ n a u (nd t (-1) ++ (nd j (-1) ++ [])) L := by
  unfold Hp;rw [aN,nF,B,D,aA];exact Ar.p H (hC.append (z.append_right L))
 refine (tq X (ho.congr S) (J.congr U) (by omega) (by omega) hk).mono ?_;rintro _ ⟨W,a1,rfl,H1,h1,h2⟩;rw [aN] at H1;refine ⟨W.hd,_,a1,rfl,⟨u,_,⟨W,rfl,rfl,h1⟩,.refl _,?_⟩,H1⟩;rw [yB];have h3 := (h2.map u).symm;rw [List.map_append] at h3;have f1 : t.cells.map u = t.cells.map it := List.map_congr_left S;have f2 : j.cells.map u = j.cells.map it' := List.map_congr_left U;rw [f1,f2] at h3;exact (F.append x).trans h3
end
end Bi
end
noncomputable section
set_option maxRecDepth 10000
section
variable {κ : Cfg} {n : Nat} {a : za} {it : Nat -> It} {N : List Nd} {L : Heap} {b : Bool}
theorem Ord.congr {it it' : Nat -> It} {f : F} {q : Nat} (h : Ord it (nd f (q : Int))) (j : ∀ d ∈ f.cells,it' d = it d) (hq : it' q = it q) : Ord it' (nd f (q : Int)) := by
 intro ν e r hr;obtain ⟨h1,h2⟩ := bY f q ν e;rw [j _ h1];rcases h2 with h2 | ⟨d,hd,h2⟩
 ·have : r = q := by omega
  subst this; rw [hq]; exact h ν e r hr
 ·have : r = d := by omega
  subst this; rw [j r hd]; exact h ν e r hr
namespace Sk
theorem tY (l : List Int) (v : Int) (hl : l.length < 100000) : ∀ (post pre : List Int) (m : Nat),post.length < m -> l = pre ++ post -> v ∉ pre ->
  (zZ (l.length : Int) l v m (pre.length : Int) = some (.inr ()) /\ v ∉ post) \/ ∃ p q,l = p ++ v :: q /\ v ∉ p /\ zZ (l.length : Int) l v m (pre.length : Int) = some (.inl (p.length : Int))
 | [],pre,m,hm,e,hv => by
  obtain ⟨m,rfl⟩ : ∃ q,m = q + 1 := ⟨m - 1,by simp at hm; omega⟩
  left
  rw [zZ,dF (by rw [e]; simp)];exact ⟨rfl,by simp⟩
 | x :: post,pre,m,hm,e,hv => by
  obtain ⟨m,rfl⟩ : ∃ q,m = q + 1 := ⟨m - 1,by simp at hm; omega⟩
  simp only [lC] at hm;have hlen : pre.length < 100000 := by have := congrArg List.length e; simp at this; omega
  have t : mIdx l (pre.length : Int) = some x := by rw [e]; exact yv ..
  rw [zZ,dT (by rw [e]; simp; omega),t];simp only [cT,bS,uk];by_cases h : x = v
  ·subst h
   right
   refine ⟨pre,post,e,hv,?_⟩;simp
  ·have u : (x == v) = false := by simpa using h
   rw [u,cF,zV (by omega) (by omega)];have := tY l v hl post (pre ++ [x]) m (by omega) (by rw [e]; simp) (by simp [hv]; exact fun e => h e.symm);have j : ((pre ++ [x]).length : Int) = (pre.length : Int) + 1 := by simp
   rw [j] at this;rcases this with ⟨h1,h2⟩ | h1
   ·exact Or.inl ⟨h1,by simp [h2]; exact fun e => h e.symm⟩
   ·exact Or.inr h1
theorem th (v : Int) : ∀ (R A : List Int) (g : Int) (m : Nat),R.length < m -> A.length + R.length < 100000 -> v ∉ R ->
  Do (ym v m (A.length : Int) ((A.length : Int) + 1) (A ++ g :: R)) fun r => ∃ g',r = (((A ++ R).length : Int),(A ++ R) ++ [g'])
 | [],A,g,m,hm,j,hv => by
  obtain ⟨m,rfl⟩ : ∃ q,m = q + 1 := ⟨m - 1,by simp at hm; omega⟩
  rw [ym];refine Do.f (dF (by simp)) ?_;exact ⟨_,rfl,g,by simp⟩
 | x :: R,A,g,m,hm,j,hv => by
  obtain ⟨m,rfl⟩ : ∃ q,m = q + 1 := ⟨m - 1,by simp at hm; omega⟩
  simp only [lC] at hm j;simp only [iC,not_or] at hv;rw [ym];refine Do.t (dT (by simp; omega)) ?_;have y : mIdx (A ++ g :: x :: R) ((A.length : Int) + 1) = some x := by
   have := yv (A ++ [g]) R x;simpa using this
  refine Do.assoc (Do.seq y ?_);refine Do.assoc (Do.seq rfl ?_);refine Do.tb (by simp; exact fun e => hv.1 e.symm) ?_;refine Do.assoc (Do.seq (yv A (x :: R) g) ?_);refine Do.seq rfl ?_;have es : mSet (A ++ g :: x :: R) (A.length : Int) x = (A ++ [x]) ++ x :: R := by rw [si]; simp
  rw [es,zV (by omega) (by omega),zV (by omega) (by omega)];have := th v R (A ++ [x]) x m (by omega) (by simp; omega) hv.2;have u : ((A ++ [x]).length : Int) = (A.length : Int) + 1 := by simp
  rw [u] at this;refine this.mono ?_;rintro _ ⟨g',rfl⟩;exact ⟨g',by simp⟩
theorem sQ {k : Nat} (p q : List Int) (v : Int) (hp : v ∉ p) (hq : v ∉ q) (hl : (p ++ v :: q).length < 100000) (hk : (p ++ v :: q).length < k) :
  xw k (p ++ v :: q) v = some (p ++ q) := by
 unfold xw wm;rcases tY (p ++ v :: q) v hl (p ++ v :: q) [] k hk rfl (by simp) with ⟨_,h2⟩ | ⟨p',j,e,hv,h⟩
 ·simp at h2
 ·have t : p' = p /\ j = q := by
   clear h;have := congrArg (List.takeWhile (fun x => x != v)) e;have h1 : ∀ (p q : List Int),v ∉ p -> (p ++ v :: q).takeWhile (fun x => x != v) = p := by
    intro p q hp;rw [List.takeWhile_append_of_pos (by intro x B; simp; exact fun e => hp (e ▸ B))];simp
   rw [h1 p q hp,h1 p' j hv] at this;subst this;simpa using e.symm
  obtain ⟨rfl,rfl⟩ := t;have A : zZ ((p' ++ v :: j).length : Int) (p' ++ v :: j) v k 0 = some (.inl (p'.length : Int)) := h;rw [A];simp only [bS];rw [show ((p'.length : Int) == -1) = false by simp,cF];simp only [lA,lC] at hl hk;rw [zV (by omega) (by omega)];obtain ⟨r,u,g',rfl⟩ := th v j p' v k (by omega) (by omega) hq;rw [u];simp only [bS];have y : mCut ((p' ++ j) ++ [g']) ((p' ++ j).length : Int) (((p' ++ j) ++ [g']).length : Int) = some [g'] := by
   rw [oR (by simp)];simp
  rw [y];simp only [bS];have z : mCut (qB ((p' ++ j) ++ [g']) ((p' ++ j).length : Int) 0) 0 ((p' ++ j).length : Int) = some (p' ++ j) := by
   unfold mCut qB;have : ((p' ++ j ++ [g']).length - ((p' ++ j).length : Int).toNat) = 1 := by simp only [lA,List.length_singleton]; omega
   rw [this];simp only [tN];rw [List.take_left' (l₁ := p' ++ j) rfl];rw [if_pos ⟨by omega,by omega,by simp; omega⟩];simp only [Int.toNat_zero,List.drop_zero];rw [List.take_left' (l₁ := p' ++ j) rfl]
  rw [z]
  rfl
theorem jD {k : Nat} {f : F} (H : Hp κ n a it (nd f (-1) ++ N) L) (D : HB b it f) (hk : 95000 < k) :
  Do (ni k a f.hd) fun res => ∃ a',Hp κ (n + 7 * f.len + 1) a' it (nd f (-1) ++ N) L /\ ((f = .nil /\ res = (-1,a')) \/ ∃ c ∈ f.cells,res = (((it c).i : Int),a') /\ ∀ d ∈ f.cells,¬ (it d).lt (it c)) := by
 unfold ni;have j : ∀ ν ∈ nd f (-1),ν ∈ nd f (-1) ++ N := fun ν h => mL _ h
 have z := rC H;have I := f.vX;have A := H.cap;refine (ug (k := k) H j (by omega) (by omega)).bind ?_;rintro _ ⟨a1,rfl,H1⟩;cases e : f.trees with
 | nil =>
  have : f = .nil := by
   cases f with
   | nil => rfl
   | cons => simp [F.trees] at e
  subst this;refine Do.seq (fq (by omega) a1) ?_;refine (H1.dL (c := -1) (by decide)).bind ?_;rintro _ ⟨a2,rfl,y⟩;exact ⟨_,rfl,a2,y.mono (by omega),Or.inl ⟨rfl,rfl⟩⟩
 | cons t0 J =>
  rw [<- e];refine (oC (k := k) H1 j D e hk (by omega)).bind ?_;rintro _ ⟨t,a2,ht,rfl,y,u⟩;have : t ∈ (f.loose (-1)).map Lt.t := by rw [xK]; exact ht
  obtain ⟨l,hl,rfl⟩ := List.mem_map.1 this;have x : l.top ∈ nd f (-1) ++ N := j _ (by rw [vk]; exact lL hl);refine (y.geti x).bind ?_;rintro _ ⟨a3,rfl,B⟩;refine ⟨_,rfl,a3,B.mono (by omega),Or.inr ⟨l.t.c,?_,rfl,u⟩⟩;rw [F.xk];exact List.mem_flatMap.2 ⟨l.t,ht,List.mem_cons_self ..⟩
theorem mQ {k : Nat} {f : F} {c : Nat} {x : It} (H : Hp κ n a (upd it c x) (nd f (-1) ++ N) L) (j : HB b it f) (y : c ∈ f.cells) (X : ¬ (it c).lt x) (hk : 70000 < k) {Q : Nat} (S : f.size < 2 ^ Q) (U : Q < 60) :
  Do (qV k a f.hd (x.i : Int)) fun r => ∃ it' a',r = (f.hd,a') /\ Hp κ (n + 13 * Q + 8) a' it' (nd f (-1) ++ N) L /\ HB b it' f /\ (∀ d,d ∉ f.cells -> it' d = it d) /\ (f.cells.map it').Perm (f.cells.map (upd it c x)) := by
 unfold qV;obtain ⟨ν,A,I⟩ := rR (up := -1) y;have hs := jv H;have u : 0 < f.size := by
  rw [<- F.vA]; exact List.length_pos_of_mem y
 have z := rC H;obtain ⟨R,h1,h2,h3⟩ := size_le (b := b) H u fun t ht => (j.good t ht).sk
 have W := h3 Q S;have O : RI (upd it c x) (nd f (-1)) ν.c false := by rw [I]; exact j.ord.lower X hs (j.upOK.self hs)
 have := ng (k := k) false (nd f (-1)) j.upOK R (fun ν A => by
  obtain ⟨t,ht,e⟩ := nO f (-1) (fun t ht => (j.good t ht).sk) ν A;have := h1 t ht; omega) H ν A (by omega) h2 O
 rw [I,uQ] at this;refine this.bind ?_;rintro _ ⟨μ,it',a1,rfl,Z,H1,Y,B,D,J,_⟩;rw [xr] at B D;refine ⟨_,rfl,it',a1,rfl,H1.mono (by omega),⟨fun t ht => ⟨(j.good t ht).sk,oV (J rfl) t ht⟩,j.row⟩,fun d hd => ?_,D⟩;rw [B d hd];exact ub _ _ (fun e => hd (e ▸ y))
theorem cr {k : Nat} (hk : 3 <= k) {s t : Tr} {w w' : Int} {r : Nat} (H : Hp κ n a it (s.nd (-1) w ++ (t.nd (-1) w' ++ N)) L) (hs : s.r = r) (ht : t.r = r) (j : r < 1000) :
  Do (tK k a (s.c : Int) (t.c : Int) (r : Int)) fun res => ∃ w a',res = (((lk it s t).c : Int),a') /\ Hp κ (n + 11) a' it ((lk it s t).nd (-1) w ++ N) L := by
 unfold tK;have u : (⟨s.c,-1,s.kids.hd,-1,w,s.r,0⟩ : Nd) ∈ s.nd (-1) w ++ (t.nd (-1) w' ++ N) := mL _ (List.mem_cons_self ..);have m2 : (⟨t.c,-1,t.kids.hd,-1,w',t.r,0⟩ : Nd) ∈ s.nd (-1) w ++ (t.nd (-1) w' ++ N) := List.mem_append_right _ (mL _ (List.mem_cons_self ..));refine (H.before hk m2 u).bind ?_;rintro _ ⟨a1,rfl,H⟩;unfold lk;by_cases c : (it t.c).lt (it s.c)
 ·rw [if_pos c];refine Do.tb (dT c) ?_;have H1 : Hp κ (n + 6) a1 it (t.nd (-1) w' ++ (s.nd (-1) w ++ N)) L := H.p (npm fun p => by simp only [List.countP_append]; omega);refine (linked H1 ht j).mono ?_;rintro _ ⟨a2,rfl,e⟩;exact ⟨_,_,rfl,e⟩
 ·rw [if_neg c];refine Do.fb (dF c) ?_;refine (linked H hs j).mono ?_;rintro _ ⟨a2,rfl,e⟩;exact ⟨_,_,rfl,e⟩
theorem fW {it it' : Nat -> It} {q : Nat} : ∀ {f : F},Ord it (nd f (q : Int)) -> (∀ d ∈ f.cells,it' d = it d) -> ¬ (it q).lt (it' q) -> Ord it' (nd f (q : Int))
 | .nil,_,_,_ => fun ν e => by simp [nd] at e
 | .cons c r kids rest,h,t,hq => by
  have h1 : Ord it (nd kids c) := h.sub fun ν e => mC _ (mL _ e)
  have h2 : Ord it (nd rest q) := h.sub fun ν e => mC _ (List.mem_append_right _ e)
  have j : it' c = it c := t c (by rw [F.cells]; exact List.mem_cons_self ..);have h3 := h1.congr (it' := it') (fun d hd => t d (by rw [F.cells]; exact mC _ (mL _ hd))) j;have h4 := fW (f := rest) h2 (fun d hd => t d (by rw [F.cells]; exact mC _ (List.mem_append_right _ hd))) hq;intro ν e r' hr;rw [nd] at e;rcases List.mem_cons.1 e with rfl | e
  ·simp only at hr ⊢;have : r' = q := by omega
   subst this;rw [j];exact fun u => h _ (List.mem_cons_self ..) r' rfl (It.fQ u hq)
  ·rcases List.mem_append.1 e with e | e
   ·exact h3 ν e r' hr
   ·exact h4 ν e r' hr
theorem ck (c r : Nat) (a b : F) : (F.cons c r a b).hd = (c : Int) := rfl
theorem av : F.nil.hd = -1 := rfl
theorem bT (it : Nat -> It) (s t : Tr) : ∃ top low,lk it s t = top.under low /\ ((top = s /\ low = t) \/ (top = t /\ low = s)) /\ ¬ (it low.c).lt (it top.c) := by
 unfold lk;by_cases c : (it t.c).lt (it s.c)
 ·rw [if_pos c]; exact ⟨t,s,rfl,Or.inr ⟨rfl,rfl⟩,It.lt_asymm c⟩
 ·rw [if_neg c]; exact ⟨s,t,rfl,Or.inl ⟨rfl,rfl⟩,c⟩
theorem lG {k : Nat} (hk : 3 <= k) {f : F} {c : Nat} {u w : Int} (H : Hp κ n a it ((Tr.mk c 0 .nil).nd u w ++ (nd f (-1) ++ N)) L) (hb : HB true it f) (hr : ∀ t ∈ f.trees,t.r < 100) :
  Do (tI k a f.hd (c : Int)) fun r => ∃ y it' a',r = (y.hd,a') /\ Hp κ (n + 32) a' it' (nd y (-1) ++ N) L /\ HB true it' y /\ y.cells.Perm (c :: f.cells) /\ ((c :: f.cells).map it').Perm ((c :: f.cells).map it) /\ ∀ d,d ∉ c :: f.cells -> it' d = it d := by
 unfold tI;have d9 := H.cap;have hN : ∀ ν ∈ nd f (-1),ν ∈ (Tr.mk c 0 .nil).nd u w ++ (nd f (-1) ++ N) := fun ν h => List.mem_append_right _ (mL _ h)
 have alone : (f.trees.Pairwise fun s t => s.r < t.r) -> ∀ {U : Nat} {a' : za},U <= n + 3 -> Hp κ U a' it ((Tr.mk c 0 .nil).nd u w ++ (nd f (-1) ++ N)) L ->
   Do ((zz a' (c : Int) 3 f.hd).bind fun d2 => (zz d2.2 (c : Int) 0 (-1)).bind fun d3 => some ((c : Int),d3.2)) fun r => ∃ y it' a',r = (y.hd,a') /\ Hp κ (n + 32) a' it' (nd y (-1) ++ N) L /\ HB true it' y /\ y.cells.Perm (c :: f.cells) /\ ((c :: f.cells).map it').Perm ((c :: f.cells).map it) /\ ∀ d,d ∉ c :: f.cells -> it' d = it d := by
  intro hp U a' hn H1;refine (Hp.set (ν := ⟨c,u,-1,-1,w,0,0⟩) H1 ⟨c,u,-1,-1,f.hd,0,0⟩).bind ?_;rintro _ ⟨a2,rfl,H2⟩;refine (Hp.set (ν := ⟨c,u,-1,-1,f.hd,0,0⟩) H2 ⟨c,-1,-1,-1,f.hd,0,0⟩).bind ?_;rintro _ ⟨a3,rfl,H3⟩;refine ⟨_,rfl,.cons c 0 .nil f,it,a3,rfl,Hp.mono (n := U + 1 + 1) H3 (by omega),⟨?_,?_⟩,?_,.refl _,fun _ _ => rfl⟩
  ·intro t ht;rw [F.trees] at ht;rcases List.mem_cons.1 ht with rfl | ht
   ·exact ⟨.nil,fun ν hν => by simp [nd] at hν⟩
   ·exact hb.good t ht
  ·exact ⟨hp,fun s _ => Nat.zero_le _,fun h => by cases h⟩
  ·simp [F.cells]
 cases f with
 | nil =>
  refine Do.fb rfl ?_;refine Do.seq rfl ?_;refine (H.getN (c := -1) (by decide)).bind ?_;rintro _ ⟨a1,rfl,H1⟩;refine Do.tb rfl (Do.seq rfl (Do.t rfl ?_));exact alone (by simp [F.trees]) (by omega) H1
 | cons B r1 D f1 =>
  have b0 := hN _ (List.mem_cons_self ..);have J : ∀ ν ∈ nd f1 (-1),ν ∈ (Tr.mk c 0 .nil).nd u w ++ (nd (.cons B r1 D f1) (-1) ++ N) := fun ν h => hN ν (mC _ (List.mem_append_right _ h))
  have b6 := ob H J;refine Do.tb (bne_iff_ne.2 (by simp only [F.hd]; omega)) ?_;refine Do.assoc ((H.getc b0 (f := 3) (v := f1.hd) b6.1 b6.2).bind ?_);rintro _ ⟨a1,rfl,H1⟩;refine Do.seq rfl ?_;refine (H1.get b0 (f := 4) (v := (r1 : Int))).bind ?_;rintro _ ⟨a2,rfl,H2⟩;cases f1 with
  | nil =>
   refine Do.tb rfl (Do.seq rfl (Do.t rfl ?_));exact alone (by simp [F.trees]) (by omega) H2
  | cons x r2 k2 f2 =>
   have b1 := J _ (List.mem_cons_self ..);refine Do.fb (by simp [F.hd]) ?_;refine Do.assoc ((H2.get b1 (f := 4) (v := (r2 : Int))).bind ?_);rintro _ ⟨a3,rfl,H3⟩;have W := hb.row;simp only [F.trees,dz] at W;obtain ⟨S,d1,_⟩ := W;have e6 : r1 <= r2 := d1 ⟨x,r2,k2⟩ (List.mem_cons_self ..);by_cases d0 : r2 = r1
   ·subst d0;refine Do.seq rfl (Do.f (by simp) ?_);have b5 : ∀ ν ∈ nd f2 (-1),ν ∈ (Tr.mk c 0 .nil).nd u w ++ (nd (.cons B r2 D (.cons x r2 k2 f2)) (-1) ++ N) := fun ν h => J ν (mC _ (List.mem_append_right _ h))
    have b7 := ob H3 b5;refine (H3.getc b1 (f := 3) (v := f2.hd) b7.1 b7.2).bind ?_;rintro _ ⟨a4,rfl,H4⟩;have c3 : Hp κ (n + 4) a4 it ((Tr.mk B r2 D).nd (-1) (F.hd (.cons x r2 k2 f2)) ++ ((Tr.mk x r2 k2).nd (-1) f2.hd ++ ((Tr.mk c 0 .nil).nd u w ++ (nd f2 (-1) ++ N)))) L := H4.p (npm fun p => by
     simp only [nd,Tr.nd,List.countP_append,List.countP_cons]; omega)
    have f3 : r2 < 100 := hr ⟨x,r2,k2⟩ (by simp [F.trees]);refine (cr (k := k) (r := r2) hk c3 rfl rfl (by omega)).bind ?_;rintro _ ⟨wt,a5,rfl,H5⟩;have g1 := hb.good ⟨B,r2,D⟩ (by simp [F.trees]);have g2 := hb.good ⟨x,r2,k2⟩ (by simp [F.trees]);obtain ⟨top,low,c4,Z,c7⟩ := bT it (Tr.mk B r2 D) (Tr.mk x r2 k2);rw [c4] at H5 ⊢;have j : GT true it top /\ top.r = r2 := by rcases Z with ⟨rfl,rfl⟩ | ⟨rfl,rfl⟩ <;> exact ⟨by assumption,rfl⟩
    have z : GT true it low /\ low.r = r2 := by rcases Z with ⟨rfl,rfl⟩ | ⟨rfl,rfl⟩ <;> exact ⟨by assumption,rfl⟩
    have O : (F.cells (.cons B r2 D (.cons x r2 k2 f2))).Perm (top.c :: (low.cells ++ (top.kids.cells ++ f2.cells))) := by
     rcases Z with ⟨rfl,rfl⟩ | ⟨rfl,rfl⟩ <;> refine cpm fun p => ?_ <;> simp only [F.cells,Tr.cells,List.countP_append,List.countP_cons,List.cons_append] <;> omega
    have hn : (c :: (top.c :: (low.cells ++ (top.kids.cells ++ f2.cells)))).Nodup := by
     have h1 := H.nd;rw [List.map_append,List.map_append,xr,<- aA] at h1;have h2 := (List.nodup_append.1 h1).1;have h3 : ((Tr.mk c 0 .nil).nd u w).map Nd.c = [c] := by simp [Tr.nd,nd]
     rw [h3] at h2;exact (List.Perm.nodup_iff (O.cons c)).1 h2
    obtain ⟨b8,c8⟩ := List.nodup_cons.1 hn;obtain ⟨c9,f0⟩ := List.nodup_cons.1 c8;have b4 : c ≠ top.c := fun e => b8 (e ▸ List.mem_cons_self ..)
    have fin : ∀ (it' : Nat -> It) {U : Nat} {a' : za},Hp κ U a' it' (⟨c,u,-1,-1,w,0,0⟩ :: ⟨top.c,-1,low.c,-1,wt,((r2 + 1 : Nat) : Int),0⟩ :: (nd (.cons low.c low.r low.kids top.kids) top.c ++ (nd f2 (-1) ++ N))) L -> U <= n + 27 ->
      (∀ d,d ≠ c -> d ≠ top.c -> it' d = it d) -> ¬ (it' c).lt (it' top.c) -> ¬ (it top.c).lt (it' top.c) -> ((c :: F.cells (.cons B r2 D (.cons x r2 k2 f2))).map it').Perm ((c :: F.cells (.cons B r2 D (.cons x r2 k2 f2))).map it) ->
      Do ((uW a' (c : Int) (top.c : Int)).bind fun d4 => (zz d4 (top.c : Int) 3 f2.hd).bind fun b9 => some ((top.c : Int),b9.2)) fun r => ∃ y it' a',r = (y.hd,a') /\ Hp κ (n + 32) a' it' (nd y (-1) ++ N) L /\ HB true it' y /\ y.cells.Perm (c :: F.cells (.cons B r2 D (.cons x r2 k2 f2))) /\ ((c :: F.cells (.cons B r2 D (.cons x r2 k2 f2))).map it').Perm ((c :: F.cells (.cons B r2 D (.cons x r2 k2 f2))).map it) /\ ∀ d,d ∉ c :: F.cells (.cons B r2 D (.cons x r2 k2 f2)) -> it' d = it d := by
     intro it' U a' K e9 hA hB hC hD;have c6 : low.c < κ.C := K.lt (ν := ⟨low.c,top.c,low.kids.hd,-1,top.kids.hd,low.r,0⟩) (by simp [nd]);refine (kZ K (by simp only; omega) (by simp only; omega)).bind ?_;intro a6 K1;have K2 := K1.p (List.Perm.swap ..);refine (K2.set ⟨top.c,-1,c,-1,f2.hd,((r2 + 1 : Nat) : Int),0⟩).bind ?_;rintro _ ⟨a7,rfl,K3⟩;have A : ∀ d ∈ low.cells ++ (top.kids.cells ++ f2.cells),d ≠ c /\ d ≠ top.c := fun d hd => ⟨fun e => b8 (e ▸ mC _ hd),fun e => c9 (e ▸ hd)⟩
     have c5 : ∀ d ∈ F.cells (.cons low.c low.r low.kids top.kids),it' d = it d := fun d hd => by
      have : d ∈ low.cells ++ (top.kids.cells ++ f2.cells) := by
       rw [F.cells] at hd;rcases List.mem_cons.1 hd with rfl | hd
       ·exact mL _ (List.mem_cons_self ..)
       ·rcases List.mem_append.1 hd with hd | hd
        ·exact mL _ (mC _ hd)
        ·exact List.mem_append_right _ (mL _ hd)
      exact hA d (A d this).1 (A d this).2
     have b3 : HB true it f2 := by
      refine ⟨fun t ht => hb.good t (by simp [F.trees,ht]),?_⟩;have := (List.pairwise_cons.1 S).2;exact dz.of this
     have X : HB true it' f2 := b3.congr fun d hd => by
      have : d ∈ low.cells ++ (top.kids.cells ++ f2.cells) := List.mem_append_right _ (List.mem_append_right _ hd);exact hA d (A d this).1 (A d this).2
     have a9 := j.1.under z.1 (by rw [z.2,j.2]) c7;refine ⟨_,rfl,.cons top.c (r2 + 1) (.cons c 0 .nil (.cons low.c low.r low.kids top.kids)) f2,it',a7,rfl,?_,⟨?_,?_⟩,?_,hD,?_⟩
     ·refine Hp.mono (n := U + 4 + 1) (Hp.p K3 (npm fun p => ?_)) (by omega);simp only [nd,ck,av,(show ((0 : Nat) : Int) = 0 from rfl),List.countP_append,List.countP_cons,List.nil_append]; omega
     ·intro t ht;rw [F.trees] at ht;rcases List.mem_cons.1 ht with rfl | ht
      ·refine ⟨?_,?_⟩
       ·have h1 := z.1.sk;have h2 := j.1.sk;rw [z.2] at h1 ⊢;rw [j.2] at h2;exact SK.leaf rfl h1 h2
       ·have h3 : Ord it' (nd (.cons low.c low.r low.kids top.kids) (top.c : Int)) := fW a9.ord c5 hC;intro ν hν q hq;rw [nd] at hν;rcases List.mem_cons.1 hν with rfl | hν
        ·simp only at hq ⊢;have : q = top.c := by omega
         subst this; exact hB
        ·exact h3 ν hν q hq
      ·exact X.good t ht
     ·refine ⟨(List.pairwise_cons.1 S).2,fun s hs => ?_,fun h => by cases h⟩;have := (List.pairwise_cons.1 S).1 s hs;simp only at this ⊢; omega
     ·refine List.Perm.trans ?_ (O.cons c).symm;refine cpm fun p => ?_
      simp only [F.cells,Tr.cells,List.countP_append,List.countP_cons,List.cons_append,List.nil_append,List.countP_nil]; omega
     ·intro d hd;have Y : d ∉ c :: (top.c :: (low.cells ++ (top.kids.cells ++ f2.cells))) := fun h => hd ((O.cons c).mem_iff.2 h)
      simp only [iC,not_or] at Y;exact hA d Y.1 Y.2.1
    have H6 : Hp κ (n + 15) a5 it (⟨c,u,-1,-1,w,0,0⟩ :: ⟨top.c,-1,low.c,-1,wt,((r2 + 1 : Nat) : Int),0⟩ :: (nd (.cons low.c low.r low.kids top.kids) top.c ++ (nd f2 (-1) ++ N))) L := H5.p (npm fun p => by
     simp only [Tr.nd,Tr.under,j.2,nd,ck,av,(show ((0 : Nat) : Int) = 0 from rfl),List.countP_append,List.countP_cons,List.nil_append,List.countP_nil]; omega)
    refine (H6.before (k := k) hk (List.mem_cons_self ..) (mC _ (List.mem_cons_self ..))).bind ?_;rintro _ ⟨a6,rfl,H7⟩;by_cases I : (it c).lt (it top.c)
    ·refine Do.tb (dT I) ?_;refine Do.assoc ((pU H7).bind ?_);intro a7 H8;refine Do.seq rfl ?_;refine fin (swp it c top.c) H8 (by omega) (fun d h1 h2 => iQ it h1 h2) ?_ ?_ (eh ?_ (List.mem_cons_self ..) ?_ b4)
     ·rw [bh it b4,bj]; exact It.lt_asymm I
     ·rw [bj]; exact It.lt_asymm I
     ·exact (List.Perm.nodup_iff (O.cons c)).2 hn
     ·exact (O.cons c).mem_iff.2 (mC _ (List.mem_cons_self ..))
    ·refine Do.fb (dF I) ?_;refine Do.seq rfl ?_;exact fin it H7 (by omega) (fun _ _ _ => rfl) I (It.lt_irrefl _) (.refl _)
   ·refine Do.seq rfl (Do.t (by simp; omega) ?_);refine alone ?_ (by omega) H3;simp only [F.trees];refine List.pairwise_cons.2 ⟨fun s hs => ?_,S⟩;rcases List.mem_cons.1 hs with rfl | hs
    ·simp only; omega
    ·have := (List.pairwise_cons.1 S).1 s hs;simp only at this ⊢; omega
def zer (ls : List Lt) : List Lt := ls.filter fun l => l.t.r == 0
def pos (ls : List Lt) : List Lt := ls.filter fun l => !(l.t.r == 0)
theorem bq (ls : List Lt) : (pos ls ++ zer ls).Perm ls := by
 have := List.filter_append_perm (fun l : Lt => !(l.t.r == 0)) ls;have e : zer ls = ls.filter fun l => !(!(l.t.r == 0)) := by unfold zer; congr 1; funext l; simp
 rw [e]; exact this
theorem jb (v_ : Int) (all : List Lt) (A : ∀ l ∈ all,l.top ∈ N) (hl : all.length < 100000) (rest : List Int) (hr : rest.length < 100000) : ∀ (post pre : List Lt) {n : Nat} {a : za} (H : Hp κ n a it N L) (m : Nat),post.length < m -> all = pre ++ post ->
  Do (wv (all.length : Int) (lc all) v_ m (rest ++ lc (pos pre)) (lc (zer pre)) (pre.length : Int) a) fun r => ∃ a',r = (rest ++ lc (pos all),lc (zer all),a') /\ Hp κ (n + post.length) a' it N L
 | [],pre,n,a,H,m,hm,e => by
  obtain ⟨m,rfl⟩ : ∃ q,m = q + 1 := ⟨m - 1,by simp at hm; omega⟩
  rw [wv];refine Do.f (dF (by rw [e]; simp)) ?_;have : pre = all := by rw [e]; simp
  subst this;exact ⟨_,rfl,a,rfl,H⟩
 | l :: post,pre,n,a,H,m,hm,e => by
  obtain ⟨m,rfl⟩ : ∃ q,m = q + 1 := ⟨m - 1,by simp at hm; omega⟩
  simp only [lC] at hm;have hlen : pre.length < 100000 := by have := congrArg List.length e; simp at this; omega
  have hz : (zer pre).length <= pre.length := List.length_filter_le ..;have F : (pos pre).length <= pre.length := List.length_filter_le ..;have D : mIdx (lc all) (pre.length : Int) = some (l.t.c : Int) := by
   rw [e,vr,jy];have := yv (lc pre) (lc post) (l.t.c : Int)
   rwa [vM] at this
  rw [wv];refine Do.t (dT (by rw [e]; simp; omega)) ?_;refine Do.assoc (Do.seq D ?_);refine Do.assoc ((H.get (A l (by rw [e]; simp)) (f := 4) (v := (l.t.r : Int))).bind ?_);rintro _ ⟨a1,rfl,H1⟩;have := jb v_ all A hl rest hr post (pre ++ [l]) H1 m (by omega) (by rw [e]; simp);have B : ((pre ++ [l]).length : Int) = (pre.length : Int) + 1 := by simp
  rw [B] at this;have z : zer (pre ++ [l]) = zer pre ++ zer [l] := List.filter_append ..;have y : pos (pre ++ [l]) = pos pre ++ pos [l] := List.filter_append ..;by_cases h0 : l.t.r = 0
  ·refine Do.tb (by simp [h0]) ?_;refine Do.assoc (Do.seq (xh (by rw [vM]; simp; omega)) ?_);refine Do.seq rfl ?_;rw [zV (by omega) (by omega)];have u : zer [l] = [l] := by simp [zer,h0]
   have x : pos [l] = [] := by simp [pos,h0]
   rw [z,y,u,x,aN,vr] at this;refine this.mono ?_;rintro _ ⟨a2,rfl,j⟩;exact ⟨a2,rfl,j.mono (by simp only [lC]; omega)⟩
  ·refine Do.fb (by simp [h0]) ?_;refine Do.assoc (Do.seq (xh (by rw [lA,vM]; simp; omega)) ?_);refine Do.seq rfl ?_;rw [zV (by omega) (by omega)];have u : zer [l] = [] := by simp [zer,h0]
   have x : pos [l] = [l] := by simp [pos,h0]
   rw [z,y,u,x,aN,vr,<- aA] at this;refine this.mono ?_;rintro _ ⟨a2,rfl,j⟩;exact ⟨a2,rfl,j.mono (by simp only [lC]; omega)⟩
theorem jc (i : Int) (all : List Lt) (hl : all.length < 50) (S : Nat) (hS : S < 1024) : ∀ (post pre : List Lt) (f : F) {it : Nat -> It} {n : Nat} {a : za} (H : Hp κ n a it (LN post ++ (nd f (-1) ++ N)) L) (m : Nat),post.length + 3 < m -> all = pre ++ post -> HB true it f -> (∀ l ∈ post,l.t.r = 0 /\ l.t.kids = .nil) -> f.size + post.length <= S ->
  Do (wx i (all.length : Int) (lc all) m f.hd (pre.length : Int) a) fun r => ∃ I it' a',r = (I.hd,a') /\ Hp κ (n + 32 * post.length) a' it' (nd I (-1) ++ N) L /\ HB true it' I /\ I.cells.Perm (TC (post.map Lt.t) ++ f.cells) /\ ((TC (post.map Lt.t) ++ f.cells).map it').Perm ((TC (post.map Lt.t) ++ f.cells).map it) /\ ∀ d,d ∉ TC (post.map Lt.t) ++ f.cells -> it' d = it d
 | [],pre,f,it,n,a,H,m,hm,e,J,hz,B => by
  obtain ⟨m,rfl⟩ : ∃ q,m = q + 1 := ⟨m - 1,by simp at hm; omega⟩
  rw [wx];refine Do.f (dF (by rw [e]; simp)) ?_;exact ⟨_,rfl,f,it,a,rfl,H,J,by simp [TC],by simp [TC],fun _ _ => rfl⟩
 | l :: post,pre,f,it,n,a,H,m,hm,e,J,hz,B => by
  obtain ⟨m,rfl⟩ : ∃ q,m = q + 1 := ⟨m - 1,by simp at hm; omega⟩
  simp only [lC] at hm B;have hlen : pre.length < 100000 := by have := congrArg List.length e; simp at this; omega
  have ei : mIdx (lc all) (pre.length : Int) = some (l.t.c : Int) := by
   rw [e,vr,jy];have := yv (lc pre) (lc post) (l.t.c : Int)
   rwa [vM] at this
  rw [wx];refine Do.t (dT (by rw [e]; simp; omega)) ?_;refine Do.seq ei ?_;obtain ⟨⟨c,r,kids⟩,u,w⟩ := l;obtain ⟨h0,h1⟩ := hz _ (List.mem_cons_self ..);simp only at h0 h1;subst h0 h1;have H1 : Hp κ n a it ((Tr.mk c 0 .nil).nd u w ++ (nd f (-1) ++ (LN post ++ N))) L := H.p (npm fun p => by
   simp only [sN,Lt.nd,List.countP_append]; omega)
  have hR : f.size < 2 ^ 10 := by simp; omega
  refine (lG (k := m) (by omega) H1 J (fun t ht => by have := J.lt hR t ht; omega)).bind ?_;rintro _ ⟨f1,x,a1,rfl,H2,U,z,a3,A⟩;rw [zV (by omega) (by omega)];have H3 : Hp κ (n + 32) a1 x (LN post ++ (nd f1 (-1) ++ N)) L := H2.p (npm fun p => by
   simp only [List.countP_append]; omega)
  have b6 : f1.size = f.size + 1 := by rw [<- F.vA,z.length_eq,lC,F.vA]
  have := jc i all hl S hS post (pre ++ [⟨⟨c,0,.nil⟩,u,w⟩]) f1 H3 m (by omega) (by rw [e]; simp) U (fun l hl => hz l (mC _ hl)) (by omega);have e2 : ((pre ++ [(⟨⟨c,0,.nil⟩,u,w⟩ : Lt)]).length : Int) = (pre.length : Int) + 1 := by simp
  rw [e2] at this;refine this.mono ?_;rintro _ ⟨f2,D,a2,rfl,H4,W,X,a4,a0⟩;have y : TC ((((⟨⟨c,0,.nil⟩,u,w⟩ : Lt) :: post)).map Lt.t) = c :: TC (post.map Lt.t) := by simp [qH,Tr.cells,F.cells]
  rw [y];have j : (TC (post.map Lt.t) ++ f1.cells).Perm (c :: TC (post.map Lt.t) ++ f.cells) := by
   refine (z.append_left _).trans ?_;exact List.perm_middle
  have hnd : ∀ d ∈ TC (post.map Lt.t),d ∉ c :: f.cells := fun d hd Z => by
   have O := H1.nd;rw [List.map_append,List.map_append,List.map_append,xr,fo] at O;have h6 : ((Tr.mk c 0 .nil).nd u w).map Nd.c = [c] := by simp [Tr.nd,nd]
   rw [h6] at O;have h7 : ((c :: f.cells) ++ (TC (post.map Lt.t) ++ N.map Nd.c)).Nodup := by
    simpa using O
   exact (List.nodup_append.1 h7).2.2 d Z d (mL _ hd) rfl
  refine ⟨f2,D,a2,rfl,H4.mono (by simp only [lC]; omega),W,X.trans j,?_,?_⟩
  ·refine (j.map D).symm.trans (a4.trans ?_);refine (j.map x).trans ?_;have h8 : (c :: TC (post.map Lt.t) ++ f.cells).Perm (TC (post.map Lt.t) ++ (c :: f.cells)) := List.perm_middle.symm;refine (h8.map x).trans (List.Perm.trans ?_ (h8.map it).symm);rw [List.map_append,List.map_append];have h9 : (TC (post.map Lt.t)).map x = (TC (post.map Lt.t)).map it := List.map_congr_left fun d hd => A d (hnd d hd)
   rw [h9];exact a3.append_left _
  ·intro d hd;have Y : d ∉ TC (post.map Lt.t) ++ f1.cells := fun h => hd (j.mem_iff.1 h)
   rw [a0 d Y];refine A d fun h => hd ?_
   rcases List.mem_cons.1 h with rfl | h
   ·exact mL _ (List.mem_cons_self ..)
   ·exact List.mem_append_right _ h
theorem A9 {b : Bool} {g : F} (h : SK b g 0) : g = .nil := by cases h; rfl
theorem Cd : ∀ {f : F} {r : Nat},SK true f r -> (f.trees.filter fun t => !(t.r == 0)).length <= r /\ (f.trees.filter fun t => t.r == 0).length <= r + 1 := by
 intro f r h;induction h with
 | nil => simp [F.trees]
 | @real c r kids rest h1 h2 i1 i2 =>
  simp only [F.trees,List.filter_cons];cases r with
  | zero =>
   have hr : rest = .nil := by cases h2; rfl
   subst hr;simp [F.trees]
  | succ r => simp; omega
 | @leaf d c r kids rest e h1 h2 i1 i2 =>
  simp only [F.trees,List.filter_cons];cases r with
  | zero =>
   have hr : rest = .nil := by cases h2; rfl
   subst hr;simp [F.trees]
  | succ r => simp; omega
theorem se {k : Nat} {f : F} {p q : List Tr} {t : Tr} (H : Hp κ n a it (nd f (-1) ++ N) L) (e : f.trees = p ++ t :: q) (hp : (t.c : Int) ∉ cs p) (hq : (t.c : Int) ∉ cs q)
  (hg : ∀ s ∈ p ++ q,GT true it s) (Z : ∀ s ∈ t.kids.trees,GT true it s) (D : SK true t.kids t.r) (B : (p ++ q).length <= 10) (d0 : t.r <= 10) (b0 : f.size < 1024) (hk : 95000 < k) :
  Do (vC k a (cs f.trees) (t.c : Int)) fun r => ∃ y it' a',r = (y.hd,((it t.c).i : Int),a') /\ Hp κ (n + 700) a' it' (nd y (-1) ++ N) (((it t.c).i,(it t.c).cell (-1)) :: L) /\ HB true it' y /\ y.cells.Perm (TC (p ++ q) ++ t.kids.cells) /\ ((TC (p ++ q) ++ t.kids.cells).map it').Perm ((TC (p ++ q) ++ t.kids.cells).map it) /\ ∀ d,d ∉ TC (p ++ q) ++ t.kids.cells -> it' d = it d := by
 unfold vC;have a9 := rC H;have b3 := H.cap;have A := B;rw [lA] at A;have b6 := (cZ D).1;obtain ⟨b4,b7⟩ := Cd D;rw [e,ib];refine Do.seq (sQ (cs p) (cs q) (t.c : Int) hp hq (by simp [cs]; omega) (by simp [cs]; omega)) ?_;obtain ⟨p',u,w,hl,rfl,rfl⟩ := og (f := f) (up := -1) e;have hN : nd f (-1) = LN p' ++ ((⟨t,-1,w⟩ : Lt).top :: (nd t.kids t.c ++ LN u)) := by
  rw [vk,hl,vn,sN,jT]; simp
 have H1 : Hp κ n a it ((⟨t,-1,w⟩ : Lt).top :: (LN (p' ++ u ++ t.kids.loose t.c) ++ N)) L := H.p (npm fun P => by
  rw [hN];simp only [vn,<- vk,List.countP_append,List.countP_cons]; omega)
 have c9 := t.kids.vX;have d1 : t.kids.size + 1 <= f.size := pe (f := f) (by rw [e]; simp);have a0 : ∀ μ ∈ nd t.kids t.c,μ ∈ (⟨t,-1,w⟩ : Lt).top :: (LN (p' ++ u ++ t.kids.loose t.c) ++ N) := fun μ hμ => by
  refine mC _ (mL _ ?_);rw [vn,<- vk];exact List.mem_append_right _ hμ
 refine (im (k := k) (f := t.kids) H1 (List.mem_cons_self ..) rfl a0 (by omega) (by omega)).bind ?_;rintro _ ⟨a1,rfl,H2⟩;have ek : cs t.kids.trees = lc (t.kids.loose t.c) := by simp only [lc,xK]
 have c6 : (t.kids.loose t.c).length = t.kids.len := by unfold F.len; rw [<- xK t.kids t.c]; simp
 have S : cs (p'.map Lt.t) ++ cs (u.map Lt.t) = lc (p' ++ u) := by rw [vr]; rfl
 have b5 : (p' ++ u).length <= 10 := by simpa using B
 have z : ∀ l ∈ t.kids.loose t.c,l.top ∈ (⟨t,-1,w⟩ : Lt).top :: (LN (p' ++ u ++ t.kids.loose t.c) ++ N) := fun l hl => by
  refine mC _ (mL _ (lL ?_));exact List.mem_append_right _ hl
 have h0 := jb (t.c : Int) (t.kids.loose t.c) z (by omega) (lc (p' ++ u)) (by rw [vM]; omega) (t.kids.loose t.c) [] H2 k (by omega) rfl;simp only [ek,S];rw [vM];have e0 : lc (p' ++ u) ++ lc (pos []) = lc (p' ++ u) := by simp [pos,lc,cs]
 rw [e0] at h0;refine h0.bind ?_;rintro _ ⟨a2,rfl,H3⟩;refine (qs H3).bind ?_;rintro _ ⟨a3,rfl,H4⟩;have ec : lc (p' ++ u) ++ lc (pos (t.kids.loose t.c)) = lc (p' ++ u ++ pos (t.kids.loose t.c)) := (vr _ _).symm;have a8 : (pos (t.kids.loose t.c)).length <= t.r := by
  have : (pos (t.kids.loose t.c)).length = (t.kids.trees.filter fun t => !(t.r == 0)).length := by
   rw [<- xK t.kids t.c,List.filter_map,lM]; rfl
  omega
 have b2 : (zer (t.kids.loose t.c)).length <= t.r + 1 := by
  have : (zer (t.kids.loose t.c)).length = (t.kids.trees.filter fun t => t.r == 0).length := by
   rw [<- xK t.kids t.c,List.filter_map,lM]; rfl
  omega
 have U : (LN (p' ++ u ++ t.kids.loose t.c) ++ N).Perm (LN (p' ++ u ++ pos (t.kids.loose t.c)) ++ (LN (zer (t.kids.loose t.c)) ++ N)) := by
  have h1 := gq (bq (t.kids.loose t.c));rw [vn] at h1;refine npm fun P => ?_
  have := h1.countP_eq P;simp only [vn,List.countP_append] at this ⊢; omega
 have H5 := Hp.p H4 U;have x : ∀ l ∈ t.kids.loose t.c,GT true it l.t := tC Z;simp only [ec];refine (rQ (b := true) (k := k) (by omega) (p' ++ u ++ pos (t.kids.loose t.c)) (by rw [lA]; omega) H5 (by
  intro l hl;rcases List.mem_append.1 hl with hl | hl
  ·refine hg l.t ?_;rw [<- List.map_append];exact List.mem_map_of_mem hl
  ·exact x l (List.mem_filter.1 hl).1)).bind ?_
 rintro _ ⟨y,a4,rfl,H6,g1,g2,g3⟩;have H7 : Hp κ _ a4 it (LN (zer (t.kids.loose t.c)) ++ (nd y (-1) ++ N)) _ := H6.p (npm fun P => by simp only [List.countP_append]; omega);have J : ∀ l ∈ zer (t.kids.loose t.c),l.t.r = 0 /\ l.t.kids = .nil := by
  intro l hl;obtain ⟨h1,h2⟩ := List.mem_filter.1 hl;have h3 : l.t.r = 0 := by simpa using h2
  refine ⟨h3,?_⟩;have h4 := (x l h1).sk;rw [h3] at h4;exact A9 h4
 have b1 : (TC ((zer (t.kids.loose t.c)).map Lt.t)).length = (zer (t.kids.loose t.c)).length := by
  have : ∀ ls : List Lt,(∀ l ∈ ls,l.t.r = 0 /\ l.t.kids = .nil) -> (TC (ls.map Lt.t)).length = ls.length := by
   intro ls;induction ls with
   | nil => intro _; rfl
   | cons l ls ih =>
    intro h;rw [pC,qH,lA,ih fun l hl => h l (mC _ hl)];simp [Tr.cells,(h l (List.mem_cons_self ..)).2,F.cells]; omega
  exact this _ J
 have j : (TC ((zer (t.kids.loose t.c)).map Lt.t) ++ y.cells).Perm (TC (p'.map Lt.t ++ u.map Lt.t) ++ t.kids.cells) := by
  have h1 := dA ((bq (t.kids.loose t.c)).map Lt.t);rw [List.map_append,uA,xK,<- F.xk] at h1;refine cpm fun P => ?_
  have h2 := h1.countP_eq P;have h3 := g3.countP_eq P;simp only [List.map_append,uA,List.countP_append] at h2 h3 ⊢; omega
 have Y := (rT e).length_eq;rw [F.vA,lC] at Y;have I := j.length_eq;rw [lA,b1,F.vA] at I;have h1 := jc ((it t.c).i : Int) (zer (t.kids.loose t.c)) (by omega) f.size b0 (zer (t.kids.loose t.c)) [] y H7 k (by omega) rfl ⟨g1,.of g2⟩ J (by omega);rw [vM];refine h1.bind ?_;rintro _ ⟨f2,O,a5,rfl,H8,W,X,a7,a6⟩;refine ⟨_,rfl,f2,O,a5,rfl,H8.mono ?_,W,X.trans j,(j.map O).symm.trans (a7.trans (j.map it)),fun d hd => a6 d fun h => hd (j.mem_iff.1 h)⟩;rw [lA];omega
theorem jI {k : Nat} {f : F} (H : Hp κ n a it (nd f (-1) ++ N) L) (z : HB true it f) (B : f ≠ .nil) (hs : f.size < 1024) (hk : 95000 < k) :
  Do (nj k a f.hd) fun r => ∃ c y it' a',r = (y.hd,((it c).i : Int),a') /\ Hp κ (n + 900) a' it' (nd y (-1) ++ N) (((it c).i,(it c).cell (-1)) :: L) /\ HB true it' y /\ (f.cells.map it).Perm (it c :: y.cells.map it') /\ (∀ d,d ∉ f.cells -> it' d = it d) /\ c ∈ f.cells /\ ∀ d ∈ f.cells,¬ (it d).lt (it c) := by
 unfold nj;have j : ∀ ν ∈ nd f (-1),ν ∈ nd f (-1) ++ N := fun ν h => mL _ h
 have D := rC H;have U := f.vX;have O := H.cap;have J : f.size < 2 ^ 10 := by simpa using hs
 have hlen := z.len J;cases ef : f.trees with
 | nil =>
  cases f with
  | nil => exact absurd rfl B
  | cons => simp [F.trees] at ef
 | cons t0 Y =>
  have x : yr a f.hd = some true := by
   cases f with
   | nil => exact absurd rfl B
   | cons c r kids rest => exact H.live (j _ (List.mem_cons_self ..))
  refine Do.assoc (Do.seq x ?_);refine Do.seq rfl (Do.f rfl ?_);refine (ug (k := k) H j (by omega) (by omega)).bind ?_;rintro _ ⟨a1,rfl,H1⟩;refine (oC (k := k) H1 j z ef hk (by omega)).bind ?_;rintro _ ⟨t,a2,ht,rfl,I,A⟩;obtain ⟨p,q,e,hp,hq⟩ := pF I ht;have X := z.lt J t ht;have W : (p ++ q).length + 1 = f.len := by unfold F.len; rw [e]; simp; omega
  refine (se (k := k) I e hp hq (fun s hs => z.good s (by rw [e]; rcases List.mem_append.1 hs with h | h <;> simp [h])) (z.good t ht).kids (z.good t ht).sk (by omega) (by omega) hs hk).bind ?_;rintro _ ⟨y,it',a3,rfl,S,h1,h2,h3,h4⟩;have u := rT e;refine ⟨_,rfl,t.c,y,it',a3,rfl,S.mono (by omega),h1,?_,fun d hd => h4 d fun h => hd (u.mem_iff.2 (mC _ h)),u.mem_iff.2 (List.mem_cons_self ..),A⟩;refine (u.map it).trans ?_;rw [pC];exact (h3.symm.trans (h2.symm.map it')).cons _
theorem lu {k : Nat} {f : F} {x : It} (H : Hp κ n a it (nd f (-1) ++ N) ((x.i,x.cell (-1)) :: L)) (D : HB true it f) (hs : f.size < 1024) (hr : 2 * f.size + 2 * N.length + 1 + L.length < κ.C) (hk : 95000 < k) :
  Do (qX k a f.hd (x.i : Int)) fun r => ∃ j it' a',r = (j.hd,true,a') /\ Hp κ (n + 500) a' it' (nd j (-1) ++ N) L /\ HB true it' j /\ (j.cells.map it').Perm (x :: f.cells.map it) /\ ∀ ν ∈ N,it' ν.c = it ν.c := by
 unfold qX;have S : f.size < 2 ^ 10 := by simpa using hs
 refine (qt H (by rw [lA,qP]; omega)).bind ?_;rintro _ ⟨c,a1,rfl,H1,I⟩;refine Do.f rfl ?_;have u : c ∉ f.cells := fun h => by
  obtain ⟨ν,z,e⟩ := rR (up := -1) h;exact I ν (mL _ z) e
 have B : HB true (upd it c x) f := D.congr fun d hd => ub _ _ (fun e => u (e ▸ hd))
 have J : Hp κ (n + 3) a1 (upd it c x) ((Tr.mk c 0 .nil).nd (-1) (-1) ++ (nd f (-1) ++ N)) L := H1;refine (lG (k := k) (by omega) J B (fun t ht => by have := D.lt S t ht; omega)).bind ?_;rintro _ ⟨j,it',a2,rfl,O,h1,h2,h3,h4⟩;refine ⟨_,rfl,j,it',a2,rfl,O.mono (by omega),h1,?_,fun ν z => ?_⟩
 ·refine (h2.map it').trans (h3.trans ?_);rw [pC,uQ,List.map_congr_left (f := upd it c x) (g := it) fun d hd => ub _ _ fun e => u (e ▸ hd)]
 ·have y := I ν (List.mem_append_right _ z);rw [h4 ν.c ?_,ub _ _ y];intro hm;rcases List.mem_cons.1 hm with A | A
  ·exact y A
  ·have := H.nd;rw [List.map_append,xr] at this;exact (List.nodup_append.1 this).2.2 _ A _ (List.mem_map_of_mem z) rfl
theorem tq {k : Nat} {f g : F} (H : Hp κ n a it (nd f (-1) ++ (nd g (-1) ++ N)) L) (hf : HB true it f) (B : HB true it g) (hs : f.size < 256) (hs' : g.size < 256) (hk : 95000 < k) :
  Do (qW k a f.hd g.hd) fun r => ∃ x a',r = (x.hd,a') /\ Hp κ (n + 500) a' it (nd x (-1) ++ N) L /\ HB true it x /\ x.cells.Perm (f.cells ++ g.cells) := by
 unfold qW;have u := rC H;rw [lA,qP] at u;have W := f.vX;have D := g.vX;have A := H.cap;have hlen := hf.len (R := 8) (by simpa using hs);have j := B.len (R := 8) (by simpa using hs');by_cases e : f.hd = g.hd
 ·have : f = .nil /\ g = .nil := by
   cases f with
   | nil =>
    cases g with
    | nil => exact ⟨rfl,rfl⟩
    | cons c r kids rest => simp only [F.hd] at e; omega
   | cons c r kids rest =>
    cases g with
    | nil => simp only [F.hd] at e; omega
    | cons c' r' y z =>
     simp only [F.hd] at e;have hn := H.nd;have : c = c' := by omega
     subst this;rw [nd,List.cons_append,pC,List.nodup_cons] at hn;exact absurd (by simp [nd]) hn.1
  obtain ⟨rfl,rfl⟩ := this;refine Do.t (by simp) ?_;exact ⟨_,rfl,.nil,a,rfl,H.mono (by omega),HB.nil,.refl _⟩
 ·refine Do.f (by simpa using e) ?_;refine (ug (k := k) H (fun ν h => mL _ h) (by omega) (by omega)).bind ?_;rintro _ ⟨a1,rfl,H1⟩;refine (ug (k := k) H1 (fun ν h => List.mem_append_right _ (mL _ h)) (by omega) (by omega)).bind ?_;rintro _ ⟨a2,rfl,I⟩;refine Do.seq (xh (by simp [cs] at *; unfold F.len at hlen j; omega)) ?_;have S : cs f.trees ++ cs g.trees = lc (f.loose (-1) ++ g.loose (-1)) := by
   rw [vr,lc,lc,xK,xK]
  have J : Hp κ (n + f.len + g.len) a2 it (LN (f.loose (-1) ++ g.loose (-1)) ++ N) L := by
   rw [vn,<- vk,<- vk,aA]; exact I
  have U : (f.loose (-1) ++ g.loose (-1)).length = f.len + g.len := by
   unfold F.len; rw [<- xK f (-1),<- xK g (-1)]; simp
  simp only [S];refine (rQ (b := true) (k := k) (by omega) _ (by omega) J (by
   intro l hl;rcases List.mem_append.1 hl with hl | hl
   ·exact tC hf.good l hl
   ·exact tC B.good l hl)).bind ?_
  rintro _ ⟨x,a3,rfl,O,g1,g2,g3⟩;refine ⟨_,rfl,x,a3,rfl,O.mono (by omega),⟨g1,.of g2⟩,g3.trans ?_⟩;rw [List.map_append,uA,xK,xK,<- F.xk,<- F.xk]
theorem tM {k : Nat} {f : F} {c : Nat} (H : Hp κ n a it (nd f (-1) ++ N) L) (j : HB true it f) (hc : c ∈ f.cells) (hs : f.size < 1024) (hk : 95000 < k) :
  Do (nh k a f.hd ((it c).i : Int)) fun r => ∃ it' u a',r = (u.hd,a') /\ Hp κ (n + 900) a' it' (nd u (-1) ++ N) (((it c).i,(it c).cell (-1)) :: L) /\ HB true it' u /\ (∀ d,d ∉ f.cells -> it' d = it d) /\ (f.cells.map it).Perm (it c :: u.cells.map it') /\ (∀ d ∈ u.cells,d ∈ f.cells) := by
 unfold nh uf;obtain ⟨ν,B,rfl⟩ := rR (up := -1) hc;have mν : ν ∈ nd f (-1) ++ N := mL _ B;have b6 := jv H;have y : 0 < f.size := by
  rw [<- F.vA]; exact List.length_pos_of_mem hc
 have J := rC H;have b3 := f.vX;have a5 := H.cap;have I : f.size < 2 ^ 10 := by simpa using hs
 have hlen := j.len I;obtain ⟨R,h1,h2,h3⟩ := size_le (b := true) H y fun t ht => (j.good t ht).sk
 have b2 := h3 10 I;refine Do.assoc ((Ar.cell H (H.item mν) (f := 9) (v := (ν.c : Int)) rfl (by omega) (by have := H.lt mν; omega)).bind ?_);rintro _ ⟨a1,rfl,H1⟩;refine Do.seq rfl ?_;refine Do.f (by simp) ?_;have := ng (k := k) true (nd f (-1)) j.upOK R (fun ν B => by
  obtain ⟨t,ht,e⟩ := nO f (-1) (fun t ht => (j.good t ht).sk) ν B;have := h1 t ht; omega) (N := N) (L := L) H1 ν B (by omega) h2 j.ord.any
 refine this.bind ?_;rintro _ ⟨μ,it',a2,rfl,hμ,H2,D,W,X,_,e5⟩;obtain ⟨O,Z⟩ := e5 rfl;rw [xr] at W X;obtain ⟨t,ht,et⟩ := cP (fun t ht => (j.good t ht).sk) hμ O;have z : ∀ ν ∈ nd f (-1),ν ∈ nd f (-1) ++ N := fun ν h => mL _ h
 refine (ug (k := k) H2 z (by omega) (by omega)).bind ?_;rintro _ ⟨a3,rfl,S⟩;rw [et] at Z D ⊢;refine Do.seq (oE (cs f.trees) (t.c : Int) (by rw [oF]; unfold F.len at hlen; omega) (by rw [oF]; unfold F.len at hlen; omega) (List.mem_map.2 ⟨t,ht,rfl⟩)) ?_;refine Do.f rfl ?_;obtain ⟨p,q,e,hp,hq⟩ := pF S ht;have hn : f.cells.Nodup := by
  have := H.nd;rw [List.map_append,xr] at this;exact (List.nodup_append.1 this).1
 obtain ⟨g1,g2⟩ := iK hn j e Z;have b5 := j.lt I t ht;have b4 : (p ++ q).length + 1 = f.len := by unfold F.len; rw [e]; simp; omega
 refine (se (k := k) S e hp hq g1 g2 (j.good t ht).sk (by omega) (by omega) hs hk).bind ?_;rintro _ ⟨u,A,a4,rfl,U,h4,Y,h6,h7⟩;rw [D] at U;have x := rT e;refine ⟨_,rfl,A,u,a4,rfl,U.mono (by omega),h4,fun d hd => ?_,?_,fun d hd => x.mem_iff.2 (mC _ (Y.mem_iff.1 hd))⟩
 ·rw [h7 d fun h => hd (x.mem_iff.2 (mC _ h)),W d hd]
 ·refine X.symm.trans ?_;have := x.map it';rw [pC,D] at this;exact this.trans ((h6.symm.trans (Y.symm.map A)).cons _)
end Sk
end
end
noncomputable section
set_option maxRecDepth 10000
namespace Sk
def KH : KS := fun it M r => ∃ f : F,M = nd f (-1) /\ r = f.hd /\ HB true it f
section
variable {κ : Cfg} {n : Nat} {a : za} {L : Heap} {r : Int} {its : List It} {C : Heap}
theorem yB {it : Nat -> It} (f : F) (u : Int) : ((nd f u).map fun ν => it ν.c) = f.cells.map it := by rw [<- xr f u,List.map_map]; rfl
theorem uU {it : Nat -> It} {f : F} (h : its.Perm ((nd f (-1)).map fun ν => it ν.c)) : its.length = f.size := by rw [h.length_eq,lM,qP]
theorem cG : HK KH (-1) [] [] := ⟨fun _ => ⟨0,0,0⟩,[],⟨.nil,rfl,rfl,HB.nil⟩,.refl _,.refl _⟩
theorem iF {k : Nat} {x : It} (h : HK KH r its C) (H : Ar κ n a (C ++ ((x.i,x.cell (-1)) :: L))) (hr : 2 * its.length + 1 + L.length < κ.C) (hs : its.length < 1024) (hk : 95000 < k) :
  Do (qX k a r (x.i : Int)) fun res => ∃ r' C' a',res = (r',true,a') /\ HK KH r' (x :: its) C' /\ Ar κ (n + 500) a' (C' ++ L) := by
 obtain ⟨it,M,⟨f,rfl,rfl,u⟩,hC,e⟩ := h;have hl := uU e;have t : Hp κ n a it (nd f (-1) ++ []) ((x.i,x.cell (-1)) :: L) := by rw [aN]; exact Ar.p H (hC.append_right _)
 refine (lu t u (by omega) (by simp only [List.length_nil]; omega) hk).mono ?_;rintro _ ⟨j,it',a',rfl,H1,h1,h2,-⟩;rw [aN] at H1;refine ⟨j.hd,_,a',rfl,⟨it',_,⟨j,rfl,rfl,h1⟩,.refl _,?_⟩,H1⟩;rw [yB] at e ⊢;exact (e.cons x).trans h2.symm
theorem cA {k : Nat} (h : HK KH r its C) (H : Ar κ n a (C ++ L)) (hs : its.length < 1024) (hk : 95000 < k) : Do (ni k a r) fun res => ∃ a',Ar κ (n + 100) a' (C ++ L) /\ ((its = [] /\ res = (-1,a')) \/ ∃ x ∈ its,res = ((x.i : Int),a') /\ ∀ y ∈ its,¬ y.lt x) := by
 obtain ⟨it,M,⟨f,rfl,rfl,j⟩,hC,e⟩ := h;have hl := uU e;have t : Hp κ n a it (nd f (-1) ++ []) L := by rw [aN]; exact Ar.p H (hC.append_right _)
 have hlen := j.len (R := 10) (by omega);refine (jD t j hk).mono ?_;rintro res ⟨a',H1,h1⟩;rw [aN] at H1;rw [yB] at e;refine ⟨a',Ar.mono (Ar.p H1 (hC.append_right _).symm) (by omega),?_⟩;rcases h1 with ⟨rfl,rfl⟩ | ⟨c,u,rfl,h2⟩
 ·exact Or.inl ⟨e.eq_nil,rfl⟩
 ·refine Or.inr ⟨it c,e.mem_iff.2 (List.mem_map_of_mem u),rfl,fun y z => ?_⟩;obtain ⟨d,hd,rfl⟩ := List.mem_map.1 (e.mem_iff.1 z);exact h2 d hd
theorem cK {k : Nat} (h : HK KH r its C) (H : Ar κ n a (C ++ L)) (t : its ≠ []) (hs : its.length < 1024) (hk : 95000 < k) :
  Do (nj k a r) fun res => ∃ x q r' C' a',res = (r',(x.i : Int),a') /\ its.Perm (x :: q) /\ (∀ y ∈ its,¬ y.lt x) /\ HK KH r' q C' /\ Ar κ (n + 900) a' (C' ++ ((x.i,x.cell (-1)) :: L)) := by
 obtain ⟨it,M,⟨f,rfl,rfl,z⟩,hC,e⟩ := h;have hl := uU e;have u : Hp κ n a it (nd f (-1) ++ []) L := by rw [aN]; exact Ar.p H (hC.append_right _)
 rw [yB] at e;have hf : f ≠ .nil := by rintro rfl; exact t e.eq_nil
 refine (jI u z hf (by omega) hk).mono ?_;rintro _ ⟨c,j,it',a',rfl,H1,h1,h2,-,B,h3⟩;rw [aN] at H1;refine ⟨it c,j.cells.map it',j.hd,_,a',rfl,e.trans h2,fun y A => ?_,⟨it',_,⟨j,rfl,rfl,h1⟩,.refl _,by rw [yB]⟩,H1⟩;obtain ⟨d,hd,rfl⟩ := List.mem_map.1 (e.mem_iff.1 A);exact h3 d hd
theorem dO {k : Nat} {x : It} (h : HK KH r its C) (z : x ∈ its) (H : Ar κ n a (C ++ L)) (hs : its.length < 1024) (hk : 95000 < k) :
  Do (nh k a r (x.i : Int)) fun res => ∃ q r' C' a',res = (r',a') /\ its.Perm (x :: q) /\ HK KH r' q C' /\ Ar κ (n + 900) a' (C' ++ ((x.i,x.cell (-1)) :: L)) := by
 obtain ⟨it,M,⟨f,rfl,rfl,y⟩,hC,e⟩ := h;have hl := uU e;have t : Hp κ n a it (nd f (-1) ++ []) L := by rw [aN]; exact Ar.p H (hC.append_right _)
 rw [yB] at e;obtain ⟨c,u,rfl⟩ := List.mem_map.1 (e.mem_iff.1 z);refine (tM t y u (by omega) hk).mono ?_;rintro _ ⟨it',j,a',rfl,H1,h1,-,h2,-⟩;rw [aN] at H1;exact ⟨j.cells.map it',j.hd,_,a',rfl,e.trans h2,⟨it',_,⟨j,rfl,rfl,h1⟩,.refl _,by rw [yB]⟩,H1⟩
theorem ij {k : Nat} {x y : It} (h : HL KH r its x y C) (hi : y.i = x.i) (u : ¬ x.lt y) (H : Ar κ n a (C ++ L)) (hs : its.length < 1024) (hk : 95000 < k) :
  Do (qV k a r (y.i : Int)) fun res => ∃ r' q C' a',res = (r',a') /\ its.Perm (x :: q) /\ HK KH r' (y :: q) C' /\ Ar κ (n + 150) a' (C' ++ L) := by
 obtain ⟨it,M,ν,⟨f,rfl,rfl,D⟩,B,rfl,hC,A⟩ := h;have hl := uU A;have z : Hp κ n a (upd it ν.c y) (nd f (-1) ++ []) L := by rw [aN]; exact Ar.p H (hC.append_right _)
 have hn := z.nd;rw [aN] at hn;obtain ⟨q,t,e⟩ := gJ (y := y) hn B rfl;have j : ν.c ∈ f.cells := by rw [<- xr f (-1)]; exact List.mem_map_of_mem B
 refine (mQ z D j u (by omega) (Q := 10) (by omega) (by omega)).mono ?_;rintro _ ⟨it',a',rfl,H1,h1,-,h2⟩;rw [aN] at H1;refine ⟨f.hd,q,_,a',rfl,A.trans t,⟨it',_,⟨f,rfl,rfl,h1⟩,.refl _,?_⟩,Ar.mono H1 (by omega)⟩;rw [yB] at e ⊢;exact e.symm.trans h2.symm
theorem iw {k : Nat} {s : Int} {e : List It} {C' : Heap} (h : HK KH r its C) (Y : HK KH s e C') (H : Ar κ n a (C ++ (C' ++ L))) (hs : its.length < 256) (hs' : e.length < 256) (hk : 95000 < k) :
  Do (qW k a r s) fun res => ∃ t y a',res = (t,a') /\ HK KH t (its ++ e) y /\ Ar κ (n + 500) a' (y ++ L) := by
 obtain ⟨it,M,⟨t,rfl,rfl,ho⟩,hC,F⟩ := h;obtain ⟨it',M',⟨j,rfl,rfl,J⟩,z,x⟩ := Y;have hl := uU F;have Z := uU x;rw [yB] at F x;have A : ∀ d ∈ t.cells,d ∉ j.cells := by
  have hn := Ar.nodup H;have h1 := ((((hC.append ((z).append_right L)).map Prod.fst)).nodup_iff).1 hn;rw [List.map_append,List.map_append] at h1;intro d hd I;have B : d ∈ (lay it (nd t (-1))).map Prod.fst := ((ry it (nd t (-1))).mem_iff).2 (mL _ (by rw [xr]; exact hd));have D : d ∈ (lay it' (nd j (-1))).map Prod.fst := ((ry it' (nd j (-1))).mem_iff).2 (mL _ (by rw [xr]; exact I));exact (List.nodup_append.1 h1).2.2 d B d (mL _ D) rfl
 let u : Nat -> It := fun d => if d ∈ t.cells then it d else it' d
 have S : ∀ d ∈ t.cells,u d = it d := fun d hd => if_pos hd
 have U : ∀ d ∈ j.cells,u d = it' d := fun d hd => if_neg fun h => A d h hd
 have B : lay u (nd t (-1)) = lay it (nd t (-1)) := uE fun ν O => S _ (by rw [<- xr t (-1)]; exact List.mem_map_of_mem O)
 have D : lay u (nd j (-1)) = lay it' (nd j (-1)) := uE fun ν O => U _ (by rw [<- xr j (-1)]; exact List.mem_map_of_mem O)
 have X : Hp κ n a u (nd t (-1) ++ (nd j (-1) ++ [])) L := by
  unfold Hp;rw [aN,nF,B,D,aA];exact Ar.p H (hC.append (z.append_right L))
 refine (tq X (ho.congr S) (J.congr U) (by omega) (by omega) hk).mono ?_;rintro _ ⟨W,a1,rfl,H1,h1,h2⟩;rw [aN] at H1;refine ⟨W.hd,_,a1,rfl,⟨u,_,⟨W,rfl,rfl,h1⟩,.refl _,?_⟩,H1⟩;rw [yB];have h3 := (h2.map u).symm;rw [List.map_append] at h3;have f1 : t.cells.map u = t.cells.map it := List.map_congr_left S;have f2 : j.cells.map u = j.cells.map it' := List.map_congr_left U;rw [f1,f2] at h3;exact (F.append x).trans h3
end
end Sk
end
noncomputable section
set_option maxRecDepth 10000
section
variable {K V : Type} {eq : K -> K -> Bool}
theorem iu (hq : ∀ a b,eq a b = true ↔ a = b) {k : K} : ∀ {m : List (K × V)},k ∉ m.map Prod.fst -> mGet eq k m = none
 | [],_ => rfl
 | p :: m,h => by
  simp only [pC,iC,not_or] at h;rw [mGet,show eq k p.1 = false by simpa using fun e => h.1 ((hq _ _).1 e),cF];exact iu hq h.2
theorem qn (hq : ∀ a b,eq a b = true ↔ a = b) {k : K} {v : V} {s : K} {u : V} : ∀ {m : List (K × V)},mGet eq s (mPut eq k v m) = some u ↔ (s = k /\ u = v) \/ (s ≠ k /\ mGet eq s m = some u)
 | [] => by
  simp only [mPut,mGet];cases j : eq s k with
  | true => have := (hq _ _).1 j; simp [this,eq_comm]
  | false =>
   have : s ≠ k := fun e => by rw [(hq _ _).2 e] at j; cases j
   simp [this]
 | p :: m => by
  rw [mPut];cases hk : eq k p.1 with
  | true =>
   have x := (hq _ _).1 hk;rw [cT,mGet,mGet];cases j : eq s k with
   | true => have := (hq _ _).1 j; simp [this,eq_comm]
   | false =>
    have t : s ≠ k := fun e => by rw [(hq _ _).2 e] at j; cases j
    have : eq s p.1 = false := by rw [<- x]; exact j
    simp [t,this]
  | false =>
   rw [cF,mGet,mGet];cases j : eq s p.1 with
   | true =>
    have x := (hq _ _).1 j;have t : s ≠ k := fun e => by rw [<- x,(hq _ _).2 e.symm] at hk; cases hk
    simp [t]
   | false =>
    rw [cF,cF];exact qn hq
theorem sW (hq : ∀ a b,eq a b = true ↔ a = b) {k : K} {v : V} : ∀ {m : List (K × V)},(m.map Prod.fst).Nodup -> ((mPut eq k v m).map Prod.fst).Nodup
 | [],_ => by simp [mPut]
 | p :: m,h => by
  simp only [pC,List.nodup_cons] at h;rw [mPut];cases hk : eq k p.1 with
  | true =>
   have t := (hq _ _).1 hk;rw [cT];simp only [pC,List.nodup_cons];rw [t]; exact h
  | false =>
   rw [cF];simp only [pC,List.nodup_cons];refine ⟨fun hm => ?_,sW hq h.2⟩;have key : ∀ {m : List (K × V)} {s : K},s ∈ (mPut eq k v m).map Prod.fst -> s = k \/ s ∈ m.map Prod.fst := by
    intro m;induction m with
    | nil => intro s hs; simp [mPut] at hs; exact Or.inl hs
    | cons q m ih =>
     intro s hs;rw [mPut] at hs;cases j : eq k q.1 with
     | true =>
      rw [j,cT] at hs;simp only [pC,iC] at hs ⊢;rcases hs with h | h
      ·exact Or.inl h
      ·exact Or.inr (Or.inr h)
     | false =>
      rw [j,cF] at hs;simp only [pC,iC] at hs ⊢;rcases hs with h | h
      ·exact Or.inr (Or.inl h)
      ·rcases ih h with h | h
       ·exact Or.inl h
       ·exact Or.inr (Or.inr h)
   rcases key hm with e | e
   ·rw [(hq _ _).2 e.symm] at hk; cases hk
   ·exact h.1 e
theorem fR {k s : K} : ∀ {m : List (K × V)},s ∈ (mDel eq k m).map Prod.fst -> s ∈ m.map Prod.fst
 | [],h => h
 | p :: m,h => by
  rw [mDel] at h;cases hk : eq k p.1 with
  | true => rw [hk,cT] at h; exact mC _ h
  | false =>
   rw [hk,cF] at h;simp only [pC,iC] at h ⊢;rcases h with h | h
   ·exact Or.inl h
   ·exact Or.inr (fR h)
theorem rY {k : K} : ∀ {m : List (K × V)},(m.map Prod.fst).Nodup -> ((mDel eq k m).map Prod.fst).Nodup
 | [],h => h
 | p :: m,h => by
  simp only [pC,List.nodup_cons] at h;rw [mDel];cases hk : eq k p.1 with
  | true => exact h.2
  | false =>
   simp only [cF,pC,List.nodup_cons];exact ⟨fun hm => h.1 (fR hm),rY h.2⟩
theorem pw (hq : ∀ a b,eq a b = true ↔ a = b) {k s : K} {u : V} : ∀ {m : List (K × V)},(m.map Prod.fst).Nodup -> (mGet eq s (mDel eq k m) = some u ↔ s ≠ k /\ mGet eq s m = some u)
 | [],_ => by simp [mDel,mGet]
 | p :: m,h => by
  simp only [pC,List.nodup_cons] at h;rw [mDel,mGet];cases hk : eq k p.1 with
  | true =>
   have j := (hq _ _).1 hk;rw [cT];by_cases hs : s = k
   ·subst hs;rw [iu hq (by rw [j]; exact h.1)];simp
   ·have : eq s p.1 = false := by rw [<- j]; simpa using fun e => hs ((hq _ _).1 e)
    simp [this,hs]
  | false =>
   rw [cF,mGet];cases x : eq s p.1 with
   | true =>
    have j := (hq _ _).1 x;have t : s ≠ k := fun e => by rw [<- j,(hq _ _).2 e.symm] at hk; cases hk
    simp [t]
   | false =>
    rw [cF,cF];exact pw hq h.2
end
theorem uy (a b : zd) : zd.eq a b = true ↔ a = b := by
 cases a; cases b; simp [zd.eq]
theorem AJ (a b : Int) : kI a b = true ↔ a = b := by simp [kI]
def Kd (k : Int) : Prop := k = 1 \/ k = 2 \/ k = 3
def KD (k : Int) : KS := if k = 1 then Le.KL else if k = 2 then Bi.KH else Sk.KH
def bd (k : Int) (m : Nat) : Nat := if k = 1 then 43 * m + 50 else 900
section
variable {κ : Cfg} {n : Nat} {a : za} {L : Heap} {k r : Int} {its : List It} {C : Heap} {f : Nat}
theorem CZ (hk : Kd k) : HK (KD k) (-1) [] [] := by
 rcases hk with rfl | rfl | rfl
 ·exact Le.cG
 ·exact Bi.cG
 ·exact Sk.cG
theorem BO {x : It} (hk : Kd k) (h : HK (KD k) r its C) (H : Ar κ n a (C ++ ((x.i,x.cell (-1)) :: L))) (hr : 2 * its.length + 1 + L.length < κ.C) (hs : its.length < 1024) (hf : 95000 < f) :
  Do (oO f k a r (x.i : Int)) fun res => ∃ r' C' a',res = (r',true,a') /\ HK (KD k) r' (x :: its) C' /\ Ar κ (n + bd k its.length) a' (C' ++ L) := by
 unfold oO;rcases hk with rfl | rfl | rfl
 ·refine Do.t rfl ((Le.iF (k := f) h H hr (by omega)).bind ?_);rintro _ ⟨r',C',a',rfl,h1,H1⟩;exact ⟨_,rfl,r',C',a',rfl,h1,H1.mono (by simp only [bd,if_true]; omega)⟩
 ·refine Do.f rfl (Do.t rfl ((Bi.iF (k := f) h H hr hs hf).bind ?_));rintro _ ⟨r',C',a',rfl,h1,H1⟩;exact ⟨_,rfl,r',C',a',rfl,h1,H1.mono (by simp [bd])⟩
 ·refine Do.f rfl (Do.f rfl (Do.t rfl ((Sk.iF (k := f) h H hr hs hf).bind ?_)));rintro _ ⟨r',C',a',rfl,h1,H1⟩;exact ⟨_,rfl,r',C',a',rfl,h1,H1.mono (by simp [bd])⟩
theorem CY (hk : Kd k) (h : HK (KD k) r its C) (H : Ar κ n a (C ++ L)) (hs : its.length < 1024) (hf : 95000 < f) :
  Do (mh f k a r) fun res => ∃ a',Ar κ (n + 100) a' (C ++ L) /\ ((its = [] /\ res = (-1,a')) \/ ∃ x ∈ its,res = ((x.i : Int),a') /\ ∀ y ∈ its,¬ y.lt x) := by
 unfold mh;rcases hk with rfl | rfl | rfl
 ·refine Do.t rfl ((Le.cA h H).bind ?_);rintro ⟨v,b⟩ ⟨a',H1,h1⟩;exact ⟨_,rfl,a',H1.mono (by omega),h1⟩
 ·refine Do.f rfl (Do.t rfl ((Bi.cA (k := f) h H hs hf).bind ?_));rintro ⟨v,b⟩ ⟨a',H1,h1⟩;exact ⟨_,rfl,a',H1,h1⟩
 ·refine Do.f rfl (Do.f rfl (Do.t rfl ((Sk.cA (k := f) h H hs hf).bind ?_)));rintro ⟨v,b⟩ ⟨a',H1,h1⟩;exact ⟨_,rfl,a',H1,h1⟩
theorem C5 (hk : Kd k) (h : HK (KD k) r its C) (H : Ar κ n a (C ++ L)) (e : its ≠ []) (hs : its.length < 1024) (hf : 95000 < f) :
  Do (mj f k a r) fun res => ∃ x q r' C' a',res = (r',(x.i : Int),a') /\ its.Perm (x :: q) /\ (∀ y ∈ its,¬ y.lt x) /\ HK (KD k) r' q C' /\ Ar κ (n + bd k its.length) a' (C' ++ ((x.i,x.cell (-1)) :: L)) := by
 unfold mj;rcases hk with rfl | rfl | rfl
 ·refine Do.t rfl ((Le.cK (k := f) h H e (by omega)).bind ?_);rintro _ ⟨x,q,r',C',a',rfl,h1,h2,h3,H1⟩;exact ⟨_,rfl,x,q,r',C',a',rfl,h1,h2,h3,H1.mono (by simp only [bd,if_true]; omega)⟩
 ·refine Do.f rfl (Do.t rfl ((Bi.cK (k := f) h H e hs hf).bind ?_));rintro _ ⟨x,q,r',C',a',rfl,h1,h2,h3,H1⟩;exact ⟨_,rfl,x,q,r',C',a',rfl,h1,h2,h3,H1.mono (by simp [bd])⟩
 ·refine Do.f rfl (Do.f rfl (Do.t rfl ((Sk.cK (k := f) h H e hs hf).bind ?_)));rintro _ ⟨x,q,r',C',a',rfl,h1,h2,h3,H1⟩;exact ⟨_,rfl,x,q,r',C',a',rfl,h1,h2,h3,H1.mono (by simp [bd])⟩
theorem CX {x : It} (hk : Kd k) (h : HK (KD k) r its C) (e : x ∈ its) (H : Ar κ n a (C ++ L)) (hs : its.length < 1024) (hf : 95000 < f) :
  Do (mg f k a r (x.i : Int)) fun res => ∃ q r' C' a',res = (r',a') /\ its.Perm (x :: q) /\ HK (KD k) r' q C' /\ Ar κ (n + bd k its.length) a' (C' ++ ((x.i,x.cell (-1)) :: L)) := by
 unfold mg;rcases hk with rfl | rfl | rfl
 ·refine Do.t rfl ((Le.dO (k := f) h e H (by omega)).bind ?_);rintro _ ⟨q,r',C',a',rfl,h1,h3,H1⟩;exact ⟨_,rfl,q,r',C',a',rfl,h1,h3,H1.mono (by simp only [bd,if_true]; omega)⟩
 ·refine Do.f rfl (Do.t rfl ((Bi.dO (k := f) h e H hs hf).bind ?_));rintro _ ⟨q,r',C',a',rfl,h1,h3,H1⟩;exact ⟨_,rfl,q,r',C',a',rfl,h1,h3,H1.mono (by simp [bd])⟩
 ·refine Do.f rfl (Do.f rfl (Do.t rfl ((Sk.dO (k := f) h e H hs hf).bind ?_)));rintro _ ⟨q,r',C',a',rfl,h1,h3,H1⟩;exact ⟨_,rfl,q,r',C',a',rfl,h1,h3,H1.mono (by simp [bd])⟩
theorem BM {x y : It} (hk : Kd k) (h : HL (KD k) r its x y C) (hi : y.i = x.i) (e : ¬ x.lt y) (H : Ar κ n a (C ++ L)) (hs : its.length < 1024) (hf : 95000 < f) :
  Do (oM f k a r (y.i : Int)) fun res => ∃ r' q C' a',res = (r',a') /\ its.Perm (x :: q) /\ HK (KD k) r' (y :: q) C' /\ Ar κ (n + bd k its.length) a' (C' ++ L) := by
 unfold oM;rcases hk with rfl | rfl | rfl
 ·refine Do.t rfl ((Le.ij (k := f) h hi e H (by omega)).bind ?_);rintro _ ⟨r',q,C',a',rfl,h1,h3,H1⟩;exact ⟨_,rfl,r',q,C',a',rfl,h1,h3,H1.mono (by simp only [bd,if_true]; omega)⟩
 ·refine Do.f rfl (Do.t rfl ((Bi.ij (k := f) h hi e H hs hf).bind ?_));rintro _ ⟨r',q,C',a',rfl,h1,h3,H1⟩;exact ⟨_,rfl,r',q,C',a',rfl,h1,h3,H1.mono (by simp [bd])⟩
 ·refine Do.f rfl (Do.f rfl (Do.t rfl ((Sk.ij (k := f) h hi e H hs hf).bind ?_)));rintro _ ⟨r',q,C',a',rfl,h1,h3,H1⟩;exact ⟨_,rfl,r',q,C',a',rfl,h1,h3,H1.mono (by simp [bd])⟩
theorem BN {s : Int} {j : List It} {C' : Heap} (hk : Kd k) (h : HK (KD k) r its C) (u : HK (KD k) s j C') (H : Ar κ n a (C ++ (C' ++ L))) (hs : its.length < 256) (hs' : j.length < 256) (hf : 95000 < f) :
  Do (oN f k a r s) fun res => ∃ t e a',res = (t,a') /\ HK (KD k) t (its ++ j) e /\ Ar κ (n + bd k (its.length + j.length)) a' (e ++ L) := by
 unfold oN;rcases hk with rfl | rfl | rfl
 ·refine Do.t rfl ((Le.iw (k := f) h u H (by omega)).bind ?_);rintro _ ⟨t,e,a',rfl,h1,H1⟩;exact ⟨_,rfl,t,e,a',rfl,h1,H1.mono (by simp only [bd,if_true]; omega)⟩
 ·refine Do.f rfl (Do.t rfl ((Bi.iw (k := f) h u H hs hs' hf).bind ?_));rintro _ ⟨t,e,a',rfl,h1,H1⟩;exact ⟨_,rfl,t,e,a',rfl,h1,H1.mono (by simp [bd])⟩
 ·refine Do.f rfl (Do.f rfl (Do.t rfl ((Sk.iw (k := f) h u H hs hs' hf).bind ?_)));rintro _ ⟨t,e,a',rfl,h1,H1⟩;exact ⟨_,rfl,t,e,a',rfl,h1,H1.mono (by simp [bd])⟩
end
end
noncomputable section
set_option maxRecDepth 10000
namespace Ph
structure Inv (p : zj) (T : Nat) : Prop where
 most : 0 <= p.most /\ p.most <= 65536
 len : (p.l.length : Int) <= p.most
 fre : ∀ f ∈ p.free,∃ (j : Nat) (x : zx),f = (j : Int) /\ p.l[j]? = some x /\ x.taken = false
 fnd : p.free.Nodup
 cov : ∀ (j : Nat) (x : zx),p.l[j]? = some x -> x.taken = false -> (j : Int) ∈ p.free
 gen : ∀ (j : Nat) (x : zx),p.l[j]? = some x -> 1 <= x.gen /\ x.gen <= T
def Live (p : zj) (r : zd) (v : zC) : Prop := ∃ j : Nat,r.At = (j : Int) /\ p.l[j]? = some ⟨r.Gen,true,v⟩
section
variable {p : zj} {T : Nat} {r : zd} {v : zC}
theorem Live.idx (h : Live p r v) : mIdx p.l r.At = some ⟨r.Gen,true,v⟩ := by
 obtain ⟨j,e,h⟩ := h;rw [e,yR]; exact h
theorem Live.uniq {w : zC} (h : Live p r v) (t : Live p r w) : v = w := by
 have j := h.idx;have e := t.idx;rw [j] at e;simp only [Option.some.injEq,zx.mk.injEq,true_and] at e;exact e
theorem Inv.flen (I : Inv p T) : p.free.length <= p.l.length := by
 have h1 : (p.free.map Int.toNat).Nodup := List.pairwise_map.2 (I.fnd.imp_of_mem fun {x y} u z t e => by
  obtain ⟨i,_,rfl,_⟩ := I.fre x u;obtain ⟨j,_,rfl,_⟩ := I.fre y z;simp only [tN] at e;exact t (by rw [e]))
 have h2 := qQ (m := List.range p.l.length) h1 fun x u => by
  obtain ⟨f,hf,rfl⟩ := List.mem_map.1 u;obtain ⟨j,y,rfl,hj,_⟩ := I.fre f hf;simp only [tN,List.mem_range];exact (List.getElem?_eq_some_iff.1 hj).1
 simpa using h2
theorem wS (I : Inv p T) (h : Live p r v) : y3 p r = some (some r.At,0) := by
 have hi := h.idx;obtain ⟨j,e,h⟩ := h;have t := I.gen _ _ h;simp only at t;have hl := (List.getElem?_eq_some_iff.1 h).1;unfold y3;rw [dF (by omega),dF (by omega),dF (by omega),hi];simp
theorem vE (I : Inv p T) (h : Live p r v) : yE p r = some (v,0) := by
 unfold yE;rw [wS I h];simp [uT,oS,h.idx]
theorem qy (I : Inv p T) (h : Live p r v) (w : zC) : xH p r w = some (0,zj.mk p.most (mSet p.l r.At ⟨r.Gen,true,w⟩) p.free) := by
 unfold xH;rw [wS I h];simp [uT,oS,h.idx]
theorem rV (I : Inv p T) (h : Live p r v) : wh p r = some (v,0,zj.mk p.most (mSet p.l r.At ⟨r.Gen,false,(zC.mk 0 0 0)⟩) (p.free ++ [r.At])) := by
 have e := I.flen;have h1 := I.len;have h2 := I.most;unfold wh;rw [wS I h];simp only [bS,uT,oS,h.idx];rw [xh (by simp only [List.length_singleton]; omega)];simp [mSet]
theorem qf (I : Inv p T) (y : T < 4611686018427387904) {fs : List Int} {j : Nat} {x : zx} (hf : p.free = fs ++ [(j : Int)]) (hj : p.l[j]? = some x) :
  yM p v = some (zd.mk (j : Int) (x.gen + 1),true,zj.mk p.most (mSet p.l (j : Int) ⟨x.gen + 1,true,v⟩) fs) := by
 have z := I.gen _ _ hj;have u : fs.length < 1000000 := by
  have h0 := I.flen;rw [hf] at h0;simp only [lA,List.length_singleton] at h0;have := I.len;have := I.most;omega
 have hw : w64 (((fs ++ [(j : Int)]).length : Int) - 1) = (fs.length : Int) := by
  rw [zV] <;> simp <;> omega
 have t : mIdx (fs ++ [(j : Int)]) (fs.length : Int) = some (j : Int) := yv fs [] (j : Int);have e : mCut (fs ++ [(j : Int)]) 0 (fs.length : Int) = some fs := by
  unfold mCut;rw [if_pos ⟨by omega,by omega,by simp; omega⟩];simp
 unfold yM;rw [hf,hw,dT (by omega)];simp only [cT,t,e,bS];rw [yR,hj];simp only [bS];rw [zV (by omega) (by omega)];simp [mSet]
theorem pH (I : Inv p T) (hf : p.free = []) (hl : (p.l.length : Int) < p.most) :
  yM p v = some (zd.mk (p.l.length : Int) 1,true,zj.mk p.most (p.l ++ [⟨1,true,v⟩]) []) := by
 have := I.most;unfold yM;rw [hf];rw [show w64 ((([] : List Int).length : Int) - 1) = -1 by rw [zV] <;> simp];rw [dF (by omega)];simp only [cF];rw [dF (by omega)];simp only [cF];rw [xh (by simp only [List.length_singleton]; omega)];simp only [bS];rw [yv];simp only [bS];rw [show w64 (0 + 1) = 1 by rw [zV] <;> simp];simp [mSet]
theorem yQ {l : List zx} {j i : Nat} {x y : zx} (h : l[j]? = some y) : (l.set j x)[i]? = if i = j then some x else l[i]? := by
 have := (List.getElem?_eq_some_iff.1 h).1;by_cases e : i = j
 ·subst e; rw [if_pos rfl,List.getElem?_set_self this]
 ·rw [if_neg e,getD_set_ne (fun h => e h.symm)]
theorem qx (I : Inv p T) (h : Live p r v) (w : zC) : Inv (zj.mk p.most (mSet p.l r.At ⟨r.Gen,true,w⟩) p.free) T := by
 obtain ⟨j,e,h⟩ := h;have u := I.gen _ _ h;refine ⟨I.most,by simpa [mSet] using I.len,fun f hf => ?_,I.fnd,fun i x t ht => ?_,fun i x t => ?_⟩
 ·obtain ⟨i,x,rfl,hi,t⟩ := I.fre f hf;refine ⟨i,x,rfl,?_,t⟩;simp only [mSet,e,tN];rw [yQ h,if_neg]; exact hi;rintro rfl;rw [h] at hi; cases hi; simp at t
 ·simp only [mSet,e,tN] at t;rw [yQ h] at t;split at t
  ·cases t; simp at ht
  ·exact I.cov i x t ht
 ·simp only [mSet,e,tN] at t;rw [yQ h] at t;split at t
  ·cases t; exact u
  ·exact I.gen i x t
theorem sA (h : Live p r v) (w : zC) (s : zd) (u : zC) : Live (zj.mk p.most (mSet p.l r.At ⟨r.Gen,true,w⟩) p.free) s u ↔ (s = r /\ u = w) \/ (s ≠ r /\ Live p s u) := by
 obtain ⟨j,e,h⟩ := h;constructor
 ·rintro ⟨i,t,hi⟩;simp only [mSet,e,tN] at hi;rw [yQ h] at hi;split at hi
  ·rename_i x;subst x;simp only [Option.some.injEq,zx.mk.injEq,true_and] at hi;refine Or.inl ⟨?_,hi.2.symm⟩;cases s; cases r; simp only at e t hi ⊢; rw [t,e,hi.1]
  ·rename_i x;refine Or.inr ⟨?_,i,t,hi⟩;rintro rfl;exact x (by omega)
 ·rintro (⟨rfl,rfl⟩ | ⟨y,i,t,hi⟩)
  ·refine ⟨j,e,?_⟩;simp only [mSet,e,tN];rw [yQ h,if_pos rfl]
  ·refine ⟨i,t,?_⟩;simp only [mSet,e,tN];rw [yQ h,if_neg]; exact hi;rintro rfl;rw [h] at hi;simp only [Option.some.injEq,zx.mk.injEq,true_and] at hi;refine y ?_;cases s; cases r; simp only at e t hi ⊢; rw [t,e,hi.1]
theorem oI (I : Inv p T) (h : Live p r v) : Inv (zj.mk p.most (mSet p.l r.At ⟨r.Gen,false,(zC.mk 0 0 0)⟩) (p.free ++ [r.At])) T := by
 obtain ⟨j,e,h⟩ := h;have A := I.gen _ _ h;have y : r.At ∉ p.free := by
  intro hf;obtain ⟨i,x,B,hi,t⟩ := I.fre _ hf;have : i = j := by omega
  subst this;rw [h] at hi; cases hi; simp at t
 refine ⟨I.most,by simpa [mSet] using I.len,fun f hf => ?_,?_,fun i x t ht => ?_,fun i x t => ?_⟩
 ·simp only [mSet,e,tN];rcases List.mem_append.1 hf with hf | hf
  ·obtain ⟨i,x,rfl,hi,t⟩ := I.fre f hf;refine ⟨i,x,rfl,?_,t⟩;rw [yQ h,if_neg]; exact hi;rintro rfl;rw [h] at hi; cases hi; simp at t
  ·rw [List.mem_singleton.1 hf,e];exact ⟨j,_,rfl,by rw [yQ h,if_pos rfl],rfl⟩
 ·exact List.nodup_append.2 ⟨I.fnd,by simp,fun a ha b z => by rw [List.mem_singleton.1 z]; rintro rfl; exact y ha⟩
 ·simp only [mSet,e,tN] at t;rw [yQ h] at t;split at t
  ·rename_i u; subst u; exact List.mem_append_right _ (by rw [e]; simp)
  ·exact mL _ (I.cov i x t ht)
 ·simp only [mSet,e,tN] at t;rw [yQ h] at t;split at t
  ·cases t; exact A
  ·exact I.gen i x t
theorem qN (h : Live p r v) (s : zd) (u : zC) : Live (zj.mk p.most (mSet p.l r.At ⟨r.Gen,false,(zC.mk 0 0 0)⟩) (p.free ++ [r.At])) s u ↔ s ≠ r /\ Live p s u := by
 obtain ⟨j,e,h⟩ := h;constructor
 ·rintro ⟨i,t,hi⟩;simp only [mSet,e,tN] at hi;rw [yQ h] at hi;split at hi
  ·simp at hi
  ·rename_i x;refine ⟨?_,i,t,hi⟩;rintro rfl;exact x (by omega)
 ·rintro ⟨y,i,t,hi⟩;refine ⟨i,t,?_⟩;simp only [mSet,e,tN];rw [yQ h,if_neg]; exact hi;rintro rfl;rw [h] at hi;simp only [Option.some.injEq,zx.mk.injEq,true_and] at hi;refine y ?_;cases s; cases r; simp only at e t hi ⊢; rw [t,e,hi.1]
theorem qZ (I : Inv p T) (W : T < 4611686018427387904) (z : (p.l.length : Int) < p.most + p.free.length) (v : zC) :
  ∃ r p',yM p v = some (r,true,p') /\ Inv p' (T + 1) /\ (∀ w,¬ Live p r w) /\ (∀ s u,Live p' s u ↔ (s = r /\ u = v) \/ Live p s u) /\ p'.most = p.most /\ (p'.l.length : Int) - p'.free.length = (p.l.length : Int) - p.free.length + 1 := by
 rcases List.eq_nil_or_concat p.free with hf | ⟨fs,f,hf⟩
 ·rw [hf] at z;refine ⟨_,_,pH I hf (by simpa using z),⟨I.most,by simp at z ⊢; omega,by simp,by simp,?_,?_⟩,?_,?_,rfl,by rw [hf]; simp⟩
  ·intro j x t ht;simp only at t;by_cases hj : j < p.l.length
   ·rw [List.getElem?_append_left hj] at t;have := I.cov j x t ht;rw [hf] at this; simp at this
   ·rw [List.getElem?_append_right (by omega)] at t;by_cases e : j - p.l.length = 0
    ·rw [e] at t; simp at t; subst t; simp at ht
    ·rw [List.getElem?_eq_none (by simp; omega)] at t; cases t
  ·intro j x t;simp only at t;by_cases hj : j < p.l.length
   ·rw [List.getElem?_append_left hj] at t;have := I.gen j x t;omega
   ·rw [List.getElem?_append_right (by omega)] at t;by_cases e : j - p.l.length = 0
    ·rw [e] at t; simp at t; subst t; simp; omega
    ·rw [List.getElem?_eq_none (by simp; omega)] at t; cases t
  ·rintro w ⟨j,e,h⟩;have := (List.getElem?_eq_some_iff.1 h).1;simp only at e;omega
  ·intro s u;constructor
   ·rintro ⟨j,e,h⟩;simp only at h;by_cases hj : j < p.l.length
    ·rw [List.getElem?_append_left hj] at h;exact Or.inr ⟨j,e,h⟩
    ·rw [List.getElem?_append_right (by omega)] at h;by_cases U : j - p.l.length = 0
     ·rw [U] at h;simp at h;refine Or.inl ⟨?_,h.2.symm⟩;cases s; simp only at e h ⊢;rw [e,<- h.1]; congr 1; omega
     ·rw [List.getElem?_eq_none (by simp; omega)] at h; cases h
   ·rintro (⟨rfl,rfl⟩ | ⟨j,e,h⟩)
    ·exact ⟨p.l.length,rfl,by simp⟩
    ·have := (List.getElem?_eq_some_iff.1 h).1;exact ⟨j,e,by rw [List.getElem?_append_left this]; exact h⟩
 ·rw [List.concat_eq_append] at hf;obtain ⟨j,x,rfl,hj,ht⟩ := I.fre f (by rw [hf]; simp);have X := I.gen j x hj;have hn := I.fnd;rw [hf] at hn;obtain ⟨O,-,S⟩ := List.nodup_append.1 hn;have J : (j : Int) ∉ fs := fun h => S _ h _ (List.mem_singleton.2 rfl) rfl
  refine ⟨_,_,qf I W hf hj,⟨I.most,by simpa [mSet] using I.len,?_,O,?_,?_⟩,?_,?_,rfl,by rw [hf]; simp [mSet]; omega⟩
  ·intro f B;obtain ⟨i,y,rfl,hi,A⟩ := I.fre f (by rw [hf]; exact mL _ B);refine ⟨i,y,rfl,?_,A⟩;simp only [mSet,tN];rw [yQ hj,if_neg]; exact hi;rintro rfl; exact J B
  ·intro i y A F;simp only [mSet,tN] at A;rw [yQ hj] at A;split at A
   ·cases A; simp at F
   ·rename_i D;have := I.cov i y A F;rw [hf] at this;rcases List.mem_append.1 this with h | h
    ·exact h
    ·simp at h; omega
  ·intro i y A;simp only [mSet,tN] at A;rw [yQ hj] at A;split at A
   ·cases A; simp only; omega
   ·have := I.gen i y A; omega
  ·rintro w ⟨i,e,h⟩;simp only at e h;have : i = j := by omega
   subst this;rw [hj] at h;simp only [Option.some.injEq] at h;rw [h] at ht; simp at ht
  ·intro s u;constructor
   ·rintro ⟨i,e,h⟩;simp only [mSet,tN] at h;rw [yQ hj] at h;split at h
    ·rename_i D;subst D;simp only [Option.some.injEq,zx.mk.injEq,true_and] at h;refine Or.inl ⟨?_,h.2.symm⟩;cases s; simp only at e h ⊢; rw [e,<- h.1]
    ·exact Or.inr ⟨i,e,h⟩
   ·rintro (⟨rfl,rfl⟩ | ⟨i,e,h⟩)
    ·refine ⟨j,rfl,?_⟩;simp only [mSet,tN];rw [yQ hj,if_pos rfl]
    ·refine ⟨i,e,?_⟩;simp only [mSet,tN];rw [yQ hj,if_neg]; exact h;rintro rfl;rw [hj] at h;simp only [Option.some.injEq] at h;rw [h] at ht; simp at ht
end
end Ph
end
noncomputable section
set_option maxRecDepth 10000
namespace Pt
structure Inv (p : ze) (T : Nat) : Prop where
 most : 0 <= p.most /\ p.most <= 65536
 len : (p.l.length : Int) <= p.most
 fre : ∀ f ∈ p.free,∃ (j : Nat) (x : zs),f = (j : Int) /\ p.l[j]? = some x /\ x.taken = false
 fnd : p.free.Nodup
 cov : ∀ (j : Nat) (x : zs),p.l[j]? = some x -> x.taken = false -> (j : Int) ∈ p.free
 gen : ∀ (j : Nat) (x : zs),p.l[j]? = some x -> 1 <= x.gen /\ x.gen <= T
def Live (p : ze) (r : zd) (v : zA) : Prop := ∃ j : Nat,r.At = (j : Int) /\ p.l[j]? = some ⟨r.Gen,true,v⟩
section
variable {p : ze} {T : Nat} {r : zd} {v : zA}
theorem Live.idx (h : Live p r v) : mIdx p.l r.At = some ⟨r.Gen,true,v⟩ := by
 obtain ⟨j,e,h⟩ := h;rw [e,yR]; exact h
theorem Live.uniq {w : zA} (h : Live p r v) (t : Live p r w) : v = w := by
 have j := h.idx;have e := t.idx;rw [j] at e;simp only [Option.some.injEq,zs.mk.injEq,true_and] at e;exact e
theorem Inv.flen (I : Inv p T) : p.free.length <= p.l.length := by
 have h1 : (p.free.map Int.toNat).Nodup := List.pairwise_map.2 (I.fnd.imp_of_mem fun {x y} u z t e => by
  obtain ⟨i,_,rfl,_⟩ := I.fre x u;obtain ⟨j,_,rfl,_⟩ := I.fre y z;simp only [tN] at e;exact t (by rw [e]))
 have h2 := qQ (m := List.range p.l.length) h1 fun x u => by
  obtain ⟨f,hf,rfl⟩ := List.mem_map.1 u;obtain ⟨j,y,rfl,hj,_⟩ := I.fre f hf;simp only [tN,List.mem_range];exact (List.getElem?_eq_some_iff.1 hj).1
 simpa using h2
theorem wS (I : Inv p T) (h : Live p r v) : yW p r = some (some r.At,0) := by
 have hi := h.idx;obtain ⟨j,e,h⟩ := h;have t := I.gen _ _ h;simp only at t;have hl := (List.getElem?_eq_some_iff.1 h).1;unfold yW;rw [dF (by omega),dF (by omega),dF (by omega),hi];simp
theorem vE (I : Inv p T) (h : Live p r v) : yu p r = some (v,0) := by
 unfold yu;rw [wS I h];simp [uT,oS,h.idx]
theorem qy (I : Inv p T) (h : Live p r v) (w : zA) : wj p r w = some (0,ze.mk p.most (mSet p.l r.At ⟨r.Gen,true,w⟩) p.free) := by
 unfold wj;rw [wS I h];simp [uT,oS,h.idx]
theorem rV (I : Inv p T) (h : Live p r v) : xQ p r = some (v,0,ze.mk p.most (mSet p.l r.At ⟨r.Gen,false,(zA.mk 0 (zd.mk 0 0))⟩) (p.free ++ [r.At])) := by
 have e := I.flen;have h1 := I.len;have h2 := I.most;unfold xQ;rw [wS I h];simp only [bS,uT,oS,h.idx];rw [xh (by simp only [List.length_singleton]; omega)];simp [mSet]
theorem qf (I : Inv p T) (y : T < 4611686018427387904) {fs : List Int} {j : Nat} {x : zs} (hf : p.free = fs ++ [(j : Int)]) (hj : p.l[j]? = some x) :
  yG p v = some (zd.mk (j : Int) (x.gen + 1),true,ze.mk p.most (mSet p.l (j : Int) ⟨x.gen + 1,true,v⟩) fs) := by
 have z := I.gen _ _ hj;have u : fs.length < 1000000 := by
  have h0 := I.flen;rw [hf] at h0;simp only [lA,List.length_singleton] at h0;have := I.len;have := I.most;omega
 have hw : w64 (((fs ++ [(j : Int)]).length : Int) - 1) = (fs.length : Int) := by
  rw [zV] <;> simp <;> omega
 have t : mIdx (fs ++ [(j : Int)]) (fs.length : Int) = some (j : Int) := yv fs [] (j : Int);have e : mCut (fs ++ [(j : Int)]) 0 (fs.length : Int) = some fs := by
  unfold mCut;rw [if_pos ⟨by omega,by omega,by simp; omega⟩];simp
 unfold yG;rw [hf,hw,dT (by omega)];simp only [cT,t,e,bS];rw [yR,hj];simp only [bS];rw [zV (by omega) (by omega)];simp [mSet]
theorem pH (I : Inv p T) (hf : p.free = []) (hl : (p.l.length : Int) < p.most) :
  yG p v = some (zd.mk (p.l.length : Int) 1,true,ze.mk p.most (p.l ++ [⟨1,true,v⟩]) []) := by
 have := I.most;unfold yG;rw [hf];rw [show w64 ((([] : List Int).length : Int) - 1) = -1 by rw [zV] <;> simp];rw [dF (by omega)];simp only [cF];rw [dF (by omega)];simp only [cF];rw [xh (by simp only [List.length_singleton]; omega)];simp only [bS];rw [yv];simp only [bS];rw [show w64 (0 + 1) = 1 by rw [zV] <;> simp];simp [mSet]
theorem yQ {l : List zs} {j i : Nat} {x y : zs} (h : l[j]? = some y) : (l.set j x)[i]? = if i = j then some x else l[i]? := by
 have := (List.getElem?_eq_some_iff.1 h).1;by_cases e : i = j
 ·subst e; rw [if_pos rfl,List.getElem?_set_self this]
 ·rw [if_neg e,getD_set_ne (fun h => e h.symm)]
theorem qx (I : Inv p T) (h : Live p r v) (w : zA) : Inv (ze.mk p.most (mSet p.l r.At ⟨r.Gen,true,w⟩) p.free) T := by
 obtain ⟨j,e,h⟩ := h;have u := I.gen _ _ h;refine ⟨I.most,by simpa [mSet] using I.len,fun f hf => ?_,I.fnd,fun i x t ht => ?_,fun i x t => ?_⟩
 ·obtain ⟨i,x,rfl,hi,t⟩ := I.fre f hf;refine ⟨i,x,rfl,?_,t⟩;simp only [mSet,e,tN];rw [yQ h,if_neg]; exact hi;rintro rfl;rw [h] at hi; cases hi; simp at t
 ·simp only [mSet,e,tN] at t;rw [yQ h] at t;split at t
  ·cases t; simp at ht
  ·exact I.cov i x t ht
 ·simp only [mSet,e,tN] at t;rw [yQ h] at t;split at t
  ·cases t; exact u
  ·exact I.gen i x t
theorem sA (h : Live p r v) (w : zA) (s : zd) (u : zA) : Live (ze.mk p.most (mSet p.l r.At ⟨r.Gen,true,w⟩) p.free) s u ↔ (s = r /\ u = w) \/ (s ≠ r /\ Live p s u) := by
 obtain ⟨j,e,h⟩ := h;constructor
 ·rintro ⟨i,t,hi⟩;simp only [mSet,e,tN] at hi;rw [yQ h] at hi;split at hi
  ·rename_i x;subst x;simp only [Option.some.injEq,zs.mk.injEq,true_and] at hi;refine Or.inl ⟨?_,hi.2.symm⟩;cases s; cases r; simp only at e t hi ⊢; rw [t,e,hi.1]
  ·rename_i x;refine Or.inr ⟨?_,i,t,hi⟩;rintro rfl;exact x (by omega)
 ·rintro (⟨rfl,rfl⟩ | ⟨y,i,t,hi⟩)
  ·refine ⟨j,e,?_⟩;simp only [mSet,e,tN];rw [yQ h,if_pos rfl]
  ·refine ⟨i,t,?_⟩;simp only [mSet,e,tN];rw [yQ h,if_neg]; exact hi;rintro rfl;rw [h] at hi;simp only [Option.some.injEq,zs.mk.injEq,true_and] at hi;refine y ?_;cases s; cases r; simp only at e t hi ⊢; rw [t,e,hi.1]
theorem oI (I : Inv p T) (h : Live p r v) : Inv (ze.mk p.most (mSet p.l r.At ⟨r.Gen,false,(zA.mk 0 (zd.mk 0 0))⟩) (p.free ++ [r.At])) T := by
 obtain ⟨j,e,h⟩ := h;have A := I.gen _ _ h;have y : r.At ∉ p.free := by
  intro hf;obtain ⟨i,x,B,hi,t⟩ := I.fre _ hf;have : i = j := by omega
  subst this;rw [h] at hi; cases hi; simp at t
 refine ⟨I.most,by simpa [mSet] using I.len,fun f hf => ?_,?_,fun i x t ht => ?_,fun i x t => ?_⟩
 ·simp only [mSet,e,tN];rcases List.mem_append.1 hf with hf | hf
  ·obtain ⟨i,x,rfl,hi,t⟩ := I.fre f hf;refine ⟨i,x,rfl,?_,t⟩;rw [yQ h,if_neg]; exact hi;rintro rfl;rw [h] at hi; cases hi; simp at t
  ·rw [List.mem_singleton.1 hf,e];exact ⟨j,_,rfl,by rw [yQ h,if_pos rfl],rfl⟩
 ·exact List.nodup_append.2 ⟨I.fnd,by simp,fun a ha b z => by rw [List.mem_singleton.1 z]; rintro rfl; exact y ha⟩
 ·simp only [mSet,e,tN] at t;rw [yQ h] at t;split at t
  ·rename_i u; subst u; exact List.mem_append_right _ (by rw [e]; simp)
  ·exact mL _ (I.cov i x t ht)
 ·simp only [mSet,e,tN] at t;rw [yQ h] at t;split at t
  ·cases t; exact A
  ·exact I.gen i x t
theorem qN (h : Live p r v) (s : zd) (u : zA) : Live (ze.mk p.most (mSet p.l r.At ⟨r.Gen,false,(zA.mk 0 (zd.mk 0 0))⟩) (p.free ++ [r.At])) s u ↔ s ≠ r /\ Live p s u := by
 obtain ⟨j,e,h⟩ := h;constructor
 ·rintro ⟨i,t,hi⟩;simp only [mSet,e,tN] at hi;rw [yQ h] at hi;split at hi
  ·simp at hi
  ·rename_i x;refine ⟨?_,i,t,hi⟩;rintro rfl;exact x (by omega)
 ·rintro ⟨y,i,t,hi⟩;refine ⟨i,t,?_⟩;simp only [mSet,e,tN];rw [yQ h,if_neg]; exact hi;rintro rfl;rw [h] at hi;simp only [Option.some.injEq,zs.mk.injEq,true_and] at hi;refine y ?_;cases s; cases r; simp only at e t hi ⊢; rw [t,e,hi.1]
theorem qZ (I : Inv p T) (W : T < 4611686018427387904) (z : (p.l.length : Int) < p.most + p.free.length) (v : zA) :
  ∃ r p',yG p v = some (r,true,p') /\ Inv p' (T + 1) /\ (∀ w,¬ Live p r w) /\ (∀ s u,Live p' s u ↔ (s = r /\ u = v) \/ Live p s u) /\ p'.most = p.most /\ (p'.l.length : Int) - p'.free.length = (p.l.length : Int) - p.free.length + 1 := by
 rcases List.eq_nil_or_concat p.free with hf | ⟨fs,f,hf⟩
 ·rw [hf] at z;refine ⟨_,_,pH I hf (by simpa using z),⟨I.most,by simp at z ⊢; omega,by simp,by simp,?_,?_⟩,?_,?_,rfl,by rw [hf]; simp⟩
  ·intro j x t ht;simp only at t;by_cases hj : j < p.l.length
   ·rw [List.getElem?_append_left hj] at t;have := I.cov j x t ht;rw [hf] at this; simp at this
   ·rw [List.getElem?_append_right (by omega)] at t;by_cases e : j - p.l.length = 0
    ·rw [e] at t; simp at t; subst t; simp at ht
    ·rw [List.getElem?_eq_none (by simp; omega)] at t; cases t
  ·intro j x t;simp only at t;by_cases hj : j < p.l.length
   ·rw [List.getElem?_append_left hj] at t;have := I.gen j x t;omega
   ·rw [List.getElem?_append_right (by omega)] at t;by_cases e : j - p.l.length = 0
    ·rw [e] at t; simp at t; subst t; simp; omega
    ·rw [List.getElem?_eq_none (by simp; omega)] at t; cases t
  ·rintro w ⟨j,e,h⟩;have := (List.getElem?_eq_some_iff.1 h).1;simp only at e;omega
  ·intro s u;constructor
   ·rintro ⟨j,e,h⟩;simp only at h;by_cases hj : j < p.l.length
    ·rw [List.getElem?_append_left hj] at h;exact Or.inr ⟨j,e,h⟩
    ·rw [List.getElem?_append_right (by omega)] at h;by_cases U : j - p.l.length = 0
     ·rw [U] at h;simp at h;refine Or.inl ⟨?_,h.2.symm⟩;cases s; simp only at e h ⊢;rw [e,<- h.1]; congr 1; omega
     ·rw [List.getElem?_eq_none (by simp; omega)] at h; cases h
   ·rintro (⟨rfl,rfl⟩ | ⟨j,e,h⟩)
    ·exact ⟨p.l.length,rfl,by simp⟩
    ·have := (List.getElem?_eq_some_iff.1 h).1;exact ⟨j,e,by rw [List.getElem?_append_left this]; exact h⟩
 ·rw [List.concat_eq_append] at hf;obtain ⟨j,x,rfl,hj,ht⟩ := I.fre f (by rw [hf]; simp);have X := I.gen j x hj;have hn := I.fnd;rw [hf] at hn;obtain ⟨O,-,S⟩ := List.nodup_append.1 hn;have J : (j : Int) ∉ fs := fun h => S _ h _ (List.mem_singleton.2 rfl) rfl
  refine ⟨_,_,qf I W hf hj,⟨I.most,by simpa [mSet] using I.len,?_,O,?_,?_⟩,?_,?_,rfl,by rw [hf]; simp [mSet]; omega⟩
  ·intro f B;obtain ⟨i,y,rfl,hi,A⟩ := I.fre f (by rw [hf]; exact mL _ B);refine ⟨i,y,rfl,?_,A⟩;simp only [mSet,tN];rw [yQ hj,if_neg]; exact hi;rintro rfl; exact J B
  ·intro i y A F;simp only [mSet,tN] at A;rw [yQ hj] at A;split at A
   ·cases A; simp at F
   ·rename_i D;have := I.cov i y A F;rw [hf] at this;rcases List.mem_append.1 this with h | h
    ·exact h
    ·simp at h; omega
  ·intro i y A;simp only [mSet,tN] at A;rw [yQ hj] at A;split at A
   ·cases A; simp only; omega
   ·have := I.gen i y A; omega
  ·rintro w ⟨i,e,h⟩;simp only at e h;have : i = j := by omega
   subst this;rw [hj] at h;simp only [Option.some.injEq] at h;rw [h] at ht; simp at ht
  ·intro s u;constructor
   ·rintro ⟨i,e,h⟩;simp only [mSet,tN] at h;rw [yQ hj] at h;split at h
    ·rename_i D;subst D;simp only [Option.some.injEq,zs.mk.injEq,true_and] at h;refine Or.inl ⟨?_,h.2.symm⟩;cases s; simp only at e h ⊢; rw [e,<- h.1]
    ·exact Or.inr ⟨i,e,h⟩
   ·rintro (⟨rfl,rfl⟩ | ⟨i,e,h⟩)
    ·refine ⟨j,rfl,?_⟩;simp only [mSet,tN];rw [yQ hj,if_pos rfl]
    ·refine ⟨i,e,?_⟩;simp only [mSet,tN];rw [yQ hj,if_neg]; exact h;rintro rfl;rw [hj] at h;simp only [Option.some.injEq] at h;rw [h] at ht; simp at ht
end
end Pt
end
noncomputable section
set_option maxRecDepth 10000
structure HR where
 ref : zd
 k : Int
 r : Int
 C : Heap
 rs : List (zd × It)
def HR.its (h : HR) : List It := h.rs.map Prod.snd
def HR.val (h : HR) : zC := zC.mk h.k h.r (h.rs.length : Int)
def allC (hs : List HR) : Heap := hs.flatMap HR.C
def allR (hs : List HR) : List (zd × It) := hs.flatMap HR.rs
theorem oy (h : HR) (hs : List HR) : allC (h :: hs) = h.C ++ allC hs := rfl
theorem wZ (h : HR) (hs : List HR) : allR (h :: hs) = h.rs ++ allR hs := rfl
theorem HR.vV (h : HR) : h.its.length = h.rs.length := by simp [HR.its]
structure PQ (M : Nat) (q : zq) (T : Nat) (hs : List HR) : Prop where
 ih : Ph.Inv q.t_.heaps T
 ii : Pt.Inv q.t_.items T
 hl : ∀ s u,Ph.Live q.t_.heaps s u ↔ ∃ h ∈ hs,s = h.ref /\ u = h.val
 il : ∀ s u,Pt.Live q.t_.items s u ↔ ∃ h ∈ hs,∃ p ∈ h.rs,s = p.1 /\ u = ⟨(p.2.i : Int),h.ref⟩
 at1 : (q.t_.at_.map Prod.fst).Nodup
 at2 : ∀ c s,mGet kI c q.t_.at_ = some s ↔ ∃ p ∈ allR hs,c = (p.2.i : Int) /\ s = p.1
 en1 : (q.entries.map Prod.fst).Nodup
 en2 : ∀ s e,mGet zd.eq s q.entries = some e ↔ ∃ p ∈ allR hs,s = p.1 /\ e = ⟨p.2.k,p.2.s⟩
 hk : ∀ h ∈ hs,Kd h.k /\ HK (KD h.k) h.r h.its h.C
 hn : (hs.map HR.ref).Nodup
 rn : ((allR hs).map Prod.fst).Nodup
 sn : ((allR hs).map fun p => p.2.s).Nodup
 ar : ∃ κ n,κ.C = 2 * M /\ Ar κ n q.a_ (allC hs)
 mi : q.items = M
 mm : q.t_.items.most = M
 mb : 1 <= M /\ M <= 16384
 ci : (q.t_.items.l.length : Int) - q.t_.items.free.length = (allR hs).length
 ch : (q.t_.heaps.l.length : Int) - q.t_.heaps.free.length = hs.length
 cm : q.t_.heaps.most = 64
 sr : ∀ p ∈ allR hs,0 <= p.2.s /\ p.2.s < q.serial
 sq : 0 <= q.serial /\ q.serial <= T
def Stp' (q e : zq) (B : Nat) : Prop := q.a_.m_.steps <= e.a_.m_.steps /\ e.a_.m_.steps <= q.a_.m_.steps + B
section
variable {M : Nat} {q : zq} {T : Nat} {h : HR} {hs hs' : List HR}
theorem PQ.p (Q : PQ M q T hs) (hp : hs.Perm hs') : PQ M q T hs' := by
 have t : ∀ p,p ∈ allR hs ↔ p ∈ allR hs' := fun p => (hp.flatMap_right HR.rs).mem_iff
 refine ⟨Q.ih,Q.ii,fun s u => (Q.hl s u).trans ⟨?_,?_⟩,fun s u => (Q.il s u).trans ⟨?_,?_⟩,Q.at1,fun c s => (Q.at2 c s).trans ⟨?_,?_⟩,Q.en1,fun s e => (Q.en2 s e).trans ⟨?_,?_⟩,fun h hh => Q.hk h (hp.mem_iff.2 hh),((hp.map _).nodup_iff).1 Q.hn,(((hp.flatMap_right HR.rs).map _).nodup_iff).1 Q.rn,(((hp.flatMap_right HR.rs).map _).nodup_iff).1 Q.sn,?_,Q.mi,Q.mm,Q.mb,Q.ci.trans ?_,Q.ch.trans ?_,Q.cm,fun p hh => Q.sr p ((t p).2 hh),Q.sq⟩
 ·rintro ⟨g,j,h⟩; exact ⟨g,hp.mem_iff.1 j,h⟩
 ·rintro ⟨g,j,h⟩; exact ⟨g,hp.mem_iff.2 j,h⟩
 ·rintro ⟨g,j,h⟩; exact ⟨g,hp.mem_iff.1 j,h⟩
 ·rintro ⟨g,j,h⟩; exact ⟨g,hp.mem_iff.2 j,h⟩
 ·rintro ⟨g,j,h⟩; exact ⟨g,(t g).1 j,h⟩
 ·rintro ⟨g,j,h⟩; exact ⟨g,(t g).2 j,h⟩
 ·rintro ⟨g,j,h⟩; exact ⟨g,(t g).1 j,h⟩
 ·rintro ⟨g,j,h⟩; exact ⟨g,(t g).2 j,h⟩
 ·obtain ⟨κ,n,e,H⟩ := Q.ar;exact ⟨κ,n,e,H.p (hp.flatMap_right HR.C)⟩
 ·have := (hp.flatMap_right HR.rs).length_eq;show ((hs.flatMap HR.rs).length : Int) = ((hs'.flatMap HR.rs).length : Int);rw [this]
 ·rw [hp.length_eq]
theorem PQ.live (Q : PQ M q T hs) (hh : h ∈ hs) : Ph.Live q.t_.heaps h.ref h.val := (Q.hl _ _).2 ⟨h,hh,rfl,rfl⟩
theorem PQ.heap (Q : PQ M q T hs) (hh : h ∈ hs) : xp q.t_ h.ref = some (h.k,h.r,(h.rs.length : Int),0) := by
 unfold xp;rw [Ph.vE Q.ih (Q.live hh)]
 rfl
theorem PQ.lenC (Q : PQ M q T hs) : (allC hs).length = 2 * (allR hs).length := by
 have : ∀ hs : List HR,(∀ h ∈ hs,Kd h.k /\ HK (KD h.k) h.r h.its h.C) -> (allC hs).length = 2 * (allR hs).length := by
  intro hs;induction hs with
  | nil => intro _; rfl
  | cons h hs ih =>
   intro hk;have h1 := (hk h (List.mem_cons_self ..)).2.len;have h2 := ih fun g e => hk g (mC _ e)
   rw [HR.vV] at h1;rw [oy,wZ,lA,lA]; omega
 exact this hs Q.hk
theorem PQ.Dg (Q : PQ M q T hs) : (allR hs).length <= M := by
 obtain ⟨κ,n,e,H⟩ := Q.ar;have := H.room;rw [Q.lenC,e] at this; omega
theorem PQ.al (Q : PQ M q T hs) {p : zd × It} (hp : p ∈ allR hs) : p.2.i ∈ (allC hs).map Prod.fst := by
 obtain ⟨h,hh,hp⟩ := List.mem_flatMap.1 hp;obtain ⟨c,e⟩ := (Q.hk h hh).2.mem (List.mem_map_of_mem (f := Prod.snd) hp);exact List.mem_map.2 ⟨_,List.mem_flatMap.2 ⟨h,hh,e⟩,rfl⟩
theorem Ar.yF {κ : Cfg} {n : Nat} {a : za} {L : Heap} (H : Ar κ n a L) : Ar ⟨κ.C,a.m_.steps,κ.g,κ.mo⟩ 0 a L :=
 { H with b0 := Int.le_trans H.b0 H.lo,lo := Int.le_refl _,hi := by simp }
theorem fJ {P x : zd -> zC -> Prop} {h1 : HR} (hl : ∀ s u,P s u ↔ ∃ g ∈ h :: hs,s = g.ref /\ u = g.val) (hn : ((h :: hs).map HR.ref).Nodup) (e : h1.ref = h.ref) (z : ∀ s u,x s u ↔ (s = h.ref /\ u = h1.val) \/ (s ≠ h.ref /\ P s u)) :
  ∀ s u,x s u ↔ ∃ g ∈ h1 :: hs,s = g.ref /\ u = g.val := by
 intro s u;simp only [pC,List.nodup_cons] at hn;rw [z];constructor
 ·rintro (⟨rfl,rfl⟩ | ⟨t,hp⟩)
  ·exact ⟨h1,List.mem_cons_self ..,e.symm,rfl⟩
  ·obtain ⟨g,j,rfl,rfl⟩ := (hl _ _).1 hp;rcases List.mem_cons.1 j with rfl | j
   ·exact absurd rfl t
   ·exact ⟨g,mC _ j,rfl,rfl⟩
 ·rintro ⟨g,j,rfl,rfl⟩;rcases List.mem_cons.1 j with rfl | j
  ·exact Or.inl ⟨e,rfl⟩
  ·refine Or.inr ⟨fun y => hn.1 (y ▸ List.mem_map_of_mem (f := HR.ref) j),(hl _ _).2 ⟨g,mC _ j,rfl,rfl⟩⟩
theorem PQ.root {t : zm} {T' : Nat} (hh : Ph.Inv t.heaps T') (e : Ph.Live t.heaps h.ref h.val) (r n : Int) :
  xC t h.ref r n = some (0,zm.mk (zj.mk t.heaps.most (mSet t.heaps.l h.ref.At ⟨h.ref.Gen,true,⟨h.k,r,n⟩⟩) t.heaps.free) t.items t.at_) := by
 unfold xC;rw [Ph.vE hh e];simp only [bS];rw [show ((0 : Int) == 0) = true from rfl,cT];show ((xH t.heaps h.ref (zC.mk h.val.kind r n)).bind _).bind _ = _;rw [Ph.qy hh e]
 rfl
theorem PQ.insert (Q : PQ M q T (h :: hs)) (a6 : (allR (h :: hs)).length < M) (b4 : h.rs.length < 1000) (hT : T < 4611686018427387000) {f : Nat} (hf : 95000 < f) (kk : Int) (key : Int) (o i0 : zd) :
  Do (uK f q (yk.mk 2 kk h.ref o i0 key)) fun res => ∃ (i : zd) (x : It) (r' : Int) (C' : Heap) (W : zq),res = (zO.mk 0 (zd.mk 0 0) i (zG.mk key q.serial) 0,W) /\ x.k = key /\ x.s = q.serial /\
   PQ M W (T + 1) (⟨h.ref,h.k,r',C',(i,x) :: h.rs⟩ :: hs) /\ W.serial = q.serial + 1 /\ Stp' q W (bd h.k h.rs.length + 3) := by
 have hm : h ∈ h :: hs := List.mem_cons_self ..;obtain ⟨κ,n,eC,H0⟩ := Q.ar;have H := H0.yF;have B := Q.hk h hm;have J := Q.lenC;have b3 := Q.mb;unfold uK;rw [Q.heap hm];simp only [bS];refine Do.f rfl ?_;have Z : uv q.t_ = some ((allR (h :: hs)).length : Int) := by
  unfold uv xd;rw [Q.ci,zV (by omega) (by omega)]
  rfl
 rw [Z];simp only [bS];refine Do.f (dF (by rw [Q.mi]; omega)) ?_;refine (jx H (by rw [J]; simp only; omega) key q.serial).bind ?_;rintro _ ⟨i,a1,rfl,hi,H1⟩;have X : Ar ⟨κ.C,q.a_.m_.steps,κ.g,κ.mo⟩ (0 + 3) a1 (h.C ++ (((It.mk i key q.serial).i,(It.mk i key q.serial).cell (-1)) :: allC hs)) := H1.p (List.perm_middle (l₁ := h.C) (l₂ := allC hs)).symm;have O := B.2.len;rw [HR.vV] at O;rw [oy,lA] at J;refine (BO (f := f) (x := It.mk i key q.serial) B.1 B.2 X (by rw [HR.vV]; simp only; omega) (by rw [HR.vV]; omega) hf).bind ?_;rintro _ ⟨r',C',a2,rfl,h1,Y⟩;have a5 : mGet kI (i : Int) q.t_.at_ = none := by
  cases z : mGet kI (i : Int) q.t_.at_ with
  | none => rfl
  | some s =>
   obtain ⟨p,hp,e,_⟩ := (Q.at2 _ _).1 z;have : i = p.2.i := by omega
   rw [this] at hi;exact absurd (Q.al hp) hi
 obtain ⟨D,p',e2,I',a3,S,U,I⟩ := Pt.qZ Q.ii (by omega) (by rw [Q.mm]; have := Q.ci; omega) (zA.mk (i : Int) h.ref);have e3 : tr q.t_ h.ref (i : Int) = some (D,0,zm.mk q.t_.heaps p' (mPut kI (i : Int) D q.t_.at_)) := by
  unfold tr;rw [Ph.vE Q.ih (Q.live hm)];simp only [bS];rw [show ((0 : Int) != 0) = false from rfl,cF];unfold qo;rw [a5];simp only [bS];have e4 : xd q.t_.items = some ((allR (h :: hs)).length : Int) := by
   unfold xd;rw [Q.ci,zV (by omega) (by omega)]
  rw [e4];unfold wK;simp only [bS];rw [show (((allR (h :: hs)).length : Int) == q.t_.items.most) = false by rw [Q.mm]; simp; omega,cF,cF,e2]
  rfl
 refine Do.seq e3 ?_;refine Do.seq (PQ.root (t := zm.mk q.t_.heaps p' (mPut kI (i : Int) D q.t_.at_)) Q.ih (Q.live hm) r' (w64 ((h.rs.length : Int) + 1))) ?_;rw [zV (by omega) (by omega),zV (by have := Q.sq; omega) (by have := Q.sq; omega)];have A : ∀ p ∈ allR (h :: hs),p.1 ≠ D := by
  intro p hp e;obtain ⟨g,z,hp⟩ := List.mem_flatMap.1 hp;exact a3 _ ((Q.il _ _).2 ⟨g,z,p,hp,e.symm,rfl⟩)
 have y : ∀ p,p ∈ allR (⟨h.ref,h.k,r',C',(D,It.mk i key q.serial) :: h.rs⟩ :: hs) ↔ p = (D,It.mk i key q.serial) \/ p ∈ allR (h :: hs) := by
  intro p;simp only [wZ,List.cons_append,iC]
 refine ⟨_,rfl,D,It.mk i key q.serial,r',C',_,rfl,rfl,rfl,?_,rfl,?_,?_⟩
 ·refine ⟨?_,I',?_,?_,sW AJ Q.at1,?_,sW uy Q.en1,?_,?_,?_,?_,?_,⟨⟨κ.C,q.a_.m_.steps,κ.g,κ.mo⟩,_,eC,Y⟩,Q.mi,U.trans Q.mm,Q.mb,?_,?_,Q.cm,?_,?_⟩
  ·have := Ph.qx Q.ih (Q.live hm) (zC.mk h.k r' ((h.rs.length : Int) + 1));exact { this with gen := fun j x hx => by have := this.gen j x hx; omega }
  ·refine fJ Q.hl Q.hn rfl fun s u => ?_
   have := Ph.sA (Q.live hm) (zC.mk h.k r' ((h.rs.length : Int) + 1)) s u;simpa [HR.val] using this
  ·intro s u;refine (S s u).trans ⟨?_,?_⟩
   ·rintro (⟨rfl,rfl⟩ | hl)
    ·exact ⟨_,List.mem_cons_self ..,_,List.mem_cons_self ..,rfl,rfl⟩
    ·obtain ⟨g,z,p,hp,rfl,rfl⟩ := (Q.il _ _).1 hl;rcases List.mem_cons.1 z with rfl | z
     ·exact ⟨_,List.mem_cons_self ..,p,mC _ hp,rfl,rfl⟩
     ·exact ⟨g,mC _ z,p,hp,rfl,rfl⟩
   ·rintro ⟨g,z,p,hp,rfl,rfl⟩;rcases List.mem_cons.1 z with rfl | z
    ·rcases List.mem_cons.1 hp with rfl | hp
     ·exact Or.inl ⟨rfl,rfl⟩
     ·exact Or.inr ((Q.il _ _).2 ⟨h,hm,p,hp,rfl,rfl⟩)
    ·exact Or.inr ((Q.il _ _).2 ⟨g,mC _ z,p,hp,rfl,rfl⟩)
  ·intro c s;refine (qn AJ).trans ⟨?_,?_⟩
   ·rintro (⟨rfl,rfl⟩ | ⟨a4,z⟩)
    ·exact ⟨_,(y _).2 (Or.inl rfl),rfl,rfl⟩
    ·obtain ⟨p,hp,e,e'⟩ := (Q.at2 _ _).1 z;exact ⟨p,(y _).2 (Or.inr hp),e,e'⟩
   ·rintro ⟨p,hp,rfl,rfl⟩;rcases (y _).1 hp with rfl | hp
    ·exact Or.inl ⟨rfl,rfl⟩
    ·refine Or.inr ⟨fun e => ?_,(Q.at2 _ _).2 ⟨p,hp,rfl,rfl⟩⟩;have : p.2.i = i := by omega
     exact hi (this ▸ Q.al hp)
  ·intro s e;refine (qn uy).trans ⟨?_,?_⟩
   ·rintro (⟨rfl,rfl⟩ | ⟨a4,z⟩)
    ·exact ⟨_,(y _).2 (Or.inl rfl),rfl,rfl⟩
    ·obtain ⟨p,hp,Z,e2⟩ := (Q.en2 _ _).1 z;exact ⟨p,(y _).2 (Or.inr hp),Z,e2⟩
   ·rintro ⟨p,hp,rfl,rfl⟩;rcases (y _).1 hp with rfl | hp
    ·exact Or.inl ⟨rfl,rfl⟩
    ·exact Or.inr ⟨A p hp,(Q.en2 _ _).2 ⟨p,hp,rfl,rfl⟩⟩
  ·intro g z;rcases List.mem_cons.1 z with rfl | z
   ·exact ⟨B.1,h1⟩
   ·exact Q.hk g (mC _ z)
  ·exact Q.hn
  ·show ((D,It.mk i key q.serial) :: (h.rs ++ allR hs) |>.map Prod.fst).Nodup;rw [pC,List.nodup_cons];refine ⟨fun F => ?_,Q.rn⟩;obtain ⟨p,hp,e⟩ := List.mem_map.1 F;exact A p hp e
  ·show ((D,It.mk i key q.serial) :: (h.rs ++ allR hs) |>.map fun p => p.2.s).Nodup;rw [pC,List.nodup_cons];refine ⟨fun F => ?_,Q.sn⟩;obtain ⟨p,hp,e⟩ := List.mem_map.1 F;have := (Q.sr p hp).2;simp only at e; omega
  ·rw [I,Q.ci];simp only [wZ,lA,lC]; omega
  ·have := Q.ch;simpa [mSet] using this
  ·intro p hp;have := Q.sq;rcases (y _).1 hp with rfl | hp
   ·simp only; omega
   ·have := Q.sr p hp; simp only; omega
  ·have := Q.sq; simp only; omega
 ·exact Y.lo
 ·have := Y.hi;rw [HR.vV] at this;simp only at this ⊢; omega
end
end
noncomputable section
set_option maxRecDepth 10000
theorem oW {α β : Type} {f : α -> β} {l : List α} {x : β} {q : List β} (h : (l.map f).Perm (x :: q)) : ∃ p rs,l.Perm (p :: rs) /\ f p = x /\ (rs.map f).Perm q := by
 have e : x ∈ l.map f := h.mem_iff.2 (List.mem_cons_self ..);obtain ⟨p,hp,rfl⟩ := List.mem_map.1 e;obtain ⟨s,t,rfl⟩ := List.append_of_mem hp;have h1 : (s ++ p :: t).Perm (p :: (s ++ t)) := List.perm_middle;refine ⟨p,s ++ t,h1,rfl,?_⟩;have h2 := (h1.map f).symm.trans h;rw [pC] at h2;exact h2.cons_inv
theorem tD {K V : Type} {eq : K -> K -> Bool} {k : K} {z v : V} {m : List (K × V)} (h : mGet eq k m = some v) : qo eq k z m = some (v,true) := by
 unfold qo; rw [h]
theorem eP {K V : Type} {eq : K -> K -> Bool} {k : K} {z : V} {m : List (K × V)} (h : mGet eq k m = none) : qo eq k z m = some (z,false) := by
 unfold qo; rw [h]
section
variable {M : Nat} {q : zq} {T : Nat} {h : HR} {hs hs' : List HR}
theorem PQ.re (Q : PQ M q T (h :: hs)) {rs : List (zd × It)} (hp : h.rs.Perm rs) : PQ M q T (⟨h.ref,h.k,h.r,h.C,rs⟩ :: hs) := by
 have t : (allR (h :: hs)).Perm (allR (⟨h.ref,h.k,h.r,h.C,rs⟩ :: hs)) := by rw [wZ,wZ]; exact hp.append_right _
 have j : ∀ p,p ∈ allR (h :: hs) ↔ p ∈ allR (⟨h.ref,h.k,h.r,h.C,rs⟩ :: hs) := fun p => t.mem_iff
 have hv : h.val = (⟨h.ref,h.k,h.r,h.C,rs⟩ : HR).val := by simp only [HR.val,hp.length_eq]
 refine ⟨Q.ih,Q.ii,fun s u => (Q.hl s u).trans ?_,fun s u => (Q.il s u).trans ?_,Q.at1,fun c s => (Q.at2 c s).trans ?_,Q.en1,fun s e => (Q.en2 s e).trans ?_,?_,Q.hn,((t.map _).nodup_iff).1 Q.rn,((t.map _).nodup_iff).1 Q.sn,?_,Q.mi,Q.mm,Q.mb,Q.ci.trans ?_,Q.ch,Q.cm,fun p hh => Q.sr p ((j p).2 hh),Q.sq⟩
 ·simp only [iC,exists_eq_or_imp,hv]
 ·simp only [iC,exists_eq_or_imp,hp.mem_iff]
 ·constructor
  ·rintro ⟨p,hp,e⟩; exact ⟨p,(j p).1 hp,e⟩
  ·rintro ⟨p,hp,e⟩; exact ⟨p,(j p).2 hp,e⟩
 ·constructor
  ·rintro ⟨p,hp,e⟩; exact ⟨p,(j p).1 hp,e⟩
  ·rintro ⟨p,hp,e⟩; exact ⟨p,(j p).2 hp,e⟩
 ·intro g x;rcases List.mem_cons.1 x with rfl | x
  ·have := Q.hk h (List.mem_cons_self ..);exact ⟨this.1,this.2.p (hp.map _) (.refl _)⟩
  ·exact Q.hk g (mC _ x)
 ·exact Q.ar
 ·rw [t.length_eq]
theorem PQ.Bv (Q : PQ M q T hs) {a : za} (h : ∃ κ n,κ.C = 2 * M /\ Ar κ n a (allC hs)) : PQ M (zq.mk q.items a q.t_ q.entries q.serial) T hs :=
 ⟨Q.ih,Q.ii,Q.hl,Q.il,Q.at1,Q.at2,Q.en1,Q.en2,Q.hk,Q.hn,Q.rn,Q.sn,h,Q.mi,Q.mm,Q.mb,Q.ci,Q.ch,Q.cm,Q.sr,Q.sq⟩
theorem PQ.lat (Q : PQ M q T hs) {p : zd × It} (hp : p ∈ allR hs) : mGet kI (p.2.i : Int) q.t_.at_ = some p.1 := (Q.at2 _ _).2 ⟨p,hp,rfl,rfl⟩
theorem PQ.len (Q : PQ M q T hs) {p : zd × It} (hp : p ∈ allR hs) : mGet zd.eq p.1 q.entries = some ⟨p.2.k,p.2.s⟩ := (Q.en2 _ _).2 ⟨p,hp,rfl,rfl⟩
theorem mn {g : HR} (e : g ∈ hs) {p : zd × It} (hp : p ∈ g.rs) : p ∈ allR hs := List.mem_flatMap.2 ⟨g,e,hp⟩
theorem PQ.drop {p : zd × It} {rs : List (zd × It)} {r' : Int} {C' : Heap} {a2 : za} {κ : Cfg} {n : Nat} (Q : PQ M q T (h :: hs)) (hp : h.rs = p :: rs) (F : h.rs.length < 4096) (hk : HK (KD h.k) r' (rs.map Prod.snd) C') (H : Ar κ n a2 (C' ++ ((p.2.i,p.2.cell (-1)) :: allC hs))) (W : κ.C = 2 * M) :
  Do (xC q.t_ h.ref r' (w64 ((h.rs.length : Int) - 1))) fun t1 => Do (uF (zq.mk q.items a2 t1.2 q.entries q.serial) p.1) fun res => ∃ I,res = (⟨p.2.k,p.2.s⟩,I) /\ PQ M I T (⟨h.ref,h.k,r',C',rs⟩ :: hs) /\ Ar κ (n + 1) I.a_ (C' ++ allC hs) /\ I.serial = q.serial := by
 have hm : h ∈ h :: hs := List.mem_cons_self ..;have J := Q.hk h hm;have t : allR (h :: hs) = p :: (rs ++ allR hs) := by rw [wZ,hp]; rfl
 have D : p ∈ allR (h :: hs) := by rw [t]; exact List.mem_cons_self ..
 have A : ∀ p' ∈ rs ++ allR hs,p'.1 ≠ p.1 := by
  have := Q.rn;rw [t,pC,List.nodup_cons] at this;intro p' j e;exact this.1 (e ▸ List.mem_map_of_mem (f := Prod.fst) j)
 have y : ∀ p',p' ∈ allR (h :: hs) ↔ p' = p \/ p' ∈ rs ++ allR hs := fun p' => by rw [t,iC]
 have O : ∀ p' ∈ rs ++ allR hs,(p'.2.i : Int) ≠ (p.2.i : Int) := by
  intro p' j e;have U := Q.lat ((y p').2 (Or.inr j));rw [e,Q.lat D] at U;exact A p' j (Option.some.inj U).symm
 have B : Pt.Live q.t_.items p.1 ⟨(p.2.i : Int),h.ref⟩ := (Q.il _ _).2 ⟨h,hm,p,by rw [hp]; exact List.mem_cons_self ..,rfl,rfl⟩;have hw : w64 ((h.rs.length : Int) - 1) = (rs.length : Int) := by
  rw [hp] at F ⊢;simp only [lC] at F ⊢;rw [zV] <;> omega
 rw [hw];refine Do.of (PQ.root Q.ih (Q.live hm) r' rs.length) ?_;unfold uF sv;simp only;rw [Pt.rV Q.ii B];simp only [bS];rw [show ((0 : Int) == 0) = true from rfl,cT];simp only [bS];refine ((H.p (List.perm_middle (l₁ := C') (l₂ := allC hs))).give).bind ?_;rintro _ ⟨a3,rfl,S⟩;rw [tD (Q.len D)];refine ⟨_,rfl,_,rfl,?_,S,rfl⟩;refine ⟨?_,Pt.oI Q.ii B,?_,?_,rY Q.at1,?_,rY Q.en1,?_,?_,Q.hn,?_,?_,⟨κ,_,W,S⟩,Q.mi,Q.mm,Q.mb,?_,?_,Q.cm,?_,Q.sq⟩
 ·exact Ph.qx Q.ih (Q.live hm) (zC.mk h.k r' (rs.length : Int))
 ·refine fJ Q.hl Q.hn rfl fun s u => ?_
  have := Ph.sA (Q.live hm) (zC.mk h.k r' (rs.length : Int)) s u;simpa [HR.val] using this
 ·intro s u;refine (Pt.qN B s u).trans ⟨?_,?_⟩
  ·rintro ⟨z,hl⟩;obtain ⟨g,x,p',j,rfl,rfl⟩ := (Q.il _ _).1 hl;rcases List.mem_cons.1 x with rfl | x
   ·rw [hp] at j;rcases List.mem_cons.1 j with rfl | j
    ·exact absurd rfl z
    ·exact ⟨_,List.mem_cons_self ..,p',j,rfl,rfl⟩
   ·exact ⟨g,mC _ x,p',j,rfl,rfl⟩
  ·rintro ⟨g,x,p',j,rfl,rfl⟩;rcases List.mem_cons.1 x with rfl | x
   ·exact ⟨A p' (mL _ j),(Q.il _ _).2 ⟨h,hm,p',by rw [hp]; exact mC _ j,rfl,rfl⟩⟩
   ·exact ⟨A p' (List.mem_append_right _ (mn x j)),(Q.il _ _).2 ⟨g,mC _ x,p',j,rfl,rfl⟩⟩
 ·intro c s;refine (pw AJ Q.at1).trans ⟨?_,?_⟩
  ·rintro ⟨z,x⟩;obtain ⟨p',j,rfl,rfl⟩ := (Q.at2 _ _).1 x;rcases (y p').1 j with rfl | j
   ·exact absurd rfl z
   ·exact ⟨p',j,rfl,rfl⟩
  ·rintro ⟨p',j,rfl,rfl⟩;exact ⟨O p' j,(Q.at2 _ _).2 ⟨p',(y p').2 (Or.inr j),rfl,rfl⟩⟩
 ·intro s e;refine (pw uy Q.en1).trans ⟨?_,?_⟩
  ·rintro ⟨z,x⟩;obtain ⟨p',j,rfl,rfl⟩ := (Q.en2 _ _).1 x;rcases (y p').1 j with rfl | j
   ·exact absurd rfl z
   ·exact ⟨p',j,rfl,rfl⟩
  ·rintro ⟨p',j,rfl,rfl⟩;exact ⟨A p' j,(Q.en2 _ _).2 ⟨p',(y p').2 (Or.inr j),rfl,rfl⟩⟩
 ·intro g x;rcases List.mem_cons.1 x with rfl | x
  ·exact ⟨J.1,hk⟩
  ·exact Q.hk g (mC _ x)
 ·have := Q.rn;rw [t,pC,List.nodup_cons] at this;exact this.2
 ·have := Q.sn;rw [t,pC,List.nodup_cons] at this;exact this.2
 ·have := Q.ci;rw [t] at this;simp only [mSet,List.length_set,lA,lC,List.length_nil,wZ] at this ⊢;omega
 ·have := Q.ch;simpa [mSet] using this
 ·intro p' j;exact Q.sr p' ((y p').2 (Or.inr j))
theorem PQ.low {p : zd × It} {y : It} {rs : List (zd × It)} {r' : Int} {C' : Heap} {a2 : za} {κ : Cfg} {n : Nat} (Q : PQ M q T (h :: hs)) (hp : h.rs = p :: rs) (hi : y.i = p.2.i) (J : y.s = p.2.s) (hk : HK (KD h.k) r' (y :: rs.map Prod.snd) C') (H : Ar κ n a2 (C' ++ allC hs)) (O : κ.C = 2 * M) :
  PQ M (zq.mk q.items a2 (zm.mk (zj.mk q.t_.heaps.most (mSet q.t_.heaps.l h.ref.At ⟨h.ref.Gen,true,⟨h.k,r',(h.rs.length : Int)⟩⟩) q.t_.heaps.free) q.t_.items q.t_.at_) (mPut zd.eq p.1 ⟨y.k,y.s⟩ q.entries) q.serial) T (⟨h.ref,h.k,r',C',(p.1,y) :: rs⟩ :: hs) := by
 have hm : h ∈ h :: hs := List.mem_cons_self ..;have D := Q.hk h hm;have x : allR (h :: hs) = p :: (rs ++ allR hs) := by rw [wZ,hp]; rfl
 have B : p ∈ allR (h :: hs) := by rw [x]; exact List.mem_cons_self ..
 have F : ∀ p' ∈ rs ++ allR hs,p'.1 ≠ p.1 := by
  have := Q.rn;rw [x,pC,List.nodup_cons] at this;intro p' j e;exact this.1 (e ▸ List.mem_map_of_mem (f := Prod.fst) j)
 have A : ∀ p',p' ∈ allR (h :: hs) ↔ p' = p \/ p' ∈ rs ++ allR hs := fun p' => by rw [x,iC]
 have t : ∀ p',p' ∈ allR (⟨h.ref,h.k,r',C',(p.1,y) :: rs⟩ :: hs) ↔ p' = (p.1,y) \/ p' ∈ rs ++ allR hs := fun p' => by rw [wZ]; exact iC
 have hlen : h.rs.length = ((p.1,y) :: rs).length := by rw [hp]; rfl
 refine ⟨?_,Q.ii,?_,?_,Q.at1,?_,sW uy Q.en1,?_,?_,Q.hn,?_,?_,⟨κ,_,O,H⟩,Q.mi,Q.mm,Q.mb,?_,?_,Q.cm,?_,Q.sq⟩
 ·exact Ph.qx Q.ih (Q.live hm) (zC.mk h.k r' (h.rs.length : Int))
 ·refine fJ Q.hl Q.hn rfl fun s u => ?_
  have := Ph.sA (Q.live hm) (zC.mk h.k r' (h.rs.length : Int)) s u;simpa only [HR.val,hlen] using this
 ·intro s u;refine (Q.il s u).trans ⟨?_,?_⟩
  ·rintro ⟨g,z,p',j,rfl,rfl⟩;rcases List.mem_cons.1 z with rfl | z
   ·rw [hp] at j;rcases List.mem_cons.1 j with rfl | j
    ·exact ⟨_,List.mem_cons_self ..,_,List.mem_cons_self ..,rfl,by rw [hi]⟩
    ·exact ⟨_,List.mem_cons_self ..,p',mC _ j,rfl,rfl⟩
   ·exact ⟨g,mC _ z,p',j,rfl,rfl⟩
  ·rintro ⟨g,z,p',j,rfl,rfl⟩;rcases List.mem_cons.1 z with rfl | z
   ·rcases List.mem_cons.1 j with rfl | j
    ·exact ⟨h,hm,p,by rw [hp]; exact List.mem_cons_self ..,rfl,by simp only [hi]⟩
    ·exact ⟨h,hm,p',by rw [hp]; exact mC _ j,rfl,rfl⟩
   ·exact ⟨g,mC _ z,p',j,rfl,rfl⟩
 ·intro c s;refine (Q.at2 c s).trans ⟨?_,?_⟩
  ·rintro ⟨p',j,rfl,rfl⟩;rcases (A p').1 j with rfl | j
   ·exact ⟨_,(t _).2 (Or.inl rfl),by simp only [hi],rfl⟩
   ·exact ⟨_,(t _).2 (Or.inr j),rfl,rfl⟩
  ·rintro ⟨p',j,rfl,rfl⟩;rcases (t p').1 j with rfl | j
   ·exact ⟨_,B,by simp only [hi],rfl⟩
   ·exact ⟨_,(A _).2 (Or.inr j),rfl,rfl⟩
 ·intro s e;refine (qn uy).trans ⟨?_,?_⟩
  ·rintro (⟨rfl,rfl⟩ | ⟨I,z⟩)
   ·exact ⟨_,(t _).2 (Or.inl rfl),rfl,rfl⟩
   ·obtain ⟨p',j,rfl,rfl⟩ := (Q.en2 _ _).1 z;rcases (A p').1 j with rfl | j
    ·exact absurd rfl I
    ·exact ⟨p',(t _).2 (Or.inr j),rfl,rfl⟩
  ·rintro ⟨p',j,rfl,rfl⟩;rcases (t p').1 j with rfl | j
   ·exact Or.inl ⟨rfl,rfl⟩
   ·exact Or.inr ⟨F p' j,(Q.en2 _ _).2 ⟨p',(A p').2 (Or.inr j),rfl,rfl⟩⟩
 ·intro g z;rcases List.mem_cons.1 z with rfl | z
  ·exact ⟨D.1,hk⟩
  ·exact Q.hk g (mC _ z)
 ·have := Q.rn;rw [x] at this;exact this
 ·have := Q.sn;rw [x] at this;show (((p.1,y) :: (rs ++ allR hs)).map fun p => p.2.s).Nodup;simp only [pC,J] at this ⊢;exact this
 ·have := Q.ci;rw [x] at this;simp only [lA,lC,wZ] at this ⊢;omega
 ·have := Q.ch;simpa [mSet] using this
 ·intro p' j;rcases (t p').1 j with rfl | j
  ·simp only [J]; exact Q.sr p B
  ·exact Q.sr p' ((A p').2 (Or.inr j))
def okA (i : zd) (p : It) : zO := zO.mk 0 (zd.mk 0 0) i (zG.mk p.k p.s) 0
theorem PQ.min (Q : PQ M q T (h :: hs)) (J : h.rs.length < 1000) {f : Nat} (hf : 95000 < f) :
  Do (vF f q h.ref false) fun res => ∃ z,PQ M z T (h :: hs) /\ z.serial = q.serial /\ Stp' q z 100 /\ ((h.rs = [] /\ res = (zO.mk 27 (zd.mk 0 0) (zd.mk 0 0) (zG.mk 0 0) 0,z)) \/ ∃ p ∈ h.rs,res = (okA p.1 p.2,z) /\ ∀ p' ∈ h.rs,¬ p'.2.lt p.2) := by
 have hm : h ∈ h :: hs := List.mem_cons_self ..;have j := Q.hk h hm;obtain ⟨κ,n,I,B⟩ := Q.ar;have H := B.yF;unfold vF;rw [Q.heap hm];simp only [bS];refine Do.f rfl ?_;refine Do.if (fun e => ?_) (fun e => ?_)
 ·have D : h.rs = [] := by
   have : (h.rs.length : Int) = 0 := by simpa using e
   exact List.eq_nil_of_length_eq_zero (by omega)
  exact ⟨_,rfl,q,Q,rfl,⟨Int.le_refl _,by omega⟩,Or.inl ⟨D,rfl⟩⟩
 ·refine Do.t rfl ?_;refine (CY (f := f) j.1 j.2 H (by rw [HR.vV]; omega) hf).bind ?_;rintro _ ⟨a1,H1,h1⟩;rcases h1 with ⟨F,_⟩ | ⟨x,O,rfl,u⟩
  ·have := HR.vV h;rw [F] at this;simp at this;rw [<- this] at e; simp at e
  ·obtain ⟨p,hp,rfl⟩ := List.mem_map.1 O;have y := mn hm hp;unfold uG;simp only;rw [tD (Q.lat y)];simp only [bS];rw [tD (Q.len y)];refine ⟨_,rfl,_,Q.Bv (a := a1) ⟨⟨κ.C,q.a_.m_.steps,κ.g,κ.mo⟩,_,I,H1⟩,rfl,⟨H1.lo,by have := H1.hi; simp only at this ⊢; omega⟩,Or.inr ⟨p,hp,rfl,fun p' A => u _ (List.mem_map_of_mem (f := Prod.snd) A)⟩⟩
theorem PQ.pop (Q : PQ M q T (h :: hs)) (Y : h.rs.length < 1000) (A : h.rs ≠ []) {f : Nat} (hf : 95000 < f) :
  Do (vF f q h.ref true) fun res => ∃ p rs r' C' t,res = (okA p.1 p.2,t) /\ h.rs.Perm (p :: rs) /\ (∀ p' ∈ h.rs,¬ p'.2.lt p.2) /\ PQ M t T (⟨h.ref,h.k,r',C',rs⟩ :: hs) /\ t.serial = q.serial /\ Stp' q t (bd h.k h.rs.length + 1) := by
 have hm : h ∈ h :: hs := List.mem_cons_self ..;have u := Q.hk h hm;obtain ⟨κ,n,W,S⟩ := Q.ar;have H := S.yF;have X : h.rs.length ≠ 0 := fun e => A (List.eq_nil_of_length_eq_zero e)
 unfold vF;rw [Q.heap hm];simp only [bS];refine Do.f rfl ?_;refine Do.f (by simp; omega) ?_;refine Do.f rfl ?_;refine (C5 (f := f) u.1 u.2 H (by intro e; have := HR.vV h; rw [e] at this; simp at this; omega) (by rw [HR.vV]; omega) hf).bind ?_;rintro _ ⟨x,q0,r',C',a1,rfl,J,y,h1,H1⟩;obtain ⟨p,rs,j,rfl,hq⟩ := oW J;have I : p ∈ h.rs := j.mem_iff.2 (List.mem_cons_self ..);have F := mn hm I;unfold uG;simp only;rw [tD (Q.lat F)];simp only [bS];have D := (Q.re j).drop (p := p) (rs := rs) (r' := r') (C' := C') (a2 := a1) rfl (by simp only [<- j.length_eq]; omega) (h1.p hq.symm (.refl _)) H1 W;simp only [<- j.length_eq] at D;refine D.bind fun t1 D => D.bind ?_
 rintro _ ⟨t,rfl,U,O,z⟩;refine ⟨_,rfl,p,rs,r',C',t,rfl,j,fun p' B => y _ (List.mem_map_of_mem (f := Prod.snd) B),U,z,O.lo,?_⟩;have := O.hi;rw [HR.vV] at this;simp only at this ⊢; omega
theorem PQ.cell (Q : PQ M q T hs) {g : HR} (e : g ∈ hs) {p : zd × It} (hp : p ∈ g.rs) : yu q.t_.items p.1 = some (⟨(p.2.i : Int),g.ref⟩,0) := Pt.vE Q.ii ((Q.il _ _).2 ⟨g,e,p,hp,rfl,rfl⟩)
theorem PQ.remove (Q : PQ M q T (h :: hs)) (S : h.rs.length < 1000) {p : zd × It} (hp : p ∈ h.rs) {f : Nat} (hf : 95000 < f) :
  Do (uL f q p.1) fun res => ∃ rs r' C' u,res = (okA (zd.mk 0 0) p.2,u) /\ h.rs.Perm (p :: rs) /\ PQ M u T (⟨h.ref,h.k,r',C',rs⟩ :: hs) /\ u.serial = q.serial /\ Stp' q u (bd h.k h.rs.length + 1) := by
 have hm : h ∈ h :: hs := List.mem_cons_self ..;have y := Q.hk h hm;obtain ⟨κ,n,J,F⟩ := Q.ar;have H := F.yF;have O := Q.cell hm hp;unfold uL vN uH;rw [O];simp only [bS];refine Do.f rfl ?_;rw [Q.heap hm];simp only [bS];refine (CX (f := f) (x := p.2) y.1 y.2 (List.mem_map_of_mem (f := Prod.snd) hp) H (by rw [HR.vV]; omega) hf).bind ?_;rintro _ ⟨q0,r',C',a1,rfl,A,h1,H1⟩;obtain ⟨s,t,e⟩ := List.append_of_mem hp;have j : h.rs.Perm (p :: (s ++ t)) := by rw [e]; exact List.perm_middle
 have hq : ((s ++ t).map Prod.snd).Perm q0 := by
  have := (j.map Prod.snd).symm.trans A;rw [pC] at this;exact this.cons_inv
 have D := (Q.re j).drop (p := p) (rs := s ++ t) (r' := r') (C' := C') (a2 := a1) rfl (by simp only [<- j.length_eq]; omega) (h1.p hq.symm (.refl _)) H1 J;simp only [<- j.length_eq] at D;refine D.bind fun t1 D => D.bind ?_
 rintro _ ⟨u,rfl,I,B,z⟩;refine ⟨_,rfl,s ++ t,r',C',u,rfl,j,I,z,B.lo,?_⟩;have := B.hi;rw [HR.vV] at this;simp only at this ⊢; omega
theorem PQ.bI (Q : PQ M q T (h :: hs)) (S : h.rs.length < 1000) {p : zd × It} (hp : p ∈ h.rs) {f : Nat} (hf : 95000 < f) {key : Int} (x : key <= p.2.k) (U : Int) (hh o : zd) :
  Do (vZ f q (yk.mk 5 U hh o p.1 key)) fun res => ∃ rs r' C' z,res = (okA (zd.mk 0 0) ⟨p.2.i,key,p.2.s⟩,z) /\ h.rs.Perm (p :: rs) /\ PQ M z T (⟨h.ref,h.k,r',C',(p.1,⟨p.2.i,key,p.2.s⟩) :: rs⟩ :: hs) /\ z.serial = q.serial /\ Stp' q z (bd h.k h.rs.length + 2) := by
 have hm : h ∈ h :: hs := List.mem_cons_self ..;have u := Q.hk h hm;obtain ⟨κ,n,J,I⟩ := Q.ar;have H := I.yF;have O := Q.cell hm hp;have B := mn hm hp;unfold vZ vN uH;rw [O];simp only [bS];rw [tD (Q.len B)];simp only [bS];refine Do.f rfl ?_;refine Do.f (dF (by omega)) ?_;rw [Q.heap hm];simp only [bS];refine (u.2.lower H (List.mem_map_of_mem (f := Prod.snd) hp) x).bind ?_;rintro _ ⟨W,a1,rfl,h1,H1⟩;refine (BM (f := f) (y := ⟨p.2.i,key,p.2.s⟩) u.1 h1 rfl (by unfold It.lt; simp only; omega) H1 (by rw [HR.vV]; omega) hf).bind ?_;rintro _ ⟨r',q0,C',a2,rfl,D,h2,A⟩;obtain ⟨s,t,e⟩ := List.append_of_mem hp;have j : h.rs.Perm (p :: (s ++ t)) := by rw [e]; exact List.perm_middle
 have hq : ((s ++ t).map Prod.snd).Perm q0 := by
  have := (j.map Prod.snd).symm.trans D;rw [pC] at this;exact this.cons_inv
 have F := (Q.re j).low (p := p) (y := ⟨p.2.i,key,p.2.s⟩) (rs := s ++ t) (r' := r') (C' := C') (a2 := a2) rfl rfl rfl (h2.p (hq.symm.cons _) (.refl _)) A J;simp only [<- j.length_eq] at F;refine Do.seq (PQ.root Q.ih (Q.live hm) r' h.rs.length) ?_;refine ⟨_,rfl,s ++ t,r',C',_,rfl,j,F,rfl,A.lo,?_⟩;have := A.hi;rw [HR.vV] at this;simp only at this ⊢; omega
end
end
end Go.Proofs.YtcepppmiplonfaaGreat
