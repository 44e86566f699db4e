/-
  The statements TopTimes of the program.
  Text 4 of 8: of what the proof needs (a row of the program: no condition is left); put together and made narrow by a program.
-/
import Derived.Test.YtojpmaakhdmhmaaGreatYw3
set_option linter.unusedVariables false
set_option linter.unusedSimpArgs false
namespace Go.Proofs.YtojpmaakhdmhmaaGreat
open Go.Th
noncomputable section
set_option maxRecDepth 10000
namespace Ph
structure Inv (p : zh) (T : Nat) : Prop where
 most : 0 <= p.most /\ p.most <= 65536
 len : (p.l.length : Int) <= p.most
 fre : ∀ f ∈ p.free,∃ (j : Nat) (x : zs),f = (j : Int) /\ p.l[j]? = some x /\ x.taken = false
 fnd : p.free.Nodup
 cov : ∀ (j : Nat) (x : zs),p.l[j]? = some x -> x.taken = false -> (j : Int) ∈ p.free
 gen : ∀ (j : Nat) (x : zs),p.l[j]? = some x -> 1 <= x.gen /\ x.gen <= T
def Live (p : zh) (r : zd) (v : zA) : Prop := ∃ j : Nat,r.At = (j : Int) /\ p.l[j]? = some ⟨r.Gen,true,v⟩
section
variable {p : zh} {T : Nat} {r : zd} {v : zA}
theorem Live.idx (h : Live p r v) : mIdx p.l r.At = some ⟨r.Gen,true,v⟩ := by
 obtain ⟨j,e,h⟩ := h;rw [e,yv]; exact h
theorem Live.uniq {w : zA} (h : Live p r v) (j : Live p r w) : v = w := by
 have i := h.idx;have e := j.idx;rw [i] at e;simp only [Option.some.injEq,zs.mk.injEq,true_and] at e;exact e
theorem Inv.flen (I : Inv p T) : p.free.length <= p.l.length := by
 have h1 : (p.free.map Int.toNat).Nodup := List.pairwise_map.2 (I.fnd.imp_of_mem fun {x y} u z t e => by
  obtain ⟨i,_,rfl,_⟩ := I.fre x u;obtain ⟨j,_,rfl,_⟩ := I.fre y z;simp only [tN] at e;exact t (by rw [e]))
 have h2 := rL (m := List.range p.l.length) h1 fun x u => by
  obtain ⟨f,hf,rfl⟩ := List.mem_map.1 u;obtain ⟨j,y,rfl,hj,_⟩ := I.fre f hf;simp only [tN,List.mem_range];exact (List.getElem?_eq_some_iff.1 hj).1
 simpa using h2
theorem wA (I : Inv p T) (h : Live p r v) : yT p r = some (some r.At,0) := by
 have hi := h.idx;obtain ⟨j,e,h⟩ := h;have i := I.gen _ _ h;simp only at i;have hl := (List.getElem?_eq_some_iff.1 h).1;unfold yT;rw [dF (by omega),dF (by omega),dF (by omega),hi];simp
theorem wM (I : Inv p T) (h : Live p r v) : yw p r = some (v,0) := by
 unfold yw;rw [wA I h];simp [ta,oS,h.idx]
theorem ry (I : Inv p T) (h : Live p r v) (w : zA) : xn p r w = some (0,zh.mk p.most (mSet p.l r.At ⟨r.Gen,true,w⟩) p.free) := by
 unfold xn;rw [wA I h];simp [ta,oS,h.idx]
theorem sK (I : Inv p T) (h : Live p r v) : xM p r = some (v,0,zh.mk p.most (mSet p.l r.At ⟨r.Gen,false,(zA.mk 0 0 0)⟩) (p.free ++ [r.At])) := by
 have e := I.flen;have h1 := I.len;have h2 := I.most;unfold xM;rw [wA I h];simp only [bS,ta,oS,h.idx];rw [yP (by simp only [List.length_singleton]; omega)];simp [mSet]
theorem sW (I : Inv p T) (u : T < 4611686018427387904) {fs : List Int} {j : Nat} {x : zs} (hf : p.free = fs ++ [(j : Int)]) (hj : p.l[j]? = some x) :
  yD p v = some (zd.mk (j : Int) (x.gen + 1),true,zh.mk p.most (mSet p.l (j : Int) ⟨x.gen + 1,true,v⟩) fs) := by
 have y := I.gen _ _ hj;have t : fs.length < 1000000 := by
  have h0 := I.flen;rw [hf] at h0;simp only [lA,List.length_singleton] at h0;have := I.len;have := I.most;omega
 have hw : w64 (((fs ++ [(j : Int)]).length : Int) - 1) = (fs.length : Int) := by
  rw [zF] <;> simp <;> omega
 have i : mIdx (fs ++ [(j : Int)]) (fs.length : Int) = some (j : Int) := yu fs [] (j : Int);have e : mCut (fs ++ [(j : Int)]) 0 (fs.length : Int) = some fs := by
  unfold mCut;rw [if_pos ⟨by omega,by omega,by simp; omega⟩];simp
 unfold yD;rw [hf,hw,dT (by omega)];simp only [cT,i,e,bS];rw [yv,hj];simp only [bS];rw [zF (by omega) (by omega)];simp [mSet]
theorem qh (I : Inv p T) (hf : p.free = []) (hl : (p.l.length : Int) < p.most) :
  yD p v = some (zd.mk (p.l.length : Int) 1,true,zh.mk p.most (p.l ++ [⟨1,true,v⟩]) []) := by
 have := I.most;unfold yD;rw [hf];rw [show w64 ((([] : List Int).length : Int) - 1) = -1 by rw [zF] <;> simp];rw [dF (by omega)];simp only [cF];rw [dF (by omega)];simp only [cF];rw [yP (by simp only [List.length_singleton]; omega)];simp only [bS];rw [yu];simp only [bS];rw [show w64 (0 + 1) = 1 by rw [zF] <;> simp];simp [mSet]
theorem yH {l : List zs} {j i : Nat} {x y : zs} (h : l[j]? = some y) : (l.set j x)[i]? = if i = j then some x else l[i]? := by
 have := (List.getElem?_eq_some_iff.1 h).1;by_cases e : i = j
 ·subst e; rw [if_pos rfl,List.getElem?_set_self this]
 ·rw [if_neg e,getD_set_ne (fun h => e h.symm)]
theorem rv (I : Inv p T) (h : Live p r v) (w : zA) : Inv (zh.mk p.most (mSet p.l r.At ⟨r.Gen,true,w⟩) p.free) T := by
 obtain ⟨j,e,h⟩ := h;have u := I.gen _ _ h;refine ⟨I.most,by simpa [mSet] using I.len,fun f hf => ?_,I.fnd,fun i x t ht => ?_,fun i x t => ?_⟩
 ·obtain ⟨i,x,rfl,hi,t⟩ := I.fre f hf;refine ⟨i,x,rfl,?_,t⟩;simp only [mSet,e,tN];rw [yH h,if_neg]; exact hi;rintro rfl;rw [h] at hi; cases hi; simp at t
 ·simp only [mSet,e,tN] at t;rw [yH h] at t;split at t
  ·cases t; simp at ht
  ·exact I.cov i x t ht
 ·simp only [mSet,e,tN] at t;rw [yH h] at t;split at t
  ·cases t; exact u
  ·exact I.gen i x t
theorem tm (h : Live p r v) (w : zA) (s : zd) (u : zA) : Live (zh.mk p.most (mSet p.l r.At ⟨r.Gen,true,w⟩) p.free) s u ↔ (s = r /\ u = w) \/ (s ≠ r /\ Live p s u) := by
 obtain ⟨j,e,h⟩ := h;constructor
 ·rintro ⟨i,t,hi⟩;simp only [mSet,e,tN] at hi;rw [yH h] at hi;split at hi
  ·rename_i x;subst x;simp only [Option.some.injEq,zs.mk.injEq,true_and] at hi;refine Or.inl ⟨?_,hi.2.symm⟩;cases s; cases r; simp only at e t hi ⊢; rw [t,e,hi.1]
  ·rename_i x;refine Or.inr ⟨?_,i,t,hi⟩;rintro rfl;exact x (by omega)
 ·rintro (⟨rfl,rfl⟩ | ⟨y,i,t,hi⟩)
  ·refine ⟨j,e,?_⟩;simp only [mSet,e,tN];rw [yH h,if_pos rfl]
  ·refine ⟨i,t,?_⟩;simp only [mSet,e,tN];rw [yH h,if_neg]; exact hi;rintro rfl;rw [h] at hi;simp only [Option.some.injEq,zs.mk.injEq,true_and] at hi;refine y ?_;cases s; cases r; simp only at e t hi ⊢; rw [t,e,hi.1]
theorem qU (I : Inv p T) (h : Live p r v) : Inv (zh.mk p.most (mSet p.l r.At ⟨r.Gen,false,(zA.mk 0 0 0)⟩) (p.free ++ [r.At])) T := by
 obtain ⟨j,e,h⟩ := h;have A := I.gen _ _ h;have y : r.At ∉ p.free := by
  intro hf;obtain ⟨i,x,B,hi,t⟩ := I.fre _ hf;have : i = j := by omega
  subst this;rw [h] at hi; cases hi; simp at t
 refine ⟨I.most,by simpa [mSet] using I.len,fun f hf => ?_,?_,fun i x t ht => ?_,fun i x t => ?_⟩
 ·simp only [mSet,e,tN];rcases List.mem_append.1 hf with hf | hf
  ·obtain ⟨i,x,rfl,hi,t⟩ := I.fre f hf;refine ⟨i,x,rfl,?_,t⟩;rw [yH h,if_neg]; exact hi;rintro rfl;rw [h] at hi; cases hi; simp at t
  ·rw [List.mem_singleton.1 hf,e];exact ⟨j,_,rfl,by rw [yH h,if_pos rfl],rfl⟩
 ·exact List.nodup_append.2 ⟨I.fnd,by simp,fun a ha b z => by rw [List.mem_singleton.1 z]; rintro rfl; exact y ha⟩
 ·simp only [mSet,e,tN] at t;rw [yH h] at t;split at t
  ·rename_i u; subst u; exact List.mem_append_right _ (by rw [e]; simp)
  ·exact mL _ (I.cov i x t ht)
 ·simp only [mSet,e,tN] at t;rw [yH h] at t;split at t
  ·cases t; exact A
  ·exact I.gen i x t
theorem rI (h : Live p r v) (s : zd) (u : zA) : Live (zh.mk p.most (mSet p.l r.At ⟨r.Gen,false,(zA.mk 0 0 0)⟩) (p.free ++ [r.At])) s u ↔ s ≠ r /\ Live p s u := by
 obtain ⟨j,e,h⟩ := h;constructor
 ·rintro ⟨i,t,hi⟩;simp only [mSet,e,tN] at hi;rw [yH h] at hi;split at hi
  ·simp at hi
  ·rename_i x;refine ⟨?_,i,t,hi⟩;rintro rfl;exact x (by omega)
 ·rintro ⟨y,i,t,hi⟩;refine ⟨i,t,?_⟩;simp only [mSet,e,tN];rw [yH h,if_neg]; exact hi;rintro rfl;rw [h] at hi;simp only [Option.some.injEq,zs.mk.injEq,true_and] at hi;refine y ?_;cases s; cases r; simp only at e t hi ⊢; rw [t,e,hi.1]
theorem rU (I : Inv p T) (W : T < 4611686018427387904) (z : (p.l.length : Int) < p.most + p.free.length) (v : zA) :
  ∃ r p',yD p v = some (r,true,p') /\ Inv p' (T + 1) /\ (∀ w,¬ Live p r w) /\ (∀ s u,Live p' s u ↔ (s = r /\ u = v) \/ Live p s u) /\ p'.most = p.most /\ (p'.l.length : Int) - p'.free.length = (p.l.length : Int) - p.free.length + 1 := by
 rcases List.eq_nil_or_concat p.free with hf | ⟨fs,f,hf⟩
 ·rw [hf] at z;refine ⟨_,_,qh I hf (by simpa using z),⟨I.most,by simp at z ⊢; omega,by simp,by simp,?_,?_⟩,?_,?_,rfl,by rw [hf]; simp⟩
  ·intro j x t ht;simp only at t;by_cases hj : j < p.l.length
   ·rw [List.getElem?_append_left hj] at t;have := I.cov j x t ht;rw [hf] at this; simp at this
   ·rw [List.getElem?_append_right (by omega)] at t;by_cases e : j - p.l.length = 0
    ·rw [e] at t; simp at t; subst t; simp at ht
    ·rw [List.getElem?_eq_none (by simp; omega)] at t; cases t
  ·intro j x t;simp only at t;by_cases hj : j < p.l.length
   ·rw [List.getElem?_append_left hj] at t;have := I.gen j x t;omega
   ·rw [List.getElem?_append_right (by omega)] at t;by_cases e : j - p.l.length = 0
    ·rw [e] at t; simp at t; subst t; simp; omega
    ·rw [List.getElem?_eq_none (by simp; omega)] at t; cases t
  ·rintro w ⟨j,e,h⟩;have := (List.getElem?_eq_some_iff.1 h).1;simp only at e;omega
  ·intro s u;constructor
   ·rintro ⟨j,e,h⟩;simp only at h;by_cases hj : j < p.l.length
    ·rw [List.getElem?_append_left hj] at h;exact Or.inr ⟨j,e,h⟩
    ·rw [List.getElem?_append_right (by omega)] at h;by_cases U : j - p.l.length = 0
     ·rw [U] at h;simp at h;refine Or.inl ⟨?_,h.2.symm⟩;cases s; simp only at e h ⊢;rw [e,<- h.1]; congr 1; omega
     ·rw [List.getElem?_eq_none (by simp; omega)] at h; cases h
   ·rintro (⟨rfl,rfl⟩ | ⟨j,e,h⟩)
    ·exact ⟨p.l.length,rfl,by simp⟩
    ·have := (List.getElem?_eq_some_iff.1 h).1;exact ⟨j,e,by rw [List.getElem?_append_left this]; exact h⟩
 ·rw [List.concat_eq_append] at hf;obtain ⟨j,x,rfl,hj,ht⟩ := I.fre f (by rw [hf]; simp);have X := I.gen j x hj;have hn := I.fnd;rw [hf] at hn;obtain ⟨O,-,S⟩ := List.nodup_append.1 hn;have J : (j : Int) ∉ fs := fun h => S _ h _ (List.mem_singleton.2 rfl) rfl
  refine ⟨_,_,sW I W hf hj,⟨I.most,by simpa [mSet] using I.len,?_,O,?_,?_⟩,?_,?_,rfl,by rw [hf]; simp [mSet]; omega⟩
  ·intro f B;obtain ⟨i,y,rfl,hi,A⟩ := I.fre f (by rw [hf]; exact mL _ B);refine ⟨i,y,rfl,?_,A⟩;simp only [mSet,tN];rw [yH hj,if_neg]; exact hi;rintro rfl; exact J B
  ·intro i y A F;simp only [mSet,tN] at A;rw [yH hj] at A;split at A
   ·cases A; simp at F
   ·rename_i D;have := I.cov i y A F;rw [hf] at this;rcases List.mem_append.1 this with h | h
    ·exact h
    ·simp at h; omega
  ·intro i y A;simp only [mSet,tN] at A;rw [yH hj] at A;split at A
   ·cases A; simp only; omega
   ·have := I.gen i y A; omega
  ·rintro w ⟨i,e,h⟩;simp only at e h;have : i = j := by omega
   subst this;rw [hj] at h;simp only [Option.some.injEq] at h;rw [h] at ht; simp at ht
  ·intro s u;constructor
   ·rintro ⟨i,e,h⟩;simp only [mSet,tN] at h;rw [yH hj] at h;split at h
    ·rename_i D;subst D;simp only [Option.some.injEq,zs.mk.injEq,true_and] at h;refine Or.inl ⟨?_,h.2.symm⟩;cases s; simp only at e h ⊢; rw [e,<- h.1]
    ·exact Or.inr ⟨i,e,h⟩
   ·rintro (⟨rfl,rfl⟩ | ⟨i,e,h⟩)
    ·refine ⟨j,rfl,?_⟩;simp only [mSet,tN];rw [yH hj,if_pos rfl]
    ·refine ⟨i,e,?_⟩;simp only [mSet,tN];rw [yH hj,if_neg]; exact h;rintro rfl;rw [hj] at h;simp only [Option.some.injEq] at h;rw [h] at ht; simp at ht
end
end Ph
end
noncomputable section
set_option maxRecDepth 10000
namespace Pt
structure Inv (p : zc) (T : Nat) : Prop where
 most : 0 <= p.most /\ p.most <= 65536
 len : (p.l.length : Int) <= p.most
 fre : ∀ f ∈ p.free,∃ (j : Nat) (x : zo),f = (j : Int) /\ p.l[j]? = some x /\ x.taken = false
 fnd : p.free.Nodup
 cov : ∀ (j : Nat) (x : zo),p.l[j]? = some x -> x.taken = false -> (j : Int) ∈ p.free
 gen : ∀ (j : Nat) (x : zo),p.l[j]? = some x -> 1 <= x.gen /\ x.gen <= T
def Live (p : zc) (r : zd) (v : zy) : Prop := ∃ j : Nat,r.At = (j : Int) /\ p.l[j]? = some ⟨r.Gen,true,v⟩
section
variable {p : zc} {T : Nat} {r : zd} {v : zy}
theorem Live.idx (h : Live p r v) : mIdx p.l r.At = some ⟨r.Gen,true,v⟩ := by
 obtain ⟨j,e,h⟩ := h;rw [e,yv]; exact h
theorem Live.uniq {w : zy} (h : Live p r v) (j : Live p r w) : v = w := by
 have i := h.idx;have e := j.idx;rw [i] at e;simp only [Option.some.injEq,zo.mk.injEq,true_and] at e;exact e
theorem Inv.flen (I : Inv p T) : p.free.length <= p.l.length := by
 have h1 : (p.free.map Int.toNat).Nodup := List.pairwise_map.2 (I.fnd.imp_of_mem fun {x y} u z t e => by
  obtain ⟨i,_,rfl,_⟩ := I.fre x u;obtain ⟨j,_,rfl,_⟩ := I.fre y z;simp only [tN] at e;exact t (by rw [e]))
 have h2 := rL (m := List.range p.l.length) h1 fun x u => by
  obtain ⟨f,hf,rfl⟩ := List.mem_map.1 u;obtain ⟨j,y,rfl,hj,_⟩ := I.fre f hf;simp only [tN,List.mem_range];exact (List.getElem?_eq_some_iff.1 hj).1
 simpa using h2
theorem wA (I : Inv p T) (h : Live p r v) : yM p r = some (some r.At,0) := by
 have hi := h.idx;obtain ⟨j,e,h⟩ := h;have i := I.gen _ _ h;simp only at i;have hl := (List.getElem?_eq_some_iff.1 h).1;unfold yM;rw [dF (by omega),dF (by omega),dF (by omega),hi];simp
theorem wM (I : Inv p T) (h : Live p r v) : ym p r = some (v,0) := by
 unfold ym;rw [wA I h];simp [ta,oS,h.idx]
theorem ry (I : Inv p T) (h : Live p r v) (w : zy) : xO p r w = some (0,zc.mk p.most (mSet p.l r.At ⟨r.Gen,true,w⟩) p.free) := by
 unfold xO;rw [wA I h];simp [ta,oS,h.idx]
theorem sK (I : Inv p T) (h : Live p r v) : xy p r = some (v,0,zc.mk p.most (mSet p.l r.At ⟨r.Gen,false,(zy.mk 0 (zd.mk 0 0))⟩) (p.free ++ [r.At])) := by
 have e := I.flen;have h1 := I.len;have h2 := I.most;unfold xy;rw [wA I h];simp only [bS,ta,oS,h.idx];rw [yP (by simp only [List.length_singleton]; omega)];simp [mSet]
theorem sW (I : Inv p T) (u : T < 4611686018427387904) {fs : List Int} {j : Nat} {x : zo} (hf : p.free = fs ++ [(j : Int)]) (hj : p.l[j]? = some x) :
  yy p v = some (zd.mk (j : Int) (x.gen + 1),true,zc.mk p.most (mSet p.l (j : Int) ⟨x.gen + 1,true,v⟩) fs) := by
 have y := I.gen _ _ hj;have t : fs.length < 1000000 := by
  have h0 := I.flen;rw [hf] at h0;simp only [lA,List.length_singleton] at h0;have := I.len;have := I.most;omega
 have hw : w64 (((fs ++ [(j : Int)]).length : Int) - 1) = (fs.length : Int) := by
  rw [zF] <;> simp <;> omega
 have i : mIdx (fs ++ [(j : Int)]) (fs.length : Int) = some (j : Int) := yu fs [] (j : Int);have e : mCut (fs ++ [(j : Int)]) 0 (fs.length : Int) = some fs := by
  unfold mCut;rw [if_pos ⟨by omega,by omega,by simp; omega⟩];simp
 unfold yy;rw [hf,hw,dT (by omega)];simp only [cT,i,e,bS];rw [yv,hj];simp only [bS];rw [zF (by omega) (by omega)];simp [mSet]
theorem qh (I : Inv p T) (hf : p.free = []) (hl : (p.l.length : Int) < p.most) :
  yy p v = some (zd.mk (p.l.length : Int) 1,true,zc.mk p.most (p.l ++ [⟨1,true,v⟩]) []) := by
 have := I.most;unfold yy;rw [hf];rw [show w64 ((([] : List Int).length : Int) - 1) = -1 by rw [zF] <;> simp];rw [dF (by omega)];simp only [cF];rw [dF (by omega)];simp only [cF];rw [yP (by simp only [List.length_singleton]; omega)];simp only [bS];rw [yu];simp only [bS];rw [show w64 (0 + 1) = 1 by rw [zF] <;> simp];simp [mSet]
theorem yH {l : List zo} {j i : Nat} {x y : zo} (h : l[j]? = some y) : (l.set j x)[i]? = if i = j then some x else l[i]? := by
 have := (List.getElem?_eq_some_iff.1 h).1;by_cases e : i = j
 ·subst e; rw [if_pos rfl,List.getElem?_set_self this]
 ·rw [if_neg e,getD_set_ne (fun h => e h.symm)]
theorem rv (I : Inv p T) (h : Live p r v) (w : zy) : Inv (zc.mk p.most (mSet p.l r.At ⟨r.Gen,true,w⟩) p.free) T := by
 obtain ⟨j,e,h⟩ := h;have u := I.gen _ _ h;refine ⟨I.most,by simpa [mSet] using I.len,fun f hf => ?_,I.fnd,fun i x t ht => ?_,fun i x t => ?_⟩
 ·obtain ⟨i,x,rfl,hi,t⟩ := I.fre f hf;refine ⟨i,x,rfl,?_,t⟩;simp only [mSet,e,tN];rw [yH h,if_neg]; exact hi;rintro rfl;rw [h] at hi; cases hi; simp at t
 ·simp only [mSet,e,tN] at t;rw [yH h] at t;split at t
  ·cases t; simp at ht
  ·exact I.cov i x t ht
 ·simp only [mSet,e,tN] at t;rw [yH h] at t;split at t
  ·cases t; exact u
  ·exact I.gen i x t
theorem tm (h : Live p r v) (w : zy) (s : zd) (u : zy) : Live (zc.mk p.most (mSet p.l r.At ⟨r.Gen,true,w⟩) p.free) s u ↔ (s = r /\ u = w) \/ (s ≠ r /\ Live p s u) := by
 obtain ⟨j,e,h⟩ := h;constructor
 ·rintro ⟨i,t,hi⟩;simp only [mSet,e,tN] at hi;rw [yH h] at hi;split at hi
  ·rename_i x;subst x;simp only [Option.some.injEq,zo.mk.injEq,true_and] at hi;refine Or.inl ⟨?_,hi.2.symm⟩;cases s; cases r; simp only at e t hi ⊢; rw [t,e,hi.1]
  ·rename_i x;refine Or.inr ⟨?_,i,t,hi⟩;rintro rfl;exact x (by omega)
 ·rintro (⟨rfl,rfl⟩ | ⟨y,i,t,hi⟩)
  ·refine ⟨j,e,?_⟩;simp only [mSet,e,tN];rw [yH h,if_pos rfl]
  ·refine ⟨i,t,?_⟩;simp only [mSet,e,tN];rw [yH h,if_neg]; exact hi;rintro rfl;rw [h] at hi;simp only [Option.some.injEq,zo.mk.injEq,true_and] at hi;refine y ?_;cases s; cases r; simp only at e t hi ⊢; rw [t,e,hi.1]
theorem qU (I : Inv p T) (h : Live p r v) : Inv (zc.mk p.most (mSet p.l r.At ⟨r.Gen,false,(zy.mk 0 (zd.mk 0 0))⟩) (p.free ++ [r.At])) T := by
 obtain ⟨j,e,h⟩ := h;have A := I.gen _ _ h;have y : r.At ∉ p.free := by
  intro hf;obtain ⟨i,x,B,hi,t⟩ := I.fre _ hf;have : i = j := by omega
  subst this;rw [h] at hi; cases hi; simp at t
 refine ⟨I.most,by simpa [mSet] using I.len,fun f hf => ?_,?_,fun i x t ht => ?_,fun i x t => ?_⟩
 ·simp only [mSet,e,tN];rcases List.mem_append.1 hf with hf | hf
  ·obtain ⟨i,x,rfl,hi,t⟩ := I.fre f hf;refine ⟨i,x,rfl,?_,t⟩;rw [yH h,if_neg]; exact hi;rintro rfl;rw [h] at hi; cases hi; simp at t
  ·rw [List.mem_singleton.1 hf,e];exact ⟨j,_,rfl,by rw [yH h,if_pos rfl],rfl⟩
 ·exact List.nodup_append.2 ⟨I.fnd,by simp,fun a ha b z => by rw [List.mem_singleton.1 z]; rintro rfl; exact y ha⟩
 ·simp only [mSet,e,tN] at t;rw [yH h] at t;split at t
  ·rename_i u; subst u; exact List.mem_append_right _ (by rw [e]; simp)
  ·exact mL _ (I.cov i x t ht)
 ·simp only [mSet,e,tN] at t;rw [yH h] at t;split at t
  ·cases t; exact A
  ·exact I.gen i x t
theorem rI (h : Live p r v) (s : zd) (u : zy) : Live (zc.mk p.most (mSet p.l r.At ⟨r.Gen,false,(zy.mk 0 (zd.mk 0 0))⟩) (p.free ++ [r.At])) s u ↔ s ≠ r /\ Live p s u := by
 obtain ⟨j,e,h⟩ := h;constructor
 ·rintro ⟨i,t,hi⟩;simp only [mSet,e,tN] at hi;rw [yH h] at hi;split at hi
  ·simp at hi
  ·rename_i x;refine ⟨?_,i,t,hi⟩;rintro rfl;exact x (by omega)
 ·rintro ⟨y,i,t,hi⟩;refine ⟨i,t,?_⟩;simp only [mSet,e,tN];rw [yH h,if_neg]; exact hi;rintro rfl;rw [h] at hi;simp only [Option.some.injEq,zo.mk.injEq,true_and] at hi;refine y ?_;cases s; cases r; simp only at e t hi ⊢; rw [t,e,hi.1]
theorem rU (I : Inv p T) (W : T < 4611686018427387904) (z : (p.l.length : Int) < p.most + p.free.length) (v : zy) :
  ∃ r p',yy p v = some (r,true,p') /\ Inv p' (T + 1) /\ (∀ w,¬ Live p r w) /\ (∀ s u,Live p' s u ↔ (s = r /\ u = v) \/ Live p s u) /\ p'.most = p.most /\ (p'.l.length : Int) - p'.free.length = (p.l.length : Int) - p.free.length + 1 := by
 rcases List.eq_nil_or_concat p.free with hf | ⟨fs,f,hf⟩
 ·rw [hf] at z;refine ⟨_,_,qh I hf (by simpa using z),⟨I.most,by simp at z ⊢; omega,by simp,by simp,?_,?_⟩,?_,?_,rfl,by rw [hf]; simp⟩
  ·intro j x t ht;simp only at t;by_cases hj : j < p.l.length
   ·rw [List.getElem?_append_left hj] at t;have := I.cov j x t ht;rw [hf] at this; simp at this
   ·rw [List.getElem?_append_right (by omega)] at t;by_cases e : j - p.l.length = 0
    ·rw [e] at t; simp at t; subst t; simp at ht
    ·rw [List.getElem?_eq_none (by simp; omega)] at t; cases t
  ·intro j x t;simp only at t;by_cases hj : j < p.l.length
   ·rw [List.getElem?_append_left hj] at t;have := I.gen j x t;omega
   ·rw [List.getElem?_append_right (by omega)] at t;by_cases e : j - p.l.length = 0
    ·rw [e] at t; simp at t; subst t; simp; omega
    ·rw [List.getElem?_eq_none (by simp; omega)] at t; cases t
  ·rintro w ⟨j,e,h⟩;have := (List.getElem?_eq_some_iff.1 h).1;simp only at e;omega
  ·intro s u;constructor
   ·rintro ⟨j,e,h⟩;simp only at h;by_cases hj : j < p.l.length
    ·rw [List.getElem?_append_left hj] at h;exact Or.inr ⟨j,e,h⟩
    ·rw [List.getElem?_append_right (by omega)] at h;by_cases U : j - p.l.length = 0
     ·rw [U] at h;simp at h;refine Or.inl ⟨?_,h.2.symm⟩;cases s; simp only at e h ⊢;rw [e,<- h.1]; congr 1; omega
     ·rw [List.getElem?_eq_none (by simp; omega)] at h; cases h
   ·rintro (⟨rfl,rfl⟩ | ⟨j,e,h⟩)
    ·exact ⟨p.l.length,rfl,by simp⟩
    ·have := (List.getElem?_eq_some_iff.1 h).1;exact ⟨j,e,by rw [List.getElem?_append_left this]; exact h⟩
 ·rw [List.concat_eq_append] at hf;obtain ⟨j,x,rfl,hj,ht⟩ := I.fre f (by rw [hf]; simp);have X := I.gen j x hj;have hn := I.fnd;rw [hf] at hn;obtain ⟨O,-,S⟩ := List.nodup_append.1 hn;have J : (j : Int) ∉ fs := fun h => S _ h _ (List.mem_singleton.2 rfl) rfl
  refine ⟨_,_,sW I W hf hj,⟨I.most,by simpa [mSet] using I.len,?_,O,?_,?_⟩,?_,?_,rfl,by rw [hf]; simp [mSet]; omega⟩
  ·intro f B;obtain ⟨i,y,rfl,hi,A⟩ := I.fre f (by rw [hf]; exact mL _ B);refine ⟨i,y,rfl,?_,A⟩;simp only [mSet,tN];rw [yH hj,if_neg]; exact hi;rintro rfl; exact J B
  ·intro i y A F;simp only [mSet,tN] at A;rw [yH hj] at A;split at A
   ·cases A; simp at F
   ·rename_i D;have := I.cov i y A F;rw [hf] at this;rcases List.mem_append.1 this with h | h
    ·exact h
    ·simp at h; omega
  ·intro i y A;simp only [mSet,tN] at A;rw [yH hj] at A;split at A
   ·cases A; simp only; omega
   ·have := I.gen i y A; omega
  ·rintro w ⟨i,e,h⟩;simp only at e h;have : i = j := by omega
   subst this;rw [hj] at h;simp only [Option.some.injEq] at h;rw [h] at ht; simp at ht
  ·intro s u;constructor
   ·rintro ⟨i,e,h⟩;simp only [mSet,tN] at h;rw [yH hj] at h;split at h
    ·rename_i D;subst D;simp only [Option.some.injEq,zo.mk.injEq,true_and] at h;refine Or.inl ⟨?_,h.2.symm⟩;cases s; simp only at e h ⊢; rw [e,<- h.1]
    ·exact Or.inr ⟨i,e,h⟩
   ·rintro (⟨rfl,rfl⟩ | ⟨i,e,h⟩)
    ·refine ⟨j,rfl,?_⟩;simp only [mSet,tN];rw [yH hj,if_pos rfl]
    ·refine ⟨i,e,?_⟩;simp only [mSet,tN];rw [yH hj,if_neg]; exact h;rintro rfl;rw [hj] at h;simp only [Option.some.injEq] at h;rw [h] at ht; simp at ht
end
end Pt
end
noncomputable section
set_option maxRecDepth 10000
structure HR where
 ref : zd
 k : Int
 r : Int
 C : Heap
 rs : List (zd × It)
def HR.its (h : HR) : List It := h.rs.map Prod.snd
def HR.val (h : HR) : zA := zA.mk h.k h.r (h.rs.length : Int)
def allC (hs : List HR) : Heap := hs.flatMap HR.C
def allR (hs : List HR) : List (zd × It) := hs.flatMap HR.rs
theorem qG (h : HR) (hs : List HR) : allC (h :: hs) = h.C ++ allC hs := rfl
theorem wH (h : HR) (hs : List HR) : allR (h :: hs) = h.rs ++ allR hs := rfl
theorem HR.vh (h : HR) : h.its.length = h.rs.length := by simp [HR.its]
structure PQ (M : Nat) (q : zn) (T : Nat) (hs : List HR) : Prop where
 ih : Ph.Inv q.t_.heaps T
 ii : Pt.Inv q.t_.items T
 hl : ∀ s u,Ph.Live q.t_.heaps s u ↔ ∃ h ∈ hs,s = h.ref /\ u = h.val
 il : ∀ s u,Pt.Live q.t_.items s u ↔ ∃ h ∈ hs,∃ p ∈ h.rs,s = p.1 /\ u = ⟨(p.2.i : Int),h.ref⟩
 at1 : (q.t_.at_.map Prod.fst).Nodup
 at2 : ∀ c s,mGet kI c q.t_.at_ = some s ↔ ∃ p ∈ allR hs,c = (p.2.i : Int) /\ s = p.1
 en1 : (q.entries.map Prod.fst).Nodup
 en2 : ∀ s e,mGet zd.eq s q.entries = some e ↔ ∃ p ∈ allR hs,s = p.1 /\ e = ⟨p.2.k,p.2.s⟩
 hk : ∀ h ∈ hs,Kd h.k /\ HK (KD h.k) h.r h.its h.C
 hn : (hs.map HR.ref).Nodup
 rn : ((allR hs).map Prod.fst).Nodup
 sn : ((allR hs).map fun p => p.2.s).Nodup
 ar : ∃ κ n,κ.C = 2 * M /\ Ar κ n q.a_ (allC hs)
 mi : q.items = M
 mm : q.t_.items.most = M
 mb : 1 <= M /\ M <= 16384
 ci : (q.t_.items.l.length : Int) - q.t_.items.free.length = (allR hs).length
 ch : (q.t_.heaps.l.length : Int) - q.t_.heaps.free.length = hs.length
 cm : q.t_.heaps.most = 64
 sr : ∀ p ∈ allR hs,0 <= p.2.s /\ p.2.s < q.serial
 sq : 0 <= q.serial /\ q.serial <= T
def Stp' (q e : zn) (B : Nat) : Prop := q.a_.m_.steps <= e.a_.m_.steps /\ e.a_.m_.steps <= q.a_.m_.steps + B
section
variable {M : Nat} {q : zn} {T : Nat} {h : HR} {hs hs' : List HR}
theorem PQ.p (Q : PQ M q T hs) (hp : hs.Perm hs') : PQ M q T hs' := by
 have j : ∀ p,p ∈ allR hs ↔ p ∈ allR hs' := fun p => (hp.flatMap_right HR.rs).mem_iff
 refine ⟨Q.ih,Q.ii,fun s u => (Q.hl s u).trans ⟨?_,?_⟩,fun s u => (Q.il s u).trans ⟨?_,?_⟩,Q.at1,fun c s => (Q.at2 c s).trans ⟨?_,?_⟩,Q.en1,fun s e => (Q.en2 s e).trans ⟨?_,?_⟩,fun h hh => Q.hk h (hp.mem_iff.2 hh),((hp.map _).nodup_iff).1 Q.hn,(((hp.flatMap_right HR.rs).map _).nodup_iff).1 Q.rn,(((hp.flatMap_right HR.rs).map _).nodup_iff).1 Q.sn,?_,Q.mi,Q.mm,Q.mb,Q.ci.trans ?_,Q.ch.trans ?_,Q.cm,fun p hh => Q.sr p ((j p).2 hh),Q.sq⟩
 ·rintro ⟨g,i,h⟩; exact ⟨g,hp.mem_iff.1 i,h⟩
 ·rintro ⟨g,i,h⟩; exact ⟨g,hp.mem_iff.2 i,h⟩
 ·rintro ⟨g,i,h⟩; exact ⟨g,hp.mem_iff.1 i,h⟩
 ·rintro ⟨g,i,h⟩; exact ⟨g,hp.mem_iff.2 i,h⟩
 ·rintro ⟨g,i,h⟩; exact ⟨g,(j g).1 i,h⟩
 ·rintro ⟨g,i,h⟩; exact ⟨g,(j g).2 i,h⟩
 ·rintro ⟨g,i,h⟩; exact ⟨g,(j g).1 i,h⟩
 ·rintro ⟨g,i,h⟩; exact ⟨g,(j g).2 i,h⟩
 ·obtain ⟨κ,n,e,H⟩ := Q.ar;exact ⟨κ,n,e,H.p (hp.flatMap_right HR.C)⟩
 ·have := (hp.flatMap_right HR.rs).length_eq;show ((hs.flatMap HR.rs).length : Int) = ((hs'.flatMap HR.rs).length : Int);rw [this]
 ·rw [hp.length_eq]
theorem PQ.live (Q : PQ M q T hs) (hh : h ∈ hs) : Ph.Live q.t_.heaps h.ref h.val := (Q.hl _ _).2 ⟨h,hh,rfl,rfl⟩
theorem PQ.heap (Q : PQ M q T hs) (hh : h ∈ hs) : y0 q.t_ h.ref = some (h.k,h.r,(h.rs.length : Int),0) := by
 unfold y0;rw [Ph.wM Q.ih (Q.live hh)]
 rfl
theorem PQ.lenC (Q : PQ M q T hs) : (allC hs).length = 2 * (allR hs).length := by
 have : ∀ hs : List HR,(∀ h ∈ hs,Kd h.k /\ HK (KD h.k) h.r h.its h.C) -> (allC hs).length = 2 * (allR hs).length := by
  intro hs;induction hs with
  | nil => intro _; rfl
  | cons h hs ih =>
   intro hk;have h1 := (hk h (List.mem_cons_self ..)).2.len;have h2 := ih fun g e => hk g (mC _ e)
   rw [HR.vh] at h1;rw [qG,wH,lA,lA]; omega
 exact this hs Q.hk
theorem PQ.Bf (Q : PQ M q T hs) : (allR hs).length <= M := by
 obtain ⟨κ,n,e,H⟩ := Q.ar;have := H.room;rw [Q.lenC,e] at this; omega
theorem PQ.dP (Q : PQ M q T hs) {p : zd × It} (hp : p ∈ allR hs) : p.2.i ∈ (allC hs).map Prod.fst := by
 obtain ⟨h,hh,hp⟩ := List.mem_flatMap.1 hp;obtain ⟨c,e⟩ := (Q.hk h hh).2.mem (List.mem_map_of_mem (f := Prod.snd) hp);exact List.mem_map.2 ⟨_,List.mem_flatMap.2 ⟨h,hh,e⟩,rfl⟩
theorem Ar.yA {κ : Cfg} {n : Nat} {a : zb} {L : Heap} (H : Ar κ n a L) : Ar ⟨κ.C,a.m_.steps,κ.g,κ.mo⟩ 0 a L :=
 { H with b0 := Int.le_trans H.b0 H.lo,lo := Int.le_refl _,hi := by simp }
theorem j4 {P l : zd -> zA -> Prop} {h1 : HR} (hl : ∀ s u,P s u ↔ ∃ g ∈ h :: hs,s = g.ref /\ u = g.val) (hn : ((h :: hs).map HR.ref).Nodup) (e : h1.ref = h.ref) (x : ∀ s u,l s u ↔ (s = h.ref /\ u = h1.val) \/ (s ≠ h.ref /\ P s u)) :
  ∀ s u,l s u ↔ ∃ g ∈ h1 :: hs,s = g.ref /\ u = g.val := by
 intro s u;simp only [pC,List.nodup_cons] at hn;rw [x];constructor
 ·rintro (⟨rfl,rfl⟩ | ⟨j,hp⟩)
  ·exact ⟨h1,List.mem_cons_self ..,e.symm,rfl⟩
  ·obtain ⟨g,i,rfl,rfl⟩ := (hl _ _).1 hp;rcases List.mem_cons.1 i with rfl | i
   ·exact absurd rfl j
   ·exact ⟨g,mC _ i,rfl,rfl⟩
 ·rintro ⟨g,i,rfl,rfl⟩;rcases List.mem_cons.1 i with rfl | i
  ·exact Or.inl ⟨e,rfl⟩
  ·refine Or.inr ⟨fun t => hn.1 (t ▸ List.mem_map_of_mem (f := HR.ref) i),(hl _ _).2 ⟨g,mC _ i,rfl,rfl⟩⟩
theorem PQ.root {t : zj} {T' : Nat} (hh : Ph.Inv t.heaps T') (e : Ph.Live t.heaps h.ref h.val) (r n : Int) :
  xj t h.ref r n = some (0,zj.mk (zh.mk t.heaps.most (mSet t.heaps.l h.ref.At ⟨h.ref.Gen,true,⟨h.k,r,n⟩⟩) t.heaps.free) t.items t.at_) := by
 unfold xj;rw [Ph.wM hh e];simp only [bS];rw [show ((0 : Int) == 0) = true from rfl,cT];show ((xn t.heaps h.ref (zA.mk h.val.kind r n)).bind _).bind _ = _;rw [Ph.ry hh e]
 rfl
theorem PQ.insert (Q : PQ M q T (h :: hs)) (a5 : (allR (h :: hs)).length < M) (b3 : h.rs.length < 1000) (hT : T < 4611686018427387000) {f : Nat} (hf : 95000 < f) (kk : Int) (key : Int) (o i0 : zd) :
  Do (vV f q (yb.mk 2 kk h.ref o i0 key)) fun res => ∃ (i : zd) (x : It) (r' : Int) (C' : Heap) (U : zn),res = (zI.mk 0 (zd.mk 0 0) i (zg.mk key q.serial) 0,U) /\ x.k = key /\ x.s = q.serial /\
   PQ M U (T + 1) (⟨h.ref,h.k,r',C',(i,x) :: h.rs⟩ :: hs) /\ U.serial = q.serial + 1 /\ Stp' q U (bd h.k h.rs.length + 3) := by
 have hm : h ∈ h :: hs := List.mem_cons_self ..;obtain ⟨κ,n,eC,H0⟩ := Q.ar;have H := H0.yA;have A := Q.hk h hm;have I := Q.lenC;have b2 := Q.mb;unfold vV;rw [Q.heap hm];simp only [bS];refine Do.f rfl ?_;have Y : vH q.t_ = some ((allR (h :: hs)).length : Int) := by
  unfold vH yU;rw [Q.ci,zF (by omega) (by omega)]
  rfl
 rw [Y];simp only [bS];refine Do.f (dF (by rw [Q.mi]; omega)) ?_;refine (lq H (by rw [I]; simp only; omega) key q.serial).bind ?_;rintro _ ⟨i,a1,rfl,hi,H1⟩;have W : Ar ⟨κ.C,q.a_.m_.steps,κ.g,κ.mo⟩ (0 + 3) a1 (h.C ++ (((It.mk i key q.serial).i,(It.mk i key q.serial).cell (-1)) :: allC hs)) := H1.p (List.perm_middle (l₁ := h.C) (l₂ := allC hs)).symm;have J := A.2.len;rw [HR.vh] at J;rw [qG,lA] at I;refine (aP (f := f) (x := It.mk i key q.serial) A.1 A.2 W (by rw [HR.vh]; simp only; omega) (by rw [HR.vh]; omega) hf).bind ?_;rintro _ ⟨r',C',a2,rfl,h1,X⟩;have a4 : mGet kI (i : Int) q.t_.at_ = none := by
  cases y : mGet kI (i : Int) q.t_.at_ with
  | none => rfl
  | some s =>
   obtain ⟨p,hp,e,_⟩ := (Q.at2 _ _).1 y;have : i = p.2.i := by omega
   rw [this] at hi;exact absurd (Q.dP hp) hi
 obtain ⟨B,p',Z,I',a0,O,S,F⟩ := Pt.rU Q.ii (by omega) (by rw [Q.mm]; have := Q.ci; omega) (zy.mk (i : Int) h.ref);have e3 : uE q.t_ h.ref (i : Int) = some (B,0,zj.mk q.t_.heaps p' (mPut kI (i : Int) B q.t_.at_)) := by
  unfold uE;rw [Ph.wM Q.ih (Q.live hm)];simp only [bS];rw [show ((0 : Int) != 0) = false from rfl,cF];unfold sP;rw [a4];simp only [bS];have e4 : yU q.t_.items = some ((allR (h :: hs)).length : Int) := by
   unfold yU;rw [Q.ci,zF (by omega) (by omega)]
  rw [e4];unfold wm;simp only [bS];rw [show (((allR (h :: hs)).length : Int) == q.t_.items.most) = false by rw [Q.mm]; simp; omega,cF,cF,Z]
  rfl
 refine Do.seq e3 ?_;refine Do.seq (PQ.root (t := zj.mk q.t_.heaps p' (mPut kI (i : Int) B q.t_.at_)) Q.ih (Q.live hm) r' (w64 ((h.rs.length : Int) + 1))) ?_;rw [zF (by omega) (by omega),zF (by have := Q.sq; omega) (by have := Q.sq; omega)];have z : ∀ p ∈ allR (h :: hs),p.1 ≠ B := by
  intro p hp e;obtain ⟨g,y,hp⟩ := List.mem_flatMap.1 hp;exact a0 _ ((Q.il _ _).2 ⟨g,y,p,hp,e.symm,rfl⟩)
 have l : ∀ p,p ∈ allR (⟨h.ref,h.k,r',C',(B,It.mk i key q.serial) :: h.rs⟩ :: hs) ↔ p = (B,It.mk i key q.serial) \/ p ∈ allR (h :: hs) := by
  intro p;simp only [wH,List.cons_append,iC]
 refine ⟨_,rfl,B,It.mk i key q.serial,r',C',_,rfl,rfl,rfl,?_,rfl,?_,?_⟩
 ·refine ⟨?_,I',?_,?_,tG bB Q.at1,?_,tG vQ Q.en1,?_,?_,?_,?_,?_,⟨⟨κ.C,q.a_.m_.steps,κ.g,κ.mo⟩,_,eC,X⟩,Q.mi,S.trans Q.mm,Q.mb,?_,?_,Q.cm,?_,?_⟩
  ·have := Ph.rv Q.ih (Q.live hm) (zA.mk h.k r' ((h.rs.length : Int) + 1));exact { this with gen := fun j x hx => by have := this.gen j x hx; omega }
  ·refine j4 Q.hl Q.hn rfl fun s u => ?_
   have := Ph.tm (Q.live hm) (zA.mk h.k r' ((h.rs.length : Int) + 1)) s u;simpa [HR.val] using this
  ·intro s u;refine (O s u).trans ⟨?_,?_⟩
   ·rintro (⟨rfl,rfl⟩ | hl)
    ·exact ⟨_,List.mem_cons_self ..,_,List.mem_cons_self ..,rfl,rfl⟩
    ·obtain ⟨g,y,p,hp,rfl,rfl⟩ := (Q.il _ _).1 hl;rcases List.mem_cons.1 y with rfl | y
     ·exact ⟨_,List.mem_cons_self ..,p,mC _ hp,rfl,rfl⟩
     ·exact ⟨g,mC _ y,p,hp,rfl,rfl⟩
   ·rintro ⟨g,y,p,hp,rfl,rfl⟩;rcases List.mem_cons.1 y with rfl | y
    ·rcases List.mem_cons.1 hp with rfl | hp
     ·exact Or.inl ⟨rfl,rfl⟩
     ·exact Or.inr ((Q.il _ _).2 ⟨h,hm,p,hp,rfl,rfl⟩)
    ·exact Or.inr ((Q.il _ _).2 ⟨g,mC _ y,p,hp,rfl,rfl⟩)
  ·intro c s;refine (rh bB).trans ⟨?_,?_⟩
   ·rintro (⟨rfl,rfl⟩ | ⟨a3,y⟩)
    ·exact ⟨_,(l _).2 (Or.inl rfl),rfl,rfl⟩
    ·obtain ⟨p,hp,e,e'⟩ := (Q.at2 _ _).1 y;exact ⟨p,(l _).2 (Or.inr hp),e,e'⟩
   ·rintro ⟨p,hp,rfl,rfl⟩;rcases (l _).1 hp with rfl | hp
    ·exact Or.inl ⟨rfl,rfl⟩
    ·refine Or.inr ⟨fun e => ?_,(Q.at2 _ _).2 ⟨p,hp,rfl,rfl⟩⟩;have : p.2.i = i := by omega
     exact hi (this ▸ Q.dP hp)
  ·intro s e;refine (rh vQ).trans ⟨?_,?_⟩
   ·rintro (⟨rfl,rfl⟩ | ⟨a3,y⟩)
    ·exact ⟨_,(l _).2 (Or.inl rfl),rfl,rfl⟩
    ·obtain ⟨p,hp,Y,Z⟩ := (Q.en2 _ _).1 y;exact ⟨p,(l _).2 (Or.inr hp),Y,Z⟩
   ·rintro ⟨p,hp,rfl,rfl⟩;rcases (l _).1 hp with rfl | hp
    ·exact Or.inl ⟨rfl,rfl⟩
    ·exact Or.inr ⟨z p hp,(Q.en2 _ _).2 ⟨p,hp,rfl,rfl⟩⟩
  ·intro g y;rcases List.mem_cons.1 y with rfl | y
   ·exact ⟨A.1,h1⟩
   ·exact Q.hk g (mC _ y)
  ·exact Q.hn
  ·show ((B,It.mk i key q.serial) :: (h.rs ++ allR hs) |>.map Prod.fst).Nodup;rw [pC,List.nodup_cons];refine ⟨fun D => ?_,Q.rn⟩;obtain ⟨p,hp,e⟩ := List.mem_map.1 D;exact z p hp e
  ·show ((B,It.mk i key q.serial) :: (h.rs ++ allR hs) |>.map fun p => p.2.s).Nodup;rw [pC,List.nodup_cons];refine ⟨fun D => ?_,Q.sn⟩;obtain ⟨p,hp,e⟩ := List.mem_map.1 D;have := (Q.sr p hp).2;simp only at e; omega
  ·rw [F,Q.ci];simp only [wH,lA,lC]; omega
  ·have := Q.ch;simpa [mSet] using this
  ·intro p hp;have := Q.sq;rcases (l _).1 hp with rfl | hp
   ·simp only; omega
   ·have := Q.sr p hp; simp only; omega
  ·have := Q.sq; simp only; omega
 ·exact X.lo
 ·have := X.hi;rw [HR.vh] at this;simp only at this ⊢; omega
end
end
noncomputable section
set_option maxRecDepth 10000
theorem ph {α β : Type} {f : α -> β} {l : List α} {x : β} {q : List β} (h : (l.map f).Perm (x :: q)) : ∃ p rs,l.Perm (p :: rs) /\ f p = x /\ (rs.map f).Perm q := by
 have e : x ∈ l.map f := h.mem_iff.2 (List.mem_cons_self ..);obtain ⟨p,hp,rfl⟩ := List.mem_map.1 e;obtain ⟨s,t,rfl⟩ := List.append_of_mem hp;have h1 : (s ++ p :: t).Perm (p :: (s ++ t)) := List.perm_middle;refine ⟨p,s ++ t,h1,rfl,?_⟩;have h2 := (h1.map f).symm.trans h;rw [pC] at h2;exact h2.cons_inv
theorem uk {K V : Type} {eq : K -> K -> Bool} {k : K} {z v : V} {m : List (K × V)} (h : mGet eq k m = some v) : sP eq k z m = some (v,true) := by
 unfold sP; rw [h]
theorem hO {K V : Type} {eq : K -> K -> Bool} {k : K} {z : V} {m : List (K × V)} (h : mGet eq k m = none) : sP eq k z m = some (z,false) := by
 unfold sP; rw [h]
section
variable {M : Nat} {q : zn} {T : Nat} {h : HR} {hs hs' : List HR}
theorem PQ.re (Q : PQ M q T (h :: hs)) {rs : List (zd × It)} (hp : h.rs.Perm rs) : PQ M q T (⟨h.ref,h.k,h.r,h.C,rs⟩ :: hs) := by
 have j : (allR (h :: hs)).Perm (allR (⟨h.ref,h.k,h.r,h.C,rs⟩ :: hs)) := by rw [wH,wH]; exact hp.append_right _
 have i : ∀ p,p ∈ allR (h :: hs) ↔ p ∈ allR (⟨h.ref,h.k,h.r,h.C,rs⟩ :: hs) := fun p => j.mem_iff
 have hv : h.val = (⟨h.ref,h.k,h.r,h.C,rs⟩ : HR).val := by simp only [HR.val,hp.length_eq]
 refine ⟨Q.ih,Q.ii,fun s u => (Q.hl s u).trans ?_,fun s u => (Q.il s u).trans ?_,Q.at1,fun c s => (Q.at2 c s).trans ?_,Q.en1,fun s e => (Q.en2 s e).trans ?_,?_,Q.hn,((j.map _).nodup_iff).1 Q.rn,((j.map _).nodup_iff).1 Q.sn,?_,Q.mi,Q.mm,Q.mb,Q.ci.trans ?_,Q.ch,Q.cm,fun p hh => Q.sr p ((i p).2 hh),Q.sq⟩
 ·simp only [iC,exists_eq_or_imp,hv]
 ·simp only [iC,exists_eq_or_imp,hp.mem_iff]
 ·constructor
  ·rintro ⟨p,hp,e⟩; exact ⟨p,(i p).1 hp,e⟩
  ·rintro ⟨p,hp,e⟩; exact ⟨p,(i p).2 hp,e⟩
 ·constructor
  ·rintro ⟨p,hp,e⟩; exact ⟨p,(i p).1 hp,e⟩
  ·rintro ⟨p,hp,e⟩; exact ⟨p,(i p).2 hp,e⟩
 ·intro g l;rcases List.mem_cons.1 l with rfl | l
  ·have := Q.hk h (List.mem_cons_self ..);exact ⟨this.1,this.2.p (hp.map _) (.refl _)⟩
  ·exact Q.hk g (mC _ l)
 ·exact Q.ar
 ·rw [j.length_eq]
theorem PQ.aC (Q : PQ M q T hs) {a : zb} (h : ∃ κ n,κ.C = 2 * M /\ Ar κ n a (allC hs)) : PQ M (zn.mk q.items a q.t_ q.entries q.serial) T hs :=
 ⟨Q.ih,Q.ii,Q.hl,Q.il,Q.at1,Q.at2,Q.en1,Q.en2,Q.hk,Q.hn,Q.rn,Q.sn,h,Q.mi,Q.mm,Q.mb,Q.ci,Q.ch,Q.cm,Q.sr,Q.sq⟩
theorem PQ.lat (Q : PQ M q T hs) {p : zd × It} (hp : p ∈ allR hs) : mGet kI (p.2.i : Int) q.t_.at_ = some p.1 := (Q.at2 _ _).2 ⟨p,hp,rfl,rfl⟩
theorem PQ.len (Q : PQ M q T hs) {p : zd × It} (hp : p ∈ allR hs) : mGet zd.eq p.1 q.entries = some ⟨p.2.k,p.2.s⟩ := (Q.en2 _ _).2 ⟨p,hp,rfl,rfl⟩
theorem oF {g : HR} (e : g ∈ hs) {p : zd × It} (hp : p ∈ g.rs) : p ∈ allR hs := List.mem_flatMap.2 ⟨g,e,hp⟩
theorem PQ.drop {p : zd × It} {rs : List (zd × It)} {r' : Int} {C' : Heap} {a2 : zb} {κ : Cfg} {n : Nat} (Q : PQ M q T (h :: hs)) (hp : h.rs = p :: rs) (D : h.rs.length < 4096) (hk : HK (KD h.k) r' (rs.map Prod.snd) C') (H : Ar κ n a2 (C' ++ ((p.2.i,p.2.cell (-1)) :: allC hs))) (U : κ.C = 2 * M) :
  Do (xj q.t_ h.ref r' (w64 ((h.rs.length : Int) - 1))) fun t1 => Do (vP (zn.mk q.items a2 t1.2 q.entries q.serial) p.1) fun res => ∃ F,res = (⟨p.2.k,p.2.s⟩,F) /\ PQ M F T (⟨h.ref,h.k,r',C',rs⟩ :: hs) /\ Ar κ (n + 1) F.a_ (C' ++ allC hs) /\ F.serial = q.serial := by
 have hm : h ∈ h :: hs := List.mem_cons_self ..;have I := Q.hk h hm;have l : allR (h :: hs) = p :: (rs ++ allR hs) := by rw [wH,hp]; rfl
 have B : p ∈ allR (h :: hs) := by rw [l]; exact List.mem_cons_self ..
 have z : ∀ p' ∈ rs ++ allR hs,p'.1 ≠ p.1 := by
  have := Q.rn;rw [l,pC,List.nodup_cons] at this;intro p' j e;exact this.1 (e ▸ List.mem_map_of_mem (f := Prod.fst) j)
 have x : ∀ p',p' ∈ allR (h :: hs) ↔ p' = p \/ p' ∈ rs ++ allR hs := fun p' => by rw [l,iC]
 have J : ∀ p' ∈ rs ++ allR hs,(p'.2.i : Int) ≠ (p.2.i : Int) := by
  intro p' j e;have S := Q.lat ((x p').2 (Or.inr j));rw [e,Q.lat B] at S;exact z p' j (Option.some.inj S).symm
 have A : Pt.Live q.t_.items p.1 ⟨(p.2.i : Int),h.ref⟩ := (Q.il _ _).2 ⟨h,hm,p,by rw [hp]; exact List.mem_cons_self ..,rfl,rfl⟩;have hw : w64 ((h.rs.length : Int) - 1) = (rs.length : Int) := by
  rw [hp] at D ⊢;simp only [lC] at D ⊢;rw [zF] <;> omega
 rw [hw];refine Do.of (PQ.root Q.ih (Q.live hm) r' rs.length) ?_;unfold vP tg;simp only;rw [Pt.sK Q.ii A];simp only [bS];rw [show ((0 : Int) == 0) = true from rfl,cT];simp only [bS];refine ((H.p (List.perm_middle (l₁ := C') (l₂ := allC hs))).give).bind ?_;rintro _ ⟨a3,rfl,O⟩;rw [uk (Q.len B)];refine ⟨_,rfl,_,rfl,?_,O,rfl⟩;refine ⟨?_,Pt.qU Q.ii A,?_,?_,sO Q.at1,?_,sO Q.en1,?_,?_,Q.hn,?_,?_,⟨κ,_,U,O⟩,Q.mi,Q.mm,Q.mb,?_,?_,Q.cm,?_,Q.sq⟩
 ·exact Ph.rv Q.ih (Q.live hm) (zA.mk h.k r' (rs.length : Int))
 ·refine j4 Q.hl Q.hn rfl fun s u => ?_
  have := Ph.tm (Q.live hm) (zA.mk h.k r' (rs.length : Int)) s u;simpa [HR.val] using this
 ·intro s u;refine (Pt.rI A s u).trans ⟨?_,?_⟩
  ·rintro ⟨y,hl⟩;obtain ⟨g,t,p',j,rfl,rfl⟩ := (Q.il _ _).1 hl;rcases List.mem_cons.1 t with rfl | t
   ·rw [hp] at j;rcases List.mem_cons.1 j with rfl | j
    ·exact absurd rfl y
    ·exact ⟨_,List.mem_cons_self ..,p',j,rfl,rfl⟩
   ·exact ⟨g,mC _ t,p',j,rfl,rfl⟩
  ·rintro ⟨g,t,p',j,rfl,rfl⟩;rcases List.mem_cons.1 t with rfl | t
   ·exact ⟨z p' (mL _ j),(Q.il _ _).2 ⟨h,hm,p',by rw [hp]; exact mC _ j,rfl,rfl⟩⟩
   ·exact ⟨z p' (List.mem_append_right _ (oF t j)),(Q.il _ _).2 ⟨g,mC _ t,p',j,rfl,rfl⟩⟩
 ·intro c s;refine (r9 bB Q.at1).trans ⟨?_,?_⟩
  ·rintro ⟨y,t⟩;obtain ⟨p',j,rfl,rfl⟩ := (Q.at2 _ _).1 t;rcases (x p').1 j with rfl | j
   ·exact absurd rfl y
   ·exact ⟨p',j,rfl,rfl⟩
  ·rintro ⟨p',j,rfl,rfl⟩;exact ⟨J p' j,(Q.at2 _ _).2 ⟨p',(x p').2 (Or.inr j),rfl,rfl⟩⟩
 ·intro s e;refine (r9 vQ Q.en1).trans ⟨?_,?_⟩
  ·rintro ⟨y,t⟩;obtain ⟨p',j,rfl,rfl⟩ := (Q.en2 _ _).1 t;rcases (x p').1 j with rfl | j
   ·exact absurd rfl y
   ·exact ⟨p',j,rfl,rfl⟩
  ·rintro ⟨p',j,rfl,rfl⟩;exact ⟨z p' j,(Q.en2 _ _).2 ⟨p',(x p').2 (Or.inr j),rfl,rfl⟩⟩
 ·intro g t;rcases List.mem_cons.1 t with rfl | t
  ·exact ⟨I.1,hk⟩
  ·exact Q.hk g (mC _ t)
 ·have := Q.rn;rw [l,pC,List.nodup_cons] at this;exact this.2
 ·have := Q.sn;rw [l,pC,List.nodup_cons] at this;exact this.2
 ·have := Q.ci;rw [l] at this;simp only [mSet,List.length_set,lA,lC,List.length_nil,wH] at this ⊢;omega
 ·have := Q.ch;simpa [mSet] using this
 ·intro p' j;exact Q.sr p' ((x p').2 (Or.inr j))
theorem PQ.low {p : zd × It} {y : It} {rs : List (zd × It)} {r' : Int} {C' : Heap} {a2 : zb} {κ : Cfg} {n : Nat} (Q : PQ M q T (h :: hs)) (hp : h.rs = p :: rs) (hi : y.i = p.2.i) (J : y.s = p.2.s) (hk : HK (KD h.k) r' (y :: rs.map Prod.snd) C') (H : Ar κ n a2 (C' ++ allC hs)) (O : κ.C = 2 * M) :
  PQ M (zn.mk q.items a2 (zj.mk (zh.mk q.t_.heaps.most (mSet q.t_.heaps.l h.ref.At ⟨h.ref.Gen,true,⟨h.k,r',(h.rs.length : Int)⟩⟩) q.t_.heaps.free) q.t_.items q.t_.at_) (mPut zd.eq p.1 ⟨y.k,y.s⟩ q.entries) q.serial) T (⟨h.ref,h.k,r',C',(p.1,y) :: rs⟩ :: hs) := by
 have hm : h ∈ h :: hs := List.mem_cons_self ..;have D := Q.hk h hm;have x : allR (h :: hs) = p :: (rs ++ allR hs) := by rw [wH,hp]; rfl
 have B : p ∈ allR (h :: hs) := by rw [x]; exact List.mem_cons_self ..
 have F : ∀ p' ∈ rs ++ allR hs,p'.1 ≠ p.1 := by
  have := Q.rn;rw [x,pC,List.nodup_cons] at this;intro p' j e;exact this.1 (e ▸ List.mem_map_of_mem (f := Prod.fst) j)
 have A : ∀ p',p' ∈ allR (h :: hs) ↔ p' = p \/ p' ∈ rs ++ allR hs := fun p' => by rw [x,iC]
 have t : ∀ p',p' ∈ allR (⟨h.ref,h.k,r',C',(p.1,y) :: rs⟩ :: hs) ↔ p' = (p.1,y) \/ p' ∈ rs ++ allR hs := fun p' => by rw [wH]; exact iC
 have hlen : h.rs.length = ((p.1,y) :: rs).length := by rw [hp]; rfl
 refine ⟨?_,Q.ii,?_,?_,Q.at1,?_,tG vQ Q.en1,?_,?_,Q.hn,?_,?_,⟨κ,_,O,H⟩,Q.mi,Q.mm,Q.mb,?_,?_,Q.cm,?_,Q.sq⟩
 ·exact Ph.rv Q.ih (Q.live hm) (zA.mk h.k r' (h.rs.length : Int))
 ·refine j4 Q.hl Q.hn rfl fun s u => ?_
  have := Ph.tm (Q.live hm) (zA.mk h.k r' (h.rs.length : Int)) s u;simpa only [HR.val,hlen] using this
 ·intro s u;refine (Q.il s u).trans ⟨?_,?_⟩
  ·rintro ⟨g,z,p',j,rfl,rfl⟩;rcases List.mem_cons.1 z with rfl | z
   ·rw [hp] at j;rcases List.mem_cons.1 j with rfl | j
    ·exact ⟨_,List.mem_cons_self ..,_,List.mem_cons_self ..,rfl,by rw [hi]⟩
    ·exact ⟨_,List.mem_cons_self ..,p',mC _ j,rfl,rfl⟩
   ·exact ⟨g,mC _ z,p',j,rfl,rfl⟩
  ·rintro ⟨g,z,p',j,rfl,rfl⟩;rcases List.mem_cons.1 z with rfl | z
   ·rcases List.mem_cons.1 j with rfl | j
    ·exact ⟨h,hm,p,by rw [hp]; exact List.mem_cons_self ..,rfl,by simp only [hi]⟩
    ·exact ⟨h,hm,p',by rw [hp]; exact mC _ j,rfl,rfl⟩
   ·exact ⟨g,mC _ z,p',j,rfl,rfl⟩
 ·intro c s;refine (Q.at2 c s).trans ⟨?_,?_⟩
  ·rintro ⟨p',j,rfl,rfl⟩;rcases (A p').1 j with rfl | j
   ·exact ⟨_,(t _).2 (Or.inl rfl),by simp only [hi],rfl⟩
   ·exact ⟨_,(t _).2 (Or.inr j),rfl,rfl⟩
  ·rintro ⟨p',j,rfl,rfl⟩;rcases (t p').1 j with rfl | j
   ·exact ⟨_,B,by simp only [hi],rfl⟩
   ·exact ⟨_,(A _).2 (Or.inr j),rfl,rfl⟩
 ·intro s e;refine (rh vQ).trans ⟨?_,?_⟩
  ·rintro (⟨rfl,rfl⟩ | ⟨I,z⟩)
   ·exact ⟨_,(t _).2 (Or.inl rfl),rfl,rfl⟩
   ·obtain ⟨p',j,rfl,rfl⟩ := (Q.en2 _ _).1 z;rcases (A p').1 j with rfl | j
    ·exact absurd rfl I
    ·exact ⟨p',(t _).2 (Or.inr j),rfl,rfl⟩
  ·rintro ⟨p',j,rfl,rfl⟩;rcases (t p').1 j with rfl | j
   ·exact Or.inl ⟨rfl,rfl⟩
   ·exact Or.inr ⟨F p' j,(Q.en2 _ _).2 ⟨p',(A p').2 (Or.inr j),rfl,rfl⟩⟩
 ·intro g z;rcases List.mem_cons.1 z with rfl | z
  ·exact ⟨D.1,hk⟩
  ·exact Q.hk g (mC _ z)
 ·have := Q.rn;rw [x] at this;exact this
 ·have := Q.sn;rw [x] at this;show (((p.1,y) :: (rs ++ allR hs)).map fun p => p.2.s).Nodup;simp only [pC,J] at this ⊢;exact this
 ·have := Q.ci;rw [x] at this;simp only [lA,lC,wH] at this ⊢;omega
 ·have := Q.ch;simpa [mSet] using this
 ·intro p' j;rcases (t p').1 j with rfl | j
  ·simp only [J]; exact Q.sr p B
  ·exact Q.sr p' ((A p').2 (Or.inr j))
def okA (i : zd) (p : It) : zI := zI.mk 0 (zd.mk 0 0) i (zg.mk p.k p.s) 0
theorem PQ.min (Q : PQ M q T (h :: hs)) (F : h.rs.length < 1000) {f : Nat} (hf : 95000 < f) :
  Do (wZ f q h.ref false) fun res => ∃ u,PQ M u T (h :: hs) /\ u.serial = q.serial /\ Stp' q u 100 /\ ((h.rs = [] /\ res = (zI.mk 27 (zd.mk 0 0) (zd.mk 0 0) (zg.mk 0 0) 0,u)) \/ ∃ p ∈ h.rs,res = (okA p.1 p.2,u) /\ ∀ p' ∈ h.rs,¬ p'.2.lt p.2) := by
 have hm : h ∈ h :: hs := List.mem_cons_self ..;have i := Q.hk h hm;obtain ⟨κ,n,D,z⟩ := Q.ar;have H := z.yA;unfold wZ;rw [Q.heap hm];simp only [bS];refine Do.f rfl ?_;refine Do.if (fun e => ?_) (fun e => ?_)
 ·have A : h.rs = [] := by
   have : (h.rs.length : Int) = 0 := by simpa using e
   exact List.eq_nil_of_length_eq_zero (by omega)
  exact ⟨_,rfl,q,Q,rfl,⟨Int.le_refl _,by omega⟩,Or.inl ⟨A,rfl⟩⟩
 ·refine Do.t rfl ?_;refine (A6 (f := f) i.1 i.2 H (by rw [HR.vh]; omega) hf).bind ?_;rintro _ ⟨a1,H1,h1⟩;rcases h1 with ⟨B,_⟩ | ⟨x,I,rfl,j⟩
  ·have := HR.vh h;rw [B] at this;simp at this;rw [<- this] at e; simp at e
  ·obtain ⟨p,hp,rfl⟩ := List.mem_map.1 I;have l := oF hm hp;unfold vR;simp only;rw [uk (Q.lat l)];simp only [bS];rw [uk (Q.len l)];refine ⟨_,rfl,_,Q.aC (a := a1) ⟨⟨κ.C,q.a_.m_.steps,κ.g,κ.mo⟩,_,D,H1⟩,rfl,⟨H1.lo,by have := H1.hi; simp only at this ⊢; omega⟩,Or.inr ⟨p,hp,rfl,fun p' y => j _ (List.mem_map_of_mem (f := Prod.snd) y)⟩⟩
theorem PQ.pop (Q : PQ M q T (h :: hs)) (W : h.rs.length < 1000) (y : h.rs ≠ []) {f : Nat} (hf : 95000 < f) :
  Do (wZ f q h.ref true) fun res => ∃ p rs r' C' j,res = (okA p.1 p.2,j) /\ h.rs.Perm (p :: rs) /\ (∀ p' ∈ h.rs,¬ p'.2.lt p.2) /\ PQ M j T (⟨h.ref,h.k,r',C',rs⟩ :: hs) /\ j.serial = q.serial /\ Stp' q j (bd h.k h.rs.length + 1) := by
 have hm : h ∈ h :: hs := List.mem_cons_self ..;have l := Q.hk h hm;obtain ⟨κ,n,S,J⟩ := Q.ar;have H := J.yA;have U : h.rs.length ≠ 0 := fun e => y (List.eq_nil_of_length_eq_zero e)
 unfold wZ;rw [Q.heap hm];simp only [bS];refine Do.f rfl ?_;refine Do.f (by simp; omega) ?_;refine Do.f rfl ?_;refine (A8 (f := f) l.1 l.2 H (by intro e; have := HR.vh h; rw [e] at this; simp at this; omega) (by rw [HR.vh]; omega) hf).bind ?_;rintro _ ⟨x,q0,r',C',a1,rfl,F,t,h1,H1⟩;obtain ⟨p,rs,i,rfl,hq⟩ := ph F;have B : p ∈ h.rs := i.mem_iff.2 (List.mem_cons_self ..);have A := oF hm B;unfold vR;simp only;rw [uk (Q.lat A)];simp only [bS];have D := (Q.re i).drop (p := p) (rs := rs) (r' := r') (C' := C') (a2 := a1) rfl (by simp only [<- i.length_eq]; omega) (h1.p hq.symm (.refl _)) H1 S;simp only [<- i.length_eq] at D;refine D.bind fun t1 D => D.bind ?_
 rintro _ ⟨j,rfl,O,I,u⟩;refine ⟨_,rfl,p,rs,r',C',j,rfl,i,fun p' z => t _ (List.mem_map_of_mem (f := Prod.snd) z),O,u,I.lo,?_⟩;have := I.hi;rw [HR.vh] at this;simp only at this ⊢; omega
theorem PQ.cell (Q : PQ M q T hs) {g : HR} (e : g ∈ hs) {p : zd × It} (hp : p ∈ g.rs) : ym q.t_.items p.1 = some (⟨(p.2.i : Int),g.ref⟩,0) := Pt.wM Q.ii ((Q.il _ _).2 ⟨g,e,p,hp,rfl,rfl⟩)
theorem PQ.remove (Q : PQ M q T (h :: hs)) (J : h.rs.length < 1000) {p : zd × It} (hp : p ∈ h.rs) {f : Nat} (hf : 95000 < f) :
  Do (vW f q p.1) fun res => ∃ rs r' C' j,res = (okA (zd.mk 0 0) p.2,j) /\ h.rs.Perm (p :: rs) /\ PQ M j T (⟨h.ref,h.k,r',C',rs⟩ :: hs) /\ j.serial = q.serial /\ Stp' q j (bd h.k h.rs.length + 1) := by
 have hm : h ∈ h :: hs := List.mem_cons_self ..;have l := Q.hk h hm;obtain ⟨κ,n,F,A⟩ := Q.ar;have H := A.yA;have I := Q.cell hm hp;unfold vW w8 vS;rw [I];simp only [bS];refine Do.f rfl ?_;rw [Q.heap hm];simp only [bS];refine (A5 (f := f) (x := p.2) l.1 l.2 (List.mem_map_of_mem (f := Prod.snd) hp) H (by rw [HR.vh]; omega) hf).bind ?_;rintro _ ⟨q0,r',C',a1,rfl,y,h1,H1⟩;obtain ⟨s,t,e⟩ := List.append_of_mem hp;have i : h.rs.Perm (p :: (s ++ t)) := by rw [e]; exact List.perm_middle
 have hq : ((s ++ t).map Prod.snd).Perm q0 := by
  have := (i.map Prod.snd).symm.trans y;rw [pC] at this;exact this.cons_inv
 have D := (Q.re i).drop (p := p) (rs := s ++ t) (r' := r') (C' := C') (a2 := a1) rfl (by simp only [<- i.length_eq]; omega) (h1.p hq.symm (.refl _)) H1 F;simp only [<- i.length_eq] at D;refine D.bind fun t1 D => D.bind ?_
 rintro _ ⟨j,rfl,B,z,u⟩;refine ⟨_,rfl,s ++ t,r',C',j,rfl,i,B,u,z.lo,?_⟩;have := z.hi;rw [HR.vh] at this;simp only at this ⊢; omega
theorem PQ.dg (Q : PQ M q T (h :: hs)) (O : h.rs.length < 1000) {p : zd × It} (hp : p ∈ h.rs) {f : Nat} (hf : 95000 < f) {key : Int} (u : key <= p.2.k) (S : Int) (hh o : zd) :
  Do (vn f q (yb.mk 5 S hh o p.1 key)) fun res => ∃ rs r' C' x,res = (okA (zd.mk 0 0) ⟨p.2.i,key,p.2.s⟩,x) /\ h.rs.Perm (p :: rs) /\ PQ M x T (⟨h.ref,h.k,r',C',(p.1,⟨p.2.i,key,p.2.s⟩) :: rs⟩ :: hs) /\ x.serial = q.serial /\ Stp' q x (bd h.k h.rs.length + 2) := by
 have hm : h ∈ h :: hs := List.mem_cons_self ..;have l := Q.hk h hm;obtain ⟨κ,n,I,F⟩ := Q.ar;have H := F.yA;have J := Q.cell hm hp;have A := oF hm hp;unfold vn w8 vS;rw [J];simp only [bS];rw [uk (Q.len A)];simp only [bS];refine Do.f rfl ?_;refine Do.f (dF (by omega)) ?_;rw [Q.heap hm];simp only [bS];refine (l.2.lower H (List.mem_map_of_mem (f := Prod.snd) hp) u).bind ?_;rintro _ ⟨U,a1,rfl,h1,H1⟩;refine (aM (f := f) (y := ⟨p.2.i,key,p.2.s⟩) l.1 h1 rfl (by unfold It.lt; simp only; omega) H1 (by rw [HR.vh]; omega) hf).bind ?_;rintro _ ⟨r',q0,C',a2,rfl,B,h2,z⟩;obtain ⟨s,t,e⟩ := List.append_of_mem hp;have j : h.rs.Perm (p :: (s ++ t)) := by rw [e]; exact List.perm_middle
 have hq : ((s ++ t).map Prod.snd).Perm q0 := by
  have := (j.map Prod.snd).symm.trans B;rw [pC] at this;exact this.cons_inv
 have D := (Q.re j).low (p := p) (y := ⟨p.2.i,key,p.2.s⟩) (rs := s ++ t) (r' := r') (C' := C') (a2 := a2) rfl rfl rfl (h2.p (hq.symm.cons _) (.refl _)) z I;simp only [<- j.length_eq] at D;refine Do.seq (PQ.root Q.ih (Q.live hm) r' h.rs.length) ?_;refine ⟨_,rfl,s ++ t,r',C',_,rfl,j,D,rfl,z.lo,?_⟩;have := z.hi;rw [HR.vh] at this;simp only at this ⊢; omega
end
end
noncomputable section
set_option maxRecDepth 10000
namespace Pt
def refs : List zo -> Nat -> List zd
 | [],_ => []
 | x :: l,i => (if x.taken = true then [zd.mk (i : Int) x.gen] else []) ++ refs l (i + 1)
theorem ri {r : zd} : ∀ {l : List zo} {i : Nat},r ∈ refs l i ↔ ∃ (j : Nat) (x : zo),r.At = ((i + j : Nat) : Int) /\ l[j]? = some x /\ x.taken = true /\ r.Gen = x.gen
 | [],i => by simp [refs]
 | x :: l,i => by
  rw [refs,iA,ri];constructor
  ·rintro (h | ⟨j,y,e,h,ht,t⟩)
   ·split at h
    ·rw [List.mem_singleton.1 h]; exact ⟨0,x,rfl,rfl,by assumption,rfl⟩
    ·cases h
   ·exact ⟨j + 1,y,by rw [e]; congr 1; omega,h,ht,t⟩
  ·rintro ⟨j,y,e,h,ht,t⟩;cases j with
   | zero =>
    simp only [List.getElem?_cons_zero,Option.some.injEq] at h;subst h
    left
    rw [if_pos ht];cases r; simp only at e t ⊢; rw [e,t]; simp
   | succ j => exact Or.inr ⟨j,y,by rw [e]; congr 1; omega,h,ht,t⟩
theorem jE {r : zd} {l : List zo} {i : Nat} (h : r ∈ refs l i) : (i : Int) <= r.At := by
 obtain ⟨j,x,e,_⟩ := ri.1 h;omega
theorem sT : ∀ {l : List zo} {i : Nat},(refs l i).Nodup
 | [],i => List.nodup_nil
 | x :: l,i => by
  rw [refs];refine List.nodup_append.2 ⟨by split <;> simp,sT,fun a ha b j e => ?_⟩;have := jE j;split at ha
  ·rw [List.mem_singleton.1 ha] at e; subst e; simp only at this; omega
  ·cases ha
theorem pw : ∀ {l : List zo} {i : Nat},(refs l i).length <= l.length
 | [],i => Nat.le_refl _
 | x :: l,i => by
  have := pw (l := l) (i := i + 1);rw [refs,lA,lC];split <;> simp <;> omega
theorem lV {p : zc} (hl : p.l.length <= 65536) : ∀ (rest pre : List zo) (out : List zd) (m : Nat),p.l = pre ++ rest -> out.length <= pre.length -> rest.length < m ->
  yE (p.l.length : Int) p m out (pre.length : Int) = some (out ++ refs rest pre.length)
 | [],pre,out,m + 1,e,j,hm => by
  unfold yE;rw [dF (by rw [e]; simp),cF,refs,aN]
 | x :: rest,pre,out,m + 1,e,j,hm => by
  have hlen : p.l.length = pre.length + (rest.length + 1) := by rw [e]; simp
  have ih := lV hl rest (pre ++ [x]) (out ++ (if x.taken = true then [zd.mk (pre.length : Int) x.gen] else [])) m (by rw [e]; simp) (by rw [lA,lA]; split <;> simp <;> omega) (by simp only [lC] at hm; omega);have i : mIdx p.l (pre.length : Int) = some x := by rw [e]; exact yu pre rest x
  unfold yE;rw [dT (by omega),cT,i];simp only [bS];rw [zF (by omega) (by omega)];rw [show ((pre ++ [x]).length : Int) = (pre.length : Int) + 1 by simp] at ih;rw [show (pre ++ [x]).length = pre.length + 1 by simp] at ih;rw [refs,<- aA];cases ht : x.taken with
  | true =>
   rw [ht,if_pos rfl] at ih;rw [cT,yP (by simp only [List.length_singleton]; omega)];simp only [bS,if_true];exact ih
  | false =>
   rw [ht] at ih;simp only [Bool.false_eq_true,if_false,aN,cF,bS] at ih ⊢;exact ih
section
variable {p : zc} {T : Nat}
def out (p : zc) : List zd := refs p.l 0
theorem Inv.lb (I : Inv p T) : p.l.length <= 65536 := by have := I.len; have := I.most; omega
theorem qI (I : Inv p T) {k : Nat} (hk : 65536 < k) : xN k p = some (out p) := by
 have := I.lb;unfold xN;rw [show (0 : Int) = (([] : List zo).length : Int) from rfl,lV this p.l [] [] k rfl (Nat.le_refl _) (by omega)]
 rfl
theorem o4 {r : zd} : r ∈ out p ↔ ∃ v,Live p r v := by
 unfold out Live;rw [ri];constructor
 ·rintro ⟨j,x,e,h,ht,i⟩;refine ⟨x.v_,j,by rw [e]; congr 1; omega,?_⟩;rw [h]; cases x; simp only at ht i ⊢; rw [ht,i]
 ·rintro ⟨v,j,e,h⟩;exact ⟨j,_,by rw [e]; congr 1; omega,h,rfl,rfl⟩
theorem o5 : (out p).Nodup := sT
theorem Inv.ik (I : Inv p T) : (out p).length <= 65536 := Nat.le_trans pw I.lb
theorem jA {n : Int} (h0 : 0 <= n) (h1 : n <= 65536) (T : Nat) : Inv (zc.mk n [] []) T :=
 ⟨⟨h0,h1⟩,by simpa using h0,by simp,List.nodup_nil,by simp,by simp⟩
theorem ie {n : Int} {r : zd} {v : zy} : ¬ Live (zc.mk n [] []) r v := by
 rintro ⟨j,_,h⟩; simp at h
theorem Inv.mono {T' : Nat} (I : Inv p T) (h : T <= T') : Inv p T' := { I with gen := fun j x e => by have := I.gen j x e; omega }
end
end Pt
end
noncomputable section
set_option maxRecDepth 10000
def oZ (p : zc) (g : zd) (r : zd) : Bool := match ym p r with
 | some v => zd.eq v.1.heap g
 | none => false
theorem jw {t : zj} {T : Nat} (I : Pt.Inv t.items T) (g : zd) (l : List zd) (hl : l.length <= 65536) (hv : ∀ r ∈ l,∃ v,Pt.Live t.items r v) :
  ∀ (rest pre out : List zd) (m : Nat),l = pre ++ rest -> out.length <= pre.length -> rest.length < m -> xF (l.length : Int) t l g.At g.Gen m out (pre.length : Int) = some (out ++ rest.filter (oZ t.items g))
 | [],pre,out,m + 1,e,y,hm => by
  unfold xF;rw [dF (by rw [e]; simp),cF]; simp
 | x :: rest,pre,out,m + 1,e,y,hm => by
  have hlen : l.length = pre.length + (rest.length + 1) := by rw [e]; simp
  obtain ⟨v,z⟩ := hv x (by rw [e]; simp);have i := Pt.wM I z;have u : oZ t.items g x = zd.eq v.heap g := by unfold oZ; rw [i]
  have j : mIdx l (pre.length : Int) = some x := by rw [e]; exact yu pre rest x
  simp only [lC] at hm;unfold xF;rw [dT (by omega),cT,j];simp only [bS];rw [i];simp only [bS];rw [zF (by omega) (by omega),List.filter_cons,u,show (zd.mk g.At g.Gen) = g from rfl];cases A : zd.eq v.heap g with
  | true =>
   have ih := jw I g l hl hv rest (pre ++ [x]) (out ++ [x]) m (by rw [e]; simp) (by simp; omega) (by omega);rw [show ((pre ++ [x]).length : Int) = (pre.length : Int) + 1 by simp] at ih;rw [cT,yP (by simp only [List.length_singleton]; omega)];simp only [bS,if_true];rw [ih]; simp
  | false =>
   have ih := jw I g l hl hv rest (pre ++ [x]) out m (by rw [e]; simp) (by simp; omega) (by omega);rw [show ((pre ++ [x]).length : Int) = (pre.length : Int) + 1 by simp] at ih;rw [cF];simp only [bS,Bool.false_eq_true,if_false];exact ih
theorem fL {h g : zd} {T : Nat} (l : List zd) (hl : l.length <= 65536) (hn : l.Nodup) {p0 : zc} (h0 : ∀ r ∈ l,∃ c,Pt.Live p0 r ⟨c,g⟩) :
  ∀ (rest pre : List zd) (t : zj) (m : Nat),l = pre ++ rest -> rest.length < m -> Pt.Inv t.items T -> t.items.most = p0.most -> t.items.l.length = p0.l.length -> t.items.free = p0.free ->
   (∀ s u,Pt.Live t.items s u ↔ (s ∈ pre /\ ∃ c,Pt.Live p0 s ⟨c,g⟩ /\ u = ⟨c,h⟩) \/ (s ∉ pre /\ Pt.Live p0 s u)) ->
   ∃ p',xE (l.length : Int) l g.At g.Gen h.At h.Gen m (pre.length : Int) t = some (zj.mk t.heaps p' t.at_) /\ Pt.Inv p' T /\ p'.most = p0.most /\ p'.l.length = p0.l.length /\ p'.free = p0.free /\
    (∀ s u,Pt.Live p' s u ↔ (s ∈ l /\ ∃ c,Pt.Live p0 s ⟨c,g⟩ /\ u = ⟨c,h⟩) \/ (s ∉ l /\ Pt.Live p0 s u))
 | [],pre,t,m + 1,e,hm,I,z,A,B,j => by
  refine ⟨t.items,?_,I,z,A,B,by rw [e,aN]; exact j⟩;unfold xE;rw [dF (by rw [e]; simp),cF]
 | x :: rest,pre,t,m + 1,e,hm,I,z,A,B,j => by
  have hlen : l.length = pre.length + (rest.length + 1) := by rw [e]; simp
  obtain ⟨c,S⟩ := h0 x (by rw [e]; simp);have y : x ∉ pre := by
   rw [e] at hn;obtain ⟨_,_,h3⟩ := List.nodup_append.1 hn;exact fun hp => h3 x hp x (List.mem_cons_self ..) rfl
  have i : Pt.Live t.items x ⟨c,g⟩ := (j _ _).2 (Or.inr ⟨y,S⟩);have F : mIdx l (pre.length : Int) = some x := by rw [e]; exact yu pre rest x
  simp only [lC] at hm;have O := Pt.ry I i (zy.mk c h);have D := Pt.tm i (zy.mk c h);obtain ⟨p',U,r⟩ := fL l hl hn h0 rest (pre ++ [x]) (zj.mk t.heaps (zc.mk t.items.most (mSet t.items.l x.At ⟨x.Gen,true,zy.mk c h⟩) t.items.free) t.at_) m (by rw [e]; simp) (by omega) (Pt.rv I i _) z (by simpa [mSet] using A) B (by
   intro s u;refine (D s u).trans ?_;simp only [iA,List.mem_singleton];constructor
   ·rintro (⟨rfl,rfl⟩ | ⟨J,hl⟩)
    ·exact Or.inl ⟨Or.inr rfl,c,S,rfl⟩
    ·rcases (j _ _).1 hl with ⟨h1,h2⟩ | ⟨h1,h2⟩
     ·exact Or.inl ⟨Or.inl h1,h2⟩
     ·exact Or.inr ⟨fun h3 => h3.elim h1 J,h2⟩
   ·rintro (⟨h1 | rfl,c',h2,rfl⟩ | ⟨h1,h2⟩)
    ·exact Or.inr ⟨fun e => y (e ▸ h1),(j _ _).2 (Or.inl ⟨h1,c',h2,rfl⟩)⟩
    ·have := S.uniq h2;simp only [zy.mk.injEq,and_true] at this;exact Or.inl ⟨rfl,by rw [this]⟩
    ·simp only [not_or] at h1;exact Or.inr ⟨h1.2,(j _ _).2 (Or.inr ⟨h1.1,h2⟩)⟩)
  rw [show ((pre ++ [x]).length : Int) = (pre.length : Int) + 1 by simp] at U;refine ⟨p',?_,r⟩;unfold xE;rw [dT (by omega),cT,F];simp only [bS];rw [Pt.wM I i];simp only [bS];rw [show (zd.mk h.At h.Gen) = h from rfl,O];simp only [bS];rw [zF (by omega) (by omega)];exact U
section
variable {M : Nat} {q : zn} {T : Nat} {h g : HR} {hs hs' : List HR}
theorem bO (hn : (hs.map HR.ref).Nodup) {a b : HR} (ha : a ∈ hs) (l : b ∈ hs) (e : a.ref = b.ref) : a = b := by
 induction hs with
 | nil => cases ha
 | cons c hs ih =>
  rw [pC,List.nodup_cons] at hn;rcases List.mem_cons.1 ha with j | j
  ·rcases List.mem_cons.1 l with i | i
   ·rw [j,i]
   ·exact absurd (by rw [<- j,e]; exact List.mem_map_of_mem (f := HR.ref) i) hn.1
  ·rcases List.mem_cons.1 l with i | i
   ·exact absurd (by rw [<- i,<- e]; exact List.mem_map_of_mem (f := HR.ref) j) hn.1
   ·exact ih hn.2 j i
theorem PQ.meld (Q : PQ M q T (h :: g :: hs)) (a3 : h.k = g.k) (c2 : h.rs.length < 256) (c3 : g.rs.length < 256) {f : Nat} (hf : 95000 < f) :
  Do (uV f q h.ref g.ref) fun res => ∃ r' C' q',res = (zI.mk 0 (zd.mk 0 0) (zd.mk 0 0) (zg.mk 0 0) ((h.rs.length : Int) + g.rs.length),q') /\ PQ M q' T (⟨h.ref,h.k,r',C',h.rs ++ g.rs⟩ :: hs) /\ q'.serial = q.serial /\ Stp' q q' (bd h.k (h.rs.length + g.rs.length)) := by
 have hm : h ∈ h :: g :: hs := List.mem_cons_self ..;have B : g ∈ h :: g :: hs := mC _ (List.mem_cons_self ..);have O := Q.hk h hm;have Y := Q.hk g B;rw [<- a3] at Y;have F : h.ref ≠ g.ref := by
  intro e;have := Q.hn;simp [e] at this
 have D := Q.live B;obtain ⟨κ,n,eC,H0⟩ := Q.ar;have H := H0.yA;rw [qG,qG] at H;have I := Q.ii;have z : vZ f q.t_ g.ref = some ((Pt.out q.t_.items).filter (oZ q.t_.items g.ref)) := by
  unfold vZ;rw [Pt.qI I (by omega)];simp only [bS];rw [show (0 : Int) = (([] : List zd).length : Int) from rfl,jw I g.ref (Pt.out q.t_.items) I.ik (fun r hr => Pt.o4.1 hr) (Pt.out q.t_.items) [] [] f (List.nil_append _).symm (Nat.le_refl _) (by have := I.ik; omega)];simp
 generalize S : (Pt.out q.t_.items).filter (oZ q.t_.items g.ref) = l' at z;have x : ∀ r,r ∈ l' ↔ ∃ p ∈ g.rs,r = p.1 := by
  intro r;rw [<- S,List.mem_filter];constructor
  ·rintro ⟨h1,h2⟩;obtain ⟨v,hv⟩ := Pt.o4.1 h1;unfold oZ at h2;rw [Pt.wM I hv] at h2;have h3 := (vQ _ _).1 h2;obtain ⟨g0,j,p,hp,rfl,rfl⟩ := (Q.il _ _).1 hv;have := bO Q.hn j B h3;subst this;exact ⟨p,hp,rfl⟩
  ·rintro ⟨p,hp,rfl⟩;have hv : Pt.Live q.t_.items p.1 ⟨(p.2.i : Int),g.ref⟩ := (Q.il _ _).2 ⟨g,B,p,hp,rfl,rfl⟩;refine ⟨Pt.o4.2 ⟨_,hv⟩,?_⟩;unfold oZ;rw [Pt.wM I hv];exact (vQ _ _).2 rfl
 have U : l'.length <= 65536 := by rw [<- S]; exact Nat.le_trans (List.length_filter_le _ _) I.ik
 have a5 : l'.Nodup := by rw [<- S]; exact Pt.o5.sublist List.filter_sublist
 obtain ⟨p',e4,I',e5,e6,e7,b0⟩ := fL (h := h.ref) (g := g.ref) l' U a5 (p0 := q.t_.items) (fun r hr => by
  obtain ⟨p,hp,rfl⟩ := (x r).1 hr;exact ⟨_,(Q.il _ _).2 ⟨g,B,p,hp,rfl,rfl⟩⟩) l' [] q.t_ f rfl (by omega) I rfl rfl rfl (fun s u => by simp)
 simp only [List.length_nil] at e4;have A := Q.live hm;have J : vY f q.t_ h.ref g.ref = some (0,zj.mk (zh.mk q.t_.heaps.most (mSet q.t_.heaps.l g.ref.At ⟨g.ref.Gen,false,(zA.mk 0 0 0)⟩) (q.t_.heaps.free ++ [g.ref.At])) p' q.t_.at_) := by
  unfold vY;rw [Ph.wM Q.ih A];simp only [bS];rw [show ((0 : Int) != 0) = false from rfl,cF,Ph.wM Q.ih D];simp only [bS];rw [show ((0 : Int) != 0) = false from rfl,cF,show zd.eq h.ref g.ref = false by simpa using fun e => F ((vQ _ _).1 e),cF,show (h.val.kind != g.val.kind) = false by simpa [HR.val] using a3,cF,z];simp only [bS];rw [show ((0 : Nat) : Int) = 0 from rfl] at e4;rw [e4];simp only [bS];rw [Ph.sK Q.ih D]
  rfl
 unfold uV;rw [Q.heap hm];simp only [bS];rw [Q.heap B];simp only [bS];rw [J];simp only [bS];refine Do.f rfl ?_;refine (aO (f := f) O.1 O.2 Y.2 H (by rw [HR.vh]; omega) (by rw [HR.vh]; omega) hf).bind ?_;rintro _ ⟨r',C',a1,rfl,h1,H1⟩;rw [zF (by omega) (by omega)];have a0 := Ph.qU Q.ih D;have Z := Ph.rI D;have y := (Z h.ref h.val).2 ⟨F,A⟩;refine Do.seq (PQ.root (t := zj.mk (zh.mk q.t_.heaps.most (mSet q.t_.heaps.l g.ref.At ⟨g.ref.Gen,false,(zA.mk 0 0 0)⟩) (q.t_.heaps.free ++ [g.ref.At])) p' q.t_.at_) a0 y r' ((h.rs.length : Int) + g.rs.length)) ?_;have X : allR (⟨h.ref,h.k,r',C',h.rs ++ g.rs⟩ :: hs) = allR (h :: g :: hs) := by
  rw [wH,wH,wH,aA]
 have a4 : ((h :: hs).map HR.ref).Nodup := by
  have := Q.hn;simp only [pC,List.nodup_cons,iC,not_or] at this ⊢;exact ⟨this.1.2,this.2.2⟩
 have a2 : ∀ g0 ∈ hs,g0.ref ≠ g.ref := by
  have := Q.hn;simp only [pC,List.nodup_cons] at this;exact fun g0 h0 e => this.2.1 (e ▸ List.mem_map_of_mem (f := HR.ref) h0)
 refine ⟨_,rfl,r',C',_,rfl,?_,rfl,H1.lo,?_⟩
 ·refine ⟨?_,I',?_,?_,Q.at1,?_,Q.en1,?_,?_,a4,?_,?_,⟨⟨κ.C,q.a_.m_.steps,κ.g,κ.mo⟩,_,eC,H1⟩,Q.mi,e5.trans Q.mm,Q.mb,?_,?_,Q.cm,?_,Q.sq⟩
  ·exact Ph.rv a0 y (zA.mk h.k r' ((h.rs.length : Int) + g.rs.length))
  ·refine j4 (h := h) (P := Ph.Live (zh.mk q.t_.heaps.most (mSet q.t_.heaps.l g.ref.At ⟨g.ref.Gen,false,(zA.mk 0 0 0)⟩) (q.t_.heaps.free ++ [g.ref.At]))) ?_ a4 rfl fun s u => ?_
   ·intro s u;refine (Z s u).trans ⟨?_,?_⟩
    ·rintro ⟨a6,hl⟩;obtain ⟨g0,j,rfl,rfl⟩ := (Q.hl _ _).1 hl;simp only [iC] at j;rcases j with rfl | rfl | j
     ·exact ⟨_,List.mem_cons_self ..,rfl,rfl⟩
     ·exact absurd rfl a6
     ·exact ⟨g0,mC _ j,rfl,rfl⟩
    ·rintro ⟨g0,j,rfl,rfl⟩;rcases List.mem_cons.1 j with rfl | j
     ·exact ⟨F,A⟩
     ·exact ⟨a2 g0 j,(Q.hl _ _).2 ⟨g0,by simp [j],rfl,rfl⟩⟩
   ·have := Ph.tm y (zA.mk h.k r' ((h.rs.length : Int) + g.rs.length)) s u;simpa [HR.val] using this
  ·intro s u;refine (b0 s u).trans ⟨?_,?_⟩
   ·rintro (⟨W,c,hc,rfl⟩ | ⟨W,hl⟩)
    ·obtain ⟨p,hp,rfl⟩ := (x s).1 W;have := hc.uniq ((Q.il _ _).2 ⟨g,B,p,hp,rfl,rfl⟩);simp only [zy.mk.injEq,and_true] at this;exact ⟨_,List.mem_cons_self ..,p,List.mem_append_right _ hp,rfl,by rw [this]⟩
    ·obtain ⟨g0,j,p,hp,rfl,rfl⟩ := (Q.il _ _).1 hl;simp only [iC] at j;rcases j with rfl | rfl | j
     ·exact ⟨_,List.mem_cons_self ..,p,mL _ hp,rfl,rfl⟩
     ·exact absurd ((x _).2 ⟨p,hp,rfl⟩) W
     ·exact ⟨g0,mC _ j,p,hp,rfl,rfl⟩
   ·have key : ∀ g0 ∈ h :: g :: hs,g0.ref ≠ g.ref -> ∀ p ∈ g0.rs,p.1 ∉ l' := by
     intro g0 j a7 p hp hl;obtain ⟨p2,b1,e⟩ := (x _).1 hl;have h5 := (Q.il p.1 _).2 ⟨g0,j,p,hp,rfl,rfl⟩;have h6 := (Q.il p.1 _).2 ⟨g,B,p2,b1,e,rfl⟩;have := h5.uniq h6;simp only [zy.mk.injEq] at this;exact a7 this.2
    rintro ⟨g0,j,p,hp,rfl,rfl⟩;rcases List.mem_cons.1 j with rfl | j
    ·rcases List.mem_append.1 hp with hp | hp
     ·exact Or.inr ⟨key h hm F p hp,(Q.il _ _).2 ⟨h,hm,p,hp,rfl,rfl⟩⟩
     ·exact Or.inl ⟨(x _).2 ⟨p,hp,rfl⟩,_,(Q.il _ _).2 ⟨g,B,p,hp,rfl,rfl⟩,rfl⟩
    ·exact Or.inr ⟨key g0 (by simp [j]) (a2 g0 j) p hp,(Q.il _ _).2 ⟨g0,by simp [j],p,hp,rfl,rfl⟩⟩
  ·rw [X]; exact Q.at2
  ·rw [X]; exact Q.en2
  ·intro g0 j;rcases List.mem_cons.1 j with rfl | j
   ·refine ⟨O.1,?_⟩;show HK (KD h.k) r' ((h.rs ++ g.rs).map Prod.snd) C';rw [List.map_append]; exact h1
   ·exact Q.hk g0 (by simp [j])
  ·rw [X]; exact Q.rn
  ·rw [X]; exact Q.sn
  ·rw [X];show (p'.l.length : Int) - p'.free.length = _;rw [e6,e7]; exact Q.ci
  ·have := Q.ch;simp only [mSet,List.length_set,lA,lC,List.length_nil] at this ⊢;omega
  ·rw [X]; exact Q.sr
 ·have := H1.hi;rw [HR.vh,HR.vh] at this;simp only at this ⊢; omega
theorem PQ.make (Q : PQ M q T hs) {k : Int} (hk : Kd k) (z : hs.length < 64) (F : T < 4611686018427387000) :
  ∃ r x,v7 q.t_ k = some (r,0,x) /\ PQ M (zn.mk q.items q.a_ x q.entries q.serial) (T + 1) (⟨r,k,-1,[],[]⟩ :: hs) := by
 obtain ⟨r,p',e,y,j,B,t,i⟩ := Ph.rU Q.ih (by omega) (by have := Q.ch; have := Q.cm; omega) (zA.mk k (-1) 0);have l : sN k = some true := by
  unfold sN;rcases hk with rfl | rfl | rfl <;> rfl
 refine ⟨r,zj.mk p' q.t_.items q.t_.at_,?_,?_⟩
 ·unfold v7;rw [l];simp only [bS];rw [show (!true) = false from rfl,cF,e]
  rfl
 ·have D : allR (⟨r,k,-1,[],[]⟩ :: hs) = allR hs := rfl;have A : allC (⟨r,k,-1,[],[]⟩ :: hs) = allC hs := rfl;refine ⟨y,Q.ii.mono (by omega),?_,?_,Q.at1,Q.at2,Q.en1,Q.en2,?_,?_,Q.rn,Q.sn,Q.ar,Q.mi,Q.mm,Q.mb,Q.ci,?_,t.trans Q.cm,Q.sr,?_⟩
  ·intro s u;refine (B s u).trans ⟨?_,?_⟩
   ·rintro (⟨rfl,rfl⟩ | hl)
    ·exact ⟨_,List.mem_cons_self ..,rfl,rfl⟩
    ·obtain ⟨g0,h0,e⟩ := (Q.hl _ _).1 hl;exact ⟨g0,mC _ h0,e⟩
   ·rintro ⟨g0,h0,rfl,rfl⟩;rcases List.mem_cons.1 h0 with rfl | h0
    ·exact Or.inl ⟨rfl,rfl⟩
    ·exact Or.inr ((Q.hl _ _).2 ⟨g0,h0,rfl,rfl⟩)
  ·intro s u;refine (Q.il s u).trans ⟨?_,?_⟩
   ·rintro ⟨g0,h0,e⟩; exact ⟨g0,mC _ h0,e⟩
   ·rintro ⟨g0,h0,p,hp,e⟩;rcases List.mem_cons.1 h0 with rfl | h0
    ·cases hp
    ·exact ⟨g0,h0,p,hp,e⟩
  ·intro g0 h0;rcases List.mem_cons.1 h0 with rfl | h0
   ·exact ⟨hk,A7 hk⟩
   ·exact Q.hk g0 h0
  ·rw [pC,List.nodup_cons];refine ⟨fun hm => ?_,Q.hn⟩;obtain ⟨g0,h0,e⟩ := List.mem_map.1 hm;exact j _ ((Q.hl _ _).2 ⟨g0,h0,e.symm,rfl⟩)
  ·have := Q.ch;simp only [lC] at i ⊢; omega
  ·have := Q.sq; simp only; omega
theorem aX (h1 : 1 <= M) (h2 : M <= 16384) : ∃ q,kq (M : Int) = some (some q,0) /\ PQ M q 0 [] /\ q.serial = 0 /\ q.a_.m_.steps = 0 := by
 obtain ⟨a,t,e⟩ := nC (C := 2 * M) (by omega);have x : w64 (2 * (M : Int)) = ((2 * M : Nat) : Int) := by rw [zF (by omega) (by omega)]; simp
 have i : (if (if 16384 < (M : Int) then 16384 else (M : Int)) > 1 then (if 16384 < (M : Int) then 16384 else (M : Int)) else 1) = (M : Int) := by
  rw [show (if 16384 < (M : Int) then 16384 else (M : Int)) = (M : Int) from if_neg (by omega)]; split <;> omega
 have l : (if (if 65536 < (M : Int) then 65536 else (M : Int)) > 0 then (if 65536 < (M : Int) then 65536 else (M : Int)) else 0) = (M : Int) := by
  rw [show (if 65536 < (M : Int) then 65536 else (M : Int)) = (M : Int) from if_neg (by omega),if_pos (by omega)]
 refine ⟨zn.mk (M : Int) a (zj.mk (zh.mk 64 [] []) (zc.mk (M : Int) [] []) []) [] 0,?_,?_,rfl,?_⟩
 ·unfold kq;rw [show ((decide ((M : Int) < 1)) || (decide ((M : Int) > 16384))) = false by simp; omega,cF,x,t];simp only [bS];unfold nu ue vK;simp only [bS];rw [i,l]
  rfl
 ·refine ⟨⟨⟨by simp,by simp⟩,by simp,by simp,List.nodup_nil,by simp,by simp⟩,Pt.jA (by omega) (by omega) 0,?_,?_,List.nodup_nil,?_,List.nodup_nil,?_,?_,List.nodup_nil,List.nodup_nil,List.nodup_nil,⟨_,_,rfl,e⟩,rfl,rfl,⟨h1,h2⟩,rfl,rfl,rfl,?_,by simp⟩
  ·intro s u;constructor
   ·rintro ⟨j,_,h⟩; simp at h
   ·rintro ⟨g,h,_⟩; cases h
  ·intro s u;constructor
   ·rintro ⟨j,_,h⟩; simp at h
   ·rintro ⟨g,h,_⟩; cases h
  ·intro c s;constructor
   ·intro h; cases h
   ·rintro ⟨p,hp,_⟩; cases hp
  ·intro c s;constructor
   ·intro h; cases h
   ·rintro ⟨p,hp,_⟩; cases hp
  ·intro h hh; cases hh
  ·intro p hp; cases hp
 ·have := e.lo; have := e.hi; simp only at *; omega
end
end
noncomputable section
set_option maxRecDepth 10000
def begun (q : zn) (m : zB) : zn := zn.mk q.items (zb.mk q.a_.l q.a_.never q.a_.free m) q.t_ q.entries q.serial
section
variable {M : Nat} {q : zn} {T : Nat} {h g : HR} {hs hs' : List HR} {f : Nat}
theorem PQ.begin (Q : PQ M q T hs) : ∃ m,uK q.a_.m_ = some m /\ m.steps = q.a_.m_.steps /\ PQ M (begun q m) T hs := by
 obtain ⟨κ,n,e,H⟩ := Q.ar;refine ⟨_,rfl,rfl,?_⟩;exact Q.aC ⟨⟨κ.C,q.a_.m_.steps,q.a_.m_.steps,_⟩,0,e,⟨H.len,H.cap,H.nev,H.fre,H.hav,H.oth,Int.le_trans H.b0 H.lo,Int.le_refl _,by simp,H.mx,rfl,rfl⟩⟩
theorem nv {q1 q2 : zn} {m : zB} {B : Nat} (e : m.steps = q.a_.m_.steps) (h : Stp' (begun q m) q2 B) : Stp' q q2 B := by
 unfold Stp' at *
 rw [<- e]; exact h
theorem PQ.fw (Q : PQ M q T hs) {k : Int} (hk : Kd k) (j : hs.length < 64) (y : T < 4611686018427387000) {a b c : zd} {key : Int} :
  Do (zZ f q (yb.mk 1 k a b c key)) fun res => ∃ r i,res = (zI.mk 0 r (zd.mk 0 0) (zg.mk 0 0) 0,i) /\ PQ M i (T + 1) (⟨r,k,-1,[],[]⟩ :: hs) /\ i.serial = q.serial /\ Stp' q i 0 := by
 obtain ⟨m,e,es,l⟩ := Q.begin;unfold zZ;refine Do.seq (r := ()) rfl (Do.seq e (Do.t rfl ?_));obtain ⟨r,z,x,u⟩ := l.make hk j y;refine Do.seq x ?_;exact ⟨_,rfl,r,_,rfl,u,rfl,nv (q1 := q) es ⟨Int.le_refl _,by simp [begun]⟩⟩
theorem PQ.dh (Q : PQ M q T (h :: hs)) (j : (allR (h :: hs)).length < M) (u : h.rs.length < 1000) (B : T < 4611686018427387000) (hf : 95000 < f) (y : Int) (key : Int) (o i0 : zd) :
  Do (zZ f q (yb.mk 2 y h.ref o i0 key)) fun res => ∃ (i : zd) (x : It) (r' : Int) (C' : Heap) (l : zn),res = (zI.mk 0 (zd.mk 0 0) i (zg.mk key q.serial) 0,l) /\ x.k = key /\ x.s = q.serial /\
   PQ M l (T + 1) (⟨h.ref,h.k,r',C',(i,x) :: h.rs⟩ :: hs) /\ l.serial = q.serial + 1 /\ Stp' q l (bd h.k h.rs.length + 3) := by
 obtain ⟨m,e,es,z⟩ := Q.begin;unfold zZ;refine Do.seq (r := ()) rfl (Do.seq e (Do.f rfl (Do.t rfl ?_)));refine (z.insert j u B hf y key o i0).bind ?_;rintro _ ⟨i,x,r',C',l,rfl,h1,h2,h3,h4,A⟩;exact ⟨_,rfl,i,x,r',C',l,rfl,h1,h2,h3,h4,nv (q1 := q) es A⟩
theorem PQ.AZ (Q : PQ M q T (h :: hs)) (j : h.rs.length < 1000) (hf : 95000 < f) {k key : Int} {o i0 : zd} :
  Do (zZ f q (yb.mk 3 k h.ref o i0 key)) fun res => ∃ i,PQ M i T (h :: hs) /\ i.serial = q.serial /\ Stp' q i 100 /\ ((h.rs = [] /\ res = (zI.mk 27 (zd.mk 0 0) (zd.mk 0 0) (zg.mk 0 0) 0,i)) \/ ∃ p ∈ h.rs,res = (okA p.1 p.2,i) /\ ∀ p' ∈ h.rs,¬ p'.2.lt p.2) := by
 obtain ⟨m,e,es,l⟩ := Q.begin;unfold zZ;refine Do.seq (r := ()) rfl (Do.seq e (Do.f rfl (Do.f rfl (Do.t rfl ?_))));refine (l.min j hf).bind ?_;rintro res ⟨i,h1,h2,h3,h4⟩;exact ⟨_,rfl,i,h1,h2,nv (q1 := q) es h3,h4⟩
theorem PQ.A0 (Q : PQ M q T (h :: hs)) (l : h.rs.length < 1000) (j : h.rs ≠ []) (hf : 95000 < f) {k key : Int} {o i0 : zd} :
  Do (zZ f q (yb.mk 4 k h.ref o i0 key)) fun res => ∃ p rs r' C' i,res = (okA p.1 p.2,i) /\ h.rs.Perm (p :: rs) /\ (∀ p' ∈ h.rs,¬ p'.2.lt p.2) /\ PQ M i T (⟨h.ref,h.k,r',C',rs⟩ :: hs) /\ i.serial = q.serial /\ Stp' q i (bd h.k h.rs.length + 1) := by
 obtain ⟨m,e,es,u⟩ := Q.begin;unfold zZ;refine Do.seq (r := ()) rfl (Do.seq e (Do.f rfl (Do.f rfl (Do.f rfl (Do.t rfl ?_)))));refine (u.pop l j hf).bind ?_;rintro res ⟨p,rs,r',C',i,h1,h2,h3,h4,x,y⟩;exact ⟨_,rfl,p,rs,r',C',i,h1,h2,h3,h4,x,nv (q1 := q) es y⟩
theorem PQ.iV (Q : PQ M q T (h :: hs)) (u : h.rs.length < 1000) {p : zd × It} (hp : p ∈ h.rs) (hf : 95000 < f) {key : Int} (l : key <= p.2.k) {k : Int} {hh o : zd} :
  Do (zZ f q (yb.mk 5 k hh o p.1 key)) fun res => ∃ rs r' C' j,res = (okA (zd.mk 0 0) ⟨p.2.i,key,p.2.s⟩,j) /\ h.rs.Perm (p :: rs) /\ PQ M j T (⟨h.ref,h.k,r',C',(p.1,⟨p.2.i,key,p.2.s⟩) :: rs⟩ :: hs) /\ j.serial = q.serial /\ Stp' q j (bd h.k h.rs.length + 2) := by
 obtain ⟨m,e,es,x⟩ := Q.begin;unfold zZ;refine Do.seq (r := ()) rfl (Do.seq e (Do.f rfl (Do.f rfl (Do.f rfl (Do.f rfl (Do.t rfl ?_))))));refine (x.dg u hp hf l k hh o).bind ?_;rintro res ⟨rs,r',C',j,h1,h2,h4,y,z⟩;exact ⟨_,rfl,rs,r',C',j,h1,h2,h4,y,nv (q1 := q) es z⟩
theorem PQ.dj (Q : PQ M q T (h :: hs)) (j : h.rs.length < 1000) {p : zd × It} (hp : p ∈ h.rs) (hf : 95000 < f) {k key : Int} {hh o : zd} :
  Do (zZ f q (yb.mk 6 k hh o p.1 key)) fun res => ∃ rs r' C' i,res = (okA (zd.mk 0 0) p.2,i) /\ h.rs.Perm (p :: rs) /\ PQ M i T (⟨h.ref,h.k,r',C',rs⟩ :: hs) /\ i.serial = q.serial /\ Stp' q i (bd h.k h.rs.length + 1) := by
 obtain ⟨m,e,es,l⟩ := Q.begin;unfold zZ;refine Do.seq (r := ()) rfl (Do.seq e (Do.f rfl (Do.f rfl (Do.f rfl (Do.f rfl (Do.f rfl (Do.t rfl ?_)))))));refine (l.remove j hp hf).bind ?_;rintro res ⟨rs,r',C',i,h1,h2,h4,u,x⟩;exact ⟨_,rfl,rs,r',C',i,h1,h2,h4,u,nv (q1 := q) es x⟩
theorem PQ.aF (Q : PQ M q T (h :: g :: hs)) (j : h.k = g.k) (l : h.rs.length < 256) (u : g.rs.length < 256) (hf : 95000 < f) {k key : Int} {i0 : zd} :
  Do (zZ f q (yb.mk 7 k h.ref g.ref i0 key)) fun res => ∃ r' C' i,res = (zI.mk 0 (zd.mk 0 0) (zd.mk 0 0) (zg.mk 0 0) ((h.rs.length : Int) + g.rs.length),i) /\ PQ M i T (⟨h.ref,h.k,r',C',h.rs ++ g.rs⟩ :: hs) /\ i.serial = q.serial /\ Stp' q i (bd h.k (h.rs.length + g.rs.length)) := by
 obtain ⟨m,e,es,x⟩ := Q.begin;unfold zZ;refine Do.seq (r := ()) rfl (Do.seq e (Do.f rfl (Do.f rfl (Do.f rfl (Do.f rfl (Do.f rfl (Do.f rfl (Do.t rfl ?_))))))));refine (x.meld j l u hf).bind ?_;rintro res ⟨r',C',i,h1,h4,y,z⟩;exact ⟨_,rfl,r',C',i,h1,h4,y,nv (q1 := q) es z⟩
end
end
noncomputable section
set_option maxRecDepth 10000
namespace Pj
structure Inv (p : ze) (T : Nat) : Prop where
 most : 0 <= p.most /\ p.most <= 65536
 len : (p.l.length : Int) <= p.most
 fre : ∀ f ∈ p.free,∃ (j : Nat) (x : zp),f = (j : Int) /\ p.l[j]? = some x /\ x.taken = false
 fnd : p.free.Nodup
 cov : ∀ (j : Nat) (x : zp),p.l[j]? = some x -> x.taken = false -> (j : Int) ∈ p.free
 gen : ∀ (j : Nat) (x : zp),p.l[j]? = some x -> 1 <= x.gen /\ x.gen <= T
def Live (p : ze) (r : zd) (v : zz) : Prop := ∃ j : Nat,r.At = (j : Int) /\ p.l[j]? = some ⟨r.Gen,true,v⟩
section
variable {p : ze} {T : Nat} {r : zd} {v : zz}
theorem Live.idx (h : Live p r v) : mIdx p.l r.At = some ⟨r.Gen,true,v⟩ := by
 obtain ⟨j,e,h⟩ := h;rw [e,yv]; exact h
theorem Live.uniq {w : zz} (h : Live p r v) (j : Live p r w) : v = w := by
 have i := h.idx;have e := j.idx;rw [i] at e;simp only [Option.some.injEq,zp.mk.injEq,true_and] at e;exact e
theorem Inv.flen (I : Inv p T) : p.free.length <= p.l.length := by
 have h1 : (p.free.map Int.toNat).Nodup := List.pairwise_map.2 (I.fnd.imp_of_mem fun {x y} u z t e => by
  obtain ⟨i,_,rfl,_⟩ := I.fre x u;obtain ⟨j,_,rfl,_⟩ := I.fre y z;simp only [tN] at e;exact t (by rw [e]))
 have h2 := rL (m := List.range p.l.length) h1 fun x u => by
  obtain ⟨f,hf,rfl⟩ := List.mem_map.1 u;obtain ⟨j,y,rfl,hj,_⟩ := I.fre f hf;simp only [tN,List.mem_range];exact (List.getElem?_eq_some_iff.1 hj).1
 simpa using h2
theorem wA (I : Inv p T) (h : Live p r v) : zO p r = some (some r.At,0) := by
 have hi := h.idx;obtain ⟨j,e,h⟩ := h;have i := I.gen _ _ h;simp only at i;have hl := (List.getElem?_eq_some_iff.1 h).1;unfold zO;rw [dF (by omega),dF (by omega),dF (by omega),hi];simp
theorem wM (I : Inv p T) (h : Live p r v) : yn p r = some (v,0) := by
 unfold yn;rw [wA I h];simp [ta,oS,h.idx]
theorem ry (I : Inv p T) (h : Live p r v) (w : zz) : xd p r w = some (0,ze.mk p.most (mSet p.l r.At ⟨r.Gen,true,w⟩) p.free) := by
 unfold xd;rw [wA I h];simp [ta,oS,h.idx]
theorem sK (I : Inv p T) (h : Live p r v) : zQ p r = some (v,0,ze.mk p.most (mSet p.l r.At ⟨r.Gen,false,(zz.mk 0 0 0 (zd.mk 0 0))⟩) (p.free ++ [r.At])) := by
 have e := I.flen;have h1 := I.len;have h2 := I.most;unfold zQ;rw [wA I h];simp only [bS,ta,oS,h.idx];rw [yP (by simp only [List.length_singleton]; omega)];simp [mSet]
theorem sW (I : Inv p T) (u : T < 4611686018427387904) {fs : List Int} {j : Nat} {x : zp} (hf : p.free = fs ++ [(j : Int)]) (hj : p.l[j]? = some x) :
  yl p v = some (zd.mk (j : Int) (x.gen + 1),true,ze.mk p.most (mSet p.l (j : Int) ⟨x.gen + 1,true,v⟩) fs) := by
 have y := I.gen _ _ hj;have t : fs.length < 1000000 := by
  have h0 := I.flen;rw [hf] at h0;simp only [lA,List.length_singleton] at h0;have := I.len;have := I.most;omega
 have hw : w64 (((fs ++ [(j : Int)]).length : Int) - 1) = (fs.length : Int) := by
  rw [zF] <;> simp <;> omega
 have i : mIdx (fs ++ [(j : Int)]) (fs.length : Int) = some (j : Int) := yu fs [] (j : Int);have e : mCut (fs ++ [(j : Int)]) 0 (fs.length : Int) = some fs := by
  unfold mCut;rw [if_pos ⟨by omega,by omega,by simp; omega⟩];simp
 unfold yl;rw [hf,hw,dT (by omega)];simp only [cT,i,e,bS];rw [yv,hj];simp only [bS];rw [zF (by omega) (by omega)];simp [mSet]
theorem qh (I : Inv p T) (hf : p.free = []) (hl : (p.l.length : Int) < p.most) :
  yl p v = some (zd.mk (p.l.length : Int) 1,true,ze.mk p.most (p.l ++ [⟨1,true,v⟩]) []) := by
 have := I.most;unfold yl;rw [hf];rw [show w64 ((([] : List Int).length : Int) - 1) = -1 by rw [zF] <;> simp];rw [dF (by omega)];simp only [cF];rw [dF (by omega)];simp only [cF];rw [yP (by simp only [List.length_singleton]; omega)];simp only [bS];rw [yu];simp only [bS];rw [show w64 (0 + 1) = 1 by rw [zF] <;> simp];simp [mSet]
theorem yH {l : List zp} {j i : Nat} {x y : zp} (h : l[j]? = some y) : (l.set j x)[i]? = if i = j then some x else l[i]? := by
 have := (List.getElem?_eq_some_iff.1 h).1;by_cases e : i = j
 ·subst e; rw [if_pos rfl,List.getElem?_set_self this]
 ·rw [if_neg e,getD_set_ne (fun h => e h.symm)]
theorem rv (I : Inv p T) (h : Live p r v) (w : zz) : Inv (ze.mk p.most (mSet p.l r.At ⟨r.Gen,true,w⟩) p.free) T := by
 obtain ⟨j,e,h⟩ := h;have u := I.gen _ _ h;refine ⟨I.most,by simpa [mSet] using I.len,fun f hf => ?_,I.fnd,fun i x t ht => ?_,fun i x t => ?_⟩
 ·obtain ⟨i,x,rfl,hi,t⟩ := I.fre f hf;refine ⟨i,x,rfl,?_,t⟩;simp only [mSet,e,tN];rw [yH h,if_neg]; exact hi;rintro rfl;rw [h] at hi; cases hi; simp at t
 ·simp only [mSet,e,tN] at t;rw [yH h] at t;split at t
  ·cases t; simp at ht
  ·exact I.cov i x t ht
 ·simp only [mSet,e,tN] at t;rw [yH h] at t;split at t
  ·cases t; exact u
  ·exact I.gen i x t
theorem tm (h : Live p r v) (w : zz) (s : zd) (u : zz) : Live (ze.mk p.most (mSet p.l r.At ⟨r.Gen,true,w⟩) p.free) s u ↔ (s = r /\ u = w) \/ (s ≠ r /\ Live p s u) := by
 obtain ⟨j,e,h⟩ := h;constructor
 ·rintro ⟨i,t,hi⟩;simp only [mSet,e,tN] at hi;rw [yH h] at hi;split at hi
  ·rename_i x;subst x;simp only [Option.some.injEq,zp.mk.injEq,true_and] at hi;refine Or.inl ⟨?_,hi.2.symm⟩;cases s; cases r; simp only at e t hi ⊢; rw [t,e,hi.1]
  ·rename_i x;refine Or.inr ⟨?_,i,t,hi⟩;rintro rfl;exact x (by omega)
 ·rintro (⟨rfl,rfl⟩ | ⟨y,i,t,hi⟩)
  ·refine ⟨j,e,?_⟩;simp only [mSet,e,tN];rw [yH h,if_pos rfl]
  ·refine ⟨i,t,?_⟩;simp only [mSet,e,tN];rw [yH h,if_neg]; exact hi;rintro rfl;rw [h] at hi;simp only [Option.some.injEq,zp.mk.injEq,true_and] at hi;refine y ?_;cases s; cases r; simp only at e t hi ⊢; rw [t,e,hi.1]
theorem qU (I : Inv p T) (h : Live p r v) : Inv (ze.mk p.most (mSet p.l r.At ⟨r.Gen,false,(zz.mk 0 0 0 (zd.mk 0 0))⟩) (p.free ++ [r.At])) T := by
 obtain ⟨j,e,h⟩ := h;have A := I.gen _ _ h;have y : r.At ∉ p.free := by
  intro hf;obtain ⟨i,x,B,hi,t⟩ := I.fre _ hf;have : i = j := by omega
  subst this;rw [h] at hi; cases hi; simp at t
 refine ⟨I.most,by simpa [mSet] using I.len,fun f hf => ?_,?_,fun i x t ht => ?_,fun i x t => ?_⟩
 ·simp only [mSet,e,tN];rcases List.mem_append.1 hf with hf | hf
  ·obtain ⟨i,x,rfl,hi,t⟩ := I.fre f hf;refine ⟨i,x,rfl,?_,t⟩;rw [yH h,if_neg]; exact hi;rintro rfl;rw [h] at hi; cases hi; simp at t
  ·rw [List.mem_singleton.1 hf,e];exact ⟨j,_,rfl,by rw [yH h,if_pos rfl],rfl⟩
 ·exact List.nodup_append.2 ⟨I.fnd,by simp,fun a ha b z => by rw [List.mem_singleton.1 z]; rintro rfl; exact y ha⟩
 ·simp only [mSet,e,tN] at t;rw [yH h] at t;split at t
  ·rename_i u; subst u; exact List.mem_append_right _ (by rw [e]; simp)
  ·exact mL _ (I.cov i x t ht)
 ·simp only [mSet,e,tN] at t;rw [yH h] at t;split at t
  ·cases t; exact A
  ·exact I.gen i x t
theorem rI (h : Live p r v) (s : zd) (u : zz) : Live (ze.mk p.most (mSet p.l r.At ⟨r.Gen,false,(zz.mk 0 0 0 (zd.mk 0 0))⟩) (p.free ++ [r.At])) s u ↔ s ≠ r /\ Live p s u := by
 obtain ⟨j,e,h⟩ := h;constructor
 ·rintro ⟨i,t,hi⟩;simp only [mSet,e,tN] at hi;rw [yH h] at hi;split at hi
  ·simp at hi
  ·rename_i x;refine ⟨?_,i,t,hi⟩;rintro rfl;exact x (by omega)
 ·rintro ⟨y,i,t,hi⟩;refine ⟨i,t,?_⟩;simp only [mSet,e,tN];rw [yH h,if_neg]; exact hi;rintro rfl;rw [h] at hi;simp only [Option.some.injEq,zp.mk.injEq,true_and] at hi;refine y ?_;cases s; cases r; simp only at e t hi ⊢; rw [t,e,hi.1]
theorem rU (I : Inv p T) (W : T < 4611686018427387904) (z : (p.l.length : Int) < p.most + p.free.length) (v : zz) :
  ∃ r p',yl p v = some (r,true,p') /\ Inv p' (T + 1) /\ (∀ w,¬ Live p r w) /\ (∀ s u,Live p' s u ↔ (s = r /\ u = v) \/ Live p s u) /\ p'.most = p.most /\ (p'.l.length : Int) - p'.free.length = (p.l.length : Int) - p.free.length + 1 := by
 rcases List.eq_nil_or_concat p.free with hf | ⟨fs,f,hf⟩
 ·rw [hf] at z;refine ⟨_,_,qh I hf (by simpa using z),⟨I.most,by simp at z ⊢; omega,by simp,by simp,?_,?_⟩,?_,?_,rfl,by rw [hf]; simp⟩
  ·intro j x t ht;simp only at t;by_cases hj : j < p.l.length
   ·rw [List.getElem?_append_left hj] at t;have := I.cov j x t ht;rw [hf] at this; simp at this
   ·rw [List.getElem?_append_right (by omega)] at t;by_cases e : j - p.l.length = 0
    ·rw [e] at t; simp at t; subst t; simp at ht
    ·rw [List.getElem?_eq_none (by simp; omega)] at t; cases t
  ·intro j x t;simp only at t;by_cases hj : j < p.l.length
   ·rw [List.getElem?_append_left hj] at t;have := I.gen j x t;omega
   ·rw [List.getElem?_append_right (by omega)] at t;by_cases e : j - p.l.length = 0
    ·rw [e] at t; simp at t; subst t; simp; omega
    ·rw [List.getElem?_eq_none (by simp; omega)] at t; cases t
  ·rintro w ⟨j,e,h⟩;have := (List.getElem?_eq_some_iff.1 h).1;simp only at e;omega
  ·intro s u;constructor
   ·rintro ⟨j,e,h⟩;simp only at h;by_cases hj : j < p.l.length
    ·rw [List.getElem?_append_left hj] at h;exact Or.inr ⟨j,e,h⟩
    ·rw [List.getElem?_append_right (by omega)] at h;by_cases U : j - p.l.length = 0
     ·rw [U] at h;simp at h;refine Or.inl ⟨?_,h.2.symm⟩;cases s; simp only at e h ⊢;rw [e,<- h.1]; congr 1; omega
     ·rw [List.getElem?_eq_none (by simp; omega)] at h; cases h
   ·rintro (⟨rfl,rfl⟩ | ⟨j,e,h⟩)
    ·exact ⟨p.l.length,rfl,by simp⟩
    ·have := (List.getElem?_eq_some_iff.1 h).1;exact ⟨j,e,by rw [List.getElem?_append_left this]; exact h⟩
 ·rw [List.concat_eq_append] at hf;obtain ⟨j,x,rfl,hj,ht⟩ := I.fre f (by rw [hf]; simp);have X := I.gen j x hj;have hn := I.fnd;rw [hf] at hn;obtain ⟨O,-,S⟩ := List.nodup_append.1 hn;have J : (j : Int) ∉ fs := fun h => S _ h _ (List.mem_singleton.2 rfl) rfl
  refine ⟨_,_,sW I W hf hj,⟨I.most,by simpa [mSet] using I.len,?_,O,?_,?_⟩,?_,?_,rfl,by rw [hf]; simp [mSet]; omega⟩
  ·intro f B;obtain ⟨i,y,rfl,hi,A⟩ := I.fre f (by rw [hf]; exact mL _ B);refine ⟨i,y,rfl,?_,A⟩;simp only [mSet,tN];rw [yH hj,if_neg]; exact hi;rintro rfl; exact J B
  ·intro i y A F;simp only [mSet,tN] at A;rw [yH hj] at A;split at A
   ·cases A; simp at F
   ·rename_i D;have := I.cov i y A F;rw [hf] at this;rcases List.mem_append.1 this with h | h
    ·exact h
    ·simp at h; omega
  ·intro i y A;simp only [mSet,tN] at A;rw [yH hj] at A;split at A
   ·cases A; simp only; omega
   ·have := I.gen i y A; omega
  ·rintro w ⟨i,e,h⟩;simp only at e h;have : i = j := by omega
   subst this;rw [hj] at h;simp only [Option.some.injEq] at h;rw [h] at ht; simp at ht
  ·intro s u;constructor
   ·rintro ⟨i,e,h⟩;simp only [mSet,tN] at h;rw [yH hj] at h;split at h
    ·rename_i D;subst D;simp only [Option.some.injEq,zp.mk.injEq,true_and] at h;refine Or.inl ⟨?_,h.2.symm⟩;cases s; simp only at e h ⊢; rw [e,<- h.1]
    ·exact Or.inr ⟨i,e,h⟩
   ·rintro (⟨rfl,rfl⟩ | ⟨i,e,h⟩)
    ·refine ⟨j,rfl,?_⟩;simp only [mSet,tN];rw [yH hj,if_pos rfl]
    ·refine ⟨i,e,?_⟩;simp only [mSet,tN];rw [yH hj,if_neg]; exact h;rintro rfl;rw [hj] at h;simp only [Option.some.injEq] at h;rw [h] at ht; simp at ht
end
end Pj
end
noncomputable section
set_option maxRecDepth 10000
namespace Pj
def refs : List zp -> Nat -> List zd
 | [],_ => []
 | x :: l,i => (if x.taken = true then [zd.mk (i : Int) x.gen] else []) ++ refs l (i + 1)
theorem ri {r : zd} : ∀ {l : List zp} {i : Nat},r ∈ refs l i ↔ ∃ (j : Nat) (x : zp),r.At = ((i + j : Nat) : Int) /\ l[j]? = some x /\ x.taken = true /\ r.Gen = x.gen
 | [],i => by simp [refs]
 | x :: l,i => by
  rw [refs,iA,ri];constructor
  ·rintro (h | ⟨j,y,e,h,ht,t⟩)
   ·split at h
    ·rw [List.mem_singleton.1 h]; exact ⟨0,x,rfl,rfl,by assumption,rfl⟩
    ·cases h
   ·exact ⟨j + 1,y,by rw [e]; congr 1; omega,h,ht,t⟩
  ·rintro ⟨j,y,e,h,ht,t⟩;cases j with
   | zero =>
    simp only [List.getElem?_cons_zero,Option.some.injEq] at h;subst h
    left
    rw [if_pos ht];cases r; simp only at e t ⊢; rw [e,t]; simp
   | succ j => exact Or.inr ⟨j,y,by rw [e]; congr 1; omega,h,ht,t⟩
theorem jE {r : zd} {l : List zp} {i : Nat} (h : r ∈ refs l i) : (i : Int) <= r.At := by
 obtain ⟨j,x,e,_⟩ := ri.1 h;omega
theorem sT : ∀ {l : List zp} {i : Nat},(refs l i).Nodup
 | [],i => List.nodup_nil
 | x :: l,i => by
  rw [refs];refine List.nodup_append.2 ⟨by split <;> simp,sT,fun a ha b j e => ?_⟩;have := jE j;split at ha
  ·rw [List.mem_singleton.1 ha] at e; subst e; simp only at this; omega
  ·cases ha
theorem pw : ∀ {l : List zp} {i : Nat},(refs l i).length <= l.length
 | [],i => Nat.le_refl _
 | x :: l,i => by
  have := pw (l := l) (i := i + 1);rw [refs,lA,lC];split <;> simp <;> omega
theorem lV {p : ze} (hl : p.l.length <= 65536) : ∀ (rest pre : List zp) (out : List zd) (m : Nat),p.l = pre ++ rest -> out.length <= pre.length -> rest.length < m ->
  yS (p.l.length : Int) p m out (pre.length : Int) = some (out ++ refs rest pre.length)
 | [],pre,out,m + 1,e,j,hm => by
  unfold yS;rw [dF (by rw [e]; simp),cF,refs,aN]
 | x :: rest,pre,out,m + 1,e,j,hm => by
  have hlen : p.l.length = pre.length + (rest.length + 1) := by rw [e]; simp
  have ih := lV hl rest (pre ++ [x]) (out ++ (if x.taken = true then [zd.mk (pre.length : Int) x.gen] else [])) m (by rw [e]; simp) (by rw [lA,lA]; split <;> simp <;> omega) (by simp only [lC] at hm; omega);have i : mIdx p.l (pre.length : Int) = some x := by rw [e]; exact yu pre rest x
  unfold yS;rw [dT (by omega),cT,i];simp only [bS];rw [zF (by omega) (by omega)];rw [show ((pre ++ [x]).length : Int) = (pre.length : Int) + 1 by simp] at ih;rw [show (pre ++ [x]).length = pre.length + 1 by simp] at ih;rw [refs,<- aA];cases ht : x.taken with
  | true =>
   rw [ht,if_pos rfl] at ih;rw [cT,yP (by simp only [List.length_singleton]; omega)];simp only [bS,if_true];exact ih
  | false =>
   rw [ht] at ih;simp only [Bool.false_eq_true,if_false,aN,cF,bS] at ih ⊢;exact ih
section
variable {p : ze} {T : Nat}
def out (p : ze) : List zd := refs p.l 0
theorem Inv.lb (I : Inv p T) : p.l.length <= 65536 := by have := I.len; have := I.most; omega
theorem qI (I : Inv p T) {k : Nat} (hk : 65536 < k) : y9 k p = some (out p) := by
 have := I.lb;unfold y9;rw [show (0 : Int) = (([] : List zp).length : Int) from rfl,lV this p.l [] [] k rfl (Nat.le_refl _) (by omega)]
 rfl
theorem o4 {r : zd} : r ∈ out p ↔ ∃ v,Live p r v := by
 unfold out Live;rw [ri];constructor
 ·rintro ⟨j,x,e,h,ht,i⟩;refine ⟨x.v_,j,by rw [e]; congr 1; omega,?_⟩;rw [h]; cases x; simp only at ht i ⊢; rw [ht,i]
 ·rintro ⟨v,j,e,h⟩;exact ⟨j,_,by rw [e]; congr 1; omega,h,rfl,rfl⟩
theorem o5 : (out p).Nodup := sT
theorem Inv.ik (I : Inv p T) : (out p).length <= 65536 := Nat.le_trans pw I.lb
theorem jA {n : Int} (h0 : 0 <= n) (h1 : n <= 65536) (T : Nat) : Inv (ze.mk n [] []) T :=
 ⟨⟨h0,h1⟩,by simpa using h0,by simp,List.nodup_nil,by simp,by simp⟩
theorem ie {n : Int} {r : zd} {v : zz} : ¬ Live (ze.mk n [] []) r v := by
 rintro ⟨j,_,h⟩; simp at h
theorem Inv.mono {T' : Nat} (I : Inv p T) (h : T <= T') : Inv p T' := { I with gen := fun j x e => by have := I.gen j x e; omega }
end
end Pj
end
noncomputable section
set_option maxRecDepth 10000
structure JR where
 q : Int
 data : Int
 R : zd
 item : zd
 it : It
def JR.pr (j : JR) : zd × It := (j.item,j.it)
def JR.job (j : JR) : zz := zz.mk j.q j.it.k j.data j.item
def sel (x : Int) (L : List JR) : List (zd × It) := (L.filter fun j => j.q == x).map JR.pr
theorem sB (x : Int) (A B : List JR) : sel x (A ++ B) = sel x A ++ sel x B := by simp [sel]
theorem eH {x : Int} {j : JR} (h : j.q = x) (B : List JR) : sel x (j :: B) = j.pr :: sel x B := by simp [sel,List.filter_cons,h]
theorem eG {x : Int} {j : JR} (h : j.q ≠ x) (B : List JR) : sel x (j :: B) = sel x B := by simp [sel,List.filter_cons,h]
theorem p4 {x : Int} {L : List JR} {p : zd × It} : p ∈ sel x L ↔ ∃ j ∈ L,j.q = x /\ p = j.pr := by
 simp only [sel,List.mem_map,List.mem_filter,beq_iff_eq];constructor
 ·rintro ⟨j,⟨h1,h2⟩,rfl⟩; exact ⟨j,h1,h2,rfl⟩
 ·rintro ⟨j,h1,h2,rfl⟩; exact ⟨j,⟨h1,h2⟩,rfl⟩
theorem nj : ∀ {L : List JR},(∀ j ∈ L,j.q = 0 \/ j.q = 1) -> (sel 0 L ++ sel 1 L).Perm (L.map JR.pr)
 | [],_ => .refl _
 | j :: L,h => by
  have ih := nj fun j hj => h j (mC _ hj)
  rcases h j (List.mem_cons_self ..) with e | e
  ·rw [eH e,eG (by omega),List.cons_append,pC]; exact ih.cons _
  ·rw [eH e,eG (by omega),pC]; exact List.perm_middle.trans (ih.cons _)
def PQ2 (N : Nat) (q : zn) (T : Nat) (k : Int) (r0 r1 : zd) (L : List JR) : Prop :=
 ∃ h0 h1 : HR,PQ N q T [h0,h1] /\ h0.ref = r0 /\ h1.ref = r1 /\ h0.k = k /\ h1.k = k /\ h0.rs.Perm (sel 0 L) /\ h1.rs.Perm (sel 1 L)
section
variable {N : Nat} {q : zn} {T : Nat} {k : Int} {r0 r1 : zd} {L : List JR}
theorem PQ2.focus (P : PQ2 N q T k r0 r1 L) {x : Int} (u : x = 0 \/ x = 1) : ∃ h g : HR,mIdx [r0,r1] x = some h.ref /\ PQ N q T [h,g] /\ h.k = k /\ h.rs.Perm (sel x L) /\ g.rs.Perm (sel (1 - x) L) /\
  ∀ i T' r' C' e L',PQ N i T' (⟨h.ref,h.k,r',C',e⟩ :: [g]) -> e.Perm (sel x L') -> sel (1 - x) L' = sel (1 - x) L -> PQ2 N i T' k r0 r1 L' := by
 obtain ⟨h0,h1,Q,e0,l,t,k1,p0,p1⟩ := P;rcases u with rfl | rfl
 ·refine ⟨h0,h1,by rw [e0]; rfl,Q,t,p0,p1,?_⟩;intro i T' r' C' e L' j hp hs;exact ⟨_,h1,j,e0,l,t,k1,hp,p1.trans (by rw [show (1 - 0 : Int) = 1 from rfl] at hs; rw [hs])⟩
 ·refine ⟨h1,h0,by rw [l]; rfl,Q.p (List.Perm.swap ..),k1,p1,p0,?_⟩;intro i T' r' C' e L' j hp hs;exact ⟨h0,_,j.p (List.Perm.swap ..),e0,l,t,k1,p0.trans (by rw [show (1 - 1 : Int) = 0 from rfl] at hs; rw [hs]),hp⟩
theorem PQ2.same (P : PQ2 N q T k r0 r1 L) {e : zn} {T' : Nat} (h : ∀ hs,PQ N q T hs -> PQ N e T' hs) : PQ2 N e T' k r0 r1 L := by
 obtain ⟨h0,h1,Q,r⟩ := P;exact ⟨h0,h1,h _ Q,r⟩
end
structure DI (N : Nat) (k : Int) (d : za) (L : List JR) (T : Nat) : Prop where
 kd : Kd k
 dk : d.kind = k
 dm : d.most = N
 nb : 1 <= N /\ N <= 60
 pq : PQ2 N d.q T k d.heaps0 d.heaps1 L
 jq : ∀ j ∈ L,j.q = 0 \/ j.q = 1
 jp : Pj.Inv d.t_.p T
 jm : d.t_.p.most = N
 jl : ∀ r v,Pj.Live d.t_.p r v ↔ ∃ j ∈ L,r = j.R /\ v = j.job
 by1 : (d.t_.by_.map Prod.fst).Nodup
 by2 : ∀ i r,mGet zd.eq i d.t_.by_ = some r ↔ ∃ j ∈ L,i = j.item /\ r = j.R
 wh1 : (d.when.map Prod.fst).Nodup
 wh2 : ∀ r s,mGet zd.eq r d.when = some s ↔ ∃ j ∈ L,r = j.R /\ s = j.it.s
 rn : (L.map JR.R).Nodup
 cn : (d.t_.p.l.length : Int) - d.t_.p.free.length = L.length
 bu : 3600 <= d.budget
 la : 0 <= d.last /\ d.last <= d.budget
 to : 0 <= d.top /\ d.top <= d.budget
def dq (d : za) (q : zn) (t : zm) (w : List (zd × Int)) : za :=
 za.mk d.kind d.most q d.heaps0 d.heaps1 t w d.clock d.budget d.last d.top
def Stp (d d' : za) (B : Nat) : Prop := d.q.a_.m_.steps <= d'.q.a_.m_.steps /\ d'.q.a_.m_.steps <= d.q.a_.m_.steps + B
def no (e : Int) : zu := zu.mk e (zd.mk 0 0) 0 0 0
section
variable {N : Nat} {k : Int} {d : za} {L : List JR} {T : Nat} {f : Nat}
theorem DI.items (D : DI N k d L T) : (L.map JR.item).Nodup /\ L.length <= N /\ (L.map fun j => j.it.s).Nodup /\ ∀ j ∈ L,0 <= j.it.s /\ j.it.s < d.q.serial := by
 obtain ⟨h0,h1,Q,e0,e,i,k1,p0,p1⟩ := D.pq;have hp : (allR [h0,h1]).Perm (L.map JR.pr) := by
  have : allR [h0,h1] = h0.rs ++ h1.rs := by simp [allR]
  rw [this];exact (p0.append p1).trans (nj D.jq)
 have h1 := ((hp.map Prod.fst).nodup_iff).1 Q.rn;have h2 := Q.Bf;have h3 := ((hp.map fun p => p.2.s).nodup_iff).1 Q.sn;rw [List.map_map] at h1 h3;rw [hp.length_eq,lM] at h2;refine ⟨h1,h2,h3,fun j hj => ?_⟩;have := Q.sr j.pr (hp.mem_iff.2 (List.mem_map_of_mem hj));exact this
theorem fa {N n : Nat} (h : N <= 60) (hn : n <= N) : bd k n <= 2630 := by
 unfold bd; split <;> omega
theorem lO {x : Int} {L : List JR} : (sel x L).length <= L.length := by
 unfold sel; rw [lM]; exact List.length_filter_le _ _
theorem j7 (D : DI N k d L T) : xz d.t_.p = some (L.length : Int) := by
 have := D.items.2.1;have := D.nb;unfold xz;rw [D.cn,zF (by omega) (by omega)]
theorem oJ {x : Int} {L : List JR} {j : JR} (hj : j.q = x) {A B : List JR} (e : L = A ++ j :: B) : (sel x L).Perm (j.pr :: sel x (A ++ B)) /\ sel (1 - x) (A ++ B) = sel (1 - x) L := by
 rw [e,sB,sB,sB,sB,eH hj,eG (by omega)];exact ⟨List.perm_middle,rfl⟩
theorem DI.schedule (D : DI N k d L T) (hT : T < 1000000) (hf : 95000 < f) {c : zE} (hq : c.Queue = 0 \/ c.Queue = 1) :
  Do (xp f d c) fun res => (L.length = N /\ res = (no 13,d)) \/
   (L.length < N /\ ∃ (j : JR) (B : zn) (p' : ze) (v : zz),j.q = c.Queue /\ j.data = c.Data /\ j.it.k = c.Time /\ j.it.s = d.q.serial /\ B.serial = d.q.serial + 1 /\
    yl d.t_.p v = some (j.R,true,p') /\
    res = (zu.mk 0 j.R c.Time c.Data 0,dq d B (zm.mk p' (mPut zd.eq j.item j.R d.t_.by_)) (mPut zd.eq j.R d.q.serial d.when)) /\
    DI N k (dq d B (zm.mk p' (mPut zd.eq j.item j.R d.t_.by_)) (mPut zd.eq j.R d.q.serial d.when)) (L ++ [j]) (T + 1) /\ Stp d (dq d B (zm.mk p' (mPut zd.eq j.item j.R d.t_.by_)) (mPut zd.eq j.R d.q.serial d.when)) 2700) := by
 have a4 := D.nb;have b3 := D.items;have O := j7 D;unfold xp vM;rw [O];simp only [bS];refine Do.if (fun e => ?_) (fun e => ?_)
 ·have W := of_decide_eq_true e;rw [D.dm] at W;exact ⟨_,rfl,Or.inl ⟨by omega,rfl⟩⟩
 ·have W := of_decide_eq_false e;rw [D.dm] at W;have a1 : L.length < N := by omega
  obtain ⟨h,g,a0,Q,hk,u,J,back⟩ := D.pq.focus hq;rw [a0];simp only [bS];have a8 : (allR [h,g]).length = L.length := by
   have h1 : allR [h,g] = h.rs ++ g.rs := by simp [allR]
   have h2 := (nj D.jq).length_eq;rw [h1,lA,u.length_eq,J.length_eq];rw [lA,lM] at h2;rcases hq with e | e <;> rw [e] <;> simp <;> omega
  have b4 : h.rs.length <= L.length := by rw [u.length_eq]; exact lO
  refine (Q.dh (f := f) (by omega) (by omega) (by omega) hf 0 c.Time (zd.mk 0 0) (zd.mk 0 0)).bind ?_;rintro _ ⟨i,x,r',C',B,rfl,z,A,Q',S,U⟩;simp only;have y : ∀ j ∈ L,j.item ≠ i := by
   intro j hj e;have h1 := Q'.rn;rw [wH,List.cons_append,pC,List.nodup_cons] at h1;refine h1.1 ?_;have h2 : j.pr ∈ sel 0 L ++ sel 1 L := (nj D.jq).mem_iff.2 (List.mem_map_of_mem hj);have h3 : j.pr ∈ h.rs ++ allR [g] := by
    have e3 : allR [g] = g.rs := by simp [allR]
    rw [e3];refine ((u.append J).mem_iff).2 ?_;rcases List.mem_append.1 h2 with h2 | h2 <;> rcases hq with e | e <;> rw [e] <;> simp [h2]
   exact List.mem_map.2 ⟨j.pr,h3,e⟩
  have X : mGet zd.eq i d.t_.by_ = none := by
   cases I : mGet zd.eq i d.t_.by_ with
   | none => rfl
   | some r =>
    obtain ⟨j,hj,e1,_⟩ := (D.by2 _ _).1 I;exact absurd e1.symm (y j hj)
  obtain ⟨R,p',hR,I',Z,a2,a3,Y⟩ := Pj.rU D.jp (by omega) (by have := D.cn; rw [D.jm]; omega) (zz.mk c.Queue c.Time c.Data i);unfold sv;simp only;rw [hO X];simp only [bS];rw [O];unfold wL;simp only [bS];rw [show ((L.length : Int) == d.t_.p.most) = false by rw [D.jm]; simp; omega,cF,cF,hR];refine ⟨_,rfl,Or.inr ⟨a1,⟨c.Queue,c.Data,R,i,x⟩,B,p',zz.mk c.Queue c.Time c.Data i,rfl,rfl,z,A,S,hR,rfl,?_,?_⟩⟩
  ·have t : ∀ j,j ∈ L ++ [(⟨c.Queue,c.Data,R,i,x⟩ : JR)] ↔ j ∈ L \/ j = ⟨c.Queue,c.Data,R,i,x⟩ := by simp
   have F : ∀ j ∈ L,j.R ≠ R := fun j hj e => Z _ ((D.jl _ _).2 ⟨j,hj,e.symm,rfl⟩)
   refine ⟨D.kd,D.dk,D.dm,D.nb,?_,?_,I',a3.trans D.jm,?_,tG vQ D.by1,?_,tG vQ D.wh1,?_,?_,?_,D.bu,D.la,D.to⟩
   ·refine back _ _ _ _ _ _ Q' ?_ ?_
    ·rw [sB,eH (x := c.Queue) (j := ⟨c.Queue,c.Data,R,i,x⟩) rfl];exact (u.cons (i,x)).trans (List.perm_append_singleton (i,x) (sel c.Queue L)).symm
    ·rw [sB,eG (j := ⟨c.Queue,c.Data,R,i,x⟩) (by simp only; omega)];simp [sel]
   ·intro j hj;rcases (t j).1 hj with hj | rfl
    ·exact D.jq j hj
    ·exact hq
   ·intro r v;refine (a2 r v).trans ⟨?_,?_⟩
    ·rintro (⟨rfl,rfl⟩ | hl)
     ·exact ⟨_,(t _).2 (Or.inr rfl),rfl,by simp only [JR.job,z]⟩
     ·obtain ⟨j,hj,e⟩ := (D.jl _ _).1 hl;exact ⟨j,(t _).2 (Or.inl hj),e⟩
    ·rintro ⟨j,hj,rfl,rfl⟩;rcases (t j).1 hj with hj | rfl
     ·exact Or.inr ((D.jl _ _).2 ⟨j,hj,rfl,rfl⟩)
     ·exact Or.inl ⟨rfl,by simp only [JR.job,z]⟩
   ·intro i2 r;refine (rh vQ).trans ⟨?_,?_⟩
    ·rintro (⟨rfl,rfl⟩ | ⟨a5,I⟩)
     ·exact ⟨_,(t _).2 (Or.inr rfl),rfl,rfl⟩
     ·obtain ⟨j,hj,e⟩ := (D.by2 _ _).1 I;exact ⟨j,(t _).2 (Or.inl hj),e⟩
    ·rintro ⟨j,hj,rfl,rfl⟩;rcases (t j).1 hj with hj | rfl
     ·exact Or.inr ⟨y j hj,(D.by2 _ _).2 ⟨j,hj,rfl,rfl⟩⟩
     ·exact Or.inl ⟨rfl,rfl⟩
   ·intro r s;refine (rh vQ).trans ⟨?_,?_⟩
    ·rintro (⟨rfl,rfl⟩ | ⟨a5,I⟩)
     ·exact ⟨_,(t _).2 (Or.inr rfl),rfl,A.symm⟩
     ·obtain ⟨j,hj,e⟩ := (D.wh2 _ _).1 I;exact ⟨j,(t _).2 (Or.inl hj),e⟩
    ·rintro ⟨j,hj,rfl,rfl⟩;rcases (t j).1 hj with hj | rfl
     ·exact Or.inr ⟨F j hj,(D.wh2 _ _).2 ⟨j,hj,rfl,rfl⟩⟩
     ·exact Or.inl ⟨rfl,A⟩
   ·rw [List.map_append];refine List.nodup_append.2 ⟨D.rn,by simp,?_⟩;intro a ha b hb e;obtain ⟨j,hj,rfl⟩ := List.mem_map.1 ha;simp only [pC,List.map_nil,List.mem_singleton] at hb;exact F j hj (e.trans hb)
   ·have := D.cn;show (p'.l.length : Int) - p'.free.length = _;rw [Y];simp only [lA,lC,List.length_nil]; omega
  ·have h1 := fa (k := h.k) a4.2 (n := h.rs.length) (by omega);exact ⟨U.1,Int.le_trans U.2 (by omega)⟩
theorem DI.get (D : DI N k d L T) {j : JR} (hj : j ∈ L) : yn d.t_.p j.R = some (j.job,0) := Pj.wM D.jp ((D.jl _ _).2 ⟨j,hj,rfl,rfl⟩)
end
end
noncomputable section
set_option maxRecDepth 10000
namespace Pj
theorem mI {p : ze} {T : Nat} (I : Inv p T) (r : zd) : (∃ v,Live p r v) \/ ∃ e,(e == (0 : Int)) = false /\ zO p r = some (none,e) := by
 unfold zO;by_cases h1 : r.At < 0
 ·exact Or.inr ⟨22,rfl,by rw [dT h1]; rfl⟩
 rw [dF h1];by_cases h2 : r.At >= (p.l.length : Int)
 ·exact Or.inr ⟨22,rfl,by rw [dT h2]; rfl⟩
 rw [dF h2];by_cases h3 : r.Gen < 1
 ·exact Or.inr ⟨22,rfl,by rw [dT h3]; rfl⟩
 rw [dF h3];obtain ⟨j,hj⟩ : ∃ j : Nat,r.At = (j : Int) := ⟨r.At.toNat,by omega⟩
 obtain ⟨x,t⟩ : ∃ x,p.l[j]? = some x := ⟨_,List.getElem?_eq_getElem (by omega)⟩
 rw [hj,yv,t];simp only [cF,bS];by_cases h4 : r.Gen > x.gen
 ·exact Or.inr ⟨22,rfl,by rw [dT h4]; rfl⟩
 rw [dF h4];simp only [cF];by_cases i : r.Gen < x.gen
 ·exact Or.inr ⟨23,rfl,by rw [dT i]; rfl⟩
 rw [dF i];cases ht : x.taken with
 | false => exact Or.inr ⟨23,rfl,rfl⟩
 | true =>
  refine Or.inl ⟨x.v_,j,hj,?_⟩;rw [t];have : r.Gen = x.gen := by omega
  cases x; simp only at ht this ⊢; rw [ht,this]
theorem j3 {p : ze} {r : zd} {e : Int} (he : (e == (0 : Int)) = false) (h : zO p r = some (none,e)) : yn p r = some (zz.mk 0 0 0 (zd.mk 0 0),e) := by
 unfold yn;rw [h];simp [ta,oS,bne,he]
theorem fJ {p : ze} {r : zd} {e : Int} (he : (e == (0 : Int)) = false) (h : zO p r = some (none,e)) : zQ p r = some (zz.mk 0 0 0 (zd.mk 0 0),e,p) := by
 unfold zQ;rw [h];simp [ta,oS,bne,he]
end Pj
section
variable {N : Nat} {k : Int} {d : za} {L : List JR} {T : Nat} {f : Nat}
theorem DI.eu (D : DI N k d L T) {e : zn} (P : PQ2 N e T k d.heaps0 d.heaps1 L) : DI N k (dq d e d.t_ d.when) L T :=
 ⟨D.kd,D.dk,D.dm,D.nb,P,D.jq,D.jp,D.jm,D.jl,D.by1,D.by2,D.wh1,D.wh2,D.rn,D.cn,D.bu,D.la,D.to⟩
theorem DI.drop (D : DI N k d L T) {A B : List JR} {j : JR} (e : L = A ++ j :: B) {F : zn} (P : PQ2 N F T k d.heaps0 d.heaps1 (A ++ B)) :
  ∃ p',zQ d.t_.p j.R = some (j.job,0,p') /\ yY (dq d F d.t_ d.when) j.R = some (zu.mk 0 (zd.mk 0 0) j.it.k j.data 0,dq d F (zm.mk p' (mDel zd.eq j.item d.t_.by_)) (mDel zd.eq j.R d.when)) /\
   DI N k (dq d F (zm.mk p' (mDel zd.eq j.item d.t_.by_)) (mDel zd.eq j.R d.when)) (A ++ B) T := by
 have hj : j ∈ L := by rw [e]; simp
 have u : Pj.Live d.t_.p j.R j.job := (D.jl _ _).2 ⟨j,hj,rfl,rfl⟩;have y := Pj.sK D.jp u;have l : ∀ i,i ∈ L ↔ i = j \/ i ∈ A ++ B := by
  intro i; rw [e]; simp only [iA,iC];constructor
  ·rintro (h | h | h)
   ·exact Or.inr (Or.inl h)
   ·exact Or.inl h
   ·exact Or.inr (Or.inr h)
  ·rintro (h | h | h)
   ·exact Or.inr (Or.inl h)
   ·exact Or.inl h
   ·exact Or.inr (Or.inr h)
 have hp : L.Perm (j :: (A ++ B)) := by rw [e]; exact List.perm_middle
 have x := ((hp.map JR.R).nodup_iff).1 D.rn;have z := ((hp.map JR.item).nodup_iff).1 D.items.1;rw [pC,List.nodup_cons] at x z;have J : ∀ i ∈ A ++ B,i.R ≠ j.R := fun i hi e => x.1 (e ▸ List.mem_map_of_mem (f := JR.R) hi)
 have O : ∀ i ∈ A ++ B,i.item ≠ j.item := fun i hi e => z.1 (e ▸ List.mem_map_of_mem (f := JR.item) hi)
 refine ⟨_,y,?_,?_⟩
 ·unfold yY uB;show ((zQ d.t_.p j.R).bind _).bind _ = _;rw [y]
  rfl
 ·refine ⟨D.kd,D.dk,D.dm,D.nb,P,fun i hi => D.jq i ((l i).2 (Or.inr hi)),Pj.qU D.jp u,D.jm,?_,sO D.by1,?_,sO D.wh1,?_,x.2,?_,D.bu,D.la,D.to⟩
  ·intro r v;refine (Pj.rI u r v).trans ⟨?_,?_⟩
   ·rintro ⟨t,hl⟩;obtain ⟨i,hi,rfl,rfl⟩ := (D.jl _ _).1 hl;rcases (l i).1 hi with rfl | hi
    ·exact absurd rfl t
    ·exact ⟨i,hi,rfl,rfl⟩
   ·rintro ⟨i,hi,rfl,rfl⟩;exact ⟨J i hi,(D.jl _ _).2 ⟨i,(l i).2 (Or.inr hi),rfl,rfl⟩⟩
  ·intro i2 r;refine (r9 vQ D.by1).trans ⟨?_,?_⟩
   ·rintro ⟨t,I⟩;obtain ⟨i,hi,rfl,rfl⟩ := (D.by2 _ _).1 I;rcases (l i).1 hi with rfl | hi
    ·exact absurd rfl t
    ·exact ⟨i,hi,rfl,rfl⟩
   ·rintro ⟨i,hi,rfl,rfl⟩;exact ⟨O i hi,(D.by2 _ _).2 ⟨i,(l i).2 (Or.inr hi),rfl,rfl⟩⟩
  ·intro r s;refine (r9 vQ D.wh1).trans ⟨?_,?_⟩
   ·rintro ⟨t,I⟩;obtain ⟨i,hi,rfl,rfl⟩ := (D.wh2 _ _).1 I;rcases (l i).1 hi with rfl | hi
    ·exact absurd rfl t
    ·exact ⟨i,hi,rfl,rfl⟩
   ·rintro ⟨i,hi,rfl,rfl⟩;exact ⟨J i hi,(D.wh2 _ _).2 ⟨i,(l i).2 (Or.inr hi),rfl,rfl⟩⟩
  ·have := D.cn;rw [hp.length_eq] at this;simp only [dq,mSet,List.length_set,lA,lC,List.length_nil] at this ⊢;omega
theorem DI.cancel (D : DI N k d L T) (hf : 95000 < f) (r : zd) :
  Do (xw f d r) fun res => (∃ e,(e == (0 : Int)) = false /\ zO d.t_.p r = some (none,e) /\ res = (no e,d)) \/
   ∃ A j B z p' d',L = A ++ j :: B /\ r = j.R /\ zQ d.t_.p j.R = some (j.job,0,p') /\ d' = dq d z (zm.mk p' (mDel zd.eq j.item d.t_.by_)) (mDel zd.eq j.R d.when) /\ res = (zu.mk 0 (zd.mk 0 0) j.it.k j.data 0,d') /\ z.serial = d.q.serial /\ DI N k d' (A ++ B) T /\ Stp d d' 2700 := by
 have S := D.nb;have a3 := D.items.2.1;unfold xw wq;rcases Pj.mI D.jp r with ⟨v,hv⟩ | ⟨e,he,i⟩
 ·obtain ⟨j,hj,rfl,rfl⟩ := (D.jl _ _).1 hv;obtain ⟨A,B,eL⟩ := List.append_of_mem hj;rw [D.get hj];simp only [bS];rw [show ((0 : Int) == 0) = true from rfl,cT];obtain ⟨h,g,a2,Q,hk,l,a1,back⟩ := D.pq.focus (D.jq j hj);have O : j.pr ∈ h.rs := l.mem_iff.2 (p4.2 ⟨j,hj,rfl,rfl⟩);have a4 : h.rs.length <= L.length := by rw [l.length_eq]; exact lO
  have X := Q.dj (f := f) (by omega) O hf (k := 0) (key := 0) (hh := zd.mk 0 0) (o := zd.mk 0 0);obtain ⟨res,eX,rs,r',C',z,rfl,U,Z,t,y⟩ := X;have F : zZ f d.q (yb.mk 6 0 (zd.mk 0 0) (zd.mk 0 0) j.job.Item 0) = some (okA (zd.mk 0 0) j.it,z) := eX;rw [F];simp only [bS];have u := oJ (L := L) (x := j.q) rfl eL;have Y := back _ _ _ _ _ (A ++ B) Z ((U.symm.trans (l.trans u.1)).cons_inv) u.2;obtain ⟨p',J,I,W⟩ := D.drop eL Y;refine Do.seq I ?_;refine ⟨_,rfl,Or.inr ⟨A,j,B,z,p',_,eL,rfl,J,rfl,rfl,t,W,y.1,Int.le_trans y.2 ?_⟩⟩;have := fa (k := h.k) S.2 (n := h.rs.length) (by omega);omega
 ·rw [Pj.j3 he i];simp only [bS];rw [he,cF];simp only [bS];unfold yY uB;rw [Pj.fJ he i];simp only [bS];rw [he,cF];simp only [bS];rw [show (e != 0) = true by simp [bne,he],cT];exact ⟨_,rfl,Or.inl ⟨e,he,i,rfl⟩⟩
theorem DI.Aa (D : DI N k d L T) (hf : 95000 < f) (c : zE) :
  Do (xx f d c) fun res => (∃ e,(e == (0 : Int)) = false /\ zO d.t_.p c.Job = some (none,e) /\ res = (no e,d)) \/
   ∃ A j B,L = A ++ j :: B /\ c.Job = j.R /\ ((c.Time > j.it.k /\ res = (no 26,d)) \/
   ∃ q' p' b' d',c.Time <= j.it.k /\ xd d.t_.p j.R (zz.mk j.q c.Time j.data j.item) = some (0,p') /\ d' = dq d q' (zm.mk p' b') d.when /\ res = (zu.mk 0 (zd.mk 0 0) c.Time j.data 0,d') /\ q'.serial = d.q.serial /\ DI N k d' (A ++ ⟨j.q,j.data,j.R,j.item,⟨j.it.i,c.Time,j.it.s⟩⟩ :: B) T /\ Stp d d' 2700) := by
 have a5 := D.nb;have b6 := D.items.2.1;unfold xx wq;rcases Pj.mI D.jp c.Job with ⟨v,hv⟩ | ⟨e,he,S⟩
 ·obtain ⟨j,hj,a3,rfl⟩ := (D.jl _ _).1 hv;obtain ⟨A,B,eL⟩ := List.append_of_mem hj;rw [a3,D.get hj];simp only [bS];refine Do.f rfl ?_;refine Do.if (fun e => ?_) (fun e => ?_)
  ·exact ⟨_,rfl,Or.inr ⟨A,j,B,eL,rfl,Or.inl ⟨of_decide_eq_true e,rfl⟩⟩⟩
  ·have hle : c.Time <= j.it.k := by have := of_decide_eq_false e; simp only [JR.job] at this; omega
   obtain ⟨h,g,b5,Q,hk,O,b4,back⟩ := D.pq.focus (D.jq j hj);have a4 : j.pr ∈ h.rs := O.mem_iff.2 (p4.2 ⟨j,hj,rfl,rfl⟩);have b7 : h.rs.length <= L.length := by rw [O.length_eq]; exact lO
   obtain ⟨res,eX,rs,r',C',q',rfl,a6,Q',X,a0⟩ := Q.iV (f := f) (by omega) a4 hf (key := c.Time) hle (k := 0) (hh := zd.mk 0 0) (o := zd.mk 0 0);refine Do.seq (show zZ f d.q (yb.mk 5 0 (zd.mk 0 0) (zd.mk 0 0) j.job.Item c.Time) = some _ from eX) ?_;have Z := oJ (L := L) (x := j.q) rfl eL;generalize y : (⟨j.q,j.data,j.R,j.item,⟨j.it.i,c.Time,j.it.s⟩⟩ : JR) = F;have P' := back _ _ _ _ _ (A ++ F :: B) Q' (by
    rw [sB,eH (j := F) (by rw [<- y])];refine List.Perm.trans ?_ List.perm_middle.symm;rw [<- sB];have := (a6.symm.trans (O.trans Z.1)).cons_inv;rw [<- y];exact this.cons _) (by
    rw [sB,eG (j := F) (by rw [<- y]; simp only; omega),<- sB]; exact Z.2)
   have I : Pj.Live d.t_.p j.R j.job := (D.jl _ _).2 ⟨j,hj,rfl,rfl⟩;have a1 := Pj.ry D.jp I (zz.mk j.q c.Time j.data j.item);have z : ∀ i,i ∈ L ↔ i = j \/ i ∈ A ++ B := by
    intro i; rw [eL]; simp only [iA,iC];constructor
    ·rintro (h | h | h)
     ·exact Or.inr (Or.inl h)
     ·exact Or.inl h
     ·exact Or.inr (Or.inr h)
    ·rintro (h | h | h)
     ·exact Or.inr (Or.inl h)
     ·exact Or.inl h
     ·exact Or.inr (Or.inr h)
   have u : ∀ i,i ∈ A ++ F :: B ↔ i = F \/ i ∈ A ++ B := by
    intro i; simp only [iA,iC];constructor
    ·rintro (h | h | h)
     ·exact Or.inr (Or.inl h)
     ·exact Or.inl h
     ·exact Or.inr (Or.inr h)
    ·rintro (h | h | h)
     ·exact Or.inr (Or.inl h)
     ·exact Or.inl h
     ·exact Or.inr (Or.inr h)
   have hp : L.Perm (j :: (A ++ B)) := by rw [eL]; exact List.perm_middle
   have W := ((hp.map JR.R).nodup_iff).1 D.rn;have U := ((hp.map JR.item).nodup_iff).1 D.items.1;rw [pC,List.nodup_cons] at W U;have hR : ∀ i ∈ A ++ B,i.R ≠ j.R := fun i hi e => W.1 (e ▸ List.mem_map_of_mem (f := JR.R) hi)
   have hI : ∀ i ∈ A ++ B,i.item ≠ j.item := fun i hi e => U.1 (e ▸ List.mem_map_of_mem (f := JR.item) hi)
   have Y : uU d.t_ j.R (zz.mk j.q c.Time j.data j.item) = some (0,zm.mk (ze.mk d.t_.p.most (mSet d.t_.p.l j.R.At ⟨j.R.Gen,true,zz.mk j.q c.Time j.data j.item⟩) d.t_.p.free) (mPut zd.eq j.item j.R (mDel zd.eq j.item d.t_.by_))) := by
    unfold uU;rw [D.get hj];simp only [bS];rw [show ((0 : Int) != 0) = false from rfl,cF,uk ((D.by2 j.item j.R).2 ⟨j,hj,rfl,rfl⟩)];simp only [bS,cT];rw [show (!(zd.eq j.R j.R)) = false by rw [(vQ _ _).2 rfl]; rfl,cF,a1]
    rfl
   refine Do.seq Y ?_;refine ⟨_,rfl,Or.inr ⟨A,j,B,eL,rfl,Or.inr ⟨q',_,_,_,hle,a1,rfl,rfl,X,?_,a0.1,Int.le_trans a0.2 ?_⟩⟩⟩
   ·rw [y];refine ⟨D.kd,D.dk,D.dm,D.nb,P',?_,Pj.rv D.jp I _,D.jm,?_,tG vQ (sO D.by1),?_,D.wh1,?_,?_,?_,D.bu,D.la,D.to⟩
    ·intro i hi;rcases (u i).1 hi with rfl | hi
     ·rw [<- y]; exact D.jq j hj
     ·exact D.jq i ((z i).2 (Or.inr hi))
    ·intro r v;refine (Pj.tm I _ r v).trans ⟨?_,?_⟩
     ·rintro (⟨rfl,rfl⟩ | ⟨J,hl⟩)
      ·exact ⟨F,(u _).2 (Or.inl rfl),by rw [<- y],by rw [<- y]; rfl⟩
      ·obtain ⟨i,hi,rfl,rfl⟩ := (D.jl _ _).1 hl;rcases (z i).1 hi with rfl | hi
       ·exact absurd rfl J
       ·exact ⟨i,(u _).2 (Or.inr hi),rfl,rfl⟩
     ·rintro ⟨i,hi,rfl,rfl⟩;rcases (u i).1 hi with rfl | hi
      ·rw [<- y]; exact Or.inl ⟨rfl,rfl⟩
      ·exact Or.inr ⟨hR i hi,(D.jl _ _).2 ⟨i,(z i).2 (Or.inr hi),rfl,rfl⟩⟩
    ·intro i2 r;refine (rh vQ).trans ?_;rw [r9 vQ D.by1];constructor
     ·rintro (⟨rfl,rfl⟩ | ⟨J,_,hg⟩)
      ·exact ⟨F,(u _).2 (Or.inl rfl),by rw [<- y],by rw [<- y]⟩
      ·obtain ⟨i,hi,rfl,rfl⟩ := (D.by2 _ _).1 hg;rcases (z i).1 hi with rfl | hi
       ·exact absurd rfl J
       ·exact ⟨i,(u _).2 (Or.inr hi),rfl,rfl⟩
     ·rintro ⟨i,hi,rfl,rfl⟩;rcases (u i).1 hi with rfl | hi
      ·rw [<- y]; exact Or.inl ⟨rfl,rfl⟩
      ·exact Or.inr ⟨hI i hi,hI i hi,(D.by2 _ _).2 ⟨i,(z i).2 (Or.inr hi),rfl,rfl⟩⟩
    ·intro r s;refine (D.wh2 r s).trans ⟨?_,?_⟩
     ·rintro ⟨i,hi,rfl,rfl⟩;rcases (z i).1 hi with rfl | hi
      ·exact ⟨F,(u _).2 (Or.inl rfl),by rw [<- y],by rw [<- y]⟩
      ·exact ⟨i,(u _).2 (Or.inr hi),rfl,rfl⟩
     ·rintro ⟨i,hi,rfl,rfl⟩;rcases (u i).1 hi with rfl | hi
      ·rw [<- y]; exact ⟨j,hj,rfl,rfl⟩
      ·exact ⟨i,(z i).2 (Or.inr hi),rfl,rfl⟩
    ·have := D.rn;rw [eL] at this;simp only [List.map_append,pC] at this ⊢;rw [<- y]; exact this
    ·have := D.cn;rw [eL] at this;simp only [dq,mSet,List.length_set,lA,lC] at this ⊢;exact this
   ·have := fa (k := h.k) a5.2 (n := h.rs.length) (by omega);omega
 ·rw [Pj.j3 he S];simp only [bS];refine Do.t (by simp [bne,he]) ?_;exact ⟨_,rfl,Or.inl ⟨e,he,S,rfl⟩⟩
theorem DI.fire (D : DI N k d L T) (hf : 95000 < f) {x : Int} (hx : x = 0 \/ x = 1) :
  Do (xW f d x) fun res => ∃ J d',J.serial = d.q.serial /\ Stp d d' 2800 /\
   (((∀ j ∈ L,j.q = x -> d.clock.now < j.it.k) /\ d' = dq d J d.t_ d.when /\ res = (no 28,d') /\ DI N k d' L T) \/
   ∃ A j B p',L = A ++ j :: B /\ j.q = x /\ j.it.k <= d.clock.now /\ (∀ i ∈ L,i.q = x -> ¬ i.it.lt j.it) /\ zQ d.t_.p j.R = some (j.job,0,p') /\ d' = dq d J (zm.mk p' (mDel zd.eq j.item d.t_.by_)) (mDel zd.eq j.R d.when) /\ res = (zu.mk 0 j.R j.it.k j.data 0,d') /\ DI N k d' (A ++ B) T) := by
 have a4 := D.nb;have b3 := D.items.2.1;obtain ⟨h,g,a3,Q,hk,u,b2,back⟩ := D.pq.focus hx;have b4 : h.rs.length <= L.length := by rw [u.length_eq]; exact lO
 unfold xW;rw [a3];simp only [bS];refine (Q.AZ (f := f) (by omega) hf).bind ?_;rintro res ⟨q1,Q1,y,l,h1⟩;have P1 : PQ2 N q1 T k d.heaps0 d.heaps1 L := back _ _ _ _ _ L Q1 u rfl;rcases h1 with ⟨U,rfl⟩ | ⟨p,hp,rfl,S⟩
 ·simp only;rw [show ((27 : Int) != 0) = true from rfl,cT];simp only [bS];refine Do.t rfl ?_;refine ⟨_,rfl,q1,_,y,⟨l.1,Int.le_trans l.2 (by omega)⟩,Or.inl ⟨?_,rfl,rfl,D.eu P1⟩⟩;intro j hj z;have : j.pr ∈ h.rs := u.mem_iff.2 (p4.2 ⟨j,hj,z,rfl⟩);rw [U] at this; cases this
 ·simp only [okA];rw [show ((0 : Int) != 0) = false from rfl,cF];unfold tz;simp only [bS];have I : ∀ p',p' ∈ h.rs -> p.2.k <= p'.2.k := by
   intro p' a5;have := S p' a5;unfold It.lt at this; omega
  refine Do.if (fun e => ?_) (fun e => ?_)
  ·have e' : ¬ p.2.k <= d.clock.now := by simpa using e
   refine ⟨_,rfl,q1,_,y,⟨l.1,Int.le_trans l.2 (by omega)⟩,Or.inl ⟨?_,rfl,rfl,D.eu P1⟩⟩;intro j hj z;have := I _ (u.mem_iff.2 (p4.2 ⟨j,hj,z,rfl⟩));simp only [JR.pr] at this; omega
  ·have e' : p.2.k <= d.clock.now := by simpa using e
   refine (Q1.A0 (f := f) (k := 0) (key := 0) (o := zd.mk 0 0) (i0 := zd.mk 0 0) (by omega) (by intro e; rw [e] at hp; cases hp) hf).bind ?_;rintro _ ⟨p2,rs,r',C',J,rfl,X,F,Q',Y,a0⟩;have W : p2 ∈ h.rs := X.mem_iff.2 (List.mem_cons_self ..);obtain ⟨j,hj,z,rfl⟩ := p4.1 (u.mem_iff.1 W);obtain ⟨A,B,eL⟩ := List.append_of_mem hj;have Z := oJ z eL;have P' := back _ _ _ _ _ (A ++ B) Q' ((X.symm.trans (u.trans Z.1)).cons_inv) Z.2;obtain ⟨p',a2,a1,D'⟩ := D.drop eL P';unfold s8;simp only [okA];rw [show j.pr.1 = j.item from rfl,uk ((D.by2 j.item j.R).2 ⟨j,hj,rfl,rfl⟩)];simp only [bS];refine Do.seq a1 ?_;have h3 := F p hp;have h4 := I _ W;refine ⟨_,rfl,J,_,Y.trans y,⟨Int.le_trans l.1 a0.1,?_⟩,Or.inr ⟨A,j,B,p',eL,z,?_,?_,a2,rfl,rfl,D'⟩⟩
   ·have := fa (k := h.k) a4.2 (n := h.rs.length) (by omega);have h5 := a0.2;have h6 := l.2;show J.a_.m_.steps <= _;omega
   ·unfold It.lt at h3; simp only [JR.pr] at h3; omega
   ·intro i hi O;exact F _ (u.mem_iff.2 (p4.2 ⟨i,hi,O,rfl⟩))
end
end
noncomputable section
set_option maxRecDepth 10000
theorem o9 {α β : Type} {f : α -> β} : ∀ {l : List β} {L : List α},l.Perm (L.map f) -> ∃ L2 : List α,L2.Perm L /\ L2.map f = l
 | [],L,h => by
  have := h.length_eq;simp only [List.length_nil,lM] at this;exact ⟨[],by rw [List.eq_nil_of_length_eq_zero this.symm],rfl⟩
 | x :: l,L,h => by
  obtain ⟨p,rs,h1,rfl,h3⟩ := ph h.symm;obtain ⟨L2,h4,e⟩ := o9 h3.symm;exact ⟨p :: L2,(h4.cons p).trans h1.symm,by rw [pC,e]⟩
def qj (p p' : ze) : Prop := p'.most = p.most /\ p'.free = p.free /\ p'.l.map zp.gen = p.l.map zp.gen /\ p'.l.map zp.taken = p.l.map zp.taken
theorem qj.rfl' (p : ze) : qj p p := ⟨rfl,rfl,rfl,rfl⟩
theorem qj.trans {p p' e : ze} (h : qj p p') (i : qj p' e) : qj p e := ⟨i.1.trans h.1,i.2.1.trans h.2.1,i.2.2.1.trans h.2.2.1,i.2.2.2.trans h.2.2.2⟩
theorem rJ {α β : Type} (f : α -> β) {l : List α} {j : Nat} {x y : α} (h : l[j]? = some x) (e : f y = f x) : (l.set j y).map f = l.map f := by
 rw [List.map_set,e];refine List.ext_getElem? fun i => ?_
 by_cases t : j = i
 ·subst t;have hl := (List.getElem?_eq_some_iff.1 h).1;rw [List.getElem?_set_self (by simpa using hl)]; simp [h]
 ·rw [List.getElem?_set_ne t]
theorem qj.set {p : ze} {T : Nat} (I : Pj.Inv p T) {r : zd} {v w : zz} (h : Pj.Live p r v) : qj p (ze.mk p.most (mSet p.l r.At ⟨r.Gen,true,w⟩) p.free) := by
 obtain ⟨j,e,h⟩ := h;refine ⟨rfl,rfl,?_,?_⟩ <;> simp only [mSet,e,tN]
 ·exact rJ _ h rfl
 ·exact rJ _ h rfl
def JR.zero (j : JR) : JR := ⟨0,j.data,j.R,j.item,j.it⟩
def JR.mv (j : JR) : JR := if j.q = 1 then j.zero else j
section
variable {N : Nat} {k : Int} {d : za} {L : List JR} {T : Nat} {f : Nat}
theorem DI.out (D : DI N k d L T) : ∃ L2 : List JR,L2.Perm L /\ Pj.out d.t_.p = L2.map JR.R := by
 have h : (Pj.out d.t_.p).Perm (L.map JR.R) := by
  refine (List.perm_ext_iff_of_nodup Pj.o5 D.rn).2 fun r => ?_
  rw [Pj.o4,List.mem_map];constructor
  ·rintro ⟨v,hv⟩;obtain ⟨j,hj,rfl,_⟩ := (D.jl _ _).1 hv;exact ⟨j,hj,rfl⟩
  ·rintro ⟨j,hj,rfl⟩;exact ⟨_,(D.jl _ _).2 ⟨j,hj,rfl,rfl⟩⟩
 obtain ⟨L2,h1,h2⟩ := o9 h;exact ⟨L2,h1,h2.symm⟩
theorem jy {T : Nat} {L2 : List JR} (hl : L2.length <= 65536) (hn : (L2.map JR.R).Nodup) :
  ∀ (rest pre : List JR) (t : zm) (n : Int) (m : Nat),L2 = pre ++ rest -> rest.length < m -> 0 <= n -> n <= pre.length -> Pj.Inv t.p T -> (∀ r v,Pj.Live t.p r v ↔ ∃ j ∈ pre.map JR.mv ++ rest,r = j.R /\ v = j.job) ->
   ∃ p',xY 1 0 (L2.length : Int) (L2.map JR.R) m n (pre.length : Int) t = some (n + (rest.filter fun j => j.q == 1).length,zm.mk p' t.by_) /\ Pj.Inv p' T /\ qj t.p p' /\ (∀ r v,Pj.Live p' r v ↔ ∃ j ∈ L2.map JR.mv,r = j.R /\ v = j.job)
 | [],pre,t,n,m + 1,e,hm,h0,h1,I,y => by
  refine ⟨t.p,?_,I,qj.rfl' _,by rw [e,aN]; simpa using y⟩;unfold xY;rw [dF (by rw [e]; simp),cF];simp
 | x :: rest,pre,t,n,m + 1,e,hm,h0,h1,I,y => by
  have hlen : L2.length = pre.length + (rest.length + 1) := by rw [e]; simp
  simp only [lC] at hm;have B : Pj.Live t.p x.R x.job := (y _ _).2 ⟨x,by simp,rfl,rfl⟩;have F : mIdx (L2.map JR.R) (pre.length : Int) = some x.R := by
   rw [yv,List.getElem?_map,e]; simp
  have A : ∀ j ∈ pre.map JR.mv ++ rest,j.R ≠ x.R := by
   rw [e,List.map_append,pC] at hn;have h2 := (List.perm_middle.nodup_iff).1 hn;rw [List.nodup_cons] at h2;intro j hj u;refine h2.1 ?_;rcases List.mem_append.1 hj with hj | hj
   ·obtain ⟨i,hi,rfl⟩ := List.mem_map.1 hj;have : i.mv.R = i.R := by unfold JR.mv; split <;> rfl
    exact mL _ (List.mem_map.2 ⟨i,hi,by rw [<- this,u]⟩)
   ·exact List.mem_append_right _ (List.mem_map.2 ⟨j,hj,u⟩)
  unfold xY;rw [dT (by omega),cT,F];simp only [bS];rw [Pj.wM I B];simp only [bS];rw [zF (x := (pre.length : Int) + 1) (by omega) (by omega),show x.job.Queue = x.q from rfl];by_cases hq : x.q = 1
  ·have S := Pj.ry I B (zz.mk 0 x.it.k x.data x.item);have J := Pj.tm B (zz.mk 0 x.it.k x.data x.item);have z : x.mv = x.zero := by unfold JR.mv; rw [if_pos hq]
   obtain ⟨p',u,D,s2,l2⟩ := jy hl hn rest (pre ++ [x]) (zm.mk (ze.mk t.p.most (mSet t.p.l x.R.At ⟨x.R.Gen,true,zz.mk 0 x.it.k x.data x.item⟩) t.p.free) t.by_) (n + 1) m (by rw [e]; simp) (by omega) (by omega) (by simp; omega) (Pj.rv I B _) (by
    intro r v;refine (J r v).trans ?_;simp only [List.map_append,pC,List.map_nil,iA,List.mem_singleton,z];constructor
    ·rintro (⟨rfl,rfl⟩ | ⟨O,hl⟩)
     ·exact ⟨x.zero,Or.inl (Or.inr rfl),rfl,rfl⟩
     ·obtain ⟨j,hj,rfl,rfl⟩ := (y _ _).1 hl;rcases List.mem_append.1 hj with hj | hj
      ·exact ⟨j,Or.inl (Or.inl hj),rfl,rfl⟩
      ·rcases List.mem_cons.1 hj with rfl | hj
       ·exact absurd rfl O
       ·exact ⟨j,Or.inr hj,rfl,rfl⟩
    ·rintro ⟨j,(hj | rfl) | hj,rfl,rfl⟩
     ·exact Or.inr ⟨A j (mL _ hj),(y _ _).2 ⟨j,mL _ hj,rfl,rfl⟩⟩
     ·exact Or.inl ⟨rfl,rfl⟩
     ·exact Or.inr ⟨A j (List.mem_append_right _ hj),(y _ _).2 ⟨j,List.mem_append_right _ (mC _ hj),rfl,rfl⟩⟩)
   refine ⟨p',?_,D,(qj.set I B).trans s2,l2⟩;rw [hq,show ((1 : Int) == 1) = true from rfl,cT];rw [show zz.mk 0 x.job.Time x.job.Data x.job.Item = zz.mk 0 x.it.k x.data x.item from rfl,S];simp only [bS];rw [zF (by omega) (by omega)];rw [show ((pre ++ [x]).length : Int) = (pre.length : Int) + 1 by simp] at u;rw [u,List.filter_cons,hq];simp; omega
  ·have z : x.mv = x := by unfold JR.mv; rw [if_neg hq]
   have U : (x.q == 1) = false := by simpa using hq
   obtain ⟨p',u,D,s2,l2⟩ := jy hl hn rest (pre ++ [x]) t n m (by rw [e]; simp) (by omega) h0 (by simp; omega) I (by
    intro r v;refine (y r v).trans ?_;simp only [List.map_append,pC,List.map_nil,iA,List.mem_singleton,iC,z,or_assoc,List.not_mem_nil,false_or])
   refine ⟨p',?_,D,s2,l2⟩;rw [U,cF];simp only [bS];rw [show ((pre ++ [x]).length : Int) = (pre.length : Int) + 1 by simp] at u;rw [u,List.filter_cons,U]
   rfl
theorem lg {x : Int} {t : zm} {T : Nat} (I : Pj.Inv t.p T) {L2 : List JR} (hl : L2.length <= 65536) (i : ∀ j ∈ L2,Pj.Live t.p j.R j.job) :
  ∀ (rest pre : List JR) (n : Int) (m : Nat),L2 = pre ++ rest -> rest.length < m -> 0 <= n -> n <= pre.length ->
   xC x (L2.length : Int) t (L2.map JR.R) m n (pre.length : Int) = some (n + (rest.filter fun j => j.q == x).length)
 | [],pre,n,m + 1,e,hm,h0,h1 => by
  unfold xC;rw [dF (by rw [e]; simp),cF];simp
 | y :: rest,pre,n,m + 1,e,hm,h0,h1 => by
  have hlen : L2.length = pre.length + (rest.length + 1) := by rw [e]; simp
  simp only [lC] at hm;have u := i y (by rw [e]; simp);have l : mIdx (L2.map JR.R) (pre.length : Int) = some y.R := by
   rw [yv,List.getElem?_map,e]; simp
  unfold xC;rw [dT (by omega),cT,l];simp only [bS];rw [Pj.wM I u];simp only [bS];rw [zF (x := (pre.length : Int) + 1) (by omega) (by omega),show y.job.Queue = y.q from rfl,List.filter_cons];cases z : y.q == x with
  | true =>
   have ih := lg (x := x) I hl i rest (pre ++ [y]) (n + 1) m (by rw [e]; simp) (by omega) (by omega) (by simp; omega);rw [show ((pre ++ [y]).length : Int) = (pre.length : Int) + 1 by simp] at ih;rw [cT,zF (by omega) (by omega)];simp only [bS,if_true];rw [ih]; simp; omega
  | false =>
   have ih := lg (x := x) I hl i rest (pre ++ [y]) n m (by rw [e]; simp) (by omega) h0 (by simp; omega);rw [show ((pre ++ [y]).length : Int) = (pre.length : Int) + 1 by simp] at ih;rw [cF];simp only [bS,Bool.false_eq_true,if_false];exact ih
theorem DI.count (D : DI N k d L T) (hf : 95000 < f) (x : Int) : vU f d.t_ x = some ((sel x L).length : Int) := by
 obtain ⟨L2,hp,e⟩ := D.out;have i := D.items.2.1;have l := D.nb;have hl2 := hp.length_eq;unfold vU;rw [Pj.qI D.jp (by omega),e];simp only [bS];have := lg (x := x) D.jp (L2 := L2) (by omega) (fun j hj => (D.jl _ _).2 ⟨j,hp.mem_iff.1 hj,rfl,rfl⟩) L2 [] 0 f rfl (by omega) (Int.le_refl _) (Int.le_refl _);rw [lM];rw [show ((([] : List JR).length : Nat) : Int) = 0 from rfl] at this;rw [this];simp only [bS];have := ((hp.filter fun j => j.q == x).length_eq)
 unfold sel;rw [lM,this];simp
theorem mv_R (j : JR) : j.mv.R = j.R := by unfold JR.mv; split <;> rfl
theorem fW (j : JR) : j.mv.item = j.item := by unfold JR.mv; split <;> rfl
theorem aT (j : JR) : j.mv.it = j.it := by unfold JR.mv; split <;> rfl
theorem Be (j : JR) : j.mv.pr = j.pr := by unfold JR.mv; split <;> rfl
theorem mv_q {j : JR} (h : j.q = 0 \/ j.q = 1) : j.mv.q = 0 := by
 unfold JR.mv; split
 ·rfl
 ·omega
theorem DI.merge (D : DI N k d L T) (hT : T < 1000000) (hf : 95000 < f) :
  Do (xK f d) fun res => ∃ B r p',res = (zu.mk 0 (zd.mk 0 0) 0 0 ((sel 1 L).length : Int),za.mk d.kind d.most B d.heaps0 r (zm.mk p' d.t_.by_) d.when d.clock d.budget d.last d.top) /\ qj d.t_.p p' /\ B.serial = d.q.serial /\
   DI N k (za.mk d.kind d.most B d.heaps0 r (zm.mk p' d.t_.by_) d.when d.clock d.budget d.last d.top) (L.map JR.mv) (T + 1) /\ Stp d (za.mk d.kind d.most B d.heaps0 r (zm.mk p' d.t_.by_) d.when d.clock d.budget d.last d.top) 2700 := by
 have F := D.nb;have Z := D.items.2.1;obtain ⟨L2,hp,A⟩ := D.out;have hl2 := hp.length_eq;obtain ⟨h0,h1,Q,e0,Y,O,k1,p0,p1⟩ := D.pq;have l := nj D.jq;have hs : h0.rs.length + h1.rs.length = L.length := by
  have := l.length_eq;rw [lA,lM] at this;rw [p0.length_eq,p1.length_eq]; exact this
 unfold xK;rw [<- e0,<- Y];refine (Q.aF (f := f) (k := 0) (key := 0) (i0 := zd.mk 0 0) (by rw [O,k1]) (by omega) (by omega) hf).bind ?_;rintro _ ⟨r',C',q1,rfl,U,x,t⟩;simp only;refine (U.fw (f := f) (k := d.kind) (a := zd.mk 0 0) (b := zd.mk 0 0) (c := zd.mk 0 0) (key := 0) (by rw [D.dk]; exact D.kd) (by simp) (by omega)).bind ?_;rintro _ ⟨r,q2,rfl,W,y,u⟩;simp only;unfold tE;rw [Pj.qI D.jp (by omega),A];simp only [bS];obtain ⟨p',J,S,s2,l2⟩ := jy (T := T) (L2 := L2) (by omega) (((hp.map JR.R).nodup_iff).2 D.rn) L2 [] d.t_ 0 f rfl (by omega) (Int.le_refl _) (Int.le_refl _) D.jp (by
  intro r v;refine (D.jl r v).trans ⟨?_,?_⟩
  ·rintro ⟨j,hj,e⟩; exact ⟨j,hp.mem_iff.2 hj,e⟩
  ·rintro ⟨j,hj,e⟩; exact ⟨j,hp.mem_iff.1 hj,e⟩)
 rw [show ((([] : List JR).length : Nat) : Int) = 0 from rfl] at J;rw [lM,J];simp only [bS];have z : (0 : Int) + ((L2.filter fun j => j.q == 1).length : Int) = ((sel 1 L).length : Int) := by
  have := ((hp.filter fun j => j.q == 1).length_eq)
  unfold sel;rw [lM,this]; simp
 rw [z];have X : h0.ref = d.heaps0 := e0;have hz : sel 0 (L.map JR.mv) = L.map JR.pr := by
  unfold sel;rw [List.filter_eq_self.2 (fun j hj => by
   obtain ⟨i,hi,rfl⟩ := List.mem_map.1 hj;simp [mv_q (D.jq i hi)]),List.map_map]
  exact List.map_congr_left fun j _ => Be j
 have I : sel 1 (L.map JR.mv) = [] := by
  unfold sel;rw [List.filter_eq_nil_iff.2 (fun j hj => by
   obtain ⟨i,hi,rfl⟩ := List.mem_map.1 hj;simp [mv_q (D.jq i hi)])]
  rfl
 refine ⟨_,rfl,q2,r,p',rfl,s2,y.trans x,?_,?_⟩
 ·refine ⟨D.kd,D.dk,D.dm,D.nb,?_,?_,S.mono (by omega),s2.1.trans D.jm,?_,D.by1,?_,D.wh1,?_,?_,?_,D.bu,D.la,D.to⟩
  ·refine ⟨_,_,W.p (List.Perm.swap ..),rfl,rfl,O,D.dk,?_,?_⟩
   ·rw [hz]; exact (p0.append p1).trans l
   ·rw [I]
  ·intro j hj;obtain ⟨i,hi,rfl⟩ := List.mem_map.1 hj;exact Or.inl (mv_q (D.jq i hi))
  ·intro r v;refine (l2 r v).trans ⟨?_,?_⟩
   ·rintro ⟨j,hj,e⟩; exact ⟨j,((hp.map JR.mv).mem_iff).1 hj,e⟩
   ·rintro ⟨j,hj,e⟩; exact ⟨j,((hp.map JR.mv).mem_iff).2 hj,e⟩
  ·intro i r;refine (D.by2 i r).trans ⟨?_,?_⟩
   ·rintro ⟨j,hj,rfl,rfl⟩; exact ⟨j.mv,List.mem_map_of_mem hj,(fW j).symm,(mv_R j).symm⟩
   ·rintro ⟨j,hj,rfl,rfl⟩;obtain ⟨i,hi,rfl⟩ := List.mem_map.1 hj;exact ⟨i,hi,fW i,mv_R i⟩
  ·intro r s;refine (D.wh2 r s).trans ⟨?_,?_⟩
   ·rintro ⟨j,hj,rfl,rfl⟩; exact ⟨j.mv,List.mem_map_of_mem hj,(mv_R j).symm,by rw [aT]⟩
   ·rintro ⟨j,hj,rfl,rfl⟩;obtain ⟨i,hi,rfl⟩ := List.mem_map.1 hj;exact ⟨i,hi,mv_R i,by rw [aT]⟩
  ·have : (L.map JR.mv).map JR.R = L.map JR.R := by
    rw [List.map_map];exact List.map_congr_left fun j _ => mv_R j
   rw [this]; exact D.rn
  ·have h1 := D.cn;have h2 := congrArg List.length s2.2.2.1;simp only [lM] at h2 ⊢;rw [s2.2.1,h2]; exact h1
 ·have h1 := fa (k := h0.k) F.2 (n := h0.rs.length + h1.rs.length) (by omega);have h2 := t.2;have h3 := u.2;exact ⟨Int.le_trans t.1 u.1,by show q2.a_.m_.steps <= _; omega⟩
end
end
noncomputable section
set_option maxRecDepth 10000
inductive How (N : Nat) (p : ze) (s now : Int) (L : List JR) (c : zE) : zu -> ze -> Int -> Int -> List JR -> Prop
 | bad (hk : c.Kind = 1 \/ c.Kind = 5 \/ c.Kind = 6 \/ c.Kind = 7) (hq : ¬ (c.Queue = 0 \/ c.Queue = 1)) : How N p s now L c (no 1) p s now L
 | full (hk : c.Kind = 1) (hq : c.Queue = 0 \/ c.Queue = 1) (hl : L.length = N) : How N p s now L c (no 13) p s now L
 | sched (j : JR) (p' : ze) (v : zz) (hk : c.Kind = 1) (hq : c.Queue = 0 \/ c.Queue = 1) (hl : L.length < N) (h1 : j.q = c.Queue) (h2 : j.data = c.Data) (h3 : j.it.k = c.Time) (h4 : j.it.s = s) (ht : yl p v = some (j.R,true,p')) : How N p s now L c (zu.mk 0 j.R c.Time c.Data 0) p' (s + 1) now (L ++ [j])
 | dead (e : Int) (hk : c.Kind = 2 \/ c.Kind = 3) (he : (e == (0 : Int)) = false) (hf : zO p c.Job = some (none,e)) : How N p s now L c (no e) p s now L
 | late (A : List JR) (j : JR) (B : List JR) (hk : c.Kind = 2) (eL : L = A ++ j :: B) (hj : c.Job = j.R) (ht : c.Time > j.it.k) : How N p s now L c (no 26) p s now L
 | soon (A : List JR) (j : JR) (B : List JR) (p' : ze) (hk : c.Kind = 2) (eL : L = A ++ j :: B) (hj : c.Job = j.R) (ht : c.Time <= j.it.k) (hp : qj p p') : How N p s now L c (zu.mk 0 (zd.mk 0 0) c.Time j.data 0) p' s now (A ++ ⟨j.q,j.data,j.R,j.item,⟨j.it.i,c.Time,j.it.s⟩⟩ :: B)
 | canc (A : List JR) (j : JR) (B : List JR) (p' : ze) (hk : c.Kind = 3) (eL : L = A ++ j :: B) (hj : c.Job = j.R) (hp : zQ p j.R = some (j.job,0,p')) : How N p s now L c (zu.mk 0 (zd.mk 0 0) j.it.k j.data 0) p' s now (A ++ B)
 | back (hk : c.Kind = 4) (ht : c.Time < 0) : How N p s now L c (no 1) p s now L
 | go (t : Int) (hk : c.Kind = 4) (ht : ¬ c.Time < 0) (ha : vB now c.Time = some t) : How N p s now L c (zu.mk 0 (zd.mk 0 0) t 0 0) p s t L
 | idle (hk : c.Kind = 5) (hq : c.Queue = 0 \/ c.Queue = 1) (hn : ∀ j ∈ L,j.q = c.Queue -> now < j.it.k) : How N p s now L c (no 28) p s now L
 | fire (A : List JR) (j : JR) (B : List JR) (p' : ze) (hk : c.Kind = 5) (hq : c.Queue = 0 \/ c.Queue = 1) (eL : L = A ++ j :: B) (hj : j.q = c.Queue) (hn : j.it.k <= now) (hm : ∀ i ∈ L,i.q = c.Queue -> ¬ i.it.lt j.it) (hp : zQ p j.R = some (j.job,0,p')) : How N p s now L c (zu.mk 0 j.R j.it.k j.data 0) p' s now (A ++ B)
 | self (hk : c.Kind = 6) (hq : c.Queue = 0) : How N p s now L c (no 25) p s now L
 | merge (p' : ze) (hk : c.Kind = 6) (hq : c.Queue = 1) (hp : qj p p') : How N p s now L c (zu.mk 0 (zd.mk 0 0) 0 0 ((sel 1 L).length : Int)) p' s now (L.map JR.mv)
 | count (hk : c.Kind = 7) (hq : c.Queue = 0 \/ c.Queue = 1) : How N p s now L c (zu.mk 0 (zd.mk 0 0) 0 0 ((sel c.Queue L).length : Int)) p s now L
 | unknown (h : ¬ (c.Kind = 1 \/ c.Kind = 2 \/ c.Kind = 3 \/ c.Kind = 4 \/ c.Kind = 5 \/ c.Kind = 6 \/ c.Kind = 7)) : How N p s now L c (no 12) p s now L
theorem e9 (a b : Int) : ∃ t,vB a b = some t := by
 unfold vB;cases (decide (b > 0)) && (decide (a > w64 (9223372036854775807 - b))) with
 | true => exact ⟨_,rfl⟩
 | false =>
  cases (decide (b < 0)) && (decide (a < w64 ((-9223372036854775808) - b))) with
  | true => exact ⟨_,rfl⟩
  | false => exact ⟨_,rfl⟩
section
variable {N : Nat} {k : Int} {d : za} {L : List JR} {T : Nat} {f : Nat}
theorem DI.mono (D : DI N k d L T) {T' : Nat} (h : T <= T') : DI N k d L T' := by
 refine ⟨D.kd,D.dk,D.dm,D.nb,D.pq.same fun hs Q => ?_,D.jq,D.jp.mono h,D.jm,D.jl,D.by1,D.by2,D.wh1,D.wh2,D.rn,D.cn,D.bu,D.la,D.to⟩;exact ⟨{ Q.ih with gen := fun j x e => by have := Q.ih.gen j x e; omega },Q.ii.mono h,Q.hl,Q.il,Q.at1,Q.at2,Q.en1,Q.en2,Q.hk,Q.hn,Q.rn,Q.sn,Q.ar,Q.mi,Q.mm,Q.mb,Q.ci,Q.ch,Q.cm,Q.sr,by have := Q.sq; omega⟩
theorem dO (d : za) (B : Nat) : Stp d d B := ⟨Int.le_refl _,by omega⟩
theorem DI.one (D : DI N k d L T) (X : T < 1000000) (hf : 95000 < f) (c : zE) :
  Do (wk f d c) fun res => ∃ L',How N d.t_.p d.q.serial d.clock.now L c res.1 res.2.t_.p res.2.q.serial res.2.clock.now L' /\ DI N k res.2 L' (T + 1) /\ Stp d res.2 2800 /\ res.2.budget = d.budget /\ res.2.top = d.top := by
 have l := D.mono (Nat.le_succ T);have u := dO d 2800;unfold wk;by_cases hk : c.Kind = 1 \/ c.Kind = 5 \/ c.Kind = 6 \/ c.Kind = 7
 ·have Y : (bif c.Kind == 1 then some (c.Kind == 1) else (bif c.Kind == 5 then some (c.Kind == 5) else (bif c.Kind == 6 then some (c.Kind == 6) else some (c.Kind == 7)))) = some true := by
   rcases hk with e | e | e | e <;> rw [e] <;> rfl
  rw [Y];simp only [bS,cT];by_cases hq : c.Queue = 0 \/ c.Queue = 1
  ·have O : (!((decide (c.Queue >= 0)) && (decide (c.Queue < 2)))) = false := by rcases hq with e | e <;> rw [e] <;> rfl
   rw [O];simp only [cF,bS];rcases hk with e | e | e | e <;> rw [e]
   ·refine Do.t rfl ((D.schedule X hf hq).bind ?_);rintro res (⟨hl,rfl⟩ | ⟨hl,j,x,p',v,h1,h2,h3,h4,Z,h6,rfl,h8,W⟩)
    ·exact ⟨_,rfl,L,.full e hq hl,l,u,rfl,rfl⟩
    ·refine ⟨_,rfl,L ++ [j],?_,h8,⟨W.1,Int.le_trans W.2 (by omega)⟩,rfl,rfl⟩;show How N d.t_.p d.q.serial d.clock.now L c _ p' x.serial d.clock.now _;rw [Z];exact .sched j p' v e hq hl h1 h2 h3 h4 h6
   ·refine Do.f rfl (Do.f rfl (Do.f rfl (Do.f rfl (Do.t rfl ((D.fire hf hq).bind ?_)))));rintro res ⟨x,d',hs,i,h⟩;rcases h with ⟨hn,rfl,rfl,y⟩ | ⟨A,j,B,p',eL,hj,hn,hm,hp,rfl,rfl,y⟩
    ·refine ⟨_,rfl,L,?_,y.mono (Nat.le_succ T),i,rfl,rfl⟩;show How N d.t_.p d.q.serial d.clock.now L c _ d.t_.p x.serial d.clock.now _;rw [hs];exact .idle e hq hn
    ·refine ⟨_,rfl,A ++ B,?_,y.mono (Nat.le_succ T),i,rfl,rfl⟩;show How N d.t_.p d.q.serial d.clock.now L c _ p' x.serial d.clock.now _;rw [hs];exact .fire A j B p' e hq eL hj hn hm hp
   ·refine Do.f rfl (Do.f rfl (Do.f rfl (Do.f rfl (Do.f rfl (Do.t rfl ?_)))));rcases hq with J | J <;> rw [J]
    ·refine Do.t rfl ?_;exact ⟨_,rfl,L,.self e J,l,u,rfl,rfl⟩
    ·refine Do.f rfl ((D.merge X hf).bind ?_);rintro res ⟨x,r,p',rfl,hp,hs,y,i⟩;refine ⟨_,rfl,L.map JR.mv,?_,y,⟨i.1,Int.le_trans i.2 (by omega)⟩,rfl,rfl⟩;show How N d.t_.p d.q.serial d.clock.now L c _ p' x.serial d.clock.now _;rw [hs];exact .merge p' e J hp
   ·refine Do.f rfl (Do.f rfl (Do.f rfl (Do.f rfl (Do.f rfl (Do.f rfl (Do.t rfl ?_))))));rw [D.count hf c.Queue];exact ⟨_,rfl,L,.count e hq,l,u,rfl,rfl⟩
  ·have O : (!((decide (c.Queue >= 0)) && (decide (c.Queue < 2)))) = true := by
    cases h1 : decide (c.Queue >= 0) with
    | false => rfl
    | true =>
     cases h2 : decide (c.Queue < 2) with
     | false => rfl
     | true =>
      have h1 := of_decide_eq_true h1;have h2 := of_decide_eq_true h2;omega
   rw [O];exact ⟨_,rfl,L,.bad hk hq,l,u,rfl,rfl⟩
 ·have n1 : (c.Kind == 1) = false := by simp; omega
  have n5 : (c.Kind == 5) = false := by simp; omega
  have n6 : (c.Kind == 6) = false := by simp; omega
  have n7 : (c.Kind == 7) = false := by simp; omega
  rw [n1,n5,n6,n7];simp only [cF,bS];by_cases h2 : c.Kind = 2
  ·rw [show (c.Kind == 2) = true by simp [h2],cT];refine (D.Aa hf c).bind ?_;rintro res (⟨e,he,F,rfl⟩ | ⟨A,j,B,eL,hj,⟨ht,rfl⟩ | ⟨x,p',b',d',ht,z,rfl,rfl,hs,y,i⟩⟩)
   ·exact ⟨_,rfl,L,.dead e (Or.inl h2) he F,l,u,rfl,rfl⟩
   ·exact ⟨_,rfl,L,.late A j B h2 eL hj ht,l,u,rfl,rfl⟩
   ·refine ⟨_,rfl,_,?_,y.mono (Nat.le_succ T),⟨i.1,Int.le_trans i.2 (by omega)⟩,rfl,rfl⟩;show How N d.t_.p d.q.serial d.clock.now L c _ p' x.serial d.clock.now _;rw [hs];refine .soon A j B p' h2 eL hj ht ?_;have I : Pj.Live d.t_.p j.R j.job := (D.jl _ _).2 ⟨j,by rw [eL]; simp,rfl,rfl⟩;have S := Pj.ry D.jp I (zz.mk j.q c.Time j.data j.item);rw [S] at z;have := (Prod.mk.inj (Option.some.inj z)).2;rw [<- this];exact qj.set D.jp I
  ·rw [show (c.Kind == 2) = false by simp [h2],cF];by_cases h3 : c.Kind = 3
   ·rw [show (c.Kind == 3) = true by simp [h3],cT];refine (D.cancel hf c.Job).bind ?_;rintro res (⟨e,he,F,rfl⟩ | ⟨A,j,B,x,p',d',eL,hj,hg,rfl,rfl,hs,y,i⟩)
    ·exact ⟨_,rfl,L,.dead e (Or.inr h3) he F,l,u,rfl,rfl⟩
    ·refine ⟨_,rfl,_,?_,y.mono (Nat.le_succ T),⟨i.1,Int.le_trans i.2 (by omega)⟩,rfl,rfl⟩;show How N d.t_.p d.q.serial d.clock.now L c _ p' x.serial d.clock.now _;rw [hs];exact .canc A j B p' h3 eL hj hg
   ·rw [show (c.Kind == 3) = false by simp [h3],cF];by_cases h4 : c.Kind = 4
    ·rw [show (c.Kind == 4) = true by simp [h4],cT];unfold ss;by_cases ht : c.Time < 0
     ·rw [dT ht,cT];exact ⟨_,rfl,L,.back h4 ht,l,u,rfl,rfl⟩
     ·rw [dF ht,cF];obtain ⟨t,U⟩ := e9 d.clock.now c.Time;rw [U];refine ⟨_,rfl,L,.go t h4 ht U,?_,u,rfl,rfl⟩;exact ⟨l.kd,l.dk,l.dm,l.nb,l.pq,l.jq,l.jp,l.jm,l.jl,l.by1,l.by2,l.wh1,l.wh2,l.rn,l.cn,l.bu,l.la,l.to⟩
    ·rw [show (c.Kind == 4) = false by simp [h4],cF];exact ⟨_,rfl,L,.unknown (by omega),l,u,rfl,rfl⟩
structure Went (N : Nat) (k : Int) (d : za) (L : List JR) (T : Nat) (c : zE) (rep : zu) (d' : za) (L' : List JR) : Prop where
 how : How N d.t_.p d.q.serial d.clock.now L c rep d'.t_.p d'.q.serial d'.clock.now L'
 di : DI N k d' L' (T + 1)
 bu : d'.budget = d.budget
theorem DI.do (D : DI N k d L T) (l : T < 1000000) (hf : 95000 < f) (c : zE) :
  Do (yW f d c) fun res => ∃ L',Went N k d L T c res.1 res.2 L' := by
 unfold yW;refine Do.seq (r := d.q.a_.m_.steps) rfl ?_;refine (D.one l hf c).bind ?_;rintro ⟨rep,d'⟩ ⟨L',hh,e,i,j,ht⟩;simp only at hh e i j ht ⊢;refine Do.seq (r := d'.q.a_.m_.steps) rfl ?_;have h1 := i.1;have h2 := i.2;have h3 := e.bu;have t := e.to;have u := e.la;rw [zF (by omega) (by omega)];refine Do.f (dF (by omega)) ?_;refine ⟨_,rfl,L',hh,?_,j⟩;refine ⟨e.kd,e.dk,e.dm,e.nb,e.pq,e.jq,e.jp,e.jm,e.jl,e.by1,e.by2,e.wh1,e.wh2,e.rn,e.cn,e.bu,?_,?_⟩
 ·simp only; omega
 ·simp only; split <;> omega
theorem j8 {b : Nat} (i : b <= 1000) : ∀ (r x : Nat) (a : Int) (m : Nat),x + r = b -> r < m -> 0 <= a -> a + 1600 * r <= 1000000 -> ∃ v,vc 1600 (b : Int) m a (x : Int) = some v /\ a + 1600 * r <= v
 | 0,x,a,m + 1,e,hm,h0,h1 => by
  refine ⟨a,?_,by omega⟩;unfold vc;rw [dF (by omega),cF]
 | r + 1,x,a,m + 1,e,hm,h0,h1 => by
  obtain ⟨v,hv,hle⟩ := j8 i r (x + 1) (a + 1600) m (by omega) (by omega) (by omega) (by omega);refine ⟨v,?_,by omega⟩;unfold vc vB;rw [dT (by omega),cT,zF (x := 9223372036854775807 - 1600) (by omega) (by omega),dF (p := a > 9223372036854775807 - 1600) (by omega),Bool.and_false,cF];rw [show decide ((1600 : Int) < 0) = false from rfl,Bool.false_and,cF];simp only [bS];rw [zF (x := a + 1600) (by omega) (by omega),zF (x := (x : Int) + 1) (by omega) (by omega)];rw [show ((x + 1 : Nat) : Int) = (x : Int) + 1 by simp] at hv;exact hv
theorem bw : ∀ n : Fin 60,(match qb ((n.val : Int) + 2) with | some b => decide (1 <= b /\ b <= 8) | none => false) = true := by decide +kernel
theorem fi {f : Nat} (hf : 95000 < f) {k : Int} (hk : Kd k) {N : Nat} (h1 : 1 <= N) (h2 : N <= 60) : ∃ b,tV f k (N : Int) = some (b,true) /\ 3600 <= b := by
 have hw : uj k = some true := by
  unfold uj;rcases hk with rfl | rfl | rfl <;> rfl
 have i := bw ⟨N - 1,by omega⟩;unfold tV;rw [hw];simp only [bS];rw [show (!true) = false from rfl,cF,dF (by omega),cF,dF (by omega)];simp only [bS,cF];unfold rq;rw [zF (by omega) (by omega)];simp only at i;rw [show ((N - 1 : Nat) : Int) + 2 = (N : Int) + 1 by omega] at i;cases e : qb ((N : Int) + 1) with
 | none => rw [e] at i; cases i
 | some b =>
  rw [e] at i;have i := of_decide_eq_true i;obtain ⟨j,rfl⟩ : ∃ j : Nat,b = (j : Int) := ⟨b.toNat,by omega⟩
  obtain ⟨v,hv,hle⟩ := j8 (b := j) (by omega) j 0 2000 f (by omega) (by omega) (by omega) (by omega);simp only [bS];rw [show ((0 : Nat) : Int) = 0 from rfl] at hv;rw [hv];exact ⟨v,rfl,by omega⟩
theorem DI.new (hf : 95000 < f) (hk : Kd k) (h1 : 1 <= N) (h2 : N <= 60) :
  ∃ d,tX f k (N : Int) = some (some d,0) /\ DI N k d [] 2 /\ d.clock.now = 0 /\ d.q.serial = 0 /\ d.t_.p = ze.mk (N : Int) [] [] := by
 have hw : uj k = some true := by
  unfold uj;rcases hk with rfl | rfl | rfl <;> rfl
 obtain ⟨b,z,B⟩ := fi hf hk h1 h2;obtain ⟨q,eq,Q,hs,I⟩ := aX (M := N) h1 (by omega);obtain ⟨_,e,r0,q1,rfl,t,D,_⟩ := Q.fw (f := f) (k := k) (a := zd.mk 0 0) (b := zd.mk 0 0) (c := zd.mk 0 0) (key := 0) hk (by simp) (by omega);obtain ⟨_,l,r1,q2,rfl,u,F,_⟩ := t.fw (f := f) (k := k) (a := zd.mk 0 0) (b := zd.mk 0 0) (c := zd.mk 0 0) (key := 0) hk (by simp) (by omega);have x : (if (if 4096 < (N : Int) then 4096 else (N : Int)) > 1 then (if 4096 < (N : Int) then 4096 else (N : Int)) else 1) = (N : Int) := by
  rw [show (if 4096 < (N : Int) then 4096 else (N : Int)) = (N : Int) from if_neg (by omega)]; split <;> omega
 have y : (if (if 65536 < (N : Int) then 65536 else (N : Int)) > 0 then (if 65536 < (N : Int) then 65536 else (N : Int)) else 0) = (N : Int) := by
  rw [show (if 65536 < (N : Int) then 65536 else (N : Int)) = (N : Int) from if_neg (by omega),if_pos (by omega)]
 have A : qW (N : Int) = some (zm.mk (ze.mk (N : Int) [] []) []) := by
  unfold qW uM;rw [x];simp only [bS];rw [y]
 refine ⟨za.mk k (N : Int) q2 r0 r1 (zm.mk (ze.mk (N : Int) [] []) []) [] (zJ.mk 0) b 0 0,?_,?_,rfl,by simp only; omega,rfl⟩
 ·unfold tX;rw [hw];simp only [bS];rw [show (!true) = false from rfl,cF,z];simp only [bS];rw [show (!true) = false from rfl,cF,eq];simp only [bS,ta,oS];rw [A];simp only [bS];unfold qN;simp only [bS];rw [e];simp only [bS];rw [l]
  rfl
 ·refine ⟨hk,rfl,rfl,⟨h1,h2⟩,?_,?_,Pj.jA (by omega) (by omega) 2,rfl,?_,List.nodup_nil,?_,List.nodup_nil,?_,List.nodup_nil,rfl,B,⟨Int.le_refl _,by simp only; omega⟩,⟨Int.le_refl _,by simp only; omega⟩⟩
  ·exact ⟨_,_,u.p (List.Perm.swap ..),rfl,rfl,rfl,rfl,.refl _,.refl _⟩
  ·intro j hj; cases hj
  ·intro r v;constructor
   ·intro h; exact absurd h Pj.ie
   ·rintro ⟨j,hj,_⟩; cases hj
  ·intro i r;constructor
   ·intro h; cases h
   ·rintro ⟨j,hj,_⟩; cases hj
  ·intro i r;constructor
   ·intro h; cases h
   ·rintro ⟨j,hj,_⟩; cases hj
end
end
noncomputable section
set_option maxRecDepth 10000
structure PR (p : ze) (r : zq) : Prop where
 mo : r.Most = p.most
 ge : r.Gens = p.l.map zp.gen
 tk : r.In = p.l.map zp.taken
 vl : r.V.length = p.l.length
 bk : r.Back = p.free
def rj (j : JR) : zD := zD.mk j.q j.data (zg.mk j.it.k j.it.s) j.R
structure TI (N : Nat) (p : ze) (s now : Int) (L : List JR) (m : zf) : Prop where
 mo : m.Most = N
 nw : m.Now = now
 nx : m.Next = s
 po : PR p m.Pool
 ls : m.L = L.map rj
section
variable {p p' : ze} {r : zq} {T : Nat} {L : List JR}
theorem PR.same (P : PR p r) (h : qj p p') : PR p' r :=
 ⟨P.mo.trans h.1.symm,P.ge.trans h.2.2.1.symm,P.tk.trans h.2.2.2.symm,by have := congrArg List.length h.2.2.1; simp only [lM] at this; rw [P.vl,this],P.bk.trans h.2.1.symm⟩
theorem PR.look (P : PR p r) (I : Pj.Inv p T) (s : zd) {x : Option Int} {e : Int} (h : zO p s = some (x,e)) : wI r s = some e := by
 unfold zO at h;unfold wI;have i : (r.Gens.length : Int) = (p.l.length : Int) := by rw [P.ge,lM]
 rw [i];by_cases h1 : s.At < 0
 ·rw [dT h1] at h ⊢;simp only [cT,bS,Option.some.injEq,Prod.mk.injEq] at h ⊢;exact h.2
 rw [dF h1] at h ⊢;by_cases h2 : s.At >= (p.l.length : Int)
 ·rw [dT h2] at h ⊢;simp only [cT,cF,bS,Option.some.injEq,Prod.mk.injEq] at h ⊢;exact h.2
 rw [dF h2] at h ⊢;by_cases h3 : s.Gen < 1
 ·rw [dT h3] at h ⊢;simp only [cT,cF,bS,Option.some.injEq,Prod.mk.injEq] at h ⊢;exact h.2
 rw [dF h3] at h ⊢;obtain ⟨j,hj⟩ : ∃ j : Nat,s.At = (j : Int) := ⟨s.At.toNat,by omega⟩
 obtain ⟨y,t⟩ : ∃ y,p.l[j]? = some y := ⟨_,List.getElem?_eq_getElem (by omega)⟩
 rw [hj,yv,t] at h;have z : mIdx r.Gens (j : Int) = some y.gen := by rw [P.ge,yv,List.getElem?_map,t]; rfl
 have A : mIdx r.In (j : Int) = some y.taken := by rw [P.tk,yv,List.getElem?_map,t]; rfl
 rw [hj,z,A];simp only [cF,bS] at h ⊢;by_cases h4 : s.Gen > y.gen
 ·rw [dT h4] at h ⊢;simp only [cT,Option.some.injEq,Prod.mk.injEq] at h ⊢;exact h.2
 rw [dF h4] at h ⊢;simp only [cF] at h ⊢;by_cases u : s.Gen < y.gen
 ·rw [dT u] at h ⊢;simp only [Bool.true_or,cT,bS,Option.some.injEq,Prod.mk.injEq] at h ⊢;exact h.2
 rw [dF u] at h ⊢;cases ht : y.taken with
 | true =>
  rw [ht] at h;simp only [Bool.not_true,Bool.or_false,cF,bS,Option.some.injEq,Prod.mk.injEq] at h ⊢;exact h.2
 | false =>
  rw [ht] at h;simp only [Bool.not_false,Bool.or_true,cT,cF,bS,Option.some.injEq,Prod.mk.injEq] at h ⊢;exact h.2
theorem PR.full (P : PR p r) (hf : p.free = []) (hl : (p.l.length : Int) = p.most) : xo r 0 = some (zd.mk 0 0,false,r) := by
 unfold xo;rw [P.bk,hf];rw [show decide (((([] : List Int).length : Nat) : Int) > 0) = false from rfl,cF,P.ge,lM,P.mo,dT (by omega),cT]
 rfl
theorem PR.take (P : PR p r) (I : Pj.Inv p T) (J : T < 1000000000) {v : zz} {R : zd} (e : (p.l.length : Int) < p.most + p.free.length) (h : yl p v = some (R,true,p')) :
  ∃ r',xo r 0 = some (R,true,r') /\ PR p' r' := by
 have hl := I.lb;rcases List.eq_nil_or_concat p.free with hf | ⟨fs,f,hf⟩
 ·rw [hf] at e;rw [Pj.qh I hf (by simpa using e)] at h;simp only [Option.some.injEq,Prod.mk.injEq,true_and] at h;obtain ⟨rfl,rfl⟩ := h;refine ⟨zq.mk r.Most (mSet (r.Gens ++ [0]) (r.Gens.length : Int) 1) (mSet (r.In ++ [false]) (r.Gens.length : Int) true) (mSet (r.V ++ [0]) (r.Gens.length : Int) 0) r.Back,?_,?_⟩
  ·have i : r.Gens.length = p.l.length := by rw [P.ge,lM]
   have t : r.In.length = p.l.length := by rw [P.tk,lM]
   have A := P.vl;unfold xo;rw [P.bk,hf];rw [show decide (((([] : List Int).length : Nat) : Int) > 0) = false from rfl,cF,i,P.mo,dF (by simp at e; omega),cF];rw [yP (by simp; omega),yP (by simp; omega),yP (by simp; omega)];simp only [bS];have h1 : mIdx (r.Gens ++ [0]) (p.l.length : Int) = some 0 := by rw [<- i]; exact yu r.Gens [] 0
   have h2 : mIdx (r.In ++ [false]) (p.l.length : Int) = some false := by rw [<- t]; exact yu r.In [] false
   have h3 : mIdx (r.V ++ [0]) (p.l.length : Int) = some 0 := by rw [<- A]; exact yu r.V [] 0
   rw [h1,h2,h3];simp only [bS];rw [show w64 (0 + 1) = 1 by rw [zF] <;> simp];have h4 : mIdx (mSet (r.Gens ++ [0]) (p.l.length : Int) 1) (p.l.length : Int) = some 1 := by
    rw [yv]; simp only [mSet,tN]; rw [List.getElem?_set_self (by simp; omega)]
   rw [h4]
   rfl
  ·have i : r.Gens.length = p.l.length := by rw [P.ge,lM]
   have t : r.In.length = p.l.length := by rw [P.tk,lM]
   have hs : ∀ {α : Type} (l : List α) (a b : α),(l ++ [a]).set l.length b = l ++ [b] := fun l a b => by simp
   refine ⟨P.mo,?_,?_,?_,P.bk.trans hf⟩
   ·simp only [mSet,tN]; rw [hs,P.ge]; simp
   ·simp only [mSet,tN]; rw [i,<- t,hs,P.tk]; simp
   ·simp [mSet,P.vl]
 ·rw [List.concat_eq_append] at hf;obtain ⟨j,x,rfl,hj,ht⟩ := I.fre f (by rw [hf]; simp);have O := I.gen j x hj;rw [Pj.sW I (by omega) hf hj] at h;simp only [Option.some.injEq,Prod.mk.injEq,true_and] at h;obtain ⟨rfl,rfl⟩ := h;have y := (List.getElem?_eq_some_iff.1 hj).1;have F : fs.length < 1000000 := by
   have h0 := I.flen;rw [hf] at h0;simp only [lA,List.length_singleton] at h0;omega
  have hw : w64 (((fs ++ [(j : Int)]).length : Int) - 1) = (fs.length : Int) := by rw [zF] <;> simp <;> omega
  have z : mIdx (fs ++ [(j : Int)]) (fs.length : Int) = some (j : Int) := yu fs [] (j : Int);have u : mCut (fs ++ [(j : Int)]) 0 (fs.length : Int) = some fs := by
   unfold mCut;rw [if_pos ⟨by omega,by omega,by simp; omega⟩];simp
  have B : mIdx r.Gens (j : Int) = some x.gen := by rw [P.ge,yv,List.getElem?_map,hj]; rfl
  have D : mIdx r.In (j : Int) = some x.taken := by rw [P.tk,yv,List.getElem?_map,hj]; rfl
  have hV : ∃ v0,mIdx r.V (j : Int) = some v0 := ⟨_,by rw [yv]; exact List.getElem?_eq_getElem (by rw [P.vl]; exact y)⟩
  obtain ⟨v0,hV⟩ := hV;refine ⟨zq.mk r.Most (mSet r.Gens (j : Int) (x.gen + 1)) (mSet r.In (j : Int) true) (mSet r.V (j : Int) 0) fs,?_,?_⟩
  ·unfold xo;rw [P.bk,hf,dT (by simp),cT,hw,z];simp only [bS];rw [u];simp only [bS];rw [B,D,hV];simp only [bS];rw [zF (by omega) (by omega)];have h4 : mIdx (mSet r.Gens (j : Int) (x.gen + 1)) (j : Int) = some (x.gen + 1) := by
    rw [yv]; simp only [mSet,tN]; rw [List.getElem?_set_self (by rw [P.ge,lM]; exact y)]
   rw [h4]
   rfl
  ·refine ⟨P.mo,?_,?_,?_,rfl⟩
   ·simp only [mSet,tN]; rw [P.ge,List.map_set]
   ·simp only [mSet,tN]; rw [P.tk,List.map_set]
   ·simp only [mSet,List.length_set]; exact P.vl
theorem PR.give (P : PR p r) (I : Pj.Inv p T) {v : zz} {s : zd} (h : Pj.Live p s v) (i : zQ p s = some (v,0,p')) :
  ∃ x r',vD r s = some (x,0,r') /\ PR p' r' := by
 rw [Pj.sK I h] at i;simp only [Option.some.injEq,Prod.mk.injEq,true_and] at i;subst i;have t := P.look I s (Pj.wA I h);obtain ⟨j,e,hj⟩ := h;have l := (List.getElem?_eq_some_iff.1 hj).1;have A := I.lb;have z := I.flen;have u : mIdx r.In (j : Int) = some true := by rw [P.tk,yv,List.getElem?_map,hj]; rfl
 obtain ⟨v0,hV⟩ : ∃ v0,mIdx r.V (j : Int) = some v0 := ⟨_,by rw [yv]; exact List.getElem?_eq_getElem (by rw [P.vl]; exact l)⟩
 refine ⟨v0,zq.mk r.Most r.Gens (mSet r.In (j : Int) false) r.V (p.free ++ [(j : Int)]),?_,?_⟩
 ·unfold vD;rw [t];simp only [bS];rw [show ((0 : Int) != 0) = false from rfl,cF,e,u];simp only [bS];rw [P.bk,yP (by simp; omega),List.nil_append];simp only [bS];rw [yP (by simp; omega)];simp only [bS];rw [hV]
  rfl
 ·refine ⟨P.mo,?_,?_,?_,by rw [e]⟩
  ·simp only [mSet,e,tN]; exact P.ge.trans (rJ (y := ⟨s.Gen,false,zz.mk 0 0 0 (zd.mk 0 0)⟩) zp.gen hj rfl).symm
  ·simp only [mSet,e,tN]; rw [P.tk,List.map_set]
  ·simp only [mSet,List.length_set]; exact P.vl
end
end
noncomputable section
set_option maxRecDepth 10000
def bef (a b : JR) : Prop := a.it.k < b.it.k \/ (a.it.k = b.it.k /\ a.it.s < b.it.s)
instance (a b : JR) : Decidable (bef a b) := by unfold bef; exact inferInstance
theorem fe (a b : JR) : ((decide (a.it.k < b.it.k)) || ((a.it.k == b.it.k) && (decide (a.it.s < b.it.s)))) = decide (bef a b) := by
 by_cases h : bef a b
 ·rw [dT h];rcases h with h | ⟨h1,h2⟩
  ·rw [dT h]; rfl
  ·rw [dT h2]; simp [h1]
 ·rw [dF h];unfold bef at h;rw [Bool.or_eq_false_iff,Bool.and_eq_false_iff];refine ⟨dF (by omega),?_⟩;by_cases h1 : a.it.k = b.it.k
  ·exact Or.inr (dF (by omega))
  ·exact Or.inl (by simpa using h1)
def Best (x : Int) (P : List JR) (b : Int) : Prop :=
 (b = -1 /\ ∀ j ∈ P,j.q ≠ x) \/ ∃ (i : Nat) (j : JR),b = (i : Int) /\ P[i]? = some j /\ j.q = x /\ ∀ e ∈ P,e.q = x -> ¬ bef e j
theorem qn {L : List JR} {i : Nat} {j : JR} (h : L[i]? = some j) : mIdx (L.map rj) (i : Int) = some (rj j) := by rw [yv,List.getElem?_map,h]; rfl
theorem jY {x : Int} {m : zf} {L : List JR} (hm : m.L = L.map rj) (hl : L.length <= 65536) :
  ∀ (rest pre : List JR) (b : Int) (f : Nat),L = pre ++ rest -> rest.length < f -> Best x pre b -> ∃ D,yq x m f b (pre.length : Int) = some D /\ Best x L D
 | [],pre,b,f + 1,e,hf,J => by
  refine ⟨b,?_,by rw [e,aN]; exact J⟩;unfold yq;rw [hm,lM,dF (by rw [e]; simp),cF]
 | y :: rest,pre,b,f + 1,e,hf,J => by
  have hlen : L.length = pre.length + (rest.length + 1) := by rw [e]; simp
  simp only [lC] at hf;have S : L[pre.length]? = some y := by rw [e]; simp
  have F : ∀ {i : Nat} {j : JR},pre[i]? = some j -> L[i]? = some j := by
   intro i j h;rw [e,List.getElem?_append_left (List.getElem?_eq_some_iff.1 h).1]; exact h
  have go : ∀ I,Best x (pre ++ [y]) I -> ∃ D,yq x m f I ((pre.length : Int) + 1) = some D /\ Best x L D := by
   intro I h1;have := jY hm hl rest (pre ++ [y]) I f (by rw [e]; simp) (by omega) h1;rw [show ((pre ++ [y]).length : Int) = (pre.length : Int) + 1 by simp] at this;exact this
  unfold yq;rw [hm,lM,dT (by omega),cT,qn S];simp only [bS];rw [zF (x := (pre.length : Int) + 1) (by omega) (by omega),show (rj y).Queue = y.q from rfl];by_cases hq : y.q = x
  ·rw [show (y.q == x) = true by simpa using hq,cT];rcases J with ⟨rfl,hn⟩ | ⟨i,j,rfl,hi,z,u⟩
   ·rw [show decide ((-1 : Int) < 0) = true from rfl,cT];simp only [bS,cT];refine go _ (Or.inr ⟨pre.length,y,rfl,by simp,hq,?_⟩);intro B t z;rcases List.mem_append.1 t with h | h
    ·exact absurd z (hn B h)
    ·rw [List.mem_singleton.1 h]; unfold bef; omega
   ·rw [dF (by omega),cF,qn (F hi)];simp only [bS];unfold we;simp only [bS];by_cases A : bef y j
    ·have O : ((decide ((rj y).E.Key < (rj j).E.Key)) || (((rj y).E.Key == (rj j).E.Key) && (decide ((rj y).E.Serial < (rj j).E.Serial)))) = true := by
      exact (fe y j).trans (dT A)
     rw [O,cT];simp only [bS];refine go _ (Or.inr ⟨pre.length,y,rfl,by simp,hq,?_⟩);intro B t l;rcases List.mem_append.1 t with h | h
     ·have := u B h l;unfold bef at *; omega
     ·rw [List.mem_singleton.1 h]; unfold bef; omega
    ·have O : ((decide ((rj y).E.Key < (rj j).E.Key)) || (((rj y).E.Key == (rj j).E.Key) && (decide ((rj y).E.Serial < (rj j).E.Serial)))) = false := by
      exact (fe y j).trans (dF A)
     rw [O,cF];simp only [bS];refine go _ (Or.inr ⟨i,j,rfl,by rw [List.getElem?_append_left (List.getElem?_eq_some_iff.1 hi).1]; exact hi,z,?_⟩);intro B t l;rcases List.mem_append.1 t with h | h
     ·exact u B h l
     ·rw [List.mem_singleton.1 h]; exact A
  ·rw [show (y.q == x) = false by simpa using hq,cF];simp only [bS,cF];refine go _ ?_;rcases J with ⟨rfl,hn⟩ | ⟨i,j,rfl,hi,z,u⟩
   ·refine Or.inl ⟨rfl,fun j hj => ?_⟩;rcases List.mem_append.1 hj with h | h
    ·exact hn j h
    ·rw [List.mem_singleton.1 h]; exact hq
   ·refine Or.inr ⟨i,j,rfl,by rw [List.getElem?_append_left (List.getElem?_eq_some_iff.1 hi).1]; exact hi,z,?_⟩;intro B t l;rcases List.mem_append.1 t with h | h
    ·exact u B h l
    ·rw [List.mem_singleton.1 h] at l; exact absurd l hq
theorem mJ {x : Int} {m : zf} {L : List JR} (hm : m.L = L.map rj) (hl : L.length <= 65536) {f : Nat} (hf : 65536 < f) : ∃ b,wi f m x = some b /\ Best x L b := by
 obtain ⟨b,e,i⟩ := jY (x := x) hm hl L [] (-1) f rfl (by omega) (Or.inl ⟨rfl,by simp⟩);refine ⟨b,?_,i⟩;unfold wi;rw [show ((([] : List JR).length : Nat) : Int) = 0 from rfl] at e;rw [e]
 rfl
theorem aD {m : zf} {A : List JR} {j : JR} {B : List JR} (hm : m.L = (A ++ j :: B).map rj) (hl : (A ++ j :: B).length <= 65536) (hn : ∀ i ∈ A,i.R ≠ j.R) :
  ∀ (rest pre : List JR) (f : Nat),A = pre ++ rest -> rest.length < f -> yQ j.R.At j.R.Gen m f (pre.length : Int) = some (.inl ((A.length : Int),m))
 | [],pre,f + 1,e,hf => by
  have hlen : (A ++ j :: B).length = A.length + (B.length + 1) := by simp
  rw [aN] at e;subst e;unfold yQ;rw [hm,lM,dT (by omega),cT,qn (j := j) (by simp)];simp only [bS];rw [show zd.eq (rj j).R (zd.mk j.R.At j.R.Gen) = true from (vQ _ _).2 rfl,cT]
 | y :: rest,pre,f + 1,e,hf => by
  have hlen : (A ++ j :: B).length = A.length + (B.length + 1) := by simp
  have l : A.length = pre.length + (rest.length + 1) := by rw [e]; simp
  simp only [lC] at hf;have x : (A ++ j :: B)[pre.length]? = some y := by rw [e]; simp
  unfold yQ;rw [hm,lM,dT (by omega),cT,qn x];simp only [bS];have t : zd.eq y.R j.R = false := by
   simpa using fun u => hn y (by rw [e]; simp) ((vQ _ _).1 u)
  rw [show zd.eq (rj y).R (zd.mk j.R.At j.R.Gen) = false from t,cF,zF (by omega) (by omega)];have ih := aD hm hl hn rest (pre ++ [y]) f (by rw [e]; simp) (by omega);rw [show ((pre ++ [y]).length : Int) = (pre.length : Int) + 1 by simp] at ih;exact ih
theorem ji {m : zf} {A : List JR} {j : JR} {B : List JR} (hm : m.L = (A ++ j :: B).map rj) (hl : (A ++ j :: B).length <= 65536) (hn : ∀ i ∈ A,i.R ≠ j.R) {f : Nat} (hf : 65536 < f) : wF f m j.R = some ((A.length : Int),m) := by
 have h := aD hm hl hn A [] f rfl (by simp only [lA] at hl; omega);unfold wF;rw [show ((([] : List JR).length : Nat) : Int) = 0 from rfl] at h;rw [h]
 rfl
theorem oL {x : Int} {m : zf} {L : List JR} (hm : m.L = L.map rj) (hl : L.length <= 65536) :
  ∀ (rest pre : List JR) (n : Int) (f : Nat),L = pre ++ rest -> rest.length < f -> 0 <= n -> n <= pre.length ->
   yF x m f n (pre.length : Int) = some (n + (rest.filter fun j => j.q == x).length)
 | [],pre,n,f + 1,e,hf,h0,h1 => by
  unfold yF;rw [hm,lM,dF (by rw [e]; simp),cF];simp
 | y :: rest,pre,n,f + 1,e,hf,h0,h1 => by
  have hlen : L.length = pre.length + (rest.length + 1) := by rw [e]; simp
  simp only [lC] at hf;have i : L[pre.length]? = some y := by rw [e]; simp
  unfold yF;rw [hm,lM,dT (by omega),cT,qn i];simp only [bS];rw [zF (x := (pre.length : Int) + 1) (by omega) (by omega),show (rj y).Queue = y.q from rfl,List.filter_cons];cases l : y.q == x with
  | true =>
   have ih := oL (x := x) hm hl rest (pre ++ [y]) (n + 1) f (by rw [e]; simp) (by omega) (by omega) (by simp; omega);rw [show ((pre ++ [y]).length : Int) = (pre.length : Int) + 1 by simp] at ih;rw [cT,zF (by omega) (by omega)];simp only [bS,if_true];rw [ih]; simp; omega
  | false =>
   have ih := oL (x := x) hm hl rest (pre ++ [y]) n f (by rw [e]; simp) (by omega) h0 (by simp; omega);rw [show ((pre ++ [y]).length : Int) = (pre.length : Int) + 1 by simp] at ih;rw [cF];simp only [bS,Bool.false_eq_true,if_false];exact ih
theorem jn {x : Int} {m : zf} {L : List JR} (hm : m.L = L.map rj) (hl : L.length <= 65536) {f : Nat} (hf : 65536 < f) : wh f m x = some ((sel x L).length : Int) := by
 have h := oL (x := x) hm hl L [] 0 f rfl (by omega) (Int.le_refl _) (Int.le_refl _);unfold wh;rw [show ((([] : List JR).length : Nat) : Int) = 0 from rfl] at h;rw [h];simp [sel]
theorem lJ : ∀ (rest pre : List JR) (m : zf) (n : Int) (f : Nat),m.L = pre.map rj ++ rest.map rj -> pre.length + rest.length <= 65536 -> rest.length < f -> 0 <= n -> n <= pre.length ->
   yG f n (pre.length : Int) m = some (n + (rest.filter fun j => j.q == 1).length,zf.mk m.Most m.Now m.Next m.Pool (pre.map rj ++ rest.map fun j => rj j.mv))
 | [],pre,m,n,f + 1,hm,hl,hf,h0,h1 => by
  unfold yG;rw [hm,dF (by simp),cF];simp only [List.map_nil,aN] at hm;rw [List.map_nil,aN,<- hm];simp
 | y :: rest,pre,m,n,f + 1,hm,hl,hf,h0,h1 => by
  simp only [lC] at hf hl;have i : mIdx m.L (pre.length : Int) = some (rj y) := by
   rw [hm,yv]; simp
  have hlen : (m.L.length : Int) = pre.length + (rest.length + 1) := by rw [hm]; simp
  unfold yG;rw [hlen,dT (by omega),cT,i];simp only [bS];rw [zF (x := (pre.length : Int) + 1) (by omega) (by omega),show (rj y).Queue = y.q from rfl,List.filter_cons];by_cases hq : y.q = 1
  ·have e : y.mv = y.zero := by unfold JR.mv; rw [if_pos hq]
   have ih := lJ rest (pre ++ [y.zero]) (zf.mk m.Most m.Now m.Next m.Pool (mSet m.L (pre.length : Int) (zD.mk 0 (rj y).Data (rj y).E (rj y).R))) (n + 1) f (by
    simp only [mSet,tN,hm];rw [List.set_append];simp [rj,JR.zero]) (by simp; omega) (by omega) (by omega) (by simp; omega)
   rw [show ((pre ++ [y.zero]).length : Int) = (pre.length : Int) + 1 by simp] at ih;rw [show (y.q == 1) = true by simp [hq],cT,zF (by omega) (by omega)];simp only [bS,if_true];rw [ih];simp [e]; omega
  ·have e : y.mv = y := by unfold JR.mv; rw [if_neg hq]
   have ih := lJ rest (pre ++ [y]) m n f (by rw [hm]; simp) (by simp; omega) (by omega) h0 (by simp; omega);rw [show ((pre ++ [y]).length : Int) = (pre.length : Int) + 1 by simp] at ih;rw [show (y.q == 1) = false by simp [hq],cF];simp only [bS,Bool.false_eq_true,if_false];rw [ih];simp [e]
theorem im {N : Nat} {p p' : ze} {s now : Int} {T : Nat} {A B : List JR} {j : JR} {m : zf} (H : TI N p s now (A ++ j :: B) m) (I : Pj.Inv p T) (hv : Pj.Live p j.R j.job) (t : zQ p j.R = some (j.job,0,p')) (hl : (A ++ j :: B).length <= 65536) :
  ∃ i,xu m (A.length : Int) = some (rj j,i) /\ TI N p' s now (A ++ B) i := by
 obtain ⟨x,r',u,l⟩ := H.po.give I hv t;have hlen : (A ++ j :: B).length = A.length + (B.length + 1) := by simp
 refine ⟨zf.mk m.Most m.Now m.Next r' ((A ++ B).map rj),?_,⟨H.mo,H.nw,H.nx,l,rfl⟩⟩;unfold xu;have e : m.L = A.map rj ++ rj j :: B.map rj := by rw [H.ls]; simp
 have h1 : mIdx m.L (A.length : Int) = some (rj j) := by
  have := yu (A.map rj) (B.map rj) (rj j);rw [lM] at this;rw [e]; exact this
 have h2 : mCut m.L 0 (A.length : Int) = some (A.map rj) := by
  unfold mCut;rw [e,if_pos ⟨by omega,by omega,by simp; omega⟩];simp
 have h3 : mCut m.L (w64 ((A.length : Int) + 1)) (m.L.length : Int) = some (B.map rj) := by
  rw [zF (by omega) (by omega),e];unfold mCut;rw [if_pos ⟨by omega,by simp; omega,by simp⟩];have : ((A.length : Int) + 1).toNat = A.length + 1 := by omega
  rw [this,tN,List.take_length];simp [List.drop_append]
 rw [h1];simp only [bS];rw [h2];simp only [bS];rw [h3];simp only [bS];rw [yP (by simp; omega),List.nil_append];simp only [bS];rw [yP (by simp; omega)];simp only [bS];rw [show (rj j).R = j.R from rfl,u];simp
end
noncomputable section
set_option maxRecDepth 10000
theorem add_same {a b t : Int} (ha : 0 <= a) (e : a <= 9223372036854775807) (j : 0 <= b) (i : b <= 9223372036854775807) (h : vB a b = some t) : tM a b = some t /\ 0 <= t /\ t <= 9223372036854775807 := by
 unfold vB at h;unfold tM;rw [zF (x := 9223372036854775807 - b) (by omega) (by omega),dF (p := b < 0) (by omega),Bool.false_and,cF] at h;rw [zF (x := 9223372036854775807 - a) (by omega) (by omega),dF (p := a < 0) (by omega),Bool.false_and,cF];by_cases h1 : a + b > 9223372036854775807
 ·rw [dT (p := b > 0) (by omega),dT (p := a > 9223372036854775807 - b) (by omega)] at h;rw [dT (p := a > 0) (by omega),dT (p := b > 9223372036854775807 - a) (by omega)];simp only [Bool.and_self,cT,Option.some.injEq] at h ⊢;omega
 ·rw [dF (p := a > 9223372036854775807 - b) (by omega),Bool.and_false,cF,zF (by omega) (by omega)] at h;rw [dF (p := b > 9223372036854775807 - a) (by omega),Bool.and_false,cF,zF (by omega) (by omega)];simp only [Option.some.injEq] at h ⊢;omega
section
variable {N : Nat} {k : Int} {d : za} {L L' : List JR} {T : Nat} {f : Nat} {m : zf} {rep : zu} {p' : ze} {s' now' : Int} {c : zE}
theorem k_of {c : zE} (hk : c.Kind = 1 \/ c.Kind = 5 \/ c.Kind = 6 \/ c.Kind = 7) : (bif c.Kind == 1 then some (c.Kind == 1) else (bif c.Kind == 5 then some (c.Kind == 5) else (bif c.Kind == 6 then some (c.Kind == 6) else some (c.Kind == 7)))) = some true := by
 rcases hk with e | e | e | e <;> rw [e] <;> rfl
theorem k_no {c : zE} (hk : ¬ (c.Kind = 1 \/ c.Kind = 5 \/ c.Kind = 6 \/ c.Kind = 7)) : (bif c.Kind == 1 then some (c.Kind == 1) else (bif c.Kind == 5 then some (c.Kind == 5) else (bif c.Kind == 6 then some (c.Kind == 6) else some (c.Kind == 7)))) = some false := by
 rw [show (c.Kind == 1) = false by simp; omega,show (c.Kind == 5) = false by simp; omega,show (c.Kind == 6) = false by simp; omega,show (c.Kind == 7) = false by simp; omega]; rfl
theorem TI.queue (hk : c.Kind = 1 \/ c.Kind = 5 \/ c.Kind = 6 \/ c.Kind = 7) (hq : c.Queue = 0 \/ c.Queue = 1) {Q : zu × zf -> Prop} (h : Do (z8 f m c) Q) : Do (zR f m c) Q := by
 obtain ⟨r,e,i⟩ := h;unfold zR;rw [k_of hk];simp only [bS,cT];rw [show ((c.Queue != 0) && (c.Queue != 1)) = false by rcases hq with e | e <;> rw [e] <;> rfl,cF,e];exact ⟨_,rfl,i⟩
theorem TI.do (D : DI N k d L T) (hT : T < 1000000) (H : TI N d.t_.p d.q.serial d.clock.now L m) (hn : 0 <= d.clock.now /\ d.clock.now <= 9223372036854775807) (hs : d.q.serial < 1000000000000) (hc : c.Time <= 9223372036854775807) (hf : 95000 < f)
  (h : How N d.t_.p d.q.serial d.clock.now L c rep p' s' now' L') :
  Do (zR f m c) fun res => res.1 = rep /\ TI N p' s' now' L' res.2 /\ 0 <= now' /\ now' <= 9223372036854775807 /\ 0 <= s' /\ s' <= d.q.serial + 1 := by
 have b4 := D.items.2.1;have b5 := D.nb;have b6 : 0 <= d.q.serial := by
  obtain ⟨h0,h1,Q,_⟩ := D.pq;exact Q.sq.1
 have z : 0 <= d.q.serial /\ d.q.serial <= d.q.serial + 1 := by omega
 cases h with
 | bad hk hq =>
  unfold zR;rw [k_of hk];simp only [bS,cT];rw [show ((c.Queue != 0) && (c.Queue != 1)) = true by simp; omega,cT];exact ⟨_,rfl,rfl,H,hn.1,hn.2,z⟩
 | full hk hq hl =>
  refine TI.queue (Or.inl hk) hq ?_;unfold z8;refine Do.t (by rw [hk]; rfl) ?_;have X : d.t_.p.free = [] := by
   have h1 := D.cn;have h2 := D.jp.len;rw [D.jm] at h2;exact List.eq_nil_of_length_eq_zero (by omega)
  have a7 : (d.t_.p.l.length : Int) = d.t_.p.most := by
   have h1 := D.cn;rw [X] at h1;rw [D.jm];simp only [List.length_nil] at h1; omega
  refine Do.seq (H.po.full X a7) (Do.t rfl ?_);exact ⟨_,rfl,rfl,⟨H.mo,H.nw,H.nx,H.po,H.ls⟩,hn.1,hn.2,z⟩
 | sched j p' v hk hq hl h1 h2 h3 h4 ht =>
  refine TI.queue (Or.inl hk) hq ?_;unfold z8;refine Do.t (by rw [hk]; rfl) ?_;obtain ⟨r',W,P'⟩ := H.po.take D.jp (by omega) (by have := D.cn; rw [D.jm]; omega) ht;refine Do.seq W (Do.f rfl ?_);rw [yP (by rw [H.ls]; simp; omega),List.nil_append];simp only [bS];rw [yP (by rw [H.ls]; simp; omega)];have Y := H.nx;refine ⟨_,rfl,rfl,⟨H.mo,H.nw,?_,P',?_⟩,hn.1,hn.2,by omega,by omega⟩
  ·show w64 (m.Next + 1) = _;rw [Y,zF (by omega) (by omega)]
  ·show m.L ++ [zD.mk c.Queue c.Data (zg.mk c.Time m.Next) j.R] = _;rw [H.ls,List.map_append,Y];simp [rj,h1,h2,h3,h4]
 | dead e hk he a4 =>
  unfold zR;rw [k_no (by omega)];simp only [bS,cF];have F : (bif c.Kind == 2 then some (c.Kind == 2) else some (c.Kind == 3)) = some true := by rcases hk with e | e <;> rw [e] <;> rfl
  rw [F];simp only [bS,cT];rw [H.po.look D.jp c.Job a4];simp only [bS];rw [show (e != 0) = true by simp [bne,he],cT];exact ⟨_,rfl,rfl,H,hn.1,hn.2,z⟩
 | late A j B hk eL hj ht =>
  subst eL;have u : j ∈ A ++ j :: B := by simp
  have y : Pj.Live d.t_.p j.R j.job := (D.jl _ _).2 ⟨j,u,rfl,rfl⟩;have I : ∀ i ∈ A,i.R ≠ j.R := by
   have := D.rn;rw [List.map_append,pC] at this;obtain ⟨_,_,h3⟩ := List.nodup_append.1 this;exact fun i hi e => h3 _ (List.mem_map_of_mem (f := JR.R) hi) _ (List.mem_cons_self ..) e
  unfold zR;rw [k_no (by omega)];simp only [bS,cF];have F : (bif c.Kind == 2 then some (c.Kind == 2) else some (c.Kind == 3)) = some true := by rw [hk]; rfl
  rw [F];simp only [bS,cT];rw [hj,H.po.look D.jp j.R (Pj.wA D.jp y)];simp only [bS];rw [show ((0 : Int) != 0) = false from rfl,cF,ji H.ls (by omega) I (by omega)];simp only [bS];rw [show (c.Kind == 3) = false by rw [hk]; rfl,cF,H.ls,qn (j := j) (by simp)];simp only [bS];rw [show decide (c.Time > (rj j).E.Key) = true from dT ht,cT];exact ⟨_,rfl,rfl,H,hn.1,hn.2,z⟩
 | soon A j B p' hk eL hj ht hp =>
  subst eL;have u : j ∈ A ++ j :: B := by simp
  have y : Pj.Live d.t_.p j.R j.job := (D.jl _ _).2 ⟨j,u,rfl,rfl⟩;have I : ∀ i ∈ A,i.R ≠ j.R := by
   have := D.rn;rw [List.map_append,pC] at this;obtain ⟨_,_,h3⟩ := List.nodup_append.1 this;exact fun i hi e => h3 _ (List.mem_map_of_mem (f := JR.R) hi) _ (List.mem_cons_self ..) e
  unfold zR;rw [k_no (by omega)];simp only [bS,cF];have F : (bif c.Kind == 2 then some (c.Kind == 2) else some (c.Kind == 3)) = some true := by rw [hk]; rfl
  rw [F];simp only [bS,cT];rw [hj,H.po.look D.jp j.R (Pj.wA D.jp y)];simp only [bS];rw [show ((0 : Int) != 0) = false from rfl,cF,ji H.ls (by omega) I (by omega)];simp only [bS];have S : mIdx m.L (A.length : Int) = some (rj j) := by rw [H.ls]; exact qn (by simp)
  rw [show (c.Kind == 3) = false by rw [hk]; rfl,cF,S];simp only [bS];rw [show decide (c.Time > (rj j).E.Key) = false from dF (by show ¬ c.Time > j.it.k; omega),cF];have a1 : mSet m.L (A.length : Int) (zD.mk (rj j).Queue (rj j).Data (zg.mk c.Time (rj j).E.Serial) (rj j).R) = (A ++ (⟨j.q,j.data,j.R,j.item,⟨j.it.i,c.Time,j.it.s⟩⟩ : JR) :: B).map rj := by
   simp only [mSet,tN,H.ls,List.map_append,pC];rw [List.set_append];simp [rj]
  rw [a1,qn (j := ⟨j.q,j.data,j.R,j.item,⟨j.it.i,c.Time,j.it.s⟩⟩) (by simp)];exact ⟨_,rfl,rfl,⟨H.mo,H.nw,H.nx,H.po.same hp,rfl⟩,hn.1,hn.2,z⟩
 | canc A j B p' hk eL hj hp =>
  subst eL;have u : j ∈ A ++ j :: B := by simp
  have y : Pj.Live d.t_.p j.R j.job := (D.jl _ _).2 ⟨j,u,rfl,rfl⟩;have I : ∀ i ∈ A,i.R ≠ j.R := by
   have := D.rn;rw [List.map_append,pC] at this;obtain ⟨_,_,h3⟩ := List.nodup_append.1 this;exact fun i hi e => h3 _ (List.mem_map_of_mem (f := JR.R) hi) _ (List.mem_cons_self ..) e
  obtain ⟨m',eo,H'⟩ := im H D.jp y hp (by omega);unfold zR;rw [k_no (by omega)];simp only [bS,cF];have F : (bif c.Kind == 2 then some (c.Kind == 2) else some (c.Kind == 3)) = some true := by rw [hk]; rfl
  rw [F];simp only [bS,cT];rw [hj,H.po.look D.jp j.R (Pj.wA D.jp y)];simp only [bS];rw [show ((0 : Int) != 0) = false from rfl,cF,ji H.ls (by omega) I (by omega)];simp only [bS];rw [show (c.Kind == 3) = true by rw [hk]; rfl,cT,eo];exact ⟨_,rfl,rfl,H',hn.1,hn.2,z⟩
 | back hk ht =>
  unfold zR;rw [k_no (by omega)];simp only [bS,cF];rw [hk];simp only [show ((4 : Int) == 2) = false from rfl,show ((4 : Int) == 3) = false from rfl,show ((4 : Int) == 4) = true from rfl,cF,cT,bS];rw [dT ht,cT];exact ⟨_,rfl,rfl,H,hn.1,hn.2,z⟩
 | go t hk ht ha =>
  obtain ⟨W,h1,h2⟩ := add_same hn.1 hn.2 (by omega) hc ha;unfold zR;rw [k_no (by omega)];simp only [bS,cF];rw [hk];simp only [show ((4 : Int) == 2) = false from rfl,show ((4 : Int) == 3) = false from rfl,show ((4 : Int) == 4) = true from rfl,cF,cT,bS];rw [dF ht,cF,H.nw,W];exact ⟨_,rfl,rfl,⟨H.mo,rfl,H.nx,H.po,H.ls⟩,h1,h2,z⟩
 | idle hk hq a8 =>
  refine TI.queue (Or.inr (Or.inl hk)) hq ?_;unfold z8;refine Do.f (by rw [hk]; rfl) (Do.t (by rw [hk]; rfl) ?_);obtain ⟨b,eb,F⟩ := mJ (x := c.Queue) H.ls (by omega) (f := f) (by omega);refine Do.seq eb ?_;rcases F with ⟨rfl,J⟩ | ⟨i,j,rfl,hi,U,O⟩
  ·rw [show decide ((-1 : Int) < 0) = true from rfl,cT];simp only [bS,cT];exact ⟨_,rfl,rfl,H,hn.1,hn.2,z⟩
  ·rw [dF (by omega),cF,H.ls,qn hi];simp only [bS];have := a8 j (List.mem_of_getElem? hi) U;rw [show decide ((rj j).E.Key > m.Now) = true from dT (by rw [H.nw]; exact this),cT];exact ⟨_,rfl,rfl,H,hn.1,hn.2,z⟩
 | fire A j B p' hk hq eL hj hle hm hp =>
  subst eL;refine TI.queue (Or.inr (Or.inl hk)) hq ?_;unfold z8;refine Do.f (by rw [hk]; rfl) (Do.t (by rw [hk]; rfl) ?_);obtain ⟨b,eb,F⟩ := mJ (x := c.Queue) H.ls (by omega) (f := f) (by omega);refine Do.seq eb ?_;have u : j ∈ A ++ j :: B := by simp
  have y : Pj.Live d.t_.p j.R j.job := (D.jl _ _).2 ⟨j,u,rfl,rfl⟩;rcases F with ⟨rfl,J⟩ | ⟨i,j',rfl,hi,U,O⟩
  ·exact absurd hj (J j u)
  ·have a5 := List.mem_of_getElem? hi;have h1 := O j u hj;have h2 := hm j' a5 U;have a0 : j'.it.s = j.it.s := by
    unfold bef at h1;unfold It.lt at h2;omega
   have a9 := D.items.2.2.1;have a6 : i = A.length := by
    have W : ((A ++ j :: B).map fun j => j.it.s)[i]? = some j.it.s := by rw [List.getElem?_map,hi]; simp [a0]
    have e2 : ((A ++ j :: B).map fun j => j.it.s)[A.length]? = some j.it.s := by rw [List.getElem?_map]; simp
    obtain ⟨l1,g1⟩ := List.getElem?_eq_some_iff.1 W;obtain ⟨l2,g2⟩ := List.getElem?_eq_some_iff.1 e2;have Z := List.pairwise_iff_getElem.1 a9;rcases Nat.lt_trichotomy i A.length with h | h | h
    ·exact absurd (g1.trans g2.symm) (Z _ _ l1 l2 h)
    ·exact h
    ·exact absurd (g2.trans g1.symm) (Z _ _ l2 l1 h)
   subst a6;obtain ⟨m',eo,H'⟩ := im H D.jp y hp (by omega);have S : mIdx m.L (A.length : Int) = some (rj j) := by rw [H.ls]; exact qn (by simp)
   rw [dF (by omega),cF,S];simp only [bS];rw [show decide ((rj j).E.Key > m.Now) = false from dF (by rw [H.nw]; show ¬ j.it.k > _; omega),cF,eo];exact ⟨_,rfl,rfl,H',hn.1,hn.2,z⟩
 | self hk hq =>
  refine TI.queue (Or.inr (Or.inr (Or.inl hk))) (Or.inl hq) ?_;unfold z8;refine Do.f (by rw [hk]; rfl) (Do.f (by rw [hk]; rfl) (Do.t (by rw [hk]; rfl) (Do.t (by rw [hq]; rfl) ?_)));exact ⟨_,rfl,rfl,H,hn.1,hn.2,z⟩
 | merge p' hk hq hp =>
  refine TI.queue (Or.inr (Or.inr (Or.inl hk))) (Or.inr hq) ?_;unfold z8;refine Do.f (by rw [hk]; rfl) (Do.f (by rw [hk]; rfl) (Do.t (by rw [hk]; rfl) (Do.f (by rw [hq]; rfl) ?_)));have e := lJ L [] m 0 f (by rw [H.ls]; rfl) (by simp; omega) (by omega) (Int.le_refl _) (Int.le_refl _);rw [show ((([] : List JR).length : Nat) : Int) = 0 from rfl] at e;refine Do.seq e ?_;refine ⟨_,rfl,?_,⟨H.mo,H.nw,H.nx,H.po.same hp,?_⟩,hn.1,hn.2,z⟩
  ·simp [sel]
  ·show [].map rj ++ L.map (fun j => rj j.mv) = _;simp [List.map_map,Function.comp_def]
 | count hk hq =>
  refine TI.queue (Or.inr (Or.inr (Or.inr hk))) hq ?_;unfold z8;refine Do.f (by rw [hk]; rfl) (Do.f (by rw [hk]; rfl) (Do.f (by rw [hk]; rfl) ?_));rw [jn H.ls (by omega) (by omega)];exact ⟨_,rfl,rfl,H,hn.1,hn.2,z⟩
 | unknown h =>
  unfold zR;rw [k_no (by omega)];simp only [bS,cF];rw [show (c.Kind == 2) = false by simp; omega,show (c.Kind == 3) = false by simp; omega,show (c.Kind == 4) = false by simp; omega];exact ⟨_,rfl,rfl,H,hn.1,hn.2,z⟩
end
end
noncomputable section
set_option maxRecDepth 10000
def JR.ent (j : JR) : zg := zg.mk j.it.k j.it.s
def ents (x : Int) (L : List JR) : List zg := (L.filter fun j => j.q == x).map JR.ent
section
variable {N : Nat} {k : Int} {d : za} {L : List JR} {T : Nat} {f : Nat}
theorem jv {x : Int} {T : Nat} (I : Pj.Inv d.t_.p T) {L2 : List JR} (hl : L2.length <= 65536) (i : ∀ j ∈ L2,Pj.Live d.t_.p j.R j.job) (hw : ∀ j ∈ L2,mGet zd.eq j.R d.when = some j.it.s) :
  ∀ (rest pre : List JR) (out : List zg) (m : Nat),L2 = pre ++ rest -> rest.length < m -> out.length <= pre.length ->
   yI x (L2.length : Int) d (L2.map JR.R) m out (pre.length : Int) = some (out ++ ents x rest)
 | [],pre,out,m + 1,e,hm,h1 => by
  unfold yI;rw [dF (by rw [e]; simp),cF];simp [ents]
 | y :: rest,pre,out,m + 1,e,hm,h1 => by
  have hlen : L2.length = pre.length + (rest.length + 1) := by rw [e]; simp
  simp only [lC] at hm;have z := i y (by rw [e]; simp);have t := hw y (by rw [e]; simp);have l : mIdx (L2.map JR.R) (pre.length : Int) = some y.R := by
   rw [yv,List.getElem?_map,e]; simp
  have u : wq d.t_ y.R = some (y.job,0) := by
   unfold wq;rw [Pj.wM I z]
   rfl
  unfold yI;rw [dT (by omega),cT,l];simp only [bS];rw [u];simp only [bS];rw [zF (x := (pre.length : Int) + 1) (by omega) (by omega),show y.job.Queue = y.q from rfl];unfold ents;rw [List.filter_cons];cases A : (y.q == x) with
  | true =>
   have ih := jv (x := x) I hl i hw rest (pre ++ [y]) (out ++ [y.ent]) m (by rw [e]; simp) (by omega) (by simp; omega);rw [show ((pre ++ [y]).length : Int) = (pre.length : Int) + 1 by simp] at ih;rw [cT,uk t];simp only [bS];rw [yP (by simp; omega)];simp only [bS,if_true];rw [show out ++ [zg.mk y.job.Time y.it.s] = out ++ [y.ent] from rfl,ih];simp [ents]
  | false =>
   have ih := jv (x := x) I hl i hw rest (pre ++ [y]) out m (by rw [e]; simp) (by omega) (by simp; omega);rw [show ((pre ++ [y]).length : Int) = (pre.length : Int) + 1 by simp] at ih;rw [cF];simp only [bS,Bool.false_eq_true,if_false];exact ih
theorem DI.jobs (D : DI N k d L T) (hf : 95000 < f) (x : Int) : ∃ r,xm f d x = some r /\ ES r /\ r.Perm (ents x L) := by
 obtain ⟨L2,hp,e⟩ := D.out;have t := D.items.2.1;have u := D.nb;have hl2 := hp.length_eq;have i : (ents x L2).Perm (ents x L) := (hp.filter _).map _;have hle : (ents x L2).length <= 900 := by
  have : (ents x L2).length <= L2.length := by unfold ents; rw [lM]; exact List.length_filter_le _ _
  omega
 obtain ⟨r,l,h1,h2⟩ := kF (k := f) (by omega) (ents x L2) hle;refine ⟨r,?_,h1,h2.trans i⟩;unfold xm sw;rw [Pj.qI D.jp (by omega),e];simp only [bS];have := jv (x := x) D.jp (L2 := L2) (by omega) (fun j hj => (D.jl _ _).2 ⟨j,hp.mem_iff.1 hj,rfl,rfl⟩) (fun j hj => (D.wh2 _ _).2 ⟨j,hp.mem_iff.1 hj,rfl,rfl⟩) L2 [] [] f rfl (by omega) (by simp);rw [lM];rw [show ((([] : List JR).length : Nat) : Int) = 0 from rfl] at this;rw [this];simp only [bS,List.nil_append];rw [l]
 rfl
end
end
noncomputable section
set_option maxRecDepth 10000
theorem iS (a b : zg) : we a b = some (decide (elt a b)) := by
 unfold we;congr 1;by_cases h : elt a b
 ·rw [dT h];rcases h with h | ⟨h1,h2⟩
  ·rw [dT h]; rfl
  ·rw [dT h2]; simp [h1]
 ·rw [dF h];unfold elt at h;rw [Bool.or_eq_false_iff,Bool.and_eq_false_iff];refine ⟨dF (by omega),?_⟩;by_cases h1 : a.Key = b.Key
  ·exact Or.inr (dF (by omega))
  ·exact Or.inl (by simpa using h1)
theorem Ag {i : Int} {out l : List zg} {x : zg} (u : mIdx l i = some x) (y : out.length < 10000) : ∀ (n t : Nat) (hn : n <= out.length),n < t -> (∀ j (h1 : n <= j) (h : j < out.length),elt x out[j]) ->
  ∃ s : Nat,xH i out l t (n : Int) = some (s : Int) /\ s <= n /\ (∀ j (h1 : s <= j) (h : j < out.length),elt x out[j]) /\ (∀ h : 0 < s,∀ h2 : s - 1 < out.length,¬ elt x out[s - 1])
 | 0,t,hn,hf,ha => by
  obtain ⟨f,rfl⟩ : ∃ f,t = f + 1 := ⟨t - 1,by omega⟩
  refine ⟨0,?_,Nat.le_refl _,ha,fun h => by omega⟩;unfold xH
  rfl
 | n + 1,t,hn,hf,ha => by
  obtain ⟨f,rfl⟩ : ∃ f,t = f + 1 := ⟨t - 1,by omega⟩
  unfold xH;rw [dT (by omega),cT,u];simp only [bS];rw [zF (by omega) (by omega),show ((n + 1 : Nat) : Int) - 1 = (n : Int) by omega,dw (by omega)];simp only [bS];rw [iS];simp only [bS];by_cases h : elt x (out[n]'(by omega))
  ·rw [dT h,cT];obtain ⟨s,e,h1,h2,h3⟩ := Ag u y n f (by omega) (by omega) (fun j h1 hj => by
    rcases Nat.lt_or_eq_of_le h1 with h4 | h4
    ·exact ha j (by omega) hj
    ·subst h4; exact h)
   exact ⟨s,e,by omega,h2,h3⟩
  ·rw [dF h,cF];exact ⟨n + 1,rfl,Nat.le_refl _,ha,fun _ h2 => h⟩
theorem Af {l : List zg} (hl : l.length < 5000) : ∀ (rest pre out : List zg) (t : Nat),l = pre ++ rest -> 6000 + rest.length < t -> ES out -> out.Perm pre ->
  ∃ r,xG l t out (pre.length : Int) = some r /\ ES r /\ r.Perm l
 | [],pre,out,t,e,hf,B,hp => by
  obtain ⟨f,rfl⟩ : ∃ f,t = f + 1 := ⟨t - 1,by omega⟩
  refine ⟨out,?_,B,by rw [e,aN]; exact hp⟩;unfold xG;rw [dF (by rw [e]; simp),cF]
 | x :: rest,pre,out,t,e,hf,B,hp => by
  obtain ⟨f,rfl⟩ : ∃ f,t = f + 1 := ⟨t - 1,by omega⟩
  have hlen : l.length = pre.length + (rest.length + 1) := by rw [e]; simp
  simp only [lC] at hf;have U := hp.length_eq;have u : mIdx l (pre.length : Int) = some x := by rw [e]; exact yu pre rest x
  obtain ⟨s,es,h1,h2,h3⟩ := Ag (out := out) u (by omega) out.length f (Nat.le_refl _) (by omega) (fun j h1 h => by omega);unfold xG;rw [dT (by omega),cT,es];simp only [bS];have O : mCut out 0 (s : Int) = some (out.take s) := by
   unfold mCut;rw [if_pos ⟨by omega,by omega,by omega⟩];simp
  have S : mCut out (s : Int) (out.length : Int) = some (out.drop s) := by
   unfold mCut;rw [if_pos ⟨by omega,by omega,by omega⟩];rw [tN,tN,List.take_length]
  rw [O];simp only [bS];rw [u];simp only [bS];rw [S];simp only [bS];rw [yP (by simp; omega),List.nil_append];simp only [bS];rw [yP (by simp; omega)];simp only [bS];rw [yP (by simp; omega)];simp only [bS];rw [zF (by omega) (by omega)];have I : ES (out.take s ++ [x] ++ out.drop s) := by
   have z := B;rw [<- List.take_append_drop s out] at z;obtain ⟨p1,p2,W⟩ := List.pairwise_append.1 z;have X : ∀ y ∈ out.take s,¬ elt x y := by
    intro y A;obtain ⟨i,hi,rfl⟩ := List.mem_iff_getElem.1 A;simp only [List.length_take] at hi;rw [List.getElem_take];have t1 := qR B (i := i) (j := s - 1) (by omega) (by omega);have t2 := h3 (by omega) (by omega);exact sI t1 t2
   have qr : ∀ y ∈ out.drop s,elt x y := by
    intro y A;obtain ⟨i,hi,rfl⟩ := List.mem_iff_getElem.1 A;simp only [List.length_drop] at hi;rw [List.getElem_drop];exact h2 (s + i) (by omega) (by omega)
   rw [aA];refine List.pairwise_append.2 ⟨p1,List.pairwise_cons.2 ⟨fun y A => ?_,p2⟩,?_⟩
   ·have := qr y A; unfold elt at *; omega
   ·intro a ha b D;rcases List.mem_cons.1 D with rfl | D
    ·exact X a ha
    ·exact W a ha b D
  have F : (out.take s ++ [x] ++ out.drop s).Perm (pre ++ [x]) := by
   rw [aA,show [x] ++ out.drop s = x :: out.drop s from rfl];refine List.perm_middle.trans ?_;rw [List.take_append_drop];exact ((hp.cons x)).trans (List.perm_append_singleton x pre).symm
  obtain ⟨r,J,r1,r2⟩ := Af hl rest (pre ++ [x]) (out.take s ++ [x] ++ out.drop s) f (by rw [e]; simp) (by omega) I F;rw [show ((pre ++ [x]).length : Int) = (pre.length : Int) + 1 by simp] at J;exact ⟨r,J,r1,r2⟩
theorem bX {l : List zg} (hl : l.length < 5000) {f : Nat} (hf : 20000 < f) : ∃ r,w9 f l = some r /\ ES r /\ r.Perm l := by
 obtain ⟨r,e,h1,h2⟩ := Af hl l [] [] f rfl (by omega) List.Pairwise.nil (.refl _);refine ⟨r,?_,h1,h2⟩;unfold w9;rw [show ((([] : List zg).length : Nat) : Int) = 0 from rfl] at e;rw [e]
 rfl
end
end Go.Proofs.YtojpmaakhdmhmaaGreat
noncomputable section
namespace Go.Th
section
variable {H : Type} {en : TypeId × Value -> H} {P : Program} {w : World} {base : Nat} {spare : Nat -> Bool} {held : Bool}
end
theorem SlRd.sub {α : Type} {p : α -> Prop} {X : HP} {enc : α -> List Value} {sz : Nat} {sb : Option Addr} {l : List {z : α // p z}} (h : SlRd X (fun z => enc z.1) sz sb l) : SlRd X enc sz sb (l.map (·.1)) := by
 intro g e;rcases h g e with rfl | ⟨b,off,cs,T,fr,h1,h2,h3⟩
 ·exact .inl rfl
 ·refine .inr ⟨b,off,cs,T,fr,h1,h2,fun i hi => ?_⟩;rw [lM] at hi;rw [h3 i hi];simp [List.flatMap_map]
theorem wx.sub {α : Type} {p : α -> Prop} {enc : α -> List Value} {sz : Nat} (h : wx enc sz) : wx (fun z : {z : α // p z} => enc z.1) sz := ⟨fun x => h.len x.1,fun x => h.one x.1⟩
end Go.Th
namespace Go.Th
end Go.Th
namespace Go.Th
section
variable {H : Type} {en : TypeId × Value -> H} {P : Program} {w : World} {base : Nat} {spare : Nat -> Bool} {held : Bool}
end
end Go.Th
end
namespace Go.Proofs.YtojpmaakhdmhmaaGreat
open Go.Th
noncomputable section
set_option maxRecDepth 10000
theorem dK (r : zu) : zu.eq r r = true := by
 unfold zu.eq;rw [(vQ _ _).2 rfl];simp
section
variable {N : Nat} {k : Int} {L : List JR} {T : Nat} {f : Nat} {c : zE}
theorem DI.ser {d : za} (D : DI N k d L T) : 0 <= d.q.serial /\ d.q.serial <= T := by
 obtain ⟨h0,h1,Q,_⟩ := D.pq;exact Q.sq
theorem within (n lo hi : Int) (h : lo <= hi) (h0 : -1000000000000 <= lo) (h1 : hi <= 1000000000000) : ∃ v,xt n lo hi = some v /\ lo <= v /\ v <= hi := by
 unfold xt;cases e : (decide (n >= lo)) && (decide (n <= hi)) with
 | true =>
  rw [Bool.and_eq_true] at e;exact ⟨n,rfl,of_decide_eq_true e.1,of_decide_eq_true e.2⟩
 | false =>
  rw [cF,zF (x := hi - lo) (by omega) (by omega),zF (x := hi - lo + 1) (by omega) (by omega)];have hn : mNz (hi - lo + 1) = some () := by unfold mNz; rw [if_pos (by omega)]
  rw [hn];simp only [bS];have h2 := Int.tmod_lt_of_pos n (b := hi - lo + 1) (by omega);have h3 := Int.lt_tmod_of_pos n (b := hi - lo + 1) (by omega);by_cases hm : Int.tmod n (hi - lo + 1) < 0
  ·rw [dT hm,cT,zF (x := Int.tmod n (hi - lo + 1) + hi) (by omega) (by omega),zF (x := Int.tmod n (hi - lo + 1) + hi - lo) (by omega) (by omega),zF (x := Int.tmod n (hi - lo + 1) + hi - lo + 1) (by omega) (by omega)];simp only [bS];rw [zF (by omega) (by omega)];exact ⟨_,rfl,by omega,by omega⟩
  ·rw [dF hm,cF];simp only [bS];rw [zF (by omega) (by omega)];exact ⟨_,rfl,by omega,by omega⟩
end
section
variable {N : Nat} {L L' : List JR} {c : zE} {p p' : ze} {s s' now now' : Int} {rep : zu}
theorem how5 (h : How N p s now L c rep p' s' now' L') (hk : c.Kind = 5) (hq : c.Queue = 0 \/ c.Queue = 1) : now' = now /\
  ((rep = no 28 /\ L' = L /\ ∀ j ∈ L,j.q = c.Queue -> now < j.it.k) \/ ∃ A j B,rep = zu.mk 0 j.R j.it.k j.data 0 /\ L = A ++ j :: B /\ L' = A ++ B /\ j.q = c.Queue /\ j.it.k <= now /\ ∀ i ∈ L,i.q = c.Queue -> ¬ i.it.lt j.it) := by
 cases h with
 | idle _ _ hn => exact ⟨rfl,Or.inl ⟨rfl,rfl,hn⟩⟩
 | fire A j B _ _ _ eL hj hn hm _ => exact ⟨rfl,Or.inr ⟨A,j,B,rfl,eL,rfl,hj,hn,hm⟩⟩
 | bad _ e => exact absurd hq e
 | _ => omega
end
inductive Ran (N : Nat) (k : Int) : za -> List JR -> Nat -> List zE -> List zu -> za -> List JR -> Nat -> Prop
 | nil {d : za} {L : List JR} {T : Nat} (D : DI N k d L T) : Ran N k d L T [] [] d L T
 | cons {d d1 d' : za} {L L1 L' : List JR} {T T' : Nat} {c : zE} {cs : List zE} {rep : zu} {reps : List zu} (D : DI N k d L T) (G : Went N k d L T c rep d1 L1) (h : Ran N k d1 L1 (T + 1) cs reps d' L' T') : Ran N k d L T (c :: cs) (rep :: reps) d' L' T'
section
variable {N : Nat} {k : Int}
theorem Ran.last {d d' : za} {L L' : List JR} {T T' : Nat} {cs : List zE} {reps : List zu} (h : Ran N k d L T cs reps d' L' T') : DI N k d' L' T' /\ T' = T + cs.length /\ reps.length = cs.length := by
 induction h with
 | nil D => exact ⟨D,rfl,rfl⟩
 | cons D G h ih => exact ⟨ih.1,by rw [ih.2.1]; simp; omega,by simp [ih.2.2]⟩
end
structure Side (N : Nat) (k : Int) (d : za) (L : List JR) (T : Nat) (m : zf) : Prop where
 di : DI N k d L T
 ti : TI N d.t_.p d.q.serial d.clock.now L m
 nw : 0 <= d.clock.now /\ d.clock.now <= 9223372036854775807
section
variable {N : Nat} {k : Int} {d : za} {L : List JR} {T : Nat} {m : zf} {f : Nat}
theorem Side.do (S : Side N k d L T m) (j : T < 1000000) (hf : 95000 < f) {c : zE} (x : c.Time <= 9223372036854775807) :
  ∃ rep d' i L',yW f d c = some (rep,d') /\ zR f m c = some (rep,i) /\ Side N k d' L' (T + 1) i := by
 obtain ⟨⟨rep,d'⟩,t,L',G⟩ := S.di.do j hf c
 obtain ⟨⟨e,i⟩,u,h2,l,y,z,s1,s2⟩ := TI.do S.di j S.ti S.nw (by have := S.di.ser; omega) x hf G.how
 simp only at h2 G;subst h2;exact ⟨e,d',i,L',t,u,G.di,l,y,z⟩
end
section
variable {N : Nat} {L L' : List JR} {c : zE} {p p' : ze} {s s' now now' : Int} {rep : zu}
theorem how4 (h : How N p s now L c rep p' s' now' L') (hk : c.Kind = 4) : L' = L := by
 cases h with
 | back => rfl
 | go => rfl
 | _ => omega
end
end
noncomputable section
set_option maxRecDepth 10000
section
variable {N : Nat} {k : Int} {d : za} {L : List JR} {T : Nat} {f : Nat}
end
end
noncomputable section
set_option maxRecDepth 10000
section
variable {N : Nat} {k : Int}
section
variable {d : za} {L : List JR} {T f : Nat}
end
end
end
noncomputable section
set_option maxRecDepth 10000
theorem ft {f : Nat} (hf : 95000 < f) (i jobs : Int) : ∃ d m N k,wJ f i jobs = some (d,m) /\ Side N k d [] 2 m /\ d.clock.now = 0 /\ d.q.serial = 0 /\ xt jobs 1 60 = some (N : Int) /\ N <= 60 := by
 obtain ⟨k,ek,k1,k2⟩ := within i 1 3 (by omega) (by omega) (by omega);obtain ⟨j,e,u,x⟩ := within jobs 1 60 (by omega) (by omega) (by omega);obtain ⟨N,rfl⟩ : ∃ N : Nat,j = (N : Int) := ⟨j.toNat,by omega⟩
 obtain ⟨d,l,D,hn,hs,hp⟩ := DI.new (N := N) (k := k) hf (by unfold Kd; omega) (by omega) (by omega);have t : v8 (N : Int) = some (zf.mk (N : Int) 0 0 (zq.mk (N : Int) [] [] [] []) []) := by
  unfold v8 tO;rw [show (if 65536 < (N : Int) then 65536 else (N : Int)) = (N : Int) from if_neg (by omega),show (if (0 : Int) > (N : Int) then 0 else (N : Int)) = (N : Int) from if_neg (by omega)]
  rfl
 refine ⟨d,zf.mk (N : Int) 0 0 (zq.mk (N : Int) [] [] [] []) [],N,k,?_,⟨D,⟨rfl,hn.symm,hs.symm,?_,rfl⟩,by rw [hn]; omega⟩,hn,hs,e,by omega⟩
 ·unfold wJ;rw [e];simp only [bS];rw [ek];simp only [bS];rw [l];simp only [bS,ta,oS];rw [show ((0 : Int) != 0) = false from rfl,cF,t]
  rfl
 ·rw [hp]; exact ⟨rfl,rfl,rfl,rfl,rfl⟩
theorem db : ua 100000 = some true := by kernel_rfl
end
noncomputable section
set_option maxRecDepth 10000
theorem entry_eq (r : zg) : zg.eq r r = true := by unfold zg.eq; simp
theorem ir {a : List zg} (hl : a.length <= 1000000) : ∀ (rest pre : List zg) (f : Nat),a = pre ++ rest -> rest.length < f -> yz a a f (pre.length : Int) = some (.inr ())
 | [],pre,f + 1,e,hf => by
  unfold yz;rw [dF (by rw [e]; simp),cF]
 | y :: rest,pre,f + 1,e,hf => by
  have hlen : a.length = pre.length + (rest.length + 1) := by rw [e]; simp
  simp only [lC] at hf;have i : mIdx a (pre.length : Int) = some y := by rw [e]; exact yu pre rest y
  have ih := ir hl rest (pre ++ [y]) f (by rw [e]; simp) (by omega);rw [show ((pre ++ [y]).length : Int) = (pre.length : Int) + 1 by simp] at ih;unfold yz;rw [dT (by omega),cT,i];simp only [bS];rw [entry_eq,show (!true) = false from rfl,cF,zF (by omega) (by omega)];exact ih
theorem gn {a : List zg} (hl : a.length <= 1000) {f : Nat} (hf : 1000 < f) : y8 f a a = some true := by
 have := ir (a := a) (by omega) a [] f rfl (by omega);rw [show ((([] : List zg).length : Nat) : Int) = 0 from rfl] at this;unfold y8;rw [show ((a.length : Int) != (a.length : Int)) = false by simp,cF,this]
 rfl
section
variable {k : Int}
theorem A3 {N : Nat} {L L' : List JR} {c : zE} {p p' : ze} {s s' now now' : Int} {rep : zu} (h : How N p s now L c rep p' s' now' L') (hk : c.Kind = 1) (hq : c.Queue = 0 \/ c.Queue = 1) (hl : L.length < N) :
  now' = now /\ s' = s + 1 /\ ∃ j,L' = L ++ [j] /\ j.q = c.Queue /\ j.data = c.Data /\ j.it.k = c.Time /\ j.it.s = s := by
 cases h with
 | bad _ e => exact absurd hq e
 | full _ _ h => omega
 | sched j _ _ _ _ _ h1 h2 h3 h4 => exact ⟨rfl,rfl,j,rfl,h1,h2,h3,h4⟩
 | _ => omega
theorem dr {x : Int} {A B : List JR} {j : JR} (h : j.q = x) : (ents x (A ++ j :: B)).Perm (j.ent :: ents x (A ++ B)) := by
 unfold ents;rw [List.filter_append,List.filter_append,List.filter_cons,show (j.q == x) = true by simp [h],if_pos rfl,List.map_append,pC,List.map_append];exact List.perm_middle
end
theorem mW {s : zi} {x : Int} (hl : s.L.length <= 1000) (hn : ∀ e ∈ s.L,e.Serial ≠ x) : ∀ (rest pre : List zg) (f : Nat),s.L = pre ++ rest -> rest.length < f -> yJ x s f (pre.length : Int) = some (.inr ())
 | [],pre,f + 1,e,hf => by
  unfold yJ;rw [dF (by rw [e]; simp),cF]
 | y :: rest,pre,f + 1,e,hf => by
  have hlen : s.L.length = pre.length + (rest.length + 1) := by rw [e]; simp
  simp only [lC] at hf;have i : mIdx s.L (pre.length : Int) = some y := by rw [e]; exact yu pre rest y
  have ih := mW hl hn rest (pre ++ [y]) f (by rw [e]; simp) (by omega);rw [show ((pre ++ [y]).length : Int) = (pre.length : Int) + 1 by simp] at ih;have j := hn y (by rw [e]; simp);unfold yJ;rw [dT (by omega),cT,i];simp only [bS];rw [show (y.Serial == x) = false by simp [j],cF,zF (by omega) (by omega)];exact ih
theorem dM {s : zi} {x : Int} (hl : s.L.length <= 1000) (hn : ∀ e ∈ s.L,e.Serial ≠ x) {f : Nat} (hf : 1000 < f) : yK f s x = some (-1,s) := by
 have h := mW hl hn s.L [] f rfl (by omega);rw [show ((([] : List zg).length : Nat) : Int) = 0 from rfl] at h;unfold yK;rw [h]
 rfl
theorem sins {s : zi} {e : zg} (hl : s.L.length <= 1000) (hn : ∀ x ∈ s.L,x.Serial ≠ e.Serial) {f : Nat} (hf : 50000 < f) : ∃ r,yN f s e = some (true,zi.mk r) /\ ES r /\ r.Perm (s.L ++ [e]) := by
 unfold yN;rw [dM hl hn (by omega)];simp only [bS];rw [show decide ((-1 : Int) >= 0) = false from rfl,cF,yP (by simp; omega),List.nil_append];simp only [bS];rw [yP (by simp; omega)];simp only [bS];obtain ⟨r,i,r1,r2⟩ := bX (l := s.L ++ [e]) (by simp; omega) (f := f) (by omega);rw [i];exact ⟨r,rfl,r1,r2⟩
theorem spop {e : zg} {t : List zg} (hl : t.length <= 1000) {f : Nat} (hf : 1000 < f) : wO f (zi.mk (e :: t)) = some (e,true,zi.mk t) := by
 obtain ⟨m,rfl⟩ : ∃ m,f = m + 1 := ⟨f - 1,by omega⟩
 have h0 : mIdx (e :: t) (0 : Int) = some e := rfl;have j : yV (zi.mk (e :: t)) = some (e,true) := by
  unfold yV;rw [show (((zi.mk (e :: t)).L.length : Int) == 0) = false by rw [beq_eq_false_iff_ne]; simp only [lC]; omega,cF,h0]
  rfl
 have i : yK (m + 1) (zi.mk (e :: t)) e.Serial = some (0,zi.mk (e :: t)) := by
  unfold yK yJ;rw [dT (by simp only [lC]; omega),cT,h0];simp
 unfold wO;rw [j];simp only [bS,cT];unfold w2;rw [i];simp only [bS];rw [show decide ((0 : Int) < 0) = false from rfl,cF,h0];simp only [bS];have l : mCut (e :: t) 0 0 = some [] := by
  unfold mCut;rw [if_pos ⟨by omega,by omega,by simp only [lC]; omega⟩]
  rfl
 have u : mCut (e :: t) (w64 (0 + 1)) (((e :: t).length : Nat) : Int) = some t := by
  rw [zF (by omega) (by omega)];unfold mCut;rw [if_pos ⟨by omega,by simp only [lC]; omega,by omega⟩];simp
 rw [l];simp only [bS];rw [u];simp only [bS];rw [yP (by simp),aN];simp only [bS];rw [yP (by simp; omega),List.nil_append]
 rfl
structure Tq (N : Nat) (k : Int) (d : za) (L : List JR) (T : Nat) (s : zi) : Prop where
 di : DI N k d L T
 q : ∀ j ∈ L,j.q = 0 /\ j.data = j.it.s
 es : ES s.L
 pe : s.L.Perm (ents 0 L)
section
variable {N : Nat} {k : Int}
theorem s5 {L : List JR} (h : ∀ j ∈ L,j.q = 0) : ents 0 L = L.map JR.ent := by
 unfold ents;rw [List.filter_eq_self.2 fun j hj => by simp [h j hj]]
theorem A4 {L L' : List JR} {c : zE} {p p' : ze} {s s' now now' : Int} {rep : zu} (h : How N p s now L c rep p' s' now' L') (hk : c.Kind = 1) (hq : c.Queue = 0 \/ c.Queue = 1) (hl : L.length < N) : rep.Why = 0 := by
 cases h with
 | bad _ e => exact absurd hq e
 | full _ _ h => omega
 | sched => rfl
 | _ => omega
theorem Ah {st times : List Int} {m2 : zf} (O : N = 60) : ∀ (r i l : Nat) (s : zi) (d : za) (L : List JR) (T : Nat),50 = i + r -> 95001 + r < l -> Tq N k d L T s -> L.length = i -> d.q.serial = (i : Int) -> T <= 2 + i ->
  Do (xe st m2 times l (i : Int) s d) fun o => ∃ s' d',o = .inr (s',d') /\ ∃ L' T',Tq N k d' L' T' s' /\ T' <= 52 /\ L'.length <= 50
 | 0,i,l,s,d,L,T,h1,h2,H,B,hs,S => by
  obtain ⟨f,rfl⟩ : ∃ f,l = f + 1 := ⟨l - 1,by omega⟩
  unfold xe;refine Do.f (by rw [dF (p := (i : Int) < 50) (by omega),Bool.and_false]) ?_;exact ⟨_,rfl,s,d,rfl,L,T,H,by omega,by omega⟩
 | r + 1,i,l,s,d,L,T,h1,h2,H,B,hs,S => by
  obtain ⟨f,rfl⟩ : ∃ f,l = f + 1 := ⟨l - 1,by omega⟩
  unfold xe;refine Do.if (fun e => ?_) (fun e => ⟨_,rfl,s,d,rfl,L,T,H,by omega,by omega⟩)
  rw [Bool.and_eq_true] at e;have e1 := of_decide_eq_true e.1;obtain ⟨x,U⟩ : ∃ x,times[i]? = some x := ⟨_,List.getElem?_eq_getElem (by omega)⟩
  rw [yv,U];simp only [bS];obtain ⟨⟨rep,d'⟩,I,L',G⟩ := H.di.do (f := f) (by omega) (by omega) (zE.mk 1 0 (zd.mk 0 0) (Int.tmod x 100) i)
  obtain ⟨g1,g2,g3,j,rfl,X,Y,Z,D⟩ : rep.Why = 0 /\ d'.clock.now = d.clock.now /\ d'.q.serial = d.q.serial + 1 /\ ∃ j,L' = L ++ [j] /\ j.q = 0 /\ j.data = (i : Int) /\ j.it.k = Int.tmod x 100 /\ j.it.s = d.q.serial := by
   have hh := G.how;obtain ⟨a1,a2,a3⟩ := A3 hh rfl (Or.inl rfl) (by omega);exact ⟨A4 hh rfl (Or.inl rfl) (by omega),a1,a2,a3⟩
  rw [I];simp only [bS];rw [show (rep.Why != 0) = false by rw [g1]; rfl,cF];simp only [bS,cF];have hlen : s.L.length = i := by
   have := H.pe.length_eq;rw [s5 fun j hj => (H.q j hj).1,lM] at this;omega
  obtain ⟨rs,J,i1,i2⟩ := sins (s := s) (e := zg.mk (Int.tmod x 100) i) (by omega) (by
   intro y t;have A := H.pe.mem_iff.1 t;rw [s5 fun j hj => (H.q j hj).1] at A;obtain ⟨z,W,rfl⟩ := List.mem_map.1 A;have := (H.di.items.2.2.2 z W).2;show z.it.s ≠ (i : Int);omega) (f := f) (by omega)
  rw [J];simp only [bS];rw [zF (by omega) (by omega)];have u : ∀ y ∈ L ++ [j],y.q = 0 /\ y.data = y.it.s := by
   intro y t;rcases List.mem_append.1 t with h | h
   ·exact H.q y h
   ·rw [List.mem_singleton.1 h];exact ⟨X,by rw [Y,D,hs]⟩
  have := Ah (st := st) (times := times) (m2 := m2) O r (i + 1) f (zi.mk rs) d' (L ++ [j]) (T + 1) (by omega) (by omega) ⟨G.di,u,i1,by
   have F : ents 0 (L ++ [j]) = ents 0 L ++ [zg.mk (Int.tmod x 100) i] := by
    rw [s5 fun y t => (u y t).1,s5 fun y t => (H.q y t).1,List.map_append];congr 1;show [zg.mk j.it.k j.it.s] = _;rw [Z,D,hs]
   rw [F];exact i2.trans (H.pe.append (.refl _))⟩ (by simp [B]) (by rw [g3,hs]; simp) (by omega)
  rw [show ((i + 1 : Nat) : Int) = (i : Int) + 1 by simp] at this;exact this
theorem Aj {st times : List Int} {i2 : Int} {m8 : zf} : ∀ (r n z : Nat) (d : za) (s : zi) (L : List JR) (T : Nat),60 = n + r -> 95001 + r < z -> Tq N k d L T s -> T <= 10000 + n -> L.length <= 50 ->
  Do (xg st i2 m8 times z (n : Int) d s) fun o => ∃ d' s',o = .inr (d',s') /\ ∃ L' T',Tq N k d' L' T' s' /\ T' <= T + r + 1 /\ L'.length <= 50
 | 0,n,z,d,s,L,T,h1,h2,H,hT,u => by
  obtain ⟨f,rfl⟩ : ∃ f,z = f + 1 := ⟨z - 1,by omega⟩
  unfold xg;refine Do.f (dF (by omega)) ?_;exact ⟨_,rfl,d,s,rfl,L,T,H,by omega,u⟩
 | r + 1,n,z,d,s,L,T,h1,h2,H,hT,u => by
  obtain ⟨f,rfl⟩ : ∃ f,z = f + 1 := ⟨z - 1,by omega⟩
  unfold xg;refine Do.t (dT (by omega)) ?_;obtain ⟨⟨rep,d'⟩,eD,L',G⟩ := H.di.do (f := f) (by omega) (by omega) (zE.mk 5 0 (zd.mk 0 0) 0 0)
  obtain ⟨U,hh⟩ := how5 G.how rfl (Or.inl rfl);have X := G.di;simp only at U hh X;rw [eD];simp only [bS];have Z := s5 fun j hj => (H.q j hj).1
  have l := H.pe;rw [Z] at l;obtain ⟨W⟩ := s;simp only at l;have x : ES W := H.es;have stop : L' = L -> rep = no 28 -> Do ((bif true then bif !(zu.eq rep (zu.mk 28 (zd.mk 0 0) 0 0 0)) then some (.inl false) else some (.inr (d',zi.mk W)) else (none : Option (Bool ⊕ (za × zi))))) fun o => ∃ d' s',o = .inr (d',s') /\ ∃ L' T',Tq N k d' L' T' s' /\ T' <= T + (r + 1) + 1 /\ L'.length <= 50 := by
   rintro rfl rfl;rw [cT,show zu.eq (no 28) (zu.mk 28 (zd.mk 0 0) 0 0 0) = true from dK _,show (!true) = false from rfl,cF];exact ⟨_,rfl,d',zi.mk W,rfl,L',T + 1,⟨X,H.q,x,H.pe⟩,by omega,u⟩
  cases W with
  | nil =>
   have Y : L = [] := by
    cases L with
    | nil => rfl
    | cons j L => exact absurd l.length_eq (by simp)
   rw [show yV (zi.mk []) = some (zg.mk 0 0,false) from rfl];simp only [bS];rw [show (!false) = true from rfl,cT];simp only [bS];rcases hh with ⟨D,F,_⟩ | ⟨A,j,B,_,h3,_⟩
   ·have := stop F D;rw [cT] at this ⊢;exact this
   ·rw [Y] at h3;exact absurd (congrArg List.length h3) (by simp)
  | cons e t =>
   have S : yV (zi.mk (e :: t)) = some (e,true) := by
    unfold yV;rw [show (((zi.mk (e :: t)).L.length : Int) == 0) = false by rw [beq_eq_false_iff_ne]; simp only [lC]; omega,cF]
    rfl
   rw [S];simp only [bS];rw [show (!true) = false from rfl,cF];unfold wY uv;simp only [bS];obtain ⟨i,hi,J⟩ := List.mem_map.1 (l.mem_iff.1 (List.mem_cons_self ..));have a9 : e.Key = i.it.k := by rw [<- J]; rfl
   have a3 : t.length <= 1000 := by
    have := l.length_eq;rw [lM,lC] at this;omega
   have hle : ∀ y ∈ L,e.Key <= y.it.k := by
    intro y hy;rcases List.mem_cons.1 (l.mem_iff.2 (List.mem_map_of_mem (f := JR.ent) hy)) with h | h
    ·rw [<- h]; exact Int.le_refl _
    ·have h3 := (List.pairwise_cons.1 x).1 _ h;unfold elt JR.ent at h3;simp only at h3;omega
   by_cases hk : e.Key > d'.clock.now
   ·rw [dT hk];rcases hh with ⟨D,F,_⟩ | ⟨A,j,B,rfl,rfl,rfl,O,a1,hm⟩
    ·have := stop F D;rw [cT] at this ⊢;exact this
    ·exfalso;have := hle j (by simp);omega
   ·rw [dF hk,cF];rcases hh with ⟨_,_,a2⟩ | ⟨A,j,B,rfl,rfl,rfl,O,a1,hm⟩
    ·exfalso;have h1 := a2 i hi (H.q i hi).1;omega
    ·have a0 : j ∈ A ++ j :: B := by simp
     have I := H.pe.trans (dr O);simp only at I;have a4 : e = j.ent := by
      have h1 := hm i hi (H.q i hi).1;have h2 : j.ent ∈ e :: t := I.mem_iff.2 (List.mem_cons_self ..);rcases List.mem_cons.1 h2 with h2 | h2
      ·exact h2.symm
      ·have h3 := (List.pairwise_cons.1 x).1 _ h2;rw [<- J] at h3 ⊢;unfold It.lt at h1;unfold elt JR.ent at h3;unfold JR.ent;simp only at h3;congr 1 <;> omega
     subst a4;have hd := (H.q j a0).2;simp only;rw [show (((0 : Int) != 0) || ((j.it.k != j.ent.Key) || (j.data != j.ent.Serial))) = false by simp [JR.ent,hd],cF,spop a3 (by omega)];simp only [bS];rw [zF (by omega) (by omega)];have ih := Aj (st := st) (times := times) (i2 := i2) (m8 := m8) r (n + 1) f d' (zi.mk t) (A ++ B) (T + 1) (by omega) (by omega) ⟨X,fun y hy => H.q y (by
      rcases List.mem_append.1 hy with h | h
      ·exact mL _ h
      ·exact List.mem_append_right _ (mC _ h)),(List.pairwise_cons.1 x).2,I.cons_inv⟩ (by omega) (by simp only [lA,lC] at u ⊢; omega)
     rw [show ((n + 1 : Nat) : Int) = (n : Int) + 1 by simp] at ih;refine ih.mono ?_;rintro o ⟨d2,s2,rfl,L2,T2,q1,q2,q3⟩;exact ⟨d2,s2,rfl,L2,T2,q1,by omega,q3⟩
theorem Ai {st times : List Int} {m5 : zf} : ∀ (r i l : Nat) (s : zi) (d : za) (L : List JR) (T : Nat),20 = i + r -> 96001 + r < l -> Tq N k d L T s -> T <= 52 + 100 * i -> L.length <= 50 ->
  Do (xf st m5 times l (i : Int) s d) fun o => ∃ s' d',o = .inr (s',d') /\ ∃ L' T',Tq N k d' L' T' s' /\ L'.length <= 50
 | 0,i,l,s,d,L,T,h1,h2,H,I,j => by
  obtain ⟨f,rfl⟩ : ∃ f,l = f + 1 := ⟨l - 1,by omega⟩
  unfold xf;refine Do.f (by rw [dF (p := (i : Int) < 20) (by omega),Bool.and_false]) ?_;exact ⟨_,rfl,s,d,rfl,L,T,H,j⟩
 | r + 1,i,l,s,d,L,T,h1,h2,H,I,j => by
  obtain ⟨f,rfl⟩ : ∃ f,l = f + 1 := ⟨l - 1,by omega⟩
  unfold xf;refine Do.if (fun e => ?_) (fun e => ⟨_,rfl,s,d,rfl,L,T,H,j⟩)
  rw [Bool.and_eq_true] at e;have W := of_decide_eq_true e.1;obtain ⟨x,U⟩ : ∃ x,st[i]? = some x := ⟨_,List.getElem?_eq_getElem (by omega)⟩
  rw [yv,U];simp only [bS];have O := Int.tmod_lt_of_pos x (b := 30) (by omega);have S := Int.lt_tmod_of_pos x (b := 30) (by omega);have z : ∃ s1,(bif decide (Int.tmod x 30 < 0) then some (w64 (0 - (Int.tmod x 30))) else some (Int.tmod x 30)) = some s1 := by
   by_cases h : Int.tmod x 30 < 0
   ·rw [dT h,cT]; exact ⟨_,rfl⟩
   ·rw [dF h,cF]; exact ⟨_,rfl⟩
  obtain ⟨s1,t⟩ := z;rw [t];simp only [bS];obtain ⟨⟨rep,d'⟩,F,L',G⟩ := H.di.do (f := f) (by omega) (by omega) (zE.mk 4 0 (zd.mk 0 0) s1 0)
  have y : L' = L := how4 G.how rfl;subst y;have A := G.di;simp only at A;rw [F];simp only [bS];obtain ⟨o,eo,d2,s2,rfl,L2,D,B,J,u⟩ := Aj (st := st) (times := times) (i2 := (i : Int)) (m8 := m5) 60 0 f d' s L' (T + 1) (by omega) (by omega) ⟨A,H.q,H.es,H.pe⟩ (by omega) j;rw [show ((0 : Nat) : Int) = 0 from rfl] at eo;rw [eo];simp only [bS];rw [zF (by omega) (by omega)];have ih := Ai (st := st) (times := times) (m5 := m5) r (i + 1) f s2 d2 L2 D (by omega) (by omega) B (by omega) u;rw [show ((i + 1 : Nat) : Int) = (i : Int) + 1 by simp] at ih;exact ih
end
theorem topTimes_plain (A : Int) (times steps : List Int) : ∃ k,wD k A times steps = some true := by
 refine ⟨100000,?_⟩
 suffices h : Do (wD 100000 A times steps) fun r => r = true by
  obtain ⟨r,e,rfl⟩ := h;exact e
 obtain ⟨d,m,N,k,F,S,hn,hs,hw,_⟩ := ft (f := 100000) (by omega) A 60;have y : N = 60 := by
  have : xt 60 1 60 = some 60 := by decide
  rw [this] at hw;have := Option.some.inj hw;omega
 unfold wD;refine Do.seq F ?_;refine (Ah (N := N) (k := k) (st := steps) (times := times) (m2 := m) y 50 0 100000 (zi.mk []) d [] 2 (by omega) (by omega) ⟨S.di,by simp,List.Pairwise.nil,by simp [ents]⟩ rfl hs (by omega)).bind ?_;rintro _ ⟨s1,d1,rfl,L1,D,H1,O,x⟩;have hlen : xr d1 = some (L1.length : Int) := by
  unfold xr vM;rw [j7 H1.di]
  rfl
 have hle : s1.L.length = L1.length := by
  have := H1.pe.length_eq;rw [s5 fun j hj => (H1.q j hj).1,lM] at this;exact this
 refine Do.seq hlen (Do.f (by rw [hle]; simp) ?_);refine (Ai (N := N) (k := k) (st := steps) (times := times) (m5 := m) 20 0 100000 s1 d1 L1 D (by omega) (by omega) H1 (by omega) x).bind ?_;rintro _ ⟨s2,d2,rfl,L2,U,u,J⟩;obtain ⟨r,I,r1,r2⟩ := u.di.jobs (f := 100000) (by omega) 0;have z := fC r1 u.es (r2.trans u.pe.symm);have hl2 : r.length <= 1000 := by
  have := r2.length_eq;rw [s5 fun j hj => (u.q j hj).1,lM] at this;omega
 show Do (((xm 100000 d2 0).bind fun i => (y8 100000 i s2.L).bind fun l => bif l then (ua 100000).bind fun t => some t else some false).bind fun B => some B) _;rw [I];simp only [bS];rw [<- z,gn hl2 (by omega)];simp only [bS,cT];rw [db];exact ⟨_,rfl,rfl⟩
end
end Go.Proofs.YtojpmaakhdmhmaaGreat
namespace Go.Th
noncomputable section
structure Mx (T : Type) : Type where
 mix : Bool -> T -> T -> T
 h1 : ∀ x y,mix true x y = x
 h0 : ∀ x y,mix false x y = y
def mB : Mx Bool := ⟨cond,fun _ _ => rfl,fun _ _ => rfl⟩
def m2 {A B : Type} (a : Mx A) (b : Mx B) : Mx (A × B) := ⟨fun c x y => (a.mix c x.1 y.1,b.mix c x.2 y.2),fun x y => by rw [a.h1,b.h1],fun x y => by rw [a.h0,b.h0]⟩
inductive VC : Type -> Type 1
 | ret {R : Type} (o : Option R) : VC R
 | bind {R α : Type} (m : Option α) (k : α -> VC R) : VC R
 | ite {R : Type} (c : Bool) (x y : VC R) : VC R
 | frN {R : Type} (k : Nat -> VC R) : VC R
 | frA {R : Type} (k : Option Addr -> VC R) : VC R
 | req {R α : Type} (a b : α) (k : VC R) : VC R
 | join {R T : Type} (x : VC T) (k : T -> VC R) : VC R
 | cs {R A B : Type} (s : A ⊕ B) (x : A -> VC R) (y : B -> VC R) : VC R
 | both {R : Type} (u v : VC R) (vm : (Nat -> Nat × Option Addr) -> Option R) : VC R
 | grj {R T : Type} (x : VC T) (k : T -> VC R) : VC R
 | sel {R T : Type} (M : Mx T) (b : Bool) (x y : VC T) (k : T -> VC R) : VC R
def VC.valq : {T : Type} -> VC T -> Option T
 | _,.ret o => o
 | _,.req _ _ k => k.valq
 | _,.sel M b x y k => match x.valq,y.valq with
  | some s1,some s2 => (k (M.mix b s1 s2)).valq
  | _,_ => none
 | _,_ => none
abbrev Nm := Nat -> Nat × Option Addr
def Nm.tl (s : Nm) : Nm := fun i => s (i + 1)
def Nm.ev (s : Nm) : Nm := fun i => s (2 * i)
def Nm.od (s : Nm) : Nm := fun i => s (2 * i + 1)
def VC.modk : {T : Type} -> VC T -> {R : Type} -> (T -> Nm -> Option R) -> Nm -> Option R
 | _,.ret o,_,K,s => match o with
  | some x => K x s
  | none => none
 | _,.bind m k,_,K,s => m.bind fun x => (k x).modk K s
 | _,.ite c x y,_,K,s => bif c then x.modk K s else y.modk K s
 | _,.frN k,_,K,s => (k (s 0).1).modk K s.tl
 | _,.frA k,_,K,s => (k (s 0).2).modk K s.tl
 | _,.req _ _ k,_,K,s => k.modk K s
 | _,.join x k,_,K,s => (x.modk (fun y _ => some y) s.ev).bind fun y => (k y).modk K s.od
 | _,.cs z x y,_,K,s => match z with
  | .inl a => (x a).modk K s
  | .inr b => (y b).modk K s
 | _,.both u _ _,_,K,s => u.modk K s
 | _,.grj x k,_,K,s => x.modk (fun y s' => (k y).modk K s') s
 | _,.sel M b x y k,_,K,s => match x.valq,y.valq with
  | some s1,some s2 => (k (M.mix b s1 s2)).modk K s
  | _,_ => bif b then x.modk (fun y s' => (k y).modk K s') s else y.modk (fun y s' => (k y).modk K s') s
def VC.mod : {R : Type} -> VC R -> Nm -> Option R
 | _,.ret o,_ => o
 | _,.bind m k,s => m.bind fun x => (k x).mod s
 | _,.ite c x y,s => bif c then x.mod s else y.mod s
 | _,.frN k,s => (k (s 0).1).mod s.tl
 | _,.frA k,s => (k (s 0).2).mod s.tl
 | _,.req _ _ k,s => k.mod s
 | _,.join x k,s => (x.mod s.ev).bind fun y => (k y).mod s.od
 | _,.cs z x y,s => match z with
  | .inl a => (x a).mod s
  | .inr b => (y b).mod s
 | _,.both u _ _,s => u.mod s
 | _,.grj x k,s => x.modk (fun y s' => (k y).mod s') s
 | _,.sel M b x y k,s => match x.valq,y.valq with
  | some s1,some s2 => (k (M.mix b s1 s2)).mod s
  | _,_ => bif b then x.modk (fun y s' => (k y).mod s') s else y.modk (fun y s' => (k y).mod s') s
theorem VC.mod_eq : ∀ {R : Type} (v : VC R) (s : Nm),v.modk (fun y _ => some y) s = v.mod s
 | _,.ret o,s => by cases o <;> rfl
 | _,.bind m k,s => by
  simp only [VC.modk,VC.mod];congr 1;funext x;exact VC.mod_eq (k x) s
 | _,.ite c x y,s => by simp only [VC.modk,VC.mod,VC.mod_eq x,VC.mod_eq y]
 | _,.frN k,s => VC.mod_eq (k _) _
 | _,.frA k,s => VC.mod_eq (k _) _
 | _,.req _ _ k,s => VC.mod_eq k s
 | _,.join x k,s => by
  simp only [VC.modk,VC.mod,VC.mod_eq x];congr 1;funext y;exact VC.mod_eq (k y) _
 | _,.cs z x y,s => by
  cases z with
  | inl a => exact VC.mod_eq (x a) s
  | inr b => exact VC.mod_eq (y b) s
 | _,.both u _ _,s => VC.mod_eq u s
 | _,.grj x k,s => by
  simp only [VC.modk,VC.mod];congr 1;funext y s';exact VC.mod_eq (k y) s'
 | _,.sel M b x y k,s => by
  have e : (fun t (s' : Nm) => (k t).modk (fun z _ => some z) s') = fun t s' => (k t).mod s' := by
   funext t s';exact VC.mod_eq (k t) s'
  simp only [VC.modk,VC.mod,e];split
  ·exact VC.mod_eq (k _) s
  ·rfl
def VC.rfx : {R : Type} -> VC R -> VC R
 | _,.ret o => .ret o
 | _,.bind m k => .bind m fun x => (k x).rfx
 | _,.ite c x y => .ite c x.rfx y.rfx
 | _,.frN k => .frN fun r => (k r).rfx
 | _,.frA k => .frA fun r => (k r).rfx
 | _,.req a _ k => .req a a k.rfx
 | _,.join x k => .join x.rfx fun s => (k s).rfx
 | _,.cs s x y => .cs s (fun a => (x a).rfx) fun b => (y b).rfx
 | _,.both u v _ => .both u.rfx v.rfx u.mod
 | _,.grj x k => .grj x.rfx fun y => (k y).rfx
 | _,.sel M b x y k => .sel M b x.rfx y.rfx fun t => (k t).rfx
def VC.ok : {R : Type} -> VC R -> (R -> Prop) -> Prop
 | _,.ret o,Φ => ∃ x,o = some x /\ Φ x
 | _,.bind m k,Φ => ∃ x,m = some x /\ (k x).ok Φ
 | _,.ite c x y,Φ => (c = true -> x.ok Φ) /\ (c = false -> y.ok Φ)
 | _,.frN k,Φ => ∀ r,(k r).ok Φ
 | _,.frA k,Φ => ∀ r,(k r).ok Φ
 | _,.req a b k,Φ => a = b /\ k.ok Φ
 | _,.join x k,Φ => x.ok fun y => (k y).ok Φ
 | _,.cs z x y,Φ => (∀ a,z = .inl a -> (x a).ok Φ) /\ ∀ b,z = .inr b -> (y b).ok Φ
 | _,.both u v vm,Φ => u.ok Φ /\ (vm = v.mod -> v.ok Φ)
 | _,.grj x k,Φ => x.ok fun y => (k y).ok Φ
 | _,.sel M b x y k,Φ => (b = true -> x.ok fun t => (k t).ok Φ) /\ (b = false -> y.ok fun t => (k t).ok Φ)
def Nm.cons (x : Nat × Option Addr) (s : Nm) : Nm := fun i => match i with
 | 0 => x
 | i + 1 => s i
def Nm.mix (s t : Nm) : Nm := fun i => if i % 2 = 0 then s (i / 2) else t (i / 2)
theorem Nm.cc (s t : Nm) : (Nm.mix s t).ev = s := by
 funext i;have h1 : 2 * i % 2 = 0 := by omega
 have h2 : 2 * i / 2 = i := by omega
 simp [Nm.ev,Nm.mix,h1,h2]
theorem Nm.cd (s t : Nm) : (Nm.mix s t).od = t := by
 funext i;have h1 : ¬ (2 * i + 1) % 2 = 0 := by omega
 have h2 : (2 * i + 1) / 2 = i := by omega
 simp [Nm.od,Nm.mix,h1,h2]
theorem VC.mono : ∀ {R : Type} (v : VC R) {Φ Ψ : R -> Prop},(∀ x,Φ x -> Ψ x) -> v.ok Φ -> v.ok Ψ
 | _,.ret o,Φ,Ψ,h,hk => by
  obtain ⟨x,l,hp⟩ := hk;exact ⟨x,l,h x hp⟩
 | _,.bind m k,Φ,Ψ,h,hk => by
  obtain ⟨x,l,hp⟩ := hk;exact ⟨x,l,VC.mono (k x) h hp⟩
 | _,.ite c x y,Φ,Ψ,h,hk => ⟨fun j => VC.mono x h (hk.1 j),fun j => VC.mono y h (hk.2 j)⟩
 | _,.frN k,Φ,Ψ,h,hk => fun r => VC.mono (k r) h (hk r)
 | _,.frA k,Φ,Ψ,h,hk => fun r => VC.mono (k r) h (hk r)
 | _,.req a b k,Φ,Ψ,h,hk => ⟨hk.1,VC.mono k h hk.2⟩
 | _,.join x k,Φ,Ψ,h,hk => VC.mono x (Φ := fun y => (k y).ok Φ) (Ψ := fun y => (k y).ok Ψ) (fun y i => VC.mono (k y) h i) hk
 | _,.cs z x y,Φ,Ψ,h,hk => ⟨fun a ha => VC.mono (x a) h (hk.1 a ha),fun b t => VC.mono (y b) h (hk.2 b t)⟩
 | _,.both u v vm,Φ,Ψ,h,hk => ⟨VC.mono u h hk.1,fun e => VC.mono v h (hk.2 e)⟩
 | _,.grj x k,Φ,Ψ,h,hk => VC.mono x (Φ := fun y => (k y).ok Φ) (Ψ := fun y => (k y).ok Ψ) (fun y i => VC.mono (k y) h i) hk
 | _,.sel M b x y k,Φ,Ψ,h,hk => ⟨fun e => VC.mono x (Φ := fun y => (k y).ok Φ) (Ψ := fun y => (k y).ok Ψ) (fun y i => VC.mono (k y) h i) (hk.1 e),fun e => VC.mono y (Φ := fun y => (k y).ok Φ) (Ψ := fun y => (k y).ok Ψ) (fun y i => VC.mono (k y) h i) (hk.2 e)⟩
theorem VC.qz : ∀ {T : Type} (v : VC T) {P : T -> Prop} {s : T},v.ok P -> v.valq = some s -> P s
 | _,.ret o,P,s,h,e => by
  obtain ⟨x,j,hp⟩ := h;have i : o = some s := e;rw [j] at i; cases i; exact hp
 | _,.req _ _ k,P,s,h,e => VC.qz k h.2 e
 | _,.both _ _ _,P,s,h,e => by cases e
 | _,.sel M b x y k,P,s,h,e => by
  simp only [VC.valq] at e;split at e
  ·rename_i s1 s2 h1 h2;cases b with
   | true =>
    rw [M.h1] at e;exact VC.qz (k s1) (VC.qz x (h.1 rfl) h1) e
   | false =>
    rw [M.h0] at e;exact VC.qz (k s2) (VC.qz y (h.2 rfl) h2) e
  ·cases e
 | _,.bind _ _,P,s,h,e => by cases e
 | _,.ite _ _ _,P,s,h,e => by cases e
 | _,.frN _,P,s,h,e => by cases e
 | _,.frA _,P,s,h,e => by cases e
 | _,.join _ _,P,s,h,e => by cases e
 | _,.cs _ _ _,P,s,h,e => by cases e
 | _,.grj _ _,P,s,h,e => by cases e
theorem VC.qF : ∀ {T : Type} (v : VC T) {s : T},v = v.rfx -> v.valq = some s -> v.ok (· = s)
 | _,.ret o,s,i,e => ⟨s,e,rfl⟩
 | _,.req a b k,s,i,e => by
  simp only [VC.rfx,VC.req.injEq,heq_eq_eq,true_and] at i;exact ⟨i.1.symm,VC.qF k i.2 e⟩
 | _,.both _ _ _,s,h,e => by cases e
 | _,.sel M b x y k,s,i,e => by
  simp only [VC.rfx,VC.sel.injEq,heq_eq_eq,true_and] at i;simp only [VC.valq] at e;split at e
  ·rename_i s1 s2 h1 h2;refine ⟨fun j => ?_,fun j => ?_⟩
   ·subst j;rw [M.h1] at e;exact VC.mono x (fun t ht => by subst ht; exact VC.qF (k _) (congrFun i.2.2 _) e) (VC.qF x i.1 h1)
   ·subst j;rw [M.h0] at e;exact VC.mono y (fun t ht => by subst ht; exact VC.qF (k _) (congrFun i.2.2 _) e) (VC.qF y i.2.1 h2)
  ·cases e
 | _,.bind _ _,s,h,e => by cases e
 | _,.ite _ _ _,s,h,e => by cases e
 | _,.frN _,s,h,e => by cases e
 | _,.frA _,s,h,e => by cases e
 | _,.join _ _,s,h,e => by cases e
 | _,.cs _ _ _,s,h,e => by cases e
 | _,.grj _ _,s,h,e => by cases e
theorem VC.okk : ∀ {T : Type} (v : VC T) {R : Type} (K : T -> Nm -> Option R) (Ψ : R -> Prop),v.ok (fun y => ∀ s,∃ x,K y s = some x /\ Ψ x) -> ∀ s,∃ x,v.modk K s = some x /\ Ψ x
 | _,.ret o,_,K,Ψ,h,s => by
  obtain ⟨x,rfl,i⟩ := h;exact i s
 | _,.bind m k,_,K,Ψ,h,s => by
  obtain ⟨x,rfl,i⟩ := h;exact VC.okk (k x) K Ψ i s
 | _,.ite c x y,_,K,Ψ,h,s => by
  cases c with
  | true => exact VC.okk x K Ψ (h.1 rfl) s
  | false => exact VC.okk y K Ψ (h.2 rfl) s
 | _,.frN k,_,K,Ψ,h,s => VC.okk (k _) K Ψ (h _) _
 | _,.frA k,_,K,Ψ,h,s => VC.okk (k _) K Ψ (h _) _
 | _,.req a b k,_,K,Ψ,h,s => VC.okk k K Ψ h.2 s
 | _,.join x k,_,K,Ψ,h,s => by
  obtain ⟨y,e,h2⟩ := VC.okk x (fun y _ => some y) (fun y => (k y).ok fun z => ∀ s,∃ x,K z s = some x /\ Ψ x) (VC.mono x (fun y e s => ⟨y,rfl,e⟩) h) s.ev;obtain ⟨z,j,h3⟩ := VC.okk (k y) K Ψ h2 s.od;exact ⟨z,by simp only [VC.modk,e,bS,j],h3⟩
 | _,.cs z x y,_,K,Ψ,h,s => by
  cases z with
  | inl a => exact VC.okk (x a) K Ψ (h.1 a rfl) s
  | inr b => exact VC.okk (y b) K Ψ (h.2 b rfl) s
 | _,.both u v vm,_,K,Ψ,h,s => VC.okk u K Ψ h.1 s
 | _,.grj x k,_,K,Ψ,h,s => VC.okk x (fun y s' => (k y).modk K s') Ψ (VC.mono x (fun y e s => VC.okk (k y) K Ψ e s) h) s
 | _,.sel M b x y k,_,K,Ψ,h,s => by
  simp only [VC.modk];split
  ·rename_i s1 s2 h1 h2;cases b with
   | true =>
    rw [M.h1];exact VC.okk (k s1) K Ψ (VC.qz x (h.1 rfl) h1) s
   | false =>
    rw [M.h0];exact VC.okk (k s2) K Ψ (VC.qz y (h.2 rfl) h2) s
  ·cases b with
   | true => exact VC.okk x (fun y s' => (k y).modk K s') Ψ (VC.mono x (fun y e s => VC.okk (k y) K Ψ e s) (h.1 rfl)) s
   | false => exact VC.okk y (fun y s' => (k y).modk K s') Ψ (VC.mono y (fun y e s => VC.okk (k y) K Ψ e s) (h.2 rfl)) s
theorem VC.su : ∀ {T : Type} (v : VC T) {R : Type} (K : T -> Nm -> Option R) (Ψ : R -> Prop),v = v.rfx -> (∀ s,∃ x,v.modk K s = some x /\ Ψ x) -> v.ok (fun y => ∀ s,∃ x,K y s = some x /\ Ψ x)
 | _,.ret o,_,K,Ψ,_,h => by
  cases o with
  | none => obtain ⟨x,D,_⟩ := h fun _ => (0,none); cases D
  | some y => exact ⟨y,rfl,h⟩
 | _,.bind m k,_,K,Ψ,i,h => by
  obtain ⟨y,j,O⟩ := h fun _ => (0,none)
  simp only [VC.modk] at j;obtain ⟨x,D,-⟩ := Option.bind_eq_some_iff.1 j;refine ⟨x,D,VC.su (k x) K Ψ ?_ fun s => ?_⟩
  ·simp only [VC.rfx,VC.bind.injEq,heq_eq_eq,true_and] at i;exact congrFun i x
  ·obtain ⟨z,l,hp⟩ := h s;simp only [VC.modk,D,bS] at l;exact ⟨z,l,hp⟩
 | _,.ite c x y,_,K,Ψ,i,h => by
  simp only [VC.rfx,VC.ite.injEq,true_and] at i;refine ⟨fun F => VC.su x K Ψ i.1 fun s => ?_,fun F => VC.su y K Ψ i.2 fun s => ?_⟩
  ·obtain ⟨z,l,hp⟩ := h s;simp only [VC.modk,F,cT] at l;exact ⟨z,l,hp⟩
  ·obtain ⟨z,l,hp⟩ := h s;simp only [VC.modk,F,cF] at l;exact ⟨z,l,hp⟩
 | _,.frN k,_,K,Ψ,i,h => fun r => by
  simp only [VC.rfx,VC.frN.injEq] at i;refine VC.su (k r) K Ψ (congrFun i r) fun s => ?_
  exact h (Nm.cons (r,none) s)
 | _,.frA k,_,K,Ψ,i,h => fun r => by
  simp only [VC.rfx,VC.frA.injEq] at i;refine VC.su (k r) K Ψ (congrFun i r) fun s => ?_
  exact h (Nm.cons (0,r) s)
 | _,.req a b k,_,K,Ψ,i,h => by
  simp only [VC.rfx,VC.req.injEq,heq_eq_eq,true_and] at i;exact ⟨i.1.symm,VC.su k K Ψ i.2 fun s => by simpa only [VC.modk] using h s⟩
 | _,.join x k,_,K,Ψ,i,h => by
  simp only [VC.rfx,VC.join.injEq,heq_eq_eq,true_and] at i;show x.ok fun y => (k y).ok fun y => ∀ s,∃ x,K y s = some x /\ Ψ x
  refine VC.mono x (fun y j => ?_) (VC.su x (fun y _ => some y) (fun y => (k y).ok fun y => ∀ s,∃ x,K y s = some x /\ Ψ x) i.1 fun s => ?_)
  ·obtain ⟨z,l,h2⟩ := j fun _ => (0,none)
   cases l; exact h2
  ·obtain ⟨z,l,-⟩ := h (Nm.mix s fun _ => (0,none));simp only [VC.modk,Nm.cc,Nm.cd] at l;obtain ⟨y,j,-⟩ := Option.bind_eq_some_iff.1 l;refine ⟨y,j,VC.su (k y) K Ψ (congrFun i.2 y) fun t => ?_⟩;obtain ⟨z2,B,hp⟩ := h (Nm.mix s t);simp only [VC.modk,Nm.cc,Nm.cd,j,bS] at B;exact ⟨z2,B,hp⟩
 | _,.cs z x y,_,K,Ψ,i,h => by
  simp only [VC.rfx,VC.cs.injEq,heq_eq_eq,true_and] at i;refine ⟨fun a ha => VC.su (x a) K Ψ (congrFun i.1 a) fun s => ?_,fun b A => VC.su (y b) K Ψ (congrFun i.2 b) fun s => ?_⟩
  ·obtain ⟨u,hu,hp⟩ := h s;simp only [VC.modk,ha] at hu;exact ⟨u,hu,hp⟩
  ·obtain ⟨u,hu,hp⟩ := h s;simp only [VC.modk,A] at hu;exact ⟨u,hu,hp⟩
 | _,.both u v vm,_,K,Ψ,i,h => by
  simp only [VC.rfx,VC.both.injEq,heq_eq_eq,true_and] at i;have hu := VC.su u K Ψ i.1 h;refine ⟨hu,fun e => ?_⟩;have h2 := VC.su v (fun y _ => some y) (fun y => ∀ s,∃ x,K y s = some x /\ Ψ x) i.2.1 fun s => by
   have I : v.mod = u.mod := e.symm.trans i.2.2;have J : v.modk (fun y _ => some y) s = u.modk (fun y _ => some y) s := by rw [VC.mod_eq,VC.mod_eq]; exact congrFun I s
   rw [J];exact VC.okk u (fun y _ => some y) _ (VC.mono u (fun y j s => ⟨y,rfl,j⟩) hu) s
  refine VC.mono v (fun y j => ?_) h2;obtain ⟨z,l,h3⟩ := j fun _ => (0,none)
  cases l; exact h3
 | _,.grj x k,_,K,Ψ,i,h => by
  simp only [VC.rfx,VC.grj.injEq,heq_eq_eq,true_and] at i;exact VC.mono x (fun y j => VC.su (k y) K Ψ (congrFun i.2 y) j) (VC.su x (fun y s' => (k y).modk K s') Ψ i.1 h)
 | _,.sel M b x y k,_,K,Ψ,i,h => by
  simp only [VC.rfx,VC.sel.injEq,heq_eq_eq,true_and] at i;simp only [VC.modk] at h;split at h
  ·rename_i s1 s2 h1 h2;refine ⟨fun A => ?_,fun A => ?_⟩
   ·subst A;rw [M.h1] at h;exact VC.mono x (fun t ht => by subst ht; exact VC.su (k _) K Ψ (congrFun i.2.2 _) h) (VC.qF x i.1 h1)
   ·subst A;rw [M.h0] at h;exact VC.mono y (fun t ht => by subst ht; exact VC.su (k _) K Ψ (congrFun i.2.2 _) h) (VC.qF y i.2.1 h2)
  ·refine ⟨fun A => ?_,fun A => ?_⟩
   ·subst A;exact VC.mono x (fun y j => VC.su (k y) K Ψ (congrFun i.2.2 y) j) (VC.su x (fun y s' => (k y).modk K s') Ψ i.1 h)
   ·subst A;exact VC.mono y (fun y j => VC.su (k y) K Ψ (congrFun i.2.2 y) j) (VC.su y (fun y s' => (k y).modk K s') Ψ i.2.1 h)
theorem VC.good {R : Type} (v : VC R) (Φ : R -> Prop) (e : v = v.rfx) (h : ∀ s,∃ x,v.mod s = some x /\ Φ x) : v.ok Φ :=
 VC.mono v (fun y i => by obtain ⟨z,j,h3⟩ := i fun _ => (0,none); cases j; exact h3) (VC.su v (fun y _ => some y) Φ e fun s => by rw [VC.mod_eq]; exact h s)
structure ElD : Type 1 where
 α : Type
 enc : α -> List Value
 sz : Nat
 ok : wx enc sz
 dec : List Value -> Option α
structure MpD : Type 1 where
 K : Type
 V : Type
 ek : K -> Value
 ev : V -> Value
 dk : Value -> Option K
 dv : Value -> Option V
 eq : K -> K -> Bool
structure Ev : Type 1 where
 el : Nat -> ElD
 mp : Nat -> MpD
inductive Atom (E : Ev) : Type
 | blk (b : Nat) (T : TypeId) (cs : List Value)
 | sl (c : Nat) (T : TypeId) (sb : Option Addr) (sc : Nat) (l : List (E.el c).α)
 | mp (c : Nat) (r : Nat) (m : List ((E.mp c).K × (E.mp c).V))
def Atom.den {E : Ev} : Atom E -> HP
 | .blk b T cs => Blk b T cs
 | .sl c T sb sc l => Sl T (E.el c).enc (E.el c).sz sb sc l
 | .mp c r m => MpA r (E.mp c).ek (E.mp c).ev m
structure RdV (E : Ev) : Type where
 c : Nat
 sb : Option Addr
 sc : Nat
 l : List (E.el c).α
def RdV.holds {E : Ev} (F : List HP) (r : RdV E) : Prop := ∃ X ∈ F,SlRd X (E.el r.c).enc (E.el r.c).sz r.sb r.l /\ ∀ h,X h -> r.l.length <= r.sc
structure EfV (E : Ev) : Type where
 rdr : Bool
 c : Nat
 sb : Option Addr
 l : List (E.el c).α
 i : Int
 x : (E.el c).α
 b : Nat
 o : Nat
def EfV.holds {E : Ev} (F : List HP) (e : EfV E) : Prop :=
 e.sb = some ⟨e.b,e.o,none⟩ /\ mIdx e.l e.i = some e.x /\ (e.rdr = true -> ∃ X ∈ F,SlRd X (E.el e.c).enc (E.el e.c).sz e.sb e.l)
structure VwV (E : Ev) : Type where
 c : Nat
 sb : Option Addr
 sc : Nat
 l : List (E.el c).α
 lo : Option Int
 hi : Option Int
 sb' : Option Addr
 sc' : Nat
 r : List (E.el c).α
def loN : Option Int -> Nat
 | none => 0
 | some i => i.toNat
def loI : Option Int -> Int
 | none => 0
 | some i => i
def hiN (n : Nat) : Option Int -> Nat
 | none => n
 | some i => i.toNat
def hiI (n : Nat) : Option Int -> Int
 | none => (n : Int)
 | some i => i
def bndO (h : Nat) : Option Int -> List Ob
 | none => []
 | some i => [.p (0 <= i /\ i <= (h : Int))]
def VwV.holds {E : Ev} (v : VwV E) : Prop :=
 mCut v.l (loI v.lo) (hiI v.l.length v.hi) = some v.r /\ yA v.sb v.sc (loI v.lo).toNat (E.el v.c).sz = v.sb' /\ v.sc - (loI v.lo).toNat = v.sc' /\ v.l.length <= v.sc
inductive Mi (E : Ev) : Type
 | cut (v : VwV E)
 | opt (o : Option Int)
def Mi.holds {E : Ev} : Mi E -> Prop
 | .cut v => v.holds
 | .opt _ => True
structure Kn (E : Ev) : Type where
 L : Env
 As : List (Nat × Atom E)
 rd : List (Nat × RdV E)
 ef : List (Nat × EfV E)
 pr : List (Nat × Prop)
 vw : List (Nat × Mi E)
def getK {α : Type} (k : Nat) : List (Nat × α) -> Option α
 | [] => none
 | (j,x) :: r => match Nat.beq k j with
  | true => some x
  | false => getK k r
def p7 {α : Type} (k : Nat) : List (Nat × α) -> Option (α × List (Nat × α))
 | [] => none
 | (j,x) :: r => match Nat.beq k j with
  | true => some (x,r)
  | false => match p7 k r with
   | some (y,r') => some (y,(j,x) :: r')
   | none => none
def ko {α : Type} : List Nat -> List (Nat × α) -> Option (List α × List (Nat × α))
 | [],L => some ([],L)
 | k :: ks,L => match p7 k L with
  | none => none
  | some (x,L') => match ko ks L' with
   | none => none
   | some (xs,r) => some (x :: xs,r)
theorem xX {α : Type} {k : Nat} {x : α} : ∀ {L : List (Nat × α)},getK k L = some x -> ∃ j,(j,x) ∈ L
 | [],h => by cases h
 | (j,y) :: r,h => by
  simp only [getK] at h;split at h
  ·cases h; exact ⟨j,by simp⟩
  ·obtain ⟨i,hi⟩ := xX h; exact ⟨i,by simp [hi]⟩
theorem p8 {α : Type} {k : Nat} {x : α} : ∀ {L r : List (Nat × α)},p7 k L = some (x,r) -> (L.map (·.2)).Perm (x :: r.map (·.2))
 | [],r,h => by cases h
 | (j,y) :: L,r,h => by
  simp only [p7] at h;split at h
  ·cases h; exact List.Perm.refl _
  ·split at h
   ·rename_i z r' hp;cases h;have ih := p8 hp;simp only [pC];exact (ih.cons y).trans (List.Perm.swap _ _ _)
   ·cases h
theorem mR {α : Type} : ∀ {ks : List Nat} {L r : List (Nat × α)} {xs : List α},ko ks L = some (xs,r) -> (L.map (·.2)).Perm (xs ++ r.map (·.2))
 | [],L,r,xs,h => by simp [ko] at h; obtain ⟨rfl,rfl⟩ := h; exact List.Perm.refl _
 | k :: ks,L,r,xs,h => by
  simp only [ko] at h;split at h
  ·cases h
  ·rename_i x L' h1;split at h
   ·cases h
   ·rename_i e r' h2;cases h;exact (p8 h1).trans ((mR h2).cons x)
section
variable {E : Ev}
def dens (As : List (Nat × Atom E)) : List HP := (As.map (·.2)).map Atom.den
structure eZ (F : List HP) (st : Kn E) : Prop where
 rd : ∀ p ∈ st.rd,p.2.holds F
 ef : ∀ p ∈ st.ef,p.2.holds F
 pr : ∀ p ∈ st.pr,p.2
 vw : ∀ p ∈ st.vw,p.2.holds
structure KnOk (n : Nat) (w0 : World) (F : List HP) (st : Kn E) (a : Act) (w : World) : Prop where
 env : yc n a st.L
 hp : St w0 (dens st.As ++ F) w
 fs : eZ F st
theorem pM {ks : List Nat} {As r : List (Nat × Atom E)} {xs : List (Atom E)} (h : ko ks As = some (xs,r)) : (dens As).Perm (xs.map Atom.den ++ dens r) := by
 have := (mR h).map Atom.den;simpa [dens] using this
theorem ui {k : Nat} {As r : List (Nat × Atom E)} {x : Atom E} (h : p7 k As = some (x,r)) : (dens As).Perm (x.den :: dens r) := by
 have := (p8 h).map Atom.den;simpa [dens] using this
theorem uA {k : Nat} {As : List (Nat × Atom E)} {x : Atom E} (h : getK k As = some x) : x.den ∈ dens As := by
 obtain ⟨j,hj⟩ := xX h;simp only [dens,List.mem_map];exact ⟨x,⟨(j,x),hj,rfl⟩,rfl⟩
theorem St.mem {w0 w : World} {As : List HP} {A : HP} (H : St w0 As w) (h : A ∈ As) : ∃ i : Nat,As[i]? = some A := List.mem_iff_getElem?.1 h
inductive Src
 | C (q off : Nat)
 | A (e : Nat)
 | X (e q j : Nat)
 | R (e j : Nat)
 | Q (j : Nat)
 | W (j : Nat)
 | P (e q j : Nat)
abbrev SrcR (E : Ev) := List Value × List Ob × List (Atom E × Atom E)
def Src.get (st : Kn E) : Src -> Option (SrcR E)
 | .C q off => match getK q st.As with
  | some (.blk b T cs) => match cs[off]? with
   | some v => some ([v],[.cell ⟨b,off,none⟩ v],[])
   | none => none
  | _ => none
 | .A e => match getK e st.ef with
  | some f => some ([.pointer (some ⟨f.b,f.o,none⟩)],[.p (f.sb = some ⟨f.b,f.o,none⟩),.p (0 <= f.i /\ f.i < ((f.l.length : Nat) : Int))],[])
  | none => none
 | .X e q j => match getK e st.ef,getK q st.As with
  | some f,some (.sl c' T sb sc l) => match ((E.el f.c).enc f.x)[j]? with
   | some v => some ([v],[.cell ⟨f.b,f.o + f.i.toNat * (E.el f.c).sz + j,none⟩ v],[(.sl c' T sb sc l,.sl f.c T f.sb sc f.l)])
   | none => none
  | _,_ => none
 | .R e j => match getK e st.ef with
  | some f => match f.rdr,((E.el f.c).enc f.x)[j]? with
   | true,some v => some ([v],[.cell ⟨f.b,f.o + f.i.toNat * (E.el f.c).sz + j,none⟩ v],[])
   | _,_ => none
  | none => none
 | .Q j => match getK j st.pr with
  | some p => some ([],[.p p],[])
  | none => none
 | .P e q j => match getK e st.ef,getK q st.As with
  | some f,some (.blk b T cs) => match ((E.el f.c).enc f.x)[j]?,Nat.ble f.o cs.length with
   | some v,true => some ([v],[.cell ⟨f.b,f.o + f.i.toNat * (E.el f.c).sz + j,none⟩ v],[(.blk b T cs,.blk f.b T (cs.take f.o ++ (f.l.flatMap (E.el f.c).enc ++ cs.drop (f.o + f.l.length * (E.el f.c).sz))))])
   | _,_ => none
  | _,_ => none
 | .W j => match getK j st.vw with
  | some (.cut v) => some ([.slice v.sb' v.r.length v.sc'],.p (yA v.sb v.sc (loN v.lo) (E.el v.c).sz = v.sb') :: .p (hiN v.l.length v.hi - loN v.lo = v.r.length) :: .p (v.sc - loN v.lo = v.sc') :: (bndO v.sc v.hi ++ bndO (hiN v.l.length v.hi) v.lo),[])
  | _ => none
def srcs (st : Kn E) : List Src -> Option (SrcR E)
 | [] => some ([],[],[])
 | s :: r => match s.get st,srcs st r with
  | some (a,b,c),some (x,y,z) => some (a ++ x,b ++ y,c ++ z)
  | _,_ => none
theorem ju {α : Type} {l : List α} {i : Int} {x : α} (h : mIdx l i = some x) : 0 <= i /\ i < ((l.length : Nat) : Int) := by
 unfold mIdx at h;split at h
 ·rename_i h0;have := (List.getElem?_eq_some_iff.1 h).1;omega
 ·cases h
theorem bD (o : Option Int) : (loI o).toNat = loN o := by cases o <;> rfl
theorem aK (n : Nat) (o : Option Int) : (hiI n o).toNat = hiN n o := by cases o <;> simp [hiI,hiN]
theorem VwV.obs {v : VwV E} (h : v.holds) (w : World) : xJ w (.p (yA v.sb v.sc (loN v.lo) (E.el v.c).sz = v.sb') :: .p (hiN v.l.length v.hi - loN v.lo = v.r.length) :: .p (v.sc - loN v.lo = v.sc') :: (bndO v.sc v.hi ++ bndO (hiN v.l.length v.hi) v.lo)) := by
 obtain ⟨h1,h2,h3,h4⟩ := h;refine ⟨by rw [<- bD]; exact h2,?_,by show v.sc - loN v.lo = v.sc'; rw [<- bD]; exact h3,?_⟩
 ·show hiN _ _ - loN _ = _;rw [<- bD,<- aK]; exact qs h1
 ·rw [wo];constructor
  ·cases hh : v.hi with
   | none => trivial
   | some i => rw [hh] at h1; exact ⟨jo h1 h4,trivial⟩
  ·cases hl : v.lo with
   | none => trivial
   | some i =>
    rw [hl] at h1;refine ⟨?_,trivial⟩;have := dQ h1;rw [aK] at this;exact this
theorem Src.sound {n : Nat} {w0 w : World} {F : List HP} {st : Kn E} {a : Act} (t : KnOk n w0 F st a w) {s : Src} {J : List Value} {obs : List Ob} {eqs : List (Atom E × Atom E)} (h : s.get st = some (J,obs,eqs))
  (he : ∀ p ∈ eqs,p.1 = p.2) : xJ w obs := by
 cases s with
 | C q off =>
  simp only [Src.get] at h;split at h
  ·rename_i b T cs hq;split at h
   ·rename_i v hv;cases h;obtain ⟨i,hi⟩ := t.hp.mem (mL F (uA hq));exact ⟨t.hp.cell i hi hv,trivial⟩
   ·cases h
  ·cases h
 | A e =>
  simp only [Src.get] at h;split at h
  ·rename_i f hf;cases h;obtain ⟨j,hj⟩ := xX hf;obtain ⟨h1,h2,_⟩ := t.fs.ef _ hj;exact ⟨h1,ju h2,trivial⟩
  ·cases h
 | X e q j =>
  simp only [Src.get] at h;split at h
  ·rename_i f c T sb sc l hf hq;split at h
   ·rename_i v hv;cases h;obtain ⟨B,hj⟩ := xX hf;obtain ⟨h1,h2,_⟩ := t.fs.ef _ hj;have y := he _ (List.mem_singleton.2 rfl);simp only at y;have hm := uA hq;rw [y] at hm;obtain ⟨i,hi⟩ := t.hp.mem (mL F hm);exact ⟨SlRd.cells (w1 T (E.el f.c).enc (E.el f.c).sz f.sb sc f.l) (E.el f.c).ok t.hp i hi h1 h2 j v hv,trivial⟩
   ·cases h
  ·cases h
 | R e j =>
  simp only [Src.get] at h;split at h
  ·rename_i f hf;split at h
   ·rename_i v S hv;cases h;obtain ⟨B,hj⟩ := xX hf;obtain ⟨h1,h2,h3⟩ := t.fs.ef _ hj;obtain ⟨X,hX,h4⟩ := h3 S;obtain ⟨i,hi⟩ := t.hp.mem (List.mem_append_right _ hX);exact ⟨h4.cells (E.el f.c).ok t.hp i hi h1 h2 j v hv,trivial⟩
   ·cases h
  ·cases h
 | Q j =>
  simp only [Src.get] at h;split at h
  ·rename_i p hp;cases h;obtain ⟨B,hj⟩ := xX hp;exact ⟨t.fs.pr _ hj,trivial⟩
  ·cases h
 | P e q j =>
  simp only [Src.get] at h;split at h
  ·rename_i f b T cs hf hq;split at h
   ·rename_i v hv hle;cases h;obtain ⟨B,hj⟩ := xX hf;obtain ⟨h1,h2,_⟩ := t.fs.ef _ hj;have y := he _ (List.mem_singleton.2 rfl);simp only at y;have hm := uA hq;rw [y] at hm;obtain ⟨i,hi⟩ := t.hp.mem (mL F hm);refine ⟨t.hp.cell i hi ?_,trivial⟩;have I : j < (E.el f.c).sz := by
     have := (List.getElem?_eq_some_iff.1 hv).1
     rwa [(E.el f.c).ok.len] at this
    have hlen : (cs.take f.o).length = f.o := by rw [List.length_take]; exact Nat.min_eq_left (Nat.le_of_ble_eq_true hle)
    have O : 0 <= f.i /\ f.i < ((f.l.length : Nat) : Int) := ju h2;have z : f.l[f.i.toNat]? = some f.x := tD h2;have u : f.i.toNat < f.l.length := by omega
    rw [List.getElem?_append_right (by rw [hlen]; omega),hlen];have hk : f.o + f.i.toNat * (E.el f.c).sz + j - f.o = f.i.toNat * (E.el f.c).sz + j := by omega
    rw [hk];have D := yr (E.el f.c).ok f.l;have h3 : f.i.toNat + 1 <= f.l.length := u;have h4 := Nat.mul_le_mul_right (E.el f.c).sz h3;rw [Nat.succ_mul] at h4;rw [List.getElem?_append_left (by rw [D]; omega),uT (E.el f.c).ok f.l _ _ u I];rw [List.getElem?_eq_getElem u] at z;rw [Option.some.inj z];exact hv
   ·cases h
  ·cases h
 | W j =>
  simp only [Src.get] at h;split at h
  ·rename_i v hv;cases h;obtain ⟨B,hj⟩ := xX hv;exact VwV.obs (t.fs.vw _ hj) w
  ·cases h
theorem tv {n : Nat} {w0 w : World} {F : List HP} {st : Kn E} {a : Act} (i : KnOk n w0 F st a w) : ∀ {l : List Src} {e : List Value} {obs : List Ob} {eqs : List (Atom E × Atom E)},srcs st l = some (e,obs,eqs) ->
  (∀ p ∈ eqs,p.1 = p.2) -> xJ w obs
 | [],e,obs,eqs,h,_ => by simp [srcs] at h; obtain ⟨_,rfl,_⟩ := h; trivial
 | s :: r,e,obs,eqs,h,he => by
  simp only [srcs] at h;split at h
  ·rename_i j t c' x y z h1 h2;cases h;rw [wo];exact ⟨Src.sound i h1 fun p hp => he p (mL _ hp),tv i h2 fun p hp => he p (List.mem_append_right _ hp)⟩
  ·cases h
theorem mE {l : List (Atom E × Atom E)} (h : l.map (·.1) = l.map (·.2)) : ∀ p ∈ l,p.1 = p.2 := by
 induction l with
 | nil => simp
 | cons x l ih =>
  simp only [pC,List.cons.injEq] at h;intro p hp;cases hp with
  | head => exact h.1
  | tail _ hm => exact ih h.2 p hm
structure Con (E : Ev) : Type 1 where
 fid : Nat
 I : Type
 T : Type
 rd : List Value -> List (Atom E) -> Option I
 args : I -> List Value
 ats : I -> List (Atom E)
 rds : I -> List (RdV E)
 model : I -> Option T
 nN : Nat
 nA : Nat
 val : I -> T -> List Nat -> List (Option Addr) -> Value
 post : I -> T -> List Nat -> List (Option Addr) -> List (Atom E)
 opt : I -> T -> Option (Option Int)
 fx : I -> T -> List Prop
 br : Bool
 M : Type
 om : I -> T -> Option M
 nf : Nat
 val1 : I -> T -> M -> List Nat -> List (Option Addr) -> Value
 post1 : I -> T -> M -> List Nat -> List (Option Addr) -> List (Atom E)
def Con.valA (C : Con E) (i : C.I) (t : C.T) (j : List Nat) (e : List (Option Addr)) : Value := match C.br with
 | false => C.val i t j e
 | true => match C.om i t with
  | none => C.val i t j e
  | some m => C.val1 i t m j e
def Con.jD (C : Con E) (i : C.I) (t : C.T) (j : List Nat) (e : List (Option Addr)) : List (Atom E) := match C.br with
 | false => C.post i t j e
 | true => match C.om i t with
  | none => C.post i t j e
  | some m => C.post1 i t m j e
def Con.A9 (C : Con E) (i : C.I) (t : C.T) (keys : List Nat) : List Nat := match C.br with
 | false => keys
 | true => match C.om i t with
  | none => keys.drop C.nf
  | some _ => keys
def Con.Sound (C : Con E) (P : Program) : Prop := ∀ (i : C.I) (t : C.T),C.model i = some t -> ∀ (w0 w : World) (F : List HP),(∀ r ∈ C.rds i,r.holds F) -> St w0 ((C.ats i).map Atom.den ++ F) w ->
 xI P C.fid (C.args i).toArray w fun v w' => ∃ j e,j.length = C.nN /\ e.length = C.nA /\ v = C.valA i t j e /\ St w0 ((C.jD i t j e).map Atom.den ++ F) w' /\ ∀ p ∈ C.fx i t,p
structure SCon (E : Ev) (P : Program) : Type 1 where
 C : Con E
 snd : C.Sound P
 ent : ∀ args w,(callFunc C.fid args).run P w = .ok (.enter C.fid args) w
def frNs {R : Type} : Nat -> (List Nat -> VC R) -> VC R
 | 0,k => k []
 | n + 1,k => .frN fun r => frNs n fun l => k (r :: l)
def frAs {R : Type} : Nat -> (List (Option Addr) -> VC R) -> VC R
 | 0,k => k []
 | n + 1,k => .frA fun r => frAs n fun l => k (r :: l)
theorem pX {R : Type} {Φ : R -> Prop} : ∀ (l : List Nat) (k : List Nat -> VC R),(frNs l.length k).ok Φ -> (k l).ok Φ
 | [],k,h => h
 | r :: l,k,h => pX l (fun l => k (r :: l)) (h r)
theorem pU {R : Type} {Φ : R -> Prop} : ∀ (l : List (Option Addr)) (k : List (Option Addr) -> VC R),(frAs l.length k).ok Φ -> (k l).ok Φ
 | [],k,h => h
 | r :: l,k,h => pU l (fun l => k (r :: l)) (h r)
def VC.fail {R : Type} : VC R := .ret none
theorem VC.zw {R : Type} {Φ : R -> Prop} (h : (VC.fail : VC R).ok Φ) : False := by
 obtain ⟨x,e,_⟩ := h;cases e
end
end
noncomputable section
section
variable {E : Ev} {P : Program}
structure HpOk (w0 : World) (F : List HP) (st : Kn E) (w : World) : Prop where
 hp : St w0 (dens st.As ++ F) w
 fs : eZ F st
theorem KnOk.hk {n : Nat} {w0 w : World} {F : List HP} {st : Kn E} {a : Act} (h : KnOk n w0 F st a w) : HpOk w0 F st w := ⟨h.hp,h.fs⟩
def l6 (c : Nat) {c' : Nat} (l : List (E.el c').α) : Option (List (E.el c).α) :=
 match Nat.decEq c' c with
 | isTrue h => some (h ▸ l)
 | isFalse _ => none
def fp (D : ElD) : Nat -> List Value -> Option (List D.α)
 | 0,_ => some []
 | n + 1,cs => match D.dec (cs.take D.sz),fp D n (cs.drop D.sz) with
  | some x,some r => some (x :: r)
  | _,_ => none
def ow : Op -> Option (Builtin × List Operand × List TypeId)
 | .call { callee := .builtin b,args,argTypes } => some (b,args.toList,argTypes.toList)
 | _ => none
theorem oK {op : Op} {b : Builtin} {l : List Operand} {e : List TypeId} (h : ow op = some (b,l,e)) : op = .call { callee := .builtin b,args := l.toArray,argTypes := e.toArray } := by
 unfold ow at h;split at h
 ·cases h; simp
 ·cases h
structure EqD (P : Program) : Type 1 where
 α : Type
 t : TypeId
 val : α -> Array Value
 dec : Value -> Option α
 eq : α -> α -> Bool
 ok : ∀ x y,mg P t (val x) (val y) (eq x y)
inductive ASrc
 | K (q : Nat)
 | R (q : Nat)
 | O (q : Nat)
 | W (v q : Nat)
def ASrc.keys : List ASrc -> List Nat
 | [] => []
 | .K q :: r => q :: keys r
 | _ :: r => keys r
def qm (rd : List (Nat × RdV E)) (rest : List (Nat × Atom E)) : List ASrc -> List (Atom E) -> Option (List (Atom E) × List (RdV E))
 | [],_ => some ([],[])
 | .K _ :: r,a :: ats => match qm rd rest r ats with
  | some (x,y) => some (a :: x,y)
  | none => none
 | .K _ :: _,[] => none
 | .R q :: r,ats => match getK q rd with
  | some v => match qm rd rest r ats with
   | some (x,y) => some (.sl v.c 0 v.sb v.sc v.l :: x,v :: y)
   | none => none
  | none => none
 | .O q :: r,ats => match getK q rest with
  | some (.sl c T sb sc l) => match qm rd rest r ats with
   | some (x,y) => some (.sl c T sb sc l :: x,⟨c,sb,sc,l⟩ :: y)
   | none => none
  | _ => none
 | .W _ _ :: _,_ => none
def zipK {α : Type} : List Nat -> List α -> Option (List (Nat × α))
 | [],[] => some []
 | k :: ks,x :: xs => match zipK ks xs with
  | some r => some ((k,x) :: r)
  | none => none
 | _,_ => none
theorem iB {α : Type} : ∀ {ks : List Nat} {xs : List α} {r : List (Nat × α)},zipK ks xs = some r -> r.map (·.2) = xs
 | [],[],r,h => by simp [zipK] at h; subst h; rfl
 | k :: ks,x :: xs,r,h => by
  simp only [zipK] at h;split at h
  ·rename_i r' e; cases h; simp [iB e]
  ·cases h
 | [],_ :: _,r,h => by simp [zipK] at h
 | _ :: _,[],r,h => by simp [zipK] at h
inductive Stp (E : Ev) (P : Program) : Type 1
 | seg (c : Nat) (l : List Src)
 | new (q : Nat) (l : List Src)
 | sto (q : Nat)
 | call (C : SCon E P) (l : List ASrc) (out : List Nat)
 | idx (rdr : Bool) (q : Nat) (x : Operand) (e : Nat)
 | gd (k : Nat) (x : Operand) (j : Nat)
 | idk (rdr : Bool) (q : Nat) (x : Operand) (e : Nat)
 | rlc (e q off : Nat)
 | rls (e t : Nat)
 | nil (q c : Nat) (T : TypeId)
 | bld (q c : Nat) (T : TypeId)
 | app (q : Nat) (s : ASrc)
 | sset (q e j : Nat)
 | mk (q c : Nat) (T : TypeId)
 | eqs (D : EqD P)
 | mnew (q c : Nat)
 | mget (q c : Nat) (kt : TypeId) (hk : sE P kt (E.mp c).ek (E.mp c).eq) (z : (E.mp c).V)
 | mput (q c : Nat) (kt : TypeId) (hk : sE P kt (E.mp c).ek (E.mp c).eq)
 | mdel (q c : Nat) (kt : TypeId) (hk : sE P kt (E.mp c).ek (E.mp c).eq)
 | cut (rdr : Bool) (q : Nat) (lo hi : Option Operand) (v : Nat)
 | own (v q : Nat)
 | el (t e : Nat)
 | same (q m : Nat)
 | rlp (t q : Nat)
 | rlq (b off q : Nat)
 | pix (q off n c : Nat) (x : Operand) (e : Nat)
def iT (c : Nat) {c' : Nat} (l : List ((E.mp c').K × (E.mp c').V)) : Option (List ((E.mp c).K × (E.mp c).V)) :=
 match Nat.decEq c' c with
 | isTrue h => some (h ▸ l)
 | isFalse _ => none
def gq (rd : List (Nat × RdV E)) (vw : List (Nat × Mi E)) (rest : List (Nat × Atom E)) : ASrc -> Option (RdV E × List (Atom E × Atom E))
 | .K _ => none
 | .R q => match getK q rd with
  | some r => some (r,[])
  | none => none
 | .O q => match getK q rest with
  | some (.sl c T sb sc l) => some (⟨c,sb,sc,l⟩,[])
  | _ => none
 | .W v q => match getK v vw,getK q rest with
  | some (.cut u),some (.sl c T sb sc l) => some (⟨u.c,u.sb',u.sc',u.r⟩,[(.sl c T sb sc l,.sl u.c T u.sb u.sc u.l)])
  | _,_ => none
def vwO (o : Option (Option Int)) (l : List (Nat × Mi E)) : List (Nat × Mi E) := match o with
 | some x => (77,.opt x) :: l
 | none => l
theorem Ak {o : Option (Option Int)} {l : List (Nat × Mi E)} (h : ∀ p ∈ l,p.2.holds) : ∀ p ∈ vwO o l,p.2.holds := by
 cases o with
 | none => exact h
 | some x =>
  intro p hp;cases hp with
  | head => trivial
  | tail _ hm => exact h p hm
def fxP : List Prop -> List (Nat × Prop) -> List (Nat × Prop)
 | [],l => l
 | p :: r,l => (78,p) :: fxP r l
theorem dV {l : List (Nat × Prop)} (h : ∀ p ∈ l,p.2) : ∀ {fx : List Prop},(∀ p ∈ fx,p) -> ∀ p ∈ fxP fx l,p.2
 | [],_ => h
 | q :: r,hf => fun p hp => by
  cases hp with
  | head => exact hf q (List.mem_cons_self ..)
  | tail _ hm => exact dV h (fun x e => hf x (mC _ e)) p hm
def outK {R : Type} (out : List Nat) (l : List (Atom E)) (K : List (Nat × Atom E) -> VC R) : VC R := match zipK out l with
 | some new => K new
 | none => .fail
theorem bL {R : Type} {out : List Nat} {l : List (Atom E)} {K : List (Nat × Atom E) -> VC R} {Φ : R -> Prop} (h : (outK out l K).ok Φ) : ∃ new,new.map (·.2) = l /\ (K new).ok Φ := by
 unfold outK at h;split at h
 ·rename_i new e; exact ⟨new,iB e,h⟩
 ·exact (VC.zw h).elim
def jQ (L : Env) (x : Operand) : Option (Nat × List Value) := match x with
 | .func g => some (g,[])
 | y => match evO L y with
  | some (.func (.func g) ⟨[]⟩ ⟨cs⟩) => some (g,cs)
  | _ => none
def actO {R : Type} (o : Oper) (st : Kn E) (s : Stp E P) (K : Value -> Kn E -> VC R) : VC R :=
 match s with
 | .new q l => match (!s6 o.op && lD st.L o.op.operands.toList),srcs st l with
  | true,some (Y,obs,eqs) => .frN fun r => match sg P (execOp (rho st.L) o) Y r with
   | some (.cells cs T (0,0),.value v,S) => .req S obs (.req (eqs.map (·.1)) (eqs.map (·.2)) (K v ⟨st.L,(q,.blk r T cs.toList) :: st.As,st.rd,st.ef,st.pr,st.vw⟩))
   | _ => .fail
  | _,_ => .fail
 | .sto q => match vJ o.op,p7 q st.As with
  | some (t,x,y),some (.blk b' T cs,rest) => match evO st.L x,evO st.L y,P.info? t with
   | some (.pointer (some ⟨b,off,none⟩)),some v,some ti => match Nat.beq ti.size v.cells.size,qH v.cells.toList,Nat.ble (off + v.cells.size) cs.length with
    | true,true,true => .req b b' (K undef ⟨st.L,(q,.blk b' T (putAt cs off v.cells.toList)) :: rest,st.rd,st.ef,st.pr,st.vw⟩)
    | _,_,_ => .fail
   | _,_,_ => .fail
  | _,_ => .fail
 | .call C l out => match callParts o.op,ko (ASrc.keys l) st.As with
  | some (x,xs),some (ats,rest) => match jQ st.L x,qS st.L xs,qm st.rd rest l ats with
   | some (g,cs),some vs,some (ps,rds) => match C.C.rd (vs ++ cs) ps with
    | some i => .req (vs ++ cs,ats,rds,g) (C.C.args i,C.C.ats i,C.C.rds i,C.C.fid) (.bind (C.C.model i) fun t => frNs C.C.nN fun O => frAs C.C.nA fun J => match C.C.br with
     | false => outK out (C.C.post i t O J) fun new => K (C.C.val i t O J) ⟨st.L,new ++ rest,st.rd,st.ef,fxP (C.C.fx i t) st.pr,vwO (C.C.opt i t) st.vw⟩
     | true => .cs (oS (C.C.om i t)) (fun _ => outK (out.drop C.C.nf) (C.C.post i t O J) fun new => K (C.C.val i t O J) ⟨st.L,new ++ rest,st.rd,st.ef,fxP (C.C.fx i t) st.pr,vwO (C.C.opt i t) st.vw⟩) fun m =>
       outK out (C.C.post1 i t m O J) fun new => K (C.C.val1 i t m O J) ⟨st.L,new ++ rest,st.rd,st.ef,fxP (C.C.fx i t) st.pr,vwO (C.C.opt i t) st.vw⟩)
    | none => .fail
   | _,_,_ => .fail
  | _,_ => .fail
 | .bld q c T => match (!s6 o.op && lD st.L o.op.operands.toList) with
  | true => .frN fun r => match sg P (execOp (rho st.L) o) [] r with
   | some (.cells cs T' (0,0),.value (.slice (some a) m I),[]) => match fp (E.el c) m cs.toList,Nat.ble m 1000000 with
    | some xs,true => .req (cs.toList,a,m,I,T') (xs.flatMap (E.el c).enc,⟨r,0,none⟩,xs.length,xs.length,T) (K (.slice (some ⟨r,0,none⟩) xs.length xs.length) ⟨st.L,(q,.sl c T (some ⟨r,0,none⟩) xs.length xs) :: st.As,st.rd,st.ef,st.pr,st.vw⟩)
    | _,_ => .fail
   | _ => .fail
  | false => .fail
 | .app q s => match ow o.op,p7 q st.As with
  | some (.append,[x,y],[t,u]),some (.sl c T sb sc l,rest) => match gq st.rd st.vw ((q,.sl c T sb sc l) :: rest) s,P.underlying t,P.underlying u,P.info? T,evO st.L x,evO st.L y with
   | some (⟨c',sb',sc',l'⟩,eqs),some (.slice T'),some (.slice d),some ti,some B,some A => match l6 c l',ti.zero,Nat.ble ti.bytes 131072 with
    | some l'',some z,true => .req (B,A,T',ti.size,z.cells.size) (.slice sb l.length sc,.slice sb' l''.length sc',T,(E.el c).sz,(E.el c).sz) (.req (eqs.map (·.1)) (eqs.map (·.2)) (.bind (mApp l l'') fun r => .frA fun U => .frN fun W =>
      K (.slice U r.length W) ⟨st.L,(q,.sl c T U W r) :: rest,st.rd,st.ef,st.pr,st.vw⟩))
    | _,_,_ => .fail
   | _,_,_,_,_,_ => .fail
  | _,_ => .fail
 | .sset q e j => match vJ o.op,p7 q st.As,getK e st.ef with
  | some (t,x,y),some (.sl c T sb sc l,rest),some ⟨rdr,c',sb',l',i,x0,b,off⟩ => match evO st.L x,evO st.L y,P.info? t,Nat.decEq c' c with
   | some B,some v,some ti,isTrue h => match qH v.cells.toList,Nat.ble (j + v.cells.size) (E.el c).sz,(E.el c).dec (putAt ((E.el c).enc (h ▸ x0)) j v.cells.toList) with
    | true,true,some x1 => .req (B,ti.size,(h ▸ l' : List (E.el c).α),sb',(E.el c).enc x1) (.pointer (some ⟨b,off + i.toNat * (E.el c).sz + j,none⟩),v.cells.size,l,sb,putAt ((E.el c).enc (h ▸ x0)) j v.cells.toList)
      (K undef ⟨st.L,(q,.sl c T sb sc (mSet l i x1)) :: rest,st.rd,(e,⟨false,c,sb,mSet l i x1,i,x1,b,off⟩) :: (e + 100000,⟨rdr,c',sb',l',i,x0,b,off⟩) :: st.ef,st.pr,st.vw⟩)
    | _,_,_ => .fail
   | _,_,_,_ => .fail
  | _,_,_ => .fail
 | .mk q c T => match o.op with
  | .makeSlice t x y => match P.underlying t,P.info? T,evO st.L x,evO st.L y with
   | some (.slice T'),some ti,some (.int .i64 m),some A => match ti.zero,Nat.ble ti.bytes 131072 with
    | some X,true => match (E.el c).dec X.cells.toList with
     | some z => .req (T',ti.size,X.cells.toList,y) (T,(E.el c).sz,(E.el c).enc z,x) (.bind (hP m z) fun l => .frN fun r => K (.slice (some ⟨r,0,none⟩) l.length l.length) ⟨st.L,(q,.sl c T (some ⟨r,0,none⟩) l.length l) :: st.As,st.rd,st.ef,st.pr,st.vw⟩)
     | none => .fail
    | _,_ => .fail
   | _,_,_,_ => .fail
  | _ => .fail
 | .eqs D => match o.op with
  | .binOp .eql t x y _ => match evO st.L x,evO st.L y,P.eqGuardType P.depth t with
   | some B,some A,false => match D.dec B,D.dec A with
    | some a,some b => .req (t,B,A) (D.t,.agg (D.val a),.agg (D.val b)) (K (.bool (D.eq a b)) st)
    | _,_ => .fail
   | _,_,_ => .fail
  | .binOp .neq t x y _ => match evO st.L x,evO st.L y,P.eqGuardType P.depth t with
   | some B,some A,false => match D.dec B,D.dec A with
    | some a,some b => .req (t,B,A) (D.t,.agg (D.val a),.agg (D.val b)) (K (.bool (!(D.eq a b))) st)
    | _,_ => .fail
   | _,_,_ => .fail
  | _ => .fail
 | .mnew q c => match o.op with
  | .makeMap t none => .frN fun r => K (.map (some r)) ⟨st.L,(q,.mp c r []) :: st.As,st.rd,st.ef,st.pr,st.vw⟩
  | _ => .fail
 | .mget q c kt hk z => match getK q st.As with
  | some (.mp c' r m) => match iT c m with
   | some I => match o.op with
    | .lookup mt x y two => match P.underlying mt,evO st.L x,evO st.L y with
     | some (.map F Z),some B,some A => match P.info? Z,(E.mp c).dk A with
      | some ti,some k => match ti.zero with
       | some X => .req (F,B,A,X,Atom.mp (E := E) c' r m) (kt,.map (some r),(E.mp c).ek k,(E.mp c).ev z,.mp c r I) (.bind (sP (E.mp c).eq k z I) fun g => K (match two with
        | true => .tuple #[(E.mp c).ev g.1,.bool g.2]
        | false => (E.mp c).ev g.1) st)
       | none => .fail
      | _,_ => .fail
     | _,_,_ => .fail
    | _ => .fail
   | none => .fail
  | _ => .fail
 | .mput q c kt hk => match p7 q st.As,pt o.op with
  | some (.mp c' r m,rest),some (mt,x,y,z) => match iT c m,P.underlying mt,evO st.L x,evO st.L y,evO st.L z with
   | some I,some (.map F Z),some B,some A,some vz => match (E.mp c).dk A,(E.mp c).dv vz with
    | some k,some v => .req (F,B,A,vz,Atom.mp (E := E) c' r m) (kt,.map (some r),(E.mp c).ek k,(E.mp c).ev v,.mp c r I) (K undef ⟨st.L,(q,.mp c r (mPut (E.mp c).eq k v I)) :: rest,st.rd,st.ef,st.pr,st.vw⟩)
    | _,_ => .fail
   | _,_,_,_,_ => .fail
  | _,_ => .fail
 | .mdel q c kt hk => match p7 q st.As,ow o.op with
  | some (.mp c' r m,rest),some (.delete,[x,y],mt :: ts) => match iT c m,P.underlying mt,evO st.L x,evO st.L y with
   | some I,some (.map F Z),some B,some A => match (E.mp c).dk A with
    | some k => .req (F,B,A,Atom.mp (E := E) c' r m) (kt,.map (some r),(E.mp c).ek k,.mp c r I) (K (.tuple #[]) ⟨st.L,(q,.mp c r (mDel (E.mp c).eq k I)) :: rest,st.rd,st.ef,st.pr,st.vw⟩)
    | none => .fail
   | _,_,_,_ => .fail
  | _,_ => .fail
 | _ => .fail
theorem RdV.mono {F G : List HP} {r : RdV E} (h : ∀ X ∈ F,X ∈ G) (e : r.holds F) : r.holds G := by
 obtain ⟨X,hX,h1⟩ := e;exact ⟨X,h X hX,h1⟩
theorem tY {F : List HP} {rd : List (Nat × RdV E)} {rest : List (Nat × Atom E)} (e : ∀ p ∈ rd,p.2.holds F) : ∀ {l : List ASrc} {ats ps : List (Atom E)} {rds : List (RdV E)},
  qm rd rest l ats = some (ps,rds) -> ∀ r ∈ rds,r.holds (dens rest ++ F)
 | [],ats,ps,rds,h => by simp [qm] at h; obtain ⟨_,rfl⟩ := h; simp
 | .K _ :: r,[],ps,rds,h => by simp [qm] at h
 | .K _ :: r,a :: ats,ps,rds,h => by
  simp only [qm] at h;split at h
  ·rename_i x y i; cases h; exact tY e i
  ·cases h
 | .R q :: r,ats,ps,rds,h => by
  simp only [qm] at h;split at h
  ·rename_i v hv;split at h
   ·rename_i x y i;cases h;intro z t;cases t with
    | head =>
     obtain ⟨j,hj⟩ := xX hv;exact RdV.mono (fun X hX => List.mem_append_right _ hX) (e _ hj)
    | tail _ hm => exact tY e i z hm
   ·cases h
  ·cases h
 | .O q :: r,ats,ps,rds,h => by
  simp only [qm] at h;split at h
  ·rename_i c T sb sc l hq;split at h
   ·rename_i x y i;cases h;intro z t;cases t with
    | head =>
     refine ⟨_,mL F (uA hq),w1 _ _ _ _ _ _,?_⟩;rintro h (⟨_,hl,_⟩ | ⟨b,off,cs,_,_,u,_⟩)
     ·show l.length <= sc;rw [show l = [] from hl]; simp
     ·exact u
    | tail _ hm => exact tY e i z hm
   ·cases h
  ·cases h
theorem OpTo.Ae {n : Nat} {a : Act} {L : Env} {w w0 : World} {As : List HP} {o : Oper} {b off : Nat} {T t : TypeId} {cs : List Value} {x y : Operand} {v : Value} {ti : TypeInfo} (i : yc n a L) (H : St w0 (Blk b T cs :: As) w)
  (l : vJ o.op = some (t,x,y)) (A : evO L x = some (.pointer (some ⟨b,off,none⟩))) (B : evO L y = some v) (hi : P.info? t = some ti) (hs : ti.size = v.cells.size) (h1 : qH v.cells.toList = true)
  (e : off + v.cells.size <= cs.length) : OpTo P o a w fun u w' => u = undef /\ St w0 (Blk b T (putAt cs off v.cells.toList) :: As) w' := by
 obtain ⟨dst,op,type,pos,after,guard⟩ := o;cases op <;> simp only [vJ] at l <;> try cases l
 have j := H.one 0 rfl;refine OpTo.jB (w' := w.setRow b (putAt cs off v.cells.toList).toArray) ?_ ⟨rfl,?_⟩
 ·simp [execOp,i.eval A,i.eval B,ou j hi hs h1 e]
 ·exact H.set (by simp) (by simp) (by simp) (setRow_heap w b _ _ T (0,0) j) (fun c z => setRow_other w b c _ z)
theorem OpTo.Bg {o : Oper} {a : Act} {w : World} {e : Value -> World -> Prop} {z : TypeId × Operand × Operand} (h : OpTo P o a w e) (i : vJ o.op = some z) : OpTo P o a w fun v w' => v = undef /\ e v w' := by
 obtain ⟨dst,op,type,pos,after,guard⟩ := o;cases op <;> simp only [vJ] at i <;> try cases i
 rename_i t x y;unfold OpTo at *
 simp only [execOp,Sem.run_bind,Sem.run_pure] at *
 cases j : (Instr.storeAt t (a.eval x) (a.eval y)).run P w with
 | ok u w' => rw [j] at h; simp [Result.andThen] at h ⊢; exact h
 | halt x w' => rw [j] at h; simp [Result.andThen] at h
theorem OpTo.putU {o : Oper} {a : Act} {w : World} {e : Value -> World -> Prop} {z : TypeId × Operand × Operand × Operand} (h : OpTo P o a w e) (i : pt o.op = some z) : OpTo P o a w fun v w' => v = undef /\ e v w' := by
 obtain ⟨dst,op,type,pos,after,guard⟩ := o;cases op <;> simp only [pt] at i <;> try cases i
 all_goals
  rename_i t x y z;unfold OpTo at *
  simp only [execOp,Sem.run_bind,Sem.run_pure] at *
  cases j : (Instr.mapUpdate t (a.eval x) (a.eval y) (a.eval z)).run P w with
  | ok u w' => rw [j] at h; simp [Result.andThen] at h ⊢; exact h
  | halt x w' => rw [j] at h; simp [Result.andThen] at h
theorem jI {F : List HP} {rd : List (Nat × RdV E)} {vw : List (Nat × Mi E)} {rest : List (Nat × Atom E)} {s : ASrc} {r : RdV E} {eqs : List (Atom E × Atom E)} (e : ∀ p ∈ rd,p.2.holds F) (i : ∀ p ∈ vw,p.2.holds) (h : gq rd vw rest s = some (r,eqs)) (he : ∀ p ∈ eqs,p.1 = p.2) :
  ∃ X,X ∈ dens rest ++ F /\ SlRd X (E.el r.c).enc (E.el r.c).sz r.sb r.l := by
 cases s with
 | K q => simp [gq] at h
 | R q =>
  simp only [gq] at h;split at h
  ·rename_i r' x;cases h;obtain ⟨j,hj⟩ := xX x;obtain ⟨X,hX,h1,_⟩ := e _ hj;exact ⟨X,List.mem_append_right _ hX,h1⟩
  ·cases h
 | W v q =>
  simp only [gq] at h;split at h
  ·rename_i u c T sb sc l hu hq;cases h;obtain ⟨j,hj⟩ := xX hu;obtain ⟨h1,h2,h3,h4⟩ := i _ hj;have t := he _ (List.mem_singleton.2 rfl);simp only at t;have hm := uA hq;rw [t] at hm;exact ⟨_,mL F hm,(w1 T (E.el u.c).enc (E.el u.c).sz u.sb u.sc u.l).cut' (E.el u.c).ok h1 h4 h2⟩
  ·cases h
 | O q =>
  simp only [gq] at h;split at h
  ·rename_i c T sb sc l hq;cases h;exact ⟨_,mL F (uA hq),w1 _ _ _ _ _ _⟩
  ·cases h
theorem dc {c c' : Nat} {l : List (E.el c').α} {l' : List (E.el c).α} (h : l6 c l = some l') : ∃ e : c' = c,l' = e ▸ l := by
 unfold l6 at h;split at h
 ·rename_i e _; cases h; exact ⟨e,rfl⟩
 ·cases h
theorem ld {c c' : Nat} {l : List ((E.mp c').K × (E.mp c').V)} {l' : List ((E.mp c).K × (E.mp c).V)} (h : iT c l = some l') : ∃ e : c' = c,l' = e ▸ l := by
 unfold iT at h;split at h
 ·rename_i e _; cases h; exact ⟨e,rfl⟩
 ·cases h
theorem mh {R : Type} {n : Nat} {w0 w : World} {F : List HP} {st : Kn E} {a : Act} {Φ : R -> Prop} {o : Oper} {s : Stp E P} {K : Value -> Kn E -> VC R} (A : KnOk n w0 F st a w) (h : (actO o st s K).ok Φ) :
  OpTo P o a w fun v w' => ∃ O,O.L = st.L /\ HpOk w0 F O w' /\ (K v O).ok Φ := by
 cases s with
 | seg c l => exact (VC.zw h).elim
 | idx rdr q x e => exact (VC.zw h).elim
 | gd k x j => exact (VC.zw h).elim
 | idk rdr q x e => exact (VC.zw h).elim
 | rlc e q off => exact (VC.zw h).elim
 | rls e t => exact (VC.zw h).elim
 | nil q c T => exact (VC.zw h).elim
 | cut rdr q lo hi v => exact (VC.zw h).elim
 | own v q => exact (VC.zw h).elim
 | el t e => exact (VC.zw h).elim
 | same q m => exact (VC.zw h).elim
 | rlp t q => exact (VC.zw h).elim
 | rlq b off q => exact (VC.zw h).elim
 | pix q off n c x e => exact (VC.zw h).elim
 | bld q c T =>
  simp only [actO] at h;split at h
  ·rename_i Z;have h3 := h w.heap.size;dsimp only at h3;split at h3
   ·rename_i cs T' ad m m' a5;split at h3
    ·rename_i xs d3 hm;obtain ⟨e,U⟩ := h3;simp only [Prod.mk.injEq] at e;obtain ⟨S,rfl,rfl,rfl,rfl⟩ := e;simp only [Bool.and_eq_true,Bool.not_eq_true'] at Z;have d0 := Nat.le_of_ble_eq_true hm;have d2 : cs.size = xs.length * (E.el c).sz := by rw [<- Array.length_toList,S,yr (E.el c).ok]
     refine OpTo.of_run (w' := { w with heap := w.heap.push (.cells cs T' (0,0)) }) (v := .slice (some ⟨w.heap.size,0,none⟩) xs.length xs.length) ?_ ⟨⟨st.L,(q,.sl c T' (some ⟨w.heap.size,0,none⟩) xs.length xs) :: st.As,st.rd,st.ef,st.pr,st.vw⟩,rfl,⟨?_,A.fs.1,A.fs.2,A.fs.3,A.fs.4⟩,U⟩
     ·rw [lj A.env Z.1 Z.2];exact rP P w _ _ _ _ _ a5 trivial
     ·have H2 := A.hp.alloc (.cells cs T' (0,0));have H3 := St.slOf (enc := (E.el c).enc) (sz := (E.el c).sz) (l := xs) (sc := xs.length) H2 (E.el c).ok (Nat.le_refl _) (by unfold maxLen; omega) (by omega) fun i hi => by rw [<- S]; simp
      exact H3
    ·exact (VC.zw h3).elim
   ·exact (VC.zw h3).elim
  ·exact (VC.zw h).elim
 | app q s =>
  simp only [actO] at h;split at h
  ·rename_i x y t u c T sb sc l rest h1 h2;split at h
   ·rename_i c' sb' sc' l' eqs T' d ti vx vy g1 g2 g3 g4 g5 g6;split at h
    ·rename_i l'' z k1 k2 k3;obtain ⟨e,b4,r,hr,I⟩ := h;simp only [Prod.mk.injEq] at e;obtain ⟨rfl,rfl,rfl,e4,e5⟩ := e;obtain ⟨W,rfl⟩ := dc k1;subst W;have H : St w0 (Sl T' (E.el c').enc (E.el c').sz sb sc l :: (dens rest ++ F)) w := A.hp.perm ((ui h2).append_right F);obtain ⟨X,hX,hS⟩ := jI A.fs.rd A.fs.vw g1 (mE b4);obtain ⟨j,hj⟩ := H.mem hX;have b6 := hS.all (E.el c').ok H j hj;refine (OpTo.u9 hr A.env H (E.el c').ok (oK h1) g5 g6 g2 g3 g4 e4 k2 e5 rfl b6 k3).mono ?_;rintro v w' ⟨a7,a8,rfl,B⟩;exact ⟨⟨st.L,(q,.sl c' T' a7 a8 r) :: rest,st.rd,st.ef,st.pr,st.vw⟩,rfl,⟨B,A.fs.1,A.fs.2,A.fs.3,A.fs.4⟩,I a7 a8⟩
    ·exact (VC.zw h).elim
   ·exact (VC.zw h).elim
  ·exact (VC.zw h).elim
 | sset q e j =>
  simp only [actO] at h;split at h
  ·rename_i t x y c T sb sc l rest rdr c' sb' l' i x0 b off h1 h2 h3;split at h
   ·rename_i vx v ti W g1 g2 g3 g4;split at h
    ·rename_i x1 k1 k2 k3;subst W;obtain ⟨e,I⟩ := h;simp only [Prod.mk.injEq] at e;obtain ⟨rfl,Y,rfl,rfl,e5⟩ := e;obtain ⟨j',hj⟩ := xX h3;obtain ⟨f1,f2,_⟩ := A.fs.2 _ hj;have H : St w0 (Sl T (E.el c').enc (E.el c').sz sb' sc l' :: (dens rest ++ F)) w := A.hp.perm ((ui h2).append_right F);refine (OpTo.Bg (OpTo.lP (q := j) (x' := x1) A.env H (E.el c').ok h1 f1 f2 g1 g2 g3 Y k1 (Nat.le_of_ble_eq_true k2) e5) h1).mono ?_;rintro v w' ⟨rfl,B⟩;refine ⟨⟨st.L,(q,.sl c' T sb' sc (mSet l' i x1)) :: rest,st.rd,(e,⟨false,c',sb',mSet l' i x1,i,x1,b,off⟩) :: (e + 100000,⟨rdr,c',sb',l',i,x0,b,off⟩) :: st.ef,st.pr,st.vw⟩,rfl,⟨B,A.fs.1,fun p hp => ?_,A.fs.3,A.fs.4⟩,I⟩;cases hp with
     | head => exact ⟨f1,bF f2,fun h => by cases h⟩
     | tail _ hm =>
      cases hm with
      | head =>
       have h9 := A.fs.2 _ hj;exact h9
      | tail _ hm => exact A.fs.2 p hm
    ·exact (VC.zw h).elim
   ·exact (VC.zw h).elim
  ·exact (VC.zw h).elim
 | mk q c T =>
  simp only [actO] at h;split at h
  ·rename_i t x y J;split at h
   ·rename_i T' ti m vy g1 g2 g3 g4;split at h
    ·rename_i zv k1 k2;split at h
     ·rename_i z kz;obtain ⟨e,l,hl,I⟩ := h;simp only [Prod.mk.injEq] at e;obtain ⟨rfl,Y,e3,rfl⟩ := e;refine (OpTo.make hl A.env A.hp (E.el c).ok J g3 g1 g2 Y k1 e3 k2).mono ?_;rintro v w' ⟨r,rfl,B⟩;exact ⟨⟨st.L,(q,.sl c T' (some ⟨r,0,none⟩) l.length l) :: st.As,st.rd,st.ef,st.pr,st.vw⟩,rfl,⟨B,A.fs.1,A.fs.2,A.fs.3,A.fs.4⟩,I r⟩
     ·exact (VC.zw h).elim
    ·exact (VC.zw h).elim
   ·exact (VC.zw h).elim
  ·exact (VC.zw h).elim
 | eqs D =>
  simp only [actO] at h;split at h
  ·rename_i t x y u J;split at h
   ·rename_i vx vy g1 g2 g3;split at h
    ·rename_i p q k1 k2;obtain ⟨e,I⟩ := h;simp only [Prod.mk.injEq] at e;obtain ⟨rfl,rfl,rfl⟩ := e;refine (OpTo.eqS A.env J g1 g2 g3 (D.ok p q)).mono ?_;rintro v w' ⟨rfl,rfl⟩;exact ⟨st,rfl,A.hk,I⟩
    ·exact (VC.zw h).elim
   ·exact (VC.zw h).elim
  ·rename_i t x y u J;split at h
   ·rename_i vx vy g1 g2 g3;split at h
    ·rename_i p q k1 k2;obtain ⟨e,I⟩ := h;simp only [Prod.mk.injEq] at e;obtain ⟨rfl,rfl,rfl⟩ := e;refine (OpTo.neS A.env J g1 g2 g3 (D.ok p q)).mono ?_;rintro v w' ⟨rfl,rfl⟩;exact ⟨st,rfl,A.hk,I⟩
    ·exact (VC.zw h).elim
   ·exact (VC.zw h).elim
  ·exact (VC.zw h).elim
 | mnew q c =>
  simp only [actO] at h;split at h
  ·rename_i t J;refine (OpTo.Bc (E.mp c).ek (E.mp c).ev A.env A.hp J).mono ?_;rintro v w' ⟨r,rfl,B⟩;exact ⟨⟨st.L,(q,.mp c r []) :: st.As,st.rd,st.ef,st.pr,st.vw⟩,rfl,⟨B,A.fs.1,A.fs.2,A.fs.3,A.fs.4⟩,h r⟩
  ·exact (VC.zw h).elim
 | mget q c kt hk z =>
  simp only [actO] at h;split at h
  ·rename_i c' r m hq;split at h
   ·rename_i m' hm;split at h
    ·rename_i mt x y two J;split at h
     ·rename_i a6 vt vx vy g1 g2 g3;split at h
      ·rename_i ti k k1 k2;split at h
       ·rename_i zv kz;obtain ⟨W,rfl⟩ := ld hm;subst W;obtain ⟨e,g,hg,I⟩ := h;simp only [Prod.mk.injEq] at e;obtain ⟨rfl,rfl,rfl,rfl,_⟩ := e;obtain ⟨j,hj⟩ := A.hp.mem (mL F (uA hq));cases two with
        | true =>
         refine (OpTo.aR j A.env A.hp hj hk hg J g1 k1 kz g2 g3).mono ?_;rintro v w' ⟨rfl,rfl⟩;exact ⟨st,rfl,A.hk,I⟩
        | false =>
         refine (OpTo.Bb j A.env A.hp hj hk hg J g1 k1 kz g2 g3).mono ?_;rintro v w' ⟨rfl,rfl⟩;exact ⟨st,rfl,A.hk,I⟩
       ·exact (VC.zw h).elim
      ·exact (VC.zw h).elim
     ·exact (VC.zw h).elim
    ·exact (VC.zw h).elim
   ·exact (VC.zw h).elim
  ·exact (VC.zw h).elim
 | mput q c kt hk =>
  simp only [actO] at h;split at h
  ·rename_i c' r m rest mt x y z h1 h2;split at h
   ·rename_i m' a6 vt vx vy vz hm g1 g2 g3 g4;split at h
    ·rename_i k v k1 k2;obtain ⟨W,rfl⟩ := ld hm;subst W;obtain ⟨e,I⟩ := h;simp only [Prod.mk.injEq] at e;obtain ⟨rfl,rfl,rfl,rfl,_⟩ := e;have H : St w0 (MpA r (E.mp c').ek (E.mp c').ev m :: (dens rest ++ F)) w := A.hp.perm ((ui h1).append_right F);refine (OpTo.putU (OpTo.Bd A.env H hk h2 g1 g2 g3 g4) h2).mono ?_;rintro v' w' ⟨rfl,B⟩;exact ⟨⟨st.L,(q,.mp c' r (mPut (E.mp c').eq k v m)) :: rest,st.rd,st.ef,st.pr,st.vw⟩,rfl,⟨B,A.fs.1,A.fs.2,A.fs.3,A.fs.4⟩,I⟩
    ·exact (VC.zw h).elim
   ·exact (VC.zw h).elim
  ·exact (VC.zw h).elim
 | mdel q c kt hk =>
  simp only [actO] at h;split at h
  ·rename_i c' r m rest x y mt ts h1 h2;split at h
   ·rename_i m' a6 vt vx vy hm g1 g2 g3;split at h
    ·rename_i k k1;obtain ⟨W,rfl⟩ := ld hm;subst W;obtain ⟨e,I⟩ := h;simp only [Prod.mk.injEq] at e;obtain ⟨rfl,rfl,rfl,_⟩ := e;have H : St w0 (MpA r (E.mp c').ek (E.mp c').ev m :: (dens rest ++ F)) w := A.hp.perm ((ui h1).append_right F);refine (OpTo.Ba A.env H hk (oK h2) (by simp) g1 g2 g3).mono ?_;rintro v' w' ⟨rfl,B⟩;exact ⟨⟨st.L,(q,.mp c' r (mDel (E.mp c').eq k m)) :: rest,st.rd,st.ef,st.pr,st.vw⟩,rfl,⟨B,A.fs.1,A.fs.2,A.fs.3,A.fs.4⟩,I⟩
    ·exact (VC.zw h).elim
   ·exact (VC.zw h).elim
  ·exact (VC.zw h).elim
 | new q l =>
  simp only [actO] at h;split at h
  ·rename_i d6 obs eqs h1 h2;have h3 := h w.heap.size;dsimp only at h3;split at h3
   ·rename_i cs T v c2 h4;obtain ⟨I,h6,U⟩ := h3;subst I;simp only [Bool.and_eq_true,Bool.not_eq_true'] at h1;refine OpTo.of_run (w' := { w with heap := w.heap.push (.cells cs T (0,0)) }) (v := v) ?_ ⟨⟨st.L,(q,.blk w.heap.size T cs.toList) :: st.As,st.rd,st.ef,st.pr,st.vw⟩,rfl,⟨?_,A.fs.1,A.fs.2,A.fs.3,A.fs.4⟩,U⟩
    ·rw [lj A.env h1.1 h1.2];exact rP P w _ _ _ _ _ h4 (tv A h2 (mE h6))
    ·have := A.hp.alloc (.cells cs T (0,0));simpa [dens,Atom.den] using this
   ·exact (VC.zw h3).elim
  ·exact (VC.zw h).elim
 | sto q =>
  simp only [actO] at h;split at h
  ·rename_i t x y b' T cs rest h1 h2;split at h
   ·rename_i b off v ti hx hy hi;split at h
    ·rename_i S Y e3;obtain ⟨rfl,U⟩ := h;have H : St w0 (Blk b T cs :: (dens rest ++ F)) w := A.hp.perm ((ui h2).append_right F);refine (OpTo.Ae A.env H h1 hx hy hi (Nat.eq_of_beq_eq_true S) Y (Nat.le_of_ble_eq_true e3)).mono ?_;rintro _ w' ⟨rfl,B⟩;exact ⟨⟨st.L,(q,.blk b T (putAt cs off v.cells.toList)) :: rest,st.rd,st.ef,st.pr,st.vw⟩,rfl,⟨B,A.fs.1,A.fs.2,A.fs.3,A.fs.4⟩,U⟩
    ·exact (VC.zw h).elim
   ·exact (VC.zw h).elim
  ·exact (VC.zw h).elim
 | call C l out =>
  simp only [actO] at h;split at h
  ·rename_i x xs ats rest h1 h2;split at h
   ·rename_i g cs vs ps rds S Y e3;split at h
    ·rename_i i hi;obtain ⟨e4,t,ht,I⟩ := h;simp only [Prod.mk.injEq] at e4;obtain ⟨e5,rfl,rfl,rfl⟩ := e4;have fn : ∀ {Rv : Value -> World -> Prop},xI P C.C.fid (C.C.args i).toArray w Rv -> OpTo P o a w Rv := by
      intro Rv hc;rw [<- e5] at hc;unfold jQ at S;split at S
      ·simp only [Option.some.injEq,Prod.mk.injEq] at S;obtain ⟨e6,rfl⟩ := S;subst e6;rw [aN] at hc;exact OpTo.fn A.env h1 Y C.ent hc
      ·split at S
       ·rename_i hx;simp only [Option.some.injEq,Prod.mk.injEq] at S;obtain ⟨e6,rfl⟩ := S;subst e6;exact OpTo.fv A.env h1 hx Y C.ent hc
       ·cases S
     have H : St w0 ((C.C.ats i).map Atom.den ++ (dens rest ++ F)) w := by
      have := A.hp.perm ((pM h2).append_right F)
      rwa [aA] at this
     refine fn ((C.snd i t ht w0 w (dens rest ++ F) (tY A.fs.rd e3) H).mono ?_);rintro v w' ⟨ns,aS,hn,ha,rfl,B,b5⟩;rw [<- hn] at I;have h6 := pX _ _ I;rw [<- ha] at h6;have U := pU _ _ h6;have fin : ∀ (v : Value) (l : List (Atom E)) (out : List Nat),St w0 (l.map Atom.den ++ (dens rest ++ F)) w' -> (outK out l fun new => K v ⟨st.L,new ++ rest,st.rd,st.ef,fxP (C.C.fx i t) st.pr,vwO (C.C.opt i t) st.vw⟩).ok Φ -> ∃ O,O.L = st.L /\ HpOk w0 F O w' /\ (K v O).ok Φ := by
      intro v l out Hl hk;obtain ⟨new,hz,h8⟩ := bL hk;refine ⟨⟨st.L,new ++ rest,st.rd,st.ef,fxP (C.C.fx i t) st.pr,vwO (C.C.opt i t) st.vw⟩,rfl,⟨?_,A.fs.1,A.fs.2,dV A.fs.3 b5,Ak A.fs.4⟩,h8⟩;simp only [dens,List.map_append,hz,aA];exact Hl
     unfold Con.valA;unfold Con.jD at B;split at U
     ·rename_i hb;rw [hb] at B; try rw [hb]
      exact fin _ _ _ B U
     ·rename_i hb;rw [hb] at B; try rw [hb]
      cases J : C.C.om i t with
      | none =>
       rw [J] at B;exact fin _ _ _ B (U.1 () (by rw [J]; rfl))
      | some m =>
       rw [J] at B;exact fin _ _ _ B (U.2 m (by rw [J]; rfl))
    ·exact (VC.zw h).elim
   ·exact (VC.zw h).elim
  ·exact (VC.zw h).elim
end
end
end Go.Th
