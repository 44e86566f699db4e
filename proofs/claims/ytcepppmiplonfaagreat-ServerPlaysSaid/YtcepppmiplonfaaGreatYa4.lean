/-
  The statements ServerPlays of the program.
  Text 4 of 10: of what the proof needs (a row of the program: no condition is left); put together and made narrow by a program.
-/
import Derived.Test.YtcepppmiplonfaaGreatYa3
set_option linter.unusedVariables false
set_option linter.unusedSimpArgs false
namespace Go.Proofs.YtcepppmiplonfaaGreat
open Go.Th
noncomputable section
set_option maxRecDepth 10000
namespace Pt
def refs : List zs -> Nat -> List zd
 | [],_ => []
 | x :: l,i => (if x.taken = true then [zd.mk (i : Int) x.gen] else []) ++ refs l (i + 1)
theorem qp {r : zd} : ∀ {l : List zs} {i : Nat},r ∈ refs l i ↔ ∃ (j : Nat) (x : zs),r.At = ((i + j : Nat) : Int) /\ l[j]? = some x /\ x.taken = true /\ r.Gen = x.gen
 | [],i => by simp [refs]
 | x :: l,i => by
  rw [refs,iA,qp];constructor
  ·rintro (h | ⟨j,y,e,h,ht,t⟩)
   ·split at h
    ·rw [List.mem_singleton.1 h]; exact ⟨0,x,rfl,rfl,by assumption,rfl⟩
    ·cases h
   ·exact ⟨j + 1,y,by rw [e]; congr 1; omega,h,ht,t⟩
  ·rintro ⟨j,y,e,h,ht,t⟩;cases j with
   | zero =>
    simp only [List.getElem?_cons_zero,Option.some.injEq] at h;subst h
    left
    rw [if_pos ht];cases r; simp only at e t ⊢; rw [e,t]; simp
   | succ j => exact Or.inr ⟨j,y,by rw [e]; congr 1; omega,h,ht,t⟩
theorem gT {r : zd} {l : List zs} {i : Nat} (h : r ∈ refs l i) : (i : Int) <= r.At := by
 obtain ⟨j,x,e,_⟩ := qp.1 h;omega
theorem qc : ∀ {l : List zs} {i : Nat},(refs l i).Nodup
 | [],i => List.nodup_nil
 | x :: l,i => by
  rw [refs];refine List.nodup_append.2 ⟨by split <;> simp,qc,fun a ha b j e => ?_⟩;have := gT j;split at ha
  ·rw [List.mem_singleton.1 ha] at e; subst e; simp only at this; omega
  ·cases ha
theorem nc : ∀ {l : List zs} {i : Nat},(refs l i).length <= l.length
 | [],i => Nat.le_refl _
 | x :: l,i => by
  have := nc (l := l) (i := i + 1);rw [refs,lA,lC];split <;> simp <;> omega
theorem jU {p : ze} (hl : p.l.length <= 65536) : ∀ (rest pre : List zs) (out : List zd) (m : Nat),p.l = pre ++ rest -> out.length <= pre.length -> rest.length < m ->
  yN (p.l.length : Int) p m out (pre.length : Int) = some (out ++ refs rest pre.length)
 | [],pre,out,m + 1,e,t,hm => by
  unfold yN;rw [dF (by rw [e]; simp),cF,refs,aN]
 | x :: rest,pre,out,m + 1,e,t,hm => by
  have hlen : p.l.length = pre.length + (rest.length + 1) := by rw [e]; simp
  have ih := jU hl rest (pre ++ [x]) (out ++ (if x.taken = true then [zd.mk (pre.length : Int) x.gen] else [])) m (by rw [e]; simp) (by rw [lA,lA]; split <;> simp <;> omega) (by simp only [lC] at hm; omega);have j : mIdx p.l (pre.length : Int) = some x := by rw [e]; exact yv pre rest x
  unfold yN;rw [dT (by omega),cT,j];simp only [bS];rw [zV (by omega) (by omega)];rw [show ((pre ++ [x]).length : Int) = (pre.length : Int) + 1 by simp] at ih;rw [show (pre ++ [x]).length = pre.length + 1 by simp] at ih;rw [refs,<- aA];cases ht : x.taken with
  | true =>
   rw [ht,if_pos rfl] at ih;rw [cT,xh (by simp only [List.length_singleton]; omega)];simp only [bS,if_true];exact ih
  | false =>
   rw [ht] at ih;simp only [Bool.false_eq_true,if_false,aN,cF,bS] at ih ⊢;exact ih
section
variable {p : ze} {T : Nat}
def out (p : ze) : List zd := refs p.l 0
theorem Inv.lb (I : Inv p T) : p.l.length <= 65536 := by have := I.len; have := I.most; omega
theorem ma (I : Inv p T) {k : Nat} (hk : 65536 < k) : wi k p = some (out p) := by
 have := I.lb;unfold wi;rw [show (0 : Int) = (([] : List zs).length : Int) from rfl,jU this p.l [] [] k rfl (Nat.le_refl _) (by omega)]
 rfl
theorem lg {r : zd} : r ∈ out p ↔ ∃ v,Live p r v := by
 unfold out Live;rw [qp];constructor
 ·rintro ⟨j,x,e,h,ht,t⟩;refine ⟨x.v_,j,by rw [e]; congr 1; omega,?_⟩;rw [h]; cases x; simp only at ht t ⊢; rw [ht,t]
 ·rintro ⟨v,j,e,h⟩;exact ⟨j,_,by rw [e]; congr 1; omega,h,rfl,rfl⟩
theorem lh : (out p).Nodup := qc
theorem Inv.fX (I : Inv p T) : (out p).length <= 65536 := Nat.le_trans nc I.lb
theorem gN {n : Int} (h0 : 0 <= n) (h1 : n <= 65536) (T : Nat) : Inv (ze.mk n [] []) T :=
 ⟨⟨h0,h1⟩,by simpa using h0,by simp,List.nodup_nil,by simp,by simp⟩
theorem fT {n : Int} {r : zd} {v : zA} : ¬ Live (ze.mk n [] []) r v := by
 rintro ⟨j,_,h⟩; simp at h
theorem Inv.mono {T' : Nat} (I : Inv p T) (h : T <= T') : Inv p T' := { I with gen := fun j x e => by have := I.gen j x e; omega }
end
end Pt
end
noncomputable section
set_option maxRecDepth 10000
def lf (p : ze) (g : zd) (r : zd) : Bool := match yu p r with
 | some v => zd.eq v.1.heap g
 | none => false
theorem gG {t : zm} {T : Nat} (I : Pt.Inv t.items T) (g : zd) (l : List zd) (hl : l.length <= 65536) (hv : ∀ r ∈ l,∃ v,Pt.Live t.items r v) :
  ∀ (rest pre out : List zd) (m : Nat),l = pre ++ rest -> out.length <= pre.length -> rest.length < m -> xZ (l.length : Int) t l g.At g.Gen m out (pre.length : Int) = some (out ++ rest.filter (lf t.items g))
 | [],pre,out,m + 1,e,z,hm => by
  unfold xZ;rw [dF (by rw [e]; simp),cF]; simp
 | x :: rest,pre,out,m + 1,e,z,hm => by
  have hlen : l.length = pre.length + (rest.length + 1) := by rw [e]; simp
  obtain ⟨v,A⟩ := hv x (by rw [e]; simp);have j := Pt.vE I A;have y : lf t.items g x = zd.eq v.heap g := by unfold lf; rw [j]
  have u : mIdx l (pre.length : Int) = some x := by rw [e]; exact yv pre rest x
  simp only [lC] at hm;unfold xZ;rw [dT (by omega),cT,u];simp only [bS];rw [j];simp only [bS];rw [zV (by omega) (by omega),List.filter_cons,y,show (zd.mk g.At g.Gen) = g from rfl];cases B : zd.eq v.heap g with
  | true =>
   have ih := gG I g l hl hv rest (pre ++ [x]) (out ++ [x]) m (by rw [e]; simp) (by simp; omega) (by omega);rw [show ((pre ++ [x]).length : Int) = (pre.length : Int) + 1 by simp] at ih;rw [cT,xh (by simp only [List.length_singleton]; omega)];simp only [bS,if_true];rw [ih]; simp
  | false =>
   have ih := gG I g l hl hv rest (pre ++ [x]) out m (by rw [e]; simp) (by simp; omega) (by omega);rw [show ((pre ++ [x]).length : Int) = (pre.length : Int) + 1 by simp] at ih;rw [cF];simp only [bS,Bool.false_eq_true,if_false];exact ih
theorem cl {h g : zd} {T : Nat} (l : List zd) (hl : l.length <= 65536) (hn : l.Nodup) {p0 : ze} (h0 : ∀ r ∈ l,∃ c,Pt.Live p0 r ⟨c,g⟩) :
  ∀ (rest pre : List zd) (t : zm) (m : Nat),l = pre ++ rest -> rest.length < m -> Pt.Inv t.items T -> t.items.most = p0.most -> t.items.l.length = p0.l.length -> t.items.free = p0.free ->
   (∀ s u,Pt.Live t.items s u ↔ (s ∈ pre /\ ∃ c,Pt.Live p0 s ⟨c,g⟩ /\ u = ⟨c,h⟩) \/ (s ∉ pre /\ Pt.Live p0 s u)) ->
   ∃ p',xY (l.length : Int) l g.At g.Gen h.At h.Gen m (pre.length : Int) t = some (zm.mk t.heaps p' t.at_) /\ Pt.Inv p' T /\ p'.most = p0.most /\ p'.l.length = p0.l.length /\ p'.free = p0.free /\
    (∀ s u,Pt.Live p' s u ↔ (s ∈ l /\ ∃ c,Pt.Live p0 s ⟨c,g⟩ /\ u = ⟨c,h⟩) \/ (s ∉ l /\ Pt.Live p0 s u))
 | [],pre,t,m + 1,e,hm,I,A,B,D,y => by
  refine ⟨t.items,?_,I,A,B,D,by rw [e,aN]; exact y⟩;unfold xY;rw [dF (by rw [e]; simp),cF]
 | x :: rest,pre,t,m + 1,e,hm,I,A,B,D,y => by
  have hlen : l.length = pre.length + (rest.length + 1) := by rw [e]; simp
  obtain ⟨c,U⟩ := h0 x (by rw [e]; simp);have z : x ∉ pre := by
   rw [e] at hn;obtain ⟨_,_,h3⟩ := List.nodup_append.1 hn;exact fun hp => h3 x hp x (List.mem_cons_self ..) rfl
  have j : Pt.Live t.items x ⟨c,g⟩ := (y _ _).2 (Or.inr ⟨z,U⟩);have J : mIdx l (pre.length : Int) = some x := by rw [e]; exact yv pre rest x
  simp only [lC] at hm;have S := Pt.qy I j (zA.mk c h);have F := Pt.sA j (zA.mk c h);obtain ⟨p',W,r⟩ := cl l hl hn h0 rest (pre ++ [x]) (zm.mk t.heaps (ze.mk t.items.most (mSet t.items.l x.At ⟨x.Gen,true,zA.mk c h⟩) t.items.free) t.at_) m (by rw [e]; simp) (by omega) (Pt.qx I j _) A (by simpa [mSet] using B) D (by
   intro s u;refine (F s u).trans ?_;simp only [iA,List.mem_singleton];constructor
   ·rintro (⟨rfl,rfl⟩ | ⟨O,hl⟩)
    ·exact Or.inl ⟨Or.inr rfl,c,U,rfl⟩
    ·rcases (y _ _).1 hl with ⟨h1,h2⟩ | ⟨h1,h2⟩
     ·exact Or.inl ⟨Or.inl h1,h2⟩
     ·exact Or.inr ⟨fun h3 => h3.elim h1 O,h2⟩
   ·rintro (⟨h1 | rfl,c',h2,rfl⟩ | ⟨h1,h2⟩)
    ·exact Or.inr ⟨fun e => z (e ▸ h1),(y _ _).2 (Or.inl ⟨h1,c',h2,rfl⟩)⟩
    ·have := U.uniq h2;simp only [zA.mk.injEq,and_true] at this;exact Or.inl ⟨rfl,by rw [this]⟩
    ·simp only [not_or] at h1;exact Or.inr ⟨h1.2,(y _ _).2 (Or.inr ⟨h1.1,h2⟩)⟩)
  rw [show ((pre ++ [x]).length : Int) = (pre.length : Int) + 1 by simp] at W;refine ⟨p',?_,r⟩;unfold xY;rw [dT (by omega),cT,J];simp only [bS];rw [Pt.vE I j];simp only [bS];rw [show (zd.mk h.At h.Gen) = h from rfl,S];simp only [bS];rw [zV (by omega) (by omega)];exact W
section
variable {M : Nat} {q : zq} {T : Nat} {h g : HR} {hs hs' : List HR}
theorem A6 (hn : (hs.map HR.ref).Nodup) {a b : HR} (ha : a ∈ hs) (u : b ∈ hs) (e : a.ref = b.ref) : a = b := by
 induction hs with
 | nil => cases ha
 | cons c hs ih =>
  rw [pC,List.nodup_cons] at hn;rcases List.mem_cons.1 ha with t | t
  ·rcases List.mem_cons.1 u with j | j
   ·rw [t,j]
   ·exact absurd (by rw [<- t,e]; exact List.mem_map_of_mem (f := HR.ref) j) hn.1
  ·rcases List.mem_cons.1 u with j | j
   ·exact absurd (by rw [<- j,<- e]; exact List.mem_map_of_mem (f := HR.ref) t) hn.1
   ·exact ih hn.2 t j
theorem PQ.meld (Q : PQ M q T (h :: g :: hs)) (a3 : h.k = g.k) (c1 : h.rs.length < 256) (c2 : g.rs.length < 256) {f : Nat} (hf : 95000 < f) :
  Do (tQ f q h.ref g.ref) fun res => ∃ r' C' q',res = (zO.mk 0 (zd.mk 0 0) (zd.mk 0 0) (zG.mk 0 0) ((h.rs.length : Int) + g.rs.length),q') /\ PQ M q' T (⟨h.ref,h.k,r',C',h.rs ++ g.rs⟩ :: hs) /\ q'.serial = q.serial /\ Stp' q q' (bd h.k (h.rs.length + g.rs.length)) := by
 have hm : h ∈ h :: g :: hs := List.mem_cons_self ..;have B : g ∈ h :: g :: hs := mC _ (List.mem_cons_self ..);have O := Q.hk h hm;have Y := Q.hk g B;rw [<- a3] at Y;have F : h.ref ≠ g.ref := by
  intro e;have := Q.hn;simp [e] at this
 have D := Q.live B;obtain ⟨κ,n,eC,H0⟩ := Q.ar;have H := H0.yF;rw [oy,oy] at H;have I := Q.ii;have z : uO f q.t_ g.ref = some ((Pt.out q.t_.items).filter (lf q.t_.items g.ref)) := by
  unfold uO;rw [Pt.ma I (by omega)];simp only [bS];rw [show (0 : Int) = (([] : List zd).length : Int) from rfl,gG I g.ref (Pt.out q.t_.items) I.fX (fun r hr => Pt.lg.1 hr) (Pt.out q.t_.items) [] [] f (List.nil_append _).symm (Nat.le_refl _) (by have := I.fX; omega)];simp
 generalize S : (Pt.out q.t_.items).filter (lf q.t_.items g.ref) = l' at z;have x : ∀ r,r ∈ l' ↔ ∃ p ∈ g.rs,r = p.1 := by
  intro r;rw [<- S,List.mem_filter];constructor
  ·rintro ⟨h1,h2⟩;obtain ⟨v,hv⟩ := Pt.lg.1 h1;unfold lf at h2;rw [Pt.vE I hv] at h2;have h3 := (uy _ _).1 h2;obtain ⟨g0,j,p,hp,rfl,rfl⟩ := (Q.il _ _).1 hv;have := A6 Q.hn j B h3;subst this;exact ⟨p,hp,rfl⟩
  ·rintro ⟨p,hp,rfl⟩;have hv : Pt.Live q.t_.items p.1 ⟨(p.2.i : Int),g.ref⟩ := (Q.il _ _).2 ⟨g,B,p,hp,rfl,rfl⟩;refine ⟨Pt.lg.2 ⟨_,hv⟩,?_⟩;unfold lf;rw [Pt.vE I hv];exact (uy _ _).2 rfl
 have U : l'.length <= 65536 := by rw [<- S]; exact Nat.le_trans (List.length_filter_le _ _) I.fX
 have a5 : l'.Nodup := by rw [<- S]; exact Pt.lh.sublist List.filter_sublist
 obtain ⟨p',e4,I',e5,e6,e7,b0⟩ := cl (h := h.ref) (g := g.ref) l' U a5 (p0 := q.t_.items) (fun r hr => by
  obtain ⟨p,hp,rfl⟩ := (x r).1 hr;exact ⟨_,(Q.il _ _).2 ⟨g,B,p,hp,rfl,rfl⟩⟩) l' [] q.t_ f rfl (by omega) I rfl rfl rfl (fun s u => by simp)
 simp only [List.length_nil] at e4;have A := Q.live hm;have J : uN f q.t_ h.ref g.ref = some (0,zm.mk (zj.mk q.t_.heaps.most (mSet q.t_.heaps.l g.ref.At ⟨g.ref.Gen,false,(zC.mk 0 0 0)⟩) (q.t_.heaps.free ++ [g.ref.At])) p' q.t_.at_) := by
  unfold uN;rw [Ph.vE Q.ih A];simp only [bS];rw [show ((0 : Int) != 0) = false from rfl,cF,Ph.vE Q.ih D];simp only [bS];rw [show ((0 : Int) != 0) = false from rfl,cF,show zd.eq h.ref g.ref = false by simpa using fun e => F ((uy _ _).1 e),cF,show (h.val.kind != g.val.kind) = false by simpa [HR.val] using a3,cF,z];simp only [bS];rw [show ((0 : Nat) : Int) = 0 from rfl] at e4;rw [e4];simp only [bS];rw [Ph.rV Q.ih D]
  rfl
 unfold tQ;rw [Q.heap hm];simp only [bS];rw [Q.heap B];simp only [bS];rw [J];simp only [bS];refine Do.f rfl ?_;refine (BN (f := f) O.1 O.2 Y.2 H (by rw [HR.vV]; omega) (by rw [HR.vV]; omega) hf).bind ?_;rintro _ ⟨r',C',a1,rfl,h1,H1⟩;rw [zV (by omega) (by omega)];have a0 := Ph.oI Q.ih D;have Z := Ph.qN D;have y := (Z h.ref h.val).2 ⟨F,A⟩;refine Do.seq (PQ.root (t := zm.mk (zj.mk q.t_.heaps.most (mSet q.t_.heaps.l g.ref.At ⟨g.ref.Gen,false,(zC.mk 0 0 0)⟩) (q.t_.heaps.free ++ [g.ref.At])) p' q.t_.at_) a0 y r' ((h.rs.length : Int) + g.rs.length)) ?_;have X : allR (⟨h.ref,h.k,r',C',h.rs ++ g.rs⟩ :: hs) = allR (h :: g :: hs) := by
  rw [wZ,wZ,wZ,aA]
 have a4 : ((h :: hs).map HR.ref).Nodup := by
  have := Q.hn;simp only [pC,List.nodup_cons,iC,not_or] at this ⊢;exact ⟨this.1.2,this.2.2⟩
 have a2 : ∀ g0 ∈ hs,g0.ref ≠ g.ref := by
  have := Q.hn;simp only [pC,List.nodup_cons] at this;exact fun g0 h0 e => this.2.1 (e ▸ List.mem_map_of_mem (f := HR.ref) h0)
 refine ⟨_,rfl,r',C',_,rfl,?_,rfl,H1.lo,?_⟩
 ·refine ⟨?_,I',?_,?_,Q.at1,?_,Q.en1,?_,?_,a4,?_,?_,⟨⟨κ.C,q.a_.m_.steps,κ.g,κ.mo⟩,_,eC,H1⟩,Q.mi,e5.trans Q.mm,Q.mb,?_,?_,Q.cm,?_,Q.sq⟩
  ·exact Ph.qx a0 y (zC.mk h.k r' ((h.rs.length : Int) + g.rs.length))
  ·refine fJ (h := h) (P := Ph.Live (zj.mk q.t_.heaps.most (mSet q.t_.heaps.l g.ref.At ⟨g.ref.Gen,false,(zC.mk 0 0 0)⟩) (q.t_.heaps.free ++ [g.ref.At]))) ?_ a4 rfl fun s u => ?_
   ·intro s u;refine (Z s u).trans ⟨?_,?_⟩
    ·rintro ⟨a6,hl⟩;obtain ⟨g0,j,rfl,rfl⟩ := (Q.hl _ _).1 hl;simp only [iC] at j;rcases j with rfl | rfl | j
     ·exact ⟨_,List.mem_cons_self ..,rfl,rfl⟩
     ·exact absurd rfl a6
     ·exact ⟨g0,mC _ j,rfl,rfl⟩
    ·rintro ⟨g0,j,rfl,rfl⟩;rcases List.mem_cons.1 j with rfl | j
     ·exact ⟨F,A⟩
     ·exact ⟨a2 g0 j,(Q.hl _ _).2 ⟨g0,by simp [j],rfl,rfl⟩⟩
   ·have := Ph.sA y (zC.mk h.k r' ((h.rs.length : Int) + g.rs.length)) s u;simpa [HR.val] using this
  ·intro s u;refine (b0 s u).trans ⟨?_,?_⟩
   ·rintro (⟨W,c,hc,rfl⟩ | ⟨W,hl⟩)
    ·obtain ⟨p,hp,rfl⟩ := (x s).1 W;have := hc.uniq ((Q.il _ _).2 ⟨g,B,p,hp,rfl,rfl⟩);simp only [zA.mk.injEq,and_true] at this;exact ⟨_,List.mem_cons_self ..,p,List.mem_append_right _ hp,rfl,by rw [this]⟩
    ·obtain ⟨g0,j,p,hp,rfl,rfl⟩ := (Q.il _ _).1 hl;simp only [iC] at j;rcases j with rfl | rfl | j
     ·exact ⟨_,List.mem_cons_self ..,p,mL _ hp,rfl,rfl⟩
     ·exact absurd ((x _).2 ⟨p,hp,rfl⟩) W
     ·exact ⟨g0,mC _ j,p,hp,rfl,rfl⟩
   ·have key : ∀ g0 ∈ h :: g :: hs,g0.ref ≠ g.ref -> ∀ p ∈ g0.rs,p.1 ∉ l' := by
     intro g0 j a7 p hp hl;obtain ⟨p2,b1,e⟩ := (x _).1 hl;have h5 := (Q.il p.1 _).2 ⟨g0,j,p,hp,rfl,rfl⟩;have h6 := (Q.il p.1 _).2 ⟨g,B,p2,b1,e,rfl⟩;have := h5.uniq h6;simp only [zA.mk.injEq] at this;exact a7 this.2
    rintro ⟨g0,j,p,hp,rfl,rfl⟩;rcases List.mem_cons.1 j with rfl | j
    ·rcases List.mem_append.1 hp with hp | hp
     ·exact Or.inr ⟨key h hm F p hp,(Q.il _ _).2 ⟨h,hm,p,hp,rfl,rfl⟩⟩
     ·exact Or.inl ⟨(x _).2 ⟨p,hp,rfl⟩,_,(Q.il _ _).2 ⟨g,B,p,hp,rfl,rfl⟩,rfl⟩
    ·exact Or.inr ⟨key g0 (by simp [j]) (a2 g0 j) p hp,(Q.il _ _).2 ⟨g0,by simp [j],p,hp,rfl,rfl⟩⟩
  ·rw [X]; exact Q.at2
  ·rw [X]; exact Q.en2
  ·intro g0 j;rcases List.mem_cons.1 j with rfl | j
   ·refine ⟨O.1,?_⟩;show HK (KD h.k) r' ((h.rs ++ g.rs).map Prod.snd) C';rw [List.map_append]; exact h1
   ·exact Q.hk g0 (by simp [j])
  ·rw [X]; exact Q.rn
  ·rw [X]; exact Q.sn
  ·rw [X];show (p'.l.length : Int) - p'.free.length = _;rw [e6,e7]; exact Q.ci
  ·have := Q.ch;simp only [mSet,List.length_set,lA,lC,List.length_nil] at this ⊢;omega
  ·rw [X]; exact Q.sr
 ·have := H1.hi;rw [HR.vV,HR.vV] at this;simp only at this ⊢; omega
theorem PQ.make (Q : PQ M q T hs) {k : Int} (hk : Kd k) (B : hs.length < 64) (J : T < 4611686018427387000) :
  ∃ r z,uP q.t_ k = some (r,0,z) /\ PQ M (zq.mk q.items q.a_ z q.entries q.serial) (T + 1) (⟨r,k,-1,[],[]⟩ :: hs) := by
 obtain ⟨r,p',e,A,t,F,y,j⟩ := Ph.qZ Q.ih (by omega) (by have := Q.ch; have := Q.cm; omega) (zC.mk k (-1) 0);have x : pn k = some true := by
  unfold pn;rcases hk with rfl | rfl | rfl <;> rfl
 refine ⟨r,zm.mk p' q.t_.items q.t_.at_,?_,?_⟩
 ·unfold uP;rw [x];simp only [bS];rw [show (!true) = false from rfl,cF,e]
  rfl
 ·have I : allR (⟨r,k,-1,[],[]⟩ :: hs) = allR hs := rfl;have D : allC (⟨r,k,-1,[],[]⟩ :: hs) = allC hs := rfl;refine ⟨A,Q.ii.mono (by omega),?_,?_,Q.at1,Q.at2,Q.en1,Q.en2,?_,?_,Q.rn,Q.sn,Q.ar,Q.mi,Q.mm,Q.mb,Q.ci,?_,y.trans Q.cm,Q.sr,?_⟩
  ·intro s u;refine (F s u).trans ⟨?_,?_⟩
   ·rintro (⟨rfl,rfl⟩ | hl)
    ·exact ⟨_,List.mem_cons_self ..,rfl,rfl⟩
    ·obtain ⟨g0,h0,e⟩ := (Q.hl _ _).1 hl;exact ⟨g0,mC _ h0,e⟩
   ·rintro ⟨g0,h0,rfl,rfl⟩;rcases List.mem_cons.1 h0 with rfl | h0
    ·exact Or.inl ⟨rfl,rfl⟩
    ·exact Or.inr ((Q.hl _ _).2 ⟨g0,h0,rfl,rfl⟩)
  ·intro s u;refine (Q.il s u).trans ⟨?_,?_⟩
   ·rintro ⟨g0,h0,e⟩; exact ⟨g0,mC _ h0,e⟩
   ·rintro ⟨g0,h0,p,hp,e⟩;rcases List.mem_cons.1 h0 with rfl | h0
    ·cases hp
    ·exact ⟨g0,h0,p,hp,e⟩
  ·intro g0 h0;rcases List.mem_cons.1 h0 with rfl | h0
   ·exact ⟨hk,CZ hk⟩
   ·exact Q.hk g0 h0
  ·rw [pC,List.nodup_cons];refine ⟨fun hm => ?_,Q.hn⟩;obtain ⟨g0,h0,e⟩ := List.mem_map.1 hm;exact t _ ((Q.hl _ _).2 ⟨g0,h0,e.symm,rfl⟩)
  ·have := Q.ch;simp only [lC] at j ⊢; omega
  ·have := Q.sq; simp only; omega
theorem Ca (h1 : 1 <= M) (h2 : M <= 16384) : ∃ q,ea (M : Int) = some (some q,0) /\ PQ M q 0 [] /\ q.serial = 0 /\ q.a_.m_.steps = 0 := by
 obtain ⟨a,y,e⟩ := lO (C := 2 * M) (by omega);have z : w64 (2 * (M : Int)) = ((2 * M : Nat) : Int) := by rw [zV (by omega) (by omega)]; simp
 have t : (if (if 16384 < (M : Int) then 16384 else (M : Int)) > 1 then (if 16384 < (M : Int) then 16384 else (M : Int)) else 1) = (M : Int) := by
  rw [show (if 16384 < (M : Int) then 16384 else (M : Int)) = (M : Int) from if_neg (by omega)]; split <;> omega
 have x : (if (if 65536 < (M : Int) then 65536 else (M : Int)) > 0 then (if 65536 < (M : Int) then 65536 else (M : Int)) else 0) = (M : Int) := by
  rw [show (if 65536 < (M : Int) then 65536 else (M : Int)) = (M : Int) from if_neg (by omega),if_pos (by omega)]
 refine ⟨zq.mk (M : Int) a (zm.mk (zj.mk 64 [] []) (ze.mk (M : Int) [] []) []) [] 0,?_,?_,rfl,?_⟩
 ·unfold ea;rw [show ((decide ((M : Int) < 1)) || (decide ((M : Int) > 16384))) = false by simp; omega,cF,z,y];simp only [bS];unfold lI uV uz;simp only [bS];rw [t,x]
  rfl
 ·refine ⟨⟨⟨by simp,by simp⟩,by simp,by simp,List.nodup_nil,by simp,by simp⟩,Pt.gN (by omega) (by omega) 0,?_,?_,List.nodup_nil,?_,List.nodup_nil,?_,?_,List.nodup_nil,List.nodup_nil,List.nodup_nil,⟨_,_,rfl,e⟩,rfl,rfl,⟨h1,h2⟩,rfl,rfl,rfl,?_,by simp⟩
  ·intro s u;constructor
   ·rintro ⟨j,_,h⟩; simp at h
   ·rintro ⟨g,h,_⟩; cases h
  ·intro s u;constructor
   ·rintro ⟨j,_,h⟩; simp at h
   ·rintro ⟨g,h,_⟩; cases h
  ·intro c s;constructor
   ·intro h; cases h
   ·rintro ⟨p,hp,_⟩; cases hp
  ·intro c s;constructor
   ·intro h; cases h
   ·rintro ⟨p,hp,_⟩; cases hp
  ·intro h hh; cases hh
  ·intro p hp; cases hp
 ·have := e.lo; have := e.hi; simp only at *; omega
end
end
noncomputable section
set_option maxRecDepth 10000
def begun (q : zq) (m : zF) : zq := zq.mk q.items (za.mk q.a_.l q.a_.never q.a_.free m) q.t_ q.entries q.serial
section
variable {M : Nat} {q : zq} {T : Nat} {h g : HR} {hs hs' : List HR} {f : Nat}
theorem PQ.begin (Q : PQ M q T hs) : ∃ m,tE q.a_.m_ = some m /\ m.steps = q.a_.m_.steps /\ PQ M (begun q m) T hs := by
 obtain ⟨κ,n,e,H⟩ := Q.ar;refine ⟨_,rfl,rfl,?_⟩;exact Q.Bv ⟨⟨κ.C,q.a_.m_.steps,q.a_.m_.steps,_⟩,0,e,⟨H.len,H.cap,H.nev,H.fre,H.hav,H.oth,Int.le_trans H.b0 H.lo,Int.le_refl _,by simp,H.mx,rfl,rfl⟩⟩
theorem lK {q1 q2 : zq} {m : zF} {B : Nat} (e : m.steps = q.a_.m_.steps) (h : Stp' (begun q m) q2 B) : Stp' q q2 B := by
 unfold Stp' at *
 rw [<- e]; exact h
theorem PQ.dS (Q : PQ M q T hs) {k : Int} (hk : Kd k) (u : hs.length < 64) (A : T < 4611686018427387000) {a b c : zd} {key : Int} :
  Do (yg f q (yk.mk 1 k a b c key)) fun res => ∃ r j,res = (zO.mk 0 r (zd.mk 0 0) (zG.mk 0 0) 0,j) /\ PQ M j (T + 1) (⟨r,k,-1,[],[]⟩ :: hs) /\ j.serial = q.serial /\ Stp' q j 0 := by
 obtain ⟨m,e,es,x⟩ := Q.begin;unfold yg;refine Do.seq (r := ()) rfl (Do.seq e (Do.t rfl ?_));obtain ⟨r,B,z,y⟩ := x.make hk u A;refine Do.seq z ?_;exact ⟨_,rfl,r,_,rfl,y,rfl,lK (q1 := q) es ⟨Int.le_refl _,by simp [begun]⟩⟩
theorem PQ.bK (Q : PQ M q T (h :: hs)) (j : (allR (h :: hs)).length < M) (y : h.rs.length < 1000) (D : T < 4611686018427387000) (hf : 95000 < f) (z : Int) (key : Int) (o i0 : zd) :
  Do (yg f q (yk.mk 2 z h.ref o i0 key)) fun res => ∃ (i : zd) (x : It) (r' : Int) (C' : Heap) (u : zq),res = (zO.mk 0 (zd.mk 0 0) i (zG.mk key q.serial) 0,u) /\ x.k = key /\ x.s = q.serial /\
   PQ M u (T + 1) (⟨h.ref,h.k,r',C',(i,x) :: h.rs⟩ :: hs) /\ u.serial = q.serial + 1 /\ Stp' q u (bd h.k h.rs.length + 3) := by
 obtain ⟨m,e,es,A⟩ := Q.begin;unfold yg;refine Do.seq (r := ()) rfl (Do.seq e (Do.f rfl (Do.t rfl ?_)));refine (A.insert j y D hf z key o i0).bind ?_;rintro _ ⟨i,x,r',C',u,rfl,h1,h2,h3,h4,B⟩;exact ⟨_,rfl,i,x,r',C',u,rfl,h1,h2,h3,h4,lK (q1 := q) es B⟩
theorem PQ.CU (Q : PQ M q T (h :: hs)) (u : h.rs.length < 1000) (hf : 95000 < f) {k key : Int} {o i0 : zd} :
  Do (yg f q (yk.mk 3 k h.ref o i0 key)) fun res => ∃ j,PQ M j T (h :: hs) /\ j.serial = q.serial /\ Stp' q j 100 /\ ((h.rs = [] /\ res = (zO.mk 27 (zd.mk 0 0) (zd.mk 0 0) (zG.mk 0 0) 0,j)) \/ ∃ p ∈ h.rs,res = (okA p.1 p.2,j) /\ ∀ p' ∈ h.rs,¬ p'.2.lt p.2) := by
 obtain ⟨m,e,es,x⟩ := Q.begin;unfold yg;refine Do.seq (r := ()) rfl (Do.seq e (Do.f rfl (Do.f rfl (Do.t rfl ?_))));refine (x.min u hf).bind ?_;rintro res ⟨j,h1,h2,h3,h4⟩;exact ⟨_,rfl,j,h1,h2,lK (q1 := q) es h3,h4⟩
theorem PQ.CV (Q : PQ M q T (h :: hs)) (x : h.rs.length < 1000) (u : h.rs ≠ []) (hf : 95000 < f) {k key : Int} {o i0 : zd} :
  Do (yg f q (yk.mk 4 k h.ref o i0 key)) fun res => ∃ p rs r' C' j,res = (okA p.1 p.2,j) /\ h.rs.Perm (p :: rs) /\ (∀ p' ∈ h.rs,¬ p'.2.lt p.2) /\ PQ M j T (⟨h.ref,h.k,r',C',rs⟩ :: hs) /\ j.serial = q.serial /\ Stp' q j (bd h.k h.rs.length + 1) := by
 obtain ⟨m,e,es,y⟩ := Q.begin;unfold yg;refine Do.seq (r := ()) rfl (Do.seq e (Do.f rfl (Do.f rfl (Do.f rfl (Do.t rfl ?_)))));refine (y.pop x u hf).bind ?_;rintro res ⟨p,rs,r',C',j,h1,h2,h3,h4,z,A⟩;exact ⟨_,rfl,p,rs,r',C',j,h1,h2,h3,h4,z,lK (q1 := q) es A⟩
theorem PQ.eG (Q : PQ M q T (h :: hs)) (x : h.rs.length < 1000) {p : zd × It} (hp : p ∈ h.rs) (hf : 95000 < f) {key : Int} (u : key <= p.2.k) {k : Int} {hh o : zd} :
  Do (yg f q (yk.mk 5 k hh o p.1 key)) fun res => ∃ rs r' C' j,res = (okA (zd.mk 0 0) ⟨p.2.i,key,p.2.s⟩,j) /\ h.rs.Perm (p :: rs) /\ PQ M j T (⟨h.ref,h.k,r',C',(p.1,⟨p.2.i,key,p.2.s⟩) :: rs⟩ :: hs) /\ j.serial = q.serial /\ Stp' q j (bd h.k h.rs.length + 2) := by
 obtain ⟨m,e,es,y⟩ := Q.begin;unfold yg;refine Do.seq (r := ()) rfl (Do.seq e (Do.f rfl (Do.f rfl (Do.f rfl (Do.f rfl (Do.t rfl ?_))))));refine (y.bI x hp hf u k hh o).bind ?_;rintro res ⟨rs,r',C',j,h1,h2,h4,z,A⟩;exact ⟨_,rfl,rs,r',C',j,h1,h2,h4,z,lK (q1 := q) es A⟩
theorem PQ.bL (Q : PQ M q T (h :: hs)) (u : h.rs.length < 1000) {p : zd × It} (hp : p ∈ h.rs) (hf : 95000 < f) {k key : Int} {hh o : zd} :
  Do (yg f q (yk.mk 6 k hh o p.1 key)) fun res => ∃ rs r' C' j,res = (okA (zd.mk 0 0) p.2,j) /\ h.rs.Perm (p :: rs) /\ PQ M j T (⟨h.ref,h.k,r',C',rs⟩ :: hs) /\ j.serial = q.serial /\ Stp' q j (bd h.k h.rs.length + 1) := by
 obtain ⟨m,e,es,x⟩ := Q.begin;unfold yg;refine Do.seq (r := ()) rfl (Do.seq e (Do.f rfl (Do.f rfl (Do.f rfl (Do.f rfl (Do.f rfl (Do.t rfl ?_)))))));refine (x.remove u hp hf).bind ?_;rintro res ⟨rs,r',C',j,h1,h2,h4,y,z⟩;exact ⟨_,rfl,rs,r',C',j,h1,h2,h4,y,lK (q1 := q) es z⟩
theorem PQ.BB (Q : PQ M q T (h :: g :: hs)) (u : h.k = g.k) (x : h.rs.length < 256) (y : g.rs.length < 256) (hf : 95000 < f) {k key : Int} {i0 : zd} :
  Do (yg f q (yk.mk 7 k h.ref g.ref i0 key)) fun res => ∃ r' C' j,res = (zO.mk 0 (zd.mk 0 0) (zd.mk 0 0) (zG.mk 0 0) ((h.rs.length : Int) + g.rs.length),j) /\ PQ M j T (⟨h.ref,h.k,r',C',h.rs ++ g.rs⟩ :: hs) /\ j.serial = q.serial /\ Stp' q j (bd h.k (h.rs.length + g.rs.length)) := by
 obtain ⟨m,e,es,z⟩ := Q.begin;unfold yg;refine Do.seq (r := ()) rfl (Do.seq e (Do.f rfl (Do.f rfl (Do.f rfl (Do.f rfl (Do.f rfl (Do.f rfl (Do.t rfl ?_))))))));refine (z.meld u x y hf).bind ?_;rintro res ⟨r',C',j,h1,h4,A,B⟩;exact ⟨_,rfl,r',C',j,h1,h4,A,lK (q1 := q) es B⟩
end
end
noncomputable section
set_option maxRecDepth 10000
namespace Pj
structure Inv (p : zg) (T : Nat) : Prop where
 most : 0 <= p.most /\ p.most <= 65536
 len : (p.l.length : Int) <= p.most
 fre : ∀ f ∈ p.free,∃ (j : Nat) (x : zt),f = (j : Int) /\ p.l[j]? = some x /\ x.taken = false
 fnd : p.free.Nodup
 cov : ∀ (j : Nat) (x : zt),p.l[j]? = some x -> x.taken = false -> (j : Int) ∈ p.free
 gen : ∀ (j : Nat) (x : zt),p.l[j]? = some x -> 1 <= x.gen /\ x.gen <= T
def Live (p : zg) (r : zd) (v : zB) : Prop := ∃ j : Nat,r.At = (j : Int) /\ p.l[j]? = some ⟨r.Gen,true,v⟩
section
variable {p : zg} {T : Nat} {r : zd} {v : zB}
theorem Live.idx (h : Live p r v) : mIdx p.l r.At = some ⟨r.Gen,true,v⟩ := by
 obtain ⟨j,e,h⟩ := h;rw [e,yR]; exact h
theorem Live.uniq {w : zB} (h : Live p r v) (t : Live p r w) : v = w := by
 have j := h.idx;have e := t.idx;rw [j] at e;simp only [Option.some.injEq,zt.mk.injEq,true_and] at e;exact e
theorem Inv.flen (I : Inv p T) : p.free.length <= p.l.length := by
 have h1 : (p.free.map Int.toNat).Nodup := List.pairwise_map.2 (I.fnd.imp_of_mem fun {x y} u z t e => by
  obtain ⟨i,_,rfl,_⟩ := I.fre x u;obtain ⟨j,_,rfl,_⟩ := I.fre y z;simp only [tN] at e;exact t (by rw [e]))
 have h2 := qQ (m := List.range p.l.length) h1 fun x u => by
  obtain ⟨f,hf,rfl⟩ := List.mem_map.1 u;obtain ⟨j,y,rfl,hj,_⟩ := I.fre f hf;simp only [tN,List.mem_range];exact (List.getElem?_eq_some_iff.1 hj).1
 simpa using h2
theorem wS (I : Inv p T) (h : Live p r v) : zS p r = some (some r.At,0) := by
 have hi := h.idx;obtain ⟨j,e,h⟩ := h;have t := I.gen _ _ h;simp only at t;have hl := (List.getElem?_eq_some_iff.1 h).1;unfold zS;rw [dF (by omega),dF (by omega),dF (by omega),hi];simp
theorem vE (I : Inv p T) (h : Live p r v) : yx p r = some (v,0) := by
 unfold yx;rw [wS I h];simp [uT,oS,h.idx]
theorem qy (I : Inv p T) (h : Live p r v) (w : zB) : xy p r w = some (0,zg.mk p.most (mSet p.l r.At ⟨r.Gen,true,w⟩) p.free) := by
 unfold xy;rw [wS I h];simp [uT,oS,h.idx]
theorem rV (I : Inv p T) (h : Live p r v) : zU p r = some (v,0,zg.mk p.most (mSet p.l r.At ⟨r.Gen,false,(zB.mk 0 0 0 (zd.mk 0 0))⟩) (p.free ++ [r.At])) := by
 have e := I.flen;have h1 := I.len;have h2 := I.most;unfold zU;rw [wS I h];simp only [bS,uT,oS,h.idx];rw [xh (by simp only [List.length_singleton]; omega)];simp [mSet]
theorem qf (I : Inv p T) (y : T < 4611686018427387904) {fs : List Int} {j : Nat} {x : zt} (hf : p.free = fs ++ [(j : Int)]) (hj : p.l[j]? = some x) :
  yt p v = some (zd.mk (j : Int) (x.gen + 1),true,zg.mk p.most (mSet p.l (j : Int) ⟨x.gen + 1,true,v⟩) fs) := by
 have z := I.gen _ _ hj;have u : fs.length < 1000000 := by
  have h0 := I.flen;rw [hf] at h0;simp only [lA,List.length_singleton] at h0;have := I.len;have := I.most;omega
 have hw : w64 (((fs ++ [(j : Int)]).length : Int) - 1) = (fs.length : Int) := by
  rw [zV] <;> simp <;> omega
 have t : mIdx (fs ++ [(j : Int)]) (fs.length : Int) = some (j : Int) := yv fs [] (j : Int);have e : mCut (fs ++ [(j : Int)]) 0 (fs.length : Int) = some fs := by
  unfold mCut;rw [if_pos ⟨by omega,by omega,by simp; omega⟩];simp
 unfold yt;rw [hf,hw,dT (by omega)];simp only [cT,t,e,bS];rw [yR,hj];simp only [bS];rw [zV (by omega) (by omega)];simp [mSet]
theorem pH (I : Inv p T) (hf : p.free = []) (hl : (p.l.length : Int) < p.most) :
  yt p v = some (zd.mk (p.l.length : Int) 1,true,zg.mk p.most (p.l ++ [⟨1,true,v⟩]) []) := by
 have := I.most;unfold yt;rw [hf];rw [show w64 ((([] : List Int).length : Int) - 1) = -1 by rw [zV] <;> simp];rw [dF (by omega)];simp only [cF];rw [dF (by omega)];simp only [cF];rw [xh (by simp only [List.length_singleton]; omega)];simp only [bS];rw [yv];simp only [bS];rw [show w64 (0 + 1) = 1 by rw [zV] <;> simp];simp [mSet]
theorem yQ {l : List zt} {j i : Nat} {x y : zt} (h : l[j]? = some y) : (l.set j x)[i]? = if i = j then some x else l[i]? := by
 have := (List.getElem?_eq_some_iff.1 h).1;by_cases e : i = j
 ·subst e; rw [if_pos rfl,List.getElem?_set_self this]
 ·rw [if_neg e,getD_set_ne (fun h => e h.symm)]
theorem qx (I : Inv p T) (h : Live p r v) (w : zB) : Inv (zg.mk p.most (mSet p.l r.At ⟨r.Gen,true,w⟩) p.free) T := by
 obtain ⟨j,e,h⟩ := h;have u := I.gen _ _ h;refine ⟨I.most,by simpa [mSet] using I.len,fun f hf => ?_,I.fnd,fun i x t ht => ?_,fun i x t => ?_⟩
 ·obtain ⟨i,x,rfl,hi,t⟩ := I.fre f hf;refine ⟨i,x,rfl,?_,t⟩;simp only [mSet,e,tN];rw [yQ h,if_neg]; exact hi;rintro rfl;rw [h] at hi; cases hi; simp at t
 ·simp only [mSet,e,tN] at t;rw [yQ h] at t;split at t
  ·cases t; simp at ht
  ·exact I.cov i x t ht
 ·simp only [mSet,e,tN] at t;rw [yQ h] at t;split at t
  ·cases t; exact u
  ·exact I.gen i x t
theorem sA (h : Live p r v) (w : zB) (s : zd) (u : zB) : Live (zg.mk p.most (mSet p.l r.At ⟨r.Gen,true,w⟩) p.free) s u ↔ (s = r /\ u = w) \/ (s ≠ r /\ Live p s u) := by
 obtain ⟨j,e,h⟩ := h;constructor
 ·rintro ⟨i,t,hi⟩;simp only [mSet,e,tN] at hi;rw [yQ h] at hi;split at hi
  ·rename_i x;subst x;simp only [Option.some.injEq,zt.mk.injEq,true_and] at hi;refine Or.inl ⟨?_,hi.2.symm⟩;cases s; cases r; simp only at e t hi ⊢; rw [t,e,hi.1]
  ·rename_i x;refine Or.inr ⟨?_,i,t,hi⟩;rintro rfl;exact x (by omega)
 ·rintro (⟨rfl,rfl⟩ | ⟨y,i,t,hi⟩)
  ·refine ⟨j,e,?_⟩;simp only [mSet,e,tN];rw [yQ h,if_pos rfl]
  ·refine ⟨i,t,?_⟩;simp only [mSet,e,tN];rw [yQ h,if_neg]; exact hi;rintro rfl;rw [h] at hi;simp only [Option.some.injEq,zt.mk.injEq,true_and] at hi;refine y ?_;cases s; cases r; simp only at e t hi ⊢; rw [t,e,hi.1]
theorem oI (I : Inv p T) (h : Live p r v) : Inv (zg.mk p.most (mSet p.l r.At ⟨r.Gen,false,(zB.mk 0 0 0 (zd.mk 0 0))⟩) (p.free ++ [r.At])) T := by
 obtain ⟨j,e,h⟩ := h;have A := I.gen _ _ h;have y : r.At ∉ p.free := by
  intro hf;obtain ⟨i,x,B,hi,t⟩ := I.fre _ hf;have : i = j := by omega
  subst this;rw [h] at hi; cases hi; simp at t
 refine ⟨I.most,by simpa [mSet] using I.len,fun f hf => ?_,?_,fun i x t ht => ?_,fun i x t => ?_⟩
 ·simp only [mSet,e,tN];rcases List.mem_append.1 hf with hf | hf
  ·obtain ⟨i,x,rfl,hi,t⟩ := I.fre f hf;refine ⟨i,x,rfl,?_,t⟩;rw [yQ h,if_neg]; exact hi;rintro rfl;rw [h] at hi; cases hi; simp at t
  ·rw [List.mem_singleton.1 hf,e];exact ⟨j,_,rfl,by rw [yQ h,if_pos rfl],rfl⟩
 ·exact List.nodup_append.2 ⟨I.fnd,by simp,fun a ha b z => by rw [List.mem_singleton.1 z]; rintro rfl; exact y ha⟩
 ·simp only [mSet,e,tN] at t;rw [yQ h] at t;split at t
  ·rename_i u; subst u; exact List.mem_append_right _ (by rw [e]; simp)
  ·exact mL _ (I.cov i x t ht)
 ·simp only [mSet,e,tN] at t;rw [yQ h] at t;split at t
  ·cases t; exact A
  ·exact I.gen i x t
theorem qN (h : Live p r v) (s : zd) (u : zB) : Live (zg.mk p.most (mSet p.l r.At ⟨r.Gen,false,(zB.mk 0 0 0 (zd.mk 0 0))⟩) (p.free ++ [r.At])) s u ↔ s ≠ r /\ Live p s u := by
 obtain ⟨j,e,h⟩ := h;constructor
 ·rintro ⟨i,t,hi⟩;simp only [mSet,e,tN] at hi;rw [yQ h] at hi;split at hi
  ·simp at hi
  ·rename_i x;refine ⟨?_,i,t,hi⟩;rintro rfl;exact x (by omega)
 ·rintro ⟨y,i,t,hi⟩;refine ⟨i,t,?_⟩;simp only [mSet,e,tN];rw [yQ h,if_neg]; exact hi;rintro rfl;rw [h] at hi;simp only [Option.some.injEq,zt.mk.injEq,true_and] at hi;refine y ?_;cases s; cases r; simp only at e t hi ⊢; rw [t,e,hi.1]
theorem qZ (I : Inv p T) (W : T < 4611686018427387904) (z : (p.l.length : Int) < p.most + p.free.length) (v : zB) :
  ∃ r p',yt p v = some (r,true,p') /\ Inv p' (T + 1) /\ (∀ w,¬ Live p r w) /\ (∀ s u,Live p' s u ↔ (s = r /\ u = v) \/ Live p s u) /\ p'.most = p.most /\ (p'.l.length : Int) - p'.free.length = (p.l.length : Int) - p.free.length + 1 := by
 rcases List.eq_nil_or_concat p.free with hf | ⟨fs,f,hf⟩
 ·rw [hf] at z;refine ⟨_,_,pH I hf (by simpa using z),⟨I.most,by simp at z ⊢; omega,by simp,by simp,?_,?_⟩,?_,?_,rfl,by rw [hf]; simp⟩
  ·intro j x t ht;simp only at t;by_cases hj : j < p.l.length
   ·rw [List.getElem?_append_left hj] at t;have := I.cov j x t ht;rw [hf] at this; simp at this
   ·rw [List.getElem?_append_right (by omega)] at t;by_cases e : j - p.l.length = 0
    ·rw [e] at t; simp at t; subst t; simp at ht
    ·rw [List.getElem?_eq_none (by simp; omega)] at t; cases t
  ·intro j x t;simp only at t;by_cases hj : j < p.l.length
   ·rw [List.getElem?_append_left hj] at t;have := I.gen j x t;omega
   ·rw [List.getElem?_append_right (by omega)] at t;by_cases e : j - p.l.length = 0
    ·rw [e] at t; simp at t; subst t; simp; omega
    ·rw [List.getElem?_eq_none (by simp; omega)] at t; cases t
  ·rintro w ⟨j,e,h⟩;have := (List.getElem?_eq_some_iff.1 h).1;simp only at e;omega
  ·intro s u;constructor
   ·rintro ⟨j,e,h⟩;simp only at h;by_cases hj : j < p.l.length
    ·rw [List.getElem?_append_left hj] at h;exact Or.inr ⟨j,e,h⟩
    ·rw [List.getElem?_append_right (by omega)] at h;by_cases U : j - p.l.length = 0
     ·rw [U] at h;simp at h;refine Or.inl ⟨?_,h.2.symm⟩;cases s; simp only at e h ⊢;rw [e,<- h.1]; congr 1; omega
     ·rw [List.getElem?_eq_none (by simp; omega)] at h; cases h
   ·rintro (⟨rfl,rfl⟩ | ⟨j,e,h⟩)
    ·exact ⟨p.l.length,rfl,by simp⟩
    ·have := (List.getElem?_eq_some_iff.1 h).1;exact ⟨j,e,by rw [List.getElem?_append_left this]; exact h⟩
 ·rw [List.concat_eq_append] at hf;obtain ⟨j,x,rfl,hj,ht⟩ := I.fre f (by rw [hf]; simp);have X := I.gen j x hj;have hn := I.fnd;rw [hf] at hn;obtain ⟨O,-,S⟩ := List.nodup_append.1 hn;have J : (j : Int) ∉ fs := fun h => S _ h _ (List.mem_singleton.2 rfl) rfl
  refine ⟨_,_,qf I W hf hj,⟨I.most,by simpa [mSet] using I.len,?_,O,?_,?_⟩,?_,?_,rfl,by rw [hf]; simp [mSet]; omega⟩
  ·intro f B;obtain ⟨i,y,rfl,hi,A⟩ := I.fre f (by rw [hf]; exact mL _ B);refine ⟨i,y,rfl,?_,A⟩;simp only [mSet,tN];rw [yQ hj,if_neg]; exact hi;rintro rfl; exact J B
  ·intro i y A F;simp only [mSet,tN] at A;rw [yQ hj] at A;split at A
   ·cases A; simp at F
   ·rename_i D;have := I.cov i y A F;rw [hf] at this;rcases List.mem_append.1 this with h | h
    ·exact h
    ·simp at h; omega
  ·intro i y A;simp only [mSet,tN] at A;rw [yQ hj] at A;split at A
   ·cases A; simp only; omega
   ·have := I.gen i y A; omega
  ·rintro w ⟨i,e,h⟩;simp only at e h;have : i = j := by omega
   subst this;rw [hj] at h;simp only [Option.some.injEq] at h;rw [h] at ht; simp at ht
  ·intro s u;constructor
   ·rintro ⟨i,e,h⟩;simp only [mSet,tN] at h;rw [yQ hj] at h;split at h
    ·rename_i D;subst D;simp only [Option.some.injEq,zt.mk.injEq,true_and] at h;refine Or.inl ⟨?_,h.2.symm⟩;cases s; simp only at e h ⊢; rw [e,<- h.1]
    ·exact Or.inr ⟨i,e,h⟩
   ·rintro (⟨rfl,rfl⟩ | ⟨i,e,h⟩)
    ·refine ⟨j,rfl,?_⟩;simp only [mSet,tN];rw [yQ hj,if_pos rfl]
    ·refine ⟨i,e,?_⟩;simp only [mSet,tN];rw [yQ hj,if_neg]; exact h;rintro rfl;rw [hj] at h;simp only [Option.some.injEq] at h;rw [h] at ht; simp at ht
end
end Pj
end
noncomputable section
set_option maxRecDepth 10000
namespace Pj
def refs : List zt -> Nat -> List zd
 | [],_ => []
 | x :: l,i => (if x.taken = true then [zd.mk (i : Int) x.gen] else []) ++ refs l (i + 1)
theorem qp {r : zd} : ∀ {l : List zt} {i : Nat},r ∈ refs l i ↔ ∃ (j : Nat) (x : zt),r.At = ((i + j : Nat) : Int) /\ l[j]? = some x /\ x.taken = true /\ r.Gen = x.gen
 | [],i => by simp [refs]
 | x :: l,i => by
  rw [refs,iA,qp];constructor
  ·rintro (h | ⟨j,y,e,h,ht,t⟩)
   ·split at h
    ·rw [List.mem_singleton.1 h]; exact ⟨0,x,rfl,rfl,by assumption,rfl⟩
    ·cases h
   ·exact ⟨j + 1,y,by rw [e]; congr 1; omega,h,ht,t⟩
  ·rintro ⟨j,y,e,h,ht,t⟩;cases j with
   | zero =>
    simp only [List.getElem?_cons_zero,Option.some.injEq] at h;subst h
    left
    rw [if_pos ht];cases r; simp only at e t ⊢; rw [e,t]; simp
   | succ j => exact Or.inr ⟨j,y,by rw [e]; congr 1; omega,h,ht,t⟩
theorem gT {r : zd} {l : List zt} {i : Nat} (h : r ∈ refs l i) : (i : Int) <= r.At := by
 obtain ⟨j,x,e,_⟩ := qp.1 h;omega
theorem qc : ∀ {l : List zt} {i : Nat},(refs l i).Nodup
 | [],i => List.nodup_nil
 | x :: l,i => by
  rw [refs];refine List.nodup_append.2 ⟨by split <;> simp,qc,fun a ha b j e => ?_⟩;have := gT j;split at ha
  ·rw [List.mem_singleton.1 ha] at e; subst e; simp only at this; omega
  ·cases ha
theorem nc : ∀ {l : List zt} {i : Nat},(refs l i).length <= l.length
 | [],i => Nat.le_refl _
 | x :: l,i => by
  have := nc (l := l) (i := i + 1);rw [refs,lA,lC];split <;> simp <;> omega
theorem jU {p : zg} (hl : p.l.length <= 65536) : ∀ (rest pre : List zt) (out : List zd) (m : Nat),p.l = pre ++ rest -> out.length <= pre.length -> rest.length < m ->
  yZ (p.l.length : Int) p m out (pre.length : Int) = some (out ++ refs rest pre.length)
 | [],pre,out,m + 1,e,t,hm => by
  unfold yZ;rw [dF (by rw [e]; simp),cF,refs,aN]
 | x :: rest,pre,out,m + 1,e,t,hm => by
  have hlen : p.l.length = pre.length + (rest.length + 1) := by rw [e]; simp
  have ih := jU hl rest (pre ++ [x]) (out ++ (if x.taken = true then [zd.mk (pre.length : Int) x.gen] else [])) m (by rw [e]; simp) (by rw [lA,lA]; split <;> simp <;> omega) (by simp only [lC] at hm; omega);have j : mIdx p.l (pre.length : Int) = some x := by rw [e]; exact yv pre rest x
  unfold yZ;rw [dT (by omega),cT,j];simp only [bS];rw [zV (by omega) (by omega)];rw [show ((pre ++ [x]).length : Int) = (pre.length : Int) + 1 by simp] at ih;rw [show (pre ++ [x]).length = pre.length + 1 by simp] at ih;rw [refs,<- aA];cases ht : x.taken with
  | true =>
   rw [ht,if_pos rfl] at ih;rw [cT,xh (by simp only [List.length_singleton]; omega)];simp only [bS,if_true];exact ih
  | false =>
   rw [ht] at ih;simp only [Bool.false_eq_true,if_false,aN,cF,bS] at ih ⊢;exact ih
section
variable {p : zg} {T : Nat}
def out (p : zg) : List zd := refs p.l 0
theorem Inv.lb (I : Inv p T) : p.l.length <= 65536 := by have := I.len; have := I.most; omega
theorem ma (I : Inv p T) {k : Nat} (hk : 65536 < k) : xS k p = some (out p) := by
 have := I.lb;unfold xS;rw [show (0 : Int) = (([] : List zt).length : Int) from rfl,jU this p.l [] [] k rfl (Nat.le_refl _) (by omega)]
 rfl
theorem lg {r : zd} : r ∈ out p ↔ ∃ v,Live p r v := by
 unfold out Live;rw [qp];constructor
 ·rintro ⟨j,x,e,h,ht,t⟩;refine ⟨x.v_,j,by rw [e]; congr 1; omega,?_⟩;rw [h]; cases x; simp only at ht t ⊢; rw [ht,t]
 ·rintro ⟨v,j,e,h⟩;exact ⟨j,_,by rw [e]; congr 1; omega,h,rfl,rfl⟩
theorem lh : (out p).Nodup := qc
theorem Inv.fX (I : Inv p T) : (out p).length <= 65536 := Nat.le_trans nc I.lb
theorem gN {n : Int} (h0 : 0 <= n) (h1 : n <= 65536) (T : Nat) : Inv (zg.mk n [] []) T :=
 ⟨⟨h0,h1⟩,by simpa using h0,by simp,List.nodup_nil,by simp,by simp⟩
theorem fT {n : Int} {r : zd} {v : zB} : ¬ Live (zg.mk n [] []) r v := by
 rintro ⟨j,_,h⟩; simp at h
theorem Inv.mono {T' : Nat} (I : Inv p T) (h : T <= T') : Inv p T' := { I with gen := fun j x e => by have := I.gen j x e; omega }
end
end Pj
end
noncomputable section
set_option maxRecDepth 10000
structure JR where
 q : Int
 data : Int
 R : zd
 item : zd
 it : It
def JR.pr (j : JR) : zd × It := (j.item,j.it)
def JR.job (j : JR) : zB := zB.mk j.q j.it.k j.data j.item
def sel (x : Int) (L : List JR) : List (zd × It) := (L.filter fun j => j.q == x).map JR.pr
theorem rN (x : Int) (A B : List JR) : sel x (A ++ B) = sel x A ++ sel x B := by simp [sel]
theorem cW {x : Int} {j : JR} (h : j.q = x) (B : List JR) : sel x (j :: B) = j.pr :: sel x B := by simp [sel,List.filter_cons,h]
theorem cV {x : Int} {j : JR} (h : j.q ≠ x) (B : List JR) : sel x (j :: B) = sel x B := by simp [sel,List.filter_cons,h]
theorem nI {x : Int} {L : List JR} {p : zd × It} : p ∈ sel x L ↔ ∃ j ∈ L,j.q = x /\ p = j.pr := by
 simp only [sel,List.mem_map,List.mem_filter,beq_iff_eq];constructor
 ·rintro ⟨j,⟨h1,h2⟩,rfl⟩; exact ⟨j,h1,h2,rfl⟩
 ·rintro ⟨j,h1,h2,rfl⟩; exact ⟨j,⟨h1,h2⟩,rfl⟩
theorem lD : ∀ {L : List JR},(∀ j ∈ L,j.q = 0 \/ j.q = 1) -> (sel 0 L ++ sel 1 L).Perm (L.map JR.pr)
 | [],_ => .refl _
 | j :: L,h => by
  have ih := lD fun j hj => h j (mC _ hj)
  rcases h j (List.mem_cons_self ..) with e | e
  ·rw [cW e,cV (by omega),List.cons_append,pC]; exact ih.cons _
  ·rw [cW e,cV (by omega),pC]; exact List.perm_middle.trans (ih.cons _)
def PQ2 (N : Nat) (q : zq) (T : Nat) (k : Int) (r0 r1 : zd) (L : List JR) : Prop :=
 ∃ h0 h1 : HR,PQ N q T [h0,h1] /\ h0.ref = r0 /\ h1.ref = r1 /\ h0.k = k /\ h1.k = k /\ h0.rs.Perm (sel 0 L) /\ h1.rs.Perm (sel 1 L)
section
variable {N : Nat} {q : zq} {T : Nat} {k : Int} {r0 r1 : zd} {L : List JR}
theorem PQ2.focus (P : PQ2 N q T k r0 r1 L) {x : Int} (A : x = 0 \/ x = 1) : ∃ h g : HR,mIdx [r0,r1] x = some h.ref /\ PQ N q T [h,g] /\ h.k = k /\ h.rs.Perm (sel x L) /\ g.rs.Perm (sel (1 - x) L) /\
  ∀ j T' r' C' e L',PQ N j T' (⟨h.ref,h.k,r',C',e⟩ :: [g]) -> e.Perm (sel x L') -> sel (1 - x) L' = sel (1 - x) L -> PQ2 N j T' k r0 r1 L' := by
 obtain ⟨h0,h1,Q,e0,u,y,z,p0,p1⟩ := P;rcases A with rfl | rfl
 ·refine ⟨h0,h1,by rw [e0]; rfl,Q,y,p0,p1,?_⟩;intro j T' r' C' e L' t hp hs;exact ⟨_,h1,t,e0,u,y,z,hp,p1.trans (by rw [show (1 - 0 : Int) = 1 from rfl] at hs; rw [hs])⟩
 ·refine ⟨h1,h0,by rw [u]; rfl,Q.p (List.Perm.swap ..),z,p1,p0,?_⟩;intro j T' r' C' e L' t hp hs;exact ⟨h0,_,t.p (List.Perm.swap ..),e0,u,y,z,p0.trans (by rw [show (1 - 1 : Int) = 0 from rfl] at hs; rw [hs]),hp⟩
theorem PQ2.same (P : PQ2 N q T k r0 r1 L) {e : zq} {T' : Nat} (h : ∀ hs,PQ N q T hs -> PQ N e T' hs) : PQ2 N e T' k r0 r1 L := by
 obtain ⟨h0,h1,Q,r⟩ := P;exact ⟨h0,h1,h _ Q,r⟩
end
structure DI (N : Nat) (k : Int) (d : zb) (L : List JR) (T : Nat) : Prop where
 kd : Kd k
 dk : d.kind = k
 dm : d.most = N
 nb : 1 <= N /\ N <= 60
 pq : PQ2 N d.q T k d.heaps0 d.heaps1 L
 jq : ∀ j ∈ L,j.q = 0 \/ j.q = 1
 jp : Pj.Inv d.t_.p T
 jm : d.t_.p.most = N
 jl : ∀ r v,Pj.Live d.t_.p r v ↔ ∃ j ∈ L,r = j.R /\ v = j.job
 by1 : (d.t_.by_.map Prod.fst).Nodup
 by2 : ∀ i r,mGet zd.eq i d.t_.by_ = some r ↔ ∃ j ∈ L,i = j.item /\ r = j.R
 wh1 : (d.when.map Prod.fst).Nodup
 wh2 : ∀ r s,mGet zd.eq r d.when = some s ↔ ∃ j ∈ L,r = j.R /\ s = j.it.s
 rn : (L.map JR.R).Nodup
 cn : (d.t_.p.l.length : Int) - d.t_.p.free.length = L.length
 bu : 3600 <= d.budget
 la : 0 <= d.last /\ d.last <= d.budget
 to : 0 <= d.top /\ d.top <= d.budget
def dq (d : zb) (q : zq) (t : zp) (w : List (zd × Int)) : zb :=
 zb.mk d.kind d.most q d.heaps0 d.heaps1 t w d.clock d.budget d.last d.top
def Stp (d d' : zb) (B : Nat) : Prop := d.q.a_.m_.steps <= d'.q.a_.m_.steps /\ d'.q.a_.m_.steps <= d.q.a_.m_.steps + B
def no (e : Int) : zr := zr.mk e (zd.mk 0 0) 0 0 0
section
variable {N : Nat} {k : Int} {d : zb} {L : List JR} {T : Nat} {f : Nat}
theorem DI.items (D : DI N k d L T) : (L.map JR.item).Nodup /\ L.length <= N /\ (L.map fun j => j.it.s).Nodup /\ ∀ j ∈ L,0 <= j.it.s /\ j.it.s < d.q.serial := by
 obtain ⟨h0,h1,Q,e0,e,t,u,p0,p1⟩ := D.pq;have hp : (allR [h0,h1]).Perm (L.map JR.pr) := by
  have : allR [h0,h1] = h0.rs ++ h1.rs := by simp [allR]
  rw [this];exact (p0.append p1).trans (lD D.jq)
 have h1 := ((hp.map Prod.fst).nodup_iff).1 Q.rn;have h2 := Q.Dg;have h3 := ((hp.map fun p => p.2.s).nodup_iff).1 Q.sn;rw [List.map_map] at h1 h3;rw [hp.length_eq,lM] at h2;refine ⟨h1,h2,h3,fun j hj => ?_⟩;have := Q.sr j.pr (hp.mem_iff.2 (List.mem_map_of_mem hj));exact this
theorem dD {N n : Nat} (h : N <= 60) (hn : n <= N) : bd k n <= 2630 := by
 unfold bd; split <;> omega
theorem jO {x : Int} {L : List JR} : (sel x L).length <= L.length := by
 unfold sel; rw [lM]; exact List.length_filter_le _ _
theorem fN (D : DI N k d L T) : xT d.t_.p = some (L.length : Int) := by
 have := D.items.2.1;have := D.nb;unfold xT;rw [D.cn,zV (by omega) (by omega)]
theorem mz {x : Int} {L : List JR} {j : JR} (hj : j.q = x) {A B : List JR} (e : L = A ++ j :: B) : (sel x L).Perm (j.pr :: sel x (A ++ B)) /\ sel (1 - x) (A ++ B) = sel (1 - x) L := by
 rw [e,rN,rN,rN,rN,cW hj,cV (by omega)];exact ⟨List.perm_middle,rfl⟩
theorem DI.schedule (D : DI N k d L T) (hT : T < 1000000) (hf : 95000 < f) {c : zk} (hq : c.Queue = 0 \/ c.Queue = 1) :
  Do (xJ f d c) fun res => (L.length = N /\ res = (no 13,d)) \/
   (L.length < N /\ ∃ (j : JR) (B : zq) (p' : zg) (v : zB),j.q = c.Queue /\ j.data = c.Data /\ j.it.k = c.Time /\ j.it.s = d.q.serial /\ B.serial = d.q.serial + 1 /\
    yt d.t_.p v = some (j.R,true,p') /\
    res = (zr.mk 0 j.R c.Time c.Data 0,dq d B (zp.mk p' (mPut zd.eq j.item j.R d.t_.by_)) (mPut zd.eq j.R d.q.serial d.when)) /\
    DI N k (dq d B (zp.mk p' (mPut zd.eq j.item j.R d.t_.by_)) (mPut zd.eq j.R d.q.serial d.when)) (L ++ [j]) (T + 1) /\ Stp d (dq d B (zp.mk p' (mPut zd.eq j.item j.R d.t_.by_)) (mPut zd.eq j.R d.q.serial d.when)) 2700) := by
 have a4 := D.nb;have b3 := D.items;have O := fN D;unfold xJ uD;rw [O];simp only [bS];refine Do.if (fun e => ?_) (fun e => ?_)
 ·have W := of_decide_eq_true e;rw [D.dm] at W;exact ⟨_,rfl,Or.inl ⟨by omega,rfl⟩⟩
 ·have W := of_decide_eq_false e;rw [D.dm] at W;have a1 : L.length < N := by omega
  obtain ⟨h,g,a0,Q,hk,u,J,back⟩ := D.pq.focus hq;rw [a0];simp only [bS];have a8 : (allR [h,g]).length = L.length := by
   have h1 : allR [h,g] = h.rs ++ g.rs := by simp [allR]
   have h2 := (lD D.jq).length_eq;rw [h1,lA,u.length_eq,J.length_eq];rw [lA,lM] at h2;rcases hq with e | e <;> rw [e] <;> simp <;> omega
  have b4 : h.rs.length <= L.length := by rw [u.length_eq]; exact jO
  refine (Q.bK (f := f) (by omega) (by omega) (by omega) hf 0 c.Time (zd.mk 0 0) (zd.mk 0 0)).bind ?_;rintro _ ⟨i,x,r',C',B,rfl,z,A,Q',S,U⟩;simp only;have y : ∀ j ∈ L,j.item ≠ i := by
   intro j hj e;have h1 := Q'.rn;rw [wZ,List.cons_append,pC,List.nodup_cons] at h1;refine h1.1 ?_;have h2 : j.pr ∈ sel 0 L ++ sel 1 L := (lD D.jq).mem_iff.2 (List.mem_map_of_mem hj);have h3 : j.pr ∈ h.rs ++ allR [g] := by
    have e3 : allR [g] = g.rs := by simp [allR]
    rw [e3];refine ((u.append J).mem_iff).2 ?_;rcases List.mem_append.1 h2 with h2 | h2 <;> rcases hq with e | e <;> rw [e] <;> simp [h2]
   exact List.mem_map.2 ⟨j.pr,h3,e⟩
  have X : mGet zd.eq i d.t_.by_ = none := by
   cases I : mGet zd.eq i d.t_.by_ with
   | none => rfl
   | some r =>
    obtain ⟨j,hj,e1,_⟩ := (D.by2 _ _).1 I;exact absurd e1.symm (y j hj)
  obtain ⟨R,p',hR,I',Z,a2,a3,Y⟩ := Pj.qZ D.jp (by omega) (by have := D.cn; rw [D.jm]; omega) (zB.mk c.Queue c.Time c.Data i);unfold rK;simp only;rw [eP X];simp only [bS];rw [O];unfold vi;simp only [bS];rw [show ((L.length : Int) == d.t_.p.most) = false by rw [D.jm]; simp; omega,cF,cF,hR];refine ⟨_,rfl,Or.inr ⟨a1,⟨c.Queue,c.Data,R,i,x⟩,B,p',zB.mk c.Queue c.Time c.Data i,rfl,rfl,z,A,S,hR,rfl,?_,?_⟩⟩
  ·have t : ∀ j,j ∈ L ++ [(⟨c.Queue,c.Data,R,i,x⟩ : JR)] ↔ j ∈ L \/ j = ⟨c.Queue,c.Data,R,i,x⟩ := by simp
   have F : ∀ j ∈ L,j.R ≠ R := fun j hj e => Z _ ((D.jl _ _).2 ⟨j,hj,e.symm,rfl⟩)
   refine ⟨D.kd,D.dk,D.dm,D.nb,?_,?_,I',a3.trans D.jm,?_,sW uy D.by1,?_,sW uy D.wh1,?_,?_,?_,D.bu,D.la,D.to⟩
   ·refine back _ _ _ _ _ _ Q' ?_ ?_
    ·rw [rN,cW (x := c.Queue) (j := ⟨c.Queue,c.Data,R,i,x⟩) rfl];exact (u.cons (i,x)).trans (List.perm_append_singleton (i,x) (sel c.Queue L)).symm
    ·rw [rN,cV (j := ⟨c.Queue,c.Data,R,i,x⟩) (by simp only; omega)];simp [sel]
   ·intro j hj;rcases (t j).1 hj with hj | rfl
    ·exact D.jq j hj
    ·exact hq
   ·intro r v;refine (a2 r v).trans ⟨?_,?_⟩
    ·rintro (⟨rfl,rfl⟩ | hl)
     ·exact ⟨_,(t _).2 (Or.inr rfl),rfl,by simp only [JR.job,z]⟩
     ·obtain ⟨j,hj,e⟩ := (D.jl _ _).1 hl;exact ⟨j,(t _).2 (Or.inl hj),e⟩
    ·rintro ⟨j,hj,rfl,rfl⟩;rcases (t j).1 hj with hj | rfl
     ·exact Or.inr ((D.jl _ _).2 ⟨j,hj,rfl,rfl⟩)
     ·exact Or.inl ⟨rfl,by simp only [JR.job,z]⟩
   ·intro i2 r;refine (qn uy).trans ⟨?_,?_⟩
    ·rintro (⟨rfl,rfl⟩ | ⟨a5,I⟩)
     ·exact ⟨_,(t _).2 (Or.inr rfl),rfl,rfl⟩
     ·obtain ⟨j,hj,e⟩ := (D.by2 _ _).1 I;exact ⟨j,(t _).2 (Or.inl hj),e⟩
    ·rintro ⟨j,hj,rfl,rfl⟩;rcases (t j).1 hj with hj | rfl
     ·exact Or.inr ⟨y j hj,(D.by2 _ _).2 ⟨j,hj,rfl,rfl⟩⟩
     ·exact Or.inl ⟨rfl,rfl⟩
   ·intro r s;refine (qn uy).trans ⟨?_,?_⟩
    ·rintro (⟨rfl,rfl⟩ | ⟨a5,I⟩)
     ·exact ⟨_,(t _).2 (Or.inr rfl),rfl,A.symm⟩
     ·obtain ⟨j,hj,e⟩ := (D.wh2 _ _).1 I;exact ⟨j,(t _).2 (Or.inl hj),e⟩
    ·rintro ⟨j,hj,rfl,rfl⟩;rcases (t j).1 hj with hj | rfl
     ·exact Or.inr ⟨F j hj,(D.wh2 _ _).2 ⟨j,hj,rfl,rfl⟩⟩
     ·exact Or.inl ⟨rfl,A⟩
   ·rw [List.map_append];refine List.nodup_append.2 ⟨D.rn,by simp,?_⟩;intro a ha b hb e;obtain ⟨j,hj,rfl⟩ := List.mem_map.1 ha;simp only [pC,List.map_nil,List.mem_singleton] at hb;exact F j hj (e.trans hb)
   ·have := D.cn;show (p'.l.length : Int) - p'.free.length = _;rw [Y];simp only [lA,lC,List.length_nil]; omega
  ·have h1 := dD (k := h.k) a4.2 (n := h.rs.length) (by omega);exact ⟨U.1,Int.le_trans U.2 (by omega)⟩
theorem DI.get (D : DI N k d L T) {j : JR} (hj : j ∈ L) : yx d.t_.p j.R = some (j.job,0) := Pj.vE D.jp ((D.jl _ _).2 ⟨j,hj,rfl,rfl⟩)
end
end
noncomputable section
set_option maxRecDepth 10000
namespace Pj
theorem kM {p : zg} {T : Nat} (I : Inv p T) (r : zd) : (∃ v,Live p r v) \/ ∃ e,(e == (0 : Int)) = false /\ zS p r = some (none,e) := by
 unfold zS;by_cases h1 : r.At < 0
 ·exact Or.inr ⟨22,rfl,by rw [dT h1]; rfl⟩
 rw [dF h1];by_cases h2 : r.At >= (p.l.length : Int)
 ·exact Or.inr ⟨22,rfl,by rw [dT h2]; rfl⟩
 rw [dF h2];by_cases h3 : r.Gen < 1
 ·exact Or.inr ⟨22,rfl,by rw [dT h3]; rfl⟩
 rw [dF h3];obtain ⟨j,hj⟩ : ∃ j : Nat,r.At = (j : Int) := ⟨r.At.toNat,by omega⟩
 obtain ⟨x,u⟩ : ∃ x,p.l[j]? = some x := ⟨_,List.getElem?_eq_getElem (by omega)⟩
 rw [hj,yR,u];simp only [cF,bS];by_cases h4 : r.Gen > x.gen
 ·exact Or.inr ⟨22,rfl,by rw [dT h4]; rfl⟩
 rw [dF h4];simp only [cF];by_cases t : r.Gen < x.gen
 ·exact Or.inr ⟨23,rfl,by rw [dT t]; rfl⟩
 rw [dF t];cases ht : x.taken with
 | false => exact Or.inr ⟨23,rfl,rfl⟩
 | true =>
  refine Or.inl ⟨x.v_,j,hj,?_⟩;rw [u];have : r.Gen = x.gen := by omega
  cases x; simp only at ht this ⊢; rw [ht,this]
theorem fI {p : zg} {r : zd} {e : Int} (he : (e == (0 : Int)) = false) (h : zS p r = some (none,e)) : yx p r = some (zB.mk 0 0 0 (zd.mk 0 0),e) := by
 unfold yx;rw [h];simp [uT,oS,bne,he]
theorem cj {p : zg} {r : zd} {e : Int} (he : (e == (0 : Int)) = false) (h : zS p r = some (none,e)) : zU p r = some (zB.mk 0 0 0 (zd.mk 0 0),e,p) := by
 unfold zU;rw [h];simp [uT,oS,bne,he]
end Pj
section
variable {N : Nat} {k : Int} {d : zb} {L : List JR} {T : Nat} {f : Nat}
theorem DI.cO (D : DI N k d L T) {e : zq} (P : PQ2 N e T k d.heaps0 d.heaps1 L) : DI N k (dq d e d.t_ d.when) L T :=
 ⟨D.kd,D.dk,D.dm,D.nb,P,D.jq,D.jp,D.jm,D.jl,D.by1,D.by2,D.wh1,D.wh2,D.rn,D.cn,D.bu,D.la,D.to⟩
theorem DI.drop (D : DI N k d L T) {A B : List JR} {j : JR} (e : L = A ++ j :: B) {I : zq} (P : PQ2 N I T k d.heaps0 d.heaps1 (A ++ B)) :
  ∃ p',zU d.t_.p j.R = some (j.job,0,p') /\ xi (dq d I d.t_ d.when) j.R = some (zr.mk 0 (zd.mk 0 0) j.it.k j.data 0,dq d I (zp.mk p' (mDel zd.eq j.item d.t_.by_)) (mDel zd.eq j.R d.when)) /\
   DI N k (dq d I (zp.mk p' (mDel zd.eq j.item d.t_.by_)) (mDel zd.eq j.R d.when)) (A ++ B) T := by
 have hj : j ∈ L := by rw [e]; simp
 have x : Pj.Live d.t_.p j.R j.job := (D.jl _ _).2 ⟨j,hj,rfl,rfl⟩;have z := Pj.rV D.jp x;have t : ∀ i,i ∈ L ↔ i = j \/ i ∈ A ++ B := by
  intro i; rw [e]; simp only [iA,iC];constructor
  ·rintro (h | h | h)
   ·exact Or.inr (Or.inl h)
   ·exact Or.inl h
   ·exact Or.inr (Or.inr h)
  ·rintro (h | h | h)
   ·exact Or.inr (Or.inl h)
   ·exact Or.inl h
   ·exact Or.inr (Or.inr h)
 have hp : L.Perm (j :: (A ++ B)) := by rw [e]; exact List.perm_middle
 have y := ((hp.map JR.R).nodup_iff).1 D.rn;have F := ((hp.map JR.item).nodup_iff).1 D.items.1;rw [pC,List.nodup_cons] at y F;have O : ∀ i ∈ A ++ B,i.R ≠ j.R := fun i hi e => y.1 (e ▸ List.mem_map_of_mem (f := JR.R) hi)
 have S : ∀ i ∈ A ++ B,i.item ≠ j.item := fun i hi e => F.1 (e ▸ List.mem_map_of_mem (f := JR.item) hi)
 refine ⟨_,z,?_,?_⟩
 ·unfold xi tm;show ((zU d.t_.p j.R).bind _).bind _ = _;rw [z]
  rfl
 ·refine ⟨D.kd,D.dk,D.dm,D.nb,P,fun i hi => D.jq i ((t i).2 (Or.inr hi)),Pj.oI D.jp x,D.jm,?_,rY D.by1,?_,rY D.wh1,?_,y.2,?_,D.bu,D.la,D.to⟩
  ·intro r v;refine (Pj.qN x r v).trans ⟨?_,?_⟩
   ·rintro ⟨u,hl⟩;obtain ⟨i,hi,rfl,rfl⟩ := (D.jl _ _).1 hl;rcases (t i).1 hi with rfl | hi
    ·exact absurd rfl u
    ·exact ⟨i,hi,rfl,rfl⟩
   ·rintro ⟨i,hi,rfl,rfl⟩;exact ⟨O i hi,(D.jl _ _).2 ⟨i,(t i).2 (Or.inr hi),rfl,rfl⟩⟩
  ·intro i2 r;refine (pw uy D.by1).trans ⟨?_,?_⟩
   ·rintro ⟨u,J⟩;obtain ⟨i,hi,rfl,rfl⟩ := (D.by2 _ _).1 J;rcases (t i).1 hi with rfl | hi
    ·exact absurd rfl u
    ·exact ⟨i,hi,rfl,rfl⟩
   ·rintro ⟨i,hi,rfl,rfl⟩;exact ⟨S i hi,(D.by2 _ _).2 ⟨i,(t i).2 (Or.inr hi),rfl,rfl⟩⟩
  ·intro r s;refine (pw uy D.wh1).trans ⟨?_,?_⟩
   ·rintro ⟨u,J⟩;obtain ⟨i,hi,rfl,rfl⟩ := (D.wh2 _ _).1 J;rcases (t i).1 hi with rfl | hi
    ·exact absurd rfl u
    ·exact ⟨i,hi,rfl,rfl⟩
   ·rintro ⟨i,hi,rfl,rfl⟩;exact ⟨O i hi,(D.wh2 _ _).2 ⟨i,(t i).2 (Or.inr hi),rfl,rfl⟩⟩
  ·have := D.cn;rw [hp.length_eq] at this;simp only [dq,mSet,List.length_set,lA,lC,List.length_nil] at this ⊢;omega
theorem DI.cancel (D : DI N k d L T) (hf : 95000 < f) (r : zd) :
  Do (xO f d r) fun res => (∃ e,(e == (0 : Int)) = false /\ zS d.t_.p r = some (none,e) /\ res = (no e,d)) \/
   ∃ A j B I p' d',L = A ++ j :: B /\ r = j.R /\ zU d.t_.p j.R = some (j.job,0,p') /\ d' = dq d I (zp.mk p' (mDel zd.eq j.item d.t_.by_)) (mDel zd.eq j.R d.when) /\ res = (zr.mk 0 (zd.mk 0 0) j.it.k j.data 0,d') /\ I.serial = d.q.serial /\ DI N k d' (A ++ B) T /\ Stp d d' 2700 := by
 have W := D.nb;have a5 := D.items.2.1;unfold xO uC;rcases Pj.kM D.jp r with ⟨v,hv⟩ | ⟨e,he,t⟩
 ·obtain ⟨j,hj,rfl,rfl⟩ := (D.jl _ _).1 hv;obtain ⟨A,B,eL⟩ := List.append_of_mem hj;rw [D.get hj];simp only [bS];rw [show ((0 : Int) == 0) = true from rfl,cT];obtain ⟨h,g,a4,Q,hk,u,a3,back⟩ := D.pq.focus (D.jq j hj);have U : j.pr ∈ h.rs := u.mem_iff.2 (nI.2 ⟨j,hj,rfl,rfl⟩);have a6 : h.rs.length <= L.length := by rw [u.length_eq]; exact jO
  have X := Q.bL (f := f) (by omega) U hf (k := 0) (key := 0) (hh := zd.mk 0 0) (o := zd.mk 0 0);obtain ⟨res,eX,rs,r',C',I,rfl,Y,Q',y,F⟩ := X;have J : yg f d.q (yk.mk 6 0 (zd.mk 0 0) (zd.mk 0 0) j.job.Item 0) = some (okA (zd.mk 0 0) j.it,I) := eX;rw [J];simp only [bS];have z := mz (L := L) (x := j.q) rfl eL;have P' := back _ _ _ _ _ (A ++ B) Q' ((Y.symm.trans (u.trans z.1)).cons_inv) z.2;obtain ⟨p',S,O,Z⟩ := D.drop eL P';refine Do.seq O ?_;refine ⟨_,rfl,Or.inr ⟨A,j,B,I,p',_,eL,rfl,S,rfl,rfl,y,Z,F.1,Int.le_trans F.2 ?_⟩⟩;have := dD (k := h.k) W.2 (n := h.rs.length) (by omega);omega
 ·rw [Pj.fI he t];simp only [bS];rw [he,cF];simp only [bS];unfold xi tm;rw [Pj.cj he t];simp only [bS];rw [he,cF];simp only [bS];rw [show (e != 0) = true by simp [bne,he],cT];exact ⟨_,rfl,Or.inl ⟨e,he,t,rfl⟩⟩
theorem DI.Cf (D : DI N k d L T) (hf : 95000 < f) (c : zk) :
  Do (xP f d c) fun res => (∃ e,(e == (0 : Int)) = false /\ zS d.t_.p c.Job = some (none,e) /\ res = (no e,d)) \/
   ∃ A j B,L = A ++ j :: B /\ c.Job = j.R /\ ((c.Time > j.it.k /\ res = (no 26,d)) \/
   ∃ q' p' b' d',c.Time <= j.it.k /\ xy d.t_.p j.R (zB.mk j.q c.Time j.data j.item) = some (0,p') /\ d' = dq d q' (zp.mk p' b') d.when /\ res = (zr.mk 0 (zd.mk 0 0) c.Time j.data 0,d') /\ q'.serial = d.q.serial /\ DI N k d' (A ++ ⟨j.q,j.data,j.R,j.item,⟨j.it.i,c.Time,j.it.s⟩⟩ :: B) T /\ Stp d d' 2700) := by
 have a5 := D.nb;have b6 := D.items.2.1;unfold xP uC;rcases Pj.kM D.jp c.Job with ⟨v,hv⟩ | ⟨e,he,S⟩
 ·obtain ⟨j,hj,a3,rfl⟩ := (D.jl _ _).1 hv;obtain ⟨A,B,eL⟩ := List.append_of_mem hj;rw [a3,D.get hj];simp only [bS];refine Do.f rfl ?_;refine Do.if (fun e => ?_) (fun e => ?_)
  ·exact ⟨_,rfl,Or.inr ⟨A,j,B,eL,rfl,Or.inl ⟨of_decide_eq_true e,rfl⟩⟩⟩
  ·have hle : c.Time <= j.it.k := by have := of_decide_eq_false e; simp only [JR.job] at this; omega
   obtain ⟨h,g,b5,Q,hk,O,b4,back⟩ := D.pq.focus (D.jq j hj);have a4 : j.pr ∈ h.rs := O.mem_iff.2 (nI.2 ⟨j,hj,rfl,rfl⟩);have b7 : h.rs.length <= L.length := by rw [O.length_eq]; exact jO
   obtain ⟨res,eX,rs,r',C',q',rfl,a6,Q',X,a0⟩ := Q.eG (f := f) (by omega) a4 hf (key := c.Time) hle (k := 0) (hh := zd.mk 0 0) (o := zd.mk 0 0);refine Do.seq (show yg f d.q (yk.mk 5 0 (zd.mk 0 0) (zd.mk 0 0) j.job.Item c.Time) = some _ from eX) ?_;have Z := mz (L := L) (x := j.q) rfl eL;generalize y : (⟨j.q,j.data,j.R,j.item,⟨j.it.i,c.Time,j.it.s⟩⟩ : JR) = F;have P' := back _ _ _ _ _ (A ++ F :: B) Q' (by
    rw [rN,cW (j := F) (by rw [<- y])];refine List.Perm.trans ?_ List.perm_middle.symm;rw [<- rN];have := (a6.symm.trans (O.trans Z.1)).cons_inv;rw [<- y];exact this.cons _) (by
    rw [rN,cV (j := F) (by rw [<- y]; simp only; omega),<- rN]; exact Z.2)
   have I : Pj.Live d.t_.p j.R j.job := (D.jl _ _).2 ⟨j,hj,rfl,rfl⟩;have a1 := Pj.qy D.jp I (zB.mk j.q c.Time j.data j.item);have z : ∀ i,i ∈ L ↔ i = j \/ i ∈ A ++ B := by
    intro i; rw [eL]; simp only [iA,iC];constructor
    ·rintro (h | h | h)
     ·exact Or.inr (Or.inl h)
     ·exact Or.inl h
     ·exact Or.inr (Or.inr h)
    ·rintro (h | h | h)
     ·exact Or.inr (Or.inl h)
     ·exact Or.inl h
     ·exact Or.inr (Or.inr h)
   have u : ∀ i,i ∈ A ++ F :: B ↔ i = F \/ i ∈ A ++ B := by
    intro i; simp only [iA,iC];constructor
    ·rintro (h | h | h)
     ·exact Or.inr (Or.inl h)
     ·exact Or.inl h
     ·exact Or.inr (Or.inr h)
    ·rintro (h | h | h)
     ·exact Or.inr (Or.inl h)
     ·exact Or.inl h
     ·exact Or.inr (Or.inr h)
   have hp : L.Perm (j :: (A ++ B)) := by rw [eL]; exact List.perm_middle
   have W := ((hp.map JR.R).nodup_iff).1 D.rn;have U := ((hp.map JR.item).nodup_iff).1 D.items.1;rw [pC,List.nodup_cons] at W U;have hR : ∀ i ∈ A ++ B,i.R ≠ j.R := fun i hi e => W.1 (e ▸ List.mem_map_of_mem (f := JR.R) hi)
   have hI : ∀ i ∈ A ++ B,i.item ≠ j.item := fun i hi e => U.1 (e ▸ List.mem_map_of_mem (f := JR.item) hi)
   have Y : tP d.t_ j.R (zB.mk j.q c.Time j.data j.item) = some (0,zp.mk (zg.mk d.t_.p.most (mSet d.t_.p.l j.R.At ⟨j.R.Gen,true,zB.mk j.q c.Time j.data j.item⟩) d.t_.p.free) (mPut zd.eq j.item j.R (mDel zd.eq j.item d.t_.by_))) := by
    unfold tP;rw [D.get hj];simp only [bS];rw [show ((0 : Int) != 0) = false from rfl,cF,tD ((D.by2 j.item j.R).2 ⟨j,hj,rfl,rfl⟩)];simp only [bS,cT];rw [show (!(zd.eq j.R j.R)) = false by rw [(uy _ _).2 rfl]; rfl,cF,a1]
    rfl
   refine Do.seq Y ?_;refine ⟨_,rfl,Or.inr ⟨A,j,B,eL,rfl,Or.inr ⟨q',_,_,_,hle,a1,rfl,rfl,X,?_,a0.1,Int.le_trans a0.2 ?_⟩⟩⟩
   ·rw [y];refine ⟨D.kd,D.dk,D.dm,D.nb,P',?_,Pj.qx D.jp I _,D.jm,?_,sW uy (rY D.by1),?_,D.wh1,?_,?_,?_,D.bu,D.la,D.to⟩
    ·intro i hi;rcases (u i).1 hi with rfl | hi
     ·rw [<- y]; exact D.jq j hj
     ·exact D.jq i ((z i).2 (Or.inr hi))
    ·intro r v;refine (Pj.sA I _ r v).trans ⟨?_,?_⟩
     ·rintro (⟨rfl,rfl⟩ | ⟨J,hl⟩)
      ·exact ⟨F,(u _).2 (Or.inl rfl),by rw [<- y],by rw [<- y]; rfl⟩
      ·obtain ⟨i,hi,rfl,rfl⟩ := (D.jl _ _).1 hl;rcases (z i).1 hi with rfl | hi
       ·exact absurd rfl J
       ·exact ⟨i,(u _).2 (Or.inr hi),rfl,rfl⟩
     ·rintro ⟨i,hi,rfl,rfl⟩;rcases (u i).1 hi with rfl | hi
      ·rw [<- y]; exact Or.inl ⟨rfl,rfl⟩
      ·exact Or.inr ⟨hR i hi,(D.jl _ _).2 ⟨i,(z i).2 (Or.inr hi),rfl,rfl⟩⟩
    ·intro i2 r;refine (qn uy).trans ?_;rw [pw uy D.by1];constructor
     ·rintro (⟨rfl,rfl⟩ | ⟨J,_,hg⟩)
      ·exact ⟨F,(u _).2 (Or.inl rfl),by rw [<- y],by rw [<- y]⟩
      ·obtain ⟨i,hi,rfl,rfl⟩ := (D.by2 _ _).1 hg;rcases (z i).1 hi with rfl | hi
       ·exact absurd rfl J
       ·exact ⟨i,(u _).2 (Or.inr hi),rfl,rfl⟩
     ·rintro ⟨i,hi,rfl,rfl⟩;rcases (u i).1 hi with rfl | hi
      ·rw [<- y]; exact Or.inl ⟨rfl,rfl⟩
      ·exact Or.inr ⟨hI i hi,hI i hi,(D.by2 _ _).2 ⟨i,(z i).2 (Or.inr hi),rfl,rfl⟩⟩
    ·intro r s;refine (D.wh2 r s).trans ⟨?_,?_⟩
     ·rintro ⟨i,hi,rfl,rfl⟩;rcases (z i).1 hi with rfl | hi
      ·exact ⟨F,(u _).2 (Or.inl rfl),by rw [<- y],by rw [<- y]⟩
      ·exact ⟨i,(u _).2 (Or.inr hi),rfl,rfl⟩
     ·rintro ⟨i,hi,rfl,rfl⟩;rcases (u i).1 hi with rfl | hi
      ·rw [<- y]; exact ⟨j,hj,rfl,rfl⟩
      ·exact ⟨i,(z i).2 (Or.inr hi),rfl,rfl⟩
    ·have := D.rn;rw [eL] at this;simp only [List.map_append,pC] at this ⊢;rw [<- y]; exact this
    ·have := D.cn;rw [eL] at this;simp only [dq,mSet,List.length_set,lA,lC] at this ⊢;exact this
   ·have := dD (k := h.k) a5.2 (n := h.rs.length) (by omega);omega
 ·rw [Pj.fI he S];simp only [bS];refine Do.t (by simp [bne,he]) ?_;exact ⟨_,rfl,Or.inl ⟨e,he,S,rfl⟩⟩
theorem DI.fire (D : DI N k d L T) (hf : 95000 < f) {x : Int} (hx : x = 0 \/ x = 1) :
  Do (wA f d x) fun res => ∃ O d',O.serial = d.q.serial /\ Stp d d' 2800 /\
   (((∀ j ∈ L,j.q = x -> d.clock.now < j.it.k) /\ d' = dq d O d.t_ d.when /\ res = (no 28,d') /\ DI N k d' L T) \/
   ∃ A j B p',L = A ++ j :: B /\ j.q = x /\ j.it.k <= d.clock.now /\ (∀ i ∈ L,i.q = x -> ¬ i.it.lt j.it) /\ zU d.t_.p j.R = some (j.job,0,p') /\ d' = dq d O (zp.mk p' (mDel zd.eq j.item d.t_.by_)) (mDel zd.eq j.R d.when) /\ res = (zr.mk 0 j.R j.it.k j.data 0,d') /\ DI N k d' (A ++ B) T) := by
 have a5 := D.nb;have b4 := D.items.2.1;obtain ⟨h,g,a4,Q,hk,y,b3,back⟩ := D.pq.focus hx;have b5 : h.rs.length <= L.length := by rw [y.length_eq]; exact jO
 unfold wA;rw [a4];simp only [bS];refine (Q.CU (f := f) (by omega) hf).bind ?_;rintro res ⟨q1,Q1,z,u,h1⟩;have P1 : PQ2 N q1 T k d.heaps0 d.heaps1 L := back _ _ _ _ _ L Q1 y rfl;rcases h1 with ⟨W,rfl⟩ | ⟨p,hp,rfl,U⟩
 ·simp only;rw [show ((27 : Int) != 0) = true from rfl,cT];simp only [bS];refine Do.t rfl ?_;refine ⟨_,rfl,q1,_,z,⟨u.1,Int.le_trans u.2 (by omega)⟩,Or.inl ⟨?_,rfl,rfl,D.cO P1⟩⟩;intro j hj F;have : j.pr ∈ h.rs := y.mem_iff.2 (nI.2 ⟨j,hj,F,rfl⟩);rw [W] at this; cases this
 ·simp only [okA];rw [show ((0 : Int) != 0) = false from rfl,cF];unfold sP;simp only [bS];have J : ∀ p',p' ∈ h.rs -> p.2.k <= p'.2.k := by
   intro p' a6;have := U p' a6;unfold It.lt at this; omega
  refine Do.if (fun e => ?_) (fun e => ?_)
  ·have e' : ¬ p.2.k <= d.clock.now := by simpa using e
   refine ⟨_,rfl,q1,_,z,⟨u.1,Int.le_trans u.2 (by omega)⟩,Or.inl ⟨?_,rfl,rfl,D.cO P1⟩⟩;intro j hj F;have := J _ (y.mem_iff.2 (nI.2 ⟨j,hj,F,rfl⟩));simp only [JR.pr] at this; omega
  ·have e' : p.2.k <= d.clock.now := by simpa using e
   refine (Q1.CV (f := f) (k := 0) (key := 0) (o := zd.mk 0 0) (i0 := zd.mk 0 0) (by omega) (by intro e; rw [e] at hp; cases hp) hf).bind ?_;rintro _ ⟨p2,rs,r',C',O,rfl,Y,I,Q',Z,a1⟩;have X : p2 ∈ h.rs := Y.mem_iff.2 (List.mem_cons_self ..);obtain ⟨j,hj,F,rfl⟩ := nI.1 (y.mem_iff.1 X);obtain ⟨A,B,eL⟩ := List.append_of_mem hj;have a0 := mz F eL;have P' := back _ _ _ _ _ (A ++ B) Q' ((Y.symm.trans (y.trans a0.1)).cons_inv) a0.2;obtain ⟨p',a3,a2,D'⟩ := D.drop eL P';unfold qj;simp only [okA];rw [show j.pr.1 = j.item from rfl,tD ((D.by2 j.item j.R).2 ⟨j,hj,rfl,rfl⟩)];simp only [bS];refine Do.seq a2 ?_;have h3 := I p hp;have h4 := J _ X;refine ⟨_,rfl,O,_,Z.trans z,⟨Int.le_trans u.1 a1.1,?_⟩,Or.inr ⟨A,j,B,p',eL,F,?_,?_,a3,rfl,rfl,D'⟩⟩
   ·have := dD (k := h.k) a5.2 (n := h.rs.length) (by omega);have h5 := a1.2;have h6 := u.2;show O.a_.m_.steps <= _;omega
   ·unfold It.lt at h3; simp only [JR.pr] at h3; omega
   ·intro i hi S;exact I _ (y.mem_iff.2 (nI.2 ⟨i,hi,S,rfl⟩))
end
end
noncomputable section
set_option maxRecDepth 10000
theorem lq {α β : Type} {f : α -> β} : ∀ {l : List β} {L : List α},l.Perm (L.map f) -> ∃ L2 : List α,L2.Perm L /\ L2.map f = l
 | [],L,h => by
  have := h.length_eq;simp only [List.length_nil,lM] at this;exact ⟨[],by rw [List.eq_nil_of_length_eq_zero this.symm],rfl⟩
 | x :: l,L,h => by
  obtain ⟨p,rs,h1,rfl,h3⟩ := oW h.symm;obtain ⟨L2,h4,e⟩ := lq h3.symm;exact ⟨p :: L2,(h4.cons p).trans h1.symm,by rw [pC,e]⟩
def pM (p p' : zg) : Prop := p'.most = p.most /\ p'.free = p.free /\ p'.l.map zt.gen = p.l.map zt.gen /\ p'.l.map zt.taken = p.l.map zt.taken
theorem pM.rfl' (p : zg) : pM p p := ⟨rfl,rfl,rfl,rfl⟩
theorem pM.trans {p p' e : zg} (h : pM p p') (j : pM p' e) : pM p e := ⟨j.1.trans h.1,j.2.1.trans h.2.1,j.2.2.1.trans h.2.2.1,j.2.2.2.trans h.2.2.2⟩
theorem qO {α β : Type} (f : α -> β) {l : List α} {j : Nat} {x y : α} (h : l[j]? = some x) (e : f y = f x) : (l.set j y).map f = l.map f := by
 rw [List.map_set,e];refine List.ext_getElem? fun i => ?_
 by_cases t : j = i
 ·subst t;have hl := (List.getElem?_eq_some_iff.1 h).1;rw [List.getElem?_set_self (by simpa using hl)]; simp [h]
 ·rw [List.getElem?_set_ne t]
theorem pM.set {p : zg} {T : Nat} (I : Pj.Inv p T) {r : zd} {v w : zB} (h : Pj.Live p r v) : pM p (zg.mk p.most (mSet p.l r.At ⟨r.Gen,true,w⟩) p.free) := by
 obtain ⟨j,e,h⟩ := h;refine ⟨rfl,rfl,?_,?_⟩ <;> simp only [mSet,e,tN]
 ·exact qO _ h rfl
 ·exact qO _ h rfl
def JR.zero (j : JR) : JR := ⟨0,j.data,j.R,j.item,j.it⟩
def JR.mv (j : JR) : JR := if j.q = 1 then j.zero else j
section
variable {N : Nat} {k : Int} {d : zb} {L : List JR} {T : Nat} {f : Nat}
theorem DI.out (D : DI N k d L T) : ∃ L2 : List JR,L2.Perm L /\ Pj.out d.t_.p = L2.map JR.R := by
 have h : (Pj.out d.t_.p).Perm (L.map JR.R) := by
  refine (List.perm_ext_iff_of_nodup Pj.lh D.rn).2 fun r => ?_
  rw [Pj.lg,List.mem_map];constructor
  ·rintro ⟨v,hv⟩;obtain ⟨j,hj,rfl,_⟩ := (D.jl _ _).1 hv;exact ⟨j,hj,rfl⟩
  ·rintro ⟨j,hj,rfl⟩;exact ⟨_,(D.jl _ _).2 ⟨j,hj,rfl,rfl⟩⟩
 obtain ⟨L2,h1,h2⟩ := lq h;exact ⟨L2,h1,h2.symm⟩
theorem gK {T : Nat} {L2 : List JR} (hl : L2.length <= 65536) (hn : (L2.map JR.R).Nodup) :
  ∀ (rest pre : List JR) (t : zp) (n : Int) (m : Nat),L2 = pre ++ rest -> rest.length < m -> 0 <= n -> n <= pre.length -> Pj.Inv t.p T -> (∀ r v,Pj.Live t.p r v ↔ ∃ j ∈ pre.map JR.mv ++ rest,r = j.R /\ v = j.job) ->
   ∃ p',wC 1 0 (L2.length : Int) (L2.map JR.R) m n (pre.length : Int) t = some (n + (rest.filter fun j => j.q == 1).length,zp.mk p' t.by_) /\ Pj.Inv p' T /\ pM t.p p' /\ (∀ r v,Pj.Live p' r v ↔ ∃ j ∈ L2.map JR.mv,r = j.R /\ v = j.job)
 | [],pre,t,n,m + 1,e,hm,h0,h1,I,y => by
  refine ⟨t.p,?_,I,pM.rfl' _,by rw [e,aN]; simpa using y⟩;unfold wC;rw [dF (by rw [e]; simp),cF];simp
 | x :: rest,pre,t,n,m + 1,e,hm,h0,h1,I,y => by
  have hlen : L2.length = pre.length + (rest.length + 1) := by rw [e]; simp
  simp only [lC] at hm;have B : Pj.Live t.p x.R x.job := (y _ _).2 ⟨x,by simp,rfl,rfl⟩;have F : mIdx (L2.map JR.R) (pre.length : Int) = some x.R := by
   rw [yR,List.getElem?_map,e]; simp
  have A : ∀ j ∈ pre.map JR.mv ++ rest,j.R ≠ x.R := by
   rw [e,List.map_append,pC] at hn;have h2 := (List.perm_middle.nodup_iff).1 hn;rw [List.nodup_cons] at h2;intro j hj u;refine h2.1 ?_;rcases List.mem_append.1 hj with hj | hj
   ·obtain ⟨i,hi,rfl⟩ := List.mem_map.1 hj;have : i.mv.R = i.R := by unfold JR.mv; split <;> rfl
    exact mL _ (List.mem_map.2 ⟨i,hi,by rw [<- this,u]⟩)
   ·exact List.mem_append_right _ (List.mem_map.2 ⟨j,hj,u⟩)
  unfold wC;rw [dT (by omega),cT,F];simp only [bS];rw [Pj.vE I B];simp only [bS];rw [zV (x := (pre.length : Int) + 1) (by omega) (by omega),show x.job.Queue = x.q from rfl];by_cases hq : x.q = 1
  ·have S := Pj.qy I B (zB.mk 0 x.it.k x.data x.item);have J := Pj.sA B (zB.mk 0 x.it.k x.data x.item);have z : x.mv = x.zero := by unfold JR.mv; rw [if_pos hq]
   obtain ⟨p',u,D,s2,U⟩ := gK hl hn rest (pre ++ [x]) (zp.mk (zg.mk t.p.most (mSet t.p.l x.R.At ⟨x.R.Gen,true,zB.mk 0 x.it.k x.data x.item⟩) t.p.free) t.by_) (n + 1) m (by rw [e]; simp) (by omega) (by omega) (by simp; omega) (Pj.qx I B _) (by
    intro r v;refine (J r v).trans ?_;simp only [List.map_append,pC,List.map_nil,iA,List.mem_singleton,z];constructor
    ·rintro (⟨rfl,rfl⟩ | ⟨O,hl⟩)
     ·exact ⟨x.zero,Or.inl (Or.inr rfl),rfl,rfl⟩
     ·obtain ⟨j,hj,rfl,rfl⟩ := (y _ _).1 hl;rcases List.mem_append.1 hj with hj | hj
      ·exact ⟨j,Or.inl (Or.inl hj),rfl,rfl⟩
      ·rcases List.mem_cons.1 hj with rfl | hj
       ·exact absurd rfl O
       ·exact ⟨j,Or.inr hj,rfl,rfl⟩
    ·rintro ⟨j,(hj | rfl) | hj,rfl,rfl⟩
     ·exact Or.inr ⟨A j (mL _ hj),(y _ _).2 ⟨j,mL _ hj,rfl,rfl⟩⟩
     ·exact Or.inl ⟨rfl,rfl⟩
     ·exact Or.inr ⟨A j (List.mem_append_right _ hj),(y _ _).2 ⟨j,List.mem_append_right _ (mC _ hj),rfl,rfl⟩⟩)
   refine ⟨p',?_,D,(pM.set I B).trans s2,U⟩;rw [hq,show ((1 : Int) == 1) = true from rfl,cT];rw [show zB.mk 0 x.job.Time x.job.Data x.job.Item = zB.mk 0 x.it.k x.data x.item from rfl,S];simp only [bS];rw [zV (by omega) (by omega)];rw [show ((pre ++ [x]).length : Int) = (pre.length : Int) + 1 by simp] at u;rw [u,List.filter_cons,hq];simp; omega
  ·have z : x.mv = x := by unfold JR.mv; rw [if_neg hq]
   have W : (x.q == 1) = false := by simpa using hq
   obtain ⟨p',u,D,s2,U⟩ := gK hl hn rest (pre ++ [x]) t n m (by rw [e]; simp) (by omega) h0 (by simp; omega) I (by
    intro r v;refine (y r v).trans ?_;simp only [List.map_append,pC,List.map_nil,iA,List.mem_singleton,iC,z,or_assoc,List.not_mem_nil,false_or])
   refine ⟨p',?_,D,s2,U⟩;rw [W,cF];simp only [bS];rw [show ((pre ++ [x]).length : Int) = (pre.length : Int) + 1 by simp] at u;rw [u,List.filter_cons,W]
   rfl
theorem jo {x : Int} {t : zp} {T : Nat} (I : Pj.Inv t.p T) {L2 : List JR} (hl : L2.length <= 65536) (u : ∀ j ∈ L2,Pj.Live t.p j.R j.job) :
  ∀ (rest pre : List JR) (n : Int) (m : Nat),L2 = pre ++ rest -> rest.length < m -> 0 <= n -> n <= pre.length ->
   xX x (L2.length : Int) t (L2.map JR.R) m n (pre.length : Int) = some (n + (rest.filter fun j => j.q == x).length)
 | [],pre,n,m + 1,e,hm,h0,h1 => by
  unfold xX;rw [dF (by rw [e]; simp),cF];simp
 | y :: rest,pre,n,m + 1,e,hm,h0,h1 => by
  have hlen : L2.length = pre.length + (rest.length + 1) := by rw [e]; simp
  simp only [lC] at hm;have A := u y (by rw [e]; simp);have z : mIdx (L2.map JR.R) (pre.length : Int) = some y.R := by
   rw [yR,List.getElem?_map,e]; simp
  unfold xX;rw [dT (by omega),cT,z];simp only [bS];rw [Pj.vE I A];simp only [bS];rw [zV (x := (pre.length : Int) + 1) (by omega) (by omega),show y.job.Queue = y.q from rfl,List.filter_cons];cases B : y.q == x with
  | true =>
   have ih := jo (x := x) I hl u rest (pre ++ [y]) (n + 1) m (by rw [e]; simp) (by omega) (by omega) (by simp; omega);rw [show ((pre ++ [y]).length : Int) = (pre.length : Int) + 1 by simp] at ih;rw [cT,zV (by omega) (by omega)];simp only [bS,if_true];rw [ih]; simp; omega
  | false =>
   have ih := jo (x := x) I hl u rest (pre ++ [y]) n m (by rw [e]; simp) (by omega) h0 (by simp; omega);rw [show ((pre ++ [y]).length : Int) = (pre.length : Int) + 1 by simp] at ih;rw [cF];simp only [bS,Bool.false_eq_true,if_false];exact ih
theorem DI.count (D : DI N k d L T) (hf : 95000 < f) (x : Int) : uJ f d.t_ x = some ((sel x L).length : Int) := by
 obtain ⟨L2,hp,e⟩ := D.out;have u := D.items.2.1;have y := D.nb;have t := hp.length_eq;unfold uJ;rw [Pj.ma D.jp (by omega),e];simp only [bS];have := jo (x := x) D.jp (L2 := L2) (by omega) (fun j hj => (D.jl _ _).2 ⟨j,hp.mem_iff.1 hj,rfl,rfl⟩) L2 [] 0 f rfl (by omega) (Int.le_refl _) (Int.le_refl _);rw [lM];rw [show ((([] : List JR).length : Nat) : Int) = 0 from rfl] at this;rw [this];simp only [bS];have := ((hp.filter fun j => j.q == x).length_eq)
 unfold sel;rw [lM,this];simp
theorem mv_R (j : JR) : j.mv.R = j.R := by unfold JR.mv; split <;> rfl
theorem cD (j : JR) : j.mv.item = j.item := by unfold JR.mv; split <;> rfl
theorem BV (j : JR) : j.mv.it = j.it := by unfold JR.mv; split <;> rfl
theorem Df (j : JR) : j.mv.pr = j.pr := by unfold JR.mv; split <;> rfl
theorem mv_q {j : JR} (h : j.q = 0 \/ j.q = 1) : j.mv.q = 0 := by
 unfold JR.mv; split
 ·rfl
 ·omega
theorem DI.merge (D : DI N k d L T) (hT : T < 1000000) (hf : 95000 < f) :
  Do (we f d) fun res => ∃ F r p',res = (zr.mk 0 (zd.mk 0 0) 0 0 ((sel 1 L).length : Int),zb.mk d.kind d.most F d.heaps0 r (zp.mk p' d.t_.by_) d.when d.clock d.budget d.last d.top) /\ pM d.t_.p p' /\ F.serial = d.q.serial /\
   DI N k (zb.mk d.kind d.most F d.heaps0 r (zp.mk p' d.t_.by_) d.when d.clock d.budget d.last d.top) (L.map JR.mv) (T + 1) /\ Stp d (zb.mk d.kind d.most F d.heaps0 r (zp.mk p' d.t_.by_) d.when d.clock d.budget d.last d.top) 2700 := by
 have I := D.nb;have a1 := D.items.2.1;obtain ⟨L2,hp,B⟩ := D.out;have a0 := hp.length_eq;obtain ⟨h0,h1,Q,e0,Z,S,k1,p0,p1⟩ := D.pq;have t := lD D.jq;have hs : h0.rs.length + h1.rs.length = L.length := by
  have := t.length_eq;rw [lA,lM] at this;rw [p0.length_eq,p1.length_eq]; exact this
 unfold we;rw [<- e0,<- Z];refine (Q.BB (f := f) (k := 0) (key := 0) (i0 := zd.mk 0 0) (by rw [S,k1]) (by omega) (by omega) hf).bind ?_;rintro _ ⟨r',C',q1,rfl,W,y,u⟩;simp only;refine (W.dS (f := f) (k := d.kind) (a := zd.mk 0 0) (b := zd.mk 0 0) (c := zd.mk 0 0) (key := 0) (by rw [D.dk]; exact D.kd) (by simp) (by omega)).bind ?_;rintro _ ⟨r,q2,rfl,X,z,x⟩;simp only;unfold sU;rw [Pj.ma D.jp (by omega),B];simp only [bS];obtain ⟨p',O,U,s2,l2⟩ := gK (T := T) (L2 := L2) (by omega) (((hp.map JR.R).nodup_iff).2 D.rn) L2 [] d.t_ 0 f rfl (by omega) (Int.le_refl _) (Int.le_refl _) D.jp (by
  intro r v;refine (D.jl r v).trans ⟨?_,?_⟩
  ·rintro ⟨j,hj,e⟩; exact ⟨j,hp.mem_iff.2 hj,e⟩
  ·rintro ⟨j,hj,e⟩; exact ⟨j,hp.mem_iff.1 hj,e⟩)
 rw [show ((([] : List JR).length : Nat) : Int) = 0 from rfl] at O;rw [lM,O];simp only [bS];have A : (0 : Int) + ((L2.filter fun j => j.q == 1).length : Int) = ((sel 1 L).length : Int) := by
  have := ((hp.filter fun j => j.q == 1).length_eq)
  unfold sel;rw [lM,this]; simp
 rw [A];have Y : h0.ref = d.heaps0 := e0;have hz : sel 0 (L.map JR.mv) = L.map JR.pr := by
  unfold sel;rw [List.filter_eq_self.2 (fun j hj => by
   obtain ⟨i,hi,rfl⟩ := List.mem_map.1 hj;simp [mv_q (D.jq i hi)]),List.map_map]
  exact List.map_congr_left fun j _ => Df j
 have J : sel 1 (L.map JR.mv) = [] := by
  unfold sel;rw [List.filter_eq_nil_iff.2 (fun j hj => by
   obtain ⟨i,hi,rfl⟩ := List.mem_map.1 hj;simp [mv_q (D.jq i hi)])]
  rfl
 refine ⟨_,rfl,q2,r,p',rfl,s2,z.trans y,?_,?_⟩
 ·refine ⟨D.kd,D.dk,D.dm,D.nb,?_,?_,U.mono (by omega),s2.1.trans D.jm,?_,D.by1,?_,D.wh1,?_,?_,?_,D.bu,D.la,D.to⟩
  ·refine ⟨_,_,X.p (List.Perm.swap ..),rfl,rfl,S,D.dk,?_,?_⟩
   ·rw [hz]; exact (p0.append p1).trans t
   ·rw [J]
  ·intro j hj;obtain ⟨i,hi,rfl⟩ := List.mem_map.1 hj;exact Or.inl (mv_q (D.jq i hi))
  ·intro r v;refine (l2 r v).trans ⟨?_,?_⟩
   ·rintro ⟨j,hj,e⟩; exact ⟨j,((hp.map JR.mv).mem_iff).1 hj,e⟩
   ·rintro ⟨j,hj,e⟩; exact ⟨j,((hp.map JR.mv).mem_iff).2 hj,e⟩
  ·intro i r;refine (D.by2 i r).trans ⟨?_,?_⟩
   ·rintro ⟨j,hj,rfl,rfl⟩; exact ⟨j.mv,List.mem_map_of_mem hj,(cD j).symm,(mv_R j).symm⟩
   ·rintro ⟨j,hj,rfl,rfl⟩;obtain ⟨i,hi,rfl⟩ := List.mem_map.1 hj;exact ⟨i,hi,cD i,mv_R i⟩
  ·intro r s;refine (D.wh2 r s).trans ⟨?_,?_⟩
   ·rintro ⟨j,hj,rfl,rfl⟩; exact ⟨j.mv,List.mem_map_of_mem hj,(mv_R j).symm,by rw [BV]⟩
   ·rintro ⟨j,hj,rfl,rfl⟩;obtain ⟨i,hi,rfl⟩ := List.mem_map.1 hj;exact ⟨i,hi,mv_R i,by rw [BV]⟩
  ·have : (L.map JR.mv).map JR.R = L.map JR.R := by
    rw [List.map_map];exact List.map_congr_left fun j _ => mv_R j
   rw [this]; exact D.rn
  ·have h1 := D.cn;have h2 := congrArg List.length s2.2.2.1;simp only [lM] at h2 ⊢;rw [s2.2.1,h2]; exact h1
 ·have h1 := dD (k := h0.k) I.2 (n := h0.rs.length + h1.rs.length) (by omega);have h2 := u.2;have h3 := x.2;exact ⟨Int.le_trans u.1 x.1,by show q2.a_.m_.steps <= _; omega⟩
end
end
noncomputable section
set_option maxRecDepth 10000
inductive How (N : Nat) (p : zg) (s now : Int) (L : List JR) (c : zk) : zr -> zg -> Int -> Int -> List JR -> Prop
 | bad (hk : c.Kind = 1 \/ c.Kind = 5 \/ c.Kind = 6 \/ c.Kind = 7) (hq : ¬ (c.Queue = 0 \/ c.Queue = 1)) : How N p s now L c (no 1) p s now L
 | full (hk : c.Kind = 1) (hq : c.Queue = 0 \/ c.Queue = 1) (hl : L.length = N) : How N p s now L c (no 13) p s now L
 | sched (j : JR) (p' : zg) (v : zB) (hk : c.Kind = 1) (hq : c.Queue = 0 \/ c.Queue = 1) (hl : L.length < N) (h1 : j.q = c.Queue) (h2 : j.data = c.Data) (h3 : j.it.k = c.Time) (h4 : j.it.s = s) (ht : yt p v = some (j.R,true,p')) : How N p s now L c (zr.mk 0 j.R c.Time c.Data 0) p' (s + 1) now (L ++ [j])
 | dead (e : Int) (hk : c.Kind = 2 \/ c.Kind = 3) (he : (e == (0 : Int)) = false) (hf : zS p c.Job = some (none,e)) : How N p s now L c (no e) p s now L
 | late (A : List JR) (j : JR) (B : List JR) (hk : c.Kind = 2) (eL : L = A ++ j :: B) (hj : c.Job = j.R) (ht : c.Time > j.it.k) : How N p s now L c (no 26) p s now L
 | soon (A : List JR) (j : JR) (B : List JR) (p' : zg) (hk : c.Kind = 2) (eL : L = A ++ j :: B) (hj : c.Job = j.R) (ht : c.Time <= j.it.k) (hp : pM p p') : How N p s now L c (zr.mk 0 (zd.mk 0 0) c.Time j.data 0) p' s now (A ++ ⟨j.q,j.data,j.R,j.item,⟨j.it.i,c.Time,j.it.s⟩⟩ :: B)
 | canc (A : List JR) (j : JR) (B : List JR) (p' : zg) (hk : c.Kind = 3) (eL : L = A ++ j :: B) (hj : c.Job = j.R) (hp : zU p j.R = some (j.job,0,p')) : How N p s now L c (zr.mk 0 (zd.mk 0 0) j.it.k j.data 0) p' s now (A ++ B)
 | back (hk : c.Kind = 4) (ht : c.Time < 0) : How N p s now L c (no 1) p s now L
 | go (t : Int) (hk : c.Kind = 4) (ht : ¬ c.Time < 0) (ha : uj now c.Time = some t) : How N p s now L c (zr.mk 0 (zd.mk 0 0) t 0 0) p s t L
 | idle (hk : c.Kind = 5) (hq : c.Queue = 0 \/ c.Queue = 1) (hn : ∀ j ∈ L,j.q = c.Queue -> now < j.it.k) : How N p s now L c (no 28) p s now L
 | fire (A : List JR) (j : JR) (B : List JR) (p' : zg) (hk : c.Kind = 5) (hq : c.Queue = 0 \/ c.Queue = 1) (eL : L = A ++ j :: B) (hj : j.q = c.Queue) (hn : j.it.k <= now) (hm : ∀ i ∈ L,i.q = c.Queue -> ¬ i.it.lt j.it) (hp : zU p j.R = some (j.job,0,p')) : How N p s now L c (zr.mk 0 j.R j.it.k j.data 0) p' s now (A ++ B)
 | self (hk : c.Kind = 6) (hq : c.Queue = 0) : How N p s now L c (no 25) p s now L
 | merge (p' : zg) (hk : c.Kind = 6) (hq : c.Queue = 1) (hp : pM p p') : How N p s now L c (zr.mk 0 (zd.mk 0 0) 0 0 ((sel 1 L).length : Int)) p' s now (L.map JR.mv)
 | count (hk : c.Kind = 7) (hq : c.Queue = 0 \/ c.Queue = 1) : How N p s now L c (zr.mk 0 (zd.mk 0 0) 0 0 ((sel c.Queue L).length : Int)) p s now L
 | unknown (h : ¬ (c.Kind = 1 \/ c.Kind = 2 \/ c.Kind = 3 \/ c.Kind = 4 \/ c.Kind = 5 \/ c.Kind = 6 \/ c.Kind = 7)) : How N p s now L c (no 12) p s now L
theorem bC (a b : Int) : ∃ t,uj a b = some t := by
 unfold uj;cases (decide (b > 0)) && (decide (a > w64 (9223372036854775807 - b))) with
 | true => exact ⟨_,rfl⟩
 | false =>
  cases (decide (b < 0)) && (decide (a < w64 ((-9223372036854775808) - b))) with
  | true => exact ⟨_,rfl⟩
  | false => exact ⟨_,rfl⟩
section
variable {N : Nat} {k : Int} {d : zb} {L : List JR} {T : Nat} {f : Nat}
theorem DI.mono (D : DI N k d L T) {T' : Nat} (h : T <= T') : DI N k d L T' := by
 refine ⟨D.kd,D.dk,D.dm,D.nb,D.pq.same fun hs Q => ?_,D.jq,D.jp.mono h,D.jm,D.jl,D.by1,D.by2,D.wh1,D.wh2,D.rn,D.cn,D.bu,D.la,D.to⟩;exact ⟨{ Q.ih with gen := fun j x e => by have := Q.ih.gen j x e; omega },Q.ii.mono h,Q.hl,Q.il,Q.at1,Q.at2,Q.en1,Q.en2,Q.hk,Q.hn,Q.rn,Q.sn,Q.ar,Q.mi,Q.mm,Q.mb,Q.ci,Q.ch,Q.cm,Q.sr,by have := Q.sq; omega⟩
theorem ak (d : zb) (B : Nat) : Stp d d B := ⟨Int.le_refl _,by omega⟩
theorem DI.one (D : DI N k d L T) (Z : T < 1000000) (hf : 95000 < f) (c : zk) :
  Do (wJ f d c) fun res => ∃ L',How N d.t_.p d.q.serial d.clock.now L c res.1 res.2.t_.p res.2.q.serial res.2.clock.now L' /\ DI N k res.2 L' (T + 1) /\ Stp d res.2 2800 /\ res.2.budget = d.budget /\ res.2.top = d.top := by
 have x := D.mono (Nat.le_succ T);have y := ak d 2800;unfold wJ;by_cases hk : c.Kind = 1 \/ c.Kind = 5 \/ c.Kind = 6 \/ c.Kind = 7
 ·have e1 : (bif c.Kind == 1 then some (c.Kind == 1) else (bif c.Kind == 5 then some (c.Kind == 5) else (bif c.Kind == 6 then some (c.Kind == 6) else some (c.Kind == 7)))) = some true := by
   rcases hk with e | e | e | e <;> rw [e] <;> rfl
  rw [e1];simp only [bS,cT];by_cases hq : c.Queue = 0 \/ c.Queue = 1
  ·have U : (!((decide (c.Queue >= 0)) && (decide (c.Queue < 2)))) = false := by rcases hq with e | e <;> rw [e] <;> rfl
   rw [U];simp only [cF,bS];rcases hk with e | e | e | e <;> rw [e]
   ·refine Do.t rfl ((D.schedule Z hf hq).bind ?_);rintro res (⟨hl,rfl⟩ | ⟨hl,j,z,p',v,h1,h2,h3,h4,h5,h6,rfl,h8,Y⟩)
    ·exact ⟨_,rfl,L,.full e hq hl,x,y,rfl,rfl⟩
    ·refine ⟨_,rfl,L ++ [j],?_,h8,⟨Y.1,Int.le_trans Y.2 (by omega)⟩,rfl,rfl⟩;show How N d.t_.p d.q.serial d.clock.now L c _ p' z.serial d.clock.now _;rw [h5];exact .sched j p' v e hq hl h1 h2 h3 h4 h6
   ·refine Do.f rfl (Do.f rfl (Do.f rfl (Do.f rfl (Do.t rfl ((D.fire hf hq).bind ?_)))));rintro res ⟨z,d',hs,u,h⟩;rcases h with ⟨hn,rfl,rfl,F⟩ | ⟨A,j,B,p',eL,hj,hn,hm,hp,rfl,rfl,F⟩
    ·refine ⟨_,rfl,L,?_,F.mono (Nat.le_succ T),u,rfl,rfl⟩;show How N d.t_.p d.q.serial d.clock.now L c _ d.t_.p z.serial d.clock.now _;rw [hs];exact .idle e hq hn
    ·refine ⟨_,rfl,A ++ B,?_,F.mono (Nat.le_succ T),u,rfl,rfl⟩;show How N d.t_.p d.q.serial d.clock.now L c _ p' z.serial d.clock.now _;rw [hs];exact .fire A j B p' e hq eL hj hn hm hp
   ·refine Do.f rfl (Do.f rfl (Do.f rfl (Do.f rfl (Do.f rfl (Do.t rfl ?_)))));rcases hq with S | S <;> rw [S]
    ·refine Do.t rfl ?_;exact ⟨_,rfl,L,.self e S,x,y,rfl,rfl⟩
    ·refine Do.f rfl ((D.merge Z hf).bind ?_);rintro res ⟨z,r,p',rfl,hp,hs,F,u⟩;refine ⟨_,rfl,L.map JR.mv,?_,F,⟨u.1,Int.le_trans u.2 (by omega)⟩,rfl,rfl⟩;show How N d.t_.p d.q.serial d.clock.now L c _ p' z.serial d.clock.now _;rw [hs];exact .merge p' e S hp
   ·refine Do.f rfl (Do.f rfl (Do.f rfl (Do.f rfl (Do.f rfl (Do.f rfl (Do.t rfl ?_))))));rw [D.count hf c.Queue];exact ⟨_,rfl,L,.count e hq,x,y,rfl,rfl⟩
  ·have U : (!((decide (c.Queue >= 0)) && (decide (c.Queue < 2)))) = true := by
    cases h1 : decide (c.Queue >= 0) with
    | false => rfl
    | true =>
     cases h2 : decide (c.Queue < 2) with
     | false => rfl
     | true =>
      have h1 := of_decide_eq_true h1;have h2 := of_decide_eq_true h2;omega
   rw [U];exact ⟨_,rfl,L,.bad hk hq,x,y,rfl,rfl⟩
 ·have n1 : (c.Kind == 1) = false := by simp; omega
  have n5 : (c.Kind == 5) = false := by simp; omega
  have n6 : (c.Kind == 6) = false := by simp; omega
  have n7 : (c.Kind == 7) = false := by simp; omega
  rw [n1,n5,n6,n7];simp only [cF,bS];by_cases h2 : c.Kind = 2
  ·rw [show (c.Kind == 2) = true by simp [h2],cT];refine (D.Cf hf c).bind ?_;rintro res (⟨e,he,J,rfl⟩ | ⟨A,j,B,eL,hj,⟨ht,rfl⟩ | ⟨z,p',b',d',ht,I,rfl,rfl,hs,F,u⟩⟩)
   ·exact ⟨_,rfl,L,.dead e (Or.inl h2) he J,x,y,rfl,rfl⟩
   ·exact ⟨_,rfl,L,.late A j B h2 eL hj ht,x,y,rfl,rfl⟩
   ·refine ⟨_,rfl,_,?_,F.mono (Nat.le_succ T),⟨u.1,Int.le_trans u.2 (by omega)⟩,rfl,rfl⟩;show How N d.t_.p d.q.serial d.clock.now L c _ p' z.serial d.clock.now _;rw [hs];refine .soon A j B p' h2 eL hj ht ?_;have O : Pj.Live d.t_.p j.R j.job := (D.jl _ _).2 ⟨j,by rw [eL]; simp,rfl,rfl⟩;have W := Pj.qy D.jp O (zB.mk j.q c.Time j.data j.item);rw [W] at I;have := (Prod.mk.inj (Option.some.inj I)).2;rw [<- this];exact pM.set D.jp O
  ·rw [show (c.Kind == 2) = false by simp [h2],cF];by_cases h3 : c.Kind = 3
   ·rw [show (c.Kind == 3) = true by simp [h3],cT];refine (D.cancel hf c.Job).bind ?_;rintro res (⟨e,he,J,rfl⟩ | ⟨A,j,B,z,p',d',eL,hj,hg,rfl,rfl,hs,F,u⟩)
    ·exact ⟨_,rfl,L,.dead e (Or.inr h3) he J,x,y,rfl,rfl⟩
    ·refine ⟨_,rfl,_,?_,F.mono (Nat.le_succ T),⟨u.1,Int.le_trans u.2 (by omega)⟩,rfl,rfl⟩;show How N d.t_.p d.q.serial d.clock.now L c _ p' z.serial d.clock.now _;rw [hs];exact .canc A j B p' h3 eL hj hg
   ·rw [show (c.Kind == 3) = false by simp [h3],cF];by_cases h4 : c.Kind = 4
    ·rw [show (c.Kind == 4) = true by simp [h4],cT];unfold rH;by_cases ht : c.Time < 0
     ·rw [dT ht,cT];exact ⟨_,rfl,L,.back h4 ht,x,y,rfl,rfl⟩
     ·rw [dF ht,cF];obtain ⟨t,X⟩ := bC d.clock.now c.Time;rw [X];refine ⟨_,rfl,L,.go t h4 ht X,?_,y,rfl,rfl⟩;exact ⟨x.kd,x.dk,x.dm,x.nb,x.pq,x.jq,x.jp,x.jm,x.jl,x.by1,x.by2,x.wh1,x.wh2,x.rn,x.cn,x.bu,x.la,x.to⟩
    ·rw [show (c.Kind == 4) = false by simp [h4],cF];exact ⟨_,rfl,L,.unknown (by omega),x,y,rfl,rfl⟩
structure Went (N : Nat) (k : Int) (d : zb) (L : List JR) (T : Nat) (c : zk) (rep : zr) (d' : zb) (L' : List JR) : Prop where
 how : How N d.t_.p d.q.serial d.clock.now L c rep d'.t_.p d'.q.serial d'.clock.now L'
 di : DI N k d' L' (T + 1)
 bu : d'.budget = d.budget
theorem DI.do (D : DI N k d L T) (u : T < 1000000) (hf : 95000 < f) (c : zk) :
  Do (yP f d c) fun res => ∃ L',Went N k d L T c res.1 res.2 L' := by
 unfold yP;refine Do.seq (r := d.q.a_.m_.steps) rfl ?_;refine (D.one u hf c).bind ?_;rintro ⟨rep,d'⟩ ⟨L',hh,e,j,t,ht⟩;simp only at hh e j t ht ⊢;refine Do.seq (r := d'.q.a_.m_.steps) rfl ?_;have h1 := j.1;have h2 := j.2;have h3 := e.bu;have x := e.to;have y := e.la;rw [zV (by omega) (by omega)];refine Do.f (dF (by omega)) ?_;refine ⟨_,rfl,L',hh,?_,t⟩;refine ⟨e.kd,e.dk,e.dm,e.nb,e.pq,e.jq,e.jp,e.jm,e.jl,e.by1,e.by2,e.wh1,e.wh2,e.rn,e.cn,e.bu,?_,?_⟩
 ·simp only; omega
 ·simp only; split <;> omega
theorem fO {b : Nat} (j : b <= 1000) : ∀ (r x : Nat) (a : Int) (m : Nat),x + r = b -> r < m -> 0 <= a -> a + 1600 * r <= 1000000 -> ∃ v,vQ 1600 (b : Int) m a (x : Int) = some v /\ a + 1600 * r <= v
 | 0,x,a,m + 1,e,hm,h0,h1 => by
  refine ⟨a,?_,by omega⟩;unfold vQ;rw [dF (by omega),cF]
 | r + 1,x,a,m + 1,e,hm,h0,h1 => by
  obtain ⟨v,hv,hle⟩ := fO j r (x + 1) (a + 1600) m (by omega) (by omega) (by omega) (by omega);refine ⟨v,?_,by omega⟩;unfold vQ uj;rw [dT (by omega),cT,zV (x := 9223372036854775807 - 1600) (by omega) (by omega),dF (p := a > 9223372036854775807 - 1600) (by omega),Bool.and_false,cF];rw [show decide ((1600 : Int) < 0) = false from rfl,Bool.false_and,cF];simp only [bS];rw [zV (x := a + 1600) (by omega) (by omega),zV (x := (x : Int) + 1) (by omega) (by omega)];rw [show ((x + 1 : Nat) : Int) = (x : Int) + 1 by simp] at hv;exact hv
theorem AE : ∀ n : Fin 60,(match py ((n.val : Int) + 2) with | some b => decide (1 <= b /\ b <= 8) | none => false) = true := by decide +kernel
theorem dJ {f : Nat} (hf : 95000 < f) {k : Int} (hk : Kd k) {N : Nat} (h1 : 1 <= N) (h2 : N <= 60) : ∃ b,ru f k (N : Int) = some (b,true) /\ 3600 <= b := by
 have hw : tB k = some true := by
  unfold tB;rcases hk with rfl | rfl | rfl <;> rfl
 have j := AE ⟨N - 1,by omega⟩;unfold ru;rw [hw];simp only [bS];rw [show (!true) = false from rfl,cF,dF (by omega),cF,dF (by omega)];simp only [bS,cF];unfold oj;rw [zV (by omega) (by omega)];simp only at j;rw [show ((N - 1 : Nat) : Int) + 2 = (N : Int) + 1 by omega] at j;cases e : py ((N : Int) + 1) with
 | none => rw [e] at j; cases j
 | some b =>
  rw [e] at j;have j := of_decide_eq_true j;obtain ⟨t,rfl⟩ : ∃ t : Nat,b = (t : Int) := ⟨b.toNat,by omega⟩
  obtain ⟨v,hv,hle⟩ := fO (b := t) (by omega) t 0 2000 f (by omega) (by omega) (by omega) (by omega);simp only [bS];rw [show ((0 : Nat) : Int) = 0 from rfl] at hv;rw [hv];exact ⟨v,rfl,by omega⟩
theorem DI.new (hf : 95000 < f) (hk : Kd k) (h1 : 1 <= N) (h2 : N <= 60) :
  ∃ d,tX f k (N : Int) = some (some d,0) /\ DI N k d [] 2 /\ d.clock.now = 0 /\ d.q.serial = 0 /\ d.t_.p = zg.mk (N : Int) [] [] := by
 have hw : tB k = some true := by
  unfold tB;rcases hk with rfl | rfl | rfl <;> rfl
 obtain ⟨b,A,D⟩ := dJ hf hk h1 h2;obtain ⟨q,eq,Q,hs,J⟩ := Ca (M := N) h1 (by omega);obtain ⟨_,e,r0,q1,rfl,u,F,_⟩ := Q.dS (f := f) (k := k) (a := zd.mk 0 0) (b := zd.mk 0 0) (c := zd.mk 0 0) (key := 0) hk (by simp) (by omega);obtain ⟨_,t,r1,q2,rfl,x,I,_⟩ := u.dS (f := f) (k := k) (a := zd.mk 0 0) (b := zd.mk 0 0) (c := zd.mk 0 0) (key := 0) hk (by simp) (by omega);have y : (if (if 4096 < (N : Int) then 4096 else (N : Int)) > 1 then (if 4096 < (N : Int) then 4096 else (N : Int)) else 1) = (N : Int) := by
  rw [show (if 4096 < (N : Int) then 4096 else (N : Int)) = (N : Int) from if_neg (by omega)]; split <;> omega
 have z : (if (if 65536 < (N : Int) then 65536 else (N : Int)) > 0 then (if 65536 < (N : Int) then 65536 else (N : Int)) else 0) = (N : Int) := by
  rw [show (if 65536 < (N : Int) then 65536 else (N : Int)) = (N : Int) from if_neg (by omega),if_pos (by omega)]
 have B : oL (N : Int) = some (zp.mk (zg.mk (N : Int) [] []) []) := by
  unfold oL tG;rw [y];simp only [bS];rw [z]
 refine ⟨zb.mk k (N : Int) q2 r0 r1 (zp.mk (zg.mk (N : Int) [] []) []) [] (zP.mk 0) b 0 0,?_,?_,rfl,by simp only; omega,rfl⟩
 ·unfold tX;rw [hw];simp only [bS];rw [show (!true) = false from rfl,cF,A];simp only [bS];rw [show (!true) = false from rfl,cF,eq];simp only [bS,uT,oS];rw [B];simp only [bS];unfold oD;simp only [bS];rw [e];simp only [bS];rw [t]
  rfl
 ·refine ⟨hk,rfl,rfl,⟨h1,h2⟩,?_,?_,Pj.gN (by omega) (by omega) 2,rfl,?_,List.nodup_nil,?_,List.nodup_nil,?_,List.nodup_nil,rfl,D,⟨Int.le_refl _,by simp only; omega⟩,⟨Int.le_refl _,by simp only; omega⟩⟩
  ·exact ⟨_,_,x.p (List.Perm.swap ..),rfl,rfl,rfl,rfl,.refl _,.refl _⟩
  ·intro j hj; cases hj
  ·intro r v;constructor
   ·intro h; exact absurd h Pj.fT
   ·rintro ⟨j,hj,_⟩; cases hj
  ·intro i r;constructor
   ·intro h; cases h
   ·rintro ⟨j,hj,_⟩; cases hj
  ·intro i r;constructor
   ·intro h; cases h
   ·rintro ⟨j,hj,_⟩; cases hj
end
end
noncomputable section
set_option maxRecDepth 10000
structure PR (p : zg) (r : zn) : Prop where
 mo : r.Most = p.most
 ge : r.Gens = p.l.map zt.gen
 tk : r.In = p.l.map zt.taken
 vl : r.V.length = p.l.length
 bk : r.Back = p.free
def rj (j : JR) : zE := zE.mk j.q j.data (zG.mk j.it.k j.it.s) j.R
structure TI (N : Nat) (p : zg) (s now : Int) (L : List JR) (m : zc) : Prop where
 mo : m.Most = N
 nw : m.Now = now
 nx : m.Next = s
 po : PR p m.Pool
 ls : m.L = L.map rj
section
variable {p p' : zg} {r : zn} {T : Nat} {L : List JR}
theorem PR.same (P : PR p r) (h : pM p p') : PR p' r :=
 ⟨P.mo.trans h.1.symm,P.ge.trans h.2.2.1.symm,P.tk.trans h.2.2.2.symm,by have := congrArg List.length h.2.2.1; simp only [lM] at this; rw [P.vl,this],P.bk.trans h.2.1.symm⟩
theorem PR.look (P : PR p r) (I : Pj.Inv p T) (s : zd) {x : Option Int} {e : Int} (h : zS p s = some (x,e)) : wz r s = some e := by
 unfold zS at h;unfold wz;have t : (r.Gens.length : Int) = (p.l.length : Int) := by rw [P.ge,lM]
 rw [t];by_cases h1 : s.At < 0
 ·rw [dT h1] at h ⊢;simp only [cT,bS,Option.some.injEq,Prod.mk.injEq] at h ⊢;exact h.2
 rw [dF h1] at h ⊢;by_cases h2 : s.At >= (p.l.length : Int)
 ·rw [dT h2] at h ⊢;simp only [cT,cF,bS,Option.some.injEq,Prod.mk.injEq] at h ⊢;exact h.2
 rw [dF h2] at h ⊢;by_cases h3 : s.Gen < 1
 ·rw [dT h3] at h ⊢;simp only [cT,cF,bS,Option.some.injEq,Prod.mk.injEq] at h ⊢;exact h.2
 rw [dF h3] at h ⊢;obtain ⟨j,hj⟩ : ∃ j : Nat,s.At = (j : Int) := ⟨s.At.toNat,by omega⟩
 obtain ⟨y,u⟩ : ∃ y,p.l[j]? = some y := ⟨_,List.getElem?_eq_getElem (by omega)⟩
 rw [hj,yR,u] at h;have A : mIdx r.Gens (j : Int) = some y.gen := by rw [P.ge,yR,List.getElem?_map,u]; rfl
 have B : mIdx r.In (j : Int) = some y.taken := by rw [P.tk,yR,List.getElem?_map,u]; rfl
 rw [hj,A,B];simp only [cF,bS] at h ⊢;by_cases h4 : s.Gen > y.gen
 ·rw [dT h4] at h ⊢;simp only [cT,Option.some.injEq,Prod.mk.injEq] at h ⊢;exact h.2
 rw [dF h4] at h ⊢;simp only [cF] at h ⊢;by_cases z : s.Gen < y.gen
 ·rw [dT z] at h ⊢;simp only [Bool.true_or,cT,bS,Option.some.injEq,Prod.mk.injEq] at h ⊢;exact h.2
 rw [dF z] at h ⊢;cases ht : y.taken with
 | true =>
  rw [ht] at h;simp only [Bool.not_true,Bool.or_false,cF,bS,Option.some.injEq,Prod.mk.injEq] at h ⊢;exact h.2
 | false =>
  rw [ht] at h;simp only [Bool.not_false,Bool.or_true,cT,cF,bS,Option.some.injEq,Prod.mk.injEq] at h ⊢;exact h.2
theorem PR.full (P : PR p r) (hf : p.free = []) (hl : (p.l.length : Int) = p.most) : xn r 0 = some (zd.mk 0 0,false,r) := by
 unfold xn;rw [P.bk,hf];rw [show decide (((([] : List Int).length : Nat) : Int) > 0) = false from rfl,cF,P.ge,lM,P.mo,dT (by omega),cT]
 rfl
theorem PR.take (P : PR p r) (I : Pj.Inv p T) (O : T < 1000000000) {v : zB} {R : zd} (e : (p.l.length : Int) < p.most + p.free.length) (h : yt p v = some (R,true,p')) :
  ∃ r',xn r 0 = some (R,true,r') /\ PR p' r' := by
 have hl := I.lb;rcases List.eq_nil_or_concat p.free with hf | ⟨fs,f,hf⟩
 ·rw [hf] at e;rw [Pj.pH I hf (by simpa using e)] at h;simp only [Option.some.injEq,Prod.mk.injEq,true_and] at h;obtain ⟨rfl,rfl⟩ := h;refine ⟨zn.mk r.Most (mSet (r.Gens ++ [0]) (r.Gens.length : Int) 1) (mSet (r.In ++ [false]) (r.Gens.length : Int) true) (mSet (r.V ++ [0]) (r.Gens.length : Int) 0) r.Back,?_,?_⟩
  ·have t : r.Gens.length = p.l.length := by rw [P.ge,lM]
   have u : r.In.length = p.l.length := by rw [P.tk,lM]
   have B := P.vl;unfold xn;rw [P.bk,hf];rw [show decide (((([] : List Int).length : Nat) : Int) > 0) = false from rfl,cF,t,P.mo,dF (by simp at e; omega),cF];rw [xh (by simp; omega),xh (by simp; omega),xh (by simp; omega)];simp only [bS];have h1 : mIdx (r.Gens ++ [0]) (p.l.length : Int) = some 0 := by rw [<- t]; exact yv r.Gens [] 0
   have h2 : mIdx (r.In ++ [false]) (p.l.length : Int) = some false := by rw [<- u]; exact yv r.In [] false
   have h3 : mIdx (r.V ++ [0]) (p.l.length : Int) = some 0 := by rw [<- B]; exact yv r.V [] 0
   rw [h1,h2,h3];simp only [bS];rw [show w64 (0 + 1) = 1 by rw [zV] <;> simp];have h4 : mIdx (mSet (r.Gens ++ [0]) (p.l.length : Int) 1) (p.l.length : Int) = some 1 := by
    rw [yR]; simp only [mSet,tN]; rw [List.getElem?_set_self (by simp; omega)]
   rw [h4]
   rfl
  ·have t : r.Gens.length = p.l.length := by rw [P.ge,lM]
   have u : r.In.length = p.l.length := by rw [P.tk,lM]
   have hs : ∀ {α : Type} (l : List α) (a b : α),(l ++ [a]).set l.length b = l ++ [b] := fun l a b => by simp
   refine ⟨P.mo,?_,?_,?_,P.bk.trans hf⟩
   ·simp only [mSet,tN]; rw [hs,P.ge]; simp
   ·simp only [mSet,tN]; rw [t,<- u,hs,P.tk]; simp
   ·simp [mSet,P.vl]
 ·rw [List.concat_eq_append] at hf;obtain ⟨j,x,rfl,hj,ht⟩ := I.fre f (by rw [hf]; simp);have S := I.gen j x hj;rw [Pj.qf I (by omega) hf hj] at h;simp only [Option.some.injEq,Prod.mk.injEq,true_and] at h;obtain ⟨rfl,rfl⟩ := h;have z := (List.getElem?_eq_some_iff.1 hj).1;have J : fs.length < 1000000 := by
   have h0 := I.flen;rw [hf] at h0;simp only [lA,List.length_singleton] at h0;omega
  have hw : w64 (((fs ++ [(j : Int)]).length : Int) - 1) = (fs.length : Int) := by rw [zV] <;> simp <;> omega
  have A : mIdx (fs ++ [(j : Int)]) (fs.length : Int) = some (j : Int) := yv fs [] (j : Int);have y : mCut (fs ++ [(j : Int)]) 0 (fs.length : Int) = some fs := by
   unfold mCut;rw [if_pos ⟨by omega,by omega,by simp; omega⟩];simp
  have D : mIdx r.Gens (j : Int) = some x.gen := by rw [P.ge,yR,List.getElem?_map,hj]; rfl
  have F : mIdx r.In (j : Int) = some x.taken := by rw [P.tk,yR,List.getElem?_map,hj]; rfl
  have hV : ∃ v0,mIdx r.V (j : Int) = some v0 := ⟨_,by rw [yR]; exact List.getElem?_eq_getElem (by rw [P.vl]; exact z)⟩
  obtain ⟨v0,hV⟩ := hV;refine ⟨zn.mk r.Most (mSet r.Gens (j : Int) (x.gen + 1)) (mSet r.In (j : Int) true) (mSet r.V (j : Int) 0) fs,?_,?_⟩
  ·unfold xn;rw [P.bk,hf,dT (by simp),cT,hw,A];simp only [bS];rw [y];simp only [bS];rw [D,F,hV];simp only [bS];rw [zV (by omega) (by omega)];have h4 : mIdx (mSet r.Gens (j : Int) (x.gen + 1)) (j : Int) = some (x.gen + 1) := by
    rw [yR]; simp only [mSet,tN]; rw [List.getElem?_set_self (by rw [P.ge,lM]; exact z)]
   rw [h4]
   rfl
  ·refine ⟨P.mo,?_,?_,?_,rfl⟩
   ·simp only [mSet,tN]; rw [P.ge,List.map_set]
   ·simp only [mSet,tN]; rw [P.tk,List.map_set]
   ·simp only [mSet,List.length_set]; exact P.vl
theorem PR.give (P : PR p r) (I : Pj.Inv p T) {v : zB} {s : zd} (h : Pj.Live p s v) (t : zU p s = some (v,0,p')) :
  ∃ x r',vg r s = some (x,0,r') /\ PR p' r' := by
 rw [Pj.rV I h] at t;simp only [Option.some.injEq,Prod.mk.injEq,true_and] at t;subst t;have z := P.look I s (Pj.wS I h);obtain ⟨j,e,hj⟩ := h;have u := (List.getElem?_eq_some_iff.1 hj).1;have D := I.lb;have B := I.flen;have A : mIdx r.In (j : Int) = some true := by rw [P.tk,yR,List.getElem?_map,hj]; rfl
 obtain ⟨v0,hV⟩ : ∃ v0,mIdx r.V (j : Int) = some v0 := ⟨_,by rw [yR]; exact List.getElem?_eq_getElem (by rw [P.vl]; exact u)⟩
 refine ⟨v0,zn.mk r.Most r.Gens (mSet r.In (j : Int) false) r.V (p.free ++ [(j : Int)]),?_,?_⟩
 ·unfold vg;rw [z];simp only [bS];rw [show ((0 : Int) != 0) = false from rfl,cF,e,A];simp only [bS];rw [P.bk,xh (by simp; omega),List.nil_append];simp only [bS];rw [xh (by simp; omega)];simp only [bS];rw [hV]
  rfl
 ·refine ⟨P.mo,?_,?_,?_,by rw [e]⟩
  ·simp only [mSet,e,tN]; exact P.ge.trans (qO (y := ⟨s.Gen,false,zB.mk 0 0 0 (zd.mk 0 0)⟩) zt.gen hj rfl).symm
  ·simp only [mSet,e,tN]; rw [P.tk,List.map_set]
  ·simp only [mSet,List.length_set]; exact P.vl
end
end
noncomputable section
set_option maxRecDepth 10000
def bef (a b : JR) : Prop := a.it.k < b.it.k \/ (a.it.k = b.it.k /\ a.it.s < b.it.s)
instance (a b : JR) : Decidable (bef a b) := by unfold bef; exact inferInstance
theorem dE (a b : JR) : ((decide (a.it.k < b.it.k)) || ((a.it.k == b.it.k) && (decide (a.it.s < b.it.s)))) = decide (bef a b) := by
 by_cases h : bef a b
 ·rw [dT h];rcases h with h | ⟨h1,h2⟩
  ·rw [dT h]; rfl
  ·rw [dT h2]; simp [h1]
 ·rw [dF h];unfold bef at h;rw [Bool.or_eq_false_iff,Bool.and_eq_false_iff];refine ⟨dF (by omega),?_⟩;by_cases h1 : a.it.k = b.it.k
  ·exact Or.inr (dF (by omega))
  ·exact Or.inl (by simpa using h1)
def Best (x : Int) (P : List JR) (b : Int) : Prop :=
 (b = -1 /\ ∀ j ∈ P,j.q ≠ x) \/ ∃ (i : Nat) (j : JR),b = (i : Int) /\ P[i]? = some j /\ j.q = x /\ ∀ e ∈ P,e.q = x -> ¬ bef e j
theorem pT {L : List JR} {i : Nat} {j : JR} (h : L[i]? = some j) : mIdx (L.map rj) (i : Int) = some (rj j) := by rw [yR,List.getElem?_map,h]; rfl
theorem fD {x : Int} {m : zc} {L : List JR} (hm : m.L = L.map rj) (hl : L.length <= 65536) :
  ∀ (rest pre : List JR) (b : Int) (f : Nat),L = pre ++ rest -> rest.length < f -> Best x pre b -> ∃ F,yn x m f b (pre.length : Int) = some F /\ Best x L F
 | [],pre,b,f + 1,e,hf,O => by
  refine ⟨b,?_,by rw [e,aN]; exact O⟩;unfold yn;rw [hm,lM,dF (by rw [e]; simp),cF]
 | y :: rest,pre,b,f + 1,e,hf,O => by
  have hlen : L.length = pre.length + (rest.length + 1) := by rw [e]; simp
  simp only [lC] at hf;have U : L[pre.length]? = some y := by rw [e]; simp
  have I : ∀ {i : Nat} {j : JR},pre[i]? = some j -> L[i]? = some j := by
   intro i j h;rw [e,List.getElem?_append_left (List.getElem?_eq_some_iff.1 h).1]; exact h
  have go : ∀ J,Best x (pre ++ [y]) J -> ∃ F,yn x m f J ((pre.length : Int) + 1) = some F /\ Best x L F := by
   intro J h1;have := fD hm hl rest (pre ++ [y]) J f (by rw [e]; simp) (by omega) h1;rw [show ((pre ++ [y]).length : Int) = (pre.length : Int) + 1 by simp] at this;exact this
  unfold yn;rw [hm,lM,dT (by omega),cT,pT U];simp only [bS];rw [zV (x := (pre.length : Int) + 1) (by omega) (by omega),show (rj y).Queue = y.q from rfl];by_cases hq : y.q = x
  ·rw [show (y.q == x) = true by simpa using hq,cT];rcases O with ⟨rfl,hn⟩ | ⟨i,j,rfl,hi,A,z⟩
   ·rw [show decide ((-1 : Int) < 0) = true from rfl,cT];simp only [bS,cT];refine go _ (Or.inr ⟨pre.length,y,rfl,by simp,hq,?_⟩);intro D u A;rcases List.mem_append.1 u with h | h
    ·exact absurd A (hn D h)
    ·rw [List.mem_singleton.1 h]; unfold bef; omega
   ·rw [dF (by omega),cF,pT (I hi)];simp only [bS];unfold tv;simp only [bS];by_cases B : bef y j
    ·have S : ((decide ((rj y).E.Key < (rj j).E.Key)) || (((rj y).E.Key == (rj j).E.Key) && (decide ((rj y).E.Serial < (rj j).E.Serial)))) = true := by
      exact (dE y j).trans (dT B)
     rw [S,cT];simp only [bS];refine go _ (Or.inr ⟨pre.length,y,rfl,by simp,hq,?_⟩);intro D u t;rcases List.mem_append.1 u with h | h
     ·have := z D h t;unfold bef at *; omega
     ·rw [List.mem_singleton.1 h]; unfold bef; omega
    ·have S : ((decide ((rj y).E.Key < (rj j).E.Key)) || (((rj y).E.Key == (rj j).E.Key) && (decide ((rj y).E.Serial < (rj j).E.Serial)))) = false := by
      exact (dE y j).trans (dF B)
     rw [S,cF];simp only [bS];refine go _ (Or.inr ⟨i,j,rfl,by rw [List.getElem?_append_left (List.getElem?_eq_some_iff.1 hi).1]; exact hi,A,?_⟩);intro D u t;rcases List.mem_append.1 u with h | h
     ·exact z D h t
     ·rw [List.mem_singleton.1 h]; exact B
  ·rw [show (y.q == x) = false by simpa using hq,cF];simp only [bS,cF];refine go _ ?_;rcases O with ⟨rfl,hn⟩ | ⟨i,j,rfl,hi,A,z⟩
   ·refine Or.inl ⟨rfl,fun j hj => ?_⟩;rcases List.mem_append.1 hj with h | h
    ·exact hn j h
    ·rw [List.mem_singleton.1 h]; exact hq
   ·refine Or.inr ⟨i,j,rfl,by rw [List.getElem?_append_left (List.getElem?_eq_some_iff.1 hi).1]; exact hi,A,?_⟩;intro D u t;rcases List.mem_append.1 u with h | h
    ·exact z D h t
    ·rw [List.mem_singleton.1 h] at t; exact absurd t hq
theorem kN {x : Int} {m : zc} {L : List JR} (hm : m.L = L.map rj) (hl : L.length <= 65536) {f : Nat} (hf : 65536 < f) : ∃ b,xE f m x = some b /\ Best x L b := by
 obtain ⟨b,e,j⟩ := fD (x := x) hm hl L [] (-1) f rfl (by omega) (Or.inl ⟨rfl,by simp⟩);refine ⟨b,?_,j⟩;unfold xE;rw [show ((([] : List JR).length : Nat) : Int) = 0 from rfl] at e;rw [e]
 rfl
theorem Bw {m : zc} {A : List JR} {j : JR} {B : List JR} (hm : m.L = (A ++ j :: B).map rj) (hl : (A ++ j :: B).length <= 65536) (hn : ∀ i ∈ A,i.R ≠ j.R) :
  ∀ (rest pre : List JR) (f : Nat),A = pre ++ rest -> rest.length < f -> yH j.R.At j.R.Gen m f (pre.length : Int) = some (.inl ((A.length : Int),m))
 | [],pre,f + 1,e,hf => by
  have hlen : (A ++ j :: B).length = A.length + (B.length + 1) := by simp
  rw [aN] at e;subst e;unfold yH;rw [hm,lM,dT (by omega),cT,pT (j := j) (by simp)];simp only [bS];rw [show zd.eq (rj j).R (zd.mk j.R.At j.R.Gen) = true from (uy _ _).2 rfl,cT]
 | y :: rest,pre,f + 1,e,hf => by
  have hlen : (A ++ j :: B).length = A.length + (B.length + 1) := by simp
  have t : A.length = pre.length + (rest.length + 1) := by rw [e]; simp
  simp only [lC] at hf;have z : (A ++ j :: B)[pre.length]? = some y := by rw [e]; simp
  unfold yH;rw [hm,lM,dT (by omega),cT,pT z];simp only [bS];have u : zd.eq y.R j.R = false := by
   simpa using fun x => hn y (by rw [e]; simp) ((uy _ _).1 x)
  rw [show zd.eq (rj y).R (zd.mk j.R.At j.R.Gen) = false from u,cF,zV (by omega) (by omega)];have ih := Bw hm hl hn rest (pre ++ [y]) f (by rw [e]; simp) (by omega);rw [show ((pre ++ [y]).length : Int) = (pre.length : Int) + 1 by simp] at ih;exact ih
theorem gr {m : zc} {A : List JR} {j : JR} {B : List JR} (hm : m.L = (A ++ j :: B).map rj) (hl : (A ++ j :: B).length <= 65536) (hn : ∀ i ∈ A,i.R ≠ j.R) {f : Nat} (hf : 65536 < f) : xR f m j.R = some ((A.length : Int),m) := by
 have h := Bw hm hl hn A [] f rfl (by simp only [lA] at hl; omega);unfold xR;rw [show ((([] : List JR).length : Nat) : Int) = 0 from rfl] at h;rw [h]
 rfl
theorem mF {x : Int} {m : zc} {L : List JR} (hm : m.L = L.map rj) (hl : L.length <= 65536) :
  ∀ (rest pre : List JR) (n : Int) (f : Nat),L = pre ++ rest -> rest.length < f -> 0 <= n -> n <= pre.length ->
   yy x m f n (pre.length : Int) = some (n + (rest.filter fun j => j.q == x).length)
 | [],pre,n,f + 1,e,hf,h0,h1 => by
  unfold yy;rw [hm,lM,dF (by rw [e]; simp),cF];simp
 | y :: rest,pre,n,f + 1,e,hf,h0,h1 => by
  have hlen : L.length = pre.length + (rest.length + 1) := by rw [e]; simp
  simp only [lC] at hf;have t : L[pre.length]? = some y := by rw [e]; simp
  unfold yy;rw [hm,lM,dT (by omega),cT,pT t];simp only [bS];rw [zV (x := (pre.length : Int) + 1) (by omega) (by omega),show (rj y).Queue = y.q from rfl,List.filter_cons];cases u : y.q == x with
  | true =>
   have ih := mF (x := x) hm hl rest (pre ++ [y]) (n + 1) f (by rw [e]; simp) (by omega) (by omega) (by simp; omega);rw [show ((pre ++ [y]).length : Int) = (pre.length : Int) + 1 by simp] at ih;rw [cT,zV (by omega) (by omega)];simp only [bS,if_true];rw [ih]; simp; omega
  | false =>
   have ih := mF (x := x) hm hl rest (pre ++ [y]) n f (by rw [e]; simp) (by omega) h0 (by simp; omega);rw [show ((pre ++ [y]).length : Int) = (pre.length : Int) + 1 by simp] at ih;rw [cF];simp only [bS,Bool.false_eq_true,if_false];exact ih
theorem gw {x : Int} {m : zc} {L : List JR} (hm : m.L = L.map rj) (hl : L.length <= 65536) {f : Nat} (hf : 65536 < f) : xD f m x = some ((sel x L).length : Int) := by
 have h := mF (x := x) hm hl L [] 0 f rfl (by omega) (Int.le_refl _) (Int.le_refl _);unfold xD;rw [show ((([] : List JR).length : Nat) : Int) = 0 from rfl] at h;rw [h];simp [sel]
theorem jK : ∀ (rest pre : List JR) (m : zc) (n : Int) (f : Nat),m.L = pre.map rj ++ rest.map rj -> pre.length + rest.length <= 65536 -> rest.length < f -> 0 <= n -> n <= pre.length ->
   yz f n (pre.length : Int) m = some (n + (rest.filter fun j => j.q == 1).length,zc.mk m.Most m.Now m.Next m.Pool (pre.map rj ++ rest.map fun j => rj j.mv))
 | [],pre,m,n,f + 1,hm,hl,hf,h0,h1 => by
  unfold yz;rw [hm,dF (by simp),cF];simp only [List.map_nil,aN] at hm;rw [List.map_nil,aN,<- hm];simp
 | y :: rest,pre,m,n,f + 1,hm,hl,hf,h0,h1 => by
  simp only [lC] at hf hl;have t : mIdx m.L (pre.length : Int) = some (rj y) := by
   rw [hm,yR]; simp
  have hlen : (m.L.length : Int) = pre.length + (rest.length + 1) := by rw [hm]; simp
  unfold yz;rw [hlen,dT (by omega),cT,t];simp only [bS];rw [zV (x := (pre.length : Int) + 1) (by omega) (by omega),show (rj y).Queue = y.q from rfl,List.filter_cons];by_cases hq : y.q = 1
  ·have e : y.mv = y.zero := by unfold JR.mv; rw [if_pos hq]
   have ih := jK rest (pre ++ [y.zero]) (zc.mk m.Most m.Now m.Next m.Pool (mSet m.L (pre.length : Int) (zE.mk 0 (rj y).Data (rj y).E (rj y).R))) (n + 1) f (by
    simp only [mSet,tN,hm];rw [List.set_append];simp [rj,JR.zero]) (by simp; omega) (by omega) (by omega) (by simp; omega)
   rw [show ((pre ++ [y.zero]).length : Int) = (pre.length : Int) + 1 by simp] at ih;rw [show (y.q == 1) = true by simp [hq],cT,zV (by omega) (by omega)];simp only [bS,if_true];rw [ih];simp [e]; omega
  ·have e : y.mv = y := by unfold JR.mv; rw [if_neg hq]
   have ih := jK rest (pre ++ [y]) m n f (by rw [hm]; simp) (by simp; omega) (by omega) h0 (by simp; omega);rw [show ((pre ++ [y]).length : Int) = (pre.length : Int) + 1 by simp] at ih;rw [show (y.q == 1) = false by simp [hq],cF];simp only [bS,Bool.false_eq_true,if_false];rw [ih];simp [e]
theorem fY {N : Nat} {p p' : zg} {s now : Int} {T : Nat} {A B : List JR} {j : JR} {m : zc} (H : TI N p s now (A ++ j :: B) m) (I : Pj.Inv p T) (hv : Pj.Live p j.R j.job) (y : zU p j.R = some (j.job,0,p')) (hl : (A ++ j :: B).length <= 65536) :
  ∃ t,xm m (A.length : Int) = some (rj j,t) /\ TI N p' s now (A ++ B) t := by
 obtain ⟨x,r',hr,u⟩ := H.po.give I hv y;have hlen : (A ++ j :: B).length = A.length + (B.length + 1) := by simp
 refine ⟨zc.mk m.Most m.Now m.Next r' ((A ++ B).map rj),?_,⟨H.mo,H.nw,H.nx,u,rfl⟩⟩;unfold xm;have e : m.L = A.map rj ++ rj j :: B.map rj := by rw [H.ls]; simp
 have h1 : mIdx m.L (A.length : Int) = some (rj j) := by
  have := yv (A.map rj) (B.map rj) (rj j);rw [lM] at this;rw [e]; exact this
 have h2 : mCut m.L 0 (A.length : Int) = some (A.map rj) := by
  unfold mCut;rw [e,if_pos ⟨by omega,by omega,by simp; omega⟩];simp
 have h3 : mCut m.L (w64 ((A.length : Int) + 1)) (m.L.length : Int) = some (B.map rj) := by
  rw [zV (by omega) (by omega),e];unfold mCut;rw [if_pos ⟨by omega,by simp; omega,by simp⟩];have : ((A.length : Int) + 1).toNat = A.length + 1 := by omega
  rw [this,tN,List.take_length];simp [List.drop_append]
 rw [h1];simp only [bS];rw [h2];simp only [bS];rw [h3];simp only [bS];rw [xh (by simp; omega),List.nil_append];simp only [bS];rw [xh (by simp; omega)];simp only [bS];rw [show (rj j).R = j.R from rfl,hr];simp
end
noncomputable section
set_option maxRecDepth 10000
theorem add_same {a b t : Int} (ha : 0 <= a) (e : a <= 9223372036854775807) (u : 0 <= b) (j : b <= 9223372036854775807) (h : uj a b = some t) : tu a b = some t /\ 0 <= t /\ t <= 9223372036854775807 := by
 unfold uj at h;unfold tu;rw [zV (x := 9223372036854775807 - b) (by omega) (by omega),dF (p := b < 0) (by omega),Bool.false_and,cF] at h;rw [zV (x := 9223372036854775807 - a) (by omega) (by omega),dF (p := a < 0) (by omega),Bool.false_and,cF];by_cases h1 : a + b > 9223372036854775807
 ·rw [dT (p := b > 0) (by omega),dT (p := a > 9223372036854775807 - b) (by omega)] at h;rw [dT (p := a > 0) (by omega),dT (p := b > 9223372036854775807 - a) (by omega)];simp only [Bool.and_self,cT,Option.some.injEq] at h ⊢;omega
 ·rw [dF (p := a > 9223372036854775807 - b) (by omega),Bool.and_false,cF,zV (by omega) (by omega)] at h;rw [dF (p := b > 9223372036854775807 - a) (by omega),Bool.and_false,cF,zV (by omega) (by omega)];simp only [Option.some.injEq] at h ⊢;omega
section
variable {N : Nat} {k : Int} {d : zb} {L L' : List JR} {T : Nat} {f : Nat} {m : zc} {rep : zr} {p' : zg} {s' now' : Int} {c : zk}
theorem k_of {c : zk} (hk : c.Kind = 1 \/ c.Kind = 5 \/ c.Kind = 6 \/ c.Kind = 7) : (bif c.Kind == 1 then some (c.Kind == 1) else (bif c.Kind == 5 then some (c.Kind == 5) else (bif c.Kind == 6 then some (c.Kind == 6) else some (c.Kind == 7)))) = some true := by
 rcases hk with e | e | e | e <;> rw [e] <;> rfl
theorem k_no {c : zk} (hk : ¬ (c.Kind = 1 \/ c.Kind = 5 \/ c.Kind = 6 \/ c.Kind = 7)) : (bif c.Kind == 1 then some (c.Kind == 1) else (bif c.Kind == 5 then some (c.Kind == 5) else (bif c.Kind == 6 then some (c.Kind == 6) else some (c.Kind == 7)))) = some false := by
 rw [show (c.Kind == 1) = false by simp; omega,show (c.Kind == 5) = false by simp; omega,show (c.Kind == 6) = false by simp; omega,show (c.Kind == 7) = false by simp; omega]; rfl
theorem TI.queue (hk : c.Kind = 1 \/ c.Kind = 5 \/ c.Kind = 6 \/ c.Kind = 7) (hq : c.Queue = 0 \/ c.Queue = 1) {Q : zr × zc -> Prop} (h : Do (zX f m c) Q) : Do (zK f m c) Q := by
 obtain ⟨r,e,hr⟩ := h;unfold zK;rw [k_of hk];simp only [bS,cT];rw [show ((c.Queue != 0) && (c.Queue != 1)) = false by rcases hq with e | e <;> rw [e] <;> rfl,cF,e];exact ⟨_,rfl,hr⟩
theorem TI.do (D : DI N k d L T) (hT : T < 1000000) (H : TI N d.t_.p d.q.serial d.clock.now L m) (hn : 0 <= d.clock.now /\ d.clock.now <= 9223372036854775807) (hs : d.q.serial < 1000000000000) (hc : c.Time <= 9223372036854775807) (hf : 95000 < f)
  (h : How N d.t_.p d.q.serial d.clock.now L c rep p' s' now' L') :
  Do (zK f m c) fun res => res.1 = rep /\ TI N p' s' now' L' res.2 /\ 0 <= now' /\ now' <= 9223372036854775807 /\ 0 <= s' /\ s' <= d.q.serial + 1 := by
 have b5 := D.items.2.1;have b6 := D.nb;have b7 : 0 <= d.q.serial := by
  obtain ⟨h0,h1,Q,_⟩ := D.pq;exact Q.sq.1
 have hz : 0 <= d.q.serial /\ d.q.serial <= d.q.serial + 1 := by omega
 cases h with
 | bad hk hq =>
  unfold zK;rw [k_of hk];simp only [bS,cT];rw [show ((c.Queue != 0) && (c.Queue != 1)) = true by simp; omega,cT];exact ⟨_,rfl,rfl,H,hn.1,hn.2,hz⟩
 | full hk hq hl =>
  refine TI.queue (Or.inl hk) hq ?_;unfold zX;refine Do.t (by rw [hk]; rfl) ?_;have W : d.t_.p.free = [] := by
   have h1 := D.cn;have h2 := D.jp.len;rw [D.jm] at h2;exact List.eq_nil_of_length_eq_zero (by omega)
  have a6 : (d.t_.p.l.length : Int) = d.t_.p.most := by
   have h1 := D.cn;rw [W] at h1;rw [D.jm];simp only [List.length_nil] at h1; omega
  refine Do.seq (H.po.full W a6) (Do.t rfl ?_);exact ⟨_,rfl,rfl,⟨H.mo,H.nw,H.nx,H.po,H.ls⟩,hn.1,hn.2,hz⟩
 | sched j p' v hk hq hl h1 h2 h3 h4 ht =>
  refine TI.queue (Or.inl hk) hq ?_;unfold zX;refine Do.t (by rw [hk]; rfl) ?_;obtain ⟨r',U,P'⟩ := H.po.take D.jp (by omega) (by have := D.cn; rw [D.jm]; omega) ht;refine Do.seq U (Do.f rfl ?_);rw [xh (by rw [H.ls]; simp; omega),List.nil_append];simp only [bS];rw [xh (by rw [H.ls]; simp; omega)];have X := H.nx;refine ⟨_,rfl,rfl,⟨H.mo,H.nw,?_,P',?_⟩,hn.1,hn.2,by omega,by omega⟩
  ·show w64 (m.Next + 1) = _;rw [X,zV (by omega) (by omega)]
  ·show m.L ++ [zE.mk c.Queue c.Data (zG.mk c.Time m.Next) j.R] = _;rw [H.ls,List.map_append,X];simp [rj,h1,h2,h3,h4]
 | dead e hk he a3 =>
  unfold zK;rw [k_no (by omega)];simp only [bS,cF];have z : (bif c.Kind == 2 then some (c.Kind == 2) else some (c.Kind == 3)) = some true := by rcases hk with e | e <;> rw [e] <;> rfl
  rw [z];simp only [bS,cT];rw [H.po.look D.jp c.Job a3];simp only [bS];rw [show (e != 0) = true by simp [bne,he],cT];exact ⟨_,rfl,rfl,H,hn.1,hn.2,hz⟩
 | late A j B hk eL hj ht =>
  subst eL;have u : j ∈ A ++ j :: B := by simp
  have y : Pj.Live d.t_.p j.R j.job := (D.jl _ _).2 ⟨j,u,rfl,rfl⟩;have F : ∀ i ∈ A,i.R ≠ j.R := by
   have := D.rn;rw [List.map_append,pC] at this;obtain ⟨_,_,h3⟩ := List.nodup_append.1 this;exact fun i hi e => h3 _ (List.mem_map_of_mem (f := JR.R) hi) _ (List.mem_cons_self ..) e
  unfold zK;rw [k_no (by omega)];simp only [bS,cF];have z : (bif c.Kind == 2 then some (c.Kind == 2) else some (c.Kind == 3)) = some true := by rw [hk]; rfl
  rw [z];simp only [bS,cT];rw [hj,H.po.look D.jp j.R (Pj.wS D.jp y)];simp only [bS];rw [show ((0 : Int) != 0) = false from rfl,cF,gr H.ls (by omega) F (by omega)];simp only [bS];rw [show (c.Kind == 3) = false by rw [hk]; rfl,cF,H.ls,pT (j := j) (by simp)];simp only [bS];rw [show decide (c.Time > (rj j).E.Key) = true from dT ht,cT];exact ⟨_,rfl,rfl,H,hn.1,hn.2,hz⟩
 | soon A j B p' hk eL hj ht hp =>
  subst eL;have u : j ∈ A ++ j :: B := by simp
  have y : Pj.Live d.t_.p j.R j.job := (D.jl _ _).2 ⟨j,u,rfl,rfl⟩;have F : ∀ i ∈ A,i.R ≠ j.R := by
   have := D.rn;rw [List.map_append,pC] at this;obtain ⟨_,_,h3⟩ := List.nodup_append.1 this;exact fun i hi e => h3 _ (List.mem_map_of_mem (f := JR.R) hi) _ (List.mem_cons_self ..) e
  unfold zK;rw [k_no (by omega)];simp only [bS,cF];have z : (bif c.Kind == 2 then some (c.Kind == 2) else some (c.Kind == 3)) = some true := by rw [hk]; rfl
  rw [z];simp only [bS,cT];rw [hj,H.po.look D.jp j.R (Pj.wS D.jp y)];simp only [bS];rw [show ((0 : Int) != 0) = false from rfl,cF,gr H.ls (by omega) F (by omega)];simp only [bS];have O : mIdx m.L (A.length : Int) = some (rj j) := by rw [H.ls]; exact pT (by simp)
  rw [show (c.Kind == 3) = false by rw [hk]; rfl,cF,O];simp only [bS];rw [show decide (c.Time > (rj j).E.Key) = false from dF (by show ¬ c.Time > j.it.k; omega),cF];have a0 : mSet m.L (A.length : Int) (zE.mk (rj j).Queue (rj j).Data (zG.mk c.Time (rj j).E.Serial) (rj j).R) = (A ++ (⟨j.q,j.data,j.R,j.item,⟨j.it.i,c.Time,j.it.s⟩⟩ : JR) :: B).map rj := by
   simp only [mSet,tN,H.ls,List.map_append,pC];rw [List.set_append];simp [rj]
  rw [a0,pT (j := ⟨j.q,j.data,j.R,j.item,⟨j.it.i,c.Time,j.it.s⟩⟩) (by simp)];exact ⟨_,rfl,rfl,⟨H.mo,H.nw,H.nx,H.po.same hp,rfl⟩,hn.1,hn.2,hz⟩
 | canc A j B p' hk eL hj hp =>
  subst eL;have u : j ∈ A ++ j :: B := by simp
  have y : Pj.Live d.t_.p j.R j.job := (D.jl _ _).2 ⟨j,u,rfl,rfl⟩;have F : ∀ i ∈ A,i.R ≠ j.R := by
   have := D.rn;rw [List.map_append,pC] at this;obtain ⟨_,_,h3⟩ := List.nodup_append.1 this;exact fun i hi e => h3 _ (List.mem_map_of_mem (f := JR.R) hi) _ (List.mem_cons_self ..) e
  obtain ⟨m',eo,H'⟩ := fY H D.jp y hp (by omega);unfold zK;rw [k_no (by omega)];simp only [bS,cF];have z : (bif c.Kind == 2 then some (c.Kind == 2) else some (c.Kind == 3)) = some true := by rw [hk]; rfl
  rw [z];simp only [bS,cT];rw [hj,H.po.look D.jp j.R (Pj.wS D.jp y)];simp only [bS];rw [show ((0 : Int) != 0) = false from rfl,cF,gr H.ls (by omega) F (by omega)];simp only [bS];rw [show (c.Kind == 3) = true by rw [hk]; rfl,cT,eo];exact ⟨_,rfl,rfl,H',hn.1,hn.2,hz⟩
 | back hk ht =>
  unfold zK;rw [k_no (by omega)];simp only [bS,cF];rw [hk];simp only [show ((4 : Int) == 2) = false from rfl,show ((4 : Int) == 3) = false from rfl,show ((4 : Int) == 4) = true from rfl,cF,cT,bS];rw [dT ht,cT];exact ⟨_,rfl,rfl,H,hn.1,hn.2,hz⟩
 | go t hk ht ha =>
  obtain ⟨U,h1,h2⟩ := add_same hn.1 hn.2 (by omega) hc ha;unfold zK;rw [k_no (by omega)];simp only [bS,cF];rw [hk];simp only [show ((4 : Int) == 2) = false from rfl,show ((4 : Int) == 3) = false from rfl,show ((4 : Int) == 4) = true from rfl,cF,cT,bS];rw [dF ht,cF,H.nw,U];exact ⟨_,rfl,rfl,⟨H.mo,rfl,H.nx,H.po,H.ls⟩,h1,h2,hz⟩
 | idle hk hq a7 =>
  refine TI.queue (Or.inr (Or.inl hk)) hq ?_;unfold zX;refine Do.f (by rw [hk]; rfl) (Do.t (by rw [hk]; rfl) ?_);obtain ⟨b,eb,z⟩ := kN (x := c.Queue) H.ls (by omega) (f := f) (by omega);refine Do.seq eb ?_;rcases z with ⟨rfl,I⟩ | ⟨i,j,rfl,hi,S,J⟩
  ·rw [show decide ((-1 : Int) < 0) = true from rfl,cT];simp only [bS,cT];exact ⟨_,rfl,rfl,H,hn.1,hn.2,hz⟩
  ·rw [dF (by omega),cF,H.ls,pT hi];simp only [bS];have := a7 j (List.mem_of_getElem? hi) S;rw [show decide ((rj j).E.Key > m.Now) = true from dT (by rw [H.nw]; exact this),cT];exact ⟨_,rfl,rfl,H,hn.1,hn.2,hz⟩
 | fire A j B p' hk hq eL hj hle hm hp =>
  subst eL;refine TI.queue (Or.inr (Or.inl hk)) hq ?_;unfold zX;refine Do.f (by rw [hk]; rfl) (Do.t (by rw [hk]; rfl) ?_);obtain ⟨b,eb,z⟩ := kN (x := c.Queue) H.ls (by omega) (f := f) (by omega);refine Do.seq eb ?_;have u : j ∈ A ++ j :: B := by simp
  have y : Pj.Live d.t_.p j.R j.job := (D.jl _ _).2 ⟨j,u,rfl,rfl⟩;rcases z with ⟨rfl,I⟩ | ⟨i,j',rfl,hi,S,J⟩
  ·exact absurd hj (I j u)
  ·have a4 := List.mem_of_getElem? hi;have h1 := J j u hj;have h2 := hm j' a4 S;have Z : j'.it.s = j.it.s := by
    unfold bef at h1;unfold It.lt at h2;omega
   have a8 := D.items.2.2.1;have a5 : i = A.length := by
    have U : ((A ++ j :: B).map fun j => j.it.s)[i]? = some j.it.s := by rw [List.getElem?_map,hi]; simp [Z]
    have e2 : ((A ++ j :: B).map fun j => j.it.s)[A.length]? = some j.it.s := by rw [List.getElem?_map]; simp
    obtain ⟨l1,g1⟩ := List.getElem?_eq_some_iff.1 U;obtain ⟨l2,g2⟩ := List.getElem?_eq_some_iff.1 e2;have Y := List.pairwise_iff_getElem.1 a8;rcases Nat.lt_trichotomy i A.length with h | h | h
    ·exact absurd (g1.trans g2.symm) (Y _ _ l1 l2 h)
    ·exact h
    ·exact absurd (g2.trans g1.symm) (Y _ _ l2 l1 h)
   subst a5;obtain ⟨m',eo,H'⟩ := fY H D.jp y hp (by omega);have O : mIdx m.L (A.length : Int) = some (rj j) := by rw [H.ls]; exact pT (by simp)
   rw [dF (by omega),cF,O];simp only [bS];rw [show decide ((rj j).E.Key > m.Now) = false from dF (by rw [H.nw]; show ¬ j.it.k > _; omega),cF,eo];exact ⟨_,rfl,rfl,H',hn.1,hn.2,hz⟩
 | self hk hq =>
  refine TI.queue (Or.inr (Or.inr (Or.inl hk))) (Or.inl hq) ?_;unfold zX;refine Do.f (by rw [hk]; rfl) (Do.f (by rw [hk]; rfl) (Do.t (by rw [hk]; rfl) (Do.t (by rw [hq]; rfl) ?_)));exact ⟨_,rfl,rfl,H,hn.1,hn.2,hz⟩
 | merge p' hk hq hp =>
  refine TI.queue (Or.inr (Or.inr (Or.inl hk))) (Or.inr hq) ?_;unfold zX;refine Do.f (by rw [hk]; rfl) (Do.f (by rw [hk]; rfl) (Do.t (by rw [hk]; rfl) (Do.f (by rw [hq]; rfl) ?_)));have e := jK L [] m 0 f (by rw [H.ls]; rfl) (by simp; omega) (by omega) (Int.le_refl _) (Int.le_refl _);rw [show ((([] : List JR).length : Nat) : Int) = 0 from rfl] at e;refine Do.seq e ?_;refine ⟨_,rfl,?_,⟨H.mo,H.nw,H.nx,H.po.same hp,?_⟩,hn.1,hn.2,hz⟩
  ·simp [sel]
  ·show [].map rj ++ L.map (fun j => rj j.mv) = _;simp [List.map_map,Function.comp_def]
 | count hk hq =>
  refine TI.queue (Or.inr (Or.inr (Or.inr hk))) hq ?_;unfold zX;refine Do.f (by rw [hk]; rfl) (Do.f (by rw [hk]; rfl) (Do.f (by rw [hk]; rfl) ?_));rw [gw H.ls (by omega) (by omega)];exact ⟨_,rfl,rfl,H,hn.1,hn.2,hz⟩
 | unknown h =>
  unfold zK;rw [k_no (by omega)];simp only [bS,cF];rw [show (c.Kind == 2) = false by simp; omega,show (c.Kind == 3) = false by simp; omega,show (c.Kind == 4) = false by simp; omega];exact ⟨_,rfl,rfl,H,hn.1,hn.2,hz⟩
end
end
noncomputable section
set_option maxRecDepth 10000
theorem ee (r : zr) : zr.eq r r = true := by
 unfold zr.eq;rw [(uy _ _).2 rfl];simp
section
variable {N : Nat} {k : Int} {L : List JR} {T : Nat} {f : Nat} {c : zk}
theorem DI.ser {d : zb} (D : DI N k d L T) : 0 <= d.q.serial /\ d.q.serial <= T := by
 obtain ⟨h0,h1,Q,_⟩ := D.pq;exact Q.sq
theorem within (n lo hi : Int) (h : lo <= hi) (h0 : -1000000000000 <= lo) (h1 : hi <= 1000000000000) : ∃ v,yC n lo hi = some v /\ lo <= v /\ v <= hi := by
 unfold yC;cases e : (decide (n >= lo)) && (decide (n <= hi)) with
 | true =>
  rw [Bool.and_eq_true] at e;exact ⟨n,rfl,of_decide_eq_true e.1,of_decide_eq_true e.2⟩
 | false =>
  rw [cF,zV (x := hi - lo) (by omega) (by omega),zV (x := hi - lo + 1) (by omega) (by omega)];have hn : mNz (hi - lo + 1) = some () := by unfold mNz; rw [if_pos (by omega)]
  rw [hn];simp only [bS];have h2 := Int.tmod_lt_of_pos n (b := hi - lo + 1) (by omega);have h3 := Int.lt_tmod_of_pos n (b := hi - lo + 1) (by omega);by_cases hm : Int.tmod n (hi - lo + 1) < 0
  ·rw [dT hm,cT,zV (x := Int.tmod n (hi - lo + 1) + hi) (by omega) (by omega),zV (x := Int.tmod n (hi - lo + 1) + hi - lo) (by omega) (by omega),zV (x := Int.tmod n (hi - lo + 1) + hi - lo + 1) (by omega) (by omega)];simp only [bS];rw [zV (by omega) (by omega)];exact ⟨_,rfl,by omega,by omega⟩
  ·rw [dF hm,cF];simp only [bS];rw [zV (by omega) (by omega)];exact ⟨_,rfl,by omega,by omega⟩
end
def dueN (x now : Int) (L : List JR) : Nat := (L.filter fun j => j.q == x && decide (j.it.k <= now)).length
def tOk (t : Int) : Prop := -9223372036854775808 <= t /\ t <= 9223372036854775807
theorem bQ : ∀ n : Fin 11,(mIdx ([1,1,1,2,3,4,5,5,5,6,7] : List Int) (n.val : Int)).isSome = true := by decide
theorem bE {x : yo} (y : tOk x.Time /\ tOk x.Raw.Time) {told : List zd} (ht : told.length <= 1000000) : ∃ c,wV x told = some c /\ tOk c.Time := by
 unfold wV;cases U : Int.tmod x.Job 16 == 15 with
 | true => exact ⟨_,rfl,y.2⟩
 | false =>
  rw [cF];obtain ⟨a,A,a1,a2⟩ := within x.Kind 0 1048576 (by omega) (by omega) (by omega);obtain ⟨b,B,O,S⟩ := within x.Queue 0 1048576 (by omega) (by omega) (by omega);rw [A];simp only [bS];have I := Int.tmod_lt_of_pos a (b := 11) (by omega);have J := Int.tmod_nonneg 11 a1;obtain ⟨n,hn⟩ : ∃ n : Nat,Int.tmod a 11 = (n : Int) := ⟨(Int.tmod a 11).toNat,by omega⟩
  have hk := bQ ⟨n,by omega⟩;rw [hn];obtain ⟨X,e⟩ := Option.isSome_iff_exists.1 hk;simp only at e;rw [e];simp only [bS];rw [B];simp only [bS];have u : ∃ t,(bif (Int.tmod x.Data 4) != 0 then some (Int.tmod x.Time 30) else some x.Time) = some t /\ tOk t := by
   cases W : (Int.tmod x.Data 4) != 0 with
   | true =>
    have h1 := Int.tmod_lt_of_pos x.Time (b := 30) (by omega);have h2 := Int.lt_tmod_of_pos x.Time (b := 30) (by omega);exact ⟨_,rfl,by unfold tOk; omega⟩
   | false => exact ⟨_,rfl,y.1⟩
  obtain ⟨t,F,j⟩ := u;rw [F];simp only [bS];by_cases hl : (told.length : Int) > 0
  ·rw [dT hl,cT,zV (by omega) (by omega)];obtain ⟨i,D,i1,i2⟩ := within x.Job 0 ((told.length : Int) - 1) (by omega) (by omega) (by omega);rw [D];simp only [bS];obtain ⟨r,hr⟩ : ∃ r,mIdx told i = some r := by
    obtain ⟨z,rfl⟩ : ∃ z : Nat,i = (z : Int) := ⟨i.toNat,by omega⟩
    exact ⟨_,by rw [yR]; exact List.getElem?_eq_getElem (by omega)⟩
   rw [hr];exact ⟨_,rfl,j⟩
  ·rw [dF hl,cF];exact ⟨_,rfl,j⟩
section
variable {N : Nat} {L L' : List JR} {c : zk} {p p' : zg} {s s' now now' : Int} {rep : zr}
theorem how5 (h : How N p s now L c rep p' s' now' L') (hk : c.Kind = 5) (hq : c.Queue = 0 \/ c.Queue = 1) : now' = now /\
  ((rep = no 28 /\ L' = L /\ ∀ j ∈ L,j.q = c.Queue -> now < j.it.k) \/ ∃ A j B,rep = zr.mk 0 j.R j.it.k j.data 0 /\ L = A ++ j :: B /\ L' = A ++ B /\ j.q = c.Queue /\ j.it.k <= now /\ ∀ i ∈ L,i.q = c.Queue -> ¬ i.it.lt j.it) := by
 cases h with
 | idle _ _ hn => exact ⟨rfl,Or.inl ⟨rfl,rfl,hn⟩⟩
 | fire A j B _ _ _ eL hj hn hm _ => exact ⟨rfl,Or.inr ⟨A,j,B,rfl,eL,rfl,hj,hn,hm⟩⟩
 | bad _ e => exact absurd hq e
 | _ => omega
end
inductive Ran (N : Nat) (k : Int) : zb -> List JR -> Nat -> List zk -> List zr -> zb -> List JR -> Nat -> Prop
 | nil {d : zb} {L : List JR} {T : Nat} (D : DI N k d L T) : Ran N k d L T [] [] d L T
 | cons {d d1 d' : zb} {L L1 L' : List JR} {T T' : Nat} {c : zk} {cs : List zk} {rep : zr} {reps : List zr} (D : DI N k d L T) (G : Went N k d L T c rep d1 L1) (h : Ran N k d1 L1 (T + 1) cs reps d' L' T') : Ran N k d L T (c :: cs) (rep :: reps) d' L' T'
section
variable {N : Nat} {k : Int}
theorem Ran.last {d d' : zb} {L L' : List JR} {T T' : Nat} {cs : List zk} {reps : List zr} (h : Ran N k d L T cs reps d' L' T') : DI N k d' L' T' /\ T' = T + cs.length /\ reps.length = cs.length := by
 induction h with
 | nil D => exact ⟨D,rfl,rfl⟩
 | cons D G h ih => exact ⟨ih.1,by rw [ih.2.1]; simp; omega,by simp [ih.2.2]⟩
theorem dU {x now : Int} {A B : List JR} {j : JR} : dueN x now (A ++ j :: B) = dueN x now (A ++ B) + (if (j.q == x && decide (j.it.k <= now)) = true then 1 else 0) := by
 unfold dueN;rw [List.filter_append,List.filter_append,List.filter_cons];split <;> simp <;> omega
end
structure Side (N : Nat) (k : Int) (d : zb) (L : List JR) (T : Nat) (m : zc) : Prop where
 di : DI N k d L T
 ti : TI N d.t_.p d.q.serial d.clock.now L m
 nw : 0 <= d.clock.now /\ d.clock.now <= 9223372036854775807
section
variable {N : Nat} {k : Int} {d : zb} {L : List JR} {T : Nat} {m : zc} {f : Nat}
theorem Side.do (S : Side N k d L T m) (t : T < 1000000) (hf : 95000 < f) {c : zk} (z : c.Time <= 9223372036854775807) :
  ∃ rep d' j L',yP f d c = some (rep,d') /\ zK f m c = some (rep,j) /\ Side N k d' L' (T + 1) j := by
 obtain ⟨⟨rep,d'⟩,x,L',G⟩ := S.di.do t hf c
 obtain ⟨⟨e,j⟩,y,h2,u,A,B,s1,s2⟩ := TI.do S.di t S.ti S.nw (by have := S.di.ser; omega) z hf G.how
 simp only at h2 G;subst h2;exact ⟨e,d',j,L',x,y,G.di,u,A,B⟩
end
section
variable {N : Nat} {L L' : List JR} {c : zk} {p p' : zg} {s s' now now' : Int} {rep : zr}
end
end
noncomputable section
set_option maxRecDepth 10000
theorem cE {n : Nat} (hn : n <= 100) : ∀ (r i e : Nat) (d : zh),i + r = n -> d.l.length = n -> r < e ->
  Do (zI (n : Int) e (i : Int) d) fun s => (∃ c y d',s = .inl (c,y,true,d') /\ d'.l.length = n) \/ ∃ d',s = .inr d' /\ d'.l.length = n
 | 0,i,e,d,h1,h2,h3 => by
  obtain ⟨f,rfl⟩ : ∃ f,e = f + 1 := ⟨e - 1,by omega⟩
  unfold zI;refine Do.f (dF (by omega)) ?_;exact ⟨_,rfl,Or.inr ⟨d,rfl,h2⟩⟩
 | r + 1,i,e,d,h1,h2,h3 => by
  obtain ⟨f,rfl⟩ : ∃ f,e = f + 1 := ⟨e - 1,by omega⟩
  unfold zI;refine Do.t (dT (by omega)) ?_;obtain ⟨b,j⟩ : ∃ b,d.l[i]? = some b := ⟨_,List.getElem?_eq_getElem (by omega)⟩
  rw [yR,j];simp only [bS];unfold yY;cases hu : MCh.buf b.c_ with
  | nil =>
   simp only [bS,cF];rw [zV (by omega) (by omega)];have ih := cE hn r (i + 1) f (zh.mk (mSet d.l (i : Int) b)) (by omega) (by simp [mSet,h2]) (by omega);rw [show ((i + 1 : Nat) : Int) = (i : Int) + 1 by simp] at ih;exact ih
  | cons u r1 =>
   simp only [bS,cT];exact ⟨_,rfl,Or.inl ⟨u,i,_,rfl,by simp [mSet,h2]⟩⟩
inductive Chn (N : Nat) (k : Int) : zb -> List JR -> Nat -> List zM -> zb -> List JR -> Nat -> Prop
 | nil {d : zb} {L : List JR} {T : Nat} : Chn N k d L T [] d L T
 | cons {d d1 d' : zb} {L L1 L' : List JR} {T T' : Nat} {e : zM} {es : List zM} (D : DI N k d L T) (G : Went N k d L T e.Command e.Reply d1 L1) (hn : e.Now = d1.clock.now) (hs : 0 <= e.Steps) (ht : e.Command.Time <= 9223372036854775807) (h : Chn N k d1 L1 (T + 1) es d' L' T') : Chn N k d L T (e :: es) d' L' T'
theorem Chn.trans {N : Nat} {k : Int} {d d1 d2 : zb} {L L1 L2 : List JR} {T e j : Nat} {A B : List zM} (h : Chn N k d L T A d1 L1 e) (t : Chn N k d1 L1 e B d2 L2 j) : Chn N k d L T (A ++ B) d2 L2 j := by
 induction h with
 | nil => exact t
 | cons D G hn hs ht h ih => exact .cons D G hn hs ht (ih t)
structure BI (N : Nat) (k : Int) (n : Nat) (b : yf) (L : List JR) (T : Nat) : Prop where
 di : DI N k b.s.d L T
 bx : b.s.desk.l.length = n
 nb : n <= 100
 ev : b.l.length <= T
section
variable {N n : Nat} {k : Int} {b : yf} {L : List JR} {T f : Nat}
theorem BI.len (B : BI N k n b L T) : L.length <= 60 := by
 have h1 := B.di.items.2.1;have h2 := B.di.nb;omega
theorem BI.one (B : BI N k n b L T) (t : T < 900000) (hf : 95000 < f) (c : zk) {k2 : List zf} (hk : k2.length = n) :
  ∃ rep d' L',yP f b.s.d c = some (rep,d') /\ um (yf.mk (zi.mk d' (zh.mk k2)) b.l) c rep = some (rep,yf.mk (zi.mk d' (zh.mk k2)) (b.l ++ [zM.mk c rep d'.clock.now d'.last])) /\
   BI N k n (yf.mk (zi.mk d' (zh.mk k2)) (b.l ++ [zM.mk c rep d'.clock.now d'.last])) L' (T + 1) /\ Went N k b.s.d L T c rep d' L' /\ (c.Time <= 9223372036854775807 -> Chn N k b.s.d L T [zM.mk c rep d'.clock.now d'.last] d' L' (T + 1)) := by
 obtain ⟨⟨rep,d'⟩,e,L',G⟩ := B.di.do (f := f) (by omega) hf c
 have j := B.ev;refine ⟨rep,d',L',e,?_,⟨G.di,hk,B.nb,by simp; omega⟩,G,fun ht => .cons B.di G rfl G.di.la.1 ht .nil⟩;unfold um zD yJ uc yD;simp only [bS];rw [xh (by simp; omega)]
 rfl
theorem BI.drain (hf : 95000 < f) : ∀ (r x : Nat) (m : Nat) {b : yf} {L : List JR} {T : Nat},BI N k n b L T -> T < 800000 + x -> dueN 0 b.s.d.clock.now L = r -> x + r < 4000 -> f + r < m ->
  ∃ u L' T',wW m (x : Int) (x : Int) b = some (((x + r : Nat) : Int),u) /\ BI N k n u L' T' /\ T' = T + r + 1 /\ u.s.d.clock.now = b.s.d.clock.now /\ dueN 0 b.s.d.clock.now L' = 0 /\ u.s.desk = b.s.desk /\ ∃ es,u.l = b.l ++ es /\ es.length = r + 1 /\ Chn N k b.s.d L T es u.s.d L' T'
 | 0,x,m,b,L,T,B,Y,hr,Z,hm => by
  obtain ⟨m,rfl⟩ : ∃ q,m = q + 1 := ⟨m - 1,by omega⟩
  obtain ⟨rep,d',L',I,J,F,G,hC⟩ := B.one (f := m) (by omega) (by omega) (zk.mk 5 0 (zd.mk 0 0) 0 0) (k2 := b.s.desk.l) B.bx;obtain ⟨t,hh⟩ := how5 G.how rfl (Or.inl rfl);simp only at hh;have hw : (rep.Why != 0) = true /\ L' = L := by
   rcases hh with ⟨rfl,rfl,D⟩ | ⟨A,j,R,rfl,rfl,rfl,z,y,hm⟩
   ·exact ⟨rfl,rfl⟩
   ·have hd := dU (x := 0) (now := b.s.d.clock.now) (A := A) (B := R) (j := j);rw [if_pos (by rw [z,dT y]; simp)] at hd;omega
  obtain ⟨hw,rfl⟩ := hw;refine ⟨_,L',T + 1,?_,F,rfl,t,hr,rfl,_,rfl,rfl,hC (by show (0 : Int) <= _; omega)⟩;unfold wW xo;rw [dT (by omega),cT,I];simp only [bS];rw [show (zi.mk d' b.s.desk) = zi.mk d' (zh.mk b.s.desk.l) from rfl,J];simp only [bS];rw [hw,cT]
  rfl
 | r + 1,x,m,b,L,T,B,Y,hr,Z,hm => by
  obtain ⟨m,rfl⟩ : ∃ q,m = q + 1 := ⟨m - 1,by omega⟩
  obtain ⟨rep,d',L',I,J,F,G,hC⟩ := B.one (f := m) (by omega) (by omega) (zk.mk 5 0 (zd.mk 0 0) 0 0) (k2 := b.s.desk.l) B.bx;obtain ⟨t,hh⟩ := how5 G.how rfl (Or.inl rfl);simp only at hh;have hw : (rep.Why != 0) = false /\ dueN 0 b.s.d.clock.now L' = r := by
   rcases hh with ⟨_,_,D⟩ | ⟨A,j,R,rfl,rfl,rfl,z,y,hm⟩
   ·have : dueN 0 b.s.d.clock.now L = 0 := by
     unfold dueN;rw [List.filter_eq_nil_iff.2 (fun j hj => ?_)]; rfl;intro e;rw [Bool.and_eq_true,beq_iff_eq] at e;have := D j hj e.1;have := of_decide_eq_true e.2;omega
    omega
   ·have hd := dU (x := 0) (now := b.s.d.clock.now) (A := A) (B := R) (j := j);rw [if_pos (by rw [z,dT y]; simp)] at hd;exact ⟨rfl,by omega⟩
  obtain ⟨hw,hd⟩ := hw;obtain ⟨u,L2,X,O,W,q1,q2,q3,S,es,q4,q6,U⟩ := BI.drain hf r (x + 1) m F (by omega) (by simp only; rw [t]; exact hd) (by omega) (by omega);simp only at q2 q3 q4 S U;rw [t] at q2 q3;refine ⟨u,L2,X,?_,W,by omega,q2,q3,S,zM.mk (zk.mk 5 0 (zd.mk 0 0) 0 0) rep d'.clock.now d'.last :: es,by rw [q4]; simp,by simp [q6],(hC (by show (0 : Int) <= _; omega)).trans U⟩;unfold wW xo;rw [dT (by omega),cT,I];simp only [bS];rw [show (zi.mk d' b.s.desk) = zi.mk d' (zh.mk b.s.desk.l) from rfl,J];simp only [bS];rw [hw,cF,zV (by omega) (by omega)];rw [show ((x + 1 : Nat) : Int) = (x : Int) + 1 by simp] at O;rw [O];rw [show x + 1 + r = x + (r + 1) by omega]
theorem BI.act (B : BI N k n b L T) (J : T < 700000) (hf : 96000 < f) (x : wI) : Do (pX f b x) fun res => ∃ L' T',BI N k n res.2 L' T' /\ T' <= T + 62 := by
 have e := B.bx;have j := B.nb;unfold pX;refine Do.if (fun h1 => ?_) (fun h1 => ?_)
 ·unfold yw xu;by_cases h : x.Box < 0 \/ x.Box >= (b.s.desk.l.length : Int)
  ·have hs : (bif decide (x.Box < 0) then some true else some (decide (x.Box >= (b.s.desk.l.length : Int)))) = some true := by
    by_cases h0 : x.Box < 0
    ·rw [dT h0,cT]
    ·rw [dF h0,cF,dT (by omega)]
   rw [hs];simp only [bS,cT];exact ⟨_,rfl,L,T,⟨B.di,e,j,B.ev⟩,by omega⟩
  ·have hs : (bif decide (x.Box < 0) then some true else some (decide (x.Box >= (b.s.desk.l.length : Int)))) = some false := by
    rw [dF (by omega),cF,dF (by omega)]
   rw [hs];simp only [bS,cF];obtain ⟨i,hi⟩ : ∃ i : Nat,x.Box = (i : Int) := ⟨x.Box.toNat,by omega⟩
   obtain ⟨y,F⟩ : ∃ y,b.s.desk.l[i]? = some y := ⟨_,List.getElem?_eq_getElem (by omega)⟩
   rw [hi,yR,F];simp only [bS];unfold xz;cases MCh.room y.c_ with
   | true =>
    simp only [cT,bS];exact ⟨_,rfl,L,T,⟨B.di,by simp [mSet,e],j,B.ev⟩,by omega⟩
   | false =>
    simp only [cF,bS];exact ⟨_,rfl,L,T,⟨B.di,by simp [mSet,e],j,B.ev⟩,by omega⟩
 ·refine Do.if (fun h2 => ?_) (fun h2 => ?_)
  ·unfold ye yU;obtain ⟨s,es,hs⟩ := cE j n 0 f b.s.desk (by omega) e (by omega);rw [show ((0 : Nat) : Int) = 0 from rfl] at es;rw [e,es];rcases hs with ⟨c,y,d',rfl,hd⟩ | ⟨d',rfl,hd⟩
   ·simp only [bS];obtain ⟨rep,A,L',t,z,u,G,_⟩ := B.one (f := f) (by omega) (by omega) c (k2 := d'.l) hd;rw [show (!true) = false from rfl,cF,t];simp only [bS];rw [show (!true) = false from rfl,cF];refine Do.seq z ?_;exact ⟨_,rfl,L',T + 1,u,by omega⟩
   ·simp only [bS];rw [show (!false) = true from rfl,cT];simp only [bS];rw [show (!false) = true from rfl,cT];exact ⟨_,rfl,L,T,⟨B.di,hd,j,B.ev⟩,by omega⟩
  ·refine Do.if (fun h3 => ?_) (fun h3 => ?_)
   ·unfold xo;obtain ⟨rep,A,L',t,z,u,G,_⟩ := B.one (f := f) (by omega) (by omega) x.Command (k2 := b.s.desk.l) e;rw [t];simp only [bS];refine Do.seq z ?_;exact ⟨_,rfl,L',T + 1,u,by omega⟩
   ·refine Do.if (fun h4 => ?_) (fun h4 => ?_)
    ·have hl := B.len;have D : dueN 0 b.s.d.clock.now L <= L.length := List.length_filter_le _ _;obtain ⟨I,L',T',t,u,q1,_⟩ := BI.drain (f := 95001) (by omega) (dueN 0 b.s.d.clock.now L) 0 f B (by omega) rfl (by omega) (by omega);rw [show ((0 : Nat) : Int) = 0 from rfl] at t;unfold qE;rw [t];exact ⟨_,rfl,L',T',u,by omega⟩
    ·exact ⟨_,rfl,L,T,B,by omega⟩
end
end
noncomputable section
set_option maxRecDepth 10000
def wtL (l : List zf) : Nat := (l.map fun b => b.c_.buf.length).sum
theorem qz (A B : List zf) : wtL (A ++ B) = wtL A + wtL B := by simp [wtL]
theorem sI (b : zf) (B : List zf) : wtL (b :: B) = b.c_.buf.length + wtL B := by simp [wtL]
theorem aJ {p q : List zf} {x y : zf} : mSet (p ++ x :: q) (p.length : Int) y = p ++ y :: q := si p q x y
theorem ay {l : List zf} (hl : l.length <= 100) (hw : wtL l <= 1000000) : ∀ (rest pre : List zf) (f : Nat),l = pre ++ rest -> rest.length < f -> yq (l.length : Int) (zh.mk l) f (wtL pre : Int) (pre.length : Int) = some (wtL l : Int)
 | [],pre,f + 1,e,hf => by
  unfold yq;rw [dF (by rw [e]; simp),cF,e,aN]
 | y :: rest,pre,f + 1,e,hf => by
  have hlen : l.length = pre.length + (rest.length + 1) := by rw [e]; simp
  have t : wtL l = wtL pre + (y.c_.buf.length + wtL rest) := by rw [e,qz,sI]
  simp only [lC] at hf;have j : mIdx l (pre.length : Int) = some y := by rw [e]; exact yv pre rest y
  have ih := ay hl hw rest (pre ++ [y]) f (by rw [e]; simp) (by omega);rw [show ((pre ++ [y]).length : Int) = (pre.length : Int) + 1 by simp,show (wtL (pre ++ [y]) : Int) = (wtL pre : Int) + (y.c_.buf.length : Int) by rw [qz]; simp [wtL]] at ih;unfold yq;rw [dT (by omega),cT];simp only;rw [j];simp only [bS];unfold wD;simp only [bS];rw [zV (by omega) (by omega),zV (by omega) (by omega)];exact ih
theorem dd {s : zi} {f : Nat} (hf : 1000 < f) (hl : s.desk.l.length <= 100) (hw : wtL s.desk.l <= 1000000) : xG f s = some (wtL s.desk.l : Int) := by
 have h := ay hl hw s.desk.l [] f rfl (by omega);rw [show ((([] : List zf).length : Nat) : Int) = 0 from rfl,show ((wtL [] : Nat) : Int) = 0 from rfl] at h;unfold xG wg;rw [show s.desk = zh.mk s.desk.l from rfl,h]
 rfl
theorem iB {l : List zf} (hl : l.length <= 100) : ∀ (rest pre : List zf) (f : Nat),l = pre ++ rest -> rest.length < f ->
  (wtL rest = 0 /\ zI (l.length : Int) f (pre.length : Int) (zh.mk l) = some (.inr (zh.mk l))) \/
  ∃ A b u r1 B y,rest = A ++ b :: B /\ (∀ a ∈ A,a.c_.buf = []) /\ b.c_.buf = u :: r1 /\ zI (l.length : Int) f (pre.length : Int) (zh.mk l) = some (.inl (u,y,true,zh.mk (pre ++ A ++ zf.mk (MCh.rest b.c_ r1) :: B)))
 | [],pre,f + 1,e,hf => by
  refine Or.inl ⟨rfl,?_⟩;unfold zI;rw [dF (by rw [e]; simp),cF]
 | y :: rest,pre,f + 1,e,hf => by
  have hlen : l.length = pre.length + (rest.length + 1) := by rw [e]; simp
  simp only [lC] at hf;have t : mIdx l (pre.length : Int) = some y := by rw [e]; exact yv pre rest y
  cases hu : MCh.buf y.c_ with
  | nil =>
   have j : zI (l.length : Int) (f + 1) (pre.length : Int) (zh.mk l) = zI (l.length : Int) f ((pre.length : Int) + 1) (zh.mk l) := by
    conv => lhs; unfold zI
    rw [dT (by omega),cT];simp only;rw [t];simp only [bS];unfold yY;rw [hu];simp only [bS,cF];rw [zV (by omega) (by omega)];congr 2;rw [e,aJ]
   rcases iB hl rest (pre ++ [y]) f (by rw [e]; simp) (by omega) with ⟨h1,h2⟩ | ⟨A,b,u,r1,B,z,h1,h0,h2,h3⟩
   ·rw [show ((pre ++ [y]).length : Int) = (pre.length : Int) + 1 by simp] at h2;exact Or.inl ⟨by rw [sI,hu,h1]; rfl,by rw [j]; exact h2⟩
   ·rw [show ((pre ++ [y]).length : Int) = (pre.length : Int) + 1 by simp] at h3;refine Or.inr ⟨y :: A,b,u,r1,B,z,by rw [h1]; rfl,fun a ha => by
     rcases List.mem_cons.1 ha with rfl | ha
     ·exact hu
     ·exact h0 a ha,h2,?_⟩
    rw [j,h3];simp
  | cons u r1 =>
   refine Or.inr ⟨[],y,u,r1,rest,(pre.length : Int),rfl,by simp,hu,?_⟩;unfold zI;rw [dT (by omega),cT];simp only;rw [t];simp only [bS];unfold yY;rw [hu];simp only [bS,cT];rw [aN,e,aJ]
theorem BA (c : zk) : zk.eq c c = true := by
 unfold zk.eq;rw [(uy _ _).2 rfl];simp
end
noncomputable section
set_option maxRecDepth 10000
theorem dR {room : Int} {b0 : zf} (j : xq room = some b0) {x1 : Nat} (t : x1 <= 100) : ∀ (r i e : Nat),i + r = x1 -> r < e -> yi room (x1 : Int) e (i : Int) (zh.mk (List.replicate i b0)) = some (zh.mk (List.replicate (i + r) b0))
 | 0,i,e,h1,h2 => by
  obtain ⟨f,rfl⟩ : ∃ f,e = f + 1 := ⟨e - 1,by omega⟩
  unfold yi;rw [dF (by omega),cF]
  rfl
 | r + 1,i,e,h1,h2 => by
  obtain ⟨f,rfl⟩ : ∃ f,e = f + 1 := ⟨e - 1,by omega⟩
  have ih := dR j t r (i + 1) f (by omega) (by omega);rw [show ((i + 1 : Nat) : Int) = (i : Int) + 1 by simp,show i + 1 + r = i + (r + 1) by omega] at ih;unfold yi;rw [dT (by omega),cT,j];simp only [bS];rw [xh (by simp; omega)];simp only [bS];rw [zV (by omega) (by omega),<- List.replicate_succ'];exact ih
theorem bJ {f : Nat} (hf : 200 < f) {n : Nat} (hn : 1 <= n /\ n <= 4) {room : Nat} (hr : 1 <= room /\ room <= 100) : xj f (n : Int) (room : Int) = some (zh.mk (List.replicate n (zf.mk ⟨room,[]⟩))) := by
 have t : xq (room : Int) = some (zf.mk ⟨room,[]⟩) := by
  unfold xq bV;rw [show (if 4096 < (room : Int) then 4096 else (room : Int)) = (room : Int) from if_neg (by omega)];have : (if (room : Int) > 1 then (room : Int) else 1) = (room : Int) := by split <;> omega
  rw [this,if_pos (by omega)]
  rfl
 have h := dR t (x1 := n) (by omega) n 0 f (by omega) (by omega);rw [show ((0 : Nat) : Int) = 0 from rfl,Nat.zero_add] at h;unfold xj;have e : (if 4 < (n : Int) then 4 else (n : Int)) = (n : Int) := if_neg (by omega);have j : (if (n : Int) > 1 then (n : Int) else 1) = (n : Int) := by split <;> omega
 rw [e,j];show ((yi (room : Int) (n : Int) f 0 (zh.mk (List.replicate 0 (zf.mk ⟨room,[]⟩)))).bind fun s => some s) = _;rw [h]
 rfl
def buf (b : zf) : List zk := b.c_.buf
structure SV (N : Nat) (k : Int) (n most : Nat) (s : zi) (L : List JR) (T : Nat) (m : zc) : Prop where
 sd : Side N k s.d L T m
 ln : s.desk.l.length = n
 nb : n <= 4
 cp : ∀ b ∈ s.desk.l,b.c_.cap = most
 bt : ∀ b ∈ s.desk.l,∀ c ∈ b.c_.buf,c.Time <= 9223372036854775807
section
variable {n most i : Int} {va vb vc vd ve vf : Int} {told : List zd} {ins : List (List zk)} {m : zc} {s : zi} {l : List zw}
theorem AL (hn : n = ins.length) (D : ins.length <= 100) : ∀ (P pre R : List (List zk)) (j : Nat),ins = pre ++ (P ++ R) -> (∀ x ∈ P,x = []) -> (R = [] \/ ∃ y u,R = y :: u /\ y ≠ []) -> P.length < j ->
  xf n most i va vb vc vd ve vf told ins m s l j (pre.length : Int) = some ((pre.length + P.length : Nat) : Int)
 | [],pre,R,j,e,z,A,hf => by
  obtain ⟨f,rfl⟩ : ∃ f,j = f + 1 := ⟨j - 1,by omega⟩
  unfold xf;rcases A with rfl | ⟨y,u,rfl,B⟩
  ·rw [dF (by rw [hn,e]; simp),cF]
   rfl
  ·have t : mIdx ins (pre.length : Int) = some y := by rw [e]; exact yv pre u y
   have hlen : ins.length = pre.length + (u.length + 1) := by rw [e]; simp
   rw [dT (by omega),cT,t];simp only [bS];rw [show ((y.length : Int) == 0) = false by
    rw [beq_eq_false_iff_ne];intro h;exact B (List.eq_nil_of_length_eq_zero (by omega)),cF]
   rfl
 | x :: P,pre,R,j,e,z,A,hf => by
  obtain ⟨f,rfl⟩ : ∃ f,j = f + 1 := ⟨j - 1,by omega⟩
  have hlen : ins.length = pre.length + (P.length + 1 + R.length) := by rw [e]; simp; omega
  simp only [lC] at hf;have F : x = [] := z x (List.mem_cons_self ..);have t : mIdx ins (pre.length : Int) = some x := by rw [e]; exact yv pre (P ++ R) x
  have ih := AL hn D P (pre ++ [x]) R f (by rw [e]; simp) (fun y B => z y (mC _ B)) A (by omega);rw [show ((pre ++ [x]).length : Int) = (pre.length : Int) + 1 by simp] at ih;unfold xf;rw [dT (by omega),cT,t];simp only [bS];rw [F,show ((([] : List zk).length : Int) == 0) = true from rfl,cT,zV (by omega) (by omega),ih];simp; omega
theorem BP (hn : n = ins.length) (x : ins.length <= 100) (hs : (ins.map List.length).sum <= 1000000) : ∀ (rest pre : List (List zk)) (j : Nat),ins = pre ++ rest -> rest.length < j ->
  yj n most i told ins m s l j (((pre.map List.length).sum : Nat) : Int) (pre.length : Int) = some (((ins.map List.length).sum : Nat) : Int)
 | [],pre,j,e,hf => by
  obtain ⟨f,rfl⟩ : ∃ f,j = f + 1 := ⟨j - 1,by omega⟩
  unfold yj;rw [dF (by rw [hn,e]; simp),cF,e,aN]
 | y :: rest,pre,j,e,hf => by
  obtain ⟨f,rfl⟩ : ∃ f,j = f + 1 := ⟨j - 1,by omega⟩
  have hlen : ins.length = pre.length + (rest.length + 1) := by rw [e]; simp
  have u : (ins.map List.length).sum = (pre.map List.length).sum + (y.length + (rest.map List.length).sum) := by rw [e]; simp
  simp only [lC] at hf;have t : mIdx ins (pre.length : Int) = some y := by rw [e]; exact yv pre rest y
  have ih := BP hn x hs rest (pre ++ [y]) f (by rw [e]; simp) (by omega);rw [show ((pre ++ [y]).length : Int) = (pre.length : Int) + 1 by simp,show ((((pre ++ [y]).map List.length).sum : Nat) : Int) = (((pre.map List.length).sum : Nat) : Int) + (y.length : Int) by simp] at ih;unfold yj;rw [dT (by omega),cT,t];simp only [bS];rw [zV (by omega) (by omega),zV (by omega) (by omega)];exact ih
end
theorem bg (l : List zf) : ((l.map buf).map List.length).sum = wtL l := by
 unfold wtL;rw [List.map_map]
 rfl
section
variable {N : Nat} {k : Int} {n most : Nat} {s : zi} {L : List JR} {T f : Nat} {m : zc}
theorem SV.chk (V : SV N k n most s L T m) (hw : wtL s.desk.l <= 1000) (hf : 1000 < f) (i : Int) (told : List zd) (l : List zw) :
  yj (n : Int) (most : Int) i told (s.desk.l.map buf) m s l f 0 0 = some (wtL s.desk.l : Int) /\
  ((xG f s).bind fun e => (bif e != (wtL s.desk.l : Int) then some true else (zD s).bind fun z => (yJ s.d).bind fun j => (bif j != m.Now then some true else (zD s).bind fun A => (yI s.d).bind fun t => (bif t != (m.L.length : Int) then some true else (zD s).bind fun B => (yD s.d).bind fun u => (zD s).bind fun D => (yT s.d).bind fun x => some (decide (u > x)))))) = some false := by
 have y := V.ln;have F := V.nb;have h2 := BP (n := (n : Int)) (most := (most : Int)) (i := i) (told := told) (ins := s.desk.l.map buf) (m := m) (s := s) (l := l) (by rw [lM,y]) (by rw [lM]; omega) (by rw [bg]; omega) (s.desk.l.map buf) [] f rfl (by rw [lM]; omega);rw [bg] at h2;refine ⟨h2,?_⟩;rw [dd (by omega) (by omega) (by omega)];simp only [bS];rw [show ((wtL s.desk.l : Int) != (wtL s.desk.l : Int)) = false by simp,cF];unfold zD yJ uc yI uD yD yT;simp only [bS];rw [fN V.sd.di];simp only [bS];rw [show (s.d.clock.now != m.Now) = false by rw [V.sd.ti.nw]; simp,cF,show ((L.length : Int) != (m.L.length : Int)) = false by rw [V.sd.ti.ls,lM]; simp,cF,dF (by have := V.sd.di.la; omega)]
theorem tell {told : List zd} {c : Bool} {r : zd} (h : told.length <= 1000) : ∃ t,(bif c then (mApp told ([r] : List zd)).bind fun l => some l else some told) = some t /\ t.length <= told.length + 1 := by
 cases c with
 | true =>
  rw [cT,xh (by simp; omega)];exact ⟨_,rfl,by simp⟩
 | false => exact ⟨_,rfl,by omega⟩
theorem Cg {l : List zw} (hl : ∀ z ∈ l,fm zw.enc z) : ∀ (r i f' : Nat) (told : List zd) (m : zc) (s : zi) (L : List JR) (T : Nat),90 <= i + r -> 95001 + r < f' -> i <= 90 -> SV N k n most s L T m -> T <= 2 + i -> told.length <= i -> wtL s.desk.l <= i ->
  Do (yS (n : Int) (most : Int) l f' told (i : Int) (s.desk.l.map buf) m s) fun o => ∃ q,o = .inr q
 | 0,i,f',told,m,s,L,T,h1,h2,h3,V,hT,ht,hw => by
  obtain ⟨f,rfl⟩ : ∃ f,f' = f + 1 := ⟨f' - 1,by omega⟩
  unfold yS;refine Do.f (by rw [dF (p := (i : Int) < 90) (by omega),Bool.and_false]) ?_;exact ⟨_,rfl,_,rfl⟩
 | r + 1,i,f',told,m,s,L,T,h1,h2,h3,V,hT,ht,hw => by
  obtain ⟨f,rfl⟩ : ∃ f,f' = f + 1 := ⟨f' - 1,by omega⟩
  unfold yS;refine Do.if (fun e => ?_) (fun e => ⟨_,rfl,_,rfl⟩)
  rw [Bool.and_eq_true] at e;have e1 := of_decide_eq_true e.1;have e2 := of_decide_eq_true e.2;have F := V.ln;have Z := V.nb;obtain ⟨x,hx⟩ : ∃ x,l[i]? = some x := ⟨_,List.getElem?_eq_getElem (by omega)⟩
  have d0 := List.mem_of_getElem? hx;have a4 : mIdx l (i : Int) = some x := by rw [yR]; exact hx
  have b4 := hl x d0;have q1 := b4 x.D.Time (by simp [zw.enc]);have q2 := b4 x.D.Raw.Time (by simp [zw.enc]);unfold I64 at q1 q2;obtain ⟨c,ec,hc⟩ := bE (x := x.D) ⟨by unfold tOk; omega,by unfold tOk; omega⟩ (told := told) (by omega);have cont : ∀ (t : List zd) (X : zc) (s' : zi) (L' : List JR) (T' : Nat),SV N k n most s' L' T' X -> T' <= 2 + (i + 1) -> t.length <= i + 1 -> wtL s'.desk.l <= i + 1 ->
    Do (yS (n : Int) (most : Int) l f t (w64 ((i : Int) + 1)) (s'.desk.l.map buf) X s') fun o => ∃ q,o = .inr q := by
   intro t X s' L' T' W c2 c8 b3;have ih := Cg hl r (i + 1) f t X s' L' T' (by omega) (by omega) (by omega) W c2 c8 b3;rw [show ((i + 1 : Nat) : Int) = (i : Int) + 1 by simp] at ih;rw [zV (by omega) (by omega)];exact ih
  have a2 : ∃ b,(bif x.Kind == 4 then some (x.Kind == 4) else (bif x.Kind == 5 then some (x.Kind == 5) else (bif x.Kind == 6 then some (x.Kind == 6) else some (x.Kind == 7)))) = some b := by
   cases x.Kind == 4 <;> cases x.Kind == 5 <;> cases x.Kind == 6 <;> exact ⟨_,rfl⟩
  obtain ⟨b5,a2⟩ := a2;refine Do.assoc (Do.seq a4 (Do.assoc (Do.seq ec (Do.assoc (Do.seq a4 (Do.assoc (Do.seq a2 ?_)))))));cases b5 with
  | true =>
   have b0 := iB (l := s.desk.l) (by omega) s.desk.l [] f rfl (by omega);rw [show ((([] : List zf).length : Nat) : Int) = 0 from rfl,show zh.mk s.desk.l = s.desk from rfl] at b0;rcases b0 with ⟨a3,en⟩ | ⟨A,y,u,r1,R,z,U,hA,hu,en⟩
   ·have a6 : ∀ b ∈ s.desk.l.map buf,b = [] := by
     revert a3
     generalize s.desk.l = q;intro a3 b I;obtain ⟨b',c3,rfl⟩ := List.mem_map.1 I;obtain ⟨P,Q,rfl⟩ := List.append_of_mem c3;rw [qz,sI] at a3;exact List.eq_nil_of_length_eq_zero (by unfold buf; omega)
    have Y := AL (n := (n : Int)) (most := (most : Int)) (i := (i : Int)) (va := c.Kind) (vb := c.Queue) (vc := c.Job.At) (vd := c.Job.Gen) (ve := c.Time) (vf := c.Data) (told := told) (ins := s.desk.l.map buf) (m := m) (s := s) (l := l) (by rw [lM,F]) (by rw [lM]; omega) (s.desk.l.map buf) [] [] f (by simp) a6 (Or.inl rfl) (by rw [lM]; omega);have eS : ye f s = some (zr.mk 0 (zd.mk 0 0) 0 0 0,zk.mk 0 0 (zd.mk 0 0) 0 0,false,s) := by
     unfold ye yU;rw [en]
     rfl
    refine Do.tb rfl (Do.assoc (Do.seq Y (Do.assoc (Do.seq eS (Do.assoc (Do.seq (r := false) ?_ (Do.fb rfl (Do.tb rfl ?_))))))))
    ·rw [show decide (((([] : List (List zk)).length + (s.desk.l.map buf).length : Nat) : Int) < (n : Int)) = false from dF (by rw [lM,F]; simp)]
     rfl
    ·exact cont told m s L T V (by omega) (by omega) (by omega)
   ·have a1 : (s.desk.l.map buf) = [] ++ (A.map buf ++ (u :: r1) :: R.map buf) := by rw [U]; simp [buf,hu]
    have Y := AL (n := (n : Int)) (most := (most : Int)) (i := (i : Int)) (va := c.Kind) (vb := c.Queue) (vc := c.Job.At) (vd := c.Job.Gen) (ve := c.Time) (vf := c.Data) (told := told) (ins := s.desk.l.map buf) (m := m) (s := s) (l := l) (by rw [lM,F]) (by rw [lM]; omega) (A.map buf) [] ((u :: r1) :: R.map buf) f a1 (by
     intro b I;obtain ⟨a,ha,rfl⟩ := List.mem_map.1 I;exact hA a ha) (Or.inr ⟨_,_,rfl,by simp⟩) (by rw [U] at F; simp at F; rw [lM]; omega)
    have c9 : u.Time <= 9223372036854775807 := V.bt y (by rw [U]; simp) u (by rw [hu]; simp);obtain ⟨rep,d',X,L',ed,em,S'⟩ := V.sd.do (f := f) (by omega) (by omega) c9
    have d8 : A.length < n := by rw [U] at F; simp at F; omega
    have b1 : ((([] : List (List zk)).length + (A.map buf).length : Nat) : Int) = ((A.map buf).length : Int) := by simp
    rw [b1] at Y;have eS : ye f s = some (rep,u,true,zi.mk d' (zh.mk (A ++ zf.mk (MCh.rest y.c_ r1) :: R))) := by
     unfold ye yU;rw [en];simp only [bS,List.nil_append];rw [show (!true) = false from rfl,cF,ed]
     rfl
    have W : SV N k n most (zi.mk d' (zh.mk (A ++ zf.mk (MCh.rest y.c_ r1) :: R))) L' (T + 1) X := by
     refine ⟨S',by rw [U] at F; simpa using F,Z,?_,?_⟩
     ·intro b I;simp only [iA,iC] at I;rcases I with I | rfl | I
      ·exact V.cp b (by rw [U]; simp [I])
      ·exact V.cp y (by rw [U]; simp)
      ·exact V.cp b (by rw [U]; simp [I])
     ·intro b I q hq;simp only [iA,iC] at I;rcases I with I | rfl | I
      ·exact V.bt b (by rw [U]; simp [I]) q hq
      ·exact V.bt y (by rw [U]; simp) q (by rw [hu]; exact mC _ hq)
      ·exact V.bt b (by rw [U]; simp [I]) q hq
    have b3 : wtL (A ++ zf.mk (MCh.rest y.c_ r1) :: R) + 1 = wtL s.desk.l := by
     rw [U,qz,qz,sI,sI,hu];simp [MCh.rest]; omega
    have a9 : mSet (s.desk.l.map buf) ((A.map buf).length : Int) r1 = (A ++ zf.mk (MCh.rest y.c_ r1) :: R).map buf := by
     rw [a1,List.nil_append,si (A.map buf) (R.map buf) (u :: r1) r1];simp [buf,MCh.rest]
    have c7 : mIdx (s.desk.l.map buf) ((A.map buf).length : Int) = some (u :: r1) := by
     rw [a1,List.nil_append]; exact yv _ _ _
    have a8 : mCut (u :: r1) 1 ((u :: r1).length : Int) = some r1 := by
     unfold mCut;rw [if_pos ⟨by omega,by simp only [lC]; omega,by omega⟩];simp
    have e0 : r1.length <= 1000 := by
     have h3 : wtL s.desk.l <= i := hw;rw [U,qz,sI,hu] at h3;simp at h3; omega
    have a7 : mApp ([] : List zk) r1 = some r1 := by rw [xh (by simp; omega),List.nil_append]
    obtain ⟨t,et,b2⟩ := tell (told := told) (c := (u.Kind == 1) && (rep.Why == 0)) (r := rep.Job) (by omega);obtain ⟨k1,k2⟩ := W.chk (f := f) (by simp only; omega) (by omega) (i : Int) t l;refine Do.tb rfl (Do.assoc (Do.seq Y (Do.assoc (Do.seq eS (Do.assoc (Do.seq (r := false) ?_ (Do.fb rfl (Do.fb rfl ?_))))))))
    ·rw [dT (by rw [lM]; omega)]
     rfl
    ·refine Do.assoc (Do.seq c7 (Do.assoc (Do.seq (r := u) rfl (Do.assoc (Do.seq a8 (Do.assoc (Do.seq a7 ?_)))))));refine Do.fb (by rw [BA]; rfl) (Do.assoc (Do.seq em ?_));refine Do.fb (by rw [ee]; rfl) (Do.assoc (Do.seq et ?_));rw [a9];refine Do.assoc (Do.seq k1 (Do.assoc (Do.seq k2 (Do.fb rfl ?_))));exact cont t X _ L' (T + 1) W (by omega) (by omega) (by simp only; omega)
  | false =>
   refine Do.fb rfl (Do.assoc ?_);cases h8 : x.Kind == 8 with
   | true =>
    obtain ⟨rep,d',X,L',ed,em,S'⟩ := V.sd.do (f := f) (by omega) (by omega) hc.2
    have eD : xo f s c = some (rep,zi.mk d' s.desk) := by
     unfold xo;rw [ed]
     rfl
    have W : SV N k n most (zi.mk d' s.desk) L' (T + 1) X := ⟨S',F,Z,V.cp,V.bt⟩
    obtain ⟨t,et,b2⟩ := tell (told := told) (c := (c.Kind == 1) && (rep.Why == 0)) (r := rep.Job) (by omega);obtain ⟨k1,k2⟩ := W.chk (f := f) (by simp only; omega) (by omega) (i : Int) t l;refine Do.tb rfl (Do.assoc (Do.seq eD (Do.assoc (Do.seq em (Do.seq rfl (Do.fb ?_ (Do.assoc (Do.seq et (Do.assoc (Do.seq k1 (Do.assoc (Do.seq k2 (Do.fb rfl ?_)))))))))))))
    ·show (!(zr.eq rep rep)) = false;rw [ee]; rfl
    ·exact cont t X _ L' (T + 1) W (by omega) (by omega) (by simp only; omega)
   | false =>
    obtain ⟨v,ev,v1,v2⟩ := within x.Box (-1) 4 (by omega) (by omega) (by omega);have stay : ∀ (s' : zi),SV N k n most s' L T m -> wtL s'.desk.l <= i + 1 -> Do (Option.bind (bif !(zr.eq (zr.mk 0 (zd.mk 0 0) 0 0 0) (zr.mk 0 (zd.mk 0 0) 0 0 0)) then (none : Option Unit) else some ()) fun _ => (some ())) fun _ => True := by
     intro s' _ _;exact ⟨(),rfl,trivial⟩
    have post : ∃ e s',yw s v c = some (e,s') /\ SV N k n most s' L T m /\ wtL s'.desk.l <= wtL s.desk.l + 1 /\
      (bif (decide (v < 0)) || (decide (v >= (n : Int))) then some 30 else (mIdx (s.desk.l.map buf) v).bind fun x8 => (bif decide ((x8.length : Int) >= (most : Int)) then some 13 else some 0)) = some e /\
      (bif e == 0 then (mIdx (s.desk.l.map buf) v).bind fun x9 => (mApp ([] : List zk) x9).bind fun d1 => (mApp d1 ([c] : List zk)).bind fun d2 => some (mSet (s.desk.l.map buf) v d2) else some (s.desk.l.map buf)) = some (s'.desk.l.map buf) := by
     unfold yw xu;by_cases I : v < 0 \/ v >= (n : Int)
     ·have e1 : (bif decide (v < 0) then some true else some (decide (v >= (s.desk.l.length : Int)))) = some true := by
       by_cases h0 : v < 0
       ·rw [dT h0,cT]
       ·rw [dF h0,cF,dT (by omega)]
      have e2 : ((decide (v < 0)) || (decide (v >= (n : Int)))) = true := by
       rw [Bool.or_eq_true,decide_eq_true_eq,decide_eq_true_eq]; exact I
      rw [e1,e2];exact ⟨30,s,rfl,V,by omega,rfl,rfl⟩
     ·have e1 : (bif decide (v < 0) then some true else some (decide (v >= (s.desk.l.length : Int)))) = some false := by
       rw [dF (by omega),cF,dF (by omega)]
      have e2 : ((decide (v < 0)) || (decide (v >= (n : Int)))) = false := by
       rw [dF (by omega),dF (by omega)]; rfl
      obtain ⟨j,hj⟩ : ∃ j : Nat,v = (j : Int) := ⟨v.toNat,by omega⟩
      obtain ⟨pre,y,rest,S,O⟩ : ∃ pre y rest,s.desk.l = pre ++ y :: rest /\ pre.length = j := ⟨s.desk.l.take j,s.desk.l[j]'(by omega),s.desk.l.drop (j + 1),by rw [List.getElem_cons_drop,List.take_append_drop],by simp; omega⟩
      have c5 : mIdx s.desk.l v = some y := by rw [hj,<- O,S]; exact yv _ _ _
      have c6 : mIdx (s.desk.l.map buf) v = some (buf y) := by
       rw [hj,<- O,S,List.map_append,pC,show (pre.length : Int) = ((pre.map buf).length : Int) by simp]; exact yv _ _ _
      have c4 := V.cp y (by rw [S]; simp);have e3 : (buf y).length <= 1000 := by
       have h3 : wtL s.desk.l <= i := hw;rw [S,qz,sI] at h3;unfold buf; omega
      rw [e1,e2,c5,c6];simp only [bS,cF];unfold xz MCh.room;by_cases hr : y.c_.buf.length < y.c_.cap
      ·have hd : decide (((buf y).length : Int) >= (most : Int)) = false := dF (by unfold buf; omega);rw [dT hr,hd];simp only [cT,cF,bS];refine ⟨0,_,rfl,?_,?_,rfl,?_⟩
       ·refine ⟨V.sd,by simp [mSet,F],Z,?_,?_⟩
        ·intro b B;rw [hj,<- O,S] at B;simp only [si pre rest y,iA,iC] at B;rcases B with B | rfl | B
         ·exact V.cp b (by rw [S]; simp [B])
         ·exact c4
         ·exact V.cp b (by rw [S]; simp [B])
        ·intro b B q hq;rw [hj,<- O,S] at B;simp only [si pre rest y,iA,iC] at B;rcases B with B | rfl | B
         ·exact V.bt b (by rw [S]; simp [B]) q hq
         ·simp only [MCh.push,iA,List.mem_singleton] at hq;rcases hq with hq | rfl
          ·exact V.bt y (by rw [S]; simp) q hq
          ·exact hc.2
         ·exact V.bt b (by rw [S]; simp [B]) q hq
       ·show wtL (mSet s.desk.l v _) <= wtL s.desk.l + 1;rw [hj,<- O,S,si pre rest y,qz,qz,sI,sI];simp [MCh.push]; omega
       ·rw [show ((0 : Int) == 0) = true from rfl,cT,xh (by simp; omega),List.nil_append];simp only [bS];rw [xh (by simp; omega)];simp only [bS];congr 1;show mSet (s.desk.l.map buf) v (buf y ++ [c]) = (mSet s.desk.l v (zf.mk (MCh.push y.c_ c))).map buf;rw [hj,<- O,S,si pre rest y,List.map_append,pC,show (pre.length : Int) = ((pre.map buf).length : Int) by simp,si (pre.map buf) (rest.map buf) (buf y)];simp [buf,MCh.push]
      ·have hd : decide (((buf y).length : Int) >= (most : Int)) = true := dT (by unfold buf; omega);have J : mSet s.desk.l v y = s.desk.l := by rw [hj,<- O,S]; exact si pre rest y y
       rw [dF hr,hd];simp only [cT,cF,bS];refine ⟨13,_,rfl,?_,?_,rfl,?_⟩
       ·exact ⟨V.sd,by show (mSet s.desk.l v y).length = n; rw [J,F],Z,by show ∀ b ∈ mSet s.desk.l v y,_; rw [J]; exact V.cp,by show ∀ b ∈ mSet s.desk.l v y,_; rw [J]; exact V.bt⟩
       ·show wtL (mSet s.desk.l v y) <= _;rw [J]; omega
       ·rw [show ((13 : Int) == 0) = false from rfl,cF];show _ = some ((mSet s.desk.l v y).map buf);rw [J]
    obtain ⟨e,s',p1,W,p2,p3,p4⟩ := post;obtain ⟨t,et,b2⟩ := tell (told := told) (c := ((0 : Int) == 1) && ((0 : Int) == 0)) (r := zd.mk 0 0) (by omega);obtain ⟨k1,k2⟩ := W.chk (f := f) (by omega) (by omega) (i : Int) t l;refine Do.fb rfl (Do.assoc (Do.seq a4 (Do.assoc (Do.seq ev (Do.assoc (Do.seq p3 (Do.assoc (Do.seq p1 ?_))))))));refine Do.fb (by simp) (Do.assoc (Do.seq p4 ?_));refine Do.seq rfl ?_;refine Do.fb rfl (Do.assoc (Do.seq et (Do.assoc (Do.seq k1 (Do.assoc (Do.seq k2 (Do.fb rfl ?_)))))));exact cont t m s' L T W (by omega) (by omega) (by omega)
end
theorem AK : wG 100000 = some true := by kernel_rfl
theorem serverPlays_plain (y t boxes room : Int) (l : List zw) (hl : ∀ z ∈ l,fm zw.enc z) : ∃ k,wF k y t boxes room l = some true := by
 refine ⟨100000,?_⟩;obtain ⟨k,ek,Y,k2⟩ := within y 1 3 (by omega) (by omega) (by omega);obtain ⟨j,S,W,X⟩ := within t 1 20 (by omega) (by omega) (by omega);obtain ⟨n,J,Z,n2⟩ := within boxes 1 4 (by omega) (by omega) (by omega);obtain ⟨o,eo,o1,o2⟩ := within room 1 6 (by omega) (by omega) (by omega);obtain ⟨N,rfl⟩ : ∃ N : Nat,j = (N : Int) := ⟨j.toNat,by omega⟩
 obtain ⟨n,rfl⟩ : ∃ N : Nat,n = (N : Int) := ⟨n.toNat,by omega⟩
 obtain ⟨o,rfl⟩ : ∃ N : Nat,o = (N : Int) := ⟨o.toNat,by omega⟩
 obtain ⟨d,O,D,hn,hs,hp⟩ := DI.new (N := N) (k := k) (f := 100000) (by omega) (by unfold Kd; omega) (by omega) (by omega);have A := bJ (f := 100000) (by omega) (n := n) (by omega) (room := o) (by omega);have U : vP (N : Int) = some (zc.mk (N : Int) 0 0 (zn.mk (N : Int) [] [] [] []) []) := by
  unfold vP rl;rw [show (if 65536 < (N : Int) then 65536 else (N : Int)) = (N : Int) from if_neg (by omega),show (if (0 : Int) > (N : Int) then 0 else (N : Int)) = (N : Int) from if_neg (by omega)]
  rfl
 have es : ta 100000 k (N : Int) (n : Int) (o : Int) = some (some (zi.mk d (zh.mk (List.replicate n (zf.mk ⟨o,[]⟩)))),0) := by
  unfold ta;rw [O];simp only [bS,uT,oS];rw [show ((0 : Int) != 0) = false from rfl,cF,A]
  rfl
 have em : mW (n : Int) ([] : List zk) = some (List.replicate n []) := by
  unfold mW;rw [if_pos (by omega)];simp
 have x : (List.replicate n (zf.mk ⟨o,[]⟩)).map buf = List.replicate n [] := by simp [buf]
 have V : SV N k n o (zi.mk d (zh.mk (List.replicate n (zf.mk ⟨o,[]⟩)))) [] 2 (zc.mk (N : Int) 0 0 (zn.mk (N : Int) [] [] [] []) []) := by
  refine ⟨⟨D,⟨rfl,hn.symm,hs.symm,by rw [hp]; exact ⟨rfl,rfl,rfl,rfl,rfl⟩,rfl⟩,by rw [hn]; omega⟩,by simp,by omega,?_,?_⟩
  ·intro b B;rw [List.eq_of_mem_replicate B]
  ·intro b B c I;rw [List.eq_of_mem_replicate B] at I;cases I
 have F : wtL (List.replicate n (zf.mk ⟨o,[]⟩)) = 0 := by simp [wtL]
 have u : xI 100000 y t boxes room l = some true := by
  suffices h : Do (xI 100000 y t boxes room l) fun r => r = true by
   obtain ⟨r,e,rfl⟩ := h;exact e
  unfold xI;refine Do.seq ek (Do.seq S (Do.seq J (Do.seq eo (Do.seq es ?_))));simp only [uT,oS];refine Do.seq (r := false) rfl (Do.f rfl (Do.seq U (Do.seq em ?_)));have h0 := Cg (N := N) (k := k) (n := n) (most := o) hl 90 0 100000 [] _ _ [] 2 (by omega) (by omega) (by omega) V (by omega) (by simp) (by simp only; rw [F]; omega);rw [show ((0 : Nat) : Int) = 0 from rfl] at h0;simp only at h0;rw [x] at h0;refine h0.bind ?_;rintro _ ⟨q,rfl⟩;exact ⟨_,rfl,rfl⟩
 unfold wF;rw [u];simp only [bS,cT];rw [AK]
 rfl
end
end Go.Proofs.YtcepppmiplonfaaGreat
namespace Go.Th
noncomputable section
structure Mx (T : Type) : Type where
 mix : Bool -> T -> T -> T
 h1 : ∀ x y,mix true x y = x
 h0 : ∀ x y,mix false x y = y
def mB : Mx Bool := ⟨cond,fun _ _ => rfl,fun _ _ => rfl⟩
def m2 {A B : Type} (a : Mx A) (b : Mx B) : Mx (A × B) := ⟨fun c x y => (a.mix c x.1 y.1,b.mix c x.2 y.2),fun x y => by rw [a.h1,b.h1],fun x y => by rw [a.h0,b.h0]⟩
inductive VC : Type -> Type 1
 | ret {R : Type} (o : Option R) : VC R
 | bind {R α : Type} (m : Option α) (k : α -> VC R) : VC R
 | ite {R : Type} (c : Bool) (x y : VC R) : VC R
 | frN {R : Type} (k : Nat -> VC R) : VC R
 | frA {R : Type} (k : Option Addr -> VC R) : VC R
 | req {R α : Type} (a b : α) (k : VC R) : VC R
 | join {R T : Type} (x : VC T) (k : T -> VC R) : VC R
 | cs {R A B : Type} (s : A ⊕ B) (x : A -> VC R) (y : B -> VC R) : VC R
 | both {R : Type} (u v : VC R) (vm : (Nat -> Nat × Option Addr) -> Option R) : VC R
 | grj {R T : Type} (x : VC T) (k : T -> VC R) : VC R
 | sel {R T : Type} (M : Mx T) (b : Bool) (x y : VC T) (k : T -> VC R) : VC R
def VC.valq : {T : Type} -> VC T -> Option T
 | _,.ret o => o
 | _,.req _ _ k => k.valq
 | _,.sel M b x y k => match x.valq,y.valq with
  | some s1,some s2 => (k (M.mix b s1 s2)).valq
  | _,_ => none
 | _,_ => none
abbrev Nm := Nat -> Nat × Option Addr
def Nm.tl (s : Nm) : Nm := fun i => s (i + 1)
def Nm.ev (s : Nm) : Nm := fun i => s (2 * i)
def Nm.od (s : Nm) : Nm := fun i => s (2 * i + 1)
def VC.modk : {T : Type} -> VC T -> {R : Type} -> (T -> Nm -> Option R) -> Nm -> Option R
 | _,.ret o,_,K,s => match o with
  | some x => K x s
  | none => none
 | _,.bind m k,_,K,s => m.bind fun x => (k x).modk K s
 | _,.ite c x y,_,K,s => bif c then x.modk K s else y.modk K s
 | _,.frN k,_,K,s => (k (s 0).1).modk K s.tl
 | _,.frA k,_,K,s => (k (s 0).2).modk K s.tl
 | _,.req _ _ k,_,K,s => k.modk K s
 | _,.join x k,_,K,s => (x.modk (fun y _ => some y) s.ev).bind fun y => (k y).modk K s.od
 | _,.cs z x y,_,K,s => match z with
  | .inl a => (x a).modk K s
  | .inr b => (y b).modk K s
 | _,.both u _ _,_,K,s => u.modk K s
 | _,.grj x k,_,K,s => x.modk (fun y s' => (k y).modk K s') s
 | _,.sel M b x y k,_,K,s => match x.valq,y.valq with
  | some s1,some s2 => (k (M.mix b s1 s2)).modk K s
  | _,_ => bif b then x.modk (fun y s' => (k y).modk K s') s else y.modk (fun y s' => (k y).modk K s') s
def VC.mod : {R : Type} -> VC R -> Nm -> Option R
 | _,.ret o,_ => o
 | _,.bind m k,s => m.bind fun x => (k x).mod s
 | _,.ite c x y,s => bif c then x.mod s else y.mod s
 | _,.frN k,s => (k (s 0).1).mod s.tl
 | _,.frA k,s => (k (s 0).2).mod s.tl
 | _,.req _ _ k,s => k.mod s
 | _,.join x k,s => (x.mod s.ev).bind fun y => (k y).mod s.od
 | _,.cs z x y,s => match z with
  | .inl a => (x a).mod s
  | .inr b => (y b).mod s
 | _,.both u _ _,s => u.mod s
 | _,.grj x k,s => x.modk (fun y s' => (k y).mod s') s
 | _,.sel M b x y k,s => match x.valq,y.valq with
  | some s1,some s2 => (k (M.mix b s1 s2)).mod s
  | _,_ => bif b then x.modk (fun y s' => (k y).mod s') s else y.modk (fun y s' => (k y).mod s') s
theorem VC.mod_eq : ∀ {R : Type} (v : VC R) (s : Nm),v.modk (fun y _ => some y) s = v.mod s
 | _,.ret o,s => by cases o <;> rfl
 | _,.bind m k,s => by
  simp only [VC.modk,VC.mod];congr 1;funext x;exact VC.mod_eq (k x) s
 | _,.ite c x y,s => by simp only [VC.modk,VC.mod,VC.mod_eq x,VC.mod_eq y]
 | _,.frN k,s => VC.mod_eq (k _) _
 | _,.frA k,s => VC.mod_eq (k _) _
 | _,.req _ _ k,s => VC.mod_eq k s
 | _,.join x k,s => by
  simp only [VC.modk,VC.mod,VC.mod_eq x];congr 1;funext y;exact VC.mod_eq (k y) _
 | _,.cs z x y,s => by
  cases z with
  | inl a => exact VC.mod_eq (x a) s
  | inr b => exact VC.mod_eq (y b) s
 | _,.both u _ _,s => VC.mod_eq u s
 | _,.grj x k,s => by
  simp only [VC.modk,VC.mod];congr 1;funext y s';exact VC.mod_eq (k y) s'
 | _,.sel M b x y k,s => by
  have e : (fun t (s' : Nm) => (k t).modk (fun z _ => some z) s') = fun t s' => (k t).mod s' := by
   funext t s';exact VC.mod_eq (k t) s'
  simp only [VC.modk,VC.mod,e];split
  ·exact VC.mod_eq (k _) s
  ·rfl
def VC.rfx : {R : Type} -> VC R -> VC R
 | _,.ret o => .ret o
 | _,.bind m k => .bind m fun x => (k x).rfx
 | _,.ite c x y => .ite c x.rfx y.rfx
 | _,.frN k => .frN fun r => (k r).rfx
 | _,.frA k => .frA fun r => (k r).rfx
 | _,.req a _ k => .req a a k.rfx
 | _,.join x k => .join x.rfx fun s => (k s).rfx
 | _,.cs s x y => .cs s (fun a => (x a).rfx) fun b => (y b).rfx
 | _,.both u v _ => .both u.rfx v.rfx u.mod
 | _,.grj x k => .grj x.rfx fun y => (k y).rfx
 | _,.sel M b x y k => .sel M b x.rfx y.rfx fun t => (k t).rfx
def VC.ok : {R : Type} -> VC R -> (R -> Prop) -> Prop
 | _,.ret o,Φ => ∃ x,o = some x /\ Φ x
 | _,.bind m k,Φ => ∃ x,m = some x /\ (k x).ok Φ
 | _,.ite c x y,Φ => (c = true -> x.ok Φ) /\ (c = false -> y.ok Φ)
 | _,.frN k,Φ => ∀ r,(k r).ok Φ
 | _,.frA k,Φ => ∀ r,(k r).ok Φ
 | _,.req a b k,Φ => a = b /\ k.ok Φ
 | _,.join x k,Φ => x.ok fun y => (k y).ok Φ
 | _,.cs z x y,Φ => (∀ a,z = .inl a -> (x a).ok Φ) /\ ∀ b,z = .inr b -> (y b).ok Φ
 | _,.both u v vm,Φ => u.ok Φ /\ (vm = v.mod -> v.ok Φ)
 | _,.grj x k,Φ => x.ok fun y => (k y).ok Φ
 | _,.sel M b x y k,Φ => (b = true -> x.ok fun t => (k t).ok Φ) /\ (b = false -> y.ok fun t => (k t).ok Φ)
def Nm.cons (x : Nat × Option Addr) (s : Nm) : Nm := fun i => match i with
 | 0 => x
 | i + 1 => s i
def Nm.mix (s t : Nm) : Nm := fun i => if i % 2 = 0 then s (i / 2) else t (i / 2)
theorem Nm.aB (s t : Nm) : (Nm.mix s t).ev = s := by
 funext i;have h1 : 2 * i % 2 = 0 := by omega
 have h2 : 2 * i / 2 = i := by omega
 simp [Nm.ev,Nm.mix,h1,h2]
theorem Nm.aC (s t : Nm) : (Nm.mix s t).od = t := by
 funext i;have h1 : ¬ (2 * i + 1) % 2 = 0 := by omega
 have h2 : (2 * i + 1) / 2 = i := by omega
 simp [Nm.od,Nm.mix,h1,h2]
theorem VC.mono : ∀ {R : Type} (v : VC R) {Φ Ψ : R -> Prop},(∀ x,Φ x -> Ψ x) -> v.ok Φ -> v.ok Ψ
 | _,.ret o,Φ,Ψ,h,hk => by
  obtain ⟨x,A,hp⟩ := hk;exact ⟨x,A,h x hp⟩
 | _,.bind m k,Φ,Ψ,h,hk => by
  obtain ⟨x,A,hp⟩ := hk;exact ⟨x,A,VC.mono (k x) h hp⟩
 | _,.ite c x y,Φ,Ψ,h,hk => ⟨fun t => VC.mono x h (hk.1 t),fun t => VC.mono y h (hk.2 t)⟩
 | _,.frN k,Φ,Ψ,h,hk => fun r => VC.mono (k r) h (hk r)
 | _,.frA k,Φ,Ψ,h,hk => fun r => VC.mono (k r) h (hk r)
 | _,.req a b k,Φ,Ψ,h,hk => ⟨hk.1,VC.mono k h hk.2⟩
 | _,.join x k,Φ,Ψ,h,hk => VC.mono x (Φ := fun y => (k y).ok Φ) (Ψ := fun y => (k y).ok Ψ) (fun y j => VC.mono (k y) h j) hk
 | _,.cs z x y,Φ,Ψ,h,hk => ⟨fun a ha => VC.mono (x a) h (hk.1 a ha),fun b B => VC.mono (y b) h (hk.2 b B)⟩
 | _,.both u v vm,Φ,Ψ,h,hk => ⟨VC.mono u h hk.1,fun e => VC.mono v h (hk.2 e)⟩
 | _,.grj x k,Φ,Ψ,h,hk => VC.mono x (Φ := fun y => (k y).ok Φ) (Ψ := fun y => (k y).ok Ψ) (fun y j => VC.mono (k y) h j) hk
 | _,.sel M b x y k,Φ,Ψ,h,hk => ⟨fun e => VC.mono x (Φ := fun y => (k y).ok Φ) (Ψ := fun y => (k y).ok Ψ) (fun y j => VC.mono (k y) h j) (hk.1 e),fun e => VC.mono y (Φ := fun y => (k y).ok Φ) (Ψ := fun y => (k y).ok Ψ) (fun y j => VC.mono (k y) h j) (hk.2 e)⟩
theorem VC.oh : ∀ {T : Type} (v : VC T) {P : T -> Prop} {s : T},v.ok P -> v.valq = some s -> P s
 | _,.ret o,P,s,h,e => by
  obtain ⟨x,t,hp⟩ := h;have j : o = some s := e;rw [t] at j; cases j; exact hp
 | _,.req _ _ k,P,s,h,e => VC.oh k h.2 e
 | _,.both _ _ _,P,s,h,e => by cases e
 | _,.sel M b x y k,P,s,h,e => by
  simp only [VC.valq] at e;split at e
  ·rename_i s1 s2 h1 h2;cases b with
   | true =>
    rw [M.h1] at e;exact VC.oh (k s1) (VC.oh x (h.1 rfl) h1) e
   | false =>
    rw [M.h0] at e;exact VC.oh (k s2) (VC.oh y (h.2 rfl) h2) e
  ·cases e
 | _,.bind _ _,P,s,h,e => by cases e
 | _,.ite _ _ _,P,s,h,e => by cases e
 | _,.frN _,P,s,h,e => by cases e
 | _,.frA _,P,s,h,e => by cases e
 | _,.join _ _,P,s,h,e => by cases e
 | _,.cs _ _ _,P,s,h,e => by cases e
 | _,.grj _ _,P,s,h,e => by cases e
theorem VC.ox : ∀ {T : Type} (v : VC T) {s : T},v = v.rfx -> v.valq = some s -> v.ok (· = s)
 | _,.ret o,s,hr,e => ⟨s,e,rfl⟩
 | _,.req a b k,s,hr,e => by
  simp only [VC.rfx,VC.req.injEq,heq_eq_eq,true_and] at hr;exact ⟨hr.1.symm,VC.ox k hr.2 e⟩
 | _,.both _ _ _,s,h,e => by cases e
 | _,.sel M b x y k,s,hr,e => by
  simp only [VC.rfx,VC.sel.injEq,heq_eq_eq,true_and] at hr;simp only [VC.valq] at e;split at e
  ·rename_i s1 s2 h1 h2;refine ⟨fun j => ?_,fun j => ?_⟩
   ·subst j;rw [M.h1] at e;exact VC.mono x (fun t ht => by subst ht; exact VC.ox (k _) (congrFun hr.2.2 _) e) (VC.ox x hr.1 h1)
   ·subst j;rw [M.h0] at e;exact VC.mono y (fun t ht => by subst ht; exact VC.ox (k _) (congrFun hr.2.2 _) e) (VC.ox y hr.2.1 h2)
  ·cases e
 | _,.bind _ _,s,h,e => by cases e
 | _,.ite _ _ _,s,h,e => by cases e
 | _,.frN _,s,h,e => by cases e
 | _,.frA _,s,h,e => by cases e
 | _,.join _ _,s,h,e => by cases e
 | _,.cs _ _ _,s,h,e => by cases e
 | _,.grj _ _,s,h,e => by cases e
theorem VC.okk : ∀ {T : Type} (v : VC T) {R : Type} (K : T -> Nm -> Option R) (Ψ : R -> Prop),v.ok (fun y => ∀ s,∃ x,K y s = some x /\ Ψ x) -> ∀ s,∃ x,v.modk K s = some x /\ Ψ x
 | _,.ret o,_,K,Ψ,h,s => by
  obtain ⟨x,rfl,j⟩ := h;exact j s
 | _,.bind m k,_,K,Ψ,h,s => by
  obtain ⟨x,rfl,j⟩ := h;exact VC.okk (k x) K Ψ j s
 | _,.ite c x y,_,K,Ψ,h,s => by
  cases c with
  | true => exact VC.okk x K Ψ (h.1 rfl) s
  | false => exact VC.okk y K Ψ (h.2 rfl) s
 | _,.frN k,_,K,Ψ,h,s => VC.okk (k _) K Ψ (h _) _
 | _,.frA k,_,K,Ψ,h,s => VC.okk (k _) K Ψ (h _) _
 | _,.req a b k,_,K,Ψ,h,s => VC.okk k K Ψ h.2 s
 | _,.join x k,_,K,Ψ,h,s => by
  obtain ⟨y,e,h2⟩ := VC.okk x (fun y _ => some y) (fun y => (k y).ok fun z => ∀ s,∃ x,K z s = some x /\ Ψ x) (VC.mono x (fun y e s => ⟨y,rfl,e⟩) h) s.ev;obtain ⟨z,hz,h3⟩ := VC.okk (k y) K Ψ h2 s.od;exact ⟨z,by simp only [VC.modk,e,bS,hz],h3⟩
 | _,.cs z x y,_,K,Ψ,h,s => by
  cases z with
  | inl a => exact VC.okk (x a) K Ψ (h.1 a rfl) s
  | inr b => exact VC.okk (y b) K Ψ (h.2 b rfl) s
 | _,.both u v vm,_,K,Ψ,h,s => VC.okk u K Ψ h.1 s
 | _,.grj x k,_,K,Ψ,h,s => VC.okk x (fun y s' => (k y).modk K s') Ψ (VC.mono x (fun y e s => VC.okk (k y) K Ψ e s) h) s
 | _,.sel M b x y k,_,K,Ψ,h,s => by
  simp only [VC.modk];split
  ·rename_i s1 s2 h1 h2;cases b with
   | true =>
    rw [M.h1];exact VC.okk (k s1) K Ψ (VC.oh x (h.1 rfl) h1) s
   | false =>
    rw [M.h0];exact VC.okk (k s2) K Ψ (VC.oh y (h.2 rfl) h2) s
  ·cases b with
   | true => exact VC.okk x (fun y s' => (k y).modk K s') Ψ (VC.mono x (fun y e s => VC.okk (k y) K Ψ e s) (h.1 rfl)) s
   | false => exact VC.okk y (fun y s' => (k y).modk K s') Ψ (VC.mono y (fun y e s => VC.okk (k y) K Ψ e s) (h.2 rfl)) s
theorem VC.rJ : ∀ {T : Type} (v : VC T) {R : Type} (K : T -> Nm -> Option R) (Ψ : R -> Prop),v = v.rfx -> (∀ s,∃ x,v.modk K s = some x /\ Ψ x) -> v.ok (fun y => ∀ s,∃ x,K y s = some x /\ Ψ x)
 | _,.ret o,_,K,Ψ,_,h => by
  cases o with
  | none => obtain ⟨x,D,_⟩ := h fun _ => (0,none); cases D
  | some y => exact ⟨y,rfl,h⟩
 | _,.bind m k,_,K,Ψ,hr,h => by
  obtain ⟨y,j,O⟩ := h fun _ => (0,none)
  simp only [VC.modk] at j;obtain ⟨x,D,-⟩ := Option.bind_eq_some_iff.1 j;refine ⟨x,D,VC.rJ (k x) K Ψ ?_ fun s => ?_⟩
  ·simp only [VC.rfx,VC.bind.injEq,heq_eq_eq,true_and] at hr;exact congrFun hr x
  ·obtain ⟨z,hz,hp⟩ := h s;simp only [VC.modk,D,bS] at hz;exact ⟨z,hz,hp⟩
 | _,.ite c x y,_,K,Ψ,hr,h => by
  simp only [VC.rfx,VC.ite.injEq,true_and] at hr;refine ⟨fun F => VC.rJ x K Ψ hr.1 fun s => ?_,fun F => VC.rJ y K Ψ hr.2 fun s => ?_⟩
  ·obtain ⟨z,hz,hp⟩ := h s;simp only [VC.modk,F,cT] at hz;exact ⟨z,hz,hp⟩
  ·obtain ⟨z,hz,hp⟩ := h s;simp only [VC.modk,F,cF] at hz;exact ⟨z,hz,hp⟩
 | _,.frN k,_,K,Ψ,hr,h => fun r => by
  simp only [VC.rfx,VC.frN.injEq] at hr;refine VC.rJ (k r) K Ψ (congrFun hr r) fun s => ?_
  exact h (Nm.cons (r,none) s)
 | _,.frA k,_,K,Ψ,hr,h => fun r => by
  simp only [VC.rfx,VC.frA.injEq] at hr;refine VC.rJ (k r) K Ψ (congrFun hr r) fun s => ?_
  exact h (Nm.cons (0,r) s)
 | _,.req a b k,_,K,Ψ,hr,h => by
  simp only [VC.rfx,VC.req.injEq,heq_eq_eq,true_and] at hr;exact ⟨hr.1.symm,VC.rJ k K Ψ hr.2 fun s => by simpa only [VC.modk] using h s⟩
 | _,.join x k,_,K,Ψ,hr,h => by
  simp only [VC.rfx,VC.join.injEq,heq_eq_eq,true_and] at hr;show x.ok fun y => (k y).ok fun y => ∀ s,∃ x,K y s = some x /\ Ψ x
  refine VC.mono x (fun y j => ?_) (VC.rJ x (fun y _ => some y) (fun y => (k y).ok fun y => ∀ s,∃ x,K y s = some x /\ Ψ x) hr.1 fun s => ?_)
  ·obtain ⟨z,hz,h2⟩ := j fun _ => (0,none)
   cases hz; exact h2
  ·obtain ⟨z,hz,-⟩ := h (Nm.mix s fun _ => (0,none));simp only [VC.modk,Nm.aB,Nm.aC] at hz;obtain ⟨y,j,-⟩ := Option.bind_eq_some_iff.1 hz;refine ⟨y,j,VC.rJ (k y) K Ψ (congrFun hr.2 y) fun t => ?_⟩;obtain ⟨z2,B,hp⟩ := h (Nm.mix s t);simp only [VC.modk,Nm.aB,Nm.aC,j,bS] at B;exact ⟨z2,B,hp⟩
 | _,.cs z x y,_,K,Ψ,hr,h => by
  simp only [VC.rfx,VC.cs.injEq,heq_eq_eq,true_and] at hr;refine ⟨fun a ha => VC.rJ (x a) K Ψ (congrFun hr.1 a) fun s => ?_,fun b A => VC.rJ (y b) K Ψ (congrFun hr.2 b) fun s => ?_⟩
  ·obtain ⟨u,hu,hp⟩ := h s;simp only [VC.modk,ha] at hu;exact ⟨u,hu,hp⟩
  ·obtain ⟨u,hu,hp⟩ := h s;simp only [VC.modk,A] at hu;exact ⟨u,hu,hp⟩
 | _,.both u v vm,_,K,Ψ,hr,h => by
  simp only [VC.rfx,VC.both.injEq,heq_eq_eq,true_and] at hr;have hu := VC.rJ u K Ψ hr.1 h;refine ⟨hu,fun e => ?_⟩;have h2 := VC.rJ v (fun y _ => some y) (fun y => ∀ s,∃ x,K y s = some x /\ Ψ x) hr.2.1 fun s => by
   have I : v.mod = u.mod := e.symm.trans hr.2.2;have J : v.modk (fun y _ => some y) s = u.modk (fun y _ => some y) s := by rw [VC.mod_eq,VC.mod_eq]; exact congrFun I s
   rw [J];exact VC.okk u (fun y _ => some y) _ (VC.mono u (fun y j s => ⟨y,rfl,j⟩) hu) s
  refine VC.mono v (fun y j => ?_) h2;obtain ⟨z,hz,h3⟩ := j fun _ => (0,none)
  cases hz; exact h3
 | _,.grj x k,_,K,Ψ,hr,h => by
  simp only [VC.rfx,VC.grj.injEq,heq_eq_eq,true_and] at hr;exact VC.mono x (fun y j => VC.rJ (k y) K Ψ (congrFun hr.2 y) j) (VC.rJ x (fun y s' => (k y).modk K s') Ψ hr.1 h)
 | _,.sel M b x y k,_,K,Ψ,hr,h => by
  simp only [VC.rfx,VC.sel.injEq,heq_eq_eq,true_and] at hr;simp only [VC.modk] at h;split at h
  ·rename_i s1 s2 h1 h2;refine ⟨fun A => ?_,fun A => ?_⟩
   ·subst A;rw [M.h1] at h;exact VC.mono x (fun t ht => by subst ht; exact VC.rJ (k _) K Ψ (congrFun hr.2.2 _) h) (VC.ox x hr.1 h1)
   ·subst A;rw [M.h0] at h;exact VC.mono y (fun t ht => by subst ht; exact VC.rJ (k _) K Ψ (congrFun hr.2.2 _) h) (VC.ox y hr.2.1 h2)
  ·refine ⟨fun A => ?_,fun A => ?_⟩
   ·subst A;exact VC.mono x (fun y j => VC.rJ (k y) K Ψ (congrFun hr.2.2 y) j) (VC.rJ x (fun y s' => (k y).modk K s') Ψ hr.1 h)
   ·subst A;exact VC.mono y (fun y j => VC.rJ (k y) K Ψ (congrFun hr.2.2 y) j) (VC.rJ y (fun y s' => (k y).modk K s') Ψ hr.2.1 h)
theorem VC.good {R : Type} (v : VC R) (Φ : R -> Prop) (hr : v = v.rfx) (h : ∀ s,∃ x,v.mod s = some x /\ Φ x) : v.ok Φ :=
 VC.mono v (fun y e => by obtain ⟨z,hz,h3⟩ := e fun _ => (0,none); cases hz; exact h3) (VC.rJ v (fun y _ => some y) Φ hr fun s => by rw [VC.mod_eq]; exact h s)
structure ElD : Type 1 where
 α : Type
 enc : α -> List Value
 sz : Nat
 ok : xV enc sz
 dec : List Value -> Option α
structure MpD : Type 1 where
 K : Type
 V : Type
 ek : K -> Value
 ev : V -> Value
 dk : Value -> Option K
 dv : Value -> Option V
 eq : K -> K -> Bool
structure Ev : Type 1 where
 el : Nat -> ElD
 mp : Nat -> MpD
inductive Atom (E : Ev) : Type
 | blk (b : Nat) (T : TypeId) (cs : List Value)
 | sl (c : Nat) (T : TypeId) (sb : Option Addr) (sc : Nat) (l : List (E.el c).α)
 | mp (c : Nat) (r : Nat) (m : List ((E.mp c).K × (E.mp c).V))
def Atom.den {E : Ev} : Atom E -> HP
 | .blk b T cs => Blk b T cs
 | .sl c T sb sc l => Sl T (E.el c).enc (E.el c).sz sb sc l
 | .mp c r m => MpA r (E.mp c).ek (E.mp c).ev m
structure RdV (E : Ev) : Type where
 c : Nat
 sb : Option Addr
 sc : Nat
 l : List (E.el c).α
def RdV.holds {E : Ev} (F : List HP) (r : RdV E) : Prop := ∃ X ∈ F,SlRd X (E.el r.c).enc (E.el r.c).sz r.sb r.l /\ ∀ h,X h -> r.l.length <= r.sc
structure EfV (E : Ev) : Type where
 rdr : Bool
 c : Nat
 sb : Option Addr
 l : List (E.el c).α
 i : Int
 x : (E.el c).α
 b : Nat
 o : Nat
def EfV.holds {E : Ev} (F : List HP) (e : EfV E) : Prop :=
 e.sb = some ⟨e.b,e.o,none⟩ /\ mIdx e.l e.i = some e.x /\ (e.rdr = true -> ∃ X ∈ F,SlRd X (E.el e.c).enc (E.el e.c).sz e.sb e.l)
structure VwV (E : Ev) : Type where
 c : Nat
 sb : Option Addr
 sc : Nat
 l : List (E.el c).α
 lo : Option Int
 hi : Option Int
 sb' : Option Addr
 sc' : Nat
 r : List (E.el c).α
def loN : Option Int -> Nat
 | none => 0
 | some i => i.toNat
def loI : Option Int -> Int
 | none => 0
 | some i => i
def hiN (n : Nat) : Option Int -> Nat
 | none => n
 | some i => i.toNat
def hiI (n : Nat) : Option Int -> Int
 | none => (n : Int)
 | some i => i
def bndO (h : Nat) : Option Int -> List Ob
 | none => []
 | some i => [.p (0 <= i /\ i <= (h : Int))]
def VwV.holds {E : Ev} (v : VwV E) : Prop :=
 mCut v.l (loI v.lo) (hiI v.l.length v.hi) = some v.r /\ yF v.sb v.sc (loI v.lo).toNat (E.el v.c).sz = v.sb' /\ v.sc - (loI v.lo).toNat = v.sc' /\ v.l.length <= v.sc
inductive Mi (E : Ev) : Type
 | cut (v : VwV E)
 | opt (o : Option Int)
def Mi.holds {E : Ev} : Mi E -> Prop
 | .cut v => v.holds
 | .opt _ => True
structure Kn (E : Ev) : Type where
 L : Env
 As : List (Nat × Atom E)
 rd : List (Nat × RdV E)
 ef : List (Nat × EfV E)
 pr : List (Nat × Prop)
 vw : List (Nat × Mi E)
def getK {α : Type} (k : Nat) : List (Nat × α) -> Option α
 | [] => none
 | (j,x) :: r => match Nat.beq k j with
  | true => some x
  | false => getK k r
def nL {α : Type} (k : Nat) : List (Nat × α) -> Option (α × List (Nat × α))
 | [] => none
 | (j,x) :: r => match Nat.beq k j with
  | true => some (x,r)
  | false => match nL k r with
   | some (y,r') => some (y,(j,x) :: r')
   | none => none
def iE {α : Type} : List Nat -> List (Nat × α) -> Option (List α × List (Nat × α))
 | [],L => some ([],L)
 | k :: ks,L => match nL k L with
  | none => none
  | some (x,L') => match iE ks L' with
   | none => none
   | some (xs,r) => some (x :: xs,r)
theorem wB {α : Type} {k : Nat} {x : α} : ∀ {L : List (Nat × α)},getK k L = some x -> ∃ j,(j,x) ∈ L
 | [],h => by cases h
 | (j,y) :: r,h => by
  simp only [getK] at h;split at h
  ·cases h; exact ⟨j,by simp⟩
  ·obtain ⟨i,hi⟩ := wB h; exact ⟨i,by simp [hi]⟩
theorem nM {α : Type} {k : Nat} {x : α} : ∀ {L r : List (Nat × α)},nL k L = some (x,r) -> (L.map (·.2)).Perm (x :: r.map (·.2))
 | [],r,h => by cases h
 | (j,y) :: L,r,h => by
  simp only [nL] at h;split at h
  ·cases h; exact List.Perm.refl _
  ·split at h
   ·rename_i z r' hp;cases h;have ih := nM hp;simp only [pC];exact (ih.cons y).trans (List.Perm.swap _ _ _)
   ·cases h
theorem kS {α : Type} : ∀ {ks : List Nat} {L r : List (Nat × α)} {xs : List α},iE ks L = some (xs,r) -> (L.map (·.2)).Perm (xs ++ r.map (·.2))
 | [],L,r,xs,h => by simp [iE] at h; obtain ⟨rfl,rfl⟩ := h; exact List.Perm.refl _
 | k :: ks,L,r,xs,h => by
  simp only [iE] at h;split at h
  ·cases h
  ·rename_i x L' h1;split at h
   ·cases h
   ·rename_i e r' h2;cases h;exact (nM h1).trans ((kS h2).cons x)
section
variable {E : Ev}
def dens (As : List (Nat × Atom E)) : List HP := (As.map (·.2)).map Atom.den
structure bB (F : List HP) (st : Kn E) : Prop where
 rd : ∀ p ∈ st.rd,p.2.holds F
 ef : ∀ p ∈ st.ef,p.2.holds F
 pr : ∀ p ∈ st.pr,p.2
 vw : ∀ p ∈ st.vw,p.2.holds
structure KnOk (n : Nat) (w0 : World) (F : List HP) (st : Kn E) (a : Act) (w : World) : Prop where
 env : zN n a st.L
 hp : St w0 (dens st.As ++ F) w
 fs : bB F st
theorem nt {ks : List Nat} {As r : List (Nat × Atom E)} {xs : List (Atom E)} (h : iE ks As = some (xs,r)) : (dens As).Perm (xs.map Atom.den ++ dens r) := by
 have := (kS h).map Atom.den;simpa [dens] using this
theorem uY {k : Nat} {As r : List (Nat × Atom E)} {x : Atom E} (h : nL k As = some (x,r)) : (dens As).Perm (x.den :: dens r) := by
 have := (nM h).map Atom.den;simpa [dens] using this
theorem tj {k : Nat} {As : List (Nat × Atom E)} {x : Atom E} (h : getK k As = some x) : x.den ∈ dens As := by
 obtain ⟨j,hj⟩ := wB h;simp only [dens,List.mem_map];exact ⟨x,⟨(j,x),hj,rfl⟩,rfl⟩
theorem St.mem {w0 w : World} {As : List HP} {A : HP} (H : St w0 As w) (h : A ∈ As) : ∃ i : Nat,As[i]? = some A := List.mem_iff_getElem?.1 h
inductive Src
 | C (q off : Nat)
 | A (e : Nat)
 | X (e q j : Nat)
 | R (e j : Nat)
 | Q (j : Nat)
 | W (j : Nat)
 | P (e q j : Nat)
abbrev SrcR (E : Ev) := List Value × List Ob × List (Atom E × Atom E)
def Src.get (st : Kn E) : Src -> Option (SrcR E)
 | .C q off => match getK q st.As with
  | some (.blk b T cs) => match cs[off]? with
   | some v => some ([v],[.cell ⟨b,off,none⟩ v],[])
   | none => none
  | _ => none
 | .A e => match getK e st.ef with
  | some f => some ([.pointer (some ⟨f.b,f.o,none⟩)],[.p (f.sb = some ⟨f.b,f.o,none⟩),.p (0 <= f.i /\ f.i < ((f.l.length : Nat) : Int))],[])
  | none => none
 | .X e q j => match getK e st.ef,getK q st.As with
  | some f,some (.sl c' T sb sc l) => match ((E.el f.c).enc f.x)[j]? with
   | some v => some ([v],[.cell ⟨f.b,f.o + f.i.toNat * (E.el f.c).sz + j,none⟩ v],[(.sl c' T sb sc l,.sl f.c T f.sb sc f.l)])
   | none => none
  | _,_ => none
 | .R e j => match getK e st.ef with
  | some f => match f.rdr,((E.el f.c).enc f.x)[j]? with
   | true,some v => some ([v],[.cell ⟨f.b,f.o + f.i.toNat * (E.el f.c).sz + j,none⟩ v],[])
   | _,_ => none
  | none => none
 | .Q j => match getK j st.pr with
  | some p => some ([],[.p p],[])
  | none => none
 | .P e q j => match getK e st.ef,getK q st.As with
  | some f,some (.blk b T cs) => match ((E.el f.c).enc f.x)[j]?,Nat.ble f.o cs.length with
   | some v,true => some ([v],[.cell ⟨f.b,f.o + f.i.toNat * (E.el f.c).sz + j,none⟩ v],[(.blk b T cs,.blk f.b T (cs.take f.o ++ (f.l.flatMap (E.el f.c).enc ++ cs.drop (f.o + f.l.length * (E.el f.c).sz))))])
   | _,_ => none
  | _,_ => none
 | .W j => match getK j st.vw with
  | some (.cut v) => some ([.slice v.sb' v.r.length v.sc'],.p (yF v.sb v.sc (loN v.lo) (E.el v.c).sz = v.sb') :: .p (hiN v.l.length v.hi - loN v.lo = v.r.length) :: .p (v.sc - loN v.lo = v.sc') :: (bndO v.sc v.hi ++ bndO (hiN v.l.length v.hi) v.lo),[])
  | _ => none
def srcs (st : Kn E) : List Src -> Option (SrcR E)
 | [] => some ([],[],[])
 | s :: r => match s.get st,srcs st r with
  | some (a,b,c),some (x,y,z) => some (a ++ x,b ++ y,c ++ z)
  | _,_ => none
theorem gF {α : Type} {l : List α} {i : Int} {x : α} (h : mIdx l i = some x) : 0 <= i /\ i < ((l.length : Nat) : Int) := by
 unfold mIdx at h;split at h
 ·rename_i h0;have := (List.getElem?_eq_some_iff.1 h).1;omega
 ·cases h
theorem AO (o : Option Int) : (loI o).toNat = loN o := by cases o <;> rfl
theorem BJ (n : Nat) (o : Option Int) : (hiI n o).toNat = hiN n o := by cases o <;> simp [hiI,hiN]
theorem VwV.obs {v : VwV E} (h : v.holds) (w : World) : wc w (.p (yF v.sb v.sc (loN v.lo) (E.el v.c).sz = v.sb') :: .p (hiN v.l.length v.hi - loN v.lo = v.r.length) :: .p (v.sc - loN v.lo = v.sc') :: (bndO v.sc v.hi ++ bndO (hiN v.l.length v.hi) v.lo)) := by
 obtain ⟨h1,h2,h3,h4⟩ := h;refine ⟨by rw [<- AO]; exact h2,?_,by show v.sc - loN v.lo = v.sc'; rw [<- AO]; exact h3,?_⟩
 ·show hiN _ _ - loN _ = _;rw [<- AO,<- BJ]; exact qI h1
 ·rw [wL];constructor
  ·cases hh : v.hi with
   | none => trivial
   | some i => rw [hh] at h1; exact ⟨gz h1 h4,trivial⟩
  ·cases hl : v.lo with
   | none => trivial
   | some i =>
    rw [hl] at h1;refine ⟨?_,trivial⟩;have := ao h1;rw [BJ] at this;exact this
theorem Src.sound {n : Nat} {w0 w : World} {F : List HP} {st : Kn E} {a : Act} (t : KnOk n w0 F st a w) {s : Src} {J : List Value} {obs : List Ob} {eqs : List (Atom E × Atom E)} (h : s.get st = some (J,obs,eqs))
  (he : ∀ p ∈ eqs,p.1 = p.2) : wc w obs := by
 cases s with
 | C q off =>
  simp only [Src.get] at h;split at h
  ·rename_i b T cs hq;split at h
   ·rename_i v hv;cases h;obtain ⟨i,hi⟩ := t.hp.mem (mL F (tj hq));exact ⟨t.hp.cell i hi hv,trivial⟩
   ·cases h
  ·cases h
 | A e =>
  simp only [Src.get] at h;split at h
  ·rename_i f hf;cases h;obtain ⟨j,hj⟩ := wB hf;obtain ⟨h1,h2,_⟩ := t.fs.ef _ hj;exact ⟨h1,gF h2,trivial⟩
  ·cases h
 | X e q j =>
  simp only [Src.get] at h;split at h
  ·rename_i f c T sb sc l hf hq;split at h
   ·rename_i v hv;cases h;obtain ⟨B,hj⟩ := wB hf;obtain ⟨h1,h2,_⟩ := t.fs.ef _ hj;have y := he _ (List.mem_singleton.2 rfl);simp only at y;have hm := tj hq;rw [y] at hm;obtain ⟨i,hi⟩ := t.hp.mem (mL F hm);exact ⟨SlRd.cells (xe T (E.el f.c).enc (E.el f.c).sz f.sb sc f.l) (E.el f.c).ok t.hp i hi h1 h2 j v hv,trivial⟩
   ·cases h
  ·cases h
 | R e j =>
  simp only [Src.get] at h;split at h
  ·rename_i f hf;split at h
   ·rename_i v hr hv;cases h;obtain ⟨B,hj⟩ := wB hf;obtain ⟨h1,h2,h3⟩ := t.fs.ef _ hj;obtain ⟨X,hX,h4⟩ := h3 hr;obtain ⟨i,hi⟩ := t.hp.mem (List.mem_append_right _ hX);exact ⟨h4.cells (E.el f.c).ok t.hp i hi h1 h2 j v hv,trivial⟩
   ·cases h
  ·cases h
 | Q j =>
  simp only [Src.get] at h;split at h
  ·rename_i p hp;cases h;obtain ⟨B,hj⟩ := wB hp;exact ⟨t.fs.pr _ hj,trivial⟩
  ·cases h
 | P e q j =>
  simp only [Src.get] at h;split at h
  ·rename_i f b T cs hf hq;split at h
   ·rename_i v hv hle;cases h;obtain ⟨B,hj⟩ := wB hf;obtain ⟨h1,h2,_⟩ := t.fs.ef _ hj;have y := he _ (List.mem_singleton.2 rfl);simp only at y;have hm := tj hq;rw [y] at hm;obtain ⟨i,hi⟩ := t.hp.mem (mL F hm);refine ⟨t.hp.cell i hi ?_,trivial⟩;have I : j < (E.el f.c).sz := by
     have := (List.getElem?_eq_some_iff.1 hv).1
     rwa [(E.el f.c).ok.len] at this
    have hlen : (cs.take f.o).length = f.o := by rw [List.length_take]; exact Nat.min_eq_left (Nat.le_of_ble_eq_true hle)
    have O : 0 <= f.i /\ f.i < ((f.l.length : Nat) : Int) := gF h2;have z : f.l[f.i.toNat]? = some f.x := BK h2;have u : f.i.toNat < f.l.length := by omega
    rw [List.getElem?_append_right (by rw [hlen]; omega),hlen];have hk : f.o + f.i.toNat * (E.el f.c).sz + j - f.o = f.i.toNat * (E.el f.c).sz + j := by omega
    rw [hk];have D := yA (E.el f.c).ok f.l;have h3 : f.i.toNat + 1 <= f.l.length := u;have h4 := Nat.mul_le_mul_right (E.el f.c).sz h3;rw [Nat.succ_mul] at h4;rw [List.getElem?_append_left (by rw [D]; omega),tO (E.el f.c).ok f.l _ _ u I];rw [List.getElem?_eq_getElem u] at z;rw [Option.some.inj z];exact hv
   ·cases h
  ·cases h
 | W j =>
  simp only [Src.get] at h;split at h
  ·rename_i v hv;cases h;obtain ⟨B,hj⟩ := wB hv;exact VwV.obs (t.fs.vw _ hj) w
  ·cases h
theorem sL {n : Nat} {w0 w : World} {F : List HP} {st : Kn E} {a : Act} (j : KnOk n w0 F st a w) : ∀ {l : List Src} {e : List Value} {obs : List Ob} {eqs : List (Atom E × Atom E)},srcs st l = some (e,obs,eqs) ->
  (∀ p ∈ eqs,p.1 = p.2) -> wc w obs
 | [],e,obs,eqs,h,_ => by simp [srcs] at h; obtain ⟨_,rfl,_⟩ := h; trivial
 | s :: r,e,obs,eqs,h,he => by
  simp only [srcs] at h;split at h
  ·rename_i a' t c' x y z h1 h2;cases h;rw [wL];exact ⟨Src.sound j h1 fun p hp => he p (mL _ hp),sL j h2 fun p hp => he p (List.mem_append_right _ hp)⟩
  ·cases h
theorem kH {l : List (Atom E × Atom E)} (h : l.map (·.1) = l.map (·.2)) : ∀ p ∈ l,p.1 = p.2 := by
 induction l with
 | nil => simp
 | cons x l ih =>
  simp only [pC,List.cons.injEq] at h;intro p hp;cases hp with
  | head => exact h.1
  | tail _ hm => exact ih h.2 p hm
structure Con (E : Ev) : Type 1 where
 fid : Nat
 I : Type
 T : Type
 rd : List Value -> List (Atom E) -> Option I
 args : I -> List Value
 ats : I -> List (Atom E)
 rds : I -> List (RdV E)
 model : I -> Option T
 nN : Nat
 nA : Nat
 val : I -> T -> List Nat -> List (Option Addr) -> Value
 post : I -> T -> List Nat -> List (Option Addr) -> List (Atom E)
 opt : I -> T -> Option (Option Int)
 fx : I -> T -> List Prop
 br : Bool
 M : Type
 om : I -> T -> Option M
 nf : Nat
 val1 : I -> T -> M -> List Nat -> List (Option Addr) -> Value
 post1 : I -> T -> M -> List Nat -> List (Option Addr) -> List (Atom E)
def Con.valA (C : Con E) (i : C.I) (t : C.T) (j : List Nat) (e : List (Option Addr)) : Value := match C.br with
 | false => C.val i t j e
 | true => match C.om i t with
  | none => C.val i t j e
  | some m => C.val1 i t m j e
def Con.gS (C : Con E) (i : C.I) (t : C.T) (j : List Nat) (e : List (Option Addr)) : List (Atom E) := match C.br with
 | false => C.post i t j e
 | true => match C.om i t with
  | none => C.post i t j e
  | some m => C.post1 i t m j e
def Con.C6 (C : Con E) (i : C.I) (t : C.T) (keys : List Nat) : List Nat := match C.br with
 | false => keys
 | true => match C.om i t with
  | none => keys.drop C.nf
  | some _ => keys
def Con.Sound (C : Con E) (P : Program) : Prop := ∀ (i : C.I) (t : C.T),C.model i = some t -> ∀ (w0 w : World) (F : List HP),(∀ r ∈ C.rds i,r.holds F) -> St w0 ((C.ats i).map Atom.den ++ F) w ->
 yL P C.fid (C.args i).toArray w fun v w' => ∃ j e,j.length = C.nN /\ e.length = C.nA /\ v = C.valA i t j e /\ St w0 ((C.gS i t j e).map Atom.den ++ F) w' /\ ∀ p ∈ C.fx i t,p
structure SCon (E : Ev) (P : Program) : Type 1 where
 C : Con E
 snd : C.Sound P
 ent : ∀ args w,(callFunc C.fid args).run P w = .ok (.enter C.fid args) w
def frNs {R : Type} : Nat -> (List Nat -> VC R) -> VC R
 | 0,k => k []
 | n + 1,k => .frN fun r => frNs n fun l => k (r :: l)
def frAs {R : Type} : Nat -> (List (Option Addr) -> VC R) -> VC R
 | 0,k => k []
 | n + 1,k => .frA fun r => frAs n fun l => k (r :: l)
theorem nD {R : Type} {Φ : R -> Prop} : ∀ (l : List Nat) (k : List Nat -> VC R),(frNs l.length k).ok Φ -> (k l).ok Φ
 | [],k,h => h
 | r :: l,k,h => nD l (fun l => k (r :: l)) (h r)
theorem nC {R : Type} {Φ : R -> Prop} : ∀ (l : List (Option Addr)) (k : List (Option Addr) -> VC R),(frAs l.length k).ok Φ -> (k l).ok Φ
 | [],k,h => h
 | r :: l,k,h => nC l (fun l => k (r :: l)) (h r)
def VC.fail {R : Type} : VC R := .ret none
theorem VC.zy {R : Type} {Φ : R -> Prop} (h : (VC.fail : VC R).ok Φ) : False := by
 obtain ⟨x,e,_⟩ := h;cases e
end
end
noncomputable section
section
variable {E : Ev} {P : Program}
structure HpOk (w0 : World) (F : List HP) (st : Kn E) (w : World) : Prop where
 hp : St w0 (dens st.As ++ F) w
 fs : bB F st
theorem KnOk.hk {n : Nat} {w0 w : World} {F : List HP} {st : Kn E} {a : Act} (h : KnOk n w0 F st a w) : HpOk w0 F st w := ⟨h.hp,h.fs⟩
def j4 (c : Nat) {c' : Nat} (l : List (E.el c').α) : Option (List (E.el c).α) :=
 match Nat.decEq c' c with
 | isTrue h => some (h ▸ l)
 | isFalse _ => none
def dP (D : ElD) : Nat -> List Value -> Option (List D.α)
 | 0,_ => some []
 | n + 1,cs => match D.dec (cs.take D.sz),dP D n (cs.drop D.sz) with
  | some x,some r => some (x :: r)
  | _,_ => none
def mc : Op -> Option (Builtin × List Operand × List TypeId)
 | .call { callee := .builtin b,args,argTypes } => some (b,args.toList,argTypes.toList)
 | _ => none
theorem mD {op : Op} {b : Builtin} {l : List Operand} {e : List TypeId} (h : mc op = some (b,l,e)) : op = .call { callee := .builtin b,args := l.toArray,argTypes := e.toArray } := by
 unfold mc at h;split at h
 ·cases h; simp
 ·cases h
structure EqD (P : Program) : Type 1 where
 α : Type
 t : TypeId
 val : α -> Array Value
 dec : Value -> Option α
 eq : α -> α -> Bool
 ok : ∀ x y,mw P t (val x) (val y) (eq x y)
inductive ASrc
 | K (q : Nat)
 | R (q : Nat)
 | O (q : Nat)
 | W (v q : Nat)
def ASrc.keys : List ASrc -> List Nat
 | [] => []
 | .K q :: r => q :: keys r
 | _ :: r => keys r
def pS (rd : List (Nat × RdV E)) (rest : List (Nat × Atom E)) : List ASrc -> List (Atom E) -> Option (List (Atom E) × List (RdV E))
 | [],_ => some ([],[])
 | .K _ :: r,a :: ats => match pS rd rest r ats with
  | some (x,y) => some (a :: x,y)
  | none => none
 | .K _ :: _,[] => none
 | .R q :: r,ats => match getK q rd with
  | some v => match pS rd rest r ats with
   | some (x,y) => some (.sl v.c 0 v.sb v.sc v.l :: x,v :: y)
   | none => none
  | none => none
 | .O q :: r,ats => match getK q rest with
  | some (.sl c T sb sc l) => match pS rd rest r ats with
   | some (x,y) => some (.sl c T sb sc l :: x,⟨c,sb,sc,l⟩ :: y)
   | none => none
  | _ => none
 | .W _ _ :: _,_ => none
def zipK {α : Type} : List Nat -> List α -> Option (List (Nat × α))
 | [],[] => some []
 | k :: ks,x :: xs => match zipK ks xs with
  | some r => some ((k,x) :: r)
  | none => none
 | _,_ => none
theorem ep {α : Type} : ∀ {ks : List Nat} {xs : List α} {r : List (Nat × α)},zipK ks xs = some r -> r.map (·.2) = xs
 | [],[],r,h => by simp [zipK] at h; subst h; rfl
 | k :: ks,x :: xs,r,h => by
  simp only [zipK] at h;split at h
  ·rename_i r' hr; cases h; simp [ep hr]
  ·cases h
 | [],_ :: _,r,h => by simp [zipK] at h
 | _ :: _,[],r,h => by simp [zipK] at h
inductive Stp (E : Ev) (P : Program) : Type 1
 | seg (c : Nat) (l : List Src)
 | new (q : Nat) (l : List Src)
 | sto (q : Nat)
 | call (C : SCon E P) (l : List ASrc) (out : List Nat)
 | idx (rdr : Bool) (q : Nat) (x : Operand) (e : Nat)
 | gd (k : Nat) (x : Operand) (j : Nat)
 | idk (rdr : Bool) (q : Nat) (x : Operand) (e : Nat)
 | rlc (e q off : Nat)
 | rls (e t : Nat)
 | nil (q c : Nat) (T : TypeId)
 | bld (q c : Nat) (T : TypeId)
 | app (q : Nat) (s : ASrc)
 | sset (q e j : Nat)
 | mk (q c : Nat) (T : TypeId)
 | eqs (D : EqD P)
 | mnew (q c : Nat)
 | mget (q c : Nat) (kt : TypeId) (hk : rP P kt (E.mp c).ek (E.mp c).eq) (z : (E.mp c).V)
 | mput (q c : Nat) (kt : TypeId) (hk : rP P kt (E.mp c).ek (E.mp c).eq)
 | mdel (q c : Nat) (kt : TypeId) (hk : rP P kt (E.mp c).ek (E.mp c).eq)
 | cut (rdr : Bool) (q : Nat) (lo hi : Option Operand) (v : Nat)
 | own (v q : Nat)
 | el (t e : Nat)
 | same (q m : Nat)
 | rlp (t q : Nat)
 | rlq (b off q : Nat)
 | pix (q off n c : Nat) (x : Operand) (e : Nat)
def eE (c : Nat) {c' : Nat} (l : List ((E.mp c').K × (E.mp c').V)) : Option (List ((E.mp c).K × (E.mp c).V)) :=
 match Nat.decEq c' c with
 | isTrue h => some (h ▸ l)
 | isFalse _ => none
def dc (rd : List (Nat × RdV E)) (vw : List (Nat × Mi E)) (rest : List (Nat × Atom E)) : ASrc -> Option (RdV E × List (Atom E × Atom E))
 | .K _ => none
 | .R q => match getK q rd with
  | some r => some (r,[])
  | none => none
 | .O q => match getK q rest with
  | some (.sl c T sb sc l) => some (⟨c,sb,sc,l⟩,[])
  | _ => none
 | .W v q => match getK v vw,getK q rest with
  | some (.cut u),some (.sl c T sb sc l) => some (⟨u.c,u.sb',u.sc',u.r⟩,[(.sl c T sb sc l,.sl u.c T u.sb u.sc u.l)])
  | _,_ => none
def vwO (o : Option (Option Int)) (l : List (Nat × Mi E)) : List (Nat × Mi E) := match o with
 | some x => (77,.opt x) :: l
 | none => l
theorem Cj {o : Option (Option Int)} {l : List (Nat × Mi E)} (h : ∀ p ∈ l,p.2.holds) : ∀ p ∈ vwO o l,p.2.holds := by
 cases o with
 | none => exact h
 | some x =>
  intro p hp;cases hp with
  | head => trivial
  | tail _ hm => exact h p hm
def fxP : List Prop -> List (Nat × Prop) -> List (Nat × Prop)
 | [],l => l
 | p :: r,l => (78,p) :: fxP r l
theorem au {l : List (Nat × Prop)} (h : ∀ p ∈ l,p.2) : ∀ {fx : List Prop},(∀ p ∈ fx,p) -> ∀ p ∈ fxP fx l,p.2
 | [],_ => h
 | q :: r,hf => fun p hp => by
  cases hp with
  | head => exact hf q (List.mem_cons_self ..)
  | tail _ hm => exact au h (fun x e => hf x (mC _ e)) p hm
def outK {R : Type} (out : List Nat) (l : List (Atom E)) (K : List (Nat × Atom E) -> VC R) : VC R := match zipK out l with
 | some new => K new
 | none => .fail
theorem AZ {R : Type} {out : List Nat} {l : List (Atom E)} {K : List (Nat × Atom E) -> VC R} {Φ : R -> Prop} (h : (outK out l K).ok Φ) : ∃ new,new.map (·.2) = l /\ (K new).ok Φ := by
 unfold outK at h;split at h
 ·rename_i new hz; exact ⟨new,ep hz,h⟩
 ·exact (VC.zy h).elim
def ft (L : Env) (x : Operand) : Option (Nat × List Value) := match x with
 | .func g => some (g,[])
 | y => match evO L y with
  | some (.func (.func g) ⟨[]⟩ ⟨cs⟩) => some (g,cs)
  | _ => none
def actO {R : Type} (o : Oper) (st : Kn E) (s : Stp E P) (K : Value -> Kn E -> VC R) : VC R :=
 match s with
 | .new q l => match (!qh o.op && jE st.L o.op.operands.toList),srcs st l with
  | true,some (Y,obs,eqs) => .frN fun r => match rD P (execOp (rho st.L) o) Y r with
   | some (.cells cs T (0,0),.value v,S) => .req S obs (.req (eqs.map (·.1)) (eqs.map (·.2)) (K v ⟨st.L,(q,.blk r T cs.toList) :: st.As,st.rd,st.ef,st.pr,st.vw⟩))
   | _ => .fail
  | _,_ => .fail
 | .sto q => match uw o.op,nL q st.As with
  | some (t,x,y),some (.blk b' T cs,rest) => match evO st.L x,evO st.L y,P.info? t with
   | some (.pointer (some ⟨b,off,none⟩)),some v,some ti => match Nat.beq ti.size v.cells.size,oz v.cells.toList,Nat.ble (off + v.cells.size) cs.length with
    | true,true,true => .req b b' (K undef ⟨st.L,(q,.blk b' T (putAt cs off v.cells.toList)) :: rest,st.rd,st.ef,st.pr,st.vw⟩)
    | _,_,_ => .fail
   | _,_,_ => .fail
  | _,_ => .fail
 | .call C l out => match callParts o.op,iE (ASrc.keys l) st.As with
  | some (x,xs),some (ats,rest) => match ft st.L x,oG st.L xs,pS st.rd rest l ats with
   | some (g,cs),some vs,some (ps,rds) => match C.C.rd (vs ++ cs) ps with
    | some i => .req (vs ++ cs,ats,rds,g) (C.C.args i,C.C.ats i,C.C.rds i,C.C.fid) (.bind (C.C.model i) fun t => frNs C.C.nN fun O => frAs C.C.nA fun J => match C.C.br with
     | false => outK out (C.C.post i t O J) fun new => K (C.C.val i t O J) ⟨st.L,new ++ rest,st.rd,st.ef,fxP (C.C.fx i t) st.pr,vwO (C.C.opt i t) st.vw⟩
     | true => .cs (oS (C.C.om i t)) (fun _ => outK (out.drop C.C.nf) (C.C.post i t O J) fun new => K (C.C.val i t O J) ⟨st.L,new ++ rest,st.rd,st.ef,fxP (C.C.fx i t) st.pr,vwO (C.C.opt i t) st.vw⟩) fun m =>
       outK out (C.C.post1 i t m O J) fun new => K (C.C.val1 i t m O J) ⟨st.L,new ++ rest,st.rd,st.ef,fxP (C.C.fx i t) st.pr,vwO (C.C.opt i t) st.vw⟩)
    | none => .fail
   | _,_,_ => .fail
  | _,_ => .fail
 | .bld q c T => match (!qh o.op && jE st.L o.op.operands.toList) with
  | true => .frN fun r => match rD P (execOp (rho st.L) o) [] r with
   | some (.cells cs T' (0,0),.value (.slice (some a) m I),[]) => match dP (E.el c) m cs.toList,Nat.ble m 1000000 with
    | some xs,true => .req (cs.toList,a,m,I,T') (xs.flatMap (E.el c).enc,⟨r,0,none⟩,xs.length,xs.length,T) (K (.slice (some ⟨r,0,none⟩) xs.length xs.length) ⟨st.L,(q,.sl c T (some ⟨r,0,none⟩) xs.length xs) :: st.As,st.rd,st.ef,st.pr,st.vw⟩)
    | _,_ => .fail
   | _ => .fail
  | false => .fail
 | .app q s => match mc o.op,nL q st.As with
  | some (.append,[x,y],[t,u]),some (.sl c T sb sc l,rest) => match dc st.rd st.vw ((q,.sl c T sb sc l) :: rest) s,P.underlying t,P.underlying u,P.info? T,evO st.L x,evO st.L y with
   | some (⟨c',sb',sc',l'⟩,eqs),some (.slice T'),some (.slice d),some ti,some B,some A => match j4 c l',ti.zero,Nat.ble ti.bytes 131072 with
    | some l'',some z,true => .req (B,A,T',ti.size,z.cells.size) (.slice sb l.length sc,.slice sb' l''.length sc',T,(E.el c).sz,(E.el c).sz) (.req (eqs.map (·.1)) (eqs.map (·.2)) (.bind (mApp l l'') fun r => .frA fun U => .frN fun W =>
      K (.slice U r.length W) ⟨st.L,(q,.sl c T U W r) :: rest,st.rd,st.ef,st.pr,st.vw⟩))
    | _,_,_ => .fail
   | _,_,_,_,_,_ => .fail
  | _,_ => .fail
 | .sset q e j => match uw o.op,nL q st.As,getK e st.ef with
  | some (t,x,y),some (.sl c T sb sc l,rest),some ⟨rdr,c',sb',l',i,x0,b,off⟩ => match evO st.L x,evO st.L y,P.info? t,Nat.decEq c' c with
   | some B,some v,some ti,isTrue h => match oz v.cells.toList,Nat.ble (j + v.cells.size) (E.el c).sz,(E.el c).dec (putAt ((E.el c).enc (h ▸ x0)) j v.cells.toList) with
    | true,true,some x1 => .req (B,ti.size,(h ▸ l' : List (E.el c).α),sb',(E.el c).enc x1) (.pointer (some ⟨b,off + i.toNat * (E.el c).sz + j,none⟩),v.cells.size,l,sb,putAt ((E.el c).enc (h ▸ x0)) j v.cells.toList)
      (K undef ⟨st.L,(q,.sl c T sb sc (mSet l i x1)) :: rest,st.rd,(e,⟨false,c,sb,mSet l i x1,i,x1,b,off⟩) :: (e + 100000,⟨rdr,c',sb',l',i,x0,b,off⟩) :: st.ef,st.pr,st.vw⟩)
    | _,_,_ => .fail
   | _,_,_,_ => .fail
  | _,_,_ => .fail
 | .mk q c T => match o.op with
  | .makeSlice t x y => match P.underlying t,P.info? T,evO st.L x,evO st.L y with
   | some (.slice T'),some ti,some (.int .i64 m),some A => match ti.zero,Nat.ble ti.bytes 131072 with
    | some X,true => match (E.el c).dec X.cells.toList with
     | some z => .req (T',ti.size,X.cells.toList,y) (T,(E.el c).sz,(E.el c).enc z,x) (.bind (mW m z) fun l => .frN fun r => K (.slice (some ⟨r,0,none⟩) l.length l.length) ⟨st.L,(q,.sl c T (some ⟨r,0,none⟩) l.length l) :: st.As,st.rd,st.ef,st.pr,st.vw⟩)
     | none => .fail
    | _,_ => .fail
   | _,_,_,_ => .fail
  | _ => .fail
 | .eqs D => match o.op with
  | .binOp .eql t x y _ => match evO st.L x,evO st.L y,P.eqGuardType P.depth t with
   | some B,some A,false => match D.dec B,D.dec A with
    | some a,some b => .req (t,B,A) (D.t,.agg (D.val a),.agg (D.val b)) (K (.bool (D.eq a b)) st)
    | _,_ => .fail
   | _,_,_ => .fail
  | .binOp .neq t x y _ => match evO st.L x,evO st.L y,P.eqGuardType P.depth t with
   | some B,some A,false => match D.dec B,D.dec A with
    | some a,some b => .req (t,B,A) (D.t,.agg (D.val a),.agg (D.val b)) (K (.bool (!(D.eq a b))) st)
    | _,_ => .fail
   | _,_,_ => .fail
  | _ => .fail
 | .mnew q c => match o.op with
  | .makeMap t none => .frN fun r => K (.map (some r)) ⟨st.L,(q,.mp c r []) :: st.As,st.rd,st.ef,st.pr,st.vw⟩
  | _ => .fail
 | .mget q c kt hk z => match getK q st.As with
  | some (.mp c' r m) => match eE c m with
   | some I => match o.op with
    | .lookup mt x y two => match P.underlying mt,evO st.L x,evO st.L y with
     | some (.map F Z),some B,some A => match P.info? Z,(E.mp c).dk A with
      | some ti,some k => match ti.zero with
       | some X => .req (F,B,A,X,Atom.mp (E := E) c' r m) (kt,.map (some r),(E.mp c).ek k,(E.mp c).ev z,.mp c r I) (.bind (qo (E.mp c).eq k z I) fun g => K (match two with
        | true => .tuple #[(E.mp c).ev g.1,.bool g.2]
        | false => (E.mp c).ev g.1) st)
       | none => .fail
      | _,_ => .fail
     | _,_,_ => .fail
    | _ => .fail
   | none => .fail
  | _ => .fail
 | .mput q c kt hk => match nL q st.As,oZ o.op with
  | some (.mp c' r m,rest),some (mt,x,y,z) => match eE c m,P.underlying mt,evO st.L x,evO st.L y,evO st.L z with
   | some I,some (.map F Z),some B,some A,some vz => match (E.mp c).dk A,(E.mp c).dv vz with
    | some k,some v => .req (F,B,A,vz,Atom.mp (E := E) c' r m) (kt,.map (some r),(E.mp c).ek k,(E.mp c).ev v,.mp c r I) (K undef ⟨st.L,(q,.mp c r (mPut (E.mp c).eq k v I)) :: rest,st.rd,st.ef,st.pr,st.vw⟩)
    | _,_ => .fail
   | _,_,_,_,_ => .fail
  | _,_ => .fail
 | .mdel q c kt hk => match nL q st.As,mc o.op with
  | some (.mp c' r m,rest),some (.delete,[x,y],mt :: ts) => match eE c m,P.underlying mt,evO st.L x,evO st.L y with
   | some I,some (.map F Z),some B,some A => match (E.mp c).dk A with
    | some k => .req (F,B,A,Atom.mp (E := E) c' r m) (kt,.map (some r),(E.mp c).ek k,.mp c r I) (K (.tuple #[]) ⟨st.L,(q,.mp c r (mDel (E.mp c).eq k I)) :: rest,st.rd,st.ef,st.pr,st.vw⟩)
    | none => .fail
   | _,_,_,_ => .fail
  | _,_ => .fail
 | _ => .fail
theorem RdV.mono {F G : List HP} {r : RdV E} (h : ∀ X ∈ F,X ∈ G) (hr : r.holds F) : r.holds G := by
 obtain ⟨X,hX,h1⟩ := hr;exact ⟨X,h X hX,h1⟩
theorem rv {F : List HP} {rd : List (Nat × RdV E)} {rest : List (Nat × Atom E)} (e : ∀ p ∈ rd,p.2.holds F) : ∀ {l : List ASrc} {ats ps : List (Atom E)} {rds : List (RdV E)},
  pS rd rest l ats = some (ps,rds) -> ∀ r ∈ rds,r.holds (dens rest ++ F)
 | [],ats,ps,rds,h => by simp [pS] at h; obtain ⟨_,rfl⟩ := h; simp
 | .K _ :: r,[],ps,rds,h => by simp [pS] at h
 | .K _ :: r,a :: ats,ps,rds,h => by
  simp only [pS] at h;split at h
  ·rename_i x y t; cases h; exact rv e t
  ·cases h
 | .R q :: r,ats,ps,rds,h => by
  simp only [pS] at h;split at h
  ·rename_i v hv;split at h
   ·rename_i x y t;cases h;intro z hz;cases hz with
    | head =>
     obtain ⟨j,hj⟩ := wB hv;exact RdV.mono (fun X hX => List.mem_append_right _ hX) (e _ hj)
    | tail _ hm => exact rv e t z hm
   ·cases h
  ·cases h
 | .O q :: r,ats,ps,rds,h => by
  simp only [pS] at h;split at h
  ·rename_i c T sb sc l hq;split at h
   ·rename_i x y t;cases h;intro z hz;cases hz with
    | head =>
     refine ⟨_,mL F (tj hq),xe _ _ _ _ _ _,?_⟩;rintro h (⟨_,hl,_⟩ | ⟨b,off,cs,_,_,u,_⟩)
     ·show l.length <= sc;rw [show l = [] from hl]; simp
     ·exact u
    | tail _ hm => exact rv e t z hm
   ·cases h
  ·cases h
theorem OpTo.Ci {n : Nat} {a : Act} {L : Env} {w w0 : World} {As : List HP} {o : Oper} {b off : Nat} {T t : TypeId} {cs : List Value} {x y : Operand} {v : Value} {ti : TypeInfo} (j : zN n a L) (H : St w0 (Blk b T cs :: As) w)
  (A : uw o.op = some (t,x,y)) (D : evO L x = some (.pointer (some ⟨b,off,none⟩))) (F : evO L y = some v) (hi : P.info? t = some ti) (hs : ti.size = v.cells.size) (h1 : oz v.cells.toList = true)
  (e : off + v.cells.size <= cs.length) : OpTo P o a w fun u w' => u = undef /\ St w0 (Blk b T (putAt cs off v.cells.toList) :: As) w' := by
 obtain ⟨dst,op,type,pos,after,guard⟩ := o;cases op <;> simp only [uw] at A <;> try cases A
 have z := H.one 0 rfl;refine OpTo.gQ (w' := w.setRow b (putAt cs off v.cells.toList).toArray) ?_ ⟨rfl,?_⟩
 ·simp [execOp,j.eval D,j.eval F,nY z hi hs h1 e]
 ·exact H.set (by simp) (by simp) (by simp) (setRow_heap w b _ _ T (0,0) z) (fun c B => setRow_other w b c _ B)
theorem OpTo.Dh {o : Oper} {a : Act} {w : World} {e : Value -> World -> Prop} {z : TypeId × Operand × Operand} (h : OpTo P o a w e) (j : uw o.op = some z) : OpTo P o a w fun v w' => v = undef /\ e v w' := by
 obtain ⟨dst,op,type,pos,after,guard⟩ := o;cases op <;> simp only [uw] at j <;> try cases j
 rename_i t x y;unfold OpTo at *
 simp only [execOp,Sem.run_bind,Sem.run_pure] at *
 cases hr : (Instr.storeAt t (a.eval x) (a.eval y)).run P w with
 | ok u w' => rw [hr] at h; simp [Result.andThen] at h ⊢; exact h
 | halt x w' => rw [hr] at h; simp [Result.andThen] at h
theorem OpTo.putU {o : Oper} {a : Act} {w : World} {e : Value -> World -> Prop} {z : TypeId × Operand × Operand × Operand} (h : OpTo P o a w e) (j : oZ o.op = some z) : OpTo P o a w fun v w' => v = undef /\ e v w' := by
 obtain ⟨dst,op,type,pos,after,guard⟩ := o;cases op <;> simp only [oZ] at j <;> try cases j
 all_goals
  rename_i t x y z;unfold OpTo at *
  simp only [execOp,Sem.run_bind,Sem.run_pure] at *
  cases hr : (Instr.mapUpdate t (a.eval x) (a.eval y) (a.eval z)).run P w with
  | ok u w' => rw [hr] at h; simp [Result.andThen] at h ⊢; exact h
  | halt x w' => rw [hr] at h; simp [Result.andThen] at h
theorem fh {F : List HP} {rd : List (Nat × RdV E)} {vw : List (Nat × Mi E)} {rest : List (Nat × Atom E)} {s : ASrc} {r : RdV E} {eqs : List (Atom E × Atom E)} (e : ∀ p ∈ rd,p.2.holds F) (t : ∀ p ∈ vw,p.2.holds) (h : dc rd vw rest s = some (r,eqs)) (he : ∀ p ∈ eqs,p.1 = p.2) :
  ∃ X,X ∈ dens rest ++ F /\ SlRd X (E.el r.c).enc (E.el r.c).sz r.sb r.l := by
 cases s with
 | K q => simp [dc] at h
 | R q =>
  simp only [dc] at h;split at h
  ·rename_i r' hr;cases h;obtain ⟨j,hj⟩ := wB hr;obtain ⟨X,hX,h1,_⟩ := e _ hj;exact ⟨X,List.mem_append_right _ hX,h1⟩
  ·cases h
 | W v q =>
  simp only [dc] at h;split at h
  ·rename_i u c T sb sc l hu hq;cases h;obtain ⟨j,hj⟩ := wB hu;obtain ⟨h1,h2,h3,h4⟩ := t _ hj;have x := he _ (List.mem_singleton.2 rfl);simp only at x;have hm := tj hq;rw [x] at hm;exact ⟨_,mL F hm,(xe T (E.el u.c).enc (E.el u.c).sz u.sb u.sc u.l).cut' (E.el u.c).ok h1 h4 h2⟩
  ·cases h
 | O q =>
  simp only [dc] at h;split at h
  ·rename_i c T sb sc l hq;cases h;exact ⟨_,mL F (tj hq),xe _ _ _ _ _ _⟩
  ·cases h
theorem bD {c c' : Nat} {l : List (E.el c').α} {l' : List (E.el c).α} (h : j4 c l = some l') : ∃ e : c' = c,l' = e ▸ l := by
 unfold j4 at h;split at h
 ·rename_i e _; cases h; exact ⟨e,rfl⟩
 ·cases h
theorem jk {c c' : Nat} {l : List ((E.mp c').K × (E.mp c').V)} {l' : List ((E.mp c).K × (E.mp c).V)} (h : eE c l = some l') : ∃ e : c' = c,l' = e ▸ l := by
 unfold eE at h;split at h
 ·rename_i e _; cases h; exact ⟨e,rfl⟩
 ·cases h
theorem ky {R : Type} {n : Nat} {w0 w : World} {F : List HP} {st : Kn E} {a : Act} {Φ : R -> Prop} {o : Oper} {s : Stp E P} {K : Value -> Kn E -> VC R} (A : KnOk n w0 F st a w) (h : (actO o st s K).ok Φ) :
  OpTo P o a w fun v w' => ∃ O,O.L = st.L /\ HpOk w0 F O w' /\ (K v O).ok Φ := by
 cases s with
 | seg c l => exact (VC.zy h).elim
 | idx rdr q x e => exact (VC.zy h).elim
 | gd k x j => exact (VC.zy h).elim
 | idk rdr q x e => exact (VC.zy h).elim
 | rlc e q off => exact (VC.zy h).elim
 | rls e t => exact (VC.zy h).elim
 | nil q c T => exact (VC.zy h).elim
 | cut rdr q lo hi v => exact (VC.zy h).elim
 | own v q => exact (VC.zy h).elim
 | el t e => exact (VC.zy h).elim
 | same q m => exact (VC.zy h).elim
 | rlp t q => exact (VC.zy h).elim
 | rlq b off q => exact (VC.zy h).elim
 | pix q off n c x e => exact (VC.zy h).elim
 | bld q c T =>
  simp only [actO] at h;split at h
  ·rename_i a0;have h3 := h w.heap.size;dsimp only at h3;split at h3
   ·rename_i cs T' ad m m' a6;split at h3
    ·rename_i xs d3 hm;obtain ⟨e,W⟩ := h3;simp only [Prod.mk.injEq] at e;obtain ⟨S,rfl,rfl,rfl,rfl⟩ := e;simp only [Bool.and_eq_true,Bool.not_eq_true'] at a0;have d1 := Nat.le_of_ble_eq_true hm;have d2 : cs.size = xs.length * (E.el c).sz := by rw [<- Array.length_toList,S,yA (E.el c).ok]
     refine OpTo.of_run (w' := { w with heap := w.heap.push (.cells cs T' (0,0)) }) (v := .slice (some ⟨w.heap.size,0,none⟩) xs.length xs.length) ?_ ⟨⟨st.L,(q,.sl c T' (some ⟨w.heap.size,0,none⟩) xs.length xs) :: st.As,st.rd,st.ef,st.pr,st.vw⟩,rfl,⟨?_,A.fs.1,A.fs.2,A.fs.3,A.fs.4⟩,W⟩
     ·rw [jt A.env a0.1 a0.2];exact qT P w _ _ _ _ _ a6 trivial
     ·have H2 := A.hp.alloc (.cells cs T' (0,0));have H3 := St.slOf (enc := (E.el c).enc) (sz := (E.el c).sz) (l := xs) (sc := xs.length) H2 (E.el c).ok (Nat.le_refl _) (by unfold maxLen; omega) (by omega) fun i hi => by rw [<- S]; simp
      exact H3
    ·exact (VC.zy h3).elim
   ·exact (VC.zy h3).elim
  ·exact (VC.zy h).elim
 | app q s =>
  simp only [actO] at h;split at h
  ·rename_i x y t u c T sb sc l rest h1 h2;split at h
   ·rename_i c' sb' sc' l' eqs T' d ti vx vy g1 g2 g3 g4 g5 g6;split at h
    ·rename_i l'' z U k2 k3;obtain ⟨e,b5,r,hr,I⟩ := h;simp only [Prod.mk.injEq] at e;obtain ⟨rfl,rfl,rfl,e4,e5⟩ := e;obtain ⟨Y,rfl⟩ := bD U;subst Y;have H : St w0 (Sl T' (E.el c').enc (E.el c').sz sb sc l :: (dens rest ++ F)) w := A.hp.perm ((uY h2).append_right F);obtain ⟨X,hX,hS⟩ := fh A.fs.rd A.fs.vw g1 (kH b5);obtain ⟨j,hj⟩ := H.mem hX;have b7 := hS.all (E.el c').ok H j hj;refine (OpTo.uR hr A.env H (E.el c').ok (mD h1) g5 g6 g2 g3 g4 e4 k2 e5 rfl b7 k3).mono ?_;rintro v w' ⟨a8,a9,rfl,B⟩;exact ⟨⟨st.L,(q,.sl c' T' a8 a9 r) :: rest,st.rd,st.ef,st.pr,st.vw⟩,rfl,⟨B,A.fs.1,A.fs.2,A.fs.3,A.fs.4⟩,I a8 a9⟩
    ·exact (VC.zy h).elim
   ·exact (VC.zy h).elim
  ·exact (VC.zy h).elim
 | sset q e j =>
  simp only [actO] at h;split at h
  ·rename_i t x y c T sb sc l rest rdr c' sb' l' i x0 b off h1 h2 h3;split at h
   ·rename_i vx v ti Y g1 g2 g3 g4;split at h
    ·rename_i x1 U k2 k3;subst Y;obtain ⟨e,I⟩ := h;simp only [Prod.mk.injEq] at e;obtain ⟨rfl,Z,rfl,rfl,e5⟩ := e;obtain ⟨j',hj⟩ := wB h3;obtain ⟨f1,f2,_⟩ := A.fs.2 _ hj;have H : St w0 (Sl T (E.el c').enc (E.el c').sz sb' sc l' :: (dens rest ++ F)) w := A.hp.perm ((uY h2).append_right F);refine (OpTo.Dh (OpTo.qY (q := j) (x' := x1) A.env H (E.el c').ok h1 f1 f2 g1 g2 g3 Z U (Nat.le_of_ble_eq_true k2) e5) h1).mono ?_;rintro v w' ⟨rfl,B⟩;refine ⟨⟨st.L,(q,.sl c' T sb' sc (mSet l' i x1)) :: rest,st.rd,(e,⟨false,c',sb',mSet l' i x1,i,x1,b,off⟩) :: (e + 100000,⟨rdr,c',sb',l',i,x0,b,off⟩) :: st.ef,st.pr,st.vw⟩,rfl,⟨B,A.fs.1,fun p hp => ?_,A.fs.3,A.fs.4⟩,I⟩;cases hp with
     | head => exact ⟨f1,AR f2,fun h => by cases h⟩
     | tail _ hm =>
      cases hm with
      | head =>
       have h9 := A.fs.2 _ hj;exact h9
      | tail _ hm => exact A.fs.2 p hm
    ·exact (VC.zy h).elim
   ·exact (VC.zy h).elim
  ·exact (VC.zy h).elim
 | mk q c T =>
  simp only [actO] at h;split at h
  ·rename_i t x y J;split at h
   ·rename_i T' ti m vy g1 g2 g3 g4;split at h
    ·rename_i zv U k2;split at h
     ·rename_i z kz;obtain ⟨e,l,hl,I⟩ := h;simp only [Prod.mk.injEq] at e;obtain ⟨rfl,Z,e3,rfl⟩ := e;refine (OpTo.make hl A.env A.hp (E.el c).ok J g3 g1 g2 Z U e3 k2).mono ?_;rintro v w' ⟨r,rfl,B⟩;exact ⟨⟨st.L,(q,.sl c T' (some ⟨r,0,none⟩) l.length l) :: st.As,st.rd,st.ef,st.pr,st.vw⟩,rfl,⟨B,A.fs.1,A.fs.2,A.fs.3,A.fs.4⟩,I r⟩
     ·exact (VC.zy h).elim
    ·exact (VC.zy h).elim
   ·exact (VC.zy h).elim
  ·exact (VC.zy h).elim
 | eqs D =>
  simp only [actO] at h;split at h
  ·rename_i t x y u J;split at h
   ·rename_i vx vy g1 g2 g3;split at h
    ·rename_i p q U k2;obtain ⟨e,I⟩ := h;simp only [Prod.mk.injEq] at e;obtain ⟨rfl,rfl,rfl⟩ := e;refine (OpTo.eqS A.env J g1 g2 g3 (D.ok p q)).mono ?_;rintro v w' ⟨rfl,rfl⟩;exact ⟨st,rfl,A.hk,I⟩
    ·exact (VC.zy h).elim
   ·exact (VC.zy h).elim
  ·rename_i t x y u J;split at h
   ·rename_i vx vy g1 g2 g3;split at h
    ·rename_i p q U k2;obtain ⟨e,I⟩ := h;simp only [Prod.mk.injEq] at e;obtain ⟨rfl,rfl,rfl⟩ := e;refine (OpTo.neS A.env J g1 g2 g3 (D.ok p q)).mono ?_;rintro v w' ⟨rfl,rfl⟩;exact ⟨st,rfl,A.hk,I⟩
    ·exact (VC.zy h).elim
   ·exact (VC.zy h).elim
  ·exact (VC.zy h).elim
 | mnew q c =>
  simp only [actO] at h;split at h
  ·rename_i t J;refine (OpTo.Dd (E.mp c).ek (E.mp c).ev A.env A.hp J).mono ?_;rintro v w' ⟨r,rfl,B⟩;exact ⟨⟨st.L,(q,.mp c r []) :: st.As,st.rd,st.ef,st.pr,st.vw⟩,rfl,⟨B,A.fs.1,A.fs.2,A.fs.3,A.fs.4⟩,h r⟩
  ·exact (VC.zy h).elim
 | mget q c kt hk z =>
  simp only [actO] at h;split at h
  ·rename_i c' r m hq;split at h
   ·rename_i m' hm;split at h
    ·rename_i mt x y two J;split at h
     ·rename_i a7 vt vx vy g1 g2 g3;split at h
      ·rename_i ti k U k2;split at h
       ·rename_i zv kz;obtain ⟨Y,rfl⟩ := jk hm;subst Y;obtain ⟨e,g,hg,I⟩ := h;simp only [Prod.mk.injEq] at e;obtain ⟨rfl,rfl,rfl,rfl,_⟩ := e;obtain ⟨j,hj⟩ := A.hp.mem (mL F (tj hq));cases two with
        | true =>
         refine (OpTo.BU j A.env A.hp hj hk hg J g1 U kz g2 g3).mono ?_;rintro v w' ⟨rfl,rfl⟩;exact ⟨st,rfl,A.hk,I⟩
        | false =>
         refine (OpTo.Dc j A.env A.hp hj hk hg J g1 U kz g2 g3).mono ?_;rintro v w' ⟨rfl,rfl⟩;exact ⟨st,rfl,A.hk,I⟩
       ·exact (VC.zy h).elim
      ·exact (VC.zy h).elim
     ·exact (VC.zy h).elim
    ·exact (VC.zy h).elim
   ·exact (VC.zy h).elim
  ·exact (VC.zy h).elim
 | mput q c kt hk =>
  simp only [actO] at h;split at h
  ·rename_i c' r m rest mt x y z h1 h2;split at h
   ·rename_i m' a7 vt vx vy vz hm g1 g2 g3 g4;split at h
    ·rename_i k v U k2;obtain ⟨Y,rfl⟩ := jk hm;subst Y;obtain ⟨e,I⟩ := h;simp only [Prod.mk.injEq] at e;obtain ⟨rfl,rfl,rfl,rfl,_⟩ := e;have H : St w0 (MpA r (E.mp c').ek (E.mp c').ev m :: (dens rest ++ F)) w := A.hp.perm ((uY h1).append_right F);refine (OpTo.putU (OpTo.De A.env H hk h2 g1 g2 g3 g4) h2).mono ?_;rintro v' w' ⟨rfl,B⟩;exact ⟨⟨st.L,(q,.mp c' r (mPut (E.mp c').eq k v m)) :: rest,st.rd,st.ef,st.pr,st.vw⟩,rfl,⟨B,A.fs.1,A.fs.2,A.fs.3,A.fs.4⟩,I⟩
    ·exact (VC.zy h).elim
   ·exact (VC.zy h).elim
  ·exact (VC.zy h).elim
 | mdel q c kt hk =>
  simp only [actO] at h;split at h
  ·rename_i c' r m rest x y mt ts h1 h2;split at h
   ·rename_i m' a7 vt vx vy hm g1 g2 g3;split at h
    ·rename_i k U;obtain ⟨Y,rfl⟩ := jk hm;subst Y;obtain ⟨e,I⟩ := h;simp only [Prod.mk.injEq] at e;obtain ⟨rfl,rfl,rfl,_⟩ := e;have H : St w0 (MpA r (E.mp c').ek (E.mp c').ev m :: (dens rest ++ F)) w := A.hp.perm ((uY h1).append_right F);refine (OpTo.Db A.env H hk (mD h2) (by simp) g1 g2 g3).mono ?_;rintro v' w' ⟨rfl,B⟩;exact ⟨⟨st.L,(q,.mp c' r (mDel (E.mp c').eq k m)) :: rest,st.rd,st.ef,st.pr,st.vw⟩,rfl,⟨B,A.fs.1,A.fs.2,A.fs.3,A.fs.4⟩,I⟩
    ·exact (VC.zy h).elim
   ·exact (VC.zy h).elim
  ·exact (VC.zy h).elim
 | new q l =>
  simp only [actO] at h;split at h
  ·rename_i d5 obs eqs h1 h2;have h3 := h w.heap.size;dsimp only at h3;split at h3
   ·rename_i cs T v c3 h4;obtain ⟨I,h6,W⟩ := h3;subst I;simp only [Bool.and_eq_true,Bool.not_eq_true'] at h1;refine OpTo.of_run (w' := { w with heap := w.heap.push (.cells cs T (0,0)) }) (v := v) ?_ ⟨⟨st.L,(q,.blk w.heap.size T cs.toList) :: st.As,st.rd,st.ef,st.pr,st.vw⟩,rfl,⟨?_,A.fs.1,A.fs.2,A.fs.3,A.fs.4⟩,W⟩
    ·rw [jt A.env h1.1 h1.2];exact qT P w _ _ _ _ _ h4 (sL A h2 (kH h6))
    ·have := A.hp.alloc (.cells cs T (0,0));simpa [dens,Atom.den] using this
   ·exact (VC.zy h3).elim
  ·exact (VC.zy h).elim
 | sto q =>
  simp only [actO] at h;split at h
  ·rename_i t x y b' T cs rest h1 h2;split at h
   ·rename_i b off v ti hx hy hi;split at h
    ·rename_i S Z e3;obtain ⟨rfl,W⟩ := h;have H : St w0 (Blk b T cs :: (dens rest ++ F)) w := A.hp.perm ((uY h2).append_right F);refine (OpTo.Ci A.env H h1 hx hy hi (Nat.eq_of_beq_eq_true S) Z (Nat.le_of_ble_eq_true e3)).mono ?_;rintro _ w' ⟨rfl,B⟩;exact ⟨⟨st.L,(q,.blk b T (putAt cs off v.cells.toList)) :: rest,st.rd,st.ef,st.pr,st.vw⟩,rfl,⟨B,A.fs.1,A.fs.2,A.fs.3,A.fs.4⟩,W⟩
    ·exact (VC.zy h).elim
   ·exact (VC.zy h).elim
  ·exact (VC.zy h).elim
 | call C l out =>
  simp only [actO] at h;split at h
  ·rename_i x xs ats rest h1 h2;split at h
   ·rename_i g cs vs ps rds S Z e3;split at h
    ·rename_i i hi;obtain ⟨e4,t,ht,I⟩ := h;simp only [Prod.mk.injEq] at e4;obtain ⟨e5,rfl,rfl,rfl⟩ := e4;have fn : ∀ {Rv : Value -> World -> Prop},yL P C.C.fid (C.C.args i).toArray w Rv -> OpTo P o a w Rv := by
      intro Rv hc;rw [<- e5] at hc;unfold ft at S;split at S
      ·simp only [Option.some.injEq,Prod.mk.injEq] at S;obtain ⟨e6,rfl⟩ := S;subst e6;rw [aN] at hc;exact OpTo.fn A.env h1 Z C.ent hc
      ·split at S
       ·rename_i hx;simp only [Option.some.injEq,Prod.mk.injEq] at S;obtain ⟨e6,rfl⟩ := S;subst e6;exact OpTo.fv A.env h1 hx Z C.ent hc
       ·cases S
     have H : St w0 ((C.C.ats i).map Atom.den ++ (dens rest ++ F)) w := by
      have := A.hp.perm ((nt h2).append_right F)
      rwa [aA] at this
     refine fn ((C.snd i t ht w0 w (dens rest ++ F) (rv A.fs.rd e3) H).mono ?_);rintro v w' ⟨ns,aS,hn,ha,rfl,B,b6⟩;rw [<- hn] at I;have h6 := nD _ _ I;rw [<- ha] at h6;have W := nC _ _ h6;have fin : ∀ (v : Value) (l : List (Atom E)) (out : List Nat),St w0 (l.map Atom.den ++ (dens rest ++ F)) w' -> (outK out l fun new => K v ⟨st.L,new ++ rest,st.rd,st.ef,fxP (C.C.fx i t) st.pr,vwO (C.C.opt i t) st.vw⟩).ok Φ -> ∃ O,O.L = st.L /\ HpOk w0 F O w' /\ (K v O).ok Φ := by
      intro v l out Hl hk;obtain ⟨new,hz,h8⟩ := AZ hk;refine ⟨⟨st.L,new ++ rest,st.rd,st.ef,fxP (C.C.fx i t) st.pr,vwO (C.C.opt i t) st.vw⟩,rfl,⟨?_,A.fs.1,A.fs.2,au A.fs.3 b6,Cj A.fs.4⟩,h8⟩;simp only [dens,List.map_append,hz,aA];exact Hl
     unfold Con.valA;unfold Con.gS at B;split at W
     ·rename_i hb;rw [hb] at B; try rw [hb]
      exact fin _ _ _ B W
     ·rename_i hb;rw [hb] at B; try rw [hb]
      cases J : C.C.om i t with
      | none =>
       rw [J] at B;exact fin _ _ _ B (W.1 () (by rw [J]; rfl))
      | some m =>
       rw [J] at B;exact fin _ _ _ B (W.2 m (by rw [J]; rfl))
    ·exact (VC.zy h).elim
   ·exact (VC.zy h).elim
  ·exact (VC.zy h).elim
end
end
noncomputable section
section
variable {E : Ev} {P : Program}
theorem HpOk.kn {n : Nat} {w0 w : World} {F : List HP} {st : Kn E} {a : Act} {L : Env} (h : HpOk w0 F st w) (e : zN n a L) : KnOk n w0 F ⟨L,st.As,st.rd,st.ef,st.pr,st.vw⟩ a w := ⟨e,h.hp,h.fs.1,h.fs.2,h.fs.3,h.fs.4⟩
def idxC {R : Type} (st : Kn E) (c : Nat) (sb : Option Addr) (l : List (E.el c).α) (rdr : Bool) (x : Operand) (e : Nat) (K : Kn E -> VC R) : VC R :=
 match evO st.L x with
 | some (.int _ i) => .bind (mIdx l i) fun y => .frN fun b => .frN fun o => K ⟨st.L,st.As,st.rd,(e,⟨rdr,c,sb,l,i,y,b,o⟩) :: st.ef,st.pr,st.vw⟩
 | _ => .fail
def idkC {R : Type} (st : Kn E) (c : Nat) (sb : Option Addr) (l : List (E.el c).α) (rdr : Bool) (x : Operand) (e : Nat) (K : Kn E -> VC R) : VC R :=
 match evO st.L x with
 | some (.int _ i) => match mIdx l i with
  | some y => .frN fun b => .frN fun o => K ⟨st.L,st.As,st.rd,(e,⟨rdr,c,sb,l,i,y,b,o⟩) :: st.ef,st.pr,st.vw⟩
  | none => .fail
 | _ => .fail
def idkS {R : Type} (st : Kn E) (rdr : Bool) (q : Nat) (x : Operand) (e : Nat) (K : Kn E -> VC R) : VC R :=
 match rdr with
 | true => match getK q st.rd with
  | some r => idkC st r.c r.sb r.l true x e K
  | none => .fail
 | false => match getK q st.As with
  | some (.sl c T sb sc l) => idkC st c sb l false x e K
  | _ => .fail
def idxS {R : Type} (st : Kn E) (rdr : Bool) (q : Nat) (x : Operand) (e : Nat) (K : Kn E -> VC R) : VC R :=
 match rdr with
 | true => match getK q st.rd with
  | some r => idxC st r.c r.sb r.l true x e K
  | none => .fail
 | false => match getK q st.As with
  | some (.sl c T sb sc l) => idxC st c sb l false x e K
  | _ => .fail
def rlN {R : Type} (st : Kn E) (e : Nat) (K : Nat -> Nat -> VC R) : VC R :=
 match getK e st.ef,getK (e + 100000) st.ef with
 | some f,some g => match j4 f.c g.l with
  | some l => .req f.l (mSet l g.i f.x) (K l.length f.l.length)
  | none => .fail
 | _,_ => .fail
theorem iL {R : Type} {st : Kn E} {e : Nat} {K : Nat -> Nat -> VC R} {Φ : R -> Prop} (h : (rlN st e K).ok Φ) : ∃ n,(K n n).ok Φ := by
 unfold rlN at h;split at h
 ·split at h
  ·obtain ⟨h1,h2⟩ := h;rw [h1,ur] at h2;exact ⟨_,h2⟩
  ·exact (VC.zy h).elim
 ·exact (VC.zy h).elim
def rlcC {R : Type} (st : Kn E) (e q off : Nat) (K : Kn E -> VC R) : VC R := rlN st e fun n j => match nL q st.As with
 | some (.blk b T cs,rest) => match cs[off]? with
  | some (.slice sb m sc) => .req m n (K ⟨st.L,(q,.blk b T (cs.set off (.slice sb j sc))) :: rest,st.rd,st.ef,st.pr,st.vw⟩)
  | _ => .fail
 | _ => .fail
def rlsC {R : Type} (st : Kn E) (e t : Nat) (K : Kn E -> VC R) : VC R := rlN st e fun n j => match look t st.L with
 | some (.slice sb m sc) => .req m n (K ⟨(t,.slice sb j sc) :: st.L,st.As,st.rd,st.ef,st.pr,st.vw⟩)
 | _ => .fail
def opI (L : Env) : Option Operand -> Option (Option Int)
 | none => some none
 | some x => match evO L x with
  | some (.int _ i) => some (some i)
  | _ => none
def cutC {R : Type} (st : Kn E) (c : Nat) (sb : Option Addr) (sc : Nat) (l : List (E.el c).α) (lo hi : Option Int) (K : VwV E -> VC R) : VC R :=
 .bind (mCut l (loI lo) (hiI l.length hi)) fun r => .frA fun sb' => .frN fun sc' => K ⟨c,sb,sc,l,lo,hi,sb',sc',r⟩
def cutS {R : Type} (st : Kn E) (rdr : Bool) (q : Nat) (lo hi : Option Operand) (v : Nat) (K : Kn E -> VC R) : VC R :=
 match opI st.L lo,opI st.L hi with
 | some lo,some hi => match rdr with
  | true => match getK q st.rd with
   | some r => cutC st r.c r.sb r.sc r.l lo hi fun u => K ⟨st.L,st.As,(v,⟨u.c,u.sb',u.sc',u.r⟩) :: st.rd,st.ef,st.pr,(v,.cut u) :: st.vw⟩
   | none => .fail
  | false => match getK q st.As with
   | some (.sl c T sb sc l) => cutC st c sb sc l lo hi fun u => K ⟨st.L,st.As,st.rd,st.ef,st.pr,(v,.cut u) :: st.vw⟩
   | _ => .fail
 | _,_ => .fail
def ownS {R : Type} (st : Kn E) (v q : Nat) (K : Kn E -> VC R) : VC R :=
 match getK v st.vw,nL q st.As with
 | some (.cut u),some (.sl c T sb sc l,rest) => .req (Atom.sl (E := E) c T sb sc l) (.sl u.c T u.sb u.sc u.l) (K ⟨st.L,(q,.sl u.c T u.sb' u.sc' u.r) :: rest,st.rd,st.ef,st.pr,st.vw⟩)
 | _,_ => .fail
def A8 {R : Type} (st : Kn E) (q m : Nat) (K : Kn E -> VC R) : VC R :=
 match getK q st.As with
 | some (.sl c T sb sc l) => .bind (nH l.length m) fun _ => K ⟨st.L,st.As,st.rd,st.ef,(79,l.length = m) :: st.pr,st.vw⟩
 | _ => .fail
def rlpS {R : Type} (st : Kn E) (t q : Nat) (K : Kn E -> VC R) : VC R :=
 match getK q st.As,getK 78 st.pr,look t st.L with
 | some (.sl c T sb sc l),some p,some (.slice sb' n sc') => .req p (l.length = n) (K ⟨(t,.slice sb' l.length sc') :: st.L,st.As,st.rd,st.ef,st.pr,st.vw⟩)
 | _,_,_ => .fail
def rlqS {R : Type} (st : Kn E) (b off q : Nat) (K : Kn E -> VC R) : VC R :=
 match getK q st.As,getK 78 st.pr,nL b st.As with
 | some (.sl c T sb sc l),some p,some (.blk r T' cs,rest) => match cs[off]? with
  | some (.slice sb' n sc') => .req p (l.length = n) (K ⟨st.L,(b,.blk r T' (cs.set off (.slice sb' l.length sc'))) :: rest,st.rd,st.ef,st.pr,st.vw⟩)
  | _ => .fail
 | _,_,_ => .fail
def pixS {R : Type} (st : Kn E) (q off n c : Nat) (x : Operand) (e : Nat) (K : Kn E -> VC R) : VC R :=
 match getK q st.As,evO st.L x with
 | some (.blk b T cs),some (.int _ i) => match dP (E.el c) n (cs.drop off) with
  | some xs => .bind (mIdx xs i) fun y => K ⟨st.L,st.As,st.rd,(e,⟨false,c,some ⟨b,off,none⟩,xs,i,y,b,off⟩) :: st.ef,(e,0 <= i /\ i < ((xs.length : Nat) : Int)) :: st.pr,st.vw⟩
  | none => .fail
 | _,_ => .fail
theorem eU {R : Type} {z : Nat} {w0 w : World} {F : List HP} {st : Kn E} {a : Act} {Φ : R -> Prop} {q off n c : Nat} {x : Operand} {e : Nat} {K : Kn E -> VC R} (j : KnOk z w0 F st a w) (h : (pixS st q off n c x e K).ok Φ) : ∃ t,KnOk z w0 F t a w /\ (K t).ok Φ := by
 unfold pixS at h;split at h
 ·rename_i b T cs k i h1 h2;split at h
  ·rename_i xs A;obtain ⟨y,u,h3⟩ := h;refine ⟨⟨st.L,st.As,st.rd,(e,⟨false,c,some ⟨b,off,none⟩,xs,i,y,b,off⟩) :: st.ef,(e,0 <= i /\ i < ((xs.length : Nat) : Int)) :: st.pr,st.vw⟩,⟨j.env,j.hp,j.fs.1,?_,?_,j.fs.4⟩,h3⟩
   ·intro p hp;cases hp with
    | head => exact ⟨rfl,u,fun h => by cases h⟩
    | tail _ hm => exact j.fs.2 p hm
   ·intro p hp;cases hp with
    | head => exact gF u
    | tail _ hm => exact j.fs.3 p hm
  ·exact (VC.zy h).elim
 ·exact (VC.zy h).elim
def elS {R : Type} (st : Kn E) (t e : Nat) (K : Kn E -> VC R) : VC R :=
 match getK e st.ef,look t st.L with
 | some f,some V => .req V (.pointer (some ⟨f.b,f.o + f.i.toNat * (E.el f.c).sz,none⟩)) (K ⟨(t,elemV f.sb (E.el f.c).sz (some f.i)) :: st.L,st.As,st.rd,(99999,f) :: st.ef,st.pr,st.vw⟩)
 | _,_ => .fail
def ghost {R : Type} (st : Kn E) (s : Stp E P) (K : Kn E -> VC R) : VC R :=
 match s with
 | .idx rdr q x e => idxS st rdr q x e K
 | .gd k x j => match evO st.L x with
  | some (.int _ v) => match k with
   | 0 => .bind (mNz v) fun _ => K ⟨st.L,st.As,st.rd,st.ef,(j,v ≠ 0) :: st.pr,st.vw⟩
   | 1 => .bind (mNn v) fun _ => K ⟨st.L,st.As,st.rd,st.ef,(j,0 <= v) :: st.pr,st.vw⟩
   | m + 2 => .bind (mIn v m) fun _ => K ⟨st.L,st.As,st.rd,st.ef,(j,0 <= v /\ v < ((m : Nat) : Int)) :: st.pr,st.vw⟩
  | _ => .fail
 | .idk rdr q x e => idkS st rdr q x e K
 | .nil q c T => K ⟨st.L,(q,.sl c T none 0 []) :: st.As,st.rd,st.ef,st.pr,st.vw⟩
 | .rlc e q off => rlcC st e q off K
 | .rls e t => rlsC st e t K
 | .cut rdr q lo hi v => cutS st rdr q lo hi v K
 | .own v q => ownS st v q K
 | .el t e => elS st t e K
 | .same q m => A8 st q m K
 | .rlp t q => rlpS st t q K
 | .rlq b off q => rlqS st b off q K
 | .pix q off n c x e => pixS st q off n c x e K
 | _ => .fail
def bM (n : Nat) : Option Tmp -> Bool
 | none => true
 | some d => Nat.blt d n
def putE (d : Option Tmp) (v : Value) (L : Env) : Env := match d with
 | none => L
 | some d => (d,v) :: L
def Bd {R : Type} (n : Nat) (ops : Array Oper) (i : Nat) (st : Kn E) (s : Stp E P) (K : Nat -> Kn E -> VC R) : VC R :=
 match s with
 | .seg c l => match Nat.ble (i + c) ops.size,srcs st l with
  | true,some (z,obs,eqs) => match oa P n ops (List.range' i c) st.L z with
   | some (L',y) => .req y obs (.req (eqs.map (·.1)) (eqs.map (·.2)) (K (i + c) ⟨L',st.As,st.rd,st.ef,st.pr,st.vw⟩))
   | none => .fail
  | _,_ => .fail
 | .idx rdr q x e => ghost (P := P) st (.idx rdr q x e) fun u => K i u
 | .gd k x j => ghost (P := P) st (.gd k x j) fun u => K i u
 | .idk rdr q x e => ghost (P := P) st (.idk rdr q x e) fun u => K i u
 | .nil q c T => ghost (P := P) st (.nil q c T) fun u => K i u
 | .rlc e q off => ghost (P := P) st (.rlc e q off) fun u => K i u
 | .rls e t => ghost (P := P) st (.rls e t) fun u => K i u
 | .cut rdr q lo hi v => ghost (P := P) st (.cut rdr q lo hi v) fun u => K i u
 | .own v q => ghost (P := P) st (.own v q) fun u => K i u
 | .el t e => ghost (P := P) st (.el t e) fun u => K i u
 | .same q m => ghost (P := P) st (.same q m) fun u => K i u
 | .rlp t q => ghost (P := P) st (.rlp t q) fun u => K i u
 | .rlq b off q => ghost (P := P) st (.rlq b off q) fun u => K i u
 | .pix q off m c x e => ghost (P := P) st (.pix q off m c x e) fun u => K i u
 | s => match ops[i]? with
  | none => .fail
  | some o => match uX ops st.L o with
   | some true => match bM n o.dst with
    | true => actO o st s fun v u => K (i + 1) ⟨putE o.dst v st.L,u.As,u.rd,u.ef,u.pr,u.vw⟩
    | false => .fail
   | _ => .fail
theorem kP {R : Type} {n : Nat} {w0 w : World} {F : List HP} {st : Kn E} {a : Act} {Φ : R -> Prop} {c : Nat} {sb : Option Addr} {l : List (E.el c).α} {rdr : Bool} {x : Operand} {e : Nat} {K : Kn E -> VC R} {X : HP} (t : KnOk n w0 F st a w)
  (hX : SlRd X (E.el c).enc (E.el c).sz sb l) (hm : X ∈ dens st.As ++ F) (hr : rdr = true -> X ∈ F) (h : (idxC st c sb l rdr x e K).ok Φ) : ∃ u,KnOk n w0 F u a w /\ (K u).ok Φ := by
 unfold idxC at h;split at h
 ·rename_i k i A;obtain ⟨y,z,h1⟩ := h;obtain ⟨j,hj⟩ := t.hp.mem hm;obtain ⟨b,o,hs,_⟩ := hX.base (E.el c).ok t.hp j hj z;refine ⟨⟨st.L,st.As,st.rd,(e,⟨rdr,c,sb,l,i,y,b,o⟩) :: st.ef,st.pr,st.vw⟩,⟨t.env,t.hp,t.fs.1,?_,t.fs.3,t.fs.4⟩,h1 b o⟩;intro p hp;cases hp with
  | head => exact ⟨hs,z,fun h => ⟨X,hr h,hX⟩⟩
  | tail _ hm => exact t.fs.2 p hm
 ·exact (VC.zy h).elim
theorem eM {R : Type} {n : Nat} {w0 w : World} {F : List HP} {st : Kn E} {a : Act} {Φ : R -> Prop} {rdr : Bool} {q : Nat} {x : Operand} {e : Nat} {K : Kn E -> VC R} (u : KnOk n w0 F st a w)
  (h : (idxS st rdr q x e K).ok Φ) : ∃ t,KnOk n w0 F t a w /\ (K t).ok Φ := by
 unfold idxS at h;split at h
 ·split at h
  ·rename_i r hr;obtain ⟨j,hj⟩ := wB hr;obtain ⟨X,hX,h1,_⟩ := u.fs.1 _ hj;exact kP u h1 (List.mem_append_right _ hX) (fun _ => hX) h
  ·exact (VC.zy h).elim
 ·split at h
  ·rename_i c T sb sc l hq;exact kP u (xe T (E.el c).enc (E.el c).sz sb sc l) (mL F (tj hq)) (fun h => by cases h) h
  ·exact (VC.zy h).elim
theorem kO {R : Type} {n : Nat} {w0 w : World} {F : List HP} {st : Kn E} {a : Act} {Φ : R -> Prop} {c : Nat} {sb : Option Addr} {l : List (E.el c).α} {rdr : Bool} {x : Operand} {e : Nat} {K : Kn E -> VC R} {X : HP} (t : KnOk n w0 F st a w)
  (hX : SlRd X (E.el c).enc (E.el c).sz sb l) (hm : X ∈ dens st.As ++ F) (hr : rdr = true -> X ∈ F) (h : (idkC st c sb l rdr x e K).ok Φ) : ∃ u,KnOk n w0 F u a w /\ (K u).ok Φ := by
 unfold idkC at h;split at h
 ·rename_i k i A;split at h
  ·rename_i y z;obtain ⟨j,hj⟩ := t.hp.mem hm;obtain ⟨b,o,hs,_⟩ := hX.base (E.el c).ok t.hp j hj z;refine ⟨⟨st.L,st.As,st.rd,(e,⟨rdr,c,sb,l,i,y,b,o⟩) :: st.ef,st.pr,st.vw⟩,⟨t.env,t.hp,t.fs.1,?_,t.fs.3,t.fs.4⟩,h b o⟩;intro p hp;cases hp with
   | head => exact ⟨hs,z,fun h => ⟨X,hr h,hX⟩⟩
   | tail _ hm => exact t.fs.2 p hm
  ·exact (VC.zy h).elim
 ·exact (VC.zy h).elim
theorem eK {R : Type} {n : Nat} {w0 w : World} {F : List HP} {st : Kn E} {a : Act} {Φ : R -> Prop} {rdr : Bool} {q : Nat} {x : Operand} {e : Nat} {K : Kn E -> VC R} (u : KnOk n w0 F st a w)
  (h : (idkS st rdr q x e K).ok Φ) : ∃ t,KnOk n w0 F t a w /\ (K t).ok Φ := by
 unfold idkS at h;split at h
 ·split at h
  ·rename_i r hr;obtain ⟨j,hj⟩ := wB hr;obtain ⟨X,hX,h1,_⟩ := u.fs.1 _ hj;exact kO u h1 (List.mem_append_right _ hX) (fun _ => hX) h
  ·exact (VC.zy h).elim
 ·split at h
  ·rename_i c T sb sc l hq;exact kO u (xe T (E.el c).enc (E.el c).sz sb sc l) (mL F (tj hq)) (fun h => by cases h) h
  ·exact (VC.zy h).elim
theorem eW {R : Type} {n : Nat} {w0 w : World} {F : List HP} {st : Kn E} {a : Act} {Φ : R -> Prop} {e q off : Nat} {K : Kn E -> VC R} (t : KnOk n w0 F st a w) (h : (rlcC st e q off K).ok Φ) : ∃ u,KnOk n w0 F u a w /\ (K u).ok Φ := by
 obtain ⟨m,h⟩ := iL h;split at h
 ·rename_i b T cs rest hq;split at h
  ·rename_i sb z sc y;obtain ⟨rfl,h2⟩ := h;have x : cs.set off (.slice sb z sc) = cs := by
    apply List.ext_getElem?;intro j;rw [List.getElem?_set];split
    ·subst_vars
     split
     ·exact y.symm
     ·rename_i h3;simp only [List.getElem?_eq_none (Nat.le_of_not_lt h3)]
    ·rfl
   rw [x] at h2;refine ⟨⟨st.L,(q,.blk b T cs) :: rest,st.rd,st.ef,st.pr,st.vw⟩,⟨t.env,?_,t.fs.1,t.fs.2,t.fs.3,t.fs.4⟩,h2⟩;exact t.hp.perm ((uY hq).append_right F)
  ·exact (VC.zy h).elim
 ·exact (VC.zy h).elim
theorem da {R : Type} {n : Nat} {w0 w : World} {F : List HP} {st : Kn E} {a : Act} {Φ : R -> Prop} {e t : Nat} {K : Kn E -> VC R} (j : KnOk n w0 F st a w) (h : (rlsC st e t K).ok Φ) : ∃ x,KnOk n w0 F x a w /\ (K x).ok Φ := by
 obtain ⟨m,h⟩ := iL h;split at h
 ·rename_i sb z sc y;obtain ⟨rfl,h2⟩ := h;refine ⟨⟨(t,.slice sb z sc) :: st.L,st.As,st.rd,st.ef,st.pr,st.vw⟩,⟨⟨j.env.size,j.env.defers,fun u v hv => ?_⟩,j.hp,j.fs.1,j.fs.2,j.fs.3,j.fs.4⟩,h2⟩;rw [vv] at hv;split at hv
  ·subst_vars; cases hv; exact j.env.has _ _ y
  ·exact j.env.has _ _ hv
 ·exact (VC.zy h).elim
theorem kE {R : Type} {st : Kn E} {c : Nat} {sb : Option Addr} {sc : Nat} {l : List (E.el c).α} {lo hi : Option Int} {K : VwV E -> VC R} {Φ : R -> Prop} (e : l.length <= sc) (h : (cutC st c sb sc l lo hi K).ok Φ) :
  ∃ u : VwV E,u.holds /\ (∀ X,SlRd X (E.el c).enc (E.el c).sz sb l -> SlRd X (E.el u.c).enc (E.el u.c).sz u.sb' u.r) /\ u.r.length <= u.sc' /\ (K u).ok Φ := by
 obtain ⟨r,hr,h⟩ := h;have h2 := h (yF sb sc (loI lo).toNat (E.el c).sz) (sc - (loI lo).toNat);exact ⟨_,⟨hr,rfl,rfl,e⟩,fun X hX => hX.cut' (E.el c).ok hr e rfl,bH hr e rfl,h2⟩
theorem eF {R : Type} {n : Nat} {w0 w : World} {F : List HP} {st : Kn E} {a : Act} {Φ : R -> Prop} {rdr : Bool} {q : Nat} {lo hi : Option Operand} {v : Nat} {K : Kn E -> VC R} (e : KnOk n w0 F st a w) (h : (cutS st rdr q lo hi v K).ok Φ) : ∃ t,KnOk n w0 F t a w /\ (K t).ok Φ := by
 unfold cutS at h;split at h
 ·rename_i D B _ _;split at h
  ·split at h
   ·rename_i r hr;obtain ⟨j,hj⟩ := wB hr;obtain ⟨X,hX,h1,h2⟩ := e.fs.1 _ hj;obtain ⟨s1,s2,hs⟩ := List.append_of_mem (List.mem_append_right (dens st.As) hX);have y : r.l.length <= r.sc := by
     have z := e.hp;rw [hs] at z;exact St.fact (z.perm List.perm_middle) h2
    obtain ⟨u,h3,h4,A,x⟩ := kE y h;refine ⟨⟨st.L,st.As,(v,⟨u.c,u.sb',u.sc',u.r⟩) :: st.rd,st.ef,st.pr,(v,.cut u) :: st.vw⟩,⟨e.env,e.hp,?_,e.fs.2,e.fs.3,?_⟩,x⟩
    ·intro p hp;cases hp with
     | head => exact ⟨X,hX,h4 X h1,fun _ _ => A⟩
     | tail _ hm => exact e.fs.1 p hm
    ·intro p hp;cases hp with
     | head => exact h3
     | tail _ hm => exact e.fs.4 p hm
   ·exact (VC.zy h).elim
  ·split at h
   ·rename_i c T sb sc l hq;obtain ⟨j,hj⟩ := e.hp.mem (mL F (tj hq));have y : l.length <= sc := (e.hp.nZ j hj).1;obtain ⟨u,h3,h4,A,x⟩ := kE y h;refine ⟨⟨st.L,st.As,st.rd,st.ef,st.pr,(v,.cut u) :: st.vw⟩,⟨e.env,e.hp,e.fs.1,e.fs.2,e.fs.3,?_⟩,x⟩;intro p hp;cases hp with
    | head => exact h3
    | tail _ hm => exact e.fs.4 p hm
   ·exact (VC.zy h).elim
 ·exact (VC.zy h).elim
theorem eR {R : Type} {n : Nat} {w0 w : World} {F : List HP} {st : Kn E} {a : Act} {Φ : R -> Prop} {v q : Nat} {K : Kn E -> VC R} (t : KnOk n w0 F st a w) (h : (ownS st v q K).ok Φ) : ∃ x,KnOk n w0 F x a w /\ (K x).ok Φ := by
 unfold ownS at h;split at h
 ·rename_i u c T sb sc l rest h1 h2;obtain ⟨e,h3⟩ := h;obtain ⟨j,hj⟩ := wB h1;obtain ⟨g1,g2,g3,g4⟩ : u.holds := t.fs.4 _ hj;have H := t.hp.perm ((uY h2).append_right F);rw [e] at H;have H : St w0 (Sl T (E.el u.c).enc (E.el u.c).sz u.sb u.sc u.l :: (dens rest ++ F)) w := H;exact ⟨⟨st.L,(q,.sl u.c T u.sb' u.sc' u.r) :: rest,st.rd,st.ef,st.pr,st.vw⟩,⟨t.env,H.ba (E.el u.c).ok g1 g2 g3,t.fs.1,t.fs.2,t.fs.3,t.fs.4⟩,h3⟩
 ·exact (VC.zy h).elim
theorem dW {R : Type} {n : Nat} {w0 w : World} {F : List HP} {st : Kn E} {a : Act} {Φ : R -> Prop} {t e : Nat} {K : Kn E -> VC R} (x : KnOk n w0 F st a w) (h : (elS st t e K).ok Φ) : ∃ y,KnOk n w0 F y a w /\ (K y).ok Φ := by
 unfold elS at h;split at h
 ·rename_i f V h1 h2;obtain ⟨rfl,h3⟩ := h;obtain ⟨j,hj⟩ := wB h1;have hf := x.fs.2 _ hj;refine ⟨⟨(t,elemV f.sb (E.el f.c).sz (some f.i)) :: st.L,st.As,st.rd,(99999,f) :: st.ef,st.pr,st.vw⟩,⟨⟨x.env.size,x.env.defers,fun u v hv => ?_⟩,x.hp,x.fs.1,?_,x.fs.3,x.fs.4⟩,h3⟩
  ·rw [vv] at hv;split at hv
   ·subst_vars
    cases hv;rw [kF hf.1];exact x.env.has _ _ h2
   ·exact x.env.has _ _ hv
  ·intro p hp;cases hp with
   | head => exact hf
   | tail _ hm => exact x.fs.2 p hm
 ·exact (VC.zy h).elim
theorem gW {R : Type} {n : Nat} {w0 w : World} {F : List HP} {st : Kn E} {a : Act} {Φ : R -> Prop} {q m : Nat} {K : Kn E -> VC R} (e : KnOk n w0 F st a w) (h : (A8 st q m K).ok Φ) : ∃ j,KnOk n w0 F j a w /\ (K j).ok Φ := by
 unfold A8 at h;split at h
 ·rename_i c T sb sc l hq;obtain ⟨u,hu,h2⟩ := h;refine ⟨⟨st.L,st.As,st.rd,st.ef,(79,l.length = m) :: st.pr,st.vw⟩,⟨e.env,e.hp,e.fs.1,e.fs.2,fun p hp => ?_,e.fs.4⟩,h2⟩;cases hp with
  | head => exact cS hu
  | tail _ hm => exact e.fs.3 p hm
 ·exact (VC.zy h).elim
theorem eY {R : Type} {n : Nat} {w0 w : World} {F : List HP} {st : Kn E} {a : Act} {Φ : R -> Prop} {t q : Nat} {K : Kn E -> VC R} (x : KnOk n w0 F st a w) (h : (rlpS st t q K).ok Φ) : ∃ y,KnOk n w0 F y a w /\ (K y).ok Φ := by
 unfold rlpS at h;split at h
 ·rename_i c T sb sc l p sb' m sc' h1 h2 h3;obtain ⟨e,h4⟩ := h;obtain ⟨j,hj⟩ := wB h2;have hp : p := x.fs.3 _ hj;rw [e] at hp;refine ⟨⟨(t,.slice sb' l.length sc') :: st.L,st.As,st.rd,st.ef,st.pr,st.vw⟩,⟨⟨x.env.size,x.env.defers,fun u v hv => ?_⟩,x.hp,x.fs.1,x.fs.2,x.fs.3,x.fs.4⟩,h4⟩;rw [vv] at hv;split at hv
  ·subst_vars; cases hv; exact x.env.has _ _ h3
  ·exact x.env.has _ _ hv
 ·exact (VC.zy h).elim
theorem eZ {R : Type} {n : Nat} {w0 w : World} {F : List HP} {st : Kn E} {a : Act} {Φ : R -> Prop} {b off q : Nat} {K : Kn E -> VC R} (t : KnOk n w0 F st a w) (h : (rlqS st b off q K).ok Φ) : ∃ u,KnOk n w0 F u a w /\ (K u).ok Φ := by
 unfold rlqS at h;split at h
 ·rename_i c T sb sc l p r T' cs rest h1 h2 h3;split at h
  ·rename_i sb' m sc' z;obtain ⟨e,h4⟩ := h;obtain ⟨j,hj⟩ := wB h2;have hp : p := t.fs.3 _ hj;rw [e] at hp;have x : cs.set off (.slice sb' l.length sc') = cs := by
    apply List.ext_getElem?;intro i;rw [List.getElem?_set];split
    ·subst_vars
     split
     ·exact z.symm
     ·rename_i y; rw [List.getElem?_eq_none (Nat.le_of_not_lt y)]
    ·rfl
   rw [x] at h4;exact ⟨⟨st.L,(b,.blk r T' cs) :: rest,st.rd,st.ef,st.pr,st.vw⟩,⟨t.env,t.hp.perm ((uY h3).append_right F),t.fs.1,t.fs.2,t.fs.3,t.fs.4⟩,h4⟩
  ·exact (VC.zy h).elim
 ·exact (VC.zy h).elim
theorem xF {R : Type} {n : Nat} {w0 w : World} {F : List HP} {st : Kn E} {a : Act} {Φ : R -> Prop} {s : Stp E P} {K : Kn E -> VC R} (y : KnOk n w0 F st a w)
  (h : (ghost st s K).ok Φ) : ∃ z,KnOk n w0 F z a w /\ (K z).ok Φ := by
 cases s
 case idx rdr q x e => exact eM y h
 case idk rdr q x e => exact eK y h
 case rlc e q off => exact eW y h
 case rls e t => exact da y h
 case cut rdr q lo hi v => exact eF y h
 case own v q => exact eR y h
 case el t e => exact dW y h
 case same q m => exact gW y h
 case rlp t q => exact eY y h
 case rlq b off q => exact eZ y h
 case pix q off m c x e => exact eU y h
 case nil q c T => exact ⟨⟨st.L,(q,.sl c T none 0 []) :: st.As,st.rd,st.ef,st.pr,st.vw⟩,⟨y.env,St.bb T (E.el c).enc (E.el c).sz y.hp,y.fs.1,y.fs.2,y.fs.3,y.fs.4⟩,h⟩
 case gd k x j =>
  simp only [ghost] at h;split at h
  ·rename_i A v hv;split at h
   ·obtain ⟨u,hu,h2⟩ := h;refine ⟨⟨st.L,st.As,st.rd,st.ef,(j,v ≠ 0) :: st.pr,st.vw⟩,⟨y.env,y.hp,y.fs.1,y.fs.2,fun p hp => ?_,y.fs.4⟩,h2⟩;cases hp with
    | head => exact AX hu
    | tail _ hm => exact y.fs.3 p hm
   ·obtain ⟨u,hu,h2⟩ := h;refine ⟨⟨st.L,st.As,st.rd,st.ef,(j,0 <= v) :: st.pr,st.vw⟩,⟨y.env,y.hp,y.fs.1,y.fs.2,fun p hp => ?_,y.fs.4⟩,h2⟩;cases hp with
    | head => exact AV hu
    | tail _ hm => exact y.fs.3 p hm
   ·rename_i m;obtain ⟨u,hu,h2⟩ := h;refine ⟨⟨st.L,st.As,st.rd,st.ef,(j,0 <= v /\ v < ((m : Nat) : Int)) :: st.pr,st.vw⟩,⟨y.env,y.hp,y.fs.1,y.fs.2,fun p hp => ?_,y.fs.4⟩,h2⟩;cases hp with
    | head => exact jw hu
    | tail _ hm => exact y.fs.3 p hm
  ·exact (VC.zy h).elim
 all_goals exact (VC.zy h).elim
theorem fk {R : Type} {f : FuncId} {n : Nat} {w0 w : World} {F : List HP} {st : Kn E} {a : Act} {Φ : R -> Prop} {ops : Array Oper} {i : Nat} {s : Stp E P} {K : Nat -> Kn E -> VC R} {k : List Item} {Q : Value -> World -> Prop}
  (y : KnOk n w0 F st a w) (h : (Bd n ops i st s K).ok Φ) (hk : ∀ S u a' w',KnOk n w0 F u a' w' -> (K S u).ok Φ -> WR P f ops S k a' w' Q) : WR P f ops i k a w Q := by
 have act : ∀ s : Stp E P,((match ops[i]? with
  | none => .fail
  | some o => match uX ops st.L o with
   | some true => match bM n o.dst with
    | true => actO o st s fun v u => K (i + 1) ⟨putE o.dst v st.L,u.As,u.rd,u.ef,u.pr,u.vw⟩
    | false => .fail
   | _ => .fail : VC R)).ok Φ -> WR P f ops i k a w Q := by
  intro s h;split at h
  ·exact (VC.zy h).elim
  ·rename_i o O;split at h
   ·rename_i hw;split at h
    ·rename_i hn;have J := ky y h;cases hd : o.dst with
     | none =>
      refine WR.eff0 y.env O hd hw J ?_;rintro v w' ⟨u,Y,B,h2⟩ a' A;rw [hd] at h2;exact hk _ _ _ _ (B.kn A) h2
     | some d =>
      rw [hd] at hn;refine WR.eff y.env O hd hn hw J ?_;rintro v w' ⟨u,Y,B,h2⟩ a' A;rw [hd] at h2;exact hk _ _ _ _ (B.kn A) h2
    ·exact (VC.zy h).elim
   ·exact (VC.zy h).elim
 cases s with
 | seg c l =>
  simp only [Bd] at h;split at h
  ·rename_i Z obs eqs h1 h2;split at h
   ·rename_i L' U h3;obtain ⟨rfl,h4,X⟩ := h;have hj := Nat.le_of_ble_eq_true h1;unfold WR;have hr : List.range' i (ops.size - i) = List.range' i c ++ List.range' (i + c) (ops.size - (i + c)) := by
     have W : ops.size - i = c + (ops.size - (i + c)) := by omega
     rw [W,<- List.range'_append_1]
    rw [hr];refine mO _ _ _ _ _ _ y.env h3 (sL y h2 (kH h4)) fun a' I => ?_
    exact hk _ ⟨L',st.As,st.rd,st.ef,st.pr,st.vw⟩ _ _ ⟨I,y.hp,y.fs.1,y.fs.2,y.fs.3,y.fs.4⟩ X
   ·exact (VC.zy h).elim
  ·exact (VC.zy h).elim
 | idx rdr q x e =>
  obtain ⟨u,h1,h2⟩ := xF (P := P) (s := .idx rdr q x e) (K := fun u => K i u) y h;exact hk _ _ _ _ h1 h2
 | idk rdr q x e =>
  obtain ⟨u,h1,h2⟩ := xF (P := P) (s := .idk rdr q x e) (K := fun u => K i u) y h;exact hk _ _ _ _ h1 h2
 | nil q c T =>
  obtain ⟨u,h1,h2⟩ := xF (P := P) (s := .nil q c T) (K := fun u => K i u) y h;exact hk _ _ _ _ h1 h2
 | rlc e q off =>
  obtain ⟨u,h1,h2⟩ := xF (P := P) (s := .rlc e q off) (K := fun u => K i u) y h;exact hk _ _ _ _ h1 h2
 | rls e t =>
  obtain ⟨u,h1,h2⟩ := xF (P := P) (s := .rls e t) (K := fun u => K i u) y h;exact hk _ _ _ _ h1 h2
 | cut rdr q lo hi v =>
  obtain ⟨u,h1,h2⟩ := xF (P := P) (s := .cut rdr q lo hi v) (K := fun u => K i u) y h;exact hk _ _ _ _ h1 h2
 | own v q =>
  obtain ⟨u,h1,h2⟩ := xF (P := P) (s := .own v q) (K := fun u => K i u) y h;exact hk _ _ _ _ h1 h2
 | el t e =>
  obtain ⟨u,h1,h2⟩ := xF (P := P) (s := .el t e) (K := fun u => K i u) y h;exact hk _ _ _ _ h1 h2
 | same q m =>
  obtain ⟨u,h1,h2⟩ := xF (P := P) (s := .same q m) (K := fun u => K i u) y h;exact hk _ _ _ _ h1 h2
 | rlp t q =>
  obtain ⟨u,h1,h2⟩ := xF (P := P) (s := .rlp t q) (K := fun u => K i u) y h;exact hk _ _ _ _ h1 h2
 | rlq b off q =>
  obtain ⟨u,h1,h2⟩ := xF (P := P) (s := .rlq b off q) (K := fun u => K i u) y h;exact hk _ _ _ _ h1 h2
 | pix q off m c x e =>
  obtain ⟨u,h1,h2⟩ := xF (P := P) (s := .pix q off m c x e) (K := fun u => K i u) y h;exact hk _ _ _ _ h1 h2
 | gd c x j =>
  obtain ⟨u,h1,h2⟩ := xF (P := P) (s := .gd c x j) (K := fun u => K i u) y h;exact hk _ _ _ _ h1 h2
 | new q l => exact act _ h
 | sto q => exact act _ h
 | call C l out => exact act _ h
 | bld q c T => exact act _ h
 | app q s => exact act _ h
 | sset q e j => exact act _ h
 | mk q c T => exact act _ h
 | eqs D => exact act _ h
 | mnew q c => exact act _ h
 | mget q c kt hk z => exact act _ h
 | mput q c kt hk => exact act _ h
 | mdel q c kt hk => exact act _ h
inductive Md
 | run (t : List Item)
 | reg (ops : Array Oper) (i : Nat) (k : List Item)
 | drw (ops : Array Oper) (dn : List Nat) (pend : List (Nat × List Ob)) (k : List Item)
def Md.Runs (P : Program) (f : FuncId) (base : List Item) (a : Act) (w : World) (Q : Value -> World -> Prop) : Md -> Prop
 | .run t => Th.Runs P f (t ++ base) a w Q
 | .reg ops i k => WR P f ops i (k ++ base) a w Q
 | .drw ops dn pend k => WQ P f ops dn pend (k ++ base) a w Q
def norm : Nat -> List Item -> Option Md
 | 0,_ => none
 | g + 1,t => match t with
  | .code (.seq x y) :: k => norm g (.code x :: .code y :: k)
  | .code .skip :: k => norm g k
  | .code (.label _) :: k => norm g k
  | .code (.exit id) :: k => match exitTo id k with
   | some e => norm g e
   | none => none
  | .code (.region _ ops false) :: k => match Nat.beq ops.size 0 with
   | true => norm g k
   | false => some (.reg ops 0 k)
  | .inBlock _ :: k => norm g k
  | t => some (.run t)
theorem nB {base : List Item} : ∀ {id : Nat} {k e : List Item},exitTo id k = some e -> exitTo id (k ++ base) = some (e ++ base)
 | id,[],e,h => by simp [exitTo] at h
 | id,x :: k,e,h => by
  cases x
  case inBlock j =>
   simp only [exitTo,List.cons_append] at h ⊢;split at h
   ·rename_i hj; cases h; rw [if_pos hj]
   ·rename_i hj; rw [if_neg hj]; exact nB h
  all_goals
   simp only [exitTo,List.cons_append] at h ⊢;exact nB h
theorem yV {f : FuncId} {a : Act} {w : World} {Q : Value -> World -> Prop} {base : List Item} : ∀ (g : Nat) {t : List Item} {md : Md},norm g t = some md -> md.Runs P f base a w Q -> Th.Runs P f (t ++ base) a w Q
 | 0,t,md,h,_ => by simp [norm] at h
 | g + 1,t,md,h,hr => by
  unfold norm at h;split at h
  ·exact .seq (yV g h hr)
  ·exact .skip (yV g h hr)
  ·exact .label (yV g h hr)
  ·split at h
   ·rename_i j hk;exact .exit (nB hk) (yV g h hr)
   ·cases h
  ·split at h
   ·rename_i h0;have e := Nat.eq_of_beq_eq_true h0;exact .region (WR.done (by rw [e]; rfl) (yV g h hr))
   ·cases h; exact .region hr
  ·exact .inBlock (yV g h hr)
  ·cases h; exact hr
def Bc {R : Type} (n : Nat) (ops : Array Oper) (dn : List Nat) (pend : List (Nat × List Ob)) (st : Kn E) (is : List Nat) (l : List Src) (K : List Nat -> List (Nat × List Ob) -> Kn E -> VC R) : VC R :=
 match (Nat.ble (dn.length + is.length) ops.size && jQ ops is (uu dn)),srcs st l with
 | true,some (j,obs,eqs) => match oa P n ops is st.L j with
  | some (L',e) => .req e obs (.req (eqs.map (·.1)) (eqs.map (·.2)) (K (dn ++ is) (segP P n ops is st.L j pend) ⟨L',st.As,st.rd,st.ef,st.pr,st.vw⟩))
  | none => .fail
 | _,_ => .fail
def iP {R : Type} (n : Nat) (ops : Array Oper) (dn : List Nat) (pend : List (Nat × List Ob)) (st : Kn E) (j : Nat) (x : Stp E P) (l : List Src) (K : List Nat -> List (Nat × List Ob) -> Kn E -> VC R) : VC R :=
 match ops[j]? with
 | some o => match uX ops st.L o,bM n o.dst with
  | some true,true => actO o st x fun v e => match srcs ⟨putE o.dst v st.L,e.As,e.rd,e.ef,e.pr,e.vw⟩ l with
   | some (_,obs,eqs) => .req (sZ ops j pend) obs (.req (eqs.map (·.1)) (eqs.map (·.2)) (K (dn ++ [j]) (oc ops j pend) ⟨putE o.dst v st.L,e.As,e.rd,e.ef,e.pr,e.vw⟩))
   | none => .fail
  | _,_ => .fail
 | none => .fail
def Bb {R : Type} (n : Nat) (ops : Array Oper) (dn : List Nat) (pend : List (Nat × List Ob)) (st : Kn E) (j : Nat) (x : Stp E P) (l : List Src) (K : List Nat -> List (Nat × List Ob) -> Kn E -> VC R) : VC R :=
 match (Nat.blt dn.length ops.size && eqL (ua (uu dn) 0 ops.toList) [j]) with
 | true => iP n ops dn pend st j x l K
 | false => .fail
theorem fj {R : Type} {f : FuncId} {n : Nat} {w0 w : World} {F : List HP} {st : Kn E} {a : Act} {Φ : R -> Prop} {ops : Array Oper} {dn : List Nat} {pend : List (Nat × List Ob)} {is : List Nat} {l : List Src} {K : List Nat -> List (Nat × List Ob) -> Kn E -> VC R} {k : List Item} {Q : Value -> World -> Prop}
  (t : KnOk n w0 F st a w) (h : (Bc (P := P) n ops dn pend st is l K).ok Φ) (hk : ∀ u j y a',KnOk n w0 F y a' w -> (K u j y).ok Φ -> WQ P f ops u j k a' w Q) : WQ P f ops dn pend k a w Q := by
 unfold Bc at h;split at h
 ·rename_i D obs eqs h1 h2;split at h
  ·rename_i L' A h3;obtain ⟨rfl,h4,B⟩ := h;rw [Bool.and_eq_true] at h1;have hle := Nat.le_of_ble_eq_true h1.1;have e : ops.size - dn.length = is.length + (ops.size - (dn ++ is).length) := by simp; omega
   intro hs';show WP P f ops (ops.size - dn.length) dn pend k a w Q;rw [e];exact WP.segs hs' _ _ _ _ _ _ _ _ _ _ t.env (fun x => vY x dn) h1.2 h3 (sL t h2 (kH h4)) fun a' z => hk _ _ ⟨L',st.As,st.rd,st.ef,st.pr,st.vw⟩ _ ⟨z,t.hp,t.fs.1,t.fs.2,t.fs.3,t.fs.4⟩ B hs'
  ·exact (VC.zy h).elim
 ·exact (VC.zy h).elim
theorem tJ {R : Type} {f : FuncId} {n : Nat} {w0 w : World} {F : List HP} {st : Kn E} {a : Act} {Φ : R -> Prop} {ops : Array Oper} {dn : List Nat} {pend : List (Nat × List Ob)} {j : Nat} {x : Stp E P} {l : List Src} {K : List Nat -> List (Nat × List Ob) -> Kn E -> VC R} {k : List Item} {Q : Value -> World -> Prop}
  (A : KnOk n w0 F st a w) (h : (iP n ops dn pend st j x l K).ok Φ) (hk : ∀ y t e a' w',KnOk n w0 F e a' w' -> (K y t e).ok Φ -> WQ P f ops y t k a' w' Q) : AQ P f ops dn pend k a w Q j := by
 unfold iP at h;split at h
 ·rename_i o I;split at h
  ·rename_i hw hn;have D := ky A h;have fin : ∀ (v : Value) (w' : World) (e : Kn E) (a' : Act),HpOk w0 F e w' -> zN n a' (putE o.dst v st.L) -> ((match srcs ⟨putE o.dst v st.L,e.As,e.rd,e.ef,e.pr,e.vw⟩ l with
     | some (_,obs,eqs) => .req (sZ ops j pend) obs (.req (eqs.map (·.1)) (eqs.map (·.2)) (K (dn ++ [j]) (oc ops j pend) ⟨putE o.dst v st.L,e.As,e.rd,e.ef,e.pr,e.vw⟩))
     | none => .fail : VC R)).ok Φ -> wc w' (sZ ops j pend) /\ WQ P f ops (dn ++ [j]) (oc ops j pend) k a' w' Q := by
    intro v w' e a' u z h2;split at h2
    ·rename_i U obs eqs h3;obtain ⟨h4,J,O⟩ := h2;have B := u.kn z;rw [h4];exact ⟨sL B h3 (kH J),hk _ _ _ _ _ B O⟩
    ·exact (VC.zy h2).elim
   cases hd : o.dst with
   | none =>
    refine AQ.eff0 A.env I hd hw rfl D ?_;rintro v w' ⟨e,S,u,h2⟩;rw [hd] at fin;rw [hd] at h2;exact ⟨(fin v w' e a u A.env h2).1,fun a' z => (fin v w' e a' u z h2).2⟩
   | some d =>
    rw [hd] at hn;refine AQ.eff A.env I hd hn hw rfl D ?_;rintro v w' ⟨e,S,u,h2⟩;rw [hd] at fin;rw [hd] at h2;exact ⟨(fin v w' e (a.put (some d) v) u (A.env.put _ _ (by simpa [bM,Nat.blt_eq] using hn)) h2).1,fun a' z => (fin v w' e a' u z h2).2⟩
  ·exact (VC.zy h).elim
 ·exact (VC.zy h).elim
theorem fi {R : Type} {f : FuncId} {n : Nat} {w0 w : World} {F : List HP} {st : Kn E} {a : Act} {Φ : R -> Prop} {ops : Array Oper} {dn : List Nat} {pend : List (Nat × List Ob)} {j : Nat} {x : Stp E P} {l : List Src} {K : List Nat -> List (Nat × List Ob) -> Kn E -> VC R} {k : List Item} {Q : Value -> World -> Prop}
  (z : KnOk n w0 F st a w) (h : (Bb n ops dn pend st j x l K).ok Φ) (hk : ∀ t e u a' w',KnOk n w0 F u a' w' -> (K t e u).ok Φ -> WQ P f ops t e k a' w' Q) : WQ P f ops dn pend k a w Q := by
 unfold Bb at h;split at h
 ·rename_i h1;refine WQ.acts [j] h1 (by simp) fun x y => ?_
  simp only [List.mem_singleton] at y;subst y;exact tJ z h hk
 ·exact (VC.zy h).elim
end
end
noncomputable section
theorem St.AG {w0 w : World} {As : List HP} : ∀ {Bs : List HP},St w0 (Bs ++ As) w -> St w0 As w
 | [],H => H
 | B :: Bs,H => St.AG (Bs := Bs) (St.drop (by simpa using H))
section
variable {E : Ev} {P : Program}
def ju {α : Type} : List Nat -> List (Nat × α) -> Option (List α)
 | [],_ => some []
 | k :: ks,L => match getK k L,ju ks L with
  | some x,some r => some (x :: r)
  | _,_ => none
def kys {α : Type} : List (Nat × α) -> List Nat
 | [] => []
 | (k,_) :: r => k :: kys r
def reqS {R : Type} (L : Env) (As : List (Nat × Atom E)) (st : Kn E) (K : VC R) : VC R :=
 match sel (bP L) st.L,iE (kys As) st.As with
 | some L',some (ats,_) => .req L' L (.req ats (As.map (·.2)) K)
 | _,_ => .fail
theorem tH {R : Type} {n : Nat} {w0 w : World} {F : List HP} {st : Kn E} {a : Act} {Φ : R -> Prop} {L : Env} {As : List (Nat × Atom E)} {K : VC R} (e : KnOk n w0 F st a w) (h : (reqS L As st K).ok Φ) :
  zN n a L /\ St w0 (dens As ++ F) w /\ K.ok Φ := by
 unfold reqS at h;split at h
 ·rename_i L' ats rest h1 h2;obtain ⟨rfl,rfl,h3⟩ := h;refine ⟨qd e.env h1,?_,h3⟩;have H := e.hp.perm ((nt h2).append_right F);rw [aA] at H;have j := H.perm (show ((As.map (·.2)).map Atom.den ++ (dens rest ++ F)).Perm (dens rest ++ ((As.map (·.2)).map Atom.den ++ F)) by
   rw [<- aA,<- aA];exact List.Perm.append_right F List.perm_append_comm)
  exact j.AG
 ·exact (VC.zy h).elim
structure BCon (E : Ev) (R0 : Type) : Type 1 where
 code : Code
 X : Type
 V : Type
 T : Type
 W : Type
 cls : W -> R0 ⊕ T
 g : X -> V -> Option W
 rds : X -> List (Nat × RdV E)
 pL : X -> V -> List Nat -> List (Option Addr) -> Env
 pA : X -> V -> List Nat -> List (Option Addr) -> List (Nat × Atom E)
 mN : Nat
 mA : Nat
 qL : X -> T -> List Nat -> List (Option Addr) -> Env
 qA : X -> T -> List Nat -> List (Option Addr) -> List (Nat × Atom E)
def BCon.Sound {R0 : Type} (B : BCon E R0) (P : Program) (f : FuncId) (n : Nat) (retF : Kn E -> VC R0) : Prop := ∀ (Q : Value -> World -> Prop) (w0 : World) (F : List HP) (x : B.X) (v : B.V) (t : B.W) (A : List Nat) (z : List (Option Addr)) (a : Act) (w : World) (base : List Item),B.g x v = some t ->
 KnOk n w0 F ⟨B.pL x v A z,B.pA x v A z,B.rds x,[],[],[]⟩ a w ->
 (∀ u,B.cls t = .inr u -> ∀ j e a' w',j.length = B.mN -> e.length = B.mA -> zN n a' (B.qL x u j e) -> St w0 (dens (B.qA x u j e) ++ F) w' -> Runs P f base a' w' Q) ->
 (∀ r,B.cls t = .inl r -> ∀ y a' w' D,KnOk n w0 F y a' w' -> (retF y).ok (· = r) -> Runs P f (.code .ret :: D) a' w' Q) ->
 Runs P f (.code B.code :: base) a w Q
structure CS (E : Ev) (P : Program) (f : FuncId) (n : Nat) (R0 : Type) (retF : Kn E -> VC R0) : Type 1 where
 B : BCon E R0
 snd : B.Sound P f n retF
inductive Ct (E : Ev) (P : Program) (f : FuncId) (n : Nat) (R0 : Type) (retF : Kn E -> VC R0) : Type 1
 | leaf
 | s (x : Stp E P) (k : Ct E P f n R0 retF)
 | drw (k : Ct E P f n R0 retF)
 | rk (l : List (Nat × Nat)) (k : Ct E P f n R0 retF)
 | q (is : List Nat) (l : List Src) (k : Ct E P f n R0 retF)
 | a (j : Nat) (x : Stp E P) (l : List Src) (k : Ct E P f n R0 retF)
 | cond (x y : Ct E P f n R0 retF)
 | rI (x : Ct E P f n R0 retF)
 | tg (x : Ct E P f n R0 retF)
 | split (t : Nat) (x y : Ct E P f n R0 retF)
 | join (T : Type) (nN nA : Nat) (get : Kn E -> Option (T × List Nat × List (Option Addr))) (J : Kn E -> T -> List Nat -> List (Option Addr) -> Env × List (Nat × Atom E)) (x k : Ct E P f n R0 retF)
 | joinR (T : Type) (nN nA : Nat) (get : Kn E -> Option (T × List Nat × List (Option Addr))) (J : Kn E -> T -> List Nat -> List (Option Addr) -> Env × List (Nat × Atom E)) (x k : Ct E P f n R0 retF)
 | loop (B : CS E P f n R0 retF) (get : Kn E -> Option (B.B.X × B.B.V × List Nat × List (Option Addr))) (k : Ct E P f n R0 retF)
 | blk (k : Ct E P f n R0 retF)
 | unr (k : Ct E P f n R0 retF)
 | alt2 (i : Nat) (x : Stp E P) (l : List Src) (c : Ct E P f n R0 retF) (j : Nat) (y : Stp E P) (l' : List Src) (c' : Ct E P f n R0 retF)
 | alt3 (i : Nat) (x : Stp E P) (l : List Src) (c : Ct E P f n R0 retF) (j : Nat) (y : Stp E P) (l' : List Src) (c' : Ct E P f n R0 retF) (m : Nat) (z : Stp E P) (l'' : List Src) (c'' : Ct E P f n R0 retF)
 | jg (T : Type) (nN nA : Nat) (get : Kn E -> Option (T × List Nat × List (Option Addr))) (J : Kn E -> T -> List Nat -> List (Option Addr) -> Env × List (Nat × Atom E)) (x k : Ct E P f n R0 retF)
 | pj (t : Nat) (T : Type) (M : Mx T) (get : Kn E -> Option T) (J : Kn E -> T -> Env × List (Nat × Atom E)) (x y k : Ct E P f n R0 retF)
 | eo (t j q e : Nat) (x y : Ct E P f n R0 retF)
 | np (t j : Nat) (x y : Ct E P f n R0 retF)
 | ret
 | back
 | dead
abbrev Ct.g {E : Ev} {P : Program} {f : FuncId} {n : Nat} {R0 : Type} {retF : Kn E -> VC R0} (a : Nat) (k : Ct E P f n R0 retF) : Ct E P f n R0 retF := .s (.seg a []) k
def rb (b : Nat) (l : List Nat) : List (Nat × Nat) := l.zipIdx.map (fun p => (p.1,b + p.2)) ++ l.zipIdx.map (fun p => (b + p.2,b + p.2 + 90000))
def ren (l : List (Nat × Nat)) (k : Nat) : Nat := match getK k l with
 | some j => j
 | none => k
def renK (l : List (Nat × Nat)) : List (Nat × Atom E) -> List (Nat × Atom E)
 | [] => []
 | (k,a) :: r => (ren l k,a) :: renK l r
theorem iJ (l : List (Nat × Nat)) : ∀ As : List (Nat × Atom E),dens (renK l As) = dens As
 | [] => rfl
 | (k,a) :: r => by
  have := iJ l r;simp only [dens,renK,pC] at this ⊢;rw [this]
def nx {R : Type} (m : Option Md) (k : Md -> VC R) : VC R := match m with
 | some md => k md
 | none => .fail
def Md.cut : Md -> Option (Md × List Item)
 | .run (x :: k) => some (.run [x],k)
 | .run [] => none
 | .reg ops i k => some (.reg ops i [],k)
 | .drw ops dn pend k => some (.drw ops dn pend [],k)
def onD {R : Type} (ops : Array Oper) (dn : List Nat) (pend : List (Nat × List Ob)) (k : List Item) (K : Md -> VC R) : VC R :=
 match Nat.ble ops.size dn.length with
 | true => match eqL (ua (uu dn) 0 ops.toList) [] with
  | true => nx (norm 1000 k) K
  | false => .fail
 | false => K (.drw ops dn pend k)
def bG (j : Nat) (V : Value) : Option Value := match Nat.beq j 999 with
 | true => some V
 | false => match V with
  | .tuple vs => vs.toList[j]?
  | _ => none
def setV (j : Nat) (V : Value) (x : Value) : Value := match Nat.beq j 999 with
 | true => x
 | false => match V with
  | .tuple vs => .tuple (vs.toList.set j x).toArray
  | _ => V
theorem iN {j : Nat} {V x : Value} (h : bG j V = some x) : setV j V x = V := by
 unfold bG at h;unfold setV;split at h
 ·simp at h; exact h.symm
 ·split at h
  ·rename_i vs;show Value.tuple _ = _;have : vs.toList.set j x = vs.toList := by
    apply List.ext_getElem?;intro i;rw [List.getElem?_set];split
    ·subst_vars
     split
     ·exact h.symm
     ·rename_i h3; rw [List.getElem?_eq_none (Nat.le_of_not_lt h3)]
    ·rfl
   rw [this]
  ·cases h
def eoC {R : Type} (st : Kn E) (t j q e : Nat) (X Y : Kn E -> VC R) : VC R :=
 match getK 77 st.vw,look t st.L,getK q st.As with
 | some (.opt o),some V,some (.sl c T sb sc l) => match bG j V with
  | some v => .req v (elemV sb (E.el c).sz o) (.cs (oS o) (fun _ => X ⟨(t,setV j V (.pointer none)) :: st.L,st.As,st.rd,st.ef,st.pr,st.vw⟩) fun i =>
    .bind (mIdx l i) fun x => .frN fun b => .frN fun off => Y ⟨(t,setV j V (.pointer (some ⟨b,off + i.toNat * (E.el c).sz,none⟩))) :: st.L,st.As,st.rd,(e,⟨false,c,sb,l,i,x,b,off⟩) :: st.ef,st.pr,st.vw⟩)
  | none => .fail
 | _,_,_ => .fail
theorem zN.same {n : Nat} {a : Act} {L : Env} {t : Nat} {V : Value} (e : zN n a L) (h : look t L = some V) : zN n a ((t,V) :: L) := by
 refine ⟨e.size,e.defers,fun u v hv => ?_⟩;rw [vv] at hv;split at hv
 ·subst_vars; cases hv; exact e.has _ _ h
 ·exact e.has _ _ hv
theorem dX {R : Type} {n : Nat} {w0 w : World} {F : List HP} {st : Kn E} {a : Act} {Φ : R -> Prop} {t j q e : Nat} {X Y : Kn E -> VC R} (u : KnOk n w0 F st a w) (h : (eoC st t j q e X Y).ok Φ) : ∃ y,KnOk n w0 F y a w /\ ((X y).ok Φ \/ (Y y).ok Φ) := by
 unfold eoC at h;split at h
 ·rename_i o V c T sb sc l h1 h2 h3;split at h
  ·rename_i v hv;obtain ⟨rfl,h4,A⟩ := h;cases o with
   | none =>
    refine ⟨⟨(t,setV j V (.pointer none)) :: st.L,st.As,st.rd,st.ef,st.pr,st.vw⟩,⟨u.env.same (V := setV j V (.pointer none)) ?_,u.hp,u.fs.1,u.fs.2,u.fs.3,u.fs.4⟩,.inl (h4 () rfl)⟩;rw [h2]; exact congrArg some (iN hv).symm
   | some i =>
    obtain ⟨x,z,B⟩ := A i rfl;obtain ⟨D,hj⟩ := u.hp.mem (mL F (tj h3));obtain ⟨b,off,hs,_⟩ := (xe T (E.el c).enc (E.el c).sz sb sc l).base (E.el c).ok u.hp D hj z;rw [kF hs] at hv;refine ⟨⟨(t,setV j V (.pointer (some ⟨b,off + i.toNat * (E.el c).sz,none⟩))) :: st.L,st.As,st.rd,(e,⟨false,c,sb,l,i,x,b,off⟩) :: st.ef,st.pr,st.vw⟩,⟨u.env.same (V := setV j V (.pointer (some ⟨b,off + i.toNat * (E.el c).sz,none⟩))) ?_,u.hp,u.fs.1,?_,u.fs.3,u.fs.4⟩,.inr (B b off)⟩
    ·rw [h2]; exact congrArg some (iN hv).symm
    ·intro p hp;cases hp with
     | head => exact ⟨hs,z,fun h => by cases h⟩
     | tail _ hm => exact u.fs.2 p hm
  ·exact (VC.zy h).elim
 ·exact (VC.zy h).elim
def AF {R : Type} (u v : VC R) : VC R := .both u v v.mod
def exec {f : FuncId} {n : Nat} {R0 : Type} {retF : Kn E -> VC R0} : {R : Type} -> Ct E P f n R0 retF -> Md -> Kn E -> (R0 -> VC R) -> (Kn E -> VC R) -> (Code -> Nat -> Kn E -> VC R) -> VC R
 | _,.leaf,md,st,F,D,A => match md with
  | .run [] => D st
  | _ => .fail
 | _,.s x c,md,st,F,D,A => match md with
  | .reg ops i k => Bd n ops i st x fun i' O => match Nat.ble ops.size i' with
   | true => nx (norm 1000 k) fun I => exec c I O F D A
   | false => exec c (.reg ops i' k) O F D A
  | .drw ops dn pend k => ghost st x fun O => exec c (.drw ops dn pend k) O F D A
  | .run t => ghost st x fun O => exec c (.run t) O F D A
 | _,.dead,md,st,F,D,A => .fail
 | _,.rk l c,md,st,F,D,A => exec c md ⟨st.L,renK l st.As,st.rd,st.ef,st.pr,st.vw⟩ F D A
 | _,.drw c,md,st,F,D,A => match md with
  | .run (.code (.region _ ops true) :: k) => match rp ops with
   | true => exec c (.drw ops [] [] k) st F D A
   | false => .fail
  | _ => .fail
 | _,.q is l c,md,st,F,D,A => match md with
  | .drw ops dn pend k => Bc (P := P) n ops dn pend st is l fun U S O => onD ops U S k fun I => exec c I O F D A
  | _ => .fail
 | _,.a j x l c,md,st,F,D,A => match md with
  | .drw ops dn pend k => Bb n ops dn pend st j x l fun U S O => onD ops U S k fun I => exec c I O F D A
  | _ => .fail
 | _,.cond x y,md,st,F,D,A => match md with
  | .run (.code (.cond c u v) :: k) => match evO st.L c with
   | some (.bool b) => .ite b (nx (norm 1000 (.code u :: k)) fun I => exec x I st F D A) (nx (norm 1000 (.code v :: k)) fun I => exec y I st F D A)
   | _ => .fail
  | _ => .fail
 | _,.rI x,md,st,F,D,A => match md with
  | .run (.code (.cond c u v) :: k) => match evO st.L c with
   | some (.bool true) => nx (norm 1000 (.code u :: k)) fun I => exec x I st F D A
   | _ => .fail
  | _ => .fail
 | _,.tg x,md,st,F,D,A => match md with
  | .run (.code (.cond c u v) :: k) => match evO st.L c with
   | some (.bool false) => nx (norm 1000 (.code v :: k)) fun I => exec x I st F D A
   | _ => .fail
  | _ => .fail
 | _,.split t x y,md,st,F,D,A => match look t st.L with
  | some (.bool b) => .ite b (exec x md ⟨(t,.bool true) :: st.L,st.As,st.rd,st.ef,st.pr,st.vw⟩ F D A) (exec y md ⟨(t,.bool false) :: st.L,st.As,st.rd,st.ef,st.pr,st.vw⟩ F D A)
  | _ => .fail
 | _,.join T nN nA get J x k,md,st,F,D,A => match md.cut with
  | some (Y,rest) => .join (exec x Y st (fun _ => .fail) (fun O => match get O with
    | some (s,X,W) => match Nat.beq X.length nN,Nat.beq W.length nA with
     | true,true => reqS (J st s X W).1 (J st s X W).2 O (.ret (some s))
     | _,_ => .fail
    | none => .fail) (fun _ _ _ => .fail)) fun s => frNs nN fun X => frAs nA fun W => nx (norm 1000 rest) fun I => exec k I ⟨(J st s X W).1,(J st s X W).2,st.rd,st.ef,st.pr,st.vw⟩ F D A
  | none => .fail
 | _,.joinR T nN nA get J x k,md,st,F,D,A => match md.cut with
  | some (Y,rest) => .join (exec x Y st (fun r => .ret (some (.inl r))) (fun O => match get O with
    | some (s,X,W) => match Nat.beq X.length nN,Nat.beq W.length nA with
     | true,true => reqS (J st s X W).1 (J st s X W).2 O (.ret (some (Sum.inr s)))
     | _,_ => .fail
    | none => .fail) (fun _ _ _ => .fail)) fun s => .cs s F fun s => frNs nN fun X => frAs nA fun W => nx (norm 1000 rest) fun I => exec k I ⟨(J st s X W).1,(J st s X W).2,st.rd,st.ef,st.pr,st.vw⟩ F D A
  | none => .fail
 | _,.loop B get k,md,st,F,D,A => match md with
  | .run (.code c :: rest) => match get st with
   | some (x,v,X,W) => match ju (kys (B.B.rds x)) st.rd with
    | some rs => .req c B.B.code (.req rs ((B.B.rds x).map (·.2)) (reqS (B.B.pL x v X W) (B.B.pA x v X W) st (.bind (B.B.g x v) fun t => .cs (B.B.cls t) F fun u => frNs B.B.mN fun a0 => frAs B.B.mA fun Z =>
     nx (norm 1000 rest) fun I => exec k I ⟨B.B.qL x u a0 Z,B.B.qA x u a0 Z,st.rd,st.ef,st.pr,st.vw⟩ F D A)))
    | none => .fail
   | none => .fail
  | _ => .fail
 | _,.blk c,md,st,F,D,A => match md with
  | .run (.code (.block id b) :: k) => nx (norm 1000 (.code b :: .inBlock id :: k)) fun I => exec c I st F D A
  | _ => .fail
 | _,.unr c,md,st,F,D,A => match md with
  | .run (.code (.block id (.loop b)) :: k) => nx (norm 1000 (.code b :: .inLoop b :: .inBlock id :: k)) fun I => exec c I st F D A
  | .run (.inLoop b :: k) => nx (norm 1000 (.code b :: .inLoop b :: k)) fun I => exec c I st F D A
  | _ => .fail
 | _,.alt2 i x l c j y l' c',md,st,F,D,A => match md with
  | .drw ops dn pend k => match Nat.blt dn.length ops.size && eqL (ua (uu dn) 0 ops.toList) [i,j] with
   | true => AF (iP n ops dn pend st i x l fun U S O => onD ops U S k fun I => exec c I O F D A) (iP n ops dn pend st j y l' fun U S O => onD ops U S k fun I => exec c' I O F D A)
   | false => .fail
  | _ => .fail
 | _,.alt3 i x l c j y l' c' m z l'' c'',md,st,F,D,A => match md with
  | .drw ops dn pend k => match Nat.blt dn.length ops.size && eqL (ua (uu dn) 0 ops.toList) [i,j,m] with
   | true => AF (iP n ops dn pend st i x l fun U S O => onD ops U S k fun I => exec c I O F D A) (AF (iP n ops dn pend st j y l' fun U S O => onD ops U S k fun I => exec c' I O F D A) (iP n ops dn pend st m z l'' fun U S O => onD ops U S k fun I => exec c'' I O F D A))
   | false => .fail
  | _ => .fail
 | _,.jg T nN nA get J x k,md,st,F,D,A => match md.cut with
  | some (Y,rest) => .grj (exec x Y st (fun _ => .fail) (fun O => match get O with
    | some (s,X,W) => match Nat.beq X.length nN,Nat.beq W.length nA with
     | true,true => reqS (J st s X W).1 (J st s X W).2 O (.ret (some s))
     | _,_ => .fail
    | none => .fail) (fun _ _ _ => .fail)) fun s => frNs nN fun X => frAs nA fun W => nx (norm 1000 rest) fun I => exec k I ⟨(J st s X W).1,(J st s X W).2,st.rd,st.ef,st.pr,st.vw⟩ F D A
  | none => .fail
 | _,.pj t T M get J x y k,md,st,F,D,A => match md.cut,look t st.L with
  | some (Y,rest),some (.bool b) => .sel M b (exec x Y ⟨(t,.bool true) :: st.L,st.As,st.rd,st.ef,st.pr,st.vw⟩ (fun _ => .fail) (fun O => match get O with
    | some s => reqS (J st s).1 (J st s).2 O (.ret (some s))
    | none => .fail) (fun _ _ _ => .fail)) (exec y Y ⟨(t,.bool false) :: st.L,st.As,st.rd,st.ef,st.pr,st.vw⟩ (fun _ => .fail) (fun O => match get O with
    | some s => reqS (J st s).1 (J st s).2 O (.ret (some s))
    | none => .fail) (fun _ _ _ => .fail)) fun s => nx (norm 1000 rest) fun I => exec k I ⟨(J st s).1,(J st s).2,st.rd,st.ef,st.pr,st.vw⟩ F D A
  | _,_ => .fail
 | _,.eo t j q e x y,md,st,F,D,A => eoC st t j q e (fun O => exec x md O F D A) fun O => exec y md O F D A
 | _,.np t j x y,md,st,F,D,A => match look t st.L with
  | some V => match bG j V with
   | some (.pointer none) => exec x md st F D A
   | some (.pointer (some _)) => exec y md st F D A
   | _ => .fail
  | none => .fail
 | _,.ret,md,st,F,D,A => match md with
  | .run (.code .ret :: _) => .join (retF st) F
  | _ => .fail
 | _,.back,md,st,F,D,A => match md with
  | .run [.inLoop c,.inBlock id] => A c id st
  | _ => .fail
theorem ik {α : Type} : ∀ {ks : List Nat} {L : List (Nat × α)} {xs : List α},ju ks L = some xs -> ∀ x ∈ xs,∃ j,(j,x) ∈ L
 | [],L,xs,h,x,e => by simp [ju] at h; subst h; cases e
 | k :: ks,L,xs,h,x,e => by
  simp only [ju] at h;split at h
  ·rename_i y r h1 h2;cases h;cases e with
   | head => exact wB h1
   | tail _ hm => exact ik h2 x hm
  ·cases h
theorem pJ {R : Type} {m : Option Md} {k : Md -> VC R} {Φ : R -> Prop} (h : (nx m k).ok Φ) : ∃ md,m = some md /\ (k md).ok Φ := by
 unfold nx at h;split at h
 ·exact ⟨_,rfl,h⟩
 ·exact (VC.zy h).elim
end
end
end Go.Th
