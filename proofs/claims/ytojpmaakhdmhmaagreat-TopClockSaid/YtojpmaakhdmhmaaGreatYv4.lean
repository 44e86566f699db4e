/-
  The statements TopEnds, TopClock of the program.
  Text 4 of 8: of what the proof needs (a row of the program: no condition is left); put together and made narrow by a program.
-/
import Derived.Test.YtojpmaakhdmhmaaGreatYv3
set_option linter.unusedVariables false
set_option linter.unusedSimpArgs false
namespace Go.Proofs.YtojpmaakhdmhmaaGreat
open Go.Th
noncomputable section
set_option maxRecDepth 10000
namespace Pj
structure Inv (p:zf) (T:Nat):Prop where
 most:0<=p.most/\p.most<=65536
 len:(p.l.length:Int)<=p.most
 fre:∀ f∈p.free,∃ (j:Nat) (x:zq),f=(j:Int)/\p.l[j]? = some x/\x.taken=false
 fnd:p.free.Nodup
 cov:∀ (j:Nat) (x:zq),p.l[j]? = some x->x.taken=false->(j:Int)∈p.free
 gen:∀ (j:Nat) (x:zq),p.l[j]? = some x->1<=x.gen/\x.gen<=T
def Live (p:zf)(r:ze)(v:zz):Prop:=∃ j:Nat,r.At=(j:Int)/\p.l[j]? = some ⟨r.Gen,true,v⟩
section
variable {p:zf} {T:Nat} {r:ze} {v:zz}
theorem Live.idx (h:Live p r v):mIdx p.l r.At=some ⟨r.Gen,true,v⟩:=by
 obtain⟨j,e,h⟩:=h;rw[e,yl];exact h
theorem Live.uniq {w:zz}(h:Live p r v)(j:Live p r w):v=w:=by
 have i:=h.idx;have e:=j.idx;rw[i] at e;simp only[Option.some.injEq,zq.mk.injEq,true_and] at e;exact e
theorem Inv.flen (I:Inv p T):p.free.length<=p.l.length:=by
 have h1:(p.free.map Int.toNat).Nodup:=List.pairwise_map.2 (I.fnd.imp_of_mem fun {x y} u z t e=>by
  obtain⟨i,_,rfl,_⟩:=I.fre x u;obtain⟨j,_,rfl,_⟩:=I.fre y z;simp only[tN] at e;exact t (by rw[e]))
 have h2:=rT (m:=List.range p.l.length) h1 fun x u=>by
  obtain⟨f,hf,rfl⟩:=List.mem_map.1 u;obtain⟨j,y,rfl,hj,_⟩:=I.fre f hf;simp only[tN,List.mem_range];exact (List.getElem?_eq_some_iff.1 hj).1
 simpa using h2
theorem wq (I:Inv p T)(h:Live p r v):zN p r=some (some r.At,0):=by
 have hi:=h.idx;obtain⟨j,e,h⟩:=h;have i:=I.gen _ _ h;simp only at i;have hl:=(List.getElem?_eq_some_iff.1 h).1;unfold zN;rw[dF (by omega),dF (by omega),dF (by omega),hi];simp
theorem wL (I:Inv p T)(h:Live p r v):yf p r=some (v,0):=by
 unfold yf;rw[wq I h];simp[tm,oS,h.idx]
theorem rD (I:Inv p T)(h:Live p r v)(w:zz):y9 p r w=some (0,zf.mk p.most (mSet p.l r.At ⟨r.Gen,true,w⟩) p.free):=by
 unfold y9;rw[wq I h];simp[tm,oS,h.idx]
theorem sR (I:Inv p T)(h:Live p r v):zQ p r=some (v,0,zf.mk p.most (mSet p.l r.At ⟨r.Gen,false,(zz.mk 0 0 0 (ze.mk 0 0))⟩) (p.free++[r.At])):=by
 have e:=I.flen;have h1:=I.len;have h2:=I.most;unfold zQ;rw[wq I h];simp only[bS,tm,oS,h.idx];rw[y4 (by simp only[List.length_singleton];omega)];simp[mSet]
theorem s7 (I:Inv p T)(u:T<4611686018427387904){fs:List Int}{j:Nat}{x:zq}(hf:p.free=fs++[(j:Int)])(hj:p.l[j]? = some x) :
  yd p v=some (ze.mk (j:Int) (x.gen+1),true,zf.mk p.most (mSet p.l (j:Int) ⟨x.gen+1,true,v⟩) fs):=by
 have y:=I.gen _ _ hj;have t:fs.length<1000000:=by
  have h0:=I.flen;rw[hf] at h0;simp only[lA,List.length_singleton] at h0;have:=I.len;have:=I.most;omega
 have hw:w64 (((fs++[(j:Int)]).length:Int) - 1)=(fs.length:Int):=by
  rw[zP] <;> simp <;> omega
 have i:mIdx (fs++[(j:Int)]) (fs.length:Int)=some (j:Int):=yr fs [] (j:Int);have e:mCut (fs++[(j:Int)]) 0 (fs.length:Int)=some fs:=by
  unfold mCut;rw[if_pos ⟨by omega,by omega,by simp;omega⟩];simp
 unfold yd;rw[hf,hw,dT (by omega)];simp only[cT,i,e,bS];rw[yl,hj];simp only[bS];rw[zP (by omega) (by omega)];simp[mSet]
theorem qo (I:Inv p T)(hf:p.free=[])(hl:(p.l.length:Int)<p.most) :
  yd p v=some (ze.mk (p.l.length:Int) 1,true,zf.mk p.most (p.l++[⟨1,true,v⟩]) []):=by
 have:=I.most;unfold yd;rw[hf];rw[show w64 ((([]:List Int).length:Int) - 1) = -1 by rw[zP] <;> simp];rw[dF (by omega)];simp only[cF];rw[dF (by omega)];simp only[cF];rw[y4 (by simp only[List.length_singleton];omega)];simp only[bS];rw[yr];simp only[bS];rw[show w64 (0+1)=1 by rw[zP] <;> simp];simp[mSet]
theorem yA {l:List zq}{j i:Nat}{x y:zq}(h:l[j]? = some y):(l.set j x)[i]? = if i=j then some x else l[i]?:=by
 have:=(List.getElem?_eq_some_iff.1 h).1;by_cases e:i=j
 ·subst e;rw[if_pos rfl,List.getElem?_set_self this]
 ·rw[if_neg e,getD_set_ne (fun h=>e h.symm)]
theorem rC (I:Inv p T)(h:Live p r v)(w:zz):Inv (zf.mk p.most (mSet p.l r.At ⟨r.Gen,true,w⟩) p.free) T:=by
 obtain⟨j,e,h⟩:=h;have u:=I.gen _ _ h;refine⟨I.most,by simpa[mSet] using I.len,fun f hf=>?_,I.fnd,fun i x t ht=>?_,fun i x t=>?_⟩
 ·obtain⟨i,x,rfl,hi,t⟩:=I.fre f hf;refine⟨i,x,rfl,?_,t⟩;simp only[mSet,e,tN];rw[yA h,if_neg];exact hi;rintro rfl;rw[h] at hi;cases hi;simp at t
 ·simp only[mSet,e,tN] at t;rw[yA h] at t;split at t
  ·cases t;simp at ht
  ·exact I.cov i x t ht
 ·simp only[mSet,e,tN] at t;rw[yA h] at t;split at t
  ·cases t;exact u
  ·exact I.gen i x t
theorem tB (h:Live p r v)(w:zz)(s:ze)(u:zz):Live (zf.mk p.most (mSet p.l r.At ⟨r.Gen,true,w⟩) p.free) s u ↔ (s=r/\u=w) \/ (s≠r/\Live p s u):=by
 obtain⟨j,e,h⟩:=h;constructor
 ·rintro⟨i,t,hi⟩;simp only[mSet,e,tN] at hi;rw[yA h] at hi;split at hi
  ·rename_i x;subst x;simp only[Option.some.injEq,zq.mk.injEq,true_and] at hi;refine Or.inl ⟨?_,hi.2.symm⟩;cases s;cases r;simp only at e t hi ⊢;rw[t,e,hi.1]
  ·rename_i x;refine Or.inr ⟨?_,i,t,hi⟩;rintro rfl;exact x (by omega)
 ·rintro (⟨rfl,rfl⟩|⟨y,i,t,hi⟩)
  ·refine⟨j,e,?_⟩;simp only[mSet,e,tN];rw[yA h,if_pos rfl]
  ·refine⟨i,t,?_⟩;simp only[mSet,e,tN];rw[yA h,if_neg];exact hi;rintro rfl;rw[h] at hi;simp only[Option.some.injEq,zq.mk.injEq,true_and] at hi;refine y ?_;cases s;cases r;simp only at e t hi ⊢;rw[t,e,hi.1]
theorem qZ (I:Inv p T)(h:Live p r v):Inv (zf.mk p.most (mSet p.l r.At ⟨r.Gen,false,(zz.mk 0 0 0 (ze.mk 0 0))⟩) (p.free++[r.At])) T:=by
 obtain⟨j,e,h⟩:=h;have A:=I.gen _ _ h;have y:r.At ∉ p.free:=by
  intro hf;obtain⟨i,x,B,hi,t⟩:=I.fre _ hf;have:i=j:=by omega
  subst this;rw[h] at hi;cases hi;simp at t
 refine⟨I.most,by simpa[mSet] using I.len,fun f hf=>?_,?_,fun i x t ht=>?_,fun i x t=>?_⟩
 ·simp only[mSet,e,tN];rcases List.mem_append.1 hf with hf|hf
  ·obtain⟨i,x,rfl,hi,t⟩:=I.fre f hf;refine⟨i,x,rfl,?_,t⟩;rw[yA h,if_neg];exact hi;rintro rfl;rw[h] at hi;cases hi;simp at t
  ·rw[List.mem_singleton.1 hf,e];exact⟨j,_,rfl,by rw[yA h,if_pos rfl],rfl⟩
 ·exact List.nodup_append.2 ⟨I.fnd,by simp,fun a ha b z=>by rw[List.mem_singleton.1 z];rintro rfl;exact y ha⟩
 ·simp only[mSet,e,tN] at t;rw[yA h] at t;split at t
  ·rename_i u;subst u;exact List.mem_append_right _ (by rw[e];simp)
  ·exact mL _ (I.cov i x t ht)
 ·simp only[mSet,e,tN] at t;rw[yA h] at t;split at t
  ·cases t;exact A
  ·exact I.gen i x t
theorem rP (h:Live p r v)(s:ze)(u:zz):Live (zf.mk p.most (mSet p.l r.At ⟨r.Gen,false,(zz.mk 0 0 0 (ze.mk 0 0))⟩) (p.free++[r.At])) s u ↔ s≠r/\Live p s u:=by
 obtain⟨j,e,h⟩:=h;constructor
 ·rintro⟨i,t,hi⟩;simp only[mSet,e,tN] at hi;rw[yA h] at hi;split at hi
  ·simp at hi
  ·rename_i x;refine⟨?_,i,t,hi⟩;rintro rfl;exact x (by omega)
 ·rintro⟨y,i,t,hi⟩;refine⟨i,t,?_⟩;simp only[mSet,e,tN];rw[yA h,if_neg];exact hi;rintro rfl;rw[h] at hi;simp only[Option.some.injEq,zq.mk.injEq,true_and] at hi;refine y ?_;cases s;cases r;simp only at e t hi ⊢;rw[t,e,hi.1]
theorem r8 (I:Inv p T)(W:T<4611686018427387904)(z:(p.l.length:Int)<p.most+p.free.length)(v:zz) :
  ∃ r p',yd p v=some (r,true,p')/\Inv p' (T+1)/\(∀ w,¬ Live p r w)/\(∀ s u,Live p' s u ↔ (s=r/\u=v) \/ Live p s u)/\p'.most=p.most/\(p'.l.length:Int) - p'.free.length=(p.l.length:Int) - p.free.length+1:=by
 rcases List.eq_nil_or_concat p.free with hf|⟨fs,f,hf⟩
 ·rw[hf] at z;refine⟨_,_,qo I hf (by simpa using z),⟨I.most,by simp at z ⊢;omega,by simp,by simp,?_,?_⟩,?_,?_,rfl,by rw[hf];simp⟩
  ·intro j x t ht;simp only at t;by_cases hj:j<p.l.length
   ·rw[List.getElem?_append_left hj] at t;have:=I.cov j x t ht;rw[hf] at this;simp at this
   ·rw[List.getElem?_append_right (by omega)] at t;by_cases e:j - p.l.length=0
    ·rw[e] at t;simp at t;subst t;simp at ht
    ·rw[List.getElem?_eq_none (by simp;omega)] at t;cases t
  ·intro j x t;simp only at t;by_cases hj:j<p.l.length
   ·rw[List.getElem?_append_left hj] at t;have:=I.gen j x t;omega
   ·rw[List.getElem?_append_right (by omega)] at t;by_cases e:j - p.l.length=0
    ·rw[e] at t;simp at t;subst t;simp;omega
    ·rw[List.getElem?_eq_none (by simp;omega)] at t;cases t
  ·rintro w ⟨j,e,h⟩;have:=(List.getElem?_eq_some_iff.1 h).1;simp only at e;omega
  ·intro s u;constructor
   ·rintro⟨j,e,h⟩;simp only at h;by_cases hj:j<p.l.length
    ·rw[List.getElem?_append_left hj] at h;exact Or.inr ⟨j,e,h⟩
    ·rw[List.getElem?_append_right (by omega)] at h;by_cases U:j - p.l.length=0
     ·rw[U] at h;simp at h;refine Or.inl ⟨?_,h.2.symm⟩;cases s;simp only at e h ⊢;rw[e,<- h.1];congr 1;omega
     ·rw[List.getElem?_eq_none (by simp;omega)] at h;cases h
   ·rintro (⟨rfl,rfl⟩|⟨j,e,h⟩)
    ·exact⟨p.l.length,rfl,by simp⟩
    ·have:=(List.getElem?_eq_some_iff.1 h).1;exact⟨j,e,by rw[List.getElem?_append_left this];exact h⟩
 ·rw[List.concat_eq_append] at hf;obtain⟨j,x,rfl,hj,ht⟩:=I.fre f (by rw[hf];simp);have X:=I.gen j x hj;have hn:=I.fnd;rw[hf] at hn;obtain⟨O,-,S⟩:=List.nodup_append.1 hn;have J:(j:Int) ∉ fs:=fun h=>S _ h _ (List.mem_singleton.2 rfl) rfl
  refine⟨_,_,s7 I W hf hj,⟨I.most,by simpa[mSet] using I.len,?_,O,?_,?_⟩,?_,?_,rfl,by rw[hf];simp[mSet];omega⟩
  ·intro f B;obtain⟨i,y,rfl,hi,A⟩:=I.fre f (by rw[hf];exact mL _ B);refine⟨i,y,rfl,?_,A⟩;simp only[mSet,tN];rw[yA hj,if_neg];exact hi;rintro rfl;exact J B
  ·intro i y A F;simp only[mSet,tN] at A;rw[yA hj] at A;split at A
   ·cases A;simp at F
   ·rename_i D;have:=I.cov i y A F;rw[hf] at this;rcases List.mem_append.1 this with h|h
    ·exact h
    ·simp at h;omega
  ·intro i y A;simp only[mSet,tN] at A;rw[yA hj] at A;split at A
   ·cases A;simp only;omega
   ·have:=I.gen i y A;omega
  ·rintro w ⟨i,e,h⟩;simp only at e h;have:i=j:=by omega
   subst this;rw[hj] at h;simp only[Option.some.injEq] at h;rw[h] at ht;simp at ht
  ·intro s u;constructor
   ·rintro⟨i,e,h⟩;simp only[mSet,tN] at h;rw[yA hj] at h;split at h
    ·rename_i D;subst D;simp only[Option.some.injEq,zq.mk.injEq,true_and] at h;refine Or.inl ⟨?_,h.2.symm⟩;cases s;simp only at e h ⊢;rw[e,<- h.1]
    ·exact Or.inr ⟨i,e,h⟩
   ·rintro (⟨rfl,rfl⟩|⟨i,e,h⟩)
    ·refine⟨j,rfl,?_⟩;simp only[mSet,tN];rw[yA hj,if_pos rfl]
    ·refine⟨i,e,?_⟩;simp only[mSet,tN];rw[yA hj,if_neg];exact h;rintro rfl;rw[hj] at h;simp only[Option.some.injEq] at h;rw[h] at ht;simp at ht
end
end Pj
end
noncomputable section
set_option maxRecDepth 10000
namespace Pj
def refs:List zq->Nat->List ze
 | [],_=>[]
 | x::l,i=>(if x.taken=true then [ze.mk (i:Int) x.gen] else [])++refs l (i+1)
theorem rr {r:ze}:∀ {l:List zq}{i:Nat},r∈refs l i ↔ ∃ (j:Nat) (x:zq),r.At=((i+j:Nat):Int)/\l[j]? = some x/\x.taken=true/\r.Gen=x.gen
 | [],i=>by simp[refs]
 | x::l,i=>by
  rw[refs,iA,rr];constructor
  ·rintro (h|⟨j,y,e,h,ht,t⟩)
   ·split at h
    ·rw[List.mem_singleton.1 h];exact⟨0,x,rfl,rfl,by assumption,rfl⟩
    ·cases h
   ·exact⟨j+1,y,by rw[e];congr 1;omega,h,ht,t⟩
  ·rintro⟨j,y,e,h,ht,t⟩;cases j with
   | zero =>
    simp only[List.getElem?_cons_zero,Option.some.injEq] at h;subst h
    left
    rw[if_pos ht];cases r;simp only at e t ⊢;rw[e,t];simp
   | succ j=>exact Or.inr ⟨j,y,by rw[e];congr 1;omega,h,ht,t⟩
theorem jM {r:ze}{l:List zq}{i:Nat}(h:r∈refs l i):(i:Int)<=r.At:=by
 obtain⟨j,x,e,_⟩:=rr.1 h;omega
theorem s0:∀ {l:List zq}{i:Nat},(refs l i).Nodup
 | [],i=>List.nodup_nil
 | x::l,i=>by
  rw[refs];refine List.nodup_append.2 ⟨by split <;> simp,s0,fun a ha b j e=>?_⟩;have:=jM j;split at ha
  ·rw[List.mem_singleton.1 ha] at e;subst e;simp only at this;omega
  ·cases ha
theorem pE:∀ {l:List zq}{i:Nat},(refs l i).length<=l.length
 | [],i=>Nat.le_refl _
 | x::l,i=>by
  have:=pE (l:=l) (i:=i+1);rw[refs,lA,lC];split <;> simp <;> omega
theorem l7 {p:zf}(hl:p.l.length<=65536):∀ (rest pre:List zq) (out:List ze) (m:Nat),p.l=pre++rest->out.length<=pre.length->rest.length<m ->
  yK (p.l.length:Int) p m out (pre.length:Int)=some (out++refs rest pre.length)
 | [],pre,out,m+1,e,j,hm=>by
  unfold yK;rw[dF (by rw[e];simp),cF,refs,aN]
 | x::rest,pre,out,m+1,e,j,hm=>by
  have hlen:p.l.length=pre.length+(rest.length+1):=by rw[e];simp
  have ih:=l7 hl rest (pre++[x]) (out++(if x.taken=true then [ze.mk (pre.length:Int) x.gen] else [])) m (by rw[e];simp) (by rw[lA,lA];split <;> simp <;> omega) (by simp only[lC] at hm;omega);have i:mIdx p.l (pre.length:Int)=some x:=by rw[e];exact yr pre rest x
  unfold yK;rw[dT (by omega),cT,i];simp only[bS];rw[zP (by omega) (by omega)];rw[show ((pre++[x]).length:Int)=(pre.length:Int)+1 by simp] at ih;rw[show (pre++[x]).length=pre.length+1 by simp] at ih;rw[refs,<- aA];cases ht:x.taken with
  | true =>
   rw[ht,if_pos rfl] at ih;rw[cT,y4 (by simp only[List.length_singleton];omega)];simp only[bS,if_true];exact ih
  | false =>
   rw[ht] at ih;simp only[Bool.false_eq_true,if_false,aN,cF,bS] at ih ⊢;exact ih
section
variable {p:zf} {T:Nat}
def out (p:zf):List ze:=refs p.l 0
theorem Inv.lb (I:Inv p T):p.l.length<=65536:=by have:=I.len;have:=I.most;omega
theorem qQ (I:Inv p T){k:Nat}(hk:65536<k):y8 k p=some (out p):=by
 have:=I.lb;unfold y8;rw[show (0:Int)=(([]:List zq).length:Int) from rfl,l7 this p.l [] [] k rfl (Nat.le_refl _) (by omega)]
 rfl
theorem nh {r:ze}:r∈out p ↔ ∃ v,Live p r v:=by
 unfold out Live;rw[rr];constructor
 ·rintro⟨j,x,e,h,ht,i⟩;refine⟨x.v_,j,by rw[e];congr 1;omega,?_⟩;rw[h];cases x;simp only at ht i ⊢;rw[ht,i]
 ·rintro⟨v,j,e,h⟩;exact⟨j,_,by rw[e];congr 1;omega,h,rfl,rfl⟩
theorem ni:(out p).Nodup:=s0
theorem Inv.iH (I:Inv p T):(out p).length<=65536:=Nat.le_trans pE I.lb
theorem jG {n:Int}(h0:0<=n)(h1:n<=65536)(T:Nat):Inv (zf.mk n [] []) T :=
 ⟨⟨h0,h1⟩,by simpa using h0,by simp,List.nodup_nil,by simp,by simp⟩
theorem iE {n:Int}{r:ze}{v:zz}:¬ Live (zf.mk n [] []) r v:=by
 rintro⟨j,_,h⟩;simp at h
theorem Inv.mono {T':Nat}(I:Inv p T)(h:T<=T'):Inv p T':={ I with gen:=fun j x e=>by have:=I.gen j x e;omega }
end
end Pj
end
noncomputable section
set_option maxRecDepth 10000
structure JR where
 q:Int
 data:Int
 R:ze
 item:ze
 it:It
def JR.pr (j:JR):ze × It:=(j.item,j.it)
def JR.job (j:JR):zz:=zz.mk j.q j.it.k j.data j.item
def sel (x:Int)(L:List JR):List (ze × It):=(L.filter fun j=>j.q == x).map JR.pr
theorem sJ (x:Int)(A B:List JR):sel x (A++B)=sel x A++sel x B:=by simp[sel]
theorem eY {x:Int}{j:JR}(h:j.q=x)(B:List JR):sel x (j::B)=j.pr::sel x B:=by simp[sel,List.filter_cons,h]
theorem eW {x:Int}{j:JR}(h:j.q≠x)(B:List JR):sel x (j::B)=sel x B:=by simp[sel,List.filter_cons,h]
theorem oa {x:Int}{L:List JR}{p:ze × It}:p∈sel x L ↔ ∃ j∈L,j.q=x/\p=j.pr:=by
 simp only[sel,List.mem_map,List.mem_filter,beq_iff_eq];constructor
 ·rintro⟨j,⟨h1,h2⟩,rfl⟩;exact⟨j,h1,h2,rfl⟩
 ·rintro⟨j,h1,h2,rfl⟩;exact⟨j,⟨h1,h2⟩,rfl⟩
theorem ny:∀ {L:List JR},(∀ j∈L,j.q=0 \/ j.q=1)->(sel 0 L++sel 1 L).Perm (L.map JR.pr)
 | [],_=>.refl _
 | j::L,h=>by
  have ih:=ny fun j hj=>h j (mC _ hj)
  rcases h j (List.mem_cons_self ..) with e|e
  ·rw[eY e,eW (by omega),List.cons_append,pC];exact ih.cons _
  ·rw[eY e,eW (by omega),pC];exact List.perm_middle.trans (ih.cons _)
def PQ2 (N:Nat)(q:zo)(T:Nat)(k:Int)(r0 r1:ze)(L:List JR):Prop :=
 ∃ h0 h1:HR,PQ N q T [h0,h1]/\h0.ref=r0/\h1.ref=r1/\h0.k=k/\h1.k=k/\h0.rs.Perm (sel 0 L)/\h1.rs.Perm (sel 1 L)
section
variable {N:Nat} {q:zo} {T:Nat} {k:Int} {r0 r1:ze} {L:List JR}
theorem PQ2.focus (P:PQ2 N q T k r0 r1 L){x:Int}(u:x=0 \/ x=1):∃ h g:HR,mIdx [r0,r1] x=some h.ref/\PQ N q T [h,g]/\h.k=k/\h.rs.Perm (sel x L)/\g.rs.Perm (sel (1 - x) L) /\
  ∀ i T' r' C' e L',PQ N i T' (⟨h.ref,h.k,r',C',e⟩::[g])->e.Perm (sel x L')->sel (1 - x) L'=sel (1 - x) L->PQ2 N i T' k r0 r1 L':=by
 obtain⟨h0,h1,Q,e0,l,t,k1,p0,p1⟩:=P;rcases u with rfl|rfl
 ·refine⟨h0,h1,by rw[e0];rfl,Q,t,p0,p1,?_⟩;intro i T' r' C' e L' j hp hs;exact⟨_,h1,j,e0,l,t,k1,hp,p1.trans (by rw[show (1 - 0:Int)=1 from rfl] at hs;rw[hs])⟩
 ·refine⟨h1,h0,by rw[l];rfl,Q.p (List.Perm.swap ..),k1,p1,p0,?_⟩;intro i T' r' C' e L' j hp hs;exact⟨h0,_,j.p (List.Perm.swap ..),e0,l,t,k1,p0.trans (by rw[show (1 - 1:Int)=0 from rfl] at hs;rw[hs]),hp⟩
theorem PQ2.same (P:PQ2 N q T k r0 r1 L){e:zo}{T':Nat}(h:∀ hs,PQ N q T hs->PQ N e T' hs):PQ2 N e T' k r0 r1 L:=by
 obtain⟨h0,h1,Q,r⟩:=P;exact⟨h0,h1,h _ Q,r⟩
end
structure DI (N:Nat) (k:Int) (d:za) (L:List JR) (T:Nat):Prop where
 kd:Kd k
 dk:d.kind=k
 dm:d.most=N
 nb:1<=N/\N<=60
 pq:PQ2 N d.q T k d.heaps0 d.heaps1 L
 jq:∀ j∈L,j.q=0 \/ j.q=1
 jp:Pj.Inv d.t_.p T
 jm:d.t_.p.most=N
 jl:∀ r v,Pj.Live d.t_.p r v ↔ ∃ j∈L,r=j.R/\v=j.job
 by1:(d.t_.by_.map Prod.fst).Nodup
 by2:∀ i r,mGet ze.eq i d.t_.by_=some r ↔ ∃ j∈L,i=j.item/\r=j.R
 wh1:(d.when.map Prod.fst).Nodup
 wh2:∀ r s,mGet ze.eq r d.when=some s ↔ ∃ j∈L,r=j.R/\s=j.it.s
 rn:(L.map JR.R).Nodup
 cn:(d.t_.p.l.length:Int) - d.t_.p.free.length=L.length
 bu:3600<=d.budget
 la:0<=d.last/\d.last<=d.budget
 to:0<=d.top/\d.top<=d.budget
def dq (d:za)(q:zo)(t:zn)(w:List (ze × Int)):za :=
 za.mk d.kind d.most q d.heaps0 d.heaps1 t w d.clock d.budget d.last d.top
def Stp (d d':za)(B:Nat):Prop:=d.q.a_.m_.steps<=d'.q.a_.m_.steps/\d'.q.a_.m_.steps<=d.q.a_.m_.steps+B
def no (e:Int):zr:=zr.mk e (ze.mk 0 0) 0 0 0
section
variable {N:Nat} {k:Int} {d:za} {L:List JR} {T:Nat} {f:Nat}
theorem DI.items (D:DI N k d L T):(L.map JR.item).Nodup/\L.length<=N/\(L.map fun j=>j.it.s).Nodup /\ ∀ j∈L,0<=j.it.s/\j.it.s<d.q.serial:=by
 obtain⟨h0,h1,Q,e0,e,i,k1,p0,p1⟩:=D.pq;have hp:(allR [h0,h1]).Perm (L.map JR.pr):=by
  have:allR [h0,h1]=h0.rs++h1.rs:=by simp[allR]
  rw[this];exact (p0.append p1).trans (ny D.jq)
 have h1:=((hp.map Prod.fst).nodup_iff).1 Q.rn;have h2:=Q.BK;have h3:=((hp.map fun p=>p.2.s).nodup_iff).1 Q.sn;rw[List.map_map] at h1 h3;rw[hp.length_eq,lM] at h2;refine⟨h1,h2,h3,fun j hj=>?_⟩;have:=Q.sr j.pr (hp.mem_iff.2 (List.mem_map_of_mem hj));exact this
theorem fG {N n:Nat}(h:N<=60)(hn:n<=N):bd k n<=2630:=by
 unfold bd;split <;> omega
theorem lU {x:Int}{L:List JR}:(sel x L).length<=L.length:=by
 unfold sel;rw[lM];exact List.length_filter_le _ _
theorem iu (D:DI N k d L T):xx d.t_.p=some (L.length:Int):=by
 have:=D.items.2.1;have:=D.nb;unfold xx;rw[D.cn,zP (by omega) (by omega)]
theorem oO {x:Int}{L:List JR}{j:JR}(hj:j.q=x){A B:List JR}(e:L=A++j::B):(sel x L).Perm (j.pr::sel x (A++B))/\sel (1 - x) (A++B)=sel (1 - x) L:=by
 rw[e,sJ,sJ,sJ,sJ,eY hj,eW (by omega)];exact⟨List.perm_middle,rfl⟩
theorem DI.schedule (D:DI N k d L T)(hT:T<1000000)(hf:95000<f){c:zt}(hq:c.Queue=0 \/ c.Queue=1) :
  Do (xn f d c) fun res=>(L.length=N/\res=(no 13,d)) \/
   (L.length<N /\ ∃ (j:JR) (B:zo) (p':zf) (v:zz),j.q=c.Queue/\j.data=c.Data/\j.it.k=c.Time/\j.it.s=d.q.serial/\B.serial=d.q.serial+1 /\
    yd d.t_.p v=some (j.R,true,p') /\
    res=(zr.mk 0 j.R c.Time c.Data 0,dq d B (zn.mk p' (mPut ze.eq j.item j.R d.t_.by_)) (mPut ze.eq j.R d.q.serial d.when)) /\
    DI N k (dq d B (zn.mk p' (mPut ze.eq j.item j.R d.t_.by_)) (mPut ze.eq j.R d.q.serial d.when)) (L++[j]) (T+1)/\Stp d (dq d B (zn.mk p' (mPut ze.eq j.item j.R d.t_.by_)) (mPut ze.eq j.R d.q.serial d.when)) 2700):=by
 have a4:=D.nb;have b3:=D.items;have O:=iu D;unfold xn vV;rw[O];simp only[bS];refine Do.if (fun e=>?_) (fun e=>?_)
 ·have W:=of_decide_eq_true e;rw[D.dm] at W;exact⟨_,rfl,Or.inl ⟨by omega,rfl⟩⟩
 ·have W:=of_decide_eq_false e;rw[D.dm] at W;have a1:L.length<N:=by omega
  obtain⟨h,g,a0,Q,hk,u,J,back⟩:=D.pq.focus hq;rw[a0];simp only[bS];have a8:(allR [h,g]).length=L.length:=by
   have h1:allR [h,g]=h.rs++g.rs:=by simp[allR]
   have h2:=(ny D.jq).length_eq;rw[h1,lA,u.length_eq,J.length_eq];rw[lA,lM] at h2;rcases hq with e|e <;> rw[e] <;> simp <;> omega
  have b4:h.rs.length<=L.length:=by rw[u.length_eq];exact lU
  refine (Q.dH (f:=f) (by omega) (by omega) (by omega) hf 0 c.Time (ze.mk 0 0) (ze.mk 0 0)).bind ?_;rintro _ ⟨i,x,r',C',B,rfl,z,A,Q',S,U⟩;simp only;have y:∀ j∈L,j.item≠i:=by
   intro j hj e;have h1:=Q'.rn;rw[wE,List.cons_append,pC,List.nodup_cons] at h1;refine h1.1 ?_;have h2:j.pr∈sel 0 L++sel 1 L:=(ny D.jq).mem_iff.2 (List.mem_map_of_mem hj);have h3:j.pr∈h.rs++allR [g]:=by
    have e3:allR [g]=g.rs:=by simp[allR]
    rw[e3];refine ((u.append J).mem_iff).2 ?_;rcases List.mem_append.1 h2 with h2|h2 <;> rcases hq with e|e <;> rw[e] <;> simp[h2]
   exact List.mem_map.2 ⟨j.pr,h3,e⟩
  have X:mGet ze.eq i d.t_.by_=none:=by
   cases I:mGet ze.eq i d.t_.by_ with
   | none=>rfl
   | some r =>
    obtain⟨j,hj,e1,_⟩:=(D.by2 _ _).1 I;exact absurd e1.symm (y j hj)
  obtain⟨R,p',hR,I',Z,a2,a3,Y⟩:=Pj.r8 D.jp (by omega) (by have:=D.cn;rw[D.jm];omega) (zz.mk c.Queue c.Time c.Data i);unfold sH;simp only;rw[gw X];simp only[bS];rw[O];unfold wK;simp only[bS];rw[show ((L.length:Int) == d.t_.p.most)=false by rw[D.jm];simp;omega,cF,cF,hR];refine⟨_,rfl,Or.inr ⟨a1,⟨c.Queue,c.Data,R,i,x⟩,B,p',zz.mk c.Queue c.Time c.Data i,rfl,rfl,z,A,S,hR,rfl,?_,?_⟩⟩
  ·have t:∀ j,j∈L++[(⟨c.Queue,c.Data,R,i,x⟩:JR)] ↔ j∈L \/ j=⟨c.Queue,c.Data,R,i,x⟩:=by simp
   have F:∀ j∈L,j.R≠R:=fun j hj e=>Z _ ((D.jl _ _).2 ⟨j,hj,e.symm,rfl⟩)
   refine⟨D.kd,D.dk,D.dm,D.nb,?_,?_,I',a3.trans D.jm,?_,tT vZ D.by1,?_,tT vZ D.wh1,?_,?_,?_,D.bu,D.la,D.to⟩
   ·refine back _ _ _ _ _ _ Q' ?_ ?_
    ·rw[sJ,eY (x:=c.Queue) (j:=⟨c.Queue,c.Data,R,i,x⟩) rfl];exact (u.cons (i,x)).trans (List.perm_append_singleton (i,x) (sel c.Queue L)).symm
    ·rw[sJ,eW (j:=⟨c.Queue,c.Data,R,i,x⟩) (by simp only;omega)];simp[sel]
   ·intro j hj;rcases (t j).1 hj with hj|rfl
    ·exact D.jq j hj
    ·exact hq
   ·intro r v;refine (a2 r v).trans ⟨?_,?_⟩
    ·rintro (⟨rfl,rfl⟩|hl)
     ·exact⟨_,(t _).2 (Or.inr rfl),rfl,by simp only[JR.job,z]⟩
     ·obtain⟨j,hj,e⟩:=(D.jl _ _).1 hl;exact⟨j,(t _).2 (Or.inl hj),e⟩
    ·rintro⟨j,hj,rfl,rfl⟩;rcases (t j).1 hj with hj|rfl
     ·exact Or.inr ((D.jl _ _).2 ⟨j,hj,rfl,rfl⟩)
     ·exact Or.inl ⟨rfl,by simp only[JR.job,z]⟩
   ·intro i2 r;refine (rq vZ).trans ⟨?_,?_⟩
    ·rintro (⟨rfl,rfl⟩|⟨a5,I⟩)
     ·exact⟨_,(t _).2 (Or.inr rfl),rfl,rfl⟩
     ·obtain⟨j,hj,e⟩:=(D.by2 _ _).1 I;exact⟨j,(t _).2 (Or.inl hj),e⟩
    ·rintro⟨j,hj,rfl,rfl⟩;rcases (t j).1 hj with hj|rfl
     ·exact Or.inr ⟨y j hj,(D.by2 _ _).2 ⟨j,hj,rfl,rfl⟩⟩
     ·exact Or.inl ⟨rfl,rfl⟩
   ·intro r s;refine (rq vZ).trans ⟨?_,?_⟩
    ·rintro (⟨rfl,rfl⟩|⟨a5,I⟩)
     ·exact⟨_,(t _).2 (Or.inr rfl),rfl,A.symm⟩
     ·obtain⟨j,hj,e⟩:=(D.wh2 _ _).1 I;exact⟨j,(t _).2 (Or.inl hj),e⟩
    ·rintro⟨j,hj,rfl,rfl⟩;rcases (t j).1 hj with hj|rfl
     ·exact Or.inr ⟨F j hj,(D.wh2 _ _).2 ⟨j,hj,rfl,rfl⟩⟩
     ·exact Or.inl ⟨rfl,A⟩
   ·rw[List.map_append];refine List.nodup_append.2 ⟨D.rn,by simp,?_⟩;intro a ha b hb e;obtain⟨j,hj,rfl⟩:=List.mem_map.1 ha;simp only[pC,List.map_nil,List.mem_singleton] at hb;exact F j hj (e.trans hb)
   ·have:=D.cn;show (p'.l.length:Int) - p'.free.length=_;rw[Y];simp only[lA,lC,List.length_nil];omega
  ·have h1:=fG (k:=h.k) a4.2 (n:=h.rs.length) (by omega);exact⟨U.1,Int.le_trans U.2 (by omega)⟩
theorem DI.get (D:DI N k d L T){j:JR}(hj:j∈L):yf d.t_.p j.R=some (j.job,0):=Pj.wL D.jp ((D.jl _ _).2 ⟨j,hj,rfl,rfl⟩)
end
end
noncomputable section
set_option maxRecDepth 10000
namespace Pj
theorem mR {p:zf}{T:Nat}(I:Inv p T)(r:ze):(∃ v,Live p r v) \/ ∃ e,(e == (0:Int))=false/\zN p r=some (none,e):=by
 unfold zN;by_cases h1:r.At<0
 ·exact Or.inr ⟨22,rfl,by rw[dT h1];rfl⟩
 rw[dF h1];by_cases h2:r.At >= (p.l.length:Int)
 ·exact Or.inr ⟨22,rfl,by rw[dT h2];rfl⟩
 rw[dF h2];by_cases h3:r.Gen<1
 ·exact Or.inr ⟨22,rfl,by rw[dT h3];rfl⟩
 rw[dF h3];obtain⟨j,hj⟩:∃ j:Nat,r.At=(j:Int):=⟨r.At.toNat,by omega⟩
 obtain⟨x,t⟩:∃ x,p.l[j]? = some x:=⟨_,List.getElem?_eq_getElem (by omega)⟩
 rw[hj,yl,t];simp only[cF,bS];by_cases h4:r.Gen > x.gen
 ·exact Or.inr ⟨22,rfl,by rw[dT h4];rfl⟩
 rw[dF h4];simp only[cF];by_cases i:r.Gen<x.gen
 ·exact Or.inr ⟨23,rfl,by rw[dT i];rfl⟩
 rw[dF i];cases ht:x.taken with
 | false=>exact Or.inr ⟨23,rfl,rfl⟩
 | true =>
  refine Or.inl ⟨x.v_,j,hj,?_⟩;rw[t];have:r.Gen=x.gen:=by omega
  cases x;simp only at ht this ⊢;rw[ht,this]
theorem ij {p:zf}{r:ze}{e:Int}(he:(e == (0:Int))=false)(h:zN p r=some (none,e)):yf p r=some (zz.mk 0 0 0 (ze.mk 0 0),e):=by
 unfold yf;rw[h];simp[tm,oS,bne,he]
theorem eg {p:zf}{r:ze}{e:Int}(he:(e == (0:Int))=false)(h:zN p r=some (none,e)):zQ p r=some (zz.mk 0 0 0 (ze.mk 0 0),e,p):=by
 unfold zQ;rw[h];simp[tm,oS,bne,he]
end Pj
section
variable {N:Nat} {k:Int} {d:za} {L:List JR} {T:Nat} {f:Nat}
theorem DI.eQ (D:DI N k d L T){e:zo}(P:PQ2 N e T k d.heaps0 d.heaps1 L):DI N k (dq d e d.t_ d.when) L T :=
 ⟨D.kd,D.dk,D.dm,D.nb,P,D.jq,D.jp,D.jm,D.jl,D.by1,D.by2,D.wh1,D.wh2,D.rn,D.cn,D.bu,D.la,D.to⟩
theorem DI.drop (D:DI N k d L T){A B:List JR}{j:JR}(e:L=A++j::B){F:zo}(P:PQ2 N F T k d.heaps0 d.heaps1 (A++B)) :
  ∃ p',zQ d.t_.p j.R=some (j.job,0,p')/\yR (dq d F d.t_ d.when) j.R=some (zr.mk 0 (ze.mk 0 0) j.it.k j.data 0,dq d F (zn.mk p' (mDel ze.eq j.item d.t_.by_)) (mDel ze.eq j.R d.when)) /\
   DI N k (dq d F (zn.mk p' (mDel ze.eq j.item d.t_.by_)) (mDel ze.eq j.R d.when)) (A++B) T:=by
 have hj:j∈L:=by rw[e];simp
 have u:Pj.Live d.t_.p j.R j.job:=(D.jl _ _).2 ⟨j,hj,rfl,rfl⟩;have y:=Pj.sR D.jp u;have l:∀ i,i∈L ↔ i=j \/ i∈A++B:=by
  intro i;rw[e];simp only[iA,iC];constructor
  ·rintro (h|h|h)
   ·exact Or.inr (Or.inl h)
   ·exact Or.inl h
   ·exact Or.inr (Or.inr h)
  ·rintro (h|h|h)
   ·exact Or.inr (Or.inl h)
   ·exact Or.inl h
   ·exact Or.inr (Or.inr h)
 have hp:L.Perm (j::(A++B)):=by rw[e];exact List.perm_middle
 have x:=((hp.map JR.R).nodup_iff).1 D.rn;have z:=((hp.map JR.item).nodup_iff).1 D.items.1;rw[pC,List.nodup_cons] at x z;have J:∀ i∈A++B,i.R≠j.R:=fun i hi e=>x.1 (e ▸ List.mem_map_of_mem (f:=JR.R) hi)
 have O:∀ i∈A++B,i.item≠j.item:=fun i hi e=>z.1 (e ▸ List.mem_map_of_mem (f:=JR.item) hi)
 refine⟨_,y,?_,?_⟩
 ·unfold yR uI;show ((zQ d.t_.p j.R).bind _).bind _=_;rw[y]
  rfl
 ·refine⟨D.kd,D.dk,D.dm,D.nb,P,fun i hi=>D.jq i ((l i).2 (Or.inr hi)),Pj.qZ D.jp u,D.jm,?_,sV D.by1,?_,sV D.wh1,?_,x.2,?_,D.bu,D.la,D.to⟩
  ·intro r v;refine (Pj.rP u r v).trans ⟨?_,?_⟩
   ·rintro⟨t,hl⟩;obtain⟨i,hi,rfl,rfl⟩:=(D.jl _ _).1 hl;rcases (l i).1 hi with rfl|hi
    ·exact absurd rfl t
    ·exact⟨i,hi,rfl,rfl⟩
   ·rintro⟨i,hi,rfl,rfl⟩;exact⟨J i hi,(D.jl _ _).2 ⟨i,(l i).2 (Or.inr hi),rfl,rfl⟩⟩
  ·intro i2 r;refine (qh vZ D.by1).trans ⟨?_,?_⟩
   ·rintro⟨t,I⟩;obtain⟨i,hi,rfl,rfl⟩:=(D.by2 _ _).1 I;rcases (l i).1 hi with rfl|hi
    ·exact absurd rfl t
    ·exact⟨i,hi,rfl,rfl⟩
   ·rintro⟨i,hi,rfl,rfl⟩;exact⟨O i hi,(D.by2 _ _).2 ⟨i,(l i).2 (Or.inr hi),rfl,rfl⟩⟩
  ·intro r s;refine (qh vZ D.wh1).trans ⟨?_,?_⟩
   ·rintro⟨t,I⟩;obtain⟨i,hi,rfl,rfl⟩:=(D.wh2 _ _).1 I;rcases (l i).1 hi with rfl|hi
    ·exact absurd rfl t
    ·exact⟨i,hi,rfl,rfl⟩
   ·rintro⟨i,hi,rfl,rfl⟩;exact⟨J i hi,(D.wh2 _ _).2 ⟨i,(l i).2 (Or.inr hi),rfl,rfl⟩⟩
  ·have:=D.cn;rw[hp.length_eq] at this;simp only[dq,mSet,List.length_set,lA,lC,List.length_nil] at this ⊢;omega
theorem DI.cancel (D:DI N k d L T)(hf:95000<f)(r:ze) :
  Do (xr f d r) fun res=>(∃ e,(e == (0:Int))=false/\zN d.t_.p r=some (none,e)/\res=(no e,d)) \/
   ∃ A j B z p' d',L=A++j::B/\r=j.R/\zQ d.t_.p j.R=some (j.job,0,p')/\d'=dq d z (zn.mk p' (mDel ze.eq j.item d.t_.by_)) (mDel ze.eq j.R d.when)/\res=(zr.mk 0 (ze.mk 0 0) j.it.k j.data 0,d')/\z.serial=d.q.serial/\DI N k d' (A++B) T/\Stp d d' 2700:=by
 have S:=D.nb;have a3:=D.items.2.1;unfold xr xG;rcases Pj.mR D.jp r with ⟨v,hv⟩|⟨e,he,i⟩
 ·obtain⟨j,hj,rfl,rfl⟩:=(D.jl _ _).1 hv;obtain⟨A,B,eL⟩:=List.append_of_mem hj;rw[D.get hj];simp only[bS];rw[show ((0:Int) == 0)=true from rfl,cT];obtain⟨h,g,a2,Q,hk,l,a1,back⟩:=D.pq.focus (D.jq j hj);have O:j.pr∈h.rs:=l.mem_iff.2 (oa.2 ⟨j,hj,rfl,rfl⟩);have a4:h.rs.length<=L.length:=by rw[l.length_eq];exact lU
  have X:=Q.dJ (f:=f) (by omega) O hf (k:=0) (key:=0) (hh:=ze.mk 0 0) (o:=ze.mk 0 0);obtain⟨res,eX,rs,r',C',z,rfl,U,Z,t,y⟩:=X;have F:zV f d.q (zY.mk 6 0 (ze.mk 0 0) (ze.mk 0 0) j.job.Item 0)=some (okA (ze.mk 0 0) j.it,z):=eX;rw[F];simp only[bS];have u:=oO (L:=L) (x:=j.q) rfl eL;have Y:=back _ _ _ _ _ (A++B) Z ((U.symm.trans (l.trans u.1)).cons_inv) u.2;obtain⟨p',J,I,W⟩:=D.drop eL Y;refine Do.seq I ?_;refine⟨_,rfl,Or.inr ⟨A,j,B,z,p',_,eL,rfl,J,rfl,rfl,t,W,y.1,Int.le_trans y.2 ?_⟩⟩;have:=fG (k:=h.k) S.2 (n:=h.rs.length) (by omega);omega
 ·rw[Pj.ij he i];simp only[bS];rw[he,cF];simp only[bS];unfold yR uI;rw[Pj.eg he i];simp only[bS];rw[he,cF];simp only[bS];rw[show (e != 0)=true by simp[bne,he],cT];exact⟨_,rfl,Or.inl ⟨e,he,i,rfl⟩⟩
theorem DI.AH (D:DI N k d L T)(hf:95000<f)(c:zt) :
  Do (xt f d c) fun res=>(∃ e,(e == (0:Int))=false/\zN d.t_.p c.Job=some (none,e)/\res=(no e,d)) \/
   ∃ A j B,L=A++j::B/\c.Job=j.R/\((c.Time > j.it.k/\res=(no 26,d)) \/
   ∃ q' p' b' d',c.Time<=j.it.k/\y9 d.t_.p j.R (zz.mk j.q c.Time j.data j.item)=some (0,p')/\d'=dq d q' (zn.mk p' b') d.when/\res=(zr.mk 0 (ze.mk 0 0) c.Time j.data 0,d')/\q'.serial=d.q.serial/\DI N k d' (A++⟨j.q,j.data,j.R,j.item,⟨j.it.i,c.Time,j.it.s⟩⟩::B) T/\Stp d d' 2700):=by
 have a5:=D.nb;have b6:=D.items.2.1;unfold xt xG;rcases Pj.mR D.jp c.Job with ⟨v,hv⟩|⟨e,he,S⟩
 ·obtain⟨j,hj,a3,rfl⟩:=(D.jl _ _).1 hv;obtain⟨A,B,eL⟩:=List.append_of_mem hj;rw[a3,D.get hj];simp only[bS];refine Do.f rfl ?_;refine Do.if (fun e=>?_) (fun e=>?_)
  ·exact⟨_,rfl,Or.inr ⟨A,j,B,eL,rfl,Or.inl ⟨of_decide_eq_true e,rfl⟩⟩⟩
  ·have hle:c.Time<=j.it.k:=by have:=of_decide_eq_false e;simp only[JR.job] at this;omega
   obtain⟨h,g,b5,Q,hk,O,b4,back⟩:=D.pq.focus (D.jq j hj);have a4:j.pr∈h.rs:=O.mem_iff.2 (oa.2 ⟨j,hj,rfl,rfl⟩);have b7:h.rs.length<=L.length:=by rw[O.length_eq];exact lU
   obtain⟨res,eX,rs,r',C',q',rfl,a6,Q',X,a0⟩:=Q.gk (f:=f) (by omega) a4 hf (key:=c.Time) hle (k:=0) (hh:=ze.mk 0 0) (o:=ze.mk 0 0);refine Do.seq (show zV f d.q (zY.mk 5 0 (ze.mk 0 0) (ze.mk 0 0) j.job.Item c.Time)=some _ from eX) ?_;have Z:=oO (L:=L) (x:=j.q) rfl eL;generalize y:(⟨j.q,j.data,j.R,j.item,⟨j.it.i,c.Time,j.it.s⟩⟩:JR)=F;have P':=back _ _ _ _ _ (A++F::B) Q' (by
    rw[sJ,eY (j:=F) (by rw[<- y])];refine List.Perm.trans ?_ List.perm_middle.symm;rw[<- sJ];have:=(a6.symm.trans (O.trans Z.1)).cons_inv;rw[<- y];exact this.cons _) (by
    rw[sJ,eW (j:=F) (by rw[<- y];simp only;omega),<- sJ];exact Z.2)
   have I:Pj.Live d.t_.p j.R j.job:=(D.jl _ _).2 ⟨j,hj,rfl,rfl⟩;have a1:=Pj.rD D.jp I (zz.mk j.q c.Time j.data j.item);have z:∀ i,i∈L ↔ i=j \/ i∈A++B:=by
    intro i;rw[eL];simp only[iA,iC];constructor
    ·rintro (h|h|h)
     ·exact Or.inr (Or.inl h)
     ·exact Or.inl h
     ·exact Or.inr (Or.inr h)
    ·rintro (h|h|h)
     ·exact Or.inr (Or.inl h)
     ·exact Or.inl h
     ·exact Or.inr (Or.inr h)
   have u:∀ i,i∈A++F::B ↔ i=F \/ i∈A++B:=by
    intro i;simp only[iA,iC];constructor
    ·rintro (h|h|h)
     ·exact Or.inr (Or.inl h)
     ·exact Or.inl h
     ·exact Or.inr (Or.inr h)
    ·rintro (h|h|h)
     ·exact Or.inr (Or.inl h)
     ·exact Or.inl h
     ·exact Or.inr (Or.inr h)
   have hp:L.Perm (j::(A++B)):=by rw[eL];exact List.perm_middle
   have W:=((hp.map JR.R).nodup_iff).1 D.rn;have U:=((hp.map JR.item).nodup_iff).1 D.items.1;rw[pC,List.nodup_cons] at W U;have hR:∀ i∈A++B,i.R≠j.R:=fun i hi e=>W.1 (e ▸ List.mem_map_of_mem (f:=JR.R) hi)
   have hI:∀ i∈A++B,i.item≠j.item:=fun i hi e=>U.1 (e ▸ List.mem_map_of_mem (f:=JR.item) hi)
   have Y:u6 d.t_ j.R (zz.mk j.q c.Time j.data j.item)=some (0,zn.mk (zf.mk d.t_.p.most (mSet d.t_.p.l j.R.At ⟨j.R.Gen,true,zz.mk j.q c.Time j.data j.item⟩) d.t_.p.free) (mPut ze.eq j.item j.R (mDel ze.eq j.item d.t_.by_))):=by
    unfold u6;rw[D.get hj];simp only[bS];rw[show ((0:Int) != 0)=false from rfl,cF,uU ((D.by2 j.item j.R).2 ⟨j,hj,rfl,rfl⟩)];simp only[bS,cT];rw[show (!(ze.eq j.R j.R))=false by rw[(vZ _ _).2 rfl];rfl,cF,a1]
    rfl
   refine Do.seq Y ?_;refine⟨_,rfl,Or.inr ⟨A,j,B,eL,rfl,Or.inr ⟨q',_,_,_,hle,a1,rfl,rfl,X,?_,a0.1,Int.le_trans a0.2 ?_⟩⟩⟩
   ·rw[y];refine⟨D.kd,D.dk,D.dm,D.nb,P',?_,Pj.rC D.jp I _,D.jm,?_,tT vZ (sV D.by1),?_,D.wh1,?_,?_,?_,D.bu,D.la,D.to⟩
    ·intro i hi;rcases (u i).1 hi with rfl|hi
     ·rw[<- y];exact D.jq j hj
     ·exact D.jq i ((z i).2 (Or.inr hi))
    ·intro r v;refine (Pj.tB I _ r v).trans ⟨?_,?_⟩
     ·rintro (⟨rfl,rfl⟩|⟨J,hl⟩)
      ·exact⟨F,(u _).2 (Or.inl rfl),by rw[<- y],by rw[<- y];rfl⟩
      ·obtain⟨i,hi,rfl,rfl⟩:=(D.jl _ _).1 hl;rcases (z i).1 hi with rfl|hi
       ·exact absurd rfl J
       ·exact⟨i,(u _).2 (Or.inr hi),rfl,rfl⟩
     ·rintro⟨i,hi,rfl,rfl⟩;rcases (u i).1 hi with rfl|hi
      ·rw[<- y];exact Or.inl ⟨rfl,rfl⟩
      ·exact Or.inr ⟨hR i hi,(D.jl _ _).2 ⟨i,(z i).2 (Or.inr hi),rfl,rfl⟩⟩
    ·intro i2 r;refine (rq vZ).trans ?_;rw[qh vZ D.by1];constructor
     ·rintro (⟨rfl,rfl⟩|⟨J,_,hg⟩)
      ·exact⟨F,(u _).2 (Or.inl rfl),by rw[<- y],by rw[<- y]⟩
      ·obtain⟨i,hi,rfl,rfl⟩:=(D.by2 _ _).1 hg;rcases (z i).1 hi with rfl|hi
       ·exact absurd rfl J
       ·exact⟨i,(u _).2 (Or.inr hi),rfl,rfl⟩
     ·rintro⟨i,hi,rfl,rfl⟩;rcases (u i).1 hi with rfl|hi
      ·rw[<- y];exact Or.inl ⟨rfl,rfl⟩
      ·exact Or.inr ⟨hI i hi,hI i hi,(D.by2 _ _).2 ⟨i,(z i).2 (Or.inr hi),rfl,rfl⟩⟩
    ·intro r s;refine (D.wh2 r s).trans ⟨?_,?_⟩
     ·rintro⟨i,hi,rfl,rfl⟩;rcases (z i).1 hi with rfl|hi
      ·exact⟨F,(u _).2 (Or.inl rfl),by rw[<- y],by rw[<- y]⟩
      ·exact⟨i,(u _).2 (Or.inr hi),rfl,rfl⟩
     ·rintro⟨i,hi,rfl,rfl⟩;rcases (u i).1 hi with rfl|hi
      ·rw[<- y];exact⟨j,hj,rfl,rfl⟩
      ·exact⟨i,(z i).2 (Or.inr hi),rfl,rfl⟩
    ·have:=D.rn;rw[eL] at this;simp only[List.map_append,pC] at this ⊢;rw[<- y];exact this
    ·have:=D.cn;rw[eL] at this;simp only[dq,mSet,List.length_set,lA,lC] at this ⊢;exact this
   ·have:=fG (k:=h.k) a5.2 (n:=h.rs.length) (by omega);omega
 ·rw[Pj.ij he S];simp only[bS];refine Do.t (by simp[bne,he]) ?_;exact⟨_,rfl,Or.inl ⟨e,he,S,rfl⟩⟩
theorem DI.fire (D:DI N k d L T)(hf:95000<f){x:Int}(hx:x=0 \/ x=1) :
  Do (xS f d x) fun res=>∃ J d',J.serial=d.q.serial/\Stp d d' 2800 /\
   (((∀ j∈L,j.q=x->d.clock.now<j.it.k)/\d'=dq d J d.t_ d.when/\res=(no 28,d')/\DI N k d' L T) \/
   ∃ A j B p',L=A++j::B/\j.q=x/\j.it.k<=d.clock.now/\(∀ i∈L,i.q=x -> ¬ i.it.lt j.it)/\zQ d.t_.p j.R=some (j.job,0,p')/\d'=dq d J (zn.mk p' (mDel ze.eq j.item d.t_.by_)) (mDel ze.eq j.R d.when)/\res=(zr.mk 0 j.R j.it.k j.data 0,d')/\DI N k d' (A++B) T):=by
 have a4:=D.nb;have b3:=D.items.2.1;obtain⟨h,g,a3,Q,hk,u,b2,back⟩:=D.pq.focus hx;have b4:h.rs.length<=L.length:=by rw[u.length_eq];exact lU
 unfold xS;rw[a3];simp only[bS];refine (Q.Bv (f:=f) (by omega) hf).bind ?_;rintro res ⟨q1,Q1,y,l,h1⟩;have P1:PQ2 N q1 T k d.heaps0 d.heaps1 L:=back _ _ _ _ _ L Q1 u rfl;rcases h1 with ⟨U,rfl⟩|⟨p,hp,rfl,S⟩
 ·simp only;rw[show ((27:Int) != 0)=true from rfl,cT];simp only[bS];refine Do.t rfl ?_;refine⟨_,rfl,q1,_,y,⟨l.1,Int.le_trans l.2 (by omega)⟩,Or.inl ⟨?_,rfl,rfl,D.eQ P1⟩⟩;intro j hj z;have:j.pr∈h.rs:=u.mem_iff.2 (oa.2 ⟨j,hj,z,rfl⟩);rw[U] at this;cases this
 ·simp only[okA];rw[show ((0:Int) != 0)=false from rfl,cF];unfold vA;simp only[bS];have I:∀ p',p'∈h.rs->p.2.k<=p'.2.k:=by
   intro p' a5;have:=S p' a5;unfold It.lt at this;omega
  refine Do.if (fun e=>?_) (fun e=>?_)
  ·have e':¬ p.2.k<=d.clock.now:=by simpa using e
   refine⟨_,rfl,q1,_,y,⟨l.1,Int.le_trans l.2 (by omega)⟩,Or.inl ⟨?_,rfl,rfl,D.eQ P1⟩⟩;intro j hj z;have:=I _ (u.mem_iff.2 (oa.2 ⟨j,hj,z,rfl⟩));simp only[JR.pr] at this;omega
  ·have e':p.2.k<=d.clock.now:=by simpa using e
   refine (Q1.Bw (f:=f) (k:=0) (key:=0) (o:=ze.mk 0 0) (i0:=ze.mk 0 0) (by omega) (by intro e;rw[e] at hp;cases hp) hf).bind ?_;rintro _ ⟨p2,rs,r',C',J,rfl,X,F,Q',Y,a0⟩;have W:p2∈h.rs:=X.mem_iff.2 (List.mem_cons_self ..);obtain⟨j,hj,z,rfl⟩:=oa.1 (u.mem_iff.1 W);obtain⟨A,B,eL⟩:=List.append_of_mem hj;have Z:=oO z eL;have P':=back _ _ _ _ _ (A++B) Q' ((X.symm.trans (u.trans Z.1)).cons_inv) Z.2;obtain⟨p',a2,a1,D'⟩:=D.drop eL P';unfold ri;simp only[okA];rw[show j.pr.1=j.item from rfl,uU ((D.by2 j.item j.R).2 ⟨j,hj,rfl,rfl⟩)];simp only[bS];refine Do.seq a1 ?_;have h3:=F p hp;have h4:=I _ W;refine⟨_,rfl,J,_,Y.trans y,⟨Int.le_trans l.1 a0.1,?_⟩,Or.inr ⟨A,j,B,p',eL,z,?_,?_,a2,rfl,rfl,D'⟩⟩
   ·have:=fG (k:=h.k) a4.2 (n:=h.rs.length) (by omega);have h5:=a0.2;have h6:=l.2;show J.a_.m_.steps<=_;omega
   ·unfold It.lt at h3;simp only[JR.pr] at h3;omega
   ·intro i hi O;exact F _ (u.mem_iff.2 (oa.2 ⟨i,hi,O,rfl⟩))
end
end
noncomputable section
set_option maxRecDepth 10000
theorem nq {α β:Type}{f:α -> β}:∀ {l:List β}{L:List α},l.Perm (L.map f) -> ∃ L2:List α,L2.Perm L/\L2.map f=l
 | [],L,h=>by
  have:=h.length_eq;simp only[List.length_nil,lM] at this;exact⟨[],by rw[List.eq_nil_of_length_eq_zero this.symm],rfl⟩
 | x::l,L,h=>by
  obtain⟨p,rs,h1,rfl,h3⟩:=px h.symm;obtain⟨L2,h4,e⟩:=nq h3.symm;exact⟨p::L2,(h4.cons p).trans h1.symm,by rw[pC,e]⟩
def qq (p p':zf):Prop:=p'.most=p.most/\p'.free=p.free/\p'.l.map zq.gen=p.l.map zq.gen/\p'.l.map zq.taken=p.l.map zq.taken
theorem qq.rfl' (p:zf):qq p p:=⟨rfl,rfl,rfl,rfl⟩
theorem qq.trans {p p' e:zf}(h:qq p p')(i:qq p' e):qq p e:=⟨i.1.trans h.1,i.2.1.trans h.2.1,i.2.2.1.trans h.2.2.1,i.2.2.2.trans h.2.2.2⟩
theorem rQ {α β:Type}(f:α -> β){l:List α}{j:Nat}{x y:α}(h:l[j]? = some x)(e:f y=f x):(l.set j y).map f=l.map f:=by
 rw[List.map_set,e];refine List.ext_getElem? fun i=>?_
 by_cases t:j=i
 ·subst t;have hl:=(List.getElem?_eq_some_iff.1 h).1;rw[List.getElem?_set_self (by simpa using hl)];simp[h]
 ·rw[List.getElem?_set_ne t]
theorem qq.set {p:zf}{T:Nat}(I:Pj.Inv p T){r:ze}{v w:zz}(h:Pj.Live p r v):qq p (zf.mk p.most (mSet p.l r.At ⟨r.Gen,true,w⟩) p.free):=by
 obtain⟨j,e,h⟩:=h;refine⟨rfl,rfl,?_,?_⟩ <;> simp only[mSet,e,tN]
 ·exact rQ _ h rfl
 ·exact rQ _ h rfl
def JR.zero (j:JR):JR:=⟨0,j.data,j.R,j.item,j.it⟩
def JR.mv (j:JR):JR:=if j.q=1 then j.zero else j
section
variable {N:Nat} {k:Int} {d:za} {L:List JR} {T:Nat} {f:Nat}
theorem DI.out (D:DI N k d L T):∃ L2:List JR,L2.Perm L/\Pj.out d.t_.p=L2.map JR.R:=by
 have h:(Pj.out d.t_.p).Perm (L.map JR.R):=by
  refine (List.perm_ext_iff_of_nodup Pj.ni D.rn).2 fun r=>?_
  rw[Pj.nh,List.mem_map];constructor
  ·rintro⟨v,hv⟩;obtain⟨j,hj,rfl,_⟩:=(D.jl _ _).1 hv;exact⟨j,hj,rfl⟩
  ·rintro⟨j,hj,rfl⟩;exact⟨_,(D.jl _ _).2 ⟨j,hj,rfl,rfl⟩⟩
 obtain⟨L2,h1,h2⟩:=nq h;exact⟨L2,h1,h2.symm⟩
theorem jE {T:Nat}{L2:List JR}(hl:L2.length<=65536)(hn:(L2.map JR.R).Nodup) :
  ∀ (rest pre:List JR) (t:zn) (n:Int) (m:Nat),L2=pre++rest->rest.length<m->0<=n->n<=pre.length->Pj.Inv t.p T->(∀ r v,Pj.Live t.p r v ↔ ∃ j∈pre.map JR.mv++rest,r=j.R/\v=j.job) ->
   ∃ p',xU 1 0 (L2.length:Int) (L2.map JR.R) m n (pre.length:Int) t=some (n+(rest.filter fun j=>j.q == 1).length,zn.mk p' t.by_)/\Pj.Inv p' T/\qq t.p p'/\(∀ r v,Pj.Live p' r v ↔ ∃ j∈L2.map JR.mv,r=j.R/\v=j.job)
 | [],pre,t,n,m+1,e,hm,h0,h1,I,y=>by
  refine⟨t.p,?_,I,qq.rfl' _,by rw[e,aN];simpa using y⟩;unfold xU;rw[dF (by rw[e];simp),cF];simp
 | x::rest,pre,t,n,m+1,e,hm,h0,h1,I,y=>by
  have hlen:L2.length=pre.length+(rest.length+1):=by rw[e];simp
  simp only[lC] at hm;have B:Pj.Live t.p x.R x.job:=(y _ _).2 ⟨x,by simp,rfl,rfl⟩;have F:mIdx (L2.map JR.R) (pre.length:Int)=some x.R:=by
   rw[yl,List.getElem?_map,e];simp
  have A:∀ j∈pre.map JR.mv++rest,j.R≠x.R:=by
   rw[e,List.map_append,pC] at hn;have h2:=(List.perm_middle.nodup_iff).1 hn;rw[List.nodup_cons] at h2;intro j hj u;refine h2.1 ?_;rcases List.mem_append.1 hj with hj|hj
   ·obtain⟨i,hi,rfl⟩:=List.mem_map.1 hj;have:i.mv.R=i.R:=by unfold JR.mv;split <;> rfl
    exact mL _ (List.mem_map.2 ⟨i,hi,by rw[<- this,u]⟩)
   ·exact List.mem_append_right _ (List.mem_map.2 ⟨j,hj,u⟩)
  unfold xU;rw[dT (by omega),cT,F];simp only[bS];rw[Pj.wL I B];simp only[bS];rw[zP (x:=(pre.length:Int)+1) (by omega) (by omega),show x.job.Queue=x.q from rfl];by_cases hq:x.q=1
  ·have S:=Pj.rD I B (zz.mk 0 x.it.k x.data x.item);have J:=Pj.tB B (zz.mk 0 x.it.k x.data x.item);have z:x.mv=x.zero:=by unfold JR.mv;rw[if_pos hq]
   obtain⟨p',u,D,s2,l2⟩:=jE hl hn rest (pre++[x]) (zn.mk (zf.mk t.p.most (mSet t.p.l x.R.At ⟨x.R.Gen,true,zz.mk 0 x.it.k x.data x.item⟩) t.p.free) t.by_) (n+1) m (by rw[e];simp) (by omega) (by omega) (by simp;omega) (Pj.rC I B _) (by
    intro r v;refine (J r v).trans ?_;simp only[List.map_append,pC,List.map_nil,iA,List.mem_singleton,z];constructor
    ·rintro (⟨rfl,rfl⟩|⟨O,hl⟩)
     ·exact⟨x.zero,Or.inl (Or.inr rfl),rfl,rfl⟩
     ·obtain⟨j,hj,rfl,rfl⟩:=(y _ _).1 hl;rcases List.mem_append.1 hj with hj|hj
      ·exact⟨j,Or.inl (Or.inl hj),rfl,rfl⟩
      ·rcases List.mem_cons.1 hj with rfl|hj
       ·exact absurd rfl O
       ·exact⟨j,Or.inr hj,rfl,rfl⟩
    ·rintro⟨j,(hj|rfl)|hj,rfl,rfl⟩
     ·exact Or.inr ⟨A j (mL _ hj),(y _ _).2 ⟨j,mL _ hj,rfl,rfl⟩⟩
     ·exact Or.inl ⟨rfl,rfl⟩
     ·exact Or.inr ⟨A j (List.mem_append_right _ hj),(y _ _).2 ⟨j,List.mem_append_right _ (mC _ hj),rfl,rfl⟩⟩)
   refine⟨p',?_,D,(qq.set I B).trans s2,l2⟩;rw[hq,show ((1:Int) == 1)=true from rfl,cT];rw[show zz.mk 0 x.job.Time x.job.Data x.job.Item=zz.mk 0 x.it.k x.data x.item from rfl,S];simp only[bS];rw[zP (by omega) (by omega)];rw[show ((pre++[x]).length:Int)=(pre.length:Int)+1 by simp] at u;rw[u,List.filter_cons,hq];simp;omega
  ·have z:x.mv=x:=by unfold JR.mv;rw[if_neg hq]
   have U:(x.q == 1)=false:=by simpa using hq
   obtain⟨p',u,D,s2,l2⟩:=jE hl hn rest (pre++[x]) t n m (by rw[e];simp) (by omega) h0 (by simp;omega) I (by
    intro r v;refine (y r v).trans ?_;simp only[List.map_append,pC,List.map_nil,iA,List.mem_singleton,iC,z,or_assoc,List.not_mem_nil,false_or])
   refine⟨p',?_,D,s2,l2⟩;rw[U,cF];simp only[bS];rw[show ((pre++[x]).length:Int)=(pre.length:Int)+1 by simp] at u;rw[u,List.filter_cons,U]
   rfl
theorem lq {x:Int}{t:zn}{T:Nat}(I:Pj.Inv t.p T){L2:List JR}(hl:L2.length<=65536)(i:∀ j∈L2,Pj.Live t.p j.R j.job) :
  ∀ (rest pre:List JR) (n:Int) (m:Nat),L2=pre++rest->rest.length<m->0<=n->n<=pre.length ->
   xA x (L2.length:Int) t (L2.map JR.R) m n (pre.length:Int)=some (n+(rest.filter fun j=>j.q == x).length)
 | [],pre,n,m+1,e,hm,h0,h1=>by
  unfold xA;rw[dF (by rw[e];simp),cF];simp
 | y::rest,pre,n,m+1,e,hm,h0,h1=>by
  have hlen:L2.length=pre.length+(rest.length+1):=by rw[e];simp
  simp only[lC] at hm;have u:=i y (by rw[e];simp);have l:mIdx (L2.map JR.R) (pre.length:Int)=some y.R:=by
   rw[yl,List.getElem?_map,e];simp
  unfold xA;rw[dT (by omega),cT,l];simp only[bS];rw[Pj.wL I u];simp only[bS];rw[zP (x:=(pre.length:Int)+1) (by omega) (by omega),show y.job.Queue=y.q from rfl,List.filter_cons];cases z:y.q == x with
  | true =>
   have ih:=lq (x:=x) I hl i rest (pre++[y]) (n+1) m (by rw[e];simp) (by omega) (by omega) (by simp;omega);rw[show ((pre++[y]).length:Int)=(pre.length:Int)+1 by simp] at ih;rw[cT,zP (by omega) (by omega)];simp only[bS,if_true];rw[ih];simp;omega
  | false =>
   have ih:=lq (x:=x) I hl i rest (pre++[y]) n m (by rw[e];simp) (by omega) h0 (by simp;omega);rw[show ((pre++[y]).length:Int)=(pre.length:Int)+1 by simp] at ih;rw[cF];simp only[bS,Bool.false_eq_true,if_false];exact ih
theorem DI.count (D:DI N k d L T)(hf:95000<f)(x:Int):ub f d.t_ x=some ((sel x L).length:Int):=by
 obtain⟨L2,hp,e⟩:=D.out;have i:=D.items.2.1;have l:=D.nb;have hl2:=hp.length_eq;unfold ub;rw[Pj.qQ D.jp (by omega),e];simp only[bS];have:=lq (x:=x) D.jp (L2:=L2) (by omega) (fun j hj=>(D.jl _ _).2 ⟨j,hp.mem_iff.1 hj,rfl,rfl⟩) L2 [] 0 f rfl (by omega) (Int.le_refl _) (Int.le_refl _);rw[lM];rw[show ((([]:List JR).length:Nat):Int)=0 from rfl] at this;rw[this];simp only[bS];have:=((hp.filter fun j=>j.q == x).length_eq)
 unfold sel;rw[lM,this];simp
theorem mv_R (j:JR):j.mv.R=j.R:=by unfold JR.mv;split <;> rfl
theorem eG (j:JR):j.mv.item=j.item:=by unfold JR.mv;split <;> rfl
theorem bW (j:JR):j.mv.it=j.it:=by unfold JR.mv;split <;> rfl
theorem BJ (j:JR):j.mv.pr=j.pr:=by unfold JR.mv;split <;> rfl
theorem mv_q {j:JR}(h:j.q=0 \/ j.q=1):j.mv.q=0:=by
 unfold JR.mv;split
 ·rfl
 ·omega
theorem DI.merge (D:DI N k d L T)(hT:T<1000000)(hf:95000<f) :
  Do (xF f d) fun res=>∃ B r p',res=(zr.mk 0 (ze.mk 0 0) 0 0 ((sel 1 L).length:Int),za.mk d.kind d.most B d.heaps0 r (zn.mk p' d.t_.by_) d.when d.clock d.budget d.last d.top)/\qq d.t_.p p'/\B.serial=d.q.serial /\
   DI N k (za.mk d.kind d.most B d.heaps0 r (zn.mk p' d.t_.by_) d.when d.clock d.budget d.last d.top) (L.map JR.mv) (T+1)/\Stp d (za.mk d.kind d.most B d.heaps0 r (zn.mk p' d.t_.by_) d.when d.clock d.budget d.last d.top) 2700:=by
 have F:=D.nb;have Z:=D.items.2.1;obtain⟨L2,hp,A⟩:=D.out;have hl2:=hp.length_eq;obtain⟨h0,h1,Q,e0,Y,O,k1,p0,p1⟩:=D.pq;have l:=ny D.jq;have hs:h0.rs.length+h1.rs.length=L.length:=by
  have:=l.length_eq;rw[lA,lM] at this;rw[p0.length_eq,p1.length_eq];exact this
 unfold xF;rw[<- e0,<- Y];refine (Q.Ad (f:=f) (k:=0) (key:=0) (i0:=ze.mk 0 0) (by rw[O,k1]) (by omega) (by omega) hf).bind ?_;rintro _ ⟨r',C',q1,rfl,U,x,t⟩;simp only;refine (U.fS (f:=f) (k:=d.kind) (a:=ze.mk 0 0) (b:=ze.mk 0 0) (c:=ze.mk 0 0) (key:=0) (by rw[D.dk];exact D.kd) (by simp) (by omega)).bind ?_;rintro _ ⟨r,q2,rfl,W,y,u⟩;simp only;unfold tP;rw[Pj.qQ D.jp (by omega),A];simp only[bS];obtain⟨p',J,S,s2,l2⟩:=jE (T:=T) (L2:=L2) (by omega) (((hp.map JR.R).nodup_iff).2 D.rn) L2 [] d.t_ 0 f rfl (by omega) (Int.le_refl _) (Int.le_refl _) D.jp (by
  intro r v;refine (D.jl r v).trans ⟨?_,?_⟩
  ·rintro⟨j,hj,e⟩;exact⟨j,hp.mem_iff.2 hj,e⟩
  ·rintro⟨j,hj,e⟩;exact⟨j,hp.mem_iff.1 hj,e⟩)
 rw[show ((([]:List JR).length:Nat):Int)=0 from rfl] at J;rw[lM,J];simp only[bS];have z:(0:Int)+((L2.filter fun j=>j.q == 1).length:Int)=((sel 1 L).length:Int):=by
  have:=((hp.filter fun j=>j.q == 1).length_eq)
  unfold sel;rw[lM,this];simp
 rw[z];have X:h0.ref=d.heaps0:=e0;have hz:sel 0 (L.map JR.mv)=L.map JR.pr:=by
  unfold sel;rw[List.filter_eq_self.2 (fun j hj=>by
   obtain⟨i,hi,rfl⟩:=List.mem_map.1 hj;simp[mv_q (D.jq i hi)]),List.map_map]
  exact List.map_congr_left fun j _=>BJ j
 have I:sel 1 (L.map JR.mv)=[]:=by
  unfold sel;rw[List.filter_eq_nil_iff.2 (fun j hj=>by
   obtain⟨i,hi,rfl⟩:=List.mem_map.1 hj;simp[mv_q (D.jq i hi)])]
  rfl
 refine⟨_,rfl,q2,r,p',rfl,s2,y.trans x,?_,?_⟩
 ·refine⟨D.kd,D.dk,D.dm,D.nb,?_,?_,S.mono (by omega),s2.1.trans D.jm,?_,D.by1,?_,D.wh1,?_,?_,?_,D.bu,D.la,D.to⟩
  ·refine⟨_,_,W.p (List.Perm.swap ..),rfl,rfl,O,D.dk,?_,?_⟩
   ·rw[hz];exact (p0.append p1).trans l
   ·rw[I]
  ·intro j hj;obtain⟨i,hi,rfl⟩:=List.mem_map.1 hj;exact Or.inl (mv_q (D.jq i hi))
  ·intro r v;refine (l2 r v).trans ⟨?_,?_⟩
   ·rintro⟨j,hj,e⟩;exact⟨j,((hp.map JR.mv).mem_iff).1 hj,e⟩
   ·rintro⟨j,hj,e⟩;exact⟨j,((hp.map JR.mv).mem_iff).2 hj,e⟩
  ·intro i r;refine (D.by2 i r).trans ⟨?_,?_⟩
   ·rintro⟨j,hj,rfl,rfl⟩;exact⟨j.mv,List.mem_map_of_mem hj,(eG j).symm,(mv_R j).symm⟩
   ·rintro⟨j,hj,rfl,rfl⟩;obtain⟨i,hi,rfl⟩:=List.mem_map.1 hj;exact⟨i,hi,eG i,mv_R i⟩
  ·intro r s;refine (D.wh2 r s).trans ⟨?_,?_⟩
   ·rintro⟨j,hj,rfl,rfl⟩;exact⟨j.mv,List.mem_map_of_mem hj,(mv_R j).symm,by rw[bW]⟩
   ·rintro⟨j,hj,rfl,rfl⟩;obtain⟨i,hi,rfl⟩:=List.mem_map.1 hj;exact⟨i,hi,mv_R i,by rw[bW]⟩
  ·have:(L.map JR.mv).map JR.R=L.map JR.R:=by
    rw[List.map_map];exact List.map_congr_left fun j _=>mv_R j
   rw[this];exact D.rn
  ·have h1:=D.cn;have h2:=congrArg List.length s2.2.2.1;simp only[lM] at h2 ⊢;rw[s2.2.1,h2];exact h1
 ·have h1:=fG (k:=h0.k) F.2 (n:=h0.rs.length+h1.rs.length) (by omega);have h2:=t.2;have h3:=u.2;exact⟨Int.le_trans t.1 u.1,by show q2.a_.m_.steps<=_;omega⟩
end
end
noncomputable section
set_option maxRecDepth 10000
inductive How (N:Nat) (p:zf) (s now:Int) (L:List JR) (c:zt):zr->zf->Int->Int->List JR->Prop
 | bad (hk:c.Kind=1 \/ c.Kind=5 \/ c.Kind=6 \/ c.Kind=7) (hq:¬ (c.Queue=0 \/ c.Queue=1)):How N p s now L c (no 1) p s now L
 | full (hk:c.Kind=1) (hq:c.Queue=0 \/ c.Queue=1) (hl:L.length=N):How N p s now L c (no 13) p s now L
 | sched (j:JR) (p':zf) (v:zz) (hk:c.Kind=1) (hq:c.Queue=0 \/ c.Queue=1) (hl:L.length<N) (h1:j.q=c.Queue) (h2:j.data=c.Data) (h3:j.it.k=c.Time) (h4:j.it.s=s) (ht:yd p v=some (j.R,true,p')):How N p s now L c (zr.mk 0 j.R c.Time c.Data 0) p' (s+1) now (L++[j])
 | dead (e:Int) (hk:c.Kind=2 \/ c.Kind=3) (he:(e == (0:Int))=false) (hf:zN p c.Job=some (none,e)):How N p s now L c (no e) p s now L
 | late (A:List JR) (j:JR) (B:List JR) (hk:c.Kind=2) (eL:L=A++j::B) (hj:c.Job=j.R) (ht:c.Time > j.it.k):How N p s now L c (no 26) p s now L
 | soon (A:List JR) (j:JR) (B:List JR) (p':zf) (hk:c.Kind=2) (eL:L=A++j::B) (hj:c.Job=j.R) (ht:c.Time<=j.it.k) (hp:qq p p'):How N p s now L c (zr.mk 0 (ze.mk 0 0) c.Time j.data 0) p' s now (A++⟨j.q,j.data,j.R,j.item,⟨j.it.i,c.Time,j.it.s⟩⟩::B)
 | canc (A:List JR) (j:JR) (B:List JR) (p':zf) (hk:c.Kind=3) (eL:L=A++j::B) (hj:c.Job=j.R) (hp:zQ p j.R=some (j.job,0,p')):How N p s now L c (zr.mk 0 (ze.mk 0 0) j.it.k j.data 0) p' s now (A++B)
 | back (hk:c.Kind=4) (ht:c.Time<0):How N p s now L c (no 1) p s now L
 | go (t:Int) (hk:c.Kind=4) (ht:¬ c.Time<0) (ha:wS now c.Time=some t):How N p s now L c (zr.mk 0 (ze.mk 0 0) t 0 0) p s t L
 | idle (hk:c.Kind=5) (hq:c.Queue=0 \/ c.Queue=1) (hn:∀ j∈L,j.q=c.Queue->now<j.it.k):How N p s now L c (no 28) p s now L
 | fire (A:List JR) (j:JR) (B:List JR) (p':zf) (hk:c.Kind=5) (hq:c.Queue=0 \/ c.Queue=1) (eL:L=A++j::B) (hj:j.q=c.Queue) (hn:j.it.k<=now) (hm:∀ i∈L,i.q=c.Queue -> ¬ i.it.lt j.it) (hp:zQ p j.R=some (j.job,0,p')):How N p s now L c (zr.mk 0 j.R j.it.k j.data 0) p' s now (A++B)
 | self (hk:c.Kind=6) (hq:c.Queue=0):How N p s now L c (no 25) p s now L
 | merge (p':zf) (hk:c.Kind=6) (hq:c.Queue=1) (hp:qq p p'):How N p s now L c (zr.mk 0 (ze.mk 0 0) 0 0 ((sel 1 L).length:Int)) p' s now (L.map JR.mv)
 | count (hk:c.Kind=7) (hq:c.Queue=0 \/ c.Queue=1):How N p s now L c (zr.mk 0 (ze.mk 0 0) 0 0 ((sel c.Queue L).length:Int)) p s now L
 | unknown (h:¬ (c.Kind=1 \/ c.Kind=2 \/ c.Kind=3 \/ c.Kind=4 \/ c.Kind=5 \/ c.Kind=6 \/ c.Kind=7)):How N p s now L c (no 12) p s now L
theorem dx (a b:Int):∃ t,wS a b=some t:=by
 unfold wS;cases (decide (b > 0)) && (decide (a > w64 (9223372036854775807 - b))) with
 | true=>exact⟨_,rfl⟩
 | false =>
  cases (decide (b<0)) && (decide (a<w64 ((-9223372036854775808) - b))) with
  | true=>exact⟨_,rfl⟩
  | false=>exact⟨_,rfl⟩
section
variable {N:Nat} {k:Int} {d:za} {L:List JR} {T:Nat} {f:Nat}
theorem DI.mono (D:DI N k d L T){T':Nat}(h:T<=T'):DI N k d L T':=by
 refine⟨D.kd,D.dk,D.dm,D.nb,D.pq.same fun hs Q=>?_,D.jq,D.jp.mono h,D.jm,D.jl,D.by1,D.by2,D.wh1,D.wh2,D.rn,D.cn,D.bu,D.la,D.to⟩;exact⟨{ Q.ih with gen:=fun j x e=>by have:=Q.ih.gen j x e;omega },Q.ii.mono h,Q.hl,Q.il,Q.at1,Q.at2,Q.en1,Q.en2,Q.hk,Q.hn,Q.rn,Q.sn,Q.ar,Q.mi,Q.mm,Q.mb,Q.ci,Q.ch,Q.cm,Q.sr,by have:=Q.sq;omega⟩
theorem cc (d:za)(B:Nat):Stp d d B:=⟨Int.le_refl _,by omega⟩
theorem DI.one (D:DI N k d L T)(X:T<1000000)(hf:95000<f)(c:zt) :
  Do (wc f d c) fun res=>∃ L',How N d.t_.p d.q.serial d.clock.now L c res.1 res.2.t_.p res.2.q.serial res.2.clock.now L'/\DI N k res.2 L' (T+1)/\Stp d res.2 2800/\res.2.budget=d.budget/\res.2.top=d.top:=by
 have l:=D.mono (Nat.le_succ T);have u:=cc d 2800;unfold wc;by_cases hk:c.Kind=1 \/ c.Kind=5 \/ c.Kind=6 \/ c.Kind=7
 ·have Y:(bif c.Kind == 1 then some (c.Kind == 1) else (bif c.Kind == 5 then some (c.Kind == 5) else (bif c.Kind == 6 then some (c.Kind == 6) else some (c.Kind == 7))))=some true:=by
   rcases hk with e|e|e|e <;> rw[e] <;> rfl
  rw[Y];simp only[bS,cT];by_cases hq:c.Queue=0 \/ c.Queue=1
  ·have O:(!((decide (c.Queue >= 0)) && (decide (c.Queue<2))))=false:=by rcases hq with e|e <;> rw[e] <;> rfl
   rw[O];simp only[cF,bS];rcases hk with e|e|e|e <;> rw[e]
   ·refine Do.t rfl ((D.schedule X hf hq).bind ?_);rintro res (⟨hl,rfl⟩|⟨hl,j,x,p',v,h1,h2,h3,h4,Z,h6,rfl,h8,W⟩)
    ·exact⟨_,rfl,L,.full e hq hl,l,u,rfl,rfl⟩
    ·refine⟨_,rfl,L++[j],?_,h8,⟨W.1,Int.le_trans W.2 (by omega)⟩,rfl,rfl⟩;show How N d.t_.p d.q.serial d.clock.now L c _ p' x.serial d.clock.now _;rw[Z];exact .sched j p' v e hq hl h1 h2 h3 h4 h6
   ·refine Do.f rfl (Do.f rfl (Do.f rfl (Do.f rfl (Do.t rfl ((D.fire hf hq).bind ?_)))));rintro res ⟨x,d',hs,i,h⟩;rcases h with ⟨hn,rfl,rfl,y⟩|⟨A,j,B,p',eL,hj,hn,hm,hp,rfl,rfl,y⟩
    ·refine⟨_,rfl,L,?_,y.mono (Nat.le_succ T),i,rfl,rfl⟩;show How N d.t_.p d.q.serial d.clock.now L c _ d.t_.p x.serial d.clock.now _;rw[hs];exact .idle e hq hn
    ·refine⟨_,rfl,A++B,?_,y.mono (Nat.le_succ T),i,rfl,rfl⟩;show How N d.t_.p d.q.serial d.clock.now L c _ p' x.serial d.clock.now _;rw[hs];exact .fire A j B p' e hq eL hj hn hm hp
   ·refine Do.f rfl (Do.f rfl (Do.f rfl (Do.f rfl (Do.f rfl (Do.t rfl ?_)))));rcases hq with J|J <;> rw[J]
    ·refine Do.t rfl ?_;exact⟨_,rfl,L,.self e J,l,u,rfl,rfl⟩
    ·refine Do.f rfl ((D.merge X hf).bind ?_);rintro res ⟨x,r,p',rfl,hp,hs,y,i⟩;refine⟨_,rfl,L.map JR.mv,?_,y,⟨i.1,Int.le_trans i.2 (by omega)⟩,rfl,rfl⟩;show How N d.t_.p d.q.serial d.clock.now L c _ p' x.serial d.clock.now _;rw[hs];exact .merge p' e J hp
   ·refine Do.f rfl (Do.f rfl (Do.f rfl (Do.f rfl (Do.f rfl (Do.f rfl (Do.t rfl ?_))))));rw[D.count hf c.Queue];exact⟨_,rfl,L,.count e hq,l,u,rfl,rfl⟩
  ·have O:(!((decide (c.Queue >= 0)) && (decide (c.Queue<2))))=true:=by
    cases h1:decide (c.Queue >= 0) with
    | false=>rfl
    | true =>
     cases h2:decide (c.Queue<2) with
     | false=>rfl
     | true =>
      have h1:=of_decide_eq_true h1;have h2:=of_decide_eq_true h2;omega
   rw[O];exact⟨_,rfl,L,.bad hk hq,l,u,rfl,rfl⟩
 ·have n1:(c.Kind == 1)=false:=by simp;omega
  have n5:(c.Kind == 5)=false:=by simp;omega
  have n6:(c.Kind == 6)=false:=by simp;omega
  have n7:(c.Kind == 7)=false:=by simp;omega
  rw[n1,n5,n6,n7];simp only[cF,bS];by_cases h2:c.Kind=2
  ·rw[show (c.Kind == 2)=true by simp[h2],cT];refine (D.AH hf c).bind ?_;rintro res (⟨e,he,F,rfl⟩|⟨A,j,B,eL,hj,⟨ht,rfl⟩|⟨x,p',b',d',ht,z,rfl,rfl,hs,y,i⟩⟩)
   ·exact⟨_,rfl,L,.dead e (Or.inl h2) he F,l,u,rfl,rfl⟩
   ·exact⟨_,rfl,L,.late A j B h2 eL hj ht,l,u,rfl,rfl⟩
   ·refine⟨_,rfl,_,?_,y.mono (Nat.le_succ T),⟨i.1,Int.le_trans i.2 (by omega)⟩,rfl,rfl⟩;show How N d.t_.p d.q.serial d.clock.now L c _ p' x.serial d.clock.now _;rw[hs];refine .soon A j B p' h2 eL hj ht ?_;have I:Pj.Live d.t_.p j.R j.job:=(D.jl _ _).2 ⟨j,by rw[eL];simp,rfl,rfl⟩;have S:=Pj.rD D.jp I (zz.mk j.q c.Time j.data j.item);rw[S] at z;have:=(Prod.mk.inj (Option.some.inj z)).2;rw[<- this];exact qq.set D.jp I
  ·rw[show (c.Kind == 2)=false by simp[h2],cF];by_cases h3:c.Kind=3
   ·rw[show (c.Kind == 3)=true by simp[h3],cT];refine (D.cancel hf c.Job).bind ?_;rintro res (⟨e,he,F,rfl⟩|⟨A,j,B,x,p',d',eL,hj,hg,rfl,rfl,hs,y,i⟩)
    ·exact⟨_,rfl,L,.dead e (Or.inr h3) he F,l,u,rfl,rfl⟩
    ·refine⟨_,rfl,_,?_,y.mono (Nat.le_succ T),⟨i.1,Int.le_trans i.2 (by omega)⟩,rfl,rfl⟩;show How N d.t_.p d.q.serial d.clock.now L c _ p' x.serial d.clock.now _;rw[hs];exact .canc A j B p' h3 eL hj hg
   ·rw[show (c.Kind == 3)=false by simp[h3],cF];by_cases h4:c.Kind=4
    ·rw[show (c.Kind == 4)=true by simp[h4],cT];unfold sE;by_cases ht:c.Time<0
     ·rw[dT ht,cT];exact⟨_,rfl,L,.back h4 ht,l,u,rfl,rfl⟩
     ·rw[dF ht,cF];obtain⟨t,U⟩:=dx d.clock.now c.Time;rw[U];refine⟨_,rfl,L,.go t h4 ht U,?_,u,rfl,rfl⟩;exact⟨l.kd,l.dk,l.dm,l.nb,l.pq,l.jq,l.jp,l.jm,l.jl,l.by1,l.by2,l.wh1,l.wh2,l.rn,l.cn,l.bu,l.la,l.to⟩
    ·rw[show (c.Kind == 4)=false by simp[h4],cF];exact⟨_,rfl,L,.unknown (by omega),l,u,rfl,rfl⟩
structure Went (N:Nat) (k:Int) (d:za) (L:List JR) (T:Nat) (c:zt) (rep:zr) (d':za) (L':List JR):Prop where
 how:How N d.t_.p d.q.serial d.clock.now L c rep d'.t_.p d'.q.serial d'.clock.now L'
 di:DI N k d' L' (T+1)
 bu:d'.budget=d.budget
theorem DI.do (D:DI N k d L T)(l:T<1000000)(hf:95000<f)(c:zt) :
  Do (zW f d c) fun res=>∃ L',Went N k d L T c res.1 res.2 L':=by
 unfold zW;refine Do.seq (r:=d.q.a_.m_.steps) rfl ?_;refine (D.one l hf c).bind ?_;rintro⟨rep,d'⟩ ⟨L',hh,e,i,j,ht⟩;simp only at hh e i j ht ⊢;refine Do.seq (r:=d'.q.a_.m_.steps) rfl ?_;have h1:=i.1;have h2:=i.2;have h3:=e.bu;have t:=e.to;have u:=e.la;rw[zP (by omega) (by omega)];refine Do.f (dF (by omega)) ?_;refine⟨_,rfl,L',hh,?_,j⟩;refine⟨e.kd,e.dk,e.dm,e.nb,e.pq,e.jq,e.jp,e.jm,e.jl,e.by1,e.by2,e.wh1,e.wh2,e.rn,e.cn,e.bu,?_,?_⟩
 ·simp only;omega
 ·simp only;split <;> omega
theorem iw {b:Nat}(i:b<=1000):∀ (r x:Nat) (a:Int) (m:Nat),x+r=b->r<m->0<=a->a+1600*r<=1000000 -> ∃ v,w9 1600 (b:Int) m a (x:Int)=some v/\a+1600*r<=v
 | 0,x,a,m+1,e,hm,h0,h1=>by
  refine⟨a,?_,by omega⟩;unfold w9;rw[dF (by omega),cF]
 | r+1,x,a,m+1,e,hm,h0,h1=>by
  obtain⟨v,hv,hle⟩:=iw i r (x+1) (a+1600) m (by omega) (by omega) (by omega) (by omega);refine⟨v,?_,by omega⟩;unfold w9 wS;rw[dT (by omega),cT,zP (x:=9223372036854775807 - 1600) (by omega) (by omega),dF (p:=a > 9223372036854775807 - 1600) (by omega),Bool.and_false,cF];rw[show decide ((1600:Int)<0)=false from rfl,Bool.false_and,cF];simp only[bS];rw[zP (x:=a+1600) (by omega) (by omega),zP (x:=(x:Int)+1) (by omega) (by omega)];rw[show ((x+1:Nat):Int)=(x:Int)+1 by simp] at hv;exact hv
theorem bM:∀ n:Fin 60,(match qj ((n.val:Int)+2) with|some b=>decide (1<=b/\b<=8)|none=>false)=true:=by decide +kernel
theorem fK {f:Nat}(hf:95000<f){k:Int}(hk:Kd k){N:Nat}(h1:1<=N)(h2:N<=60):∃ b,si f k (N:Int)=some (b,true)/\3600<=b:=by
 have hw:uz k=some true:=by
  unfold uz;rcases hk with rfl|rfl|rfl <;> rfl
 have i:=bM ⟨N - 1,by omega⟩;unfold si;rw[hw];simp only[bS];rw[show (!true)=false from rfl,cF,dF (by omega),cF,dF (by omega)];simp only[bS,cF];unfold rz;rw[zP (by omega) (by omega)];simp only at i;rw[show ((N - 1:Nat):Int)+2=(N:Int)+1 by omega] at i;cases e:qj ((N:Int)+1) with
 | none=>rw[e] at i;cases i
 | some b =>
  rw[e] at i;have i:=of_decide_eq_true i;obtain⟨j,rfl⟩:∃ j:Nat,b=(j:Int):=⟨b.toNat,by omega⟩
  obtain⟨v,hv,hle⟩:=iw (b:=j) (by omega) j 0 2000 f (by omega) (by omega) (by omega) (by omega);simp only[bS];rw[show ((0:Nat):Int)=0 from rfl] at hv;rw[hv];exact⟨v,rfl,by omega⟩
theorem DI.new (hf:95000<f)(hk:Kd k)(h1:1<=N)(h2:N<=60) :
  ∃ d,sm f k (N:Int)=some (some d,0)/\DI N k d [] 2/\d.clock.now=0/\d.q.serial=0/\d.t_.p=zf.mk (N:Int) [] []:=by
 have hw:uz k=some true:=by
  unfold uz;rcases hk with rfl|rfl|rfl <;> rfl
 obtain⟨b,z,B⟩:=fK hf hk h1 h2;obtain⟨q,eq,Q,hs,I⟩:=AE (M:=N) h1 (by omega);obtain⟨_,e,r0,q1,rfl,t,D,_⟩:=Q.fS (f:=f) (k:=k) (a:=ze.mk 0 0) (b:=ze.mk 0 0) (c:=ze.mk 0 0) (key:=0) hk (by simp) (by omega);obtain⟨_,l,r1,q2,rfl,u,F,_⟩:=t.fS (f:=f) (k:=k) (a:=ze.mk 0 0) (b:=ze.mk 0 0) (c:=ze.mk 0 0) (key:=0) hk (by simp) (by omega);have x:(if (if 4096<(N:Int) then 4096 else (N:Int)) > 1 then (if 4096<(N:Int) then 4096 else (N:Int)) else 1)=(N:Int):=by
  rw[show (if 4096<(N:Int) then 4096 else (N:Int))=(N:Int) from if_neg (by omega)];split <;> omega
 have y:(if (if 65536<(N:Int) then 65536 else (N:Int)) > 0 then (if 65536<(N:Int) then 65536 else (N:Int)) else 0)=(N:Int):=by
  rw[show (if 65536<(N:Int) then 65536 else (N:Int))=(N:Int) from if_neg (by omega),if_pos (by omega)]
 have A:q7 (N:Int)=some (zn.mk (zf.mk (N:Int) [] []) []):=by
  unfold q7 uX;rw[x];simp only[bS];rw[y]
 refine⟨za.mk k (N:Int) q2 r0 r1 (zn.mk (zf.mk (N:Int) [] []) []) [] (zL.mk 0) b 0 0,?_,?_,rfl,by simp only;omega,rfl⟩
 ·unfold sm;rw[hw];simp only[bS];rw[show (!true)=false from rfl,cF,z];simp only[bS];rw[show (!true)=false from rfl,cF,eq];simp only[bS,tm,oS];rw[A];simp only[bS];unfold qU;simp only[bS];rw[e];simp only[bS];rw[l]
  rfl
 ·refine⟨hk,rfl,rfl,⟨h1,h2⟩,?_,?_,Pj.jG (by omega) (by omega) 2,rfl,?_,List.nodup_nil,?_,List.nodup_nil,?_,List.nodup_nil,rfl,B,⟨Int.le_refl _,by simp only;omega⟩,⟨Int.le_refl _,by simp only;omega⟩⟩
  ·exact⟨_,_,u.p (List.Perm.swap ..),rfl,rfl,rfl,rfl,.refl _,.refl _⟩
  ·intro j hj;cases hj
  ·intro r v;constructor
   ·intro h;exact absurd h Pj.iE
   ·rintro⟨j,hj,_⟩;cases hj
  ·intro i r;constructor
   ·intro h;cases h
   ·rintro⟨j,hj,_⟩;cases hj
  ·intro i r;constructor
   ·intro h;cases h
   ·rintro⟨j,hj,_⟩;cases hj
end
end
noncomputable section
set_option maxRecDepth 10000
structure PR (p:zf) (r:zk):Prop where
 mo:r.Most=p.most
 ge:r.Gens=p.l.map zq.gen
 tk:r.In=p.l.map zq.taken
 vl:r.V.length=p.l.length
 bk:r.Back=p.free
def rj (j:JR):zC:=zC.mk j.q j.data (zi.mk j.it.k j.it.s) j.R
structure TI (N:Nat) (p:zf) (s now:Int) (L:List JR) (m:zc):Prop where
 mo:m.Most=N
 nw:m.Now=now
 nx:m.Next=s
 po:PR p m.Pool
 ls:m.L=L.map rj
section
variable {p p':zf} {r:zk} {T:Nat} {L:List JR}
theorem PR.same (P:PR p r)(h:qq p p'):PR p' r :=
 ⟨P.mo.trans h.1.symm,P.ge.trans h.2.2.1.symm,P.tk.trans h.2.2.2.symm,by have:=congrArg List.length h.2.2.1;simp only[lM] at this;rw[P.vl,this],P.bk.trans h.2.1.symm⟩
theorem PR.look (P:PR p r)(I:Pj.Inv p T)(s:ze){x:Option Int}{e:Int}(h:zN p s=some (x,e)):xR r s=some e:=by
 unfold zN at h;unfold xR;have i:(r.Gens.length:Int)=(p.l.length:Int):=by rw[P.ge,lM]
 rw[i];by_cases h1:s.At<0
 ·rw[dT h1] at h ⊢;simp only[cT,bS,Option.some.injEq,Prod.mk.injEq] at h ⊢;exact h.2
 rw[dF h1] at h ⊢;by_cases h2:s.At >= (p.l.length:Int)
 ·rw[dT h2] at h ⊢;simp only[cT,cF,bS,Option.some.injEq,Prod.mk.injEq] at h ⊢;exact h.2
 rw[dF h2] at h ⊢;by_cases h3:s.Gen<1
 ·rw[dT h3] at h ⊢;simp only[cT,cF,bS,Option.some.injEq,Prod.mk.injEq] at h ⊢;exact h.2
 rw[dF h3] at h ⊢;obtain⟨j,hj⟩:∃ j:Nat,s.At=(j:Int):=⟨s.At.toNat,by omega⟩
 obtain⟨y,t⟩:∃ y,p.l[j]? = some y:=⟨_,List.getElem?_eq_getElem (by omega)⟩
 rw[hj,yl,t] at h;have z:mIdx r.Gens (j:Int)=some y.gen:=by rw[P.ge,yl,List.getElem?_map,t];rfl
 have A:mIdx r.In (j:Int)=some y.taken:=by rw[P.tk,yl,List.getElem?_map,t];rfl
 rw[hj,z,A];simp only[cF,bS] at h ⊢;by_cases h4:s.Gen > y.gen
 ·rw[dT h4] at h ⊢;simp only[cT,Option.some.injEq,Prod.mk.injEq] at h ⊢;exact h.2
 rw[dF h4] at h ⊢;simp only[cF] at h ⊢;by_cases u:s.Gen<y.gen
 ·rw[dT u] at h ⊢;simp only[Bool.true_or,cT,bS,Option.some.injEq,Prod.mk.injEq] at h ⊢;exact h.2
 rw[dF u] at h ⊢;cases ht:y.taken with
 | true =>
  rw[ht] at h;simp only[Bool.not_true,Bool.or_false,cF,bS,Option.some.injEq,Prod.mk.injEq] at h ⊢;exact h.2
 | false =>
  rw[ht] at h;simp only[Bool.not_false,Bool.or_true,cT,cF,bS,Option.some.injEq,Prod.mk.injEq] at h ⊢;exact h.2
theorem PR.full (P:PR p r)(hf:p.free=[])(hl:(p.l.length:Int)=p.most):yW r 0=some (ze.mk 0 0,false,r):=by
 unfold yW;rw[P.bk,hf];rw[show decide (((([]:List Int).length:Nat):Int) > 0)=false from rfl,cF,P.ge,lM,P.mo,dT (by omega),cT]
 rfl
theorem PR.take (P:PR p r)(I:Pj.Inv p T)(J:T<1000000000){v:zz}{R:ze}(e:(p.l.length:Int)<p.most+p.free.length)(h:yd p v=some (R,true,p')) :
  ∃ r',yW r 0=some (R,true,r')/\PR p' r':=by
 have hl:=I.lb;rcases List.eq_nil_or_concat p.free with hf|⟨fs,f,hf⟩
 ·rw[hf] at e;rw[Pj.qo I hf (by simpa using e)] at h;simp only[Option.some.injEq,Prod.mk.injEq,true_and] at h;obtain⟨rfl,rfl⟩:=h;refine⟨zk.mk r.Most (mSet (r.Gens++[0]) (r.Gens.length:Int) 1) (mSet (r.In++[false]) (r.Gens.length:Int) true) (mSet (r.V++[0]) (r.Gens.length:Int) 0) r.Back,?_,?_⟩
  ·have i:r.Gens.length=p.l.length:=by rw[P.ge,lM]
   have t:r.In.length=p.l.length:=by rw[P.tk,lM]
   have A:=P.vl;unfold yW;rw[P.bk,hf];rw[show decide (((([]:List Int).length:Nat):Int) > 0)=false from rfl,cF,i,P.mo,dF (by simp at e;omega),cF];rw[y4 (by simp;omega),y4 (by simp;omega),y4 (by simp;omega)];simp only[bS];have h1:mIdx (r.Gens++[0]) (p.l.length:Int)=some 0:=by rw[<- i];exact yr r.Gens [] 0
   have h2:mIdx (r.In++[false]) (p.l.length:Int)=some false:=by rw[<- t];exact yr r.In [] false
   have h3:mIdx (r.V++[0]) (p.l.length:Int)=some 0:=by rw[<- A];exact yr r.V [] 0
   rw[h1,h2,h3];simp only[bS];rw[show w64 (0+1)=1 by rw[zP] <;> simp];have h4:mIdx (mSet (r.Gens++[0]) (p.l.length:Int) 1) (p.l.length:Int)=some 1:=by
    rw[yl];simp only[mSet,tN];rw[List.getElem?_set_self (by simp;omega)]
   rw[h4]
   rfl
  ·have i:r.Gens.length=p.l.length:=by rw[P.ge,lM]
   have t:r.In.length=p.l.length:=by rw[P.tk,lM]
   have hs:∀ {α:Type} (l:List α) (a b:α),(l++[a]).set l.length b=l++[b]:=fun l a b=>by simp
   refine⟨P.mo,?_,?_,?_,P.bk.trans hf⟩
   ·simp only[mSet,tN];rw[hs,P.ge];simp
   ·simp only[mSet,tN];rw[i,<- t,hs,P.tk];simp
   ·simp[mSet,P.vl]
 ·rw[List.concat_eq_append] at hf;obtain⟨j,x,rfl,hj,ht⟩:=I.fre f (by rw[hf];simp);have O:=I.gen j x hj;rw[Pj.s7 I (by omega) hf hj] at h;simp only[Option.some.injEq,Prod.mk.injEq,true_and] at h;obtain⟨rfl,rfl⟩:=h;have y:=(List.getElem?_eq_some_iff.1 hj).1;have F:fs.length<1000000:=by
   have h0:=I.flen;rw[hf] at h0;simp only[lA,List.length_singleton] at h0;omega
  have hw:w64 (((fs++[(j:Int)]).length:Int) - 1)=(fs.length:Int):=by rw[zP] <;> simp <;> omega
  have z:mIdx (fs++[(j:Int)]) (fs.length:Int)=some (j:Int):=yr fs [] (j:Int);have u:mCut (fs++[(j:Int)]) 0 (fs.length:Int)=some fs:=by
   unfold mCut;rw[if_pos ⟨by omega,by omega,by simp;omega⟩];simp
  have B:mIdx r.Gens (j:Int)=some x.gen:=by rw[P.ge,yl,List.getElem?_map,hj];rfl
  have D:mIdx r.In (j:Int)=some x.taken:=by rw[P.tk,yl,List.getElem?_map,hj];rfl
  have hV:∃ v0,mIdx r.V (j:Int)=some v0:=⟨_,by rw[yl];exact List.getElem?_eq_getElem (by rw[P.vl];exact y)⟩
  obtain⟨v0,hV⟩:=hV;refine⟨zk.mk r.Most (mSet r.Gens (j:Int) (x.gen+1)) (mSet r.In (j:Int) true) (mSet r.V (j:Int) 0) fs,?_,?_⟩
  ·unfold yW;rw[P.bk,hf,dT (by simp),cT,hw,z];simp only[bS];rw[u];simp only[bS];rw[B,D,hV];simp only[bS];rw[zP (by omega) (by omega)];have h4:mIdx (mSet r.Gens (j:Int) (x.gen+1)) (j:Int)=some (x.gen+1):=by
    rw[yl];simp only[mSet,tN];rw[List.getElem?_set_self (by rw[P.ge,lM];exact y)]
   rw[h4]
   rfl
  ·refine⟨P.mo,?_,?_,?_,rfl⟩
   ·simp only[mSet,tN];rw[P.ge,List.map_set]
   ·simp only[mSet,tN];rw[P.tk,List.map_set]
   ·simp only[mSet,List.length_set];exact P.vl
theorem PR.give (P:PR p r)(I:Pj.Inv p T){v:zz}{s:ze}(h:Pj.Live p s v)(i:zQ p s=some (v,0,p')) :
  ∃ x r',wH r s=some (x,0,r')/\PR p' r':=by
 rw[Pj.sR I h] at i;simp only[Option.some.injEq,Prod.mk.injEq,true_and] at i;subst i;have t:=P.look I s (Pj.wq I h);obtain⟨j,e,hj⟩:=h;have l:=(List.getElem?_eq_some_iff.1 hj).1;have A:=I.lb;have z:=I.flen;have u:mIdx r.In (j:Int)=some true:=by rw[P.tk,yl,List.getElem?_map,hj];rfl
 obtain⟨v0,hV⟩:∃ v0,mIdx r.V (j:Int)=some v0:=⟨_,by rw[yl];exact List.getElem?_eq_getElem (by rw[P.vl];exact l)⟩
 refine⟨v0,zk.mk r.Most r.Gens (mSet r.In (j:Int) false) r.V (p.free++[(j:Int)]),?_,?_⟩
 ·unfold wH;rw[t];simp only[bS];rw[show ((0:Int) != 0)=false from rfl,cF,e,u];simp only[bS];rw[P.bk,y4 (by simp;omega),List.nil_append];simp only[bS];rw[y4 (by simp;omega)];simp only[bS];rw[hV]
  rfl
 ·refine⟨P.mo,?_,?_,?_,by rw[e]⟩
  ·simp only[mSet,e,tN];exact P.ge.trans (rQ (y:=⟨s.Gen,false,zz.mk 0 0 0 (ze.mk 0 0)⟩) zq.gen hj rfl).symm
  ·simp only[mSet,e,tN];rw[P.tk,List.map_set]
  ·simp only[mSet,List.length_set];exact P.vl
end
end
noncomputable section
set_option maxRecDepth 10000
def bef (a b:JR):Prop:=a.it.k<b.it.k \/ (a.it.k=b.it.k/\a.it.s<b.it.s)
instance (a b:JR):Decidable (bef a b):=by unfold bef;exact inferInstance
theorem fH (a b:JR):((decide (a.it.k<b.it.k)) || ((a.it.k == b.it.k) && (decide (a.it.s<b.it.s))))=decide (bef a b):=by
 by_cases h:bef a b
 ·rw[dT h];rcases h with h|⟨h1,h2⟩
  ·rw[dT h];rfl
  ·rw[dT h2];simp[h1]
 ·rw[dF h];unfold bef at h;rw[Bool.or_eq_false_iff,Bool.and_eq_false_iff];refine⟨dF (by omega),?_⟩;by_cases h1:a.it.k=b.it.k
  ·exact Or.inr (dF (by omega))
  ·exact Or.inl (by simpa using h1)
def Best (x:Int)(P:List JR)(b:Int):Prop :=
 (b = -1 /\ ∀ j∈P,j.q≠x) \/ ∃ (i:Nat) (j:JR),b=(i:Int)/\P[i]? = some j/\j.q=x /\ ∀ e∈P,e.q=x -> ¬ bef e j
theorem qv {L:List JR}{i:Nat}{j:JR}(h:L[i]? = some j):mIdx (L.map rj) (i:Int)=some (rj j):=by rw[yl,List.getElem?_map,h];rfl
theorem ia {x:Int}{m:zc}{L:List JR}(hm:m.L=L.map rj)(hl:L.length<=65536) :
  ∀ (rest pre:List JR) (b:Int) (f:Nat),L=pre++rest->rest.length<f->Best x pre b -> ∃ D,z8 x m f b (pre.length:Int)=some D/\Best x L D
 | [],pre,b,f+1,e,hf,J=>by
  refine⟨b,?_,by rw[e,aN];exact J⟩;unfold z8;rw[hm,lM,dF (by rw[e];simp),cF]
 | y::rest,pre,b,f+1,e,hf,J=>by
  have hlen:L.length=pre.length+(rest.length+1):=by rw[e];simp
  simp only[lC] at hf;have S:L[pre.length]? = some y:=by rw[e];simp
  have F:∀ {i:Nat} {j:JR},pre[i]? = some j->L[i]? = some j:=by
   intro i j h;rw[e,List.getElem?_append_left (List.getElem?_eq_some_iff.1 h).1];exact h
  have go:∀ I,Best x (pre++[y]) I -> ∃ D,z8 x m f I ((pre.length:Int)+1)=some D/\Best x L D:=by
   intro I h1;have:=ia hm hl rest (pre++[y]) I f (by rw[e];simp) (by omega) h1;rw[show ((pre++[y]).length:Int)=(pre.length:Int)+1 by simp] at this;exact this
  unfold z8;rw[hm,lM,dT (by omega),cT,qv S];simp only[bS];rw[zP (x:=(pre.length:Int)+1) (by omega) (by omega),show (rj y).Queue=y.q from rfl];by_cases hq:y.q=x
  ·rw[show (y.q == x)=true by simpa using hq,cT];rcases J with ⟨rfl,hn⟩|⟨i,j,rfl,hi,z,u⟩
   ·rw[show decide ((-1:Int)<0)=true from rfl,cT];simp only[bS,cT];refine go _ (Or.inr ⟨pre.length,y,rfl,by simp,hq,?_⟩);intro B t z;rcases List.mem_append.1 t with h|h
    ·exact absurd z (hn B h)
    ·rw[List.mem_singleton.1 h];unfold bef;omega
   ·rw[dF (by omega),cF,qv (F hi)];simp only[bS];unfold vu;simp only[bS];by_cases A:bef y j
    ·have O:((decide ((rj y).E.Key<(rj j).E.Key)) || (((rj y).E.Key == (rj j).E.Key) && (decide ((rj y).E.Serial<(rj j).E.Serial))))=true:=by
      exact (fH y j).trans (dT A)
     rw[O,cT];simp only[bS];refine go _ (Or.inr ⟨pre.length,y,rfl,by simp,hq,?_⟩);intro B t l;rcases List.mem_append.1 t with h|h
     ·have:=u B h l;unfold bef at *;omega
     ·rw[List.mem_singleton.1 h];unfold bef;omega
    ·have O:((decide ((rj y).E.Key<(rj j).E.Key)) || (((rj y).E.Key == (rj j).E.Key) && (decide ((rj y).E.Serial<(rj j).E.Serial))))=false:=by
      exact (fH y j).trans (dF A)
     rw[O,cF];simp only[bS];refine go _ (Or.inr ⟨i,j,rfl,by rw[List.getElem?_append_left (List.getElem?_eq_some_iff.1 hi).1];exact hi,z,?_⟩);intro B t l;rcases List.mem_append.1 t with h|h
     ·exact u B h l
     ·rw[List.mem_singleton.1 h];exact A
  ·rw[show (y.q == x)=false by simpa using hq,cF];simp only[bS,cF];refine go _ ?_;rcases J with ⟨rfl,hn⟩|⟨i,j,rfl,hi,z,u⟩
   ·refine Or.inl ⟨rfl,fun j hj=>?_⟩;rcases List.mem_append.1 hj with h|h
    ·exact hn j h
    ·rw[List.mem_singleton.1 h];exact hq
   ·refine Or.inr ⟨i,j,rfl,by rw[List.getElem?_append_left (List.getElem?_eq_some_iff.1 hi).1];exact hi,z,?_⟩;intro B t l;rcases List.mem_append.1 t with h|h
    ·exact u B h l
    ·rw[List.mem_singleton.1 h] at l;exact absurd l hq
theorem mT {x:Int}{m:zc}{L:List JR}(hm:m.L=L.map rj)(hl:L.length<=65536){f:Nat}(hf:65536<f):∃ b,xj f m x=some b/\Best x L b:=by
 obtain⟨b,e,i⟩:=ia (x:=x) hm hl L [] (-1) f rfl (by omega) (Or.inl ⟨rfl,by simp⟩);refine⟨b,?_,i⟩;unfold xj;rw[show ((([]:List JR).length:Nat):Int)=0 from rfl] at e;rw[e]
 rfl
theorem Ab {m:zc}{A:List JR}{j:JR}{B:List JR}(hm:m.L=(A++j::B).map rj)(hl:(A++j::B).length<=65536)(hn:∀ i∈A,i.R≠j.R) :
  ∀ (rest pre:List JR) (f:Nat),A=pre++rest->rest.length<f->yo j.R.At j.R.Gen m f (pre.length:Int)=some (.inl ((A.length:Int),m))
 | [],pre,f+1,e,hf=>by
  have hlen:(A++j::B).length=A.length+(B.length+1):=by simp
  rw[aN] at e;subst e;unfold yo;rw[hm,lM,dT (by omega),cT,qv (j:=j) (by simp)];simp only[bS];rw[show ze.eq (rj j).R (ze.mk j.R.At j.R.Gen)=true from (vZ _ _).2 rfl,cT]
 | y::rest,pre,f+1,e,hf=>by
  have hlen:(A++j::B).length=A.length+(B.length+1):=by simp
  have l:A.length=pre.length+(rest.length+1):=by rw[e];simp
  simp only[lC] at hf;have x:(A++j::B)[pre.length]? = some y:=by rw[e];simp
  unfold yo;rw[hm,lM,dT (by omega),cT,qv x];simp only[bS];have t:ze.eq y.R j.R=false:=by
   simpa using fun u=>hn y (by rw[e];simp) ((vZ _ _).1 u)
  rw[show ze.eq (rj y).R (ze.mk j.R.At j.R.Gen)=false from t,cF,zP (by omega) (by omega)];have ih:=Ab hm hl hn rest (pre++[y]) f (by rw[e];simp) (by omega);rw[show ((pre++[y]).length:Int)=(pre.length:Int)+1 by simp] at ih;exact ih
theorem jr {m:zc}{A:List JR}{j:JR}{B:List JR}(hm:m.L=(A++j::B).map rj)(hl:(A++j::B).length<=65536)(hn:∀ i∈A,i.R≠j.R){f:Nat}(hf:65536<f):xv f m j.R=some ((A.length:Int),m):=by
 have h:=Ab hm hl hn A [] f rfl (by simp only[lA] at hl;omega);unfold xv;rw[show ((([]:List JR).length:Nat):Int)=0 from rfl] at h;rw[h]
 rfl
theorem oR {x:Int}{m:zc}{L:List JR}(hm:m.L=L.map rj)(hl:L.length<=65536) :
  ∀ (rest pre:List JR) (n:Int) (f:Nat),L=pre++rest->rest.length<f->0<=n->n<=pre.length ->
   yg x m f n (pre.length:Int)=some (n+(rest.filter fun j=>j.q == x).length)
 | [],pre,n,f+1,e,hf,h0,h1=>by
  unfold yg;rw[hm,lM,dF (by rw[e];simp),cF];simp
 | y::rest,pre,n,f+1,e,hf,h0,h1=>by
  have hlen:L.length=pre.length+(rest.length+1):=by rw[e];simp
  simp only[lC] at hf;have i:L[pre.length]? = some y:=by rw[e];simp
  unfold yg;rw[hm,lM,dT (by omega),cT,qv i];simp only[bS];rw[zP (x:=(pre.length:Int)+1) (by omega) (by omega),show (rj y).Queue=y.q from rfl,List.filter_cons];cases l:y.q == x with
  | true =>
   have ih:=oR (x:=x) hm hl rest (pre++[y]) (n+1) f (by rw[e];simp) (by omega) (by omega) (by simp;omega);rw[show ((pre++[y]).length:Int)=(pre.length:Int)+1 by simp] at ih;rw[cT,zP (by omega) (by omega)];simp only[bS,if_true];rw[ih];simp;omega
  | false =>
   have ih:=oR (x:=x) hm hl rest (pre++[y]) n f (by rw[e];simp) (by omega) h0 (by simp;omega);rw[show ((pre++[y]).length:Int)=(pre.length:Int)+1 by simp] at ih;rw[cF];simp only[bS,Bool.false_eq_true,if_false];exact ih
theorem ju {x:Int}{m:zc}{L:List JR}(hm:m.L=L.map rj)(hl:L.length<=65536){f:Nat}(hf:65536<f):xi f m x=some ((sel x L).length:Int):=by
 have h:=oR (x:=x) hm hl L [] 0 f rfl (by omega) (Int.le_refl _) (Int.le_refl _);unfold xi;rw[show ((([]:List JR).length:Nat):Int)=0 from rfl] at h;rw[h];simp[sel]
theorem lQ:∀ (rest pre:List JR) (m:zc) (n:Int) (f:Nat),m.L=pre.map rj++rest.map rj->pre.length+rest.length<=65536->rest.length<f->0<=n->n<=pre.length ->
   yh f n (pre.length:Int) m=some (n+(rest.filter fun j=>j.q == 1).length,zc.mk m.Most m.Now m.Next m.Pool (pre.map rj++rest.map fun j=>rj j.mv))
 | [],pre,m,n,f+1,hm,hl,hf,h0,h1=>by
  unfold yh;rw[hm,dF (by simp),cF];simp only[List.map_nil,aN] at hm;rw[List.map_nil,aN,<- hm];simp
 | y::rest,pre,m,n,f+1,hm,hl,hf,h0,h1=>by
  simp only[lC] at hf hl;have i:mIdx m.L (pre.length:Int)=some (rj y):=by
   rw[hm,yl];simp
  have hlen:(m.L.length:Int)=pre.length+(rest.length+1):=by rw[hm];simp
  unfold yh;rw[hlen,dT (by omega),cT,i];simp only[bS];rw[zP (x:=(pre.length:Int)+1) (by omega) (by omega),show (rj y).Queue=y.q from rfl,List.filter_cons];by_cases hq:y.q=1
  ·have e:y.mv=y.zero:=by unfold JR.mv;rw[if_pos hq]
   have ih:=lQ rest (pre++[y.zero]) (zc.mk m.Most m.Now m.Next m.Pool (mSet m.L (pre.length:Int) (zC.mk 0 (rj y).Data (rj y).E (rj y).R))) (n+1) f (by
    simp only[mSet,tN,hm];rw[List.set_append];simp[rj,JR.zero]) (by simp;omega) (by omega) (by omega) (by simp;omega)
   rw[show ((pre++[y.zero]).length:Int)=(pre.length:Int)+1 by simp] at ih;rw[show (y.q == 1)=true by simp[hq],cT,zP (by omega) (by omega)];simp only[bS,if_true];rw[ih];simp[e];omega
  ·have e:y.mv=y:=by unfold JR.mv;rw[if_neg hq]
   have ih:=lQ rest (pre++[y]) m n f (by rw[hm];simp) (by simp;omega) (by omega) h0 (by simp;omega);rw[show ((pre++[y]).length:Int)=(pre.length:Int)+1 by simp] at ih;rw[show (y.q == 1)=false by simp[hq],cF];simp only[bS,Bool.false_eq_true,if_false];rw[ih];simp[e]
theorem iI {N:Nat}{p p':zf}{s now:Int}{T:Nat}{A B:List JR}{j:JR}{m:zc}(H:TI N p s now (A++j::B) m)(I:Pj.Inv p T)(hv:Pj.Live p j.R j.job)(t:zQ p j.R=some (j.job,0,p'))(hl:(A++j::B).length<=65536) :
  ∃ i,yV m (A.length:Int)=some (rj j,i)/\TI N p' s now (A++B) i:=by
 obtain⟨x,r',hr,l⟩:=H.po.give I hv t;have hlen:(A++j::B).length=A.length+(B.length+1):=by simp
 refine⟨zc.mk m.Most m.Now m.Next r' ((A++B).map rj),?_,⟨H.mo,H.nw,H.nx,l,rfl⟩⟩;unfold yV;have e:m.L=A.map rj++rj j::B.map rj:=by rw[H.ls];simp
 have h1:mIdx m.L (A.length:Int)=some (rj j):=by
  have:=yr (A.map rj) (B.map rj) (rj j);rw[lM] at this;rw[e];exact this
 have h2:mCut m.L 0 (A.length:Int)=some (A.map rj):=by
  unfold mCut;rw[e,if_pos ⟨by omega,by omega,by simp;omega⟩];simp
 have h3:mCut m.L (w64 ((A.length:Int)+1)) (m.L.length:Int)=some (B.map rj):=by
  rw[zP (by omega) (by omega),e];unfold mCut;rw[if_pos ⟨by omega,by simp;omega,by simp⟩];have:((A.length:Int)+1).toNat=A.length+1:=by omega
  rw[this,tN,List.take_length];simp[List.drop_append]
 rw[h1];simp only[bS];rw[h2];simp only[bS];rw[h3];simp only[bS];rw[y4 (by simp;omega),List.nil_append];simp only[bS];rw[y4 (by simp;omega)];simp only[bS];rw[show (rj j).R=j.R from rfl,hr];simp
end
noncomputable section
set_option maxRecDepth 10000
theorem add_same {a b t:Int}(ha:0<=a)(e:a<=9223372036854775807)(j:0<=b)(i:b<=9223372036854775807)(h:wS a b=some t):uN a b=some t/\0<=t/\t<=9223372036854775807:=by
 unfold wS at h;unfold uN;rw[zP (x:=9223372036854775807 - b) (by omega) (by omega),dF (p:=b<0) (by omega),Bool.false_and,cF] at h;rw[zP (x:=9223372036854775807 - a) (by omega) (by omega),dF (p:=a<0) (by omega),Bool.false_and,cF];by_cases h1:a+b > 9223372036854775807
 ·rw[dT (p:=b > 0) (by omega),dT (p:=a > 9223372036854775807 - b) (by omega)] at h;rw[dT (p:=a > 0) (by omega),dT (p:=b > 9223372036854775807 - a) (by omega)];simp only[Bool.and_self,cT,Option.some.injEq] at h ⊢;omega
 ·rw[dF (p:=a > 9223372036854775807 - b) (by omega),Bool.and_false,cF,zP (by omega) (by omega)] at h;rw[dF (p:=b > 9223372036854775807 - a) (by omega),Bool.and_false,cF,zP (by omega) (by omega)];simp only[Option.some.injEq] at h ⊢;omega
section
variable {N:Nat} {k:Int} {d:za} {L L':List JR} {T:Nat} {f:Nat} {m:zc} {rep:zr} {p':zf} {s' now':Int} {c:zt}
theorem k_of {c:zt}(hk:c.Kind=1 \/ c.Kind=5 \/ c.Kind=6 \/ c.Kind=7):(bif c.Kind == 1 then some (c.Kind == 1) else (bif c.Kind == 5 then some (c.Kind == 5) else (bif c.Kind == 6 then some (c.Kind == 6) else some (c.Kind == 7))))=some true:=by
 rcases hk with e|e|e|e <;> rw[e] <;> rfl
theorem k_no {c:zt}(hk:¬ (c.Kind=1 \/ c.Kind=5 \/ c.Kind=6 \/ c.Kind=7)):(bif c.Kind == 1 then some (c.Kind == 1) else (bif c.Kind == 5 then some (c.Kind == 5) else (bif c.Kind == 6 then some (c.Kind == 6) else some (c.Kind == 7))))=some false:=by
 rw[show (c.Kind == 1)=false by simp;omega,show (c.Kind == 5)=false by simp;omega,show (c.Kind == 6)=false by simp;omega,show (c.Kind == 7)=false by simp;omega];rfl
theorem TI.queue (hk:c.Kind=1 \/ c.Kind=5 \/ c.Kind=6 \/ c.Kind=7)(hq:c.Queue=0 \/ c.Queue=1){Q:zr × zc->Prop}(h:Do (zS f m c) Q):Do (zI f m c) Q:=by
 obtain⟨r,e,hr⟩:=h;unfold zI;rw[k_of hk];simp only[bS,cT];rw[show ((c.Queue != 0) && (c.Queue != 1))=false by rcases hq with e|e <;> rw[e] <;> rfl,cF,e];exact⟨_,rfl,hr⟩
theorem TI.do (D:DI N k d L T)(hT:T<1000000)(H:TI N d.t_.p d.q.serial d.clock.now L m)(hn:0<=d.clock.now/\d.clock.now<=9223372036854775807)(hs:d.q.serial<1000000000000)(hc:c.Time<=9223372036854775807)(hf:95000<f)
  (h:How N d.t_.p d.q.serial d.clock.now L c rep p' s' now' L') :
  Do (zI f m c) fun res=>res.1=rep/\TI N p' s' now' L' res.2/\0<=now'/\now'<=9223372036854775807/\0<=s'/\s'<=d.q.serial+1:=by
 have b3:=D.items.2.1;have b4:=D.nb;have b5:0<=d.q.serial:=by
  obtain⟨h0,h1,Q,_⟩:=D.pq;exact Q.sq.1
 have hz:0<=d.q.serial/\d.q.serial<=d.q.serial+1:=by omega
 cases h with
 | bad hk hq =>
  unfold zI;rw[k_of hk];simp only[bS,cT];rw[show ((c.Queue != 0) && (c.Queue != 1))=true by simp;omega,cT];exact⟨_,rfl,rfl,H,hn.1,hn.2,hz⟩
 | full hk hq hl =>
  refine TI.queue (Or.inl hk) hq ?_;unfold zS;refine Do.t (by rw[hk];rfl) ?_;have W:d.t_.p.free=[]:=by
   have h1:=D.cn;have h2:=D.jp.len;rw[D.jm] at h2;exact List.eq_nil_of_length_eq_zero (by omega)
  have a6:(d.t_.p.l.length:Int)=d.t_.p.most:=by
   have h1:=D.cn;rw[W] at h1;rw[D.jm];simp only[List.length_nil] at h1;omega
  refine Do.seq (H.po.full W a6) (Do.t rfl ?_);exact⟨_,rfl,rfl,⟨H.mo,H.nw,H.nx,H.po,H.ls⟩,hn.1,hn.2,hz⟩
 | sched j p' v hk hq hl h1 h2 h3 h4 ht =>
  refine TI.queue (Or.inl hk) hq ?_;unfold zS;refine Do.t (by rw[hk];rfl) ?_;obtain⟨r',U,P'⟩:=H.po.take D.jp (by omega) (by have:=D.cn;rw[D.jm];omega) ht;refine Do.seq U (Do.f rfl ?_);rw[y4 (by rw[H.ls];simp;omega),List.nil_append];simp only[bS];rw[y4 (by rw[H.ls];simp;omega)];have X:=H.nx;refine⟨_,rfl,rfl,⟨H.mo,H.nw,?_,P',?_⟩,hn.1,hn.2,by omega,by omega⟩
  ·show w64 (m.Next+1)=_;rw[X,zP (by omega) (by omega)]
  ·show m.L++[zC.mk c.Queue c.Data (zi.mk c.Time m.Next) j.R]=_;rw[H.ls,List.map_append,X];simp[rj,h1,h2,h3,h4]
 | dead e hk he a3 =>
  unfold zI;rw[k_no (by omega)];simp only[bS,cF];have z:(bif c.Kind == 2 then some (c.Kind == 2) else some (c.Kind == 3))=some true:=by rcases hk with e|e <;> rw[e] <;> rfl
  rw[z];simp only[bS,cT];rw[H.po.look D.jp c.Job a3];simp only[bS];rw[show (e != 0)=true by simp[bne,he],cT];exact⟨_,rfl,rfl,H,hn.1,hn.2,hz⟩
 | late A j B hk eL hj ht =>
  subst eL;have u:j∈A++j::B:=by simp
  have y:Pj.Live d.t_.p j.R j.job:=(D.jl _ _).2 ⟨j,u,rfl,rfl⟩;have F:∀ i∈A,i.R≠j.R:=by
   have:=D.rn;rw[List.map_append,pC] at this;obtain⟨_,_,h3⟩:=List.nodup_append.1 this;exact fun i hi e=>h3 _ (List.mem_map_of_mem (f:=JR.R) hi) _ (List.mem_cons_self ..) e
  unfold zI;rw[k_no (by omega)];simp only[bS,cF];have z:(bif c.Kind == 2 then some (c.Kind == 2) else some (c.Kind == 3))=some true:=by rw[hk];rfl
  rw[z];simp only[bS,cT];rw[hj,H.po.look D.jp j.R (Pj.wq D.jp y)];simp only[bS];rw[show ((0:Int) != 0)=false from rfl,cF,jr H.ls (by omega) F (by omega)];simp only[bS];rw[show (c.Kind == 3)=false by rw[hk];rfl,cF,H.ls,qv (j:=j) (by simp)];simp only[bS];rw[show decide (c.Time > (rj j).E.Key)=true from dT ht,cT];exact⟨_,rfl,rfl,H,hn.1,hn.2,hz⟩
 | soon A j B p' hk eL hj ht hp =>
  subst eL;have u:j∈A++j::B:=by simp
  have y:Pj.Live d.t_.p j.R j.job:=(D.jl _ _).2 ⟨j,u,rfl,rfl⟩;have F:∀ i∈A,i.R≠j.R:=by
   have:=D.rn;rw[List.map_append,pC] at this;obtain⟨_,_,h3⟩:=List.nodup_append.1 this;exact fun i hi e=>h3 _ (List.mem_map_of_mem (f:=JR.R) hi) _ (List.mem_cons_self ..) e
  unfold zI;rw[k_no (by omega)];simp only[bS,cF];have z:(bif c.Kind == 2 then some (c.Kind == 2) else some (c.Kind == 3))=some true:=by rw[hk];rfl
  rw[z];simp only[bS,cT];rw[hj,H.po.look D.jp j.R (Pj.wq D.jp y)];simp only[bS];rw[show ((0:Int) != 0)=false from rfl,cF,jr H.ls (by omega) F (by omega)];simp only[bS];have O:mIdx m.L (A.length:Int)=some (rj j):=by rw[H.ls];exact qv (by simp)
  rw[show (c.Kind == 3)=false by rw[hk];rfl,cF,O];simp only[bS];rw[show decide (c.Time > (rj j).E.Key)=false from dF (by show ¬ c.Time > j.it.k;omega),cF];have a0:mSet m.L (A.length:Int) (zC.mk (rj j).Queue (rj j).Data (zi.mk c.Time (rj j).E.Serial) (rj j).R)=(A++(⟨j.q,j.data,j.R,j.item,⟨j.it.i,c.Time,j.it.s⟩⟩:JR)::B).map rj:=by
   simp only[mSet,tN,H.ls,List.map_append,pC];rw[List.set_append];simp[rj]
  rw[a0,qv (j:=⟨j.q,j.data,j.R,j.item,⟨j.it.i,c.Time,j.it.s⟩⟩) (by simp)];exact⟨_,rfl,rfl,⟨H.mo,H.nw,H.nx,H.po.same hp,rfl⟩,hn.1,hn.2,hz⟩
 | canc A j B p' hk eL hj hp =>
  subst eL;have u:j∈A++j::B:=by simp
  have y:Pj.Live d.t_.p j.R j.job:=(D.jl _ _).2 ⟨j,u,rfl,rfl⟩;have F:∀ i∈A,i.R≠j.R:=by
   have:=D.rn;rw[List.map_append,pC] at this;obtain⟨_,_,h3⟩:=List.nodup_append.1 this;exact fun i hi e=>h3 _ (List.mem_map_of_mem (f:=JR.R) hi) _ (List.mem_cons_self ..) e
  obtain⟨m',eo,H'⟩:=iI H D.jp y hp (by omega);unfold zI;rw[k_no (by omega)];simp only[bS,cF];have z:(bif c.Kind == 2 then some (c.Kind == 2) else some (c.Kind == 3))=some true:=by rw[hk];rfl
  rw[z];simp only[bS,cT];rw[hj,H.po.look D.jp j.R (Pj.wq D.jp y)];simp only[bS];rw[show ((0:Int) != 0)=false from rfl,cF,jr H.ls (by omega) F (by omega)];simp only[bS];rw[show (c.Kind == 3)=true by rw[hk];rfl,cT,eo];exact⟨_,rfl,rfl,H',hn.1,hn.2,hz⟩
 | back hk ht =>
  unfold zI;rw[k_no (by omega)];simp only[bS,cF];rw[hk];simp only[show ((4:Int) == 2)=false from rfl,show ((4:Int) == 3)=false from rfl,show ((4:Int) == 4)=true from rfl,cF,cT,bS];rw[dT ht,cT];exact⟨_,rfl,rfl,H,hn.1,hn.2,hz⟩
 | go t hk ht ha =>
  obtain⟨U,h1,h2⟩:=add_same hn.1 hn.2 (by omega) hc ha;unfold zI;rw[k_no (by omega)];simp only[bS,cF];rw[hk];simp only[show ((4:Int) == 2)=false from rfl,show ((4:Int) == 3)=false from rfl,show ((4:Int) == 4)=true from rfl,cF,cT,bS];rw[dF ht,cF,H.nw,U];exact⟨_,rfl,rfl,⟨H.mo,rfl,H.nx,H.po,H.ls⟩,h1,h2,hz⟩
 | idle hk hq a7 =>
  refine TI.queue (Or.inr (Or.inl hk)) hq ?_;unfold zS;refine Do.f (by rw[hk];rfl) (Do.t (by rw[hk];rfl) ?_);obtain⟨b,eb,z⟩:=mT (x:=c.Queue) H.ls (by omega) (f:=f) (by omega);refine Do.seq eb ?_;rcases z with ⟨rfl,I⟩|⟨i,j,rfl,hi,S,J⟩
  ·rw[show decide ((-1:Int)<0)=true from rfl,cT];simp only[bS,cT];exact⟨_,rfl,rfl,H,hn.1,hn.2,hz⟩
  ·rw[dF (by omega),cF,H.ls,qv hi];simp only[bS];have:=a7 j (List.mem_of_getElem? hi) S;rw[show decide ((rj j).E.Key > m.Now)=true from dT (by rw[H.nw];exact this),cT];exact⟨_,rfl,rfl,H,hn.1,hn.2,hz⟩
 | fire A j B p' hk hq eL hj hle hm hp =>
  subst eL;refine TI.queue (Or.inr (Or.inl hk)) hq ?_;unfold zS;refine Do.f (by rw[hk];rfl) (Do.t (by rw[hk];rfl) ?_);obtain⟨b,eb,z⟩:=mT (x:=c.Queue) H.ls (by omega) (f:=f) (by omega);refine Do.seq eb ?_;have u:j∈A++j::B:=by simp
  have y:Pj.Live d.t_.p j.R j.job:=(D.jl _ _).2 ⟨j,u,rfl,rfl⟩;rcases z with ⟨rfl,I⟩|⟨i,j',rfl,hi,S,J⟩
  ·exact absurd hj (I j u)
  ·have a4:=List.mem_of_getElem? hi;have h1:=J j u hj;have h2:=hm j' a4 S;have Z:j'.it.s=j.it.s:=by
    unfold bef at h1;unfold It.lt at h2;omega
   have a8:=D.items.2.2.1;have a5:i=A.length:=by
    have U:((A++j::B).map fun j=>j.it.s)[i]? = some j.it.s:=by rw[List.getElem?_map,hi];simp[Z]
    have e2:((A++j::B).map fun j=>j.it.s)[A.length]? = some j.it.s:=by rw[List.getElem?_map];simp
    obtain⟨l1,g1⟩:=List.getElem?_eq_some_iff.1 U;obtain⟨l2,g2⟩:=List.getElem?_eq_some_iff.1 e2;have Y:=List.pairwise_iff_getElem.1 a8;rcases Nat.lt_trichotomy i A.length with h|h|h
    ·exact absurd (g1.trans g2.symm) (Y _ _ l1 l2 h)
    ·exact h
    ·exact absurd (g2.trans g1.symm) (Y _ _ l2 l1 h)
   subst a5;obtain⟨m',eo,H'⟩:=iI H D.jp y hp (by omega);have O:mIdx m.L (A.length:Int)=some (rj j):=by rw[H.ls];exact qv (by simp)
   rw[dF (by omega),cF,O];simp only[bS];rw[show decide ((rj j).E.Key > m.Now)=false from dF (by rw[H.nw];show ¬ j.it.k > _;omega),cF,eo];exact⟨_,rfl,rfl,H',hn.1,hn.2,hz⟩
 | self hk hq =>
  refine TI.queue (Or.inr (Or.inr (Or.inl hk))) (Or.inl hq) ?_;unfold zS;refine Do.f (by rw[hk];rfl) (Do.f (by rw[hk];rfl) (Do.t (by rw[hk];rfl) (Do.t (by rw[hq];rfl) ?_)));exact⟨_,rfl,rfl,H,hn.1,hn.2,hz⟩
 | merge p' hk hq hp =>
  refine TI.queue (Or.inr (Or.inr (Or.inl hk))) (Or.inr hq) ?_;unfold zS;refine Do.f (by rw[hk];rfl) (Do.f (by rw[hk];rfl) (Do.t (by rw[hk];rfl) (Do.f (by rw[hq];rfl) ?_)));have e:=lQ L [] m 0 f (by rw[H.ls];rfl) (by simp;omega) (by omega) (Int.le_refl _) (Int.le_refl _);rw[show ((([]:List JR).length:Nat):Int)=0 from rfl] at e;refine Do.seq e ?_;refine⟨_,rfl,?_,⟨H.mo,H.nw,H.nx,H.po.same hp,?_⟩,hn.1,hn.2,hz⟩
  ·simp[sel]
  ·show[].map rj++L.map (fun j=>rj j.mv)=_;simp[List.map_map,Function.comp_def]
 | count hk hq =>
  refine TI.queue (Or.inr (Or.inr (Or.inr hk))) hq ?_;unfold zS;refine Do.f (by rw[hk];rfl) (Do.f (by rw[hk];rfl) (Do.f (by rw[hk];rfl) ?_));rw[ju H.ls (by omega) (by omega)];exact⟨_,rfl,rfl,H,hn.1,hn.2,hz⟩
 | unknown h =>
  unfold zI;rw[k_no (by omega)];simp only[bS,cF];rw[show (c.Kind == 2)=false by simp;omega,show (c.Kind == 3)=false by simp;omega,show (c.Kind == 4)=false by simp;omega];exact⟨_,rfl,rfl,H,hn.1,hn.2,hz⟩
end
end
noncomputable section
set_option maxRecDepth 10000
theorem iK (r:zr):zr.eq r r=true:=by
 unfold zr.eq;rw[(vZ _ _).2 rfl];simp
section
variable {N:Nat} {k:Int} {L:List JR} {T:Nat} {f:Nat} {c:zt}
theorem DI.ser {d:za}(D:DI N k d L T):0<=d.q.serial/\d.q.serial<=T:=by
 obtain⟨h0,h1,Q,_⟩:=D.pq;exact Q.sq
theorem within (n lo hi:Int)(h:lo<=hi)(h0:-1000000000000<=lo)(h1:hi<=1000000000000):∃ v,yP n lo hi=some v/\lo<=v/\v<=hi:=by
 unfold yP;cases e:(decide (n >= lo)) && (decide (n<=hi)) with
 | true =>
  rw[Bool.and_eq_true] at e;exact⟨n,rfl,of_decide_eq_true e.1,of_decide_eq_true e.2⟩
 | false =>
  rw[cF,zP (x:=hi - lo) (by omega) (by omega),zP (x:=hi - lo+1) (by omega) (by omega)];have hn:mNz (hi - lo+1)=some ():=by unfold mNz;rw[if_pos (by omega)]
  rw[hn];simp only[bS];have h2:=Int.tmod_lt_of_pos n (b:=hi - lo+1) (by omega);have h3:=Int.lt_tmod_of_pos n (b:=hi - lo+1) (by omega);by_cases hm:Int.tmod n (hi - lo+1)<0
  ·rw[dT hm,cT,zP (x:=Int.tmod n (hi - lo+1)+hi) (by omega) (by omega),zP (x:=Int.tmod n (hi - lo+1)+hi - lo) (by omega) (by omega),zP (x:=Int.tmod n (hi - lo+1)+hi - lo+1) (by omega) (by omega)];simp only[bS];rw[zP (by omega) (by omega)];exact⟨_,rfl,by omega,by omega⟩
  ·rw[dF hm,cF];simp only[bS];rw[zP (by omega) (by omega)];exact⟨_,rfl,by omega,by omega⟩
end
def dueN (x now:Int)(L:List JR):Nat:=(L.filter fun j=>j.q == x && decide (j.it.k<=now)).length
def tOk (t:Int):Prop:=-9223372036854775808<=t/\t<=9223372036854775807
theorem fW {x:zF}(h:tJ zF.enc x):tOk x.Time/\tOk x.Raw.Time:=by
 have h1:=h x.Time (by simp[zF.enc]);have h2:=h x.Raw.Time (by simp[zF.enc]);unfold I64 at h1 h2;unfold tOk;omega
theorem dO:∀ n:Fin 11,(mIdx ([1,1,1,2,3,4,5,5,5,6,7]:List Int) (n.val:Int)).isSome=true:=by decide
theorem dA {x:zF}(u:tOk x.Time/\tOk x.Raw.Time){told:List ze}(ht:told.length<=1000000):∃ c,w2 x told=some c/\tOk c.Time:=by
 unfold w2;cases S:Int.tmod x.Job 16 == 15 with
 | true=>exact⟨_,rfl,u.2⟩
 | false =>
  rw[cF];obtain⟨a,z,a1,a2⟩:=within x.Kind 0 1048576 (by omega) (by omega) (by omega);obtain⟨b,A,J,O⟩:=within x.Queue 0 1048576 (by omega) (by omega) (by omega);rw[z];simp only[bS];have F:=Int.tmod_lt_of_pos a (b:=11) (by omega);have I:=Int.tmod_nonneg 11 a1;obtain⟨n,hn⟩:∃ n:Nat,Int.tmod a 11=(n:Int):=⟨(Int.tmod a 11).toNat,by omega⟩
  have hk:=dO ⟨n,by omega⟩;rw[hn];obtain⟨W,e⟩:=Option.isSome_iff_exists.1 hk;simp only at e;rw[e];simp only[bS];rw[A];simp only[bS];have l:∃ t,(bif (Int.tmod x.Data 4) != 0 then some (Int.tmod x.Time 30) else some x.Time)=some t/\tOk t:=by
   cases U:(Int.tmod x.Data 4) != 0 with
   | true =>
    have h1:=Int.tmod_lt_of_pos x.Time (b:=30) (by omega);have h2:=Int.lt_tmod_of_pos x.Time (b:=30) (by omega);exact⟨_,rfl,by unfold tOk;omega⟩
   | false=>exact⟨_,rfl,u.1⟩
  obtain⟨t,D,j⟩:=l;rw[D];simp only[bS];by_cases hl:(told.length:Int) > 0
  ·rw[dT hl,cT,zP (by omega) (by omega)];obtain⟨i,B,i1,i2⟩:=within x.Job 0 ((told.length:Int) - 1) (by omega) (by omega) (by omega);rw[B];simp only[bS];obtain⟨r,hr⟩:∃ r,mIdx told i=some r:=by
    obtain⟨y,rfl⟩:∃ y:Nat,i=(y:Int):=⟨i.toNat,by omega⟩
    exact⟨_,by rw[yl];exact List.getElem?_eq_getElem (by omega)⟩
   rw[hr];exact⟨_,rfl,j⟩
  ·rw[dF hl,cF];exact⟨_,rfl,j⟩
def kOk (L:List JR):Prop:=∀ j∈L,tOk j.it.k
section
variable {N:Nat} {L L':List JR} {c:zt} {p p':zf} {s s' now now':Int} {rep:zr}
theorem How.kOk (h:How N p s now L c rep p' s' now' L')(hk:kOk L)(e:tOk c.Time):kOk L':=by
 cases h with
 | sched j _ _ _ _ _ _ _ h3 =>
  intro i hi;rcases List.mem_append.1 hi with h|h
  ·exact hk i h
  ·rw[List.mem_singleton.1 h,h3];exact e
 | soon A j B _ _ eL =>
  subst eL;intro i hi;rcases List.mem_append.1 hi with h|h
  ·exact hk i (mL _ h)
  ·rcases List.mem_cons.1 h with rfl|h
   ·exact e
   ·exact hk i (List.mem_append_right _ (mC _ h))
 | canc A j B _ _ eL =>
  subst eL;intro i hi;rcases List.mem_append.1 hi with h|h
  ·exact hk i (mL _ h)
  ·exact hk i (List.mem_append_right _ (mC _ h))
 | fire A j B _ _ _ eL =>
  subst eL;intro i hi;rcases List.mem_append.1 hi with h|h
  ·exact hk i (mL _ h)
  ·exact hk i (List.mem_append_right _ (mC _ h))
 | merge =>
  intro i hi;obtain⟨j,hj,rfl⟩:=List.mem_map.1 hi;rw[bW];exact hk j hj
 | _=>exact hk
theorem how5 (h:How N p s now L c rep p' s' now' L')(hk:c.Kind=5)(hq:c.Queue=0 \/ c.Queue=1):now'=now /\
  ((rep=no 28/\L'=L /\ ∀ j∈L,j.q=c.Queue->now<j.it.k) \/ ∃ A j B,rep=zr.mk 0 j.R j.it.k j.data 0/\L=A++j::B/\L'=A++B/\j.q=c.Queue/\j.it.k<=now /\ ∀ i∈L,i.q=c.Queue -> ¬ i.it.lt j.it):=by
 cases h with
 | idle _ _ hn=>exact⟨rfl,Or.inl ⟨rfl,rfl,hn⟩⟩
 | fire A j B _ _ _ eL hj hn hm _=>exact⟨rfl,Or.inr ⟨A,j,B,rfl,eL,rfl,hj,hn,hm⟩⟩
 | bad _ e=>exact absurd hq e
 | _=>omega
end
def c5q (q:Int):zt:=zt.mk 5 q (ze.mk 0 0) 0 0
inductive Ran (N:Nat) (k:Int):za->List JR->Nat->List zt->List zr->za->List JR->Nat->Prop
 | nil {d:za} {L:List JR} {T:Nat} (D:DI N k d L T):Ran N k d L T [] [] d L T
 | cons {d d1 d':za} {L L1 L':List JR} {T T':Nat} {c:zt} {cs:List zt} {rep:zr} {reps:List zr} (D:DI N k d L T) (G:Went N k d L T c rep d1 L1) (h:Ran N k d1 L1 (T+1) cs reps d' L' T'):Ran N k d L T (c::cs) (rep::reps) d' L' T'
section
variable {N:Nat} {k:Int}
theorem Ran.last {d d':za}{L L':List JR}{T T':Nat}{cs:List zt}{reps:List zr}(h:Ran N k d L T cs reps d' L' T'):DI N k d' L' T'/\T'=T+cs.length/\reps.length=cs.length:=by
 induction h with
 | nil D=>exact⟨D,rfl,rfl⟩
 | cons D G h ih=>exact⟨ih.1,by rw[ih.2.1];simp;omega,by simp[ih.2.2]⟩
theorem oU {x now:Int}{A B:List JR}{j:JR}:dueN x now (A++j::B)=dueN x now (A++B)+(if (j.q == x && decide (j.it.k<=now))=true then 1 else 0):=by
 unfold dueN;rw[List.filter_append,List.filter_append,List.filter_cons];split <;> simp <;> omega
theorem Ran.Ag {q:Int}(hq:q=0 \/ q=1):∀ (r:Nat) {d d':za}{L L':List JR}{T T':Nat}{reps:List zr},Ran N k d L T (List.replicate r (c5q q)) reps d' L' T'->r<=dueN q d.clock.now L ->
  (∀ rep∈reps,rep.Why=0)/\d'.clock.now=d.clock.now/\dueN q d.clock.now L'+r=dueN q d.clock.now L/\L'.length+r=L.length /\ ∀ x,dueN x d.clock.now L'<=dueN x d.clock.now L
 | 0,d,d',L,L',T,T',reps,h,hr=>by
  cases h;exact⟨by simp,rfl,rfl,rfl,fun x=>Nat.le_refl _⟩
 | r+1,d,d',L,L',T,T',reps,h,hr=>by
  rw[List.replicate_succ] at h;cases h with
  | cons D G h =>
   obtain⟨i,hh⟩:=how5 G.how rfl hq;simp only[c5q] at hh;rcases hh with ⟨_,_,u⟩|⟨A,j,B,rfl,rfl,rfl,t,l,hm⟩
   ·have:dueN q d.clock.now L=0:=by
     unfold dueN;rw[List.filter_eq_nil_iff.2 (fun j hj=>?_)];rfl;intro e;rw[Bool.and_eq_true,beq_iff_eq] at e;have:=u j hj e.1;have:=of_decide_eq_true e.2;omega
    omega
   ·have hd:=oU (x:=q) (now:=d.clock.now) (A:=A) (B:=B) (j:=j);rw[if_pos (by rw[t,dT l];simp)] at hd;obtain⟨i1,i2,i3,i4,i5⟩:=Ran.Ag hq r h (by rw[i];omega);rw[i] at i2 i3 i5;refine⟨?_,i2,by omega,by simp only[lA,lC] at i4 ⊢;omega,fun x=>?_⟩
    ·intro y z;rcases List.mem_cons.1 z with rfl|z
     ·rfl
     ·exact i1 y z
    ·have:=i5 x;have:=oU (x:=x) (now:=d.clock.now) (A:=A) (B:=B) (j:=j);omega
end
structure Side (N:Nat) (k:Int) (d:za) (L:List JR) (T:Nat) (m:zc):Prop where
 di:DI N k d L T
 ti:TI N d.t_.p d.q.serial d.clock.now L m
 nw:0<=d.clock.now/\d.clock.now<=9223372036854775807
section
variable {N:Nat} {k:Int} {d:za} {L:List JR} {T:Nat} {m:zc} {f:Nat}
theorem Side.do (S:Side N k d L T m)(j:T<1000000)(hf:95000<f){c:zt}(x:c.Time<=9223372036854775807) :
  ∃ rep d' i L',zW f d c=some (rep,d')/\zI f m c=some (rep,i)/\Side N k d' L' (T+1) i:=by
 obtain⟨⟨rep,d'⟩,t,L',G⟩:=S.di.do j hf c
 obtain⟨⟨e,i⟩,u,h2,l,y,z,s1,s2⟩:=TI.do S.di j S.ti S.nw (by have:=S.di.ser;omega) x hf G.how
 simp only at h2 G;subst h2;exact⟨e,d',i,L',t,u,G.di,l,y,z⟩
end
section
variable {N:Nat} {L L':List JR} {c:zt} {p p':zf} {s s' now now':Int} {rep:zr}
theorem how1 (h:How N p s now L c rep p' s' now' L')(hk:c.Kind=1):now'=now/\(L'=L \/ ∃ j,L'=L++[j]/\j.q=c.Queue):=by
 cases h with
 | bad=>exact⟨rfl,Or.inl rfl⟩
 | full=>exact⟨rfl,Or.inl rfl⟩
 | sched j _ _ _ _ _ h1=>exact⟨rfl,Or.inr ⟨j,rfl,h1⟩⟩
 | _=>omega
end
end
noncomputable section
set_option maxRecDepth 10000
section
variable {N:Nat} {k:Int} {d:za} {L:List JR} {T:Nat} {f:Nat}
theorem fT {x:Int}{T:Nat}(I:Pj.Inv d.t_.p T){L2:List JR}(hl:L2.length<=65536)(i:∀ j∈L2,Pj.Live d.t_.p j.R j.job) :
  ∀ (rest pre:List JR) (n:Int) (m:Nat),L2=pre++rest->rest.length<m->0<=n->n<=pre.length ->
   yF x (L2.length:Int) d (L2.map JR.R) m n (pre.length:Int)=some (n+dueN x d.clock.now rest)
 | [],pre,n,m+1,e,hm,h0,h1=>by
  unfold yF;rw[dF (by rw[e];simp),cF];simp[dueN]
 | y::rest,pre,n,m+1,e,hm,h0,h1=>by
  have hlen:L2.length=pre.length+(rest.length+1):=by rw[e];simp
  simp only[lC] at hm;have A:=i y (by rw[e];simp);have t:mIdx (L2.map JR.R) (pre.length:Int)=some y.R:=by
   rw[yl,List.getElem?_map,e];simp
  have z:xG d.t_ y.R=some (y.job,0):=by
   unfold xG;rw[Pj.wL I A]
   rfl
  unfold yF;rw[dT (by omega),cT,t];simp only[bS];rw[z];simp only[bS];have l:(bif y.job.Queue == x then (vA d.clock y.job.Time).bind fun u=>some u else some false)=some (y.q == x && decide (y.it.k<=d.clock.now)):=by
   show (bif y.q == x then _ else _)=_;cases y.q == x <;> rfl
  rw[l];simp only[bS];rw[zP (x:=(pre.length:Int)+1) (by omega) (by omega)];unfold dueN;rw[List.filter_cons];cases B:(y.q == x && decide (y.it.k<=d.clock.now)) with
  | true =>
   have ih:=fT (x:=x) I hl i rest (pre++[y]) (n+1) m (by rw[e];simp) (by omega) (by omega) (by simp;omega);rw[show ((pre++[y]).length:Int)=(pre.length:Int)+1 by simp] at ih;rw[cT,zP (by omega) (by omega)];simp only[bS,if_true];rw[ih];simp[dueN];omega
  | false =>
   have ih:=fT (x:=x) I hl i rest (pre++[y]) n m (by rw[e];simp) (by omega) h0 (by simp;omega);rw[show ((pre++[y]).length:Int)=(pre.length:Int)+1 by simp] at ih;rw[cF];simp only[bS,Bool.false_eq_true,if_false];exact ih
theorem DI.due (D:DI N k d L T)(hf:95000<f)(x:Int):yc f d x=some (dueN x d.clock.now L:Int):=by
 obtain⟨L2,hp,e⟩:=D.out;have i:=D.items.2.1;have l:=D.nb;have hl2:=hp.length_eq;unfold yc u5;rw[Pj.qQ D.jp (by omega),e];simp only[bS];have:=fT (x:=x) D.jp (L2:=L2) (by omega) (fun j hj=>(D.jl _ _).2 ⟨j,hp.mem_iff.1 hj,rfl,rfl⟩) L2 [] 0 f rfl (by omega) (Int.le_refl _) (Int.le_refl _);rw[lM];rw[show ((([]:List JR).length:Nat):Int)=0 from rfl] at this;rw[this];simp only[bS];have:=((hp.filter fun j=>j.q == x && decide (j.it.k<=d.clock.now)).length_eq)
 unfold dueN;rw[this];simp
end
end
noncomputable section
set_option maxRecDepth 10000
section
variable {N:Nat} {k:Int}
theorem eT {s:List zt}(hl:s.length<=1000):∀ (rest pre:List zt) (outs:List zr) (d:za) (L:List JR) (T i:Nat),s=pre++rest->95001+rest.length<i->DI N k d L T->T<=1000+pre.length->outs.length=pre.length ->
  ∃ reps d' L' T',yG (s.length:Int) s i outs (pre.length:Int) d=some (outs++reps,d')/\Ran N k d L T rest reps d' L' T'
 | [],pre,outs,d,L,T,i,e,hf,D,x,t=>by
  obtain⟨f,rfl⟩:∃ f,i=f+1:=⟨i - 1,by omega⟩
  refine⟨[],d,L,T,?_,.nil D⟩;unfold yG;rw[dF (by rw[e];simp),cF,aN]
 | c::rest,pre,outs,d,L,T,i,e,hf,D,x,t=>by
  obtain⟨f,rfl⟩:∃ f,i=f+1:=⟨i - 1,by omega⟩
  have hlen:s.length=pre.length+(rest.length+1):=by rw[e];simp
  simp only[lC] at hf;have j:mIdx s (pre.length:Int)=some c:=by rw[e];exact yr pre rest c
  obtain⟨⟨rep,d1⟩,u,L1,G⟩:=D.do (f:=f) (by omega) (by omega) c
  obtain⟨reps,d',L',T',l,R⟩:=eT hl rest (pre++[c]) (outs++[rep]) d1 L1 (T+1) f (by rw[e];simp) (by omega) G.di (by simp;omega) (by simp[t]);rw[show ((pre++[c]).length:Int)=(pre.length:Int)+1 by simp] at l;refine⟨rep::reps,d',L',T',?_,.cons D G R⟩;unfold yG;rw[dT (by omega),cT,j];simp only[bS];rw[u];simp only[bS];rw[y4 (by simp;omega)];simp only[bS];rw[zP (by omega) (by omega),l];simp
theorem j9 {q x1:Int}(l:x1<=1000):∀ (r i j:Nat),(i:Int)+r=x1->r<j->vL q x1 j (List.replicate i (c5q q)) (i:Int)=some (List.replicate (i+r) (c5q q))
 | 0,i,j,e,hf=>by
  obtain⟨f,rfl⟩:∃ f,j=f+1:=⟨j - 1,by omega⟩
  unfold vL;rw[dF (by omega),cF]
  rfl
 | r+1,i,j,e,hf=>by
  obtain⟨f,rfl⟩:∃ f,j=f+1:=⟨j - 1,by omega⟩
  have ih:=j9 (q:=q) l r (i+1) f (by omega) (by omega);rw[show ((i+1:Nat):Int)=(i:Int)+1 by simp,show i+1+r=i+(r+1) by omega] at ih;unfold vL;rw[dT (by omega),cT,y4 (by simp;omega)];simp only[bS];rw[zP (by omega) (by omega),show List.replicate i (c5q q)++[zt.mk 5 q (ze.mk 0 0) 0 0]=List.replicate (i+1) (c5q q) from List.replicate_succ'.symm];exact ih
theorem mS {f:Nat}(hf:95000<f)(q:Int){n:Nat}(hn:n<=1000):uS f q (n:Int)=some (List.replicate n (c5q q)):=by
 have h:=j9 (q:=q) (x1:=(n:Int)) (by omega) n 0 f (by simp) (by omega);rw[show ((0:Nat):Int)=0 from rfl,Nat.zero_add] at h;unfold uS;rw[show (if 4096<(n:Int) then 4096 else (n:Int))=(n:Int) from if_neg (by omega)];have:(if (n:Int) > 0 then (n:Int) else 0)=(n:Int):=by split <;> omega
 rw[this,show ([]:List zt)=List.replicate 0 (c5q q) from rfl,h]
 rfl
theorem j4 {q:Int}{l:List zr}{d:za}(hl:l.length<=1000)(hw:∀ y∈l,y.Why=0):∀ (rest pre:List zr) (f:Nat),l=pre++rest->rest.length<f ->
  vK q (l.length:Int) l d f (pre.length:Int) (pre.length:Int)=some (l.length:Int)
 | [],pre,f+1,e,hf=>by
  unfold vK;rw[dF (by rw[e];simp),cF,e,aN]
 | y::rest,pre,f+1,e,hf=>by
  have hlen:l.length=pre.length+(rest.length+1):=by rw[e];simp
  simp only[lC] at hf;have i:mIdx l (pre.length:Int)=some y:=by rw[e];exact yr pre rest y
  have ih:=j4 (q:=q) (d:=d) hl hw rest (pre++[y]) f (by rw[e];simp) (by omega);rw[show ((pre++[y]).length:Int)=(pre.length:Int)+1 by simp] at ih;unfold vK;rw[dT (by omega),cT,i];simp only[bS];rw[show (y.Why == 0)=true by rw[hw y (by rw[e];simp)];rfl,cT];simp only[bS];rw[zP (by omega) (by omega)];exact ih
section
variable {d:za} {L:List JR} {T f:Nat}
theorem DI.drain (D:DI N k d L T)(B:T<=1000)(hf:97000<f){q:Int}(hq:q=0 \/ q=1):∃ reps d' L' T',qd f d q=some ((dueN q d.clock.now L:Int),true,d')/\Ran N k d L T (List.replicate (dueN q d.clock.now L) (c5q q)) reps d' L' T' /\
  DI N k d' L' T'/\T'=T+dueN q d.clock.now L/\d'.clock.now=d.clock.now/\dueN q d.clock.now L'=0/\L'.length+dueN q d.clock.now L=L.length /\ ∀ x,dueN x d.clock.now L'<=dueN x d.clock.now L:=by
 have z:=D.items.2.1;have A:=D.nb;have y:dueN q d.clock.now L<=L.length:=List.length_filter_le _ _;obtain⟨reps,d',L',T',u,R⟩:=eT (N:=N) (k:=k) (s:=List.replicate (dueN q d.clock.now L) (c5q q)) (by simp;omega) (List.replicate (dueN q d.clock.now L) (c5q q)) [] [] d L T f rfl (by simp;omega) D (by simp;omega) rfl;obtain⟨t,e,i⟩:=R.last;rw[List.length_replicate] at e i;obtain⟨g1,g2,g3,g4,g5⟩:=Ran.Ag hq _ R (Nat.le_refl _);refine⟨reps,d',L',T',?_,R,t,e,g2,by omega,g4,g5⟩;unfold qd;rw[D.due (f:=f) (by omega) q];simp only[bS];rw[mS (by omega) q (by omega)];simp only[bS];have j:yq f d (List.replicate (dueN q d.clock.now L) (c5q q))=some (reps,d'):=by
  unfold yq;rw[show ((([]:List zt).length:Nat):Int)=0 from rfl] at u;rw[u]
  rfl
 rw[j];simp only[bS];have hd:=j4 (q:=q) (d:=d') (l:=reps) (by omega) g1 reps [] f rfl (by omega);rw[show ((([]:List zr).length:Nat):Int)=0 from rfl] at hd;rw[hd];simp only[bS];rw[t.due (f:=f) (by omega) q,g2,show dueN q d.clock.now L'=0 by omega,i]
 rfl
theorem DI.quiet (D:DI N k d L T)(hf:95000<f):tE f d=some (decide (dueN 0 d.clock.now L+dueN 1 d.clock.now L=0)):=by
 unfold tE;rw[D.due (f:=f) (by omega) 0,D.due (f:=f) (by omega) 1];simp only[bS];by_cases h:dueN 0 d.clock.now L=0
 ·rw[h,show (((0:Nat):Int) == 0)=true from rfl,cT];simp only[bS];congr 1;by_cases h1:dueN 1 d.clock.now L=0
  ·rw[h1];rfl
  ·rw[dF (by omega)];simp;omega
 ·rw[show ((dueN 0 d.clock.now L:Int) == 0)=false by simp;omega,cF,dF (by omega)]
  rfl
end
end
end
noncomputable section
set_option maxRecDepth 10000
theorem kg {f:Nat}(hf:95000<f)(l e:Int):∃ d m N k,xm f l e=some (d,m)/\Side N k d [] 2 m/\d.clock.now=0/\d.q.serial=0/\yP e 1 60=some (N:Int)/\N<=60:=by
 obtain⟨k,ek,k1,k2⟩:=within l 1 3 (by omega) (by omega) (by omega);obtain⟨j,i,x,y⟩:=within e 1 60 (by omega) (by omega) (by omega);obtain⟨N,rfl⟩:∃ N:Nat,j=(N:Int):=⟨j.toNat,by omega⟩
 obtain⟨d,t,D,hn,hs,hp⟩:=DI.new (N:=N) (k:=k) hf (by unfold Kd;omega) (by omega) (by omega);have u:ui (N:Int)=some (zc.mk (N:Int) 0 0 (zk.mk (N:Int) [] [] [] []) []):=by
  unfold ui tZ;rw[show (if 65536<(N:Int) then 65536 else (N:Int))=(N:Int) from if_neg (by omega),show (if (0:Int) > (N:Int) then 0 else (N:Int))=(N:Int) from if_neg (by omega)]
  rfl
 refine⟨d,zc.mk (N:Int) 0 0 (zk.mk (N:Int) [] [] [] []) [],N,k,?_,⟨D,⟨rfl,hn.symm,hs.symm,?_,rfl⟩,by rw[hn];omega⟩,hn,hs,i,by omega⟩
 ·unfold xm;rw[i];simp only[bS];rw[ek];simp only[bS];rw[t];simp only[bS,tm,oS];rw[show ((0:Int) != 0)=false from rfl,cF,u]
  rfl
 ·rw[hp];exact⟨rfl,rfl,rfl,rfl,rfl⟩
theorem jX:wC 100000=some true:=by kernel_rfl
end
noncomputable section
set_option maxRecDepth 10000
section
variable {N:Nat} {k:Int}
theorem AM {m1:zc}{l:List zF}(hl:∀ z∈l,tJ zF.enc z):∀ (r i j:Nat) (told:List ze) (d:za) (L:List JR) (T:Nat),100<=i+r->95001+r<j->i<=100->DI N k d L T->T<=2+i->told.length<=i ->
  Do (yX m1 l j told (i:Int) d) fun d'=>∃ L' T',DI N k d' L' T'/\T'<=102
 | 0,i,j,told,d,L,T,h1,h2,h3,D,I,ht=>by
  obtain⟨f,rfl⟩:∃ f,j=f+1:=⟨j - 1,by omega⟩
  unfold yX;refine Do.f (by rw[dF (p:=(i:Int)<100) (by omega),Bool.and_false]) ?_;exact⟨_,rfl,L,T,D,by omega⟩
 | r+1,i,j,told,d,L,T,h1,h2,h3,D,I,ht=>by
  obtain⟨f,rfl⟩:∃ f,j=f+1:=⟨j - 1,by omega⟩
  unfold yX;refine Do.if (fun e=>?_) (fun e=>⟨_,rfl,L,T,D,by omega⟩)
  rw[Bool.and_eq_true] at e;have O:=of_decide_eq_true e.1;have S:=of_decide_eq_true e.2;obtain⟨x,A⟩:∃ x,l[i]? = some x:=⟨_,List.getElem?_eq_getElem (by omega)⟩
  have y:=List.mem_of_getElem? A;rw[yl,A];simp only[bS];obtain⟨c,F,J⟩:=dA (fW (hl x y)) (told:=told) (by omega);rw[F];simp only[bS];obtain⟨⟨rep,d'⟩,B,L',G⟩:=D.do (f:=f) (by omega) (by omega) c
  rw[B];simp only[bS];rw[zP (by omega) (by omega)];have go:∀ t:List ze,t.length<=i+1->Do (yX m1 l f t ((i:Int)+1) d') fun d'=>∃ L' T',DI N k d' L' T'/\T'<=102:=by
   intro t u;have:=AM (m1:=m1) hl r (i+1) f t d' L' (T+1) (by omega) (by omega) (by omega) G.di (by omega) u;rw[show ((i+1:Nat):Int)=(i:Int)+1 by simp] at this;exact this
  cases U:(rep.Why == 0) && (decide (rep.Job.Gen > 0)) with
  | true =>
   rw[cT,y4 (by simp;omega)];simp only[bS];exact go _ (by simp;omega)
  | false =>
   rw[cF];simp only[bS];exact go _ (by omega)
theorem Ran.ends {q:Int}(hq:q=0 \/ q=1):∀ (r:Nat) {d d':za}{L L':List JR}{T T':Nat}{reps:List zr},Ran N k d L T (List.replicate (r+1) (c5q q)) reps d' L' T'->dueN q d.clock.now L=r ->
  ∃ l,reps=l++[no 28]/\l.length=r/\(∀ y∈l,y.Why=0)/\l.Pairwise (fun a b=>a.Time<=b.Time)/\(∀ lo,(∀ j∈L,j.q=q->lo<=j.it.k) -> ∀ y∈l,lo<=y.Time)/\d'.clock.now=d.clock.now/\dueN q d.clock.now L'=0 /\ ∀ x,dueN x d.clock.now L'<=dueN x d.clock.now L
 | 0,d,d',L,L',T,T',reps,h,hr=>by
  rw[List.replicate_succ] at h;cases h with
  | cons D G h =>
   cases h;obtain⟨t,hh⟩:=how5 G.how rfl hq;simp only[c5q] at hh;rcases hh with ⟨rfl,rfl,S⟩|⟨A,j,B,rfl,rfl,rfl,u,J,hm⟩
   ·exact⟨[],rfl,rfl,by simp,by simp,by simp,t,hr,fun x=>Nat.le_refl _⟩
   ·have hd:=oU (x:=q) (now:=d.clock.now) (A:=A) (B:=B) (j:=j);rw[if_pos (by rw[u,dT J];simp)] at hd;omega
 | r+1,d,d',L,L',T,T',reps,h,hr=>by
  rw[List.replicate_succ] at h;cases h with
  | cons D G h =>
   obtain⟨t,hh⟩:=how5 G.how rfl hq;simp only[c5q] at hh;rcases hh with ⟨_,_,S⟩|⟨A,j,B,rfl,rfl,rfl,u,J,hm⟩
   ·have:dueN q d.clock.now L=0:=by
     unfold dueN;rw[List.filter_eq_nil_iff.2 (fun j hj=>?_)];rfl;intro e;rw[Bool.and_eq_true,beq_iff_eq] at e;have:=S j hj e.1;have:=of_decide_eq_true e.2;omega
    omega
   ·have hd:=oU (x:=q) (now:=d.clock.now) (A:=A) (B:=B) (j:=j);rw[if_pos (by rw[u,dT J];simp)] at hd;obtain⟨l,rfl,i2,i3,i4,i5,i6,i7,i8⟩:=Ran.ends hq r h (by rw[t];omega);rw[t] at i6 i7 i8;have F:∀ i∈A++B,i∈A++j::B:=by
     intro i hi;rcases List.mem_append.1 hi with h|h
     ·exact mL _ h
     ·exact List.mem_append_right _ (mC _ h)
    refine⟨zr.mk 0 j.R j.it.k j.data 0::l,rfl,by simp[i2],?_,?_,?_,i6,i7,fun x=>?_⟩
    ·intro y z;rcases List.mem_cons.1 z with rfl|z
     ·rfl
     ·exact i3 y z
    ·refine List.pairwise_cons.2 ⟨fun y z=>?_,i4⟩;refine i5 j.it.k (fun i hi I=>?_) y z;have:=hm i (F i hi) I;unfold It.lt at this;omega
    ·intro lo O y z;rcases List.mem_cons.1 z with rfl|z
     ·exact O j (by simp) u
     ·exact i5 lo (fun i hi I=>O i (F i hi) I) y z
    ·have:=i8 x;have:=oU (x:=x) (now:=d.clock.now) (A:=A) (B:=B) (j:=j);omega
end
theorem AO {p:Int}{e:List zr}{d:za}{m:zc}{l:List zF}(hp:p=e.length)(t:e.length<=1000)(hw:∀ y∈e,y.Why=0)(hs:e.Pairwise (fun a b=>a.Time<=b.Time)) :
  ∀ (r i j:Nat),i+r=e.length+1->r<j->yk p (e++[no 28]) d m l j (i:Int)=some (.inr ())
 | 0,i,j,h1,h2=>by
  obtain⟨f,rfl⟩:∃ f,j=f+1:=⟨j - 1,by omega⟩
  unfold yk;rw[dF (by omega),cF]
 | r+1,i,j,h1,h2=>by
  obtain⟨f,rfl⟩:∃ f,j=f+1:=⟨j - 1,by omega⟩
  have ih:=AO (d:=d) (m:=m) (l:=l) hp t hw hs r (i+1) f (by omega) (by omega);rw[show ((i+1:Nat):Int)=(i:Int)+1 by simp] at ih;unfold yk;rw[dT (by omega),cT];have key:∀ (o:Option Bool),o=some false->(o.bind fun z=>bif z then some (Sum.inl false) else yk p (e++[no 28]) d m l f (w64 ((i:Int)+1)))=some (.inr ()):=by
   rintro _ rfl;simp only[bS,cF];rw[zP (by omega) (by omega)];exact ih
  refine key _ ?_;by_cases hi:i<e.length
  ·have u:mIdx (e++[no 28]) (i:Int)=some e[i]:=by
    rw[yl,List.getElem?_append_left hi,List.getElem?_eq_getElem hi]
   rw[u];simp only[bS];rw[show (e[i].Why == 0)=true by rw[hw _ (List.getElem_mem hi)];rfl,dT (p:=(i:Int)<p) (by omega)];rw[show (!(true == true))=false from rfl,cF];by_cases h0:0<i
   ·rw[dT (p:=(i:Int) > 0) (by omega),cT,cT,zP (by omega) (by omega),show (i:Int) - 1=((i - 1:Nat):Int) by omega];have x:mIdx (e++[no 28]) ((i - 1:Nat):Int)=some e[i - 1]:=by
     rw[yl,List.getElem?_append_left (by omega),List.getElem?_eq_getElem (by omega)]
    rw[x];simp only[bS];have:=List.pairwise_iff_getElem.1 hs (i - 1) i (by omega) hi (by omega);rw[dF (by omega)]
   ·rw[dF (p:=(i:Int) > 0) (by omega),cF]
  ·have u:mIdx (e++[no 28]) (i:Int)=some (no 28):=by
    rw[yl,List.getElem?_append_right (by omega),show i - e.length=0 by omega]
    rfl
   rw[u];simp only[bS];rw[show ((no 28).Why == 0)=false from rfl,dF (p:=(i:Int)<p) (by omega)];rw[show (!(false == false))=false from rfl,cF];cases decide ((i:Int) > 0) <;> rfl
section
variable {N:Nat} {k:Int}
theorem DI.ends {d:za}{L:List JR}{T f:Nat}(D:DI N k d L T)(B:T<=1000)(hf:97000<f){q:Int}(hq:q=0 \/ q=1)(m:zc)(l:List zF) :
  ∃ reps d' L' T',yc f d q=some (dueN q d.clock.now L:Int)/\uS f q (w64 ((dueN q d.clock.now L:Int)+1))=some (List.replicate (dueN q d.clock.now L+1) (c5q q))/\yq f d (List.replicate (dueN q d.clock.now L+1) (c5q q))=some (reps,d') /\
   ((reps.length:Int) != w64 ((dueN q d.clock.now L:Int)+1))=false/\yk (dueN q d.clock.now L:Int) reps d' m l f 0=some (.inr ()) /\
   DI N k d' L' T'/\T'<=T+100/\d'.clock.now=d.clock.now/\dueN q d.clock.now L'=0 /\ ∀ x,dueN x d.clock.now L'<=dueN x d.clock.now L:=by
 have z:=D.items.2.1;have A:=D.nb;have y:dueN q d.clock.now L<=L.length:=List.length_filter_le _ _;obtain⟨reps,d',L',T',t,R⟩:=eT (N:=N) (k:=k) (s:=List.replicate (dueN q d.clock.now L+1) (c5q q)) (by simp;omega) (List.replicate (dueN q d.clock.now L+1) (c5q q)) [] [] d L T f rfl (by simp;omega) D (by simp;omega) rfl;obtain⟨u,j,e⟩:=R.last;rw[List.length_replicate] at j e;obtain⟨i,rfl,g2,g3,g4,g5,g6,g7,g8⟩:=Ran.ends hq _ R rfl;have hw:w64 ((dueN q d.clock.now L:Int)+1)=((dueN q d.clock.now L+1:Nat):Int):=by rw[zP (by omega) (by omega)];simp
 have l1:=AO (p:=(dueN q d.clock.now L:Int)) (d:=d') (m:=m) (l:=l) (by rw[g2]) (by omega) g3 g4 (i.length+1) 0 f (by omega) (by omega);refine⟨i++[no 28],d',L',T',D.due (f:=f) (by omega) q,?_,?_,?_,l1,u,by omega,g6,g7,g8⟩
 ·rw[hw];exact mS (by omega) q (by omega)
 ·unfold yq;rw[show ((([]:List zt).length:Nat):Int)=0 from rfl] at t;rw[t]
  rfl
 ·rw[hw,e];simp
end
theorem topEnds_plain (t i:Int)(l:List zF)(hl:∀ z∈l,tJ zF.enc z):∃ k,wI k t i l=some true:=by
 refine⟨100000,?_⟩
 suffices h:Do (wI 100000 t i l) fun r=>r=true by
  obtain⟨r,e,rfl⟩:=h;exact e
 obtain⟨d,m,N,k,O,S,_⟩:=kg (f:=100000) (by omega) t i;unfold wI;refine Do.seq O ?_;refine (AM (N:=N) (k:=k) (m1:=m) hl 100 0 100000 [] d [] 2 (by omega) (by omega) (by omega) S.di (by omega) (by simp)).bind ?_;rintro d1 ⟨L1,T1,x,U⟩;obtain⟨r0,d2,L2,T2,a1,a2,a3,a4,a5,y,W,Z,z2,m2⟩:=x.ends (f:=100000) (by omega) (by omega) (q:=0) (Or.inl rfl) m l;obtain⟨r1,d3,L3,T3,B,D,F,I,J,A,X,n3,z3,Y⟩:=y.ends (f:=100000) (by omega) (by omega) (q:=1) (Or.inr rfl) m l;have hq:tE 100000 d3=some true:=by
  rw[A.quiet (f:=100000) (by omega),n3];have h0:=Y 0;rw[Z] at h0 z3 ⊢;rw[dT (by omega)]
 refine Do.seq a1 (Do.seq a2 (Do.seq a3 (Do.f a4 (Do.seq a5 ?_))));refine Do.seq B (Do.seq D (Do.seq F (Do.f I (Do.seq J ?_))));show Do (((tE 100000 d3).bind fun u=>bif u then (wC 100000).bind fun j=>some j else some false).bind fun s8=>some s8) _;rw[hq,jX];exact⟨_,rfl,rfl⟩
end
end Go.Proofs.YtojpmaakhdmhmaaGreat
namespace Go.Th
noncomputable section
structure Mx (T:Type):Type where
 mix:Bool->T->T->T
 h1:∀ x y,mix true x y=x
 h0:∀ x y,mix false x y=y
def mB:Mx Bool:=⟨cond,fun _ _=>rfl,fun _ _=>rfl⟩
def m2 {A B:Type}(a:Mx A)(b:Mx B):Mx (A × B):=⟨fun c x y=>(a.mix c x.1 y.1,b.mix c x.2 y.2),fun x y=>by rw[a.h1,b.h1],fun x y=>by rw[a.h0,b.h0]⟩
inductive VC:Type->Type 1
 | ret {R:Type} (o:Option R):VC R
 | bind {R α:Type} (m:Option α) (k:α -> VC R):VC R
 | ite {R:Type} (c:Bool) (x y:VC R):VC R
 | frN {R:Type} (k:Nat->VC R):VC R
 | frA {R:Type} (k:Option Addr->VC R):VC R
 | req {R α:Type} (a b:α) (k:VC R):VC R
 | join {R T:Type} (x:VC T) (k:T->VC R):VC R
 | cs {R A B:Type} (s:A ⊕ B) (x:A->VC R) (y:B->VC R):VC R
 | both {R:Type} (u v:VC R) (vm:(Nat->Nat × Option Addr)->Option R):VC R
 | grj {R T:Type} (x:VC T) (k:T->VC R):VC R
 | sel {R T:Type} (M:Mx T) (b:Bool) (x y:VC T) (k:T->VC R):VC R
def VC.valq:{T:Type}->VC T->Option T
 | _,.ret o=>o
 | _,.req _ _ k=>k.valq
 | _,.sel M b x y k=>match x.valq,y.valq with
  | some s1,some s2=>(k (M.mix b s1 s2)).valq
  | _,_=>none
 | _,_=>none
abbrev Nm:=Nat->Nat × Option Addr
def Nm.tl (s:Nm):Nm:=fun i=>s (i+1)
def Nm.ev (s:Nm):Nm:=fun i=>s (2*i)
def Nm.od (s:Nm):Nm:=fun i=>s (2*i+1)
def VC.modk:{T:Type}->VC T -> {R:Type}->(T->Nm->Option R)->Nm->Option R
 | _,.ret o,_,K,s=>match o with
  | some x=>K x s
  | none=>none
 | _,.bind m k,_,K,s=>m.bind fun x=>(k x).modk K s
 | _,.ite c x y,_,K,s=>bif c then x.modk K s else y.modk K s
 | _,.frN k,_,K,s=>(k (s 0).1).modk K s.tl
 | _,.frA k,_,K,s=>(k (s 0).2).modk K s.tl
 | _,.req _ _ k,_,K,s=>k.modk K s
 | _,.join x k,_,K,s=>(x.modk (fun y _=>some y) s.ev).bind fun y=>(k y).modk K s.od
 | _,.cs z x y,_,K,s=>match z with
  | .inl a=>(x a).modk K s
  | .inr b=>(y b).modk K s
 | _,.both u _ _,_,K,s=>u.modk K s
 | _,.grj x k,_,K,s=>x.modk (fun y s'=>(k y).modk K s') s
 | _,.sel M b x y k,_,K,s=>match x.valq,y.valq with
  | some s1,some s2=>(k (M.mix b s1 s2)).modk K s
  | _,_=>bif b then x.modk (fun y s'=>(k y).modk K s') s else y.modk (fun y s'=>(k y).modk K s') s
def VC.mod:{R:Type}->VC R->Nm->Option R
 | _,.ret o,_=>o
 | _,.bind m k,s=>m.bind fun x=>(k x).mod s
 | _,.ite c x y,s=>bif c then x.mod s else y.mod s
 | _,.frN k,s=>(k (s 0).1).mod s.tl
 | _,.frA k,s=>(k (s 0).2).mod s.tl
 | _,.req _ _ k,s=>k.mod s
 | _,.join x k,s=>(x.mod s.ev).bind fun y=>(k y).mod s.od
 | _,.cs z x y,s=>match z with
  | .inl a=>(x a).mod s
  | .inr b=>(y b).mod s
 | _,.both u _ _,s=>u.mod s
 | _,.grj x k,s=>x.modk (fun y s'=>(k y).mod s') s
 | _,.sel M b x y k,s=>match x.valq,y.valq with
  | some s1,some s2=>(k (M.mix b s1 s2)).mod s
  | _,_=>bif b then x.modk (fun y s'=>(k y).mod s') s else y.modk (fun y s'=>(k y).mod s') s
theorem VC.mod_eq:∀ {R:Type} (v:VC R) (s:Nm),v.modk (fun y _=>some y) s=v.mod s
 | _,.ret o,s=>by cases o <;> rfl
 | _,.bind m k,s=>by
  simp only[VC.modk,VC.mod];congr 1;funext x;exact VC.mod_eq (k x) s
 | _,.ite c x y,s=>by simp only[VC.modk,VC.mod,VC.mod_eq x,VC.mod_eq y]
 | _,.frN k,s=>VC.mod_eq (k _) _
 | _,.frA k,s=>VC.mod_eq (k _) _
 | _,.req _ _ k,s=>VC.mod_eq k s
 | _,.join x k,s=>by
  simp only[VC.modk,VC.mod,VC.mod_eq x];congr 1;funext y;exact VC.mod_eq (k y) _
 | _,.cs z x y,s=>by
  cases z with
  | inl a=>exact VC.mod_eq (x a) s
  | inr b=>exact VC.mod_eq (y b) s
 | _,.both u _ _,s=>VC.mod_eq u s
 | _,.grj x k,s=>by
  simp only[VC.modk,VC.mod];congr 1;funext y s';exact VC.mod_eq (k y) s'
 | _,.sel M b x y k,s=>by
  have e:(fun t (s':Nm)=>(k t).modk (fun z _=>some z) s')=fun t s'=>(k t).mod s':=by
   funext t s';exact VC.mod_eq (k t) s'
  simp only[VC.modk,VC.mod,e];split
  ·exact VC.mod_eq (k _) s
  ·rfl
def VC.rfx:{R:Type}->VC R->VC R
 | _,.ret o=>.ret o
 | _,.bind m k=>.bind m fun x=>(k x).rfx
 | _,.ite c x y=>.ite c x.rfx y.rfx
 | _,.frN k=>.frN fun r=>(k r).rfx
 | _,.frA k=>.frA fun r=>(k r).rfx
 | _,.req a _ k=>.req a a k.rfx
 | _,.join x k=>.join x.rfx fun s=>(k s).rfx
 | _,.cs s x y=>.cs s (fun a=>(x a).rfx) fun b=>(y b).rfx
 | _,.both u v _=>.both u.rfx v.rfx u.mod
 | _,.grj x k=>.grj x.rfx fun y=>(k y).rfx
 | _,.sel M b x y k=>.sel M b x.rfx y.rfx fun t=>(k t).rfx
def VC.ok:{R:Type}->VC R->(R->Prop)->Prop
 | _,.ret o,Φ=>∃ x,o=some x /\ Φ x
 | _,.bind m k,Φ=>∃ x,m=some x/\(k x).ok Φ
 | _,.ite c x y,Φ=>(c=true->x.ok Φ)/\(c=false->y.ok Φ)
 | _,.frN k,Φ=>∀ r,(k r).ok Φ
 | _,.frA k,Φ=>∀ r,(k r).ok Φ
 | _,.req a b k,Φ=>a=b/\k.ok Φ
 | _,.join x k,Φ=>x.ok fun y=>(k y).ok Φ
 | _,.cs z x y,Φ=>(∀ a,z = .inl a->(x a).ok Φ) /\ ∀ b,z = .inr b->(y b).ok Φ
 | _,.both u v vm,Φ=>u.ok Φ /\ (vm=v.mod->v.ok Φ)
 | _,.grj x k,Φ=>x.ok fun y=>(k y).ok Φ
 | _,.sel M b x y k,Φ=>(b=true->x.ok fun t=>(k t).ok Φ)/\(b=false->y.ok fun t=>(k t).ok Φ)
def Nm.cons (x:Nat × Option Addr)(s:Nm):Nm:=fun i=>match i with
 | 0=>x
 | i+1=>s i
def Nm.mix (s t:Nm):Nm:=fun i=>if i % 2=0 then s (i / 2) else t (i / 2)
theorem Nm.cr (s t:Nm):(Nm.mix s t).ev=s:=by
 funext i;have h1:2*i % 2=0:=by omega
 have h2:2*i / 2=i:=by omega
 simp[Nm.ev,Nm.mix,h1,h2]
theorem Nm.cu (s t:Nm):(Nm.mix s t).od=t:=by
 funext i;have h1:¬ (2*i+1) % 2=0:=by omega
 have h2:(2*i+1) / 2=i:=by omega
 simp[Nm.od,Nm.mix,h1,h2]
theorem VC.mono:∀ {R:Type} (v:VC R) {Φ Ψ:R->Prop},(∀ x,Φ x -> Ψ x)->v.ok Φ -> v.ok Ψ
 | _,.ret o,Φ,Ψ,h,hk=>by
  obtain⟨x,l,hp⟩:=hk;exact⟨x,l,h x hp⟩
 | _,.bind m k,Φ,Ψ,h,hk=>by
  obtain⟨x,l,hp⟩:=hk;exact⟨x,l,VC.mono (k x) h hp⟩
 | _,.ite c x y,Φ,Ψ,h,hk=>⟨fun j=>VC.mono x h (hk.1 j),fun j=>VC.mono y h (hk.2 j)⟩
 | _,.frN k,Φ,Ψ,h,hk=>fun r=>VC.mono (k r) h (hk r)
 | _,.frA k,Φ,Ψ,h,hk=>fun r=>VC.mono (k r) h (hk r)
 | _,.req a b k,Φ,Ψ,h,hk=>⟨hk.1,VC.mono k h hk.2⟩
 | _,.join x k,Φ,Ψ,h,hk=>VC.mono x (Φ:=fun y=>(k y).ok Φ) (Ψ:=fun y=>(k y).ok Ψ) (fun y i=>VC.mono (k y) h i) hk
 | _,.cs z x y,Φ,Ψ,h,hk=>⟨fun a ha=>VC.mono (x a) h (hk.1 a ha),fun b t=>VC.mono (y b) h (hk.2 b t)⟩
 | _,.both u v vm,Φ,Ψ,h,hk=>⟨VC.mono u h hk.1,fun e=>VC.mono v h (hk.2 e)⟩
 | _,.grj x k,Φ,Ψ,h,hk=>VC.mono x (Φ:=fun y=>(k y).ok Φ) (Ψ:=fun y=>(k y).ok Ψ) (fun y i=>VC.mono (k y) h i) hk
 | _,.sel M b x y k,Φ,Ψ,h,hk=>⟨fun e=>VC.mono x (Φ:=fun y=>(k y).ok Φ) (Ψ:=fun y=>(k y).ok Ψ) (fun y i=>VC.mono (k y) h i) (hk.1 e),fun e=>VC.mono y (Φ:=fun y=>(k y).ok Φ) (Ψ:=fun y=>(k y).ok Ψ) (fun y i=>VC.mono (k y) h i) (hk.2 e)⟩
theorem VC.qG:∀ {T:Type} (v:VC T) {P:T->Prop}{s:T},v.ok P->v.valq=some s->P s
 | _,.ret o,P,s,h,e=>by
  obtain⟨x,j,hp⟩:=h;have i:o=some s:=e;rw[j] at i;cases i;exact hp
 | _,.req _ _ k,P,s,h,e=>VC.qG k h.2 e
 | _,.both _ _ _,P,s,h,e=>by cases e
 | _,.sel M b x y k,P,s,h,e=>by
  simp only[VC.valq] at e;split at e
  ·rename_i s1 s2 h1 h2;cases b with
   | true =>
    rw[M.h1] at e;exact VC.qG (k s1) (VC.qG x (h.1 rfl) h1) e
   | false =>
    rw[M.h0] at e;exact VC.qG (k s2) (VC.qG y (h.2 rfl) h2) e
  ·cases e
 | _,.bind _ _,P,s,h,e=>by cases e
 | _,.ite _ _ _,P,s,h,e=>by cases e
 | _,.frN _,P,s,h,e=>by cases e
 | _,.frA _,P,s,h,e=>by cases e
 | _,.join _ _,P,s,h,e=>by cases e
 | _,.cs _ _ _,P,s,h,e=>by cases e
 | _,.grj _ _,P,s,h,e=>by cases e
theorem VC.qN:∀ {T:Type} (v:VC T) {s:T},v=v.rfx->v.valq=some s->v.ok (· = s)
 | _,.ret o,s,hr,e=>⟨s,e,rfl⟩
 | _,.req a b k,s,hr,e=>by
  simp only[VC.rfx,VC.req.injEq,heq_eq_eq,true_and] at hr;exact⟨hr.1.symm,VC.qN k hr.2 e⟩
 | _,.both _ _ _,s,h,e=>by cases e
 | _,.sel M b x y k,s,hr,e=>by
  simp only[VC.rfx,VC.sel.injEq,heq_eq_eq,true_and] at hr;simp only[VC.valq] at e;split at e
  ·rename_i s1 s2 h1 h2;refine⟨fun i=>?_,fun i=>?_⟩
   ·subst i;rw[M.h1] at e;exact VC.mono x (fun t ht=>by subst ht;exact VC.qN (k _) (congrFun hr.2.2 _) e) (VC.qN x hr.1 h1)
   ·subst i;rw[M.h0] at e;exact VC.mono y (fun t ht=>by subst ht;exact VC.qN (k _) (congrFun hr.2.2 _) e) (VC.qN y hr.2.1 h2)
  ·cases e
 | _,.bind _ _,s,h,e=>by cases e
 | _,.ite _ _ _,s,h,e=>by cases e
 | _,.frN _,s,h,e=>by cases e
 | _,.frA _,s,h,e=>by cases e
 | _,.join _ _,s,h,e=>by cases e
 | _,.cs _ _ _,s,h,e=>by cases e
 | _,.grj _ _,s,h,e=>by cases e
theorem VC.okk:∀ {T:Type} (v:VC T) {R:Type} (K:T->Nm->Option R) (Ψ:R->Prop),v.ok (fun y=>∀ s,∃ x,K y s=some x /\ Ψ x) -> ∀ s,∃ x,v.modk K s=some x /\ Ψ x
 | _,.ret o,_,K,Ψ,h,s=>by
  obtain⟨x,rfl,i⟩:=h;exact i s
 | _,.bind m k,_,K,Ψ,h,s=>by
  obtain⟨x,rfl,i⟩:=h;exact VC.okk (k x) K Ψ i s
 | _,.ite c x y,_,K,Ψ,h,s=>by
  cases c with
  | true=>exact VC.okk x K Ψ (h.1 rfl) s
  | false=>exact VC.okk y K Ψ (h.2 rfl) s
 | _,.frN k,_,K,Ψ,h,s=>VC.okk (k _) K Ψ (h _) _
 | _,.frA k,_,K,Ψ,h,s=>VC.okk (k _) K Ψ (h _) _
 | _,.req a b k,_,K,Ψ,h,s=>VC.okk k K Ψ h.2 s
 | _,.join x k,_,K,Ψ,h,s=>by
  obtain⟨y,e,h2⟩:=VC.okk x (fun y _=>some y) (fun y=>(k y).ok fun z=>∀ s,∃ x,K z s=some x /\ Ψ x) (VC.mono x (fun y e s=>⟨y,rfl,e⟩) h) s.ev;obtain⟨z,hz,h3⟩:=VC.okk (k y) K Ψ h2 s.od;exact⟨z,by simp only[VC.modk,e,bS,hz],h3⟩
 | _,.cs z x y,_,K,Ψ,h,s=>by
  cases z with
  | inl a=>exact VC.okk (x a) K Ψ (h.1 a rfl) s
  | inr b=>exact VC.okk (y b) K Ψ (h.2 b rfl) s
 | _,.both u v vm,_,K,Ψ,h,s=>VC.okk u K Ψ h.1 s
 | _,.grj x k,_,K,Ψ,h,s=>VC.okk x (fun y s'=>(k y).modk K s') Ψ (VC.mono x (fun y e s=>VC.okk (k y) K Ψ e s) h) s
 | _,.sel M b x y k,_,K,Ψ,h,s=>by
  simp only[VC.modk];split
  ·rename_i s1 s2 h1 h2;cases b with
   | true =>
    rw[M.h1];exact VC.okk (k s1) K Ψ (VC.qG x (h.1 rfl) h1) s
   | false =>
    rw[M.h0];exact VC.okk (k s2) K Ψ (VC.qG y (h.2 rfl) h2) s
  ·cases b with
   | true=>exact VC.okk x (fun y s'=>(k y).modk K s') Ψ (VC.mono x (fun y e s=>VC.okk (k y) K Ψ e s) (h.1 rfl)) s
   | false=>exact VC.okk y (fun y s'=>(k y).modk K s') Ψ (VC.mono y (fun y e s=>VC.okk (k y) K Ψ e s) (h.2 rfl)) s
theorem VC.sG:∀ {T:Type} (v:VC T) {R:Type} (K:T->Nm->Option R) (Ψ:R->Prop),v=v.rfx->(∀ s,∃ x,v.modk K s=some x /\ Ψ x)->v.ok (fun y=>∀ s,∃ x,K y s=some x /\ Ψ x)
 | _,.ret o,_,K,Ψ,_,h=>by
  cases o with
  | none=>obtain⟨x,A,_⟩:=h fun _=>(0,none);cases A
  | some y=>exact⟨y,rfl,h⟩
 | _,.bind m k,_,K,Ψ,hr,h=>by
  obtain⟨y,i,I⟩:=h fun _=>(0,none)
  simp only[VC.modk] at i;obtain⟨x,A,-⟩:=Option.bind_eq_some_iff.1 i;refine⟨x,A,VC.sG (k x) K Ψ ?_ fun s=>?_⟩
  ·simp only[VC.rfx,VC.bind.injEq,heq_eq_eq,true_and] at hr;exact congrFun hr x
  ·obtain⟨z,hz,hp⟩:=h s;simp only[VC.modk,A,bS] at hz;exact⟨z,hz,hp⟩
 | _,.ite c x y,_,K,Ψ,hr,h=>by
  simp only[VC.rfx,VC.ite.injEq,true_and] at hr;refine⟨fun B=>VC.sG x K Ψ hr.1 fun s=>?_,fun B=>VC.sG y K Ψ hr.2 fun s=>?_⟩
  ·obtain⟨z,hz,hp⟩:=h s;simp only[VC.modk,B,cT] at hz;exact⟨z,hz,hp⟩
  ·obtain⟨z,hz,hp⟩:=h s;simp only[VC.modk,B,cF] at hz;exact⟨z,hz,hp⟩
 | _,.frN k,_,K,Ψ,hr,h=>fun r=>by
  simp only[VC.rfx,VC.frN.injEq] at hr;refine VC.sG (k r) K Ψ (congrFun hr r) fun s=>?_
  exact h (Nm.cons (r,none) s)
 | _,.frA k,_,K,Ψ,hr,h=>fun r=>by
  simp only[VC.rfx,VC.frA.injEq] at hr;refine VC.sG (k r) K Ψ (congrFun hr r) fun s=>?_
  exact h (Nm.cons (0,r) s)
 | _,.req a b k,_,K,Ψ,hr,h=>by
  simp only[VC.rfx,VC.req.injEq,heq_eq_eq,true_and] at hr;exact⟨hr.1.symm,VC.sG k K Ψ hr.2 fun s=>by simpa only [VC.modk] using h s⟩
 | _,.join x k,_,K,Ψ,hr,h=>by
  simp only[VC.rfx,VC.join.injEq,heq_eq_eq,true_and] at hr;show x.ok fun y=>(k y).ok fun y=>∀ s,∃ x,K y s=some x /\ Ψ x
  refine VC.mono x (fun y i=>?_) (VC.sG x (fun y _=>some y) (fun y=>(k y).ok fun y=>∀ s,∃ x,K y s=some x /\ Ψ x) hr.1 fun s=>?_)
  ·obtain⟨z,hz,h2⟩:=i fun _=>(0,none)
   cases hz;exact h2
  ·obtain⟨z,hz,-⟩:=h (Nm.mix s fun _=>(0,none));simp only[VC.modk,Nm.cr,Nm.cu] at hz;obtain⟨y,i,-⟩:=Option.bind_eq_some_iff.1 hz;refine⟨y,i,VC.sG (k y) K Ψ (congrFun hr.2 y) fun t=>?_⟩;obtain⟨z2,l,hp⟩:=h (Nm.mix s t);simp only[VC.modk,Nm.cr,Nm.cu,i,bS] at l;exact⟨z2,l,hp⟩
 | _,.cs z x y,_,K,Ψ,hr,h=>by
  simp only[VC.rfx,VC.cs.injEq,heq_eq_eq,true_and] at hr;refine⟨fun a ha=>VC.sG (x a) K Ψ (congrFun hr.1 a) fun s=>?_,fun b j=>VC.sG (y b) K Ψ (congrFun hr.2 b) fun s=>?_⟩
  ·obtain⟨u,hu,hp⟩:=h s;simp only[VC.modk,ha] at hu;exact⟨u,hu,hp⟩
  ·obtain⟨u,hu,hp⟩:=h s;simp only[VC.modk,j] at hu;exact⟨u,hu,hp⟩
 | _,.both u v vm,_,K,Ψ,hr,h=>by
  simp only[VC.rfx,VC.both.injEq,heq_eq_eq,true_and] at hr;have hu:=VC.sG u K Ψ hr.1 h;refine⟨hu,fun e=>?_⟩;have h2:=VC.sG v (fun y _=>some y) (fun y=>∀ s,∃ x,K y s=some x /\ Ψ x) hr.2.1 fun s=>by
   have D:v.mod=u.mod:=e.symm.trans hr.2.2;have F:v.modk (fun y _=>some y) s=u.modk (fun y _=>some y) s:=by rw[VC.mod_eq,VC.mod_eq];exact congrFun D s
   rw[F];exact VC.okk u (fun y _=>some y) _ (VC.mono u (fun y i s=>⟨y,rfl,i⟩) hu) s
  refine VC.mono v (fun y i=>?_) h2;obtain⟨z,hz,h3⟩:=i fun _=>(0,none)
  cases hz;exact h3
 | _,.grj x k,_,K,Ψ,hr,h=>by
  simp only[VC.rfx,VC.grj.injEq,heq_eq_eq,true_and] at hr;exact VC.mono x (fun y i=>VC.sG (k y) K Ψ (congrFun hr.2 y) i) (VC.sG x (fun y s'=>(k y).modk K s') Ψ hr.1 h)
 | _,.sel M b x y k,_,K,Ψ,hr,h=>by
  simp only[VC.rfx,VC.sel.injEq,heq_eq_eq,true_and] at hr;simp only[VC.modk] at h;split at h
  ·rename_i s1 s2 h1 h2;refine⟨fun j=>?_,fun j=>?_⟩
   ·subst j;rw[M.h1] at h;exact VC.mono x (fun t ht=>by subst ht;exact VC.sG (k _) K Ψ (congrFun hr.2.2 _) h) (VC.qN x hr.1 h1)
   ·subst j;rw[M.h0] at h;exact VC.mono y (fun t ht=>by subst ht;exact VC.sG (k _) K Ψ (congrFun hr.2.2 _) h) (VC.qN y hr.2.1 h2)
  ·refine⟨fun j=>?_,fun j=>?_⟩
   ·subst j;exact VC.mono x (fun y i=>VC.sG (k y) K Ψ (congrFun hr.2.2 y) i) (VC.sG x (fun y s'=>(k y).modk K s') Ψ hr.1 h)
   ·subst j;exact VC.mono y (fun y i=>VC.sG (k y) K Ψ (congrFun hr.2.2 y) i) (VC.sG y (fun y s'=>(k y).modk K s') Ψ hr.2.1 h)
theorem VC.good {R:Type}(v:VC R)(Φ:R->Prop)(hr:v=v.rfx)(h:∀ s,∃ x,v.mod s=some x /\ Φ x):v.ok Φ :=
 VC.mono v (fun y e=>by obtain⟨z,hz,h3⟩:=e fun _=>(0,none);cases hz;exact h3) (VC.sG v (fun y _=>some y) Φ hr fun s=>by rw[VC.mod_eq];exact h s)
structure ElD:Type 1 where
 α:Type
 enc:α -> List Value
 sz:Nat
 ok:wj enc sz
 dec:List Value->Option α
structure MpD:Type 1 where
 K:Type
 V:Type
 ek:K->Value
 ev:V->Value
 dk:Value->Option K
 dv:Value->Option V
 eq:K->K->Bool
structure Ev:Type 1 where
 el:Nat->ElD
 mp:Nat->MpD
inductive Atom (E:Ev):Type
 | blk (b:Nat) (T:TypeId) (cs:List Value)
 | sl (c:Nat) (T:TypeId) (sb:Option Addr) (sc:Nat) (l:List (E.el c).α)
 | mp (c:Nat) (r:Nat) (m:List ((E.mp c).K × (E.mp c).V))
def Atom.den {E:Ev}:Atom E->HP
 | .blk b T cs=>Blk b T cs
 | .sl c T sb sc l=>Sl T (E.el c).enc (E.el c).sz sb sc l
 | .mp c r m=>MpA r (E.mp c).ek (E.mp c).ev m
structure RdV (E:Ev):Type where
 c:Nat
 sb:Option Addr
 sc:Nat
 l:List (E.el c).α
def RdV.holds {E:Ev}(F:List HP)(r:RdV E):Prop:=∃ X∈F,SlRd X (E.el r.c).enc (E.el r.c).sz r.sb r.l /\ ∀ h,X h->r.l.length<=r.sc
structure EfV (E:Ev):Type where
 rdr:Bool
 c:Nat
 sb:Option Addr
 l:List (E.el c).α
 i:Int
 x:(E.el c).α
 b:Nat
 o:Nat
def EfV.holds {E:Ev}(F:List HP)(e:EfV E):Prop :=
 e.sb=some ⟨e.b,e.o,none⟩/\mIdx e.l e.i=some e.x/\(e.rdr=true -> ∃ X∈F,SlRd X (E.el e.c).enc (E.el e.c).sz e.sb e.l)
structure VwV (E:Ev):Type where
 c:Nat
 sb:Option Addr
 sc:Nat
 l:List (E.el c).α
 lo:Option Int
 hi:Option Int
 sb':Option Addr
 sc':Nat
 r:List (E.el c).α
def loN:Option Int->Nat
 | none=>0
 | some i=>i.toNat
def loI:Option Int->Int
 | none=>0
 | some i=>i
def hiN (n:Nat):Option Int->Nat
 | none=>n
 | some i=>i.toNat
def hiI (n:Nat):Option Int->Int
 | none=>(n:Int)
 | some i=>i
def bndO (h:Nat):Option Int->List Ob
 | none=>[]
 | some i=>[.p (0<=i/\i<=(h:Int))]
def VwV.holds {E:Ev}(v:VwV E):Prop :=
 mCut v.l (loI v.lo) (hiI v.l.length v.hi)=some v.r/\yt v.sb v.sc (loI v.lo).toNat (E.el v.c).sz=v.sb'/\v.sc - (loI v.lo).toNat=v.sc'/\v.l.length<=v.sc
inductive Mi (E:Ev):Type
 | cut (v:VwV E)
 | opt (o:Option Int)
def Mi.holds {E:Ev}:Mi E->Prop
 | .cut v=>v.holds
 | .opt _=>True
structure Kn (E:Ev):Type where
 L:Env
 As:List (Nat × Atom E)
 rd:List (Nat × RdV E)
 ef:List (Nat × EfV E)
 pr:List (Nat × Prop)
 vw:List (Nat × Mi E)
def getK {α:Type}(k:Nat):List (Nat × α)->Option α
 | []=>none
 | (j,x)::r=>match Nat.beq k j with
  | true=>some x
  | false=>getK k r
def oe {α:Type}(k:Nat):List (Nat × α)->Option (α × List (Nat × α))
 | []=>none
 | (j,x)::r=>match Nat.beq k j with
  | true=>some (x,r)
  | false=>match oe k r with
   | some (y,r')=>some (y,(j,x)::r')
   | none=>none
def ky {α:Type}:List Nat->List (Nat × α)->Option (List α × List (Nat × α))
 | [],L=>some ([],L)
 | k::ks,L=>match oe k L with
  | none=>none
  | some (x,L')=>match ky ks L' with
   | none=>none
   | some (xs,r)=>some (x::xs,r)
theorem xT {α:Type}{k:Nat}{x:α}:∀ {L:List (Nat × α)},getK k L=some x -> ∃ j,(j,x)∈L
 | [],h=>by cases h
 | (j,y)::r,h=>by
  simp only[getK] at h;split at h
  ·cases h;exact⟨j,by simp⟩
  ·obtain⟨i,hi⟩:=xT h;exact⟨i,by simp[hi]⟩
theorem og {α:Type}{k:Nat}{x:α}:∀ {L r:List (Nat × α)},oe k L=some (x,r)->(L.map (·.2)).Perm (x::r.map (·.2))
 | [],r,h=>by cases h
 | (j,y)::L,r,h=>by
  simp only[oe] at h;split at h
  ·cases h;exact List.Perm.refl _
  ·split at h
   ·rename_i z r' hp;cases h;have ih:=og hp;simp only[pC];exact (ih.cons y).trans (List.Perm.swap _ _ _)
   ·cases h
theorem mZ {α:Type}:∀ {ks:List Nat}{L r:List (Nat × α)}{xs:List α},ky ks L=some (xs,r)->(L.map (·.2)).Perm (xs++r.map (·.2))
 | [],L,r,xs,h=>by simp[ky] at h;obtain⟨rfl,rfl⟩:=h;exact List.Perm.refl _
 | k::ks,L,r,xs,h=>by
  simp only[ky] at h;split at h
  ·cases h
  ·rename_i x L' h1;split at h
   ·cases h
   ·rename_i e r' h2;cases h;exact (og h1).trans ((mZ h2).cons x)
section
variable {E:Ev}
def dens (As:List (Nat × Atom E)):List HP:=(As.map (·.2)).map Atom.den
structure dw (F:List HP) (st:Kn E):Prop where
 rd:∀ p∈st.rd,p.2.holds F
 ef:∀ p∈st.ef,p.2.holds F
 pr:∀ p∈st.pr,p.2
 vw:∀ p∈st.vw,p.2.holds
structure KnOk (n:Nat) (w0:World) (F:List HP) (st:Kn E) (a:Act) (w:World):Prop where
 env:zZ n a st.L
 hp:St w0 (dens st.As++F) w
 fs:dw F st
theorem pT {ks:List Nat}{As r:List (Nat × Atom E)}{xs:List (Atom E)}(h:ky ks As=some (xs,r)):(dens As).Perm (xs.map Atom.den++dens r):=by
 have:=(mZ h).map Atom.den;simpa[dens] using this
theorem ux {k:Nat}{As r:List (Nat × Atom E)}{x:Atom E}(h:oe k As=some (x,r)):(dens As).Perm (x.den::dens r):=by
 have:=(og h).map Atom.den;simpa[dens] using this
theorem uH {k:Nat}{As:List (Nat × Atom E)}{x:Atom E}(h:getK k As=some x):x.den∈dens As:=by
 obtain⟨j,hj⟩:=xT h;simp only[dens,List.mem_map];exact⟨x,⟨(j,x),hj,rfl⟩,rfl⟩
theorem St.mem {w0 w:World}{As:List HP}{A:HP}(H:St w0 As w)(h:A∈As):∃ i:Nat,As[i]? = some A:=List.mem_iff_getElem?.1 h
inductive Src
 | C (q off:Nat)
 | A (e:Nat)
 | X (e q j:Nat)
 | R (e j:Nat)
 | Q (j:Nat)
 | W (j:Nat)
 | P (e q j:Nat)
abbrev SrcR (E:Ev):=List Value × List Ob × List (Atom E × Atom E)
def Src.get (st:Kn E):Src->Option (SrcR E)
 | .C q off=>match getK q st.As with
  | some (.blk b T cs)=>match cs[off]? with
   | some v=>some ([v],[.cell ⟨b,off,none⟩ v],[])
   | none=>none
  | _=>none
 | .A e=>match getK e st.ef with
  | some f=>some ([.pointer (some ⟨f.b,f.o,none⟩)],[.p (f.sb=some ⟨f.b,f.o,none⟩),.p (0<=f.i/\f.i<((f.l.length:Nat):Int))],[])
  | none=>none
 | .X e q j=>match getK e st.ef,getK q st.As with
  | some f,some (.sl c' T sb sc l)=>match ((E.el f.c).enc f.x)[j]? with
   | some v=>some ([v],[.cell ⟨f.b,f.o+f.i.toNat*(E.el f.c).sz+j,none⟩ v],[(.sl c' T sb sc l,.sl f.c T f.sb sc f.l)])
   | none=>none
  | _,_=>none
 | .R e j=>match getK e st.ef with
  | some f=>match f.rdr,((E.el f.c).enc f.x)[j]? with
   | true,some v=>some ([v],[.cell ⟨f.b,f.o+f.i.toNat*(E.el f.c).sz+j,none⟩ v],[])
   | _,_=>none
  | none=>none
 | .Q j=>match getK j st.pr with
  | some p=>some ([],[.p p],[])
  | none=>none
 | .P e q j=>match getK e st.ef,getK q st.As with
  | some f,some (.blk b T cs)=>match ((E.el f.c).enc f.x)[j]?,Nat.ble f.o cs.length with
   | some v,true=>some ([v],[.cell ⟨f.b,f.o+f.i.toNat*(E.el f.c).sz+j,none⟩ v],[(.blk b T cs,.blk f.b T (cs.take f.o++(f.l.flatMap (E.el f.c).enc++cs.drop (f.o+f.l.length*(E.el f.c).sz))))])
   | _,_=>none
  | _,_=>none
 | .W j=>match getK j st.vw with
  | some (.cut v)=>some ([.slice v.sb' v.r.length v.sc'],.p (yt v.sb v.sc (loN v.lo) (E.el v.c).sz=v.sb') :: .p (hiN v.l.length v.hi - loN v.lo=v.r.length) :: .p (v.sc - loN v.lo=v.sc')::(bndO v.sc v.hi++bndO (hiN v.l.length v.hi) v.lo),[])
  | _=>none
def srcs (st:Kn E):List Src->Option (SrcR E)
 | []=>some ([],[],[])
 | s::r=>match s.get st,srcs st r with
  | some (a,b,c),some (x,y,z)=>some (a++x,b++y,c++z)
  | _,_=>none
theorem jA {α:Type}{l:List α}{i:Int}{x:α}(h:mIdx l i=some x):0<=i/\i<((l.length:Nat):Int):=by
 unfold mIdx at h;split at h
 ·rename_i h0;have:=(List.getElem?_eq_some_iff.1 h).1;omega
 ·cases h
theorem bR (o:Option Int):(loI o).toNat=loN o:=by cases o <;> rfl
theorem Ak (n:Nat)(o:Option Int):(hiI n o).toNat=hiN n o:=by cases o <;> simp[hiI,hiN]
theorem VwV.obs {v:VwV E}(h:v.holds)(w:World):xE w (.p (yt v.sb v.sc (loN v.lo) (E.el v.c).sz=v.sb') :: .p (hiN v.l.length v.hi - loN v.lo=v.r.length) :: .p (v.sc - loN v.lo=v.sc')::(bndO v.sc v.hi++bndO (hiN v.l.length v.hi) v.lo)):=by
 obtain⟨h1,h2,h3,h4⟩:=h;refine⟨by rw[<- bR];exact h2,?_,by show v.sc - loN v.lo=v.sc';rw[<- bR];exact h3,?_⟩
 ·show hiN _ _ - loN _=_;rw[<- bR,<- Ak];exact qz h1
 ·rw[wg];constructor
  ·cases hh:v.hi with
   | none=>trivial
   | some i=>rw[hh] at h1;exact⟨jv h1 h4,trivial⟩
  ·cases hl:v.lo with
   | none=>trivial
   | some i =>
    rw[hl] at h1;refine⟨?_,trivial⟩;have:=cf h1;rw[Ak] at this;exact this
theorem Src.sound {n:Nat}{w0 w:World}{F:List HP}{st:Kn E}{a:Act}(t:KnOk n w0 F st a w){s:Src}{J:List Value}{obs:List Ob}{eqs:List (Atom E × Atom E)}(h:s.get st=some (J,obs,eqs))
  (he:∀ p∈eqs,p.1=p.2):xE w obs:=by
 cases s with
 | C q off =>
  simp only[Src.get] at h;split at h
  ·rename_i b T cs hq;split at h
   ·rename_i v hv;cases h;obtain⟨i,hi⟩:=t.hp.mem (mL F (uH hq));exact⟨t.hp.cell i hi hv,trivial⟩
   ·cases h
  ·cases h
 | A e =>
  simp only[Src.get] at h;split at h
  ·rename_i f hf;cases h;obtain⟨j,hj⟩:=xT hf;obtain⟨h1,h2,_⟩:=t.fs.ef _ hj;exact⟨h1,jA h2,trivial⟩
  ·cases h
 | X e q j =>
  simp only[Src.get] at h;split at h
  ·rename_i f c T sb sc l hf hq;split at h
   ·rename_i v hv;cases h;obtain⟨B,hj⟩:=xT hf;obtain⟨h1,h2,_⟩:=t.fs.ef _ hj;have y:=he _ (List.mem_singleton.2 rfl);simp only at y;have hm:=uH hq;rw[y] at hm;obtain⟨i,hi⟩:=t.hp.mem (mL F hm);exact⟨SlRd.cells (wZ T (E.el f.c).enc (E.el f.c).sz f.sb sc f.l) (E.el f.c).ok t.hp i hi h1 h2 j v hv,trivial⟩
   ·cases h
  ·cases h
 | R e j =>
  simp only[Src.get] at h;split at h
  ·rename_i f hf;split at h
   ·rename_i v hr hv;cases h;obtain⟨B,hj⟩:=xT hf;obtain⟨h1,h2,h3⟩:=t.fs.ef _ hj;obtain⟨X,hX,h4⟩:=h3 hr;obtain⟨i,hi⟩:=t.hp.mem (List.mem_append_right _ hX);exact⟨h4.cells (E.el f.c).ok t.hp i hi h1 h2 j v hv,trivial⟩
   ·cases h
  ·cases h
 | Q j =>
  simp only[Src.get] at h;split at h
  ·rename_i p hp;cases h;obtain⟨B,hj⟩:=xT hp;exact⟨t.fs.pr _ hj,trivial⟩
  ·cases h
 | P e q j =>
  simp only[Src.get] at h;split at h
  ·rename_i f b T cs hf hq;split at h
   ·rename_i v hv hle;cases h;obtain⟨B,hj⟩:=xT hf;obtain⟨h1,h2,_⟩:=t.fs.ef _ hj;have y:=he _ (List.mem_singleton.2 rfl);simp only at y;have hm:=uH hq;rw[y] at hm;obtain⟨i,hi⟩:=t.hp.mem (mL F hm);refine⟨t.hp.cell i hi ?_,trivial⟩;have I:j<(E.el f.c).sz:=by
     have:=(List.getElem?_eq_some_iff.1 hv).1
     rwa [(E.el f.c).ok.len] at this
    have hlen:(cs.take f.o).length=f.o:=by rw[List.length_take];exact Nat.min_eq_left (Nat.le_of_ble_eq_true hle)
    have O:0<=f.i/\f.i<((f.l.length:Nat):Int):=jA h2;have z:f.l[f.i.toNat]? = some f.x:=Am h2;have u:f.i.toNat<f.l.length:=by omega
    rw[List.getElem?_append_right (by rw[hlen];omega),hlen];have hk:f.o+f.i.toNat*(E.el f.c).sz+j - f.o=f.i.toNat*(E.el f.c).sz+j:=by omega
    rw[hk];have D:=yi (E.el f.c).ok f.l;have h3:f.i.toNat+1<=f.l.length:=u;have h4:=Nat.mul_le_mul_right (E.el f.c).sz h3;rw[Nat.succ_mul] at h4;rw[List.getElem?_append_left (by rw[D];omega),u4 (E.el f.c).ok f.l _ _ u I];rw[List.getElem?_eq_getElem u] at z;rw[Option.some.inj z];exact hv
   ·cases h
  ·cases h
 | W j =>
  simp only[Src.get] at h;split at h
  ·rename_i v hv;cases h;obtain⟨B,hj⟩:=xT hv;exact VwV.obs (t.fs.vw _ hj) w
  ·cases h
theorem tH {n:Nat}{w0 w:World}{F:List HP}{st:Kn E}{a:Act}(i:KnOk n w0 F st a w):∀ {l:List Src}{e:List Value}{obs:List Ob}{eqs:List (Atom E × Atom E)},srcs st l=some (e,obs,eqs) ->
  (∀ p∈eqs,p.1=p.2)->xE w obs
 | [],e,obs,eqs,h,_=>by simp[srcs] at h;obtain⟨_,rfl,_⟩:=h;trivial
 | s::r,e,obs,eqs,h,he=>by
  simp only[srcs] at h;split at h
  ·rename_i j t c' x y z h1 h2;cases h;rw[wg];exact⟨Src.sound i h1 fun p hp=>he p (mL _ hp),tH i h2 fun p hp=>he p (List.mem_append_right _ hp)⟩
  ·cases h
theorem mM {l:List (Atom E × Atom E)}(h:l.map (·.1)=l.map (·.2)):∀ p∈l,p.1=p.2:=by
 induction l with
 | nil=>simp
 | cons x l ih =>
  simp only[pC,List.cons.injEq] at h;intro p hp;cases hp with
  | head=>exact h.1
  | tail _ hm=>exact ih h.2 p hm
structure Con (E:Ev):Type 1 where
 fid:Nat
 I:Type
 T:Type
 rd:List Value->List (Atom E)->Option I
 args:I->List Value
 ats:I->List (Atom E)
 rds:I->List (RdV E)
 model:I->Option T
 nN:Nat
 nA:Nat
 val:I->T->List Nat->List (Option Addr)->Value
 post:I->T->List Nat->List (Option Addr)->List (Atom E)
 opt:I->T->Option (Option Int)
 fx:I->T->List Prop
 br:Bool
 M:Type
 om:I->T->Option M
 nf:Nat
 val1:I->T->M->List Nat->List (Option Addr)->Value
 post1:I->T->M->List Nat->List (Option Addr)->List (Atom E)
def Con.valA (C:Con E)(i:C.I)(t:C.T)(j:List Nat)(e:List (Option Addr)):Value:=match C.br with
 | false=>C.val i t j e
 | true=>match C.om i t with
  | none=>C.val i t j e
  | some m=>C.val1 i t m j e
def Con.jL (C:Con E)(i:C.I)(t:C.T)(j:List Nat)(e:List (Option Addr)):List (Atom E):=match C.br with
 | false=>C.post i t j e
 | true=>match C.om i t with
  | none=>C.post i t j e
  | some m=>C.post1 i t m j e
def Con.BD (C:Con E)(i:C.I)(t:C.T)(keys:List Nat):List Nat:=match C.br with
 | false=>keys
 | true=>match C.om i t with
  | none=>keys.drop C.nf
  | some _=>keys
def Con.Sound (C:Con E)(P:Program):Prop:=∀ (i:C.I) (t:C.T),C.model i=some t -> ∀ (w0 w:World) (F:List HP),(∀ r∈C.rds i,r.holds F)->St w0 ((C.ats i).map Atom.den++F) w ->
 xw P C.fid (C.args i).toArray w fun v w'=>∃ j e,j.length=C.nN/\e.length=C.nA/\v=C.valA i t j e/\St w0 ((C.jL i t j e).map Atom.den++F) w' /\ ∀ p∈C.fx i t,p
structure SCon (E:Ev) (P:Program):Type 1 where
 C:Con E
 snd:C.Sound P
 ent:∀ args w,(callFunc C.fid args).run P w = .ok (.enter C.fid args) w
def frNs {R:Type}:Nat->(List Nat->VC R)->VC R
 | 0,k=>k []
 | n+1,k=>.frN fun r=>frNs n fun l=>k (r::l)
def frAs {R:Type}:Nat->(List (Option Addr)->VC R)->VC R
 | 0,k=>k []
 | n+1,k=>.frA fun r=>frAs n fun l=>k (r::l)
theorem p6 {R:Type}{Φ:R->Prop}:∀ (l:List Nat) (k:List Nat->VC R),(frNs l.length k).ok Φ -> (k l).ok Φ
 | [],k,h=>h
 | r::l,k,h=>p6 l (fun l=>k (r::l)) (h r)
theorem p5 {R:Type}{Φ:R->Prop}:∀ (l:List (Option Addr)) (k:List (Option Addr)->VC R),(frAs l.length k).ok Φ -> (k l).ok Φ
 | [],k,h=>h
 | r::l,k,h=>p5 l (fun l=>k (r::l)) (h r)
def VC.fail {R:Type}:VC R:=.ret none
theorem VC.zw {R:Type}{Φ:R->Prop}(h:(VC.fail:VC R).ok Φ):False:=by
 obtain⟨x,e,_⟩:=h;cases e
end
end
noncomputable section
section
variable {E:Ev} {P:Program}
structure HpOk (w0:World) (F:List HP) (st:Kn E) (w:World):Prop where
 hp:St w0 (dens st.As++F) w
 fs:dw F st
theorem KnOk.hk {n:Nat}{w0 w:World}{F:List HP}{st:Kn E}{a:Act}(h:KnOk n w0 F st a w):HpOk w0 F st w:=⟨h.hp,h.fs⟩
def kc (c:Nat){c':Nat}(l:List (E.el c').α):Option (List (E.el c).α) :=
 match Nat.decEq c' c with
 | isTrue h=>some (h ▸ l)
 | isFalse _=>none
def fQ (D:ElD):Nat->List Value->Option (List D.α)
 | 0,_=>some []
 | n+1,cs=>match D.dec (cs.take D.sz),fQ D n (cs.drop D.sz) with
  | some x,some r=>some (x::r)
  | _,_=>none
def oB:Op->Option (Builtin × List Operand × List TypeId)
 | .call { callee:=.builtin b,args,argTypes }=>some (b,args.toList,argTypes.toList)
 | _=>none
theorem oP {op:Op}{b:Builtin}{l:List Operand}{e:List TypeId}(h:oB op=some (b,l,e)):op = .call { callee:=.builtin b,args:=l.toArray,argTypes:=e.toArray }:=by
 unfold oB at h;split at h
 ·cases h;simp
 ·cases h
structure EqD (P:Program):Type 1 where
 α:Type
 t:TypeId
 val:α -> Array Value
 dec:Value->Option α
 eq:α -> α -> Bool
 ok:∀ x y,mw P t (val x) (val y) (eq x y)
inductive ASrc
 | K (q:Nat)
 | R (q:Nat)
 | O (q:Nat)
 | W (v q:Nat)
def ASrc.keys:List ASrc->List Nat
 | []=>[]
 | .K q::r=>q::keys r
 | _::r=>keys r
def qu (rd:List (Nat × RdV E))(rest:List (Nat × Atom E)):List ASrc->List (Atom E)->Option (List (Atom E) × List (RdV E))
 | [],_=>some ([],[])
 | .K _::r,a::ats=>match qu rd rest r ats with
  | some (x,y)=>some (a::x,y)
  | none=>none
 | .K _::_,[]=>none
 | .R q::r,ats=>match getK q rd with
  | some v=>match qu rd rest r ats with
   | some (x,y)=>some (.sl v.c 0 v.sb v.sc v.l::x,v::y)
   | none=>none
  | none=>none
 | .O q::r,ats=>match getK q rest with
  | some (.sl c T sb sc l)=>match qu rd rest r ats with
   | some (x,y)=>some (.sl c T sb sc l::x,⟨c,sb,sc,l⟩::y)
   | none=>none
  | _=>none
 | .W _ _::_,_=>none
def zipK {α:Type}:List Nat->List α -> Option (List (Nat × α))
 | [],[]=>some []
 | k::ks,x::xs=>match zipK ks xs with
  | some r=>some ((k,x)::r)
  | none=>none
 | _,_=>none
theorem iN {α:Type}:∀ {ks:List Nat}{xs:List α}{r:List (Nat × α)},zipK ks xs=some r->r.map (·.2)=xs
 | [],[],r,h=>by simp[zipK] at h;subst h;rfl
 | k::ks,x::xs,r,h=>by
  simp only[zipK] at h;split at h
  ·rename_i r' hr;cases h;simp[iN hr]
  ·cases h
 | [],_::_,r,h=>by simp[zipK] at h
 | _::_,[],r,h=>by simp[zipK] at h
inductive Stp (E:Ev) (P:Program):Type 1
 | seg (c:Nat) (l:List Src)
 | new (q:Nat) (l:List Src)
 | sto (q:Nat)
 | call (C:SCon E P) (l:List ASrc) (out:List Nat)
 | idx (rdr:Bool) (q:Nat) (x:Operand) (e:Nat)
 | gd (k:Nat) (x:Operand) (j:Nat)
 | idk (rdr:Bool) (q:Nat) (x:Operand) (e:Nat)
 | rlc (e q off:Nat)
 | rls (e t:Nat)
 | nil (q c:Nat) (T:TypeId)
 | bld (q c:Nat) (T:TypeId)
 | app (q:Nat) (s:ASrc)
 | sset (q e j:Nat)
 | mk (q c:Nat) (T:TypeId)
 | eqs (D:EqD P)
 | mnew (q c:Nat)
 | mget (q c:Nat) (kt:TypeId) (hk:sM P kt (E.mp c).ek (E.mp c).eq) (z:(E.mp c).V)
 | mput (q c:Nat) (kt:TypeId) (hk:sM P kt (E.mp c).ek (E.mp c).eq)
 | mdel (q c:Nat) (kt:TypeId) (hk:sM P kt (E.mp c).ek (E.mp c).eq)
 | cut (rdr:Bool) (q:Nat) (lo hi:Option Operand) (v:Nat)
 | own (v q:Nat)
 | el (t e:Nat)
 | same (q m:Nat)
 | rlp (t q:Nat)
 | rlq (b off q:Nat)
 | pix (q off n c:Nat) (x:Operand) (e:Nat)
def gg (c:Nat){c':Nat}(l:List ((E.mp c').K × (E.mp c').V)):Option (List ((E.mp c).K × (E.mp c).V)) :=
 match Nat.decEq c' c with
 | isTrue h=>some (h ▸ l)
 | isFalse _=>none
def gS (rd:List (Nat × RdV E))(vw:List (Nat × Mi E))(rest:List (Nat × Atom E)):ASrc->Option (RdV E × List (Atom E × Atom E))
 | .K _=>none
 | .R q=>match getK q rd with
  | some r=>some (r,[])
  | none=>none
 | .O q=>match getK q rest with
  | some (.sl c T sb sc l)=>some (⟨c,sb,sc,l⟩,[])
  | _=>none
 | .W v q=>match getK v vw,getK q rest with
  | some (.cut u),some (.sl c T sb sc l)=>some (⟨u.c,u.sb',u.sc',u.r⟩,[(.sl c T sb sc l,.sl u.c T u.sb u.sc u.l)])
  | _,_=>none
def vwO (o:Option (Option Int))(l:List (Nat × Mi E)):List (Nat × Mi E):=match o with
 | some x=>(77,.opt x)::l
 | none=>l
theorem AP {o:Option (Option Int)}{l:List (Nat × Mi E)}(h:∀ p∈l,p.2.holds):∀ p∈vwO o l,p.2.holds:=by
 cases o with
 | none=>exact h
 | some x =>
  intro p hp;cases hp with
  | head=>trivial
  | tail _ hm=>exact h p hm
def fxP:List Prop->List (Nat × Prop)->List (Nat × Prop)
 | [],l=>l
 | p::r,l=>(78,p)::fxP r l
theorem cj {l:List (Nat × Prop)}(h:∀ p∈l,p.2):∀ {fx:List Prop},(∀ p∈fx,p) -> ∀ p∈fxP fx l,p.2
 | [],_=>h
 | q::r,hf=>fun p hp=>by
  cases hp with
  | head=>exact hf q (List.mem_cons_self ..)
  | tail _ hm=>exact cj h (fun x e=>hf x (mC _ e)) p hm
def outK {R:Type}(out:List Nat)(l:List (Atom E))(K:List (Nat × Atom E)->VC R):VC R:=match zipK out l with
 | some new=>K new
 | none=>.fail
theorem ab {R:Type}{out:List Nat}{l:List (Atom E)}{K:List (Nat × Atom E)->VC R}{Φ:R->Prop}(h:(outK out l K).ok Φ):∃ new,new.map (·.2)=l/\(K new).ok Φ:=by
 unfold outK at h;split at h
 ·rename_i new hz;exact⟨new,iN hz,h⟩
 ·exact (VC.zw h).elim
def j0 (L:Env)(x:Operand):Option (Nat × List Value):=match x with
 | .func g=>some (g,[])
 | y=>match evO L y with
  | some (.func (.func g) ⟨[]⟩ ⟨cs⟩)=>some (g,cs)
  | _=>none
def actO {R:Type}(o:Oper)(st:Kn E)(s:Stp E P)(K:Value->Kn E->VC R):VC R :=
 match s with
 | .new q l=>match (!rf o.op && lJ st.L o.op.operands.toList),srcs st l with
  | true,some (Y,obs,eqs)=>.frN fun r=>match sA P (execOp (rho st.L) o) Y r with
   | some (.cells cs T (0,0),.value v,S)=>.req S obs (.req (eqs.map (·.1)) (eqs.map (·.2)) (K v ⟨st.L,(q,.blk r T cs.toList)::st.As,st.rd,st.ef,st.pr,st.vw⟩))
   | _=>.fail
  | _,_=>.fail
 | .sto q=>match vO o.op,oe q st.As with
  | some (t,x,y),some (.blk b' T cs,rest)=>match evO st.L x,evO st.L y,P.info? t with
   | some (.pointer (some ⟨b,off,none⟩)),some v,some ti=>match Nat.beq ti.size v.cells.size,qP v.cells.toList,Nat.ble (off+v.cells.size) cs.length with
    | true,true,true=>.req b b' (K undef ⟨st.L,(q,.blk b' T (putAt cs off v.cells.toList))::rest,st.rd,st.ef,st.pr,st.vw⟩)
    | _,_,_=>.fail
   | _,_,_=>.fail
  | _,_=>.fail
 | .call C l out=>match callParts o.op,ky (ASrc.keys l) st.As with
  | some (x,xs),some (ats,rest)=>match j0 st.L x,qX st.L xs,qu st.rd rest l ats with
   | some (g,cs),some vs,some (ps,rds)=>match C.C.rd (vs++cs) ps with
    | some i=>.req (vs++cs,ats,rds,g) (C.C.args i,C.C.ats i,C.C.rds i,C.C.fid) (.bind (C.C.model i) fun t=>frNs C.C.nN fun O=>frAs C.C.nA fun J=>match C.C.br with
     | false=>outK out (C.C.post i t O J) fun new=>K (C.C.val i t O J) ⟨st.L,new++rest,st.rd,st.ef,fxP (C.C.fx i t) st.pr,vwO (C.C.opt i t) st.vw⟩
     | true=>.cs (oS (C.C.om i t)) (fun _=>outK (out.drop C.C.nf) (C.C.post i t O J) fun new=>K (C.C.val i t O J) ⟨st.L,new++rest,st.rd,st.ef,fxP (C.C.fx i t) st.pr,vwO (C.C.opt i t) st.vw⟩) fun m =>
       outK out (C.C.post1 i t m O J) fun new=>K (C.C.val1 i t m O J) ⟨st.L,new++rest,st.rd,st.ef,fxP (C.C.fx i t) st.pr,vwO (C.C.opt i t) st.vw⟩)
    | none=>.fail
   | _,_,_=>.fail
  | _,_=>.fail
 | .bld q c T=>match (!rf o.op && lJ st.L o.op.operands.toList) with
  | true=>.frN fun r=>match sA P (execOp (rho st.L) o) [] r with
   | some (.cells cs T' (0,0),.value (.slice (some a) m I),[])=>match fQ (E.el c) m cs.toList,Nat.ble m 1000000 with
    | some xs,true=>.req (cs.toList,a,m,I,T') (xs.flatMap (E.el c).enc,⟨r,0,none⟩,xs.length,xs.length,T) (K (.slice (some ⟨r,0,none⟩) xs.length xs.length) ⟨st.L,(q,.sl c T (some ⟨r,0,none⟩) xs.length xs)::st.As,st.rd,st.ef,st.pr,st.vw⟩)
    | _,_=>.fail
   | _=>.fail
  | false=>.fail
 | .app q s=>match oB o.op,oe q st.As with
  | some (.append,[x,y],[t,u]),some (.sl c T sb sc l,rest)=>match gS st.rd st.vw ((q,.sl c T sb sc l)::rest) s,P.underlying t,P.underlying u,P.info? T,evO st.L x,evO st.L y with
   | some (⟨c',sb',sc',l'⟩,eqs),some (.slice T'),some (.slice d),some ti,some B,some A=>match kc c l',ti.zero,Nat.ble ti.bytes 131072 with
    | some l'',some z,true=>.req (B,A,T',ti.size,z.cells.size) (.slice sb l.length sc,.slice sb' l''.length sc',T,(E.el c).sz,(E.el c).sz) (.req (eqs.map (·.1)) (eqs.map (·.2)) (.bind (mApp l l'') fun r=>.frA fun U=>.frN fun W =>
      K (.slice U r.length W) ⟨st.L,(q,.sl c T U W r)::rest,st.rd,st.ef,st.pr,st.vw⟩))
    | _,_,_=>.fail
   | _,_,_,_,_,_=>.fail
  | _,_=>.fail
 | .sset q e j=>match vO o.op,oe q st.As,getK e st.ef with
  | some (t,x,y),some (.sl c T sb sc l,rest),some ⟨rdr,c',sb',l',i,x0,b,off⟩=>match evO st.L x,evO st.L y,P.info? t,Nat.decEq c' c with
   | some B,some v,some ti,isTrue h=>match qP v.cells.toList,Nat.ble (j+v.cells.size) (E.el c).sz,(E.el c).dec (putAt ((E.el c).enc (h ▸ x0)) j v.cells.toList) with
    | true,true,some x1=>.req (B,ti.size,(h ▸ l':List (E.el c).α),sb',(E.el c).enc x1) (.pointer (some ⟨b,off+i.toNat*(E.el c).sz+j,none⟩),v.cells.size,l,sb,putAt ((E.el c).enc (h ▸ x0)) j v.cells.toList)
      (K undef ⟨st.L,(q,.sl c T sb sc (mSet l i x1))::rest,st.rd,(e,⟨false,c,sb,mSet l i x1,i,x1,b,off⟩)::(e+100000,⟨rdr,c',sb',l',i,x0,b,off⟩)::st.ef,st.pr,st.vw⟩)
    | _,_,_=>.fail
   | _,_,_,_=>.fail
  | _,_,_=>.fail
 | .mk q c T=>match o.op with
  | .makeSlice t x y=>match P.underlying t,P.info? T,evO st.L x,evO st.L y with
   | some (.slice T'),some ti,some (.int .i64 m),some A=>match ti.zero,Nat.ble ti.bytes 131072 with
    | some X,true=>match (E.el c).dec X.cells.toList with
     | some z=>.req (T',ti.size,X.cells.toList,y) (T,(E.el c).sz,(E.el c).enc z,x) (.bind (gz m z) fun l=>.frN fun r=>K (.slice (some ⟨r,0,none⟩) l.length l.length) ⟨st.L,(q,.sl c T (some ⟨r,0,none⟩) l.length l)::st.As,st.rd,st.ef,st.pr,st.vw⟩)
     | none=>.fail
    | _,_=>.fail
   | _,_,_,_=>.fail
  | _=>.fail
 | .eqs D=>match o.op with
  | .binOp .eql t x y _=>match evO st.L x,evO st.L y,P.eqGuardType P.depth t with
   | some B,some A,false=>match D.dec B,D.dec A with
    | some a,some b=>.req (t,B,A) (D.t,.agg (D.val a),.agg (D.val b)) (K (.bool (D.eq a b)) st)
    | _,_=>.fail
   | _,_,_=>.fail
  | .binOp .neq t x y _=>match evO st.L x,evO st.L y,P.eqGuardType P.depth t with
   | some B,some A,false=>match D.dec B,D.dec A with
    | some a,some b=>.req (t,B,A) (D.t,.agg (D.val a),.agg (D.val b)) (K (.bool (!(D.eq a b))) st)
    | _,_=>.fail
   | _,_,_=>.fail
  | _=>.fail
 | .mnew q c=>match o.op with
  | .makeMap t none=>.frN fun r=>K (.map (some r)) ⟨st.L,(q,.mp c r [])::st.As,st.rd,st.ef,st.pr,st.vw⟩
  | _=>.fail
 | .mget q c kt hk z=>match getK q st.As with
  | some (.mp c' r m)=>match gg c m with
   | some I=>match o.op with
    | .lookup mt x y two=>match P.underlying mt,evO st.L x,evO st.L y with
     | some (.map F Z),some B,some A=>match P.info? Z,(E.mp c).dk A with
      | some ti,some k=>match ti.zero with
       | some X=>.req (F,B,A,X,Atom.mp (E:=E) c' r m) (kt,.map (some r),(E.mp c).ek k,(E.mp c).ev z,.mp c r I) (.bind (sW (E.mp c).eq k z I) fun g=>K (match two with
        | true=>.tuple #[(E.mp c).ev g.1,.bool g.2]
        | false=>(E.mp c).ev g.1) st)
       | none=>.fail
      | _,_=>.fail
     | _,_,_=>.fail
    | _=>.fail
   | none=>.fail
  | _=>.fail
 | .mput q c kt hk=>match oe q st.As,pD o.op with
  | some (.mp c' r m,rest),some (mt,x,y,z)=>match gg c m,P.underlying mt,evO st.L x,evO st.L y,evO st.L z with
   | some I,some (.map F Z),some B,some A,some vz=>match (E.mp c).dk A,(E.mp c).dv vz with
    | some k,some v=>.req (F,B,A,vz,Atom.mp (E:=E) c' r m) (kt,.map (some r),(E.mp c).ek k,(E.mp c).ev v,.mp c r I) (K undef ⟨st.L,(q,.mp c r (mPut (E.mp c).eq k v I))::rest,st.rd,st.ef,st.pr,st.vw⟩)
    | _,_=>.fail
   | _,_,_,_,_=>.fail
  | _,_=>.fail
 | .mdel q c kt hk=>match oe q st.As,oB o.op with
  | some (.mp c' r m,rest),some (.delete,[x,y],mt::ts)=>match gg c m,P.underlying mt,evO st.L x,evO st.L y with
   | some I,some (.map F Z),some B,some A=>match (E.mp c).dk A with
    | some k=>.req (F,B,A,Atom.mp (E:=E) c' r m) (kt,.map (some r),(E.mp c).ek k,.mp c r I) (K (.tuple #[]) ⟨st.L,(q,.mp c r (mDel (E.mp c).eq k I))::rest,st.rd,st.ef,st.pr,st.vw⟩)
    | none=>.fail
   | _,_,_,_=>.fail
  | _,_=>.fail
 | _=>.fail
theorem RdV.mono {F G:List HP}{r:RdV E}(h:∀ X∈F,X∈G)(hr:r.holds F):r.holds G:=by
 obtain⟨X,hX,h1⟩:=hr;exact⟨X,h X hX,h1⟩
theorem ss {F:List HP}{rd:List (Nat × RdV E)}{rest:List (Nat × Atom E)}(e:∀ p∈rd,p.2.holds F):∀ {l:List ASrc}{ats ps:List (Atom E)}{rds:List (RdV E)},
  qu rd rest l ats=some (ps,rds) -> ∀ r∈rds,r.holds (dens rest++F)
 | [],ats,ps,rds,h=>by simp[qu] at h;obtain⟨_,rfl⟩:=h;simp
 | .K _::r,[],ps,rds,h=>by simp[qu] at h
 | .K _::r,a::ats,ps,rds,h=>by
  simp only[qu] at h;split at h
  ·rename_i x y i;cases h;exact ss e i
  ·cases h
 | .R q::r,ats,ps,rds,h=>by
  simp only[qu] at h;split at h
  ·rename_i v hv;split at h
   ·rename_i x y i;cases h;intro z hz;cases hz with
    | head =>
     obtain⟨j,hj⟩:=xT hv;exact RdV.mono (fun X hX=>List.mem_append_right _ hX) (e _ hj)
    | tail _ hm=>exact ss e i z hm
   ·cases h
  ·cases h
 | .O q::r,ats,ps,rds,h=>by
  simp only[qu] at h;split at h
  ·rename_i c T sb sc l hq;split at h
   ·rename_i x y i;cases h;intro z hz;cases hz with
    | head =>
     refine⟨_,mL F (uH hq),wZ _ _ _ _ _ _,?_⟩;rintro h (⟨_,hl,_⟩|⟨b,off,cs,_,_,t,_⟩)
     ·show l.length<=sc;rw[show l=[] from hl];simp
     ·exact t
    | tail _ hm=>exact ss e i z hm
   ·cases h
  ·cases h
theorem OpTo.AJ {n:Nat}{a:Act}{L:Env}{w w0:World}{As:List HP}{o:Oper}{b off:Nat}{T t:TypeId}{cs:List Value}{x y:Operand}{v:Value}{ti:TypeInfo}(i:zZ n a L)(H:St w0 (Blk b T cs::As) w)
  (l:vO o.op=some (t,x,y)) (A:evO L x=some (.pointer (some ⟨b,off,none⟩))) (B:evO L y=some v) (hi:P.info? t=some ti) (hs:ti.size=v.cells.size) (h1:qP v.cells.toList=true)
  (e:off+v.cells.size<=cs.length):OpTo P o a w fun u w'=>u=undef/\St w0 (Blk b T (putAt cs off v.cells.toList)::As) w':=by
 obtain⟨dst,op,type,pos,after,guard⟩:=o;cases op <;> simp only[vO] at l <;> try cases l
 have j:=H.one 0 rfl;refine OpTo.jI (w':=w.setRow b (putAt cs off v.cells.toList).toArray) ?_ ⟨rfl,?_⟩
 ·simp[execOp,i.eval A,i.eval B,oA j hi hs h1 e]
 ·exact H.set (by simp) (by simp) (by simp) (setRow_heap w b _ _ T (0,0) j) (fun c z=>setRow_other w b c _ z)
theorem OpTo.BL {o:Oper}{a:Act}{w:World}{e:Value->World->Prop}{z:TypeId × Operand × Operand}(h:OpTo P o a w e)(i:vO o.op=some z):OpTo P o a w fun v w'=>v=undef/\e v w':=by
 obtain⟨dst,op,type,pos,after,guard⟩:=o;cases op <;> simp only[vO] at i <;> try cases i
 rename_i t x y;unfold OpTo at *
 simp only[execOp,Sem.run_bind,Sem.run_pure] at *
 cases hr:(Instr.storeAt t (a.eval x) (a.eval y)).run P w with
 | ok u w'=>rw[hr] at h;simp[Result.andThen] at h ⊢;exact h
 | halt x w'=>rw[hr] at h;simp[Result.andThen] at h
theorem OpTo.putU {o:Oper}{a:Act}{w:World}{e:Value->World->Prop}{z:TypeId × Operand × Operand × Operand}(h:OpTo P o a w e)(i:pD o.op=some z):OpTo P o a w fun v w'=>v=undef/\e v w':=by
 obtain⟨dst,op,type,pos,after,guard⟩:=o;cases op <;> simp only[pD] at i <;> try cases i
 all_goals
  rename_i t x y z;unfold OpTo at *
  simp only[execOp,Sem.run_bind,Sem.run_pure] at *
  cases hr:(Instr.mapUpdate t (a.eval x) (a.eval y) (a.eval z)).run P w with
  | ok u w'=>rw[hr] at h;simp[Result.andThen] at h ⊢;exact h
  | halt x w'=>rw[hr] at h;simp[Result.andThen] at h
theorem jQ {F:List HP}{rd:List (Nat × RdV E)}{vw:List (Nat × Mi E)}{rest:List (Nat × Atom E)}{s:ASrc}{r:RdV E}{eqs:List (Atom E × Atom E)}(e:∀ p∈rd,p.2.holds F)(i:∀ p∈vw,p.2.holds)(h:gS rd vw rest s=some (r,eqs))(he:∀ p∈eqs,p.1=p.2) :
  ∃ X,X∈dens rest++F/\SlRd X (E.el r.c).enc (E.el r.c).sz r.sb r.l:=by
 cases s with
 | K q=>simp[gS] at h
 | R q =>
  simp only[gS] at h;split at h
  ·rename_i r' hr;cases h;obtain⟨j,hj⟩:=xT hr;obtain⟨X,hX,h1,_⟩:=e _ hj;exact⟨X,List.mem_append_right _ hX,h1⟩
  ·cases h
 | W v q =>
  simp only[gS] at h;split at h
  ·rename_i u c T sb sc l hu hq;cases h;obtain⟨j,hj⟩:=xT hu;obtain⟨h1,h2,h3,h4⟩:=i _ hj;have t:=he _ (List.mem_singleton.2 rfl);simp only at t;have hm:=uH hq;rw[t] at hm;exact⟨_,mL F hm,(wZ T (E.el u.c).enc (E.el u.c).sz u.sb u.sc u.l).cut' (E.el u.c).ok h1 h4 h2⟩
  ·cases h
 | O q =>
  simp only[gS] at h;split at h
  ·rename_i c T sb sc l hq;cases h;exact⟨_,mL F (uH hq),wZ _ _ _ _ _ _⟩
  ·cases h
theorem dz {c c':Nat}{l:List (E.el c').α}{l':List (E.el c).α}(h:kc c l=some l'):∃ e:c'=c,l'=e ▸ l:=by
 unfold kc at h;split at h
 ·rename_i e _;cases h;exact⟨e,rfl⟩
 ·cases h
theorem ln {c c':Nat}{l:List ((E.mp c').K × (E.mp c').V)}{l':List ((E.mp c).K × (E.mp c).V)}(h:gg c l=some l'):∃ e:c'=c,l'=e ▸ l:=by
 unfold gg at h;split at h
 ·rename_i e _;cases h;exact⟨e,rfl⟩
 ·cases h
theorem my {R:Type}{n:Nat}{w0 w:World}{F:List HP}{st:Kn E}{a:Act}{Φ:R->Prop}{o:Oper}{s:Stp E P}{K:Value->Kn E->VC R}(A:KnOk n w0 F st a w)(h:(actO o st s K).ok Φ) :
  OpTo P o a w fun v w'=>∃ O,O.L=st.L/\HpOk w0 F O w'/\(K v O).ok Φ:=by
 cases s with
 | seg c l=>exact (VC.zw h).elim
 | idx rdr q x e=>exact (VC.zw h).elim
 | gd k x j=>exact (VC.zw h).elim
 | idk rdr q x e=>exact (VC.zw h).elim
 | rlc e q off=>exact (VC.zw h).elim
 | rls e t=>exact (VC.zw h).elim
 | nil q c T=>exact (VC.zw h).elim
 | cut rdr q lo hi v=>exact (VC.zw h).elim
 | own v q=>exact (VC.zw h).elim
 | el t e=>exact (VC.zw h).elim
 | same q m=>exact (VC.zw h).elim
 | rlp t q=>exact (VC.zw h).elim
 | rlq b off q=>exact (VC.zw h).elim
 | pix q off n c x e=>exact (VC.zw h).elim
 | bld q c T =>
  simp only[actO] at h;split at h
  ·rename_i Z;have h3:=h w.heap.size;dsimp only at h3;split at h3
   ·rename_i cs T' ad m m' a5;split at h3
    ·rename_i xs d2 hm;obtain⟨e,U⟩:=h3;simp only[Prod.mk.injEq] at e;obtain⟨S,rfl,rfl,rfl,rfl⟩:=e;simp only[Bool.and_eq_true,Bool.not_eq_true'] at Z;have d0:=Nat.le_of_ble_eq_true hm;have d1:cs.size=xs.length*(E.el c).sz:=by rw[<- Array.length_toList,S,yi (E.el c).ok]
     refine OpTo.of_run (w':={ w with heap:=w.heap.push (.cells cs T' (0,0)) }) (v:=.slice (some ⟨w.heap.size,0,none⟩) xs.length xs.length) ?_ ⟨⟨st.L,(q,.sl c T' (some ⟨w.heap.size,0,none⟩) xs.length xs)::st.As,st.rd,st.ef,st.pr,st.vw⟩,rfl,⟨?_,A.fs.1,A.fs.2,A.fs.3,A.fs.4⟩,U⟩
     ·rw[lv A.env Z.1 Z.2];exact rW P w _ _ _ _ _ a5 trivial
     ·have H2:=A.hp.alloc (.cells cs T' (0,0));have H3:=St.slOf (enc:=(E.el c).enc) (sz:=(E.el c).sz) (l:=xs) (sc:=xs.length) H2 (E.el c).ok (Nat.le_refl _) (by unfold maxLen;omega) (by omega) fun i hi=>by rw[<- S];simp
      exact H3
    ·exact (VC.zw h3).elim
   ·exact (VC.zw h3).elim
  ·exact (VC.zw h).elim
 | app q s =>
  simp only[actO] at h;split at h
  ·rename_i x y t u c T sb sc l rest h1 h2;split at h
   ·rename_i c' sb' sc' l' eqs T' d ti vx vy g1 g2 g3 g4 g5 g6;split at h
    ·rename_i l'' z k1 k2 k3;obtain⟨e,b4,r,hr,I⟩:=h;simp only[Prod.mk.injEq] at e;obtain⟨rfl,rfl,rfl,e4,e5⟩:=e;obtain⟨W,rfl⟩:=dz k1;subst W;have H:St w0 (Sl T' (E.el c').enc (E.el c').sz sb sc l::(dens rest++F)) w:=A.hp.perm ((ux h2).append_right F);obtain⟨X,hX,hS⟩:=jQ A.fs.rd A.fs.vw g1 (mM b4);obtain⟨j,hj⟩:=H.mem hX;have b6:=hS.all (E.el c').ok H j hj;refine (OpTo.tj hr A.env H (E.el c').ok (oP h1) g5 g6 g2 g3 g4 e4 k2 e5 rfl b6 k3).mono ?_;rintro v w' ⟨a7,a8,rfl,B⟩;exact⟨⟨st.L,(q,.sl c' T' a7 a8 r)::rest,st.rd,st.ef,st.pr,st.vw⟩,rfl,⟨B,A.fs.1,A.fs.2,A.fs.3,A.fs.4⟩,I a7 a8⟩
    ·exact (VC.zw h).elim
   ·exact (VC.zw h).elim
  ·exact (VC.zw h).elim
 | sset q e j =>
  simp only[actO] at h;split at h
  ·rename_i t x y c T sb sc l rest rdr c' sb' l' i x0 b off h1 h2 h3;split at h
   ·rename_i vx v ti W g1 g2 g3 g4;split at h
    ·rename_i x1 k1 k2 k3;subst W;obtain⟨e,I⟩:=h;simp only[Prod.mk.injEq] at e;obtain⟨rfl,Y,rfl,rfl,e5⟩:=e;obtain⟨j',hj⟩:=xT h3;obtain⟨f1,f2,_⟩:=A.fs.2 _ hj;have H:St w0 (Sl T (E.el c').enc (E.el c').sz sb' sc l'::(dens rest++F)) w:=A.hp.perm ((ux h2).append_right F);refine (OpTo.BL (OpTo.lW (q:=j) (x':=x1) A.env H (E.el c').ok h1 f1 f2 g1 g2 g3 Y k1 (Nat.le_of_ble_eq_true k2) e5) h1).mono ?_;rintro v w' ⟨rfl,B⟩;refine⟨⟨st.L,(q,.sl c' T sb' sc (mSet l' i x1))::rest,st.rd,(e,⟨false,c',sb',mSet l' i x1,i,x1,b,off⟩)::(e+100000,⟨rdr,c',sb',l',i,x0,b,off⟩)::st.ef,st.pr,st.vw⟩,rfl,⟨B,A.fs.1,fun p hp=>?_,A.fs.3,A.fs.4⟩,I⟩;cases hp with
     | head=>exact⟨f1,bU f2,fun h=>by cases h⟩
     | tail _ hm =>
      cases hm with
      | head =>
       have h9:=A.fs.2 _ hj;exact h9
      | tail _ hm=>exact A.fs.2 p hm
    ·exact (VC.zw h).elim
   ·exact (VC.zw h).elim
  ·exact (VC.zw h).elim
 | mk q c T =>
  simp only[actO] at h;split at h
  ·rename_i t x y J;split at h
   ·rename_i T' ti m vy g1 g2 g3 g4;split at h
    ·rename_i zv k1 k2;split at h
     ·rename_i z kz;obtain⟨e,l,hl,I⟩:=h;simp only[Prod.mk.injEq] at e;obtain⟨rfl,Y,e3,rfl⟩:=e;refine (OpTo.make hl A.env A.hp (E.el c).ok J g3 g1 g2 Y k1 e3 k2).mono ?_;rintro v w' ⟨r,rfl,B⟩;exact⟨⟨st.L,(q,.sl c T' (some ⟨r,0,none⟩) l.length l)::st.As,st.rd,st.ef,st.pr,st.vw⟩,rfl,⟨B,A.fs.1,A.fs.2,A.fs.3,A.fs.4⟩,I r⟩
     ·exact (VC.zw h).elim
    ·exact (VC.zw h).elim
   ·exact (VC.zw h).elim
  ·exact (VC.zw h).elim
 | eqs D =>
  simp only[actO] at h;split at h
  ·rename_i t x y u J;split at h
   ·rename_i vx vy g1 g2 g3;split at h
    ·rename_i p q k1 k2;obtain⟨e,I⟩:=h;simp only[Prod.mk.injEq] at e;obtain⟨rfl,rfl,rfl⟩:=e;refine (OpTo.eqS A.env J g1 g2 g3 (D.ok p q)).mono ?_;rintro v w' ⟨rfl,rfl⟩;exact⟨st,rfl,A.hk,I⟩
    ·exact (VC.zw h).elim
   ·exact (VC.zw h).elim
  ·rename_i t x y u J;split at h
   ·rename_i vx vy g1 g2 g3;split at h
    ·rename_i p q k1 k2;obtain⟨e,I⟩:=h;simp only[Prod.mk.injEq] at e;obtain⟨rfl,rfl,rfl⟩:=e;refine (OpTo.neS A.env J g1 g2 g3 (D.ok p q)).mono ?_;rintro v w' ⟨rfl,rfl⟩;exact⟨st,rfl,A.hk,I⟩
    ·exact (VC.zw h).elim
   ·exact (VC.zw h).elim
  ·exact (VC.zw h).elim
 | mnew q c =>
  simp only[actO] at h;split at h
  ·rename_i t J;refine (OpTo.BH (E.mp c).ek (E.mp c).ev A.env A.hp J).mono ?_;rintro v w' ⟨r,rfl,B⟩;exact⟨⟨st.L,(q,.mp c r [])::st.As,st.rd,st.ef,st.pr,st.vw⟩,rfl,⟨B,A.fs.1,A.fs.2,A.fs.3,A.fs.4⟩,h r⟩
  ·exact (VC.zw h).elim
 | mget q c kt hk z =>
  simp only[actO] at h;split at h
  ·rename_i c' r m hq;split at h
   ·rename_i m' hm;split at h
    ·rename_i mt x y two J;split at h
     ·rename_i a6 vt vx vy g1 g2 g3;split at h
      ·rename_i ti k k1 k2;split at h
       ·rename_i zv kz;obtain⟨W,rfl⟩:=ln hm;subst W;obtain⟨e,g,hg,I⟩:=h;simp only[Prod.mk.injEq] at e;obtain⟨rfl,rfl,rfl,rfl,_⟩:=e;obtain⟨j,hj⟩:=A.hp.mem (mL F (uH hq));cases two with
        | true =>
         refine (OpTo.Aw j A.env A.hp hj hk hg J g1 k1 kz g2 g3).mono ?_;rintro v w' ⟨rfl,rfl⟩;exact⟨st,rfl,A.hk,I⟩
        | false =>
         refine (OpTo.BG j A.env A.hp hj hk hg J g1 k1 kz g2 g3).mono ?_;rintro v w' ⟨rfl,rfl⟩;exact⟨st,rfl,A.hk,I⟩
       ·exact (VC.zw h).elim
      ·exact (VC.zw h).elim
     ·exact (VC.zw h).elim
    ·exact (VC.zw h).elim
   ·exact (VC.zw h).elim
  ·exact (VC.zw h).elim
 | mput q c kt hk =>
  simp only[actO] at h;split at h
  ·rename_i c' r m rest mt x y z h1 h2;split at h
   ·rename_i m' a6 vt vx vy vz hm g1 g2 g3 g4;split at h
    ·rename_i k v k1 k2;obtain⟨W,rfl⟩:=ln hm;subst W;obtain⟨e,I⟩:=h;simp only[Prod.mk.injEq] at e;obtain⟨rfl,rfl,rfl,rfl,_⟩:=e;have H:St w0 (MpA r (E.mp c').ek (E.mp c').ev m::(dens rest++F)) w:=A.hp.perm ((ux h1).append_right F);refine (OpTo.putU (OpTo.BI A.env H hk h2 g1 g2 g3 g4) h2).mono ?_;rintro v' w' ⟨rfl,B⟩;exact⟨⟨st.L,(q,.mp c' r (mPut (E.mp c').eq k v m))::rest,st.rd,st.ef,st.pr,st.vw⟩,rfl,⟨B,A.fs.1,A.fs.2,A.fs.3,A.fs.4⟩,I⟩
    ·exact (VC.zw h).elim
   ·exact (VC.zw h).elim
  ·exact (VC.zw h).elim
 | mdel q c kt hk =>
  simp only[actO] at h;split at h
  ·rename_i c' r m rest x y mt ts h1 h2;split at h
   ·rename_i m' a6 vt vx vy hm g1 g2 g3;split at h
    ·rename_i k k1;obtain⟨W,rfl⟩:=ln hm;subst W;obtain⟨e,I⟩:=h;simp only[Prod.mk.injEq] at e;obtain⟨rfl,rfl,rfl,_⟩:=e;have H:St w0 (MpA r (E.mp c').ek (E.mp c').ev m::(dens rest++F)) w:=A.hp.perm ((ux h1).append_right F);refine (OpTo.BF A.env H hk (oP h2) (by simp) g1 g2 g3).mono ?_;rintro v' w' ⟨rfl,B⟩;exact⟨⟨st.L,(q,.mp c' r (mDel (E.mp c').eq k m))::rest,st.rd,st.ef,st.pr,st.vw⟩,rfl,⟨B,A.fs.1,A.fs.2,A.fs.3,A.fs.4⟩,I⟩
    ·exact (VC.zw h).elim
   ·exact (VC.zw h).elim
  ·exact (VC.zw h).elim
 | new q l =>
  simp only[actO] at h;split at h
  ·rename_i d4 obs eqs h1 h2;have h3:=h w.heap.size;dsimp only at h3;split at h3
   ·rename_i cs T v c2 h4;obtain⟨I,h6,U⟩:=h3;subst I;simp only[Bool.and_eq_true,Bool.not_eq_true'] at h1;refine OpTo.of_run (w':={ w with heap:=w.heap.push (.cells cs T (0,0)) }) (v:=v) ?_ ⟨⟨st.L,(q,.blk w.heap.size T cs.toList)::st.As,st.rd,st.ef,st.pr,st.vw⟩,rfl,⟨?_,A.fs.1,A.fs.2,A.fs.3,A.fs.4⟩,U⟩
    ·rw[lv A.env h1.1 h1.2];exact rW P w _ _ _ _ _ h4 (tH A h2 (mM h6))
    ·have:=A.hp.alloc (.cells cs T (0,0));simpa[dens,Atom.den] using this
   ·exact (VC.zw h3).elim
  ·exact (VC.zw h).elim
 | sto q =>
  simp only[actO] at h;split at h
  ·rename_i t x y b' T cs rest h1 h2;split at h
   ·rename_i b off v ti hx hy hi;split at h
    ·rename_i S Y e3;obtain⟨rfl,U⟩:=h;have H:St w0 (Blk b T cs::(dens rest++F)) w:=A.hp.perm ((ux h2).append_right F);refine (OpTo.AJ A.env H h1 hx hy hi (Nat.eq_of_beq_eq_true S) Y (Nat.le_of_ble_eq_true e3)).mono ?_;rintro _ w' ⟨rfl,B⟩;exact⟨⟨st.L,(q,.blk b T (putAt cs off v.cells.toList))::rest,st.rd,st.ef,st.pr,st.vw⟩,rfl,⟨B,A.fs.1,A.fs.2,A.fs.3,A.fs.4⟩,U⟩
    ·exact (VC.zw h).elim
   ·exact (VC.zw h).elim
  ·exact (VC.zw h).elim
 | call C l out =>
  simp only[actO] at h;split at h
  ·rename_i x xs ats rest h1 h2;split at h
   ·rename_i g cs vs ps rds S Y e3;split at h
    ·rename_i i hi;obtain⟨e4,t,ht,I⟩:=h;simp only[Prod.mk.injEq] at e4;obtain⟨e5,rfl,rfl,rfl⟩:=e4;have fn:∀ {Rv:Value->World->Prop},xw P C.C.fid (C.C.args i).toArray w Rv->OpTo P o a w Rv:=by
      intro Rv hc;rw[<- e5] at hc;unfold j0 at S;split at S
      ·simp only[Option.some.injEq,Prod.mk.injEq] at S;obtain⟨e6,rfl⟩:=S;subst e6;rw[aN] at hc;exact OpTo.fn A.env h1 Y C.ent hc
      ·split at S
       ·rename_i hx;simp only[Option.some.injEq,Prod.mk.injEq] at S;obtain⟨e6,rfl⟩:=S;subst e6;exact OpTo.fv A.env h1 hx Y C.ent hc
       ·cases S
     have H:St w0 ((C.C.ats i).map Atom.den++(dens rest++F)) w:=by
      have:=A.hp.perm ((pT h2).append_right F)
      rwa [aA] at this
     refine fn ((C.snd i t ht w0 w (dens rest++F) (ss A.fs.rd e3) H).mono ?_);rintro v w' ⟨ns,aS,hn,ha,rfl,B,b5⟩;rw[<- hn] at I;have h6:=p6 _ _ I;rw[<- ha] at h6;have U:=p5 _ _ h6;have fin:∀ (v:Value) (l:List (Atom E)) (out:List Nat),St w0 (l.map Atom.den++(dens rest++F)) w'->(outK out l fun new=>K v ⟨st.L,new++rest,st.rd,st.ef,fxP (C.C.fx i t) st.pr,vwO (C.C.opt i t) st.vw⟩).ok Φ -> ∃ O,O.L=st.L/\HpOk w0 F O w'/\(K v O).ok Φ:=by
      intro v l out Hl hk;obtain⟨new,hz,h8⟩:=ab hk;refine⟨⟨st.L,new++rest,st.rd,st.ef,fxP (C.C.fx i t) st.pr,vwO (C.C.opt i t) st.vw⟩,rfl,⟨?_,A.fs.1,A.fs.2,cj A.fs.3 b5,AP A.fs.4⟩,h8⟩;simp only[dens,List.map_append,hz,aA];exact Hl
     unfold Con.valA;unfold Con.jL at B;split at U
     ·rename_i hb;rw[hb] at B;try rw[hb]
      exact fin _ _ _ B U
     ·rename_i hb;rw[hb] at B;try rw[hb]
      cases J:C.C.om i t with
      | none =>
       rw[J] at B;exact fin _ _ _ B (U.1 () (by rw[J];rfl))
      | some m =>
       rw[J] at B;exact fin _ _ _ B (U.2 m (by rw[J];rfl))
    ·exact (VC.zw h).elim
   ·exact (VC.zw h).elim
  ·exact (VC.zw h).elim
end
end
noncomputable section
section
variable {E:Ev} {P:Program}
theorem HpOk.kn {n:Nat}{w0 w:World}{F:List HP}{st:Kn E}{a:Act}{L:Env}(h:HpOk w0 F st w)(e:zZ n a L):KnOk n w0 F ⟨L,st.As,st.rd,st.ef,st.pr,st.vw⟩ a w:=⟨e,h.hp,h.fs.1,h.fs.2,h.fs.3,h.fs.4⟩
def idxC {R:Type}(st:Kn E)(c:Nat)(sb:Option Addr)(l:List (E.el c).α)(rdr:Bool)(x:Operand)(e:Nat)(K:Kn E->VC R):VC R :=
 match evO st.L x with
 | some (.int _ i)=>.bind (mIdx l i) fun y=>.frN fun b=>.frN fun o=>K ⟨st.L,st.As,st.rd,(e,⟨rdr,c,sb,l,i,y,b,o⟩)::st.ef,st.pr,st.vw⟩
 | _=>.fail
def idkC {R:Type}(st:Kn E)(c:Nat)(sb:Option Addr)(l:List (E.el c).α)(rdr:Bool)(x:Operand)(e:Nat)(K:Kn E->VC R):VC R :=
 match evO st.L x with
 | some (.int _ i)=>match mIdx l i with
  | some y=>.frN fun b=>.frN fun o=>K ⟨st.L,st.As,st.rd,(e,⟨rdr,c,sb,l,i,y,b,o⟩)::st.ef,st.pr,st.vw⟩
  | none=>.fail
 | _=>.fail
def idkS {R:Type}(st:Kn E)(rdr:Bool)(q:Nat)(x:Operand)(e:Nat)(K:Kn E->VC R):VC R :=
 match rdr with
 | true=>match getK q st.rd with
  | some r=>idkC st r.c r.sb r.l true x e K
  | none=>.fail
 | false=>match getK q st.As with
  | some (.sl c T sb sc l)=>idkC st c sb l false x e K
  | _=>.fail
def idxS {R:Type}(st:Kn E)(rdr:Bool)(q:Nat)(x:Operand)(e:Nat)(K:Kn E->VC R):VC R :=
 match rdr with
 | true=>match getK q st.rd with
  | some r=>idxC st r.c r.sb r.l true x e K
  | none=>.fail
 | false=>match getK q st.As with
  | some (.sl c T sb sc l)=>idxC st c sb l false x e K
  | _=>.fail
def rlN {R:Type}(st:Kn E)(e:Nat)(K:Nat->Nat->VC R):VC R :=
 match getK e st.ef,getK (e+100000) st.ef with
 | some f,some g=>match kc f.c g.l with
  | some l=>.req f.l (mSet l g.i f.x) (K l.length f.l.length)
  | none=>.fail
 | _,_=>.fail
theorem kH {R:Type}{st:Kn E}{e:Nat}{K:Nat->Nat->VC R}{Φ:R->Prop}(h:(rlN st e K).ok Φ):∃ n,(K n n).ok Φ:=by
 unfold rlN at h;split at h
 ·split at h
  ·obtain⟨h1,h2⟩:=h;rw[h1,oJ] at h2;exact⟨_,h2⟩
  ·exact (VC.zw h).elim
 ·exact (VC.zw h).elim
def rlcC {R:Type}(st:Kn E)(e q off:Nat)(K:Kn E->VC R):VC R:=rlN st e fun n i=>match oe q st.As with
 | some (.blk b T cs,rest)=>match cs[off]? with
  | some (.slice sb m sc)=>.req m n (K ⟨st.L,(q,.blk b T (cs.set off (.slice sb i sc)))::rest,st.rd,st.ef,st.pr,st.vw⟩)
  | _=>.fail
 | _=>.fail
def rlsC {R:Type}(st:Kn E)(e t:Nat)(K:Kn E->VC R):VC R:=rlN st e fun n i=>match look t st.L with
 | some (.slice sb m sc)=>.req m n (K ⟨(t,.slice sb i sc)::st.L,st.As,st.rd,st.ef,st.pr,st.vw⟩)
 | _=>.fail
def opI (L:Env):Option Operand->Option (Option Int)
 | none=>some none
 | some x=>match evO L x with
  | some (.int _ i)=>some (some i)
  | _=>none
def cutC {R:Type}(st:Kn E)(c:Nat)(sb:Option Addr)(sc:Nat)(l:List (E.el c).α)(lo hi:Option Int)(K:VwV E->VC R):VC R :=
 .bind (mCut l (loI lo) (hiI l.length hi)) fun r=>.frA fun sb'=>.frN fun sc'=>K ⟨c,sb,sc,l,lo,hi,sb',sc',r⟩
def cutS {R:Type}(st:Kn E)(rdr:Bool)(q:Nat)(lo hi:Option Operand)(v:Nat)(K:Kn E->VC R):VC R :=
 match opI st.L lo,opI st.L hi with
 | some lo,some hi=>match rdr with
  | true=>match getK q st.rd with
   | some r=>cutC st r.c r.sb r.sc r.l lo hi fun u=>K ⟨st.L,st.As,(v,⟨u.c,u.sb',u.sc',u.r⟩)::st.rd,st.ef,st.pr,(v,.cut u)::st.vw⟩
   | none=>.fail
  | false=>match getK q st.As with
   | some (.sl c T sb sc l)=>cutC st c sb sc l lo hi fun u=>K ⟨st.L,st.As,st.rd,st.ef,st.pr,(v,.cut u)::st.vw⟩
   | _=>.fail
 | _,_=>.fail
def ownS {R:Type}(st:Kn E)(v q:Nat)(K:Kn E->VC R):VC R :=
 match getK v st.vw,oe q st.As with
 | some (.cut u),some (.sl c T sb sc l,rest)=>.req (Atom.sl (E:=E) c T sb sc l) (.sl u.c T u.sb u.sc u.l) (K ⟨st.L,(q,.sl u.c T u.sb' u.sc' u.r)::rest,st.rd,st.ef,st.pr,st.vw⟩)
 | _,_=>.fail
def ai {R:Type}(st:Kn E)(q m:Nat)(K:Kn E->VC R):VC R :=
 match getK q st.As with
 | some (.sl c T sb sc l)=>.bind (sa l.length m) fun _=>K ⟨st.L,st.As,st.rd,st.ef,(79,l.length=m)::st.pr,st.vw⟩
 | _=>.fail
def rlpS {R:Type}(st:Kn E)(t q:Nat)(K:Kn E->VC R):VC R :=
 match getK q st.As,getK 78 st.pr,look t st.L with
 | some (.sl c T sb sc l),some p,some (.slice sb' n sc')=>.req p (l.length=n) (K ⟨(t,.slice sb' l.length sc')::st.L,st.As,st.rd,st.ef,st.pr,st.vw⟩)
 | _,_,_=>.fail
def rlqS {R:Type}(st:Kn E)(b off q:Nat)(K:Kn E->VC R):VC R :=
 match getK q st.As,getK 78 st.pr,oe b st.As with
 | some (.sl c T sb sc l),some p,some (.blk r T' cs,rest)=>match cs[off]? with
  | some (.slice sb' n sc')=>.req p (l.length=n) (K ⟨st.L,(b,.blk r T' (cs.set off (.slice sb' l.length sc')))::rest,st.rd,st.ef,st.pr,st.vw⟩)
  | _=>.fail
 | _,_,_=>.fail
def pixS {R:Type}(st:Kn E)(q off n c:Nat)(x:Operand)(e:Nat)(K:Kn E->VC R):VC R :=
 match getK q st.As,evO st.L x with
 | some (.blk b T cs),some (.int _ i)=>match fQ (E.el c) n (cs.drop off) with
  | some xs=>.bind (mIdx xs i) fun y=>K ⟨st.L,st.As,st.rd,(e,⟨false,c,some ⟨b,off,none⟩,xs,i,y,b,off⟩)::st.ef,(e,0<=i/\i<((xs.length:Nat):Int))::st.pr,st.vw⟩
  | none=>.fail
 | _,_=>.fail
theorem gH {R:Type}{u:Nat}{w0 w:World}{F:List HP}{st:Kn E}{a:Act}{Φ:R->Prop}{q off n c:Nat}{x:Operand}{e:Nat}{K:Kn E->VC R}(j:KnOk u w0 F st a w)(h:(pixS st q off n c x e K).ok Φ):∃ l,KnOk u w0 F l a w/\(K l).ok Φ:=by
 unfold pixS at h;split at h
 ·rename_i b T cs k i h1 h2;split at h
  ·rename_i xs z;obtain⟨y,t,h3⟩:=h;refine⟨⟨st.L,st.As,st.rd,(e,⟨false,c,some ⟨b,off,none⟩,xs,i,y,b,off⟩)::st.ef,(e,0<=i/\i<((xs.length:Nat):Int))::st.pr,st.vw⟩,⟨j.env,j.hp,j.fs.1,?_,?_,j.fs.4⟩,h3⟩
   ·intro p hp;cases hp with
    | head=>exact⟨rfl,t,fun h=>by cases h⟩
    | tail _ hm=>exact j.fs.2 p hm
   ·intro p hp;cases hp with
    | head=>exact jA t
    | tail _ hm=>exact j.fs.3 p hm
  ·exact (VC.zw h).elim
 ·exact (VC.zw h).elim
def elS {R:Type}(st:Kn E)(t e:Nat)(K:Kn E->VC R):VC R :=
 match getK e st.ef,look t st.L with
 | some f,some V=>.req V (.pointer (some ⟨f.b,f.o+f.i.toNat*(E.el f.c).sz,none⟩)) (K ⟨(t,elemV f.sb (E.el f.c).sz (some f.i))::st.L,st.As,st.rd,(99999,f)::st.ef,st.pr,st.vw⟩)
 | _,_=>.fail
def ghost {R:Type}(st:Kn E)(s:Stp E P)(K:Kn E->VC R):VC R :=
 match s with
 | .idx rdr q x e=>idxS st rdr q x e K
 | .gd k x j=>match evO st.L x with
  | some (.int _ v)=>match k with
   | 0=>.bind (mNz v) fun _=>K ⟨st.L,st.As,st.rd,st.ef,(j,v≠0)::st.pr,st.vw⟩
   | 1=>.bind (mNn v) fun _=>K ⟨st.L,st.As,st.rd,st.ef,(j,0<=v)::st.pr,st.vw⟩
   | m+2=>.bind (mIn v m) fun _=>K ⟨st.L,st.As,st.rd,st.ef,(j,0<=v/\v<((m:Nat):Int))::st.pr,st.vw⟩
  | _=>.fail
 | .idk rdr q x e=>idkS st rdr q x e K
 | .nil q c T=>K ⟨st.L,(q,.sl c T none 0 [])::st.As,st.rd,st.ef,st.pr,st.vw⟩
 | .rlc e q off=>rlcC st e q off K
 | .rls e t=>rlsC st e t K
 | .cut rdr q lo hi v=>cutS st rdr q lo hi v K
 | .own v q=>ownS st v q K
 | .el t e=>elS st t e K
 | .same q m=>ai st q m K
 | .rlp t q=>rlpS st t q K
 | .rlq b off q=>rlqS st b off q K
 | .pix q off n c x e=>pixS st q off n c x e K
 | _=>.fail
def dK (n:Nat):Option Tmp->Bool
 | none=>true
 | some d=>Nat.blt d n
def putE (d:Option Tmp)(v:Value)(L:Env):Env:=match d with
 | none=>L
 | some d=>(d,v)::L
def aq {R:Type}(n:Nat)(ops:Array Oper)(i:Nat)(st:Kn E)(s:Stp E P)(K:Nat->Kn E->VC R):VC R :=
 match s with
 | .seg c l=>match Nat.ble (i+c) ops.size,srcs st l with
  | true,some (z,obs,eqs)=>match qB P n ops (List.range' i c) st.L z with
   | some (L',y)=>.req y obs (.req (eqs.map (·.1)) (eqs.map (·.2)) (K (i+c) ⟨L',st.As,st.rd,st.ef,st.pr,st.vw⟩))
   | none=>.fail
  | _,_=>.fail
 | .idx rdr q x e=>ghost (P:=P) st (.idx rdr q x e) fun u=>K i u
 | .gd k x j=>ghost (P:=P) st (.gd k x j) fun u=>K i u
 | .idk rdr q x e=>ghost (P:=P) st (.idk rdr q x e) fun u=>K i u
 | .nil q c T=>ghost (P:=P) st (.nil q c T) fun u=>K i u
 | .rlc e q off=>ghost (P:=P) st (.rlc e q off) fun u=>K i u
 | .rls e t=>ghost (P:=P) st (.rls e t) fun u=>K i u
 | .cut rdr q lo hi v=>ghost (P:=P) st (.cut rdr q lo hi v) fun u=>K i u
 | .own v q=>ghost (P:=P) st (.own v q) fun u=>K i u
 | .el t e=>ghost (P:=P) st (.el t e) fun u=>K i u
 | .same q m=>ghost (P:=P) st (.same q m) fun u=>K i u
 | .rlp t q=>ghost (P:=P) st (.rlp t q) fun u=>K i u
 | .rlq b off q=>ghost (P:=P) st (.rlq b off q) fun u=>K i u
 | .pix q off m c x e=>ghost (P:=P) st (.pix q off m c x e) fun u=>K i u
 | s=>match ops[i]? with
  | none=>.fail
  | some o=>match uw ops st.L o with
   | some true=>match dK n o.dst with
    | true=>actO o st s fun v u=>K (i+1) ⟨putE o.dst v st.L,u.As,u.rd,u.ef,u.pr,u.vw⟩
    | false=>.fail
   | _=>.fail
theorem mV {R:Type}{n:Nat}{w0 w:World}{F:List HP}{st:Kn E}{a:Act}{Φ:R->Prop}{c:Nat}{sb:Option Addr}{l:List (E.el c).α}{rdr:Bool}{x:Operand}{e:Nat}{K:Kn E->VC R}{X:HP}(t:KnOk n w0 F st a w)
  (hX:SlRd X (E.el c).enc (E.el c).sz sb l) (hm:X∈dens st.As++F) (hr:rdr=true->X∈F) (h:(idxC st c sb l rdr x e K).ok Φ):∃ u,KnOk n w0 F u a w/\(K u).ok Φ:=by
 unfold idxC at h;split at h
 ·rename_i k i A;obtain⟨y,z,h1⟩:=h;obtain⟨j,hj⟩:=t.hp.mem hm;obtain⟨b,o,hs,_⟩:=hX.base (E.el c).ok t.hp j hj z;refine⟨⟨st.L,st.As,st.rd,(e,⟨rdr,c,sb,l,i,y,b,o⟩)::st.ef,st.pr,st.vw⟩,⟨t.env,t.hp,t.fs.1,?_,t.fs.3,t.fs.4⟩,h1 b o⟩;intro p hp;cases hp with
  | head=>exact⟨hs,z,fun h=>⟨X,hr h,hX⟩⟩
  | tail _ hm=>exact t.fs.2 p hm
 ·exact (VC.zw h).elim
theorem gr {R:Type}{n:Nat}{w0 w:World}{F:List HP}{st:Kn E}{a:Act}{Φ:R->Prop}{rdr:Bool}{q:Nat}{x:Operand}{e:Nat}{K:Kn E->VC R}(t:KnOk n w0 F st a w)
  (h:(idxS st rdr q x e K).ok Φ):∃ i,KnOk n w0 F i a w/\(K i).ok Φ:=by
 unfold idxS at h;split at h
 ·split at h
  ·rename_i r hr;obtain⟨j,hj⟩:=xT hr;obtain⟨X,hX,h1,_⟩:=t.fs.1 _ hj;exact mV t h1 (List.mem_append_right _ hX) (fun _=>hX) h
  ·exact (VC.zw h).elim
 ·split at h
  ·rename_i c T sb sc l hq;exact mV t (wZ T (E.el c).enc (E.el c).sz sb sc l) (mL F (uH hq)) (fun h=>by cases h) h
  ·exact (VC.zw h).elim
theorem mU {R:Type}{n:Nat}{w0 w:World}{F:List HP}{st:Kn E}{a:Act}{Φ:R->Prop}{c:Nat}{sb:Option Addr}{l:List (E.el c).α}{rdr:Bool}{x:Operand}{e:Nat}{K:Kn E->VC R}{X:HP}(t:KnOk n w0 F st a w)
  (hX:SlRd X (E.el c).enc (E.el c).sz sb l) (hm:X∈dens st.As++F) (hr:rdr=true->X∈F) (h:(idkC st c sb l rdr x e K).ok Φ):∃ u,KnOk n w0 F u a w/\(K u).ok Φ:=by
 unfold idkC at h;split at h
 ·rename_i k i A;split at h
  ·rename_i y z;obtain⟨j,hj⟩:=t.hp.mem hm;obtain⟨b,o,hs,_⟩:=hX.base (E.el c).ok t.hp j hj z;refine⟨⟨st.L,st.As,st.rd,(e,⟨rdr,c,sb,l,i,y,b,o⟩)::st.ef,st.pr,st.vw⟩,⟨t.env,t.hp,t.fs.1,?_,t.fs.3,t.fs.4⟩,h b o⟩;intro p hp;cases hp with
   | head=>exact⟨hs,z,fun h=>⟨X,hr h,hX⟩⟩
   | tail _ hm=>exact t.fs.2 p hm
  ·exact (VC.zw h).elim
 ·exact (VC.zw h).elim
theorem gq {R:Type}{n:Nat}{w0 w:World}{F:List HP}{st:Kn E}{a:Act}{Φ:R->Prop}{rdr:Bool}{q:Nat}{x:Operand}{e:Nat}{K:Kn E->VC R}(t:KnOk n w0 F st a w)
  (h:(idkS st rdr q x e K).ok Φ):∃ i,KnOk n w0 F i a w/\(K i).ok Φ:=by
 unfold idkS at h;split at h
 ·split at h
  ·rename_i r hr;obtain⟨j,hj⟩:=xT hr;obtain⟨X,hX,h1,_⟩:=t.fs.1 _ hj;exact mU t h1 (List.mem_append_right _ hX) (fun _=>hX) h
  ·exact (VC.zw h).elim
 ·split at h
  ·rename_i c T sb sc l hq;exact mU t (wZ T (E.el c).enc (E.el c).sz sb sc l) (mL F (uH hq)) (fun h=>by cases h) h
  ·exact (VC.zw h).elim
theorem gK {R:Type}{n:Nat}{w0 w:World}{F:List HP}{st:Kn E}{a:Act}{Φ:R->Prop}{e q off:Nat}{K:Kn E->VC R}(i:KnOk n w0 F st a w)(h:(rlcC st e q off K).ok Φ):∃ l,KnOk n w0 F l a w/\(K l).ok Φ:=by
 obtain⟨m,h⟩:=kH h;split at h
 ·rename_i b T cs rest hq;split at h
  ·rename_i sb x sc u;obtain⟨rfl,h2⟩:=h;have t:cs.set off (.slice sb x sc)=cs:=by
    apply List.ext_getElem?;intro j;rw[List.getElem?_set];split
    ·subst_vars
     split
     ·exact u.symm
     ·rename_i h3;simp only[List.getElem?_eq_none (Nat.le_of_not_lt h3)]
    ·rfl
   rw[t] at h2;refine⟨⟨st.L,(q,.blk b T cs)::rest,st.rd,st.ef,st.pr,st.vw⟩,⟨i.env,?_,i.fs.1,i.fs.2,i.fs.3,i.fs.4⟩,h2⟩;exact i.hp.perm ((ux hq).append_right F)
  ·exact (VC.zw h).elim
 ·exact (VC.zw h).elim
theorem gQ {R:Type}{n:Nat}{w0 w:World}{F:List HP}{st:Kn E}{a:Act}{Φ:R->Prop}{e t:Nat}{K:Kn E->VC R}(i:KnOk n w0 F st a w)(h:(rlsC st e t K).ok Φ):∃ j,KnOk n w0 F j a w/\(K j).ok Φ:=by
 obtain⟨m,h⟩:=kH h;split at h
 ·rename_i sb x sc l;obtain⟨rfl,h2⟩:=h;refine⟨⟨(t,.slice sb x sc)::st.L,st.As,st.rd,st.ef,st.pr,st.vw⟩,⟨⟨i.env.size,i.env.defers,fun u v hv=>?_⟩,i.hp,i.fs.1,i.fs.2,i.fs.3,i.fs.4⟩,h2⟩;rw[wR] at hv;split at hv
  ·subst_vars;cases hv;exact i.env.has _ _ l
  ·exact i.env.has _ _ hv
 ·exact (VC.zw h).elim
theorem mH {R:Type}{st:Kn E}{c:Nat}{sb:Option Addr}{sc:Nat}{l:List (E.el c).α}{lo hi:Option Int}{K:VwV E->VC R}{Φ:R->Prop}(e:l.length<=sc)(h:(cutC st c sb sc l lo hi K).ok Φ) :
  ∃ u:VwV E,u.holds/\(∀ X,SlRd X (E.el c).enc (E.el c).sz sb l->SlRd X (E.el u.c).enc (E.el u.c).sz u.sb' u.r)/\u.r.length<=u.sc'/\(K u).ok Φ:=by
 obtain⟨r,hr,h⟩:=h;have h2:=h (yt sb sc (loI lo).toNat (E.el c).sz) (sc - (loI lo).toNat);exact⟨_,⟨hr,rfl,rfl,e⟩,fun X hX=>hX.cut' (E.el c).ok hr e rfl,dE hr e rfl,h2⟩
theorem gi {R:Type}{n:Nat}{w0 w:World}{F:List HP}{st:Kn E}{a:Act}{Φ:R->Prop}{rdr:Bool}{q:Nat}{lo hi:Option Operand}{v:Nat}{K:Kn E->VC R}(e:KnOk n w0 F st a w)(h:(cutS st rdr q lo hi v K).ok Φ):∃ i,KnOk n w0 F i a w/\(K i).ok Φ:=by
 unfold cutS at h;split at h
 ·rename_i B A _ _;split at h
  ·split at h
   ·rename_i r hr;obtain⟨j,hj⟩:=xT hr;obtain⟨X,hX,h1,h2⟩:=e.fs.1 _ hj;obtain⟨s1,s2,hs⟩:=List.append_of_mem (List.mem_append_right (dens st.As) hX);have x:r.l.length<=r.sc:=by
     have y:=e.hp;rw[hs] at y;exact St.fact (y.perm List.perm_middle) h2
    obtain⟨u,h3,h4,z,t⟩:=mH x h;refine⟨⟨st.L,st.As,(v,⟨u.c,u.sb',u.sc',u.r⟩)::st.rd,st.ef,st.pr,(v,.cut u)::st.vw⟩,⟨e.env,e.hp,?_,e.fs.2,e.fs.3,?_⟩,t⟩
    ·intro p hp;cases hp with
     | head=>exact⟨X,hX,h4 X h1,fun _ _=>z⟩
     | tail _ hm=>exact e.fs.1 p hm
    ·intro p hp;cases hp with
     | head=>exact h3
     | tail _ hm=>exact e.fs.4 p hm
   ·exact (VC.zw h).elim
  ·split at h
   ·rename_i c T sb sc l hq;obtain⟨j,hj⟩:=e.hp.mem (mL F (uH hq));have x:l.length<=sc:=(e.hp.ot j hj).1;obtain⟨u,h3,h4,z,t⟩:=mH x h;refine⟨⟨st.L,st.As,st.rd,st.ef,st.pr,(v,.cut u)::st.vw⟩,⟨e.env,e.hp,e.fs.1,e.fs.2,e.fs.3,?_⟩,t⟩;intro p hp;cases hp with
    | head=>exact h3
    | tail _ hm=>exact e.fs.4 p hm
   ·exact (VC.zw h).elim
 ·exact (VC.zw h).elim
theorem gF {R:Type}{n:Nat}{w0 w:World}{F:List HP}{st:Kn E}{a:Act}{Φ:R->Prop}{v q:Nat}{K:Kn E->VC R}(i:KnOk n w0 F st a w)(h:(ownS st v q K).ok Φ):∃ t,KnOk n w0 F t a w/\(K t).ok Φ:=by
 unfold ownS at h;split at h
 ·rename_i u c T sb sc l rest h1 h2;obtain⟨e,h3⟩:=h;obtain⟨j,hj⟩:=xT h1;obtain⟨g1,g2,g3,g4⟩:u.holds:=i.fs.4 _ hj;have H:=i.hp.perm ((ux h2).append_right F);rw[e] at H;have H:St w0 (Sl T (E.el u.c).enc (E.el u.c).sz u.sb u.sc u.l::(dens rest++F)) w:=H;exact⟨⟨st.L,(q,.sl u.c T u.sb' u.sc' u.r)::rest,st.rd,st.ef,st.pr,st.vw⟩,⟨i.env,H.dc (E.el u.c).ok g1 g2 g3,i.fs.1,i.fs.2,i.fs.3,i.fs.4⟩,h3⟩
 ·exact (VC.zw h).elim
theorem fV {R:Type}{n:Nat}{w0 w:World}{F:List HP}{st:Kn E}{a:Act}{Φ:R->Prop}{t e:Nat}{K:Kn E->VC R}(l:KnOk n w0 F st a w)(h:(elS st t e K).ok Φ):∃ x,KnOk n w0 F x a w/\(K x).ok Φ:=by
 unfold elS at h;split at h
 ·rename_i f V h1 h2;obtain⟨rfl,h3⟩:=h;obtain⟨j,hj⟩:=xT h1;have hf:=l.fs.2 _ hj;refine⟨⟨(t,elemV f.sb (E.el f.c).sz (some f.i))::st.L,st.As,st.rd,(99999,f)::st.ef,st.pr,st.vw⟩,⟨⟨l.env.size,l.env.defers,fun u v hv=>?_⟩,l.hp,l.fs.1,?_,l.fs.3,l.fs.4⟩,h3⟩
  ·rw[wR] at hv;split at hv
   ·subst_vars
    cases hv;rw[mI hf.1];exact l.env.has _ _ h2
   ·exact l.env.has _ _ hv
  ·intro p hp;cases hp with
   | head=>exact hf
   | tail _ hm=>exact l.fs.2 p hm
 ·exact (VC.zw h).elim
theorem jO {R:Type}{n:Nat}{w0 w:World}{F:List HP}{st:Kn E}{a:Act}{Φ:R->Prop}{q m:Nat}{K:Kn E->VC R}(e:KnOk n w0 F st a w)(h:(ai st q m K).ok Φ):∃ i,KnOk n w0 F i a w/\(K i).ok Φ:=by
 unfold ai at h;split at h
 ·rename_i c T sb sc l hq;obtain⟨u,hu,h2⟩:=h;refine⟨⟨st.L,st.As,st.rd,st.ef,(79,l.length=m)::st.pr,st.vw⟩,⟨e.env,e.hp,e.fs.1,e.fs.2,fun p hp=>?_,e.fs.4⟩,h2⟩;cases hp with
  | head=>exact eU hu
  | tail _ hm=>exact e.fs.3 p hm
 ·exact (VC.zw h).elim
theorem gM {R:Type}{n:Nat}{w0 w:World}{F:List HP}{st:Kn E}{a:Act}{Φ:R->Prop}{t q:Nat}{K:Kn E->VC R}(i:KnOk n w0 F st a w)(h:(rlpS st t q K).ok Φ):∃ x,KnOk n w0 F x a w/\(K x).ok Φ:=by
 unfold rlpS at h;split at h
 ·rename_i c T sb sc l p sb' m sc' h1 h2 h3;obtain⟨e,h4⟩:=h;obtain⟨j,hj⟩:=xT h2;have hp:p:=i.fs.3 _ hj;rw[e] at hp;refine⟨⟨(t,.slice sb' l.length sc')::st.L,st.As,st.rd,st.ef,st.pr,st.vw⟩,⟨⟨i.env.size,i.env.defers,fun u v hv=>?_⟩,i.hp,i.fs.1,i.fs.2,i.fs.3,i.fs.4⟩,h4⟩;rw[wR] at hv;split at hv
  ·subst_vars;cases hv;exact i.env.has _ _ h3
  ·exact i.env.has _ _ hv
 ·exact (VC.zw h).elim
theorem gN {R:Type}{n:Nat}{w0 w:World}{F:List HP}{st:Kn E}{a:Act}{Φ:R->Prop}{b off q:Nat}{K:Kn E->VC R}(t:KnOk n w0 F st a w)(h:(rlqS st b off q K).ok Φ):∃ u,KnOk n w0 F u a w/\(K u).ok Φ:=by
 unfold rlqS at h;split at h
 ·rename_i c T sb sc l p r T' cs rest h1 h2 h3;split at h
  ·rename_i sb' m sc' z;obtain⟨e,h4⟩:=h;obtain⟨j,hj⟩:=xT h2;have hp:p:=t.fs.3 _ hj;rw[e] at hp;have x:cs.set off (.slice sb' l.length sc')=cs:=by
    apply List.ext_getElem?;intro i;rw[List.getElem?_set];split
    ·subst_vars
     split
     ·exact z.symm
     ·rename_i y;rw[List.getElem?_eq_none (Nat.le_of_not_lt y)]
    ·rfl
   rw[x] at h4;exact⟨⟨st.L,(b,.blk r T' cs)::rest,st.rd,st.ef,st.pr,st.vw⟩,⟨t.env,t.hp.perm ((ux h3).append_right F),t.fs.1,t.fs.2,t.fs.3,t.fs.4⟩,h4⟩
  ·exact (VC.zw h).elim
 ·exact (VC.zw h).elim
theorem xk {R:Type}{n:Nat}{w0 w:World}{F:List HP}{st:Kn E}{a:Act}{Φ:R->Prop}{s:Stp E P}{K:Kn E->VC R}(i:KnOk n w0 F st a w)
  (h:(ghost st s K).ok Φ):∃ l,KnOk n w0 F l a w/\(K l).ok Φ:=by
 cases s
 case idx rdr q x e=>exact gr i h
 case idk rdr q x e=>exact gq i h
 case rlc e q off=>exact gK i h
 case rls e t=>exact gQ i h
 case cut rdr q lo hi v=>exact gi i h
 case own v q=>exact gF i h
 case el t e=>exact fV i h
 case same q m=>exact jO i h
 case rlp t q=>exact gM i h
 case rlq b off q=>exact gN i h
 case pix q off m c x e=>exact gH i h
 case nil q c T=>exact⟨⟨st.L,(q,.sl c T none 0 [])::st.As,st.rd,st.ef,st.pr,st.vw⟩,⟨i.env,St.ak T (E.el c).enc (E.el c).sz i.hp,i.fs.1,i.fs.2,i.fs.3,i.fs.4⟩,h⟩
 case gd k x j =>
  simp only[ghost] at h;split at h
  ·rename_i y v hv;split at h
   ·obtain⟨u,hu,h2⟩:=h;refine⟨⟨st.L,st.As,st.rd,st.ef,(j,v≠0)::st.pr,st.vw⟩,⟨i.env,i.hp,i.fs.1,i.fs.2,fun p hp=>?_,i.fs.4⟩,h2⟩;cases hp with
    | head=>exact aa hu
    | tail _ hm=>exact i.fs.3 p hm
   ·obtain⟨u,hu,h2⟩:=h;refine⟨⟨st.L,st.As,st.rd,st.ef,(j,0<=v)::st.pr,st.vw⟩,⟨i.env,i.hp,i.fs.1,i.fs.2,fun p hp=>?_,i.fs.4⟩,h2⟩;cases hp with
    | head=>exact bX hu
    | tail _ hm=>exact i.fs.3 p hm
   ·rename_i m;obtain⟨u,hu,h2⟩:=h;refine⟨⟨st.L,st.As,st.rd,st.ef,(j,0<=v/\v<((m:Nat):Int))::st.pr,st.vw⟩,⟨i.env,i.hp,i.fs.1,i.fs.2,fun p hp=>?_,i.fs.4⟩,h2⟩;cases hp with
    | head=>exact lz hu
    | tail _ hm=>exact i.fs.3 p hm
  ·exact (VC.zw h).elim
 all_goals exact (VC.zw h).elim
theorem jT {R:Type}{f:FuncId}{n:Nat}{w0 w:World}{F:List HP}{st:Kn E}{a:Act}{Φ:R->Prop}{ops:Array Oper}{i:Nat}{s:Stp E P}{K:Nat->Kn E->VC R}{k:List Item}{Q:Value->World->Prop}
  (y:KnOk n w0 F st a w) (h:(aq n ops i st s K).ok Φ) (hk:∀ U u A w',KnOk n w0 F u A w'->(K U u).ok Φ -> WR P f ops U k A w' Q):WR P f ops i k a w Q:=by
 have act:∀ s:Stp E P,((match ops[i]? with
  | none=>.fail
  | some o=>match uw ops st.L o with
   | some true=>match dK n o.dst with
    | true=>actO o st s fun v u=>K (i+1) ⟨putE o.dst v st.L,u.As,u.rd,u.ef,u.pr,u.vw⟩
    | false=>.fail
   | _=>.fail:VC R)).ok Φ -> WR P f ops i k a w Q:=by
  intro s h;split at h
  ·exact (VC.zw h).elim
  ·rename_i o S;split at h
   ·rename_i hw;split at h
    ·rename_i hn;have O:=my y h;cases hd:o.dst with
     | none =>
      refine WR.eff0 y.env S hd hw O ?_;rintro v w' ⟨u,Z,I,h2⟩ A B;rw[hd] at h2;exact hk _ _ _ _ (I.kn B) h2
     | some d =>
      rw[hd] at hn;refine WR.eff y.env S hd hn hw O ?_;rintro v w' ⟨u,Z,I,h2⟩ A B;rw[hd] at h2;exact hk _ _ _ _ (I.kn B) h2
    ·exact (VC.zw h).elim
   ·exact (VC.zw h).elim
 cases s with
 | seg c l =>
  simp only[aq] at h;split at h
  ·rename_i a0 obs eqs h1 h2;split at h
   ·rename_i L' W h3;obtain⟨rfl,h4,Y⟩:=h;have hj:=Nat.le_of_ble_eq_true h1;unfold WR;have hr:List.range' i (ops.size - i)=List.range' i c++List.range' (i+c) (ops.size - (i+c)):=by
     have X:ops.size - i=c+(ops.size - (i+c)):=by omega
     rw[X,<- List.range'_append_1]
    rw[hr];refine oX _ _ _ _ _ _ y.env h3 (tH y h2 (mM h4)) fun A J=>?_
    exact hk _ ⟨L',st.As,st.rd,st.ef,st.pr,st.vw⟩ _ _ ⟨J,y.hp,y.fs.1,y.fs.2,y.fs.3,y.fs.4⟩ Y
   ·exact (VC.zw h).elim
  ·exact (VC.zw h).elim
 | idx rdr q x e =>
  obtain⟨u,h1,h2⟩:=xk (P:=P) (s:=.idx rdr q x e) (K:=fun u=>K i u) y h;exact hk _ _ _ _ h1 h2
 | idk rdr q x e =>
  obtain⟨u,h1,h2⟩:=xk (P:=P) (s:=.idk rdr q x e) (K:=fun u=>K i u) y h;exact hk _ _ _ _ h1 h2
 | nil q c T =>
  obtain⟨u,h1,h2⟩:=xk (P:=P) (s:=.nil q c T) (K:=fun u=>K i u) y h;exact hk _ _ _ _ h1 h2
 | rlc e q off =>
  obtain⟨u,h1,h2⟩:=xk (P:=P) (s:=.rlc e q off) (K:=fun u=>K i u) y h;exact hk _ _ _ _ h1 h2
 | rls e t =>
  obtain⟨u,h1,h2⟩:=xk (P:=P) (s:=.rls e t) (K:=fun u=>K i u) y h;exact hk _ _ _ _ h1 h2
 | cut rdr q lo hi v =>
  obtain⟨u,h1,h2⟩:=xk (P:=P) (s:=.cut rdr q lo hi v) (K:=fun u=>K i u) y h;exact hk _ _ _ _ h1 h2
 | own v q =>
  obtain⟨u,h1,h2⟩:=xk (P:=P) (s:=.own v q) (K:=fun u=>K i u) y h;exact hk _ _ _ _ h1 h2
 | el t e =>
  obtain⟨u,h1,h2⟩:=xk (P:=P) (s:=.el t e) (K:=fun u=>K i u) y h;exact hk _ _ _ _ h1 h2
 | same q m =>
  obtain⟨u,h1,h2⟩:=xk (P:=P) (s:=.same q m) (K:=fun u=>K i u) y h;exact hk _ _ _ _ h1 h2
 | rlp t q =>
  obtain⟨u,h1,h2⟩:=xk (P:=P) (s:=.rlp t q) (K:=fun u=>K i u) y h;exact hk _ _ _ _ h1 h2
 | rlq b off q =>
  obtain⟨u,h1,h2⟩:=xk (P:=P) (s:=.rlq b off q) (K:=fun u=>K i u) y h;exact hk _ _ _ _ h1 h2
 | pix q off m c x e =>
  obtain⟨u,h1,h2⟩:=xk (P:=P) (s:=.pix q off m c x e) (K:=fun u=>K i u) y h;exact hk _ _ _ _ h1 h2
 | gd c x j =>
  obtain⟨u,h1,h2⟩:=xk (P:=P) (s:=.gd c x j) (K:=fun u=>K i u) y h;exact hk _ _ _ _ h1 h2
 | new q l=>exact act _ h
 | sto q=>exact act _ h
 | call C l out=>exact act _ h
 | bld q c T=>exact act _ h
 | app q s=>exact act _ h
 | sset q e j=>exact act _ h
 | mk q c T=>exact act _ h
 | eqs D=>exact act _ h
 | mnew q c=>exact act _ h
 | mget q c kt hk z=>exact act _ h
 | mput q c kt hk=>exact act _ h
 | mdel q c kt hk=>exact act _ h
inductive Md
 | run (t:List Item)
 | reg (ops:Array Oper) (i:Nat) (k:List Item)
 | drw (ops:Array Oper) (dn:List Nat) (pend:List (Nat × List Ob)) (k:List Item)
def Md.Runs (P:Program)(f:FuncId)(base:List Item)(a:Act)(w:World)(Q:Value->World->Prop):Md->Prop
 | .run t=>Th.Runs P f (t++base) a w Q
 | .reg ops i k=>WR P f ops i (k++base) a w Q
 | .drw ops dn pend k=>WQ P f ops dn pend (k++base) a w Q
def norm:Nat->List Item->Option Md
 | 0,_=>none
 | g+1,t=>match t with
  | .code (.seq x y)::k=>norm g (.code x :: .code y::k)
  | .code .skip::k=>norm g k
  | .code (.label _)::k=>norm g k
  | .code (.exit id)::k=>match exitTo id k with
   | some e=>norm g e
   | none=>none
  | .code (.region _ ops false)::k=>match Nat.beq ops.size 0 with
   | true=>norm g k
   | false=>some (.reg ops 0 k)
  | .inBlock _::k=>norm g k
  | t=>some (.run t)
theorem p3 {base:List Item}:∀ {id:Nat}{k e:List Item},exitTo id k=some e->exitTo id (k++base)=some (e++base)
 | id,[],e,h=>by simp[exitTo] at h
 | id,x::k,e,h=>by
  cases x
  case inBlock j =>
   simp only[exitTo,List.cons_append] at h ⊢;split at h
   ·rename_i hj;cases h;rw[if_pos hj]
   ·rename_i hj;rw[if_neg hj];exact p3 h
  all_goals
   simp only[exitTo,List.cons_append] at h ⊢;exact p3 h
theorem yH {f:FuncId}{a:Act}{w:World}{Q:Value->World->Prop}{base:List Item}:∀ (g:Nat) {t:List Item}{md:Md},norm g t=some md->md.Runs P f base a w Q->Th.Runs P f (t++base) a w Q
 | 0,t,md,h,_=>by simp[norm] at h
 | g+1,t,md,h,hr=>by
  unfold norm at h;split at h
  ·exact .seq (yH g h hr)
  ·exact .skip (yH g h hr)
  ·exact .label (yH g h hr)
  ·split at h
   ·rename_i i hk;exact .exit (p3 hk) (yH g h hr)
   ·cases h
  ·split at h
   ·rename_i h0;have e:=Nat.eq_of_beq_eq_true h0;exact .region (WR.done (by rw[e];rfl) (yH g h hr))
   ·cases h;exact .region hr
  ·exact .inBlock (yH g h hr)
  ·cases h;exact hr
def ao {R:Type}(n:Nat)(ops:Array Oper)(dn:List Nat)(pend:List (Nat × List Ob))(st:Kn E)(is:List Nat)(l:List Src)(K:List Nat->List (Nat × List Ob)->Kn E->VC R):VC R :=
 match (Nat.ble (dn.length+is.length) ops.size && lX ops is (vM dn)),srcs st l with
 | true,some (i,obs,eqs)=>match qB P n ops is st.L i with
  | some (L',e)=>.req e obs (.req (eqs.map (·.1)) (eqs.map (·.2)) (K (dn++is) (segP P n ops is st.L i pend) ⟨L',st.As,st.rd,st.ef,st.pr,st.vw⟩))
  | none=>.fail
 | _,_=>.fail
def kM {R:Type}(n:Nat)(ops:Array Oper)(dn:List Nat)(pend:List (Nat × List Ob))(st:Kn E)(j:Nat)(x:Stp E P)(l:List Src)(K:List Nat->List (Nat × List Ob)->Kn E->VC R):VC R :=
 match ops[j]? with
 | some o=>match uw ops st.L o,dK n o.dst with
  | some true,true=>actO o st x fun v e=>match srcs ⟨putE o.dst v st.L,e.As,e.rd,e.ef,e.pr,e.vw⟩ l with
   | some (_,obs,eqs)=>.req (tV ops j pend) obs (.req (eqs.map (·.1)) (eqs.map (·.2)) (K (dn++[j]) (qD ops j pend) ⟨putE o.dst v st.L,e.As,e.rd,e.ef,e.pr,e.vw⟩))
   | none=>.fail
  | _,_=>.fail
 | none=>.fail
def al {R:Type}(n:Nat)(ops:Array Oper)(dn:List Nat)(pend:List (Nat × List Ob))(st:Kn E)(j:Nat)(x:Stp E P)(l:List Src)(K:List Nat->List (Nat × List Ob)->Kn E->VC R):VC R :=
 match (Nat.blt dn.length ops.size && eqL (vr (vM dn) 0 ops.toList) [j]) with
 | true=>kM n ops dn pend st j x l K
 | false=>.fail
theorem jS {R:Type}{f:FuncId}{n:Nat}{w0 w:World}{F:List HP}{st:Kn E}{a:Act}{Φ:R->Prop}{ops:Array Oper}{dn:List Nat}{pend:List (Nat × List Ob)}{is:List Nat}{l:List Src}{K:List Nat->List (Nat × List Ob)->Kn E->VC R}{k:List Item}{Q:Value->World->Prop}
  (j:KnOk n w0 F st a w) (h:(ao (P:=P) n ops dn pend st is l K).ok Φ) (hk:∀ t i u y,KnOk n w0 F u y w->(K t i u).ok Φ -> WQ P f ops t i k y w Q):WQ P f ops dn pend k a w Q:=by
 unfold ao at h;split at h
 ·rename_i D obs eqs h1 h2;split at h
  ·rename_i L' A h3;obtain⟨rfl,h4,B⟩:=h;rw[Bool.and_eq_true] at h1;have hle:=Nat.le_of_ble_eq_true h1.1;have e:ops.size - dn.length=is.length+(ops.size - (dn++is).length):=by simp;omega
   intro hs';show WP P f ops (ops.size - dn.length) dn pend k a w Q;rw[e];exact WP.segs hs' _ _ _ _ _ _ _ _ _ _ j.env (fun x=>vp x dn) h1.2 h3 (tH j h2 (mM h4)) fun y z=>hk _ _ ⟨L',st.As,st.rd,st.ef,st.pr,st.vw⟩ _ ⟨z,j.hp,j.fs.1,j.fs.2,j.fs.3,j.fs.4⟩ B hs'
  ·exact (VC.zw h).elim
 ·exact (VC.zw h).elim
theorem u0 {R:Type}{f:FuncId}{n:Nat}{w0 w:World}{F:List HP}{st:Kn E}{a:Act}{Φ:R->Prop}{ops:Array Oper}{dn:List Nat}{pend:List (Nat × List Ob)}{j:Nat}{x:Stp E P}{l:List Src}{K:List Nat->List (Nat × List Ob)->Kn E->VC R}{k:List Item}{Q:Value->World->Prop}
  (A:KnOk n w0 F st a w) (h:(kM n ops dn pend st j x l K).ok Φ) (hk:∀ y i e t w',KnOk n w0 F e t w'->(K y i e).ok Φ -> WQ P f ops y i k t w' Q):AQ P f ops dn pend k a w Q j:=by
 unfold kM at h;split at h
 ·rename_i o I;split at h
  ·rename_i hw hn;have D:=my A h;have fin:∀ (v:Value) (w':World) (e:Kn E) (t:Act),HpOk w0 F e w'->zZ n t (putE o.dst v st.L)->((match srcs ⟨putE o.dst v st.L,e.As,e.rd,e.ef,e.pr,e.vw⟩ l with
     | some (_,obs,eqs)=>.req (tV ops j pend) obs (.req (eqs.map (·.1)) (eqs.map (·.2)) (K (dn++[j]) (qD ops j pend) ⟨putE o.dst v st.L,e.As,e.rd,e.ef,e.pr,e.vw⟩))
     | none=>.fail:VC R)).ok Φ -> xE w' (tV ops j pend)/\WQ P f ops (dn++[j]) (qD ops j pend) k t w' Q:=by
    intro v w' e t u z h2;split at h2
    ·rename_i U obs eqs h3;obtain⟨h4,J,O⟩:=h2;have B:=u.kn z;rw[h4];exact⟨tH B h3 (mM J),hk _ _ _ _ _ B O⟩
    ·exact (VC.zw h2).elim
   cases hd:o.dst with
   | none =>
    refine AQ.eff0 A.env I hd hw rfl D ?_;rintro v w' ⟨e,S,u,h2⟩;rw[hd] at fin;rw[hd] at h2;exact⟨(fin v w' e a u A.env h2).1,fun t z=>(fin v w' e t u z h2).2⟩
   | some d =>
    rw[hd] at hn;refine AQ.eff A.env I hd hn hw rfl D ?_;rintro v w' ⟨e,S,u,h2⟩;rw[hd] at fin;rw[hd] at h2;exact⟨(fin v w' e (a.put (some d) v) u (A.env.put _ _ (by simpa[dK,Nat.blt_eq] using hn)) h2).1,fun t z=>(fin v w' e t u z h2).2⟩
  ·exact (VC.zw h).elim
 ·exact (VC.zw h).elim
theorem jR {R:Type}{f:FuncId}{n:Nat}{w0 w:World}{F:List HP}{st:Kn E}{a:Act}{Φ:R->Prop}{ops:Array Oper}{dn:List Nat}{pend:List (Nat × List Ob)}{j:Nat}{x:Stp E P}{l:List Src}{K:List Nat->List (Nat × List Ob)->Kn E->VC R}{k:List Item}{Q:Value->World->Prop}
  (z:KnOk n w0 F st a w) (h:(al n ops dn pend st j x l K).ok Φ) (hk:∀ i e t u w',KnOk n w0 F t u w'->(K i e t).ok Φ -> WQ P f ops i e k u w' Q):WQ P f ops dn pend k a w Q:=by
 unfold al at h;split at h
 ·rename_i h1;refine WQ.acts [j] h1 (by simp) fun x y=>?_
  simp only[List.mem_singleton] at y;subst y;exact u0 z h hk
 ·exact (VC.zw h).elim
end
end
noncomputable section
theorem St.bO {w0 w:World}{As:List HP}:∀ {Bs:List HP},St w0 (Bs++As) w->St w0 As w
 | [],H=>H
 | B::Bs,H=>St.bO (Bs:=Bs) (St.drop (by simpa using H))
section
variable {E:Ev} {P:Program}
def lx {α:Type}:List Nat->List (Nat × α)->Option (List α)
 | [],_=>some []
 | k::ks,L=>match getK k L,lx ks L with
  | some x,some r=>some (x::r)
  | _,_=>none
def kys {α:Type}:List (Nat × α)->List Nat
 | []=>[]
 | (k,_)::r=>k::kys r
def reqS {R:Type}(L:Env)(As:List (Nat × Atom E))(st:Kn E)(K:VC R):VC R :=
 match sel (dN L) st.L,ky (kys As) st.As with
 | some L',some (ats,_)=>.req L' L (.req ats (As.map (·.2)) K)
 | _,_=>.fail
theorem uY {R:Type}{n:Nat}{w0 w:World}{F:List HP}{st:Kn E}{a:Act}{Φ:R->Prop}{L:Env}{As:List (Nat × Atom E)}{K:VC R}(e:KnOk n w0 F st a w)(h:(reqS L As st K).ok Φ) :
  zZ n a L/\St w0 (dens As++F) w/\K.ok Φ:=by
 unfold reqS at h;split at h
 ·rename_i L' ats rest h1 h2;obtain⟨rfl,rfl,h3⟩:=h;refine⟨s5 e.env h1,?_,h3⟩;have H:=e.hp.perm ((pT h2).append_right F);rw[aA] at H;have i:=H.perm (show ((As.map (·.2)).map Atom.den++(dens rest++F)).Perm (dens rest++((As.map (·.2)).map Atom.den++F)) by
   rw[<- aA,<- aA];exact List.Perm.append_right F List.perm_append_comm)
  exact i.bO
 ·exact (VC.zw h).elim
structure BCon (E:Ev) (R0:Type):Type 1 where
 code:Code
 X:Type
 V:Type
 T:Type
 W:Type
 cls:W->R0 ⊕ T
 g:X->V->Option W
 rds:X->List (Nat × RdV E)
 pL:X->V->List Nat->List (Option Addr)->Env
 pA:X->V->List Nat->List (Option Addr)->List (Nat × Atom E)
 mN:Nat
 mA:Nat
 qL:X->T->List Nat->List (Option Addr)->Env
 qA:X->T->List Nat->List (Option Addr)->List (Nat × Atom E)
def BCon.Sound {R0:Type}(B:BCon E R0)(P:Program)(f:FuncId)(n:Nat)(retF:Kn E->VC R0):Prop:=∀ (Q:Value->World->Prop) (w0:World) (F:List HP) (x:B.X) (v:B.V) (t:B.W) (z:List Nat) (y:List (Option Addr)) (a:Act) (w:World) (base:List Item),B.g x v=some t ->
 KnOk n w0 F ⟨B.pL x v z y,B.pA x v z y,B.rds x,[],[],[]⟩ a w ->
 (∀ u,B.cls t = .inr u -> ∀ i e j w',i.length=B.mN->e.length=B.mA->zZ n j (B.qL x u i e)->St w0 (dens (B.qA x u i e)++F) w'->Runs P f base j w' Q) ->
 (∀ r,B.cls t = .inl r -> ∀ l j w' A,KnOk n w0 F l j w'->(retF l).ok (· = r)->Runs P f (.code .ret::A) j w' Q) ->
 Runs P f (.code B.code::base) a w Q
structure Bt (E:Ev) (P:Program) (f:FuncId) (n:Nat) (R0:Type) (retF:Kn E->VC R0):Type 1 where
 B:BCon E R0
 snd:B.Sound P f n retF
inductive Ct (E:Ev) (P:Program) (f:FuncId) (n:Nat) (R0:Type) (retF:Kn E->VC R0):Type 1
 | leaf
 | s (x:Stp E P) (k:Ct E P f n R0 retF)
 | drw (k:Ct E P f n R0 retF)
 | rk (l:List (Nat × Nat)) (k:Ct E P f n R0 retF)
 | q (is:List Nat) (l:List Src) (k:Ct E P f n R0 retF)
 | a (j:Nat) (x:Stp E P) (l:List Src) (k:Ct E P f n R0 retF)
 | cond (x y:Ct E P f n R0 retF)
 | sF (x:Ct E P f n R0 retF)
 | vQ (x:Ct E P f n R0 retF)
 | split (t:Nat) (x y:Ct E P f n R0 retF)
 | join (T:Type) (nN nA:Nat) (get:Kn E->Option (T × List Nat × List (Option Addr))) (J:Kn E->T->List Nat->List (Option Addr)->Env × List (Nat × Atom E)) (x k:Ct E P f n R0 retF)
 | joinR (T:Type) (nN nA:Nat) (get:Kn E->Option (T × List Nat × List (Option Addr))) (J:Kn E->T->List Nat->List (Option Addr)->Env × List (Nat × Atom E)) (x k:Ct E P f n R0 retF)
 | loop (B:Bt E P f n R0 retF) (get:Kn E->Option (B.B.X × B.B.V × List Nat × List (Option Addr))) (k:Ct E P f n R0 retF)
 | blk (k:Ct E P f n R0 retF)
 | unr (k:Ct E P f n R0 retF)
 | alt2 (i:Nat) (x:Stp E P) (l:List Src) (c:Ct E P f n R0 retF) (j:Nat) (y:Stp E P) (l':List Src) (c':Ct E P f n R0 retF)
 | alt3 (i:Nat) (x:Stp E P) (l:List Src) (c:Ct E P f n R0 retF) (j:Nat) (y:Stp E P) (l':List Src) (c':Ct E P f n R0 retF) (m:Nat) (z:Stp E P) (l'':List Src) (c'':Ct E P f n R0 retF)
 | jg (T:Type) (nN nA:Nat) (get:Kn E->Option (T × List Nat × List (Option Addr))) (J:Kn E->T->List Nat->List (Option Addr)->Env × List (Nat × Atom E)) (x k:Ct E P f n R0 retF)
 | pj (t:Nat) (T:Type) (M:Mx T) (get:Kn E->Option T) (J:Kn E->T->Env × List (Nat × Atom E)) (x y k:Ct E P f n R0 retF)
 | eo (t j q e:Nat) (x y:Ct E P f n R0 retF)
 | np (t j:Nat) (x y:Ct E P f n R0 retF)
 | ret
 | back
 | dead
abbrev Ct.g {E:Ev}{P:Program}{f:FuncId}{n:Nat}{R0:Type}{retF:Kn E->VC R0}(a:Nat)(k:Ct E P f n R0 retF):Ct E P f n R0 retF:=.s (.seg a []) k
def rb (b:Nat)(l:List Nat):List (Nat × Nat):=l.zipIdx.map (fun p=>(p.1,b+p.2))++l.zipIdx.map (fun p=>(b+p.2,b+p.2+90000))
def ren (l:List (Nat × Nat))(k:Nat):Nat:=match getK k l with
 | some j=>j
 | none=>k
def renK (l:List (Nat × Nat)):List (Nat × Atom E)->List (Nat × Atom E)
 | []=>[]
 | (k,a)::r=>(ren l k,a)::renK l r
theorem kF (l:List (Nat × Nat)):∀ As:List (Nat × Atom E),dens (renK l As)=dens As
 | []=>rfl
 | (k,a)::r=>by
  have:=kF l r;simp only[dens,renK,pC] at this ⊢;rw[this]
def nx {R:Type}(m:Option Md)(k:Md->VC R):VC R:=match m with
 | some md=>k md
 | none=>.fail
def Md.cut:Md->Option (Md × List Item)
 | .run (x::k)=>some (.run [x],k)
 | .run []=>none
 | .reg ops i k=>some (.reg ops i [],k)
 | .drw ops dn pend k=>some (.drw ops dn pend [],k)
def onD {R:Type}(ops:Array Oper)(dn:List Nat)(pend:List (Nat × List Ob))(k:List Item)(K:Md->VC R):VC R :=
 match Nat.ble ops.size dn.length with
 | true=>match eqL (vr (vM dn) 0 ops.toList) [] with
  | true=>nx (norm 1000 k) K
  | false=>.fail
 | false=>K (.drw ops dn pend k)
def dD (j:Nat)(V:Value):Option Value:=match Nat.beq j 999 with
 | true=>some V
 | false=>match V with
  | .tuple vs=>vs.toList[j]?
  | _=>none
def setV (j:Nat)(V:Value)(x:Value):Value:=match Nat.beq j 999 with
 | true=>x
 | false=>match V with
  | .tuple vs=>.tuple (vs.toList.set j x).toArray
  | _=>V
theorem kK {j:Nat}{V x:Value}(h:dD j V=some x):setV j V x=V:=by
 unfold dD at h;unfold setV;split at h
 ·simp at h;exact h.symm
 ·split at h
  ·rename_i vs;show Value.tuple _=_;have:vs.toList.set j x=vs.toList:=by
    apply List.ext_getElem?;intro i;rw[List.getElem?_set];split
    ·subst_vars
     split
     ·exact h.symm
     ·rename_i h3;rw[List.getElem?_eq_none (Nat.le_of_not_lt h3)]
    ·rfl
   rw[this]
  ·cases h
def eoC {R:Type}(st:Kn E)(t j q e:Nat)(X Y:Kn E->VC R):VC R :=
 match getK 77 st.vw,look t st.L,getK q st.As with
 | some (.opt o),some V,some (.sl c T sb sc l)=>match dD j V with
  | some v=>.req v (elemV sb (E.el c).sz o) (.cs (oS o) (fun _=>X ⟨(t,setV j V (.pointer none))::st.L,st.As,st.rd,st.ef,st.pr,st.vw⟩) fun i =>
    .bind (mIdx l i) fun x=>.frN fun b=>.frN fun off=>Y ⟨(t,setV j V (.pointer (some ⟨b,off+i.toNat*(E.el c).sz,none⟩)))::st.L,st.As,st.rd,(e,⟨false,c,sb,l,i,x,b,off⟩)::st.ef,st.pr,st.vw⟩)
  | none=>.fail
 | _,_,_=>.fail
theorem zZ.same {n:Nat}{a:Act}{L:Env}{t:Nat}{V:Value}(e:zZ n a L)(h:look t L=some V):zZ n a ((t,V)::L):=by
 refine⟨e.size,e.defers,fun u v hv=>?_⟩;rw[wR] at hv;split at hv
 ·subst_vars;cases hv;exact e.has _ _ h
 ·exact e.has _ _ hv
theorem fX {R:Type}{n:Nat}{w0 w:World}{F:List HP}{st:Kn E}{a:Act}{Φ:R->Prop}{t j q e:Nat}{X Y:Kn E->VC R}(u:KnOk n w0 F st a w)(h:(eoC st t j q e X Y).ok Φ):∃ y,KnOk n w0 F y a w/\((X y).ok Φ \/ (Y y).ok Φ):=by
 unfold eoC at h;split at h
 ·rename_i o V c T sb sc l h1 h2 h3;split at h
  ·rename_i v hv;obtain⟨rfl,h4,A⟩:=h;cases o with
   | none =>
    refine⟨⟨(t,setV j V (.pointer none))::st.L,st.As,st.rd,st.ef,st.pr,st.vw⟩,⟨u.env.same (V:=setV j V (.pointer none)) ?_,u.hp,u.fs.1,u.fs.2,u.fs.3,u.fs.4⟩,.inl (h4 () rfl)⟩;rw[h2];exact congrArg some (kK hv).symm
   | some i =>
    obtain⟨x,z,B⟩:=A i rfl;obtain⟨D,hj⟩:=u.hp.mem (mL F (uH h3));obtain⟨b,off,hs,_⟩:=(wZ T (E.el c).enc (E.el c).sz sb sc l).base (E.el c).ok u.hp D hj z;rw[mI hs] at hv;refine⟨⟨(t,setV j V (.pointer (some ⟨b,off+i.toNat*(E.el c).sz,none⟩)))::st.L,st.As,st.rd,(e,⟨false,c,sb,l,i,x,b,off⟩)::st.ef,st.pr,st.vw⟩,⟨u.env.same (V:=setV j V (.pointer (some ⟨b,off+i.toNat*(E.el c).sz,none⟩))) ?_,u.hp,u.fs.1,?_,u.fs.3,u.fs.4⟩,.inr (B b off)⟩
    ·rw[h2];exact congrArg some (kK hv).symm
    ·intro p hp;cases hp with
     | head=>exact⟨hs,z,fun h=>by cases h⟩
     | tail _ hm=>exact u.fs.2 p hm
  ·exact (VC.zw h).elim
 ·exact (VC.zw h).elim
def bN {R:Type}(u v:VC R):VC R:=.both u v v.mod
def exec {f:FuncId}{n:Nat}{R0:Type}{retF:Kn E->VC R0}:{R:Type}->Ct E P f n R0 retF->Md->Kn E->(R0->VC R)->(Kn E->VC R)->(Code->Nat->Kn E->VC R)->VC R
 | _,.leaf,md,st,F,D,A=>match md with
  | .run []=>D st
  | _=>.fail
 | _,.s x c,md,st,F,D,A=>match md with
  | .reg ops i k=>aq n ops i st x fun i' O=>match Nat.ble ops.size i' with
   | true=>nx (norm 1000 k) fun I=>exec c I O F D A
   | false=>exec c (.reg ops i' k) O F D A
  | .drw ops dn pend k=>ghost st x fun O=>exec c (.drw ops dn pend k) O F D A
  | .run t=>ghost st x fun O=>exec c (.run t) O F D A
 | _,.dead,md,st,F,D,A=>.fail
 | _,.rk l c,md,st,F,D,A=>exec c md ⟨st.L,renK l st.As,st.rd,st.ef,st.pr,st.vw⟩ F D A
 | _,.drw c,md,st,F,D,A=>match md with
  | .run (.code (.region _ ops true)::k)=>match sd ops with
   | true=>exec c (.drw ops [] [] k) st F D A
   | false=>.fail
  | _=>.fail
 | _,.q is l c,md,st,F,D,A=>match md with
  | .drw ops dn pend k=>ao (P:=P) n ops dn pend st is l fun U S O=>onD ops U S k fun I=>exec c I O F D A
  | _=>.fail
 | _,.a j x l c,md,st,F,D,A=>match md with
  | .drw ops dn pend k=>al n ops dn pend st j x l fun U S O=>onD ops U S k fun I=>exec c I O F D A
  | _=>.fail
 | _,.cond x y,md,st,F,D,A=>match md with
  | .run (.code (.cond c u v)::k)=>match evO st.L c with
   | some (.bool b)=>.ite b (nx (norm 1000 (.code u::k)) fun I=>exec x I st F D A) (nx (norm 1000 (.code v::k)) fun I=>exec y I st F D A)
   | _=>.fail
  | _=>.fail
 | _,.sF x,md,st,F,D,A=>match md with
  | .run (.code (.cond c u v)::k)=>match evO st.L c with
   | some (.bool true)=>nx (norm 1000 (.code u::k)) fun I=>exec x I st F D A
   | _=>.fail
  | _=>.fail
 | _,.vQ x,md,st,F,D,A=>match md with
  | .run (.code (.cond c u v)::k)=>match evO st.L c with
   | some (.bool false)=>nx (norm 1000 (.code v::k)) fun I=>exec x I st F D A
   | _=>.fail
  | _=>.fail
 | _,.split t x y,md,st,F,D,A=>match look t st.L with
  | some (.bool b)=>.ite b (exec x md ⟨(t,.bool true)::st.L,st.As,st.rd,st.ef,st.pr,st.vw⟩ F D A) (exec y md ⟨(t,.bool false)::st.L,st.As,st.rd,st.ef,st.pr,st.vw⟩ F D A)
  | _=>.fail
 | _,.join T nN nA get J x k,md,st,F,D,A=>match md.cut with
  | some (Y,rest)=>.join (exec x Y st (fun _=>.fail) (fun O=>match get O with
    | some (s,X,W)=>match Nat.beq X.length nN,Nat.beq W.length nA with
     | true,true=>reqS (J st s X W).1 (J st s X W).2 O (.ret (some s))
     | _,_=>.fail
    | none=>.fail) (fun _ _ _=>.fail)) fun s=>frNs nN fun X=>frAs nA fun W=>nx (norm 1000 rest) fun I=>exec k I ⟨(J st s X W).1,(J st s X W).2,st.rd,st.ef,st.pr,st.vw⟩ F D A
  | none=>.fail
 | _,.joinR T nN nA get J x k,md,st,F,D,A=>match md.cut with
  | some (Y,rest)=>.join (exec x Y st (fun r=>.ret (some (.inl r))) (fun O=>match get O with
    | some (s,X,W)=>match Nat.beq X.length nN,Nat.beq W.length nA with
     | true,true=>reqS (J st s X W).1 (J st s X W).2 O (.ret (some (Sum.inr s)))
     | _,_=>.fail
    | none=>.fail) (fun _ _ _=>.fail)) fun s=>.cs s F fun s=>frNs nN fun X=>frAs nA fun W=>nx (norm 1000 rest) fun I=>exec k I ⟨(J st s X W).1,(J st s X W).2,st.rd,st.ef,st.pr,st.vw⟩ F D A
  | none=>.fail
 | _,.loop B get k,md,st,F,D,A=>match md with
  | .run (.code c::rest)=>match get st with
   | some (x,v,X,W)=>match lx (kys (B.B.rds x)) st.rd with
    | some rs=>.req c B.B.code (.req rs ((B.B.rds x).map (·.2)) (reqS (B.B.pL x v X W) (B.B.pA x v X W) st (.bind (B.B.g x v) fun t=>.cs (B.B.cls t) F fun u=>frNs B.B.mN fun a0=>frAs B.B.mA fun Z =>
     nx (norm 1000 rest) fun I=>exec k I ⟨B.B.qL x u a0 Z,B.B.qA x u a0 Z,st.rd,st.ef,st.pr,st.vw⟩ F D A)))
    | none=>.fail
   | none=>.fail
  | _=>.fail
 | _,.blk c,md,st,F,D,A=>match md with
  | .run (.code (.block id b)::k)=>nx (norm 1000 (.code b :: .inBlock id::k)) fun I=>exec c I st F D A
  | _=>.fail
 | _,.unr c,md,st,F,D,A=>match md with
  | .run (.code (.block id (.loop b))::k)=>nx (norm 1000 (.code b :: .inLoop b :: .inBlock id::k)) fun I=>exec c I st F D A
  | .run (.inLoop b::k)=>nx (norm 1000 (.code b :: .inLoop b::k)) fun I=>exec c I st F D A
  | _=>.fail
 | _,.alt2 i x l c j y l' c',md,st,F,D,A=>match md with
  | .drw ops dn pend k=>match Nat.blt dn.length ops.size && eqL (vr (vM dn) 0 ops.toList) [i,j] with
   | true=>bN (kM n ops dn pend st i x l fun U S O=>onD ops U S k fun I=>exec c I O F D A) (kM n ops dn pend st j y l' fun U S O=>onD ops U S k fun I=>exec c' I O F D A)
   | false=>.fail
  | _=>.fail
 | _,.alt3 i x l c j y l' c' m z l'' c'',md,st,F,D,A=>match md with
  | .drw ops dn pend k=>match Nat.blt dn.length ops.size && eqL (vr (vM dn) 0 ops.toList) [i,j,m] with
   | true=>bN (kM n ops dn pend st i x l fun U S O=>onD ops U S k fun I=>exec c I O F D A) (bN (kM n ops dn pend st j y l' fun U S O=>onD ops U S k fun I=>exec c' I O F D A) (kM n ops dn pend st m z l'' fun U S O=>onD ops U S k fun I=>exec c'' I O F D A))
   | false=>.fail
  | _=>.fail
 | _,.jg T nN nA get J x k,md,st,F,D,A=>match md.cut with
  | some (Y,rest)=>.grj (exec x Y st (fun _=>.fail) (fun O=>match get O with
    | some (s,X,W)=>match Nat.beq X.length nN,Nat.beq W.length nA with
     | true,true=>reqS (J st s X W).1 (J st s X W).2 O (.ret (some s))
     | _,_=>.fail
    | none=>.fail) (fun _ _ _=>.fail)) fun s=>frNs nN fun X=>frAs nA fun W=>nx (norm 1000 rest) fun I=>exec k I ⟨(J st s X W).1,(J st s X W).2,st.rd,st.ef,st.pr,st.vw⟩ F D A
  | none=>.fail
 | _,.pj t T M get J x y k,md,st,F,D,A=>match md.cut,look t st.L with
  | some (Y,rest),some (.bool b)=>.sel M b (exec x Y ⟨(t,.bool true)::st.L,st.As,st.rd,st.ef,st.pr,st.vw⟩ (fun _=>.fail) (fun O=>match get O with
    | some s=>reqS (J st s).1 (J st s).2 O (.ret (some s))
    | none=>.fail) (fun _ _ _=>.fail)) (exec y Y ⟨(t,.bool false)::st.L,st.As,st.rd,st.ef,st.pr,st.vw⟩ (fun _=>.fail) (fun O=>match get O with
    | some s=>reqS (J st s).1 (J st s).2 O (.ret (some s))
    | none=>.fail) (fun _ _ _=>.fail)) fun s=>nx (norm 1000 rest) fun I=>exec k I ⟨(J st s).1,(J st s).2,st.rd,st.ef,st.pr,st.vw⟩ F D A
  | _,_=>.fail
 | _,.eo t j q e x y,md,st,F,D,A=>eoC st t j q e (fun O=>exec x md O F D A) fun O=>exec y md O F D A
 | _,.np t j x y,md,st,F,D,A=>match look t st.L with
  | some V=>match dD j V with
   | some (.pointer none)=>exec x md st F D A
   | some (.pointer (some _))=>exec y md st F D A
   | _=>.fail
  | none=>.fail
 | _,.ret,md,st,F,D,A=>match md with
  | .run (.code .ret::_)=>.join (retF st) F
  | _=>.fail
 | _,.back,md,st,F,D,A=>match md with
  | .run [.inLoop c,.inBlock id]=>A c id st
  | _=>.fail
theorem kl {α:Type}:∀ {ks:List Nat}{L:List (Nat × α)}{xs:List α},lx ks L=some xs -> ∀ x∈xs,∃ j,(j,x)∈L
 | [],L,xs,h,x,e=>by simp[lx] at h;subst h;cases e
 | k::ks,L,xs,h,x,e=>by
  simp only[lx] at h;split at h
  ·rename_i y r h1 h2;cases h;cases e with
   | head=>exact xT h1
   | tail _ hm=>exact kl h2 x hm
  ·cases h
theorem qp {R:Type}{m:Option Md}{k:Md->VC R}{Φ:R->Prop}(h:(nx m k).ok Φ):∃ md,m=some md/\(k md).ok Φ:=by
 unfold nx at h;split at h
 ·exact⟨_,rfl,h⟩
 ·exact (VC.zw h).elim
end
end
noncomputable section
section
variable {E:Ev} {P:Program} {f:FuncId} {n:Nat} {R0:Type} {retF:Kn E->VC R0}
theorem pg {t:Nat}{b:Bool}{L:Env}{n:Nat}{a:Act}(e:zZ n a L)(h:look t L=some (.bool b)):zZ n a ((t,.bool b)::L):=by
 refine⟨e.size,e.defers,fun u v hv=>?_⟩;rw[wR] at hv;split at hv
 ·subst_vars;cases hv;exact e.has _ _ h
 ·exact e.has _ _ hv
theorem dw.kn {w0 w:World}{F:List HP}{st:Kn E}{a:Act}{L:Env}{As:List (Nat × Atom E)}(h:dw F st)(e:zZ n a L)(i:St w0 (dens As++F) w):KnOk n w0 F ⟨L,As,st.rd,st.ef,st.pr,st.vw⟩ a w:=⟨e,i,h.1,h.2,h.3,h.4⟩
theorem Md.rL {md e:Md}{rest base:List Item}{a:Act}{w:World}{Q:Value->World->Prop}(h:md.cut=some (e,rest))(hr:e.Runs P f (rest++base) a w Q):md.Runs P f base a w Q:=by
 cases md with
 | run t =>
  cases t with
  | nil=>cases h
  | cons x t =>
   simp only[Md.cut,Option.some.injEq,Prod.mk.injEq] at h;obtain⟨rfl,rfl⟩:=h;exact hr
 | reg ops i k =>
  simp only[Md.cut,Option.some.injEq,Prod.mk.injEq] at h;obtain⟨rfl,rfl⟩:=h;exact hr
 | drw ops dn pend k =>
  simp only[Md.cut,Option.some.injEq,Prod.mk.injEq] at h;obtain⟨rfl,rfl⟩:=h;exact hr
theorem tW {R:Type}{ops:Array Oper}{dn:List Nat}{pend:List (Nat × List Ob)}{k base:List Item}{K:Md->VC R}{Φ:R->Prop}{a:Act}{w:World}{Q:Value->World->Prop}(h:(onD ops dn pend k K).ok Φ)
  (hk:∀ md,(K md).ok Φ -> md.Runs P f base a w Q):WQ P f ops dn pend (k++base) a w Q:=by
 unfold onD at h;split at h
 ·split at h
  ·rename_i h1;obtain⟨md,hm,h2⟩:=qp h;exact WQ.done h1 (yH 1000 hm (hk md h2))
  ·exact (VC.zw h).elim
 ·exact hk _ h
theorem mP (c2:P.follows .mixedOrders=true){w0:World}{F:List HP}{Q:Value->World->Prop}{Tg:R0->Prop}(b2:∀ st a w k,KnOk n w0 F st a w->(retF st).ok Tg->Runs P f (.code .ret::k) a w Q) :
  ∀ (ct:Ct E P f n R0 retF) {R:Type} (md:Md) (base:List Item) (st:Kn E) (I:R0->VC R) (D:Kn E->VC R) (A:Code->Nat->Kn E->VC R) (Φ:R->Prop) (a:Act) (w:World),KnOk n w0 F st a w ->
   (exec ct md st I D A).ok Φ -> (∀ r,(I r).ok Φ -> Tg r)->(∀ S a' w',KnOk n w0 F S a' w'->(D S).ok Φ -> Runs P f base a' w' Q) ->
   (∀ c id S a' w',KnOk n w0 F S a' w'->(A c id S).ok Φ -> Runs P f (.inLoop c :: .inBlock id::base) a' w' Q)->md.Runs P f base a w Q:=by
 intro ct;induction ct with
 | leaf =>
  intro R md base st I D A Φ a w O h hV Y X;simp only[exec] at h;split at h
  ·exact Y _ _ _ O h
  ·exact (VC.zw h).elim
 | s x c ih =>
  intro R md base st I D A Φ a w O h hV Y X;simp only[exec] at h;split at h
  ·rename_i ops i k;refine jT O h fun i' S a' w' U h'=>?_
   split at h'
   ·rename_i hi;obtain⟨W,hm,h2⟩:=qp h';exact WR.done hi (yH 1000 hm (ih _ _ _ _ _ _ _ _ _ U h2 hV Y X))
   ·exact ih (.reg ops i' k) base S I D A Φ a' w' U h' hV Y X
  ·rename_i ops dn pend k;obtain⟨S,U,h'⟩:=xk O h;exact ih (.drw ops dn pend k) base S I D A Φ a w U h' hV Y X
  ·rename_i t;obtain⟨S,U,h'⟩:=xk O h;exact ih (.run t) base S I D A Φ a w U h' hV Y X
 | dead =>
  intro R md base st I D A Φ a w O h hV Y X;simp only[exec] at h;exact (VC.zw h).elim
 | rk l c ih =>
  intro R md base st I D A Φ a w O h hV Y X;simp only[exec] at h;exact ih md base ⟨st.L,renK l st.As,st.rd,st.ef,st.pr,st.vw⟩ I D A Φ a w ⟨O.env,by rw[kF];exact O.hp,O.fs.1,O.fs.2,O.fs.3,O.fs.4⟩ h hV Y X
 | drw c ih =>
  intro R md base st I D A Φ a w O h hV Y X;simp only[exec] at h;split at h
  ·rename_i id ops k;split at h
   ·rename_i hr;exact Runs.drawn c2 hr (ih (.drw ops [] [] k) base st I D A Φ a _ ⟨O.env,O.hp.drew,O.fs.1,O.fs.2,O.fs.3,O.fs.4⟩ h hV Y X)
   ·exact (VC.zw h).elim
  ·exact (VC.zw h).elim
 | q is l c ih =>
  intro R md base st I D A Φ a w O h hV Y X;simp only[exec] at h;split at h
  ·refine jS O h fun a8 a1 S a' U h'=>?_
   exact tW h' fun W h2=>ih W base S I D A Φ a' w U h2 hV Y X
  ·exact (VC.zw h).elim
 | a j x l c ih =>
  intro R md base st I D A Φ a w O h hV Y X;simp only[exec] at h;split at h
  ·refine jR O h fun a8 a1 S a' w' U h'=>?_
   exact tW h' fun W h2=>ih W base S I D A Φ a' w' U h2 hV Y X
  ·exact (VC.zw h).elim
 | cond x y Z a5 =>
  intro R md base st I D A Φ a w O h hV Y X;simp only[exec] at h;split at h
  ·rename_i c u v k;split at h
   ·rename_i b hc;refine Runs.cond O.env hc (fun hb=>?_) (fun hb=>?_)
    ·obtain⟨W,hm,h2⟩:=qp (h.1 hb);exact yH 1000 hm (Z _ _ _ _ _ _ _ _ _ O h2 hV Y X)
    ·obtain⟨W,hm,h2⟩:=qp (h.2 hb);exact yH 1000 hm (a5 _ _ _ _ _ _ _ _ _ O h2 hV Y X)
   ·exact (VC.zw h).elim
  ·exact (VC.zw h).elim
 | sF x Z =>
  intro R md base st I D A Φ a w O h hV Y X;simp only[exec] at h;split at h
  ·rename_i c u v k;split at h
   ·rename_i hc;obtain⟨W,hm,h2⟩:=qp h;exact Runs.sF O.env hc (yH 1000 hm (Z _ _ _ _ _ _ _ _ _ O h2 hV Y X))
   ·exact (VC.zw h).elim
  ·exact (VC.zw h).elim
 | vQ x Z =>
  intro R md base st I D A Φ a w O h hV Y X;simp only[exec] at h;split at h
  ·rename_i c u v k;split at h
   ·rename_i hc;obtain⟨W,hm,h2⟩:=qp h;exact Runs.vQ O.env hc (yH 1000 hm (Z _ _ _ _ _ _ _ _ _ O h2 hV Y X))
   ·exact (VC.zw h).elim
  ·exact (VC.zw h).elim
 | split t x y Z a5 =>
  intro R md base st I D A Φ a w O h hV Y X;simp only[exec] at h;split at h
  ·rename_i b hb;cases b with
   | true=>exact Z _ _ _ _ _ _ _ _ _ (O.fs.kn (pg O.env hb) O.hp) (h.1 rfl) hV Y X
   | false=>exact a5 _ _ _ _ _ _ _ _ _ (O.fs.kn (pg O.env hb) O.hp) (h.2 rfl) hV Y X
  ·exact (VC.zw h).elim
 | join T nN nA get J x k Z a4 =>
  intro R md base st I D A Φ a w O h hV Y X;simp only[exec] at h;split at h
  ·rename_i b5 rest hc;refine Md.rL hc (Z _ _ _ _ _ _ _ _ _ O h (fun r hr=>(VC.zw hr).elim) (fun S a' w' U hl=>?_) (fun c id S a' w' _ hb=>(VC.zw hb).elim));split at hl
   ·rename_i s ns aS hg;split at hl
    ·rename_i h1 h2;obtain⟨h3,h4,y,hy,h5⟩:=uY U hl;cases hy;rw[<- Nat.eq_of_beq_eq_true h1] at h5;have h6:=p6 _ _ h5;rw[<- Nat.eq_of_beq_eq_true h2] at h6;obtain⟨W,hm,h8⟩:=qp (p5 _ _ h6);exact yH 1000 hm (a4 _ _ _ _ _ _ _ _ _ (O.fs.kn h3 h4) h8 hV Y X)
    ·exact (VC.zw hl).elim
   ·exact (VC.zw hl).elim
  ·exact (VC.zw h).elim
 | joinR T nN nA get J x k Z a4 =>
  intro R md base st I D A Φ a w O h hV Y X;simp only[exec] at h;split at h
  ·rename_i b5 rest hc;refine Md.rL hc (Z _ _ _ _ _ _ _ _ _ O h (fun r hr=>?_) (fun S a' w' U hl=>?_) (fun c id S a' w' _ hb=>(VC.zw hb).elim))
   ·obtain⟨y,hy,h2⟩:=hr;cases hy;exact hV r (h2.1 r rfl)
   ·split at hl
    ·rename_i s ns aS hg;split at hl
     ·rename_i h1 h2;obtain⟨h3,h4,y,hy,h5⟩:=uY U hl;cases hy;have h5:=h5.2 s rfl;rw[<- Nat.eq_of_beq_eq_true h1] at h5;have h6:=p6 _ _ h5;rw[<- Nat.eq_of_beq_eq_true h2] at h6;obtain⟨W,hm,h8⟩:=qp (p5 _ _ h6);exact yH 1000 hm (a4 _ _ _ _ _ _ _ _ _ (O.fs.kn h3 h4) h8 hV Y X)
     ·exact (VC.zw hl).elim
    ·exact (VC.zw hl).elim
  ·exact (VC.zw h).elim
 | loop B get k a4 =>
  intro R md base st I D A Φ a w O h hV Y X;simp only[exec] at h;split at h
  ·rename_i c rest;split at h
   ·rename_i x v ns aS hg;split at h
    ·rename_i rs c4;obtain⟨rfl,h2,h3⟩:=h;obtain⟨h4,h5,t,ht,h6⟩:=uY O h3;refine B.snd Q w0 F x v t ns aS a w (rest++base) ht ⟨h4,h5,?_,by simp,by simp,by simp⟩ ?_ ?_
     ·intro p hp;have h7:p.2∈rs:=by rw[h2];exact List.mem_map_of_mem hp
      obtain⟨j,hj⟩:=kl c4 _ h7;have:=O.fs.1 (j,p.2) hj;exact this
     ·intro u hu d0 c6 a' w' hn ha hE hH;have b6:=h6.2 u hu;rw[<- hn] at b6;have h7:=p6 _ _ b6;rw[<- ha] at h7;obtain⟨W,hm,h8⟩:=qp (p5 _ _ h7);exact yH 1000 hm (a4 _ _ _ _ _ _ _ _ _ (O.fs.kn hE hH) h8 hV Y X)
     ·intro r hr S a' w' k' U c3;have e:=hV r (h6.1 r hr);exact b2 _ _ _ _ U (VC.mono _ (fun r' h=>by subst h;exact e) c3)
    ·exact (VC.zw h).elim
   ·exact (VC.zw h).elim
  ·exact (VC.zw h).elim
 | blk c ih =>
  intro R md base st I D A Φ a w O h hV Y X;simp only[exec] at h;split at h
  ·obtain⟨W,hm,h2⟩:=qp h;exact Runs.block (yH 1000 hm (ih _ _ _ _ _ _ _ _ _ O h2 hV Y X))
  ·exact (VC.zw h).elim
 | unr c ih =>
  intro R md base st I D A Φ a w O h hV Y X;simp only[exec] at h;split at h
  ·obtain⟨W,hm,h2⟩:=qp h;exact Runs.block (Runs.cH (yH 1000 hm (ih _ _ _ _ _ _ _ _ _ O h2 hV Y X)))
  ·obtain⟨W,hm,h2⟩:=qp h;exact Runs.inLoop (yH 1000 hm (ih _ _ _ _ _ _ _ _ _ O h2 hV Y X))
  ·exact (VC.zw h).elim
 | alt2 i x l c j y l' c' b3 b4 =>
  intro R md base st I D A Φ a w O h hV Y X;simp only[exec] at h;split at h
  ·split at h
   ·rename_i hr;refine WQ.act2 i j hr ?_ ?_
    ·refine u0 O h.1 fun a8 a1 S a' w' U h'=>?_
     exact tW h' fun W h2=>b3 W base S I D A Φ a' w' U h2 hV Y X
    ·refine u0 O (h.2 rfl) fun a8 a1 S a' w' U h'=>?_
     exact tW h' fun W h2=>b4 W base S I D A Φ a' w' U h2 hV Y X
   ·exact (VC.zw h).elim
  ·exact (VC.zw h).elim
 | alt3 i x l c j y l' c' m z l'' c'' b3 b4 c5 =>
  intro R md base st I D A Φ a w O h hV Y X;simp only[exec] at h;split at h
  ·split at h
   ·rename_i hr;refine WQ.act3 i j m hr ?_ ?_ ?_
    ·refine u0 O h.1 fun a8 a1 S a' w' U h'=>?_
     exact tW h' fun W h2=>b3 W base S I D A Φ a' w' U h2 hV Y X
    ·refine u0 O ((h.2 rfl).1) fun a8 a1 S a' w' U h'=>?_
     exact tW h' fun W h2=>b4 W base S I D A Φ a' w' U h2 hV Y X
    ·refine u0 O ((h.2 rfl).2 rfl) fun a8 a1 S a' w' U h'=>?_
     exact tW h' fun W h2=>c5 W base S I D A Φ a' w' U h2 hV Y X
   ·exact (VC.zw h).elim
  ·exact (VC.zw h).elim
 | jg T nN nA get J x k Z a4 =>
  intro R md base st I D A Φ a w O h hV Y X;simp only[exec] at h;split at h
  ·rename_i b5 rest hc;refine Md.rL hc (Z _ _ _ _ _ _ _ _ _ O h (fun r hr=>(VC.zw hr).elim) (fun S a' w' U hl=>?_) (fun c id S a' w' _ hb=>(VC.zw hb).elim));split at hl
   ·rename_i s ns aS hg;split at hl
    ·rename_i h1 h2;obtain⟨h3,h4,y,hy,h5⟩:=uY U hl;cases hy;rw[<- Nat.eq_of_beq_eq_true h1] at h5;have h6:=p6 _ _ h5;rw[<- Nat.eq_of_beq_eq_true h2] at h6;obtain⟨W,hm,h8⟩:=qp (p5 _ _ h6);exact yH 1000 hm (a4 _ _ _ _ _ _ _ _ _ (O.fs.kn h3 h4) h8 hV Y X)
    ·exact (VC.zw hl).elim
   ·exact (VC.zw hl).elim
  ·exact (VC.zw h).elim
 | pj t T M get J x y k Z a5 a4 =>
  intro R md base st I D A Φ a w O h hV Y X;simp only[exec] at h;split at h
  ·rename_i b5 rest b hc hb;have fin:∀ (S:Kn E) (a':Act) (w':World),KnOk n w0 F S a' w'->((match get S with
     | some s=>reqS (J st s).1 (J st s).2 S (.ret (some s))
     | none=>.fail:VC T)).ok (fun s=>(nx (norm 1000 rest) fun W=>exec k W ⟨(J st s).1,(J st s).2,st.rd,st.ef,st.pr,st.vw⟩ I D A).ok Φ)->Runs P f (rest++base) a' w' Q:=by
    intro S a' w' U hl;split at hl
    ·rename_i s hg;obtain⟨h3,h4,y,hy,h5⟩:=uY U hl;cases hy;obtain⟨W,hm,h8⟩:=qp h5;exact yH 1000 hm (a4 _ _ _ _ _ _ _ _ _ (O.fs.kn h3 h4) h8 hV Y X)
    ·exact (VC.zw hl).elim
   cases b with
   | true=>exact Md.rL hc (Z _ _ _ _ _ _ _ _ _ (O.fs.kn (pg O.env hb) O.hp) (h.1 rfl) (fun r hr=>(VC.zw hr).elim) fin (fun c id S a' w' _ hb=>(VC.zw hb).elim))
   | false=>exact Md.rL hc (a5 _ _ _ _ _ _ _ _ _ (O.fs.kn (pg O.env hb) O.hp) (h.2 rfl) (fun r hr=>(VC.zw hr).elim) fin (fun c id S a' w' _ hb=>(VC.zw hb).elim))
  ·exact (VC.zw h).elim
 | eo t j q e x y Z a5 =>
  intro R md base st I D A Φ a w O h hV Y X;simp only[exec] at h;obtain⟨S,U,h'|h'⟩:=fX O h
  ·exact Z _ _ _ _ _ _ _ _ _ U h' hV Y X
  ·exact a5 _ _ _ _ _ _ _ _ _ U h' hV Y X
 | np t j x y Z a5 =>
  intro R md base st I D A Φ a w O h hV Y X;simp only[exec] at h;split at h
  ·split at h
   ·exact Z _ _ _ _ _ _ _ _ _ O h hV Y X
   ·exact a5 _ _ _ _ _ _ _ _ _ O h hV Y X
   ·exact (VC.zw h).elim
  ·exact (VC.zw h).elim
 | ret =>
  intro R md base st I D A Φ a w O h hV Y X;simp only[exec] at h;split at h
  ·exact b2 _ _ _ _ O (VC.mono _ hV h)
  ·exact (VC.zw h).elim
 | back =>
  intro R md base st I D A Φ a w O h hV Y X;simp only[exec] at h;split at h
  ·exact X _ _ _ _ _ O h
  ·exact (VC.zw h).elim
def zipN {α:Type}:Nat->List α -> List (Nat × α)
 | _,[]=>[]
 | i,x::r=>(i,x)::zipN (i+1) r
theorem lY {α:Type}:∀ (i:Nat) (l:List α),(zipN i l).map (·.2)=l
 | _,[]=>rfl
 | i,x::r=>by simp[zipN,lY (i+1) r]
def fx79:List (Nat × Prop)->List Prop
 | []=>[]
 | (k,p)::r=>match Nat.beq k 79 with
  | true=>p::fx79 r
  | false=>fx79 r
theorem ee:∀ {l:List (Nat × Prop)},(∀ p∈l,p.2) -> ∀ p∈fx79 l,p
 | [],_,p,hp=>by cases hp
 | (k,q)::r,h,p,hp=>by
  have ih:=ee (l:=r) fun x e=>h x (mC _ e)
  unfold fx79 at hp;split at hp
  ·cases hp with
   | head=>exact h (k,q) (List.mem_cons_self ..)
   | tail _ hm=>exact ih p hm
  ·exact ih p hp
def retC (P:Program)(C:Con E)(rs:List ResultVar)(src:List Src)(keys:List Nat)(out:Kn E->Option (C.T × List Nat × List (Option Addr)))(i:C.I)(st:Kn E):VC C.T :=
 match out st with
 | some (t,l,j)=>match Nat.beq l.length C.nN,Nat.beq j.length C.nA,srcs st src,ky (C.BD i t keys) st.As with
  | true,true,some (u,obs,eqs),some (ats,_)=>match qt P st.L rs u with
   | some (vs,e)=>.req e obs (.req (eqs.map (·.1)) (eqs.map (·.2)) (.req (tg vs) (C.valA i t l j) (.req ats (C.jL i t l j) (.req (C.fx i t) (fx79 st.pr) (.ret (some t))))))
   | none=>.fail
  | _,_,_,_=>.fail
 | none=>.fail
def st0 (C:Con E)(i:C.I):Kn E:=⟨pX 0 (C.args i),zipN 0 (C.ats i),zipN 0 (C.rds i),[],[],[]⟩
def vcF {P:Program}{n:Nat}(C:Con E)(c:Code)(rs:List ResultVar)(src:List Src)(keys:List Nat)(out:Kn E->Option (C.T × List Nat × List (Option Addr)))(i:C.I)(e:Ct E P C.fid n C.T (retC P C rs src keys out i)):VC C.T :=
 nx (norm 1000 [.code c]) fun md=>exec e md (st0 C i) (fun t=>.ret (some t)) (fun st=>match rs with
  | []=>.join (retC P C rs src keys out i st) fun t=>.ret (some t)
  | _=>.fail) fun _ _ _=>.fail
theorem m4 {C:Con E}{rs:List ResultVar}{src:List Src}{keys:List Nat}{out:Kn E->Option (C.T × List Nat × List (Option Addr))}{i:C.I}{st:Kn E}{n:Nat}{w0 w:World}{F:List HP}{a:Act}{t:C.T}
  (x:KnOk n w0 F st a w) (h:(retC P C rs src keys out i st).ok (· = t)):∃ l obs vs j e,xE w obs/\qt P st.L rs l=some (vs,obs)/\j.length=C.nN/\e.length=C.nA/\tg vs=C.valA i t j e/\St w0 ((C.jL i t j e).map Atom.den++F) w /\ ∀ p∈C.fx i t,p:=by
 unfold retC at h;split at h
 ·rename_i A j e X;split at h
  ·rename_i l obs eqs ats rest h1 h2 h3 h4;split at h
   ·rename_i vs z D;obtain⟨rfl,J,O,S,u,y,W,U⟩:=h;cases W;subst U;refine⟨l,_,vs,j,e,tH x h3 (mM J),D,Nat.eq_of_beq_eq_true h1,Nat.eq_of_beq_eq_true h2,O,?_,by rw[u];exact ee x.fs.3⟩;have H:=x.hp.perm ((pT h4).append_right F);rw[aA,S] at H;have B:=H.perm (show ((C.jL i A j e).map Atom.den++(dens rest++F)).Perm (dens rest++((C.jL i A j e).map Atom.den++F)) by
     rw[<- aA,<- aA];exact List.Perm.append_right F List.perm_append_comm)
    exact B.bO
   ·exact (VC.zw h).elim
  ·exact (VC.zw h).elim
 ·exact (VC.zw h).elim
theorem ig (W:P.follows .mixedOrders=true)(C:Con E){fn:Func}{c:Code}{n:Nat}{rs:List ResultVar}(src:List Src)(keys:List Nat)(out:Kn E->Option (C.T × List Nat × List (Option Addr)))(D:∀ i,Ct E P C.fid n C.T (retC P C rs src keys out i))
  (hf:P.funcs[C.fid]? = some fn) (S:fn.body=some c) (hn:fn.ntmps=n) (hr:fn.results=rs.toArray) (hl:∀ i,Nat.ble (C.args i).length n=true)
  (h1:∀ i,vcF C c rs src keys out i (D i)=(vcF C c rs src keys out i (D i)).rfx) (h2:∀ i s,(vcF C c rs src keys out i (D i)).mod s=C.model i):C.Sound P:=by
 intro i t hm w0 w F Y H;refine enter hf S hn (hl i) fun a hE=>?_
 have X:=VC.good _ (· = t) (h1 i) fun s=>⟨t,(h2 i s).trans hm,rfl⟩
 obtain⟨md,U,h3⟩:=qp X;have I:KnOk n w0 F (st0 C i) a w:=by
  refine⟨hE,?_,?_,by simp[st0],by simp[st0],by simp[st0]⟩
  ·simpa[st0,dens,lY] using H
  ·intro p hp;refine Y p.2 ?_;have:p.2∈(zipN 0 (C.rds i)).map (·.2):=List.mem_map_of_mem hp
   rwa [lY] at this
 have:=yH (P:=P) (f:=C.fid) (a:=a) (w:=w) (base:=[]) (Q:=fun v w'=>∃ z j,z.length=C.nN/\j.length=C.nA/\v=C.valA i t z j/\St w0 ((C.jL i t z j).map Atom.den++F) w' /\ ∀ p∈C.fx i t,p) 1000 U
  (mP W (Tg:=(· = t)) (fun st a w k I h=>by
    obtain⟨B,obs,vs,z,j,ho,hv,x,l,J,O,u⟩:=m4 I h;exact Runs.retO I.env hf hr B hv ho ⟨z,j,x,l,J,O,u⟩) (D i) md [] (st0 C i) _ _ _ _ a w I h3 (fun r hr=>by obtain⟨y,Z,h⟩:=hr;cases Z;exact h) (fun a0 a' w' A hl=>by
    split at hl
    ·obtain⟨B,obs,vs,z,j,ho,hv,x,l,J,O,u⟩:=m4 A (VC.mono _ (fun r hr=>by obtain⟨y,Z,h⟩:=hr;cases Z;exact h) hl);have e:vs=[]:=by
      simp only[qt,Option.some.injEq,Prod.mk.injEq] at hv;exact hv.1.symm
     subst e;exact Runs.fin A.env hf hr (vs:=[]) rfl ⟨z,j,x,l,J,O,u⟩
    ·exact (VC.zw hl).elim) (fun c id a0 a' w' _ S=>(VC.zw S).elim))
 simpa using this
theorem fsn (j:P.follows .mixedOrders=true)(C:Con E){fn:Func}{c:Code}{n:Nat}{rs:List ResultVar}(src:List Src)(keys:List Nat)(out:Kn E->Option (C.T × List Nat × List (Option Addr)))(e:∀ i,Ct E P C.fid n C.T (retC P C rs src keys out i))
  (hf:P.funcs[C.fid]? = some fn) (l:fn.body=some c:=by rfl) (hn:fn.ntmps=n:=by rfl) (hr:fn.results=rs.toArray:=by kernel_rfl) (hl:∀ i,Nat.ble (C.args i).length n=true:=by intro _;rfl)
  (h1:∀ i,vcF C c rs src keys out i (e i)=(vcF C c rs src keys out i (e i)).rfx:=by intro i;kernel_rfl) (h2:∀ i s,(vcF C c rs src keys out i (e i)).mod s=C.model i:=by intro i s;kernel_rfl):C.Sound P:=ig j C src keys out e hf l hn hr hl h1 h2
def vcL {P:Program}{f:FuncId}{n:Nat}{R0:Type}{retF:Kn E->VC R0}(B:BCon E R0)(body:Code)(id:Nat)(G:Nat->B.X->B.V->Option B.W)(inl:R0->Option B.W)(inr:B.T->B.W)(get:Kn E->Option (B.V × List Nat × List (Option Addr)))(j:Kn E->Option (B.T × List Nat × List (Option Addr)))
  (A:Ct E P f n R0 retF) (m:Nat) (x:B.X) (v:B.V) (z:List Nat) (y:List (Option Addr)):VC B.W :=
 nx (norm 1000 [.code body,.inLoop body,.inBlock id]) fun md=>exec A md ⟨B.pL x v z y,B.pA x v z y,B.rds x,[],[],[]⟩ (fun r=>.ret (inl r)) (fun st=>match j st with
  | some (u,i,e)=>match Nat.beq i.length B.mN,Nat.beq e.length B.mA with
   | true,true=>reqS (B.qL x u i e) (B.qA x u i e) st (.ret (some (inr u)))
   | _,_=>.fail
  | none=>.fail) fun c l st=>.req (c,l) (body,id) (match get st with
   | some (t,i,e)=>reqS (B.pL x t i e) (B.pA x t i e) st (.ret (G m x t))
   | none=>.fail)
theorem VC.wz:∀ {R:Type} (v:VC R),v.ok (fun _=>False)->False
 | _,.ret o,h=>by obtain⟨_,_,h⟩:=h;exact h
 | _,.bind m k,h=>by obtain⟨x,_,h⟩:=h;exact VC.wz (k x) h
 | _,.ite c x y,h=>by
  cases i:c with
  | true=>exact VC.wz x (h.1 i)
  | false=>exact VC.wz y (h.2 i)
 | _,.frN k,h=>VC.wz (k 0) (h 0)
 | _,.frA k,h=>VC.wz (k none) (h none)
 | _,.req a b k,h=>VC.wz k h.2
 | _,.join x k,h=>VC.wz x (VC.mono x (fun y e=>VC.wz (k y) e) h)
 | _,.cs z x y,h=>by
  cases z with
  | inl a=>exact VC.wz (x a) (h.1 a rfl)
  | inr b=>exact VC.wz (y b) (h.2 b rfl)
 | _,.both u v vm,h=>VC.wz u h.1
 | _,.grj x k,h=>VC.wz x (VC.mono x (fun y e=>VC.wz (k y) e) h)
 | _,.sel M b x y k,h=>by
  cases b with
  | true=>exact VC.wz x (VC.mono x (fun y e=>VC.wz (k y) e) (h.1 rfl))
  | false=>exact VC.wz y (VC.mono y (fun y e=>VC.wz (k y) e) (h.2 rfl))
def BCon.at {R0:Type}(B:BCon E R0)(G:Nat->B.X->B.V->Option B.W)(k:Nat):BCon E R0:={ B with g:=G k }
theorem gv (a4:P.follows .mixedOrders=true)(B:BCon E R0){body:Code}{id:Nat}(G:Nat->B.X->B.V->Option B.W)(inl:R0->Option B.W)(inr:B.T->B.W)(get:Kn E->Option (B.V × List Nat × List (Option Addr)))(l:Kn E->Option (B.T × List Nat × List (Option Addr)))
  (Z:Nat->Ct E P f n R0 retF) (hc:B.code = .block id (.loop body)) (h0:∀ x v,G 0 x v=none) (hl:∀ r y,inl r=some y->B.cls y = .inl r) (hi:∀ u,B.cls (inr u) = .inr u)
  (h1:∀ m x v j i,vcL B body id G inl inr get l (Z m) m x v j i=(vcL B body id G inl inr get l (Z m) m x v j i).rfx) (h2:∀ m x v j i s,(vcL B body id G inl inr get l (Z m) m x v j i).mod s=G (m+1) x v) :
  ∀ k,(B.at G k).Sound P f n retF:=by
 intro k Q w0 F x v t j i a w base S A J U;have key:∀ (m:Nat) (v:B.V) (j:List Nat) (i:List (Option Addr)) (a:Act) (w:World),G m x v=some t->KnOk n w0 F ⟨B.pL x v j i,B.pA x v j i,B.rds x,[],[],[]⟩ a w->Runs P f (.code body :: .inLoop body :: .inBlock id::base) a w Q:=by
  intro m;induction m with
  | zero=>intro v j i a w S _;exact absurd ((h0 x v).symm.trans S) (by simp)
  | succ m ih =>
   intro v j i a w S A;have a5:=VC.good _ (· = t) (h1 m x v j i) fun s=>⟨t,(h2 m x v j i s).trans S,rfl⟩
   obtain⟨md,a3,h3⟩:=qp a5;refine yH (t:=[.code body,.inLoop body,.inBlock id]) (base:=base) 1000 a3 (mP a4 (Tg:=fun r=>B.cls t = .inl r) ?_ (Z m) md base _ _ _ _ _ a w A h3 ?_ ?_ ?_)
   ·intro st a w k A h;cases ht:B.cls t with
    | inl r=>exact U r ht _ _ _ _ A (VC.mono _ (fun r' h=>by rw[ht] at h;cases h;rfl) h)
    | inr u=>exact (VC.wz _ (VC.mono _ (fun r' h=>by rw[ht] at h;cases h) h)).elim
   ·rintro r ⟨y,Y,rfl⟩;exact hl r y Y
   ·intro a6 a' w' I z;split at z
    ·rename_i u O D ho;split at z
     ·rename_i e1 e2;obtain⟨h4,h5,y,Y,h6⟩:=uY I z;cases Y;subst h6;exact J u (hi u) O D a' w' (Nat.eq_of_beq_eq_true e1) (Nat.eq_of_beq_eq_true e2) h4 h5
     ·exact (VC.zw z).elim
    ·exact (VC.zw z).elim
   ·intro c b3 a6 a' w' I hb;obtain⟨e,h4⟩:=hb;simp only[Prod.mk.injEq] at e;obtain⟨rfl,rfl⟩:=e;split at h4
    ·rename_i v' O D b2;obtain⟨h5,h6,y,Y,h7⟩:=uY I h4;subst h7;exact Runs.inLoop (ih v' O D a' w' Y ⟨h5,h6,A.fs.1,A.fs.2,A.fs.3,A.fs.4⟩)
    ·exact (VC.zw h4).elim
 show Runs P f (.code B.code::base) a w Q;rw[hc];exact Runs.block (Runs.cH (key k v j i a w S A))
theorem lsn (t:P.follows .mixedOrders=true)(B:BCon E R0){body:Code}{id:Nat}(G:Nat->B.X->B.V->Option B.W)(inl:R0->Option B.W)(inr:B.T->B.W)(get:Kn E->Option (B.V × List Nat × List (Option Addr)))(e:Kn E->Option (B.T × List Nat × List (Option Addr)))
  (j:Nat->Ct E P f n R0 retF) (k:Nat) (z:B.code = .block id (.loop body):=by kernel_rfl) (h0:∀ x v,G 0 x v=none:=by intro _ _;rfl) (hl:∀ r y,inl r=some y->B.cls y = .inl r:=by intro r y h;cases h;try rfl) (hi:∀ u,B.cls (inr u) = .inr u:=by intro u;rfl)
  (h1:∀ m x v l i,vcL B body id G inl inr get e (j m) m x v l i=(vcL B body id G inl inr get e (j m) m x v l i).rfx:=by intro m x v A D;kernel_rfl) (h2:∀ m x v l i s,(vcL B body id G inl inr get e (j m) m x v l i).mod s=G (m+1) x v:=by intro m x v A D s;kernel_rfl) :
  (B.at G k).Sound P f n retF:=gv t B G inl inr get e j z h0 hl hi h1 h2 k
theorem xV (C:Con E)(h:∀ i,C.model i=none):C.Sound P:=fun i t hm=>by rw[h i] at hm;cases hm
end
end
noncomputable section
section
variable {E:Ev}
structure OD (E:Ev):Type 1 where
 A:Type
 M:Type
 flat:Nat->A->M->List (Atom E)
 rd:List (Atom E)->Option (A × M × List (Atom E))
def rS (c:Nat)(e:List (Atom E)):Option ((Option Addr × Nat × List (E.el c).α) × List (Atom E)):=match e with
 | .sl _ _ sb sc l::r=>match kc c l with
  | some l'=>some ((sb,sc,l'),r)
  | none=>none
 | _=>none
def rM (c:Nat)(e:List (Atom E)):Option ((Nat × List ((E.mp c).K × (E.mp c).V)) × List (Atom E)):=match e with
 | .mp _ b m::r=>match gg c m with
  | some i=>some ((b,i),r)
  | none=>none
 | _=>none
structure PK (E:Ev):Type 1 where
 T:Type
 rd:Value->List (Atom E)->Option (T × List (Atom E))
 arg:T->Value
 ats:T->List (Atom E)
 rds:T->List (RdV E)
def pI (k:IntKind):PK E:=⟨Int,fun v e=>match v with
 | .int _ x=>some (x,e)
 | _=>none,fun x=>.int k x,fun _=>[],fun _=>[]⟩
def pB:PK E:=⟨Bool,fun v e=>match v with
 | .bool x=>some (x,e)
 | _=>none,fun x=>.bool x,fun _=>[],fun _=>[]⟩
def pV {α:Type}(dec:Value->Option α)(val:α -> Value):PK E:=⟨α,fun v e=>match dec v with
 | some x=>some (x,e)
 | none=>none,val,fun _=>[],fun _=>[]⟩
def pK (v:Value):PK E:=⟨Unit,fun _ e=>some ((),e),fun _=>v,fun _=>[],fun _=>[]⟩
def pO (D:OD E):PK E:=⟨Nat × D.A × D.M,fun v e=>match v with
 | .pointer (some ⟨p,_,_⟩)=>match D.rd e with
  | some (a,m,r)=>some ((p,a,m),r)
  | none=>none
 | _=>none,fun x=>.pointer (some ⟨x.1,0,none⟩),fun x=>D.flat x.1 x.2.1 x.2.2,fun _=>[]⟩
def pR (c:Nat):PK E:=⟨Option Addr × Nat × List (E.el c).α,fun v e=>match e with
 | .sl c' _ sb sc l::r=>match kc c l with
  | some l'=>some ((sb,sc,l'),r)
  | none=>none
 | _=>none,fun x=>.slice x.1 x.2.2.length x.2.1,fun _=>[],fun x=>[⟨c,x.1,x.2.1,x.2.2⟩]⟩
def pW (c:Nat)(T:TypeId):PK E:=⟨Option Addr × Nat × List (E.el c).α,fun v e=>match e with
 | .sl c' _ sb sc l::r=>match kc c l with
  | some l'=>some ((sb,sc,l'),r)
  | none=>none
 | _=>none,fun x=>.slice x.1 x.2.2.length x.2.1,fun x=>[.sl c T x.1 x.2.1 x.2.2],fun _=>[]⟩
def Ins:List (PK E)->Type
 | []=>Unit
 | p::ps=>p.T × Ins ps
def eP:(ps:List (PK E))->List Value->List (Atom E)->Option (Ins ps)
 | [],_,_=>some ()
 | p::ps,v::vs,e=>match p.rd v e with
  | some (x,r)=>match eP ps vs r with
   | some xs=>some (x,xs)
   | none=>none
  | none=>none
 | _::_,[],_=>none
def l8:(ps:List (PK E))->Ins ps->List Value
 | [],_=>[]
 | p::ps,x=>p.arg x.1::l8 ps x.2
def l9:(ps:List (PK E))->Ins ps->List (Atom E)
 | [],_=>[]
 | p::ps,x=>p.ats x.1++l9 ps x.2
def kD:(ps:List (PK E))->Ins ps->List (RdV E)
 | [],_=>[]
 | p::ps,x=>p.rds x.1++kD ps x.2
@[reducible] def zG (fid:Nat) (ps:List (PK E)) {T:Type} (model:Ins ps->Option T) (nN nA:Nat) (val:Ins ps->T->List Nat->List (Option Addr)->Value) (post:Ins ps->T->List Nat->List (Option Addr)->List (Atom E)):Con E :=
 ⟨fid,Ins ps,T,eP ps,l8 ps,l9 ps,kD ps,model,nN,nA,val,post,fun _ _=>none,fun _ _=>[],false,Unit,fun _ _=>none,0,fun _ _ _ _ _=>.tuple #[],fun _ _ _ _ _=>[]⟩
@[reducible] def eF (fid:Nat) (ps:List (PK E)) {T:Type} (model:Ins ps->Option T) (nN nA:Nat) (val:Ins ps->T->List Nat->List (Option Addr)->Value) (post:Ins ps->T->List Nat->List (Option Addr)->List (Atom E)) (opt:Ins ps->T->Option Int):Con E :=
 ⟨fid,Ins ps,T,eP ps,l8 ps,l9 ps,kD ps,model,nN,nA,val,post,fun i t=>some (opt i t),fun _ _=>[],false,Unit,fun _ _=>none,0,fun _ _ _ _ _=>.tuple #[],fun _ _ _ _ _=>[]⟩
@[reducible] def pn (fid:Nat) (ps:List (PK E)) {T:Type} (model:Ins ps->Option T) (nN nA:Nat) (val:Ins ps->T->List Nat->List (Option Addr)->Value) (post:Ins ps->T->List Nat->List (Option Addr)->List (Atom E)) (fx:Ins ps->T->List Prop):Con E :=
 ⟨fid,Ins ps,T,eP ps,l8 ps,l9 ps,kD ps,model,nN,nA,val,post,fun _ _=>none,fx,false,Unit,fun _ _=>none,0,fun _ _ _ _ _=>.tuple #[],fun _ _ _ _ _=>[]⟩
@[reducible] def cw (fid:Nat) (ps:List (PK E)) {T M:Type} (model:Ins ps->Option T) (nN nA:Nat) (val:Ins ps->T->List Nat->List (Option Addr)->Value) (post:Ins ps->T->List Nat->List (Option Addr)->List (Atom E)) (om:Ins ps->T->Option M) (nf:Nat)
  (val1:Ins ps->T->M->List Nat->List (Option Addr)->Value) (post1:Ins ps->T->M->List Nat->List (Option Addr)->List (Atom E)):Con E :=
 ⟨fid,Ins ps,T,eP ps,l8 ps,l9 ps,kD ps,model,nN,nA,val,post,fun _ _=>none,fun _ _=>[],true,M,om,nf,val1,post1⟩
abbrev Gt (E:Ev)(T:Type):=Kn E->Option T
def gI (t:Nat):Gt E Int:=fun st=>match look t st.L with
 | some (.int _ x)=>some x
 | _=>none
def gB (t:Nat):Gt E Bool:=fun st=>match look t st.L with
 | some (.bool x)=>some x
 | _=>none
def gO (D:OD E)(ks:List Nat):Gt E D.M:=fun st=>match lx ks st.As with
 | some e=>match D.rd e with
  | some (_,m,_)=>some m
  | none=>none
 | none=>none
def gL (c:Nat)(q:Nat):Gt E (List (E.el c).α):=fun st=>match getK q st.As with
 | some (.sl _ _ _ _ l)=>kc c l
 | _=>none
def g2 {A B:Type}(a:Gt E A)(b:Gt E B):Gt E (A × B):=fun st=>match a st,b st with
 | some x,some y=>some (x,y)
 | _,_=>none
def gU:Gt E Unit:=fun _=>some ()
abbrev Nx (E:Ev):=Kn E->Option (List Nat × List (Option Addr))
def nA (D:OD E)(ks:List Nat)(f:D.A->List Nat × List (Option Addr)):Nx E:=fun st=>match lx ks st.As with
 | some e=>match D.rd e with
  | some (i,_,_)=>some (f i)
  | none=>none
 | none=>none
def nxs:List (Nx E)->Nx E
 | [],_=>some ([],[])
 | x::r,st=>match x st,nxs r st with
  | some (a,b),some (c,d)=>some (a++c,b++d)
  | _,_=>none
def gj {T:Type}(a:Gt E T)(l:List (Nx E)):Kn E->Option (T × List Nat × List (Option Addr)):=fun st=>match a st,nxs l st with
 | some x,some (i,e)=>some (x,i,e)
 | _,_=>none
def gl {X V:Type}(x:Gt E X)(v:Gt E V)(l:List (Nx E)):Kn E->Option (X × V × List Nat × List (Option Addr)):=fun st=>match x st,v st,nxs l st with
 | some x,some v,some (i,e)=>some (x,v,i,e)
 | _,_,_=>none
def gt {T:Type}(a:Gt E T):Kn E->Option (T × List Nat × List (Option Addr)):=fun st=>match a st with
 | some x=>some (x,[],[])
 | none=>none
abbrev nn (l:List Nat)(i:Nat):Nat:=l.getD i 0
abbrev na (l:List (Option Addr))(i:Nat):Option Addr:=l.getD i none
def zipL {α:Type}:List Nat->List α -> List (Nat × α)
 | k::ks,x::xs=>(k,x)::zipL ks xs
 | _,_=>[]
def kp (ks:List Nat)(st:Kn E):Env:=match sel ks st.L with
 | some L=>L
 | none=>[]
def ka (ks:List Nat)(st:Kn E):List (Nat × Atom E):=match ks with
 | []=>[]
 | k::r=>match getK k st.As with
  | some a=>(k,a)::ka r st
  | none=>ka r st
def gP (k:Nat):Gt E Nat:=fun st=>match getK k st.As with
 | some (.blk b _ _)=>some b
 | some (.mp _ b _)=>some b
 | _=>none
def gA (D:OD E)(ks:List Nat):Gt E D.A:=fun st=>match lx ks st.As with
 | some e=>match D.rd e with
  | some (a,_,_)=>some a
  | none=>none
 | none=>none
def gC {α:Type}(k off n:Nat)(dec:List Value->Option α):Gt E α:=fun st=>match getK k st.As with
 | some (.blk _ _ cs)=>dec ((cs.drop off).take n)
 | _=>none
def gh (k:Nat):Gt E (Option Addr × Nat):=fun st=>match getK k st.As with
 | some (.sl _ _ sb sc _)=>some (sb,sc)
 | _=>none
def nPk (k:Nat):Nx E:=fun st=>match getK k st.As with
 | some (.blk b _ _)=>some ([b],[])
 | some (.mp _ b _)=>some ([b],[])
 | _=>none
def nSk (k:Nat):Nx E:=fun st=>match getK k st.As with
 | some (.sl _ _ sb sc _)=>some ([sc],[sb])
 | _=>none
def gOo (D:OD E)(ks:List Nat)(t:Nat):Gt E (Option D.M):=fun st=>match look t st.L with
 | some (.pointer none)=>some none
 | some (.pointer (some _))=>match gO D ks st with
  | some m=>some (some m)
  | none=>none
 | _=>none
def nPo (k:Nat):Nx E:=fun st=>match getK k st.As with
 | some (.blk b _ _)=>some ([b],[])
 | _=>some ([0],[])
def nAo (D:OD E)(ks:List Nat)(f:D.A->List Nat × List (Option Addr))(n m:Nat):Nx E:=fun st=>match lx ks st.As with
 | some e=>match D.rd e with
  | some (i,_,_)=>some (f i)
  | none=>none
 | none=>some (List.replicate n 0,List.replicate m none)
def gE:Gt E (Option Int):=fun st=>match getK 99999 st.ef with
 | some f=>some (some f.i)
 | none=>some none
def dI:List Value->Option Int
 | [.int _ x]=>some x
 | _=>none
def dB:List Value->Option Bool
 | [.bool x]=>some x
 | _=>none
def dvI:Value->Option Int
 | .int _ x=>some x
 | _=>none
def nav:List Nat->Code->Code
 | [],c=>c
 | 0::r,.seq x _=>nav r x
 | _::r,.seq _ y=>nav r y
 | 0::r,.cond _ x _=>nav r x
 | _::r,.cond _ _ y=>nav r y
 | _::r,.block _ x=>nav r x
 | _::r,.loop x=>nav r x
 | _::_,c=>c
def rsOf (P:Program)(f:Nat):List ResultVar:=match P.funcs[f]? with
 | some fn=>fn.results.toList
 | none=>[]
def zK (P:Program)(f:Nat):Code:=match P.funcs[f]? with
 | some fn=>match fn.body with
  | some c=>c
  | none=>.skip
 | none=>.skip
end
def fsk {E:Ev}{P:Program}(j:P.follows .mixedOrders=true)(C:Con E){fn:Func}{c:Code}(n:Nat)(src:List Src)(keys:List Nat)(out:Kn E->Option (C.T × List Nat × List (Option Addr)))(e:∀ i,Ct E P C.fid n C.T (retC P C (rsOf P C.fid) src keys out i))
  (hf:P.funcs[C.fid]? = some fn) (he:∀ args w,(callFunc C.fid args).run P w = .ok (.enter C.fid args) w) (l:fn.body=some c:=by rfl) (hn:fn.ntmps=n:=by rfl) (hr:fn.results=(rsOf P C.fid).toArray:=by kernel_rfl) (hl:∀ i,Nat.ble (C.args i).length n=true:=by intro _;rfl)
  (h1:∀ i,vcF C c (rsOf P C.fid) src keys out i (e i)=(vcF C c (rsOf P C.fid) src keys out i (e i)).rfx:=by intro i;kernel_rfl) (h2:∀ i s,(vcF C c (rsOf P C.fid) src keys out i (e i)).mod s=C.model i:=by intro i s;kernel_rfl):SCon E P:=⟨C,ig j C src keys out e hf l hn hr hl h1 h2,he⟩
end
noncomputable section
section
variable {E:Ev}
theorem oC {w0 w:World}{Y:HP}{L A1 As:List HP}(h:∀ As,St w0 (Y::As) w ↔ St w0 (L++As) w):St w0 (A1++(Y::As)) w ↔ St w0 (A1++(L++As)) w:=by
 constructor
 ·intro H;have H1:=(h (A1++As)).1 (H.perm (List.perm_middle));refine H1.perm ?_;rw[<- aA,<- aA];exact List.Perm.append_right As List.perm_append_comm
 ·intro H;have H1:=(h (A1++As)).2 (H.perm (by
   rw[<- aA,<- aA];exact List.Perm.append_right As List.perm_append_comm))
  exact H1.perm List.perm_middle.symm
theorem fs0 {w0 w:World}{Y:HP}{L As:List HP}(h:∀ As,St w0 (Y::As) w ↔ St w0 (L++As) w):St w0 (Y::As) w ↔ St w0 (L++As) w:=h As
theorem fs1 {w0 w:World}{A Y:HP}{L As:List HP}(h:∀ As,St w0 (Y::As) w ↔ St w0 (L++As) w):St w0 (A::Y::As) w ↔ St w0 (A::(L++As)) w:=oC (A1:=[A]) h
theorem fs2 {w0 w:World}{A B Y:HP}{L As:List HP}(h:∀ As,St w0 (Y::As) w ↔ St w0 (L++As) w):St w0 (A::B::Y::As) w ↔ St w0 (A::B::(L++As)) w:=oC (A1:=[A,B]) h
theorem fs3 {w0 w:World}{A B C Y:HP}{L As:List HP}(h:∀ As,St w0 (Y::As) w ↔ St w0 (L++As) w):St w0 (A::B::C::Y::As) w ↔ St w0 (A::B::C::(L++As)) w:=oC (A1:=[A,B,C]) h
theorem fs4 {w0 w:World}{A B C D Y:HP}{L As:List HP}(h:∀ As,St w0 (Y::As) w ↔ St w0 (L++As) w):St w0 (A::B::C::D::Y::As) w ↔ St w0 (A::B::C::D::(L++As)) w:=oC (A1:=[A,B,C,D]) h
theorem rdH (c:Nat){F:List HP}{X:HP}{sb:Option Addr}{sc:Nat}{l:List (E.el c).α}(hm:X∈F)(e:SlRd X (E.el c).enc (E.el c).sz sb l)(hC:l.length<=sc):RdV.holds (E:=E) F ⟨c,sb,sc,l⟩:=⟨X,hm,e,fun _ _=>hC⟩
theorem rd0 {F:List HP}:∀ r∈([]:List (RdV E)),r.holds F:=fun r h=>by cases h
theorem rdc {F:List HP}{r:RdV E}{L:List (RdV E)}(h:r.holds F)(e:∀ r∈L,r.holds F):∀ x∈r::L,x.holds F:=fun x i=>by
 cases i with
 | head=>exact h
 | tail _ h=>exact e _ h
theorem af {F:List HP}{X:HP}(hX:X∈F):∃ e,∀ (w0 w:World) (A:List HP),St w0 (A++F) w ↔ St w0 (X::(A++e)) w:=by
 obtain⟨s,t,rfl⟩:=List.append_of_mem hX;refine⟨s++t,fun w0 w A=>?_⟩;have hp:(A++(s++X::t)).Perm (X::(A++(s++t))):=by
  rw[<- aA,<- aA];exact List.perm_middle
 exact⟨fun H=>H.perm hp,fun H=>H.perm hp.symm⟩
theorem AF {w0 w:World}{X:HP}{As:List HP}{n m:Nat}(H:St w0 (X::As) w)(h:∀ g,X g->n<=m):n<=m:=H.fact h
theorem lsS {α:Type}{l:List α}{n:Nat}(h:l.length=n+1):∃ a r,l=a::r/\r.length=n:=by
 match l,h with
 | a::r,h=>exact⟨a,r,rfl,by simpa using h⟩
theorem ls0 {α:Type}{l:List α}(h:l.length=0):l=[]:=List.length_eq_zero_iff.1 h
end
end
end Go.Th
