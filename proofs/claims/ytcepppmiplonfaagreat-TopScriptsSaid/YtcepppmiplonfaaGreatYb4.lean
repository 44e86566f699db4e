/-
  The statements TopScripts of the program.
  Text 4 of 9: of what the proof needs (a row of the program: no condition is left); put together and made narrow by a program.
-/
import Derived.Test.YtcepppmiplonfaaGreatYb3
set_option linter.unusedVariables false
set_option linter.unusedSimpArgs false
namespace Go.Proofs.YtcepppmiplonfaaGreat
open Go.Th
noncomputable section
set_option maxRecDepth 10000
namespace Pj
structure Inv (p:zf) (T:Nat):Prop where
 most:0<=p.most/\p.most<=65536
 len:(p.l.length:Int)<=p.most
 fre:∀ f∈p.free,∃ (j:Nat) (x:zt),f=(j:Int)/\p.l[j]? = some x/\x.taken=false
 fnd:p.free.Nodup
 cov:∀ (j:Nat) (x:zt),p.l[j]? = some x->x.taken=false->(j:Int)∈p.free
 gen:∀ (j:Nat) (x:zt),p.l[j]? = some x->1<=x.gen/\x.gen<=T
def Live (p:zf)(r:zd)(v:zF):Prop:=∃ j:Nat,r.At=(j:Int)/\p.l[j]? = some ⟨r.Gen,true,v⟩
section
variable {p:zf} {T:Nat} {r:zd} {v:zF}
theorem Live.idx (h:Live p r v):mIdx p.l r.At=some ⟨r.Gen,true,v⟩:=by
 obtain⟨j,e,h⟩:=h;rw[e,yY];exact h
theorem Live.uniq {w:zF}(h:Live p r v)(j:Live p r w):v=w:=by
 have i:=h.idx;have e:=j.idx;rw[i] at e;simp only[Option.some.injEq,zt.mk.injEq,true_and] at e;exact e
theorem Inv.flen (I:Inv p T):p.free.length<=p.l.length:=by
 have h1:(p.free.map Int.toNat).Nodup:=List.pairwise_map.2 (I.fnd.imp_of_mem fun {x y} u z t e=>by
  obtain⟨i,_,rfl,_⟩:=I.fre x u;obtain⟨j,_,rfl,_⟩:=I.fre y z;simp only[tN] at e;exact t (by rw[e]))
 have h2:=pX (m:=List.range p.l.length) h1 fun x u=>by
  obtain⟨f,hf,rfl⟩:=List.mem_map.1 u;obtain⟨j,y,rfl,hj,_⟩:=I.fre f hf;simp only[tN,List.mem_range];exact (List.getElem?_eq_some_iff.1 hj).1
 simpa using h2
theorem wZ (I:Inv p T)(h:Live p r v):zZ p r=some (some r.At,0):=by
 have hi:=h.idx;obtain⟨j,e,h⟩:=h;have i:=I.gen _ _ h;simp only at i;have hl:=(List.getElem?_eq_some_iff.1 h).1;unfold zZ;rw[dF (by omega),dF (by omega),dF (by omega),hi];simp
theorem vR (I:Inv p T)(h:Live p r v):yx p r=some (v,0):=by
 unfold yx;rw[wZ I h];simp[uA,oS,h.idx]
theorem px (I:Inv p T)(h:Live p r v)(w:zF):xB p r w=some (0,zf.mk p.most (mSet p.l r.At ⟨r.Gen,true,w⟩) p.free):=by
 unfold xB;rw[wZ I h];simp[uA,oS,h.idx]
theorem qB (I:Inv p T)(h:Live p r v):yb p r=some (v,0,zf.mk p.most (mSet p.l r.At ⟨r.Gen,false,(zF.mk 0 0 0 (zd.mk 0 0))⟩) (p.free++[r.At])):=by
 have e:=I.flen;have h1:=I.len;have h2:=I.most;unfold yb;rw[wZ I h];simp only[bS,uA,oS,h.idx];rw[xu (by simp only[List.length_singleton];omega)];simp[mSet]
theorem qO (I:Inv p T)(u:T<4611686018427387904){fs:List Int}{j:Nat}{x:zt}(hf:p.free=fs++[(j:Int)])(hj:p.l[j]? = some x) :
  yt p v=some (zd.mk (j:Int) (x.gen+1),true,zf.mk p.most (mSet p.l (j:Int) ⟨x.gen+1,true,v⟩) fs):=by
 have y:=I.gen _ _ hj;have t:fs.length<1000000:=by
  have h0:=I.flen;rw[hf] at h0;simp only[lA,List.length_singleton] at h0;have:=I.len;have:=I.most;omega
 have hw:w64 (((fs++[(j:Int)]).length:Int) - 1)=(fs.length:Int):=by
  rw[yi] <;> simp <;> omega
 have i:mIdx (fs++[(j:Int)]) (fs.length:Int)=some (j:Int):=yE fs [] (j:Int);have e:mCut (fs++[(j:Int)]) 0 (fs.length:Int)=some fs:=by
  unfold mCut;rw[if_pos ⟨by omega,by omega,by simp;omega⟩];simp
 unfold yt;rw[hf,hw,dT (by omega)];simp only[cT,i,e,bS];rw[yY,hj];simp only[bS];rw[yi (by omega) (by omega)];simp[mSet]
theorem oH (I:Inv p T)(hf:p.free=[])(hl:(p.l.length:Int)<p.most) :
  yt p v=some (zd.mk (p.l.length:Int) 1,true,zf.mk p.most (p.l++[⟨1,true,v⟩]) []):=by
 have:=I.most;unfold yt;rw[hf];rw[show w64 ((([]:List Int).length:Int) - 1) = -1 by rw[yi] <;> simp];rw[dF (by omega)];simp only[cF];rw[dF (by omega)];simp only[cF];rw[xu (by simp only[List.length_singleton];omega)];simp only[bS];rw[yE];simp only[bS];rw[show w64 (0+1)=1 by rw[yi] <;> simp];simp[mSet]
theorem yQ {l:List zt}{j i:Nat}{x y:zt}(h:l[j]? = some y):(l.set j x)[i]? = if i=j then some x else l[i]?:=by
 have:=(List.getElem?_eq_some_iff.1 h).1;by_cases e:i=j
 ·subst e;rw[if_pos rfl,List.getElem?_set_self this]
 ·rw[if_neg e,getD_set_ne (fun h=>e h.symm)]
theorem pw (I:Inv p T)(h:Live p r v)(w:zF):Inv (zf.mk p.most (mSet p.l r.At ⟨r.Gen,true,w⟩) p.free) T:=by
 obtain⟨j,e,h⟩:=h;have u:=I.gen _ _ h;refine⟨I.most,by simpa[mSet] using I.len,fun f hf=>?_,I.fnd,fun i x t ht=>?_,fun i x t=>?_⟩
 ·obtain⟨i,x,rfl,hi,t⟩:=I.fre f hf;refine⟨i,x,rfl,?_,t⟩;simp only[mSet,e,tN];rw[yQ h,if_neg];exact hi;rintro rfl;rw[h] at hi;cases hi;simp at t
 ·simp only[mSet,e,tN] at t;rw[yQ h] at t;split at t
  ·cases t;simp at ht
  ·exact I.cov i x t ht
 ·simp only[mSet,e,tN] at t;rw[yQ h] at t;split at t
  ·cases t;exact u
  ·exact I.gen i x t
theorem rl (h:Live p r v)(w:zF)(s:zd)(u:zF):Live (zf.mk p.most (mSet p.l r.At ⟨r.Gen,true,w⟩) p.free) s u ↔ (s=r/\u=w) \/ (s≠r/\Live p s u):=by
 obtain⟨j,e,h⟩:=h;constructor
 ·rintro⟨i,t,hi⟩;simp only[mSet,e,tN] at hi;rw[yQ h] at hi;split at hi
  ·rename_i x;subst x;simp only[Option.some.injEq,zt.mk.injEq,true_and] at hi;refine Or.inl ⟨?_,hi.2.symm⟩;cases s;cases r;simp only at e t hi ⊢;rw[t,e,hi.1]
  ·rename_i x;refine Or.inr ⟨?_,i,t,hi⟩;rintro rfl;exact x (by omega)
 ·rintro (⟨rfl,rfl⟩|⟨y,i,t,hi⟩)
  ·refine⟨j,e,?_⟩;simp only[mSet,e,tN];rw[yQ h,if_pos rfl]
  ·refine⟨i,t,?_⟩;simp only[mSet,e,tN];rw[yQ h,if_neg];exact hi;rintro rfl;rw[h] at hi;simp only[Option.some.injEq,zt.mk.injEq,true_and] at hi;refine y ?_;cases s;cases r;simp only at e t hi ⊢;rw[t,e,hi.1]
theorem nI (I:Inv p T)(h:Live p r v):Inv (zf.mk p.most (mSet p.l r.At ⟨r.Gen,false,(zF.mk 0 0 0 (zd.mk 0 0))⟩) (p.free++[r.At])) T:=by
 obtain⟨j,e,h⟩:=h;have A:=I.gen _ _ h;have y:r.At ∉ p.free:=by
  intro hf;obtain⟨i,x,B,hi,t⟩:=I.fre _ hf;have:i=j:=by omega
  subst this;rw[h] at hi;cases hi;simp at t
 refine⟨I.most,by simpa[mSet] using I.len,fun f hf=>?_,?_,fun i x t ht=>?_,fun i x t=>?_⟩
 ·simp only[mSet,e,tN];rcases List.mem_append.1 hf with hf|hf
  ·obtain⟨i,x,rfl,hi,t⟩:=I.fre f hf;refine⟨i,x,rfl,?_,t⟩;rw[yQ h,if_neg];exact hi;rintro rfl;rw[h] at hi;cases hi;simp at t
  ·rw[List.mem_singleton.1 hf,e];exact⟨j,_,rfl,by rw[yQ h,if_pos rfl],rfl⟩
 ·exact List.nodup_append.2 ⟨I.fnd,by simp,fun a ha b z=>by rw[List.mem_singleton.1 z];rintro rfl;exact y ha⟩
 ·simp only[mSet,e,tN] at t;rw[yQ h] at t;split at t
  ·rename_i u;subst u;exact List.mem_append_right _ (by rw[e];simp)
  ·exact mL _ (I.cov i x t ht)
 ·simp only[mSet,e,tN] at t;rw[yQ h] at t;split at t
  ·cases t;exact A
  ·exact I.gen i x t
theorem pS (h:Live p r v)(s:zd)(u:zF):Live (zf.mk p.most (mSet p.l r.At ⟨r.Gen,false,(zF.mk 0 0 0 (zd.mk 0 0))⟩) (p.free++[r.At])) s u ↔ s≠r/\Live p s u:=by
 obtain⟨j,e,h⟩:=h;constructor
 ·rintro⟨i,t,hi⟩;simp only[mSet,e,tN] at hi;rw[yQ h] at hi;split at hi
  ·simp at hi
  ·rename_i x;refine⟨?_,i,t,hi⟩;rintro rfl;exact x (by omega)
 ·rintro⟨y,i,t,hi⟩;refine⟨i,t,?_⟩;simp only[mSet,e,tN];rw[yQ h,if_neg];exact hi;rintro rfl;rw[h] at hi;simp only[Option.some.injEq,zt.mk.injEq,true_and] at hi;refine y ?_;cases s;cases r;simp only at e t hi ⊢;rw[t,e,hi.1]
theorem oo (I:Inv p T)(W:T<4611686018427387904)(z:(p.l.length:Int)<p.most+p.free.length)(v:zF) :
  ∃ r p',yt p v=some (r,true,p')/\Inv p' (T+1)/\(∀ w,¬ Live p r w)/\(∀ s u,Live p' s u ↔ (s=r/\u=v) \/ Live p s u)/\p'.most=p.most/\(p'.l.length:Int) - p'.free.length=(p.l.length:Int) - p.free.length+1:=by
 rcases List.eq_nil_or_concat p.free with hf|⟨fs,f,hf⟩
 ·rw[hf] at z;refine⟨_,_,oH I hf (by simpa using z),⟨I.most,by simp at z ⊢;omega,by simp,by simp,?_,?_⟩,?_,?_,rfl,by rw[hf];simp⟩
  ·intro j x t ht;simp only at t;by_cases hj:j<p.l.length
   ·rw[List.getElem?_append_left hj] at t;have:=I.cov j x t ht;rw[hf] at this;simp at this
   ·rw[List.getElem?_append_right (by omega)] at t;by_cases e:j - p.l.length=0
    ·rw[e] at t;simp at t;subst t;simp at ht
    ·rw[List.getElem?_eq_none (by simp;omega)] at t;cases t
  ·intro j x t;simp only at t;by_cases hj:j<p.l.length
   ·rw[List.getElem?_append_left hj] at t;have:=I.gen j x t;omega
   ·rw[List.getElem?_append_right (by omega)] at t;by_cases e:j - p.l.length=0
    ·rw[e] at t;simp at t;subst t;simp;omega
    ·rw[List.getElem?_eq_none (by simp;omega)] at t;cases t
  ·rintro w ⟨j,e,h⟩;have:=(List.getElem?_eq_some_iff.1 h).1;simp only at e;omega
  ·intro s u;constructor
   ·rintro⟨j,e,h⟩;simp only at h;by_cases hj:j<p.l.length
    ·rw[List.getElem?_append_left hj] at h;exact Or.inr ⟨j,e,h⟩
    ·rw[List.getElem?_append_right (by omega)] at h;by_cases U:j - p.l.length=0
     ·rw[U] at h;simp at h;refine Or.inl ⟨?_,h.2.symm⟩;cases s;simp only at e h ⊢;rw[e,<- h.1];congr 1;omega
     ·rw[List.getElem?_eq_none (by simp;omega)] at h;cases h
   ·rintro (⟨rfl,rfl⟩|⟨j,e,h⟩)
    ·exact⟨p.l.length,rfl,by simp⟩
    ·have:=(List.getElem?_eq_some_iff.1 h).1;exact⟨j,e,by rw[List.getElem?_append_left this];exact h⟩
 ·rw[List.concat_eq_append] at hf;obtain⟨j,x,rfl,hj,ht⟩:=I.fre f (by rw[hf];simp);have X:=I.gen j x hj;have hn:=I.fnd;rw[hf] at hn;obtain⟨O,-,S⟩:=List.nodup_append.1 hn;have J:(j:Int) ∉ fs:=fun h=>S _ h _ (List.mem_singleton.2 rfl) rfl
  refine⟨_,_,qO I W hf hj,⟨I.most,by simpa[mSet] using I.len,?_,O,?_,?_⟩,?_,?_,rfl,by rw[hf];simp[mSet];omega⟩
  ·intro f B;obtain⟨i,y,rfl,hi,A⟩:=I.fre f (by rw[hf];exact mL _ B);refine⟨i,y,rfl,?_,A⟩;simp only[mSet,tN];rw[yQ hj,if_neg];exact hi;rintro rfl;exact J B
  ·intro i y A F;simp only[mSet,tN] at A;rw[yQ hj] at A;split at A
   ·cases A;simp at F
   ·rename_i D;have:=I.cov i y A F;rw[hf] at this;rcases List.mem_append.1 this with h|h
    ·exact h
    ·simp at h;omega
  ·intro i y A;simp only[mSet,tN] at A;rw[yQ hj] at A;split at A
   ·cases A;simp only;omega
   ·have:=I.gen i y A;omega
  ·rintro w ⟨i,e,h⟩;simp only at e h;have:i=j:=by omega
   subst this;rw[hj] at h;simp only[Option.some.injEq] at h;rw[h] at ht;simp at ht
  ·intro s u;constructor
   ·rintro⟨i,e,h⟩;simp only[mSet,tN] at h;rw[yQ hj] at h;split at h
    ·rename_i D;subst D;simp only[Option.some.injEq,zt.mk.injEq,true_and] at h;refine Or.inl ⟨?_,h.2.symm⟩;cases s;simp only at e h ⊢;rw[e,<- h.1]
    ·exact Or.inr ⟨i,e,h⟩
   ·rintro (⟨rfl,rfl⟩|⟨i,e,h⟩)
    ·refine⟨j,rfl,?_⟩;simp only[mSet,tN];rw[yQ hj,if_pos rfl]
    ·refine⟨i,e,?_⟩;simp only[mSet,tN];rw[yQ hj,if_neg];exact h;rintro rfl;rw[hj] at h;simp only[Option.some.injEq] at h;rw[h] at ht;simp at ht
end
end Pj
end
noncomputable section
set_option maxRecDepth 10000
namespace Pj
def refs:List zt->Nat->List zd
 | [],_=>[]
 | x::l,i=>(if x.taken=true then [zd.mk (i:Int) x.gen] else [])++refs l (i+1)
theorem pd {r:zd}:∀ {l:List zt}{i:Nat},r∈refs l i ↔ ∃ (j:Nat) (x:zt),r.At=((i+j:Nat):Int)/\l[j]? = some x/\x.taken=true/\r.Gen=x.gen
 | [],i=>by simp[refs]
 | x::l,i=>by
  rw[refs,iA,pd];constructor
  ·rintro (h|⟨j,y,e,h,ht,t⟩)
   ·split at h
    ·rw[List.mem_singleton.1 h];exact⟨0,x,rfl,rfl,by assumption,rfl⟩
    ·cases h
   ·exact⟨j+1,y,by rw[e];congr 1;omega,h,ht,t⟩
  ·rintro⟨j,y,e,h,ht,t⟩;cases j with
   | zero =>
    simp only[List.getElem?_cons_zero,Option.some.injEq] at h;subst h
    left
    rw[if_pos ht];cases r;simp only at e t ⊢;rw[e,t];simp
   | succ j=>exact Or.inr ⟨j,y,by rw[e];congr 1;omega,h,ht,t⟩
theorem fZ {r:zd}{l:List zt}{i:Nat}(h:r∈refs l i):(i:Int)<=r.At:=by
 obtain⟨j,x,e,_⟩:=pd.1 h;omega
theorem qJ:∀ {l:List zt}{i:Nat},(refs l i).Nodup
 | [],i=>List.nodup_nil
 | x::l,i=>by
  rw[refs];refine List.nodup_append.2 ⟨by split <;> simp,qJ,fun a ha b j e=>?_⟩;have:=fZ j;split at ha
  ·rw[List.mem_singleton.1 ha] at e;subst e;simp only at this;omega
  ·cases ha
theorem ma:∀ {l:List zt}{i:Nat},(refs l i).length<=l.length
 | [],i=>Nat.le_refl _
 | x::l,i=>by
  have:=ma (l:=l) (i:=i+1);rw[refs,lA,lC];split <;> simp <;> omega
theorem hG {p:zf}(hl:p.l.length<=65536):∀ (rest pre:List zt) (out:List zd) (m:Nat),p.l=pre++rest->out.length<=pre.length->rest.length<m ->
  y8 (p.l.length:Int) p m out (pre.length:Int)=some (out++refs rest pre.length)
 | [],pre,out,m+1,e,j,hm=>by
  unfold y8;rw[dF (by rw[e];simp),cF,refs,aN]
 | x::rest,pre,out,m+1,e,j,hm=>by
  have hlen:p.l.length=pre.length+(rest.length+1):=by rw[e];simp
  have ih:=hG hl rest (pre++[x]) (out++(if x.taken=true then [zd.mk (pre.length:Int) x.gen] else [])) m (by rw[e];simp) (by rw[lA,lA];split <;> simp <;> omega) (by simp only[lC] at hm;omega);have i:mIdx p.l (pre.length:Int)=some x:=by rw[e];exact yE pre rest x
  unfold y8;rw[dT (by omega),cT,i];simp only[bS];rw[yi (by omega) (by omega)];rw[show ((pre++[x]).length:Int)=(pre.length:Int)+1 by simp] at ih;rw[show (pre++[x]).length=pre.length+1 by simp] at ih;rw[refs,<- aA];cases ht:x.taken with
  | true =>
   rw[ht,if_pos rfl] at ih;rw[cT,xu (by simp only[List.length_singleton];omega)];simp only[bS,if_true];exact ih
  | false =>
   rw[ht] at ih;simp only[Bool.false_eq_true,if_false,aN,cF,bS] at ih ⊢;exact ih
section
variable {p:zf} {T:Nat}
def out (p:zf):List zd:=refs p.l 0
theorem Inv.lb (I:Inv p T):p.l.length<=65536:=by have:=I.len;have:=I.most;omega
theorem ll (I:Inv p T){k:Nat}(hk:65536<k):xZ k p=some (out p):=by
 have:=I.lb;unfold xZ;rw[show (0:Int)=(([]:List zt).length:Int) from rfl,hG this p.l [] [] k rfl (Nat.le_refl _) (by omega)]
 rfl
theorem kh {r:zd}:r∈out p ↔ ∃ v,Live p r v:=by
 unfold out Live;rw[pd];constructor
 ·rintro⟨j,x,e,h,ht,i⟩;refine⟨x.v_,j,by rw[e];congr 1;omega,?_⟩;rw[h];cases x;simp only at ht i ⊢;rw[ht,i]
 ·rintro⟨v,j,e,h⟩;exact⟨j,_,by rw[e];congr 1;omega,h,rfl,rfl⟩
theorem ki:(out p).Nodup:=qJ
theorem Inv.dt (I:Inv p T):(out p).length<=65536:=Nat.le_trans ma I.lb
theorem fV {n:Int}(h0:0<=n)(h1:n<=65536)(T:Nat):Inv (zf.mk n [] []) T :=
 ⟨⟨h0,h1⟩,by simpa using h0,by simp,List.nodup_nil,by simp,by simp⟩
theorem dh {n:Int}{r:zd}{v:zF}:¬ Live (zf.mk n [] []) r v:=by
 rintro⟨j,_,h⟩;simp at h
theorem Inv.mono {T':Nat}(I:Inv p T)(h:T<=T'):Inv p T':={ I with gen:=fun j x e=>by have:=I.gen j x e;omega }
end
end Pj
end
noncomputable section
set_option maxRecDepth 10000
structure JR where
 q:Int
 data:Int
 R:zd
 item:zd
 it:It
def JR.pr (j:JR):zd × It:=(j.item,j.it)
def JR.job (j:JR):zF:=zF.mk j.q j.it.k j.data j.item
def sel (x:Int)(L:List JR):List (zd × It):=(L.filter fun j=>j.q == x).map JR.pr
theorem qs (x:Int)(A B:List JR):sel x (A++B)=sel x A++sel x B:=by simp[sel]
theorem aC {x:Int}{j:JR}(h:j.q=x)(B:List JR):sel x (j::B)=j.pr::sel x B:=by simp[sel,List.filter_cons,h]
theorem aB {x:Int}{j:JR}(h:j.q≠x)(B:List JR):sel x (j::B)=sel x B:=by simp[sel,List.filter_cons,h]
theorem mK {x:Int}{L:List JR}{p:zd × It}:p∈sel x L ↔ ∃ j∈L,j.q=x/\p=j.pr:=by
 simp only[sel,List.mem_map,List.mem_filter,beq_iff_eq];constructor
 ·rintro⟨j,⟨h1,h2⟩,rfl⟩;exact⟨j,h1,h2,rfl⟩
 ·rintro⟨j,h1,h2,rfl⟩;exact⟨j,⟨h1,h2⟩,rfl⟩
theorem kA:∀ {L:List JR},(∀ j∈L,j.q=0 \/ j.q=1)->(sel 0 L++sel 1 L).Perm (L.map JR.pr)
 | [],_=>.refl _
 | j::L,h=>by
  have ih:=kA fun j hj=>h j (mC _ hj)
  rcases h j (List.mem_cons_self ..) with e|e
  ·rw[aC e,aB (by omega),List.cons_append,pC];exact ih.cons _
  ·rw[aC e,aB (by omega),pC];exact List.perm_middle.trans (ih.cons _)
def PQ2 (N:Nat)(q:zr)(T:Nat)(k:Int)(r0 r1:zd)(L:List JR):Prop :=
 ∃ h0 h1:HR,PQ N q T [h0,h1]/\h0.ref=r0/\h1.ref=r1/\h0.k=k/\h1.k=k/\h0.rs.Perm (sel 0 L)/\h1.rs.Perm (sel 1 L)
section
variable {N:Nat} {q:zr} {T:Nat} {k:Int} {r0 r1:zd} {L:List JR}
theorem PQ2.focus (P:PQ2 N q T k r0 r1 L){x:Int}(y:x=0 \/ x=1):∃ h g:HR,mIdx [r0,r1] x=some h.ref/\PQ N q T [h,g]/\h.k=k/\h.rs.Perm (sel x L)/\g.rs.Perm (sel (1 - x) L) /\
  ∀ i T' r' C' e L',PQ N i T' (⟨h.ref,h.k,r',C',e⟩::[g])->e.Perm (sel x L')->sel (1 - x) L'=sel (1 - x) L->PQ2 N i T' k r0 r1 L':=by
 obtain⟨h0,h1,Q,e0,l,k0,t,p0,u⟩:=P;rcases y with rfl|rfl
 ·refine⟨h0,h1,by rw[e0];rfl,Q,k0,p0,u,?_⟩;intro i T' r' C' e L' j hp hs;exact⟨_,h1,j,e0,l,k0,t,hp,u.trans (by rw[show (1 - 0:Int)=1 from rfl] at hs;rw[hs])⟩
 ·refine⟨h1,h0,by rw[l];rfl,Q.p (List.Perm.swap ..),t,u,p0,?_⟩;intro i T' r' C' e L' j hp hs;exact⟨h0,_,j.p (List.Perm.swap ..),e0,l,k0,t,p0.trans (by rw[show (1 - 1:Int)=0 from rfl] at hs;rw[hs]),hp⟩
theorem PQ2.same (P:PQ2 N q T k r0 r1 L){e:zr}{T':Nat}(h:∀ hs,PQ N q T hs->PQ N e T' hs):PQ2 N e T' k r0 r1 L:=by
 obtain⟨h0,h1,Q,r⟩:=P;exact⟨h0,h1,h _ Q,r⟩
end
def wb (N:Nat):Nat:=43*min N 60+900
theorem Ez (N:Nat):wb N<=3480:=by
 unfold wb;omega
structure DI (N:Nat) (k:Int) (d:zb) (L:List JR) (T:Nat):Prop where
 kd:Kd k
 dk:d.kind=k
 dm:d.most=N
 nb:1<=N/\N<=4096
 pq:PQ2 N d.q T k d.heaps0 d.heaps1 L
 jq:∀ j∈L,j.q=0 \/ j.q=1
 jp:Pj.Inv d.t_.p T
 jm:d.t_.p.most=N
 jl:∀ r v,Pj.Live d.t_.p r v ↔ ∃ j∈L,r=j.R/\v=j.job
 by1:(d.t_.by_.map Prod.fst).Nodup
 by2:∀ i r,mGet zd.eq i d.t_.by_=some r ↔ ∃ j∈L,i=j.item/\r=j.R
 wh1:(d.when.map Prod.fst).Nodup
 wh2:∀ r s,mGet zd.eq r d.when=some s ↔ ∃ j∈L,r=j.R/\s=j.it.s
 rn:(L.map JR.R).Nodup
 cn:(d.t_.p.l.length:Int) - d.t_.p.free.length=L.length
 bu:(wb N:Int)+1000<=d.budget
 la:0<=d.last/\d.last<=d.budget
 to:0<=d.top/\d.top<=d.budget
 lb:L.length<=60
def dq (d:zb)(q:zr)(t:zq)(w:List (zd × Int)):zb :=
 zb.mk d.kind d.most q d.heaps0 d.heaps1 t w d.clock d.budget d.last d.top
def Stp (d d':zb)(B:Nat):Prop:=d.q.a_.m_.steps<=d'.q.a_.m_.steps/\d'.q.a_.m_.steps<=d.q.a_.m_.steps+B
def no (e:Int):zn:=zn.mk e (zd.mk 0 0) 0 0 0
section
variable {N:Nat} {k:Int} {d:zb} {L:List JR} {T:Nat} {f:Nat}
theorem DI.items (D:DI N k d L T):(L.map JR.item).Nodup/\L.length<=N/\(L.map fun j=>j.it.s).Nodup /\ ∀ j∈L,0<=j.it.s/\j.it.s<d.q.serial:=by
 obtain⟨h0,h1,Q,e0,i,k0,l,p0,e⟩:=D.pq;have hp:(allR [h0,h1]).Perm (L.map JR.pr):=by
  have:allR [h0,h1]=h0.rs++h1.rs:=by simp[allR]
  rw[this];exact (p0.append e).trans (kA D.jq)
 have h1:=((hp.map Prod.fst).nodup_iff).1 Q.rn;have h2:=Q.Eu;have h3:=((hp.map fun p=>p.2.s).nodup_iff).1 Q.sn;rw[List.map_map] at h1 h3;rw[hp.length_eq,lM] at h2;refine⟨h1,h2,h3,fun j hj=>?_⟩;have:=Q.sr j.pr (hp.mem_iff.2 (List.mem_map_of_mem hj));exact this
theorem cZ {k:Int}{N n:Nat}(h:n<=N)(hn:n<=60):bd k n<=wb N:=by
 unfold bd wb;split <;> omega
theorem iT {x:Int}{L:List JR}:(sel x L).length<=L.length:=by
 unfold sel;rw[lM];exact List.length_filter_le _ _
theorem An (D:DI N k d L T):wc d.t_.p=some (L.length:Int):=by
 have:=D.items.2.1;have:=D.nb;unfold wc;rw[D.cn,yi (by omega) (by omega)]
theorem lH {x:Int}{L:List JR}{j:JR}(hj:j.q=x){A B:List JR}(e:L=A++j::B):(sel x L).Perm (j.pr::sel x (A++B))/\sel (1 - x) (A++B)=sel (1 - x) L:=by
 rw[e,qs,qs,qs,qs,aC hj,aB (by omega)];exact⟨List.perm_middle,rfl⟩
theorem DI.schedule (D:DI N k d L T)(hS:L.length<60)(hT:T<1000000)(hf:95000<f){c:zk}(hq:c.Queue=0 \/ c.Queue=1) :
  Do (xL f d c) fun res=>(L.length=N/\res=(no 13,d)) \/
   (L.length<N /\ ∃ (j:JR) (B:zr) (p':zf) (v:zF),j.q=c.Queue/\j.data=c.Data/\j.it.k=c.Time/\j.it.s=d.q.serial/\B.serial=d.q.serial+1 /\
    yt d.t_.p v=some (j.R,true,p') /\
    res=(zn.mk 0 j.R c.Time c.Data 0,dq d B (zq.mk p' (mPut zd.eq j.item j.R d.t_.by_)) (mPut zd.eq j.R d.q.serial d.when)) /\
    DI N k (dq d B (zq.mk p' (mPut zd.eq j.item j.R d.t_.by_)) (mPut zd.eq j.R d.q.serial d.when)) (L++[j]) (T+1)/\Stp d (dq d B (zq.mk p' (mPut zd.eq j.item j.R d.t_.by_)) (mPut zd.eq j.R d.q.serial d.when)) (wb N+70)):=by
 have b3:=D.nb;have b2:=D.items;have O:=An D;unfold xL sD;rw[O];simp only[bS];refine Do.if (fun e=>?_) (fun e=>?_)
 ·have W:=of_decide_eq_true e;rw[D.dm] at W;exact⟨_,rfl,Or.inl ⟨by omega,rfl⟩⟩
 ·have W:=of_decide_eq_false e;rw[D.dm] at W;have a1:L.length<N:=by omega
  obtain⟨h,g,a0,Q,hk,u,J,back⟩:=D.pq.focus hq;rw[a0];simp only[bS];have a7:(allR [h,g]).length=L.length:=by
   have h1:allR [h,g]=h.rs++g.rs:=by simp[allR]
   have h2:=(kA D.jq).length_eq;rw[h1,lA,u.length_eq,J.length_eq];rw[lA,lM] at h2;rcases hq with e|e <;> rw[e] <;> simp <;> omega
  have b4:h.rs.length<=L.length:=by rw[u.length_eq];exact iT
  refine (Q.Ag (f:=f) (by omega) (by omega) (by omega) hf 0 c.Time (zd.mk 0 0) (zd.mk 0 0)).bind ?_;rintro _ ⟨i,x,r',C',B,rfl,z,A,Q',S,U⟩;simp only;have y:∀ j∈L,j.item≠i:=by
   intro j hj e;have h1:=Q'.rn;rw[vj,List.cons_append,pC,List.nodup_cons] at h1;refine h1.1 ?_;have h2:j.pr∈sel 0 L++sel 1 L:=(kA D.jq).mem_iff.2 (List.mem_map_of_mem hj);have h3:j.pr∈h.rs++allR [g]:=by
    have e3:allR [g]=g.rs:=by simp[allR]
    rw[e3];refine ((u.append J).mem_iff).2 ?_;rcases List.mem_append.1 h2 with h2|h2 <;> rcases hq with e|e <;> rw[e] <;> simp[h2]
   exact List.mem_map.2 ⟨j.pr,h3,e⟩
  have X:mGet zd.eq i d.t_.by_=none:=by
   cases I:mGet zd.eq i d.t_.by_ with
   | none=>rfl
   | some r =>
    obtain⟨j,hj,e1,_⟩:=(D.by2 _ _).1 I;exact absurd e1.symm (y j hj)
  obtain⟨R,p',hR,I',Z,a2,a3,Y⟩:=Pj.oo D.jp (by omega) (by have:=D.cn;rw[D.jm];omega) (zF.mk c.Queue c.Time c.Data i);unfold qp;simp only;rw[cg X];simp only[bS];rw[O];unfold vv;simp only[bS];rw[show ((L.length:Int) == d.t_.p.most)=false by rw[D.jm];simp;omega,cF,cF,hR];refine⟨_,rfl,Or.inr ⟨a1,⟨c.Queue,c.Data,R,i,x⟩,B,p',zF.mk c.Queue c.Time c.Data i,rfl,rfl,z,A,S,hR,rfl,?_,?_⟩⟩
  ·have t:∀ j,j∈L++[(⟨c.Queue,c.Data,R,i,x⟩:JR)] ↔ j∈L \/ j=⟨c.Queue,c.Data,R,i,x⟩:=by simp
   have F:∀ j∈L,j.R≠R:=fun j hj e=>Z _ ((D.jl _ _).2 ⟨j,hj,e.symm,rfl⟩)
   refine⟨D.kd,D.dk,D.dm,D.nb,?_,?_,I',a3.trans D.jm,?_,rN uL D.by1,?_,rN uL D.wh1,?_,?_,?_,D.bu,D.la,D.to,by simp;omega⟩
   ·refine back _ _ _ _ _ _ Q' ?_ ?_
    ·rw[qs,aC (x:=c.Queue) (j:=⟨c.Queue,c.Data,R,i,x⟩) rfl];exact (u.cons (i,x)).trans (List.perm_append_singleton (i,x) (sel c.Queue L)).symm
    ·rw[qs,aB (j:=⟨c.Queue,c.Data,R,i,x⟩) (by simp only;omega)];simp[sel]
   ·intro j hj;rcases (t j).1 hj with hj|rfl
    ·exact D.jq j hj
    ·exact hq
   ·intro r v;refine (a2 r v).trans ⟨?_,?_⟩
    ·rintro (⟨rfl,rfl⟩|hl)
     ·exact⟨_,(t _).2 (Or.inr rfl),rfl,by simp only[JR.job,z]⟩
     ·obtain⟨j,hj,e⟩:=(D.jl _ _).1 hl;exact⟨j,(t _).2 (Or.inl hj),e⟩
    ·rintro⟨j,hj,rfl,rfl⟩;rcases (t j).1 hj with hj|rfl
     ·exact Or.inr ((D.jl _ _).2 ⟨j,hj,rfl,rfl⟩)
     ·exact Or.inl ⟨rfl,by simp only[JR.job,z]⟩
   ·intro i2 r;refine (qY uL).trans ⟨?_,?_⟩
    ·rintro (⟨rfl,rfl⟩|⟨a4,I⟩)
     ·exact⟨_,(t _).2 (Or.inr rfl),rfl,rfl⟩
     ·obtain⟨j,hj,e⟩:=(D.by2 _ _).1 I;exact⟨j,(t _).2 (Or.inl hj),e⟩
    ·rintro⟨j,hj,rfl,rfl⟩;rcases (t j).1 hj with hj|rfl
     ·exact Or.inr ⟨y j hj,(D.by2 _ _).2 ⟨j,hj,rfl,rfl⟩⟩
     ·exact Or.inl ⟨rfl,rfl⟩
   ·intro r s;refine (qY uL).trans ⟨?_,?_⟩
    ·rintro (⟨rfl,rfl⟩|⟨a4,I⟩)
     ·exact⟨_,(t _).2 (Or.inr rfl),rfl,A.symm⟩
     ·obtain⟨j,hj,e⟩:=(D.wh2 _ _).1 I;exact⟨j,(t _).2 (Or.inl hj),e⟩
    ·rintro⟨j,hj,rfl,rfl⟩;rcases (t j).1 hj with hj|rfl
     ·exact Or.inr ⟨F j hj,(D.wh2 _ _).2 ⟨j,hj,rfl,rfl⟩⟩
     ·exact Or.inl ⟨rfl,A⟩
   ·rw[List.map_append];refine List.nodup_append.2 ⟨D.rn,by simp,?_⟩;intro a ha b hb e;obtain⟨j,hj,rfl⟩:=List.mem_map.1 ha;simp only[pC,List.map_nil,List.mem_singleton] at hb;exact F j hj (e.trans hb)
   ·have:=D.cn;show (p'.l.length:Int) - p'.free.length=_;rw[Y];simp only[lA,lC,List.length_nil];omega
  ·have h1:=cZ (k:=h.k) (N:=N) (n:=h.rs.length) (by omega) (by omega);exact⟨U.1,Int.le_trans U.2 (by omega)⟩
theorem DI.get (D:DI N k d L T){j:JR}(hj:j∈L):yx d.t_.p j.R=some (j.job,0):=Pj.vR D.jp ((D.jl _ _).2 ⟨j,hj,rfl,rfl⟩)
end
end
noncomputable section
set_option maxRecDepth 10000
namespace Pj
theorem jI {p:zf}{T:Nat}(I:Inv p T)(r:zd):(∃ v,Live p r v) \/ ∃ e,(e == (0:Int))=false/\zZ p r=some (none,e):=by
 unfold zZ;by_cases h1:r.At<0
 ·exact Or.inr ⟨22,rfl,by rw[dT h1];rfl⟩
 rw[dF h1];by_cases h2:r.At >= (p.l.length:Int)
 ·exact Or.inr ⟨22,rfl,by rw[dT h2];rfl⟩
 rw[dF h2];by_cases h3:r.Gen<1
 ·exact Or.inr ⟨22,rfl,by rw[dT h3];rfl⟩
 rw[dF h3];obtain⟨j,hj⟩:∃ j:Nat,r.At=(j:Int):=⟨r.At.toNat,by omega⟩
 obtain⟨x,t⟩:∃ x,p.l[j]? = some x:=⟨_,List.getElem?_eq_getElem (by omega)⟩
 rw[hj,yY,t];simp only[cF,bS];by_cases h4:r.Gen > x.gen
 ·exact Or.inr ⟨22,rfl,by rw[dT h4];rfl⟩
 rw[dF h4];simp only[cF];by_cases i:r.Gen<x.gen
 ·exact Or.inr ⟨23,rfl,by rw[dT i];rfl⟩
 rw[dF i];cases ht:x.taken with
 | false=>exact Or.inr ⟨23,rfl,rfl⟩
 | true =>
  refine Or.inl ⟨x.v_,j,hj,?_⟩;rw[t];have:r.Gen=x.gen:=by omega
  cases x;simp only at ht this ⊢;rw[ht,this]
theorem eW {p:zf}{r:zd}{e:Int}(he:(e == (0:Int))=false)(h:zZ p r=some (none,e)):yx p r=some (zF.mk 0 0 0 (zd.mk 0 0),e):=by
 unfold yx;rw[h];simp[uA,oS,bne,he]
theorem bI {p:zf}{r:zd}{e:Int}(he:(e == (0:Int))=false)(h:zZ p r=some (none,e)):yb p r=some (zF.mk 0 0 0 (zd.mk 0 0),e,p):=by
 unfold yb;rw[h];simp[uA,oS,bne,he]
end Pj
section
variable {N:Nat} {k:Int} {d:zb} {L:List JR} {T:Nat} {f:Nat}
theorem DI.aj (D:DI N k d L T){e:zr}(P:PQ2 N e T k d.heaps0 d.heaps1 L):DI N k (dq d e d.t_ d.when) L T :=
 ⟨D.kd,D.dk,D.dm,D.nb,P,D.jq,D.jp,D.jm,D.jl,D.by1,D.by2,D.wh1,D.wh2,D.rn,D.cn,D.bu,D.la,D.to,D.lb⟩
theorem DI.drop (D:DI N k d L T){A B:List JR}{j:JR}(e:L=A++j::B){F:zr}(P:PQ2 N F T k d.heaps0 d.heaps1 (A++B)) :
  ∃ p',yb d.t_.p j.R=some (j.job,0,p')/\xj (dq d F d.t_ d.when) j.R=some (zn.mk 0 (zd.mk 0 0) j.it.k j.data 0,dq d F (zq.mk p' (mDel zd.eq j.item d.t_.by_)) (mDel zd.eq j.R d.when)) /\
   DI N k (dq d F (zq.mk p' (mDel zd.eq j.item d.t_.by_)) (mDel zd.eq j.R d.when)) (A++B) T:=by
 have hj:j∈L:=by rw[e];simp
 have u:Pj.Live d.t_.p j.R j.job:=(D.jl _ _).2 ⟨j,hj,rfl,rfl⟩;have y:=Pj.qB D.jp u;have l:∀ i,i∈L ↔ i=j \/ i∈A++B:=by
  intro i;rw[e];simp only[iA,iC];constructor
  ·rintro (h|h|h)
   ·exact Or.inr (Or.inl h)
   ·exact Or.inl h
   ·exact Or.inr (Or.inr h)
  ·rintro (h|h|h)
   ·exact Or.inr (Or.inl h)
   ·exact Or.inl h
   ·exact Or.inr (Or.inr h)
 have hp:L.Perm (j::(A++B)):=by rw[e];exact List.perm_middle
 have x:=((hp.map JR.R).nodup_iff).1 D.rn;have z:=((hp.map JR.item).nodup_iff).1 D.items.1;rw[pC,List.nodup_cons] at x z;have J:∀ i∈A++B,i.R≠j.R:=fun i hi e=>x.1 (e ▸ List.mem_map_of_mem (f:=JR.R) hi)
 have S:∀ i∈A++B,i.item≠j.item:=fun i hi e=>z.1 (e ▸ List.mem_map_of_mem (f:=JR.item) hi)
 refine⟨_,y,?_,?_⟩
 ·unfold xj tK;show ((yb d.t_.p j.R).bind _).bind _=_;rw[y]
  rfl
 ·refine⟨D.kd,D.dk,D.dm,D.nb,P,fun i hi=>D.jq i ((l i).2 (Or.inr hi)),Pj.nI D.jp u,D.jm,?_,qF D.by1,?_,qF D.wh1,?_,x.2,?_,D.bu,D.la,D.to,by have h0:=D.lb;have O:=congrArg List.length e;simp only[lA,lC] at O ⊢;omega⟩
  ·intro r v;refine (Pj.pS u r v).trans ⟨?_,?_⟩
   ·rintro⟨t,hl⟩;obtain⟨i,hi,rfl,rfl⟩:=(D.jl _ _).1 hl;rcases (l i).1 hi with rfl|hi
    ·exact absurd rfl t
    ·exact⟨i,hi,rfl,rfl⟩
   ·rintro⟨i,hi,rfl,rfl⟩;exact⟨J i hi,(D.jl _ _).2 ⟨i,(l i).2 (Or.inr hi),rfl,rfl⟩⟩
  ·intro i2 r;refine (oA uL D.by1).trans ⟨?_,?_⟩
   ·rintro⟨t,I⟩;obtain⟨i,hi,rfl,rfl⟩:=(D.by2 _ _).1 I;rcases (l i).1 hi with rfl|hi
    ·exact absurd rfl t
    ·exact⟨i,hi,rfl,rfl⟩
   ·rintro⟨i,hi,rfl,rfl⟩;exact⟨S i hi,(D.by2 _ _).2 ⟨i,(l i).2 (Or.inr hi),rfl,rfl⟩⟩
  ·intro r s;refine (oA uL D.wh1).trans ⟨?_,?_⟩
   ·rintro⟨t,I⟩;obtain⟨i,hi,rfl,rfl⟩:=(D.wh2 _ _).1 I;rcases (l i).1 hi with rfl|hi
    ·exact absurd rfl t
    ·exact⟨i,hi,rfl,rfl⟩
   ·rintro⟨i,hi,rfl,rfl⟩;exact⟨J i hi,(D.wh2 _ _).2 ⟨i,(l i).2 (Or.inr hi),rfl,rfl⟩⟩
  ·have:=D.cn;rw[hp.length_eq] at this;simp only[dq,mSet,List.length_set,lA,lC,List.length_nil] at this ⊢;omega
theorem DI.cancel (D:DI N k d L T)(hf:95000<f)(r:zd) :
  Do (xT f d r) fun res=>(∃ e,(e == (0:Int))=false/\zZ d.t_.p r=some (none,e)/\res=(no e,d)) \/
   ∃ A j B z p' d',L=A++j::B/\r=j.R/\yb d.t_.p j.R=some (j.job,0,p')/\d'=dq d z (zq.mk p' (mDel zd.eq j.item d.t_.by_)) (mDel zd.eq j.R d.when)/\res=(zn.mk 0 (zd.mk 0 0) j.it.k j.data 0,d')/\z.serial=d.q.serial/\DI N k d' (A++B) T/\Stp d d' (wb N+70):=by
 have a4:=D.nb;have a3:=D.lb;have a2:=D.items.2.1;unfold xT uP;rcases Pj.jI D.jp r with ⟨v,hv⟩|⟨e,he,i⟩
 ·obtain⟨j,hj,rfl,rfl⟩:=(D.jl _ _).1 hv;obtain⟨A,B,eL⟩:=List.append_of_mem hj;rw[D.get hj];simp only[bS];rw[show ((0:Int) == 0)=true from rfl,cT];obtain⟨h,g,a1,Q,hk,l,a0,back⟩:=D.pq.focus (D.jq j hj);have O:j.pr∈h.rs:=l.mem_iff.2 (mK.2 ⟨j,hj,rfl,rfl⟩);have a5:h.rs.length<=L.length:=by rw[l.length_eq];exact iT
  have X:=Q.Ah (f:=f) (by omega) O hf (k:=0) (key:=0) (hh:=zd.mk 0 0) (o:=zd.mk 0 0);obtain⟨res,Z,rs,r',C',z,rfl,S,Y,t,y⟩:=X;have F:yh f d.q (yk.mk 6 0 (zd.mk 0 0) (zd.mk 0 0) j.job.Item 0)=some (okA (zd.mk 0 0) j.it,z):=Z;rw[F];simp only[bS];have u:=lH (L:=L) (x:=j.q) rfl eL;have W:=back _ _ _ _ _ (A++B) Y ((S.symm.trans (l.trans u.1)).cons_inv) u.2;obtain⟨p',J,I,U⟩:=D.drop eL W;refine Do.seq I ?_;refine⟨_,rfl,Or.inr ⟨A,j,B,z,p',_,eL,rfl,J,rfl,rfl,t,U,y.1,Int.le_trans y.2 ?_⟩⟩;have:=cZ (k:=h.k) (N:=N) (n:=h.rs.length) (by omega) (by omega);omega
 ·rw[Pj.eW he i];simp only[bS];rw[he,cF];simp only[bS];unfold xj tK;rw[Pj.bI he i];simp only[bS];rw[he,cF];simp only[bS];rw[show (e != 0)=true by simp[bne,he],cT];exact⟨_,rfl,Or.inl ⟨e,he,i,rfl⟩⟩
theorem DI.Dv (D:DI N k d L T)(hf:95000<f)(c:zk) :
  Do (xU f d c) fun res=>(∃ e,(e == (0:Int))=false/\zZ d.t_.p c.Job=some (none,e)/\res=(no e,d)) \/
   ∃ A j B,L=A++j::B/\c.Job=j.R/\((c.Time > j.it.k/\res=(no 26,d)) \/
   ∃ q' p' b' d',c.Time<=j.it.k/\xB d.t_.p j.R (zF.mk j.q c.Time j.data j.item)=some (0,p')/\d'=dq d q' (zq.mk p' b') d.when/\res=(zn.mk 0 (zd.mk 0 0) c.Time j.data 0,d')/\q'.serial=d.q.serial/\DI N k d' (A++⟨j.q,j.data,j.R,j.item,⟨j.it.i,c.Time,j.it.s⟩⟩::B) T/\Stp d d' (wb N+70)):=by
 have b8:=D.nb;have b7:=D.lb;have b6:=D.items.2.1;unfold xU uP;rcases Pj.jI D.jp c.Job with ⟨v,hv⟩|⟨e,he,S⟩
 ·obtain⟨j,hj,a3,rfl⟩:=(D.jl _ _).1 hv;obtain⟨A,B,eL⟩:=List.append_of_mem hj;rw[a3,D.get hj];simp only[bS];refine Do.f rfl ?_;refine Do.if (fun e=>?_) (fun e=>?_)
  ·exact⟨_,rfl,Or.inr ⟨A,j,B,eL,rfl,Or.inl ⟨of_decide_eq_true e,rfl⟩⟩⟩
  ·have hle:c.Time<=j.it.k:=by have:=of_decide_eq_false e;simp only[JR.job] at this;omega
   obtain⟨h,g,b5,Q,hk,O,b4,back⟩:=D.pq.focus (D.jq j hj);have a4:j.pr∈h.rs:=O.mem_iff.2 (mK.2 ⟨j,hj,rfl,rfl⟩);have b9:h.rs.length<=L.length:=by rw[O.length_eq];exact iT
   obtain⟨res,eX,rs,r',C',q',rfl,a5,Q',X,a0⟩:=Q.dV (f:=f) (by omega) a4 hf (key:=c.Time) hle (k:=0) (hh:=zd.mk 0 0) (o:=zd.mk 0 0);refine Do.seq (show yh f d.q (yk.mk 5 0 (zd.mk 0 0) (zd.mk 0 0) j.job.Item c.Time)=some _ from eX) ?_;have Z:=lH (L:=L) (x:=j.q) rfl eL;generalize y:(⟨j.q,j.data,j.R,j.item,⟨j.it.i,c.Time,j.it.s⟩⟩:JR)=F;have P':=back _ _ _ _ _ (A++F::B) Q' (by
    rw[qs,aC (j:=F) (by rw[<- y])];refine List.Perm.trans ?_ List.perm_middle.symm;rw[<- qs];have:=(a5.symm.trans (O.trans Z.1)).cons_inv;rw[<- y];exact this.cons _) (by
    rw[qs,aB (j:=F) (by rw[<- y];simp only;omega),<- qs];exact Z.2)
   have I:Pj.Live d.t_.p j.R j.job:=(D.jl _ _).2 ⟨j,hj,rfl,rfl⟩;have a1:=Pj.px D.jp I (zF.mk j.q c.Time j.data j.item);have z:∀ i,i∈L ↔ i=j \/ i∈A++B:=by
    intro i;rw[eL];simp only[iA,iC];constructor
    ·rintro (h|h|h)
     ·exact Or.inr (Or.inl h)
     ·exact Or.inl h
     ·exact Or.inr (Or.inr h)
    ·rintro (h|h|h)
     ·exact Or.inr (Or.inl h)
     ·exact Or.inl h
     ·exact Or.inr (Or.inr h)
   have u:∀ i,i∈A++F::B ↔ i=F \/ i∈A++B:=by
    intro i;simp only[iA,iC];constructor
    ·rintro (h|h|h)
     ·exact Or.inr (Or.inl h)
     ·exact Or.inl h
     ·exact Or.inr (Or.inr h)
    ·rintro (h|h|h)
     ·exact Or.inr (Or.inl h)
     ·exact Or.inl h
     ·exact Or.inr (Or.inr h)
   have hp:L.Perm (j::(A++B)):=by rw[eL];exact List.perm_middle
   have W:=((hp.map JR.R).nodup_iff).1 D.rn;have U:=((hp.map JR.item).nodup_iff).1 D.items.1;rw[pC,List.nodup_cons] at W U;have hR:∀ i∈A++B,i.R≠j.R:=fun i hi e=>W.1 (e ▸ List.mem_map_of_mem (f:=JR.R) hi)
   have hI:∀ i∈A++B,i.item≠j.item:=fun i hi e=>U.1 (e ▸ List.mem_map_of_mem (f:=JR.item) hi)
   have Y:sE d.t_ j.R (zF.mk j.q c.Time j.data j.item)=some (0,zq.mk (zf.mk d.t_.p.most (mSet d.t_.p.l j.R.At ⟨j.R.Gen,true,zF.mk j.q c.Time j.data j.item⟩) d.t_.p.free) (mPut zd.eq j.item j.R (mDel zd.eq j.item d.t_.by_))):=by
    unfold sE;rw[D.get hj];simp only[bS];rw[show ((0:Int) != 0)=false from rfl,cF,sf ((D.by2 j.item j.R).2 ⟨j,hj,rfl,rfl⟩)];simp only[bS,cT];rw[show (!(zd.eq j.R j.R))=false by rw[(uL _ _).2 rfl];rfl,cF,a1]
    rfl
   refine Do.seq Y ?_;refine⟨_,rfl,Or.inr ⟨A,j,B,eL,rfl,Or.inr ⟨q',_,_,_,hle,a1,rfl,rfl,X,?_,a0.1,Int.le_trans a0.2 ?_⟩⟩⟩
   ·rw[y];refine⟨D.kd,D.dk,D.dm,D.nb,P',?_,Pj.pw D.jp I _,D.jm,?_,rN uL (qF D.by1),?_,D.wh1,?_,?_,?_,D.bu,D.la,D.to,by have h0:=D.lb;have h9:=congrArg List.length eL;simp only[lA,lC] at h9 ⊢;omega⟩
    ·intro i hi;rcases (u i).1 hi with rfl|hi
     ·rw[<- y];exact D.jq j hj
     ·exact D.jq i ((z i).2 (Or.inr hi))
    ·intro r v;refine (Pj.rl I _ r v).trans ⟨?_,?_⟩
     ·rintro (⟨rfl,rfl⟩|⟨J,hl⟩)
      ·exact⟨F,(u _).2 (Or.inl rfl),by rw[<- y],by rw[<- y];rfl⟩
      ·obtain⟨i,hi,rfl,rfl⟩:=(D.jl _ _).1 hl;rcases (z i).1 hi with rfl|hi
       ·exact absurd rfl J
       ·exact⟨i,(u _).2 (Or.inr hi),rfl,rfl⟩
     ·rintro⟨i,hi,rfl,rfl⟩;rcases (u i).1 hi with rfl|hi
      ·rw[<- y];exact Or.inl ⟨rfl,rfl⟩
      ·exact Or.inr ⟨hR i hi,(D.jl _ _).2 ⟨i,(z i).2 (Or.inr hi),rfl,rfl⟩⟩
    ·intro i2 r;refine (qY uL).trans ?_;rw[oA uL D.by1];constructor
     ·rintro (⟨rfl,rfl⟩|⟨J,_,hg⟩)
      ·exact⟨F,(u _).2 (Or.inl rfl),by rw[<- y],by rw[<- y]⟩
      ·obtain⟨i,hi,rfl,rfl⟩:=(D.by2 _ _).1 hg;rcases (z i).1 hi with rfl|hi
       ·exact absurd rfl J
       ·exact⟨i,(u _).2 (Or.inr hi),rfl,rfl⟩
     ·rintro⟨i,hi,rfl,rfl⟩;rcases (u i).1 hi with rfl|hi
      ·rw[<- y];exact Or.inl ⟨rfl,rfl⟩
      ·exact Or.inr ⟨hI i hi,hI i hi,(D.by2 _ _).2 ⟨i,(z i).2 (Or.inr hi),rfl,rfl⟩⟩
    ·intro r s;refine (D.wh2 r s).trans ⟨?_,?_⟩
     ·rintro⟨i,hi,rfl,rfl⟩;rcases (z i).1 hi with rfl|hi
      ·exact⟨F,(u _).2 (Or.inl rfl),by rw[<- y],by rw[<- y]⟩
      ·exact⟨i,(u _).2 (Or.inr hi),rfl,rfl⟩
     ·rintro⟨i,hi,rfl,rfl⟩;rcases (u i).1 hi with rfl|hi
      ·rw[<- y];exact⟨j,hj,rfl,rfl⟩
      ·exact⟨i,(z i).2 (Or.inr hi),rfl,rfl⟩
    ·have:=D.rn;rw[eL] at this;simp only[List.map_append,pC] at this ⊢;rw[<- y];exact this
    ·have:=D.cn;rw[eL] at this;simp only[dq,mSet,List.length_set,lA,lC] at this ⊢;exact this
   ·have:=cZ (k:=h.k) (N:=N) (n:=h.rs.length) (by omega) (by omega);omega
 ·rw[Pj.eW he S];simp only[bS];refine Do.t (by simp[bne,he]) ?_;exact⟨_,rfl,Or.inl ⟨e,he,S,rfl⟩⟩
theorem DI.fire (D:DI N k d L T)(hf:95000<f){x:Int}(hx:x=0 \/ x=1) :
  Do (wI f d x) fun res=>∃ J d',J.serial=d.q.serial/\Stp d d' (wb N+170) /\
   (((∀ j∈L,j.q=x->d.clock.now<j.it.k)/\d'=dq d J d.t_ d.when/\res=(no 28,d')/\DI N k d' L T) \/
   ∃ A j B p',L=A++j::B/\j.q=x/\j.it.k<=d.clock.now/\(∀ i∈L,i.q=x -> ¬ i.it.lt j.it)/\yb d.t_.p j.R=some (j.job,0,p')/\d'=dq d J (zq.mk p' (mDel zd.eq j.item d.t_.by_)) (mDel zd.eq j.R d.when)/\res=(zn.mk 0 j.R j.it.k j.data 0,d')/\DI N k d' (A++B) T):=by
 have b4:=D.nb;have b3:=D.lb;have b2:=D.items.2.1;obtain⟨h,g,a3,Q,hk,u,b1,back⟩:=D.pq.focus hx;have b5:h.rs.length<=L.length:=by rw[u.length_eq];exact iT
 unfold wI;rw[a3];simp only[bS];refine (Q.Ed (f:=f) (by omega) hf).bind ?_;rintro res ⟨q1,Q1,y,l,h1⟩;have P1:PQ2 N q1 T k d.heaps0 d.heaps1 L:=back _ _ _ _ _ L Q1 u rfl;rcases h1 with ⟨U,rfl⟩|⟨p,hp,rfl,S⟩
 ·simp only;rw[show ((27:Int) != 0)=true from rfl,cT];simp only[bS];refine Do.t rfl ?_;refine⟨_,rfl,q1,_,y,⟨l.1,Int.le_trans l.2 (by omega)⟩,Or.inl ⟨?_,rfl,rfl,D.aj P1⟩⟩;intro j hj z;have:j.pr∈h.rs:=u.mem_iff.2 (mK.2 ⟨j,hj,z,rfl⟩);rw[U] at this;cases this
 ·simp only[okA];rw[show ((0:Int) != 0)=false from rfl,cF];unfold rE;simp only[bS];have I:∀ p',p'∈h.rs->p.2.k<=p'.2.k:=by
   intro p' a4;have:=S p' a4;unfold It.lt at this;omega
  refine Do.if (fun e=>?_) (fun e=>?_)
  ·have e':¬ p.2.k<=d.clock.now:=by simpa using e
   refine⟨_,rfl,q1,_,y,⟨l.1,Int.le_trans l.2 (by omega)⟩,Or.inl ⟨?_,rfl,rfl,D.aj P1⟩⟩;intro j hj z;have:=I _ (u.mem_iff.2 (mK.2 ⟨j,hj,z,rfl⟩));simp only[JR.pr] at this;omega
  ·have e':p.2.k<=d.clock.now:=by simpa using e
   refine (Q1.Ee (f:=f) (k:=0) (key:=0) (o:=zd.mk 0 0) (i0:=zd.mk 0 0) (by omega) (by intro e;rw[e] at hp;cases hp) hf).bind ?_;rintro _ ⟨p2,rs,r',C',J,rfl,X,F,Q',Y,a0⟩;have W:p2∈h.rs:=X.mem_iff.2 (List.mem_cons_self ..);obtain⟨j,hj,z,rfl⟩:=mK.1 (u.mem_iff.1 W);obtain⟨A,B,eL⟩:=List.append_of_mem hj;have Z:=lH z eL;have P':=back _ _ _ _ _ (A++B) Q' ((X.symm.trans (u.trans Z.1)).cons_inv) Z.2;obtain⟨p',a2,a1,D'⟩:=D.drop eL P';unfold qU;simp only[okA];rw[show j.pr.1=j.item from rfl,sf ((D.by2 j.item j.R).2 ⟨j,hj,rfl,rfl⟩)];simp only[bS];refine Do.seq a1 ?_;have h3:=F p hp;have h4:=I _ W;refine⟨_,rfl,J,_,Y.trans y,⟨Int.le_trans l.1 a0.1,?_⟩,Or.inr ⟨A,j,B,p',eL,z,?_,?_,a2,rfl,rfl,D'⟩⟩
   ·have:=cZ (k:=h.k) (N:=N) (n:=h.rs.length) (by omega) (by omega);have h5:=a0.2;have h6:=l.2;show J.a_.m_.steps<=_;omega
   ·unfold It.lt at h3;simp only[JR.pr] at h3;omega
   ·intro i hi O;exact F _ (u.mem_iff.2 (mK.2 ⟨i,hi,O,rfl⟩))
end
end
noncomputable section
set_option maxRecDepth 10000
theorem ko {α β:Type}{f:α -> β}:∀ {l:List β}{L:List α},l.Perm (L.map f) -> ∃ L2:List α,L2.Perm L/\L2.map f=l
 | [],L,h=>by
  have:=h.length_eq;simp only[List.length_nil,lM] at this;exact⟨[],by rw[List.eq_nil_of_length_eq_zero this.symm],rfl⟩
 | x::l,L,h=>by
  obtain⟨p,rs,h1,rfl,h3⟩:=nW h.symm;obtain⟨L2,h4,e⟩:=ko h3.symm;exact⟨p::L2,(h4.cons p).trans h1.symm,by rw[pC,e]⟩
def oK (p p':zf):Prop:=p'.most=p.most/\p'.free=p.free/\p'.l.map zt.gen=p.l.map zt.gen/\p'.l.map zt.taken=p.l.map zt.taken
theorem oK.rfl' (p:zf):oK p p:=⟨rfl,rfl,rfl,rfl⟩
theorem oK.trans {p p' e:zf}(h:oK p p')(i:oK p' e):oK p e:=⟨i.1.trans h.1,i.2.1.trans h.2.1,i.2.2.1.trans h.2.2.1,i.2.2.2.trans h.2.2.2⟩
theorem pT {α β:Type}(f:α -> β){l:List α}{j:Nat}{x y:α}(h:l[j]? = some x)(e:f y=f x):(l.set j y).map f=l.map f:=by
 rw[List.map_set,e];refine List.ext_getElem? fun i=>?_
 by_cases t:j=i
 ·subst t;have hl:=(List.getElem?_eq_some_iff.1 h).1;rw[List.getElem?_set_self (by simpa using hl)];simp[h]
 ·rw[List.getElem?_set_ne t]
theorem oK.set {p:zf}{T:Nat}(I:Pj.Inv p T){r:zd}{v w:zF}(h:Pj.Live p r v):oK p (zf.mk p.most (mSet p.l r.At ⟨r.Gen,true,w⟩) p.free):=by
 obtain⟨j,e,h⟩:=h;refine⟨rfl,rfl,?_,?_⟩ <;> simp only[mSet,e,tN]
 ·exact pT _ h rfl
 ·exact pT _ h rfl
def JR.zero (j:JR):JR:=⟨0,j.data,j.R,j.item,j.it⟩
def JR.mv (j:JR):JR:=if j.q=1 then j.zero else j
section
variable {N:Nat} {k:Int} {d:zb} {L:List JR} {T:Nat} {f:Nat}
theorem DI.out (D:DI N k d L T):∃ L2:List JR,L2.Perm L/\Pj.out d.t_.p=L2.map JR.R:=by
 have h:(Pj.out d.t_.p).Perm (L.map JR.R):=by
  refine (List.perm_ext_iff_of_nodup Pj.ki D.rn).2 fun r=>?_
  rw[Pj.kh,List.mem_map];constructor
  ·rintro⟨v,hv⟩;obtain⟨j,hj,rfl,_⟩:=(D.jl _ _).1 hv;exact⟨j,hj,rfl⟩
  ·rintro⟨j,hj,rfl⟩;exact⟨_,(D.jl _ _).2 ⟨j,hj,rfl,rfl⟩⟩
 obtain⟨L2,h1,h2⟩:=ko h;exact⟨L2,h1,h2.symm⟩
theorem fT {T:Nat}{L2:List JR}(hl:L2.length<=65536)(hn:(L2.map JR.R).Nodup) :
  ∀ (rest pre:List JR) (t:zq) (n:Int) (m:Nat),L2=pre++rest->rest.length<m->0<=n->n<=pre.length->Pj.Inv t.p T->(∀ r v,Pj.Live t.p r v ↔ ∃ j∈pre.map JR.mv++rest,r=j.R/\v=j.job) ->
   ∃ p',wK 1 0 (L2.length:Int) (L2.map JR.R) m n (pre.length:Int) t=some (n+(rest.filter fun j=>j.q == 1).length,zq.mk p' t.by_)/\Pj.Inv p' T/\oK t.p p'/\(∀ r v,Pj.Live p' r v ↔ ∃ j∈L2.map JR.mv,r=j.R/\v=j.job)
 | [],pre,t,n,m+1,e,hm,h0,h1,I,y=>by
  refine⟨t.p,?_,I,oK.rfl' _,by rw[e,aN];simpa using y⟩;unfold wK;rw[dF (by rw[e];simp),cF];simp
 | x::rest,pre,t,n,m+1,e,hm,h0,h1,I,y=>by
  have hlen:L2.length=pre.length+(rest.length+1):=by rw[e];simp
  simp only[lC] at hm;have B:Pj.Live t.p x.R x.job:=(y _ _).2 ⟨x,by simp,rfl,rfl⟩;have F:mIdx (L2.map JR.R) (pre.length:Int)=some x.R:=by
   rw[yY,List.getElem?_map,e];simp
  have A:∀ j∈pre.map JR.mv++rest,j.R≠x.R:=by
   rw[e,List.map_append,pC] at hn;have h2:=(List.perm_middle.nodup_iff).1 hn;rw[List.nodup_cons] at h2;intro j hj u;refine h2.1 ?_;rcases List.mem_append.1 hj with hj|hj
   ·obtain⟨i,hi,rfl⟩:=List.mem_map.1 hj;have:i.mv.R=i.R:=by unfold JR.mv;split <;> rfl
    exact mL _ (List.mem_map.2 ⟨i,hi,by rw[<- this,u]⟩)
   ·exact List.mem_append_right _ (List.mem_map.2 ⟨j,hj,u⟩)
  unfold wK;rw[dT (by omega),cT,F];simp only[bS];rw[Pj.vR I B];simp only[bS];rw[yi (x:=(pre.length:Int)+1) (by omega) (by omega),show x.job.Queue=x.q from rfl];by_cases hq:x.q=1
  ·have S:=Pj.px I B (zF.mk 0 x.it.k x.data x.item);have J:=Pj.rl B (zF.mk 0 x.it.k x.data x.item);have z:x.mv=x.zero:=by unfold JR.mv;rw[if_pos hq]
   obtain⟨p',u,D,s2,U⟩:=fT hl hn rest (pre++[x]) (zq.mk (zf.mk t.p.most (mSet t.p.l x.R.At ⟨x.R.Gen,true,zF.mk 0 x.it.k x.data x.item⟩) t.p.free) t.by_) (n+1) m (by rw[e];simp) (by omega) (by omega) (by simp;omega) (Pj.pw I B _) (by
    intro r v;refine (J r v).trans ?_;simp only[List.map_append,pC,List.map_nil,iA,List.mem_singleton,z];constructor
    ·rintro (⟨rfl,rfl⟩|⟨O,hl⟩)
     ·exact⟨x.zero,Or.inl (Or.inr rfl),rfl,rfl⟩
     ·obtain⟨j,hj,rfl,rfl⟩:=(y _ _).1 hl;rcases List.mem_append.1 hj with hj|hj
      ·exact⟨j,Or.inl (Or.inl hj),rfl,rfl⟩
      ·rcases List.mem_cons.1 hj with rfl|hj
       ·exact absurd rfl O
       ·exact⟨j,Or.inr hj,rfl,rfl⟩
    ·rintro⟨j,(hj|rfl)|hj,rfl,rfl⟩
     ·exact Or.inr ⟨A j (mL _ hj),(y _ _).2 ⟨j,mL _ hj,rfl,rfl⟩⟩
     ·exact Or.inl ⟨rfl,rfl⟩
     ·exact Or.inr ⟨A j (List.mem_append_right _ hj),(y _ _).2 ⟨j,List.mem_append_right _ (mC _ hj),rfl,rfl⟩⟩)
   refine⟨p',?_,D,(oK.set I B).trans s2,U⟩;rw[hq,show ((1:Int) == 1)=true from rfl,cT];rw[show zF.mk 0 x.job.Time x.job.Data x.job.Item=zF.mk 0 x.it.k x.data x.item from rfl,S];simp only[bS];rw[yi (by omega) (by omega)];rw[show ((pre++[x]).length:Int)=(pre.length:Int)+1 by simp] at u;rw[u,List.filter_cons,hq];simp;omega
  ·have z:x.mv=x:=by unfold JR.mv;rw[if_neg hq]
   have W:(x.q == 1)=false:=by simpa using hq
   obtain⟨p',u,D,s2,U⟩:=fT hl hn rest (pre++[x]) t n m (by rw[e];simp) (by omega) h0 (by simp;omega) I (by
    intro r v;refine (y r v).trans ?_;simp only[List.map_append,pC,List.map_nil,iA,List.mem_singleton,iC,z,or_assoc,List.not_mem_nil,false_or])
   refine⟨p',?_,D,s2,U⟩;rw[W,cF];simp only[bS];rw[show ((pre++[x]).length:Int)=(pre.length:Int)+1 by simp] at u;rw[u,List.filter_cons,W]
   rfl
theorem im {x:Int}{t:zq}{T:Nat}(I:Pj.Inv t.p T){L2:List JR}(hl:L2.length<=65536)(i:∀ j∈L2,Pj.Live t.p j.R j.job) :
  ∀ (rest pre:List JR) (n:Int) (m:Nat),L2=pre++rest->rest.length<m->0<=n->n<=pre.length ->
   wi x (L2.length:Int) t (L2.map JR.R) m n (pre.length:Int)=some (n+(rest.filter fun j=>j.q == x).length)
 | [],pre,n,m+1,e,hm,h0,h1=>by
  unfold wi;rw[dF (by rw[e];simp),cF];simp
 | y::rest,pre,n,m+1,e,hm,h0,h1=>by
  have hlen:L2.length=pre.length+(rest.length+1):=by rw[e];simp
  simp only[lC] at hm;have u:=i y (by rw[e];simp);have l:mIdx (L2.map JR.R) (pre.length:Int)=some y.R:=by
   rw[yY,List.getElem?_map,e];simp
  unfold wi;rw[dT (by omega),cT,l];simp only[bS];rw[Pj.vR I u];simp only[bS];rw[yi (x:=(pre.length:Int)+1) (by omega) (by omega),show y.job.Queue=y.q from rfl,List.filter_cons];cases z:y.q == x with
  | true =>
   have ih:=im (x:=x) I hl i rest (pre++[y]) (n+1) m (by rw[e];simp) (by omega) (by omega) (by simp;omega);rw[show ((pre++[y]).length:Int)=(pre.length:Int)+1 by simp] at ih;rw[cT,yi (by omega) (by omega)];simp only[bS,if_true];rw[ih];simp;omega
  | false =>
   have ih:=im (x:=x) I hl i rest (pre++[y]) n m (by rw[e];simp) (by omega) h0 (by simp;omega);rw[show ((pre++[y]).length:Int)=(pre.length:Int)+1 by simp] at ih;rw[cF];simp only[bS,Bool.false_eq_true,if_false];exact ih
theorem DI.count (D:DI N k d L T)(hf:95000<f)(x:Int):uX f d.t_ x=some ((sel x L).length:Int):=by
 obtain⟨L2,hp,e⟩:=D.out;have l:=D.items.2.1;have u:=D.nb;have t:=D.lb;have i:=hp.length_eq;unfold uX;rw[Pj.ll D.jp (by omega),e];simp only[bS];have:=im (x:=x) D.jp (L2:=L2) (by omega) (fun j hj=>(D.jl _ _).2 ⟨j,hp.mem_iff.1 hj,rfl,rfl⟩) L2 [] 0 f rfl (by omega) (Int.le_refl _) (Int.le_refl _);rw[lM];rw[show ((([]:List JR).length:Nat):Int)=0 from rfl] at this;rw[this];simp only[bS];have:=((hp.filter fun j=>j.q == x).length_eq)
 unfold sel;rw[lM,this];simp
theorem mv_R (j:JR):j.mv.R=j.R:=by unfold JR.mv;split <;> rfl
theorem bY (j:JR):j.mv.item=j.item:=by unfold JR.mv;split <;> rfl
theorem Dj (j:JR):j.mv.it=j.it:=by unfold JR.mv;split <;> rfl
theorem Et (j:JR):j.mv.pr=j.pr:=by unfold JR.mv;split <;> rfl
theorem mv_q {j:JR}(h:j.q=0 \/ j.q=1):j.mv.q=0:=by
 unfold JR.mv;split
 ·rfl
 ·omega
theorem DI.merge (D:DI N k d L T)(hT:T<1000000)(hf:95000<f) :
  Do (wo f d) fun res=>∃ B r p',res=(zn.mk 0 (zd.mk 0 0) 0 0 ((sel 1 L).length:Int),zb.mk d.kind d.most B d.heaps0 r (zq.mk p' d.t_.by_) d.when d.clock d.budget d.last d.top)/\oK d.t_.p p'/\B.serial=d.q.serial /\
   DI N k (zb.mk d.kind d.most B d.heaps0 r (zq.mk p' d.t_.by_) d.when d.clock d.budget d.last d.top) (L.map JR.mv) (T+1)/\Stp d (zb.mk d.kind d.most B d.heaps0 r (zq.mk p' d.t_.by_) d.when d.clock d.budget d.last d.top) (wb N+70):=by
 have a2:=D.nb;have a1:=D.lb;have a0:=D.items.2.1;obtain⟨L2,hp,A⟩:=D.out;have Z:=hp.length_eq;obtain⟨h0,h1,Q,e0,Y,k0,k1,p0,J⟩:=D.pq;have l:=kA D.jq;have hs:h0.rs.length+h1.rs.length=L.length:=by
  have:=l.length_eq;rw[lA,lM] at this;rw[p0.length_eq,J.length_eq];exact this
 unfold wo;rw[<- e0,<- Y];refine (Q.CS (f:=f) (k:=0) (key:=0) (i0:=zd.mk 0 0) (by rw[k0,k1]) (by omega) (by omega) hf).bind ?_;rintro _ ⟨r',C',q1,rfl,U,x,t⟩;simp only;refine (U.bt (f:=f) (k:=d.kind) (a:=zd.mk 0 0) (b:=zd.mk 0 0) (c:=zd.mk 0 0) (key:=0) (by rw[D.dk];exact D.kd) (by simp) (by omega)).bind ?_;rintro _ ⟨r,O,rfl,W,y,u⟩;simp only;unfold rK;rw[Pj.ll D.jp (by omega),A];simp only[bS];obtain⟨p',I,S,s2,l2⟩:=fT (T:=T) (L2:=L2) (by omega) (((hp.map JR.R).nodup_iff).2 D.rn) L2 [] d.t_ 0 f rfl (by omega) (Int.le_refl _) (Int.le_refl _) D.jp (by
  intro r v;refine (D.jl r v).trans ⟨?_,?_⟩
  ·rintro⟨j,hj,e⟩;exact⟨j,hp.mem_iff.2 hj,e⟩
  ·rintro⟨j,hj,e⟩;exact⟨j,hp.mem_iff.1 hj,e⟩)
 rw[show ((([]:List JR).length:Nat):Int)=0 from rfl] at I;rw[lM,I];simp only[bS];have z:(0:Int)+((L2.filter fun j=>j.q == 1).length:Int)=((sel 1 L).length:Int):=by
  have:=((hp.filter fun j=>j.q == 1).length_eq)
  unfold sel;rw[lM,this];simp
 rw[z];have X:h0.ref=d.heaps0:=e0;have hz:sel 0 (L.map JR.mv)=L.map JR.pr:=by
  unfold sel;rw[List.filter_eq_self.2 (fun j hj=>by
   obtain⟨i,hi,rfl⟩:=List.mem_map.1 hj;simp[mv_q (D.jq i hi)]),List.map_map]
  exact List.map_congr_left fun j _=>Et j
 have F:sel 1 (L.map JR.mv)=[]:=by
  unfold sel;rw[List.filter_eq_nil_iff.2 (fun j hj=>by
   obtain⟨i,hi,rfl⟩:=List.mem_map.1 hj;simp[mv_q (D.jq i hi)])]
  rfl
 refine⟨_,rfl,O,r,p',rfl,s2,y.trans x,?_,?_⟩
 ·refine⟨D.kd,D.dk,D.dm,D.nb,?_,?_,S.mono (by omega),s2.1.trans D.jm,?_,D.by1,?_,D.wh1,?_,?_,?_,D.bu,D.la,D.to,by rw[lM];exact D.lb⟩
  ·refine⟨_,_,W.p (List.Perm.swap ..),rfl,rfl,k0,D.dk,?_,?_⟩
   ·rw[hz];exact (p0.append J).trans l
   ·rw[F]
  ·intro j hj;obtain⟨i,hi,rfl⟩:=List.mem_map.1 hj;exact Or.inl (mv_q (D.jq i hi))
  ·intro r v;refine (l2 r v).trans ⟨?_,?_⟩
   ·rintro⟨j,hj,e⟩;exact⟨j,((hp.map JR.mv).mem_iff).1 hj,e⟩
   ·rintro⟨j,hj,e⟩;exact⟨j,((hp.map JR.mv).mem_iff).2 hj,e⟩
  ·intro i r;refine (D.by2 i r).trans ⟨?_,?_⟩
   ·rintro⟨j,hj,rfl,rfl⟩;exact⟨j.mv,List.mem_map_of_mem hj,(bY j).symm,(mv_R j).symm⟩
   ·rintro⟨j,hj,rfl,rfl⟩;obtain⟨i,hi,rfl⟩:=List.mem_map.1 hj;exact⟨i,hi,bY i,mv_R i⟩
  ·intro r s;refine (D.wh2 r s).trans ⟨?_,?_⟩
   ·rintro⟨j,hj,rfl,rfl⟩;exact⟨j.mv,List.mem_map_of_mem hj,(mv_R j).symm,by rw[Dj]⟩
   ·rintro⟨j,hj,rfl,rfl⟩;obtain⟨i,hi,rfl⟩:=List.mem_map.1 hj;exact⟨i,hi,mv_R i,by rw[Dj]⟩
  ·have:(L.map JR.mv).map JR.R=L.map JR.R:=by
    rw[List.map_map];exact List.map_congr_left fun j _=>mv_R j
   rw[this];exact D.rn
  ·have h1:=D.cn;have h2:=congrArg List.length s2.2.2.1;simp only[lM] at h2 ⊢;rw[s2.2.1,h2];exact h1
 ·have h1:=cZ (k:=h0.k) (N:=N) (n:=h0.rs.length+h1.rs.length) (by omega) (by omega);have h2:=t.2;have h3:=u.2;exact⟨Int.le_trans t.1 u.1,by show O.a_.m_.steps<=_;omega⟩
end
end
noncomputable section
set_option maxRecDepth 10000
inductive How (N:Nat) (p:zf) (s now:Int) (L:List JR) (c:zk):zn->zf->Int->Int->List JR->Prop
 | bad (hk:c.Kind=1 \/ c.Kind=5 \/ c.Kind=6 \/ c.Kind=7) (hq:¬ (c.Queue=0 \/ c.Queue=1)):How N p s now L c (no 1) p s now L
 | full (hk:c.Kind=1) (hq:c.Queue=0 \/ c.Queue=1) (hl:L.length=N):How N p s now L c (no 13) p s now L
 | sched (j:JR) (p':zf) (v:zF) (hk:c.Kind=1) (hq:c.Queue=0 \/ c.Queue=1) (hl:L.length<N) (h1:j.q=c.Queue) (h2:j.data=c.Data) (h3:j.it.k=c.Time) (h4:j.it.s=s) (ht:yt p v=some (j.R,true,p')):How N p s now L c (zn.mk 0 j.R c.Time c.Data 0) p' (s+1) now (L++[j])
 | dead (e:Int) (hk:c.Kind=2 \/ c.Kind=3) (he:(e == (0:Int))=false) (hf:zZ p c.Job=some (none,e)):How N p s now L c (no e) p s now L
 | late (A:List JR) (j:JR) (B:List JR) (hk:c.Kind=2) (eL:L=A++j::B) (hj:c.Job=j.R) (ht:c.Time > j.it.k):How N p s now L c (no 26) p s now L
 | soon (A:List JR) (j:JR) (B:List JR) (p':zf) (hk:c.Kind=2) (eL:L=A++j::B) (hj:c.Job=j.R) (ht:c.Time<=j.it.k) (hp:oK p p'):How N p s now L c (zn.mk 0 (zd.mk 0 0) c.Time j.data 0) p' s now (A++⟨j.q,j.data,j.R,j.item,⟨j.it.i,c.Time,j.it.s⟩⟩::B)
 | canc (A:List JR) (j:JR) (B:List JR) (p':zf) (hk:c.Kind=3) (eL:L=A++j::B) (hj:c.Job=j.R) (hp:yb p j.R=some (j.job,0,p')):How N p s now L c (zn.mk 0 (zd.mk 0 0) j.it.k j.data 0) p' s now (A++B)
 | back (hk:c.Kind=4) (ht:c.Time<0):How N p s now L c (no 1) p s now L
 | go (t:Int) (hk:c.Kind=4) (ht:¬ c.Time<0) (ha:uD now c.Time=some t):How N p s now L c (zn.mk 0 (zd.mk 0 0) t 0 0) p s t L
 | idle (hk:c.Kind=5) (hq:c.Queue=0 \/ c.Queue=1) (hn:∀ j∈L,j.q=c.Queue->now<j.it.k):How N p s now L c (no 28) p s now L
 | fire (A:List JR) (j:JR) (B:List JR) (p':zf) (hk:c.Kind=5) (hq:c.Queue=0 \/ c.Queue=1) (eL:L=A++j::B) (hj:j.q=c.Queue) (hn:j.it.k<=now) (hm:∀ i∈L,i.q=c.Queue -> ¬ i.it.lt j.it) (hp:yb p j.R=some (j.job,0,p')):How N p s now L c (zn.mk 0 j.R j.it.k j.data 0) p' s now (A++B)
 | self (hk:c.Kind=6) (hq:c.Queue=0):How N p s now L c (no 25) p s now L
 | merge (p':zf) (hk:c.Kind=6) (hq:c.Queue=1) (hp:oK p p'):How N p s now L c (zn.mk 0 (zd.mk 0 0) 0 0 ((sel 1 L).length:Int)) p' s now (L.map JR.mv)
 | count (hk:c.Kind=7) (hq:c.Queue=0 \/ c.Queue=1):How N p s now L c (zn.mk 0 (zd.mk 0 0) 0 0 ((sel c.Queue L).length:Int)) p s now L
 | unknown (h:¬ (c.Kind=1 \/ c.Kind=2 \/ c.Kind=3 \/ c.Kind=4 \/ c.Kind=5 \/ c.Kind=6 \/ c.Kind=7)):How N p s now L c (no 12) p s now L
theorem aW (a b:Int):∃ t,uD a b=some t:=by
 unfold uD;cases (decide (b > 0)) && (decide (a > w64 (9223372036854775807 - b))) with
 | true=>exact⟨_,rfl⟩
 | false =>
  cases (decide (b<0)) && (decide (a<w64 ((-9223372036854775808) - b))) with
  | true=>exact⟨_,rfl⟩
  | false=>exact⟨_,rfl⟩
section
variable {N:Nat} {k:Int} {d:zb} {L:List JR} {T:Nat} {f:Nat}
theorem DI.mono (D:DI N k d L T){T':Nat}(h:T<=T'):DI N k d L T':=by
 refine⟨D.kd,D.dk,D.dm,D.nb,D.pq.same fun hs Q=>?_,D.jq,D.jp.mono h,D.jm,D.jl,D.by1,D.by2,D.wh1,D.wh2,D.rn,D.cn,D.bu,D.la,D.to,D.lb⟩;exact⟨{ Q.ih with gen:=fun j x e=>by have:=Q.ih.gen j x e;omega },Q.ii.mono h,Q.hl,Q.il,Q.at1,Q.at2,Q.en1,Q.en2,Q.hk,Q.hn,Q.rn,Q.sn,Q.ar,Q.mi,Q.mm,Q.mb,Q.ci,Q.ch,Q.cm,Q.sr,by have:=Q.sq;omega⟩
theorem AK (d:zb)(B:Nat):Stp d d B:=⟨Int.le_refl _,by omega⟩
theorem DI.one (D:DI N k d L T)(X:T<1000000)(hf:95000<f)(c:zk)(hS:c.Kind=1->L.length<60) :
  Do (wP f d c) fun res=>∃ L',How N d.t_.p d.q.serial d.clock.now L c res.1 res.2.t_.p res.2.q.serial res.2.clock.now L'/\DI N k res.2 L' (T+1)/\Stp d res.2 (wb N+170)/\res.2.budget=d.budget/\res.2.top=d.top:=by
 have l:=D.mono (Nat.le_succ T);have u:=AK d (wb N+170);unfold wP;by_cases hk:c.Kind=1 \/ c.Kind=5 \/ c.Kind=6 \/ c.Kind=7
 ·have Y:(bif c.Kind == 1 then some (c.Kind == 1) else (bif c.Kind == 5 then some (c.Kind == 5) else (bif c.Kind == 6 then some (c.Kind == 6) else some (c.Kind == 7))))=some true:=by
   rcases hk with e|e|e|e <;> rw[e] <;> rfl
  rw[Y];simp only[bS,cT];by_cases hq:c.Queue=0 \/ c.Queue=1
  ·have O:(!((decide (c.Queue >= 0)) && (decide (c.Queue<2))))=false:=by rcases hq with e|e <;> rw[e] <;> rfl
   rw[O];simp only[cF,bS];rcases hk with e|e|e|e <;> rw[e]
   ·refine Do.t rfl ((D.schedule (hS e) X hf hq).bind ?_);rintro res (⟨hl,rfl⟩|⟨hl,j,x,p',v,h1,h2,h3,h4,Z,h6,rfl,h8,W⟩)
    ·exact⟨_,rfl,L,.full e hq hl,l,u,rfl,rfl⟩
    ·refine⟨_,rfl,L++[j],?_,h8,⟨W.1,Int.le_trans W.2 (by omega)⟩,rfl,rfl⟩;show How N d.t_.p d.q.serial d.clock.now L c _ p' x.serial d.clock.now _;rw[Z];exact .sched j p' v e hq hl h1 h2 h3 h4 h6
   ·refine Do.f rfl (Do.f rfl (Do.f rfl (Do.f rfl (Do.t rfl ((D.fire hf hq).bind ?_)))));rintro res ⟨x,d',hs,i,h⟩;rcases h with ⟨hn,rfl,rfl,y⟩|⟨A,j,B,p',eL,hj,hn,hm,hp,rfl,rfl,y⟩
    ·refine⟨_,rfl,L,?_,y.mono (Nat.le_succ T),i,rfl,rfl⟩;show How N d.t_.p d.q.serial d.clock.now L c _ d.t_.p x.serial d.clock.now _;rw[hs];exact .idle e hq hn
    ·refine⟨_,rfl,A++B,?_,y.mono (Nat.le_succ T),i,rfl,rfl⟩;show How N d.t_.p d.q.serial d.clock.now L c _ p' x.serial d.clock.now _;rw[hs];exact .fire A j B p' e hq eL hj hn hm hp
   ·refine Do.f rfl (Do.f rfl (Do.f rfl (Do.f rfl (Do.f rfl (Do.t rfl ?_)))));rcases hq with J|J <;> rw[J]
    ·refine Do.t rfl ?_;exact⟨_,rfl,L,.self e J,l,u,rfl,rfl⟩
    ·refine Do.f rfl ((D.merge X hf).bind ?_);rintro res ⟨x,r,p',rfl,hp,hs,y,i⟩;refine⟨_,rfl,L.map JR.mv,?_,y,⟨i.1,Int.le_trans i.2 (by omega)⟩,rfl,rfl⟩;show How N d.t_.p d.q.serial d.clock.now L c _ p' x.serial d.clock.now _;rw[hs];exact .merge p' e J hp
   ·refine Do.f rfl (Do.f rfl (Do.f rfl (Do.f rfl (Do.f rfl (Do.f rfl (Do.t rfl ?_))))));rw[D.count hf c.Queue];exact⟨_,rfl,L,.count e hq,l,u,rfl,rfl⟩
  ·have O:(!((decide (c.Queue >= 0)) && (decide (c.Queue<2))))=true:=by
    cases h1:decide (c.Queue >= 0) with
    | false=>rfl
    | true =>
     cases h2:decide (c.Queue<2) with
     | false=>rfl
     | true =>
      have h1:=of_decide_eq_true h1;have h2:=of_decide_eq_true h2;omega
   rw[O];exact⟨_,rfl,L,.bad hk hq,l,u,rfl,rfl⟩
 ·have n1:(c.Kind == 1)=false:=by simp;omega
  have n5:(c.Kind == 5)=false:=by simp;omega
  have n6:(c.Kind == 6)=false:=by simp;omega
  have n7:(c.Kind == 7)=false:=by simp;omega
  rw[n1,n5,n6,n7];simp only[cF,bS];by_cases h2:c.Kind=2
  ·rw[show (c.Kind == 2)=true by simp[h2],cT];refine (D.Dv hf c).bind ?_;rintro res (⟨e,he,F,rfl⟩|⟨A,j,B,eL,hj,⟨ht,rfl⟩|⟨x,p',b',d',ht,z,rfl,rfl,hs,y,i⟩⟩)
   ·exact⟨_,rfl,L,.dead e (Or.inl h2) he F,l,u,rfl,rfl⟩
   ·exact⟨_,rfl,L,.late A j B h2 eL hj ht,l,u,rfl,rfl⟩
   ·refine⟨_,rfl,_,?_,y.mono (Nat.le_succ T),⟨i.1,Int.le_trans i.2 (by omega)⟩,rfl,rfl⟩;show How N d.t_.p d.q.serial d.clock.now L c _ p' x.serial d.clock.now _;rw[hs];refine .soon A j B p' h2 eL hj ht ?_;have I:Pj.Live d.t_.p j.R j.job:=(D.jl _ _).2 ⟨j,by rw[eL];simp,rfl,rfl⟩;have S:=Pj.px D.jp I (zF.mk j.q c.Time j.data j.item);rw[S] at z;have:=(Prod.mk.inj (Option.some.inj z)).2;rw[<- this];exact oK.set D.jp I
  ·rw[show (c.Kind == 2)=false by simp[h2],cF];by_cases h3:c.Kind=3
   ·rw[show (c.Kind == 3)=true by simp[h3],cT];refine (D.cancel hf c.Job).bind ?_;rintro res (⟨e,he,F,rfl⟩|⟨A,j,B,x,p',d',eL,hj,hg,rfl,rfl,hs,y,i⟩)
    ·exact⟨_,rfl,L,.dead e (Or.inr h3) he F,l,u,rfl,rfl⟩
    ·refine⟨_,rfl,_,?_,y.mono (Nat.le_succ T),⟨i.1,Int.le_trans i.2 (by omega)⟩,rfl,rfl⟩;show How N d.t_.p d.q.serial d.clock.now L c _ p' x.serial d.clock.now _;rw[hs];exact .canc A j B p' h3 eL hj hg
   ·rw[show (c.Kind == 3)=false by simp[h3],cF];by_cases h4:c.Kind=4
    ·rw[show (c.Kind == 4)=true by simp[h4],cT];unfold qn;by_cases ht:c.Time<0
     ·rw[dT ht,cT];exact⟨_,rfl,L,.back h4 ht,l,u,rfl,rfl⟩
     ·rw[dF ht,cF];obtain⟨t,U⟩:=aW d.clock.now c.Time;rw[U];refine⟨_,rfl,L,.go t h4 ht U,?_,u,rfl,rfl⟩;exact⟨l.kd,l.dk,l.dm,l.nb,l.pq,l.jq,l.jp,l.jm,l.jl,l.by1,l.by2,l.wh1,l.wh2,l.rn,l.cn,l.bu,l.la,l.to,l.lb⟩
    ·rw[show (c.Kind == 4)=false by simp[h4],cF];exact⟨_,rfl,L,.unknown (by omega),l,u,rfl,rfl⟩
structure Went (N:Nat) (k:Int) (d:zb) (L:List JR) (T:Nat) (c:zk) (rep:zn) (d':zb) (L':List JR):Prop where
 how:How N d.t_.p d.q.serial d.clock.now L c rep d'.t_.p d'.q.serial d'.clock.now L'
 di:DI N k d' L' (T+1)
 bu:d'.budget=d.budget
theorem DI.do (D:DI N k d L T)(t:T<1000000)(hf:95000<f)(c:zk)(l:c.Kind=1->L.length<60) :
  Do (xf f d c) fun res=>∃ L',Went N k d L T c res.1 res.2 L':=by
 unfold xf;refine Do.seq (r:=d.q.a_.m_.steps) rfl ?_;refine (D.one t hf c l).bind ?_;rintro⟨rep,d'⟩ ⟨L',hh,e,i,j,ht⟩;simp only at hh e i j ht ⊢;refine Do.seq (r:=d'.q.a_.m_.steps) rfl ?_;have h1:=i.1;have h2:=i.2;have h3:=e.bu;have u:=e.to;have x:=e.la;have y:=Ez N;rw[yi (by omega) (by omega)];refine Do.f (dF (by omega)) ?_;refine⟨_,rfl,L',hh,?_,j⟩;refine⟨e.kd,e.dk,e.dm,e.nb,e.pq,e.jq,e.jp,e.jm,e.jl,e.by1,e.by2,e.wh1,e.wh2,e.rn,e.cn,e.bu,?_,?_,e.lb⟩
 ·simp only;omega
 ·simp only;split <;> omega
theorem dc {b:Nat}(i:b<=1000):∀ (r x:Nat) (a:Int) (m:Nat),x+r=b->r<m->0<=a->a+1600*r<=1000000 -> ∃ v,ud 1600 (b:Int) m a (x:Int)=some v/\a+1600*r<=v
 | 0,x,a,m+1,e,hm,h0,h1=>by
  refine⟨a,?_,by omega⟩;unfold ud;rw[dF (by omega),cF]
 | r+1,x,a,m+1,e,hm,h0,h1=>by
  obtain⟨v,hv,hle⟩:=dc i r (x+1) (a+1600) m (by omega) (by omega) (by omega) (by omega);refine⟨v,?_,by omega⟩;unfold ud uD;rw[dT (by omega),cT,yi (x:=9223372036854775807 - 1600) (by omega) (by omega),dF (p:=a > 9223372036854775807 - 1600) (by omega),Bool.and_false,cF];rw[show decide ((1600:Int)<0)=false from rfl,Bool.false_and,cF];simp only[bS];rw[yi (x:=a+1600) (by omega) (by omega),yi (x:=(x:Int)+1) (by omega) (by omega)];rw[show ((x+1:Nat):Int)=(x:Int)+1 by simp] at hv;exact hv
theorem BZ:∀ n:Fin 4096,(match oC ((n.val:Int)+2) with|some b=>decide (1<=b/\b<=14/\((43*min (n.val+1) 60+1900:Nat):Int)<=2000+1600*b)|none=>false)=true:=by decide +kernel
theorem bf {f:Nat}(hf:95000<f){k:Int}(hk:Kd k){N:Nat}(h1:1<=N)(h2:N<=4096):∃ b,tx f k (N:Int)=some (b,true)/\(wb N:Int)+1000<=b:=by
 have hw:vh k=some true:=by
  unfold vh;rcases hk with rfl|rfl|rfl <;> rfl
 have i:=BZ ⟨N - 1,by omega⟩;unfold tx;rw[hw];simp only[bS];rw[show (!true)=false from rfl,cF,dF (by omega),cF,dF (by omega)];simp only[bS,cF];unfold ph;rw[yi (by omega) (by omega)];simp only at i;rw[show ((N - 1:Nat):Int)+2=(N:Int)+1 by omega] at i;cases e:oC ((N:Int)+1) with
 | none=>rw[e] at i;cases i
 | some b =>
  rw[e] at i;have i:=of_decide_eq_true i;obtain⟨j,rfl⟩:∃ j:Nat,b=(j:Int):=⟨b.toNat,by omega⟩
  obtain⟨v,hv,hle⟩:=dc (b:=j) (by omega) j 0 2000 f (by omega) (by omega) (by omega) (by omega);simp only[bS];rw[show ((0:Nat):Int)=0 from rfl] at hv;rw[hv];exact⟨v,rfl,by unfold wb;omega⟩
theorem DI.new (hf:95000<f)(hk:Kd k)(h1:1<=N)(h2:N<=4096) :
  ∃ d,vk f k (N:Int)=some (some d,0)/\DI N k d [] 2/\d.clock.now=0/\d.q.serial=0/\d.t_.p=zf.mk (N:Int) [] []:=by
 have hw:vh k=some true:=by
  unfold vh;rcases hk with rfl|rfl|rfl <;> rfl
 obtain⟨b,z,B⟩:=bf hf hk h1 h2;obtain⟨q,eq,Q,hs,I⟩:=Dq (M:=N) h1 (by omega);obtain⟨_,e,r0,q1,rfl,t,D,_⟩:=Q.bt (f:=f) (k:=k) (a:=zd.mk 0 0) (b:=zd.mk 0 0) (c:=zd.mk 0 0) (key:=0) hk (by simp) (by omega);obtain⟨_,l,r1,J,rfl,u,F,_⟩:=t.bt (f:=f) (k:=k) (a:=zd.mk 0 0) (b:=zd.mk 0 0) (c:=zd.mk 0 0) (key:=0) hk (by simp) (by omega);have x:(if (if 4096<(N:Int) then 4096 else (N:Int)) > 1 then (if 4096<(N:Int) then 4096 else (N:Int)) else 1)=(N:Int):=by
  rw[show (if 4096<(N:Int) then 4096 else (N:Int))=(N:Int) from if_neg (by omega)];split <;> omega
 have y:(if (if 65536<(N:Int) then 65536 else (N:Int)) > 0 then (if 65536<(N:Int) then 65536 else (N:Int)) else 0)=(N:Int):=by
  rw[show (if 65536<(N:Int) then 65536 else (N:Int))=(N:Int) from if_neg (by omega),if_pos (by omega)]
 have A:nK (N:Int)=some (zq.mk (zf.mk (N:Int) [] []) []):=by
  unfold nK sj;rw[x];simp only[bS];rw[y]
 refine⟨zb.mk k (N:Int) J r0 r1 (zq.mk (zf.mk (N:Int) [] []) []) [] (zW.mk 0) b 0 0,?_,?_,rfl,by simp only;omega,rfl⟩
 ·unfold vk;rw[hw];simp only[bS];rw[show (!true)=false from rfl,cF,z];simp only[bS];rw[show (!true)=false from rfl,cF,eq];simp only[bS,uA,oS];rw[A];simp only[bS];unfold nC;simp only[bS];rw[e];simp only[bS];rw[l]
  rfl
 ·refine⟨hk,rfl,rfl,⟨h1,h2⟩,?_,?_,Pj.fV (by omega) (by omega) 2,rfl,?_,List.nodup_nil,?_,List.nodup_nil,?_,List.nodup_nil,rfl,B,⟨Int.le_refl _,by simp only;omega⟩,⟨Int.le_refl _,by simp only;omega⟩,by simp⟩
  ·exact⟨_,_,u.p (List.Perm.swap ..),rfl,rfl,rfl,rfl,.refl _,.refl _⟩
  ·intro j hj;cases hj
  ·intro r v;constructor
   ·intro h;exact absurd h Pj.dh
   ·rintro⟨j,hj,_⟩;cases hj
  ·intro i r;constructor
   ·intro h;cases h
   ·rintro⟨j,hj,_⟩;cases hj
  ·intro i r;constructor
   ·intro h;cases h
   ·rintro⟨j,hj,_⟩;cases hj
end
end
noncomputable section
set_option maxRecDepth 10000
structure PR (p:zf) (r:zo):Prop where
 mo:r.Most=p.most
 ge:r.Gens=p.l.map zt.gen
 tk:r.In=p.l.map zt.taken
 vl:r.V.length=p.l.length
 bk:r.Back=p.free
def rj (j:JR):zH:=zH.mk j.q j.data (zJ.mk j.it.k j.it.s) j.R
structure TI (N:Nat) (p:zf) (s now:Int) (L:List JR) (m:zc):Prop where
 mo:m.Most=N
 nw:m.Now=now
 nx:m.Next=s
 po:PR p m.Pool
 ls:m.L=L.map rj
section
variable {p p':zf} {r:zo} {T:Nat} {L:List JR}
theorem PR.same (P:PR p r)(h:oK p p'):PR p' r :=
 ⟨P.mo.trans h.1.symm,P.ge.trans h.2.2.1.symm,P.tk.trans h.2.2.2.symm,by have:=congrArg List.length h.2.2.1;simp only[lM] at this;rw[P.vl,this],P.bk.trans h.2.1.symm⟩
theorem PR.look (P:PR p r)(I:Pj.Inv p T)(s:zd){x:Option Int}{e:Int}(h:zZ p s=some (x,e)):wH r s=some e:=by
 unfold zZ at h;unfold wH;have i:(r.Gens.length:Int)=(p.l.length:Int):=by rw[P.ge,lM]
 rw[i];by_cases h1:s.At<0
 ·rw[dT h1] at h ⊢;simp only[cT,bS,Option.some.injEq,Prod.mk.injEq] at h ⊢;exact h.2
 rw[dF h1] at h ⊢;by_cases h2:s.At >= (p.l.length:Int)
 ·rw[dT h2] at h ⊢;simp only[cT,cF,bS,Option.some.injEq,Prod.mk.injEq] at h ⊢;exact h.2
 rw[dF h2] at h ⊢;by_cases h3:s.Gen<1
 ·rw[dT h3] at h ⊢;simp only[cT,cF,bS,Option.some.injEq,Prod.mk.injEq] at h ⊢;exact h.2
 rw[dF h3] at h ⊢;obtain⟨j,hj⟩:∃ j:Nat,s.At=(j:Int):=⟨s.At.toNat,by omega⟩
 obtain⟨y,t⟩:∃ y,p.l[j]? = some y:=⟨_,List.getElem?_eq_getElem (by omega)⟩
 rw[hj,yY,t] at h;have z:mIdx r.Gens (j:Int)=some y.gen:=by rw[P.ge,yY,List.getElem?_map,t];rfl
 have A:mIdx r.In (j:Int)=some y.taken:=by rw[P.tk,yY,List.getElem?_map,t];rfl
 rw[hj,z,A];simp only[cF,bS] at h ⊢;by_cases h4:s.Gen > y.gen
 ·rw[dT h4] at h ⊢;simp only[cT,Option.some.injEq,Prod.mk.injEq] at h ⊢;exact h.2
 rw[dF h4] at h ⊢;simp only[cF] at h ⊢;by_cases u:s.Gen<y.gen
 ·rw[dT u] at h ⊢;simp only[Bool.true_or,cT,bS,Option.some.injEq,Prod.mk.injEq] at h ⊢;exact h.2
 rw[dF u] at h ⊢;cases ht:y.taken with
 | true =>
  rw[ht] at h;simp only[Bool.not_true,Bool.or_false,cF,bS,Option.some.injEq,Prod.mk.injEq] at h ⊢;exact h.2
 | false =>
  rw[ht] at h;simp only[Bool.not_false,Bool.or_true,cT,cF,bS,Option.some.injEq,Prod.mk.injEq] at h ⊢;exact h.2
theorem PR.full (P:PR p r)(hf:p.free=[])(hl:(p.l.length:Int)=p.most):xo r 0=some (zd.mk 0 0,false,r):=by
 unfold xo;rw[P.bk,hf];rw[show decide (((([]:List Int).length:Nat):Int) > 0)=false from rfl,cF,P.ge,lM,P.mo,dT (by omega),cT]
 rfl
theorem PR.take (P:PR p r)(I:Pj.Inv p T)(J:T<1000000000){v:zF}{R:zd}(e:(p.l.length:Int)<p.most+p.free.length)(h:yt p v=some (R,true,p')) :
  ∃ r',xo r 0=some (R,true,r')/\PR p' r':=by
 have hl:=I.lb;rcases List.eq_nil_or_concat p.free with hf|⟨fs,f,hf⟩
 ·rw[hf] at e;rw[Pj.oH I hf (by simpa using e)] at h;simp only[Option.some.injEq,Prod.mk.injEq,true_and] at h;obtain⟨rfl,rfl⟩:=h;refine⟨zo.mk r.Most (mSet (r.Gens++[0]) (r.Gens.length:Int) 1) (mSet (r.In++[false]) (r.Gens.length:Int) true) (mSet (r.V++[0]) (r.Gens.length:Int) 0) r.Back,?_,?_⟩
  ·have i:r.Gens.length=p.l.length:=by rw[P.ge,lM]
   have t:r.In.length=p.l.length:=by rw[P.tk,lM]
   have A:=P.vl;unfold xo;rw[P.bk,hf];rw[show decide (((([]:List Int).length:Nat):Int) > 0)=false from rfl,cF,i,P.mo,dF (by simp at e;omega),cF];rw[xu (by simp;omega),xu (by simp;omega),xu (by simp;omega)];simp only[bS];have h1:mIdx (r.Gens++[0]) (p.l.length:Int)=some 0:=by rw[<- i];exact yE r.Gens [] 0
   have h2:mIdx (r.In++[false]) (p.l.length:Int)=some false:=by rw[<- t];exact yE r.In [] false
   have h3:mIdx (r.V++[0]) (p.l.length:Int)=some 0:=by rw[<- A];exact yE r.V [] 0
   rw[h1,h2,h3];simp only[bS];rw[show w64 (0+1)=1 by rw[yi] <;> simp];have h4:mIdx (mSet (r.Gens++[0]) (p.l.length:Int) 1) (p.l.length:Int)=some 1:=by
    rw[yY];simp only[mSet,tN];rw[List.getElem?_set_self (by simp;omega)]
   rw[h4]
   rfl
  ·have i:r.Gens.length=p.l.length:=by rw[P.ge,lM]
   have t:r.In.length=p.l.length:=by rw[P.tk,lM]
   have hs:∀ {α:Type} (l:List α) (a b:α),(l++[a]).set l.length b=l++[b]:=fun l a b=>by simp
   refine⟨P.mo,?_,?_,?_,P.bk.trans hf⟩
   ·simp only[mSet,tN];rw[hs,P.ge];simp
   ·simp only[mSet,tN];rw[i,<- t,hs,P.tk];simp
   ·simp[mSet,P.vl]
 ·rw[List.concat_eq_append] at hf;obtain⟨j,x,rfl,hj,ht⟩:=I.fre f (by rw[hf];simp);have O:=I.gen j x hj;rw[Pj.qO I (by omega) hf hj] at h;simp only[Option.some.injEq,Prod.mk.injEq,true_and] at h;obtain⟨rfl,rfl⟩:=h;have y:=(List.getElem?_eq_some_iff.1 hj).1;have F:fs.length<1000000:=by
   have h0:=I.flen;rw[hf] at h0;simp only[lA,List.length_singleton] at h0;omega
  have hw:w64 (((fs++[(j:Int)]).length:Int) - 1)=(fs.length:Int):=by rw[yi] <;> simp <;> omega
  have z:mIdx (fs++[(j:Int)]) (fs.length:Int)=some (j:Int):=yE fs [] (j:Int);have u:mCut (fs++[(j:Int)]) 0 (fs.length:Int)=some fs:=by
   unfold mCut;rw[if_pos ⟨by omega,by omega,by simp;omega⟩];simp
  have B:mIdx r.Gens (j:Int)=some x.gen:=by rw[P.ge,yY,List.getElem?_map,hj];rfl
  have D:mIdx r.In (j:Int)=some x.taken:=by rw[P.tk,yY,List.getElem?_map,hj];rfl
  have hV:∃ v0,mIdx r.V (j:Int)=some v0:=⟨_,by rw[yY];exact List.getElem?_eq_getElem (by rw[P.vl];exact y)⟩
  obtain⟨v0,hV⟩:=hV;refine⟨zo.mk r.Most (mSet r.Gens (j:Int) (x.gen+1)) (mSet r.In (j:Int) true) (mSet r.V (j:Int) 0) fs,?_,?_⟩
  ·unfold xo;rw[P.bk,hf,dT (by simp),cT,hw,z];simp only[bS];rw[u];simp only[bS];rw[B,D,hV];simp only[bS];rw[yi (by omega) (by omega)];have h4:mIdx (mSet r.Gens (j:Int) (x.gen+1)) (j:Int)=some (x.gen+1):=by
    rw[yY];simp only[mSet,tN];rw[List.getElem?_set_self (by rw[P.ge,lM];exact y)]
   rw[h4]
   rfl
  ·refine⟨P.mo,?_,?_,?_,rfl⟩
   ·simp only[mSet,tN];rw[P.ge,List.map_set]
   ·simp only[mSet,tN];rw[P.tk,List.map_set]
   ·simp only[mSet,List.length_set];exact P.vl
theorem PR.give (P:PR p r)(I:Pj.Inv p T){v:zF}{s:zd}(h:Pj.Live p s v)(i:yb p s=some (v,0,p')) :
  ∃ x r',vp r s=some (x,0,r')/\PR p' r':=by
 rw[Pj.qB I h] at i;simp only[Option.some.injEq,Prod.mk.injEq,true_and] at i;subst i;have t:=P.look I s (Pj.wZ I h);obtain⟨j,e,hj⟩:=h;have l:=(List.getElem?_eq_some_iff.1 hj).1;have A:=I.lb;have z:=I.flen;have u:mIdx r.In (j:Int)=some true:=by rw[P.tk,yY,List.getElem?_map,hj];rfl
 obtain⟨v0,hV⟩:∃ v0,mIdx r.V (j:Int)=some v0:=⟨_,by rw[yY];exact List.getElem?_eq_getElem (by rw[P.vl];exact l)⟩
 refine⟨v0,zo.mk r.Most r.Gens (mSet r.In (j:Int) false) r.V (p.free++[(j:Int)]),?_,?_⟩
 ·unfold vp;rw[t];simp only[bS];rw[show ((0:Int) != 0)=false from rfl,cF,e,u];simp only[bS];rw[P.bk,xu (by simp;omega),List.nil_append];simp only[bS];rw[xu (by simp;omega)];simp only[bS];rw[hV]
  rfl
 ·refine⟨P.mo,?_,?_,?_,by rw[e]⟩
  ·simp only[mSet,e,tN];exact P.ge.trans (pT (y:=⟨s.Gen,false,zF.mk 0 0 0 (zd.mk 0 0)⟩) zt.gen hj rfl).symm
  ·simp only[mSet,e,tN];rw[P.tk,List.map_set]
  ·simp only[mSet,List.length_set];exact P.vl
end
end
noncomputable section
set_option maxRecDepth 10000
def bef (a b:JR):Prop:=a.it.k<b.it.k \/ (a.it.k=b.it.k/\a.it.s<b.it.s)
instance (a b:JR):Decidable (bef a b):=by unfold bef;exact inferInstance
theorem ba (a b:JR):((decide (a.it.k<b.it.k)) || ((a.it.k == b.it.k) && (decide (a.it.s<b.it.s))))=decide (bef a b):=by
 by_cases h:bef a b
 ·rw[dT h];rcases h with h|⟨h1,h2⟩
  ·rw[dT h];rfl
  ·rw[dT h2];simp[h1]
 ·rw[dF h];unfold bef at h;rw[Bool.or_eq_false_iff,Bool.and_eq_false_iff];refine⟨dF (by omega),?_⟩;by_cases h1:a.it.k=b.it.k
  ·exact Or.inr (dF (by omega))
  ·exact Or.inl (by simpa using h1)
def Best (x:Int)(P:List JR)(b:Int):Prop :=
 (b = -1 /\ ∀ j∈P,j.q≠x) \/ ∃ (i:Nat) (j:JR),b=(i:Int)/\P[i]? = some j/\j.q=x /\ ∀ e∈P,e.q=x -> ¬ bef e j
theorem oQ {L:List JR}{i:Nat}{j:JR}(h:L[i]? = some j):mIdx (L.map rj) (i:Int)=some (rj j):=by rw[yY,List.getElem?_map,h];rfl
theorem eR {x:Int}{m:zc}{L:List JR}(hm:m.L=L.map rj)(hl:L.length<=65536) :
  ∀ (rest pre:List JR) (b:Int) (f:Nat),L=pre++rest->rest.length<f->Best x pre b -> ∃ D,yp x m f b (pre.length:Int)=some D/\Best x L D
 | [],pre,b,f+1,e,hf,J=>by
  refine⟨b,?_,by rw[e,aN];exact J⟩;unfold yp;rw[hm,lM,dF (by rw[e];simp),cF]
 | y::rest,pre,b,f+1,e,hf,J=>by
  have hlen:L.length=pre.length+(rest.length+1):=by rw[e];simp
  simp only[lC] at hf;have S:L[pre.length]? = some y:=by rw[e];simp
  have F:∀ {i:Nat} {j:JR},pre[i]? = some j->L[i]? = some j:=by
   intro i j h;rw[e,List.getElem?_append_left (List.getElem?_eq_some_iff.1 h).1];exact h
  have go:∀ I,Best x (pre++[y]) I -> ∃ D,yp x m f I ((pre.length:Int)+1)=some D/\Best x L D:=by
   intro I h1;have:=eR hm hl rest (pre++[y]) I f (by rw[e];simp) (by omega) h1;rw[show ((pre++[y]).length:Int)=(pre.length:Int)+1 by simp] at this;exact this
  unfold yp;rw[hm,lM,dT (by omega),cT,oQ S];simp only[bS];rw[yi (x:=(pre.length:Int)+1) (by omega) (by omega),show (rj y).Queue=y.q from rfl];by_cases hq:y.q=x
  ·rw[show (y.q == x)=true by simpa using hq,cT];rcases J with ⟨rfl,hn⟩|⟨i,j,rfl,hi,z,u⟩
   ·rw[show decide ((-1:Int)<0)=true from rfl,cT];simp only[bS,cT];refine go _ (Or.inr ⟨pre.length,y,rfl,by simp,hq,?_⟩);intro B t z;rcases List.mem_append.1 t with h|h
    ·exact absurd z (hn B h)
    ·rw[List.mem_singleton.1 h];unfold bef;omega
   ·rw[dF (by omega),cF,oQ (F hi)];simp only[bS];unfold tU;simp only[bS];by_cases A:bef y j
    ·have O:((decide ((rj y).E.Key<(rj j).E.Key)) || (((rj y).E.Key == (rj j).E.Key) && (decide ((rj y).E.Serial<(rj j).E.Serial))))=true:=by
      exact (ba y j).trans (dT A)
     rw[O,cT];simp only[bS];refine go _ (Or.inr ⟨pre.length,y,rfl,by simp,hq,?_⟩);intro B t l;rcases List.mem_append.1 t with h|h
     ·have:=u B h l;unfold bef at *;omega
     ·rw[List.mem_singleton.1 h];unfold bef;omega
    ·have O:((decide ((rj y).E.Key<(rj j).E.Key)) || (((rj y).E.Key == (rj j).E.Key) && (decide ((rj y).E.Serial<(rj j).E.Serial))))=false:=by
      exact (ba y j).trans (dF A)
     rw[O,cF];simp only[bS];refine go _ (Or.inr ⟨i,j,rfl,by rw[List.getElem?_append_left (List.getElem?_eq_some_iff.1 hi).1];exact hi,z,?_⟩);intro B t l;rcases List.mem_append.1 t with h|h
     ·exact u B h l
     ·rw[List.mem_singleton.1 h];exact A
  ·rw[show (y.q == x)=false by simpa using hq,cF];simp only[bS,cF];refine go _ ?_;rcases J with ⟨rfl,hn⟩|⟨i,j,rfl,hi,z,u⟩
   ·refine Or.inl ⟨rfl,fun j hj=>?_⟩;rcases List.mem_append.1 hj with h|h
    ·exact hn j h
    ·rw[List.mem_singleton.1 h];exact hq
   ·refine Or.inr ⟨i,j,rfl,by rw[List.getElem?_append_left (List.getElem?_eq_some_iff.1 hi).1];exact hi,z,?_⟩;intro B t l;rcases List.mem_append.1 t with h|h
    ·exact u B h l
    ·rw[List.mem_singleton.1 h] at l;exact absurd l hq
theorem jJ {x:Int}{m:zc}{L:List JR}(hm:m.L=L.map rj)(hl:L.length<=65536){f:Nat}(hf:65536<f):∃ b,xH f m x=some b/\Best x L b:=by
 obtain⟨b,e,i⟩:=eR (x:=x) hm hl L [] (-1) f rfl (by omega) (Or.inl ⟨rfl,by simp⟩);refine⟨b,?_,i⟩;unfold xH;rw[show ((([]:List JR).length:Nat):Int)=0 from rfl] at e;rw[e]
 rfl
theorem CO {m:zc}{A:List JR}{j:JR}{B:List JR}(hm:m.L=(A++j::B).map rj)(hl:(A++j::B).length<=65536)(hn:∀ i∈A,i.R≠j.R) :
  ∀ (rest pre:List JR) (f:Nat),A=pre++rest->rest.length<f->yK j.R.At j.R.Gen m f (pre.length:Int)=some (.inl ((A.length:Int),m))
 | [],pre,f+1,e,hf=>by
  have hlen:(A++j::B).length=A.length+(B.length+1):=by simp
  rw[aN] at e;subst e;unfold yK;rw[hm,lM,dT (by omega),cT,oQ (j:=j) (by simp)];simp only[bS];rw[show zd.eq (rj j).R (zd.mk j.R.At j.R.Gen)=true from (uL _ _).2 rfl,cT]
 | y::rest,pre,f+1,e,hf=>by
  have hlen:(A++j::B).length=A.length+(B.length+1):=by simp
  have l:A.length=pre.length+(rest.length+1):=by rw[e];simp
  simp only[lC] at hf;have x:(A++j::B)[pre.length]? = some y:=by rw[e];simp
  unfold yK;rw[hm,lM,dT (by omega),cT,oQ x];simp only[bS];have t:zd.eq y.R j.R=false:=by
   simpa using fun u=>hn y (by rw[e];simp) ((uL _ _).1 u)
  rw[show zd.eq (rj y).R (zd.mk j.R.At j.R.Gen)=false from t,cF,yi (by omega) (by omega)];have ih:=CO hm hl hn rest (pre++[y]) f (by rw[e];simp) (by omega);rw[show ((pre++[y]).length:Int)=(pre.length:Int)+1 by simp] at ih;exact ih
theorem fL {m:zc}{A:List JR}{j:JR}{B:List JR}(hm:m.L=(A++j::B).map rj)(hl:(A++j::B).length<=65536)(hn:∀ i∈A,i.R≠j.R){f:Nat}(hf:65536<f):xY f m j.R=some ((A.length:Int),m):=by
 have h:=CO hm hl hn A [] f rfl (by simp only[lA] at hl;omega);unfold xY;rw[show ((([]:List JR).length:Nat):Int)=0 from rfl] at h;rw[h]
 rfl
theorem lN {x:Int}{m:zc}{L:List JR}(hm:m.L=L.map rj)(hl:L.length<=65536) :
  ∀ (rest pre:List JR) (n:Int) (f:Nat),L=pre++rest->rest.length<f->0<=n->n<=pre.length ->
   yy x m f n (pre.length:Int)=some (n+(rest.filter fun j=>j.q == x).length)
 | [],pre,n,f+1,e,hf,h0,h1=>by
  unfold yy;rw[hm,lM,dF (by rw[e];simp),cF];simp
 | y::rest,pre,n,f+1,e,hf,h0,h1=>by
  have hlen:L.length=pre.length+(rest.length+1):=by rw[e];simp
  simp only[lC] at hf;have i:L[pre.length]? = some y:=by rw[e];simp
  unfold yy;rw[hm,lM,dT (by omega),cT,oQ i];simp only[bS];rw[yi (x:=(pre.length:Int)+1) (by omega) (by omega),show (rj y).Queue=y.q from rfl,List.filter_cons];cases l:y.q == x with
  | true =>
   have ih:=lN (x:=x) hm hl rest (pre++[y]) (n+1) f (by rw[e];simp) (by omega) (by omega) (by simp;omega);rw[show ((pre++[y]).length:Int)=(pre.length:Int)+1 by simp] at ih;rw[cT,yi (by omega) (by omega)];simp only[bS,if_true];rw[ih];simp;omega
  | false =>
   have ih:=lN (x:=x) hm hl rest (pre++[y]) n f (by rw[e];simp) (by omega) h0 (by simp;omega);rw[show ((pre++[y]).length:Int)=(pre.length:Int)+1 by simp] at ih;rw[cF];simp only[bS,Bool.false_eq_true,if_false];exact ih
theorem fO {x:Int}{m:zc}{L:List JR}(hm:m.L=L.map rj)(hl:L.length<=65536){f:Nat}(hf:65536<f):xG f m x=some ((sel x L).length:Int):=by
 have h:=lN (x:=x) hm hl L [] 0 f rfl (by omega) (Int.le_refl _) (Int.le_refl _);unfold xG;rw[show ((([]:List JR).length:Nat):Int)=0 from rfl] at h;rw[h];simp[sel]
theorem iP:∀ (rest pre:List JR) (m:zc) (n:Int) (f:Nat),m.L=pre.map rj++rest.map rj->pre.length+rest.length<=65536->rest.length<f->0<=n->n<=pre.length ->
   yz f n (pre.length:Int) m=some (n+(rest.filter fun j=>j.q == 1).length,zc.mk m.Most m.Now m.Next m.Pool (pre.map rj++rest.map fun j=>rj j.mv))
 | [],pre,m,n,f+1,hm,hl,hf,h0,h1=>by
  unfold yz;rw[hm,dF (by simp),cF];simp only[List.map_nil,aN] at hm;rw[List.map_nil,aN,<- hm];simp
 | y::rest,pre,m,n,f+1,hm,hl,hf,h0,h1=>by
  simp only[lC] at hf hl;have i:mIdx m.L (pre.length:Int)=some (rj y):=by
   rw[hm,yY];simp
  have hlen:(m.L.length:Int)=pre.length+(rest.length+1):=by rw[hm];simp
  unfold yz;rw[hlen,dT (by omega),cT,i];simp only[bS];rw[yi (x:=(pre.length:Int)+1) (by omega) (by omega),show (rj y).Queue=y.q from rfl,List.filter_cons];by_cases hq:y.q=1
  ·have e:y.mv=y.zero:=by unfold JR.mv;rw[if_pos hq]
   have ih:=iP rest (pre++[y.zero]) (zc.mk m.Most m.Now m.Next m.Pool (mSet m.L (pre.length:Int) (zH.mk 0 (rj y).Data (rj y).E (rj y).R))) (n+1) f (by
    simp only[mSet,tN,hm];rw[List.set_append];simp[rj,JR.zero]) (by simp;omega) (by omega) (by omega) (by simp;omega)
   rw[show ((pre++[y.zero]).length:Int)=(pre.length:Int)+1 by simp] at ih;rw[show (y.q == 1)=true by simp[hq],cT,yi (by omega) (by omega)];simp only[bS,if_true];rw[ih];simp[e];omega
  ·have e:y.mv=y:=by unfold JR.mv;rw[if_neg hq]
   have ih:=iP rest (pre++[y]) m n f (by rw[hm];simp) (by simp;omega) (by omega) h0 (by simp;omega);rw[show ((pre++[y]).length:Int)=(pre.length:Int)+1 by simp] at ih;rw[show (y.q == 1)=false by simp[hq],cF];simp only[bS,Bool.false_eq_true,if_false];rw[ih];simp[e]
theorem du {N:Nat}{p p':zf}{s now:Int}{T:Nat}{A B:List JR}{j:JR}{m:zc}(H:TI N p s now (A++j::B) m)(I:Pj.Inv p T)(hv:Pj.Live p j.R j.job)(t:yb p j.R=some (j.job,0,p'))(hl:(A++j::B).length<=65536) :
  ∃ i,xn m (A.length:Int)=some (rj j,i)/\TI N p' s now (A++B) i:=by
 obtain⟨x,r',u,l⟩:=H.po.give I hv t;have hlen:(A++j::B).length=A.length+(B.length+1):=by simp
 refine⟨zc.mk m.Most m.Now m.Next r' ((A++B).map rj),?_,⟨H.mo,H.nw,H.nx,l,rfl⟩⟩;unfold xn;have e:m.L=A.map rj++rj j::B.map rj:=by rw[H.ls];simp
 have h1:mIdx m.L (A.length:Int)=some (rj j):=by
  have:=yE (A.map rj) (B.map rj) (rj j);rw[lM] at this;rw[e];exact this
 have h2:mCut m.L 0 (A.length:Int)=some (A.map rj):=by
  unfold mCut;rw[e,if_pos ⟨by omega,by omega,by simp;omega⟩];simp
 have h3:mCut m.L (w64 ((A.length:Int)+1)) (m.L.length:Int)=some (B.map rj):=by
  rw[yi (by omega) (by omega),e];unfold mCut;rw[if_pos ⟨by omega,by simp;omega,by simp⟩];have:((A.length:Int)+1).toNat=A.length+1:=by omega
  rw[this,tN,List.take_length];simp[List.drop_append]
 rw[h1];simp only[bS];rw[h2];simp only[bS];rw[h3];simp only[bS];rw[xu (by simp;omega),List.nil_append];simp only[bS];rw[xu (by simp;omega)];simp only[bS];rw[show (rj j).R=j.R from rfl,u];simp
end
noncomputable section
set_option maxRecDepth 10000
theorem add_same {a b t:Int}(ha:0<=a)(e:a<=9223372036854775807)(j:0<=b)(i:b<=9223372036854775807)(h:uD a b=some t):tT a b=some t/\0<=t/\t<=9223372036854775807:=by
 unfold uD at h;unfold tT;rw[yi (x:=9223372036854775807 - b) (by omega) (by omega),dF (p:=b<0) (by omega),Bool.false_and,cF] at h;rw[yi (x:=9223372036854775807 - a) (by omega) (by omega),dF (p:=a<0) (by omega),Bool.false_and,cF];by_cases h1:a+b > 9223372036854775807
 ·rw[dT (p:=b > 0) (by omega),dT (p:=a > 9223372036854775807 - b) (by omega)] at h;rw[dT (p:=a > 0) (by omega),dT (p:=b > 9223372036854775807 - a) (by omega)];simp only[Bool.and_self,cT,Option.some.injEq] at h ⊢;omega
 ·rw[dF (p:=a > 9223372036854775807 - b) (by omega),Bool.and_false,cF,yi (by omega) (by omega)] at h;rw[dF (p:=b > 9223372036854775807 - a) (by omega),Bool.and_false,cF,yi (by omega) (by omega)];simp only[Option.some.injEq] at h ⊢;omega
section
variable {N:Nat} {k:Int} {d:zb} {L L':List JR} {T:Nat} {f:Nat} {m:zc} {rep:zn} {p':zf} {s' now':Int} {c:zk}
theorem k_of {c:zk}(hk:c.Kind=1 \/ c.Kind=5 \/ c.Kind=6 \/ c.Kind=7):(bif c.Kind == 1 then some (c.Kind == 1) else (bif c.Kind == 5 then some (c.Kind == 5) else (bif c.Kind == 6 then some (c.Kind == 6) else some (c.Kind == 7))))=some true:=by
 rcases hk with e|e|e|e <;> rw[e] <;> rfl
theorem k_no {c:zk}(hk:¬ (c.Kind=1 \/ c.Kind=5 \/ c.Kind=6 \/ c.Kind=7)):(bif c.Kind == 1 then some (c.Kind == 1) else (bif c.Kind == 5 then some (c.Kind == 5) else (bif c.Kind == 6 then some (c.Kind == 6) else some (c.Kind == 7))))=some false:=by
 rw[show (c.Kind == 1)=false by simp;omega,show (c.Kind == 5)=false by simp;omega,show (c.Kind == 6)=false by simp;omega,show (c.Kind == 7)=false by simp;omega];rfl
theorem TI.queue (hk:c.Kind=1 \/ c.Kind=5 \/ c.Kind=6 \/ c.Kind=7)(hq:c.Queue=0 \/ c.Queue=1){Q:zn × zc->Prop}(h:Do (ye f m c) Q):Do (zP f m c) Q:=by
 obtain⟨r,e,i⟩:=h;unfold zP;rw[k_of hk];simp only[bS,cT];rw[show ((c.Queue != 0) && (c.Queue != 1))=false by rcases hq with e|e <;> rw[e] <;> rfl,cF,e];exact⟨_,rfl,i⟩
theorem TI.do (D:DI N k d L T)(hT:T<1000000)(H:TI N d.t_.p d.q.serial d.clock.now L m)(hn:0<=d.clock.now/\d.clock.now<=9223372036854775807)(hs:d.q.serial<1000000000000)(hc:c.Time<=9223372036854775807)(hf:95000<f)
  (h:How N d.t_.p d.q.serial d.clock.now L c rep p' s' now' L') :
  Do (zP f m c) fun res=>res.1=rep/\TI N p' s' now' L' res.2/\0<=now'/\now'<=9223372036854775807/\0<=s'/\s'<=d.q.serial+1:=by
 have b5:=D.items.2.1;have b6:=D.nb;have b7:0<=d.q.serial:=by
  obtain⟨h0,h1,Q,_⟩:=D.pq;exact Q.sq.1
 have z:0<=d.q.serial/\d.q.serial<=d.q.serial+1:=by omega
 cases h with
 | bad hk hq =>
  unfold zP;rw[k_of hk];simp only[bS,cT];rw[show ((c.Queue != 0) && (c.Queue != 1))=true by simp;omega,cT];exact⟨_,rfl,rfl,H,hn.1,hn.2,z⟩
 | full hk hq hl =>
  refine TI.queue (Or.inl hk) hq ?_;unfold ye;refine Do.t (by rw[hk];rfl) ?_;have X:d.t_.p.free=[]:=by
   have h1:=D.cn;have h2:=D.jp.len;rw[D.jm] at h2;exact List.eq_nil_of_length_eq_zero (by omega)
  have hl0:(d.t_.p.l.length:Int)=d.t_.p.most:=by
   have h1:=D.cn;rw[X] at h1;rw[D.jm];simp only[List.length_nil] at h1;omega
  refine Do.seq (H.po.full X hl0) (Do.t rfl ?_);exact⟨_,rfl,rfl,⟨H.mo,H.nw,H.nx,H.po,H.ls⟩,hn.1,hn.2,z⟩
 | sched j p' v hk hq hl h1 h2 h3 h4 ht =>
  refine TI.queue (Or.inl hk) hq ?_;unfold ye;refine Do.t (by rw[hk];rfl) ?_;obtain⟨r',W,P'⟩:=H.po.take D.jp (by omega) (by have:=D.cn;rw[D.jm];omega) ht;refine Do.seq W (Do.f rfl ?_);rw[xu (by rw[H.ls];simp;omega),List.nil_append];simp only[bS];rw[xu (by rw[H.ls];simp;omega)];have Y:=H.nx;refine⟨_,rfl,rfl,⟨H.mo,H.nw,?_,P',?_⟩,hn.1,hn.2,by omega,by omega⟩
  ·show w64 (m.Next+1)=_;rw[Y,yi (by omega) (by omega)]
  ·show m.L++[zH.mk c.Queue c.Data (zJ.mk c.Time m.Next) j.R]=_;rw[H.ls,List.map_append,Y];simp[rj,h1,h2,h3,h4]
 | dead e hk he a4 =>
  unfold zP;rw[k_no (by omega)];simp only[bS,cF];have F:(bif c.Kind == 2 then some (c.Kind == 2) else some (c.Kind == 3))=some true:=by rcases hk with e|e <;> rw[e] <;> rfl
  rw[F];simp only[bS,cT];rw[H.po.look D.jp c.Job a4];simp only[bS];rw[show (e != 0)=true by simp[bne,he],cT];exact⟨_,rfl,rfl,H,hn.1,hn.2,z⟩
 | late A j B hk eL hj ht =>
  subst eL;have u:j∈A++j::B:=by simp
  have y:Pj.Live d.t_.p j.R j.job:=(D.jl _ _).2 ⟨j,u,rfl,rfl⟩;have I:∀ i∈A,i.R≠j.R:=by
   have:=D.rn;rw[List.map_append,pC] at this;obtain⟨_,_,h3⟩:=List.nodup_append.1 this;exact fun i hi e=>h3 _ (List.mem_map_of_mem (f:=JR.R) hi) _ (List.mem_cons_self ..) e
  unfold zP;rw[k_no (by omega)];simp only[bS,cF];have F:(bif c.Kind == 2 then some (c.Kind == 2) else some (c.Kind == 3))=some true:=by rw[hk];rfl
  rw[F];simp only[bS,cT];rw[hj,H.po.look D.jp j.R (Pj.wZ D.jp y)];simp only[bS];rw[show ((0:Int) != 0)=false from rfl,cF,fL H.ls (by omega) I (by omega)];simp only[bS];rw[show (c.Kind == 3)=false by rw[hk];rfl,cF,H.ls,oQ (j:=j) (by simp)];simp only[bS];rw[show decide (c.Time > (rj j).E.Key)=true from dT ht,cT];exact⟨_,rfl,rfl,H,hn.1,hn.2,z⟩
 | soon A j B p' hk eL hj ht hp =>
  subst eL;have u:j∈A++j::B:=by simp
  have y:Pj.Live d.t_.p j.R j.job:=(D.jl _ _).2 ⟨j,u,rfl,rfl⟩;have I:∀ i∈A,i.R≠j.R:=by
   have:=D.rn;rw[List.map_append,pC] at this;obtain⟨_,_,h3⟩:=List.nodup_append.1 this;exact fun i hi e=>h3 _ (List.mem_map_of_mem (f:=JR.R) hi) _ (List.mem_cons_self ..) e
  unfold zP;rw[k_no (by omega)];simp only[bS,cF];have F:(bif c.Kind == 2 then some (c.Kind == 2) else some (c.Kind == 3))=some true:=by rw[hk];rfl
  rw[F];simp only[bS,cT];rw[hj,H.po.look D.jp j.R (Pj.wZ D.jp y)];simp only[bS];rw[show ((0:Int) != 0)=false from rfl,cF,fL H.ls (by omega) I (by omega)];simp only[bS];have S:mIdx m.L (A.length:Int)=some (rj j):=by rw[H.ls];exact oQ (by simp)
  rw[show (c.Kind == 3)=false by rw[hk];rfl,cF,S];simp only[bS];rw[show decide (c.Time > (rj j).E.Key)=false from dF (by show ¬ c.Time > j.it.k;omega),cF];have a1:mSet m.L (A.length:Int) (zH.mk (rj j).Queue (rj j).Data (zJ.mk c.Time (rj j).E.Serial) (rj j).R)=(A++(⟨j.q,j.data,j.R,j.item,⟨j.it.i,c.Time,j.it.s⟩⟩:JR)::B).map rj:=by
   simp only[mSet,tN,H.ls,List.map_append,pC];rw[List.set_append];simp[rj]
  rw[a1,oQ (j:=⟨j.q,j.data,j.R,j.item,⟨j.it.i,c.Time,j.it.s⟩⟩) (by simp)];exact⟨_,rfl,rfl,⟨H.mo,H.nw,H.nx,H.po.same hp,rfl⟩,hn.1,hn.2,z⟩
 | canc A j B p' hk eL hj hp =>
  subst eL;have u:j∈A++j::B:=by simp
  have y:Pj.Live d.t_.p j.R j.job:=(D.jl _ _).2 ⟨j,u,rfl,rfl⟩;have I:∀ i∈A,i.R≠j.R:=by
   have:=D.rn;rw[List.map_append,pC] at this;obtain⟨_,_,h3⟩:=List.nodup_append.1 this;exact fun i hi e=>h3 _ (List.mem_map_of_mem (f:=JR.R) hi) _ (List.mem_cons_self ..) e
  obtain⟨m',eo,H'⟩:=du H D.jp y hp (by omega);unfold zP;rw[k_no (by omega)];simp only[bS,cF];have F:(bif c.Kind == 2 then some (c.Kind == 2) else some (c.Kind == 3))=some true:=by rw[hk];rfl
  rw[F];simp only[bS,cT];rw[hj,H.po.look D.jp j.R (Pj.wZ D.jp y)];simp only[bS];rw[show ((0:Int) != 0)=false from rfl,cF,fL H.ls (by omega) I (by omega)];simp only[bS];rw[show (c.Kind == 3)=true by rw[hk];rfl,cT,eo];exact⟨_,rfl,rfl,H',hn.1,hn.2,z⟩
 | back hk ht =>
  unfold zP;rw[k_no (by omega)];simp only[bS,cF];rw[hk];simp only[show ((4:Int) == 2)=false from rfl,show ((4:Int) == 3)=false from rfl,show ((4:Int) == 4)=true from rfl,cF,cT,bS];rw[dT ht,cT];exact⟨_,rfl,rfl,H,hn.1,hn.2,z⟩
 | go t hk ht ha =>
  obtain⟨W,h1,h2⟩:=add_same hn.1 hn.2 (by omega) hc ha;unfold zP;rw[k_no (by omega)];simp only[bS,cF];rw[hk];simp only[show ((4:Int) == 2)=false from rfl,show ((4:Int) == 3)=false from rfl,show ((4:Int) == 4)=true from rfl,cF,cT,bS];rw[dF ht,cF,H.nw,W];exact⟨_,rfl,rfl,⟨H.mo,rfl,H.nx,H.po,H.ls⟩,h1,h2,z⟩
 | idle hk hq a7 =>
  refine TI.queue (Or.inr (Or.inl hk)) hq ?_;unfold ye;refine Do.f (by rw[hk];rfl) (Do.t (by rw[hk];rfl) ?_);obtain⟨b,eb,F⟩:=jJ (x:=c.Queue) H.ls (by omega) (f:=f) (by omega);refine Do.seq eb ?_;rcases F with ⟨rfl,J⟩|⟨i,j,rfl,hi,U,O⟩
  ·rw[show decide ((-1:Int)<0)=true from rfl,cT];simp only[bS,cT];exact⟨_,rfl,rfl,H,hn.1,hn.2,z⟩
  ·rw[dF (by omega),cF,H.ls,oQ hi];simp only[bS];have:=a7 j (List.mem_of_getElem? hi) U;rw[show decide ((rj j).E.Key > m.Now)=true from dT (by rw[H.nw];exact this),cT];exact⟨_,rfl,rfl,H,hn.1,hn.2,z⟩
 | fire A j B p' hk hq eL hj hle hm hp =>
  subst eL;refine TI.queue (Or.inr (Or.inl hk)) hq ?_;unfold ye;refine Do.f (by rw[hk];rfl) (Do.t (by rw[hk];rfl) ?_);obtain⟨b,eb,F⟩:=jJ (x:=c.Queue) H.ls (by omega) (f:=f) (by omega);refine Do.seq eb ?_;have u:j∈A++j::B:=by simp
  have y:Pj.Live d.t_.p j.R j.job:=(D.jl _ _).2 ⟨j,u,rfl,rfl⟩;rcases F with ⟨rfl,J⟩|⟨i,j',rfl,hi,U,O⟩
  ·exact absurd hj (J j u)
  ·have a5:=List.mem_of_getElem? hi;have h1:=O j u hj;have h2:=hm j' a5 U;have a0:j'.it.s=j.it.s:=by
    unfold bef at h1;unfold It.lt at h2;omega
   have a8:=D.items.2.2.1;have a6:i=A.length:=by
    have W:((A++j::B).map fun j=>j.it.s)[i]? = some j.it.s:=by rw[List.getElem?_map,hi];simp[a0]
    have e2:((A++j::B).map fun j=>j.it.s)[A.length]? = some j.it.s:=by rw[List.getElem?_map];simp
    obtain⟨l1,g1⟩:=List.getElem?_eq_some_iff.1 W;obtain⟨l2,g2⟩:=List.getElem?_eq_some_iff.1 e2;have Z:=List.pairwise_iff_getElem.1 a8;rcases Nat.lt_trichotomy i A.length with h|h|h
    ·exact absurd (g1.trans g2.symm) (Z _ _ l1 l2 h)
    ·exact h
    ·exact absurd (g2.trans g1.symm) (Z _ _ l2 l1 h)
   subst a6;obtain⟨m',eo,H'⟩:=du H D.jp y hp (by omega);have S:mIdx m.L (A.length:Int)=some (rj j):=by rw[H.ls];exact oQ (by simp)
   rw[dF (by omega),cF,S];simp only[bS];rw[show decide ((rj j).E.Key > m.Now)=false from dF (by rw[H.nw];show ¬ j.it.k > _;omega),cF,eo];exact⟨_,rfl,rfl,H',hn.1,hn.2,z⟩
 | self hk hq =>
  refine TI.queue (Or.inr (Or.inr (Or.inl hk))) (Or.inl hq) ?_;unfold ye;refine Do.f (by rw[hk];rfl) (Do.f (by rw[hk];rfl) (Do.t (by rw[hk];rfl) (Do.t (by rw[hq];rfl) ?_)));exact⟨_,rfl,rfl,H,hn.1,hn.2,z⟩
 | merge p' hk hq hp =>
  refine TI.queue (Or.inr (Or.inr (Or.inl hk))) (Or.inr hq) ?_;unfold ye;refine Do.f (by rw[hk];rfl) (Do.f (by rw[hk];rfl) (Do.t (by rw[hk];rfl) (Do.f (by rw[hq];rfl) ?_)));have e:=iP L [] m 0 f (by rw[H.ls];rfl) (by simp;omega) (by omega) (Int.le_refl _) (Int.le_refl _);rw[show ((([]:List JR).length:Nat):Int)=0 from rfl] at e;refine Do.seq e ?_;refine⟨_,rfl,?_,⟨H.mo,H.nw,H.nx,H.po.same hp,?_⟩,hn.1,hn.2,z⟩
  ·simp[sel]
  ·show[].map rj++L.map (fun j=>rj j.mv)=_;simp[List.map_map,Function.comp_def]
 | count hk hq =>
  refine TI.queue (Or.inr (Or.inr (Or.inr hk))) hq ?_;unfold ye;refine Do.f (by rw[hk];rfl) (Do.f (by rw[hk];rfl) (Do.f (by rw[hk];rfl) ?_));rw[fO H.ls (by omega) (by omega)];exact⟨_,rfl,rfl,H,hn.1,hn.2,z⟩
 | unknown h =>
  unfold zP;rw[k_no (by omega)];simp only[bS,cF];rw[show (c.Kind == 2)=false by simp;omega,show (c.Kind == 3)=false by simp;omega,show (c.Kind == 4)=false by simp;omega];exact⟨_,rfl,rfl,H,hn.1,hn.2,z⟩
end
end
end Go.Proofs.YtcepppmiplonfaaGreat
noncomputable section
namespace Go.Th
section
variable {H:Type} {en:TypeId × Value->H} {P:Program} {w:World} {base:Nat} {spare:Nat->Bool} {held:Bool}
end
theorem SlRd.sub {α:Type}{p:α -> Prop}{X:HP}{enc:α -> List Value}{sz:Nat}{sb:Option Addr}{l:List {z:α // p z}}(h:SlRd X (fun z=>enc z.1) sz sb l):SlRd X enc sz sb (l.map (·.1)):=by
 intro g e;rcases h g e with rfl|⟨b,off,cs,T,fr,h1,h2,h3⟩
 ·exact .inl rfl
 ·refine .inr ⟨b,off,cs,T,fr,h1,h2,fun i hi=>?_⟩;rw[lM] at hi;rw[h3 i hi];simp[List.flatMap_map]
theorem wg.sub {α:Type}{p:α -> Prop}{enc:α -> List Value}{sz:Nat}(h:wg enc sz):wg (fun z:{z:α // p z}=>enc z.1) sz:=⟨fun x=>h.len x.1,fun x=>h.one x.1⟩
end Go.Th
namespace Go.Th
end Go.Th
namespace Go.Th
section
variable {H:Type} {en:TypeId × Value->H} {P:Program} {w:World} {base:Nat} {spare:Nat->Bool} {held:Bool}
theorem Ad {e:TypeId}(he:P.underlying e=some (.int .u8)):∀ n cs y,DataW.trod en P w base spare held n e cs=some y -> ∃ z:Int,cs=ecU z:=fun n cs y h=>by
 obtain⟨z,rfl,_⟩:=DataW.trod_int he h;exact⟨z,rfl⟩
end
end Go.Th
end
namespace Go.Proofs.YtcepppmiplonfaaGreat
open Go.Th
noncomputable section
set_option maxRecDepth 10000
theorem dx (r:zn):zn.eq r r=true:=by
 unfold zn.eq;rw[(uL _ _).2 rfl];simp
section
variable {N:Nat} {k:Int} {L:List JR} {T:Nat} {f:Nat} {c:zk}
end
def dueN (x now:Int)(L:List JR):Nat:=(L.filter fun j=>j.q == x && decide (j.it.k<=now)).length
section
variable {N:Nat} {L L':List JR} {c:zk} {p p':zf} {s s' now now':Int} {rep:zn}
theorem how5 (h:How N p s now L c rep p' s' now' L')(hk:c.Kind=5)(hq:c.Queue=0 \/ c.Queue=1):now'=now /\
  ((rep=no 28/\L'=L /\ ∀ j∈L,j.q=c.Queue->now<j.it.k) \/ ∃ A j B,rep=zn.mk 0 j.R j.it.k j.data 0/\L=A++j::B/\L'=A++B/\j.q=c.Queue/\j.it.k<=now /\ ∀ i∈L,i.q=c.Queue -> ¬ i.it.lt j.it):=by
 cases h with
 | idle _ _ hn=>exact⟨rfl,Or.inl ⟨rfl,rfl,hn⟩⟩
 | fire A j B _ _ _ eL hj hn hm _=>exact⟨rfl,Or.inr ⟨A,j,B,rfl,eL,rfl,hj,hn,hm⟩⟩
 | bad _ e=>exact absurd hq e
 | _=>omega
end
inductive Ran (N:Nat) (k:Int):zb->List JR->Nat->List zk->List zn->zb->List JR->Nat->Prop
 | nil {d:zb} {L:List JR} {T:Nat} (D:DI N k d L T):Ran N k d L T [] [] d L T
 | cons {d d1 d':zb} {L L1 L':List JR} {T T':Nat} {c:zk} {cs:List zk} {rep:zn} {reps:List zn} (D:DI N k d L T) (G:Went N k d L T c rep d1 L1) (h:Ran N k d1 L1 (T+1) cs reps d' L' T'):Ran N k d L T (c::cs) (rep::reps) d' L' T'
section
variable {N:Nat} {k:Int}
theorem Ran.last {d d':zb}{L L':List JR}{T T':Nat}{cs:List zk}{reps:List zn}(h:Ran N k d L T cs reps d' L' T'):DI N k d' L' T'/\T'=T+cs.length/\reps.length=cs.length:=by
 induction h with
 | nil D=>exact⟨D,rfl,rfl⟩
 | cons D G h ih=>exact⟨ih.1,by rw[ih.2.1];simp;omega,by simp[ih.2.2]⟩
theorem bw {x now:Int}{A B:List JR}{j:JR}:dueN x now (A++j::B)=dueN x now (A++B)+(if (j.q == x && decide (j.it.k<=now))=true then 1 else 0):=by
 unfold dueN;rw[List.filter_append,List.filter_append,List.filter_cons];split <;> simp <;> omega
end
section
variable {N:Nat} {L L':List JR} {c:zk} {p p':zf} {s s' now now':Int} {rep:zn}
end
end
noncomputable section
set_option maxRecDepth 10000
inductive Chn (N:Nat) (k:Int):zb->List JR->Nat->List zx->zb->List JR->Nat->Prop
 | nil {d:zb} {L:List JR} {T:Nat}:Chn N k d L T [] d L T
 | cons {d d1 d':zb} {L L1 L':List JR} {T T':Nat} {e:zx} {es:List zx} (D:DI N k d L T) (G:Went N k d L T e.Command e.Reply d1 L1) (hn:e.Now=d1.clock.now) (hs:0<=e.Steps) (ht:e.Command.Time<=9223372036854775807) (h:Chn N k d1 L1 (T+1) es d' L' T'):Chn N k d L T (e::es) d' L' T'
theorem Chn.trans {N:Nat}{k:Int}{d d1 d2:zb}{L L1 L2:List JR}{T e i:Nat}{A B:List zx}(h:Chn N k d L T A d1 L1 e)(j:Chn N k d1 L1 e B d2 L2 i):Chn N k d L T (A++B) d2 L2 i:=by
 induction h with
 | nil=>exact j
 | cons D G hn hs ht h ih=>exact .cons D G hn hs ht (ih j)
structure BI (N:Nat) (k:Int) (n:Nat) (b:zw) (L:List JR) (T:Nat):Prop where
 di:DI N k b.s.d L T
 bx:b.s.desk.l.length=n
 nb:n<=100
 ev:b.l.length<=T
section
variable {N n:Nat} {k:Int} {b:zw} {L:List JR} {T f:Nat}
theorem BI.len (B:BI N k n b L T):L.length<=60:=B.di.lb
theorem BI.one (B:BI N k n b L T)(t:T<900000)(hf:95000<f)(c:zk)(i:c.Kind=1->L.length<60){k2:List zg}(hk:k2.length=n) :
  ∃ rep d' L',xf f b.s.d c=some (rep,d')/\ve (zw.mk (zh.mk d' (zj.mk k2)) b.l) c rep=some (rep,zw.mk (zh.mk d' (zj.mk k2)) (b.l++[zx.mk c rep d'.clock.now d'.last])) /\
   BI N k n (zw.mk (zh.mk d' (zj.mk k2)) (b.l++[zx.mk c rep d'.clock.now d'.last])) L' (T+1)/\Went N k b.s.d L T c rep d' L'/\(c.Time<=9223372036854775807->Chn N k b.s.d L T [zx.mk c rep d'.clock.now d'.last] d' L' (T+1)):=by
 obtain⟨⟨rep,d'⟩,e,L',G⟩:=B.di.do (f:=f) (by omega) hf c i
 have j:=B.ev;refine⟨rep,d',L',e,?_,⟨G.di,hk,B.nb,by simp;omega⟩,G,fun ht=>.cons B.di G rfl G.di.la.1 ht .nil⟩;unfold ve zO xt tH xi;simp only[bS];rw[xu (by simp;omega)]
 rfl
theorem BI.drain (hf:95000<f):∀ (r x:Nat) (m:Nat) {b:zw}{L:List JR}{T:Nat},BI N k n b L T->T<800000+x->dueN 0 b.s.d.clock.now L=r->x+r<4000->f+r<m ->
  ∃ t L' T',xp m (x:Int) (x:Int) b=some (((x+r:Nat):Int),t)/\BI N k n t L' T'/\T'=T+r+1/\t.s.d.clock.now=b.s.d.clock.now/\dueN 0 b.s.d.clock.now L'=0/\t.s.desk=b.s.desk/\L'.length<=L.length /\ ∃ es,t.l=b.l++es/\es.length=r+1/\Chn N k b.s.d L T es t.s.d L' T'
 | 0,x,m,b,L,T,B,hT,U,hx,hm=>by
  obtain⟨m,rfl⟩:∃ q,m=q+1:=⟨m - 1,by omega⟩
  obtain⟨rep,d',L',F,I,D,G,hC⟩:=B.one (f:=m) (by omega) (by omega) (zk.mk 5 0 (zd.mk 0 0) 0 0) (fun h=>absurd h (by decide)) (k2:=b.s.desk.l) B.bx;obtain⟨i,hh⟩:=how5 G.how rfl (Or.inl rfl);simp only at hh;have hw:(rep.Why != 0)=true/\L'=L:=by
   rcases hh with ⟨rfl,rfl,z⟩|⟨A,j,R,rfl,rfl,rfl,y,u,hm⟩
   ·exact⟨rfl,rfl⟩
   ·have hd:=bw (x:=0) (now:=b.s.d.clock.now) (A:=A) (B:=R) (j:=j);rw[if_pos (by rw[y,dT u];simp)] at hd;omega
  obtain⟨hw,rfl⟩:=hw;refine⟨_,L',T+1,?_,D,rfl,i,U,rfl,Nat.le_refl _,_,rfl,rfl,hC (by show (0:Int)<=_;omega)⟩;unfold xp xP;rw[dT (by omega),cT,F];simp only[bS];rw[show (zh.mk d' b.s.desk)=zh.mk d' (zj.mk b.s.desk.l) from rfl,I];simp only[bS];rw[hw,cT]
  rfl
 | r+1,x,m,b,L,T,B,hT,U,hx,hm=>by
  obtain⟨m,rfl⟩:∃ q,m=q+1:=⟨m - 1,by omega⟩
  obtain⟨rep,d',L',F,I,D,G,hC⟩:=B.one (f:=m) (by omega) (by omega) (zk.mk 5 0 (zd.mk 0 0) 0 0) (fun h=>absurd h (by decide)) (k2:=b.s.desk.l) B.bx;obtain⟨i,hh⟩:=how5 G.how rfl (Or.inl rfl);simp only at hh;have hw:(rep.Why != 0)=false/\dueN 0 b.s.d.clock.now L'=r/\L'.length<=L.length:=by
   rcases hh with ⟨_,_,z⟩|⟨A,j,R,rfl,rfl,rfl,y,u,hm⟩
   ·have:dueN 0 b.s.d.clock.now L=0:=by
     unfold dueN;rw[List.filter_eq_nil_iff.2 (fun j hj=>?_)];rfl;intro e;rw[Bool.and_eq_true,beq_iff_eq] at e;have:=z j hj e.1;have:=of_decide_eq_true e.2;omega
    omega
   ·have hd:=bw (x:=0) (now:=b.s.d.clock.now) (A:=A) (B:=R) (j:=j);rw[if_pos (by rw[y,dT u];simp)] at hd;exact⟨rfl,by omega,by simp only[lA,lC];omega⟩
  obtain⟨hw,hd,a1⟩:=hw;obtain⟨t,L2,T2,S,Z,q1,J,O,X,q8,es,W,q6,Y⟩:=BI.drain hf r (x+1) m D (by omega) (by simp only;rw[i];exact hd) (by omega) (by omega);simp only at J O W X Y;rw[i] at J O;refine⟨t,L2,T2,?_,Z,by omega,J,O,X,by omega,zx.mk (zk.mk 5 0 (zd.mk 0 0) 0 0) rep d'.clock.now d'.last::es,by rw[W];simp,by simp[q6],(hC (by show (0:Int)<=_;omega)).trans Y⟩;unfold xp xP;rw[dT (by omega),cT,F];simp only[bS];rw[show (zh.mk d' b.s.desk)=zh.mk d' (zj.mk b.s.desk.l) from rfl,I];simp only[bS];rw[hw,cF,yi (by omega) (by omega)];rw[show ((x+1:Nat):Int)=(x:Int)+1 by simp] at S;rw[S];rw[show x+1+r=x+(r+1) by omega]
end
end
noncomputable section
set_option maxRecDepth 10000
def wtL (l:List zg):Nat:=(l.map fun b=>b.c_.buf.length).sum
theorem kN (A B:List zg):wtL (A++B)=wtL A+wtL B:=by simp[wtL]
theorem oI (b:zg)(B:List zg):wtL (b::B)=b.c_.buf.length+wtL B:=by simp[wtL]
theorem dA {p q:List zg}{x y:zg}:mSet (p++x::q) (p.length:Int) y=p++y::q:=kD p q x y
theorem gw {l:List zg}(hl:l.length<=100):∀ (rest pre:List zg) (f:Nat),l=pre++rest->rest.length<f ->
  (wtL rest=0/\zV (l.length:Int) f (pre.length:Int) (zj.mk l)=some (.inr (zj.mk l))) \/
  ∃ A b u r1 B y,rest=A++b::B/\(∀ a∈A,a.c_.buf=[])/\b.c_.buf=u::r1/\zV (l.length:Int) f (pre.length:Int) (zj.mk l)=some (.inl (u,y,true,zj.mk (pre++A++zg.mk (MCh.rest b.c_ r1)::B)))
 | [],pre,f+1,e,hf=>by
  refine Or.inl ⟨rfl,?_⟩;unfold zV;rw[dF (by rw[e];simp),cF]
 | y::rest,pre,f+1,e,hf=>by
  have hlen:l.length=pre.length+(rest.length+1):=by rw[e];simp
  simp only[lC] at hf;have j:mIdx l (pre.length:Int)=some y:=by rw[e];exact yE pre rest y
  cases hu:MCh.buf y.c_ with
  | nil =>
   have i:zV (l.length:Int) (f+1) (pre.length:Int) (zj.mk l)=zV (l.length:Int) f ((pre.length:Int)+1) (zj.mk l):=by
    conv=>lhs;unfold zV
    rw[dT (by omega),cT];simp only;rw[j];simp only[bS];unfold xC;rw[hu];simp only[bS,cF];rw[yi (by omega) (by omega)];congr 2;rw[e,dA]
   rcases gw hl rest (pre++[y]) f (by rw[e];simp) (by omega) with ⟨h1,h2⟩|⟨A,b,u,r1,B,z,h1,h0,h2,h3⟩
   ·rw[show ((pre++[y]).length:Int)=(pre.length:Int)+1 by simp] at h2;exact Or.inl ⟨by rw[oI,hu,h1];rfl,by rw[i];exact h2⟩
   ·rw[show ((pre++[y]).length:Int)=(pre.length:Int)+1 by simp] at h3;refine Or.inr ⟨y::A,b,u,r1,B,z,by rw[h1];rfl,fun a ha=>by
     rcases List.mem_cons.1 ha with rfl|ha
     ·exact hu
     ·exact h0 a ha,h2,?_⟩
    rw[i,h3];simp
  | cons u r1 =>
   refine Or.inr ⟨[],y,u,r1,rest,(pre.length:Int),rfl,by simp,hu,?_⟩;unfold zV;rw[dT (by omega),cT];simp only;rw[j];simp only[bS];unfold xC;rw[hu];simp only[bS,cT];rw[aN,e,dA]
end
noncomputable section
set_option maxRecDepth 10000
theorem bK {N:Nat}{L L':List JR}{c:zk}{p p':zf}{s s' now now':Int}{rep:zn}(h:How N p s now L c rep p' s' now' L'):L'.length<=L.length+1:=by
 cases h with
 | sched=>simp
 | soon A j B p' hk eL=>subst eL;simp
 | canc A j B p' hk eL=>subst eL;simp;omega
 | fire A j B p' hk hq eL=>subst eL;simp;omega
 | merge=>simp
 | _=>omega
def asks (x:zS):Nat:=if x.Kind=1 \/ x.Kind=3 then 1 else 0
section
variable {N n:Nat} {k:Int} {b:zw} {L:List JR} {T f:Nat}
theorem BI.act {x:zS}(B:BI N k n b L T)(Z:L.length+wtL b.s.desk.l+asks x<=60)(hT:T<700000)(hf:96000<f) :
  ∃ r I L' T',uU f b x=some (r,I)/\BI N k n I L' T'/\T'<=T+62/\L'.length+wtL I.s.desk.l<=L.length+wtL b.s.desk.l+asks x:=by
 have e:=B.bx;have j:=B.nb;unfold uU;by_cases h1:x.Kind=1
 ·have ha:asks x=1:=if_pos (Or.inl h1);rw[show (x.Kind == 1)=true by simp[h1],cT];unfold yL xW;by_cases h:x.Box<0 \/ x.Box >= (b.s.desk.l.length:Int)
  ·have hs:(bif decide (x.Box<0) then some true else some (decide (x.Box >= (b.s.desk.l.length:Int))))=some true:=by
    by_cases h0:x.Box<0
    ·rw[dT h0,cT]
    ·rw[dF h0,cF,dT (by omega)]
   rw[hs];simp only[bS,cT];exact⟨_,_,L,T,rfl,⟨B.di,e,j,B.ev⟩,by omega,by simp only;omega⟩
  ·have hs:(bif decide (x.Box<0) then some true else some (decide (x.Box >= (b.s.desk.l.length:Int))))=some false:=by
    rw[dF (by omega),cF,dF (by omega)]
   rw[hs];simp only[bS,cF];obtain⟨i,hi⟩:∃ i:Nat,x.Box=(i:Int):=⟨x.Box.toNat,by omega⟩
   obtain⟨pre,y,rest,S,U⟩:∃ pre y rest,b.s.desk.l=pre++y::rest/\pre.length=i:=⟨b.s.desk.l.take i,b.s.desk.l[i]'(by omega),b.s.desk.l.drop (i+1),by rw[List.getElem_cons_drop,List.take_append_drop],by simp;omega⟩
   rw[hi,<- U,S,yE];simp only[bS];unfold wq;have hlen:pre.length+(rest.length+1)=n:=by rw[S] at e;simpa using e
   have hw:wtL b.s.desk.l=wtL pre+(y.c_.buf.length+wtL rest):=by rw[S,kN,oI]
   cases hr:MCh.room y.c_ with
   | true =>
    simp only[cT,bS];rw[dA];refine⟨_,_,L,T,rfl,⟨B.di,by simp;omega,j,B.ev⟩,by omega,?_⟩;show L.length+wtL (pre++_::rest)<=_;simp only[kN,oI,MCh.push,lA,List.length_singleton];omega
   | false =>
    simp only[cF,bS];rw[dA];refine⟨_,_,L,T,rfl,⟨B.di,by simp;omega,j,B.ev⟩,by omega,?_⟩;show L.length+wtL (pre++y::rest)<=_;simp only[kN,oI];omega
 ·rw[show (x.Kind == 1)=false by simp[h1],cF];by_cases h2:x.Kind=2
  ·rw[show (x.Kind == 2)=true by simp[h2],cT];unfold yF xV;have F:=gw (l:=b.s.desk.l) (by omega) b.s.desk.l [] f rfl (by omega);rw[show ((([]:List zg).length:Nat):Int)=0 from rfl,show zj.mk b.s.desk.l=b.s.desk from rfl] at F;rcases F with ⟨hw,en⟩|⟨A,y,u,r1,R,z,W,hA,hu,en⟩
   ·rw[en];simp only[bS];rw[show (!false)=true from rfl,cT];simp only[bS];rw[show (!false)=true from rfl,cT];exact⟨_,_,L,T,rfl,⟨B.di,e,j,B.ev⟩,by omega,by simp only;omega⟩
   ·rw[en];simp only[bS,List.nil_append];have hw:wtL b.s.desk.l=wtL A+(r1.length+1+wtL R):=by rw[W,kN,oI,hu];simp
    obtain⟨rep,J,L',t,O,D,G,_⟩:=B.one (f:=f) (by omega) (by omega) u (fun _=>by omega) (k2:=A++zg.mk (MCh.rest y.c_ r1)::R) (by rw[W] at e;simpa using e);have hl:=bK G.how;rw[show (!true)=false from rfl,cF,t];simp only[bS];rw[show (!true)=false from rfl,cF,O];refine⟨_,_,L',T+1,rfl,D,by omega,?_⟩;show L'.length+wtL (A++_::R)<=_;rw[kN,oI];simp[MCh.rest];omega
  ·rw[show (x.Kind == 2)=false by simp[h2],cF];by_cases h3:x.Kind=3
   ·have ha:asks x=1:=if_pos (Or.inr h3);rw[show (x.Kind == 3)=true by simp[h3],cT];unfold xP;obtain⟨rep,J,L',t,O,D,G,_⟩:=B.one (f:=f) (by omega) (by omega) x.Command (fun _=>by omega) (k2:=b.s.desk.l) e;have hl:=bK G.how;rw[t];simp only[bS];rw[show zh.mk J b.s.desk=zh.mk J (zj.mk b.s.desk.l) from rfl,O];exact⟨_,_,L',T+1,rfl,D,by omega,by simp only;omega⟩
   ·rw[show (x.Kind == 3)=false by simp[h3],cF];by_cases h4:x.Kind=4
    ·rw[show (x.Kind == 4)=true by simp[h4],cT];have hl:=B.len;have X:dueN 0 b.s.d.clock.now L<=L.length:=List.length_filter_le _ _;obtain⟨I,L',T',t,D,q1,q2,q3,Y,q8,es,q4,q6,q7⟩:=BI.drain (f:=95001) (by omega) (dueN 0 b.s.d.clock.now L) 0 f B (by omega) rfl (by omega) (by omega);rw[show ((0:Nat):Int)=0 from rfl] at t;unfold tf;rw[t];exact⟨_,_,L',T',rfl,D,by omega,by simp only;rw[Y];omega⟩
    ·rw[show (x.Kind == 4)=false by simp[h4],cF];exact⟨_,b,L,T,rfl,B,by omega,by omega⟩
def askN (l:List zS):Nat:=(l.map asks).sum
theorem Be {s:List zS}(hl:s.length<=256):∀ (rest pre:List zS) (outs:List zn) (b:zw) (L:List JR) (T j:Nat),s=pre++rest->96001+rest.length<j->BI N k n b L T->L.length+wtL b.s.desk.l+askN rest<=60->T<=2+62*pre.length->outs.length=pre.length ->
  ∃ i t L' T',xK (s.length:Int) s j outs (pre.length:Int) b=some (i,t)/\i.length=s.length/\BI N k n t L' T'/\T'<=2+62*s.length
 | [],pre,outs,b,L,T,j,e,hf,B,S,U,A=>by
  obtain⟨f,rfl⟩:∃ f,j=f+1:=⟨j - 1,by omega⟩
  have hlen:s.length=pre.length:=by rw[e];simp
  refine⟨outs,b,L,T,?_,by omega,B,by omega⟩;unfold xK;rw[dF (by rw[e];simp),cF]
 | c::rest,pre,outs,b,L,T,j,e,hf,B,S,U,A=>by
  obtain⟨f,rfl⟩:∃ f,j=f+1:=⟨j - 1,by omega⟩
  have hlen:s.length=pre.length+(rest.length+1):=by rw[e];simp
  have z:askN (c::rest)=asks c+askN rest:=by simp[askN]
  simp only[lC] at hf;have u:mIdx s (pre.length:Int)=some c:=by rw[e];exact yE pre rest c
  obtain⟨rep,I,L1,F,J,D,W,O⟩:=B.act (x:=c) (f:=f) (by omega) (by omega) (by omega);obtain⟨i,t,L',T',y,q1,X,Y⟩:=Be hl rest (pre++[c]) (outs++[rep]) I L1 F f (by rw[e];simp) (by omega) D (by omega) (by simp;omega) (by simp[A]);rw[show ((pre++[c]).length:Int)=(pre.length:Int)+1 by simp] at y;refine⟨i,t,L',T',?_,q1,X,Y⟩;unfold xK;rw[dT (by omega),cT,u];simp only[bS];rw[J];simp only[bS];rw[xu (by simp;omega)];simp only[bS];rw[yi (by omega) (by omega)];exact y
end
end
noncomputable section
set_option maxRecDepth 10000
theorem ao {n1:Int}{l:List Int}{r:zu}(hl:l.length<=100):∀ (m i e:Nat) (v:Int),i+m=l.length->m<e -> ∃ z,yS n1 l (l.length:Int) r e v (i:Int)=some z
 | 0,i,e,v,h1,h2=>by
  obtain⟨f,rfl⟩:∃ f,e=f+1:=⟨e - 1,by omega⟩
  refine⟨v,?_⟩;unfold yS;rw[dF (by omega),cF]
 | m+1,i,e,v,h1,h2=>by
  obtain⟨f,rfl⟩:∃ f,e=f+1:=⟨e - 1,by omega⟩
  obtain⟨x,j⟩:∃ x,l[i]? = some x:=⟨_,List.getElem?_eq_getElem (by omega)⟩
  unfold yS;rw[dT (by omega),cT,yY,j];simp only[bS];rw[yi (by omega) (by omega)];have:=ao (n1:=n1) (r:=r) hl m (i+1) f (IntKind.wrap .u64 ((BitVec.ofInt 64 (IntKind.wrap .u64 (v*2 ^ (min (Int.toNat 8) 64))) ||| BitVec.ofInt 64 (IntKind.wrap .u64 x)).toNat:Int)) (by omega) (by omega);rw[show ((i+1:Nat):Int)=(i:Int)+1 by simp] at this;exact this
theorem aq {f:Nat}(hf:200<f)(r:zu)(n:Nat)(hn:1<=n/\n<=8):∃ v r',xm f r (n:Int)=some (v,r')/\((n<=r.b.length/\r'.b.length+n=r.b.length/\r'.bad=r.bad) \/ (r.b.length<n/\r'.b=[]/\r'.bad=true)):=by
 unfold xm;by_cases h:r.b.length<n
 ·rw[dT (by omega),cT];exact⟨_,_,rfl,Or.inr ⟨h,rfl,rfl⟩⟩
 ·rw[dF (by omega),cF];have i:mCut r.b 0 (n:Int)=some (r.b.take n):=by
   unfold mCut;rw[if_pos ⟨by omega,by omega,by omega⟩];simp
  have j:mCut r.b (n:Int) (r.b.length:Int)=some (r.b.drop n):=by
   unfold mCut;rw[if_pos ⟨by omega,by omega,by omega⟩];simp
  obtain⟨z,e⟩:=ao (n1:=(n:Int)) (l:=r.b.take n) (r:=r) (by simp;omega) (r.b.take n).length 0 f 0 (by omega) (by simp;omega);rw[show ((0:Nat):Int)=0 from rfl] at e;rw[i];simp only[bS];rw[e];simp only[bS];rw[j];exact⟨_,_,rfl,Or.inl ⟨by omega,by simp;omega,rfl⟩⟩
theorem ak {f:Nat}(hf:200<f)(r:zu)(n:Nat)(hn:1<=n/\n<=8):∃ v r',yc f r (n:Int)=some (v,r')/\((n<=r.b.length/\r'.b.length+n=r.b.length/\r'.bad=r.bad) \/ (r.b.length<n/\r'.b=[]/\r'.bad=true)):=by
 obtain⟨v,r',e,h⟩:=aq hf r n hn;refine⟨w64 v,r',?_,h⟩;unfold yc;rw[e]
 rfl
theorem CZ {most:Int}{l:List Int}(hl:l.length<=100):∀ (m i e:Nat),i+m=l.length->m<e -> ∃ z,su most (l.length:Int) l e (i:Int)=some z
 | 0,i,e,h1,h2=>by
  obtain⟨f,rfl⟩:∃ f,e=f+1:=⟨e - 1,by omega⟩
  refine⟨.inr (),?_⟩;unfold su;rw[dF (by omega),cF]
 | m+1,i,e,h1,h2=>by
  obtain⟨f,rfl⟩:∃ f,e=f+1:=⟨e - 1,by omega⟩
  obtain⟨x,j⟩:∃ x,l[i]? = some x:=⟨_,List.getElem?_eq_getElem (by omega)⟩
  unfold su;rw[dT (by omega),cT,yY,j];simp only[bS];cases (decide (x<0)) || (decide (x > most)) with
  | true=>exact⟨_,rfl⟩
  | false =>
   rw[cF,yi (by omega) (by omega)];have:=CZ (most:=most) hl m (i+1) f (by omega) (by omega);rw[show ((i+1:Nat):Int)=(i:Int)+1 by simp] at this;exact this
theorem Am {f:Nat}(hf:200<f)(most:Int)(l:List Int)(hl:l.length<=100):∃ b,tP f most l=some b:=by
 obtain⟨z,e⟩:=CZ (most:=most) hl l.length 0 f (by omega) (by omega);rw[show ((0:Nat):Int)=0 from rfl] at e;unfold tP;rw[e];cases z <;> exact⟨_,rfl⟩
theorem cX {o p:Option Bool}(h1:∃ b,o=some b)(h2:∃ b,p=some b):∃ b,(o.bind fun t=>bif t then p else some false)=some b:=by
 obtain⟨b,rfl⟩:=h1;obtain⟨c,rfl⟩:=h2;cases b <;> exact⟨_,rfl⟩
theorem Dh {f:Nat}(hf:200<f)(x:zS):∃ b,ob f x=some b:=by
 unfold ob;cases (decide (x.Kind<1)) || (decide (x.Kind > 4)) with
 | true=>exact⟨_,rfl⟩
 | false =>
  rw[cF];unfold rA;simp only[bS];cases (x.Kind == 1) || (x.Kind == 3) with
  | false=>exact⟨_,rfl⟩
  | true =>
   rw[show (!true)=false from rfl,cF];have h3:∃ b,((tP f 65535 ([x.Command.Job.At,x.Command.Job.Gen,x.Command.Data]:List Int)).bind fun t=>some t)=some b:=by
    obtain⟨b,e⟩:=Am hf 65535 [x.Command.Job.At,x.Command.Job.Gen,x.Command.Data] (by simp);rw[e];exact⟨_,rfl⟩
   have h2:=cX (Am hf 255 [x.Command.Kind] (by simp)) (cX (Am hf 1 [x.Command.Queue] (by simp)) h3);cases x.Kind != 1 with
   | true =>
    rw[cT];obtain⟨b,e⟩:=h2;rw[e];exact⟨_,rfl⟩
   | false =>
    rw[cF];obtain⟨b,e⟩:=cX (Am hf 255 [x.Box] (by simp)) h2;rw[e];exact⟨_,rfl⟩
def RdT (r:zu)(n:Nat)(r':zu):Prop:=r'.b.length<=r.b.length/\(r'.bad=false->r.bad=false/\r'.b.length+n=r.b.length)
theorem RdT.trans {r r1 j:zu}{m n:Nat}(h:RdT r m r1)(i:RdT r1 n j):RdT r (m+n) j :=
 ⟨Nat.le_trans i.1 h.1,fun e=>⟨(h.2 (i.2 e).1).1,by have:=(i.2 e).2;have:=(h.2 (i.2 e).1).2;omega⟩⟩
theorem RdT.of {r r':zu}{n:Nat}(h:(n<=r.b.length/\r'.b.length+n=r.b.length/\r'.bad=r.bad) \/ (r.b.length<n/\r'.b=[]/\r'.bad=true)):RdT r n r':=by
 rcases h with ⟨h1,h2,h3⟩|⟨_,h2,h3⟩
 ·exact⟨by omega,fun e=>⟨by rw[<- h3];exact e,h2⟩⟩
 ·exact⟨by rw[h2];simp,fun e=>by rw[h3] at e;cases e⟩
theorem rn {f:Nat}(hf:200<f)(r:zu)(n:Nat)(hn:1<=n/\n<=8):∃ v r',xm f r (n:Int)=some (v,r')/\RdT r n r':=by
 obtain⟨v,r',e,h⟩:=aq hf r n hn;exact⟨v,r',e,.of h⟩
theorem ri {f:Nat}(hf:200<f)(r:zu)(n:Nat)(hn:1<=n/\n<=8):∃ v r',yc f r (n:Int)=some (v,r')/\RdT r n r':=by
 obtain⟨v,r',e,h⟩:=ak hf r n hn;exact⟨v,r',e,.of h⟩
theorem Cs {f:Nat}(hf:200<f)(r:zu)(kind:Int):∃ x ok r',qN f r kind=some (x,ok,r')/\r'.b.length<=r.b.length/\(ok=true->r'.b.length+16*asks x<=r.b.length):=by
 have s1:∃ v r1,(bif kind == 1 then (yc f r 1).bind fun t_=>some (t_.1,t_.2) else some (0,r))=some (v,r1)/\r1.b.length<=r.b.length/\(r1.bad=false->r.bad=false):=by
  cases kind == 1 with
  | false=>exact⟨0,r,rfl,Nat.le_refl _,fun h=>h⟩
  | true =>
   obtain⟨v,r1,e,h⟩:=ri hf r 1 (by omega);rw[show ((1:Nat):Int)=1 from rfl] at e;rw[cT,e];exact⟨v,r1,rfl,h.1,fun q=>(h.2 q).1⟩
 obtain⟨v,r1,X,t,Z⟩:=s1;have s2:∀ a:Bool,∃ I J O S U W u,(bif a then (yc f r1 1).bind fun y=>(yc f y.2 1).bind fun z=>(yc f z.2 2).bind fun A=>(yc f A.2 2).bind fun B=>(xm f B.2 8).bind fun D=>(yc f D.2 2).bind fun F=>some (y.1,z.1,A.1,B.1,w64 (D.1),F.1,F.2) else some (0,0,0,0,0,0,r1))=some (I,J,O,S,U,W,u)/\RdT r1 (if a=true then 16 else 0) u:=by
  intro a;cases a with
  | false=>exact⟨0,0,0,0,0,0,r1,rfl,Nat.le_refl _,fun h=>⟨h,rfl⟩⟩
  | true =>
   obtain⟨v2,q2,f2,g2⟩:=ri hf r1 1 (by omega);obtain⟨v3,q3,f3,g3⟩:=ri hf q2 1 (by omega);obtain⟨v4,q4,f4,g4⟩:=ri hf q3 2 (by omega);obtain⟨v5,q5,f5,g5⟩:=ri hf q4 2 (by omega);obtain⟨v6,q6,f6,g6⟩:=rn hf q5 8 (by omega);obtain⟨v7,q7,f7,g7⟩:=ri hf q6 2 (by omega);rw[show ((1:Nat):Int)=1 from rfl] at f2 f3;rw[show ((2:Nat):Int)=2 from rfl] at f4 f5 f7;rw[show ((8:Nat):Int)=8 from rfl] at f6;refine⟨v2,v3,v4,v5,w64 v6,v7,q7,?_,((((g2.trans g3).trans g4).trans g5).trans g6).trans g7⟩;rw[cT,f2];simp only[bS];rw[f3];simp only[bS];rw[f4];simp only[bS];rw[f5];simp only[bS];rw[f6];simp only[bS];rw[f7]
   rfl
 obtain⟨I,J,O,S,U,W,u,Y,i⟩:=s2 ((kind == 1) || (kind == 3));obtain⟨mb,em⟩:=Dh hf (zS.mk kind v (zk.mk I J (zd.mk O S) U W));have j:16*asks (zS.mk kind v (zk.mk I J (zd.mk O S) U W))=if ((kind == 1) || (kind == 3))=true then 16 else 0:=by
  unfold asks;simp only[Bool.or_eq_true,beq_iff_eq];split <;> rfl
 unfold qN;rw[X];simp only[bS];unfold rA;simp only[bS];rw[Y];simp only[bS];cases l:u.bad with
 | true =>
  rw[show (!true)=false from rfl,cF];exact⟨_,_,_,rfl,Nat.le_trans i.1 t,fun h=>by cases h⟩
 | false =>
  rw[show (!false)=true from rfl,cT,em];refine⟨_,_,_,rfl,Nat.le_trans i.1 t,fun _=>?_⟩;have h3:=(i.2 l).2;show u.b.length+16*asks _<=r.b.length;rw[j];omega
theorem aX (A B:List zS):askN (A++B)=askN A+askN B:=by simp[askN]
theorem bp {m2:zz}{l:List Int}:∀ (n e:Nat) (s:zz) (r:zu),r.b.length<=n->n+300<e->s.Acts.length<=256->16*askN s.Acts+r.b.length<=300 ->
  ∃ s' r',wD m2 l e s r=some (s',r')/\s'.Acts.length<=256/\16*askN s'.Acts<=300
 | n,e,s,r,h1,h2,h3,h4=>by
  obtain⟨f,rfl⟩:∃ f,e=f+1:=⟨e - 1,by omega⟩
  unfold wD;by_cases z:0<r.b.length
  ·rw[dT (p:=(r.b.length:Int) > 0) (by omega),cT];simp only[bS];by_cases ha:s.Acts.length<256
   ·obtain⟨v,r1,i,h⟩:=ak (f:=f) (by omega) r 1 (by omega);have t:r1.b.length+1=r.b.length:=by
     rcases h with ⟨_,h,_⟩|⟨h,_⟩ <;> omega
    rw[show ((1:Nat):Int)=1 from rfl] at i;rw[dT (p:=(s.Acts.length:Int)<256) (by omega),cT,i];simp only[bS];cases (decide (v<1)) || (decide (v > 4)) with
    | true =>
     rw[cT];exact bp (n - 1) f s r1 (by omega) (by omega) h3 (by omega)
    | false =>
     rw[cF];obtain⟨x,ok,y,j,g1,g2⟩:=Cs (f:=f) (by omega) r1 v;rw[j];simp only[bS];cases ok with
     | false =>
      rw[show (!false)=true from rfl,cT];exact⟨_,_,rfl,h3,by omega⟩
     | true =>
      have g3:=g2 rfl;rw[show (!true)=false from rfl,cF,xu (by simp;omega)];simp only[bS];have u:askN [x]=asks x:=by simp[askN]
      exact bp (n - 1) f _ y (by omega) (by omega) (by simp;omega) (by simp only;rw[aX,u];omega)
   ·rw[dF (p:=(s.Acts.length:Int)<256) (by omega),cF];exact⟨_,_,rfl,h3,by omega⟩
  ·rw[dF (p:=(r.b.length:Int) > 0) (by omega),cF];simp only[bS,cF];exact⟨_,_,rfl,h3,by omega⟩
termination_by n=>n
decreasing_by all_goals omega
theorem CR {f:Nat}(hf:1000<f)(b:List Int)(x:b.length<=300):∃ s e,sN f b=some (s,e)/\(e=0->s.Acts.length<=256/\16*askN s.Acts<=300):=by
 unfold sN;by_cases h:b.length<5
 ·rw[dT (by omega),cT];exact⟨_,_,rfl,fun h=>by cases h⟩
 ·rw[dF (by omega),cF];obtain⟨v1,q1,f1,g1⟩:=ri (f:=f) (by omega) (zu.mk b false) 1 (by omega);obtain⟨v2,j,f2,g2⟩:=ri (f:=f) (by omega) q1 2 (by omega);obtain⟨v3,t,f3,g3⟩:=ri (f:=f) (by omega) j 1 (by omega);obtain⟨v4,u,f4,g4⟩:=ri (f:=f) (by omega) t 1 (by omega);rw[show ((1:Nat):Int)=1 from rfl] at f1 f3 f4;rw[show ((2:Nat):Int)=2 from rfl] at f2;have h1:=g1.1;have h2:=g2.1;have h3:=g3.1;have h4:=g4.1;simp only at h1;obtain⟨s',r',e,i,k2⟩:=bp (m2:=zz.mk 0 0 0 0 []) (l:=b) 300 f (zz.mk v1 v2 v3 v4 []) u (by omega) (by omega) (by simp) (by simp[askN];omega);rw[f1];simp only[bS];rw[f2];simp only[bS];rw[f3];simp only[bS];rw[f4];simp only[bS];rw[e];exact⟨_,_,rfl,fun _=>⟨i,k2⟩⟩
theorem bq {room:Int}{b0:zg}(j:xv room=some b0){x1:Nat}(l:x1<=100):∀ (r i e:Nat),i+r=x1->r<e->yl room (x1:Int) e (i:Int) (zj.mk (List.replicate i b0))=some (zj.mk (List.replicate (i+r) b0))
 | 0,i,e,h1,h2=>by
  obtain⟨f,rfl⟩:∃ f,e=f+1:=⟨e - 1,by omega⟩
  unfold yl;rw[dF (by omega),cF]
  rfl
 | r+1,i,e,h1,h2=>by
  obtain⟨f,rfl⟩:∃ f,e=f+1:=⟨e - 1,by omega⟩
  have ih:=bq j l r (i+1) f (by omega) (by omega);rw[show ((i+1:Nat):Int)=(i:Int)+1 by simp,show i+1+r=i+(r+1) by omega] at ih;unfold yl;rw[dT (by omega),cT,j];simp only[bS];rw[xu (by simp;omega)];simp only[bS];rw[yi (by omega) (by omega),<- List.replicate_succ'];exact ih
theorem Af {f:Nat}(hf:200<f)(boxes room:Int):∃ n c,n<=4/\xk f boxes room=some (zj.mk (List.replicate n (zg.mk ⟨c,[]⟩))):=by
 have e:∃ c,xv room=some (zg.mk ⟨c,[]⟩):=by
  unfold xv Aw;have:0<=(if (if 4096<room then 4096 else room) > 1 then (if 4096<room then 4096 else room) else 1)/\(if (if 4096<room then 4096 else room) > 1 then (if 4096<room then 4096 else room) else 1)<=1073741824:=by
   split <;> split <;> omega
  rw[if_pos this];exact⟨_,rfl⟩
 obtain⟨c,e⟩:=e;obtain⟨n,hn,i⟩:∃ n:Nat,(if (if 4<boxes then 4 else boxes) > 1 then (if 4<boxes then 4 else boxes) else 1)=(n:Int)/\n<=4:=by
  refine⟨(if (if 4<boxes then 4 else boxes) > 1 then (if 4<boxes then 4 else boxes) else 1).toNat,?_,?_⟩
  ·have:0<=(if (if 4<boxes then 4 else boxes) > 1 then (if 4<boxes then 4 else boxes) else 1):=by split <;> split <;> omega
   omega
  ·have:(if (if 4<boxes then 4 else boxes) > 1 then (if 4<boxes then 4 else boxes) else 1)<=4:=by split <;> split <;> omega
   omega
 have h:=bq e (x1:=n) (by omega) n 0 f (by omega) (by omega);rw[show ((0:Nat):Int)=0 from rfl,Nat.zero_add] at h;refine⟨n,c,i,?_⟩;unfold xk;rw[hn];show ((yl room (n:Int) f 0 (zj.mk (List.replicate 0 (zg.mk ⟨c,[]⟩)))).bind fun s=>some s)=_;rw[h]
 rfl
theorem aY {f:Nat}(hf:95000<f)(k i boxes room:Int):(∃ e,sP f k i boxes room=some (none,e)/\e≠0) \/ ∃ b N n,sP f k i boxes room=some (some b,0)/\BI N k n b [] 2/\wtL b.s.desk.l=0:=by
 by_cases hk:k=1 \/ k=2 \/ k=3
 ·by_cases hj:1<=i/\i<=4096
  ·obtain⟨N,rfl⟩:∃ N:Nat,i=(N:Int):=⟨i.toNat,by omega⟩
   obtain⟨d,j,D,hn,hs,hp⟩:=DI.new (N:=N) (k:=k) hf hk (by omega) (by omega);obtain⟨n,c,u,eq⟩:=Af (f:=f) (by omega) boxes room;refine Or.inr ⟨zw.mk (zh.mk d (zj.mk (List.replicate n (zg.mk ⟨c,[]⟩)))) [],N,n,?_,⟨D,by simp,by omega,by simp⟩,by simp[wtL]⟩;unfold sP uf;rw[j];simp only[bS,uA,oS];rw[show ((0:Int) != 0)=false from rfl,cF,eq]
   rfl
  ·refine Or.inl ⟨1,?_,by decide⟩;have hw:vh k=some true:=by
    unfold vh;rcases hk with rfl|rfl|rfl <;> rfl
   have t:tx f k i=some (0,false):=by
    unfold tx;rw[hw];simp only[bS];rw[show (!true)=false from rfl,cF];by_cases h1:i<1
    ·rw[dT h1,cT]
     rfl
    ·rw[dF h1,cF,dT (by omega)]
     rfl
   have hd:vk f k i=some (none,1):=by
    unfold vk;rw[hw];simp only[bS];rw[show (!true)=false from rfl,cF,t]
    rfl
   unfold sP uf;rw[hd]
   rfl
 ·refine Or.inl ⟨24,?_,by decide⟩;have hw:vh k=some false:=by
   unfold vh;by_cases h1:k >= 1
   ·rw[dT h1,dF (by omega)];rfl
   ·rw[dF h1];rfl
  have hd:vk f k i=some (none,24):=by
   unfold vk;rw[hw]
   rfl
  unfold sP uf;rw[hd]
  rfl
theorem aZ {f:Nat}(hf:98000<f)(b:List Int)(F:b.length<=300):∃ r,ss f b=some r/\r.Replies.length<=1000/\r.Events.length<=20000/\(r.Why=0 \/ (r.Replies=[]/\r.Events=[])):=by
 obtain⟨s,e,D,hs⟩:=CR (f:=f) (by omega) b F;unfold ss;rw[D];simp only[bS];by_cases he:e=0
 ·subst he;obtain⟨h1,h2⟩:=hs rfl;rw[show ((0:Int) != 0)=false from rfl,cF];unfold lB;rcases aY (f:=f) (by omega) s.Kind s.Jobs s.Boxes s.Room with ⟨e,x,y⟩|⟨bk,N,n,x,B,hw⟩
  ·rw[x];simp only[bS,uA,oS];rw[show (e != 0)=true by simp[y],cT];exact⟨_,rfl,by simp,by simp,Or.inr ⟨rfl,rfl⟩⟩
  ·rw[x];simp only[bS,uA,oS];rw[show ((0:Int) != 0)=false from rfl,cF];have i:mCut s.Acts 0 (if 256<(s.Acts.length:Int) then 256 else (s.Acts.length:Int))=some s.Acts:=by
    rw[if_neg (by omega)];unfold mCut;rw[if_pos ⟨by omega,by omega,by omega⟩];simp
   obtain⟨outs,u,L',T',z,q1,A,J⟩:=Be (N:=N) (n:=n) (k:=s.Kind) (s:=s.Acts) h1 s.Acts [] [] bk [] 2 f rfl (by omega) B (by rw[hw];simp;omega) (by simp) rfl;rw[show ((([]:List zS).length:Nat):Int)=0 from rfl] at z;have t:uV f bk s.Acts=some (outs,u):=by
    unfold uV;rw[z]
    rfl
   have I:=A.ev;have j:vM u=some u.l:=by
    unfold vM db;rw[if_pos (by omega)]
    rfl
   rw[i];simp only[bS];rw[t];simp only[bS];rw[j];exact⟨_,rfl,by simp only;omega,by simp only;omega,Or.inl rfl⟩
 ·rw[show (e != 0)=true by simp[he],cT];exact⟨_,rfl,by simp,by simp,Or.inr ⟨rfl,rfl⟩⟩
theorem ax {a:List zn}(hl:a.length<=1000000):∀ (rest pre:List zn) (f:Nat),a=pre++rest->rest.length<f->yJ a a f (pre.length:Int)=some (.inr ())
 | [],pre,f+1,e,hf=>by
  unfold yJ;rw[dF (by rw[e];simp),cF]
 | y::rest,pre,f+1,e,hf=>by
  have hlen:a.length=pre.length+(rest.length+1):=by rw[e];simp
  simp only[lC] at hf;have i:mIdx a (pre.length:Int)=some y:=by rw[e];exact yE pre rest y
  have ih:=ax hl rest (pre++[y]) f (by rw[e];simp) (by omega);rw[show ((pre++[y]).length:Int)=(pre.length:Int)+1 by simp] at ih;unfold yJ;rw[dT (by omega),cT,i];simp only[bS];rw[dx,show (!true)=false from rfl,cF,yi (by omega) (by omega)];exact ih
theorem cz {a:List zn}(hl:a.length<=1000){f:Nat}(hf:1000<f):xA f a a=some true:=by
 have:=ax (a:=a) (by omega) a [] f rfl (by omega);rw[show ((([]:List zn).length:Nat):Int)=0 from rfl] at this;unfold xA;rw[show ((a.length:Int) != (a.length:Int))=false by simp,cF,this]
 rfl
theorem Aj (r:zx):zx.eq r r=true:=by
 unfold zx.eq zk.eq;rw[dx,(uL _ _).2 rfl];simp
theorem dy {a:List zx}(hl:a.length<=1000000):∀ (rest pre:List zx) (f:Nat),a=pre++rest->rest.length<f->yD a a f (pre.length:Int)=some (.inr ())
 | [],pre,f+1,e,hf=>by
  unfold yD;rw[dF (by rw[e];simp),cF]
 | y::rest,pre,f+1,e,hf=>by
  have hlen:a.length=pre.length+(rest.length+1):=by rw[e];simp
  simp only[lC] at hf;have i:mIdx a (pre.length:Int)=some y:=by rw[e];exact yE pre rest y
  have ih:=dy hl rest (pre++[y]) f (by rw[e];simp) (by omega);rw[show ((pre++[y]).length:Int)=(pre.length:Int)+1 by simp] at ih;unfold yD;rw[dT (by omega),cT,i];simp only[bS];rw[Aj,show (!true)=false from rfl,cF,yi (by omega) (by omega)];exact ih
theorem cy {a:List zx}(hl:a.length<=20000){f:Nat}(hf:20000<f):xh f a a=some true:=by
 have:=dy (a:=a) (by omega) a [] f rfl (by omega);rw[show ((([]:List zx).length:Nat):Int)=0 from rfl] at this;unfold xh;rw[show ((a.length:Int) != (a.length:Int))=false by simp,cF,this]
 rfl
theorem ic:uc 100000=some true:=by kernel_rfl
theorem topScripts_plain (b:List Int):∃ k,vq k b=some true:=by
 refine⟨100000,?_⟩;have hs:∃ s,(bif decide ((b.length:Int) > 300) then (mCut b 0 300).bind fun l=>some l else some b)=some s/\s.length<=300:=by
  by_cases h:(b.length:Int) > 300
  ·rw[dT h,cT];unfold mCut;rw[if_pos ⟨by omega,by omega,by omega⟩];exact⟨_,rfl,by simp;omega⟩
  ·rw[dF h,cF];exact⟨_,rfl,by omega⟩
 obtain⟨s,es,hs⟩:=hs;obtain⟨r,e,r1,i,j⟩:=aZ (f:=100000) (by omega) s hs;unfold vq;rw[es];simp only[bS];rw[e];simp only[bS];rw[show (r.Why == r.Why)=true by simp,cT,cz r1 (by omega)];simp only[bS,cT];rw[cy i (by omega)];simp only[bS,cT];rcases j with h|⟨h1,h2⟩
 ·rw[show (r.Why == 0)=true by simp[h],cT,ic]
  rfl
 ·cases hw:r.Why == 0 with
  | true=>rw[cT,ic];rfl
  | false =>
   rw[cF,h1,h2,show (w64 (((([]:List zn).length:Nat):Int)+((([]:List zx).length:Nat):Int)) == 0)=true from by decide,cT,ic]
   rfl
end
end Go.Proofs.YtcepppmiplonfaaGreat
namespace Go.Th
noncomputable section
structure Mx (T:Type):Type where
 mix:Bool->T->T->T
 h1:∀ x y,mix true x y=x
 h0:∀ x y,mix false x y=y
def mB:Mx Bool:=⟨cond,fun _ _=>rfl,fun _ _=>rfl⟩
def m2 {A B:Type}(a:Mx A)(b:Mx B):Mx (A × B):=⟨fun c x y=>(a.mix c x.1 y.1,b.mix c x.2 y.2),fun x y=>by rw[a.h1,b.h1],fun x y=>by rw[a.h0,b.h0]⟩
inductive VC:Type->Type 1
 | ret {R:Type} (o:Option R):VC R
 | bind {R α:Type} (m:Option α) (k:α -> VC R):VC R
 | ite {R:Type} (c:Bool) (x y:VC R):VC R
 | frN {R:Type} (k:Nat->VC R):VC R
 | frA {R:Type} (k:Option Addr->VC R):VC R
 | req {R α:Type} (a b:α) (k:VC R):VC R
 | join {R T:Type} (x:VC T) (k:T->VC R):VC R
 | cs {R A B:Type} (s:A ⊕ B) (x:A->VC R) (y:B->VC R):VC R
 | both {R:Type} (u v:VC R) (vm:(Nat->Nat × Option Addr)->Option R):VC R
 | grj {R T:Type} (x:VC T) (k:T->VC R):VC R
 | sel {R T:Type} (M:Mx T) (b:Bool) (x y:VC T) (k:T->VC R):VC R
def VC.valq:{T:Type}->VC T->Option T
 | _,.ret o=>o
 | _,.req _ _ k=>k.valq
 | _,.sel M b x y k=>match x.valq,y.valq with
  | some s1,some s2=>(k (M.mix b s1 s2)).valq
  | _,_=>none
 | _,_=>none
abbrev Nm:=Nat->Nat × Option Addr
def Nm.tl (s:Nm):Nm:=fun i=>s (i+1)
def Nm.ev (s:Nm):Nm:=fun i=>s (2*i)
def Nm.od (s:Nm):Nm:=fun i=>s (2*i+1)
def VC.modk:{T:Type}->VC T -> {R:Type}->(T->Nm->Option R)->Nm->Option R
 | _,.ret o,_,K,s=>match o with
  | some x=>K x s
  | none=>none
 | _,.bind m k,_,K,s=>m.bind fun x=>(k x).modk K s
 | _,.ite c x y,_,K,s=>bif c then x.modk K s else y.modk K s
 | _,.frN k,_,K,s=>(k (s 0).1).modk K s.tl
 | _,.frA k,_,K,s=>(k (s 0).2).modk K s.tl
 | _,.req _ _ k,_,K,s=>k.modk K s
 | _,.join x k,_,K,s=>(x.modk (fun y _=>some y) s.ev).bind fun y=>(k y).modk K s.od
 | _,.cs z x y,_,K,s=>match z with
  | .inl a=>(x a).modk K s
  | .inr b=>(y b).modk K s
 | _,.both u _ _,_,K,s=>u.modk K s
 | _,.grj x k,_,K,s=>x.modk (fun y s'=>(k y).modk K s') s
 | _,.sel M b x y k,_,K,s=>match x.valq,y.valq with
  | some s1,some s2=>(k (M.mix b s1 s2)).modk K s
  | _,_=>bif b then x.modk (fun y s'=>(k y).modk K s') s else y.modk (fun y s'=>(k y).modk K s') s
def VC.mod:{R:Type}->VC R->Nm->Option R
 | _,.ret o,_=>o
 | _,.bind m k,s=>m.bind fun x=>(k x).mod s
 | _,.ite c x y,s=>bif c then x.mod s else y.mod s
 | _,.frN k,s=>(k (s 0).1).mod s.tl
 | _,.frA k,s=>(k (s 0).2).mod s.tl
 | _,.req _ _ k,s=>k.mod s
 | _,.join x k,s=>(x.mod s.ev).bind fun y=>(k y).mod s.od
 | _,.cs z x y,s=>match z with
  | .inl a=>(x a).mod s
  | .inr b=>(y b).mod s
 | _,.both u _ _,s=>u.mod s
 | _,.grj x k,s=>x.modk (fun y s'=>(k y).mod s') s
 | _,.sel M b x y k,s=>match x.valq,y.valq with
  | some s1,some s2=>(k (M.mix b s1 s2)).mod s
  | _,_=>bif b then x.modk (fun y s'=>(k y).mod s') s else y.modk (fun y s'=>(k y).mod s') s
theorem VC.mod_eq:∀ {R:Type} (v:VC R) (s:Nm),v.modk (fun y _=>some y) s=v.mod s
 | _,.ret o,s=>by cases o <;> rfl
 | _,.bind m k,s=>by
  simp only[VC.modk,VC.mod];congr 1;funext x;exact VC.mod_eq (k x) s
 | _,.ite c x y,s=>by simp only[VC.modk,VC.mod,VC.mod_eq x,VC.mod_eq y]
 | _,.frN k,s=>VC.mod_eq (k _) _
 | _,.frA k,s=>VC.mod_eq (k _) _
 | _,.req _ _ k,s=>VC.mod_eq k s
 | _,.join x k,s=>by
  simp only[VC.modk,VC.mod,VC.mod_eq x];congr 1;funext y;exact VC.mod_eq (k y) _
 | _,.cs z x y,s=>by
  cases z with
  | inl a=>exact VC.mod_eq (x a) s
  | inr b=>exact VC.mod_eq (y b) s
 | _,.both u _ _,s=>VC.mod_eq u s
 | _,.grj x k,s=>by
  simp only[VC.modk,VC.mod];congr 1;funext y s';exact VC.mod_eq (k y) s'
 | _,.sel M b x y k,s=>by
  have e:(fun t (s':Nm)=>(k t).modk (fun z _=>some z) s')=fun t s'=>(k t).mod s':=by
   funext t s';exact VC.mod_eq (k t) s'
  simp only[VC.modk,VC.mod,e];split
  ·exact VC.mod_eq (k _) s
  ·rfl
def VC.rfx:{R:Type}->VC R->VC R
 | _,.ret o=>.ret o
 | _,.bind m k=>.bind m fun x=>(k x).rfx
 | _,.ite c x y=>.ite c x.rfx y.rfx
 | _,.frN k=>.frN fun r=>(k r).rfx
 | _,.frA k=>.frA fun r=>(k r).rfx
 | _,.req a _ k=>.req a a k.rfx
 | _,.join x k=>.join x.rfx fun s=>(k s).rfx
 | _,.cs s x y=>.cs s (fun a=>(x a).rfx) fun b=>(y b).rfx
 | _,.both u v _=>.both u.rfx v.rfx u.mod
 | _,.grj x k=>.grj x.rfx fun y=>(k y).rfx
 | _,.sel M b x y k=>.sel M b x.rfx y.rfx fun t=>(k t).rfx
def VC.ok:{R:Type}->VC R->(R->Prop)->Prop
 | _,.ret o,Φ=>∃ x,o=some x /\ Φ x
 | _,.bind m k,Φ=>∃ x,m=some x/\(k x).ok Φ
 | _,.ite c x y,Φ=>(c=true->x.ok Φ)/\(c=false->y.ok Φ)
 | _,.frN k,Φ=>∀ r,(k r).ok Φ
 | _,.frA k,Φ=>∀ r,(k r).ok Φ
 | _,.req a b k,Φ=>a=b/\k.ok Φ
 | _,.join x k,Φ=>x.ok fun y=>(k y).ok Φ
 | _,.cs z x y,Φ=>(∀ a,z = .inl a->(x a).ok Φ) /\ ∀ b,z = .inr b->(y b).ok Φ
 | _,.both u v vm,Φ=>u.ok Φ /\ (vm=v.mod->v.ok Φ)
 | _,.grj x k,Φ=>x.ok fun y=>(k y).ok Φ
 | _,.sel M b x y k,Φ=>(b=true->x.ok fun t=>(k t).ok Φ)/\(b=false->y.ok fun t=>(k t).ok Φ)
def Nm.cons (x:Nat × Option Addr)(s:Nm):Nm:=fun i=>match i with
 | 0=>x
 | i+1=>s i
def Nm.mix (s t:Nm):Nm:=fun i=>if i % 2=0 then s (i / 2) else t (i / 2)
theorem Nm.AX (s t:Nm):(Nm.mix s t).ev=s:=by
 funext i;have h1:2*i % 2=0:=by omega
 have h2:2*i / 2=i:=by omega
 simp[Nm.ev,Nm.mix,h1,h2]
theorem Nm.AY (s t:Nm):(Nm.mix s t).od=t:=by
 funext i;have h1:¬ (2*i+1) % 2=0:=by omega
 have h2:(2*i+1) / 2=i:=by omega
 simp[Nm.od,Nm.mix,h1,h2]
theorem VC.mono:∀ {R:Type} (v:VC R) {Φ Ψ:R->Prop},(∀ x,Φ x -> Ψ x)->v.ok Φ -> v.ok Ψ
 | _,.ret o,Φ,Ψ,h,hk=>by
  obtain⟨x,l,hp⟩:=hk;exact⟨x,l,h x hp⟩
 | _,.bind m k,Φ,Ψ,h,hk=>by
  obtain⟨x,l,hp⟩:=hk;exact⟨x,l,VC.mono (k x) h hp⟩
 | _,.ite c x y,Φ,Ψ,h,hk=>⟨fun j=>VC.mono x h (hk.1 j),fun j=>VC.mono y h (hk.2 j)⟩
 | _,.frN k,Φ,Ψ,h,hk=>fun r=>VC.mono (k r) h (hk r)
 | _,.frA k,Φ,Ψ,h,hk=>fun r=>VC.mono (k r) h (hk r)
 | _,.req a b k,Φ,Ψ,h,hk=>⟨hk.1,VC.mono k h hk.2⟩
 | _,.join x k,Φ,Ψ,h,hk=>VC.mono x (Φ:=fun y=>(k y).ok Φ) (Ψ:=fun y=>(k y).ok Ψ) (fun y i=>VC.mono (k y) h i) hk
 | _,.cs z x y,Φ,Ψ,h,hk=>⟨fun a ha=>VC.mono (x a) h (hk.1 a ha),fun b t=>VC.mono (y b) h (hk.2 b t)⟩
 | _,.both u v vm,Φ,Ψ,h,hk=>⟨VC.mono u h hk.1,fun e=>VC.mono v h (hk.2 e)⟩
 | _,.grj x k,Φ,Ψ,h,hk=>VC.mono x (Φ:=fun y=>(k y).ok Φ) (Ψ:=fun y=>(k y).ok Ψ) (fun y i=>VC.mono (k y) h i) hk
 | _,.sel M b x y k,Φ,Ψ,h,hk=>⟨fun e=>VC.mono x (Φ:=fun y=>(k y).ok Φ) (Ψ:=fun y=>(k y).ok Ψ) (fun y i=>VC.mono (k y) h i) (hk.1 e),fun e=>VC.mono y (Φ:=fun y=>(k y).ok Φ) (Ψ:=fun y=>(k y).ok Ψ) (fun y i=>VC.mono (k y) h i) (hk.2 e)⟩
theorem VC.nh:∀ {T:Type} (v:VC T) {P:T->Prop}{s:T},v.ok P->v.valq=some s->P s
 | _,.ret o,P,s,h,e=>by
  obtain⟨x,j,hp⟩:=h;have i:o=some s:=e;rw[j] at i;cases i;exact hp
 | _,.req _ _ k,P,s,h,e=>VC.nh k h.2 e
 | _,.both _ _ _,P,s,h,e=>by cases e
 | _,.sel M b x y k,P,s,h,e=>by
  simp only[VC.valq] at e;split at e
  ·rename_i s1 s2 h1 h2;cases b with
   | true =>
    rw[M.h1] at e;exact VC.nh (k s1) (VC.nh x (h.1 rfl) h1) e
   | false =>
    rw[M.h0] at e;exact VC.nh (k s2) (VC.nh y (h.2 rfl) h2) e
  ·cases e
 | _,.bind _ _,P,s,h,e=>by cases e
 | _,.ite _ _ _,P,s,h,e=>by cases e
 | _,.frN _,P,s,h,e=>by cases e
 | _,.frA _,P,s,h,e=>by cases e
 | _,.join _ _,P,s,h,e=>by cases e
 | _,.cs _ _ _,P,s,h,e=>by cases e
 | _,.grj _ _,P,s,h,e=>by cases e
theorem VC.nt:∀ {T:Type} (v:VC T) {s:T},v=v.rfx->v.valq=some s->v.ok (· = s)
 | _,.ret o,s,i,e=>⟨s,e,rfl⟩
 | _,.req a b k,s,i,e=>by
  simp only[VC.rfx,VC.req.injEq,heq_eq_eq,true_and] at i;exact⟨i.1.symm,VC.nt k i.2 e⟩
 | _,.both _ _ _,s,h,e=>by cases e
 | _,.sel M b x y k,s,i,e=>by
  simp only[VC.rfx,VC.sel.injEq,heq_eq_eq,true_and] at i;simp only[VC.valq] at e;split at e
  ·rename_i s1 s2 h1 h2;refine⟨fun j=>?_,fun j=>?_⟩
   ·subst j;rw[M.h1] at e;exact VC.mono x (fun t ht=>by subst ht;exact VC.nt (k _) (congrFun i.2.2 _) e) (VC.nt x i.1 h1)
   ·subst j;rw[M.h0] at e;exact VC.mono y (fun t ht=>by subst ht;exact VC.nt (k _) (congrFun i.2.2 _) e) (VC.nt y i.2.1 h2)
  ·cases e
 | _,.bind _ _,s,h,e=>by cases e
 | _,.ite _ _ _,s,h,e=>by cases e
 | _,.frN _,s,h,e=>by cases e
 | _,.frA _,s,h,e=>by cases e
 | _,.join _ _,s,h,e=>by cases e
 | _,.cs _ _ _,s,h,e=>by cases e
 | _,.grj _ _,s,h,e=>by cases e
theorem VC.okk:∀ {T:Type} (v:VC T) {R:Type} (K:T->Nm->Option R) (Ψ:R->Prop),v.ok (fun y=>∀ s,∃ x,K y s=some x /\ Ψ x) -> ∀ s,∃ x,v.modk K s=some x /\ Ψ x
 | _,.ret o,_,K,Ψ,h,s=>by
  obtain⟨x,rfl,i⟩:=h;exact i s
 | _,.bind m k,_,K,Ψ,h,s=>by
  obtain⟨x,rfl,i⟩:=h;exact VC.okk (k x) K Ψ i s
 | _,.ite c x y,_,K,Ψ,h,s=>by
  cases c with
  | true=>exact VC.okk x K Ψ (h.1 rfl) s
  | false=>exact VC.okk y K Ψ (h.2 rfl) s
 | _,.frN k,_,K,Ψ,h,s=>VC.okk (k _) K Ψ (h _) _
 | _,.frA k,_,K,Ψ,h,s=>VC.okk (k _) K Ψ (h _) _
 | _,.req a b k,_,K,Ψ,h,s=>VC.okk k K Ψ h.2 s
 | _,.join x k,_,K,Ψ,h,s=>by
  obtain⟨y,e,h2⟩:=VC.okk x (fun y _=>some y) (fun y=>(k y).ok fun z=>∀ s,∃ x,K z s=some x /\ Ψ x) (VC.mono x (fun y e s=>⟨y,rfl,e⟩) h) s.ev;obtain⟨z,j,h3⟩:=VC.okk (k y) K Ψ h2 s.od;exact⟨z,by simp only[VC.modk,e,bS,j],h3⟩
 | _,.cs z x y,_,K,Ψ,h,s=>by
  cases z with
  | inl a=>exact VC.okk (x a) K Ψ (h.1 a rfl) s
  | inr b=>exact VC.okk (y b) K Ψ (h.2 b rfl) s
 | _,.both u v vm,_,K,Ψ,h,s=>VC.okk u K Ψ h.1 s
 | _,.grj x k,_,K,Ψ,h,s=>VC.okk x (fun y s'=>(k y).modk K s') Ψ (VC.mono x (fun y e s=>VC.okk (k y) K Ψ e s) h) s
 | _,.sel M b x y k,_,K,Ψ,h,s=>by
  simp only[VC.modk];split
  ·rename_i s1 s2 h1 h2;cases b with
   | true =>
    rw[M.h1];exact VC.okk (k s1) K Ψ (VC.nh x (h.1 rfl) h1) s
   | false =>
    rw[M.h0];exact VC.okk (k s2) K Ψ (VC.nh y (h.2 rfl) h2) s
  ·cases b with
   | true=>exact VC.okk x (fun y s'=>(k y).modk K s') Ψ (VC.mono x (fun y e s=>VC.okk (k y) K Ψ e s) (h.1 rfl)) s
   | false=>exact VC.okk y (fun y s'=>(k y).modk K s') Ψ (VC.mono y (fun y e s=>VC.okk (k y) K Ψ e s) (h.2 rfl)) s
theorem VC.qo:∀ {T:Type} (v:VC T) {R:Type} (K:T->Nm->Option R) (Ψ:R->Prop),v=v.rfx->(∀ s,∃ x,v.modk K s=some x /\ Ψ x)->v.ok (fun y=>∀ s,∃ x,K y s=some x /\ Ψ x)
 | _,.ret o,_,K,Ψ,_,h=>by
  cases o with
  | none=>obtain⟨x,D,_⟩:=h fun _=>(0,none);cases D
  | some y=>exact⟨y,rfl,h⟩
 | _,.bind m k,_,K,Ψ,i,h=>by
  obtain⟨y,j,O⟩:=h fun _=>(0,none)
  simp only[VC.modk] at j;obtain⟨x,D,-⟩:=Option.bind_eq_some_iff.1 j;refine⟨x,D,VC.qo (k x) K Ψ ?_ fun s=>?_⟩
  ·simp only[VC.rfx,VC.bind.injEq,heq_eq_eq,true_and] at i;exact congrFun i x
  ·obtain⟨z,l,hp⟩:=h s;simp only[VC.modk,D,bS] at l;exact⟨z,l,hp⟩
 | _,.ite c x y,_,K,Ψ,i,h=>by
  simp only[VC.rfx,VC.ite.injEq,true_and] at i;refine⟨fun F=>VC.qo x K Ψ i.1 fun s=>?_,fun F=>VC.qo y K Ψ i.2 fun s=>?_⟩
  ·obtain⟨z,l,hp⟩:=h s;simp only[VC.modk,F,cT] at l;exact⟨z,l,hp⟩
  ·obtain⟨z,l,hp⟩:=h s;simp only[VC.modk,F,cF] at l;exact⟨z,l,hp⟩
 | _,.frN k,_,K,Ψ,i,h=>fun r=>by
  simp only[VC.rfx,VC.frN.injEq] at i;refine VC.qo (k r) K Ψ (congrFun i r) fun s=>?_
  exact h (Nm.cons (r,none) s)
 | _,.frA k,_,K,Ψ,i,h=>fun r=>by
  simp only[VC.rfx,VC.frA.injEq] at i;refine VC.qo (k r) K Ψ (congrFun i r) fun s=>?_
  exact h (Nm.cons (0,r) s)
 | _,.req a b k,_,K,Ψ,i,h=>by
  simp only[VC.rfx,VC.req.injEq,heq_eq_eq,true_and] at i;exact⟨i.1.symm,VC.qo k K Ψ i.2 fun s=>by simpa only [VC.modk] using h s⟩
 | _,.join x k,_,K,Ψ,i,h=>by
  simp only[VC.rfx,VC.join.injEq,heq_eq_eq,true_and] at i;show x.ok fun y=>(k y).ok fun y=>∀ s,∃ x,K y s=some x /\ Ψ x
  refine VC.mono x (fun y j=>?_) (VC.qo x (fun y _=>some y) (fun y=>(k y).ok fun y=>∀ s,∃ x,K y s=some x /\ Ψ x) i.1 fun s=>?_)
  ·obtain⟨z,l,h2⟩:=j fun _=>(0,none)
   cases l;exact h2
  ·obtain⟨z,l,-⟩:=h (Nm.mix s fun _=>(0,none));simp only[VC.modk,Nm.AX,Nm.AY] at l;obtain⟨y,j,-⟩:=Option.bind_eq_some_iff.1 l;refine⟨y,j,VC.qo (k y) K Ψ (congrFun i.2 y) fun t=>?_⟩;obtain⟨z2,B,hp⟩:=h (Nm.mix s t);simp only[VC.modk,Nm.AX,Nm.AY,j,bS] at B;exact⟨z2,B,hp⟩
 | _,.cs z x y,_,K,Ψ,i,h=>by
  simp only[VC.rfx,VC.cs.injEq,heq_eq_eq,true_and] at i;refine⟨fun a ha=>VC.qo (x a) K Ψ (congrFun i.1 a) fun s=>?_,fun b A=>VC.qo (y b) K Ψ (congrFun i.2 b) fun s=>?_⟩
  ·obtain⟨u,hu,hp⟩:=h s;simp only[VC.modk,ha] at hu;exact⟨u,hu,hp⟩
  ·obtain⟨u,hu,hp⟩:=h s;simp only[VC.modk,A] at hu;exact⟨u,hu,hp⟩
 | _,.both u v vm,_,K,Ψ,i,h=>by
  simp only[VC.rfx,VC.both.injEq,heq_eq_eq,true_and] at i;have hu:=VC.qo u K Ψ i.1 h;refine⟨hu,fun e=>?_⟩;have h2:=VC.qo v (fun y _=>some y) (fun y=>∀ s,∃ x,K y s=some x /\ Ψ x) i.2.1 fun s=>by
   have I:v.mod=u.mod:=e.symm.trans i.2.2;have J:v.modk (fun y _=>some y) s=u.modk (fun y _=>some y) s:=by rw[VC.mod_eq,VC.mod_eq];exact congrFun I s
   rw[J];exact VC.okk u (fun y _=>some y) _ (VC.mono u (fun y j s=>⟨y,rfl,j⟩) hu) s
  refine VC.mono v (fun y j=>?_) h2;obtain⟨z,l,h3⟩:=j fun _=>(0,none)
  cases l;exact h3
 | _,.grj x k,_,K,Ψ,i,h=>by
  simp only[VC.rfx,VC.grj.injEq,heq_eq_eq,true_and] at i;exact VC.mono x (fun y j=>VC.qo (k y) K Ψ (congrFun i.2 y) j) (VC.qo x (fun y s'=>(k y).modk K s') Ψ i.1 h)
 | _,.sel M b x y k,_,K,Ψ,i,h=>by
  simp only[VC.rfx,VC.sel.injEq,heq_eq_eq,true_and] at i;simp only[VC.modk] at h;split at h
  ·rename_i s1 s2 h1 h2;refine⟨fun A=>?_,fun A=>?_⟩
   ·subst A;rw[M.h1] at h;exact VC.mono x (fun t ht=>by subst ht;exact VC.qo (k _) K Ψ (congrFun i.2.2 _) h) (VC.nt x i.1 h1)
   ·subst A;rw[M.h0] at h;exact VC.mono y (fun t ht=>by subst ht;exact VC.qo (k _) K Ψ (congrFun i.2.2 _) h) (VC.nt y i.2.1 h2)
  ·refine⟨fun A=>?_,fun A=>?_⟩
   ·subst A;exact VC.mono x (fun y j=>VC.qo (k y) K Ψ (congrFun i.2.2 y) j) (VC.qo x (fun y s'=>(k y).modk K s') Ψ i.1 h)
   ·subst A;exact VC.mono y (fun y j=>VC.qo (k y) K Ψ (congrFun i.2.2 y) j) (VC.qo y (fun y s'=>(k y).modk K s') Ψ i.2.1 h)
theorem VC.good {R:Type}(v:VC R)(Φ:R->Prop)(e:v=v.rfx)(h:∀ s,∃ x,v.mod s=some x /\ Φ x):v.ok Φ :=
 VC.mono v (fun y i=>by obtain⟨z,j,h3⟩:=i fun _=>(0,none);cases j;exact h3) (VC.qo v (fun y _=>some y) Φ e fun s=>by rw[VC.mod_eq];exact h s)
structure ElD:Type 1 where
 α:Type
 enc:α -> List Value
 sz:Nat
 ok:wg enc sz
 dec:List Value->Option α
structure MpD:Type 1 where
 K:Type
 V:Type
 ek:K->Value
 ev:V->Value
 dk:Value->Option K
 dv:Value->Option V
 eq:K->K->Bool
structure Ev:Type 1 where
 el:Nat->ElD
 mp:Nat->MpD
inductive Atom (E:Ev):Type
 | blk (b:Nat) (T:TypeId) (cs:List Value)
 | sl (c:Nat) (T:TypeId) (sb:Option Addr) (sc:Nat) (l:List (E.el c).α)
 | mp (c:Nat) (r:Nat) (m:List ((E.mp c).K × (E.mp c).V))
def Atom.den {E:Ev}:Atom E->HP
 | .blk b T cs=>Blk b T cs
 | .sl c T sb sc l=>Sl T (E.el c).enc (E.el c).sz sb sc l
 | .mp c r m=>MpA r (E.mp c).ek (E.mp c).ev m
structure RdV (E:Ev):Type where
 c:Nat
 sb:Option Addr
 sc:Nat
 l:List (E.el c).α
def RdV.holds {E:Ev}(F:List HP)(r:RdV E):Prop:=∃ X∈F,SlRd X (E.el r.c).enc (E.el r.c).sz r.sb r.l /\ ∀ h,X h->r.l.length<=r.sc
structure EfV (E:Ev):Type where
 rdr:Bool
 c:Nat
 sb:Option Addr
 l:List (E.el c).α
 i:Int
 x:(E.el c).α
 b:Nat
 o:Nat
def EfV.holds {E:Ev}(F:List HP)(e:EfV E):Prop :=
 e.sb=some ⟨e.b,e.o,none⟩/\mIdx e.l e.i=some e.x/\(e.rdr=true -> ∃ X∈F,SlRd X (E.el e.c).enc (E.el e.c).sz e.sb e.l)
structure VwV (E:Ev):Type where
 c:Nat
 sb:Option Addr
 sc:Nat
 l:List (E.el c).α
 lo:Option Int
 hi:Option Int
 sb':Option Addr
 sc':Nat
 r:List (E.el c).α
def loN:Option Int->Nat
 | none=>0
 | some i=>i.toNat
def loI:Option Int->Int
 | none=>0
 | some i=>i
def hiN (n:Nat):Option Int->Nat
 | none=>n
 | some i=>i.toNat
def hiI (n:Nat):Option Int->Int
 | none=>(n:Int)
 | some i=>i
def bndO (h:Nat):Option Int->List Ob
 | none=>[]
 | some i=>[.p (0<=i/\i<=(h:Int))]
def VwV.holds {E:Ev}(v:VwV E):Prop :=
 mCut v.l (loI v.lo) (hiI v.l.length v.hi)=some v.r/\yv v.sb v.sc (loI v.lo).toNat (E.el v.c).sz=v.sb'/\v.sc - (loI v.lo).toNat=v.sc'/\v.l.length<=v.sc
inductive Mi (E:Ev):Type
 | cut (v:VwV E)
 | opt (o:Option Int)
def Mi.holds {E:Ev}:Mi E->Prop
 | .cut v=>v.holds
 | .opt _=>True
structure Kn (E:Ev):Type where
 L:Env
 As:List (Nat × Atom E)
 rd:List (Nat × RdV E)
 ef:List (Nat × EfV E)
 pr:List (Nat × Prop)
 vw:List (Nat × Mi E)
def getK {α:Type}(k:Nat):List (Nat × α)->Option α
 | []=>none
 | (j,x)::r=>match Nat.beq k j with
  | true=>some x
  | false=>getK k r
def mP {α:Type}(k:Nat):List (Nat × α)->Option (α × List (Nat × α))
 | []=>none
 | (j,x)::r=>match Nat.beq k j with
  | true=>some (x,r)
  | false=>match mP k r with
   | some (y,r')=>some (y,(j,x)::r')
   | none=>none
def gD {α:Type}:List Nat->List (Nat × α)->Option (List α × List (Nat × α))
 | [],L=>some ([],L)
 | k::ks,L=>match mP k L with
  | none=>none
  | some (x,L')=>match gD ks L' with
   | none=>none
   | some (xs,r)=>some (x::xs,r)
theorem wJ {α:Type}{k:Nat}{x:α}:∀ {L:List (Nat × α)},getK k L=some x -> ∃ j,(j,x)∈L
 | [],h=>by cases h
 | (j,y)::r,h=>by
  simp only[getK] at h;split at h
  ·cases h;exact⟨j,by simp⟩
  ·obtain⟨i,hi⟩:=wJ h;exact⟨i,by simp[hi]⟩
theorem mQ {α:Type}{k:Nat}{x:α}:∀ {L r:List (Nat × α)},mP k L=some (x,r)->(L.map (·.2)).Perm (x::r.map (·.2))
 | [],r,h=>by cases h
 | (j,y)::L,r,h=>by
  simp only[mP] at h;split at h
  ·cases h;exact List.Perm.refl _
  ·split at h
   ·rename_i z r' hp;cases h;have ih:=mQ hp;simp only[pC];exact (ih.cons y).trans (List.Perm.swap _ _ _)
   ·cases h
theorem jO {α:Type}:∀ {ks:List Nat}{L r:List (Nat × α)}{xs:List α},gD ks L=some (xs,r)->(L.map (·.2)).Perm (xs++r.map (·.2))
 | [],L,r,xs,h=>by simp[gD] at h;obtain⟨rfl,rfl⟩:=h;exact List.Perm.refl _
 | k::ks,L,r,xs,h=>by
  simp only[gD] at h;split at h
  ·cases h
  ·rename_i x L' h1;split at h
   ·cases h
   ·rename_i e r' h2;cases h;exact (mQ h1).trans ((jO h2).cons x)
section
variable {E:Ev}
def dens (As:List (Nat × Atom E)):List HP:=(As.map (·.2)).map Atom.den
structure aV (F:List HP) (st:Kn E):Prop where
 rd:∀ p∈st.rd,p.2.holds F
 ef:∀ p∈st.ef,p.2.holds F
 pr:∀ p∈st.pr,p.2
 vw:∀ p∈st.vw,p.2.holds
structure KnOk (n:Nat) (w0:World) (F:List HP) (st:Kn E) (a:Act) (w:World):Prop where
 env:zN n a st.L
 hp:St w0 (dens st.As++F) w
 fs:aV F st
theorem mr {ks:List Nat}{As r:List (Nat × Atom E)}{xs:List (Atom E)}(h:gD ks As=some (xs,r)):(dens As).Perm (xs.map Atom.den++dens r):=by
 have:=(jO h).map Atom.den;simpa[dens] using this
theorem tz {k:Nat}{As r:List (Nat × Atom E)}{x:Atom E}(h:mP k As=some (x,r)):(dens As).Perm (x.den::dens r):=by
 have:=(mQ h).map Atom.den;simpa[dens] using this
theorem tJ {k:Nat}{As:List (Nat × Atom E)}{x:Atom E}(h:getK k As=some x):x.den∈dens As:=by
 obtain⟨j,hj⟩:=wJ h;simp only[dens,List.mem_map];exact⟨x,⟨(j,x),hj,rfl⟩,rfl⟩
theorem St.mem {w0 w:World}{As:List HP}{A:HP}(H:St w0 As w)(h:A∈As):∃ i:Nat,As[i]? = some A:=List.mem_iff_getElem?.1 h
inductive Src
 | C (q off:Nat)
 | A (e:Nat)
 | X (e q j:Nat)
 | R (e j:Nat)
 | Q (j:Nat)
 | W (j:Nat)
 | P (e q j:Nat)
abbrev SrcR (E:Ev):=List Value × List Ob × List (Atom E × Atom E)
def Src.get (st:Kn E):Src->Option (SrcR E)
 | .C q off=>match getK q st.As with
  | some (.blk b T cs)=>match cs[off]? with
   | some v=>some ([v],[.cell ⟨b,off,none⟩ v],[])
   | none=>none
  | _=>none
 | .A e=>match getK e st.ef with
  | some f=>some ([.pointer (some ⟨f.b,f.o,none⟩)],[.p (f.sb=some ⟨f.b,f.o,none⟩),.p (0<=f.i/\f.i<((f.l.length:Nat):Int))],[])
  | none=>none
 | .X e q j=>match getK e st.ef,getK q st.As with
  | some f,some (.sl c' T sb sc l)=>match ((E.el f.c).enc f.x)[j]? with
   | some v=>some ([v],[.cell ⟨f.b,f.o+f.i.toNat*(E.el f.c).sz+j,none⟩ v],[(.sl c' T sb sc l,.sl f.c T f.sb sc f.l)])
   | none=>none
  | _,_=>none
 | .R e j=>match getK e st.ef with
  | some f=>match f.rdr,((E.el f.c).enc f.x)[j]? with
   | true,some v=>some ([v],[.cell ⟨f.b,f.o+f.i.toNat*(E.el f.c).sz+j,none⟩ v],[])
   | _,_=>none
  | none=>none
 | .Q j=>match getK j st.pr with
  | some p=>some ([],[.p p],[])
  | none=>none
 | .P e q j=>match getK e st.ef,getK q st.As with
  | some f,some (.blk b T cs)=>match ((E.el f.c).enc f.x)[j]?,Nat.ble f.o cs.length with
   | some v,true=>some ([v],[.cell ⟨f.b,f.o+f.i.toNat*(E.el f.c).sz+j,none⟩ v],[(.blk b T cs,.blk f.b T (cs.take f.o++(f.l.flatMap (E.el f.c).enc++cs.drop (f.o+f.l.length*(E.el f.c).sz))))])
   | _,_=>none
  | _,_=>none
 | .W j=>match getK j st.vw with
  | some (.cut v)=>some ([.slice v.sb' v.r.length v.sc'],.p (yv v.sb v.sc (loN v.lo) (E.el v.c).sz=v.sb') :: .p (hiN v.l.length v.hi - loN v.lo=v.r.length) :: .p (v.sc - loN v.lo=v.sc')::(bndO v.sc v.hi++bndO (hiN v.l.length v.hi) v.lo),[])
  | _=>none
def srcs (st:Kn E):List Src->Option (SrcR E)
 | []=>some ([],[],[])
 | s::r=>match s.get st,srcs st r with
  | some (a,b,c),some (x,y,z)=>some (a++x,b++y,c++z)
  | _,_=>none
theorem fQ {α:Type}{l:List α}{i:Int}{x:α}(h:mIdx l i=some x):0<=i/\i<((l.length:Nat):Int):=by
 unfold mIdx at h;split at h
 ·rename_i h0;have:=(List.getElem?_eq_some_iff.1 h).1;omega
 ·cases h
theorem B5 (o:Option Int):(loI o).toNat=loN o:=by cases o <;> rfl
theorem CX (n:Nat)(o:Option Int):(hiI n o).toNat=hiN n o:=by cases o <;> simp[hiI,hiN]
theorem VwV.obs {v:VwV E}(h:v.holds)(w:World):wm w (.p (yv v.sb v.sc (loN v.lo) (E.el v.c).sz=v.sb') :: .p (hiN v.l.length v.hi - loN v.lo=v.r.length) :: .p (v.sc - loN v.lo=v.sc')::(bndO v.sc v.hi++bndO (hiN v.l.length v.hi) v.lo)):=by
 obtain⟨h1,h2,h3,h4⟩:=h;refine⟨by rw[<- B5];exact h2,?_,by show v.sc - loN v.lo=v.sc';rw[<- B5];exact h3,?_⟩
 ·show hiN _ _ - loN _=_;rw[<- B5,<- CX];exact sd h1
 ·rw[wR];constructor
  ·cases hh:v.hi with
   | none=>trivial
   | some i=>rw[hh] at h1;exact⟨oW h1 h4,trivial⟩
  ·cases hl:v.lo with
   | none=>trivial
   | some i =>
    rw[hl] at h1;refine⟨?_,trivial⟩;have:=AM h1;rw[CX] at this;exact this
theorem Src.sound {n:Nat}{w0 w:World}{F:List HP}{st:Kn E}{a:Act}(t:KnOk n w0 F st a w){s:Src}{J:List Value}{obs:List Ob}{eqs:List (Atom E × Atom E)}(h:s.get st=some (J,obs,eqs))
  (he:∀ p∈eqs,p.1=p.2):wm w obs:=by
 cases s with
 | C q off =>
  simp only[Src.get] at h;split at h
  ·rename_i b T cs hq;split at h
   ·rename_i v hv;cases h;obtain⟨i,hi⟩:=t.hp.mem (mL F (tJ hq));exact⟨t.hp.cell i hi hv,trivial⟩
   ·cases h
  ·cases h
 | A e =>
  simp only[Src.get] at h;split at h
  ·rename_i f hf;cases h;obtain⟨j,hj⟩:=wJ hf;obtain⟨h1,h2,_⟩:=t.fs.ef _ hj;exact⟨h1,fQ h2,trivial⟩
  ·cases h
 | X e q j =>
  simp only[Src.get] at h;split at h
  ·rename_i f c T sb sc l hf hq;split at h
   ·rename_i v hv;cases h;obtain⟨B,hj⟩:=wJ hf;obtain⟨h1,h2,_⟩:=t.fs.ef _ hj;have y:=he _ (List.mem_singleton.2 rfl);simp only at y;have hm:=tJ hq;rw[y] at hm;obtain⟨i,hi⟩:=t.hp.mem (mL F hm);exact⟨SlRd.cells (yP T (E.el f.c).enc (E.el f.c).sz f.sb sc f.l) (E.el f.c).ok t.hp i hi h1 h2 j v hv,trivial⟩
   ·cases h
  ·cases h
 | R e j =>
  simp only[Src.get] at h;split at h
  ·rename_i f hf;split at h
   ·rename_i v S hv;cases h;obtain⟨B,hj⟩:=wJ hf;obtain⟨h1,h2,h3⟩:=t.fs.ef _ hj;obtain⟨X,hX,h4⟩:=h3 S;obtain⟨i,hi⟩:=t.hp.mem (List.mem_append_right _ hX);exact⟨h4.cells (E.el f.c).ok t.hp i hi h1 h2 j v hv,trivial⟩
   ·cases h
  ·cases h
 | Q j =>
  simp only[Src.get] at h;split at h
  ·rename_i p hp;cases h;obtain⟨B,hj⟩:=wJ hp;exact⟨t.fs.pr _ hj,trivial⟩
  ·cases h
 | P e q j =>
  simp only[Src.get] at h;split at h
  ·rename_i f b T cs hf hq;split at h
   ·rename_i v hv hle;cases h;obtain⟨B,hj⟩:=wJ hf;obtain⟨h1,h2,_⟩:=t.fs.ef _ hj;have y:=he _ (List.mem_singleton.2 rfl);simp only at y;have hm:=tJ hq;rw[y] at hm;obtain⟨i,hi⟩:=t.hp.mem (mL F hm);refine⟨t.hp.cell i hi ?_,trivial⟩;have I:j<(E.el f.c).sz:=by
     have:=(List.getElem?_eq_some_iff.1 hv).1
     rwa [(E.el f.c).ok.len] at this
    have hlen:(cs.take f.o).length=f.o:=by rw[List.length_take];exact Nat.min_eq_left (Nat.le_of_ble_eq_true hle)
    have O:0<=f.i/\f.i<((f.l.length:Nat):Int):=fQ h2;have z:f.l[f.i.toNat]? = some f.x:=CY h2;have u:f.i.toNat<f.l.length:=by omega
    rw[List.getElem?_append_right (by rw[hlen];omega),hlen];have hk:f.o+f.i.toNat*(E.el f.c).sz+j - f.o=f.i.toNat*(E.el f.c).sz+j:=by omega
    rw[hk];have D:=yB (E.el f.c).ok f.l;have h3:f.i.toNat+1<=f.l.length:=u;have h4:=Nat.mul_le_mul_right (E.el f.c).sz h3;rw[Nat.succ_mul] at h4;rw[List.getElem?_append_left (by rw[D];omega),sC (E.el f.c).ok f.l _ _ u I];rw[List.getElem?_eq_getElem u] at z;rw[Option.some.inj z];exact hv
   ·cases h
  ·cases h
 | W j =>
  simp only[Src.get] at h;split at h
  ·rename_i v hv;cases h;obtain⟨B,hj⟩:=wJ hv;exact VwV.obs (t.fs.vw _ hj) w
  ·cases h
theorem rB {n:Nat}{w0 w:World}{F:List HP}{st:Kn E}{a:Act}(i:KnOk n w0 F st a w):∀ {l:List Src}{e:List Value}{obs:List Ob}{eqs:List (Atom E × Atom E)},srcs st l=some (e,obs,eqs) ->
  (∀ p∈eqs,p.1=p.2)->wm w obs
 | [],e,obs,eqs,h,_=>by simp[srcs] at h;obtain⟨_,rfl,_⟩:=h;trivial
 | s::r,e,obs,eqs,h,he=>by
  simp only[srcs] at h;split at h
  ·rename_i a' j c' x y z h1 h2;cases h;rw[wR];exact⟨Src.sound i h1 fun p hp=>he p (mL _ hp),rB i h2 fun p hp=>he p (List.mem_append_right _ hp)⟩
  ·cases h
theorem jE {l:List (Atom E × Atom E)}(h:l.map (·.1)=l.map (·.2)):∀ p∈l,p.1=p.2:=by
 induction l with
 | nil=>simp
 | cons x l ih =>
  simp only[pC,List.cons.injEq] at h;intro p hp;cases hp with
  | head=>exact h.1
  | tail _ hm=>exact ih h.2 p hm
structure Con (E:Ev):Type 1 where
 fid:Nat
 I:Type
 T:Type
 rd:List Value->List (Atom E)->Option I
 args:I->List Value
 ats:I->List (Atom E)
 rds:I->List (RdV E)
 model:I->Option T
 nN:Nat
 nA:Nat
 val:I->T->List Nat->List (Option Addr)->Value
 post:I->T->List Nat->List (Option Addr)->List (Atom E)
 opt:I->T->Option (Option Int)
 fx:I->T->List Prop
 br:Bool
 M:Type
 om:I->T->Option M
 nf:Nat
 val1:I->T->M->List Nat->List (Option Addr)->Value
 post1:I->T->M->List Nat->List (Option Addr)->List (Atom E)
def Con.valA (C:Con E)(i:C.I)(t:C.T)(j:List Nat)(e:List (Option Addr)):Value:=match C.br with
 | false=>C.val i t j e
 | true=>match C.om i t with
  | none=>C.val i t j e
  | some m=>C.val1 i t m j e
def Con.fY (C:Con E)(i:C.I)(t:C.T)(j:List Nat)(e:List (Option Addr)):List (Atom E):=match C.br with
 | false=>C.post i t j e
 | true=>match C.om i t with
  | none=>C.post i t j e
  | some m=>C.post1 i t m j e
def Con.Ek (C:Con E)(i:C.I)(t:C.T)(keys:List Nat):List Nat:=match C.br with
 | false=>keys
 | true=>match C.om i t with
  | none=>keys.drop C.nf
  | some _=>keys
def Con.Sound (C:Con E)(P:Program):Prop:=∀ (i:C.I) (t:C.T),C.model i=some t -> ∀ (w0 w:World) (F:List HP),(∀ r∈C.rds i,r.holds F)->St w0 ((C.ats i).map Atom.den++F) w ->
 ym P C.fid (C.args i).toArray w fun v w'=>∃ j e,j.length=C.nN/\e.length=C.nA/\v=C.valA i t j e/\St w0 ((C.fY i t j e).map Atom.den++F) w' /\ ∀ p∈C.fx i t,p
structure SCon (E:Ev) (P:Program):Type 1 where
 C:Con E
 snd:C.Sound P
 ent:∀ args w,(callFunc C.fid args).run P w = .ok (.enter C.fid args) w
def frNs {R:Type}:Nat->(List Nat->VC R)->VC R
 | 0,k=>k []
 | n+1,k=>.frN fun r=>frNs n fun l=>k (r::l)
def frAs {R:Type}:Nat->(List (Option Addr)->VC R)->VC R
 | 0,k=>k []
 | n+1,k=>.frA fun r=>frAs n fun l=>k (r::l)
theorem mF {R:Type}{Φ:R->Prop}:∀ (l:List Nat) (k:List Nat->VC R),(frNs l.length k).ok Φ -> (k l).ok Φ
 | [],k,h=>h
 | r::l,k,h=>mF l (fun l=>k (r::l)) (h r)
theorem mE {R:Type}{Φ:R->Prop}:∀ (l:List (Option Addr)) (k:List (Option Addr)->VC R),(frAs l.length k).ok Φ -> (k l).ok Φ
 | [],k,h=>h
 | r::l,k,h=>mE l (fun l=>k (r::l)) (h r)
def VC.fail {R:Type}:VC R:=.ret none
theorem VC.zB {R:Type}{Φ:R->Prop}(h:(VC.fail:VC R).ok Φ):False:=by
 obtain⟨x,e,_⟩:=h;cases e
end
end
noncomputable section
section
variable {E:Ev} {P:Program}
structure HpOk (w0:World) (F:List HP) (st:Kn E) (w:World):Prop where
 hp:St w0 (dens st.As++F) w
 fs:aV F st
theorem KnOk.hk {n:Nat}{w0 w:World}{F:List HP}{st:Kn E}{a:Act}(h:KnOk n w0 F st a w):HpOk w0 F st w:=⟨h.hp,h.fs⟩
def hP (c:Nat){c':Nat}(l:List (E.el c').α):Option (List (E.el c).α) :=
 match Nat.decEq c' c with
 | isTrue h=>some (h ▸ l)
 | isFalse _=>none
def bo (D:ElD):Nat->List Value->Option (List D.α)
 | 0,_=>some []
 | n+1,cs=>match D.dec (cs.take D.sz),bo D n (cs.drop D.sz) with
  | some x,some r=>some (x::r)
  | _,_=>none
def ln:Op->Option (Builtin × List Operand × List TypeId)
 | .call { callee:=.builtin b,args,argTypes }=>some (b,args.toList,argTypes.toList)
 | _=>none
theorem lI {op:Op}{b:Builtin}{l:List Operand}{e:List TypeId}(h:ln op=some (b,l,e)):op = .call { callee:=.builtin b,args:=l.toArray,argTypes:=e.toArray }:=by
 unfold ln at h;split at h
 ·cases h;simp
 ·cases h
structure EqD (P:Program):Type 1 where
 α:Type
 t:TypeId
 val:α -> Array Value
 dec:Value->Option α
 eq:α -> α -> Bool
 ok:∀ x y,lF P t (val x) (val y) (eq x y)
inductive ASrc
 | K (q:Nat)
 | R (q:Nat)
 | O (q:Nat)
 | W (v q:Nat)
def ASrc.keys:List ASrc->List Nat
 | []=>[]
 | .K q::r=>q::keys r
 | _::r=>keys r
def oP (rd:List (Nat × RdV E))(rest:List (Nat × Atom E)):List ASrc->List (Atom E)->Option (List (Atom E) × List (RdV E))
 | [],_=>some ([],[])
 | .K _::r,a::ats=>match oP rd rest r ats with
  | some (x,y)=>some (a::x,y)
  | none=>none
 | .K _::_,[]=>none
 | .R q::r,ats=>match getK q rd with
  | some v=>match oP rd rest r ats with
   | some (x,y)=>some (.sl v.c 0 v.sb v.sc v.l::x,v::y)
   | none=>none
  | none=>none
 | .O q::r,ats=>match getK q rest with
  | some (.sl c T sb sc l)=>match oP rd rest r ats with
   | some (x,y)=>some (.sl c T sb sc l::x,⟨c,sb,sc,l⟩::y)
   | none=>none
  | _=>none
 | .W _ _::_,_=>none
def zipK {α:Type}:List Nat->List α -> Option (List (Nat × α))
 | [],[]=>some []
 | k::ks,x::xs=>match zipK ks xs with
  | some r=>some ((k,x)::r)
  | none=>none
 | _,_=>none
theorem dE {α:Type}:∀ {ks:List Nat}{xs:List α}{r:List (Nat × α)},zipK ks xs=some r->r.map (·.2)=xs
 | [],[],r,h=>by simp[zipK] at h;subst h;rfl
 | k::ks,x::xs,r,h=>by
  simp only[zipK] at h;split at h
  ·rename_i r' e;cases h;simp[dE e]
  ·cases h
 | [],_::_,r,h=>by simp[zipK] at h
 | _::_,[],r,h=>by simp[zipK] at h
inductive Stp (E:Ev) (P:Program):Type 1
 | seg (c:Nat) (l:List Src)
 | new (q:Nat) (l:List Src)
 | sto (q:Nat)
 | call (C:SCon E P) (l:List ASrc) (out:List Nat)
 | idx (rdr:Bool) (q:Nat) (x:Operand) (e:Nat)
 | gd (k:Nat) (x:Operand) (j:Nat)
 | idk (rdr:Bool) (q:Nat) (x:Operand) (e:Nat)
 | rlc (e q off:Nat)
 | rls (e t:Nat)
 | nil (q c:Nat) (T:TypeId)
 | bld (q c:Nat) (T:TypeId)
 | app (q:Nat) (s:ASrc)
 | sset (q e j:Nat)
 | mk (q c:Nat) (T:TypeId)
 | eqs (D:EqD P)
 | mnew (q c:Nat)
 | mget (q c:Nat) (kt:TypeId) (hk:qv P kt (E.mp c).ek (E.mp c).eq) (z:(E.mp c).V)
 | mput (q c:Nat) (kt:TypeId) (hk:qv P kt (E.mp c).ek (E.mp c).eq)
 | mdel (q c:Nat) (kt:TypeId) (hk:qv P kt (E.mp c).ek (E.mp c).eq)
 | cut (rdr:Bool) (q:Nat) (lo hi:Option Operand) (v:Nat)
 | own (v q:Nat)
 | el (t e:Nat)
 | same (q m:Nat)
 | rlp (t q:Nat)
 | rlq (b off q:Nat)
 | pix (q off n c:Nat) (x:Operand) (e:Nat)
def dS (c:Nat){c':Nat}(l:List ((E.mp c').K × (E.mp c').V)):Option (List ((E.mp c).K × (E.mp c).V)) :=
 match Nat.decEq c' c with
 | isTrue h=>some (h ▸ l)
 | isFalse _=>none
def cB (rd:List (Nat × RdV E))(vw:List (Nat × Mi E))(rest:List (Nat × Atom E)):ASrc->Option (RdV E × List (Atom E × Atom E))
 | .K _=>none
 | .R q=>match getK q rd with
  | some r=>some (r,[])
  | none=>none
 | .O q=>match getK q rest with
  | some (.sl c T sb sc l)=>some (⟨c,sb,sc,l⟩,[])
  | _=>none
 | .W v q=>match getK v vw,getK q rest with
  | some (.cut u),some (.sl c T sb sc l)=>some (⟨u.c,u.sb',u.sc',u.r⟩,[(.sl c T sb sc l,.sl u.c T u.sb u.sc u.l)])
  | _,_=>none
def vwO (o:Option (Option Int))(l:List (Nat × Mi E)):List (Nat × Mi E):=match o with
 | some x=>(77,.opt x)::l
 | none=>l
theorem Dx {o:Option (Option Int)}{l:List (Nat × Mi E)}(h:∀ p∈l,p.2.holds):∀ p∈vwO o l,p.2.holds:=by
 cases o with
 | none=>exact h
 | some x =>
  intro p hp;cases hp with
  | head=>trivial
  | tail _ hm=>exact h p hm
def fxP:List Prop->List (Nat × Prop)->List (Nat × Prop)
 | [],l=>l
 | p::r,l=>(78,p)::fxP r l
theorem AP {l:List (Nat × Prop)}(h:∀ p∈l,p.2):∀ {fx:List Prop},(∀ p∈fx,p) -> ∀ p∈fxP fx l,p.2
 | [],_=>h
 | q::r,hf=>fun p hp=>by
  cases hp with
  | head=>exact hf q (List.mem_cons_self ..)
  | tail _ hm=>exact AP h (fun x e=>hf x (mC _ e)) p hm
def outK {R:Type}(out:List Nat)(l:List (Atom E))(K:List (Nat × Atom E)->VC R):VC R:=match zipK out l with
 | some new=>K new
 | none=>.fail
theorem Cg {R:Type}{out:List Nat}{l:List (Atom E)}{K:List (Nat × Atom E)->VC R}{Φ:R->Prop}(h:(outK out l K).ok Φ):∃ new,new.map (·.2)=l/\(K new).ok Φ:=by
 unfold outK at h;split at h
 ·rename_i new e;exact⟨new,dE e,h⟩
 ·exact (VC.zB h).elim
def eJ (L:Env)(x:Operand):Option (Nat × List Value):=match x with
 | .func g=>some (g,[])
 | y=>match evO L y with
  | some (.func (.func g) ⟨[]⟩ ⟨cs⟩)=>some (g,cs)
  | _=>none
def actO {R:Type}(o:Oper)(st:Kn E)(s:Stp E P)(K:Value->Kn E->VC R):VC R :=
 match s with
 | .new q l=>match (!qS o.op && iJ st.L o.op.operands.toList),srcs st l with
  | true,some (Z,obs,eqs)=>.frN fun r=>match qj P (execOp (rho st.L) o) Z r with
   | some (.cells cs T (0,0),.value v,U)=>.req U obs (.req (eqs.map (·.1)) (eqs.map (·.2)) (K v ⟨st.L,(q,.blk r T cs.toList)::st.As,st.rd,st.ef,st.pr,st.vw⟩))
   | _=>.fail
  | _,_=>.fail
 | .sto q=>match uK o.op,mP q st.As with
  | some (t,x,y),some (.blk b' T cs,rest)=>match evO st.L x,evO st.L y,P.info? t with
   | some (.pointer (some ⟨b,off,none⟩)),some v,some F=>match Nat.beq F.size v.cells.size,nv v.cells.toList,Nat.ble (off+v.cells.size) cs.length with
    | true,true,true=>.req b b' (K undef ⟨st.L,(q,.blk b' T (putAt cs off v.cells.toList))::rest,st.rd,st.ef,st.pr,st.vw⟩)
    | _,_,_=>.fail
   | _,_,_=>.fail
  | _,_=>.fail
 | .call C l out=>match callParts o.op,gD (ASrc.keys l) st.As with
  | some (x,xs),some (ats,rest)=>match eJ st.L x,nG st.L xs,oP st.rd rest l ats with
   | some (g,cs),some vs,some (ps,rds)=>match C.C.rd (vs++cs) ps with
    | some i=>.req (vs++cs,ats,rds,g) (C.C.args i,C.C.ats i,C.C.rds i,C.C.fid) (.bind (C.C.model i) fun t=>frNs C.C.nN fun S=>frAs C.C.nA fun O=>match C.C.br with
     | false=>outK out (C.C.post i t S O) fun new=>K (C.C.val i t S O) ⟨st.L,new++rest,st.rd,st.ef,fxP (C.C.fx i t) st.pr,vwO (C.C.opt i t) st.vw⟩
     | true=>.cs (oS (C.C.om i t)) (fun _=>outK (out.drop C.C.nf) (C.C.post i t S O) fun new=>K (C.C.val i t S O) ⟨st.L,new++rest,st.rd,st.ef,fxP (C.C.fx i t) st.pr,vwO (C.C.opt i t) st.vw⟩) fun m =>
       outK out (C.C.post1 i t m S O) fun new=>K (C.C.val1 i t m S O) ⟨st.L,new++rest,st.rd,st.ef,fxP (C.C.fx i t) st.pr,vwO (C.C.opt i t) st.vw⟩)
    | none=>.fail
   | _,_,_=>.fail
  | _,_=>.fail
 | .bld q c T=>match (!qS o.op && iJ st.L o.op.operands.toList) with
  | true=>.frN fun r=>match qj P (execOp (rho st.L) o) [] r with
   | some (.cells cs T' (0,0),.value (.slice (some a) m J),[])=>match bo (E.el c) m cs.toList,Nat.ble m 1000000 with
    | some xs,true=>.req (cs.toList,a,m,J,T') (xs.flatMap (E.el c).enc,⟨r,0,none⟩,xs.length,xs.length,T) (K (.slice (some ⟨r,0,none⟩) xs.length xs.length) ⟨st.L,(q,.sl c T (some ⟨r,0,none⟩) xs.length xs)::st.As,st.rd,st.ef,st.pr,st.vw⟩)
    | _,_=>.fail
   | _=>.fail
  | false=>.fail
 | .app q s=>match ln o.op,mP q st.As with
  | some (.append,[x,y],[t,u]),some (.sl c T sb sc l,rest)=>match cB st.rd st.vw ((q,.sl c T sb sc l)::rest) s,P.underlying t,P.underlying u,P.info? T,evO st.L x,evO st.L y with
   | some (⟨c',sb',sc',l'⟩,eqs),some (.slice T'),some (.slice d),some F,some B,some A=>match hP c l',F.zero,Nat.ble F.bytes 131072 with
    | some l'',some z,true=>.req (B,A,T',F.size,z.cells.size) (.slice sb l.length sc,.slice sb' l''.length sc',T,(E.el c).sz,(E.el c).sz) (.req (eqs.map (·.1)) (eqs.map (·.2)) (.bind (mApp l l'') fun r=>.frA fun W=>.frN fun X =>
      K (.slice W r.length X) ⟨st.L,(q,.sl c T W X r)::rest,st.rd,st.ef,st.pr,st.vw⟩))
    | _,_,_=>.fail
   | _,_,_,_,_,_=>.fail
  | _,_=>.fail
 | .sset q e j=>match uK o.op,mP q st.As,getK e st.ef with
  | some (t,x,y),some (.sl c T sb sc l,rest),some ⟨rdr,c',sb',l',i,x0,b,off⟩=>match evO st.L x,evO st.L y,P.info? t,Nat.decEq c' c with
   | some B,some v,some F,isTrue h=>match nv v.cells.toList,Nat.ble (j+v.cells.size) (E.el c).sz,(E.el c).dec (putAt ((E.el c).enc (h ▸ x0)) j v.cells.toList) with
    | true,true,some x1=>.req (B,F.size,(h ▸ l':List (E.el c).α),sb',(E.el c).enc x1) (.pointer (some ⟨b,off+i.toNat*(E.el c).sz+j,none⟩),v.cells.size,l,sb,putAt ((E.el c).enc (h ▸ x0)) j v.cells.toList)
      (K undef ⟨st.L,(q,.sl c T sb sc (mSet l i x1))::rest,st.rd,(e,⟨false,c,sb,mSet l i x1,i,x1,b,off⟩)::(e+100000,⟨rdr,c',sb',l',i,x0,b,off⟩)::st.ef,st.pr,st.vw⟩)
    | _,_,_=>.fail
   | _,_,_,_=>.fail
  | _,_,_=>.fail
 | .mk q c T=>match o.op with
  | .makeSlice t x y=>match P.underlying t,P.info? T,evO st.L x,evO st.L y with
   | some (.slice T'),some F,some (.int .i64 m),some A=>match F.zero,Nat.ble F.bytes 131072 with
    | some Y,true=>match (E.el c).dec Y.cells.toList with
     | some z=>.req (T',F.size,Y.cells.toList,y) (T,(E.el c).sz,(E.el c).enc z,x) (.bind (iG m z) fun l=>.frN fun r=>K (.slice (some ⟨r,0,none⟩) l.length l.length) ⟨st.L,(q,.sl c T (some ⟨r,0,none⟩) l.length l)::st.As,st.rd,st.ef,st.pr,st.vw⟩)
     | none=>.fail
    | _,_=>.fail
   | _,_,_,_=>.fail
  | _=>.fail
 | .eqs D=>match o.op with
  | .binOp .eql t x y _=>match evO st.L x,evO st.L y,P.eqGuardType P.depth t with
   | some B,some A,false=>match D.dec B,D.dec A with
    | some a,some b=>.req (t,B,A) (D.t,.agg (D.val a),.agg (D.val b)) (K (.bool (D.eq a b)) st)
    | _,_=>.fail
   | _,_,_=>.fail
  | .binOp .neq t x y _=>match evO st.L x,evO st.L y,P.eqGuardType P.depth t with
   | some B,some A,false=>match D.dec B,D.dec A with
    | some a,some b=>.req (t,B,A) (D.t,.agg (D.val a),.agg (D.val b)) (K (.bool (!(D.eq a b))) st)
    | _,_=>.fail
   | _,_,_=>.fail
  | _=>.fail
 | .mnew q c=>match o.op with
  | .makeMap t none=>.frN fun r=>K (.map (some r)) ⟨st.L,(q,.mp c r [])::st.As,st.rd,st.ef,st.pr,st.vw⟩
  | _=>.fail
 | .mget q c kt hk z=>match getK q st.As with
  | some (.mp c' r m)=>match dS c m with
   | some J=>match o.op with
    | .lookup mt x y two=>match P.underlying mt,evO st.L x,evO st.L y with
     | some (.map I vt),some B,some A=>match P.info? vt,(E.mp c).dk A with
      | some F,some k=>match F.zero with
       | some Y=>.req (I,B,A,Y,Atom.mp (E:=E) c' r m) (kt,.map (some r),(E.mp c).ek k,(E.mp c).ev z,.mp c r J) (.bind (qZ (E.mp c).eq k z J) fun g=>K (match two with
        | true=>.tuple #[(E.mp c).ev g.1,.bool g.2]
        | false=>(E.mp c).ev g.1) st)
       | none=>.fail
      | _,_=>.fail
     | _,_,_=>.fail
    | _=>.fail
   | none=>.fail
  | _=>.fail
 | .mput q c kt hk=>match mP q st.As,nZ o.op with
  | some (.mp c' r m,rest),some (mt,x,y,z)=>match dS c m,P.underlying mt,evO st.L x,evO st.L y,evO st.L z with
   | some J,some (.map I vt),some B,some A,some vz=>match (E.mp c).dk A,(E.mp c).dv vz with
    | some k,some v=>.req (I,B,A,vz,Atom.mp (E:=E) c' r m) (kt,.map (some r),(E.mp c).ek k,(E.mp c).ev v,.mp c r J) (K undef ⟨st.L,(q,.mp c r (mPut (E.mp c).eq k v J))::rest,st.rd,st.ef,st.pr,st.vw⟩)
    | _,_=>.fail
   | _,_,_,_,_=>.fail
  | _,_=>.fail
 | .mdel q c kt hk=>match mP q st.As,ln o.op with
  | some (.mp c' r m,rest),some (.delete,[x,y],mt::ts)=>match dS c m,P.underlying mt,evO st.L x,evO st.L y with
   | some J,some (.map I vt),some B,some A=>match (E.mp c).dk A with
    | some k=>.req (I,B,A,Atom.mp (E:=E) c' r m) (kt,.map (some r),(E.mp c).ek k,.mp c r J) (K (.tuple #[]) ⟨st.L,(q,.mp c r (mDel (E.mp c).eq k J))::rest,st.rd,st.ef,st.pr,st.vw⟩)
    | none=>.fail
   | _,_,_,_=>.fail
  | _,_=>.fail
 | _=>.fail
theorem RdV.mono {F G:List HP}{r:RdV E}(h:∀ X∈F,X∈G)(e:r.holds F):r.holds G:=by
 obtain⟨X,hX,h1⟩:=e;exact⟨X,h X hX,h1⟩
theorem qd {F:List HP}{rd:List (Nat × RdV E)}{rest:List (Nat × Atom E)}(e:∀ p∈rd,p.2.holds F):∀ {l:List ASrc}{ats ps:List (Atom E)}{rds:List (RdV E)},
  oP rd rest l ats=some (ps,rds) -> ∀ r∈rds,r.holds (dens rest++F)
 | [],ats,ps,rds,h=>by simp[oP] at h;obtain⟨_,rfl⟩:=h;simp
 | .K _::r,[],ps,rds,h=>by simp[oP] at h
 | .K _::r,a::ats,ps,rds,h=>by
  simp only[oP] at h;split at h
  ·rename_i x y i;cases h;exact qd e i
  ·cases h
 | .R q::r,ats,ps,rds,h=>by
  simp only[oP] at h;split at h
  ·rename_i v hv;split at h
   ·rename_i x y i;cases h;intro z t;cases t with
    | head =>
     obtain⟨j,hj⟩:=wJ hv;exact RdV.mono (fun X hX=>List.mem_append_right _ hX) (e _ hj)
    | tail _ hm=>exact qd e i z hm
   ·cases h
  ·cases h
 | .O q::r,ats,ps,rds,h=>by
  simp only[oP] at h;split at h
  ·rename_i c T sb sc l hq;split at h
   ·rename_i x y i;cases h;intro z t;cases t with
    | head =>
     refine⟨_,mL F (tJ hq),yP _ _ _ _ _ _,?_⟩;rintro h (⟨_,hl,_⟩|⟨b,off,cs,_,_,u,_⟩)
     ·show l.length<=sc;rw[show l=[] from hl];simp
     ·exact u
    | tail _ hm=>exact qd e i z hm
   ·cases h
  ·cases h
theorem OpTo.Dw {n:Nat}{a:Act}{L:Env}{w w0:World}{As:List HP}{o:Oper}{b off:Nat}{T t:TypeId}{cs:List Value}{x y:Operand}{v:Value}{z:TypeInfo}(i:zN n a L)(H:St w0 (Blk b T cs::As) w)
  (l:uK o.op=some (t,x,y)) (B:evO L x=some (.pointer (some ⟨b,off,none⟩))) (D:evO L y=some v) (hi:P.info? t=some z) (hs:z.size=v.cells.size) (h1:nv v.cells.toList=true)
  (e:off+v.cells.size<=cs.length):OpTo P o a w fun u w'=>u=undef/\St w0 (Blk b T (putAt cs off v.cells.toList)::As) w':=by
 obtain⟨dst,op,type,pos,after,guard⟩:=o;cases op <;> simp only[uK] at l <;> try cases l
 have j:=H.one 0 rfl;refine OpTo.fW (w':=w.setRow b (putAt cs off v.cells.toList).toArray) ?_ ⟨rfl,?_⟩
 ·simp[execOp,i.eval B,i.eval D,lj j hi hs h1 e]
 ·exact H.set (by simp) (by simp) (by simp) (setRow_heap w b _ _ T (0,0) j) (fun c A=>setRow_other w b c _ A)
theorem OpTo.Ew {o:Oper}{a:Act}{w:World}{e:Value->World->Prop}{z:TypeId × Operand × Operand}(h:OpTo P o a w e)(i:uK o.op=some z):OpTo P o a w fun v w'=>v=undef/\e v w':=by
 obtain⟨dst,op,type,pos,after,guard⟩:=o;cases op <;> simp only[uK] at i <;> try cases i
 rename_i t x y;unfold OpTo at *
 simp only[execOp,Sem.run_bind,Sem.run_pure] at *
 cases j:(Instr.storeAt t (a.eval x) (a.eval y)).run P w with
 | ok u w'=>rw[j] at h;simp[Result.andThen] at h ⊢;exact h
 | halt x w'=>rw[j] at h;simp[Result.andThen] at h
theorem OpTo.putU {o:Oper}{a:Act}{w:World}{e:Value->World->Prop}{z:TypeId × Operand × Operand × Operand}(h:OpTo P o a w e)(i:nZ o.op=some z):OpTo P o a w fun v w'=>v=undef/\e v w':=by
 obtain⟨dst,op,type,pos,after,guard⟩:=o;cases op <;> simp only[nZ] at i <;> try cases i
 all_goals
  rename_i t x y z;unfold OpTo at *
  simp only[execOp,Sem.run_bind,Sem.run_pure] at *
  cases j:(Instr.mapUpdate t (a.eval x) (a.eval y) (a.eval z)).run P w with
  | ok u w'=>rw[j] at h;simp[Result.andThen] at h ⊢;exact h
  | halt x w'=>rw[j] at h;simp[Result.andThen] at h
theorem ez {F:List HP}{rd:List (Nat × RdV E)}{vw:List (Nat × Mi E)}{rest:List (Nat × Atom E)}{s:ASrc}{r:RdV E}{eqs:List (Atom E × Atom E)}(e:∀ p∈rd,p.2.holds F)(i:∀ p∈vw,p.2.holds)(h:cB rd vw rest s=some (r,eqs))(he:∀ p∈eqs,p.1=p.2) :
  ∃ X,X∈dens rest++F/\SlRd X (E.el r.c).enc (E.el r.c).sz r.sb r.l:=by
 cases s with
 | K q=>simp[cB] at h
 | R q =>
  simp only[cB] at h;split at h
  ·rename_i r' x;cases h;obtain⟨j,hj⟩:=wJ x;obtain⟨X,hX,h1,_⟩:=e _ hj;exact⟨X,List.mem_append_right _ hX,h1⟩
  ·cases h
 | W v q =>
  simp only[cB] at h;split at h
  ·rename_i u c T sb sc l hu hq;cases h;obtain⟨j,hj⟩:=wJ hu;obtain⟨h1,h2,h3,h4⟩:=i _ hj;have t:=he _ (List.mem_singleton.2 rfl);simp only at t;have hm:=tJ hq;rw[t] at hm;exact⟨_,mL F hm,(yP T (E.el u.c).enc (E.el u.c).sz u.sb u.sc u.l).cut' (E.el u.c).ok h1 h4 h2⟩
  ·cases h
 | O q =>
  simp only[cB] at h;split at h
  ·rename_i c T sb sc l hq;cases h;exact⟨_,mL F (tJ hq),yP _ _ _ _ _ _⟩
  ·cases h
theorem Aa {c c':Nat}{l:List (E.el c').α}{l':List (E.el c).α}(h:hP c l=some l'):∃ e:c'=c,l'=e ▸ l:=by
 unfold hP at h;split at h
 ·rename_i e _;cases h;exact⟨e,rfl⟩
 ·cases h
theorem ij {c c':Nat}{l:List ((E.mp c').K × (E.mp c').V)}{l':List ((E.mp c).K × (E.mp c).V)}(h:dS c l=some l'):∃ e:c'=c,l'=e ▸ l:=by
 unfold dS at h;split at h
 ·rename_i e _;cases h;exact⟨e,rfl⟩
 ·cases h
theorem jv {R:Type}{n:Nat}{w0 w:World}{F:List HP}{st:Kn E}{a:Act}{Φ:R->Prop}{o:Oper}{s:Stp E P}{K:Value->Kn E->VC R}(A:KnOk n w0 F st a w)(h:(actO o st s K).ok Φ) :
  OpTo P o a w fun v w'=>∃ O,O.L=st.L/\HpOk w0 F O w'/\(K v O).ok Φ:=by
 cases s with
 | seg c l=>exact (VC.zB h).elim
 | idx rdr q x e=>exact (VC.zB h).elim
 | gd k x j=>exact (VC.zB h).elim
 | idk rdr q x e=>exact (VC.zB h).elim
 | rlc e q off=>exact (VC.zB h).elim
 | rls e t=>exact (VC.zB h).elim
 | nil q c T=>exact (VC.zB h).elim
 | cut rdr q lo hi v=>exact (VC.zB h).elim
 | own v q=>exact (VC.zB h).elim
 | el t e=>exact (VC.zB h).elim
 | same q m=>exact (VC.zB h).elim
 | rlp t q=>exact (VC.zB h).elim
 | rlq b off q=>exact (VC.zB h).elim
 | pix q off n c x e=>exact (VC.zB h).elim
 | bld q c T =>
  simp only[actO] at h;split at h
  ·rename_i a0;have h3:=h w.heap.size;dsimp only at h3;split at h3
   ·rename_i cs T' ad m m' a6;split at h3
    ·rename_i xs d5 hm;obtain⟨e,W⟩:=h3;simp only[Prod.mk.injEq] at e;obtain⟨S,rfl,rfl,rfl,rfl⟩:=e;simp only[Bool.and_eq_true,Bool.not_eq_true'] at a0;have d2:=Nat.le_of_ble_eq_true hm;have d4:cs.size=xs.length*(E.el c).sz:=by rw[<- Array.length_toList,S,yB (E.el c).ok]
     refine OpTo.of_run (w':={ w with heap:=w.heap.push (.cells cs T' (0,0)) }) (v:=.slice (some ⟨w.heap.size,0,none⟩) xs.length xs.length) ?_ ⟨⟨st.L,(q,.sl c T' (some ⟨w.heap.size,0,none⟩) xs.length xs)::st.As,st.rd,st.ef,st.pr,st.vw⟩,rfl,⟨?_,A.fs.1,A.fs.2,A.fs.3,A.fs.4⟩,W⟩
     ·rw[iu A.env a0.1 a0.2];exact oa P w _ _ _ _ _ a6 trivial
     ·have H2:=A.hp.alloc (.cells cs T' (0,0));have H3:=St.slOf (enc:=(E.el c).enc) (sz:=(E.el c).sz) (l:=xs) (sc:=xs.length) H2 (E.el c).ok (Nat.le_refl _) (by unfold maxLen;omega) (by omega) fun i hi=>by rw[<- S];simp
      exact H3
    ·exact (VC.zB h3).elim
   ·exact (VC.zB h3).elim
  ·exact (VC.zB h).elim
 | app q s =>
  simp only[actO] at h;split at h
  ·rename_i x y t u c T sb sc l rest h1 h2;split at h
   ·rename_i c' sb' sc' l' eqs T' d ti vx vy g1 g2 g3 g4 g5 g6;split at h
    ·rename_i l'' z U k2 k3;obtain⟨e,b6,r,hr,I⟩:=h;simp only[Prod.mk.injEq] at e;obtain⟨rfl,rfl,rfl,e4,e5⟩:=e;obtain⟨Y,rfl⟩:=Aa U;subst Y;have H:St w0 (Sl T' (E.el c').enc (E.el c').sz sb sc l::(dens rest++F)) w:=A.hp.perm ((tz h2).append_right F);obtain⟨X,hX,hS⟩:=ez A.fs.rd A.fs.vw g1 (jE b6);obtain⟨j,hj⟩:=H.mem hX;have b8:=hS.all (E.el c').ok H j hj;refine (OpTo.vP hr A.env H (E.el c').ok (lI h1) g5 g6 g2 g3 g4 e4 k2 e5 rfl b8 k3).mono ?_;rintro v w' ⟨a8,a9,rfl,B⟩;exact⟨⟨st.L,(q,.sl c' T' a8 a9 r)::rest,st.rd,st.ef,st.pr,st.vw⟩,rfl,⟨B,A.fs.1,A.fs.2,A.fs.3,A.fs.4⟩,I a8 a9⟩
    ·exact (VC.zB h).elim
   ·exact (VC.zB h).elim
  ·exact (VC.zB h).elim
 | sset q e j =>
  simp only[actO] at h;split at h
  ·rename_i t x y c T sb sc l rest rdr c' sb' l' i x0 b off h1 h2 h3;split at h
   ·rename_i vx v ti Y g1 g2 g3 g4;split at h
    ·rename_i x1 U k2 k3;subst Y;obtain⟨e,I⟩:=h;simp only[Prod.mk.injEq] at e;obtain⟨rfl,Z,rfl,rfl,e5⟩:=e;obtain⟨j',hj⟩:=wJ h3;obtain⟨f1,f2,_⟩:=A.fs.2 _ hj;have H:St w0 (Sl T (E.el c').enc (E.el c').sz sb' sc l'::(dens rest++F)) w:=A.hp.perm ((tz h2).append_right F);refine (OpTo.Ew (OpTo.oj (q:=j) (x':=x1) A.env H (E.el c').ok h1 f1 f2 g1 g2 g3 Z U (Nat.le_of_ble_eq_true k2) e5) h1).mono ?_;rintro v w' ⟨rfl,B⟩;refine⟨⟨st.L,(q,.sl c' T sb' sc (mSet l' i x1))::rest,st.rd,(e,⟨false,c',sb',mSet l' i x1,i,x1,b,off⟩)::(e+100000,⟨rdr,c',sb',l',i,x0,b,off⟩)::st.ef,st.pr,st.vw⟩,rfl,⟨B,A.fs.1,fun p hp=>?_,A.fs.3,A.fs.4⟩,I⟩;cases hp with
     | head=>exact⟨f1,Ca f2,fun h=>by cases h⟩
     | tail _ hm =>
      cases hm with
      | head =>
       have h9:=A.fs.2 _ hj;exact h9
      | tail _ hm=>exact A.fs.2 p hm
    ·exact (VC.zB h).elim
   ·exact (VC.zB h).elim
  ·exact (VC.zB h).elim
 | mk q c T =>
  simp only[actO] at h;split at h
  ·rename_i t x y J;split at h
   ·rename_i T' ti m vy g1 g2 g3 g4;split at h
    ·rename_i zv U k2;split at h
     ·rename_i z kz;obtain⟨e,l,hl,I⟩:=h;simp only[Prod.mk.injEq] at e;obtain⟨rfl,Z,e3,rfl⟩:=e;refine (OpTo.make hl A.env A.hp (E.el c).ok J g3 g1 g2 Z U e3 k2).mono ?_;rintro v w' ⟨r,rfl,B⟩;exact⟨⟨st.L,(q,.sl c T' (some ⟨r,0,none⟩) l.length l)::st.As,st.rd,st.ef,st.pr,st.vw⟩,rfl,⟨B,A.fs.1,A.fs.2,A.fs.3,A.fs.4⟩,I r⟩
     ·exact (VC.zB h).elim
    ·exact (VC.zB h).elim
   ·exact (VC.zB h).elim
  ·exact (VC.zB h).elim
 | eqs D =>
  simp only[actO] at h;split at h
  ·rename_i t x y u J;split at h
   ·rename_i vx vy g1 g2 g3;split at h
    ·rename_i p q U k2;obtain⟨e,I⟩:=h;simp only[Prod.mk.injEq] at e;obtain⟨rfl,rfl,rfl⟩:=e;refine (OpTo.eqS A.env J g1 g2 g3 (D.ok p q)).mono ?_;rintro v w' ⟨rfl,rfl⟩;exact⟨st,rfl,A.hk,I⟩
    ·exact (VC.zB h).elim
   ·exact (VC.zB h).elim
  ·rename_i t x y u J;split at h
   ·rename_i vx vy g1 g2 g3;split at h
    ·rename_i p q U k2;obtain⟨e,I⟩:=h;simp only[Prod.mk.injEq] at e;obtain⟨rfl,rfl,rfl⟩:=e;refine (OpTo.neS A.env J g1 g2 g3 (D.ok p q)).mono ?_;rintro v w' ⟨rfl,rfl⟩;exact⟨st,rfl,A.hk,I⟩
    ·exact (VC.zB h).elim
   ·exact (VC.zB h).elim
  ·exact (VC.zB h).elim
 | mnew q c =>
  simp only[actO] at h;split at h
  ·rename_i t J;refine (OpTo.Er (E.mp c).ek (E.mp c).ev A.env A.hp J).mono ?_;rintro v w' ⟨r,rfl,B⟩;exact⟨⟨st.L,(q,.mp c r [])::st.As,st.rd,st.ef,st.pr,st.vw⟩,rfl,⟨B,A.fs.1,A.fs.2,A.fs.3,A.fs.4⟩,h r⟩
  ·exact (VC.zB h).elim
 | mget q c kt hk z =>
  simp only[actO] at h;split at h
  ·rename_i c' r m hq;split at h
   ·rename_i m' hm;split at h
    ·rename_i mt x y two J;split at h
     ·rename_i a7 vt vx vy g1 g2 g3;split at h
      ·rename_i ti k U k2;split at h
       ·rename_i zv kz;obtain⟨Y,rfl⟩:=ij hm;subst Y;obtain⟨e,g,hg,I⟩:=h;simp only[Prod.mk.injEq] at e;obtain⟨rfl,rfl,rfl,rfl,_⟩:=e;obtain⟨j,hj⟩:=A.hp.mem (mL F (tJ hq));cases two with
        | true =>
         refine (OpTo.Di j A.env A.hp hj hk hg J g1 U kz g2 g3).mono ?_;rintro v w' ⟨rfl,rfl⟩;exact⟨st,rfl,A.hk,I⟩
        | false =>
         refine (OpTo.Ep j A.env A.hp hj hk hg J g1 U kz g2 g3).mono ?_;rintro v w' ⟨rfl,rfl⟩;exact⟨st,rfl,A.hk,I⟩
       ·exact (VC.zB h).elim
      ·exact (VC.zB h).elim
     ·exact (VC.zB h).elim
    ·exact (VC.zB h).elim
   ·exact (VC.zB h).elim
  ·exact (VC.zB h).elim
 | mput q c kt hk =>
  simp only[actO] at h;split at h
  ·rename_i c' r m rest mt x y z h1 h2;split at h
   ·rename_i m' a7 vt vx vy vz hm g1 g2 g3 g4;split at h
    ·rename_i k v U k2;obtain⟨Y,rfl⟩:=ij hm;subst Y;obtain⟨e,I⟩:=h;simp only[Prod.mk.injEq] at e;obtain⟨rfl,rfl,rfl,rfl,_⟩:=e;have H:St w0 (MpA r (E.mp c').ek (E.mp c').ev m::(dens rest++F)) w:=A.hp.perm ((tz h1).append_right F);refine (OpTo.putU (OpTo.Es A.env H hk h2 g1 g2 g3 g4) h2).mono ?_;rintro v' w' ⟨rfl,B⟩;exact⟨⟨st.L,(q,.mp c' r (mPut (E.mp c').eq k v m))::rest,st.rd,st.ef,st.pr,st.vw⟩,rfl,⟨B,A.fs.1,A.fs.2,A.fs.3,A.fs.4⟩,I⟩
    ·exact (VC.zB h).elim
   ·exact (VC.zB h).elim
  ·exact (VC.zB h).elim
 | mdel q c kt hk =>
  simp only[actO] at h;split at h
  ·rename_i c' r m rest x y mt ts h1 h2;split at h
   ·rename_i m' a7 vt vx vy hm g1 g2 g3;split at h
    ·rename_i k U;obtain⟨Y,rfl⟩:=ij hm;subst Y;obtain⟨e,I⟩:=h;simp only[Prod.mk.injEq] at e;obtain⟨rfl,rfl,rfl,_⟩:=e;have H:St w0 (MpA r (E.mp c').ek (E.mp c').ev m::(dens rest++F)) w:=A.hp.perm ((tz h1).append_right F);refine (OpTo.Eo A.env H hk (lI h2) (by simp) g1 g2 g3).mono ?_;rintro v' w' ⟨rfl,B⟩;exact⟨⟨st.L,(q,.mp c' r (mDel (E.mp c').eq k m))::rest,st.rd,st.ef,st.pr,st.vw⟩,rfl,⟨B,A.fs.1,A.fs.2,A.fs.3,A.fs.4⟩,I⟩
    ·exact (VC.zB h).elim
   ·exact (VC.zB h).elim
  ·exact (VC.zB h).elim
 | new q l =>
  simp only[actO] at h;split at h
  ·rename_i d8 obs eqs h1 h2;have h3:=h w.heap.size;dsimp only at h3;split at h3
   ·rename_i cs T v c4 h4;obtain⟨I,h6,W⟩:=h3;subst I;simp only[Bool.and_eq_true,Bool.not_eq_true'] at h1;refine OpTo.of_run (w':={ w with heap:=w.heap.push (.cells cs T (0,0)) }) (v:=v) ?_ ⟨⟨st.L,(q,.blk w.heap.size T cs.toList)::st.As,st.rd,st.ef,st.pr,st.vw⟩,rfl,⟨?_,A.fs.1,A.fs.2,A.fs.3,A.fs.4⟩,W⟩
    ·rw[iu A.env h1.1 h1.2];exact oa P w _ _ _ _ _ h4 (rB A h2 (jE h6))
    ·have:=A.hp.alloc (.cells cs T (0,0));simpa[dens,Atom.den] using this
   ·exact (VC.zB h3).elim
  ·exact (VC.zB h).elim
 | sto q =>
  simp only[actO] at h;split at h
  ·rename_i t x y b' T cs rest h1 h2;split at h
   ·rename_i b off v ti hx hy hi;split at h
    ·rename_i S Z e3;obtain⟨rfl,W⟩:=h;have H:St w0 (Blk b T cs::(dens rest++F)) w:=A.hp.perm ((tz h2).append_right F);refine (OpTo.Dw A.env H h1 hx hy hi (Nat.eq_of_beq_eq_true S) Z (Nat.le_of_ble_eq_true e3)).mono ?_;rintro _ w' ⟨rfl,B⟩;exact⟨⟨st.L,(q,.blk b T (putAt cs off v.cells.toList))::rest,st.rd,st.ef,st.pr,st.vw⟩,rfl,⟨B,A.fs.1,A.fs.2,A.fs.3,A.fs.4⟩,W⟩
    ·exact (VC.zB h).elim
   ·exact (VC.zB h).elim
  ·exact (VC.zB h).elim
 | call C l out =>
  simp only[actO] at h;split at h
  ·rename_i x xs ats rest h1 h2;split at h
   ·rename_i g cs vs ps rds S Z e3;split at h
    ·rename_i i hi;obtain⟨e4,t,ht,I⟩:=h;simp only[Prod.mk.injEq] at e4;obtain⟨e5,rfl,rfl,rfl⟩:=e4;have fn:∀ {Rv:Value->World->Prop},ym P C.C.fid (C.C.args i).toArray w Rv->OpTo P o a w Rv:=by
      intro Rv hc;rw[<- e5] at hc;unfold eJ at S;split at S
      ·simp only[Option.some.injEq,Prod.mk.injEq] at S;obtain⟨e6,rfl⟩:=S;subst e6;rw[aN] at hc;exact OpTo.fn A.env h1 Z C.ent hc
      ·split at S
       ·rename_i hx;simp only[Option.some.injEq,Prod.mk.injEq] at S;obtain⟨e6,rfl⟩:=S;subst e6;exact OpTo.fv A.env h1 hx Z C.ent hc
       ·cases S
     have H:St w0 ((C.C.ats i).map Atom.den++(dens rest++F)) w:=by
      have:=A.hp.perm ((mr h2).append_right F)
      rwa [aA] at this
     refine fn ((C.snd i t ht w0 w (dens rest++F) (qd A.fs.rd e3) H).mono ?_);rintro v w' ⟨ns,aS,hn,ha,rfl,B,b7⟩;rw[<- hn] at I;have h6:=mF _ _ I;rw[<- ha] at h6;have W:=mE _ _ h6;have fin:∀ (v:Value) (l:List (Atom E)) (out:List Nat),St w0 (l.map Atom.den++(dens rest++F)) w'->(outK out l fun new=>K v ⟨st.L,new++rest,st.rd,st.ef,fxP (C.C.fx i t) st.pr,vwO (C.C.opt i t) st.vw⟩).ok Φ -> ∃ O,O.L=st.L/\HpOk w0 F O w'/\(K v O).ok Φ:=by
      intro v l out Hl hk;obtain⟨new,hz,h8⟩:=Cg hk;refine⟨⟨st.L,new++rest,st.rd,st.ef,fxP (C.C.fx i t) st.pr,vwO (C.C.opt i t) st.vw⟩,rfl,⟨?_,A.fs.1,A.fs.2,AP A.fs.3 b7,Dx A.fs.4⟩,h8⟩;simp only[dens,List.map_append,hz,aA];exact Hl
     unfold Con.valA;unfold Con.fY at B;split at W
     ·rename_i hb;rw[hb] at B;try rw[hb]
      exact fin _ _ _ B W
     ·rename_i hb;rw[hb] at B;try rw[hb]
      cases J:C.C.om i t with
      | none =>
       rw[J] at B;exact fin _ _ _ B (W.1 () (by rw[J];rfl))
      | some m =>
       rw[J] at B;exact fin _ _ _ B (W.2 m (by rw[J];rfl))
    ·exact (VC.zB h).elim
   ·exact (VC.zB h).elim
  ·exact (VC.zB h).elim
end
end
noncomputable section
section
variable {E:Ev} {P:Program}
theorem HpOk.kn {n:Nat}{w0 w:World}{F:List HP}{st:Kn E}{a:Act}{L:Env}(h:HpOk w0 F st w)(e:zN n a L):KnOk n w0 F ⟨L,st.As,st.rd,st.ef,st.pr,st.vw⟩ a w:=⟨e,h.hp,h.fs.1,h.fs.2,h.fs.3,h.fs.4⟩
def idxC {R:Type}(st:Kn E)(c:Nat)(sb:Option Addr)(l:List (E.el c).α)(rdr:Bool)(x:Operand)(e:Nat)(K:Kn E->VC R):VC R :=
 match evO st.L x with
 | some (.int _ i)=>.bind (mIdx l i) fun y=>.frN fun b=>.frN fun o=>K ⟨st.L,st.As,st.rd,(e,⟨rdr,c,sb,l,i,y,b,o⟩)::st.ef,st.pr,st.vw⟩
 | _=>.fail
def idkC {R:Type}(st:Kn E)(c:Nat)(sb:Option Addr)(l:List (E.el c).α)(rdr:Bool)(x:Operand)(e:Nat)(K:Kn E->VC R):VC R :=
 match evO st.L x with
 | some (.int _ i)=>match mIdx l i with
  | some y=>.frN fun b=>.frN fun o=>K ⟨st.L,st.As,st.rd,(e,⟨rdr,c,sb,l,i,y,b,o⟩)::st.ef,st.pr,st.vw⟩
  | none=>.fail
 | _=>.fail
def idkS {R:Type}(st:Kn E)(rdr:Bool)(q:Nat)(x:Operand)(e:Nat)(K:Kn E->VC R):VC R :=
 match rdr with
 | true=>match getK q st.rd with
  | some r=>idkC st r.c r.sb r.l true x e K
  | none=>.fail
 | false=>match getK q st.As with
  | some (.sl c T sb sc l)=>idkC st c sb l false x e K
  | _=>.fail
def idxS {R:Type}(st:Kn E)(rdr:Bool)(q:Nat)(x:Operand)(e:Nat)(K:Kn E->VC R):VC R :=
 match rdr with
 | true=>match getK q st.rd with
  | some r=>idxC st r.c r.sb r.l true x e K
  | none=>.fail
 | false=>match getK q st.As with
  | some (.sl c T sb sc l)=>idxC st c sb l false x e K
  | _=>.fail
def rlN {R:Type}(st:Kn E)(e:Nat)(K:Nat->Nat->VC R):VC R :=
 match getK e st.ef,getK (e+100000) st.ef with
 | some f,some g=>match hP f.c g.l with
  | some l=>.req f.l (mSet l g.i f.x) (K l.length f.l.length)
  | none=>.fail
 | _,_=>.fail
theorem gR {R:Type}{st:Kn E}{e:Nat}{K:Nat->Nat->VC R}{Φ:R->Prop}(h:(rlN st e K).ok Φ):∃ n,(K n n).ok Φ:=by
 unfold rlN at h;split at h
 ·split at h
  ·obtain⟨h1,h2⟩:=h;rw[h1,uH] at h2;exact⟨_,h2⟩
  ·exact (VC.zB h).elim
 ·exact (VC.zB h).elim
def rlcC {R:Type}(st:Kn E)(e q off:Nat)(K:Kn E->VC R):VC R:=rlN st e fun n i=>match mP q st.As with
 | some (.blk b T cs,rest)=>match cs[off]? with
  | some (.slice sb m sc)=>.req m n (K ⟨st.L,(q,.blk b T (cs.set off (.slice sb i sc)))::rest,st.rd,st.ef,st.pr,st.vw⟩)
  | _=>.fail
 | _=>.fail
def rlsC {R:Type}(st:Kn E)(e t:Nat)(K:Kn E->VC R):VC R:=rlN st e fun n i=>match look t st.L with
 | some (.slice sb m sc)=>.req m n (K ⟨(t,.slice sb i sc)::st.L,st.As,st.rd,st.ef,st.pr,st.vw⟩)
 | _=>.fail
def opI (L:Env):Option Operand->Option (Option Int)
 | none=>some none
 | some x=>match evO L x with
  | some (.int _ i)=>some (some i)
  | _=>none
def cutC {R:Type}(st:Kn E)(c:Nat)(sb:Option Addr)(sc:Nat)(l:List (E.el c).α)(lo hi:Option Int)(K:VwV E->VC R):VC R :=
 .bind (mCut l (loI lo) (hiI l.length hi)) fun r=>.frA fun sb'=>.frN fun sc'=>K ⟨c,sb,sc,l,lo,hi,sb',sc',r⟩
def cutS {R:Type}(st:Kn E)(rdr:Bool)(q:Nat)(lo hi:Option Operand)(v:Nat)(K:Kn E->VC R):VC R :=
 match opI st.L lo,opI st.L hi with
 | some lo,some hi=>match rdr with
  | true=>match getK q st.rd with
   | some r=>cutC st r.c r.sb r.sc r.l lo hi fun u=>K ⟨st.L,st.As,(v,⟨u.c,u.sb',u.sc',u.r⟩)::st.rd,st.ef,st.pr,(v,.cut u)::st.vw⟩
   | none=>.fail
  | false=>match getK q st.As with
   | some (.sl c T sb sc l)=>cutC st c sb sc l lo hi fun u=>K ⟨st.L,st.As,st.rd,st.ef,st.pr,(v,.cut u)::st.vw⟩
   | _=>.fail
 | _,_=>.fail
def ownS {R:Type}(st:Kn E)(v q:Nat)(K:Kn E->VC R):VC R :=
 match getK v st.vw,mP q st.As with
 | some (.cut u),some (.sl c T sb sc l,rest)=>.req (Atom.sl (E:=E) c T sb sc l) (.sl u.c T u.sb u.sc u.l) (K ⟨st.L,(q,.sl u.c T u.sb' u.sc' u.r)::rest,st.rd,st.ef,st.pr,st.vw⟩)
 | _,_=>.fail
def Cm {R:Type}(st:Kn E)(q m:Nat)(K:Kn E->VC R):VC R :=
 match getK q st.As with
 | some (.sl c T sb sc l)=>.bind (mJ l.length m) fun _=>K ⟨st.L,st.As,st.rd,st.ef,(79,l.length=m)::st.pr,st.vw⟩
 | _=>.fail
def rlpS {R:Type}(st:Kn E)(t q:Nat)(K:Kn E->VC R):VC R :=
 match getK q st.As,getK 78 st.pr,look t st.L with
 | some (.sl c T sb sc l),some p,some (.slice sb' n sc')=>.req p (l.length=n) (K ⟨(t,.slice sb' l.length sc')::st.L,st.As,st.rd,st.ef,st.pr,st.vw⟩)
 | _,_,_=>.fail
def rlqS {R:Type}(st:Kn E)(b off q:Nat)(K:Kn E->VC R):VC R :=
 match getK q st.As,getK 78 st.pr,mP b st.As with
 | some (.sl c T sb sc l),some p,some (.blk r T' cs,rest)=>match cs[off]? with
  | some (.slice sb' n sc')=>.req p (l.length=n) (K ⟨st.L,(b,.blk r T' (cs.set off (.slice sb' l.length sc')))::rest,st.rd,st.ef,st.pr,st.vw⟩)
  | _=>.fail
 | _,_,_=>.fail
def pixS {R:Type}(st:Kn E)(q off n c:Nat)(x:Operand)(e:Nat)(K:Kn E->VC R):VC R :=
 match getK q st.As,evO st.L x with
 | some (.blk b T cs),some (.int _ i)=>match bo (E.el c) n (cs.drop off) with
  | some xs=>.bind (mIdx xs i) fun y=>K ⟨st.L,st.As,st.rd,(e,⟨false,c,some ⟨b,off,none⟩,xs,i,y,b,off⟩)::st.ef,(e,0<=i/\i<((xs.length:Nat):Int))::st.pr,st.vw⟩
  | none=>.fail
 | _,_=>.fail
theorem cp {R:Type}{u:Nat}{w0 w:World}{F:List HP}{st:Kn E}{a:Act}{Φ:R->Prop}{q off n c:Nat}{x:Operand}{e:Nat}{K:Kn E->VC R}(j:KnOk u w0 F st a w)(h:(pixS st q off n c x e K).ok Φ):∃ l,KnOk u w0 F l a w/\(K l).ok Φ:=by
 unfold pixS at h;split at h
 ·rename_i b T cs k i h1 h2;split at h
  ·rename_i xs z;obtain⟨y,t,h3⟩:=h;refine⟨⟨st.L,st.As,st.rd,(e,⟨false,c,some ⟨b,off,none⟩,xs,i,y,b,off⟩)::st.ef,(e,0<=i/\i<((xs.length:Nat):Int))::st.pr,st.vw⟩,⟨j.env,j.hp,j.fs.1,?_,?_,j.fs.4⟩,h3⟩
   ·intro p hp;cases hp with
    | head=>exact⟨rfl,t,fun h=>by cases h⟩
    | tail _ hm=>exact j.fs.2 p hm
   ·intro p hp;cases hp with
    | head=>exact fQ t
    | tail _ hm=>exact j.fs.3 p hm
  ·exact (VC.zB h).elim
 ·exact (VC.zB h).elim
def elS {R:Type}(st:Kn E)(t e:Nat)(K:Kn E->VC R):VC R :=
 match getK e st.ef,look t st.L with
 | some f,some V=>.req V (.pointer (some ⟨f.b,f.o+f.i.toNat*(E.el f.c).sz,none⟩)) (K ⟨(t,elemV f.sb (E.el f.c).sz (some f.i))::st.L,st.As,st.rd,(99999,f)::st.ef,st.pr,st.vw⟩)
 | _,_=>.fail
def ghost {R:Type}(st:Kn E)(s:Stp E P)(K:Kn E->VC R):VC R :=
 match s with
 | .idx rdr q x e=>idxS st rdr q x e K
 | .gd k x j=>match evO st.L x with
  | some (.int _ v)=>match k with
   | 0=>.bind (mNz v) fun _=>K ⟨st.L,st.As,st.rd,st.ef,(j,v≠0)::st.pr,st.vw⟩
   | 1=>.bind (mNn v) fun _=>K ⟨st.L,st.As,st.rd,st.ef,(j,0<=v)::st.pr,st.vw⟩
   | m+2=>.bind (mIn v m) fun _=>K ⟨st.L,st.As,st.rd,st.ef,(j,0<=v/\v<((m:Nat):Int))::st.pr,st.vw⟩
  | _=>.fail
 | .idk rdr q x e=>idkS st rdr q x e K
 | .nil q c T=>K ⟨st.L,(q,.sl c T none 0 [])::st.As,st.rd,st.ef,st.pr,st.vw⟩
 | .rlc e q off=>rlcC st e q off K
 | .rls e t=>rlsC st e t K
 | .cut rdr q lo hi v=>cutS st rdr q lo hi v K
 | .own v q=>ownS st v q K
 | .el t e=>elS st t e K
 | .same q m=>Cm st q m K
 | .rlp t q=>rlpS st t q K
 | .rlq b off q=>rlqS st b off q K
 | .pix q off n c x e=>pixS st q off n c x e K
 | _=>.fail
def Ai (n:Nat):Option Tmp->Bool
 | none=>true
 | some d=>Nat.blt d n
def putE (d:Option Tmp)(v:Value)(L:Env):Env:=match d with
 | none=>L
 | some d=>(d,v)::L
def Cr {R:Type}(n:Nat)(ops:Array Oper)(i:Nat)(st:Kn E)(s:Stp E P)(K:Nat->Kn E->VC R):VC R :=
 match s with
 | .seg c l=>match Nat.ble (i+c) ops.size,srcs st l with
  | true,some (z,obs,eqs)=>match oX P n ops (List.range' i c) st.L z with
   | some (L',y)=>.req y obs (.req (eqs.map (·.1)) (eqs.map (·.2)) (K (i+c) ⟨L',st.As,st.rd,st.ef,st.pr,st.vw⟩))
   | none=>.fail
  | _,_=>.fail
 | .idx rdr q x e=>ghost (P:=P) st (.idx rdr q x e) fun u=>K i u
 | .gd k x j=>ghost (P:=P) st (.gd k x j) fun u=>K i u
 | .idk rdr q x e=>ghost (P:=P) st (.idk rdr q x e) fun u=>K i u
 | .nil q c T=>ghost (P:=P) st (.nil q c T) fun u=>K i u
 | .rlc e q off=>ghost (P:=P) st (.rlc e q off) fun u=>K i u
 | .rls e t=>ghost (P:=P) st (.rls e t) fun u=>K i u
 | .cut rdr q lo hi v=>ghost (P:=P) st (.cut rdr q lo hi v) fun u=>K i u
 | .own v q=>ghost (P:=P) st (.own v q) fun u=>K i u
 | .el t e=>ghost (P:=P) st (.el t e) fun u=>K i u
 | .same q m=>ghost (P:=P) st (.same q m) fun u=>K i u
 | .rlp t q=>ghost (P:=P) st (.rlp t q) fun u=>K i u
 | .rlq b off q=>ghost (P:=P) st (.rlq b off q) fun u=>K i u
 | .pix q off m c x e=>ghost (P:=P) st (.pix q off m c x e) fun u=>K i u
 | s=>match ops[i]? with
  | none=>.fail
  | some o=>match tw ops st.L o with
   | some true=>match Ai n o.dst with
    | true=>actO o st s fun v u=>K (i+1) ⟨putE o.dst v st.L,u.As,u.rd,u.ef,u.pr,u.vw⟩
    | false=>.fail
   | _=>.fail
theorem jL {R:Type}{n:Nat}{w0 w:World}{F:List HP}{st:Kn E}{a:Act}{Φ:R->Prop}{c:Nat}{sb:Option Addr}{l:List (E.el c).α}{rdr:Bool}{x:Operand}{e:Nat}{K:Kn E->VC R}{X:HP}(t:KnOk n w0 F st a w)
  (hX:SlRd X (E.el c).enc (E.el c).sz sb l) (hm:X∈dens st.As++F) (A:rdr=true->X∈F) (h:(idxC st c sb l rdr x e K).ok Φ):∃ u,KnOk n w0 F u a w/\(K u).ok Φ:=by
 unfold idxC at h;split at h
 ·rename_i k i B;obtain⟨y,z,h1⟩:=h;obtain⟨j,hj⟩:=t.hp.mem hm;obtain⟨b,o,hs,_⟩:=hX.base (E.el c).ok t.hp j hj z;refine⟨⟨st.L,st.As,st.rd,(e,⟨rdr,c,sb,l,i,y,b,o⟩)::st.ef,st.pr,st.vw⟩,⟨t.env,t.hp,t.fs.1,?_,t.fs.3,t.fs.4⟩,h1 b o⟩;intro p hp;cases hp with
  | head=>exact⟨hs,z,fun h=>⟨X,A h,hX⟩⟩
  | tail _ hm=>exact t.fs.2 p hm
 ·exact (VC.zB h).elim
theorem cc {R:Type}{n:Nat}{w0 w:World}{F:List HP}{st:Kn E}{a:Act}{Φ:R->Prop}{rdr:Bool}{q:Nat}{x:Operand}{e:Nat}{K:Kn E->VC R}(t:KnOk n w0 F st a w)
  (h:(idxS st rdr q x e K).ok Φ):∃ i,KnOk n w0 F i a w/\(K i).ok Φ:=by
 unfold idxS at h;split at h
 ·split at h
  ·rename_i r u;obtain⟨j,hj⟩:=wJ u;obtain⟨X,hX,h1,_⟩:=t.fs.1 _ hj;exact jL t h1 (List.mem_append_right _ hX) (fun _=>hX) h
  ·exact (VC.zB h).elim
 ·split at h
  ·rename_i c T sb sc l hq;exact jL t (yP T (E.el c).enc (E.el c).sz sb sc l) (mL F (tJ hq)) (fun h=>by cases h) h
  ·exact (VC.zB h).elim
theorem jK {R:Type}{n:Nat}{w0 w:World}{F:List HP}{st:Kn E}{a:Act}{Φ:R->Prop}{c:Nat}{sb:Option Addr}{l:List (E.el c).α}{rdr:Bool}{x:Operand}{e:Nat}{K:Kn E->VC R}{X:HP}(t:KnOk n w0 F st a w)
  (hX:SlRd X (E.el c).enc (E.el c).sz sb l) (hm:X∈dens st.As++F) (A:rdr=true->X∈F) (h:(idkC st c sb l rdr x e K).ok Φ):∃ u,KnOk n w0 F u a w/\(K u).ok Φ:=by
 unfold idkC at h;split at h
 ·rename_i k i B;split at h
  ·rename_i y z;obtain⟨j,hj⟩:=t.hp.mem hm;obtain⟨b,o,hs,_⟩:=hX.base (E.el c).ok t.hp j hj z;refine⟨⟨st.L,st.As,st.rd,(e,⟨rdr,c,sb,l,i,y,b,o⟩)::st.ef,st.pr,st.vw⟩,⟨t.env,t.hp,t.fs.1,?_,t.fs.3,t.fs.4⟩,h b o⟩;intro p hp;cases hp with
   | head=>exact⟨hs,z,fun h=>⟨X,A h,hX⟩⟩
   | tail _ hm=>exact t.fs.2 p hm
  ·exact (VC.zB h).elim
 ·exact (VC.zB h).elim
theorem dZ {R:Type}{n:Nat}{w0 w:World}{F:List HP}{st:Kn E}{a:Act}{Φ:R->Prop}{rdr:Bool}{q:Nat}{x:Operand}{e:Nat}{K:Kn E->VC R}(t:KnOk n w0 F st a w)
  (h:(idkS st rdr q x e K).ok Φ):∃ i,KnOk n w0 F i a w/\(K i).ok Φ:=by
 unfold idkS at h;split at h
 ·split at h
  ·rename_i r u;obtain⟨j,hj⟩:=wJ u;obtain⟨X,hX,h1,_⟩:=t.fs.1 _ hj;exact jK t h1 (List.mem_append_right _ hX) (fun _=>hX) h
  ·exact (VC.zB h).elim
 ·split at h
  ·rename_i c T sb sc l hq;exact jK t (yP T (E.el c).enc (E.el c).sz sb sc l) (mL F (tJ hq)) (fun h=>by cases h) h
  ·exact (VC.zB h).elim
theorem cr {R:Type}{n:Nat}{w0 w:World}{F:List HP}{st:Kn E}{a:Act}{Φ:R->Prop}{e q off:Nat}{K:Kn E->VC R}(i:KnOk n w0 F st a w)(h:(rlcC st e q off K).ok Φ):∃ l,KnOk n w0 F l a w/\(K l).ok Φ:=by
 obtain⟨m,h⟩:=gR h;split at h
 ·rename_i b T cs rest hq;split at h
  ·rename_i sb x sc u;obtain⟨rfl,h2⟩:=h;have t:cs.set off (.slice sb x sc)=cs:=by
    apply List.ext_getElem?;intro j;rw[List.getElem?_set];split
    ·subst_vars
     split
     ·exact u.symm
     ·rename_i h3;simp only[List.getElem?_eq_none (Nat.le_of_not_lt h3)]
    ·rfl
   rw[t] at h2;refine⟨⟨st.L,(q,.blk b T cs)::rest,st.rd,st.ef,st.pr,st.vw⟩,⟨i.env,?_,i.fs.1,i.fs.2,i.fs.3,i.fs.4⟩,h2⟩;exact i.hp.perm ((tz hq).append_right F)
  ·exact (VC.zB h).elim
 ·exact (VC.zB h).elim
theorem cx {R:Type}{n:Nat}{w0 w:World}{F:List HP}{st:Kn E}{a:Act}{Φ:R->Prop}{e t:Nat}{K:Kn E->VC R}(i:KnOk n w0 F st a w)(h:(rlsC st e t K).ok Φ):∃ j,KnOk n w0 F j a w/\(K j).ok Φ:=by
 obtain⟨m,h⟩:=gR h;split at h
 ·rename_i sb x sc l;obtain⟨rfl,h2⟩:=h;refine⟨⟨(t,.slice sb x sc)::st.L,st.As,st.rd,st.ef,st.pr,st.vw⟩,⟨⟨i.env.size,i.env.defers,fun u v hv=>?_⟩,i.hp,i.fs.1,i.fs.2,i.fs.3,i.fs.4⟩,h2⟩;rw[vH] at hv;split at hv
  ·subst_vars;cases hv;exact i.env.has _ _ l
  ·exact i.env.has _ _ hv
 ·exact (VC.zB h).elim
theorem jB {R:Type}{st:Kn E}{c:Nat}{sb:Option Addr}{sc:Nat}{l:List (E.el c).α}{lo hi:Option Int}{K:VwV E->VC R}{Φ:R->Prop}(e:l.length<=sc)(h:(cutC st c sb sc l lo hi K).ok Φ) :
  ∃ u:VwV E,u.holds/\(∀ X,SlRd X (E.el c).enc (E.el c).sz sb l->SlRd X (E.el u.c).enc (E.el u.c).sz u.sb' u.r)/\u.r.length<=u.sc'/\(K u).ok Φ:=by
 obtain⟨r,i,h⟩:=h;have h2:=h (yv sb sc (loI lo).toNat (E.el c).sz) (sc - (loI lo).toNat);exact⟨_,⟨i,rfl,rfl,e⟩,fun X hX=>hX.cut' (E.el c).ok i e rfl,nF i e rfl,h2⟩
theorem dU {R:Type}{n:Nat}{w0 w:World}{F:List HP}{st:Kn E}{a:Act}{Φ:R->Prop}{rdr:Bool}{q:Nat}{lo hi:Option Operand}{v:Nat}{K:Kn E->VC R}(e:KnOk n w0 F st a w)(h:(cutS st rdr q lo hi v K).ok Φ):∃ i,KnOk n w0 F i a w/\(K i).ok Φ:=by
 unfold cutS at h;split at h
 ·rename_i D A _ _;split at h
  ·split at h
   ·rename_i r B;obtain⟨j,hj⟩:=wJ B;obtain⟨X,hX,h1,h2⟩:=e.fs.1 _ hj;obtain⟨s1,s2,hs⟩:=List.append_of_mem (List.mem_append_right (dens st.As) hX);have x:r.l.length<=r.sc:=by
     have y:=e.hp;rw[hs] at y;exact St.fact (y.perm List.perm_middle) h2
    obtain⟨u,h3,h4,z,t⟩:=jB x h;refine⟨⟨st.L,st.As,(v,⟨u.c,u.sb',u.sc',u.r⟩)::st.rd,st.ef,st.pr,(v,.cut u)::st.vw⟩,⟨e.env,e.hp,?_,e.fs.2,e.fs.3,?_⟩,t⟩
    ·intro p hp;cases hp with
     | head=>exact⟨X,hX,h4 X h1,fun _ _=>z⟩
     | tail _ hm=>exact e.fs.1 p hm
    ·intro p hp;cases hp with
     | head=>exact h3
     | tail _ hm=>exact e.fs.4 p hm
   ·exact (VC.zB h).elim
  ·split at h
   ·rename_i c T sb sc l hq;obtain⟨j,hj⟩:=e.hp.mem (mL F (tJ hq));have x:l.length<=sc:=(e.hp.pF j hj).1;obtain⟨u,h3,h4,z,t⟩:=jB x h;refine⟨⟨st.L,st.As,st.rd,st.ef,st.pr,(v,.cut u)::st.vw⟩,⟨e.env,e.hp,e.fs.1,e.fs.2,e.fs.3,?_⟩,t⟩;intro p hp;cases hp with
    | head=>exact h3
    | tail _ hm=>exact e.fs.4 p hm
   ·exact (VC.zB h).elim
 ·exact (VC.zB h).elim
theorem ck {R:Type}{n:Nat}{w0 w:World}{F:List HP}{st:Kn E}{a:Act}{Φ:R->Prop}{v q:Nat}{K:Kn E->VC R}(i:KnOk n w0 F st a w)(h:(ownS st v q K).ok Φ):∃ t,KnOk n w0 F t a w/\(K t).ok Φ:=by
 unfold ownS at h;split at h
 ·rename_i u c T sb sc l rest h1 h2;obtain⟨e,h3⟩:=h;obtain⟨j,hj⟩:=wJ h1;obtain⟨g1,g2,g3,g4⟩:u.holds:=i.fs.4 _ hj;have H:=i.hp.perm ((tz h2).append_right F);rw[e] at H;have H:St w0 (Sl T (E.el u.c).enc (E.el u.c).sz u.sb u.sc u.l::(dens rest++F)) w:=H;exact⟨⟨st.L,(q,.sl u.c T u.sb' u.sc' u.r)::rest,st.rd,st.ef,st.pr,st.vw⟩,⟨i.env,H.aG (E.el u.c).ok g1 g2 g3,i.fs.1,i.fs.2,i.fs.3,i.fs.4⟩,h3⟩
 ·exact (VC.zB h).elim
theorem bA {R:Type}{n:Nat}{w0 w:World}{F:List HP}{st:Kn E}{a:Act}{Φ:R->Prop}{t e:Nat}{K:Kn E->VC R}(l:KnOk n w0 F st a w)(h:(elS st t e K).ok Φ):∃ x,KnOk n w0 F x a w/\(K x).ok Φ:=by
 unfold elS at h;split at h
 ·rename_i f V h1 h2;obtain⟨rfl,h3⟩:=h;obtain⟨j,hj⟩:=wJ h1;have hf:=l.fs.2 _ hj;refine⟨⟨(t,elemV f.sb (E.el f.c).sz (some f.i))::st.L,st.As,st.rd,(99999,f)::st.ef,st.pr,st.vw⟩,⟨⟨l.env.size,l.env.defers,fun u v hv=>?_⟩,l.hp,l.fs.1,?_,l.fs.3,l.fs.4⟩,h3⟩
  ·rw[vH] at hv;split at hv
   ·subst_vars
    cases hv;rw[jC hf.1];exact l.env.has _ _ h2
   ·exact l.env.has _ _ hv
  ·intro p hp;cases hp with
   | head=>exact hf
   | tail _ hm=>exact l.fs.2 p hm
 ·exact (VC.zB h).elim
theorem ed {R:Type}{n:Nat}{w0 w:World}{F:List HP}{st:Kn E}{a:Act}{Φ:R->Prop}{q m:Nat}{K:Kn E->VC R}(e:KnOk n w0 F st a w)(h:(Cm st q m K).ok Φ):∃ i,KnOk n w0 F i a w/\(K i).ok Φ:=by
 unfold Cm at h;split at h
 ·rename_i c T sb sc l hq;obtain⟨u,hu,h2⟩:=h;refine⟨⟨st.L,st.As,st.rd,st.ef,(79,l.length=m)::st.pr,st.vw⟩,⟨e.env,e.hp,e.fs.1,e.fs.2,fun p hp=>?_,e.fs.4⟩,h2⟩;cases hp with
  | head=>exact ay hu
  | tail _ hm=>exact e.fs.3 p hm
 ·exact (VC.zB h).elim
theorem cu {R:Type}{n:Nat}{w0 w:World}{F:List HP}{st:Kn E}{a:Act}{Φ:R->Prop}{t q:Nat}{K:Kn E->VC R}(i:KnOk n w0 F st a w)(h:(rlpS st t q K).ok Φ):∃ x,KnOk n w0 F x a w/\(K x).ok Φ:=by
 unfold rlpS at h;split at h
 ·rename_i c T sb sc l p sb' m sc' h1 h2 h3;obtain⟨e,h4⟩:=h;obtain⟨j,hj⟩:=wJ h2;have hp:p:=i.fs.3 _ hj;rw[e] at hp;refine⟨⟨(t,.slice sb' l.length sc')::st.L,st.As,st.rd,st.ef,st.pr,st.vw⟩,⟨⟨i.env.size,i.env.defers,fun u v hv=>?_⟩,i.hp,i.fs.1,i.fs.2,i.fs.3,i.fs.4⟩,h4⟩;rw[vH] at hv;split at hv
  ·subst_vars;cases hv;exact i.env.has _ _ h3
  ·exact i.env.has _ _ hv
 ·exact (VC.zB h).elim
theorem cw {R:Type}{n:Nat}{w0 w:World}{F:List HP}{st:Kn E}{a:Act}{Φ:R->Prop}{b off q:Nat}{K:Kn E->VC R}(t:KnOk n w0 F st a w)(h:(rlqS st b off q K).ok Φ):∃ u,KnOk n w0 F u a w/\(K u).ok Φ:=by
 unfold rlqS at h;split at h
 ·rename_i c T sb sc l p r T' cs rest h1 h2 h3;split at h
  ·rename_i sb' m sc' z;obtain⟨e,h4⟩:=h;obtain⟨j,hj⟩:=wJ h2;have hp:p:=t.fs.3 _ hj;rw[e] at hp;have x:cs.set off (.slice sb' l.length sc')=cs:=by
    apply List.ext_getElem?;intro i;rw[List.getElem?_set];split
    ·subst_vars
     split
     ·exact z.symm
     ·rename_i y;rw[List.getElem?_eq_none (Nat.le_of_not_lt y)]
    ·rfl
   rw[x] at h4;exact⟨⟨st.L,(b,.blk r T' cs)::rest,st.rd,st.ef,st.pr,st.vw⟩,⟨t.env,t.hp.perm ((tz h3).append_right F),t.fs.1,t.fs.2,t.fs.3,t.fs.4⟩,h4⟩
  ·exact (VC.zB h).elim
 ·exact (VC.zB h).elim
theorem xI {R:Type}{n:Nat}{w0 w:World}{F:List HP}{st:Kn E}{a:Act}{Φ:R->Prop}{s:Stp E P}{K:Kn E->VC R}(i:KnOk n w0 F st a w)
  (h:(ghost st s K).ok Φ):∃ l,KnOk n w0 F l a w/\(K l).ok Φ:=by
 cases s
 case idx rdr q x e=>exact cc i h
 case idk rdr q x e=>exact dZ i h
 case rlc e q off=>exact cr i h
 case rls e t=>exact cx i h
 case cut rdr q lo hi v=>exact dU i h
 case own v q=>exact ck i h
 case el t e=>exact bA i h
 case same q m=>exact ed i h
 case rlp t q=>exact cu i h
 case rlq b off q=>exact cw i h
 case pix q off m c x e=>exact cp i h
 case nil q c T=>exact⟨⟨st.L,(q,.sl c T none 0 [])::st.As,st.rd,st.ef,st.pr,st.vw⟩,⟨i.env,St.oh T (E.el c).enc (E.el c).sz i.hp,i.fs.1,i.fs.2,i.fs.3,i.fs.4⟩,h⟩
 case gd k x j =>
  simp only[ghost] at h;split at h
  ·rename_i y v hv;split at h
   ·obtain⟨u,hu,h2⟩:=h;refine⟨⟨st.L,st.As,st.rd,st.ef,(j,v≠0)::st.pr,st.vw⟩,⟨i.env,i.hp,i.fs.1,i.fs.2,fun p hp=>?_,i.fs.4⟩,h2⟩;cases hp with
    | head=>exact Ce hu
    | tail _ hm=>exact i.fs.3 p hm
   ·obtain⟨u,hu,h2⟩:=h;refine⟨⟨st.L,st.As,st.rd,st.ef,(j,0<=v)::st.pr,st.vw⟩,⟨i.env,i.hp,i.fs.1,i.fs.2,fun p hp=>?_,i.fs.4⟩,h2⟩;cases hp with
    | head=>exact Cc hu
    | tail _ hm=>exact i.fs.3 p hm
   ·rename_i m;obtain⟨u,hu,h2⟩:=h;refine⟨⟨st.L,st.As,st.rd,st.ef,(j,0<=v/\v<((m:Nat):Int))::st.pr,st.vw⟩,⟨i.env,i.hp,i.fs.1,i.fs.2,fun p hp=>?_,i.fs.4⟩,h2⟩;cases hp with
    | head=>exact iy hu
    | tail _ hm=>exact i.fs.3 p hm
  ·exact (VC.zB h).elim
 all_goals exact (VC.zB h).elim
theorem eD {R:Type}{f:FuncId}{n:Nat}{w0 w:World}{F:List HP}{st:Kn E}{a:Act}{Φ:R->Prop}{ops:Array Oper}{i:Nat}{s:Stp E P}{K:Nat->Kn E->VC R}{k:List Item}{Q:Value->World->Prop}
  (y:KnOk n w0 F st a w) (h:(Cr n ops i st s K).ok Φ) (hk:∀ S u a' w',KnOk n w0 F u a' w'->(K S u).ok Φ -> WR P f ops S k a' w' Q):WR P f ops i k a w Q:=by
 have act:∀ s:Stp E P,((match ops[i]? with
  | none=>.fail
  | some o=>match tw ops st.L o with
   | some true=>match Ai n o.dst with
    | true=>actO o st s fun v u=>K (i+1) ⟨putE o.dst v st.L,u.As,u.rd,u.ef,u.pr,u.vw⟩
    | false=>.fail
   | _=>.fail:VC R)).ok Φ -> WR P f ops i k a w Q:=by
  intro s h;split at h
  ·exact (VC.zB h).elim
  ·rename_i o O;split at h
   ·rename_i hw;split at h
    ·rename_i hn;have J:=jv y h;cases hd:o.dst with
     | none =>
      refine WR.eff0 y.env O hd hw J ?_;rintro v w' ⟨u,Y,B,h2⟩ a' A;rw[hd] at h2;exact hk _ _ _ _ (B.kn A) h2
     | some d =>
      rw[hd] at hn;refine WR.eff y.env O hd hn hw J ?_;rintro v w' ⟨u,Y,B,h2⟩ a' A;rw[hd] at h2;exact hk _ _ _ _ (B.kn A) h2
    ·exact (VC.zB h).elim
   ·exact (VC.zB h).elim
 cases s with
 | seg c l =>
  simp only[Cr] at h;split at h
  ·rename_i a0 obs eqs h1 h2;split at h
   ·rename_i L' U h3;obtain⟨rfl,h4,X⟩:=h;have hj:=Nat.le_of_ble_eq_true h1;unfold WR;have Z:List.range' i (ops.size - i)=List.range' i c++List.range' (i+c) (ops.size - (i+c)):=by
     have W:ops.size - i=c+(ops.size - (i+c)):=by omega
     rw[W,<- List.range'_append_1]
    rw[Z];refine lT _ _ _ _ _ _ y.env h3 (rB y h2 (jE h4)) fun a' I=>?_
    exact hk _ ⟨L',st.As,st.rd,st.ef,st.pr,st.vw⟩ _ _ ⟨I,y.hp,y.fs.1,y.fs.2,y.fs.3,y.fs.4⟩ X
   ·exact (VC.zB h).elim
  ·exact (VC.zB h).elim
 | idx rdr q x e =>
  obtain⟨u,h1,h2⟩:=xI (P:=P) (s:=.idx rdr q x e) (K:=fun u=>K i u) y h;exact hk _ _ _ _ h1 h2
 | idk rdr q x e =>
  obtain⟨u,h1,h2⟩:=xI (P:=P) (s:=.idk rdr q x e) (K:=fun u=>K i u) y h;exact hk _ _ _ _ h1 h2
 | nil q c T =>
  obtain⟨u,h1,h2⟩:=xI (P:=P) (s:=.nil q c T) (K:=fun u=>K i u) y h;exact hk _ _ _ _ h1 h2
 | rlc e q off =>
  obtain⟨u,h1,h2⟩:=xI (P:=P) (s:=.rlc e q off) (K:=fun u=>K i u) y h;exact hk _ _ _ _ h1 h2
 | rls e t =>
  obtain⟨u,h1,h2⟩:=xI (P:=P) (s:=.rls e t) (K:=fun u=>K i u) y h;exact hk _ _ _ _ h1 h2
 | cut rdr q lo hi v =>
  obtain⟨u,h1,h2⟩:=xI (P:=P) (s:=.cut rdr q lo hi v) (K:=fun u=>K i u) y h;exact hk _ _ _ _ h1 h2
 | own v q =>
  obtain⟨u,h1,h2⟩:=xI (P:=P) (s:=.own v q) (K:=fun u=>K i u) y h;exact hk _ _ _ _ h1 h2
 | el t e =>
  obtain⟨u,h1,h2⟩:=xI (P:=P) (s:=.el t e) (K:=fun u=>K i u) y h;exact hk _ _ _ _ h1 h2
 | same q m =>
  obtain⟨u,h1,h2⟩:=xI (P:=P) (s:=.same q m) (K:=fun u=>K i u) y h;exact hk _ _ _ _ h1 h2
 | rlp t q =>
  obtain⟨u,h1,h2⟩:=xI (P:=P) (s:=.rlp t q) (K:=fun u=>K i u) y h;exact hk _ _ _ _ h1 h2
 | rlq b off q =>
  obtain⟨u,h1,h2⟩:=xI (P:=P) (s:=.rlq b off q) (K:=fun u=>K i u) y h;exact hk _ _ _ _ h1 h2
 | pix q off m c x e =>
  obtain⟨u,h1,h2⟩:=xI (P:=P) (s:=.pix q off m c x e) (K:=fun u=>K i u) y h;exact hk _ _ _ _ h1 h2
 | gd c x j =>
  obtain⟨u,h1,h2⟩:=xI (P:=P) (s:=.gd c x j) (K:=fun u=>K i u) y h;exact hk _ _ _ _ h1 h2
 | new q l=>exact act _ h
 | sto q=>exact act _ h
 | call C l out=>exact act _ h
 | bld q c T=>exact act _ h
 | app q s=>exact act _ h
 | sset q e j=>exact act _ h
 | mk q c T=>exact act _ h
 | eqs D=>exact act _ h
 | mnew q c=>exact act _ h
 | mget q c kt hk z=>exact act _ h
 | mput q c kt hk=>exact act _ h
 | mdel q c kt hk=>exact act _ h
inductive Md
 | run (t:List Item)
 | reg (ops:Array Oper) (i:Nat) (k:List Item)
 | drw (ops:Array Oper) (dn:List Nat) (pend:List (Nat × List Ob)) (k:List Item)
def Md.Runs (P:Program)(f:FuncId)(base:List Item)(a:Act)(w:World)(Q:Value->World->Prop):Md->Prop
 | .run t=>Th.Runs P f (t++base) a w Q
 | .reg ops i k=>WR P f ops i (k++base) a w Q
 | .drw ops dn pend k=>WQ P f ops dn pend (k++base) a w Q
def norm:Nat->List Item->Option Md
 | 0,_=>none
 | g+1,t=>match t with
  | .code (.seq x y)::k=>norm g (.code x :: .code y::k)
  | .code .skip::k=>norm g k
  | .code (.label _)::k=>norm g k
  | .code (.exit id)::k=>match exitTo id k with
   | some e=>norm g e
   | none=>none
  | .code (.region _ ops false)::k=>match Nat.beq ops.size 0 with
   | true=>norm g k
   | false=>some (.reg ops 0 k)
  | .inBlock _::k=>norm g k
  | t=>some (.run t)
theorem mD {base:List Item}:∀ {id:Nat}{k e:List Item},exitTo id k=some e->exitTo id (k++base)=some (e++base)
 | id,[],e,h=>by simp[exitTo] at h
 | id,x::k,e,h=>by
  cases x
  case inBlock j =>
   simp only[exitTo,List.cons_append] at h ⊢;split at h
   ·rename_i hj;cases h;rw[if_pos hj]
   ·rename_i hj;rw[if_neg hj];exact mD h
  all_goals
   simp only[exitTo,List.cons_append] at h ⊢;exact mD h
theorem yW {f:FuncId}{a:Act}{w:World}{Q:Value->World->Prop}{base:List Item}:∀ (g:Nat) {t:List Item}{md:Md},norm g t=some md->md.Runs P f base a w Q->Th.Runs P f (t++base) a w Q
 | 0,t,md,h,_=>by simp[norm] at h
 | g+1,t,md,h,i=>by
  unfold norm at h;split at h
  ·exact .seq (yW g h i)
  ·exact .skip (yW g h i)
  ·exact .label (yW g h i)
  ·split at h
   ·rename_i j hk;exact .exit (mD hk) (yW g h i)
   ·cases h
  ·split at h
   ·rename_i h0;have e:=Nat.eq_of_beq_eq_true h0;exact .region (WR.done (by rw[e];rfl) (yW g h i))
   ·cases h;exact .region i
  ·exact .inBlock (yW g h i)
  ·cases h;exact i
def Cq {R:Type}(n:Nat)(ops:Array Oper)(dn:List Nat)(pend:List (Nat × List Ob))(st:Kn E)(is:List Nat)(l:List Src)(K:List Nat->List (Nat × List Ob)->Kn E->VC R):VC R :=
 match (Nat.ble (dn.length+is.length) ops.size && iX ops is (uI dn)),srcs st l with
 | true,some (i,obs,eqs)=>match oX P n ops is st.L i with
  | some (L',e)=>.req e obs (.req (eqs.map (·.1)) (eqs.map (·.2)) (K (dn++is) (segP P n ops is st.L i pend) ⟨L',st.As,st.rd,st.ef,st.pr,st.vw⟩))
  | none=>.fail
 | _,_=>.fail
def gX {R:Type}(n:Nat)(ops:Array Oper)(dn:List Nat)(pend:List (Nat × List Ob))(st:Kn E)(j:Nat)(x:Stp E P)(l:List Src)(K:List Nat->List (Nat × List Ob)->Kn E->VC R):VC R :=
 match ops[j]? with
 | some o=>match tw ops st.L o,Ai n o.dst with
  | some true,true=>actO o st x fun v e=>match srcs ⟨putE o.dst v st.L,e.As,e.rd,e.ef,e.pr,e.vw⟩ l with
   | some (_,obs,eqs)=>.req (rQ ops j pend) obs (.req (eqs.map (·.1)) (eqs.map (·.2)) (K (dn++[j]) (oZ ops j pend) ⟨putE o.dst v st.L,e.As,e.rd,e.ef,e.pr,e.vw⟩))
   | none=>.fail
  | _,_=>.fail
 | none=>.fail
def Cp {R:Type}(n:Nat)(ops:Array Oper)(dn:List Nat)(pend:List (Nat × List Ob))(st:Kn E)(j:Nat)(x:Stp E P)(l:List Src)(K:List Nat->List (Nat × List Ob)->Kn E->VC R):VC R :=
 match (Nat.blt dn.length ops.size && eqL (uv (uI dn) 0 ops.toList) [j]) with
 | true=>gX n ops dn pend st j x l K
 | false=>.fail
theorem eB {R:Type}{f:FuncId}{n:Nat}{w0 w:World}{F:List HP}{st:Kn E}{a:Act}{Φ:R->Prop}{ops:Array Oper}{dn:List Nat}{pend:List (Nat × List Ob)}{is:List Nat}{l:List Src}{K:List Nat->List (Nat × List Ob)->Kn E->VC R}{k:List Item}{Q:Value->World->Prop}
  (j:KnOk n w0 F st a w) (h:(Cq (P:=P) n ops dn pend st is l K).ok Φ) (hk:∀ t i u a',KnOk n w0 F u a' w->(K t i u).ok Φ -> WQ P f ops t i k a' w Q):WQ P f ops dn pend k a w Q:=by
 unfold Cq at h;split at h
 ·rename_i B obs eqs h1 h2;split at h
  ·rename_i L' z h3;obtain⟨rfl,h4,A⟩:=h;rw[Bool.and_eq_true] at h1;have hle:=Nat.le_of_ble_eq_true h1.1;have e:ops.size - dn.length=is.length+(ops.size - (dn++is).length):=by simp;omega
   intro hs';show WP P f ops (ops.size - dn.length) dn pend k a w Q;rw[e];exact WP.segs hs' _ _ _ _ _ _ _ _ _ _ j.env (fun x=>ur x dn) h1.2 h3 (rB j h2 (jE h4)) fun a' y=>hk _ _ ⟨L',st.As,st.rd,st.ef,st.pr,st.vw⟩ _ ⟨y,j.hp,j.fs.1,j.fs.2,j.fs.3,j.fs.4⟩ A hs'
  ·exact (VC.zB h).elim
 ·exact (VC.zB h).elim
theorem sw {R:Type}{f:FuncId}{n:Nat}{w0 w:World}{F:List HP}{st:Kn E}{a:Act}{Φ:R->Prop}{ops:Array Oper}{dn:List Nat}{pend:List (Nat × List Ob)}{j:Nat}{x:Stp E P}{l:List Src}{K:List Nat->List (Nat × List Ob)->Kn E->VC R}{k:List Item}{Q:Value->World->Prop}
  (z:KnOk n w0 F st a w) (h:(gX n ops dn pend st j x l K).ok Φ) (hk:∀ u i e a' w',KnOk n w0 F e a' w'->(K u i e).ok Φ -> WQ P f ops u i k a' w' Q):AQ P f ops dn pend k a w Q j:=by
 unfold gX at h;split at h
 ·rename_i o D;split at h
  ·rename_i hw hn;have B:=jv z h;have fin:∀ (v:Value) (w':World) (e:Kn E) (a':Act),HpOk w0 F e w'->zN n a' (putE o.dst v st.L)->((match srcs ⟨putE o.dst v st.L,e.As,e.rd,e.ef,e.pr,e.vw⟩ l with
     | some (_,obs,eqs)=>.req (rQ ops j pend) obs (.req (eqs.map (·.1)) (eqs.map (·.2)) (K (dn++[j]) (oZ ops j pend) ⟨putE o.dst v st.L,e.As,e.rd,e.ef,e.pr,e.vw⟩))
     | none=>.fail:VC R)).ok Φ -> wm w' (rQ ops j pend)/\WQ P f ops (dn++[j]) (oZ ops j pend) k a' w' Q:=by
    intro v w' e a' t y h2;split at h2
    ·rename_i S obs eqs h3;obtain⟨h4,I,J⟩:=h2;have A:=t.kn y;rw[h4];exact⟨rB A h3 (jE I),hk _ _ _ _ _ A J⟩
    ·exact (VC.zB h2).elim
   cases hd:o.dst with
   | none =>
    refine AQ.eff0 z.env D hd hw rfl B ?_;rintro v w' ⟨e,O,t,h2⟩;rw[hd] at fin;rw[hd] at h2;exact⟨(fin v w' e a t z.env h2).1,fun a' y=>(fin v w' e a' t y h2).2⟩
   | some d =>
    rw[hd] at hn;refine AQ.eff z.env D hd hn hw rfl B ?_;rintro v w' ⟨e,O,t,h2⟩;rw[hd] at fin;rw[hd] at h2;exact⟨(fin v w' e (a.put (some d) v) t (z.env.put _ _ (by simpa[Ai,Nat.blt_eq] using hn)) h2).1,fun a' y=>(fin v w' e a' t y h2).2⟩
  ·exact (VC.zB h).elim
 ·exact (VC.zB h).elim
theorem eA {R:Type}{f:FuncId}{n:Nat}{w0 w:World}{F:List HP}{st:Kn E}{a:Act}{Φ:R->Prop}{ops:Array Oper}{dn:List Nat}{pend:List (Nat × List Ob)}{j:Nat}{x:Stp E P}{l:List Src}{K:List Nat->List (Nat × List Ob)->Kn E->VC R}{k:List Item}{Q:Value->World->Prop}
  (y:KnOk n w0 F st a w) (h:(Cp n ops dn pend st j x l K).ok Φ) (hk:∀ i e t a' w',KnOk n w0 F t a' w'->(K i e t).ok Φ -> WQ P f ops i e k a' w' Q):WQ P f ops dn pend k a w Q:=by
 unfold Cp at h;split at h
 ·rename_i h1;refine WQ.acts [j] h1 (by simp) fun x u=>?_
  simp only[List.mem_singleton] at u;subst u;exact sw y h hk
 ·exact (VC.zB h).elim
end
end
noncomputable section
theorem St.B1 {w0 w:World}{As:List HP}:∀ {Bs:List HP},St w0 (Bs++As) w->St w0 As w
 | [],H=>H
 | B::Bs,H=>St.B1 (Bs:=Bs) (St.drop (by simpa using H))
section
variable {E:Ev} {P:Program}
def iv {α:Type}:List Nat->List (Nat × α)->Option (List α)
 | [],_=>some []
 | k::ks,L=>match getK k L,iv ks L with
  | some x,some r=>some (x::r)
  | _,_=>none
def kys {α:Type}:List (Nat × α)->List Nat
 | []=>[]
 | (k,_)::r=>k::kys r
def reqS {R:Type}(L:Env)(As:List (Nat × Atom E))(st:Kn E)(K:VC R):VC R :=
 match sel (Ao L) st.L,gD (kys As) st.As with
 | some L',some (ats,_)=>.req L' L (.req ats (As.map (·.2)) K)
 | _,_=>.fail
theorem sm {R:Type}{n:Nat}{w0 w:World}{F:List HP}{st:Kn E}{a:Act}{Φ:R->Prop}{L:Env}{As:List (Nat × Atom E)}{K:VC R}(e:KnOk n w0 F st a w)(h:(reqS L As st K).ok Φ) :
  zN n a L/\St w0 (dens As++F) w/\K.ok Φ:=by
 unfold reqS at h;split at h
 ·rename_i L' ats rest h1 h2;obtain⟨rfl,rfl,h3⟩:=h;refine⟨qK e.env h1,?_,h3⟩;have H:=e.hp.perm ((mr h2).append_right F);rw[aA] at H;have i:=H.perm (show ((As.map (·.2)).map Atom.den++(dens rest++F)).Perm (dens rest++((As.map (·.2)).map Atom.den++F)) by
   rw[<- aA,<- aA];exact List.Perm.append_right F List.perm_append_comm)
  exact i.B1
 ·exact (VC.zB h).elim
structure BCon (E:Ev) (R0:Type):Type 1 where
 code:Code
 X:Type
 V:Type
 T:Type
 W:Type
 cls:W->R0 ⊕ T
 g:X->V->Option W
 rds:X->List (Nat × RdV E)
 pL:X->V->List Nat->List (Option Addr)->Env
 pA:X->V->List Nat->List (Option Addr)->List (Nat × Atom E)
 mN:Nat
 mA:Nat
 qL:X->T->List Nat->List (Option Addr)->Env
 qA:X->T->List Nat->List (Option Addr)->List (Nat × Atom E)
def BCon.Sound {R0:Type}(B:BCon E R0)(P:Program)(f:FuncId)(n:Nat)(retF:Kn E->VC R0):Prop:=∀ (Q:Value->World->Prop) (w0:World) (F:List HP) (x:B.X) (v:B.V) (t:B.W) (y:List Nat) (l:List (Option Addr)) (a:Act) (w:World) (base:List Item),B.g x v=some t ->
 KnOk n w0 F ⟨B.pL x v y l,B.pA x v y l,B.rds x,[],[],[]⟩ a w ->
 (∀ u,B.cls t = .inr u -> ∀ i e a' w',i.length=B.mN->e.length=B.mA->zN n a' (B.qL x u i e)->St w0 (dens (B.qA x u i e)++F) w'->Runs P f base a' w' Q) ->
 (∀ r,B.cls t = .inl r -> ∀ j a' w' z,KnOk n w0 F j a' w'->(retF j).ok (· = r)->Runs P f (.code .ret::z) a' w' Q) ->
 Runs P f (.code B.code::base) a w Q
structure Eb (E:Ev) (P:Program) (f:FuncId) (n:Nat) (R0:Type) (retF:Kn E->VC R0):Type 1 where
 B:BCon E R0
 snd:B.Sound P f n retF
inductive Ct (E:Ev) (P:Program) (f:FuncId) (n:Nat) (R0:Type) (retF:Kn E->VC R0):Type 1
 | leaf
 | s (x:Stp E P) (k:Ct E P f n R0 retF)
 | drw (k:Ct E P f n R0 retF)
 | rk (l:List (Nat × Nat)) (k:Ct E P f n R0 retF)
 | q (is:List Nat) (l:List Src) (k:Ct E P f n R0 retF)
 | a (j:Nat) (x:Stp E P) (l:List Src) (k:Ct E P f n R0 retF)
 | cond (x y:Ct E P f n R0 retF)
 | rF (x:Ct E P f n R0 retF)
 | tD (x:Ct E P f n R0 retF)
 | split (t:Nat) (x y:Ct E P f n R0 retF)
 | join (T:Type) (nN nA:Nat) (get:Kn E->Option (T × List Nat × List (Option Addr))) (J:Kn E->T->List Nat->List (Option Addr)->Env × List (Nat × Atom E)) (x k:Ct E P f n R0 retF)
 | joinR (T:Type) (nN nA:Nat) (get:Kn E->Option (T × List Nat × List (Option Addr))) (J:Kn E->T->List Nat->List (Option Addr)->Env × List (Nat × Atom E)) (x k:Ct E P f n R0 retF)
 | loop (B:Eb E P f n R0 retF) (get:Kn E->Option (B.B.X × B.B.V × List Nat × List (Option Addr))) (k:Ct E P f n R0 retF)
 | blk (k:Ct E P f n R0 retF)
 | unr (k:Ct E P f n R0 retF)
 | alt2 (i:Nat) (x:Stp E P) (l:List Src) (c:Ct E P f n R0 retF) (j:Nat) (y:Stp E P) (l':List Src) (c':Ct E P f n R0 retF)
 | alt3 (i:Nat) (x:Stp E P) (l:List Src) (c:Ct E P f n R0 retF) (j:Nat) (y:Stp E P) (l':List Src) (c':Ct E P f n R0 retF) (m:Nat) (z:Stp E P) (l'':List Src) (c'':Ct E P f n R0 retF)
 | jg (T:Type) (nN nA:Nat) (get:Kn E->Option (T × List Nat × List (Option Addr))) (J:Kn E->T->List Nat->List (Option Addr)->Env × List (Nat × Atom E)) (x k:Ct E P f n R0 retF)
 | pj (t:Nat) (T:Type) (M:Mx T) (get:Kn E->Option T) (J:Kn E->T->Env × List (Nat × Atom E)) (x y k:Ct E P f n R0 retF)
 | eo (t j q e:Nat) (x y:Ct E P f n R0 retF)
 | np (t j:Nat) (x y:Ct E P f n R0 retF)
 | ret
 | back
 | dead
abbrev Ct.g {E:Ev}{P:Program}{f:FuncId}{n:Nat}{R0:Type}{retF:Kn E->VC R0}(a:Nat)(k:Ct E P f n R0 retF):Ct E P f n R0 retF:=.s (.seg a []) k
def rb (b:Nat)(l:List Nat):List (Nat × Nat):=l.zipIdx.map (fun p=>(p.1,b+p.2))++l.zipIdx.map (fun p=>(b+p.2,b+p.2+90000))
def ren (l:List (Nat × Nat))(k:Nat):Nat:=match getK k l with
 | some j=>j
 | none=>k
def renK (l:List (Nat × Nat)):List (Nat × Atom E)->List (Nat × Atom E)
 | []=>[]
 | (k,a)::r=>(ren l k,a)::renK l r
theorem gN (l:List (Nat × Nat)):∀ As:List (Nat × Atom E),dens (renK l As)=dens As
 | []=>rfl
 | (k,a)::r=>by
  have:=gN l r;simp only[dens,renK,pC] at this ⊢;rw[this]
def nx {R:Type}(m:Option Md)(k:Md->VC R):VC R:=match m with
 | some md=>k md
 | none=>.fail
def Md.cut:Md->Option (Md × List Item)
 | .run (x::k)=>some (.run [x],k)
 | .run []=>none
 | .reg ops i k=>some (.reg ops i [],k)
 | .drw ops dn pend k=>some (.drw ops dn pend [],k)
def onD {R:Type}(ops:Array Oper)(dn:List Nat)(pend:List (Nat × List Ob))(k:List Item)(K:Md->VC R):VC R :=
 match Nat.ble ops.size dn.length with
 | true=>match eqL (uv (uI dn) 0 ops.toList) [] with
  | true=>nx (norm 1000 k) K
  | false=>.fail
 | false=>K (.drw ops dn pend k)
def Ac (j:Nat)(V:Value):Option Value:=match Nat.beq j 999 with
 | true=>some V
 | false=>match V with
  | .tuple vs=>vs.toList[j]?
  | _=>none
def setV (j:Nat)(V:Value)(x:Value):Value:=match Nat.beq j 999 with
 | true=>x
 | false=>match V with
  | .tuple vs=>.tuple (vs.toList.set j x).toArray
  | _=>V
theorem gT {j:Nat}{V x:Value}(h:Ac j V=some x):setV j V x=V:=by
 unfold Ac at h;unfold setV;split at h
 ·simp at h;exact h.symm
 ·split at h
  ·rename_i vs;show Value.tuple _=_;have:vs.toList.set j x=vs.toList:=by
    apply List.ext_getElem?;intro i;rw[List.getElem?_set];split
    ·subst_vars
     split
     ·exact h.symm
     ·rename_i h3;rw[List.getElem?_eq_none (Nat.le_of_not_lt h3)]
    ·rfl
   rw[this]
  ·cases h
def eoC {R:Type}(st:Kn E)(t j q e:Nat)(X Y:Kn E->VC R):VC R :=
 match getK 77 st.vw,look t st.L,getK q st.As with
 | some (.opt o),some V,some (.sl c T sb sc l)=>match Ac j V with
  | some v=>.req v (elemV sb (E.el c).sz o) (.cs (oS o) (fun _=>X ⟨(t,setV j V (.pointer none))::st.L,st.As,st.rd,st.ef,st.pr,st.vw⟩) fun i =>
    .bind (mIdx l i) fun x=>.frN fun b=>.frN fun off=>Y ⟨(t,setV j V (.pointer (some ⟨b,off+i.toNat*(E.el c).sz,none⟩)))::st.L,st.As,st.rd,(e,⟨false,c,sb,l,i,x,b,off⟩)::st.ef,st.pr,st.vw⟩)
  | none=>.fail
 | _,_,_=>.fail
theorem zN.same {n:Nat}{a:Act}{L:Env}{t:Nat}{V:Value}(e:zN n a L)(h:look t L=some V):zN n a ((t,V)::L):=by
 refine⟨e.size,e.defers,fun u v hv=>?_⟩;rw[vH] at hv;split at hv
 ·subst_vars;cases hv;exact e.has _ _ h
 ·exact e.has _ _ hv
theorem bB {R:Type}{n:Nat}{w0 w:World}{F:List HP}{st:Kn E}{a:Act}{Φ:R->Prop}{t j q e:Nat}{X Y:Kn E->VC R}(u:KnOk n w0 F st a w)(h:(eoC st t j q e X Y).ok Φ):∃ y,KnOk n w0 F y a w/\((X y).ok Φ \/ (Y y).ok Φ):=by
 unfold eoC at h;split at h
 ·rename_i o V c T sb sc l h1 h2 h3;split at h
  ·rename_i v hv;obtain⟨rfl,h4,A⟩:=h;cases o with
   | none =>
    refine⟨⟨(t,setV j V (.pointer none))::st.L,st.As,st.rd,st.ef,st.pr,st.vw⟩,⟨u.env.same (V:=setV j V (.pointer none)) ?_,u.hp,u.fs.1,u.fs.2,u.fs.3,u.fs.4⟩,.inl (h4 () rfl)⟩;rw[h2];exact congrArg some (gT hv).symm
   | some i =>
    obtain⟨x,z,B⟩:=A i rfl;obtain⟨D,hj⟩:=u.hp.mem (mL F (tJ h3));obtain⟨b,off,hs,_⟩:=(yP T (E.el c).enc (E.el c).sz sb sc l).base (E.el c).ok u.hp D hj z;rw[jC hs] at hv;refine⟨⟨(t,setV j V (.pointer (some ⟨b,off+i.toNat*(E.el c).sz,none⟩)))::st.L,st.As,st.rd,(e,⟨false,c,sb,l,i,x,b,off⟩)::st.ef,st.pr,st.vw⟩,⟨u.env.same (V:=setV j V (.pointer (some ⟨b,off+i.toNat*(E.el c).sz,none⟩))) ?_,u.hp,u.fs.1,?_,u.fs.3,u.fs.4⟩,.inr (B b off)⟩
    ·rw[h2];exact congrArg some (gT hv).symm
    ·intro p hp;cases hp with
     | head=>exact⟨hs,z,fun h=>by cases h⟩
     | tail _ hm=>exact u.fs.2 p hm
  ·exact (VC.zB h).elim
 ·exact (VC.zB h).elim
def B0 {R:Type}(u v:VC R):VC R:=.both u v v.mod
def exec {f:FuncId}{n:Nat}{R0:Type}{retF:Kn E->VC R0}:{R:Type}->Ct E P f n R0 retF->Md->Kn E->(R0->VC R)->(Kn E->VC R)->(Code->Nat->Kn E->VC R)->VC R
 | _,.leaf,md,st,F,D,A=>match md with
  | .run []=>D st
  | _=>.fail
 | _,.s x c,md,st,F,D,A=>match md with
  | .reg ops i k=>Cr n ops i st x fun i' O=>match Nat.ble ops.size i' with
   | true=>nx (norm 1000 k) fun I=>exec c I O F D A
   | false=>exec c (.reg ops i' k) O F D A
  | .drw ops dn pend k=>ghost st x fun O=>exec c (.drw ops dn pend k) O F D A
  | .run t=>ghost st x fun O=>exec c (.run t) O F D A
 | _,.dead,md,st,F,D,A=>.fail
 | _,.rk l c,md,st,F,D,A=>exec c md ⟨st.L,renK l st.As,st.rd,st.ef,st.pr,st.vw⟩ F D A
 | _,.drw c,md,st,F,D,A=>match md with
  | .run (.code (.region _ ops true)::k)=>match rZ ops with
   | true=>exec c (.drw ops [] [] k) st F D A
   | false=>.fail
  | _=>.fail
 | _,.q is l c,md,st,F,D,A=>match md with
  | .drw ops dn pend k=>Cq (P:=P) n ops dn pend st is l fun U S O=>onD ops U S k fun I=>exec c I O F D A
  | _=>.fail
 | _,.a j x l c,md,st,F,D,A=>match md with
  | .drw ops dn pend k=>Cp n ops dn pend st j x l fun U S O=>onD ops U S k fun I=>exec c I O F D A
  | _=>.fail
 | _,.cond x y,md,st,F,D,A=>match md with
  | .run (.code (.cond c u v)::k)=>match evO st.L c with
   | some (.bool b)=>.ite b (nx (norm 1000 (.code u::k)) fun I=>exec x I st F D A) (nx (norm 1000 (.code v::k)) fun I=>exec y I st F D A)
   | _=>.fail
  | _=>.fail
 | _,.rF x,md,st,F,D,A=>match md with
  | .run (.code (.cond c u v)::k)=>match evO st.L c with
   | some (.bool true)=>nx (norm 1000 (.code u::k)) fun I=>exec x I st F D A
   | _=>.fail
  | _=>.fail
 | _,.tD x,md,st,F,D,A=>match md with
  | .run (.code (.cond c u v)::k)=>match evO st.L c with
   | some (.bool false)=>nx (norm 1000 (.code v::k)) fun I=>exec x I st F D A
   | _=>.fail
  | _=>.fail
 | _,.split t x y,md,st,F,D,A=>match look t st.L with
  | some (.bool b)=>.ite b (exec x md ⟨(t,.bool true)::st.L,st.As,st.rd,st.ef,st.pr,st.vw⟩ F D A) (exec y md ⟨(t,.bool false)::st.L,st.As,st.rd,st.ef,st.pr,st.vw⟩ F D A)
  | _=>.fail
 | _,.join T nN nA get J x k,md,st,F,D,A=>match md.cut with
  | some (Y,rest)=>.join (exec x Y st (fun _=>.fail) (fun O=>match get O with
    | some (s,X,W)=>match Nat.beq X.length nN,Nat.beq W.length nA with
     | true,true=>reqS (J st s X W).1 (J st s X W).2 O (.ret (some s))
     | _,_=>.fail
    | none=>.fail) (fun _ _ _=>.fail)) fun s=>frNs nN fun X=>frAs nA fun W=>nx (norm 1000 rest) fun I=>exec k I ⟨(J st s X W).1,(J st s X W).2,st.rd,st.ef,st.pr,st.vw⟩ F D A
  | none=>.fail
 | _,.joinR T nN nA get J x k,md,st,F,D,A=>match md.cut with
  | some (Y,rest)=>.join (exec x Y st (fun r=>.ret (some (.inl r))) (fun O=>match get O with
    | some (s,X,W)=>match Nat.beq X.length nN,Nat.beq W.length nA with
     | true,true=>reqS (J st s X W).1 (J st s X W).2 O (.ret (some (Sum.inr s)))
     | _,_=>.fail
    | none=>.fail) (fun _ _ _=>.fail)) fun s=>.cs s F fun s=>frNs nN fun X=>frAs nA fun W=>nx (norm 1000 rest) fun I=>exec k I ⟨(J st s X W).1,(J st s X W).2,st.rd,st.ef,st.pr,st.vw⟩ F D A
  | none=>.fail
 | _,.loop B get k,md,st,F,D,A=>match md with
  | .run (.code c::rest)=>match get st with
   | some (x,v,X,W)=>match iv (kys (B.B.rds x)) st.rd with
    | some rs=>.req c B.B.code (.req rs ((B.B.rds x).map (·.2)) (reqS (B.B.pL x v X W) (B.B.pA x v X W) st (.bind (B.B.g x v) fun t=>.cs (B.B.cls t) F fun u=>frNs B.B.mN fun a0=>frAs B.B.mA fun Z =>
     nx (norm 1000 rest) fun I=>exec k I ⟨B.B.qL x u a0 Z,B.B.qA x u a0 Z,st.rd,st.ef,st.pr,st.vw⟩ F D A)))
    | none=>.fail
   | none=>.fail
  | _=>.fail
 | _,.blk c,md,st,F,D,A=>match md with
  | .run (.code (.block id b)::k)=>nx (norm 1000 (.code b :: .inBlock id::k)) fun I=>exec c I st F D A
  | _=>.fail
 | _,.unr c,md,st,F,D,A=>match md with
  | .run (.code (.block id (.loop b))::k)=>nx (norm 1000 (.code b :: .inLoop b :: .inBlock id::k)) fun I=>exec c I st F D A
  | .run (.inLoop b::k)=>nx (norm 1000 (.code b :: .inLoop b::k)) fun I=>exec c I st F D A
  | _=>.fail
 | _,.alt2 i x l c j y l' c',md,st,F,D,A=>match md with
  | .drw ops dn pend k=>match Nat.blt dn.length ops.size && eqL (uv (uI dn) 0 ops.toList) [i,j] with
   | true=>B0 (gX n ops dn pend st i x l fun U S O=>onD ops U S k fun I=>exec c I O F D A) (gX n ops dn pend st j y l' fun U S O=>onD ops U S k fun I=>exec c' I O F D A)
   | false=>.fail
  | _=>.fail
 | _,.alt3 i x l c j y l' c' m z l'' c'',md,st,F,D,A=>match md with
  | .drw ops dn pend k=>match Nat.blt dn.length ops.size && eqL (uv (uI dn) 0 ops.toList) [i,j,m] with
   | true=>B0 (gX n ops dn pend st i x l fun U S O=>onD ops U S k fun I=>exec c I O F D A) (B0 (gX n ops dn pend st j y l' fun U S O=>onD ops U S k fun I=>exec c' I O F D A) (gX n ops dn pend st m z l'' fun U S O=>onD ops U S k fun I=>exec c'' I O F D A))
   | false=>.fail
  | _=>.fail
 | _,.jg T nN nA get J x k,md,st,F,D,A=>match md.cut with
  | some (Y,rest)=>.grj (exec x Y st (fun _=>.fail) (fun O=>match get O with
    | some (s,X,W)=>match Nat.beq X.length nN,Nat.beq W.length nA with
     | true,true=>reqS (J st s X W).1 (J st s X W).2 O (.ret (some s))
     | _,_=>.fail
    | none=>.fail) (fun _ _ _=>.fail)) fun s=>frNs nN fun X=>frAs nA fun W=>nx (norm 1000 rest) fun I=>exec k I ⟨(J st s X W).1,(J st s X W).2,st.rd,st.ef,st.pr,st.vw⟩ F D A
  | none=>.fail
 | _,.pj t T M get J x y k,md,st,F,D,A=>match md.cut,look t st.L with
  | some (Y,rest),some (.bool b)=>.sel M b (exec x Y ⟨(t,.bool true)::st.L,st.As,st.rd,st.ef,st.pr,st.vw⟩ (fun _=>.fail) (fun O=>match get O with
    | some s=>reqS (J st s).1 (J st s).2 O (.ret (some s))
    | none=>.fail) (fun _ _ _=>.fail)) (exec y Y ⟨(t,.bool false)::st.L,st.As,st.rd,st.ef,st.pr,st.vw⟩ (fun _=>.fail) (fun O=>match get O with
    | some s=>reqS (J st s).1 (J st s).2 O (.ret (some s))
    | none=>.fail) (fun _ _ _=>.fail)) fun s=>nx (norm 1000 rest) fun I=>exec k I ⟨(J st s).1,(J st s).2,st.rd,st.ef,st.pr,st.vw⟩ F D A
  | _,_=>.fail
 | _,.eo t j q e x y,md,st,F,D,A=>eoC st t j q e (fun O=>exec x md O F D A) fun O=>exec y md O F D A
 | _,.np t j x y,md,st,F,D,A=>match look t st.L with
  | some V=>match Ac j V with
   | some (.pointer none)=>exec x md st F D A
   | some (.pointer (some _))=>exec y md st F D A
   | _=>.fail
  | none=>.fail
 | _,.ret,md,st,F,D,A=>match md with
  | .run (.code .ret::_)=>.join (retF st) F
  | _=>.fail
 | _,.back,md,st,F,D,A=>match md with
  | .run [.inLoop c,.inBlock id]=>A c id st
  | _=>.fail
theorem gi {α:Type}:∀ {ks:List Nat}{L:List (Nat × α)}{xs:List α},iv ks L=some xs -> ∀ x∈xs,∃ j,(j,x)∈L
 | [],L,xs,h,x,e=>by simp[iv] at h;subst h;cases e
 | k::ks,L,xs,h,x,e=>by
  simp only[iv] at h;split at h
  ·rename_i y r h1 h2;cases h;cases e with
   | head=>exact wJ h1
   | tail _ hm=>exact gi h2 x hm
  ·cases h
theorem oJ {R:Type}{m:Option Md}{k:Md->VC R}{Φ:R->Prop}(h:(nx m k).ok Φ):∃ md,m=some md/\(k md).ok Φ:=by
 unfold nx at h;split at h
 ·exact⟨_,rfl,h⟩
 ·exact (VC.zB h).elim
end
end
noncomputable section
section
variable {E:Ev} {P:Program} {f:FuncId} {n:Nat} {R0:Type} {retF:Kn E->VC R0}
theorem nR {t:Nat}{b:Bool}{L:Env}{n:Nat}{a:Act}(e:zN n a L)(h:look t L=some (.bool b)):zN n a ((t,.bool b)::L):=by
 refine⟨e.size,e.defers,fun u v hv=>?_⟩;rw[vH] at hv;split at hv
 ·subst_vars;cases hv;exact e.has _ _ h
 ·exact e.has _ _ hv
theorem aV.kn {w0 w:World}{F:List HP}{st:Kn E}{a:Act}{L:Env}{As:List (Nat × Atom E)}(h:aV F st)(e:zN n a L)(i:St w0 (dens As++F) w):KnOk n w0 F ⟨L,As,st.rd,st.ef,st.pr,st.vw⟩ a w:=⟨e,i,h.1,h.2,h.3,h.4⟩
theorem Md.pN {md e:Md}{rest base:List Item}{a:Act}{w:World}{Q:Value->World->Prop}(h:md.cut=some (e,rest))(j:e.Runs P f (rest++base) a w Q):md.Runs P f base a w Q:=by
 cases md with
 | run t =>
  cases t with
  | nil=>cases h
  | cons x t =>
   simp only[Md.cut,Option.some.injEq,Prod.mk.injEq] at h;obtain⟨rfl,rfl⟩:=h;exact j
 | reg ops i k =>
  simp only[Md.cut,Option.some.injEq,Prod.mk.injEq] at h;obtain⟨rfl,rfl⟩:=h;exact j
 | drw ops dn pend k =>
  simp only[Md.cut,Option.some.injEq,Prod.mk.injEq] at h;obtain⟨rfl,rfl⟩:=h;exact j
theorem rR {R:Type}{ops:Array Oper}{dn:List Nat}{pend:List (Nat × List Ob)}{k base:List Item}{K:Md->VC R}{Φ:R->Prop}{a:Act}{w:World}{Q:Value->World->Prop}(h:(onD ops dn pend k K).ok Φ)
  (hk:∀ md,(K md).ok Φ -> md.Runs P f base a w Q):WQ P f ops dn pend (k++base) a w Q:=by
 unfold onD at h;split at h
 ·split at h
  ·rename_i h1;obtain⟨md,hm,h2⟩:=oJ h;exact WQ.done h1 (yW 1000 hm (hk md h2))
  ·exact (VC.zB h).elim
 ·exact hk _ h
theorem jG (c2:P.follows .mixedOrders=true){w0:World}{F:List HP}{Q:Value->World->Prop}{Tg:R0->Prop}(b2:∀ st a w k,KnOk n w0 F st a w->(retF st).ok Tg->Runs P f (.code .ret::k) a w Q) :
  ∀ (ct:Ct E P f n R0 retF) {R:Type} (md:Md) (base:List Item) (st:Kn E) (I:R0->VC R) (D:Kn E->VC R) (A:Code->Nat->Kn E->VC R) (Φ:R->Prop) (a:Act) (w:World),KnOk n w0 F st a w ->
   (exec ct md st I D A).ok Φ -> (∀ r,(I r).ok Φ -> Tg r)->(∀ S a' w',KnOk n w0 F S a' w'->(D S).ok Φ -> Runs P f base a' w' Q) ->
   (∀ c id S a' w',KnOk n w0 F S a' w'->(A c id S).ok Φ -> Runs P f (.inLoop c :: .inBlock id::base) a' w' Q)->md.Runs P f base a w Q:=by
 intro ct;induction ct with
 | leaf =>
  intro R md base st I D A Φ a w O h hV Y X;simp only[exec] at h;split at h
  ·exact Y _ _ _ O h
  ·exact (VC.zB h).elim
 | s x c ih =>
  intro R md base st I D A Φ a w O h hV Y X;simp only[exec] at h;split at h
  ·rename_i ops i k;refine eD O h fun i' S a' w' U h'=>?_
   split at h'
   ·rename_i hi;obtain⟨W,hm,h2⟩:=oJ h';exact WR.done hi (yW 1000 hm (ih _ _ _ _ _ _ _ _ _ U h2 hV Y X))
   ·exact ih (.reg ops i' k) base S I D A Φ a' w' U h' hV Y X
  ·rename_i ops dn pend k;obtain⟨S,U,h'⟩:=xI O h;exact ih (.drw ops dn pend k) base S I D A Φ a w U h' hV Y X
  ·rename_i t;obtain⟨S,U,h'⟩:=xI O h;exact ih (.run t) base S I D A Φ a w U h' hV Y X
 | dead =>
  intro R md base st I D A Φ a w O h hV Y X;simp only[exec] at h;exact (VC.zB h).elim
 | rk l c ih =>
  intro R md base st I D A Φ a w O h hV Y X;simp only[exec] at h;exact ih md base ⟨st.L,renK l st.As,st.rd,st.ef,st.pr,st.vw⟩ I D A Φ a w ⟨O.env,by rw[gN];exact O.hp,O.fs.1,O.fs.2,O.fs.3,O.fs.4⟩ h hV Y X
 | drw c ih =>
  intro R md base st I D A Φ a w O h hV Y X;simp only[exec] at h;split at h
  ·rename_i id ops k;split at h
   ·rename_i hr;exact Runs.drawn c2 hr (ih (.drw ops [] [] k) base st I D A Φ a _ ⟨O.env,O.hp.drew,O.fs.1,O.fs.2,O.fs.3,O.fs.4⟩ h hV Y X)
   ·exact (VC.zB h).elim
  ·exact (VC.zB h).elim
 | q is l c ih =>
  intro R md base st I D A Φ a w O h hV Y X;simp only[exec] at h;split at h
  ·refine eB O h fun a8 a0 S a' U h'=>?_
   exact rR h' fun W h2=>ih W base S I D A Φ a' w U h2 hV Y X
  ·exact (VC.zB h).elim
 | a j x l c ih =>
  intro R md base st I D A Φ a w O h hV Y X;simp only[exec] at h;split at h
  ·refine eA O h fun a8 a0 S a' w' U h'=>?_
   exact rR h' fun W h2=>ih W base S I D A Φ a' w' U h2 hV Y X
  ·exact (VC.zB h).elim
 | cond x y Z a4 =>
  intro R md base st I D A Φ a w O h hV Y X;simp only[exec] at h;split at h
  ·rename_i c u v k;split at h
   ·rename_i b hc;refine Runs.cond O.env hc (fun hb=>?_) (fun hb=>?_)
    ·obtain⟨W,hm,h2⟩:=oJ (h.1 hb);exact yW 1000 hm (Z _ _ _ _ _ _ _ _ _ O h2 hV Y X)
    ·obtain⟨W,hm,h2⟩:=oJ (h.2 hb);exact yW 1000 hm (a4 _ _ _ _ _ _ _ _ _ O h2 hV Y X)
   ·exact (VC.zB h).elim
  ·exact (VC.zB h).elim
 | rF x Z =>
  intro R md base st I D A Φ a w O h hV Y X;simp only[exec] at h;split at h
  ·rename_i c u v k;split at h
   ·rename_i hc;obtain⟨W,hm,h2⟩:=oJ h;exact Runs.rF O.env hc (yW 1000 hm (Z _ _ _ _ _ _ _ _ _ O h2 hV Y X))
   ·exact (VC.zB h).elim
  ·exact (VC.zB h).elim
 | tD x Z =>
  intro R md base st I D A Φ a w O h hV Y X;simp only[exec] at h;split at h
  ·rename_i c u v k;split at h
   ·rename_i hc;obtain⟨W,hm,h2⟩:=oJ h;exact Runs.tD O.env hc (yW 1000 hm (Z _ _ _ _ _ _ _ _ _ O h2 hV Y X))
   ·exact (VC.zB h).elim
  ·exact (VC.zB h).elim
 | split t x y Z a4 =>
  intro R md base st I D A Φ a w O h hV Y X;simp only[exec] at h;split at h
  ·rename_i b hb;cases b with
   | true=>exact Z _ _ _ _ _ _ _ _ _ (O.fs.kn (nR O.env hb) O.hp) (h.1 rfl) hV Y X
   | false=>exact a4 _ _ _ _ _ _ _ _ _ (O.fs.kn (nR O.env hb) O.hp) (h.2 rfl) hV Y X
  ·exact (VC.zB h).elim
 | join T nN nA get J x k Z a3 =>
  intro R md base st I D A Φ a w O h hV Y X;simp only[exec] at h;split at h
  ·rename_i b5 rest hc;refine Md.pN hc (Z _ _ _ _ _ _ _ _ _ O h (fun r hr=>(VC.zB hr).elim) (fun S a' w' U hl=>?_) (fun c id S a' w' _ hb=>(VC.zB hb).elim));split at hl
   ·rename_i s ns aS hg;split at hl
    ·rename_i h1 h2;obtain⟨h3,h4,y,hy,h5⟩:=sm U hl;cases hy;rw[<- Nat.eq_of_beq_eq_true h1] at h5;have h6:=mF _ _ h5;rw[<- Nat.eq_of_beq_eq_true h2] at h6;obtain⟨W,hm,h8⟩:=oJ (mE _ _ h6);exact yW 1000 hm (a3 _ _ _ _ _ _ _ _ _ (O.fs.kn h3 h4) h8 hV Y X)
    ·exact (VC.zB hl).elim
   ·exact (VC.zB hl).elim
  ·exact (VC.zB h).elim
 | joinR T nN nA get J x k Z a3 =>
  intro R md base st I D A Φ a w O h hV Y X;simp only[exec] at h;split at h
  ·rename_i b5 rest hc;refine Md.pN hc (Z _ _ _ _ _ _ _ _ _ O h (fun r hr=>?_) (fun S a' w' U hl=>?_) (fun c id S a' w' _ hb=>(VC.zB hb).elim))
   ·obtain⟨y,hy,h2⟩:=hr;cases hy;exact hV r (h2.1 r rfl)
   ·split at hl
    ·rename_i s ns aS hg;split at hl
     ·rename_i h1 h2;obtain⟨h3,h4,y,hy,h5⟩:=sm U hl;cases hy;have h5:=h5.2 s rfl;rw[<- Nat.eq_of_beq_eq_true h1] at h5;have h6:=mF _ _ h5;rw[<- Nat.eq_of_beq_eq_true h2] at h6;obtain⟨W,hm,h8⟩:=oJ (mE _ _ h6);exact yW 1000 hm (a3 _ _ _ _ _ _ _ _ _ (O.fs.kn h3 h4) h8 hV Y X)
     ·exact (VC.zB hl).elim
    ·exact (VC.zB hl).elim
  ·exact (VC.zB h).elim
 | loop B get k a3 =>
  intro R md base st I D A Φ a w O h hV Y X;simp only[exec] at h;split at h
  ·rename_i c rest;split at h
   ·rename_i x v ns aS hg;split at h
    ·rename_i rs c4;obtain⟨rfl,h2,h3⟩:=h;obtain⟨h4,h5,t,ht,h6⟩:=sm O h3;refine B.snd Q w0 F x v t ns aS a w (rest++base) ht ⟨h4,h5,?_,by simp,by simp,by simp⟩ ?_ ?_
     ·intro p hp;have h7:p.2∈rs:=by rw[h2];exact List.mem_map_of_mem hp
      obtain⟨j,hj⟩:=gi c4 _ h7;have:=O.fs.1 (j,p.2) hj;exact this
     ·intro u hu d0 c6 a' w' hn ha hE hH;have b6:=h6.2 u hu;rw[<- hn] at b6;have h7:=mF _ _ b6;rw[<- ha] at h7;obtain⟨W,hm,h8⟩:=oJ (mE _ _ h7);exact yW 1000 hm (a3 _ _ _ _ _ _ _ _ _ (O.fs.kn hE hH) h8 hV Y X)
     ·intro r hr S a' w' k' U c3;have e:=hV r (h6.1 r hr);exact b2 _ _ _ _ U (VC.mono _ (fun r' h=>by subst h;exact e) c3)
    ·exact (VC.zB h).elim
   ·exact (VC.zB h).elim
  ·exact (VC.zB h).elim
 | blk c ih =>
  intro R md base st I D A Φ a w O h hV Y X;simp only[exec] at h;split at h
  ·obtain⟨W,hm,h2⟩:=oJ h;exact Runs.block (yW 1000 hm (ih _ _ _ _ _ _ _ _ _ O h2 hV Y X))
  ·exact (VC.zB h).elim
 | unr c ih =>
  intro R md base st I D A Φ a w O h hV Y X;simp only[exec] at h;split at h
  ·obtain⟨W,hm,h2⟩:=oJ h;exact Runs.block (Runs.Bk (yW 1000 hm (ih _ _ _ _ _ _ _ _ _ O h2 hV Y X)))
  ·obtain⟨W,hm,h2⟩:=oJ h;exact Runs.inLoop (yW 1000 hm (ih _ _ _ _ _ _ _ _ _ O h2 hV Y X))
  ·exact (VC.zB h).elim
 | alt2 i x l c j y l' c' b3 b4 =>
  intro R md base st I D A Φ a w O h hV Y X;simp only[exec] at h;split at h
  ·split at h
   ·rename_i hr;refine WQ.act2 i j hr ?_ ?_
    ·refine sw O h.1 fun a8 a0 S a' w' U h'=>?_
     exact rR h' fun W h2=>b3 W base S I D A Φ a' w' U h2 hV Y X
    ·refine sw O (h.2 rfl) fun a8 a0 S a' w' U h'=>?_
     exact rR h' fun W h2=>b4 W base S I D A Φ a' w' U h2 hV Y X
   ·exact (VC.zB h).elim
  ·exact (VC.zB h).elim
 | alt3 i x l c j y l' c' m z l'' c'' b3 b4 c5 =>
  intro R md base st I D A Φ a w O h hV Y X;simp only[exec] at h;split at h
  ·split at h
   ·rename_i hr;refine WQ.act3 i j m hr ?_ ?_ ?_
    ·refine sw O h.1 fun a8 a0 S a' w' U h'=>?_
     exact rR h' fun W h2=>b3 W base S I D A Φ a' w' U h2 hV Y X
    ·refine sw O ((h.2 rfl).1) fun a8 a0 S a' w' U h'=>?_
     exact rR h' fun W h2=>b4 W base S I D A Φ a' w' U h2 hV Y X
    ·refine sw O ((h.2 rfl).2 rfl) fun a8 a0 S a' w' U h'=>?_
     exact rR h' fun W h2=>c5 W base S I D A Φ a' w' U h2 hV Y X
   ·exact (VC.zB h).elim
  ·exact (VC.zB h).elim
 | jg T nN nA get J x k Z a3 =>
  intro R md base st I D A Φ a w O h hV Y X;simp only[exec] at h;split at h
  ·rename_i b5 rest hc;refine Md.pN hc (Z _ _ _ _ _ _ _ _ _ O h (fun r hr=>(VC.zB hr).elim) (fun S a' w' U hl=>?_) (fun c id S a' w' _ hb=>(VC.zB hb).elim));split at hl
   ·rename_i s ns aS hg;split at hl
    ·rename_i h1 h2;obtain⟨h3,h4,y,hy,h5⟩:=sm U hl;cases hy;rw[<- Nat.eq_of_beq_eq_true h1] at h5;have h6:=mF _ _ h5;rw[<- Nat.eq_of_beq_eq_true h2] at h6;obtain⟨W,hm,h8⟩:=oJ (mE _ _ h6);exact yW 1000 hm (a3 _ _ _ _ _ _ _ _ _ (O.fs.kn h3 h4) h8 hV Y X)
    ·exact (VC.zB hl).elim
   ·exact (VC.zB hl).elim
  ·exact (VC.zB h).elim
 | pj t T M get J x y k Z a4 a3 =>
  intro R md base st I D A Φ a w O h hV Y X;simp only[exec] at h;split at h
  ·rename_i b5 rest b hc hb;have fin:∀ (S:Kn E) (a':Act) (w':World),KnOk n w0 F S a' w'->((match get S with
     | some s=>reqS (J st s).1 (J st s).2 S (.ret (some s))
     | none=>.fail:VC T)).ok (fun s=>(nx (norm 1000 rest) fun W=>exec k W ⟨(J st s).1,(J st s).2,st.rd,st.ef,st.pr,st.vw⟩ I D A).ok Φ)->Runs P f (rest++base) a' w' Q:=by
    intro S a' w' U hl;split at hl
    ·rename_i s hg;obtain⟨h3,h4,y,hy,h5⟩:=sm U hl;cases hy;obtain⟨W,hm,h8⟩:=oJ h5;exact yW 1000 hm (a3 _ _ _ _ _ _ _ _ _ (O.fs.kn h3 h4) h8 hV Y X)
    ·exact (VC.zB hl).elim
   cases b with
   | true=>exact Md.pN hc (Z _ _ _ _ _ _ _ _ _ (O.fs.kn (nR O.env hb) O.hp) (h.1 rfl) (fun r hr=>(VC.zB hr).elim) fin (fun c id S a' w' _ hb=>(VC.zB hb).elim))
   | false=>exact Md.pN hc (a4 _ _ _ _ _ _ _ _ _ (O.fs.kn (nR O.env hb) O.hp) (h.2 rfl) (fun r hr=>(VC.zB hr).elim) fin (fun c id S a' w' _ hb=>(VC.zB hb).elim))
  ·exact (VC.zB h).elim
 | eo t j q e x y Z a4 =>
  intro R md base st I D A Φ a w O h hV Y X;simp only[exec] at h;obtain⟨S,U,h'|h'⟩:=bB O h
  ·exact Z _ _ _ _ _ _ _ _ _ U h' hV Y X
  ·exact a4 _ _ _ _ _ _ _ _ _ U h' hV Y X
 | np t j x y Z a4 =>
  intro R md base st I D A Φ a w O h hV Y X;simp only[exec] at h;split at h
  ·split at h
   ·exact Z _ _ _ _ _ _ _ _ _ O h hV Y X
   ·exact a4 _ _ _ _ _ _ _ _ _ O h hV Y X
   ·exact (VC.zB h).elim
  ·exact (VC.zB h).elim
 | ret =>
  intro R md base st I D A Φ a w O h hV Y X;simp only[exec] at h;split at h
  ·exact b2 _ _ _ _ O (VC.mono _ hV h)
  ·exact (VC.zB h).elim
 | back =>
  intro R md base st I D A Φ a w O h hV Y X;simp only[exec] at h;split at h
  ·exact X _ _ _ _ _ O h
  ·exact (VC.zB h).elim
def zipN {α:Type}:Nat->List α -> List (Nat × α)
 | _,[]=>[]
 | i,x::r=>(i,x)::zipN (i+1) r
theorem iY {α:Type}:∀ (i:Nat) (l:List α),(zipN i l).map (·.2)=l
 | _,[]=>rfl
 | i,x::r=>by simp[zipN,iY (i+1) r]
def fx79:List (Nat × Prop)->List Prop
 | []=>[]
 | (k,p)::r=>match Nat.beq k 79 with
  | true=>p::fx79 r
  | false=>fx79 r
theorem bH:∀ {l:List (Nat × Prop)},(∀ p∈l,p.2) -> ∀ p∈fx79 l,p
 | [],_,p,hp=>by cases hp
 | (k,q)::r,h,p,hp=>by
  have ih:=bH (l:=r) fun x e=>h x (mC _ e)
  unfold fx79 at hp;split at hp
  ·cases hp with
   | head=>exact h (k,q) (List.mem_cons_self ..)
   | tail _ hm=>exact ih p hm
  ·exact ih p hp
def retC (P:Program)(C:Con E)(rs:List ResultVar)(src:List Src)(keys:List Nat)(out:Kn E->Option (C.T × List Nat × List (Option Addr)))(i:C.I)(st:Kn E):VC C.T :=
 match out st with
 | some (t,l,j)=>match Nat.beq l.length C.nN,Nat.beq j.length C.nA,srcs st src,gD (C.Ek i t keys) st.As with
  | true,true,some (u,obs,eqs),some (ats,_)=>match oO P st.L rs u with
   | some (vs,e)=>.req e obs (.req (eqs.map (·.1)) (eqs.map (·.2)) (.req (sM vs) (C.valA i t l j) (.req ats (C.fY i t l j) (.req (C.fx i t) (fx79 st.pr) (.ret (some t))))))
   | none=>.fail
  | _,_,_,_=>.fail
 | none=>.fail
def st0 (C:Con E)(i:C.I):Kn E:=⟨mw 0 (C.args i),zipN 0 (C.ats i),zipN 0 (C.rds i),[],[],[]⟩
def vcF {P:Program}{n:Nat}(C:Con E)(c:Code)(rs:List ResultVar)(src:List Src)(keys:List Nat)(out:Kn E->Option (C.T × List Nat × List (Option Addr)))(i:C.I)(e:Ct E P C.fid n C.T (retC P C rs src keys out i)):VC C.T :=
 nx (norm 1000 [.code c]) fun md=>exec e md (st0 C i) (fun t=>.ret (some t)) (fun st=>match rs with
  | []=>.join (retC P C rs src keys out i st) fun t=>.ret (some t)
  | _=>.fail) fun _ _ _=>.fail
theorem jR {C:Con E}{rs:List ResultVar}{src:List Src}{keys:List Nat}{out:Kn E->Option (C.T × List Nat × List (Option Addr))}{i:C.I}{st:Kn E}{n:Nat}{w0 w:World}{F:List HP}{a:Act}{t:C.T}
  (x:KnOk n w0 F st a w) (h:(retC P C rs src keys out i st).ok (· = t)):∃ l obs vs j e,wm w obs/\oO P st.L rs l=some (vs,obs)/\j.length=C.nN/\e.length=C.nA/\sM vs=C.valA i t j e/\St w0 ((C.fY i t j e).map Atom.den++F) w /\ ∀ p∈C.fx i t,p:=by
 unfold retC at h;split at h
 ·rename_i A j e X;split at h
  ·rename_i l obs eqs ats rest h1 h2 h3 h4;split at h
   ·rename_i vs z D;obtain⟨rfl,J,O,S,u,y,W,U⟩:=h;cases W;subst U;refine⟨l,_,vs,j,e,rB x h3 (jE J),D,Nat.eq_of_beq_eq_true h1,Nat.eq_of_beq_eq_true h2,O,?_,by rw[u];exact bH x.fs.3⟩;have H:=x.hp.perm ((mr h4).append_right F);rw[aA,S] at H;have B:=H.perm (show ((C.fY i A j e).map Atom.den++(dens rest++F)).Perm (dens rest++((C.fY i A j e).map Atom.den++F)) by
     rw[<- aA,<- aA];exact List.Perm.append_right F List.perm_append_comm)
    exact B.B1
   ·exact (VC.zB h).elim
  ·exact (VC.zB h).elim
 ·exact (VC.zB h).elim
theorem eV (X:P.follows .mixedOrders=true)(C:Con E){fn:Func}{c:Code}{n:Nat}{rs:List ResultVar}(src:List Src)(keys:List Nat)(out:Kn E->Option (C.T × List Nat × List (Option Addr)))(I:∀ i,Ct E P C.fid n C.T (retC P C rs src keys out i))
  (hf:P.funcs[C.fid]? = some fn) (U:fn.body=some c) (hn:fn.ntmps=n) (A:fn.results=rs.toArray) (hl:∀ i,Nat.ble (C.args i).length n=true)
  (h1:∀ i,vcF C c rs src keys out i (I i)=(vcF C c rs src keys out i (I i)).rfx) (h2:∀ i s,(vcF C c rs src keys out i (I i)).mod s=C.model i):C.Sound P:=by
 intro i t hm w0 w F Z H;refine enter hf U hn (hl i) fun a hE=>?_
 have Y:=VC.good _ (· = t) (h1 i) fun s=>⟨t,(h2 i s).trans hm,rfl⟩
 obtain⟨md,W,h3⟩:=oJ Y;have J:KnOk n w0 F (st0 C i) a w:=by
  refine⟨hE,?_,?_,by simp[st0],by simp[st0],by simp[st0]⟩
  ·simpa[st0,dens,iY] using H
  ·intro p hp;refine Z p.2 ?_;have:p.2∈(zipN 0 (C.rds i)).map (·.2):=List.mem_map_of_mem hp
   rwa [iY] at this
 have:=yW (P:=P) (f:=C.fid) (a:=a) (w:=w) (base:=[]) (Q:=fun v w'=>∃ z j,z.length=C.nN/\j.length=C.nA/\v=C.valA i t z j/\St w0 ((C.fY i t z j).map Atom.den++F) w' /\ ∀ p∈C.fx i t,p) 1000 W
  (jG X (Tg:=(· = t)) (fun st a w k J h=>by
    obtain⟨D,obs,vs,z,j,ho,hv,x,l,O,S,u⟩:=jR J h;exact Runs.retO J.env hf A D hv ho ⟨z,j,x,l,O,S,u⟩) (I i) md [] (st0 C i) _ _ _ _ a w J h3 (fun r A=>by obtain⟨y,hy,h⟩:=A;cases hy;exact h) (fun a1 a' w' B hl=>by
    split at hl
    ·obtain⟨D,obs,vs,z,j,ho,hv,x,l,O,S,u⟩:=jR B (VC.mono _ (fun r A=>by obtain⟨y,hy,h⟩:=A;cases hy;exact h) hl);have e:vs=[]:=by
      simp only[oO,Option.some.injEq,Prod.mk.injEq] at hv;exact hv.1.symm
     subst e;exact Runs.fin B.env hf A (vs:=[]) rfl ⟨z,j,x,l,O,S,u⟩
    ·exact (VC.zB hl).elim) (fun c id a1 a' w' _ U=>(VC.zB U).elim))
 simpa using this
theorem fsn (j:P.follows .mixedOrders=true)(C:Con E){fn:Func}{c:Code}{n:Nat}{rs:List ResultVar}(src:List Src)(keys:List Nat)(out:Kn E->Option (C.T × List Nat × List (Option Addr)))(e:∀ i,Ct E P C.fid n C.T (retC P C rs src keys out i))
  (hf:P.funcs[C.fid]? = some fn) (l:fn.body=some c:=by rfl) (hn:fn.ntmps=n:=by rfl) (t:fn.results=rs.toArray:=by kernel_rfl) (hl:∀ i,Nat.ble (C.args i).length n=true:=by intro _;rfl)
  (h1:∀ i,vcF C c rs src keys out i (e i)=(vcF C c rs src keys out i (e i)).rfx:=by intro i;kernel_rfl) (h2:∀ i s,(vcF C c rs src keys out i (e i)).mod s=C.model i:=by intro i s;kernel_rfl):C.Sound P:=eV j C src keys out e hf l hn t hl h1 h2
def vcL {P:Program}{f:FuncId}{n:Nat}{R0:Type}{retF:Kn E->VC R0}(B:BCon E R0)(body:Code)(id:Nat)(G:Nat->B.X->B.V->Option B.W)(inl:R0->Option B.W)(inr:B.T->B.W)(get:Kn E->Option (B.V × List Nat × List (Option Addr)))(j:Kn E->Option (B.T × List Nat × List (Option Addr)))
  (A:Ct E P f n R0 retF) (m:Nat) (x:B.X) (v:B.V) (z:List Nat) (y:List (Option Addr)):VC B.W :=
 nx (norm 1000 [.code body,.inLoop body,.inBlock id]) fun md=>exec A md ⟨B.pL x v z y,B.pA x v z y,B.rds x,[],[],[]⟩ (fun r=>.ret (inl r)) (fun st=>match j st with
  | some (u,i,e)=>match Nat.beq i.length B.mN,Nat.beq e.length B.mA with
   | true,true=>reqS (B.qL x u i e) (B.qA x u i e) st (.ret (some (inr u)))
   | _,_=>.fail
  | none=>.fail) fun c l st=>.req (c,l) (body,id) (match get st with
   | some (t,i,e)=>reqS (B.pL x t i e) (B.pA x t i e) st (.ret (G m x t))
   | none=>.fail)
theorem VC.vf:∀ {R:Type} (v:VC R),v.ok (fun _=>False)->False
 | _,.ret o,h=>by obtain⟨_,_,h⟩:=h;exact h
 | _,.bind m k,h=>by obtain⟨x,_,h⟩:=h;exact VC.vf (k x) h
 | _,.ite c x y,h=>by
  cases i:c with
  | true=>exact VC.vf x (h.1 i)
  | false=>exact VC.vf y (h.2 i)
 | _,.frN k,h=>VC.vf (k 0) (h 0)
 | _,.frA k,h=>VC.vf (k none) (h none)
 | _,.req a b k,h=>VC.vf k h.2
 | _,.join x k,h=>VC.vf x (VC.mono x (fun y e=>VC.vf (k y) e) h)
 | _,.cs z x y,h=>by
  cases z with
  | inl a=>exact VC.vf (x a) (h.1 a rfl)
  | inr b=>exact VC.vf (y b) (h.2 b rfl)
 | _,.both u v vm,h=>VC.vf u h.1
 | _,.grj x k,h=>VC.vf x (VC.mono x (fun y e=>VC.vf (k y) e) h)
 | _,.sel M b x y k,h=>by
  cases b with
  | true=>exact VC.vf x (VC.mono x (fun y e=>VC.vf (k y) e) (h.1 rfl))
  | false=>exact VC.vf y (VC.mono y (fun y e=>VC.vf (k y) e) (h.2 rfl))
def BCon.at {R0:Type}(B:BCon E R0)(G:Nat->B.X->B.V->Option B.W)(k:Nat):BCon E R0:={ B with g:=G k }
theorem cf (a3:P.follows .mixedOrders=true)(B:BCon E R0){body:Code}{id:Nat}(G:Nat->B.X->B.V->Option B.W)(inl:R0->Option B.W)(inr:B.T->B.W)(get:Kn E->Option (B.V × List Nat × List (Option Addr)))(l:Kn E->Option (B.T × List Nat × List (Option Addr)))
  (Z:Nat->Ct E P f n R0 retF) (hc:B.code = .block id (.loop body)) (h0:∀ x v,G 0 x v=none) (hl:∀ r y,inl r=some y->B.cls y = .inl r) (hi:∀ u,B.cls (inr u) = .inr u)
  (h1:∀ m x v j i,vcL B body id G inl inr get l (Z m) m x v j i=(vcL B body id G inl inr get l (Z m) m x v j i).rfx) (h2:∀ m x v j i s,(vcL B body id G inl inr get l (Z m) m x v j i).mod s=G (m+1) x v) :
  ∀ k,(B.at G k).Sound P f n retF:=by
 intro k Q w0 F x v t j i a w base S A J U;have key:∀ (m:Nat) (v:B.V) (j:List Nat) (i:List (Option Addr)) (a:Act) (w:World),G m x v=some t->KnOk n w0 F ⟨B.pL x v j i,B.pA x v j i,B.rds x,[],[],[]⟩ a w->Runs P f (.code body :: .inLoop body :: .inBlock id::base) a w Q:=by
  intro m;induction m with
  | zero=>intro v j i a w S _;exact absurd ((h0 x v).symm.trans S) (by simp)
  | succ m ih =>
   intro v j i a w S A;have a4:=VC.good _ (· = t) (h1 m x v j i) fun s=>⟨t,(h2 m x v j i s).trans S,rfl⟩
   obtain⟨md,a2,h3⟩:=oJ a4;refine yW (t:=[.code body,.inLoop body,.inBlock id]) (base:=base) 1000 a2 (jG a3 (Tg:=fun r=>B.cls t = .inl r) ?_ (Z m) md base _ _ _ _ _ a w A h3 ?_ ?_ ?_)
   ·intro st a w k A h;cases ht:B.cls t with
    | inl r=>exact U r ht _ _ _ _ A (VC.mono _ (fun r' h=>by rw[ht] at h;cases h;rfl) h)
    | inr u=>exact (VC.vf _ (VC.mono _ (fun r' h=>by rw[ht] at h;cases h) h)).elim
   ·rintro r ⟨y,Y,rfl⟩;exact hl r y Y
   ·intro a5 a' w' I z;split at z
    ·rename_i u O D ho;split at z
     ·rename_i e1 e2;obtain⟨h4,h5,y,Y,h6⟩:=sm I z;cases Y;subst h6;exact J u (hi u) O D a' w' (Nat.eq_of_beq_eq_true e1) (Nat.eq_of_beq_eq_true e2) h4 h5
     ·exact (VC.zB z).elim
    ·exact (VC.zB z).elim
   ·intro c b2 a5 a' w' I hb;obtain⟨e,h4⟩:=hb;simp only[Prod.mk.injEq] at e;obtain⟨rfl,rfl⟩:=e;split at h4
    ·rename_i v' O D b1;obtain⟨h5,h6,y,Y,h7⟩:=sm I h4;subst h7;exact Runs.inLoop (ih v' O D a' w' Y ⟨h5,h6,A.fs.1,A.fs.2,A.fs.3,A.fs.4⟩)
    ·exact (VC.zB h4).elim
 show Runs P f (.code B.code::base) a w Q;rw[hc];exact Runs.block (Runs.Bk (key k v j i a w S A))
theorem lsn (t:P.follows .mixedOrders=true)(B:BCon E R0){body:Code}{id:Nat}(G:Nat->B.X->B.V->Option B.W)(inl:R0->Option B.W)(inr:B.T->B.W)(get:Kn E->Option (B.V × List Nat × List (Option Addr)))(e:Kn E->Option (B.T × List Nat × List (Option Addr)))
  (j:Nat->Ct E P f n R0 retF) (k:Nat) (z:B.code = .block id (.loop body):=by kernel_rfl) (h0:∀ x v,G 0 x v=none:=by intro _ _;rfl) (hl:∀ r y,inl r=some y->B.cls y = .inl r:=by intro r y h;cases h;try rfl) (hi:∀ u,B.cls (inr u) = .inr u:=by intro u;rfl)
  (h1:∀ m x v l i,vcL B body id G inl inr get e (j m) m x v l i=(vcL B body id G inl inr get e (j m) m x v l i).rfx:=by intro m x v n1 A;kernel_rfl) (h2:∀ m x v l i s,(vcL B body id G inl inr get e (j m) m x v l i).mod s=G (m+1) x v:=by intro m x v n1 A s;kernel_rfl) :
  (B.at G k).Sound P f n retF:=cf t B G inl inr get e j z h0 hl hi h1 h2 k
theorem wU (C:Con E)(h:∀ i,C.model i=none):C.Sound P:=fun i t hm=>by rw[h i] at hm;cases hm
end
end
noncomputable section
section
variable {E:Ev}
structure OD (E:Ev):Type 1 where
 A:Type
 M:Type
 flat:Nat->A->M->List (Atom E)
 rd:List (Atom E)->Option (A × M × List (Atom E))
def rS (c:Nat)(e:List (Atom E)):Option ((Option Addr × Nat × List (E.el c).α) × List (Atom E)):=match e with
 | .sl _ _ sb sc l::r=>match hP c l with
  | some l'=>some ((sb,sc,l'),r)
  | none=>none
 | _=>none
def rM (c:Nat)(e:List (Atom E)):Option ((Nat × List ((E.mp c).K × (E.mp c).V)) × List (Atom E)):=match e with
 | .mp _ b m::r=>match dS c m with
  | some i=>some ((b,i),r)
  | none=>none
 | _=>none
structure PK (E:Ev):Type 1 where
 T:Type
 rd:Value->List (Atom E)->Option (T × List (Atom E))
 arg:T->Value
 ats:T->List (Atom E)
 rds:T->List (RdV E)
def pI (k:IntKind):PK E:=⟨Int,fun v e=>match v with
 | .int _ x=>some (x,e)
 | _=>none,fun x=>.int k x,fun _=>[],fun _=>[]⟩
def pB:PK E:=⟨Bool,fun v e=>match v with
 | .bool x=>some (x,e)
 | _=>none,fun x=>.bool x,fun _=>[],fun _=>[]⟩
def pV {α:Type}(dec:Value->Option α)(val:α -> Value):PK E:=⟨α,fun v e=>match dec v with
 | some x=>some (x,e)
 | none=>none,val,fun _=>[],fun _=>[]⟩
def pK (v:Value):PK E:=⟨Unit,fun _ e=>some ((),e),fun _=>v,fun _=>[],fun _=>[]⟩
def pO (D:OD E):PK E:=⟨Nat × D.A × D.M,fun v e=>match v with
 | .pointer (some ⟨p,_,_⟩)=>match D.rd e with
  | some (a,m,r)=>some ((p,a,m),r)
  | none=>none
 | _=>none,fun x=>.pointer (some ⟨x.1,0,none⟩),fun x=>D.flat x.1 x.2.1 x.2.2,fun _=>[]⟩
def pR (c:Nat):PK E:=⟨Option Addr × Nat × List (E.el c).α,fun v e=>match e with
 | .sl c' _ sb sc l::r=>match hP c l with
  | some l'=>some ((sb,sc,l'),r)
  | none=>none
 | _=>none,fun x=>.slice x.1 x.2.2.length x.2.1,fun _=>[],fun x=>[⟨c,x.1,x.2.1,x.2.2⟩]⟩
def pW (c:Nat)(T:TypeId):PK E:=⟨Option Addr × Nat × List (E.el c).α,fun v e=>match e with
 | .sl c' _ sb sc l::r=>match hP c l with
  | some l'=>some ((sb,sc,l'),r)
  | none=>none
 | _=>none,fun x=>.slice x.1 x.2.2.length x.2.1,fun x=>[.sl c T x.1 x.2.1 x.2.2],fun _=>[]⟩
def Ins:List (PK E)->Type
 | []=>Unit
 | p::ps=>p.T × Ins ps
def ai:(ps:List (PK E))->List Value->List (Atom E)->Option (Ins ps)
 | [],_,_=>some ()
 | p::ps,v::vs,e=>match p.rd v e with
  | some (x,r)=>match ai ps vs r with
   | some xs=>some (x,xs)
   | none=>none
  | none=>none
 | _::_,[],_=>none
def hJ:(ps:List (PK E))->Ins ps->List Value
 | [],_=>[]
 | p::ps,x=>p.arg x.1::hJ ps x.2
def hK:(ps:List (PK E))->Ins ps->List (Atom E)
 | [],_=>[]
 | p::ps,x=>p.ats x.1++hK ps x.2
def gK:(ps:List (PK E))->Ins ps->List (RdV E)
 | [],_=>[]
 | p::ps,x=>p.rds x.1++gK ps x.2
@[reducible] def zM (fid:Nat) (ps:List (PK E)) {T:Type} (model:Ins ps->Option T) (nN nA:Nat) (val:Ins ps->T->List Nat->List (Option Addr)->Value) (post:Ins ps->T->List Nat->List (Option Addr)->List (Atom E)):Con E :=
 ⟨fid,Ins ps,T,ai ps,hJ ps,hK ps,gK ps,model,nN,nA,val,post,fun _ _=>none,fun _ _=>[],false,Unit,fun _ _=>none,0,fun _ _ _ _ _=>.tuple #[],fun _ _ _ _ _=>[]⟩
@[reducible] def bX (fid:Nat) (ps:List (PK E)) {T:Type} (model:Ins ps->Option T) (nN nA:Nat) (val:Ins ps->T->List Nat->List (Option Addr)->Value) (post:Ins ps->T->List Nat->List (Option Addr)->List (Atom E)) (opt:Ins ps->T->Option Int):Con E :=
 ⟨fid,Ins ps,T,ai ps,hJ ps,hK ps,gK ps,model,nN,nA,val,post,fun i t=>some (opt i t),fun _ _=>[],false,Unit,fun _ _=>none,0,fun _ _ _ _ _=>.tuple #[],fun _ _ _ _ _=>[]⟩
@[reducible] def bW (fid:Nat) (ps:List (PK E)) {T:Type} (model:Ins ps->Option T) (nN nA:Nat) (val:Ins ps->T->List Nat->List (Option Addr)->Value) (post:Ins ps->T->List Nat->List (Option Addr)->List (Atom E)) (fx:Ins ps->T->List Prop):Con E :=
 ⟨fid,Ins ps,T,ai ps,hJ ps,hK ps,gK ps,model,nN,nA,val,post,fun _ _=>none,fx,false,Unit,fun _ _=>none,0,fun _ _ _ _ _=>.tuple #[],fun _ _ _ _ _=>[]⟩
@[reducible] def AZ (fid:Nat) (ps:List (PK E)) {T M:Type} (model:Ins ps->Option T) (nN nA:Nat) (val:Ins ps->T->List Nat->List (Option Addr)->Value) (post:Ins ps->T->List Nat->List (Option Addr)->List (Atom E)) (om:Ins ps->T->Option M) (nf:Nat)
  (val1:Ins ps->T->M->List Nat->List (Option Addr)->Value) (post1:Ins ps->T->M->List Nat->List (Option Addr)->List (Atom E)):Con E :=
 ⟨fid,Ins ps,T,ai ps,hJ ps,hK ps,gK ps,model,nN,nA,val,post,fun _ _=>none,fun _ _=>[],true,M,om,nf,val1,post1⟩
abbrev Gt (E:Ev)(T:Type):=Kn E->Option T
def gI (t:Nat):Gt E Int:=fun st=>match look t st.L with
 | some (.int _ x)=>some x
 | _=>none
def gB (t:Nat):Gt E Bool:=fun st=>match look t st.L with
 | some (.bool x)=>some x
 | _=>none
def gO (D:OD E)(ks:List Nat):Gt E D.M:=fun st=>match iv ks st.As with
 | some e=>match D.rd e with
  | some (_,m,_)=>some m
  | none=>none
 | none=>none
def gL (c:Nat)(q:Nat):Gt E (List (E.el c).α):=fun st=>match getK q st.As with
 | some (.sl _ _ _ _ l)=>hP c l
 | _=>none
def g2 {A B:Type}(a:Gt E A)(b:Gt E B):Gt E (A × B):=fun st=>match a st,b st with
 | some x,some y=>some (x,y)
 | _,_=>none
def gU:Gt E Unit:=fun _=>some ()
abbrev Nx (E:Ev):=Kn E->Option (List Nat × List (Option Addr))
def nA (D:OD E)(ks:List Nat)(f:D.A->List Nat × List (Option Addr)):Nx E:=fun st=>match iv ks st.As with
 | some e=>match D.rd e with
  | some (i,_,_)=>some (f i)
  | none=>none
 | none=>none
def nxs:List (Nx E)->Nx E
 | [],_=>some ([],[])
 | x::r,st=>match x st,nxs r st with
  | some (a,b),some (c,d)=>some (a++c,b++d)
  | _,_=>none
def gj {T:Type}(a:Gt E T)(l:List (Nx E)):Kn E->Option (T × List Nat × List (Option Addr)):=fun st=>match a st,nxs l st with
 | some x,some (i,e)=>some (x,i,e)
 | _,_=>none
def gl {X V:Type}(x:Gt E X)(v:Gt E V)(l:List (Nx E)):Kn E->Option (X × V × List Nat × List (Option Addr)):=fun st=>match x st,v st,nxs l st with
 | some x,some v,some (i,e)=>some (x,v,i,e)
 | _,_,_=>none
def gt {T:Type}(a:Gt E T):Kn E->Option (T × List Nat × List (Option Addr)):=fun st=>match a st with
 | some x=>some (x,[],[])
 | none=>none
abbrev nn (l:List Nat)(i:Nat):Nat:=l.getD i 0
abbrev na (l:List (Option Addr))(i:Nat):Option Addr:=l.getD i none
def zipL {α:Type}:List Nat->List α -> List (Nat × α)
 | k::ks,x::xs=>(k,x)::zipL ks xs
 | _,_=>[]
def kp (ks:List Nat)(st:Kn E):Env:=match sel ks st.L with
 | some L=>L
 | none=>[]
def ka (ks:List Nat)(st:Kn E):List (Nat × Atom E):=match ks with
 | []=>[]
 | k::r=>match getK k st.As with
  | some a=>(k,a)::ka r st
  | none=>ka r st
def gP (k:Nat):Gt E Nat:=fun st=>match getK k st.As with
 | some (.blk b _ _)=>some b
 | some (.mp _ b _)=>some b
 | _=>none
def gA (D:OD E)(ks:List Nat):Gt E D.A:=fun st=>match iv ks st.As with
 | some e=>match D.rd e with
  | some (a,_,_)=>some a
  | none=>none
 | none=>none
def gC {α:Type}(k off n:Nat)(dec:List Value->Option α):Gt E α:=fun st=>match getK k st.As with
 | some (.blk _ _ cs)=>dec ((cs.drop off).take n)
 | _=>none
def gh (k:Nat):Gt E (Option Addr × Nat):=fun st=>match getK k st.As with
 | some (.sl _ _ sb sc _)=>some (sb,sc)
 | _=>none
def nPk (k:Nat):Nx E:=fun st=>match getK k st.As with
 | some (.blk b _ _)=>some ([b],[])
 | some (.mp _ b _)=>some ([b],[])
 | _=>none
def nSk (k:Nat):Nx E:=fun st=>match getK k st.As with
 | some (.sl _ _ sb sc _)=>some ([sc],[sb])
 | _=>none
def gOo (D:OD E)(ks:List Nat)(t:Nat):Gt E (Option D.M):=fun st=>match look t st.L with
 | some (.pointer none)=>some none
 | some (.pointer (some _))=>match gO D ks st with
  | some m=>some (some m)
  | none=>none
 | _=>none
def nPo (k:Nat):Nx E:=fun st=>match getK k st.As with
 | some (.blk b _ _)=>some ([b],[])
 | _=>some ([0],[])
def nAo (D:OD E)(ks:List Nat)(f:D.A->List Nat × List (Option Addr))(n m:Nat):Nx E:=fun st=>match iv ks st.As with
 | some e=>match D.rd e with
  | some (i,_,_)=>some (f i)
  | none=>none
 | none=>some (List.replicate n 0,List.replicate m none)
def gE:Gt E (Option Int):=fun st=>match getK 99999 st.ef with
 | some f=>some (some f.i)
 | none=>some none
def dI:List Value->Option Int
 | [.int _ x]=>some x
 | _=>none
def dB:List Value->Option Bool
 | [.bool x]=>some x
 | _=>none
def dvI:Value->Option Int
 | .int _ x=>some x
 | _=>none
def nav:List Nat->Code->Code
 | [],c=>c
 | 0::r,.seq x _=>nav r x
 | _::r,.seq _ y=>nav r y
 | 0::r,.cond _ x _=>nav r x
 | _::r,.cond _ _ y=>nav r y
 | _::r,.block _ x=>nav r x
 | _::r,.loop x=>nav r x
 | _::_,c=>c
def rsOf (P:Program)(f:Nat):List ResultVar:=match P.funcs[f]? with
 | some fn=>fn.results.toList
 | none=>[]
def yA (P:Program)(f:Nat):Code:=match P.funcs[f]? with
 | some fn=>match fn.body with
  | some c=>c
  | none=>.skip
 | none=>.skip
end
def fsk {E:Ev}{P:Program}(j:P.follows .mixedOrders=true)(C:Con E){fn:Func}{c:Code}(n:Nat)(src:List Src)(keys:List Nat)(out:Kn E->Option (C.T × List Nat × List (Option Addr)))(e:∀ i,Ct E P C.fid n C.T (retC P C (rsOf P C.fid) src keys out i))
  (hf:P.funcs[C.fid]? = some fn) (he:∀ args w,(callFunc C.fid args).run P w = .ok (.enter C.fid args) w) (l:fn.body=some c:=by rfl) (hn:fn.ntmps=n:=by rfl) (t:fn.results=(rsOf P C.fid).toArray:=by kernel_rfl) (hl:∀ i,Nat.ble (C.args i).length n=true:=by intro _;rfl)
  (h1:∀ i,vcF C c (rsOf P C.fid) src keys out i (e i)=(vcF C c (rsOf P C.fid) src keys out i (e i)).rfx:=by intro i;kernel_rfl) (h2:∀ i s,(vcF C c (rsOf P C.fid) src keys out i (e i)).mod s=C.model i:=by intro i s;kernel_rfl):SCon E P:=⟨C,eV j C src keys out e hf l hn t hl h1 h2,he⟩
end
noncomputable section
section
variable {E:Ev}
theorem lp {w0 w:World}{Y:HP}{L A1 As:List HP}(h:∀ As,St w0 (Y::As) w ↔ St w0 (L++As) w):St w0 (A1++(Y::As)) w ↔ St w0 (A1++(L++As)) w:=by
 constructor
 ·intro H;have H1:=(h (A1++As)).1 (H.perm (List.perm_middle));refine H1.perm ?_;rw[<- aA,<- aA];exact List.Perm.append_right As List.perm_append_comm
 ·intro H;have H1:=(h (A1++As)).2 (H.perm (by
   rw[<- aA,<- aA];exact List.Perm.append_right As List.perm_append_comm))
  exact H1.perm List.perm_middle.symm
theorem fs0 {w0 w:World}{Y:HP}{L As:List HP}(h:∀ As,St w0 (Y::As) w ↔ St w0 (L++As) w):St w0 (Y::As) w ↔ St w0 (L++As) w:=h As
theorem fs1 {w0 w:World}{A Y:HP}{L As:List HP}(h:∀ As,St w0 (Y::As) w ↔ St w0 (L++As) w):St w0 (A::Y::As) w ↔ St w0 (A::(L++As)) w:=lp (A1:=[A]) h
theorem fs2 {w0 w:World}{A B Y:HP}{L As:List HP}(h:∀ As,St w0 (Y::As) w ↔ St w0 (L++As) w):St w0 (A::B::Y::As) w ↔ St w0 (A::B::(L++As)) w:=lp (A1:=[A,B]) h
theorem fs3 {w0 w:World}{A B C Y:HP}{L As:List HP}(h:∀ As,St w0 (Y::As) w ↔ St w0 (L++As) w):St w0 (A::B::C::Y::As) w ↔ St w0 (A::B::C::(L++As)) w:=lp (A1:=[A,B,C]) h
theorem fs4 {w0 w:World}{A B C D Y:HP}{L As:List HP}(h:∀ As,St w0 (Y::As) w ↔ St w0 (L++As) w):St w0 (A::B::C::D::Y::As) w ↔ St w0 (A::B::C::D::(L++As)) w:=lp (A1:=[A,B,C,D]) h
theorem rdH (c:Nat){F:List HP}{X:HP}{sb:Option Addr}{sc:Nat}{l:List (E.el c).α}(hm:X∈F)(e:SlRd X (E.el c).enc (E.el c).sz sb l)(hC:l.length<=sc):RdV.holds (E:=E) F ⟨c,sb,sc,l⟩:=⟨X,hm,e,fun _ _=>hC⟩
theorem rd0 {F:List HP}:∀ r∈([]:List (RdV E)),r.holds F:=fun r h=>by cases h
theorem rdc {F:List HP}{r:RdV E}{L:List (RdV E)}(h:r.holds F)(e:∀ r∈L,r.holds F):∀ x∈r::L,x.holds F:=fun x i=>by
 cases i with
 | head=>exact h
 | tail _ h=>exact e _ h
theorem Cj {F:List HP}{X:HP}(hX:X∈F):∃ e,∀ (w0 w:World) (A:List HP),St w0 (A++F) w ↔ St w0 (X::(A++e)) w:=by
 obtain⟨s,t,rfl⟩:=List.append_of_mem hX;refine⟨s++t,fun w0 w A=>?_⟩;have hp:(A++(s++X::t)).Perm (X::(A++(s++t))):=by
  rw[<- aA,<- aA];exact List.perm_middle
 exact⟨fun H=>H.perm hp,fun H=>H.perm hp.symm⟩
theorem Dr {w0 w:World}{X:HP}{As:List HP}{n m:Nat}(H:St w0 (X::As) w)(h:∀ g,X g->n<=m):n<=m:=H.fact h
theorem lsS {α:Type}{l:List α}{n:Nat}(h:l.length=n+1):∃ a r,l=a::r/\r.length=n:=by
 match l,h with
 | a::r,h=>exact⟨a,r,rfl,by simpa using h⟩
theorem ls0 {α:Type}{l:List α}(h:l.length=0):l=[]:=List.length_eq_zero_iff.1 h
end
end
end Go.Th
