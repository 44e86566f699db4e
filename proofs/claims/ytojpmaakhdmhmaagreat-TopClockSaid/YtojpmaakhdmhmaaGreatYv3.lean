/-
  The statements TopEnds, TopClock of the program.
  Text 3 of 8: of what the proof needs (a row of the program: no condition is left); put together and made narrow by a program.
-/
import Derived.KernelRfl
import Derived.Test.YtojpmaakhdmhmaaGreatYv2
set_option linter.unusedVariables false
set_option linter.unusedSimpArgs false
namespace Go.Proofs.YtojpmaakhdmhmaaGreat
open Go.Th
noncomputable section
set_option maxRecDepth 10000
def Do {α:Type}(o:Option α)(Q:α -> Prop):Prop:=∃ r,o=some r/\Q r
theorem Do.bind {α β:Type}{o:Option α}{f:α -> Option β}{P:α -> Prop}{Q:β -> Prop}(h:Do o P)(k:∀ r,P r->Do (f r) Q):Do (o.bind f) Q:=by
 obtain⟨r,rfl,hp⟩:=h;exact k r hp
theorem Do.ret {α:Type}{r:α}{Q:α -> Prop}(h:Q r):Do (some r) Q:=⟨r,rfl,h⟩
theorem Do.mono {α:Type}{o:Option α}{P Q:α -> Prop}(h:Do o P)(k:∀ r,P r->Q r):Do o Q:=by
 obtain⟨r,e,hp⟩:=h;exact⟨r,e,k r hp⟩
theorem Do.of {α:Type}{o:Option α}{r:α}{Q:α -> Prop}(e:o=some r)(h:Q r):Do o Q:=⟨r,e,h⟩
theorem Do.t {α:Type}{b:Bool}{x y:Option α}{Q:α -> Prop}(h:b=true)(k:Do x Q):Do (bif b then x else y) Q:=by subst h;exact k
theorem Do.f {α:Type}{b:Bool}{x y:Option α}{Q:α -> Prop}(h:b=false)(k:Do y Q):Do (bif b then x else y) Q:=by subst h;exact k
theorem Do.tb {α β:Type}{b:Bool}{x y:Option α}{g:α -> Option β}{Q:β -> Prop}(h:b=true)(k:Do (x.bind g) Q):Do ((bif b then x else y).bind g) Q:=by subst h;exact k
theorem Do.fb {α β:Type}{b:Bool}{x y:Option α}{g:α -> Option β}{Q:β -> Prop}(h:b=false)(k:Do (y.bind g) Q):Do ((bif b then x else y).bind g) Q:=by subst h;exact k
theorem Do.if {α:Type}{b:Bool}{x y:Option α}{Q:α -> Prop}(kt:b=true->Do x Q)(e:b=false->Do y Q):Do (bif b then x else y) Q:=by
 cases b
 ·exact e rfl
 ·exact kt rfl
theorem Do.seq {α β:Type}{o:Option α}{f:α -> Option β}{r:α}{Q:β -> Prop}(e:o=some r)(k:Do (f r) Q):Do (o.bind f) Q:=by subst e;exact k
theorem Do.elim {α:Type}{o:Option α}{Q:α -> Prop}(h:Do o Q):∃ r,o=some r/\Q r:=h
theorem Do.assoc {α β γ:Type}{o:Option α}{f:α -> Option β}{g:β -> Option γ}{Q:γ -> Prop}(h:Do (o.bind fun x=>(f x).bind g) Q):Do ((o.bind f).bind g) Q:=by
 cases o <;> exact h
theorem zP {x:Int}(h1:-9223372036854775808<=x)(h2:x<9223372036854775808):w64 x=x:=by
 show (if (true && decide (x % 18446744073709551616 >= 9223372036854775808))=true then x % 18446744073709551616 - 18446744073709551616 else x % 18446744073709551616)=x;by_cases h:x % 18446744073709551616 >= 9223372036854775808
 ·rw[if_pos (by simpa using h)];omega
 ·rw[if_neg (by simpa using h)];omega
theorem yl {α:Type}(l:List α)(c:Nat):mIdx l (c:Int)=l[c]?:=by
 unfold mIdx;rw[if_pos (by omega)];simp
theorem yr {α:Type}(p q:List α)(y:α):mIdx (p++y::q) (p.length:Int)=some y:=by
 rw[yl];simp
theorem y4 {α:Type}{l e:List α}(h:l.length+e.length<=1073741824):mApp l e=some (l++e):=by unfold mApp;rw[if_pos h]
theorem cq {i:Int}{n:Nat}(h:0<=i)(e:i<(n:Int)):mIn i n=some ():=by unfold mIn;rw[if_pos ⟨h,e⟩]
instance Bu:DecidableEq zs:=fun a b=>by cases a;cases b;simp only[zs.mk.injEq];exact inferInstance
abbrev Heap:=List (Nat × zs)
theorem pm {l l':Heap}(h:∀ p,l.count p=l'.count p):l.Perm l':=List.perm_iff_count.2 h
structure Cfg where
 C:Nat
 b:Int
 g:Int
 mo:Int
structure Ar (κ:Cfg) (n:Nat) (a:zb) (L:Heap):Prop where
 len:a.l.length = κ.C
 cap:κ.C<=65536
 nev:∃ N:Nat,a.never=(N:Int)/\N <= κ.C/\(L.map Prod.fst++a.free.map Int.toNat).Perm (List.range N)
 fre:∀ f∈a.free,0<=f
 hav:∀ p∈L,a.l[p.1]? = some p.2/\p.2.taken=true
 oth:∀ (c:Nat) x,a.l[c]? = some x->x.taken=true->c∈L.map Prod.fst
 b0:0 <= κ.b
 lo:κ.b<=a.m_.steps
 hi:a.m_.steps <= κ.b+n
 mx:a.m_.steps<=9223372036854775807
 beg:a.m_.begun = κ.g
 mst:a.m_.most = κ.mo
theorem Ar.p {κ:Cfg}{n:Nat}{a:zb}{L L':Heap}(H:Ar κ n a L)(h:L.Perm L'):Ar κ n a L' where
 len:=H.len
 cap:=H.cap
 nev:=by
  obtain⟨N,e,i,hp⟩:=H.nev;exact⟨N,e,i,((h.symm.map _).append_right _).trans hp⟩
 fre:=H.fre
 hav:=fun p hp=>H.hav p (h.mem_iff.2 hp)
 oth:=fun c x e t=>((h.map _).mem_iff).1 (H.oth c x e t)
 b0:=H.b0
 lo:=H.lo
 hi:=H.hi
 mx:=H.mx
 beg:=H.beg
 mst:=H.mst
theorem Ar.mono {κ:Cfg}{n m:Nat}{a:zb}{L:Heap}(H:Ar κ n a L)(h:n<=m):Ar κ m a L:={ H with hi:=by have:=H.hi;omega }
theorem Ar.t2 {κ:Cfg}{n:Nat}{a:zb}{x y:Nat × zs}{L:Heap}(H:Ar κ n a (x::y::L)):Ar κ n a (y::x::L):=H.p (List.Perm.swap ..)
theorem Ar.t3 {κ:Cfg}{n:Nat}{a:zb}{x y z:Nat × zs}{L:Heap}(H:Ar κ n a (x::y::z::L)):Ar κ n a (z::x::y::L):=H.p (pm fun p=>by simp only[List.count_cons];omega)
theorem Ar.t4 {κ:Cfg}{n:Nat}{a:zb}{x y z u:Nat × zs}{L:Heap}(H:Ar κ n a (x::y::z::u::L)):Ar κ n a (u::x::y::z::L):=H.p (pm fun p=>by simp only[List.count_cons];omega)
theorem Ar.lt {κ:Cfg}{n:Nat}{a:zb}{L:Heap}(H:Ar κ n a L){c:Nat}{x:zs}(h:(c,x)∈L):c < κ.C:=by
 have:=(H.hav _ h).1;have h2:=(List.getElem?_eq_some_iff.1 this).1;rw[<- H.len];exact h2
theorem Ar.nodup {κ:Cfg}{n:Nat}{a:zb}{L:Heap}(H:Ar κ n a L):(L.map Prod.fst).Nodup:=by
 obtain⟨N,_,_,hp⟩:=H.nev;exact (List.nodup_append.1 (hp.nodup_iff.2 List.nodup_range)).1
theorem Ar.room {κ:Cfg}{n:Nat}{a:zb}{L:Heap}(H:Ar κ n a L):L.length <= κ.C:=by
 obtain⟨N,_,e,hp⟩:=H.nev;have:=hp.length_eq;simp at this;omega
theorem Ar.uniq {κ:Cfg}{n:Nat}{a:zb}{L:Heap}(H:Ar κ n a L){c:Nat}{x y:zs}(h:(c,x)∈L)(j:(c,y)∈L):x=y:=by
 have i:=(H.hav _ h).1;have e:=(H.hav _ j).1;simp only at i e;rw[i] at e;exact Option.some.inj e
theorem dh (m:zD)(h0:0<=m.steps)(h1:m.steps<=9223372036854775807) :
  ∃ s,xg m 1=some (zD.mk s m.begun m.most)/\m.steps<=s/\s<=m.steps+1/\s<=9223372036854775807:=by
 unfold xg wS;have e:w64 (9223372036854775807 - (if (1:Int) > 0 then 1 else 0))=9223372036854775806:=by rw[if_pos (by decide)];exact zP (by decide) (by decide)
 rw[e];simp only[Int.reduceLT,Int.reduceGT,gt_iff_lt,if_true,decide_true,Bool.true_and,decide_false,Bool.false_and,cF];by_cases h:9223372036854775806<m.steps
 ·rw[dT h];exact⟨_,rfl,by omega,by omega,by omega⟩
 ·rw[dF h];simp only[cF,bS];rw[zP (by omega) (by omega)];exact⟨_,rfl,by omega,by omega,by omega⟩
theorem Ar.tick {κ:Cfg}{n:Nat}{a:zb}{L:Heap}(H:Ar κ n a L):∃ m,xg a.m_ 1=some m/\Ar κ (n+1) (zb.mk a.l a.never a.free m) L:=by
 obtain⟨s,e,h1,h2,h3⟩:=dh a.m_ (Int.le_trans H.b0 H.lo) H.mx;have h4:=H.lo;have i:=H.hi;exact⟨_,e,{ H with lo:=by simp only;omega,hi:=by simp only;omega,mx:=h3,beg:=H.beg,mst:=H.mst }⟩
theorem oI {κ:Cfg}{n:Nat}{a:zb}{L:Heap}(H:Ar κ n a L){c:Nat}{x:zs}(h:(c,x)∈L):yb a (c:Int)=some true:=by
 unfold yb;have h1:=H.lt h;have h2:=H.hav _ h;have d1:decide ((c:Int) >= 0)=true:=by simp
 have d2:decide ((c:Int)<(a.l.length:Int))=true:=by simp[H.len];exact h1
 rw[d1,d2,yl,h2.1];have h3:x.taken=true:=h2.2;simp[h3]
theorem lF {a:zb}{c:Int}(h:c<0):yb a c=some false:=by
 unfold yb;rw[dF (by omega)]
 rfl
theorem Aj {a:zb}{c f:Int}(h:yb a c=some true)(h0:0<=f)(h1:f<10):xN a c f=some true:=by
 unfold xN;rw[h];simp[h0,h1]
theorem Ai {a:zb}{c f:Int}(h:yb a c=some false):xN a c f=some false:=by
 unfold xN;rw[h]
 rfl
theorem Ar.get' {κ:Cfg}{n:Nat}{a:zb}{L:Heap}(H:Ar κ n a L){c:Nat}{x:zs}(h:(c,x)∈L){f v:Int}(hf:zs.rH x f=some v)(h0:0<=f)(h1:f<10) :
  ∃ m,zR a (c:Int) f=some (v,zb.mk a.l a.never a.free m)/\Ar κ (n+1) (zb.mk a.l a.never a.free m) L:=by
 obtain⟨m,e,i⟩:=H.tick;refine⟨m,?_,i⟩;unfold zR;rw[e];simp only[bS];rw[Aj (oI i h) h0 h1];simp only[bS,Bool.not_true,cF];rw[yl,(H.hav _ h).1];simp only[bS];rw[cq h0 (by omega)];simp only[bS];rw[hf]
 rfl
theorem Ar.get {κ:Cfg}{n:Nat}{a:zb}{L:Heap}(H:Ar κ n a L){c:Nat}{x:zs}(h:(c,x)∈L){f v:Int}(hf:zs.rH x f=some v)(h0:0<=f:=by decide)(h1:f<10:=by decide) :
  Do (zR a (c:Int) f) fun r=>∃ i,r=(v,i)/\Ar κ (n+1) i L:=by
 obtain⟨m,e,j⟩:=H.get' h hf h0 h1;exact⟨_,e,_,rfl,j⟩
theorem Ar.Ah {κ:Cfg}{n:Nat}{a:zb}{L:Heap}(H:Ar κ n a L){c f:Int}(h:c<0) :
  ∃ m,zR a c f=some (-1,zb.mk a.l a.never a.free m)/\Ar κ (n+1) (zb.mk a.l a.never a.free m) L:=by
 obtain⟨m,e,i⟩:=H.tick;refine⟨m,?_,i⟩;unfold zR;rw[e];simp only[bS];rw[Ai (lF h)]
 rfl
theorem Ar.getN {κ:Cfg}{n:Nat}{a:zb}{L:Heap}(H:Ar κ n a L){c f:Int}(h:c<0) :
  Do (zR a c f) fun r=>∃ i,r=(-1,i)/\Ar κ (n+1) i L:=by
 obtain⟨m,e,j⟩:=H.Ah (f:=f) h;exact⟨_,e,_,rfl,j⟩
theorem Ar.cell {κ:Cfg}{n:Nat}{a:zb}{L:Heap}(H:Ar κ n a L){c:Nat}{x:zs}(h:(c,x)∈L){f v:Int}(hf:zs.rH x f=some v)(hv:-1<=v)(t:v < κ.C)(h0:0<=f:=by decide)(h1:f<10:=by decide) :
  Do (zE a (c:Int) f) fun r=>∃ j,r=(v,j)/\Ar κ (n+1) j L:=by
 obtain⟨m,e,i⟩:=H.get' h hf h0 h1;unfold zE;rw[e];simp only[bS];by_cases hn:v<0
 ·rw[dT hn];have:v = -1:=by omega
  subst this;exact⟨_,rfl,_,rfl,i⟩
 ·rw[dF hn];have:decide (v >= (a.l.length:Int))=false:=by rw[H.len];exact dF (by omega)
  simp only[cF,bS];rw[this];exact⟨_,rfl,_,rfl,i⟩
theorem Ar.fM {κ:Cfg}{n:Nat}{a:zb}{L:Heap}(H:Ar κ n a L){c f:Int}(h:c<0) :
  Do (zE a c f) fun r=>∃ i,r=(-1,i)/\Ar κ (n+1) i L:=by
 obtain⟨m,e,j⟩:=H.Ah (f:=f) h;unfold zE;rw[e];exact⟨_,rfl,_,rfl,j⟩
theorem getD_set_ne {α:Type}{l:List α}{i j:Nat}{x:α}(h:i≠j):(l.set i x)[j]? = l[j]?:=by
 rw[List.getElem?_set];rw[if_neg h]
theorem Ar.set {κ:Cfg}{n:Nat}{a:zb}{L:Heap}{c:Nat}{x y:zs}(H:Ar κ n a ((c,x)::L)){f v:Int}(hf:zs.qJ x f v=some y)(ht:y.taken=true:=by rfl)(h0:0<=f:=by decide)(h1:f<10:=by decide) :
  Do (zx a (c:Int) f v) fun r=>∃ t,r=(true,t)/\Ar κ (n+1) t ((c,y)::L):=by
 obtain⟨m,e,i⟩:=H.tick;have hm:(c,x)∈(c,x)::L:=List.mem_cons_self ..;unfold zx;rw[e];simp only[bS];rw[Aj (oI i hm) h0 h1];simp only[bS,Bool.not_true,cF];rw[yl,(H.hav _ hm).1];simp only[bS];rw[cq h0 (by omega)];simp only[bS];rw[hf];refine⟨_,rfl,_,rfl,?_⟩;have j:c<a.l.length:=by rw[H.len];exact H.lt hm
 have hnd:=H.nodup;simp only[pC,List.nodup_cons] at hnd;exact { i with
  len:=by simp[mSet,H.len]
  nev:=i.nev
  hav:=by
   intro p hp;rcases List.mem_cons.1 hp with rfl|hp
   ·refine⟨?_,ht⟩;simp only[mSet,tN];rw[List.getElem?_set_self j]
   ·have h2:=H.hav p (mC _ hp);refine⟨?_,h2.2⟩;simp only[mSet,tN];rw[getD_set_ne (fun e=>hnd.1 (by rw[e];exact List.mem_map_of_mem (f:=Prod.fst) hp))];exact h2.1
  oth:=by
   intro d z hz u;simp only[mSet,tN] at hz;by_cases hd:c=d
   ·subst hd;simp
   ·rw[getD_set_ne hd] at hz;have:=H.oth d z hz u;simpa using this }
theorem Ar.setN {κ:Cfg}{n:Nat}{a:zb}{L:Heap}(H:Ar κ n a L){c f v:Int}(h:c<0) :
  Do (zx a c f v) fun r=>∃ i,r=(false,i)/\Ar κ (n+1) i L:=by
 obtain⟨m,e,j⟩:=H.tick;unfold zx;rw[e];simp only[bS];rw[Ai (lF h)];exact⟨_,rfl,_,rfl,j⟩
theorem Ar.cells {κ:Cfg}{n:Nat}{a:zb}{L:Heap}(H:Ar κ n a L):xz a=some (κ.C:Int):=by
 unfold xz;rw[H.len]
def ed:zs:=zs.mk (-1) (-1) (-1) (-1) 0 0 (-1) 0 0 (-1) true
theorem Ar.put {κ:Cfg}{n:Nat}{a:zb}{L:Heap}(H:Ar κ n a L){c N:Nat}{fr:List Int}(y:c < κ.C)(hl:∀ x,a.l[c]? = some x->x.taken=false)(u:N <= κ.C)
  (hp:(c::(L.map Prod.fst++fr.map Int.toNat)).Perm (List.range N)) (j:∀ f∈fr,0<=f):Ar κ n (zb.mk (mSet a.l (c:Int) ed) (N:Int) fr a.m_) ((c,ed)::L):=by
 have t:c<a.l.length:=by rw[H.len];exact y
 have hnd:(c::(L.map Prod.fst++fr.map Int.toNat)).Nodup:=hp.nodup_iff.2 List.nodup_range;have i:c ∉ L.map Prod.fst:=fun h=>(List.nodup_cons.1 hnd).1 (mL _ h)
 exact { H with
  len:=by simp[mSet,H.len]
  nev:=⟨N,rfl,u,by simpa using hp⟩
  fre:=j
  hav:=by
   intro p hp;rcases List.mem_cons.1 hp with rfl|hp
   ·refine⟨?_,rfl⟩;simp only[mSet,tN];rw[List.getElem?_set_self t]
   ·have h2:=H.hav p hp;refine⟨?_,h2.2⟩;simp only[mSet,tN];rw[getD_set_ne (fun e=>i (by rw[e];exact List.mem_map_of_mem (f:=Prod.fst) hp))];exact h2.1
  oth:=by
   intro d z hz A;simp only[mSet,tN] at hz;by_cases hd:c=d
   ·subst hd;simp
   ·rw[getD_set_ne hd] at hz;have:=H.oth d z hz A;simp only[pC,iC];exact Or.inr this }
theorem Ar.take {κ:Cfg}{n:Nat}{a:zb}{L:Heap}(H:Ar κ n a L)(hr:L.length < κ.C) :
  Do (w6 a) fun r=>∃ (c:Nat) (z:zb),r=((c:Int),true,z)/\c ∉ L.map Prod.fst/\Ar κ (n+1) z ((c,ed)::L):=by
 obtain⟨m,e,t⟩:=H.tick;obtain⟨N,u,I,hp⟩:=H.nev;have A:=H.cap;have hlen:=hp.length_eq;simp only[lA,lM,List.length_range] at hlen;unfold w6;rw[e];simp only[bS];rcases List.eq_nil_or_concat a.free with i|⟨fr,c,i⟩
 ·rw[i] at hlen hp ⊢;simp only[List.length_nil,Nat.add_zero] at hlen;rw[dF (by rw[zP] <;> simp),cF,dF (by rw[H.len,u];omega)];simp only[cF,bS,ra];rw[u,yl,List.getElem?_eq_getElem (by rw[H.len];omega)];simp only[bS];have j:N ∉ L.map Prod.fst:=fun h=>by
   have:=hp.mem_iff.1 (mL _ h);simp at this
  refine⟨_,rfl,N,_,rfl,j,?_⟩;rw[zP (by omega) (by omega)];refine t.put (c:=N) (N:=N+1) (fr:=[]) (by omega) (fun x y=>?_) (by omega) ?_ (by simp)
  ·cases ht:x.taken
   ·rfl
   ·exact absurd (t.oth N x y ht) j
  ·rw[List.range_succ];exact (hp.cons N).trans (List.perm_append_singleton N _).symm
 ·rw[List.concat_eq_append] at i;rw[i] at hlen;simp only[lA,List.length_singleton] at hlen;have B:w64 ((a.free.length:Int) - 1)=(fr.length:Int):=by rw[i,zP] <;> simp <;> omega
  rw[B,dT (by omega),cT];have D:mIdx a.free (fr.length:Int)=some c:=by rw[i,yr]
  have F:mCut a.free 0 (fr.length:Int)=some fr:=by
   unfold mCut;rw[if_pos ⟨by omega,by omega,by rw[i];simp;omega⟩,i];simp
  rw[D,F];simp only[bS,ra];have O:0<=c:=H.fre c (by rw[i];simp);obtain⟨c,rfl⟩:∃ d:Nat,c=(d:Int):=⟨c.toNat,by omega⟩
  have l:(c::(L.map Prod.fst++fr.map Int.toNat)).Perm (List.range N):=by
   refine List.Perm.trans ?_ hp;rw[i];simp only[List.map_append,pC,List.map_nil,tN];rw[<- aA];exact (List.perm_append_singleton c _).symm
  have J:c<N:=by
   have:=l.mem_iff.1 (List.mem_cons_self ..);simpa using this
  have j:c ∉ L.map Prod.fst:=fun h=>(List.nodup_cons.1 (l.nodup_iff.2 List.nodup_range)).1 (mL _ h)
  rw[yl,List.getElem?_eq_getElem (by rw[H.len];omega)];simp only[bS];refine⟨_,rfl,c,_,rfl,j,?_⟩;rw[u];refine t.put (c:=c) (N:=N) (fr:=fr) (by omega) (fun x y=>?_) I l (fun f hf=>H.fre f (by rw[i];simp[hf]));cases ht:x.taken
  ·rfl
  ·exact absurd (t.oth c x y ht) j
theorem Ar.give {κ:Cfg}{n:Nat}{a:zb}{L:Heap}{c:Nat}{x:zs}(H:Ar κ n a ((c,x)::L)) :
  Do (w5 a (c:Int)) fun r=>∃ (t:zb),r=(true,t)/\Ar κ (n+1) t L:=by
 obtain⟨m,e,j⟩:=H.tick;have hm:(c,x)∈(c,x)::L:=List.mem_cons_self ..;obtain⟨N,A,B,hp⟩:=H.nev;have u:=H.cap;have hlen:=hp.length_eq;simp only[lA,lM,List.length_range,lC] at hlen;unfold w5;rw[e];simp only[bS];rw[oI j hm];simp only[bS,Bool.not_true,cF];rw[yl,(H.hav _ hm).1];simp only[bS];rw[y4 (by simp only[List.length_singleton];omega)];refine⟨_,rfl,_,rfl,?_⟩;have i:c<a.l.length:=by rw[H.len];exact H.lt hm
 have hnd:=H.nodup;simp only[pC,List.nodup_cons] at hnd;exact { j with
  len:=by simp[mSet,H.len]
  nev:=⟨N,A,B,by
   refine List.Perm.trans ?_ hp;simp only[List.map_append,pC,List.map_nil,tN];rw[<- aA];exact List.perm_append_singleton c _⟩
  fre:=by
   intro f hf;rcases List.mem_append.1 hf with hf|hf
   ·exact H.fre f hf
   ·simp at hf;omega
  hav:=by
   intro p hp;have h2:=H.hav p (mC _ hp);refine⟨?_,h2.2⟩;simp only[mSet,tN];rw[getD_set_ne (fun e=>hnd.1 (by rw[e];exact List.mem_map_of_mem (f:=Prod.fst) hp))];exact h2.1
  oth:=by
   intro d z hz y;simp only[mSet,tN] at hz;by_cases hd:c=d
   ·subst hd;rw[List.getElem?_set_self i] at hz;cases hz;simp at y
   ·rw[getD_set_ne hd] at hz;have:=H.oth d z hz y;simp only[pC,iC] at this;rcases this with rfl|h
    ·exact absurd rfl hd
    ·exact h }
theorem nI {C:Nat}(h:C<=65536):∃ a,qS (C:Int)=some a/\Ar ⟨C,0,0,0⟩ 0 a []:=by
 unfold qS;have e:(if (if (65536:Int)<(C:Int) then 65536 else (C:Int)) > 0 then (if (65536:Int)<(C:Int) then 65536 else (C:Int)) else 0)=(C:Int):=by
  split <;> split <;> omega
 rw[e];unfold gz o9;rw[if_pos (by omega)];refine⟨_,rfl,?_⟩;refine⟨by simp,h,⟨0,rfl,by simp,by simp⟩,by simp,by simp,?_,by simp,by simp,by simp,by simp,rfl,rfl⟩;intro c x i ht;simp only[tN] at i;obtain⟨h1,h2⟩:=List.getElem?_eq_some_iff.1 i;rw[List.getElem_replicate] at h2;subst h2;simp at ht
end
noncomputable section
set_option maxRecDepth 10000
structure It where
 i:Nat
 k:Int
 s:Int
def It.lt (x y:It):Prop:=x.k<y.k \/ (x.k=y.k/\(x.s<y.s \/ (x.s=y.s/\x.i<y.i)))
instance (x y:It):Decidable (x.lt y):=by unfold It.lt;exact inferInstance
theorem It.lt_irrefl (x:It):¬ x.lt x:=by unfold It.lt;omega
theorem It.le_trans {x y z:It}(h:¬ y.lt x)(e:¬ z.lt y):¬ z.lt x:=by unfold It.lt at *;omega
theorem It.lt_asymm {x y:It}(h:x.lt y):¬ y.lt x:=by unfold It.lt at *;omega
theorem It.le_of_lt {x y z:It}(h:¬ y.lt x)(e:z.lt x):z.lt y:=by unfold It.lt at *;omega
theorem It.iz {x y z:It}(h:x.lt y)(e:¬ z.lt y):x.lt z:=by unfold It.lt at *;omega
structure Nd where
 c:Nat
 up:Int
 down:Int
 left:Int
 right:Int
 rank:Int
 mark:Int
def Nd.cell (ν:Nd)(i:Nat):zs:=zs.mk ν.up ν.down ν.left ν.right ν.rank ν.mark (i:Int) 0 0 (-1) true
def It.cell (x:It)(n:Int):zs:=zs.mk (-1) (-1) (-1) (-1) 0 0 (-1) x.k x.s n true
def pr (it:Nat->It)(ν:Nd):Heap:=[(ν.c,ν.cell (it ν.c).i),((it ν.c).i,(it ν.c).cell ν.c)]
def lay (it:Nat->It)(N:List Nd):Heap:=N.flatMap (pr it)
theorem vk (it:Nat->It)(ν:Nd)(N:List Nd):lay it (ν :: N)=(ν.c,ν.cell (it ν.c).i)::((it ν.c).i,(it ν.c).cell ν.c)::lay it N:=rfl
theorem p8 (it:Nat->It)(M N:List Nd):lay it (M++N)=lay it M++lay it N:=List.flatMap_append
theorem dP {it:Nat->It}{M N:List Nd}(h:M.Perm N):(lay it M).Perm (lay it N):=h.flatMap_right _
theorem qg (it:Nat->It):∀ N:List Nd,(lay it N).length=2*N.length
 | []=>rfl
 | ν :: N=>by rw[vk];simp only[lC,qg it N];omega
theorem vX {it it':Nat->It}:∀ {N:List Nd},(∀ ν ∈ N,it' ν.c=it ν.c)->lay it' N=lay it N
 | [],_=>rfl
 | ν :: N,h=>by
  rw[vk,vk,h ν (List.mem_cons_self ..),vX (N:=N) fun μ e=>h μ (mC _ e)]
theorem lH {it:Nat->It}{ν:Nd}:∀ {N:List Nd},ν ∈ N->(ν.c,ν.cell (it ν.c).i)∈lay it N/\((it ν.c).i,(it ν.c).cell ν.c)∈lay it N:=fun {N} h =>
 ⟨List.mem_flatMap.2 ⟨ν,h,by simp[pr]⟩,List.mem_flatMap.2 ⟨ν,h,by simp[pr]⟩⟩
def Hp (κ:Cfg)(n:Nat)(a:zb)(it:Nat->It)(N:List Nd)(L:Heap):Prop:=Ar κ n a (lay it N++L)
section
variable {κ:Cfg} {n:Nat} {a:zb} {it:Nat->It} {N:List Nd} {L:Heap}
theorem Hp.p {M:List Nd}(H:Hp κ n a it N L)(h:N.Perm M):Hp κ n a it M L:=Ar.p H ((dP h).append_right _)
theorem Hp.mono {m:Nat}(H:Hp κ n a it N L)(h:n<=m):Hp κ m a it N L:=Ar.mono H h
theorem Hp.node (H:Hp κ n a it N L){ν:Nd}(h:ν ∈ N):(ν.c,ν.cell (it ν.c).i)∈lay it N++L:=mL _ (lH h).1
theorem Hp.item (H:Hp κ n a it N L){ν:Nd}(h:ν ∈ N):((it ν.c).i,(it ν.c).cell ν.c)∈lay it N++L:=mL _ (lH h).2
theorem Hp.lt (H:Hp κ n a it N L){ν:Nd}(h:ν ∈ N):ν.c < κ.C:=Ar.lt H (H.node h)
theorem Hp.itlt (H:Hp κ n a it N L){ν:Nd}(h:ν ∈ N):(it ν.c).i < κ.C:=Ar.lt H (H.item h)
theorem Hp.live (H:Hp κ n a it N L){ν:Nd}(h:ν ∈ N):yb a (ν.c:Int)=some true:=oI H (H.node h)
theorem Hp.room (H:Hp κ n a it N L):2*N.length+L.length <= κ.C:=by
 have:=Ar.room H;rw[lA,qg] at this;exact this
theorem su (it:Nat->It):∀ N:List Nd,((lay it N).map Prod.fst).Perm (N.map Nd.c++N.map fun ν=>(it ν.c).i)
 | []=>.refl _
 | ν :: N=>by
  rw[vk];simp only[pC,List.cons_append];refine List.Perm.cons _ ?_;exact ((su it N).cons _).trans List.perm_middle.symm
theorem Hp.nodup (H:Hp κ n a it N L):((N.map Nd.c++N.map fun ν=>(it ν.c).i)++L.map Prod.fst).Nodup:=by
 have:=Ar.nodup H;rw[List.map_append] at this;exact ((su it N).append_right _).nodup_iff.1 this
theorem Hp.nd (H:Hp κ n a it N L):(N.map Nd.c).Nodup:=(List.nodup_append.1 (List.nodup_append.1 H.nodup).1).1
theorem Hp.ne {ν μ:Nd}(H:Hp κ n a it (ν :: μ :: N) L):ν.c ≠ μ.c:=by
 have:=H.nd;simp only[pC,List.nodup_cons,iC,not_or] at this;exact this.1.1
theorem Hp.dW {ν:Nd}(H:Hp κ n a it (ν :: N) L):∀ μ ∈ N,μ.c ≠ ν.c:=by
 have:=H.nd;simp only[pC,List.nodup_cons] at this;exact fun μ i e=>this.1 (e ▸ List.mem_map_of_mem (f:=Nd.c) i)
theorem Hp.same (H:Hp κ n a it N L){ν μ:Nd}(h:ν ∈ N)(i:μ ∈ N)(e:ν.c = μ.c):ν = μ:=by
 obtain⟨l1,l2,rfl⟩:=List.append_of_mem h;have hp:(l1 ++ ν :: l2).Perm (ν :: (l1++l2)):=List.perm_middle;rcases List.mem_cons.1 (hp.mem_iff.1 i) with r|r
 ·exact r.symm
 ·exact absurd e.symm ((H.p hp).dW μ r)
theorem Hp.get (H:Hp κ n a it N L){ν:Nd}(h:ν ∈ N){f v:Int}(hf:zs.rH (ν.cell (it ν.c).i) f=some v:=by rfl)(h0:0<=f:=by decide)(h1:f<10:=by decide) :
  Do (zR a (ν.c:Int) f) fun r=>∃ e,r=(v,e)/\Hp κ (n+1) e it N L:=Ar.get H (H.node h) hf h0 h1
theorem Hp.getc (H:Hp κ n a it N L){ν:Nd}(h:ν ∈ N){f v:Int}(hv:-1<=v)(j:v < κ.C)(hf:zs.rH (ν.cell (it ν.c).i) f=some v:=by rfl)(h0:0<=f:=by decide)(h1:f<10:=by decide) :
  Do (zE a (ν.c:Int) f) fun r=>∃ e,r=(v,e)/\Hp κ (n+1) e it N L:=Ar.cell H (H.node h) hf hv j h0 h1
theorem Hp.geti (H:Hp κ n a it N L){ν:Nd}(h:ν ∈ N) :
  Do (zE a (ν.c:Int) 6) fun r=>∃ e,r=(((it ν.c).i:Int),e)/\Hp κ (n+1) e it N L:=H.getc h (by omega) (by have:=H.itlt h;omega)
theorem Hp.getN (H:Hp κ n a it N L){c f:Int}(h:c<0):Do (zR a c f) fun r=>∃ e,r=(-1,e)/\Hp κ (n+1) e it N L:=Ar.getN H h
theorem Hp.fM (H:Hp κ n a it N L){c f:Int}(h:c<0):Do (zE a c f) fun r=>∃ e,r=(-1,e)/\Hp κ (n+1) e it N L:=Ar.fM H h
theorem Hp.set {ν:Nd}(H:Hp κ n a it (ν :: N) L)(μ:Nd){f v:Int}(l:μ.c = ν.c:=by rfl)(hf:zs.qJ (ν.cell (it ν.c).i) f v=some (μ.cell (it ν.c).i):=by rfl)(h0:0<=f:=by decide)(h1:f<10:=by decide) :
  Do (zx a (ν.c:Int) f v) fun r=>∃ e,r=(true,e)/\Hp κ (n+1) e it (μ :: N) L:=by
 unfold Hp at H;rw[vk] at H;refine (Ar.set H hf rfl h0 h1).mono ?_;rintro _ ⟨e,rfl,j⟩;refine⟨e,rfl,?_⟩;unfold Hp;rw[vk,l];exact j
theorem Hp.setN (H:Hp κ n a it N L){c f v:Int}(h:c<0):Do (zx a c f v) fun r=>∃ e,r=(false,e)/\Hp κ (n+1) e it N L:=Ar.setN H h
theorem mJ {L:Heap}(H:Ar κ n a L){x:It}{p:Int}(h:(x.i,x.cell p)∈L) :
  Do (sS a (x.i:Int)) fun r=>∃ e,r=(zi.mk x.k x.s,e)/\Ar κ (n+2) e L:=by
 unfold sS;refine (H.get h rfl).bind ?_;rintro _ ⟨a1,rfl,H⟩;refine (H.get h rfl).bind ?_;rintro _ ⟨a2,rfl,H⟩;exact⟨_,rfl,_,rfl,H⟩
theorem An (x:Int):vC x=some false:=by unfold vC;simp
def sgn (x y:Int):Int:=if x<y then -1 else if x > y then 1 else 0
theorem cC (x y:Int):(sgn x y = -1/\x<y) \/ (sgn x y=1/\y<x) \/ (sgn x y=0/\x=y):=by
 unfold sgn;split
 ·exact Or.inl ⟨rfl,by assumption⟩
 ·split
  ·exact Or.inr (Or.inl ⟨rfl,by omega⟩)
  ·exact Or.inr (Or.inr ⟨rfl,by omega⟩)
theorem oQ (x y:Int):wO x y=some (sgn x y):=by
 unfold wO sgn;rw[An,An];simp only[bS,cF];by_cases h:x<y
 ·simp[h]
 ·by_cases e:x > y
  ·simp[h,e]
  ·simp[h,e]
theorem AB {k:Nat}(hk:3<=k)(x y:Int):qb k [x,y]=some (if x≠0 then x else y):=by
 obtain⟨m,rfl⟩:∃ m,k=m+3:=⟨k - 3,by omega⟩
 unfold qb;rw[vJ];rw[show (([x,y]:List Int).length:Int)=2 from rfl];rw[show decide ((0:Int)<2)=true from rfl,cT,show mIdx [x,y] 0=some x from rfl];simp only[bS];by_cases h:x=0
 ·subst h;rw[show ((0:Int) != 0)=false from rfl,cF,show w64 (0+1)=1 from rfl,vJ];rw[show decide ((1:Int)<2)=true from rfl,cT,show mIdx [0,y] 1=some y from rfl];simp only[bS];by_cases e:y=0
  ·subst e;rw[show ((0:Int) != 0)=false from rfl,cF,show w64 (1+1)=2 from rfl,vJ]
   rfl
  ·rw[show (y != 0)=true by simp[e],cT];simp
 ·rw[show (x != 0)=true by simp[h],cT];simp[h]
theorem ke {k:Nat}(hk:3<=k)(x y:zi):wF k x y=some (if sgn x.Key y.Key≠0 then sgn x.Key y.Key else sgn x.Serial y.Serial):=by
 unfold wF;rw[oQ,oQ];simp only[bS];rw[AB hk]
 rfl
theorem kb {k:Nat}(hk:3<=k){L:Heap}(H:Ar κ n a L){x y:It}{p q:Int}(h:(x.i,x.cell p)∈L)(l:(y.i,y.cell q)∈L) :
  Do (rh k a (x.i:Int) (y.i:Int)) fun r=>∃ j,r=(decide (x.lt y),j)/\Ar κ (n+4) j L:=by
 unfold rh;refine (mJ H h).bind ?_;rintro _ ⟨a1,rfl,H⟩;refine (mJ H l).bind ?_;rintro _ ⟨a2,rfl,H⟩;refine Do.seq (ke hk _ _) ?_;refine⟨_,rfl,a2,?_,H⟩;refine Prod.ext ?_ rfl;rw[Bool.eq_iff_iff];simp only[Bool.or_eq_true,Bool.and_eq_true,decide_eq_true_eq,beq_iff_eq];unfold It.lt;rcases cC x.k y.k with ⟨e,h1⟩|⟨e,h1⟩|⟨e,h1⟩ <;> rw[e]
 ·exact⟨fun _=>Or.inl h1,fun _=>Or.inl (by rw[if_pos (by decide)];decide)⟩
 ·rw[if_pos (by decide)];refine⟨fun h=>?_,fun h=>?_⟩
  ·rcases h with h|h
   ·exact absurd h (by decide)
   ·exact absurd h.1 (by decide)
  ·omega
 ·rw[if_neg (by decide)];rcases cC x.s y.s with ⟨e,h2⟩|⟨e,h2⟩|⟨e,h2⟩ <;> rw[e]
  ·exact⟨fun _=>Or.inr ⟨h1,Or.inl h2⟩,fun _=>Or.inl (by decide)⟩
  ·refine⟨fun h=>?_,fun h=>?_⟩
   ·rcases h with h|h
    ·exact absurd h (by decide)
    ·exact absurd h.1 (by decide)
   ·omega
  ·refine⟨fun h=>?_,fun h=>?_⟩
   ·rcases h with h|h
    ·exact absurd h (by decide)
    ·exact Or.inr ⟨h1,Or.inr ⟨h2,by omega⟩⟩
   ·refine Or.inr ⟨rfl,by omega⟩
theorem Hp.before {k:Nat}(hk:3<=k)(H:Hp κ n a it N L){ν μ:Nd}(h:ν ∈ N)(i:μ ∈ N) :
  Do (vF k a (ν.c:Int) (μ.c:Int)) fun r=>∃ e,r=(decide ((it ν.c).lt (it μ.c)),e)/\Hp κ (n+6) e it N L:=by
 unfold vF;refine (H.geti h).bind ?_;rintro _ ⟨a1,rfl,H⟩;refine (H.geti i).bind ?_;rintro _ ⟨a2,rfl,H⟩;refine (kb hk H (H.item h) (H.item i)).bind ?_;rintro _ ⟨a3,rfl,H⟩;exact⟨_,rfl,_,rfl,H⟩
theorem lB {L:Heap}(H:Ar κ n a L)(hr:L.length < κ.C)(key serial:Int) :
  Do (oE a key serial) fun r=>∃ (i:Nat) (e:zb),r=((i:Int),true,e)/\i ∉ L.map Prod.fst/\Ar κ (n+3) e ((i,(It.mk i key serial).cell (-1))::L):=by
 unfold oE;refine (H.take hr).bind ?_;rintro _ ⟨c,a1,rfl,j,H⟩;refine Do.tb rfl ?_;refine Do.assoc ((H.set rfl).bind ?_);rintro _ ⟨a2,rfl,H⟩;refine Do.assoc ((H.set rfl).bind ?_);rintro _ ⟨a3,rfl,H⟩;exact⟨_,rfl,c,_,rfl,j,H⟩
def upd (it:Nat->It)(c:Nat)(x:It):Nat->It:=fun d=>if d=c then x else it d
theorem uj (it:Nat->It)(c:Nat)(x:It):upd it c x c=x:=by simp[upd]
theorem vv (it:Nat->It){c d:Nat}(x:It)(h:d≠c):upd it c x d=it d:=by simp[upd,h]
def swp (it:Nat->It)(c d:Nat):Nat->It:=upd (upd it c (it d)) d (it c)
theorem ry {x:It}(H:Hp κ n a it N ((x.i,x.cell (-1))::L))(hr:2*N.length+1+L.length < κ.C) :
  Do (qi a (x.i:Int)) fun r=>∃ (c:Nat) (l:zb),r=((c:Int),true,l)/\Hp κ (n+3) l (upd it c x) (⟨c,-1,-1,-1,-1,0,0⟩::N) L /\ ∀ ν ∈ N,ν.c≠c:=by
 unfold qi qf;simp only[Option.bind_assoc,bS];have hl:(lay it N++(x.i,x.cell (-1))::L).length < κ.C:=by simp only[lA,lC,qg];omega
 refine (Ar.take H hl).bind ?_;rintro _ ⟨c,a1,rfl,z,H⟩;refine Do.tb rfl ?_;refine Do.assoc ((Ar.set H rfl).bind ?_);rintro _ ⟨a2,rfl,H⟩;have H1:Ar κ (n+2) a2 ((c,(Nd.mk c (-1) (-1) (-1) (-1) 0 0).cell x.i)::(lay it N++(x.i,x.cell (-1))::L)):=H;have t:Ar κ (n+2) a2 ((x.i,x.cell (-1))::(c,(Nd.mk c (-1) (-1) (-1) (-1) 0 0).cell x.i)::(lay it N++L)):=H1.p (pm fun p=>by simp only[List.count_cons,List.count_append];omega);refine Do.assoc ((Ar.set t (y:=x.cell c) rfl).bind ?_);rintro _ ⟨a3,rfl,u⟩;have hn:∀ ν ∈ N,ν.c≠c:=fun ν j e=>z (by
  rw[List.map_append];exact mL _ (e ▸ List.mem_map_of_mem (f:=Prod.fst) (lH (it:=it) j).1))
 refine⟨_,rfl,c,_,rfl,?_,hn⟩;unfold Hp;rw[vk];simp only[uj];rw[vX (it:=it) (it':=upd it c x) fun ν j=>vv _ _ (hn ν j)];exact u.t2
theorem rv {ν:Nd}(H:Hp κ n a it (ν :: N) L) :
  Do (ru a (ν.c:Int)) fun r=>∃ (e:zb),r=(((it ν.c).i:Int),e)/\Hp κ (n+3) e it N (((it ν.c).i,(it ν.c).cell (-1))::L):=by
 unfold ru;refine (H.geti (List.mem_cons_self ..)).bind ?_;rintro _ ⟨a1,rfl,H⟩;unfold Hp at H;rw[vk] at H;refine (Ar.set H.t2 (y:=(it ν.c).cell (-1)) rfl).bind ?_;rintro _ ⟨a2,rfl,H⟩;refine (Ar.give H.t2).bind ?_;rintro _ ⟨a3,rfl,H⟩;refine⟨_,rfl,_,rfl,?_⟩;unfold Hp;exact H.p List.perm_middle.symm
theorem qw {ν μ:Nd}(H:Hp κ n a it (ν :: μ :: N) L) :
  Do (sT a (ν.c:Int) (μ.c:Int)) fun t=>Hp κ (n+6) t (swp it ν.c μ.c) (ν :: μ :: N) L:=by
 unfold sT qf;simp only[Option.bind_assoc,bS];have j:=H.ne;have l:∀ ξ ∈ N,ξ.c ≠ ν.c /\ ξ.c ≠ μ.c:=by
  intro ξ e;refine⟨H.dW ξ (mC _ e),?_⟩;have hp:(ν :: μ :: N).Perm (μ :: ν :: N):=List.Perm.swap ..;exact (H.p hp).dW ξ (mC _ e)
 refine (H.geti (List.mem_cons_self ..)).bind ?_;rintro _ ⟨a1,rfl,H⟩;refine (H.geti (mC _ (List.mem_cons_self ..))).bind ?_;rintro _ ⟨a2,rfl,H⟩;unfold Hp at H;rw[vk,vk] at H;refine (Ar.set H (y:=ν.cell (it μ.c).i) rfl).bind ?_;rintro _ ⟨a3,rfl,H⟩;refine (Ar.set (Ar.t4 H) (y:=(it μ.c).cell ν.c) rfl).bind ?_;rintro _ ⟨a4,rfl,H⟩;refine (Ar.set (Ar.t4 H) (y:=μ.cell (it ν.c).i) rfl).bind ?_;rintro _ ⟨a5,rfl,H⟩;refine (Ar.set (Ar.t4 H) (y:=(it ν.c).cell μ.c) rfl).bind ?_;rintro _ ⟨u,rfl,H⟩;refine⟨_,rfl,?_⟩;unfold Hp;rw[vk,vk];have x:swp it ν.c μ.c ν.c=it μ.c:=by simp[swp,upd,j]
 have z:swp it ν.c μ.c μ.c=it ν.c:=by simp[swp,upd]
 rw[x,z,vX (it:=it) (it':=swp it ν.c μ.c) fun ξ e=>by simp[swp,upd,l ξ e]];exact (show Ar κ (n+6) u (_::_::_::_::(lay it N++L)) from H).p (pm fun p=>by simp only[List.count_cons,List.cons_append];omega)
theorem o6 {L:Heap}{x:It}{p:Int}(H:Ar κ n a ((x.i,x.cell p)::L)){key:Int}(hk:key<=x.k) :
  Do (tF a (x.i:Int) key) fun r=>∃ (e:zb),r=(true,e)/\Ar κ (n+2) e ((x.i,(It.mk x.i key x.s).cell p)::L):=by
 unfold tF;refine Do.assoc ((H.get (List.mem_cons_self ..) rfl).bind ?_);rintro _ ⟨a1,rfl,H⟩;refine Do.f (dF (by simp only[It.cell];omega)) ?_;refine (Ar.set H (y:=(It.mk x.i key x.s).cell p) rfl).bind ?_;rintro _ ⟨a2,rfl,H⟩;exact⟨_,rfl,_,rfl,H⟩
end
end
noncomputable section
set_option maxRecDepth 10000
inductive F where
 | nil:F
 | cons (c r:Nat) (kids rest:F):F
def F.hd:F->Int
 | .nil=>-1
 | .cons c _ _ _=>(c:Int)
def F.size:F->Nat
 | .nil=>0
 | .cons _ _ kids rest=>kids.size+rest.size+1
structure Tr where
 c:Nat
 r:Nat
 kids:F
def F.trees:F->List Tr
 | .nil=>[]
 | .cons c r kids rest=>⟨c,r,kids⟩::rest.trees
def F.of:List Tr->F
 | []=>.nil
 | t::e=>.cons t.c t.r t.kids (F.of e)
theorem F.oL:∀ e:List Tr,(F.of e).trees=e
 | []=>rfl
 | t::e=>by rw[F.of,F.trees,F.oL e]
def Tr.under (t l:Tr):Tr:=⟨t.c,t.r+1,.cons l.c l.r l.kids t.kids⟩
def nd:F->Int->List Nd
 | .nil,_=>[]
 | .cons c r kids rest,up=>⟨c,up,kids.hd,-1,rest.hd,r,0⟩::(nd kids c++nd rest up)
def Tr.nd (t:Tr)(u w:Int):List Nd:=⟨t.c,u,t.kids.hd,-1,w,t.r,0⟩::Go.Proofs.YtojpmaakhdmhmaaGreat.nd t.kids t.c
structure Lt where
 t:Tr
 u:Int
 w:Int
def Lt.nd (l:Lt):List Nd:=l.t.nd l.u l.w
def LN (ls:List Lt):List Nd:=ls.flatMap Lt.nd
theorem tK (l:Lt)(ls:List Lt):LN (l::ls)=l.nd++LN ls:=rfl
theorem wN (l m:List Lt):LN (l++m)=LN l++LN m:=List.flatMap_append
theorem jo {l m:List Lt}(h:l.Perm m):(LN l).Perm (LN m):=h.flatMap_right _
def F.loose:F->Int->List Lt
 | .nil,_=>[]
 | .cons c r kids rest,up=>⟨⟨c,r,kids⟩,up,rest.hd⟩::rest.loose up
theorem wM:∀ (f:F) (up:Int),nd f up=LN (f.loose up)
 | .nil,_=>rfl
 | .cons c r kids rest,up=>by
  rw[F.loose,tK,nd,wM rest up];rfl
theorem xo:∀ (f:F) (up:Int),(f.loose up).map Lt.t=f.trees
 | .nil,_=>rfl
 | .cons c r kids rest,up=>by rw[F.loose,pC,xo rest up,F.trees]
def F.cells:F->List Nat
 | .nil=>[]
 | .cons c _ kids rest=>c::(kids.cells++rest.cells)
def Tr.cells (t:Tr):List Nat:=t.c::t.kids.cells
def TC (e:List Tr):List Nat:=e.flatMap Tr.cells
theorem y0:∀ (f:F) (up:Int),(nd f up).map Nd.c=f.cells
 | .nil,_=>rfl
 | .cons c r kids rest,up=>by rw[nd,pC,List.map_append,y0,y0,F.cells]
theorem F.yS:∀ f:F,f.cells=TC f.trees
 | .nil=>rfl
 | .cons c r kids rest=>by rw[F.cells,F.trees,F.yS rest];rfl
theorem F.wT:∀ f:F,f.cells.length=f.size
 | .nil=>rfl
 | .cons c r kids rest=>by rw[F.cells,F.size,lC,lA,F.wT,F.wT]
theorem rR (f:F)(up:Int):(nd f up).length=f.size:=by
 rw[<- F.wT,<- y0 f up,lM]
theorem jW:∀ ls:List Lt,(LN ls).map Nd.c=TC (ls.map Lt.t)
 | []=>rfl
 | l::ls=>by
  rw[tK,List.map_append,jW ls,pC];show (⟨l.t.c,l.u,l.t.kids.hd,-1,l.w,l.t.r,0⟩::nd l.t.kids l.t.c:List Nd).map Nd.c++_=_;rw[pC,y0];rfl
section
variable {κ:Cfg} {n:Nat} {a:zb} {it:Nat->It} {N:List Nd} {L:Heap}
theorem qC (H:Hp κ n a it N L){f:F}{up:Int}(h:∀ ν ∈ nd f up,ν ∈ N):-1<=f.hd/\f.hd < κ.C:=by
 cases f with
 | nil=>simp only[F.hd];omega
 | cons c r kids rest =>
  have:=H.lt (h _ (List.mem_cons_self ..));simp only[F.hd];simp only at this;omega
def F.roots:F->List Int
 | .nil=>[]
 | .cons c _ _ rest=>(c:Int)::rest.roots
theorem qH:∀ f:F,f.roots=f.trees.map fun t=>(t.c:Int)
 | .nil=>rfl
 | .cons c r kids rest=>by rw[F.roots,F.trees,pC,qH rest]
def F.len (f:F):Nat:=f.trees.length
theorem F.vn:∀ f:F,f.len<=f.size
 | .nil=>Nat.le_refl _
 | .cons c r kids rest=>by
  have:=F.vn rest;simp only[F.len,F.trees,F.size,lC] at *;omega
theorem eS:∀ (f:F) (up:Int) {n:Nat}{a:zb} (H:Hp κ n a it N L) (hs:∀ ν ∈ nd f up,ν ∈ N) (m:Nat) (out:List Int),f.len<m->out.length+f.len <= κ.C ->
  Do (uW 3 m f.hd out a) fun r=>∃ i,r=(out++f.roots,i)/\Hp κ (n+f.len) i it N L
 | .nil,up,n,a,H,hs,m,out,hm,l=>by
  obtain⟨m,rfl⟩:∃ q,m=q+1:=⟨m - 1,by omega⟩
  rw[uW];refine Do.assoc (Do.seq (lF (by decide)) ?_);exact⟨_,rfl,a,by simp[F.roots],H⟩
 | .cons c r kids rest,up,n,a,H,hs,m,out,hm,l=>by
  obtain⟨m,rfl⟩:∃ q,m=q+1:=⟨m - 1,by omega⟩
  have hlen:(F.cons c r kids rest).len=rest.len+1:=rfl;rw[hlen] at hm l ⊢;have u:=hs _ (List.mem_cons_self ..);have e:∀ ν ∈ nd rest up,ν ∈ N:=fun ν h=>hs ν (mC _ (List.mem_append_right _ h))
  rw[uW];refine Do.assoc (Do.seq (H.live u) (Do.tb rfl ?_));refine Do.assoc (Do.seq (Ar.cells H) ?_);have j:=H.cap;refine Do.seq rfl (Do.t (dT (by omega)) ?_);refine Do.seq (y4 (by simp only[List.length_singleton];omega)) ?_;have hh:=qC H e;refine (H.getc u (f:=3) hh.1 hh.2).bind ?_;rintro _ ⟨a1,rfl,H⟩;refine (eS rest up H e m (out++[(c:Int)]) (by omega) (by simp only[lA,List.length_singleton];omega)).mono ?_;rintro _ ⟨a2,rfl,H⟩;exact⟨a2,by simp[F.roots],H.mono (by omega)⟩
theorem rT:∀ {l m:List Nat},l.Nodup->(∀ x∈l,x∈m)->l.length<=m.length
 | [],_,_,_=>Nat.zero_le _
 | x::l,m,hn,hs=>by
  obtain⟨h1,h2⟩:=List.nodup_cons.1 hn;have j:=hs x (List.mem_cons_self ..);have:=rT (m:=m.erase x) h2 fun y t=>by
   have i:y≠x:=fun e=>h1 (e ▸ t)
   exact (List.mem_erase_of_ne i).2 (hs y (mC _ t))
  rw[List.length_erase_of_mem j] at this;have:0<m.length:=List.length_pos_of_mem j;simp only[lC];omega
end
theorem m6 {κ:Cfg}{n:Nat}{a:zb}{it:Nat->It}{N:List Nd}{L:Heap}{ν μ:Nd}(H:Hp κ n a it (ν :: μ :: N) L)(h0:-1 <= μ.down)(h1:μ.down < κ.C) :
  Do (uv a (ν.c:Int) (μ.c:Int)) fun i=>Hp κ (n+4) i it (⟨ν.c,μ.c,ν.down,ν.left,μ.down,ν.rank,ν.mark⟩::⟨μ.c,μ.up,ν.c,μ.left,μ.right,μ.rank,μ.mark⟩::N) L:=by
 unfold uv;refine (H.getc (mC _ (List.mem_cons_self ..)) (f:=1) h0 h1).bind ?_;rintro _ ⟨a1,rfl,H⟩;refine (H.set ⟨ν.c,ν.up,ν.down,ν.left,μ.down,ν.rank,ν.mark⟩).bind ?_;rintro _ ⟨a2,rfl,H⟩;refine (H.set (ν:=⟨ν.c,ν.up,ν.down,ν.left,μ.down,ν.rank,ν.mark⟩) ⟨ν.c,μ.c,ν.down,ν.left,μ.down,ν.rank,ν.mark⟩).bind ?_;rintro _ ⟨a3,rfl,H⟩;have e:=H.p (List.Perm.swap ..);refine (e.set ⟨μ.c,μ.up,ν.c,μ.left,μ.right,μ.rank,μ.mark⟩).bind ?_;rintro _ ⟨a4,rfl,e⟩;exact⟨_,rfl,e.p (List.Perm.swap ..)⟩
def lk (it:Nat->It)(s t:Tr):Tr:=if (it t.c).lt (it s.c) then t.under s else s.under t
theorem npm {l l':List Nd}(h:∀ p:Nd->Bool,l.countP p=l'.countP p):l.Perm l':=by
 classical
 exact List.perm_iff_count.2 fun x=>h _
theorem linked {κ:Cfg}{n:Nat}{a:zb}{it:Nat->It}{N:List Nd}{L:Heap}{s t:Tr}{u w l w':Int}{r:Nat}(H:Hp κ n a it (s.nd u w++(t.nd l w'++N)) L)(hs:s.r=r)(B:r<1000) :
  Do ((uv a (t.c:Int) (s.c:Int)).bind fun e=>(zx e (s.c:Int) 4 (w64 ((r:Int)+1))).bind fun i=>some ((s.c:Int),i.2)) fun res=>∃ j,res=((s.c:Int),j)/\Hp κ (n+5) j it ((s.under t).nd u w++N) L:=by
 have H1:Hp κ n a it (⟨t.c,l,t.kids.hd,-1,w',t.r,0⟩::⟨s.c,u,s.kids.hd,-1,w,s.r,0⟩::(nd s.kids s.c++(nd t.kids t.c++N))) L:=by
  refine H.p (npm fun p=>?_);simp only[Tr.nd,List.countP_cons,List.countP_append];omega
 have hh:=qC H1 (f:=s.kids) (up:=s.c) fun ν h=>mC _ (mC _ (mL _ h))
 refine (m6 H1 hh.1 hh.2).bind ?_;intro a1 x;have y:=x.p (List.Perm.swap ..);rw[zP (by omega) (by omega)];refine (y.set ⟨s.c,u,t.c,-1,w,(r:Int)+1,0⟩ rfl rfl).bind ?_;rintro _ ⟨a2,rfl,z⟩;refine⟨_,rfl,_,rfl,?_⟩;have:(((s.under t).r:Nat):Int)=(r:Int)+1:=by simp only[Tr.under,hs];omega
 have A:=z.p (M:=(s.under t).nd u w++N) (npm fun p=>by
  simp only[Tr.nd,this];simp only[Tr.under,nd,F.hd,List.countP_cons,List.countP_append];omega)
 exact A
theorem ey {κ:Cfg}{n:Nat}{a:zb}{it:Nat->It}{N:List Nd}{L:Heap}{k:Nat}(hk:3<=k){s t:Tr}{u w e w':Int}{r:Nat}(H:Hp κ n a it (s.nd u w++(t.nd e w'++N)) L)(hs:s.r=r)(ht:t.r=r)(l:r<1000) :
  Do (u1 k a (s.c:Int) (t.c:Int) (r:Int)) fun res=>∃ u w j,res=(((lk it s t).c:Int),j)/\Hp κ (n+11) j it ((lk it s t).nd u w++N) L:=by
 unfold u1;have m1:(⟨s.c,u,s.kids.hd,-1,w,s.r,0⟩:Nd)∈s.nd u w++(t.nd e w'++N):=mL _ (List.mem_cons_self ..);have m2:(⟨t.c,e,t.kids.hd,-1,w',t.r,0⟩:Nd)∈s.nd u w++(t.nd e w'++N):=List.mem_append_right _ (mL _ (List.mem_cons_self ..));refine (H.before hk m2 m1).bind ?_;rintro _ ⟨a1,rfl,H⟩;unfold lk;by_cases c:(it t.c).lt (it s.c)
 ·rw[if_pos c];refine Do.tb (dT c) ?_;have H1:Hp κ (n+6) a1 it (t.nd e w'++(s.nd u w++N)) L:=H.p (npm fun p=>by simp only[List.countP_append];omega);refine (linked H1 ht l).mono ?_;rintro _ ⟨a2,rfl,i⟩;exact⟨_,_,_,rfl,i⟩
 ·rw[if_neg c];refine Do.fb (dF c) ?_;refine (linked H hs l).mono ?_;rintro _ ⟨a2,rfl,i⟩;exact⟨_,_,_,rfl,i⟩
end
noncomputable section
set_option maxRecDepth 10000
namespace Le
inductive B where
 | nil:B
 | node (c:Nat) (rk:Int) (l r:B)
def B.hd:B->Int
 | .nil=>-1
 | .node c _ _ _=>(c:Int)
def B.cells:B->List Nat
 | .nil=>[]
 | .node c _ l r=>c::(l.cells++r.cells)
def bn:B->Int->List Nd
 | .nil,_=>[]
 | .node c rk l r,u=>⟨c,u,-1,l.hd,r.hd,rk,0⟩::(bn l c++bn r c)
theorem wX:∀ (t:B) (u:Int),(bn t u).map Nd.c=t.cells
 | .nil,_=>rfl
 | .node c rk l r,u=>by rw[bn,pC,List.map_append,wX l,wX r];rfl
theorem mD (t:B)(u:Int):(bn t u).length=t.cells.length:=by rw[<- wX t u,lM]
def Or (it:Nat->It):B->Prop
 | .nil=>True
 | .node c _ l r=>(∀ d∈l.cells++r.cells,¬ (it d).lt (it c))/\Or it l/\Or it r
theorem Or.least {it:Nat->It}{c:Nat}{rk:Int}{l r:B}(h:Or it (.node c rk l r)):∀ d∈(B.node c rk l r).cells,¬ (it d).lt (it c):=by
 intro d hd;rcases List.mem_cons.1 hd with rfl|hd
 ·exact It.lt_irrefl _
 ·exact h.1 d hd
theorem Or.congr {it it':Nat->It}:∀ {t:B},Or it t->(∀ d∈t.cells,it' d=it d)->Or it' t
 | .nil,_,_=>trivial
 | .node c rk l r,h,e=>by
  refine⟨fun d hd=>?_,h.2.1.congr fun d hd=>e d (mC _ (mL _ hd)),h.2.2.congr fun d hd=>e d (mC _ (List.mem_append_right _ hd))⟩;rw[e d (mC _ hd),e c (List.mem_cons_self ..)];exact h.1 d hd
theorem cpm {l l':List Nat}(h:∀ p:Nat->Bool,l.countP p=l'.countP p):l.Perm l':=List.perm_iff_count.2 fun x=>h _
section
variable {κ:Cfg} {n:Nat} {a:zb} {it:Nat->It} {N:List Nd} {L:Heap}
theorem qC (H:Hp κ n a it N L){t:B}{u:Int}(h:∀ ν ∈ bn t u,ν ∈ N):-1<=t.hd/\t.hd < κ.C:=by
 cases t with
 | nil=>simp only[B.hd];omega
 | node c rk l r =>
  have:=H.lt (h _ (List.mem_cons_self ..));simp only[B.hd];simp only at this;omega
theorem kC (H:Hp κ n a it N L){t:B}{u:Int}(h:∀ ν ∈ bn t u,ν ∈ N):Do (tf a t.hd) fun r=>∃ v e,r=(v,e)/\Hp κ (n+1) e it N L:=by
 unfold tf;cases t with
 | nil=>exact Do.t rfl ⟨_,rfl,_,_,rfl,H.mono (by omega)⟩
 | node c rk l r =>
  refine Do.f (by simp only[B.hd];simp) ?_;refine (H.get (h _ (List.mem_cons_self ..)) (f:=4)).bind ?_;rintro _ ⟨a1,rfl,H1⟩;exact⟨_,rfl,_,_,rfl,H1⟩
def Fx (c:Nat)(l r T:B):Prop:=∃ rk,T = .node c rk l r \/ T = .node c rk r l
theorem Fx.cells {c:Nat}{l r T:B}(h:Fx c l r T):T.cells.Perm (c::(l.cells++r.cells)):=by
 obtain⟨rk,rfl|rfl⟩:=h
 ·exact .refl _
 ·exact List.Perm.cons _ List.perm_append_comm
theorem Fx.hd {c:Nat}{l r T:B}(h:Fx c l r T):T.hd=(c:Int):=by
 obtain⟨rk,rfl|rfl⟩:=h <;> rfl
theorem Fx.or {c:Nat}{rk:Int}{l r T:B}(h:Fx c l r T)(e:Or it (.node c rk l r)):Or it T:=by
 obtain⟨i,rfl|rfl⟩:=h
 ·exact⟨e.1,e.2⟩
 ·exact⟨fun d hd=>e.1 d ((List.perm_append_comm.mem_iff).1 hd),e.2.2,e.2.1⟩
theorem ic {c:Nat}{u rk v b:Int}{x y:B}(H:Hp κ n a it (bn (.node c rk x y) u++N) L) :
  Do ((zR a (c:Int) 4).bind fun e=>(zx e.2 (c:Int) 4 v).bind fun i=>some (e.1 != v,i.2)) fun res=>∃ b j T,res=(b,j)/\Fx c x y T/\Hp κ (n+2) j it (bn T u++N) L:=by
 refine (Hp.get H (List.mem_cons_self ..) (f:=4)).bind ?_;rintro _ ⟨a1,rfl,H1⟩;refine (Hp.set H1 ⟨c,u,-1,x.hd,y.hd,v,0⟩).bind ?_;rintro _ ⟨a2,rfl,l⟩;exact⟨_,rfl,_,a2,.node c v x y,rfl,⟨v,Or.inl rfl⟩,l⟩
theorem ib {c:Nat}{u rk:Int}{l r:B}(H:Hp κ n a it (bn (.node c rk l r) u++N) L) :
  Do (tQ a (c:Int)) fun res=>∃ b y T,res=(b,y)/\Fx c l r T/\Hp κ (n+8) y it (bn T u++N) L:=by
 unfold tQ;have A:∀ ν ∈ bn l c,ν ∈ bn (.node c rk l r) u++N:=fun ν h=>mL _ (mC _ (mL _ h))
 have D:∀ ν ∈ bn r c,ν ∈ bn (.node c rk l r) u++N:=fun ν h=>mL _ (mC _ (List.mem_append_right _ h))
 have hl:=qC H A;have hr:=qC H D;refine (H.getc (List.mem_cons_self ..) (f:=2) hl.1 hl.2).bind ?_;rintro _ ⟨a1,rfl,H1⟩;refine (H1.getc (List.mem_cons_self ..) (f:=3) hr.1 hr.2).bind ?_;rintro _ ⟨a2,rfl,F⟩;refine (kC F A).bind ?_;rintro _ ⟨v1,a3,rfl,I⟩;refine (kC I D).bind ?_;rintro _ ⟨v2,a4,rfl,x⟩;by_cases hv:v1<v2
 ·refine Do.tb (dT hv) ?_;refine Do.assoc ((Hp.set x ⟨c,u,-1,r.hd,r.hd,rk,0⟩).bind ?_);rintro _ ⟨a5,rfl,J⟩;refine Do.assoc ((Hp.set (ν:=⟨c,u,-1,r.hd,r.hd,rk,0⟩) J ⟨c,u,-1,r.hd,l.hd,rk,0⟩).bind ?_);rintro _ ⟨z,rfl,O⟩;refine Do.seq rfl ?_;have e:Hp κ (n+6) z it (⟨c,u,-1,r.hd,l.hd,rk,0⟩::(bn l c++bn r c++N)) L:=O;have S:Hp κ (n+6) z it (bn (.node c rk r l) u++N) L:=Hp.p e (npm fun p=>by
   simp only[bn,List.countP_cons,List.countP_append,List.cons_append];omega)
  refine (ic (v:=_) (b:=0) S).mono ?_;rintro _ ⟨b,j,T,rfl,⟨t,h⟩,i⟩;exact⟨b,j,T,rfl,⟨t,h.symm⟩,i⟩
 ·refine Do.fb (dF hv) ?_;refine Do.seq rfl ?_;refine (ic (v:=_) (b:=0) x).mono ?_;rintro _ ⟨b,j,T,rfl,h,i⟩;exact⟨b,j,T,rfl,h,i.mono (by omega)⟩
structure PE where
 c:Nat
 rk:Int
 l:B
 u:Int
 w:Int
def PE.nd (p:PE):List Nd:=⟨p.c,p.u,-1,p.l.hd,p.w,p.rk,0⟩::bn p.l p.c
def PN (ps:List PE):List Nd:=ps.flatMap PE.nd
theorem fC (p:PE)(ps:List PE):PN (p::ps)=p.nd++PN ps:=rfl
theorem bJ (p:PE)(ps:List PE):PN (ps++[p])=PN ps++p.nd:=by simp[PN]
def pc (ps:List PE):List Int:=ps.map fun p=>(p.c:Int)
def reb:List PE->B->B
 | [],T=>T
 | p::ps,T=>.node p.c p.rk p.l (reb ps T)
theorem lR (p:PE)(T:B):∀ ps:List PE,reb (ps++[p]) T=reb ps (.node p.c p.rk p.l T)
 | []=>rfl
 | q::ps=>by rw[List.cons_append,reb,lR p T ps,reb]
theorem cA {it:Nat->It}{T T':B}:∀ {ps:List PE},Or it (reb ps T)->T'.cells.Perm T.cells->(Or it T->Or it T')->(reb ps T').cells.Perm (reb ps T).cells/\Or it (reb ps T')
 | [],h,hp,e=>⟨hp,e h⟩
 | p::ps,h,hp,e=>by
  obtain⟨h1,h2⟩:=cA (ps:=ps) h.2.2 hp e;refine⟨List.Perm.cons _ (h1.append_left _),fun d hd=>h.1 d ?_,h.2.1,h2⟩;exact ((h1.append_left _).mem_iff).1 hd
theorem kE {T T':B}(hp:T'.cells.Perm T.cells):∀ ps:List PE,(reb ps T').cells.Perm (reb ps T).cells
 | []=>hp
 | p::ps=>List.Perm.cons _ ((kE hp ps).append_left _)
theorem kv:∀ (q:Nat) (R S:B) (u v:Int) {n:Nat}{a:zb} (H:Hp κ n a it N L) (A:∀ ν ∈ bn R u,ν ∈ N) (j:∀ ν ∈ bn S v,ν ∈ N) (m:Nat) (pre:List Int),R.cells.length+S.cells.length<=q->q+5<m->pre.length+q <= κ.C ->
  Do (wQ m R.hd S.hd pre a) fun res=>∃ (ps:List PE) (T:B) (ut r1 s1:Int) (W:zb),res=(r1,s1,pre++pc ps,W)/\(if s1 > r1 then s1 else r1)=T.hd/\Hp κ (n+7*ps.length) W it N L/\(bn R u++bn S v).Perm (PN ps++bn T ut) /\
   (Or it R->Or it S->Or it (reb ps T))/\(reb ps T).cells.Perm (R.cells++S.cells)/\ps.length<=q:=by
 intro q;induction q with
 | zero =>
  intro R S u v n a H A j m pre hq hm hp;obtain⟨m,rfl⟩:∃ q,m=q+1:=⟨m - 1,by omega⟩
  cases R with
  | node c rk l r=>simp[B.cells] at hq
  | nil =>
   rw[wQ];refine Do.fb rfl ?_;refine Do.seq rfl (Do.f rfl ?_);have hs:-1<=S.hd:=(qC H j).1;refine⟨_,rfl,[],S,v,-1,S.hd,a,by simp[pc,B.hd],?_,H.mono (by omega),by simp[PN,bn],fun _ h=>h,by simp[reb,B.cells],by simp⟩;split <;> omega
 | succ q ih =>
  intro R S u v n a H A j m pre hq hm hp;obtain⟨m,rfl⟩:∃ q,m=q+1:=⟨m - 1,by omega⟩
  rw[wQ];cases R with
  | nil =>
   refine Do.fb rfl ?_;refine Do.seq rfl (Do.f rfl ?_);have hs:-1<=S.hd:=(qC H j).1;refine⟨_,rfl,[],S,v,-1,S.hd,a,by simp[pc,B.hd],?_,H.mono (by omega),by simp[PN,bn],fun _ h=>h,by simp[reb,B.cells],by simp⟩;split <;> omega
  | node c rk l r =>
   cases S with
   | nil =>
    refine Do.tb (by simp only[B.hd];simp) ?_;refine Do.fb rfl ?_;refine Do.seq rfl (Do.f rfl ?_);refine⟨_,rfl,[],.node c rk l r,u,(c:Int),-1,a,by simp[pc,B.hd],?_,H.mono (by omega),by simp[PN,bn],fun h _=>h,by simp[reb,B.cells],by simp⟩;simp only[B.hd];split <;> omega
   | node c' I l' r' =>
    refine Do.tb (by simp only[B.hd];simp) ?_;refine Do.tb (by simp only[B.hd];simp) ?_;refine Do.assoc (Do.seq (Ar.cells H) ?_);have X:=H.cap;have Y:=A _ (List.mem_cons_self ..);have Z:=j _ (List.mem_cons_self ..);have mr:∀ ν ∈ bn r c,ν ∈ N:=fun ν h=>A ν (mC _ (List.mem_append_right _ h))
    have F:∀ ν ∈ bn r' c',ν ∈ N:=fun ν h=>j ν (mC _ (List.mem_append_right _ h))
    refine Do.seq rfl (Do.t (dT (by omega)) ?_);refine (H.before (by omega) Z Y).bind ?_;rintro _ ⟨a1,rfl,H1⟩;simp only[B.cells,lC,lA] at hq;by_cases i:(it c').lt (it c)
    ·refine Do.tb (dT i) ?_;refine Do.seq rfl ?_;refine Do.seq (y4 (by simp only[List.length_singleton];omega)) ?_;have hh:=qC H1 F;refine (H1.getc Z (f:=3) hh.1 hh.2).bind ?_;rintro _ ⟨a2,rfl,J⟩;refine (ih r' (.node c rk l r) c' u J F A m (pre++[(c':Int)]) (by simp only[B.cells,lC,lA];omega) (by omega) (by simp only[lA,List.length_singleton];omega)).mono ?_;rintro _ ⟨ps,T,ut,r1,s1,a3,rfl,e,O,x,U,D,hl⟩;refine⟨⟨c',I,l',v,r'.hd⟩::ps,T,ut,r1,s1,a3,by simp[pc],e,O.mono (by simp only[lC];omega),npm fun P=>?_,fun y z=>⟨fun d hd=>?_,z.2.1,U z.2.2 y⟩,?_,by simp only[lC];omega⟩
     ·have:=x.countP_eq P;simp only[fC,PE.nd,bn,List.countP_cons,List.countP_append,List.cons_append] at this ⊢;omega
     ·rcases List.mem_append.1 hd with hd|hd
      ·exact z.1 d (mL _ hd)
      ·rcases List.mem_append.1 (D.mem_iff.1 hd) with hd|hd
       ·exact z.1 d (List.mem_append_right _ hd)
       ·exact It.le_trans (It.lt_asymm i) (y.least d hd)
     ·refine cpm fun P=>?_
      have:=D.countP_eq P;simp only[reb,B.cells,List.countP_cons,List.countP_append,List.cons_append] at this ⊢;omega
    ·refine Do.fb (dF i) ?_;refine Do.seq rfl ?_;refine Do.seq (y4 (by simp only[List.length_singleton];omega)) ?_;have hh:=qC H1 mr;refine (H1.getc Y (f:=3) hh.1 hh.2).bind ?_;rintro _ ⟨a2,rfl,J⟩;refine (ih r (.node c' I l' r') c v J mr j m (pre++[(c:Int)]) (by simp only[B.cells,lC,lA];omega) (by omega) (by simp only[lA,List.length_singleton];omega)).mono ?_;rintro _ ⟨ps,T,ut,r1,s1,a3,rfl,e,O,x,U,D,hl⟩;refine⟨⟨c,rk,l,u,r.hd⟩::ps,T,ut,r1,s1,a3,by simp[pc],e,O.mono (by simp only[lC];omega),npm fun P=>?_,fun y z=>⟨fun d hd=>?_,y.2.1,U y.2.2 z⟩,?_,by simp only[lC];omega⟩
     ·have:=x.countP_eq P;simp only[fC,PE.nd,bn,List.countP_cons,List.countP_append,List.cons_append] at this ⊢;omega
     ·rcases List.mem_append.1 hd with hd|hd
      ·exact y.1 d (mL _ hd)
      ·rcases List.mem_append.1 (D.mem_iff.1 hd) with hd|hd
       ·exact y.1 d (List.mem_append_right _ hd)
       ·exact It.le_trans i (z.least d hd)
     ·refine cpm fun P=>?_
      have:=D.countP_eq P;simp only[reb,B.cells,List.countP_cons,List.countP_append,List.cons_append] at this ⊢;omega
theorem jN {T:B}{u:Int}(H:Hp κ n a it (bn T u++N) L)(v:Int):Do (zx a T.hd 0 v) fun r=>∃ b e,r=(b,e)/\Hp κ (n+1) e it (bn T v++N) L:=by
 cases T with
 | nil =>
  refine (Hp.setN H (c:=-1) (by decide)).mono ?_;rintro _ ⟨a1,rfl,H1⟩;exact⟨_,a1,rfl,H1⟩
 | node c rk l r =>
  refine (Hp.set H ⟨c,v,-1,l.hd,r.hd,rk,0⟩).mono ?_;rintro _ ⟨a1,rfl,H1⟩;exact⟨_,a1,rfl,H1⟩
theorem AD (ps:List PE):(pc ps).length=ps.length:=by simp[pc]
theorem kx (all:List PE)(x:all.length<70000):∀ (q:Nat) (pre post:List PE) (T:B) (ut:Int) {n:Nat}{a:zb} (H:Hp κ n a it (PN pre++(bn T ut++N)) L) (m:Nat),all=pre++post->pre.length=q->q<m ->
  Do (xO (pc all) m T.hd ((q:Int) - 1) a) fun res=>∃ (T':B) (j:Int) (F:zb),res=(T'.hd,F)/\Hp κ (n+10*q) F it (bn T' j++N) L/\T'.cells.Perm (reb pre T).cells/\(Or it (reb pre T)->Or it T'):=by
 intro q;induction q with
 | zero =>
  intro pre post T ut n a H m x hq hm;obtain⟨m,rfl⟩:∃ q,m=q+1:=⟨m - 1,by omega⟩
  have:pre=[]:=List.length_eq_zero_iff.1 hq;subst this;rw[xO];refine Do.f (dF (by omega)) ?_;exact⟨_,rfl,T,ut,a,rfl,H,.refl _,fun h=>h⟩
 | succ q ih =>
  intro pre post T ut n a H m e hq hm;obtain⟨m,rfl⟩:∃ q,m=q+1:=⟨m - 1,by omega⟩
  rcases List.eq_nil_or_concat pre with rfl|⟨pre,p,rfl⟩
  ·simp at hq
  ·rw[List.concat_eq_append] at *
   have z:pre.length=q:=by simpa using hq
   have a0:q<all.length:=by rw[e];simp;omega
   have i:mIdx (pc all) (((q+1:Nat):Int) - 1)=some (p.c:Int):=by
    have Y:((q+1:Nat):Int) - 1=(q:Int):=by omega
    rw[Y,yl,e];simp[pc,<- z]
   rw[xO];refine Do.t (dT (by omega)) ?_;refine Do.seq i ?_;have J:Hp κ n a it (⟨p.c,p.u,-1,p.l.hd,p.w,p.rk,0⟩::(bn p.l p.c++(PN pre++(bn T ut++N)))) L:=Hp.p H (npm fun P=>by
    simp only[bJ,PE.nd,List.countP_cons,List.countP_append,List.cons_append];omega)
   refine (J.set ⟨p.c,p.u,-1,p.l.hd,T.hd,p.rk,0⟩).bind ?_;rintro _ ⟨a1,rfl,H1⟩;refine Do.seq i ?_;have A:Hp κ (n+1) a1 it (bn T ut++(⟨p.c,p.u,-1,p.l.hd,T.hd,p.rk,0⟩::(bn p.l p.c++(PN pre++N)))) L:=H1.p (npm fun P=>by
    simp only[List.countP_cons,List.countP_append,List.cons_append];omega)
   refine (jN A (p.c:Int)).bind ?_;rintro _ ⟨b,a2,rfl,O⟩;refine Do.seq i ?_;have S:Hp κ (n+2) a2 it (bn (.node p.c p.rk p.l T) p.u++(PN pre++N)) L:=O.p (npm fun P=>by
    simp only[bn,List.countP_cons,List.countP_append,List.cons_append];omega)
   refine (ib S).bind ?_;rintro _ ⟨b',a3,D,rfl,hf,U⟩;have W:Hp κ (n+10) a3 it (PN pre++(bn D p.u++N)) L:=U.p (npm fun P=>by simp only[List.countP_append];omega);have Z:w64 (((q+1:Nat):Int) - 1 - 1)=(q:Int) - 1:=by rw[zP] <;> omega
   have:=ih pre ([p]++post) D p.u W m (by rw[e];simp) z (by omega);rw[hf.hd] at this;show Do (xO (pc all) m (p.c:Int) (w64 (((q+1:Nat):Int) - 1 - 1)) a3) _;rw[Z];refine this.mono ?_;rintro _ ⟨T',j,a4,rfl,X,h1,h2⟩;have y:D.cells.Perm (B.node p.c p.rk p.l T).cells:=hf.cells;refine⟨T',j,a4,rfl,X.mono (by omega),?_,fun I=>?_⟩
   ·rw[lR];exact h1.trans (kE y pre)
   ·rw[lR] at I;exact h2 (cA I y fun h=>hf.or h).2
theorem uK {k:Nat}{R S:B}{u v:Int}(H:Hp κ n a it (bn R u++(bn S v++N)) L)(I:Or it R)(J:Or it S)(hk:70010<k) :
  Do (wV k a R.hd S.hd) fun res=>∃ (T:B) (j:zb),res=(T.hd,j)/\Hp κ (n+17*(R.cells.length+S.cells.length)+1) j it (bn T (-1)++N) L/\T.cells.Perm (R.cells++S.cells)/\Or it T:=by
 unfold wV;have i:=H.room;simp only[lA,mD] at i;have x:=H.cap;by_cases he:R.hd=S.hd
 ·have:R = .nil/\S = .nil:=by
   cases R with
   | nil=>cases S with
    | nil=>exact⟨rfl,rfl⟩
    | node c rk l r=>simp only[B.hd] at he;omega
   | node c rk l r=>cases S with
    | nil=>simp only[B.hd] at he;omega
    | node c' W l' r' =>
     have hn:=H.nd;simp only[B.hd] at he;have:c=c':=by omega
     subst this;rw[List.map_append,List.map_append,wX,wX] at hn;exact absurd rfl ((List.nodup_append.1 hn).2.2 c (List.mem_cons_self ..) c (mL _ (List.mem_cons_self ..)))
  obtain⟨rfl,rfl⟩:=this;refine Do.t (by simp) ?_;exact⟨_,rfl,.nil,a,rfl,H.mono (by omega),.refl _,trivial⟩
 ·refine Do.f (by simpa using he) ?_;refine (kv (R.cells.length+S.cells.length) R S u v H (fun ν h=>mL _ h) (fun ν h=>List.mem_append_right _ (mL _ h)) k [] (Nat.le_refl _) (by omega) (by simp;omega)).bind ?_;rintro _ ⟨ps,T,ut,r1,s1,a1,rfl,e,H1,hp,U,O,hl⟩;have y:Hp κ (n+7*ps.length) a1 it (PN ps++(bn T ut++N)) L:=H1.p (by
   rw[<- aA,<- aA];exact hp.append_right N)
  have h3:=kx ps (by omega) ps.length ps [] T ut y k (by simp) rfl (by omega);rw[<- e] at h3;have D:w64 ((([]++pc ps).length:Int) - 1)=(ps.length:Int) - 1:=by rw[List.nil_append,AD,zP] <;> omega
  refine Do.bind (P:=_) (o:=xO ([]++pc ps) k (if s1 > r1 then s1 else r1) (w64 ((([]++pc ps).length:Int) - 1)) a1) (by rw[D];exact h3) ?_;rintro _ ⟨T',X,a2,rfl,z,h4,F⟩;refine (jN z (-1)).bind ?_;rintro _ ⟨b,a3,rfl,A⟩;exact⟨_,rfl,T',a3,rfl,A.mono (by omega),h4.trans O,F (U I J)⟩
end
end Le
end
noncomputable section
set_option maxRecDepth 10000
theorem dR {κ:Cfg}{n:Nat}{a:zb}{it:Nat->It}{N:List Nd}{L:Heap}(H:Hp κ n a it N L){ν:Nd}(y:ν ∈ N){key:Int}(hk:key<=(it ν.c).k) :
  Do (tF a ((it ν.c).i:Int) key) fun r=>∃ l,r=(true,l)/\Hp κ (n+2) l (upd it ν.c ⟨(it ν.c).i,key,(it ν.c).s⟩) N L:=by
 obtain⟨p,q,e⟩:=List.append_of_mem y;have hp:N.Perm (ν :: (p++q)):=by rw[e];exact List.perm_middle
 have H1:=H.p hp;have j:=H1.dW;unfold Hp at H1;rw[vk] at H1;refine (o6 (x:=it ν.c) (Ar.t2 H1) hk).mono ?_;rintro _ ⟨a1,rfl,t⟩;refine⟨a1,rfl,Hp.p (N:=ν :: (p++q)) ?_ hp.symm⟩;unfold Hp;rw[vk,uj,vX (it:=it) (it':=upd it ν.c ⟨(it ν.c).i,key,(it ν.c).s⟩) fun μ u=>vv _ _ (j μ u)];exact Ar.t2 t
abbrev KS:=(Nat->It)->List Nd->Int->Prop
def HK (K:KS)(r:Int)(its:List It)(C:Heap):Prop:=∃ (it:Nat->It) (M:List Nd),K it M r/\C.Perm (lay it M)/\its.Perm (M.map fun ν=>it ν.c)
def HL (K:KS)(r:Int)(its:List It)(x y:It)(C:Heap):Prop:=∃ (it:Nat->It) (M:List Nd) (ν:Nd),K it M r /\ ν ∈ M/\it ν.c=x/\C.Perm (lay (upd it ν.c y) M)/\its.Perm (M.map fun ν=>it ν.c)
theorem HK.p {K:KS}{r:Int}{its e:List It}{C C':Heap}(h:HK K r its C)(h1:its.Perm e)(h2:C.Perm C'):HK K r e C':=by
 obtain⟨it,M,hk,hC,i⟩:=h;exact⟨it,M,hk,h2.symm.trans hC,h1.symm.trans i⟩
theorem HK.len {K:KS}{r:Int}{its:List It}{C:Heap}(h:HK K r its C):C.length=2*its.length:=by
 obtain⟨it,M,hk,hC,e⟩:=h;rw[hC.length_eq,qg,e.length_eq,lM]
section
variable {κ:Cfg} {n:Nat} {a:zb} {L:Heap} {K:KS} {r:Int} {its:List It} {C:Heap}
theorem HK.mem (h:HK K r its C){x:It}(j:x∈its):∃ p,(x.i,x.cell p)∈C:=by
 obtain⟨it,M,hk,hC,e⟩:=h;obtain⟨ν,l,rfl⟩:=List.mem_map.1 (e.mem_iff.1 j);exact⟨_,hC.mem_iff.2 (lH l).2⟩
theorem HK.lower (h:HK K r its C)(H:Ar κ n a (C++L)){x:It}(y:x∈its){key:Int}(hk:key<=x.k) :
  Do (tF a (x.i:Int) key) fun res=>∃ C' e,res=(true,e)/\HL K r its x ⟨x.i,key,x.s⟩ C'/\Ar κ (n+2) e (C'++L):=by
 obtain⟨it,M,u,hC,j⟩:=h;obtain⟨ν,l,rfl⟩:=List.mem_map.1 (j.mem_iff.1 y);have H1:Hp κ n a it M L:=Ar.p H (hC.append_right L);refine (dR H1 l hk).mono ?_;rintro _ ⟨a1,rfl,t⟩;exact⟨_,a1,rfl,⟨it,M,ν,u,l,rfl,.refl _,j⟩,t⟩
theorem jD {it:Nat->It}{M:List Nd}{ν:Nd}{x y:It}(hn:(M.map Nd.c).Nodup)(t:ν ∈ M)(j:it ν.c=x):∃ q,(M.map fun μ=>it μ.c).Perm (x::q)/\(M.map fun μ=>upd it ν.c y μ.c).Perm (y::q):=by
 obtain⟨p,s,rfl⟩:=List.append_of_mem t;have hp:(p ++ ν :: s).Perm (ν :: (p++s)):=List.perm_middle;have i:=((hp.map Nd.c).nodup_iff).1 hn;simp only[pC,List.nodup_cons] at i;refine⟨(p++s).map fun μ=>it μ.c,?_,?_⟩
 ·have:=hp.map fun μ=>it μ.c
  rwa [pC,j] at this
 ·have:=hp.map fun μ=>upd it ν.c y μ.c
  rw[pC,uj] at this;have e:((p++s).map fun μ=>upd it ν.c y μ.c)=(p++s).map fun μ=>it μ.c:=List.map_congr_left fun μ l=>vv _ _ fun e=>i.1 (e ▸ List.mem_map_of_mem (f:=Nd.c) l)
  rwa [e] at this
end
end
noncomputable section
set_option maxRecDepth 10000
namespace Le
structure Fr where
 c:Nat
 rk:Int
 left:Bool
 sib:B
def Fr.lb (f:Fr)(X:B):B:=bif f.left then X else f.sib
def Fr.rb (f:Fr)(X:B):B:=bif f.left then f.sib else X
def Fr.plug (f:Fr)(X:B):B:=.node f.c f.rk (f.lb X) (f.rb X)
def plug:List Fr->B->B
 | [],X=>X
 | f::fs,X=>plug fs (f.plug X)
def upOf (u:Int):List Fr->Int
 | []=>u
 | f::_=>(f.c:Int)
theorem py (f:Fr):∀ (fs:List Fr) (X:B),plug (fs++[f]) X=f.plug (plug fs X)
 | [],X=>rfl
 | g::fs,X=>by rw[List.cons_append,plug,py f fs,plug]
theorem find {c:Nat}:∀ {t:B},c∈t.cells -> ∃ fs rk l r,t=plug fs (.node c rk l r)
 | .nil,h=>by simp[B.cells] at h
 | .node j i u r0,h=>by
  rcases List.mem_cons.1 h with rfl|h
  ·exact⟨[],i,u,r0,rfl⟩
  ·rcases List.mem_append.1 h with h|h
   ·obtain⟨fs,rk,l,r,e⟩:=find h;exact⟨fs++[⟨j,i,true,r0⟩],rk,l,r,by rw[py,<- e];rfl⟩
   ·obtain⟨fs,rk,l,r,e⟩:=find h;exact⟨fs++[⟨j,i,false,u⟩],rk,l,r,by rw[py,<- e];rfl⟩
def fn:List Fr->Int->Int->List Nd
 | [],_,_=>[]
 | f::fs,h,u=>⟨f.c,upOf u fs,-1,bif f.left then h else f.sib.hd,bif f.left then f.sib.hd else h,f.rk,0⟩::(bn f.sib f.c++fn fs f.c u)
theorem sI (u:Int):∀ (fs:List Fr) (X:B),(bn (plug fs X) u).Perm (fn fs X.hd u++bn X (upOf u fs))
 | [],X=>.refl _
 | f::fs,X=>by
  rw[plug];refine (sI u fs (f.plug X)).trans (npm fun P=>?_);obtain⟨c,rk,b,s⟩:=f;cases b <;> simp only[Fr.plug,Fr.lb,Fr.rb,fn,bn,B.hd,upOf,cT,cF,List.countP_cons,List.countP_append,List.cons_append] <;> omega
def fc (fs:List Fr):List Nat:=fs.flatMap fun f=>f.c::f.sib.cells
theorem xW:∀ (fs:List Fr) (X:B),(plug fs X).cells.Perm (fc fs++X.cells)
 | [],X=>.refl _
 | f::fs,X=>by
  rw[plug];refine (xW fs (f.plug X)).trans (cpm fun P=>?_);obtain⟨c,rk,b,s⟩:=f;cases b <;> simp only[fc,List.flatMap_cons,Fr.plug,Fr.lb,Fr.rb,B.cells,cT,cF,List.countP_cons,List.countP_append,List.cons_append] <;> omega
theorem jK:∀ (fs:List Fr) {X Y:B},X.hd=Y.hd->(plug fs X).hd=(plug fs Y).hd
 | [],_,_,h=>h
 | f::fs,X,Y,_=>jK fs (X:=f.plug X) (Y:=f.plug Y) rfl
theorem pz {it:Nat->It}:∀ {fs:List Fr}{X:B},Or it (plug fs X)->Or it X
 | [],X,h=>h
 | f::fs,X,h=>by
  have h1:Or it (f.plug X):=pz (fs:=fs) h;obtain⟨c,rk,b,s⟩:=f;cases b
  ·exact h1.2.2
  ·exact h1.2.1
theorem lN {it:Nat->It}:∀ {fs:List Fr}{X Y:B},Or it (plug fs X)->(∀ d∈Y.cells,d∈X.cells)->Or it Y->Or it (plug fs Y)
 | [],X,Y,_,_,h=>h
 | f::fs,X,Y,h,hs,e=>by
  have h1:Or it (f.plug X):=pz (fs:=fs) h;obtain⟨c,rk,b,s⟩:=f;refine lN (fs:=fs) h ?_ ?_
  ·intro d hd;cases b <;> simp only[Fr.plug,Fr.lb,Fr.rb,B.cells,cT,cF,iC,iA] at hd ⊢
   ·rcases hd with h|h|h
    ·exact Or.inl h
    ·exact Or.inr (Or.inl h)
    ·exact Or.inr (Or.inr (hs d h))
   ·rcases hd with h|h|h
    ·exact Or.inl h
    ·exact Or.inr (Or.inl (hs d h))
    ·exact Or.inr (Or.inr h)
  ·cases b
   ·refine⟨fun d hd=>h1.1 d ?_,h1.2.1,e⟩;rcases List.mem_append.1 hd with h|h
    ·exact mL _ h
    ·exact List.mem_append_right _ (hs d h)
   ·refine⟨fun d hd=>h1.1 d ?_,e,h1.2.2⟩;rcases List.mem_append.1 hd with h|h
    ·exact mL _ (hs d h)
    ·exact List.mem_append_right _ h
section
variable {κ:Cfg} {n:Nat} {a:zb} {it:Nat->It} {N:List Nd} {L:Heap}
theorem pf:∀ (fs:List Fr) (Y:B) {n:Nat}{a:zb} (H:Hp κ n a it (bn (plug fs Y) (-1)++N) L) (m j:Nat),fs.length<m->j+fs.length <= κ.C+1 ->
  Do (xf m (upOf (-1) fs) (j:Int) a) fun W=>∃ T:B,Hp κ (n+9*fs.length) W it (bn T (-1)++N) L/\T.cells.Perm (plug fs Y).cells/\(Or it (plug fs Y)->Or it T)/\T.hd=(plug fs Y).hd
 | [],Y,n,a,H,m,j,hm,hj=>by
  obtain⟨m,rfl⟩:∃ q,m=q+1:=⟨m - 1,by omega⟩
  rw[xf];refine Do.fb rfl ?_;refine Do.seq rfl (Do.f rfl ?_);exact⟨_,rfl,Y,H,.refl _,fun h=>h,rfl⟩
 | f::fs,Y,n,a,H,m,j,hm,hj=>by
  obtain⟨m,rfl⟩:∃ q,m=q+1:=⟨m - 1,by omega⟩
  simp only[lC] at hm hj;have I:=H.cap;rw[xf];refine Do.tb (by simp only[upOf];simp) ?_;refine Do.assoc (Do.seq (Ar.cells H) ?_);refine Do.tb (dT (by omega)) ?_;have H1:Hp κ n a it (bn (f.plug Y) (upOf (-1) fs)++(fn fs f.c (-1)++N)) L:=H.p (by
   rw[<- aA];exact ((sI (-1) fs (f.plug Y)).trans List.perm_append_comm).append_right N)
  refine Do.assoc ((ib H1).bind ?_);rintro _ ⟨b,a1,e,rfl,hf,D⟩;refine Do.seq rfl ?_;have i:=hf.hd;have z:∀ d∈e.cells,d∈(f.plug Y).cells:=fun d hd=>hf.cells.mem_iff.1 hd
  have J:Hp κ (n+8) a1 it (bn (plug fs e) (-1)++N) L:=D.p (by
   rw[<- aA];refine List.Perm.append_right N ?_;have:=sI (-1) fs e;rw[i] at this;exact List.perm_append_comm.trans this.symm)
  have u:(plug fs e).cells.Perm (plug (f::fs) Y).cells:=(xW fs e).trans (((hf.cells).append_left _).trans (xW fs (f.plug Y)).symm);have y:Or it (plug (f::fs) Y)->Or it (plug fs e):=fun h=>lN (fs:=fs) (X:=f.plug Y) h z (hf.or (pz (fs:=fs) h))
  have x:(plug fs e).hd=(plug (f::fs) Y).hd:=jK fs (Y:=f.plug Y) i;cases b with
  | false =>
   refine Do.f rfl ?_;exact⟨_,rfl,plug fs e,J.mono (by simp only[lC];omega),u,y,x⟩
  | true =>
   refine Do.t rfl ?_;have hT:∃ rk l r,e = .node f.c rk l r:=by
    obtain⟨rk,rfl|rfl⟩:=hf
    ·exact⟨_,_,_,rfl⟩
    ·exact⟨_,_,_,rfl⟩
   obtain⟨rk,l,r,Z⟩:=hT;have F:(⟨f.c,upOf (-1) fs,-1,l.hd,r.hd,rk,0⟩:Nd)∈bn e (upOf (-1) fs)++(fn fs f.c (-1)++N):=by rw[Z];exact List.mem_cons_self ..
   have A:-1<=upOf (-1) fs/\upOf (-1) fs < κ.C:=by
    cases fs with
    | nil=>simp only[upOf];omega
    | cons g gs =>
     have:=D.lt (ν:=⟨g.c,upOf (-1) gs,-1,bif g.left then (f.c:Int) else g.sib.hd,bif g.left then g.sib.hd else (f.c:Int),g.rk,0⟩) (List.mem_append_right _ (mL _ (List.mem_cons_self ..)));simp only[upOf];simp only at this;omega
   refine (D.getc F (f:=0) A.1 A.2).bind ?_;rintro _ ⟨a2,rfl,O⟩;have S:Hp κ (n+9) a2 it (bn (plug fs e) (-1)++N) L:=O.p (by
    rw[<- aA];refine List.Perm.append_right N ?_;have:=sI (-1) fs e;rw[i] at this;exact List.perm_append_comm.trans this.symm)
   have ew:w64 ((j:Int)+1)=((j+1:Nat):Int):=by rw[zP] <;> omega
   show Do (xf m (upOf (-1) fs) (w64 ((j:Int)+1)) a2) _;rw[ew];refine (pf fs e S m (j+1) (by omega) (by omega)).mono ?_;rintro a3 ⟨T,U,h1,h2,h3⟩;exact⟨T,U.mono (by simp only[lC];omega),h1.trans u,fun h=>h2 (y h),h3.trans x⟩
theorem p7 {fs:List Fr}{X:B}:fs.length<=(plug fs X).cells.length:=by
 have h:=(xW fs X).length_eq;have:∀ fs:List Fr,fs.length<=(fc fs).length:=by
  intro fs;induction fs with
  | nil=>simp
  | cons f fs ih=>simp only[fc,List.flatMap_cons,lC,lA] at *;omega
 have:=this fs;rw[h,lA];omega
theorem mW {k:Nat}{f:Fr}{fs:List Fr}{c:Nat}{rk:Int}{l r:B}(H:Hp κ n a it (bn (plug (f::fs) (.node c rk l r)) (-1)++N) L)(hk:70010<k) :
  Do (uJ k a (c:Int)) fun j=>∃ T:B,Hp κ (n+5+9*(fs.length+1)) j it (bn T (-1)++(bn (.node c rk l r) (-1)++N)) L/\T.cells.Perm (plug (f::fs) .nil).cells/\(Or it (plug (f::fs) .nil)->Or it T)/\T.hd=(plug (f::fs) (.node c rk l r)).hd:=by
 unfold uJ;have W:=H.cap;have x:=H.room;simp only[lA,mD] at x;have O:=p7 (fs:=f::fs) (X:=.node c rk l r);simp only[lC] at O;have y:Hp κ n a it (⟨c,f.c,-1,l.hd,r.hd,rk,0⟩::⟨f.c,upOf (-1) fs,-1,bif f.left then (c:Int) else f.sib.hd,bif f.left then f.sib.hd else (c:Int),f.rk,0⟩::(bn l c++(bn r c++(bn f.sib f.c++(fn fs f.c (-1)++N))))) L:=H.p (npm fun P=>by
  have:=(sI (-1) (f::fs) (.node c rk l r)).countP_eq P;simp only[fn,bn,B.hd,upOf,List.countP_cons,List.countP_append,List.cons_append] at this ⊢;omega)
 have m1:(⟨f.c,upOf (-1) fs,-1,bif f.left then (c:Int) else f.sib.hd,bif f.left then f.sib.hd else (c:Int),f.rk,0⟩:Nd)∈(⟨c,f.c,-1,l.hd,r.hd,rk,0⟩:Nd)::⟨f.c,upOf (-1) fs,-1,bif f.left then (c:Int) else f.sib.hd,bif f.left then f.sib.hd else (c:Int),f.rk,0⟩::(bn l c++(bn r c++(bn f.sib f.c++(fn fs f.c (-1)++N)))):=mC _ (List.mem_cons_self ..);have J:(f.c:Int) < κ.C:=by have:=y.lt m1;simp only at this;omega
 have D:(c:Int) < κ.C:=by have:=y.lt (List.mem_cons_self ..);simp only at this;omega
 have i:=qC y (t:=f.sib) (u:=f.c) fun ν h=>by
  refine mC _ (mC _ (List.mem_append_right _ (List.mem_append_right _ (mL _ h))))
 have S:f.sib.hd≠(c:Int):=by
  intro e;have hn:=y.nd;cases hs:f.sib with
  | nil=>rw[hs] at e;simp only[B.hd] at e;omega
  | node c2 a9 l2 r2 =>
   rw[hs] at e;simp only[B.hd] at e;have:c2=c:=by omega
   subst this;rw[hs] at hn;simp only[pC,List.map_append,bn,List.nodup_cons,iC,iA] at hn;exact hn.1 (by simp)
 refine (y.getc (List.mem_cons_self ..) (f:=0) (by omega) J).bind ?_;rintro _ ⟨a1,rfl,H1⟩;have fin:∀ {I:Nat} {j:zb},Hp κ I j it (⟨c,f.c,-1,l.hd,r.hd,rk,0⟩::⟨f.c,upOf (-1) fs,-1,bif f.left then (-1:Int) else f.sib.hd,bif f.left then f.sib.hd else (-1:Int),f.rk,0⟩::(bn l c++(bn r c++(bn f.sib f.c++(fn fs f.c (-1)++N))))) L->I+1<=n+5 ->
   Do ((zx j (c:Int) 0 (-1)).bind fun U=>(xf k (f.c:Int) 0 U.2).bind fun s1=>some s1) fun j=>∃ T:B,Hp κ (n+5+9*(fs.length+1)) j it (bn T (-1)++(bn (.node c rk l r) (-1)++N)) L/\T.cells.Perm (plug (f::fs) .nil).cells/\(Or it (plug (f::fs) .nil)->Or it T)/\T.hd=(plug (f::fs) (.node c rk l r)).hd:=by
  intro I j H hn;refine (H.set ⟨c,-1,-1,l.hd,r.hd,rk,0⟩).bind ?_;rintro _ ⟨a2,rfl,z⟩;have A:Hp κ (I+1) a2 it (bn (plug (f::fs) .nil) (-1)++(bn (.node c rk l r) (-1)++N)) L:=z.p (npm fun P=>by
   have:=(sI (-1) (f::fs) .nil).countP_eq P;simp only[fn,bn,B.hd,upOf,List.countP_cons,List.countP_append,List.cons_append,List.countP_nil] at this ⊢;omega)
  have h4:=pf (f::fs) .nil A k 0 (by simp only[lC];omega) (by simp only[lC];omega);refine Do.bind (show Do (xf k (f.c:Int) 0 a2) _ from h4) ?_;rintro a3 ⟨T,H5,h5,h6,h7⟩;exact⟨_,rfl,T,H5.mono (by simp only[lC];omega),h5,h6,h7.trans (jK fs (X:=f.plug .nil) (Y:=f.plug (.node c rk l r)) rfl)⟩
 by_cases F:f.left=true
 ·simp only[F,cT] at H1 m1 fin;refine (H1.getc m1 (f:=2) (by omega) D).bind ?_;rintro _ ⟨a2,rfl,z⟩;refine Do.tb (by simp) ?_;refine Do.assoc ((Hp.set (z.p (List.Perm.swap ..)) ⟨f.c,upOf (-1) fs,-1,-1,f.sib.hd,f.rk,0⟩).bind ?_);rintro _ ⟨a3,rfl,A⟩;refine Do.seq rfl ?_;exact fin (A.p (List.Perm.swap ..)) (by omega)
 ·have F:f.left=false:=by simpa using F
  simp only[F,cF] at H1 m1 fin;refine (H1.getc m1 (f:=2) i.1 i.2).bind ?_;rintro _ ⟨a2,rfl,z⟩;refine Do.fb (by simpa using S) ?_;refine Do.assoc ((z.getc m1 (f:=3) (by omega) D).bind ?_);rintro _ ⟨a3,rfl,A⟩;refine Do.tb (by simp) ?_;refine Do.assoc ((Hp.set (A.p (List.Perm.swap ..)) ⟨f.c,upOf (-1) fs,-1,f.sib.hd,-1,f.rk,0⟩).bind ?_);rintro _ ⟨a4,rfl,Z⟩;refine Do.seq rfl ?_;exact fin (Z.p (List.Perm.swap ..)) (by omega)
end
end Le
end
noncomputable section
set_option maxRecDepth 10000
namespace Le
def KL:KS:=fun it M r=>∃ t:B,M=bn t (-1)/\r=t.hd/\Or it t
section
variable {κ:Cfg} {n:Nat} {a:zb} {L:Heap} {r:Int} {its:List It} {C:Heap}
theorem yj {it:Nat->It}(t:B)(u:Int):((bn t u).map fun ν=>it ν.c)=t.cells.map it:=by rw[<- wX t u,List.map_map];rfl
theorem eH:HK KL (-1) [] []:=⟨fun _=>⟨0,0,0⟩,[],⟨.nil,rfl,rfl,trivial⟩,.refl _,.refl _⟩
theorem kB {k:Nat}{x:It}(h:HK KL r its C)(H:Ar κ n a (C++((x.i,x.cell (-1))::L)))(hr:2*its.length+1+L.length < κ.C)(hk:70010<k) :
  Do (sx k a r (x.i:Int)) fun res=>∃ r' C' y,res=(r',true,y)/\HK KL r' (x::its) C'/\Ar κ (n+17*its.length+30) y (C'++L):=by
 obtain⟨it,M,⟨t,rfl,rfl,O⟩,hC,l⟩:=h;unfold sx;have hl:=l.length_eq;rw[lM,mD] at hl;have z:Hp κ n a it (bn t (-1)) ((x.i,x.cell (-1))::L):=Ar.p H (hC.append_right _);refine (ry z (by rw[mD];omega)).bind ?_;rintro _ ⟨c,a1,rfl,H1,J⟩;refine Do.f rfl ?_;refine (Hp.set H1 ⟨c,-1,-1,-1,-1,1,0⟩).bind ?_;rintro _ ⟨a2,rfl,A⟩;have D:Hp κ (n+4) a2 (upd it c x) (bn t (-1)++(bn (.node c 1 .nil .nil) (-1)++[])) L:=A.p (npm fun P=>by
  simp only[bn,B.hd,List.countP_cons,List.countP_append,List.cons_append,List.countP_nil];omega)
 have j:∀ d∈t.cells,upd it c x d=it d:=fun d hd=>vv _ _ fun e=>by
  rw[<- wX t (-1)] at hd;obtain⟨ν,U,I⟩:=List.mem_map.1 hd;exact J ν U (I.trans e)
 refine (uK (R:=t) (S:=.node c 1 .nil .nil) D (O.congr j) ⟨by simp[B.cells],trivial,trivial⟩ hk).bind ?_;rintro _ ⟨T,a3,rfl,F,hp,u⟩;refine⟨_,rfl,T.hd,lay (upd it c x) (bn T (-1)),a3,rfl,⟨_,_,⟨T,rfl,rfl,u⟩,.refl _,?_⟩,Ar.mono (n:=n+4+17*(t.cells.length+(B.node c 1 .nil .nil).cells.length)+1) ?_ (by simp only[B.cells,lC,aN,List.length_nil];omega)⟩
 ·rw[yj];have h1:=(hp.map (upd it c x)).symm;rw[List.map_append] at h1;have h2:t.cells.map (upd it c x)=t.cells.map it:=List.map_congr_left j;rw[h2] at h1;refine List.Perm.trans ?_ h1;rw[yj] at l;refine (l.cons x).trans ?_;simp only[B.cells,aN,pC,List.map_nil,uj];exact (List.perm_append_singleton _ _).symm
 ·have:=F;rw[aN] at this;exact this
theorem eE (h:HK KL r its C)(H:Ar κ n a (C++L)):Do (rm a r) fun res=>∃ j,Ar κ (n+1) j (C++L)/\((its=[]/\res=(-1,j)) \/ ∃ x∈its,res=((x.i:Int),j) /\ ∀ y∈its,¬ y.lt x):=by
 obtain⟨it,M,⟨t,rfl,rfl,z⟩,hC,e⟩:=h;unfold rm;have u:Hp κ n a it (bn t (-1)) L:=Ar.p H (hC.append_right _);rw[yj] at e;cases t with
 | nil =>
  refine (u.fM (c:=-1) (by decide)).bind ?_;rintro _ ⟨a1,rfl,H1⟩;exact⟨_,rfl,a1,Ar.p H1 (hC.append_right _).symm,Or.inl ⟨e.eq_nil,rfl⟩⟩
 | node c rk l r' =>
  refine (u.geti (List.mem_cons_self ..)).bind ?_;rintro _ ⟨a1,rfl,H1⟩;refine⟨_,rfl,a1,Ar.p H1 (hC.append_right _).symm,Or.inr ⟨it c,e.mem_iff.2 (List.mem_map_of_mem (List.mem_cons_self ..)),rfl,fun y A=>?_⟩⟩;obtain⟨d,hd,rfl⟩:=List.mem_map.1 (e.mem_iff.1 A);exact z.least d hd
theorem lP {k:Nat}{it:Nat->It}{N:List Nd}{c:Nat}{rk u:Int}{l r:B}(H:Hp κ n a it (bn (.node c rk l r) u++N) L)(j:Or it (.node c rk l r))(hk:70010<k) :
  Do (uk k a (c:Int)) fun res=>∃ (T:B) (e:zb),res=(T.hd,((it c).i:Int),e)/\Hp κ (n+17*(l.cells.length+r.cells.length)+7) e it (bn T (-1)++N) (((it c).i,(it c).cell (-1))::L)/\T.cells.Perm (l.cells++r.cells)/\Or it T:=by
 unfold uk rO;have F:∀ ν ∈ bn l c,ν ∈ bn (.node c rk l r) u++N:=fun ν h=>mL _ (mC _ (mL _ h))
 have I:∀ ν ∈ bn r c,ν ∈ bn (.node c rk l r) u++N:=fun ν h=>mL _ (mC _ (List.mem_append_right _ h))
 have hl:=qC H F;have hr:=qC H I;refine Do.assoc (Do.seq (H.live (ν:=⟨c,u,-1,l.hd,r.hd,rk,0⟩) (List.mem_cons_self ..)) ?_);refine Do.seq rfl (Do.f rfl ?_);refine Do.assoc ((H.getc (List.mem_cons_self ..) (f:=2) hl.1 hl.2).bind ?_);rintro _ ⟨a1,rfl,H1⟩;refine Do.assoc ((H1.getc (List.mem_cons_self ..) (f:=3) hr.1 hr.2).bind ?_);rintro _ ⟨a2,rfl,t⟩;have x:Hp κ (n+2) a2 it (bn l c++(bn r c++(⟨c,u,-1,l.hd,r.hd,rk,0⟩::N))) L:=Hp.p t (npm fun P=>by
  simp only[bn,List.countP_cons,List.countP_append,List.cons_append];omega)
 refine Do.assoc ((uK x j.2.1 j.2.2 hk).bind ?_);rintro _ ⟨T,a3,rfl,y,h1,h2⟩;refine Do.seq rfl ?_;refine (jN y (-1)).bind ?_;rintro _ ⟨b,a4,rfl,z⟩;have A:Hp κ (n+2+17*(l.cells.length+r.cells.length)+1+1) a4 it (⟨c,u,-1,l.hd,r.hd,rk,0⟩::(bn T (-1)++N)) L:=z.p List.perm_middle;refine (rv A).bind ?_;rintro _ ⟨a5,rfl,D⟩;exact⟨_,rfl,T,a5,rfl,D.mono (by omega),h1,h2⟩
theorem eM {k:Nat}(h:HK KL r its C)(H:Ar κ n a (C++L))(j:its≠[])(hk:70010<k) :
  Do (uk k a r) fun res=>∃ x q r' C' u,res=(r',(x.i:Int),u)/\its.Perm (x::q)/\(∀ y∈its,¬ y.lt x)/\HK KL r' q C'/\Ar κ (n+17*its.length+30) u (C'++((x.i,x.cell (-1))::L)):=by
 obtain⟨it,M,⟨t,rfl,rfl,z⟩,hC,e⟩:=h;rw[yj] at e;cases t with
 | nil=>exact absurd e.eq_nil j
 | node c rk l r' =>
  have A:Hp κ n a it (bn (.node c rk l r') (-1)++[]) L:=by rw[aN];exact Ar.p H (hC.append_right _)
  have hl:=e.length_eq;simp only[B.cells,lM,lC,lA] at hl;refine (lP A z hk).mono ?_;rintro _ ⟨T,a1,rfl,H1,h1,h2⟩;rw[aN] at H1;refine⟨it c,T.cells.map it,T.hd,_,a1,rfl,?_,fun y D=>?_,⟨it,_,⟨T,rfl,rfl,h2⟩,.refl _,by rw[yj]⟩,Ar.mono H1 (by omega)⟩
  ·refine e.trans ?_;simp only[B.cells,pC];exact List.Perm.cons _ (h1.map it).symm
  ·obtain⟨d,hd,rfl⟩:=List.mem_map.1 (e.mem_iff.1 D);exact z.least d hd
theorem ku {k:Nat}{s:Int}{e:List It}{C':Heap}(h:HK KL r its C)(X:HK KL s e C')(H:Ar κ n a (C++(C'++L)))(hk:70010<k) :
  Do (sw k a r s) fun res=>∃ t u U,res=(t,U)/\HK KL t (its++e) u/\Ar κ (n+17*(its.length+e.length)+30) U (u++L):=by
 obtain⟨it,M,⟨t,rfl,rfl,Y⟩,hC,B⟩:=h;obtain⟨it',Z,⟨i,rfl,rfl,I⟩,x,l⟩:=X;rw[yj] at B l;unfold sw;have hl:=B.length_eq;have F:=l.length_eq;rw[lM] at hl F;have y:∀ d∈t.cells,d ∉ i.cells:=by
  have hn:=Ar.nodup H;have h1:=((((hC.append ((x).append_right L)).map Prod.fst)).nodup_iff).1 hn;rw[List.map_append,List.map_append] at h1;intro d hd D;have z:d∈(lay it (bn t (-1))).map Prod.fst:=((su it (bn t (-1))).mem_iff).2 (mL _ (by rw[wX];exact hd));have A:d∈(lay it' (bn i (-1))).map Prod.fst:=((su it' (bn i (-1))).mem_iff).2 (mL _ (by rw[wX];exact D));exact (List.nodup_append.1 h1).2.2 d z d (mL _ A) rfl
 let j:Nat->It:=fun d=>if d∈t.cells then it d else it' d
 have O:∀ d∈t.cells,j d=it d:=fun d hd=>if_pos hd
 have S:∀ d∈i.cells,j d=it' d:=fun d hd=>if_neg fun h=>y d h hd
 have z:lay j (bn t (-1))=lay it (bn t (-1)):=vX fun ν J=>O _ (by rw[<- wX t (-1)];exact List.mem_map_of_mem J)
 have A:lay j (bn i (-1))=lay it' (bn i (-1)):=vX fun ν J=>S _ (by rw[<- wX i (-1)];exact List.mem_map_of_mem J)
 have W:Hp κ n a j (bn t (-1)++(bn i (-1)++[])) L:=by
  unfold Hp;rw[aN,p8,z,A,aA];exact Ar.p H (hC.append (x.append_right L))
 refine (uK W (Y.congr O) (I.congr S) hk).bind ?_;rintro _ ⟨T,a1,rfl,H1,h1,h2⟩;rw[aN] at H1;refine⟨_,rfl,T.hd,_,a1,rfl,⟨j,_,⟨T,rfl,rfl,h2⟩,.refl _,?_⟩,Ar.mono H1 (by omega)⟩;rw[yj];have h3:=(h1.map j).symm;rw[List.map_append] at h3;have f1:t.cells.map j=t.cells.map it:=List.map_congr_left O;have f2:i.cells.map j=i.cells.map it':=List.map_congr_left S;rw[f1,f2] at h3;exact (B.append l).trans h3
theorem cG {fs:List Fr}{c:Nat}{rk:Int}{l r:B}:(plug fs (.node c rk l r)).hd=(c:Int)->fs≠[]->(plug fs (.node c rk l r)).cells.Nodup->False:=by
 intro h e hn;obtain⟨gs,g,rfl⟩:∃ gs g,fs=gs++[g]:=by
  rcases List.eq_nil_or_concat fs with h|⟨gs,g,h⟩
  ·exact absurd h e
  ·exact⟨gs,g,by rw[h,List.concat_eq_append]⟩
 rw[py] at h hn;have j:g.c=c:=by simp only[Fr.plug,B.hd] at h;omega
 have h2:=((xW gs (.node c rk l r))).mem_iff (a:=c);have i:c∈(plug gs (.node c rk l r)).cells:=h2.2 (List.mem_append_right _ (List.mem_cons_self ..));obtain⟨gc,u,t,x⟩:=g;simp only[Fr.plug,B.cells,List.nodup_cons,iA] at hn;simp only at j;subst j;cases t
 ·exact hn.1 (Or.inr i)
 ·exact hn.1 (Or.inl i)
theorem kj {k:Nat}{x y:It}(h:HL KL r its x y C)(hi:y.i=x.i)(a6:¬ x.lt y)(H:Ar κ n a (C++L))(hk:70010<k) :
  Do (sv k a r (y.i:Int)) fun res=>∃ r' q C' D,res=(r',D)/\its.Perm (x::q)/\HK KL r' (y::q) C'/\Ar κ (n+26*its.length+30) D (C'++L):=by
 obtain⟨it,M,ν,⟨t,rfl,rfl,F⟩,hν,rfl,hC,hI⟩:=h;unfold sv vD;have hl:=hI.length_eq;rw[lM,mD] at hl;have J:Hp κ n a (upd it ν.c y) (bn t (-1)) L:=Ar.p H (hC.append_right _);have hn:=J.nd;obtain⟨q,a0,a5⟩:=jD (y:=y) hn hν rfl;rw[wX] at hn;have b0:ν.c∈t.cells:=by rw[<- wX t (-1)];exact List.mem_map_of_mem hν
 have c7:=J.lt hν;have b5:((upd it ν.c y ν.c).i:Int)=(y.i:Int):=by rw[uj]
 have A:=Ar.cell J (J.item hν) (f:=9) (v:=(ν.c:Int)) rfl (by omega) (by omega);rw[b5] at A;refine Do.assoc (A.bind ?_);rintro _ ⟨a1,rfl,H1⟩;refine Do.seq rfl ?_;refine Do.fb (by simp) ?_;obtain⟨fs,rk,l,r',z⟩:=find b0;have done:∀ {n':Nat} {D:zb},Hp κ n' D (upd it ν.c y) (bn t (-1)) L->fs=[]->n'<=n+26*its.length+30->Do (some (t.hd,D)) fun res=>∃ r' q C' D,res=(r',D)/\its.Perm (it ν.c::q)/\HK KL r' (y::q) C'/\Ar κ (n+26*its.length+30) D (C'++L):=by
  intro n' D H b4 b7;refine⟨_,rfl,t.hd,q,_,D,rfl,hI.trans a0,⟨upd it ν.c y,_,⟨t,rfl,rfl,?_⟩,.refl _,a5.symm⟩,Ar.mono H b7⟩;rw[b4] at z;rw[z] at F hn ⊢;simp only[plug] at F hn ⊢;have I:=List.nodup_cons.1 hn;have u:∀ d∈l.cells++r'.cells,d ≠ ν.c:=fun d hd e=>I.1 (e ▸ hd)
  refine⟨fun d hd=>?_,F.2.1.congr fun d hd=>vv _ _ (u d (mL _ hd)),F.2.2.congr fun d hd=>vv _ _ (u d (List.mem_append_right _ hd))⟩;rw[vv _ _ (u d hd),uj];exact It.le_trans a6 (F.1 d hd)
 by_cases j:(ν.c:Int)=t.hd
 ·refine Do.tb (by simpa using j) ?_;refine Do.seq rfl (Do.t rfl ?_);refine done H1 ?_ (by omega);cases fs with
  | nil=>rfl
  | cons f fs=>rw[z] at j hn;exact (cG j.symm (by simp) hn).elim
 ·refine Do.fb (by simpa using j) ?_;cases fs with
  | nil=>rw[z] at j;exact absurd rfl j
  | cons f fs =>
   have c3:Hp κ (n+1) a1 (upd it ν.c y) (bn (plug (f::fs) (.node ν.c rk l r')) (-1)++[]) L:=by rw[aN,<- z];exact H1
   have b6:(⟨ν.c,f.c,-1,l.hd,r'.hd,rk,0⟩:Nd)∈bn t (-1):=by
    rw[z];exact ((sI (-1) (f::fs) (.node ν.c rk l r')).mem_iff).2 (List.mem_append_right _ (List.mem_cons_self ..))
   have b2:(f.c:Int) < κ.C:=by
    have:=J.lt (ν:=⟨f.c,upOf (-1) fs,-1,bif f.left then (ν.c:Int) else f.sib.hd,bif f.left then f.sib.hd else (ν.c:Int),f.rk,0⟩) (by
     rw[z];exact ((sI (-1) (f::fs) (.node ν.c rk l r')).mem_iff).2 (mL _ (List.mem_cons_self ..)))
    simp only at this;omega
   refine Do.assoc ((Hp.getc H1 b6 (f:=0) (by omega) b2).bind ?_);rintro _ ⟨a2,rfl,H2⟩;refine Do.seq rfl (Do.f (by simp) ?_);have a8:Hp κ (n+2) a2 (upd it ν.c y) (bn (plug (f::fs) (.node ν.c rk l r')) (-1)++[]) L:=by rw[aN,<- z];exact H2
   refine (mW (k:=k) a8 hk).bind ?_;rintro a3 ⟨T,H3,h1,h2,O⟩;have b1:ν.c ∉ (plug (f::fs) .nil).cells:=by
    have p1:=xW (f::fs) (.node ν.c rk l r');rw[z] at hn;have b8:=p1.nodup_iff.1 hn;intro hm;have:=(xW (f::fs) .nil).mem_iff.1 hm;simp only[B.cells,aN] at this;exact (List.nodup_append.1 b8).2.2 _ this _ (List.mem_cons_self ..) rfl
   have o1:Or (upd it ν.c y) (plug (f::fs) .nil):=by
    rw[z] at F;refine (lN (fs:=f::fs) (Y:=.nil) F (by simp[B.cells]) trivial).congr fun d hd=>vv _ _ fun e=>b1 (e ▸ hd)
   have o2:Or (upd it ν.c y) (.node ν.c rk l r'):=by
    rw[z] at F hn;have o3:Or it (.node ν.c rk l r'):=pz (fs:=f::fs) F;have b9:(B.node ν.c rk l r').cells.Nodup:=(List.nodup_append.1 ((xW (f::fs) (.node ν.c rk l r')).nodup_iff.1 hn)).2.1;have I:=List.nodup_cons.1 b9;have u:∀ d∈l.cells++r'.cells,d ≠ ν.c:=fun d hd e=>I.1 (e ▸ hd)
    refine⟨fun d hd=>?_,o3.2.1.congr fun d hd=>vv _ _ (u d (mL _ hd)),o3.2.2.congr fun d hd=>vv _ _ (u d (List.mem_append_right _ hd))⟩;rw[vv _ _ (u d hd),uj];exact It.le_trans a6 (o3.1 d hd)
   rw[<- z] at O;rw[<- O];refine (uK (R:=T) (S:=.node ν.c rk l r') H3 (h2 o1) o2 hk).bind ?_;rintro _ ⟨U,a4,rfl,H4,h3,h4⟩;rw[aN] at H4;have W:=(xW (f::fs) (.node ν.c rk l r')).length_eq;have Z:=(xW (f::fs) .nil).length_eq;have b3:=p7 (fs:=f::fs) (X:=.nil);have e1:=h1.length_eq;rw[<- z] at W;simp only[B.cells,aN,lA,lC,List.length_nil] at W Z b3 e1;refine⟨_,rfl,U.hd,q,_,a4,rfl,hI.trans a0,⟨upd it ν.c y,_,⟨U,rfl,rfl,h4⟩,.refl _,?_⟩,Ar.mono H4 (by simp only[B.cells,lC,lA];omega)⟩;rw[yj];refine a5.symm.trans ?_;rw[yj];refine List.Perm.map _ ?_;rw[z];refine (xW (f::fs) (.node ν.c rk l r')).trans (List.Perm.trans (List.Perm.append_right _ ?_) h3.symm);have:=(xW (f::fs) .nil)
   simp only[B.cells,aN] at this;exact (h1.trans this).symm
theorem fP {k:Nat}{x:It}(h:HK KL r its C)(hx:x∈its)(H:Ar κ n a (C++L))(hk:70010<k) :
  Do (rl k a r (x.i:Int)) fun res=>∃ q r' C' a',res=(r',a')/\its.Perm (x::q)/\HK KL r' q C'/\Ar κ (n+43*its.length+50) a' (C'++((x.i,x.cell (-1))::L)):=by
 obtain⟨it,M,⟨t,rfl,rfl,O⟩,hC,F⟩:=h;obtain⟨ν,hν,rfl⟩:=List.mem_map.1 (F.mem_iff.1 hx);unfold rl vD;have hl:=F.length_eq;rw[lM,mD] at hl;have A:Hp κ n a it (bn t (-1)) L:=Ar.p H (hC.append_right _);have hn:=A.nd;rw[wX] at hn;rw[yj] at F;have a6:ν.c∈t.cells:=by rw[<- wX t (-1)];exact List.mem_map_of_mem hν
 have c2:=A.lt hν;refine Do.assoc ((Ar.cell A (A.item hν) (f:=9) (v:=(ν.c:Int)) rfl (by omega) (by omega)).bind ?_);rintro _ ⟨a1,rfl,H1⟩;refine Do.seq rfl ?_;refine Do.f (by simp) ?_;obtain⟨fs,rk,l,r',j⟩:=find a6;have J:=(xW fs (.node ν.c rk l r'))
 have y:=J.length_eq;rw[<- j] at y;simp only[B.cells,lA,lC] at y;by_cases e:(ν.c:Int)=t.hd
 ·have a9:fs=[]:=by
   cases fs with
   | nil=>rfl
   | cons f fs=>rw[j] at e hn;exact (cG e.symm (by simp) hn).elim
  subst a9;simp only[plug] at j;subst j;refine Do.tb (by simpa using e) ?_;refine Do.seq rfl (Do.t rfl ?_);have W:Hp κ (n+1) a1 it (bn (.node ν.c rk l r') (-1)++[]) L:=by rw[aN];exact H1
  refine (lP W O hk).bind ?_;rintro _ ⟨T,a2,rfl,D,h1,h2⟩;rw[aN] at D;refine⟨_,rfl,T.cells.map it,T.hd,_,a2,rfl,?_,⟨it,_,⟨T,rfl,rfl,h2⟩,.refl _,by rw[yj]⟩,Ar.mono D (by omega)⟩;refine F.trans ?_;simp only[B.cells,pC];exact List.Perm.cons _ (h1.map it).symm
 ·refine Do.fb (by simpa using e) ?_;cases fs with
  | nil=>rw[j] at e;exact absurd rfl e
  | cons f fs =>
   have b0:(⟨ν.c,f.c,-1,l.hd,r'.hd,rk,0⟩:Nd)∈bn t (-1):=by
    rw[j];exact ((sI (-1) (f::fs) (.node ν.c rk l r')).mem_iff).2 (List.mem_append_right _ (List.mem_cons_self ..))
   have a7:(f.c:Int) < κ.C:=by
    have:=A.lt (ν:=⟨f.c,upOf (-1) fs,-1,bif f.left then (ν.c:Int) else f.sib.hd,bif f.left then f.sib.hd else (ν.c:Int),f.rk,0⟩) (by
     rw[j];exact ((sI (-1) (f::fs) (.node ν.c rk l r')).mem_iff).2 (mL _ (List.mem_cons_self ..)))
    simp only at this;omega
   refine Do.assoc ((Hp.getc H1 b0 (f:=0) (by omega) a7).bind ?_);rintro _ ⟨a2,rfl,W⟩;refine Do.seq rfl (Do.f (by simp) ?_);have Z:Hp κ (n+2) a2 it (bn (plug (f::fs) (.node ν.c rk l r')) (-1)++[]) L:=by rw[aN,<- j];exact W
   refine (mW (k:=k) Z hk).bind ?_;rintro a3 ⟨T,D,h1,h2,I⟩;rw[<- j] at I;have o1:Or it (plug (f::fs) .nil):=by
    rw[j] at O;exact lN (fs:=f::fs) (Y:=.nil) O (by simp[B.cells]) trivial
   have o2:Or it (.node ν.c rk l r'):=by
    rw[j] at O;exact pz (fs:=f::fs) O
   have a0:Hp κ (n+2+5+9*(fs.length+1)) a3 it (bn (.node ν.c rk l r') (-1)++bn T (-1)) L:=by
    rw[aN] at D;exact D.p List.perm_append_comm
   refine (lP a0 o2 hk).bind ?_;rintro _ ⟨U,a4,rfl,H4,h3,h4⟩;rw[<- I];have H5:Hp κ (n+2+5+9*(fs.length+1)+17*(l.cells.length+r'.cells.length)+7) a4 it (bn T (-1)++(bn U (-1)++[])) (((it ν.c).i,(it ν.c).cell (-1))::L):=by
    rw[aN];exact H4.p List.perm_append_comm
   refine (uK (R:=T) (S:=U) H5 (h2 o1) h4 hk).bind ?_;rintro _ ⟨V,a5,rfl,H6,h5,h6⟩;rw[aN] at H6;have u:=(xW (f::fs) .nil)
   have z:=u.length_eq;have a8:=p7 (fs:=f::fs) (X:=.nil);have e1:=h1.length_eq;have e3:=h3.length_eq;simp only[B.cells,aN,lA,lC,List.length_nil] at u z a8 e1 e3;refine⟨_,rfl,V.cells.map it,V.hd,_,a5,rfl,?_,⟨it,_,⟨V,rfl,rfl,h6⟩,.refl _,by rw[yj]⟩,Ar.mono H6 (by omega)⟩;refine F.trans ?_;rw[j];refine (J.map it).trans ?_;have h7:(fc (f::fs)++(B.node ν.c rk l r').cells).Perm (ν.c::V.cells):=by
    refine cpm fun P=>?_
    have q1:=h5.countP_eq P;have q2:=h1.countP_eq P;have q3:=h3.countP_eq P;have q4:=u.countP_eq P;simp only[B.cells,List.countP_append,List.countP_cons,List.cons_append] at q1 q2 q3 q4 ⊢;omega
   have:=h7.map it
   rwa [pC] at this
end
end Le
end
noncomputable section
set_option maxRecDepth 10000
def Lt.top (l:Lt):Nd:=⟨l.t.c,l.u,l.t.kids.hd,-1,l.w,l.t.r,0⟩
theorem l6 (l:Lt):l.nd=l.top::nd l.t.kids l.t.c:=rfl
theorem nG {ls:List Lt}{l:Lt}(h:l∈ls):l.top∈LN ls:=List.mem_flatMap.2 ⟨l,h,List.mem_cons_self ..⟩
def cs (e:List Tr):List Int:=e.map fun t=>(t.c:Int)
def lc (ls:List Lt):List Int:=cs (ls.map Lt.t)
theorem wP (l m:List Lt):lc (l++m)=lc l++lc m:=by simp[lc,cs]
theorem lD (l:Lt)(m:List Lt):lc (l::m)=(l.t.c:Int)::lc m:=rfl
theorem w7 (l:List Lt):(lc l).length=l.length:=by simp[lc,cs]
section
variable {κ:Cfg} {it:Nat->It} {N:List Nd} {L:Heap}
theorem dj (all:List Lt)(hl:all.length<100000):∀ (rs i:List Lt) {n:Nat}{a:zb} (H:Hp κ n a it (LN rs++(nd (F.of (i.map Lt.t)) (-1)++N)) L) (m:Nat),rs.length<m->all=rs.reverse++i ->
  Do (uA (lc all) m (F.of (i.map Lt.t)).hd ((rs.length:Int) - 1) a) fun r=>∃ x,r=((F.of (all.map Lt.t)).hd,x)/\Hp κ (n+2*rs.length) x it (nd (F.of (all.map Lt.t)) (-1)++N) L
 | [],i,n,a,H,m,hm,e=>by
  obtain⟨m,rfl⟩:∃ q,m=q+1:=⟨m - 1,by omega⟩
  rw[uA];refine Do.f (dF (by simp)) ?_;have D:all=i:=e;subst D;exact⟨_,rfl,a,rfl,H⟩
 | l::rs,i,n,a,H,m,hm,e=>by
  obtain⟨m,rfl⟩:∃ q,m=q+1:=⟨m - 1,by simp at hm;omega⟩
  simp only[lC] at hm;have hlen:rs.length<100000:=by have:=congrArg List.length e;simp at this;omega
  have I:(((l::rs).length:Nat):Int) - 1=(rs.length:Int):=by simp only[lC];omega
  have j:mIdx (lc all) (rs.length:Int)=some (l.t.c:Int):=by
   rw[e,List.reverse_cons,aA,wP];have:=yr (lc rs.reverse) (lc i) (l.t.c:Int);rw[w7,List.length_reverse] at this;exact this
  rw[I,uA];refine Do.t (dT (by omega)) ?_;refine Do.seq j ?_;have H1:Hp κ n a it (l.top::(nd l.t.kids l.t.c++(LN rs++(nd (F.of (i.map Lt.t)) (-1)++N)))) L:=by
   refine H.p (npm fun p=>?_);rw[tK,l6];simp only[List.countP_cons,List.countP_append];omega
  refine (H1.set ⟨l.t.c,l.u,l.t.kids.hd,-1,(F.of (i.map Lt.t)).hd,l.t.r,0⟩).bind ?_;rintro _ ⟨a1,rfl,y⟩;refine Do.seq j ?_;refine (y.set (ν:=⟨l.t.c,l.u,l.t.kids.hd,-1,(F.of (i.map Lt.t)).hd,l.t.r,0⟩) ⟨l.t.c,-1,l.t.kids.hd,-1,(F.of (i.map Lt.t)).hd,l.t.r,0⟩).bind ?_;rintro _ ⟨a2,rfl,z⟩;refine Do.seq j ?_;rw[zP (by omega) (by omega)];have A:Hp κ (n+2) a2 it (LN rs++(nd (F.of ((l::i).map Lt.t)) (-1)++N)) L:=by
   refine z.p (npm fun p=>?_);simp only[pC,F.of,nd,List.countP_cons,List.countP_append];omega
  refine (dj all hl rs (l::i) A m (by omega) (by rw[e];simp)).mono ?_;rintro _ ⟨a3,rfl,B⟩;exact⟨a3,rfl,B.mono (by simp only[lC];omega)⟩
theorem dp {k:Nat}(ls:List Lt)(hl:ls.length<100000)(hk:ls.length<k){n:Nat}{a:zb}(H:Hp κ n a it (LN ls++N) L) :
  Do (pQ k a (lc ls)) fun r=>∃ e,r=((F.of (ls.map Lt.t)).hd,e)/\Hp κ (n+2*ls.length) e it (nd (F.of (ls.map Lt.t)) (-1)++N) L:=by
 unfold pQ;rw[w7,zP (by omega) (by omega)];have H1:Hp κ n a it (LN ls.reverse++(nd (F.of (([]:List Lt).map Lt.t)) (-1)++N)) L:=H.p ((jo ls.reverse_perm.symm).append_right _);have:=dj ls hl ls.reverse [] H1 k (by simpa using hk) (by simp);rw[List.length_reverse] at this;refine this.bind ?_;rintro _ ⟨a1,rfl,i⟩;exact⟨_,rfl,a1,rfl,i⟩
def zl (l:List Nat):List Int:=l.map fun c:Nat=>(c:Int)
def bst (it:Nat->It):Nat->List Nat->Nat
 | b,[]=>b
 | b,c::r=>bst it (if (it c).lt (it b) then c else b) r
theorem js:∀ (l:List Nat) (b:Nat),bst it b l=b \/ bst it b l∈l
 | [],b=>Or.inl rfl
 | c::r,b=>by
  rw[bst];split
  ·rcases js r c with h|h
   ·exact Or.inr (by rw[h];exact List.mem_cons_self ..)
   ·exact Or.inr (mC _ h)
  ·rcases js r b with h|h
   ·exact Or.inl h
   ·exact Or.inr (mC _ h)
theorem jt:∀ (l:List Nat) (b:Nat),(¬ (it b).lt (it (bst it b l))) /\ ∀ c∈l,¬ (it c).lt (it (bst it b l))
 | [],b=>⟨It.lt_irrefl _,by simp⟩
 | c::r,b=>by
  rw[bst];split
  ·rename_i h;obtain⟨h1,h2⟩:=jt r c;refine⟨It.le_trans h1 (It.lt_asymm h),fun d hd=>?_⟩;rcases List.mem_cons.1 hd with rfl|hd
   ·exact h1
   ·exact h2 d hd
  ·rename_i h;obtain⟨h1,h2⟩:=jt r b;refine⟨h1,fun d hd=>?_⟩;rcases List.mem_cons.1 hd with rfl|hd
   ·exact It.le_trans h1 h
   ·exact h2 d hd
theorem fI {k:Nat}(all:List Nat)(l:∀ c∈all,∃ ν ∈ N,ν.c=c)(hl:all.length<100000):∀ (post pre:List Nat) (b:Nat) {n:Nat}{a:zb} (H:Hp κ n a it N L) (m:Nat),post.length+3<m->all=pre++post->b∈all ->
  Do (wJ (all.length:Int) (zl all) m (b:Int) (pre.length:Int) a) fun r=>∃ y,r=(((bst it b post:Nat):Int),y)/\Hp κ (n+6*post.length) y it N L
 | [],pre,b,n,a,H,m,hm,e,u=>by
  obtain⟨m,rfl⟩:∃ q,m=q+1:=⟨m - 1,by simp at hm;omega⟩
  rw[wJ];refine Do.f (dF (by rw[e];simp)) ?_;exact⟨_,rfl,a,rfl,H⟩
 | c::post,pre,b,n,a,H,m,hm,e,u=>by
  obtain⟨m,rfl⟩:∃ q,m=q+1:=⟨m - 1,by simp at hm;omega⟩
  simp only[lC] at hm;have hlen:pre.length<100000:=by have:=congrArg List.length e;simp at this;omega
  have D:mIdx (zl all) (pre.length:Int)=some (c:Int):=by
   rw[e,zl,List.map_append];have:=yr (zl pre) (zl post) (c:Int)
   rwa [zl,lM] at this
  rw[wJ];refine Do.t (dT (by rw[e];simp;omega)) ?_;refine Do.assoc (Do.seq D ?_);obtain⟨ν,I,B⟩:=l c (by rw[e];simp);obtain⟨μ,F,A⟩:=l b u;refine Do.assoc (Do.fb (by simp) ?_);have:=H.before (k:=m) (by omega) I F;rw[B,A] at this;refine Do.assoc (this.bind ?_);rintro _ ⟨a1,rfl,H1⟩;have x:(if (it c).lt (it b) then c else b)∈all:=by
   split
   ·rw[e];simp
   ·exact u
  have:=fI (k:=k) all l hl post (pre++[c]) (if (it c).lt (it b) then c else b) H1 m (by omega) (by rw[e];simp) x;have z:w64 ((pre.length:Int)+1)=((pre++[c]).length:Int):=by rw[zP (by omega) (by omega)];simp
  rw[<- z] at this;simp only[bS];rw[bst];by_cases i:(it c).lt (it b)
  ·rw[if_pos i] at this ⊢;refine Do.tb (dT i) ?_;simp only[bS];refine this.mono ?_;rintro _ ⟨a2,rfl,j⟩;exact⟨a2,rfl,j.mono (by simp only[lC];omega)⟩
  ·rw[if_neg i] at this ⊢;refine Do.fb (dF i) ?_;simp only[bS];refine this.mono ?_;rintro _ ⟨a2,rfl,j⟩;exact⟨a2,rfl,j.mono (by simp only[lC];omega)⟩
theorem jY {k:Nat}(hk:0<k)(a:zb):vd k a []=some (-1,a):=by
 obtain⟨m,rfl⟩:∃ q,k=q+1:=⟨k - 1,by omega⟩
 unfold vd;rw[wJ];rfl
theorem fJ {k:Nat}(c:Nat)(r:List Nat)(l:∀ d∈c::r,∃ ν ∈ N,ν.c=d)(hl:r.length<90000)(hk:r.length+4<k){n:Nat}{a:zb}(H:Hp κ n a it N L) :
  Do (vd k a (zl (c::r))) fun res=>∃ i,res=(((bst it c r:Nat):Int),i)/\Hp κ (n+6*r.length) i it N L:=by
 obtain⟨m,rfl⟩:∃ q,k=q+1:=⟨k - 1,by omega⟩
 unfold vd;rw[wJ];refine Do.bind (P:=fun res=>∃ i,res=(((bst it c r:Nat):Int),i)/\Hp κ (n+6*r.length) i it N L) ?_ (by
  rintro _ ⟨a2,rfl,j⟩;exact⟨_,rfl,a2,rfl,j⟩)
 refine Do.t (dT (by simp[zl])) ?_;refine Do.assoc (Do.seq (yr [] (zl r) (c:Int)) ?_);simp only[bS,beq_self_eq_true,cT];have:=fI (k:=0) (c::r) l (by simp only[lC];omega) r [c] c H m (by omega) rfl (List.mem_cons_self ..);have e:((zl (c::r)).length:Int)=((c::r).length:Int):=by simp[zl]
 rw[e];exact this
end
def rOk (x:zm):Prop:=0<=x.rank/\x.rank<1000
theorem dC {x y:zm}(e:rOk x)(i:rOk y):(ua x y).map (fun t=>decide (t<0))=some (decide (x.rank<y.rank)):=by
 obtain⟨h1,h2⟩:=e;obtain⟨h3,h4⟩:=i;unfold ua;rw[zP (by omega) (by omega)];simp only[Option.map_some];congr 1;rw[decide_eq_decide];split <;> split <;> omega
def RS (l:List zm):Prop:=l.Pairwise fun x y=>x.rank<=y.rank
theorem lV {α:Type}(p q:List α)(x y:α):mSet (p++x::q) (p.length:Int) y=p++y::q:=by
 unfold mSet;simp
theorem cp (A i1:Int):∀ (e:List zm) (x:zm) (S:List zm) (m:Nat),e.length<m->e.length<1000->rOk x->(∀ y∈e,rOk y)->RS e.reverse ->
  Do (zO 0 A i1 m (e.length:Int) (e.reverse++x::S)) fun r=>∃ q,r=q++S/\RS q/\q.Perm (x::e)
 | [],x,S,m,hm,B,l,hr,hs=>by
  obtain⟨m,rfl⟩:∃ q,m=q+1:=⟨m - 1,by omega⟩
  rw[zO];refine Do.fb (dF (by simp)) ?_;refine Do.seq rfl (Do.f rfl ?_);exact⟨_,rfl,[x],rfl,by simp[RS],.refl _⟩
 | y::e,x,S,m,hm,B,l,hr,hs=>by
  obtain⟨m,rfl⟩:∃ q,m=q+1:=⟨m - 1,by omega⟩
  simp only[lC] at hm B;have W:=hr y (List.mem_cons_self ..);have e0:(y::e).reverse++x::S=e.reverse++y::x::S:=by simp
  have D:mIdx (e.reverse++y::x::S) (((y::e).length:Nat):Int)=some x:=by
   have:=yr (e.reverse++[y]) S x;simpa using this
  have F:w64 ((((y::e).length:Nat):Int) - 1)=(e.length:Int):=by simp only[lC];rw[zP (by omega) (by omega)];omega
  have I:mIdx (e.reverse++y::x::S) (e.length:Int)=some y:=by
   have:=yr e.reverse (x::S) y;simpa using this
  rw[e0,zO,D,F,I];refine Do.tb (dT (by simp only[lC];omega)) ?_;simp only[bS];have i:=dC l W;cases hf:ua x y with
  | none=>rw[hf] at i;cases i
  | some t =>
   rw[hf] at i;simp only[Option.map_some,Option.some.injEq] at i;simp only[bS];rw[i];have hs':RS e.reverse:=by
    simp only[RS,List.reverse_cons,List.pairwise_append] at hs;exact hs.1
   have hle:∀ z∈e,z.rank<=y.rank:=by
    simp only[RS,List.reverse_cons,List.pairwise_append] at hs;intro z hz;exact hs.2.2 z (by simpa using hz) y (by simp)
   by_cases j:x.rank<y.rank
   ·refine Do.t (dT j) ?_;have J:mSet (e.reverse++y::x::S) (((y::e).length:Nat):Int) y=e.reverse++y::y::S:=by
     have:=lV (e.reverse++[y]) S x y;simpa using this
    have O:mIdx (e.reverse++y::y::S) (e.length:Int)=some y:=by
     have:=yr e.reverse (y::S) y;simpa using this
    have U:mSet (e.reverse++y::y::S) (e.length:Int) x=e.reverse++x::y::S:=by
     have:=lV e.reverse (y::S) y x;simpa using this
    rw[J,O,U];simp only[bS];refine (cp A i1 e x (y::S) m (by omega) (by omega) l (fun z hz=>hr z (mC _ hz)) hs').mono ?_;rintro _ ⟨q,rfl,hq,hp⟩;refine⟨q++[y],by simp,?_,?_⟩
    ·simp only[RS,List.pairwise_append];refine⟨hq,by simp,fun z hz u hu=>?_⟩;simp only[List.mem_singleton] at hu;subst hu;rcases List.mem_cons.1 (hp.mem_iff.1 hz) with rfl|hz
     ·omega
     ·exact hle z hz
    ·refine (List.perm_append_singleton y q).trans ((hp.cons y).trans (List.Perm.swap ..))
   ·refine Do.f (dF j) ?_;refine⟨_,rfl,e.reverse++[y,x],by simp,?_,?_⟩
    ·simp only[RS,List.pairwise_append];refine⟨hs',by simp;omega,fun z hz u hu=>?_⟩;have:=hle z (by simpa using hz);simp only[iC,List.not_mem_nil,or_false] at hu;rcases hu with rfl|rfl <;> omega
    ·refine (List.perm_append_comm).trans ?_;simp only[List.cons_append,List.nil_append];exact (List.Perm.swap ..).trans (((List.reverse_perm e).cons y).cons x)
theorem cl (all:Nat)(u:all<1000):∀ (d i:Nat) (A S:List zm) (m:Nat),A.length=i->S.length=d->all=i+d->all+d<m->RS A->(∀ y∈A++S,rOk y) ->
  Do (zH 0 (all:Int) m (i:Int) (A++S)) fun r=>RS r/\r.Perm (A++S)
 | 0,i,A,S,m,hA,z,e,hm,hs,hr=>by
  obtain⟨m,rfl⟩:∃ q,m=q+1:=⟨m - 1,by omega⟩
  rw[zH];refine Do.f (dF (by omega)) ?_;have:=List.eq_nil_of_length_eq_zero z;subst this;exact⟨_,rfl,by simpa using hs,.refl _⟩
 | d+1,i,A,S,m,hA,z,e,hm,hs,hr=>by
  obtain⟨m,rfl⟩:∃ q,m=q+1:=⟨m - 1,by omega⟩
  rw[zH];refine Do.t (dT (by omega)) ?_;cases S with
  | nil=>simp at z
  | cons x S =>
   simp only[lC] at z;have:=cp (all:Int) (i:Int) A.reverse x S m (by simp;omega) (by simp;omega) (hr x (by simp)) (fun y j=>hr y (by simp at j;simp[j])) (by simpa using hs);rw[List.reverse_reverse,List.length_reverse,hA] at this;refine this.bind ?_;rintro _ ⟨q,rfl,hq,hp⟩;have l:q.Perm (A++[x]):=hp.trans ((List.reverse_perm A).cons x |>.trans (List.perm_append_singleton x A).symm);rw[zP (by omega) (by omega)];have hl:q.length=i+1:=by rw[l.length_eq];simp[hA]
   refine (cl all u d (i+1) q S m hl (by omega) (by omega) (by omega) hq (fun y j=>hr y ?_)).mono ?_
   ·rcases List.mem_append.1 j with j|j
    ·have:=l.mem_iff.1 j;simp at this ⊢;rcases this with h|h <;> simp[h]
    ·simp[j]
   ·rintro r ⟨h1,h2⟩;refine⟨h1,h2.trans ?_⟩;have:=l.append_right S;simpa using this
theorem iq {k:Nat}(l:List zm)(hl:l.length<=20)(hk:100<=k)(hr:∀ y∈l,rOk y) :
  Do (zM k l 0 (l.length:Int)) fun r=>RS r/\r.Perm l:=by
 unfold zM;rw[show w64 (0+1)=((1:Nat):Int) from rfl];cases l with
 | nil =>
  obtain⟨m,rfl⟩:∃ q,k=q+1:=⟨k - 1,by omega⟩
  rw[zH];exact⟨_,rfl,by simp[RS],.refl _⟩
 | cons x S =>
  have:=cl (x::S).length (by omega) S.length 1 [x] S k rfl rfl (by simp;omega) (by simp at *;omega) (by simp[RS]) (by simpa using hr);refine this.bind ?_;rintro r ⟨h1,h2⟩;have e:sa r.length (x::S).length=some ():=by unfold sa;rw[if_pos (by simpa using h2.length_eq)]
  simp only[e,bS];exact⟨_,rfl,h1,h2⟩
theorem dd {k:Nat}(l:List zm)(hl:l.length<=20)(hk:200<=k)(hr:∀ y∈l,rOk y) :
  Do (yu k l) fun r=>RS r/\r.Perm l:=by
 unfold yu y1;obtain⟨m,rfl⟩:∃ q,k=q+2:=⟨k - 2,by omega⟩
 by_cases h:l.length=20
 ·have hi:=iq (k:=m+1) l hl (by omega) hr;have i:(l.length:Int)=20:=by omega
  rw[zX,i,dT (by decide:(20:Int)<=20)];rw[i] at hi;simp only[cT];refine Do.assoc (Do.assoc (hi.bind ?_));rintro r ⟨h1,h2⟩;have e:sa r.length l.length=some ():=by unfold sa;rw[if_pos h2.length_eq]
  rw[zX,show w64 (20+20)=40 from rfl,dF (by decide:¬ (40:Int)<=20)];simp only[cF,bS];have j:zM (m+2) r 20 20=some r:=by
   unfold zM;rw[zH,show w64 (20+1)=21 from rfl,dF (by decide:¬ (21:Int)<20)];simp[sa]
  rw[j];simp only[bS];rw[ya,dF (by decide:¬ (20:Int)<20)];simp only[cF,bS,e];exact⟨_,rfl,h1,h2⟩
 ·rw[zX,dF (by omega:¬ (20:Int)<=(l.length:Int))];simp only[cF,bS];refine Do.assoc ((iq l hl (by omega) hr).bind ?_);rintro r ⟨h1,h2⟩;have e:sa r.length l.length=some ():=by unfold sa;rw[if_pos h2.length_eq]
  rw[ya,dF (by omega:¬ (20:Int)<(l.length:Int))];simp only[cF,bS,e];exact⟨_,rfl,h1,h2⟩
end
noncomputable section
set_option maxRecDepth 10000
inductive SK (b:Bool):F->Nat->Prop
 | nil:SK b .nil 0
 | real {c r:Nat} {kids rest:F}:SK b kids r->SK b rest r->SK b (.cons c r kids rest) (r+1)
 | leaf {d c r:Nat} {kids rest:F}:b=true->SK b kids r->SK b rest r->SK b (.cons d 0 .nil (.cons c r kids rest)) (r+1)
theorem SK.size {b:Bool}{f:F}{r:Nat}(h:SK b f r):2 ^ r<=f.size+1/\f.size+1<2 ^ (r+1)/\(b=false->f.size+1=2 ^ r):=by
 induction h with
 | nil=>simp[F.size]
 | real h1 h2 i1 i2 =>
  simp only[F.size,Nat.pow_succ] at *
  refine⟨by omega,by omega,fun e=>?_⟩;have j:=i1.2.2 e;have l:=i2.2.2 e;omega
 | leaf i h1 h2 i1 i2 =>
  simp only[F.size,Nat.pow_succ] at *
  refine⟨by omega,by omega,fun e=>?_⟩;rw[e] at i;cases i
def Ord (it:Nat->It)(N:List Nd):Prop:=∀ ν ∈ N,∀ q:Nat,ν.up=(q:Int) -> ¬ (it ν.c).lt (it q)
theorem Ord.append {it:Nat->It}{M N:List Nd}(h:Ord it M)(e:Ord it N):Ord it (M++N):=fun ν i=>by
 rcases List.mem_append.1 i with h1|h1
 ·exact h ν h1
 ·exact e ν h1
theorem Ord.sub {it:Nat->It}{M N:List Nd}(h:Ord it N)(hs:∀ ν ∈ M,ν ∈ N):Ord it M:=fun ν e=>h ν (hs ν e)
structure GT (b:Bool) (it:Nat->It) (t:Tr):Prop where
 sk:SK b t.kids t.r
 ord:Ord it (nd t.kids t.c)
theorem GT.under {b:Bool}{it:Nat->It}{t l:Tr}(ht:GT b it t)(hl:GT b it l)(hr:l.r=t.r)(i:¬ (it l.c).lt (it t.c)):GT b it (t.under l) where
 sk:=by
  show SK b (.cons l.c l.r l.kids t.kids) (t.r+1);rw[hr];exact .real (hr ▸ hl.sk) ht.sk
 ord:=by
  show Ord it (⟨l.c,t.c,l.kids.hd,-1,t.kids.hd,l.r,0⟩::(nd l.kids l.c++nd t.kids t.c));intro ν e q hq;rcases List.mem_cons.1 e with rfl|e
  ·simp only at hq ⊢;have:q=t.c:=by omega
   rw[this];exact i
  ·exact (hl.ord.append ht.ord) ν e q hq
theorem bQ {b:Bool}{it:Nat->It}{s t:Tr}(hs:GT b it s)(ht:GT b it t)(hr:s.r=t.r):GT b it (lk it s t)/\(lk it s t).r=s.r+1/\(lk it s t).cells.Perm (s.cells++t.cells):=by
 unfold lk;split
 ·rename_i h;refine⟨ht.under hs hr (It.lt_asymm h),by simp[Tr.under,hr],?_⟩;simp only[Tr.cells,Tr.under,F.cells,List.cons_append];exact (List.Perm.swap ..).trans (List.Perm.cons _ (List.perm_middle.symm))
 ·rename_i h;refine⟨hs.under ht hr.symm h,rfl,?_⟩;simp only[Tr.cells,Tr.under,F.cells,List.cons_append];refine List.Perm.cons _ ?_;exact List.perm_append_comm (l₁:=t.c::t.kids.cells) (l₂:=s.kids.cells)
theorem er {α β:Type}{f:α -> β}{l r:List β}(h:r.Perm l):∀ ls:List α,ls.map f=l -> ∃ ws:List α,ws.Perm ls/\ws.map f=r:=by
 induction h with
 | nil=>intro ls e;exact⟨ls,.refl _,e⟩
 | cons x h ih =>
  intro ls e;cases ls with
  | nil=>simp at e
  | cons y ls =>
   simp only[pC,List.cons.injEq] at e;obtain⟨ws,h1,h2⟩:=ih ls e.2;exact⟨y::ws,h1.cons y,by simp[h2,e.1]⟩
 | swap x y l =>
  intro ls e;cases ls with
  | nil=>simp at e
  | cons u ls =>
   cases ls with
   | nil=>simp at e
   | cons v ls =>
    simp only[pC,List.cons.injEq] at e;exact⟨v::u::ls,List.Perm.swap ..,by simp[e]⟩
 | trans h1 h2 i1 i2 =>
  intro ls e;obtain⟨ws,h3,h4⟩:=i2 ls e;obtain⟨vs,i,j⟩:=i1 ws h4;exact⟨vs,i.trans h3,j⟩
theorem ph {α:Type}{l:List α}{i:Nat}(h:i<=l.length):mCut l (i:Int) (l.length:Int)=some (l.drop i):=by
 unfold mCut;rw[if_pos ⟨by omega,by omega,by omega⟩];simp
def rk (l:Lt):zm:=zm.mk (l.t.c:Int) (l.t.r:Int)
section
variable {κ:Cfg} {it:Nat->It} {N:List Nd} {L:Heap} {b:Bool}
theorem eO {n:Nat}{a:zb}{ls:List Lt}(H:Hp κ n a it (LN ls++N) L)(i:∀ l∈ls,GT b it l.t):∀ l∈ls,l.t.r<17:=by
 intro l hl;have h1:=(i l hl).sk.size.1;have h2:=H.room;have h3:=H.cap;have h4:l.nd.length<=(LN ls).length:=by
  obtain⟨p,q,rfl⟩:=List.append_of_mem hl;rw[wN,tK];simp only[lA];omega
 rw[l6,lC,rR] at h4;rw[lA] at h2;have e:2 ^ l.t.r<2 ^ 17:=by
  have:(2:Nat) ^ 17=131072:=by decide
  omega
 exact (Nat.pow_lt_pow_iff_right (by decide)).1 e
theorem j1 (all:List Lt)(j:∀ l∈all,l.top∈N)(hl:all.length<100000):∀ (post pre:List Lt) {n:Nat}{a:zb} (H:Hp κ n a it N L) (m:Nat),post.length<m->all=pre++post ->
  Do (ve (all.length:Int) (lc all) m (pre.map rk) (pre.length:Int) a) fun r=>∃ i,r=(all.map rk,i)/\Hp κ (n+post.length) i it N L
 | [],pre,n,a,H,m,hm,e=>by
  obtain⟨m,rfl⟩:∃ q,m=q+1:=⟨m - 1,by simp at hm;omega⟩
  rw[ve];refine Do.f (dF (by rw[e];simp)) ?_;exact⟨_,rfl,a,by rw[e];simp,H⟩
 | l::post,pre,n,a,H,m,hm,e=>by
  obtain⟨m,rfl⟩:∃ q,m=q+1:=⟨m - 1,by simp at hm;omega⟩
  simp only[lC] at hm;have hlen:pre.length<100000:=by have:=congrArg List.length e;simp at this;omega
  have y:mIdx (lc all) (pre.length:Int)=some (l.t.c:Int):=by
   rw[e,wP,lD];have:=yr (lc pre) (lc post) (l.t.c:Int)
   rwa [w7] at this
  rw[ve];refine Do.t (dT (by rw[e];simp;omega)) ?_;refine Do.seq y ?_;refine (H.get (j l (by rw[e];simp)) (f:=4) (v:=(l.t.r:Int))).bind ?_;rintro _ ⟨a1,rfl,H1⟩;refine Do.seq (y4 (by simp;omega)) ?_;rw[zP (by omega) (by omega)];have:=j1 all j hl post (pre++[l]) H1 m (by omega) (by rw[e];simp);have x:((pre++[l]).length:Int)=(pre.length:Int)+1:=by simp
  rw[x,List.map_append] at this;refine this.mono ?_;rintro _ ⟨a2,rfl,u⟩;exact⟨a2,rfl,u.mono (by simp only[lC];omega)⟩
theorem j2 (v v1:Int)(u y:List Int)(a:zb):∀ (post pre:List Lt) (m:Nat),post.length<m->(pre++post).length<100000->(∀ l∈pre,(l.t.r:Int)<v1) ->
  Do (vf ((pre++post).map rk) v v1 u a y m (pre.length:Int)) fun r=>∃ p q,pre++post=p++q/\r=(p.length:Int)/\(∀ l∈p,(l.t.r:Int)<v1)/\(∀ l z,q=l::z -> ¬ (l.t.r:Int)<v1)
 | [],pre,m,hm,j,hp=>by
  obtain⟨m,rfl⟩:∃ q,m=q+1:=⟨m - 1,by simp at hm;omega⟩
  rw[vf];refine Do.fb (dF (by simp)) ?_;refine Do.seq rfl (Do.f rfl ?_);exact⟨_,rfl,pre,[],rfl,rfl,hp,fun _ _ h=>by cases h⟩
 | l::post,pre,m,hm,j,hp=>by
  obtain⟨m,rfl⟩:∃ q,m=q+1:=⟨m - 1,by simp at hm;omega⟩
  simp only[lC,lA] at hm j;have B:mIdx ((pre++l::post).map rk) (pre.length:Int)=some (rk l):=by
   rw[List.map_append,pC];have:=yr (pre.map rk) (post.map rk) (rk l)
   rwa [lM] at this
  rw[vf];refine Do.tb (dT (by simp;omega)) ?_;refine Do.assoc (Do.seq B ?_);refine Do.seq rfl ?_;by_cases h:(l.t.r:Int)<v1
  ·refine Do.t (dT h) ?_;rw[zP (by omega) (by omega)];have:=j2 v v1 u y a post (pre++[l]) m (by omega) (by simp;omega) (by
    intro x i;rcases List.mem_append.1 i with i|i
    ·exact hp x i
    ·simp at i;subst i;exact h)
   have A:((pre++[l]).length:Int)=(pre.length:Int)+1:=by simp
   rw[A,aA] at this;exact this
  ·refine Do.f (dF h) ?_;exact⟨_,rfl,pre,l::post,rfl,rfl,hp,fun x z e=>by cases e;exact h⟩
def LS (l:List Lt):Prop:=l.Pairwise fun x y=>x.t.r<=y.t.r
def LSS (l:List Lt):Prop:=l.Pairwise fun x y=>x.t.r<y.t.r
theorem vU (s t:List Tr):TC (s++t)=TC s++TC t:=List.flatMap_append
theorem rJ (s:Tr)(t:List Tr):TC (s::t)=s.cells++TC t:=rfl
theorem fE {s t:List Tr}(h:s.Perm t):(TC s).Perm (TC t):=h.flatMap_right _
theorem cpm {l l':List Nat}(h:∀ p:Nat->Bool,l.countP p=l'.countP p):l.Perm l':=List.perm_iff_count.2 fun x=>h _
theorem ll (O:List Int):∀ (q:Nat) (ws os:List Lt) {n:Nat}{a:zb} (H:Hp κ n a it (LN ws++(LN os++N)) L) (m:Nat),ws.length=q->q+os.length<1000->q+10+1000<m->(∀ l∈ws,GT b it l.t)->(∀ l∈os,GT b it l.t)->LS ws->LSS os->(∀ o∈os,∀ w∈ws,o.t.r<w.t.r) ->
  Do (wi O m (ws.map rk) (lc os) a) fun r=>∃ fs J,r=(lc fs,J)/\Hp κ (n+11*q) J it (LN fs++N) L/\(∀ l∈fs,GT b it l.t)/\LSS fs/\(TC (fs.map Lt.t)).Perm (TC (ws.map Lt.t)++TC (os.map Lt.t))/\fs.length<=q+os.length
 | 0,ws,os,n,a,H,m,hq,hb,hm,F,z,hs,B,j=>by
  obtain⟨m,rfl⟩:∃ q,m=q+1:=⟨m - 1,by omega⟩
  have:=List.eq_nil_of_length_eq_zero hq;subst this;rw[wi];refine Do.f (dF (by simp)) ?_;exact⟨_,rfl,os,a,rfl,H,z,B,by simp[TC],by simp⟩
 | q+1,ws,os,n,a,H,m,hq,hb,hm,F,z,hs,B,j=>by
  obtain⟨m,rfl⟩:∃ q,m=q+1:=⟨m - 1,by omega⟩
  cases ws with
  | nil=>simp at hq
  | cons x ws =>
   simp only[lC] at hq;have A:ws.length=q:=by omega
   rw[wi];refine Do.t (dT (by simp)) ?_;refine Do.seq (r:=rk x) rfl ?_;have I:LS ws:=(List.pairwise_cons.1 hs).2;have hx:=(List.pairwise_cons.1 hs).1;have out:(∀ w∈ws,x.t.r<w.t.r)->Do ((mCut (rk x::ws.map rk) 1 (((x::ws).map rk).length:Int)).bind fun l4=>(mApp (lc os) ([(rk x).n]:List Int)).bind fun l5=>wi O m l4 l5 a) fun r=>∃ fs J,r=(lc fs,J)/\Hp κ (n+11*(q+1)) J it (LN fs++N) L/\(∀ l∈fs,GT b it l.t)/\LSS fs/\(TC (fs.map Lt.t)).Perm (TC ((x::ws).map Lt.t)++TC (os.map Lt.t))/\fs.length<=q+1+os.length:=by
    intro W;have U:mCut (rk x::ws.map rk) 1 (((x::ws).map rk).length:Int)=some (ws.map rk):=ph (l:=(x::ws).map rk) (i:=1) (by simp);refine Do.seq U ?_;refine Do.seq (y4 (by simp[w7];omega)) ?_;have H1:Hp κ n a it (LN ws++(LN (os++[x])++N)) L:=H.p (npm fun p=>by
     simp only[tK,wN,List.countP_append,show LN ([]:List Lt)=[] from rfl,List.countP_nil];omega)
    have:=ll O q ws (os++[x]) H1 m A (by simp;omega) (by omega) (fun l h=>F l (mC _ h)) (fun l h=>by
     rcases List.mem_append.1 h with h|h
     ·exact z l h
     ·simp at h;subst h;exact F l (List.mem_cons_self ..)) I (List.pairwise_append.2 ⟨B,by simp,fun o e y hy=>by simp at hy;subst hy;exact j o e y (List.mem_cons_self ..)⟩) (fun o e w hw=>by
     rcases List.mem_append.1 e with e|e
     ·exact j o e w (mC _ hw)
     ·simp at e;subst e;exact W w hw)
    rw[wP] at this;refine this.mono ?_;rintro _ ⟨fs,a2,rfl,S,h1,h2,h3,h4⟩;refine⟨fs,a2,rfl,S.mono (by omega),h1,h2,h3.trans (cpm fun p=>?_),by rw[lA,List.length_singleton] at h4;omega⟩;simp only[List.map_append,pC,List.map_nil,vU,rJ,List.countP_append,show TC ([]:List Tr)=[] from rfl,List.countP_nil];omega
   cases ws with
   | nil =>
    refine Do.seq (r:=true) rfl (Do.t rfl ?_);exact out (by simp)
   | cons y ws =>
    refine Do.fb (by simp;omega) ?_;refine Do.assoc (Do.seq (r:=rk y) rfl ?_);refine Do.seq rfl ?_;by_cases hr:y.t.r=x.t.r
    ·refine Do.f (by simp[rk,hr]) ?_;refine Do.seq (r:=rk y) rfl ?_;have H1:Hp κ n a it (x.t.nd x.u x.w++(y.t.nd y.u y.w++(LN ws++(LN os++N)))) L:=H.p (npm fun p=>by
      simp only[tK,Lt.nd,List.countP_append];omega)
     have b1:=eO H F x (List.mem_cons_self ..);refine (ey (k:=m) (by omega) H1 rfl hr (by omega)).bind ?_;rintro _ ⟨u,w,a1,rfl,S⟩;have gx:=F x (List.mem_cons_self ..);have gy:=F y (mC _ (List.mem_cons_self ..));obtain⟨g1,g2,g3⟩:=bQ gx gy hr.symm;have U:mCut (rk x::(y::ws).map rk) 2 (((x::y::ws).map rk).length:Int)=some (ws.map rk):=ph (l:=(x::y::ws).map rk) (i:=2) (by simp);refine Do.seq U ?_;have ew:w64 ((rk x).rank+1)=((x.t.r+1:Nat):Int):=by
      simp only[rk];rw[zP (by omega) (by omega)];omega
     rw[ew];simp only[lC] at A;refine (j2 (lk it x.t y.t).c ((x.t.r+1:Nat):Int) (lc os) O a1 ws [] m (by omega) (by simp;omega) (by simp)).bind ?_;rintro _ ⟨p,r,ep,rfl,X,Y⟩;simp only[List.nil_append] at ep;subst ep;have el:qE ((p++r).map rk) (p.length:Int) ([zm.mk ((lk it x.t y.t).c:Int) ((x.t.r+1:Nat):Int)]:List zm)=some ((p++(⟨lk it x.t y.t,u,w⟩:Lt)::r).map rk):=by
      unfold qE;simp only[lA] at A;rw[if_pos ⟨by omega,by simp;omega,by simp;omega⟩];simp only[tN,List.map_append,pC];rw[List.take_left' (by simp),List.drop_left' (by simp)];simp only[rk,g2]
      rfl
     refine Do.seq el ?_;have hlen:(p++(⟨lk it x.t y.t,u,w⟩:Lt)::r).length=q:=by
      simp only[lA,lC] at A ⊢;omega
     have Z:=List.pairwise_cons.1 I;have D:=List.pairwise_append.1 Z.2;have H3:Hp κ (n+11) a1 it (LN (p++(⟨lk it x.t y.t,u,w⟩:Lt)::r)++(LN os++N)) L:=S.p (npm fun p=>by
      simp only[tK,wN,Lt.nd,List.countP_append];omega)
     have:=ll O q (p++(⟨lk it x.t y.t,u,w⟩:Lt)::r) os H3 m hlen (by omega) (by omega) (by
      intro l hl;rcases List.mem_append.1 hl with hl|hl
      ·exact F l (by simp[hl])
      ·rcases List.mem_cons.1 hl with rfl|hl
       ·exact g1
       ·exact F l (by simp[hl])) z (by
      refine List.pairwise_append.2 ⟨D.1,List.pairwise_cons.2 ⟨?_,D.2.1⟩,?_⟩
      ·intro l hl;simp only[g2];cases r with
       | nil=>cases hl
       | cons r0 r =>
        have h0:=Y r0 r rfl;have h1:r0.t.r<=l.t.r:=by
         rcases List.mem_cons.1 hl with rfl|hl
         ·exact Nat.le_refl _
         ·exact (List.pairwise_cons.1 D.2.1).1 l hl
        omega
      ·intro o e l hl;rcases List.mem_cons.1 hl with rfl|hl
       ·have:=X o e;simp only[g2];omega
       ·exact D.2.2 o e l hl) B (by
      intro o e l hl;have h0:=j o e x (List.mem_cons_self ..);rcases List.mem_append.1 hl with hl|hl
      ·exact j o e l (by simp[hl])
      ·rcases List.mem_cons.1 hl with rfl|hl
       ·simp only[g2];omega
       ·exact j o e l (by simp[hl]))
     refine this.mono ?_;rintro _ ⟨fs,a2,rfl,H4,h1,h2,h3,h4⟩;refine⟨fs,a2,rfl,H4.mono (by omega),h1,h2,h3.trans (cpm fun p=>?_),by omega⟩;have:=g3.countP_eq p;simp only[List.map_append,pC,vU,rJ,List.countP_append] at this ⊢;omega
    ·refine Do.t (by simp[rk];omega) ?_;refine out fun w hw=>?_
     have h1:=hx y (List.mem_cons_self ..);rcases List.mem_cons.1 hw with rfl|hw
     ·omega
     ·have:=(List.pairwise_cons.1 I).1 w hw;omega
theorem sN {k:Nat}(hk:3000<=k)(ls:List Lt)(hl:ls.length<=20){n:Nat}{a:zb}(H:Hp κ n a it (LN ls++N) L)(i:∀ l∈ls,GT b it l.t) :
  Do (w3 k a (lc ls)) fun r=>∃ f e,r=(f.hd,e)/\Hp κ (n+14*ls.length) e it (nd f (-1)++N) L/\(∀ t∈f.trees,GT b it t)/\(f.trees.Pairwise fun s t=>s.r<t.r)/\f.cells.Perm (TC (ls.map Lt.t)):=by
 unfold w3;have hr:=eO H i;have h0:=j1 (κ:=κ) (it:=it) (N:=LN ls++N) (L:=L) ls (fun l h=>mL _ (nG h)) (by omega) ls [] H k (by omega) rfl;rw[w7];refine h0.bind ?_;rintro _ ⟨a1,rfl,H1⟩;refine (dd (ls.map rk) (by simpa using hl) (by omega) (by
  intro y A;obtain⟨l,hl,rfl⟩:=List.mem_map.1 A;have:=hr l hl;exact⟨by simp[rk],by simp only[rk];omega⟩)).bind ?_
 rintro r ⟨hs,hp⟩;obtain⟨ws,hw,rfl⟩:=er hp ls rfl;have hlen:ws.length=ls.length:=hw.length_eq;have j:Hp κ (n+ls.length) a1 it (LN ws++(LN ([]:List Lt)++N)) L:=H1.p ((jo hw.symm).append_right _);have h1:=ll (b:=b) (lc ls) ws.length ws [] j k rfl (by simp;omega) (by omega) (fun l h=>i l (hw.mem_iff.1 h)) (by simp) (by
  have:=List.pairwise_map.1 hs;refine this.imp fun {x y} h=>?_
  simp only[rk] at h;omega) (by simp[LSS]) (by simp)
 refine h1.bind ?_;rintro _ ⟨fs,a2,rfl,u,g1,g2,g3,g4⟩;simp only[List.length_nil,Nat.add_zero] at g4;refine (dp fs (by omega) (by omega) u).bind ?_;rintro _ ⟨a3,rfl,z⟩;refine⟨_,rfl,F.of (fs.map Lt.t),a3,rfl,z.mono (by omega),?_,?_,?_⟩
 ·rw[F.oL];intro t ht;obtain⟨l,hl,rfl⟩:=List.mem_map.1 ht;exact g1 l hl
 ·rw[F.oL];exact List.pairwise_map.2 g2
 ·rw[F.yS,F.oL];refine g3.trans ?_;rw[show TC (([]:List Lt).map Lt.t)=[] from rfl,aN];exact fE (hw.map _)
end
end
noncomputable section
set_option maxRecDepth 10000
section
variable {κ:Cfg} {n:Nat} {a:zb} {it:Nat->It} {N:List Nd} {L:Heap} {b:Bool}
theorem qW (e:List Tr):(cs e).length=e.length:=by simp[cs]
theorem vE {k:Nat}{f:F}(H:Hp κ n a it N L)(hs:∀ ν ∈ nd f (-1),ν ∈ N)(hl:f.len <= κ.C)(hk:f.len<k) :
  Do (xX k a f.hd) fun r=>∃ e,r=(cs f.trees,e)/\Hp κ (n+f.len) e it N L:=by
 unfold xX pt;refine Do.assoc ((eS f (-1) H hs k [] hk (by simpa using hl)).bind ?_);rintro _ ⟨a1,rfl,H1⟩;exact⟨_,rfl,a1,by simp[qH,cs],H1⟩
theorem km {k:Nat}{ν:Nd}{f:F}(H:Hp κ n a it N L)(j:ν ∈ N)(hd:ν.down=f.hd)(hs:∀ μ ∈ nd f ν.c,μ ∈ N)(hl:f.len <= κ.C)(hk:f.len<k) :
  Do (tI k a (ν.c:Int)) fun r=>∃ e,r=(cs f.trees,e)/\Hp κ (n+1+f.len) e it N L:=by
 unfold tI pt;have hh:=qC H hs;refine (H.getc j (f:=1) (v:=f.hd) hh.1 hh.2 (by rw[<- hd];rfl)).bind ?_;rintro _ ⟨a1,rfl,H1⟩;refine Do.assoc ((eS f ν.c H1 hs k [] hk (by simpa using hl)).bind ?_);rintro _ ⟨a2,rfl,i⟩;exact⟨_,rfl,a2,by simp[qH,cs],i⟩
theorem lE:∀ (f:F) (q:Nat),Ord it (nd f (q:Int)) -> ∀ c∈f.cells,¬ (it c).lt (it q)
 | .nil,q,h,c,e=>by simp[F.cells] at e
 | .cons d r kids rest,q,h,c,e=>by
  have h0:¬ (it d).lt (it q):=h ⟨d,q,kids.hd,-1,rest.hd,r,0⟩ (List.mem_cons_self ..) q rfl;have h1:Ord it (nd kids d):=h.sub fun ν i=>mC _ (mL _ i)
  have h2:Ord it (nd rest q):=h.sub fun ν i=>mC _ (List.mem_append_right _ i)
  rw[F.cells] at e;rcases List.mem_cons.1 e with rfl|e
  ·exact h0
  ·rcases List.mem_append.1 e with e|e
   ·exact It.le_trans h0 (lE kids d h1 c e)
   ·exact lE rest q h2 c e
theorem GT.least {t:Tr}(h:GT b it t):∀ c∈t.cells,¬ (it c).lt (it t.c):=by
 intro c e;rcases List.mem_cons.1 e with rfl|e
 ·exact It.lt_irrefl _
 ·exact lE t.kids t.c h.ord c e
theorem uT {f:F}{up:Int}(h:∀ t∈f.trees,GT b it t):∀ l∈f.loose up,GT b it l.t:=fun l hl=>h l.t (by rw[<- xo f up];exact List.mem_map_of_mem hl)
theorem oq:∀ {f:F}{r:Nat},SK b f r -> ∀ t∈f.trees,SK b t.kids t.r/\t.r<r:=by
 intro f r h;induction h with
 | nil=>intro t ht;simp[F.trees] at ht
 | real h1 h2 i1 i2 =>
  intro t ht;rw[F.trees] at ht;rcases List.mem_cons.1 ht with rfl|ht
  ·exact⟨h1,Nat.lt_succ_self _⟩
  ·obtain⟨e,i⟩:=i2 t ht;exact⟨e,by omega⟩
 | leaf j h1 h2 i1 i2 =>
  intro t ht;rw[F.trees,F.trees] at ht;rcases List.mem_cons.1 ht with rfl|ht
  ·exact⟨.nil,by simp⟩
  rcases List.mem_cons.1 ht with rfl|ht
  ·exact⟨h1,Nat.lt_succ_self _⟩
  ·obtain⟨e,i⟩:=i2 t ht;exact⟨e,by omega⟩
theorem db:∀ {f:F}{r:Nat},SK b f r->f.len<=2*r/\(b=false->f.len=r):=by
 intro f r h;induction h with
 | nil=>exact⟨by simp[F.len,F.trees],fun _=>rfl⟩
 | real h1 h2 i1 i2 =>
  simp only[F.len,F.trees,lC] at *
  exact⟨by omega,fun e=>by have:=i2.2 e;omega⟩
 | leaf i h1 h2 i1 i2 =>
  simp only[F.len,F.trees,lC] at *
  exact⟨by omega,fun e=>by rw[e] at i;cases i⟩
theorem pw:∀ {f:F}{up:Int},Ord it (nd f up) -> ∀ t∈f.trees,Ord it (nd t.kids t.c)
 | .nil,up,h,t,ht=>by simp[F.trees] at ht
 | .cons c r kids rest,up,h,t,ht=>by
  rw[F.trees] at ht;rcases List.mem_cons.1 ht with rfl|ht
  ·exact h.sub fun ν e=>mC _ (mL _ e)
  ·exact pw (f:=rest) (up:=up) (h.sub fun ν e=>mC _ (List.mem_append_right _ e)) t ht
theorem eK:∀ {f:F},(∀ t∈f.trees,Ord it (nd t.kids t.c))->Ord it (nd f (-1))
 | .nil,h=>fun ν e=>by simp[nd] at e
 | .cons c r kids rest,h=>by
  intro ν e q hq;rw[nd] at e;rcases List.mem_cons.1 e with rfl|e
  ·simp only at hq;omega
  ·rcases List.mem_append.1 e with e|e
   ·exact h ⟨c,r,kids⟩ (by simp[F.trees]) ν e q hq
   ·exact eK (f:=rest) (fun t ht=>h t (by simp[F.trees,ht])) ν e q hq
theorem GT.kids {t:Tr}(h:GT b it t):∀ s∈t.kids.trees,GT b it s:=fun s hs=>⟨(oq h.sk s hs).1,pw h.ord s hs⟩
end
theorem im (l:List Int)(v:Int)(hl:l.length<100000):∀ (post pre:List Int) (m:Nat),post.length<m->l=pre++post->v∈post ->
  ∃ j:Nat,wv v (l.length:Int) l m (pre.length:Int)=some (.inl (j:Int))
 | [],pre,m,hm,e,hv=>by simp at hv
 | x::post,pre,m,hm,e,hv=>by
  obtain⟨m,rfl⟩:∃ q,m=q+1:=⟨m - 1,by simp at hm;omega⟩
  simp only[lC] at hm;have hlen:pre.length<100000:=by have:=congrArg List.length e;simp at this;omega
  have t:mIdx l (pre.length:Int)=some x:=by rw[e];exact yr ..
  rw[wv,dT (by rw[e];simp;omega),t];simp only[cT,bS];by_cases h:v=x
  ·subst h;exact⟨pre.length,by simp⟩
  ·rw[show (v == x)=false by simpa using h,cF,zP (by omega) (by omega)];have:=im l v hl post (pre++[x]) m (by omega) (by rw[e];simp) (by simpa[h] using hv);have i:((pre++[x]).length:Int)=(pre.length:Int)+1:=by simp
   rw[i] at this;exact this
theorem qV {k:Nat}(l:List Int)(v:Int)(hl:l.length<100000)(hk:l.length<k)(hv:v∈l):wu k l v=some true:=by
 unfold wu tr;obtain⟨j,e⟩:=im l v hl l [] k hk rfl hv;rw[show ((0:Int))=(([]:List Int).length:Int) from rfl,e];simp
section
variable {κ:Cfg} {n:Nat} {a:zb} {it:Nat->It} {N:List Nd} {L:Heap} {b:Bool}
theorem qn {f:F}{t:Tr}(H:Hp κ n a it (nd f (-1)++N) L)(ht:t∈f.trees):∃ p q,f.trees=p++t::q/\(t.c:Int) ∉ cs p/\(t.c:Int) ∉ cs q:=by
 obtain⟨p,q,e⟩:=List.append_of_mem ht;have h1:(f.cells).Nodup:=by
  rw[<- y0 f (-1)];have:=H.nd;rw[List.map_append] at this;exact (List.nodup_append.1 this).1
 rw[F.yS,e,vU,rJ] at h1;have h2:=(List.nodup_append.1 h1)
 have mem:∀ {l:List Tr} {c:Nat},(c:Int)∈cs l->c∈TC l:=by
  intro l c i;obtain⟨s,hs,e⟩:=List.mem_map.1 i;have:s.c=c:=by omega
  exact List.mem_flatMap.2 ⟨s,hs,by rw[<- this];exact List.mem_cons_self ..⟩
 refine⟨p,q,e,fun h=>?_,fun h=>?_⟩
 ·exact h2.2.2 _ (mem h) t.c (mL _ (List.mem_cons_self ..)) rfl
 ·exact (List.nodup_append.1 h2.2.1).2.2 t.c (List.mem_cons_self ..) _ (mem h) rfl
theorem qF:∀ {f:F}{up:Int}{p q:List Tr}{t:Tr},f.trees=p++t::q -> ∃ p' i w,f.loose up=p'++(⟨t,up,w⟩:Lt)::i/\p'.map Lt.t=p/\i.map Lt.t=q
 | .nil,up,p,q,t,e=>by simp[F.trees] at e
 | .cons c r kids rest,up,[],q,t,e=>by
  simp only[F.trees,List.nil_append,List.cons.injEq] at e;exact⟨[],rest.loose up,rest.hd,by rw[F.loose,e.1];rfl,rfl,by rw[xo];exact e.2⟩
 | .cons c r kids rest,up,x::p,q,t,e=>by
  simp only[F.trees,List.cons_append,List.cons.injEq] at e;obtain⟨p',i,w,h1,h2,h3⟩:=qF (f:=rest) (up:=up) e.2;exact⟨⟨⟨c,r,kids⟩,up,rest.hd⟩::p',i,w,by rw[F.loose,h1];rfl,by simp[h2,e.1],h3⟩
end
end
noncomputable section
set_option maxRecDepth 10000
def UpOK (M:List Nd):Prop:=∀ ν ∈ M,0 <= ν.rank/\(ν.up = -1 \/ ∃ μ ∈ M,ν.up=(μ.c:Int) /\ ν.rank < μ.rank)
structure RI (it:Nat->It) (M:List Nd) (c:Nat) (any:Bool):Prop where
 rest:∀ ν ∈ M,ν.c≠c -> ∀ q:Nat,ν.up=(q:Int)->q≠c -> ¬ (it ν.c).lt (it q)
 over:∀ ν ∈ M,ν.up=(c:Int) -> ∀ μ ∈ M,μ.c=c -> ∀ q:Nat,μ.up=(q:Int) -> ¬ (it ν.c).lt (it q)
 down:any=false -> ∀ ν ∈ M,ν.up=(c:Int) -> ¬ (it ν.c).lt (it c)
theorem de (it:Nat->It){c d:Nat}(h:c≠d):swp it c d c=it d:=by simp[swp,upd,h]
theorem df (it:Nat->It)(c d:Nat):swp it c d d=it c:=by simp[swp,upd]
theorem kN (it:Nat->It){c d e:Nat}(h:e≠c)(i:e≠d):swp it c d e=it e:=by simp[swp,upd,h,i]
theorem iM {it:Nat->It}{c d:Nat}{l:List Nat}(hn:l.Nodup)(j:c∈l)(hd:d∈l)(h:c≠d):(l.map (swp it c d)).Perm (l.map it):=by
 have h1:l.Perm (c::d::(l.erase c).erase d):=(List.perm_cons_erase j).trans ((List.perm_cons_erase ((List.mem_erase_of_ne (Ne.symm h)).2 hd)).cons c);have h2:(c::d::(l.erase c).erase d).Nodup:=h1.nodup_iff.1 hn;simp only[List.nodup_cons,iC,not_or] at h2;refine (h1.map _).trans (List.Perm.trans ?_ (h1.map _).symm);simp only[pC];rw[de it h,df];have:((l.erase c).erase d).map (swp it c d)=((l.erase c).erase d).map it:=List.map_congr_left fun e he=>kN it (fun i=>h2.1.2 (i ▸ he)) (fun i=>h2.2.1 (i ▸ he))
 rw[this];exact List.Perm.swap ..
theorem bV {M:List Nd}{ν μ:Nd}(l:ν ∈ M)(j:μ ∈ M)(h:ν.c ≠ μ.c):∃ i,M.Perm (ν :: μ :: i):=by
 obtain⟨p,q,rfl⟩:=List.append_of_mem l;have hp:(p ++ ν :: q).Perm (ν :: (p++q)):=List.perm_middle;rcases List.mem_cons.1 (hp.mem_iff.1 j) with e|hm
 ·exact absurd (e ▸ rfl) h
 ·obtain⟨p',t,e⟩:=List.append_of_mem hm;exact⟨p'++t,hp.trans (by rw[e];exact List.perm_middle.cons ν)⟩
section
variable {κ:Cfg} {N:List Nd} {L:Heap} {b:Bool}
theorem ah (any:Bool)(M:List Nd)(hU:UpOK M)(R:Int)(hR:∀ ν ∈ M,ν.rank<=R):∀ (d:Nat) {it:Nat->It}{n:Nat}{a:zb} (H:Hp κ n a it (M++N) L) (ν:Nd),ν ∈ M->R - ν.rank<=d -> ∀ (m:Nat) (O:Int),d+10<m->0<=O->O+d <= κ.C->RI it M ν.c any ->
  Do (w4 any m (ν.c:Int) O a) fun r=>∃ μ it' U,r=((μ.c:Int),U) /\ μ ∈ M/\Hp κ (n+13*d+7) U it' (M++N) L/\it' μ.c=it ν.c/\(∀ c,c ∉ M.map Nd.c->it' c=it c)/\((M.map Nd.c).map it').Perm ((M.map Nd.c).map it)/\(any=false->Ord it' M)/\(any=true -> μ.up = -1/\RI it' M μ.c true):=by
 intro d;induction d with
 | zero =>
  intro it n a H ν y hd m O hm a7 hk x;obtain⟨m,rfl⟩:∃ q,m=q+1:=⟨m - 1,by omega⟩
  have j:ν.up = -1:=by
   rcases (hU ν y).2 with h|⟨μ,z,h1,h2⟩
   ·exact h
   ·have:=hR μ z;omega
  have D:ν ∈ M++N:=mL _ y;rw[w4];refine Do.tb (bne_iff_ne.2 (by omega)) ?_;refine Do.assoc (Do.seq (Ar.cells H) ?_);refine Do.seq rfl (Do.t (dT (by omega)) ?_);refine (H.getc D (f:=0) (v:=ν.up) (by omega) (by omega)).bind ?_;rintro _ ⟨a1,rfl,H1⟩;refine Do.tb (by simp[j]) ?_;refine Do.seq rfl (Do.t rfl ?_);refine⟨_,rfl,ν,it,a1,rfl,y,H1.mono (by omega),rfl,fun _ _=>rfl,.refl _,fun ha=>?_,fun ha=>⟨j,ha ▸ x⟩⟩;intro A i q hq;by_cases h1:A.c = ν.c
  ·have:=H.same (mL _ i) D h1;subst this;omega
  ·by_cases h2:q = ν.c
   ·rw[h2] at hq ⊢;exact x.down ha A i hq
   ·exact x.rest A i h1 q hq h2
 | succ d ih =>
  intro it n a H ν y hd m O hm a7 hk x;obtain⟨m,rfl⟩:∃ q,m=q+1:=⟨m - 1,by omega⟩
  have D:ν ∈ M++N:=mL _ y;have b3:=H.cap;rw[w4];refine Do.tb (bne_iff_ne.2 (by omega)) ?_;refine Do.assoc (Do.seq (Ar.cells H) ?_);refine Do.seq rfl (Do.t (dT (by omega)) ?_);rcases (hU ν y).2 with j|⟨μ,z,j,a8⟩
  ·refine (H.getc D (f:=0) (v:=ν.up) (by omega) (by omega)).bind ?_;rintro _ ⟨a1,rfl,H1⟩;refine Do.tb (by simp[j]) ?_;refine Do.seq rfl (Do.t rfl ?_);refine⟨_,rfl,ν,it,a1,rfl,y,H1.mono (by omega),rfl,fun _ _=>rfl,.refl _,fun ha=>?_,fun ha=>⟨j,ha ▸ x⟩⟩;intro A i q hq;by_cases h1:A.c = ν.c
   ·have:=H.same (mL _ i) D h1;subst this;omega
   ·by_cases h2:q = ν.c
    ·rw[h2] at hq ⊢;exact x.down ha A i hq
    ·exact x.rest A i h1 q hq h2
  ·have mμ:μ ∈ M++N:=mL _ z;have c1:=H.lt mμ;have l:ν.c ≠ μ.c:=fun e=>by
    have:=H.same D mμ e;rw[this] at a8;omega
   refine (H.getc D (f:=0) (v:=ν.up) (by omega) (by omega)).bind ?_;rintro _ ⟨a1,rfl,H1⟩;refine Do.fb (by simp[j]) ?_;have go:∀ {Z:Nat} {a2:zb} (S:Hp κ Z a2 it (M++N) L),Z<=n+7->(any=false->(it ν.c).lt (it μ.c)) ->
     Do ((sT a2 (ν.c:Int) (μ.c:Int)).bind fun b2=>w4 any m (μ.c:Int) (w64 (O+1)) b2) fun r=>∃ μ it' U,r=((μ.c:Int),U) /\ μ ∈ M/\Hp κ (n+13*(d+1)+7) U it' (M++N) L/\it' μ.c=it ν.c/\(∀ c,c ∉ M.map Nd.c->it' c=it c)/\((M.map Nd.c).map it').Perm ((M.map Nd.c).map it)/\(any=false->Ord it' M)/\(any=true -> μ.up = -1/\RI it' M μ.c true):=by
    intro Z a2 S c2 I;obtain⟨M',Y⟩:=bV y z l;have H3:Hp κ Z a2 it (ν :: μ :: (M'++N)) L:=S.p (Y.append_right N);refine (qw H3).bind ?_;intro a3 H4;have H5:Hp κ (Z+6) a3 (swp it ν.c μ.c) (M++N) L:=H4.p (Y.append_right N).symm;have same:∀ ξ ∈ M,∀ ζ ∈ M,ξ.c = ζ.c -> ξ = ζ:=fun ξ u ζ B e=>H.same (mL _ u) (mL _ B) e
    have par:∀ ξ ∈ M,∀ q:Nat,ξ.up=(q:Int) -> ∃ ζ ∈ M,ζ.c=q /\ ξ.rank < ζ.rank:=by
     intro ξ u q hq;rcases (hU ξ u).2 with h|⟨ζ,B,h1,h2⟩
     ·omega
     ·exact⟨ζ,B,by omega,h2⟩
    have a5:RI (swp it ν.c μ.c) M μ.c any:=by
     refine⟨?_,?_,?_⟩
     ·intro ξ u h1 q hq h2;have h3:ξ.c ≠ ν.c:=fun e=>by
       have:=same ξ u ν y e;subst this;omega
      rw[kN it h3 h1];by_cases h4:q = ν.c
      ·rw[h4,de it l];rw[h4] at hq;exact x.over ξ u hq ν y rfl μ.c j
      ·rw[kN it h4 h2];exact x.rest ξ u h3 q hq h4
     ·intro ξ u h1 J a9 e q hq;have:=same J a9 μ z e;subst this;obtain⟨ζ,B,e1,h2⟩:=par J z q hq;have q1:q≠J.c:=fun W=>by
       have:=same ζ B J z (by omega);subst this;omega
      have q2:q ≠ ν.c:=fun W=>by
       have:=same ζ B ν y (by omega);subst this;omega
      rw[kN it q2 q1];have h3:=x.rest J z (Ne.symm l) q hq q2;by_cases h4:ξ.c = ν.c
      ·rw[h4,de it l];exact h3
      ·have X:ξ.c≠J.c:=fun W=>by
        have:=same ξ u J z W;subst this;obtain⟨ζ,B,e1,h2⟩:=par ξ u ξ.c h1;have:=same ζ B ξ u e1;subst this;omega
       rw[kN it h4 X];exact It.le_trans h3 (x.rest ξ u h4 J.c h1 (Ne.symm l))
     ·intro ha ξ u h1;rw[df];by_cases h4:ξ.c = ν.c
      ·rw[h4,de it l];exact It.lt_asymm (I ha)
      ·have X:ξ.c ≠ μ.c:=fun W=>by
        have:=same ξ u μ z W;subst this;obtain⟨ζ,B,e1,h2⟩:=par ξ u ξ.c h1;have:=same ζ B ξ u e1;subst this;omega
       rw[kN it h4 X];exact It.le_trans (It.lt_asymm (I ha)) (x.rest ξ u h4 μ.c h1 (Ne.symm l))
    have:=ih H5 μ z (by omega) m (w64 (O+1)) (by omega) (by rw[zP (by omega) (by omega)];omega) (by rw[zP (by omega) (by omega)];omega) a5;refine this.mono ?_;rintro _ ⟨μ2,b0,a4,rfl,h1,h2,h3,h4,X,h6,h7⟩;refine⟨μ2,b0,a4,rfl,h1,h2.mono (by omega),by rw[h3,df],?_,?_,h6,h7⟩
    ·intro c F;rw[h4 c F];exact kN it (fun e=>F (e ▸ List.mem_map_of_mem y)) (fun e=>F (e ▸ List.mem_map_of_mem z))
    ·refine X.trans (iM ?_ (List.mem_map_of_mem y) (List.mem_map_of_mem z) l);have:=H.nd;rw[List.map_append] at this;exact (List.nodup_append.1 this).1
   rw[j];cases any with
   | true =>
    refine Do.fb rfl ?_;refine Do.seq rfl (Do.f rfl ?_);exact go H1 (by omega) (fun h=>by cases h)
   | false =>
    refine Do.tb rfl ?_;refine Do.assoc ((H1.before (k:=m) (by omega) D mμ).bind ?_);rintro _ ⟨a2,rfl,S⟩;refine Do.seq rfl ?_;by_cases F:(it ν.c).lt (it μ.c)
    ·refine Do.f (by simp[F]) ?_;exact go S (by omega) (fun _=>F)
    ·refine Do.t (by simp[F]) ?_;refine⟨_,rfl,ν,it,a2,rfl,y,S.mono (by omega),rfl,fun _ _=>rfl,.refl _,fun ha=>?_,fun ha=>by cases ha⟩;intro A i q hq;by_cases h1:A.c = ν.c
     ·have:=H.same (mL _ i) D h1;subst this;have:q = μ.c:=by omega
      subst this;exact F
     ·by_cases h2:q = ν.c
      ·rw[h2] at hq ⊢;exact x.down ha A i hq
      ·exact x.rest A i h1 q hq h2
theorem pF {k:Nat}(any:Bool)(M:List Nd)(l:UpOK M)(R:Nat)(x:∀ ν ∈ M,ν.rank<=R){it:Nat->It}{n:Nat}{a:zb}(H:Hp κ n a it (M++N) L)(ν:Nd)(e:ν ∈ M)(hk:R+10<k)(hC:R <= κ.C)(u:RI it M ν.c any) :
  Do (u2 k a ((it ν.c).i:Int) any) fun r=>∃ μ it' j,r=((μ.c:Int),j) /\ μ ∈ M/\Hp κ (n+13*R+8) j it' (M++N) L/\it' μ.c=it ν.c/\(∀ c,c ∉ M.map Nd.c->it' c=it c)/\((M.map Nd.c).map it').Perm ((M.map Nd.c).map it)/\(any=false->Ord it' M)/\(any=true -> μ.up = -1/\RI it' M μ.c true):=by
 unfold u2 vD;have t:ν ∈ M++N:=mL _ e;refine Do.assoc ((Ar.cell H (H.item t) (f:=9) (v:=(ν.c:Int)) rfl (by omega) (by have:=H.lt t;omega)).bind ?_);rintro _ ⟨a1,rfl,H1⟩;have h0:=(l ν e).1;refine Do.seq rfl ?_;refine (ah any M l R x R (N:=N) H1 ν e (by omega) k 0 hk (by omega) (by omega) u).bind ?_;rintro _ ⟨μ,it',a2,rfl,h1,h2,h3⟩;exact⟨_,rfl,μ,it',a2,rfl,h1,h2.mono (by omega),h3⟩
end
end
noncomputable section
set_option maxRecDepth 10000
def fD (b:Bool):List Tr->Prop
 | []=>True
 | t::r=>r.Pairwise (fun s u=>s.r<u.r)/\(∀ s∈r,t.r<=s.r)/\(b=false -> ∀ s∈r,t.r<s.r)
theorem fD.of {b:Bool}{l:List Tr}(h:l.Pairwise fun s u=>s.r<u.r):fD b l:=by
 cases l with
 | nil=>trivial
 | cons t r =>
  obtain⟨h1,h2⟩:=List.pairwise_cons.1 h;exact⟨h2,fun s hs=>Nat.le_of_lt (h1 s hs),fun _=>h1⟩
theorem iJ {R:Nat}{l:List Tr}(h:l.Pairwise fun s u=>s.r<u.r)(e:∀ t∈l,t.r<R):l.length<=R:=by
 have h1:(l.map Tr.r).Nodup:=by
  refine List.pairwise_map.2 (h.imp fun {x y} h=>?_);omega
 have:=rT (m:=List.range R) h1 (by
  intro x i;obtain⟨t,ht,rfl⟩:=List.mem_map.1 i;exact List.mem_range.2 (e t ht))
 simpa using this
structure HB (b:Bool) (it:Nat->It) (f:F):Prop where
 good:∀ t∈f.trees,GT b it t
 row:fD b f.trees
theorem qa:∀ {f:F}{t:Tr},t∈f.trees->t.kids.size+1<=f.size
 | .nil,t,h=>by simp[F.trees] at h
 | .cons c r kids rest,t,h=>by
  rw[F.trees] at h;rcases List.mem_cons.1 h with rfl|h
  ·simp only[F.size];omega
  ·have:=qa h;simp only[F.size];omega
theorem HB.lt {b:Bool}{it:Nat->It}{f:F}(h:HB b it f){R:Nat}(e:f.size<2 ^ R):∀ t∈f.trees,t.r<R:=by
 intro t ht;have h1:=(h.good t ht).sk.size.1;have h2:=qa ht;exact (Nat.pow_lt_pow_iff_right (a:=2) (by decide)).1 (by omega)
theorem HB.len {b:Bool}{it:Nat->It}{f:F}(h:HB b it f){R:Nat}(i:f.size<2 ^ R):f.len<=R+1:=by
 have h1:=h.lt i;have h2:=h.row;unfold F.len;cases e:f.trees with
 | nil=>simp
 | cons t r =>
  rw[e] at h1 h2;have:=iJ h2.1 (fun s hs=>h1 s (mC _ hs));simp only[lC];omega
theorem HB.lenB {it:Nat->It}{f:F}(h:HB false it f){R:Nat}(i:f.size<2 ^ R):f.len<=R:=by
 have h1:=h.lt i;have h2:=h.row;unfold F.len;cases e:f.trees with
 | nil=>simp
 | cons t r =>
  rw[e] at h1 h2;exact iJ (List.pairwise_cons.2 ⟨h2.2.2 rfl,h2.1⟩) h1
theorem HB.nil {b:Bool}{it:Nat->It}:HB b it .nil:=⟨by simp[F.trees],trivial⟩
theorem HB.congr {b:Bool}{it it':Nat->It}{f:F}(h:HB b it f)(i:∀ c∈f.cells,it' c=it c):HB b it' f:=by
 refine⟨fun t ht=>⟨(h.good t ht).sk,?_⟩,h.row⟩;have h1:=(h.good t ht).ord;have l:∀ c∈t.cells,c∈f.cells:=fun c i=>by rw[F.yS];exact List.mem_flatMap.2 ⟨t,ht,i⟩
 have A:∀ (g:F) (q:Nat),(∀ c∈g.cells,it' c=it c)->it' q=it q->Ord it (nd g (q:Int))->Ord it' (nd g (q:Int)):=by
  intro g;induction g with
  | nil=>intro q _ _ _ ν e;simp[nd] at e
  | cons c r kids rest i1 i2 =>
   intro q y hq z;have hk:∀ d∈kids.cells,it' d=it d:=fun d hd=>y d (by rw[F.cells];exact mC _ (mL _ hd))
   have hr:∀ d∈rest.cells,it' d=it d:=fun d hd=>y d (by rw[F.cells];exact mC _ (List.mem_append_right _ hd))
   have i:it' c=it c:=y c (by rw[F.cells];exact List.mem_cons_self ..);intro ν e u j;rw[nd] at e;rcases List.mem_cons.1 e with rfl|e
   ·simp only at j ⊢;have:u=q:=by omega
    subst this;rw[i,hq];exact z _ (List.mem_cons_self ..) u rfl
   ·rcases List.mem_append.1 e with e|e
    ·exact i1 c hk i (z.sub fun ν h=>mC _ (mL _ h)) ν e u j
    ·exact i2 q hr hq (z.sub fun ν h=>mC _ (List.mem_append_right _ h)) ν e u j
 exact A t.kids t.c (fun c x=>i c (l c (mC _ x))) (i _ (l _ (List.mem_cons_self ..))) h1
theorem upok:∀ {b:Bool} (f:F) (up:Int),(∀ t∈f.trees,SK b t.kids t.r) -> ∀ ν ∈ nd f up,0 <= ν.rank/\((ν.up=up /\ ∃ t∈f.trees,ν.rank=t.r /\ ν.c=t.c) \/ ∃ μ ∈ nd f up,ν.up=(μ.c:Int) /\ ν.rank < μ.rank)
 | b,.nil,up,h,ν,e=>by simp[nd] at e
 | b,.cons c r kids rest,up,h,ν,e=>by
  have hh:=h ⟨c,r,kids⟩ (by simp[F.trees]);rw[nd] at e;rcases List.mem_cons.1 e with rfl|e
  ·exact⟨by simp only;omega,Or.inl ⟨rfl,⟨c,r,kids⟩,by simp[F.trees],rfl,rfl⟩⟩
  ·rcases List.mem_append.1 e with e|e
   ·obtain⟨h0,h1⟩:=upok (b:=b) kids c (fun t ht=>(oq hh t ht).1) ν e;refine⟨h0,Or.inr ?_⟩;rcases h1 with ⟨h1,t,ht,h2,_⟩|⟨μ,i,h1⟩
    ·have:t.r<r:=(oq hh t ht).2;exact⟨_,List.mem_cons_self ..,h1,by simp only;omega⟩
    ·exact⟨μ,mC _ (mL _ i),h1⟩
   ·obtain⟨h0,h1⟩:=upok (b:=b) rest up (fun t ht=>h t (by simp[F.trees,ht])) ν e;refine⟨h0,?_⟩;rcases h1 with ⟨h1,t,ht,h2⟩|⟨μ,i,h1⟩
    ·exact Or.inl ⟨h1,t,by simp[F.trees,ht],h2⟩
    ·exact Or.inr ⟨μ,mC _ (List.mem_append_right _ i),h1⟩
theorem oh:∀ {b:Bool} (f:F) (up:Int),(∀ t∈f.trees,SK b t.kids t.r) -> ∀ ν ∈ nd f up,∃ t∈f.trees,ν.rank<=t.r
 | b,.nil,up,h,ν,e=>by simp[nd] at e
 | b,.cons c r kids rest,up,h,ν,e=>by
  have hh:=h ⟨c,r,kids⟩ (by simp[F.trees]);rw[nd] at e;rcases List.mem_cons.1 e with rfl|e
  ·exact⟨⟨c,r,kids⟩,by simp[F.trees],Int.le_refl _⟩
  ·rcases List.mem_append.1 e with e|e
   ·obtain⟨t,ht,h1⟩:=oh (b:=b) kids c (fun t ht=>(oq hh t ht).1) ν e;have:t.r<r:=(oq hh t ht).2;exact⟨⟨c,r,kids⟩,by simp[F.trees],by simp only;omega⟩
   ·obtain⟨t,ht,h1⟩:=oh (b:=b) rest up (fun t ht=>h t (by simp[F.trees,ht])) ν e;exact⟨t,by simp[F.trees,ht],h1⟩
theorem HB.upOK {b:Bool}{it:Nat->It}{f:F}(h:HB b it f):UpOK (nd f (-1)):=by
 intro ν e;obtain⟨h0,h1⟩:=upok f (-1) (fun t ht=>(h.good t ht).sk) ν e;refine⟨h0,?_⟩;rcases h1 with ⟨h1,_⟩|h1
 ·exact Or.inl h1
 ·exact Or.inr h1
theorem HB.ord {b:Bool}{it:Nat->It}{f:F}(h:HB b it f):Ord it (nd f (-1)):=eK fun t ht=>(h.good t ht).ord
theorem Ord.lower {it:Nat->It}{M:List Nd}{c:Nat}{x:It}(h:Ord it M)(y:¬ (it c).lt x)(t:∀ ν ∈ M,∀ μ ∈ M,ν.c = μ.c -> ν = μ)(i:∀ ν ∈ M,ν.up≠(ν.c:Int)):RI (upd it c x) M c false:=by
 refine⟨?_,?_,?_⟩
 ·intro ν j h1 q hq h2;rw[vv _ _ h1,vv _ _ h2];exact h ν j q hq
 ·intro ν j h1 μ u e q hq;have h2:ν.c≠c:=fun l=>by
   have:=i ν j;rw[l] at this;exact this h1
  have h3:q≠c:=fun l=>by
   have:=i μ u;rw[e,<- l] at this;exact this hq
  rw[vv _ _ h2,vv _ _ h3];have:=h μ u q hq;rw[e] at this;exact It.le_trans this (h ν j c h1)
 ·intro _ ν j h1;have h2:ν.c≠c:=fun l=>by
   have:=i ν j;rw[l] at this;exact this h1
  rw[vv _ _ h2,uj];exact fun h3=>h ν j c h1 (It.iz h3 y)
theorem Ord.any {it:Nat->It}{M:List Nd}{c:Nat}(h:Ord it M):RI it M c true:=by
 refine⟨fun ν i h1 q hq h2=>h ν i q hq,fun ν i h1 μ j e q hq=>?_,fun h=>by cases h⟩;have:=h μ j q hq;rw[e] at this;exact It.le_trans this (h ν i c h1)
theorem UpOK.self {M:List Nd}(h:UpOK M)(hs:∀ ν ∈ M,∀ μ ∈ M,ν.c = μ.c -> ν = μ):∀ ν ∈ M,ν.up≠(ν.c:Int):=by
 intro ν i e;rcases (h ν i).2 with h1|⟨μ,j,h1,h2⟩
 ·omega
 ·have:=hs μ j ν i (by omega);subst this;omega
theorem dV:∀ (f:F) (up:Int),∀ ν ∈ nd f up,ν.c∈f.cells/\(ν.up=up \/ ∃ d∈f.cells,ν.up=(d:Int))
 | .nil,up,ν,e=>by simp[nd] at e
 | .cons c r kids rest,up,ν,e=>by
  rw[nd] at e;rw[F.cells];rcases List.mem_cons.1 e with rfl|e
  ·exact⟨List.mem_cons_self ..,Or.inl rfl⟩
  ·rcases List.mem_append.1 e with e|e
   ·obtain⟨h1,h2⟩:=dV kids c ν e;refine⟨mC _ (mL _ h1),Or.inr ?_⟩;rcases h2 with h2|⟨d,hd,h2⟩
    ·exact⟨c,List.mem_cons_self ..,h2⟩
    ·exact⟨d,mC _ (mL _ hd),h2⟩
   ·obtain⟨h1,h2⟩:=dV rest up ν e;refine⟨mC _ (List.mem_append_right _ h1),?_⟩;rcases h2 with h2|⟨d,hd,h2⟩
    ·exact Or.inl h2
    ·exact Or.inr ⟨d,mC _ (List.mem_append_right _ hd),h2⟩
theorem jF {f:F}{up:Int}:∀ {t:Tr},t∈f.trees -> ∀ ν ∈ nd t.kids t.c,ν ∈ nd f up:=by
 intro t ht ν e;rw[wM f up];rw[<- xo f up] at ht;obtain⟨l,hl,rfl⟩:=List.mem_map.1 ht;exact List.mem_flatMap.2 ⟨l,hl,by rw[l6];exact mC _ e⟩
section
variable {κ:Cfg} {n:Nat} {a:zb} {it:Nat->It} {N:List Nd} {L:Heap} {b:Bool}
theorem sy {f:F}(H:Hp κ n a it (nd f (-1)++N) L):2*f.size+2*N.length+L.length <= κ.C:=by
 have:=H.room;rw[lA,rR] at this;omega
theorem qT {k:Nat}{f:F}(H:Hp κ n a it N L)(hs:∀ ν ∈ nd f (-1),ν ∈ N)(A:HB b it f){t0:Tr}{j:List Tr}(e:f.trees=t0::j)(hk:95000<k)(hl:f.len<90000) :
  Do (vd k a (cs f.trees)) fun res=>∃ t x,t∈f.trees/\res=((t.c:Int),x)/\Hp κ (n+6*f.len) x it N L /\ ∀ d∈f.cells,¬ (it d).lt (it t.c):=by
 have hz:cs f.trees=zl (t0.c::j.map Tr.c):=by rw[e];simp[cs,zl]
 have hlen:f.len=j.length+1:=by unfold F.len;rw[e];rfl
 rw[hz];have z:∀ d∈t0.c::j.map Tr.c,∃ ν ∈ N,ν.c=d:=by
  intro d hd;have:d∈f.trees.map Tr.c:=by rw[e];exact hd
  rw[<- xo f (-1),List.map_map] at this;obtain⟨l,hl,rfl⟩:=List.mem_map.1 this;exact⟨l.top,hs _ (by rw[wM];exact nG hl),rfl⟩
 refine (fJ t0.c (j.map Tr.c) z (by simp;omega) (by simp;omega) H).mono ?_;rintro _ ⟨a1,rfl,H1⟩;rw[lM] at H1;have u:bst it t0.c (j.map Tr.c)∈f.trees.map Tr.c:=by
  rw[e];rcases js (it:=it) (j.map Tr.c) t0.c with h|h
  ·rw[h];exact List.mem_cons_self ..
  ·exact mC _ h
 obtain⟨t,ht,y⟩:=List.mem_map.1 u;have i:=jt (it:=it) (j.map Tr.c) t0.c;rw[<- y] at i;refine⟨t,a1,ht,by rw[y],H1.mono (by omega),fun d hd=>?_⟩;rw[F.yS] at hd;obtain⟨s,hs',hd⟩:=List.mem_flatMap.1 hd;have h1:=(A.good s hs').least d hd;refine It.le_trans ?_ h1;rw[e] at hs';rcases List.mem_cons.1 hs' with rfl|hs'
 ·exact i.1
 ·exact i.2 _ (List.mem_map_of_mem hs')
theorem ly {M:List Nd}(H:Hp κ n a it (M++N) L):∀ ν ∈ M,∀ μ ∈ M,ν.c = μ.c -> ν = μ:=fun ν j μ i e=>H.same (mL _ j) (mL _ i) e
theorem sO {f:F}{up:Int}{c:Nat}(h:c∈f.cells):∃ ν ∈ nd f up,ν.c=c:=by
 rw[<- y0 f up] at h;obtain⟨ν,e,rfl⟩:=List.mem_map.1 h;exact⟨ν,e,rfl⟩
theorem size_le {f:F}(H:Hp κ n a it (nd f (-1)++N) L)(e:0<f.size)(j:∀ t∈f.trees,SK b t.kids t.r):∃ R,(∀ t∈f.trees,t.r<=R)/\R <= κ.C/\(∀ Q,f.size<2 ^ Q->R<Q):=by
 have i:=sy H;have:∀ l:List Tr,(∀ t∈l,2 ^ t.r<=f.size) -> ∃ R,(∀ t∈l,t.r<=R)/\2 ^ R<=f.size:=by
  intro l;induction l with
  | nil=>intro _;exact⟨0,by simp,by rw[Nat.pow_zero];exact e⟩
  | cons t l ih =>
   intro h;obtain⟨R,h1,h2⟩:=ih fun s hs=>h s (mC _ hs)
   by_cases c:t.r<=R
   ·exact⟨R,fun s hs=>by
     rcases List.mem_cons.1 hs with rfl|hs
     ·exact c
     ·exact h1 s hs,h2⟩
   ·exact⟨t.r,fun s hs=>by
     rcases List.mem_cons.1 hs with rfl|hs
     ·exact Nat.le_refl _
     ·exact Nat.le_trans (h1 s hs) (by omega),h t (List.mem_cons_self ..)⟩
 obtain⟨R,h1,h2⟩:=this f.trees fun t ht=>by
  have u:=(j t ht).size.1;have x:=qa ht;omega
 refine⟨R,h1,?_,fun Q y=>(Nat.pow_lt_pow_iff_right (a:=2) (by decide)).1 (by omega)⟩;have:R<2 ^ R:=Nat.lt_two_pow_self;omega
theorem kf (s t:List Tr):cs (s++t)=cs s++cs t:=List.map_append
theorem sP {f:F}{p q:List Tr}{t:Tr}(e:f.trees=p++t::q):f.cells.Perm (t.c::(TC (p++q)++t.kids.cells)):=by
 rw[F.yS,e];refine cpm fun P=>?_
 simp only[vU,rJ,Tr.cells,List.countP_append,List.countP_cons,List.cons_append];omega
theorem kG {b:Bool}{it':Nat->It}{f:F}{t:Tr}{p q:List Tr}(hn:f.cells.Nodup)(A:HB b it f)(e:f.trees=p++t::q)(D:RI it' (nd f (-1)) t.c true) :
  (∀ s∈p++q,GT b it' s)/\(∀ s∈t.kids.trees,GT b it' s):=by
 rw[F.yS,e] at hn;have z:(t.c::(TC (p++q)++t.kids.cells)).Nodup:=by
  refine (List.Perm.nodup_iff (cpm fun P=>?_)).1 hn;simp only[vU,rJ,Tr.cells,List.countP_append,List.countP_cons,List.cons_append];omega
 obtain⟨h1,h2⟩:=List.nodup_cons.1 z;have key:∀ s:Tr,(∀ ν ∈ nd s.kids s.c,ν ∈ nd f (-1))->(∀ d∈s.cells,d≠t.c)->Ord it' (nd s.kids s.c):=by
  intro s hs hd ν i q hq;obtain⟨B,x⟩:=dV s.kids s.c ν i;refine D.rest ν (hs ν i) (hd _ (mC _ B)) q hq ?_;rcases x with x|⟨d,y,x⟩
  ·have:q=s.c:=by omega
   subst this;exact hd _ (List.mem_cons_self ..)
  ·have:q=d:=by omega
   subst this;exact hd _ (mC _ y)
 refine⟨fun s hs=>?_,fun s hs=>?_⟩
 ·have j:s∈f.trees:=by rw[e];rcases List.mem_append.1 hs with h|h <;> simp[h]
  refine⟨(A.good s j).sk,key s (fun ν i=>jF j ν i) fun d hd u=>?_⟩;exact h1 (u ▸ mL _ (List.mem_flatMap.2 ⟨s,hs,hd⟩))
 ·have l:t∈f.trees:=by rw[e];simp
  have gt:=A.good t l;refine⟨(oq gt.sk s hs).1,key s (fun ν i=>jF l ν (jF hs ν i)) fun d hd u=>?_⟩;refine h1 (u ▸ List.mem_append_right _ ?_);rw[F.yS];exact List.mem_flatMap.2 ⟨s,hs,hd⟩
theorem eR {f:F}{μ:Nd}{b:Bool}(i:∀ t∈f.trees,SK b t.kids t.r)(l:μ ∈ nd f (-1))(j:μ.up = -1):∃ t∈f.trees,μ.c=t.c:=by
 rcases (upok f (-1) i μ l).2 with ⟨_,t,ht,_,e⟩|⟨ξ,_,e,_⟩
 ·exact⟨t,ht,e⟩
 ·omega
end
end
noncomputable section
set_option maxRecDepth 10000
section
variable {κ:Cfg} {n:Nat} {a:zb} {it:Nat->It} {N:List Nd} {L:Heap} {b:Bool}
namespace Bi
theorem te (l:List Int)(v:Int)(hl:l.length<100000):∀ (post pre:List Int) (m:Nat),post.length<m->l=pre++post->v ∉ pre ->
  (zT (l.length:Int) l v m (pre.length:Int)=some (.inr ())/\v ∉ post) \/ ∃ p q,l=p++v::q/\v ∉ p/\zT (l.length:Int) l v m (pre.length:Int)=some (.inl (p.length:Int))
 | [],pre,m,hm,e,hv=>by
  obtain⟨m,rfl⟩:∃ q,m=q+1:=⟨m - 1,by simp at hm;omega⟩
  left
  rw[zT,dF (by rw[e];simp)];exact⟨rfl,by simp⟩
 | x::post,pre,m,hm,e,hv=>by
  obtain⟨m,rfl⟩:∃ q,m=q+1:=⟨m - 1,by simp at hm;omega⟩
  simp only[lC] at hm;have hlen:pre.length<100000:=by have:=congrArg List.length e;simp at this;omega
  have j:mIdx l (pre.length:Int)=some x:=by rw[e];exact yr ..
  rw[zT,dT (by rw[e];simp;omega),j];simp only[cT,bS,wm];by_cases h:x=v
  ·subst h
   right
   refine⟨pre,post,e,hv,?_⟩;simp
  ·have t:(x == v)=false:=by simpa using h
   rw[t,cF,zP (by omega) (by omega)];have:=te l v hl post (pre++[x]) m (by omega) (by rw[e];simp) (by simp[hv];exact fun e=>h e.symm);have i:((pre++[x]).length:Int)=(pre.length:Int)+1:=by simp
   rw[i] at this;rcases this with ⟨h1,h2⟩|h1
   ·exact Or.inl ⟨h1,by simp[h2];exact fun e=>h e.symm⟩
   ·exact Or.inr h1
theorem uG (v:Int):∀ (R A:List Int) (g:Int) (m:Nat),R.length<m->A.length+R.length<100000->v ∉ R ->
  Do (z6 v m (A.length:Int) ((A.length:Int)+1) (A++g::R)) fun r=>∃ i,r=(((A++R).length:Int),(A++R)++[i])
 | [],A,g,m,hm,j,hv=>by
  obtain⟨m,rfl⟩:∃ q,m=q+1:=⟨m - 1,by simp at hm;omega⟩
  rw[z6];refine Do.f (dF (by simp)) ?_;exact⟨_,rfl,g,by simp⟩
 | x::R,A,g,m,hm,j,hv=>by
  obtain⟨m,rfl⟩:∃ q,m=q+1:=⟨m - 1,by simp at hm;omega⟩
  simp only[lC] at hm j;simp only[iC,not_or] at hv;rw[z6];refine Do.t (dT (by simp;omega)) ?_;have u:mIdx (A++g::x::R) ((A.length:Int)+1)=some x:=by
   have:=yr (A++[g]) R x;simpa using this
  refine Do.assoc (Do.seq u ?_);refine Do.assoc (Do.seq rfl ?_);refine Do.tb (by simp;exact fun e=>hv.1 e.symm) ?_;refine Do.assoc (Do.seq (yr A (x::R) g) ?_);refine Do.seq rfl ?_;have es:mSet (A++g::x::R) (A.length:Int) x=(A++[x])++x::R:=by rw[lV];simp
  rw[es,zP (by omega) (by omega),zP (by omega) (by omega)];have:=uG v R (A++[x]) x m (by omega) (by simp;omega) hv.2;have l:((A++[x]).length:Int)=(A.length:Int)+1:=by simp
  rw[l] at this;refine this.mono ?_;rintro _ ⟨i,rfl⟩;exact⟨i,by simp⟩
theorem tL {k:Nat}(p q:List Int)(v:Int)(hp:v ∉ p)(hq:v ∉ q)(hl:(p++v::q).length<100000)(hk:(p++v::q).length<k) :
  y2 k (p++v::q) v=some (p++q):=by
 unfold y2 xK;rcases te (p++v::q) v hl (p++v::q) [] k hk rfl (by simp) with ⟨_,h2⟩|⟨p',i,e,hv,h⟩
 ·simp at h2
 ·have l:p'=p/\i=q:=by
   clear h;have:=congrArg (List.takeWhile (fun x=>x != v)) e;have h1:∀ (p q:List Int),v ∉ p->(p++v::q).takeWhile (fun x=>x != v)=p:=by
    intro p q hp;rw[List.takeWhile_append_of_pos (by intro x A;simp;exact fun e=>hp (e ▸ A))];simp
   rw[h1 p q hp,h1 p' i hv] at this;subst this;simpa using e.symm
  obtain⟨rfl,rfl⟩:=l;have z:zT ((p'++v::i).length:Int) (p'++v::i) v k 0=some (.inl (p'.length:Int)):=h;rw[z];simp only[bS];rw[show ((p'.length:Int) == -1)=false by simp,cF];simp only[lA,lC] at hl hk;rw[zP (by omega) (by omega)];obtain⟨r,t,j,rfl⟩:=uG v i p' v k (by omega) (by omega) hq;rw[t];simp only[bS];have u:mCut ((p'++i)++[j]) ((p'++i).length:Int) (((p'++i)++[j]).length:Int)=some [j]:=by
   rw[ph (by simp)];simp
  rw[u];simp only[bS];have y:mCut (rE ((p'++i)++[j]) ((p'++i).length:Int) 0) 0 ((p'++i).length:Int)=some (p'++i):=by
   unfold mCut rE;have:((p'++i++[j]).length - ((p'++i).length:Int).toNat)=1:=by simp only[lA,List.length_singleton];omega
   rw[this];simp only[tN];rw[List.take_left' (l₁:=p'++i) rfl];rw[if_pos ⟨by omega,by omega,by simp;omega⟩];simp only[Int.toNat_zero,List.drop_zero];rw[List.take_left' (l₁:=p'++i) rfl]
  rw[y]
  rfl
theorem lI {k:Nat}{f:F}(H:Hp κ n a it (nd f (-1)++N) L)(I:HB b it f)(hk:95000<k) :
  Do (tc k a f.hd) fun res=>∃ z,Hp κ (n+7*f.len+1) z it (nd f (-1)++N) L/\((f = .nil/\res=(-1,z)) \/ ∃ c∈f.cells,res=(((it c).i:Int),z) /\ ∀ d∈f.cells,¬ (it d).lt (it c)):=by
 unfold tc;have j:∀ ν ∈ nd f (-1),ν ∈ nd f (-1)++N:=fun ν h=>mL _ h
 have A:=sy H;have J:=f.vn;have B:=H.cap;refine (vE (k:=k) H j (by omega) (by omega)).bind ?_;rintro _ ⟨a1,rfl,H1⟩;cases e:f.trees with
 | nil =>
  have:f = .nil:=by
   cases f with
   | nil=>rfl
   | cons=>simp[F.trees] at e
  subst this;refine Do.seq (jY (by omega) a1) ?_;refine (H1.fM (c:=-1) (by decide)).bind ?_;rintro _ ⟨a2,rfl,y⟩;exact⟨_,rfl,a2,y.mono (by omega),Or.inl ⟨rfl,rfl⟩⟩
 | cons t0 O =>
  rw[<- e];refine (qT (k:=k) H1 j I e hk (by omega)).bind ?_;rintro _ ⟨t,a2,ht,rfl,y,u⟩;have:t∈(f.loose (-1)).map Lt.t:=by rw[xo];exact ht
  obtain⟨l,hl,rfl⟩:=List.mem_map.1 this;have x:l.top∈nd f (-1)++N:=j _ (by rw[wM];exact nG hl);refine (y.geti x).bind ?_;rintro _ ⟨a3,rfl,D⟩;refine⟨_,rfl,a3,D.mono (by omega),Or.inr ⟨l.t.c,?_,rfl,u⟩⟩;rw[F.yS];exact List.mem_flatMap.2 ⟨l.t,ht,List.mem_cons_self ..⟩
theorem o4 {k:Nat}{f:F}{c:Nat}{x:It}(H:Hp κ n a (upd it c x) (nd f (-1)++N) L)(j:HB b it f)(u:c∈f.cells)(X:¬ (it c).lt x)(hk:70000<k){Q:Nat}(S:f.size<2 ^ Q)(U:Q<60) :
  Do (uB k a f.hd (x.i:Int)) fun r=>∃ it' A,r=(f.hd,A)/\Hp κ (n+13*Q+8) A it' (nd f (-1)++N) L/\HB b it' f/\(∀ d,d ∉ f.cells->it' d=it d)/\(f.cells.map it').Perm (f.cells.map (upd it c x)):=by
 unfold uB;obtain⟨ν,z,I⟩:=sO (up:=-1) u;have hs:=ly H;have l:0<f.size:=by
  rw[<- F.wT];exact List.length_pos_of_mem u
 have y:=sy H;obtain⟨R,h1,h2,h3⟩:=size_le (b:=b) H l fun t ht=>(j.good t ht).sk
 have W:=h3 Q S;have O:RI (upd it c x) (nd f (-1)) ν.c false:=by rw[I];exact j.ord.lower X hs (j.upOK.self hs)
 have:=pF (k:=k) false (nd f (-1)) j.upOK R (fun ν z=>by
  obtain⟨t,ht,e⟩:=oh f (-1) (fun t ht=>(j.good t ht).sk) ν z;have:=h1 t ht;omega) H ν z (by omega) h2 O
 rw[I,uj] at this;refine this.bind ?_;rintro _ ⟨μ,it',a1,rfl,Z,H1,Y,B,D,J,_⟩;rw[y0] at B D;refine⟨_,rfl,it',a1,rfl,H1.mono (by omega),⟨fun t ht=>⟨(j.good t ht).sk,pw (J rfl) t ht⟩,j.row⟩,fun d hd=>?_,D⟩;rw[B d hd];exact vv _ _ (fun e=>hd (e ▸ u))
theorem th {k:Nat}{f:F}{p q:List Tr}{t:Tr}(H:Hp κ n a it (nd f (-1)++N) L)(e:f.trees=p++t::q)(hp:(t.c:Int) ∉ cs p)(hq:(t.c:Int) ∉ cs q)
  (W:∀ s∈p++q,GT false it s) (y:∀ s∈t.kids.trees,GT false it s) (hlen:(p++q).length+t.kids.len<=20) (hk:95000<k) :
  Do (xq k a (cs f.trees) (t.c:Int)) fun r=>∃ u B,r=(u.hd,((it t.c).i:Int),B)/\Hp κ (n+4+t.kids.len+14*((p++q).length+t.kids.len)) B it (nd u (-1)++N) (((it t.c).i,(it t.c).cell (-1))::L)/\HB false it u/\u.cells.Perm (TC (p++q)++t.kids.cells):=by
 unfold xq;have A:=sy H;have D:=H.cap;have x:(p++q).length<=20:=by omega
 rw[lA] at x;rw[e,kf];refine Do.seq (tL (cs p) (cs q) (t.c:Int) hp hq (by simp[cs];omega) (by simp[cs];omega)) ?_;obtain⟨p',j,w,hl,rfl,rfl⟩:=qF (f:=f) (up:=-1) e;have U:nd f (-1)=LN p'++((⟨t,-1,w⟩:Lt).top::(nd t.kids t.c++LN j)):=by
  rw[wM,hl,wN,tK,l6];simp
 have H1:Hp κ n a it ((⟨t,-1,w⟩:Lt).top::(LN (p'++j++t.kids.loose t.c)++N)) L:=H.p (npm fun P=>by
  rw[U];simp only[wN,<- wM,List.countP_append,List.countP_cons];omega)
 have X:=t.kids.vn;have Y:t.kids.size+1<=f.size:=qa (f:=f) (by rw[e];simp);refine (km (k:=k) (f:=t.kids) H1 (List.mem_cons_self ..) rfl (fun μ Z=>?_) (by omega) (by omega)).bind ?_
 ·refine mC _ (mL _ ?_);rw[wN,<- wM];exact List.mem_append_right _ Z
 rintro _ ⟨a1,rfl,I⟩;refine Do.seq (y4 (by simp[cs] at *;unfold F.len at hlen;omega)) ?_;refine (rv I).bind ?_;rintro _ ⟨a2,rfl,J⟩;have S:cs (p'.map Lt.t)++cs (j.map Lt.t)++cs t.kids.trees=lc (p'++j++t.kids.loose t.c):=by
  rw[wP,wP];simp only[lc,xo]
 have z:(p'++j++t.kids.loose t.c).length=(p'.map Lt.t++j.map Lt.t).length+t.kids.len:=by
  unfold F.len;rw[<- xo t.kids t.c];simp[Nat.add_assoc]
 simp only[S];refine (sN (b:=false) (k:=k) (by omega) (p'++j++t.kids.loose t.c) (by omega) J (by
  intro l hl;rcases List.mem_append.1 hl with hl|hl
  ·refine W l.t ?_;rw[<- List.map_append];exact List.mem_map_of_mem hl
  ·exact uT y l hl)).bind ?_
 rintro _ ⟨u,a3,rfl,O,g1,g2,g3⟩;refine⟨_,rfl,u,a3,rfl,O.mono (by rw[z];omega),⟨g1,.of g2⟩,g3.trans ?_⟩;rw[List.map_append,List.map_append,vU,xo,<- F.yS]
theorem lO {k:Nat}{f:F}(H:Hp κ n a it (nd f (-1)++N) L)(x:HB false it f)(A:f ≠ .nil)(hs:f.size<1024)(hk:95000<k) :
  Do (td k a f.hd) fun r=>∃ c u it' I,r=(u.hd,((it c).i:Int),I)/\Hp κ (n+500) I it' (nd u (-1)++N) (((it c).i,(it c).cell (-1))::L)/\HB false it' u/\(f.cells.map it).Perm (it c::u.cells.map it')/\(∀ d,d ∉ f.cells->it' d=it d)/\c∈f.cells /\ ∀ d∈f.cells,¬ (it d).lt (it c):=by
 unfold td;have j:∀ ν ∈ nd f (-1),ν ∈ nd f (-1)++N:=fun ν h=>mL _ h
 have B:=sy H;have W:=f.vn;have O:=H.cap;have J:f.size<2 ^ 10:=by simpa using hs
 have hlen:=x.lenB J;cases ef:f.trees with
 | nil =>
  cases f with
  | nil=>exact absurd rfl A
  | cons=>simp[F.trees] at ef
 | cons t0 Z =>
  have l:yb a f.hd=some true:=by
   cases f with
   | nil=>exact absurd rfl A
   | cons c r kids rest=>exact H.live (j _ (List.mem_cons_self ..))
  refine Do.assoc (Do.seq l ?_);refine Do.seq rfl (Do.f rfl ?_);refine (vE (k:=k) H j (by omega) (by omega)).bind ?_;rintro _ ⟨a1,rfl,H1⟩;refine (qT (k:=k) H1 j x ef hk (by omega)).bind ?_;rintro _ ⟨t,a2,ht,rfl,D,z⟩;obtain⟨p,q,e,hp,hq⟩:=qn D ht;have Y:=x.lt J t ht;have U:=(db (x.good t ht).sk).2 rfl;have X:(p++q).length+1=f.len:=by unfold F.len;rw[e];simp;omega
  refine (th (k:=k) D e hp hq (fun s hs=>x.good s (by rw[e];rcases List.mem_append.1 hs with h|h <;> simp[h])) (x.good t ht).kids (by omega) hk).bind ?_;rintro _ ⟨u,a3,rfl,S,h1,h2⟩;have y:=(sP e).trans (h2.symm.cons _);refine⟨_,rfl,t.c,u,it,a3,rfl,S.mono (by omega),h1,?_,fun _ _=>rfl,y.mem_iff.2 (List.mem_cons_self ..),z⟩;have:=y.map it
  rwa [pC] at this
theorem nr {k:Nat}{f:F}{x:It}(H:Hp κ n a it (nd f (-1)++N) ((x.i,x.cell (-1))::L))(D:HB false it f)(hs:f.size<1024)(hr:2*f.size+2*N.length+1+L.length < κ.C)(hk:95000<k) :
  Do (uD k a f.hd (x.i:Int)) fun r=>∃ j it' B,r=(j.hd,true,B)/\Hp κ (n+500) B it' (nd j (-1)++N) L/\HB false it' j/\(j.cells.map it').Perm (x::f.cells.map it) /\ ∀ ν ∈ N,it' ν.c=it ν.c:=by
 unfold uD;have A:=sy H;have Z:=f.vn;have J:=H.cap;have X:f.size<2 ^ 10:=by simpa using hs
 have hlen:=D.lenB X;refine (ry H (by rw[lA,rR];omega)).bind ?_;rintro _ ⟨c,a1,rfl,H1,I⟩;refine Do.f rfl ?_;have t:c ∉ f.cells:=fun h=>by
  obtain⟨ν,y,e⟩:=sO (up:=-1) h;exact I ν (mL _ y) e
 have u:∀ ν ∈ nd f (-1),ν ∈ (⟨c,-1,-1,-1,-1,0,0⟩:Nd)::(nd f (-1)++N):=fun ν h=>mC _ (mL _ h)
 refine (vE (k:=k) H1 u (by omega) (by omega)).bind ?_;rintro _ ⟨a2,rfl,O⟩;refine Do.seq (y4 (by simp[cs] at *;unfold F.len at hlen;omega)) ?_;have z:HB false (upd it c x) f:=D.congr fun d hd=>vv _ _ (fun e=>t (e ▸ hd))
 have W:([(c:Int)]++cs f.trees:List Int)=lc ((⟨⟨c,0,.nil⟩,-1,-1⟩:Lt)::f.loose (-1)):=by
  rw[lD,lc,xo];rfl
 have S:Hp κ (n+3+f.len) a2 (upd it c x) (LN ((⟨⟨c,0,.nil⟩,-1,-1⟩:Lt)::f.loose (-1))++N) L:=by
  rw[tK,<- wM];exact O
 have Y:((⟨⟨c,0,.nil⟩,-1,-1⟩:Lt)::f.loose (-1)).length=f.len+1:=by
  unfold F.len;rw[<- xo f (-1)];simp
 simp only[W];refine (sN (b:=false) (k:=k) (by omega) _ (by omega) S (by
  intro l hl;rcases List.mem_cons.1 hl with rfl|hl
  ·exact⟨.nil,fun ν y=>by simp[nd] at y⟩
  ·exact uT z.good l hl)).bind ?_
 rintro _ ⟨j,a3,rfl,U,g1,g2,g3⟩;refine⟨_,rfl,j,upd it c x,a3,rfl,U.mono (by omega),⟨g1,.of g2⟩,?_,fun ν y=>vv _ _ (I ν (List.mem_append_right _ y))⟩;rw[pC,rJ,xo,<- F.yS] at g3;have h1:=g3.map (upd it c x);have h2:f.cells.map (upd it c x)=f.cells.map it:=List.map_congr_left fun d hd=>vv _ _ fun e=>t (e ▸ hd)
 have h3:(Tr.cells ⟨c,0,.nil⟩++f.cells).map (upd it c x)=x::f.cells.map it:=by
  rw[<- h2];simp[Tr.cells,F.cells,uj]
 rwa [h3] at h1
theorem uK {k:Nat}{f g:F}(H:Hp κ n a it (nd f (-1)++(nd g (-1)++N)) L)(hf:HB false it f)(B:HB false it g)(hs:f.size<1024)(hs':g.size<1024)(hk:95000<k) :
  Do (uC k a f.hd g.hd) fun r=>∃ u z,r=(u.hd,z)/\Hp κ (n+500) z it (nd u (-1)++N) L/\HB false it u/\u.cells.Perm (f.cells++g.cells):=by
 unfold uC;have j:=sy H;rw[lA,rR] at j;have W:=f.vn;have D:=g.vn;have A:=H.cap;have hlen:=hf.lenB (R:=10) (by simpa using hs);have i:=B.lenB (R:=10) (by simpa using hs');by_cases e:f.hd=g.hd
 ·have:f = .nil/\g = .nil:=by
   cases f with
   | nil =>
    cases g with
    | nil=>exact⟨rfl,rfl⟩
    | cons c r kids rest=>simp only[F.hd] at e;omega
   | cons c r kids rest =>
    cases g with
    | nil=>simp only[F.hd] at e;omega
    | cons c' r' x y =>
     simp only[F.hd] at e;have hn:=H.nd;have:c=c':=by omega
     subst this;rw[nd,List.cons_append,pC,List.nodup_cons] at hn;exact absurd (by simp[nd]) hn.1
  obtain⟨rfl,rfl⟩:=this;refine Do.t (by simp) ?_;exact⟨_,rfl,.nil,a,rfl,H.mono (by omega),HB.nil,.refl _⟩
 ·refine Do.f (by simpa using e) ?_;refine (vE (k:=k) H (fun ν h=>mL _ h) (by omega) (by omega)).bind ?_;rintro _ ⟨a1,rfl,H1⟩;refine (vE (k:=k) H1 (fun ν h=>List.mem_append_right _ (mL _ h)) (by omega) (by omega)).bind ?_;rintro _ ⟨a2,rfl,I⟩;refine Do.seq (y4 (by simp[cs] at *;unfold F.len at hlen i;omega)) ?_;have S:cs f.trees++cs g.trees=lc (f.loose (-1)++g.loose (-1)):=by
   rw[wP,lc,lc,xo,xo]
  have J:Hp κ (n+f.len+g.len) a2 it (LN (f.loose (-1)++g.loose (-1))++N) L:=by
   rw[wN,<- wM,<- wM,aA];exact I
  have U:(f.loose (-1)++g.loose (-1)).length=f.len+g.len:=by
   unfold F.len;rw[<- xo f (-1),<- xo g (-1)];simp
  simp only[S];refine (sN (b:=false) (k:=k) (by omega) _ (by omega) J (by
   intro l hl;rcases List.mem_append.1 hl with hl|hl
   ·exact uT hf.good l hl
   ·exact uT B.good l hl)).bind ?_
  rintro _ ⟨u,a3,rfl,O,g1,g2,g3⟩;refine⟨_,rfl,u,a3,rfl,O.mono (by omega),⟨g1,.of g2⟩,g3.trans ?_⟩;rw[List.map_append,vU,xo,xo,<- F.yS,<- F.yS]
theorem u3 {k:Nat}{f:F}{c:Nat}(H:Hp κ n a it (nd f (-1)++N) L)(j:HB false it f)(Y:c∈f.cells)(hs:f.size<1024)(hk:95000<k) :
  Do (ta k a f.hd ((it c).i:Int)) fun r=>∃ it' l S,r=(l.hd,S)/\Hp κ (n+500) S it' (nd l (-1)++N) (((it c).i,(it c).cell (-1))::L)/\HB false it' l/\(∀ d,d ∉ f.cells->it' d=it d)/\(f.cells.map it).Perm (it c::l.cells.map it')/\(∀ d∈l.cells,d∈f.cells):=by
 unfold ta vD;obtain⟨ν,z,rfl⟩:=sO (up:=-1) Y;have mν:ν ∈ nd f (-1)++N:=mL _ z;have b4:=ly H;have x:0<f.size:=by
  rw[<- F.wT];exact List.length_pos_of_mem Y
 have D:=sy H;have b1:=f.vn;have Z:=H.cap;have B:f.size<2 ^ 10:=by simpa using hs
 have hlen:=j.lenB B;obtain⟨R,h1,h2,h3⟩:=size_le (b:=false) H x fun t ht=>(j.good t ht).sk
 have a9:=h3 10 B;refine Do.assoc ((Ar.cell H (H.item mν) (f:=9) (v:=(ν.c:Int)) rfl (by omega) (by have:=H.lt mν;omega)).bind ?_);rintro _ ⟨a1,rfl,H1⟩;refine Do.seq rfl ?_;refine Do.f (by simp) ?_;have:=pF (k:=k) true (nd f (-1)) j.upOK R (fun ν z=>by
  obtain⟨t,ht,e⟩:=oh f (-1) (fun t ht=>(j.good t ht).sk) ν z;have:=h1 t ht;omega) (N:=N) (L:=L) H1 ν z (by omega) h2 j.ord.any
 refine this.bind ?_;rintro _ ⟨μ,it',a2,rfl,hμ,H2,A,U,W,_,e5⟩;obtain⟨I,X⟩:=e5 rfl;rw[y0] at U W;obtain⟨t,ht,et⟩:=eR (fun t ht=>(j.good t ht).sk) hμ I;have y:∀ ν ∈ nd f (-1),ν ∈ nd f (-1)++N:=fun ν h=>mL _ h
 refine (vE (k:=k) H2 y (by omega) (by omega)).bind ?_;rintro _ ⟨a3,rfl,J⟩;rw[et] at X A ⊢;refine Do.seq (qV (cs f.trees) (t.c:Int) (by rw[qW];unfold F.len at hlen;omega) (by rw[qW];unfold F.len at hlen;omega) (List.mem_map.2 ⟨t,ht,rfl⟩)) ?_;refine Do.f rfl ?_;obtain⟨p,q,e,hp,hq⟩:=qn J ht;have hn:f.cells.Nodup:=by
  have:=H.nd;rw[List.map_append,y0] at this;exact (List.nodup_append.1 this).1
 obtain⟨g1,g2⟩:=kG hn j e X;have b3:=j.lt B t ht;have b0:=(db (j.good t ht).sk).2 rfl;have b2:(p++q).length+1=f.len:=by unfold F.len;rw[e];simp;omega
 refine (th (k:=k) J e hp hq g1 g2 (by omega) hk).bind ?_;rintro _ ⟨l,a4,rfl,O,h4,h5⟩;rw[A] at O;have u:=(sP e).trans (h5.symm.cons _);refine⟨_,rfl,it',l,a4,rfl,O.mono (by omega),h4,U,?_,fun d hd=>u.mem_iff.2 (mC _ hd)⟩;refine W.symm.trans ?_;have:=u.map it';rw[pC,A] at this;exact this
end Bi
end
end
noncomputable section
set_option maxRecDepth 10000
namespace Bi
def KH:KS:=fun it M r=>∃ f:F,M=nd f (-1)/\r=f.hd/\HB false it f
section
variable {κ:Cfg} {n:Nat} {a:zb} {L:Heap} {r:Int} {its:List It} {C:Heap}
theorem yj {it:Nat->It}(f:F)(u:Int):((nd f u).map fun ν=>it ν.c)=f.cells.map it:=by rw[<- y0 f u,List.map_map];rfl
theorem um {it:Nat->It}{f:F}(h:its.Perm ((nd f (-1)).map fun ν=>it ν.c)):its.length=f.size:=by rw[h.length_eq,lM,rR]
theorem eH:HK KH (-1) [] []:=⟨fun _=>⟨0,0,0⟩,[],⟨.nil,rfl,rfl,HB.nil⟩,.refl _,.refl _⟩
theorem kB {k:Nat}{x:It}(h:HK KH r its C)(H:Ar κ n a (C++((x.i,x.cell (-1))::L)))(hr:2*its.length+1+L.length < κ.C)(hs:its.length<1024)(hk:95000<k) :
  Do (uD k a r (x.i:Int)) fun res=>∃ r' C' e,res=(r',true,e)/\HK KH r' (x::its) C'/\Ar κ (n+500) e (C'++L):=by
 obtain⟨it,M,⟨f,rfl,rfl,u⟩,hC,j⟩:=h;have hl:=um j;have t:Hp κ n a it (nd f (-1)++[]) ((x.i,x.cell (-1))::L):=by rw[aN];exact Ar.p H (hC.append_right _)
 refine (nr t u (by omega) (by simp only[List.length_nil];omega) hk).mono ?_;rintro _ ⟨l,it',e,rfl,H1,h1,h2,-⟩;rw[aN] at H1;refine⟨l.hd,_,e,rfl,⟨it',_,⟨l,rfl,rfl,h1⟩,.refl _,?_⟩,H1⟩;rw[yj] at j ⊢;exact (j.cons x).trans h2.symm
theorem eE {k:Nat}(h:HK KH r its C)(H:Ar κ n a (C++L))(hs:its.length<1024)(hk:95000<k):Do (tc k a r) fun res=>∃ e,Ar κ (n+100) e (C++L)/\((its=[]/\res=(-1,e)) \/ ∃ x∈its,res=((x.i:Int),e) /\ ∀ y∈its,¬ y.lt x):=by
 obtain⟨it,M,⟨f,rfl,rfl,l⟩,hC,j⟩:=h;have hl:=um j;have t:Hp κ n a it (nd f (-1)++[]) L:=by rw[aN];exact Ar.p H (hC.append_right _)
 have hlen:=l.len (R:=10) (by omega);refine (lI t l hk).mono ?_;rintro res ⟨e,H1,h1⟩;rw[aN] at H1;rw[yj] at j;refine⟨e,Ar.mono (Ar.p H1 (hC.append_right _).symm) (by omega),?_⟩;rcases h1 with ⟨rfl,rfl⟩|⟨c,u,rfl,h2⟩
 ·exact Or.inl ⟨j.eq_nil,rfl⟩
 ·refine Or.inr ⟨it c,j.mem_iff.2 (List.mem_map_of_mem u),rfl,fun y z=>?_⟩;obtain⟨d,hd,rfl⟩:=List.mem_map.1 (j.mem_iff.1 z);exact h2 d hd
theorem eM {k:Nat}(h:HK KH r its C)(H:Ar κ n a (C++L))(t:its≠[])(hs:its.length<1024)(hk:95000<k) :
  Do (td k a r) fun res=>∃ x q r' C' j,res=(r',(x.i:Int),j)/\its.Perm (x::q)/\(∀ y∈its,¬ y.lt x)/\HK KH r' q C'/\Ar κ (n+500) j (C'++((x.i,x.cell (-1))::L)):=by
 obtain⟨it,M,⟨f,rfl,rfl,z⟩,hC,e⟩:=h;have hl:=um e;have u:Hp κ n a it (nd f (-1)++[]) L:=by rw[aN];exact Ar.p H (hC.append_right _)
 rw[yj] at e;have hf:f ≠ .nil:=by rintro rfl;exact t e.eq_nil
 refine (lO u z hf (by omega) hk).mono ?_;rintro _ ⟨c,l,it',j,rfl,H1,h1,h2,-,B,h3⟩;rw[aN] at H1;refine⟨it c,l.cells.map it',l.hd,_,j,rfl,e.trans h2,fun y A=>?_,⟨it',_,⟨l,rfl,rfl,h1⟩,.refl _,by rw[yj]⟩,H1⟩;obtain⟨d,hd,rfl⟩:=List.mem_map.1 (e.mem_iff.1 A);exact h3 d hd
theorem fP {k:Nat}{x:It}(h:HK KH r its C)(z:x∈its)(H:Ar κ n a (C++L))(hs:its.length<1024)(hk:95000<k) :
  Do (ta k a r (x.i:Int)) fun res=>∃ q r' C' e,res=(r',e)/\its.Perm (x::q)/\HK KH r' q C'/\Ar κ (n+500) e (C'++((x.i,x.cell (-1))::L)):=by
 obtain⟨it,M,⟨f,rfl,rfl,y⟩,hC,j⟩:=h;have hl:=um j;have t:Hp κ n a it (nd f (-1)++[]) L:=by rw[aN];exact Ar.p H (hC.append_right _)
 rw[yj] at j;obtain⟨c,u,rfl⟩:=List.mem_map.1 (j.mem_iff.1 z);refine (u3 t y u (by omega) hk).mono ?_;rintro _ ⟨it',l,e,rfl,H1,h1,-,h2,-⟩;rw[aN] at H1;exact⟨l.cells.map it',l.hd,_,e,rfl,j.trans h2,⟨it',_,⟨l,rfl,rfl,h1⟩,.refl _,by rw[yj]⟩,H1⟩
theorem kj {k:Nat}{x y:It}(h:HL KH r its x y C)(hi:y.i=x.i)(u:¬ x.lt y)(H:Ar κ n a (C++L))(hs:its.length<1024)(hk:95000<k) :
  Do (uB k a r (y.i:Int)) fun res=>∃ r' q C' j,res=(r',j)/\its.Perm (x::q)/\HK KH r' (y::q) C'/\Ar κ (n+150) j (C'++L):=by
 obtain⟨it,M,ν,⟨f,rfl,rfl,D⟩,B,rfl,hC,A⟩:=h;have hl:=um A;have z:Hp κ n a (upd it ν.c y) (nd f (-1)++[]) L:=by rw[aN];exact Ar.p H (hC.append_right _)
 have hn:=z.nd;rw[aN] at hn;obtain⟨q,t,e⟩:=jD (y:=y) hn B rfl;have l:ν.c∈f.cells:=by rw[<- y0 f (-1)];exact List.mem_map_of_mem B
 refine (o4 z D l u (by omega) (Q:=10) (by omega) (by omega)).mono ?_;rintro _ ⟨it',j,rfl,H1,h1,-,h2⟩;rw[aN] at H1;refine⟨f.hd,q,_,j,rfl,A.trans t,⟨it',_,⟨f,rfl,rfl,h1⟩,.refl _,?_⟩,Ar.mono H1 (by omega)⟩;rw[yj] at e ⊢;exact e.symm.trans h2.symm
theorem ku {k:Nat}{s:Int}{e:List It}{C':Heap}(h:HK KH r its C)(X:HK KH s e C')(H:Ar κ n a (C++(C'++L)))(hs:its.length<256)(hs':e.length<256)(hk:95000<k) :
  Do (uC k a r s) fun res=>∃ t u S,res=(t,S)/\HK KH t (its++e) u/\Ar κ (n+500) S (u++L):=by
 obtain⟨it,M,⟨t,rfl,rfl,Z⟩,hC,B⟩:=h;obtain⟨it',M',⟨i,rfl,rfl,F⟩,x,l⟩:=X;have hl:=um B;have Y:=um l;rw[yj] at B l;have y:∀ d∈t.cells,d ∉ i.cells:=by
  have hn:=Ar.nodup H;have h1:=((((hC.append ((x).append_right L)).map Prod.fst)).nodup_iff).1 hn;rw[List.map_append,List.map_append] at h1;intro d hd D;have z:d∈(lay it (nd t (-1))).map Prod.fst:=((su it (nd t (-1))).mem_iff).2 (mL _ (by rw[y0];exact hd));have A:d∈(lay it' (nd i (-1))).map Prod.fst:=((su it' (nd i (-1))).mem_iff).2 (mL _ (by rw[y0];exact D));exact (List.nodup_append.1 h1).2.2 d z d (mL _ A) rfl
 let j:Nat->It:=fun d=>if d∈t.cells then it d else it' d
 have J:∀ d∈t.cells,j d=it d:=fun d hd=>if_pos hd
 have O:∀ d∈i.cells,j d=it' d:=fun d hd=>if_neg fun h=>y d h hd
 have z:lay j (nd t (-1))=lay it (nd t (-1)):=vX fun ν I=>J _ (by rw[<- y0 t (-1)];exact List.mem_map_of_mem I)
 have A:lay j (nd i (-1))=lay it' (nd i (-1)):=vX fun ν I=>O _ (by rw[<- y0 i (-1)];exact List.mem_map_of_mem I)
 have W:Hp κ n a j (nd t (-1)++(nd i (-1)++[])) L:=by
  unfold Hp;rw[aN,p8,z,A,aA];exact Ar.p H (hC.append (x.append_right L))
 refine (uK W (Z.congr J) (F.congr O) (by omega) (by omega) hk).mono ?_;rintro _ ⟨U,a1,rfl,H1,h1,h2⟩;rw[aN] at H1;refine⟨U.hd,_,a1,rfl,⟨j,_,⟨U,rfl,rfl,h1⟩,.refl _,?_⟩,H1⟩;rw[yj];have h3:=(h2.map j).symm;rw[List.map_append] at h3;have f1:t.cells.map j=t.cells.map it:=List.map_congr_left J;have f2:i.cells.map j=i.cells.map it':=List.map_congr_left O;rw[f1,f2] at h3;exact (B.append l).trans h3
end
end Bi
end
noncomputable section
set_option maxRecDepth 10000
section
variable {κ:Cfg} {n:Nat} {a:zb} {it:Nat->It} {N:List Nd} {L:Heap} {b:Bool}
theorem Ord.congr {it it':Nat->It}{f:F}{q:Nat}(h:Ord it (nd f (q:Int)))(i:∀ d∈f.cells,it' d=it d)(hq:it' q=it q):Ord it' (nd f (q:Int)):=by
 intro ν e r hr;obtain⟨h1,h2⟩:=dV f q ν e;rw[i _ h1];rcases h2 with h2|⟨d,hd,h2⟩
 ·have:r=q:=by omega
  subst this;rw[hq];exact h ν e r hr
 ·have:r=d:=by omega
  subst this;rw[i r hd];exact h ν e r hr
namespace Sk
theorem te (l:List Int)(v:Int)(hl:l.length<100000):∀ (post pre:List Int) (m:Nat),post.length<m->l=pre++post->v ∉ pre ->
  (zU (l.length:Int) l v m (pre.length:Int)=some (.inr ())/\v ∉ post) \/ ∃ p q,l=p++v::q/\v ∉ p/\zU (l.length:Int) l v m (pre.length:Int)=some (.inl (p.length:Int))
 | [],pre,m,hm,e,hv=>by
  obtain⟨m,rfl⟩:∃ q,m=q+1:=⟨m - 1,by simp at hm;omega⟩
  left
  rw[zU,dF (by rw[e];simp)];exact⟨rfl,by simp⟩
 | x::post,pre,m,hm,e,hv=>by
  obtain⟨m,rfl⟩:∃ q,m=q+1:=⟨m - 1,by simp at hm;omega⟩
  simp only[lC] at hm;have hlen:pre.length<100000:=by have:=congrArg List.length e;simp at this;omega
  have j:mIdx l (pre.length:Int)=some x:=by rw[e];exact yr ..
  rw[zU,dT (by rw[e];simp;omega),j];simp only[cT,bS,vG];by_cases h:x=v
  ·subst h
   right
   refine⟨pre,post,e,hv,?_⟩;simp
  ·have t:(x == v)=false:=by simpa using h
   rw[t,cF,zP (by omega) (by omega)];have:=te l v hl post (pre++[x]) m (by omega) (by rw[e];simp) (by simp[hv];exact fun e=>h e.symm);have i:((pre++[x]).length:Int)=(pre.length:Int)+1:=by simp
   rw[i] at this;rcases this with ⟨h1,h2⟩|h1
   ·exact Or.inl ⟨h1,by simp[h2];exact fun e=>h e.symm⟩
   ·exact Or.inr h1
theorem uG (v:Int):∀ (R A:List Int) (g:Int) (m:Nat),R.length<m->A.length+R.length<100000->v ∉ R ->
  Do (z7 v m (A.length:Int) ((A.length:Int)+1) (A++g::R)) fun r=>∃ i,r=(((A++R).length:Int),(A++R)++[i])
 | [],A,g,m,hm,j,hv=>by
  obtain⟨m,rfl⟩:∃ q,m=q+1:=⟨m - 1,by simp at hm;omega⟩
  rw[z7];refine Do.f (dF (by simp)) ?_;exact⟨_,rfl,g,by simp⟩
 | x::R,A,g,m,hm,j,hv=>by
  obtain⟨m,rfl⟩:∃ q,m=q+1:=⟨m - 1,by simp at hm;omega⟩
  simp only[lC] at hm j;simp only[iC,not_or] at hv;rw[z7];refine Do.t (dT (by simp;omega)) ?_;have u:mIdx (A++g::x::R) ((A.length:Int)+1)=some x:=by
   have:=yr (A++[g]) R x;simpa using this
  refine Do.assoc (Do.seq u ?_);refine Do.assoc (Do.seq rfl ?_);refine Do.tb (by simp;exact fun e=>hv.1 e.symm) ?_;refine Do.assoc (Do.seq (yr A (x::R) g) ?_);refine Do.seq rfl ?_;have es:mSet (A++g::x::R) (A.length:Int) x=(A++[x])++x::R:=by rw[lV];simp
  rw[es,zP (by omega) (by omega),zP (by omega) (by omega)];have:=uG v R (A++[x]) x m (by omega) (by simp;omega) hv.2;have l:((A++[x]).length:Int)=(A.length:Int)+1:=by simp
  rw[l] at this;refine this.mono ?_;rintro _ ⟨i,rfl⟩;exact⟨i,by simp⟩
theorem tL {k:Nat}(p q:List Int)(v:Int)(hp:v ∉ p)(hq:v ∉ q)(hl:(p++v::q).length<100000)(hk:(p++v::q).length<k) :
  y3 k (p++v::q) v=some (p++q):=by
 unfold y3 xL;rcases te (p++v::q) v hl (p++v::q) [] k hk rfl (by simp) with ⟨_,h2⟩|⟨p',i,e,hv,h⟩
 ·simp at h2
 ·have l:p'=p/\i=q:=by
   clear h;have:=congrArg (List.takeWhile (fun x=>x != v)) e;have h1:∀ (p q:List Int),v ∉ p->(p++v::q).takeWhile (fun x=>x != v)=p:=by
    intro p q hp;rw[List.takeWhile_append_of_pos (by intro x A;simp;exact fun e=>hp (e ▸ A))];simp
   rw[h1 p q hp,h1 p' i hv] at this;subst this;simpa using e.symm
  obtain⟨rfl,rfl⟩:=l;have z:zU ((p'++v::i).length:Int) (p'++v::i) v k 0=some (.inl (p'.length:Int)):=h;rw[z];simp only[bS];rw[show ((p'.length:Int) == -1)=false by simp,cF];simp only[lA,lC] at hl hk;rw[zP (by omega) (by omega)];obtain⟨r,t,j,rfl⟩:=uG v i p' v k (by omega) (by omega) hq;rw[t];simp only[bS];have u:mCut ((p'++i)++[j]) ((p'++i).length:Int) (((p'++i)++[j]).length:Int)=some [j]:=by
   rw[ph (by simp)];simp
  rw[u];simp only[bS];have y:mCut (rE ((p'++i)++[j]) ((p'++i).length:Int) 0) 0 ((p'++i).length:Int)=some (p'++i):=by
   unfold mCut rE;have:((p'++i++[j]).length - ((p'++i).length:Int).toNat)=1:=by simp only[lA,List.length_singleton];omega
   rw[this];simp only[tN];rw[List.take_left' (l₁:=p'++i) rfl];rw[if_pos ⟨by omega,by omega,by simp;omega⟩];simp only[Int.toNat_zero,List.drop_zero];rw[List.take_left' (l₁:=p'++i) rfl]
  rw[y]
  rfl
theorem lI {k:Nat}{f:F}(H:Hp κ n a it (nd f (-1)++N) L)(I:HB b it f)(hk:95000<k) :
  Do (pJ k a f.hd) fun res=>∃ z,Hp κ (n+7*f.len+1) z it (nd f (-1)++N) L/\((f = .nil/\res=(-1,z)) \/ ∃ c∈f.cells,res=(((it c).i:Int),z) /\ ∀ d∈f.cells,¬ (it d).lt (it c)):=by
 unfold pJ;have j:∀ ν ∈ nd f (-1),ν ∈ nd f (-1)++N:=fun ν h=>mL _ h
 have A:=sy H;have J:=f.vn;have B:=H.cap;refine (vE (k:=k) H j (by omega) (by omega)).bind ?_;rintro _ ⟨a1,rfl,H1⟩;cases e:f.trees with
 | nil =>
  have:f = .nil:=by
   cases f with
   | nil=>rfl
   | cons=>simp[F.trees] at e
  subst this;refine Do.seq (jY (by omega) a1) ?_;refine (H1.fM (c:=-1) (by decide)).bind ?_;rintro _ ⟨a2,rfl,y⟩;exact⟨_,rfl,a2,y.mono (by omega),Or.inl ⟨rfl,rfl⟩⟩
 | cons t0 O =>
  rw[<- e];refine (qT (k:=k) H1 j I e hk (by omega)).bind ?_;rintro _ ⟨t,a2,ht,rfl,y,u⟩;have:t∈(f.loose (-1)).map Lt.t:=by rw[xo];exact ht
  obtain⟨l,hl,rfl⟩:=List.mem_map.1 this;have x:l.top∈nd f (-1)++N:=j _ (by rw[wM];exact nG hl);refine (y.geti x).bind ?_;rintro _ ⟨a3,rfl,D⟩;refine⟨_,rfl,a3,D.mono (by omega),Or.inr ⟨l.t.c,?_,rfl,u⟩⟩;rw[F.yS];exact List.mem_flatMap.2 ⟨l.t,ht,List.mem_cons_self ..⟩
theorem o4 {k:Nat}{f:F}{c:Nat}{x:It}(H:Hp κ n a (upd it c x) (nd f (-1)++N) L)(j:HB b it f)(u:c∈f.cells)(X:¬ (it c).lt x)(hk:70000<k){Q:Nat}(S:f.size<2 ^ Q)(U:Q<60) :
  Do (rX k a f.hd (x.i:Int)) fun r=>∃ it' A,r=(f.hd,A)/\Hp κ (n+13*Q+8) A it' (nd f (-1)++N) L/\HB b it' f/\(∀ d,d ∉ f.cells->it' d=it d)/\(f.cells.map it').Perm (f.cells.map (upd it c x)):=by
 unfold rX;obtain⟨ν,z,I⟩:=sO (up:=-1) u;have hs:=ly H;have l:0<f.size:=by
  rw[<- F.wT];exact List.length_pos_of_mem u
 have y:=sy H;obtain⟨R,h1,h2,h3⟩:=size_le (b:=b) H l fun t ht=>(j.good t ht).sk
 have W:=h3 Q S;have O:RI (upd it c x) (nd f (-1)) ν.c false:=by rw[I];exact j.ord.lower X hs (j.upOK.self hs)
 have:=pF (k:=k) false (nd f (-1)) j.upOK R (fun ν z=>by
  obtain⟨t,ht,e⟩:=oh f (-1) (fun t ht=>(j.good t ht).sk) ν z;have:=h1 t ht;omega) H ν z (by omega) h2 O
 rw[I,uj] at this;refine this.bind ?_;rintro _ ⟨μ,it',a1,rfl,Z,H1,Y,B,D,J,_⟩;rw[y0] at B D;refine⟨_,rfl,it',a1,rfl,H1.mono (by omega),⟨fun t ht=>⟨(j.good t ht).sk,pw (J rfl) t ht⟩,j.row⟩,fun d hd=>?_,D⟩;rw[B d hd];exact vv _ _ (fun e=>hd (e ▸ u))
theorem eu {k:Nat}(hk:3<=k){s t:Tr}{w w':Int}{r:Nat}(H:Hp κ n a it (s.nd (-1) w++(t.nd (-1) w'++N)) L)(hs:s.r=r)(ht:t.r=r)(j:r<1000) :
  Do (u1 k a (s.c:Int) (t.c:Int) (r:Int)) fun res=>∃ w i,res=(((lk it s t).c:Int),i)/\Hp κ (n+11) i it ((lk it s t).nd (-1) w++N) L:=by
 unfold u1;have m1:(⟨s.c,-1,s.kids.hd,-1,w,s.r,0⟩:Nd)∈s.nd (-1) w++(t.nd (-1) w'++N):=mL _ (List.mem_cons_self ..);have m2:(⟨t.c,-1,t.kids.hd,-1,w',t.r,0⟩:Nd)∈s.nd (-1) w++(t.nd (-1) w'++N):=List.mem_append_right _ (mL _ (List.mem_cons_self ..));refine (H.before hk m2 m1).bind ?_;rintro _ ⟨a1,rfl,H⟩;unfold lk;by_cases c:(it t.c).lt (it s.c)
 ·rw[if_pos c];refine Do.tb (dT c) ?_;have H1:Hp κ (n+6) a1 it (t.nd (-1) w'++(s.nd (-1) w++N)) L:=H.p (npm fun p=>by simp only[List.countP_append];omega);refine (linked H1 ht j).mono ?_;rintro _ ⟨a2,rfl,e⟩;exact⟨_,_,rfl,e⟩
 ·rw[if_neg c];refine Do.fb (dF c) ?_;refine (linked H hs j).mono ?_;rintro _ ⟨a2,rfl,e⟩;exact⟨_,_,rfl,e⟩
theorem iG {it it':Nat->It}{q:Nat}:∀ {f:F},Ord it (nd f (q:Int))->(∀ d∈f.cells,it' d=it d) -> ¬ (it q).lt (it' q)->Ord it' (nd f (q:Int))
 | .nil,_,_,_=>fun ν e=>by simp[nd] at e
 | .cons c r kids rest,h,j,hq=>by
  have h1:Ord it (nd kids c):=h.sub fun ν e=>mC _ (mL _ e)
  have h2:Ord it (nd rest q):=h.sub fun ν e=>mC _ (List.mem_append_right _ e)
  have i:it' c=it c:=j c (by rw[F.cells];exact List.mem_cons_self ..);have h3:=h1.congr (it':=it') (fun d hd=>j d (by rw[F.cells];exact mC _ (mL _ hd))) i;have h4:=iG (f:=rest) h2 (fun d hd=>j d (by rw[F.cells];exact mC _ (List.mem_append_right _ hd))) hq;intro ν e r' hr;rw[nd] at e;rcases List.mem_cons.1 e with rfl|e
  ·simp only at hr ⊢;have:r'=q:=by omega
   subst this;rw[i];exact fun l=>h _ (List.mem_cons_self ..) r' rfl (It.iz l hq)
  ·rcases List.mem_append.1 e with e|e
   ·exact h3 ν e r' hr
   ·exact h4 ν e r' hr
theorem eh (c r:Nat)(a b:F):(F.cons c r a b).hd=(c:Int):=rfl
theorem ck:F.nil.hd = -1:=rfl
theorem dQ (it:Nat->It)(s t:Tr):∃ top low,lk it s t=top.under low/\((top=s/\low=t) \/ (top=t/\low=s)) /\ ¬ (it low.c).lt (it top.c):=by
 unfold lk;by_cases c:(it t.c).lt (it s.c)
 ·rw[if_pos c];exact⟨t,s,rfl,Or.inr ⟨rfl,rfl⟩,It.lt_asymm c⟩
 ·rw[if_neg c];exact⟨s,t,rfl,Or.inl ⟨rfl,rfl⟩,c⟩
theorem nC {k:Nat}(hk:3<=k){f:F}{c:Nat}{u w:Int}(H:Hp κ n a it ((Tr.mk c 0 .nil).nd u w++(nd f (-1)++N)) L)(hb:HB true it f)(hr:∀ t∈f.trees,t.r<100) :
  Do (uZ k a f.hd (c:Int)) fun r=>∃ x it' j,r=(x.hd,j)/\Hp κ (n+32) j it' (nd x (-1)++N) L/\HB true it' x/\x.cells.Perm (c::f.cells)/\((c::f.cells).map it').Perm ((c::f.cells).map it) /\ ∀ d,d ∉ c::f.cells->it' d=it d:=by
 unfold uZ;have d7:=H.cap;have hN:∀ ν ∈ nd f (-1),ν ∈ (Tr.mk c 0 .nil).nd u w++(nd f (-1)++N):=fun ν h=>List.mem_append_right _ (mL _ h)
 have alone:(f.trees.Pairwise fun s t=>s.r<t.r) -> ∀ {O:Nat} {j:zb},O<=n+3->Hp κ O j it ((Tr.mk c 0 .nil).nd u w++(nd f (-1)++N)) L ->
   Do ((zx j (c:Int) 3 f.hd).bind fun d0=>(zx d0.2 (c:Int) 0 (-1)).bind fun d1=>some ((c:Int),d1.2)) fun r=>∃ x it' j,r=(x.hd,j)/\Hp κ (n+32) j it' (nd x (-1)++N) L/\HB true it' x/\x.cells.Perm (c::f.cells)/\((c::f.cells).map it').Perm ((c::f.cells).map it) /\ ∀ d,d ∉ c::f.cells->it' d=it d:=by
  intro hp O j hn H1;refine (Hp.set (ν:=⟨c,u,-1,-1,w,0,0⟩) H1 ⟨c,u,-1,-1,f.hd,0,0⟩).bind ?_;rintro _ ⟨a2,rfl,H2⟩;refine (Hp.set (ν:=⟨c,u,-1,-1,f.hd,0,0⟩) H2 ⟨c,-1,-1,-1,f.hd,0,0⟩).bind ?_;rintro _ ⟨a3,rfl,Z⟩;refine⟨_,rfl,.cons c 0 .nil f,it,a3,rfl,Hp.mono (n:=O+1+1) Z (by omega),⟨?_,?_⟩,?_,.refl _,fun _ _=>rfl⟩
  ·intro t ht;rw[F.trees] at ht;rcases List.mem_cons.1 ht with rfl|ht
   ·exact⟨.nil,fun ν Y=>by simp[nd] at Y⟩
   ·exact hb.good t ht
  ·exact⟨hp,fun s _=>Nat.zero_le _,fun h=>by cases h⟩
  ·simp[F.cells]
 cases f with
 | nil =>
  refine Do.fb rfl ?_;refine Do.seq rfl ?_;refine (H.getN (c:=-1) (by decide)).bind ?_;rintro _ ⟨a1,rfl,H1⟩;refine Do.tb rfl (Do.seq rfl (Do.t rfl ?_));exact alone (by simp[F.trees]) (by omega) H1
 | cons A r1 k1 f1 =>
  have a8:=hN _ (List.mem_cons_self ..);have D:∀ ν ∈ nd f1 (-1),ν ∈ (Tr.mk c 0 .nil).nd u w++(nd (.cons A r1 k1 f1) (-1)++N):=fun ν h=>hN ν (mC _ (List.mem_append_right _ h))
  have b4:=qC H D;refine Do.tb (bne_iff_ne.2 (by simp only[F.hd];omega)) ?_;refine Do.assoc ((H.getc a8 (f:=3) (v:=f1.hd) b4.1 b4.2).bind ?_);rintro _ ⟨a1,rfl,H1⟩;refine Do.seq rfl ?_;refine (H1.get a8 (f:=4) (v:=(r1:Int))).bind ?_;rintro _ ⟨a2,rfl,H2⟩;cases f1 with
  | nil =>
   refine Do.tb rfl (Do.seq rfl (Do.t rfl ?_));exact alone (by simp[F.trees]) (by omega) H2
  | cons l r2 k2 f2 =>
   have a9:=D _ (List.mem_cons_self ..);refine Do.fb (by simp[F.hd]) ?_;refine Do.assoc ((H2.get a9 (f:=4) (v:=(r2:Int))).bind ?_);rintro _ ⟨a3,rfl,Z⟩;have S:=hb.row;simp only[F.trees,fD] at S;obtain⟨J,c9,_⟩:=S;have e4:r1<=r2:=c9 ⟨l,r2,k2⟩ (List.mem_cons_self ..);by_cases c8:r2=r1
   ·subst c8;refine Do.seq rfl (Do.f (by simp) ?_);have b3:∀ ν ∈ nd f2 (-1),ν ∈ (Tr.mk c 0 .nil).nd u w++(nd (.cons A r2 k1 (.cons l r2 k2 f2)) (-1)++N):=fun ν h=>D ν (mC _ (List.mem_append_right _ h))
    have b5:=qC Z b3;refine (Z.getc a9 (f:=3) (v:=f2.hd) b5.1 b5.2).bind ?_;rintro _ ⟨a4,rfl,H4⟩;have b9:Hp κ (n+4) a4 it ((Tr.mk A r2 k1).nd (-1) (F.hd (.cons l r2 k2 f2))++((Tr.mk l r2 k2).nd (-1) f2.hd++((Tr.mk c 0 .nil).nd u w++(nd f2 (-1)++N)))) L:=H4.p (npm fun p=>by
     simp only[nd,Tr.nd,List.countP_append,List.countP_cons];omega)
    have e9:r2<100:=hr ⟨l,r2,k2⟩ (by simp[F.trees]);refine (eu (k:=k) (r:=r2) hk b9 rfl rfl (by omega)).bind ?_;rintro _ ⟨wt,a5,rfl,H5⟩;have g1:=hb.good ⟨A,r2,k1⟩ (by simp[F.trees]);have g2:=hb.good ⟨l,r2,k2⟩ (by simp[F.trees]);obtain⟨top,low,c0,X,c5⟩:=dQ it (Tr.mk A r2 k1) (Tr.mk l r2 k2);rw[c0] at H5 ⊢;have i:GT true it top/\top.r=r2:=by rcases X with ⟨rfl,rfl⟩|⟨rfl,rfl⟩ <;> exact⟨by assumption,rfl⟩
    have y:GT true it low/\low.r=r2:=by rcases X with ⟨rfl,rfl⟩|⟨rfl,rfl⟩ <;> exact⟨by assumption,rfl⟩
    have I:(F.cells (.cons A r2 k1 (.cons l r2 k2 f2))).Perm (top.c::(low.cells++(top.kids.cells++f2.cells))):=by
     rcases X with ⟨rfl,rfl⟩|⟨rfl,rfl⟩ <;> refine cpm fun p=>?_ <;> simp only[F.cells,Tr.cells,List.countP_append,List.countP_cons,List.cons_append] <;> omega
    have hn:(c::(top.c::(low.cells++(top.kids.cells++f2.cells)))).Nodup:=by
     have h1:=H.nd;rw[List.map_append,List.map_append,y0,<- aA] at h1;have h2:=(List.nodup_append.1 h1).1;have h3:((Tr.mk c 0 .nil).nd u w).map Nd.c=[c]:=by simp[Tr.nd,nd]
     rw[h3] at h2;exact (List.Perm.nodup_iff (I.cons c)).1 h2
    obtain⟨b6,c6⟩:=List.nodup_cons.1 hn;obtain⟨c7,e8⟩:=List.nodup_cons.1 c6;have b2:c≠top.c:=fun e=>b6 (e ▸ List.mem_cons_self ..)
    have fin:∀ (it':Nat->It) {O:Nat} {j:zb},Hp κ O j it' (⟨c,u,-1,-1,w,0,0⟩::⟨top.c,-1,low.c,-1,wt,((r2+1:Nat):Int),0⟩::(nd (.cons low.c low.r low.kids top.kids) top.c++(nd f2 (-1)++N))) L->O<=n+27 ->
      (∀ d,d≠c->d≠top.c->it' d=it d) -> ¬ (it' c).lt (it' top.c) -> ¬ (it top.c).lt (it' top.c)->((c::F.cells (.cons A r2 k1 (.cons l r2 k2 f2))).map it').Perm ((c::F.cells (.cons A r2 k1 (.cons l r2 k2 f2))).map it) ->
      Do ((uv j (c:Int) (top.c:Int)).bind fun d2=>(zx d2 (top.c:Int) 3 f2.hd).bind fun b7=>some ((top.c:Int),b7.2)) fun r=>∃ x it' j,r=(x.hd,j)/\Hp κ (n+32) j it' (nd x (-1)++N) L/\HB true it' x/\x.cells.Perm (c::F.cells (.cons A r2 k1 (.cons l r2 k2 f2)))/\((c::F.cells (.cons A r2 k1 (.cons l r2 k2 f2))).map it').Perm ((c::F.cells (.cons A r2 k1 (.cons l r2 k2 f2))).map it) /\ ∀ d,d ∉ c::F.cells (.cons A r2 k1 (.cons l r2 k2 f2))->it' d=it d:=by
     intro it' O j K e7 hA hB hC hD;have c4:low.c < κ.C:=K.lt (ν:=⟨low.c,top.c,low.kids.hd,-1,top.kids.hd,low.r,0⟩) (by simp[nd]);refine (m6 K (by simp only;omega) (by simp only;omega)).bind ?_;intro a6 K1;have K2:=K1.p (List.Perm.swap ..);refine (K2.set ⟨top.c,-1,c,-1,f2.hd,((r2+1:Nat):Int),0⟩).bind ?_;rintro _ ⟨a7,rfl,K3⟩;have z:∀ d∈low.cells++(top.kids.cells++f2.cells),d≠c/\d≠top.c:=fun d hd=>⟨fun e=>b6 (e ▸ mC _ hd),fun e=>c7 (e ▸ hd)⟩
     have c3:∀ d∈F.cells (.cons low.c low.r low.kids top.kids),it' d=it d:=fun d hd=>by
      have:d∈low.cells++(top.kids.cells++f2.cells):=by
       rw[F.cells] at hd;rcases List.mem_cons.1 hd with rfl|hd
       ·exact mL _ (List.mem_cons_self ..)
       ·rcases List.mem_append.1 hd with hd|hd
        ·exact mL _ (mC _ hd)
        ·exact List.mem_append_right _ (mL _ hd)
      exact hA d (z d this).1 (z d this).2
     have b1:HB true it f2:=by
      refine⟨fun t ht=>hb.good t (by simp[F.trees,ht]),?_⟩;have:=(List.pairwise_cons.1 J).2;exact fD.of this
     have U:HB true it' f2:=b1.congr fun d hd=>by
      have:d∈low.cells++(top.kids.cells++f2.cells):=List.mem_append_right _ (List.mem_append_right _ hd);exact hA d (z d this).1 (z d this).2
     have a0:=i.1.under y.1 (by rw[y.2,i.2]) c5;refine⟨_,rfl,.cons top.c (r2+1) (.cons c 0 .nil (.cons low.c low.r low.kids top.kids)) f2,it',a7,rfl,?_,⟨?_,?_⟩,?_,hD,?_⟩
     ·refine Hp.mono (n:=O+4+1) (Hp.p K3 (npm fun p=>?_)) (by omega);simp only[nd,eh,ck,(show ((0:Nat):Int)=0 from rfl),List.countP_append,List.countP_cons,List.nil_append];omega
     ·intro t ht;rw[F.trees] at ht;rcases List.mem_cons.1 ht with rfl|ht
      ·refine⟨?_,?_⟩
       ·have h1:=y.1.sk;have h2:=i.1.sk;rw[y.2] at h1 ⊢;rw[i.2] at h2;exact SK.leaf rfl h1 h2
       ·have h3:Ord it' (nd (.cons low.c low.r low.kids top.kids) (top.c:Int)):=iG a0.ord c3 hC;intro ν Y q hq;rw[nd] at Y;rcases List.mem_cons.1 Y with rfl|Y
        ·simp only at hq ⊢;have:q=top.c:=by omega
         subst this;exact hB
        ·exact h3 ν Y q hq
      ·exact U.good t ht
     ·refine⟨(List.pairwise_cons.1 J).2,fun s hs=>?_,fun h=>by cases h⟩;have:=(List.pairwise_cons.1 J).1 s hs;simp only at this ⊢;omega
     ·refine List.Perm.trans ?_ (I.cons c).symm;refine cpm fun p=>?_
      simp only[F.cells,Tr.cells,List.countP_append,List.countP_cons,List.cons_append,List.nil_append,List.countP_nil];omega
     ·intro d hd;have W:d ∉ c::(top.c::(low.cells++(top.kids.cells++f2.cells))):=fun h=>hd ((I.cons c).mem_iff.2 h)
      simp only[iC,not_or] at W;exact hA d W.1 W.2.1
    have H6:Hp κ (n+15) a5 it (⟨c,u,-1,-1,w,0,0⟩::⟨top.c,-1,low.c,-1,wt,((r2+1:Nat):Int),0⟩::(nd (.cons low.c low.r low.kids top.kids) top.c++(nd f2 (-1)++N))) L:=H5.p (npm fun p=>by
     simp only[Tr.nd,Tr.under,i.2,nd,eh,ck,(show ((0:Nat):Int)=0 from rfl),List.countP_append,List.countP_cons,List.nil_append,List.countP_nil];omega)
    refine (H6.before (k:=k) hk (List.mem_cons_self ..) (mC _ (List.mem_cons_self ..))).bind ?_;rintro _ ⟨a6,rfl,H7⟩;by_cases B:(it c).lt (it top.c)
    ·refine Do.tb (dT B) ?_;refine Do.assoc ((qw H7).bind ?_);intro a7 H8;refine Do.seq rfl ?_;refine fin (swp it c top.c) H8 (by omega) (fun d h1 h2=>kN it h1 h2) ?_ ?_ (iM ?_ (List.mem_cons_self ..) ?_ b2)
     ·rw[de it b2,df];exact It.lt_asymm B
     ·rw[df];exact It.lt_asymm B
     ·exact (List.Perm.nodup_iff (I.cons c)).2 hn
     ·exact (I.cons c).mem_iff.2 (mC _ (List.mem_cons_self ..))
    ·refine Do.fb (dF B) ?_;refine Do.seq rfl ?_;exact fin it H7 (by omega) (fun _ _ _=>rfl) B (It.lt_irrefl _) (.refl _)
   ·refine Do.seq rfl (Do.t (by simp;omega) ?_);refine alone ?_ (by omega) Z;simp only[F.trees];refine List.pairwise_cons.2 ⟨fun s hs=>?_,J⟩;rcases List.mem_cons.1 hs with rfl|hs
    ·simp only;omega
    ·have:=(List.pairwise_cons.1 J).1 s hs;simp only at this ⊢;omega
def zer (ls:List Lt):List Lt:=ls.filter fun l=>l.t.r == 0
def pos (ls:List Lt):List Lt:=ls.filter fun l=>!(l.t.r == 0)
theorem dr (ls:List Lt):(pos ls++zer ls).Perm ls:=by
 have:=List.filter_append_perm (fun l:Lt=>!(l.t.r == 0)) ls;have e:zer ls=ls.filter fun l=>!(!(l.t.r == 0)):=by unfold zer;congr 1;funext l;simp
 rw[e];exact this
theorem m8 (v_:Int)(all:List Lt)(A:∀ l∈all,l.top∈N)(hl:all.length<100000)(rest:List Int)(hr:rest.length<100000):∀ (post pre:List Lt) {n:Nat}{a:zb} (H:Hp κ n a it N L) (m:Nat),post.length<m->all=pre++post ->
  Do (xP (all.length:Int) (lc all) v_ m (rest++lc (pos pre)) (lc (zer pre)) (pre.length:Int) a) fun r=>∃ x,r=(rest++lc (pos all),lc (zer all),x)/\Hp κ (n+post.length) x it N L
 | [],pre,n,a,H,m,hm,e=>by
  obtain⟨m,rfl⟩:∃ q,m=q+1:=⟨m - 1,by simp at hm;omega⟩
  rw[xP];refine Do.f (dF (by rw[e];simp)) ?_;have:pre=all:=by rw[e];simp
  subst this;exact⟨_,rfl,a,rfl,H⟩
 | l::post,pre,n,a,H,m,hm,e=>by
  obtain⟨m,rfl⟩:∃ q,m=q+1:=⟨m - 1,by simp at hm;omega⟩
  simp only[lC] at hm;have hlen:pre.length<100000:=by have:=congrArg List.length e;simp at this;omega
  have hz:(zer pre).length<=pre.length:=List.length_filter_le ..;have F:(pos pre).length<=pre.length:=List.length_filter_le ..;have D:mIdx (lc all) (pre.length:Int)=some (l.t.c:Int):=by
   rw[e,wP,lD];have:=yr (lc pre) (lc post) (l.t.c:Int)
   rwa [w7] at this
  rw[xP];refine Do.t (dT (by rw[e];simp;omega)) ?_;refine Do.assoc (Do.seq D ?_);refine Do.assoc ((H.get (A l (by rw[e];simp)) (f:=4) (v:=(l.t.r:Int))).bind ?_);rintro _ ⟨a1,rfl,H1⟩;have:=m8 v_ all A hl rest hr post (pre++[l]) H1 m (by omega) (by rw[e];simp);have B:((pre++[l]).length:Int)=(pre.length:Int)+1:=by simp
  rw[B] at this;have z:zer (pre++[l])=zer pre++zer [l]:=List.filter_append ..;have y:pos (pre++[l])=pos pre++pos [l]:=List.filter_append ..;by_cases h0:l.t.r=0
  ·refine Do.tb (by simp[h0]) ?_;refine Do.assoc (Do.seq (y4 (by rw[w7];simp;omega)) ?_);refine Do.seq rfl ?_;rw[zP (by omega) (by omega)];have j:zer [l]=[l]:=by simp[zer,h0]
   have u:pos [l]=[]:=by simp[pos,h0]
   rw[z,y,j,u,aN,wP] at this;refine this.mono ?_;rintro _ ⟨a2,rfl,i⟩;exact⟨a2,rfl,i.mono (by simp only[lC];omega)⟩
  ·refine Do.fb (by simp[h0]) ?_;refine Do.assoc (Do.seq (y4 (by rw[lA,w7];simp;omega)) ?_);refine Do.seq rfl ?_;rw[zP (by omega) (by omega)];have j:zer [l]=[]:=by simp[zer,h0]
   have u:pos [l]=[l]:=by simp[pos,h0]
   rw[z,y,j,u,aN,wP,<- aA] at this;refine this.mono ?_;rintro _ ⟨a2,rfl,i⟩;exact⟨a2,rfl,i.mono (by simp only[lC];omega)⟩
theorem m9 (i:Int)(all:List Lt)(hl:all.length<50)(S:Nat)(hS:S<1024):∀ (post pre:List Lt) (f:F) {it:Nat->It}{n:Nat}{a:zb} (H:Hp κ n a it (LN post++(nd f (-1)++N)) L) (m:Nat),post.length+3<m->all=pre++post->HB true it f->(∀ l∈post,l.t.r=0/\l.t.kids = .nil)->f.size+post.length<=S ->
  Do (xQ i (all.length:Int) (lc all) m f.hd (pre.length:Int) a) fun r=>∃ I it' a',r=(I.hd,a')/\Hp κ (n+32*post.length) a' it' (nd I (-1)++N) L/\HB true it' I/\I.cells.Perm (TC (post.map Lt.t)++f.cells)/\((TC (post.map Lt.t)++f.cells).map it').Perm ((TC (post.map Lt.t)++f.cells).map it) /\ ∀ d,d ∉ TC (post.map Lt.t)++f.cells->it' d=it d
 | [],pre,f,it,n,a,H,m,hm,e,J,hz,B=>by
  obtain⟨m,rfl⟩:∃ q,m=q+1:=⟨m - 1,by simp at hm;omega⟩
  rw[xQ];refine Do.f (dF (by rw[e];simp)) ?_;exact⟨_,rfl,f,it,a,rfl,H,J,by simp[TC],by simp[TC],fun _ _=>rfl⟩
 | l::post,pre,f,it,n,a,H,m,hm,e,J,hz,B=>by
  obtain⟨m,rfl⟩:∃ q,m=q+1:=⟨m - 1,by simp at hm;omega⟩
  simp only[lC] at hm B;have hlen:pre.length<100000:=by have:=congrArg List.length e;simp at this;omega
  have ei:mIdx (lc all) (pre.length:Int)=some (l.t.c:Int):=by
   rw[e,wP,lD];have:=yr (lc pre) (lc post) (l.t.c:Int)
   rwa [w7] at this
  rw[xQ];refine Do.t (dT (by rw[e];simp;omega)) ?_;refine Do.seq ei ?_;obtain⟨⟨c,r,kids⟩,u,w⟩:=l;obtain⟨h0,h1⟩:=hz _ (List.mem_cons_self ..);simp only at h0 h1;subst h0 h1;have H1:Hp κ n a it ((Tr.mk c 0 .nil).nd u w++(nd f (-1)++(LN post++N))) L:=H.p (npm fun p=>by
   simp only[tK,Lt.nd,List.countP_append];omega)
  have hR:f.size<2 ^ 10:=by simp;omega
  refine (nC (k:=m) (by omega) H1 J (fun t ht=>by have:=J.lt hR t ht;omega)).bind ?_;rintro _ ⟨f1,x,a1,rfl,H2,U,z,a3,A⟩;rw[zP (by omega) (by omega)];have H3:Hp κ (n+32) a1 x (LN post++(nd f1 (-1)++N)) L:=H2.p (npm fun p=>by
   simp only[List.countP_append];omega)
  have b7:f1.size=f.size+1:=by rw[<- F.wT,z.length_eq,lC,F.wT]
  have:=m9 i all hl S hS post (pre++[⟨⟨c,0,.nil⟩,u,w⟩]) f1 H3 m (by omega) (by rw[e];simp) U (fun l hl=>hz l (mC _ hl)) (by omega);have e2:((pre++[(⟨⟨c,0,.nil⟩,u,w⟩:Lt)]).length:Int)=(pre.length:Int)+1:=by simp
  rw[e2] at this;refine this.mono ?_;rintro _ ⟨f2,D,a2,rfl,H4,W,X,a4,a0⟩;have y:TC ((((⟨⟨c,0,.nil⟩,u,w⟩:Lt)::post)).map Lt.t)=c::TC (post.map Lt.t):=by simp[rJ,Tr.cells,F.cells]
  rw[y];have j:(TC (post.map Lt.t)++f1.cells).Perm (c::TC (post.map Lt.t)++f.cells):=by
   refine (z.append_left _).trans ?_;exact List.perm_middle
  have hnd:∀ d∈TC (post.map Lt.t),d ∉ c::f.cells:=fun d hd Z=>by
   have O:=H1.nd;rw[List.map_append,List.map_append,List.map_append,y0,jW] at O;have h6:((Tr.mk c 0 .nil).nd u w).map Nd.c=[c]:=by simp[Tr.nd,nd]
   rw[h6] at O;have h7:((c::f.cells)++(TC (post.map Lt.t)++N.map Nd.c)).Nodup:=by
    simpa using O
   exact (List.nodup_append.1 h7).2.2 d Z d (mL _ hd) rfl
  refine⟨f2,D,a2,rfl,H4.mono (by simp only[lC];omega),W,X.trans j,?_,?_⟩
  ·refine (j.map D).symm.trans (a4.trans ?_);refine (j.map x).trans ?_;have h8:(c::TC (post.map Lt.t)++f.cells).Perm (TC (post.map Lt.t)++(c::f.cells)):=List.perm_middle.symm;refine (h8.map x).trans (List.Perm.trans ?_ (h8.map it).symm);rw[List.map_append,List.map_append];have h9:(TC (post.map Lt.t)).map x=(TC (post.map Lt.t)).map it:=List.map_congr_left fun d hd=>A d (hnd d hd)
   rw[h9];exact a3.append_left _
  ·intro d hd;have Y:d ∉ TC (post.map Lt.t)++f1.cells:=fun h=>hd (j.mem_iff.1 h)
   rw[a0 d Y];refine A d fun h=>hd ?_
   rcases List.mem_cons.1 h with rfl|h
   ·exact mL _ (List.mem_cons_self ..)
   ·exact List.mem_append_right _ h
theorem aj {b:Bool}{g:F}(h:SK b g 0):g = .nil:=by cases h;rfl
theorem AG:∀ {f:F}{r:Nat},SK true f r->(f.trees.filter fun t=>!(t.r == 0)).length<=r/\(f.trees.filter fun t=>t.r == 0).length<=r+1:=by
 intro f r h;induction h with
 | nil=>simp[F.trees]
 | @real c r kids rest h1 h2 i1 i2 =>
  simp only[F.trees,List.filter_cons];cases r with
  | zero =>
   have hr:rest = .nil:=by cases h2;rfl
   subst hr;simp[F.trees]
  | succ r=>simp;omega
 | @leaf d c r kids rest e h1 h2 i1 i2 =>
  simp only[F.trees,List.filter_cons];cases r with
  | zero =>
   have hr:rest = .nil:=by cases h2;rfl
   subst hr;simp[F.trees]
  | succ r=>simp;omega
theorem th {k:Nat}{f:F}{p q:List Tr}{t:Tr}(H:Hp κ n a it (nd f (-1)++N) L)(e:f.trees=p++t::q)(hp:(t.c:Int) ∉ cs p)(hq:(t.c:Int) ∉ cs q)
  (hg:∀ s∈p++q,GT true it s) (Z:∀ s∈t.kids.trees,GT true it s) (D:SK true t.kids t.r) (B:(p++q).length<=10) (d1:t.r<=10) (b0:f.size<1024) (hk:95000<k) :
  Do (wW k a (cs f.trees) (t.c:Int)) fun r=>∃ y it' a',r=(y.hd,((it t.c).i:Int),a')/\Hp κ (n+700) a' it' (nd y (-1)++N) (((it t.c).i,(it t.c).cell (-1))::L)/\HB true it' y/\y.cells.Perm (TC (p++q)++t.kids.cells)/\((TC (p++q)++t.kids.cells).map it').Perm ((TC (p++q)++t.kids.cells).map it) /\ ∀ d,d ∉ TC (p++q)++t.kids.cells->it' d=it d:=by
 unfold wW;have a9:=sy H;have b4:=H.cap;have A:=B;rw[lA] at A;have b7:=(db D).1;obtain⟨b5,b8⟩:=AG D;rw[e,kf];refine Do.seq (tL (cs p) (cs q) (t.c:Int) hp hq (by simp[cs];omega) (by simp[cs];omega)) ?_;obtain⟨p',u,w,hl,rfl,rfl⟩:=qF (f:=f) (up:=-1) e;have hN:nd f (-1)=LN p'++((⟨t,-1,w⟩:Lt).top::(nd t.kids t.c++LN u)):=by
  rw[wM,hl,wN,tK,l6];simp
 have H1:Hp κ n a it ((⟨t,-1,w⟩:Lt).top::(LN (p'++u++t.kids.loose t.c)++N)) L:=H.p (npm fun P=>by
  rw[hN];simp only[wN,<- wM,List.countP_append,List.countP_cons];omega)
 have d0:=t.kids.vn;have d2:t.kids.size+1<=f.size:=qa (f:=f) (by rw[e];simp);have a0:∀ μ ∈ nd t.kids t.c,μ ∈ (⟨t,-1,w⟩:Lt).top::(LN (p'++u++t.kids.loose t.c)++N):=fun μ hμ=>by
  refine mC _ (mL _ ?_);rw[wN,<- wM];exact List.mem_append_right _ hμ
 refine (km (k:=k) (f:=t.kids) H1 (List.mem_cons_self ..) rfl a0 (by omega) (by omega)).bind ?_;rintro _ ⟨a1,rfl,H2⟩;have ek:cs t.kids.trees=lc (t.kids.loose t.c):=by simp only[lc,xo]
 have c7:(t.kids.loose t.c).length=t.kids.len:=by unfold F.len;rw[<- xo t.kids t.c];simp
 have S:cs (p'.map Lt.t)++cs (u.map Lt.t)=lc (p'++u):=by rw[wP];rfl
 have b6:(p'++u).length<=10:=by simpa using B
 have z:∀ l∈t.kids.loose t.c,l.top∈(⟨t,-1,w⟩:Lt).top::(LN (p'++u++t.kids.loose t.c)++N):=fun l hl=>by
  refine mC _ (mL _ (nG ?_));exact List.mem_append_right _ hl
 have h0:=m8 (t.c:Int) (t.kids.loose t.c) z (by omega) (lc (p'++u)) (by rw[w7];omega) (t.kids.loose t.c) [] H2 k (by omega) rfl;simp only[ek,S];rw[w7];have e0:lc (p'++u)++lc (pos [])=lc (p'++u):=by simp[pos,lc,cs]
 rw[e0] at h0;refine h0.bind ?_;rintro _ ⟨a2,rfl,H3⟩;refine (rv H3).bind ?_;rintro _ ⟨a3,rfl,H4⟩;have ec:lc (p'++u)++lc (pos (t.kids.loose t.c))=lc (p'++u++pos (t.kids.loose t.c)):=(wP _ _).symm;have a8:(pos (t.kids.loose t.c)).length<=t.r:=by
  have:(pos (t.kids.loose t.c)).length=(t.kids.trees.filter fun t=>!(t.r == 0)).length:=by
   rw[<- xo t.kids t.c,List.filter_map,lM];rfl
  omega
 have b2:(zer (t.kids.loose t.c)).length<=t.r+1:=by
  have:(zer (t.kids.loose t.c)).length=(t.kids.trees.filter fun t=>t.r == 0).length:=by
   rw[<- xo t.kids t.c,List.filter_map,lM];rfl
  omega
 have U:(LN (p'++u++t.kids.loose t.c)++N).Perm (LN (p'++u++pos (t.kids.loose t.c))++(LN (zer (t.kids.loose t.c))++N)):=by
  have h1:=jo (dr (t.kids.loose t.c));rw[wN] at h1;refine npm fun P=>?_
  have:=h1.countP_eq P;simp only[wN,List.countP_append] at this ⊢;omega
 have H5:=Hp.p H4 U;have x:∀ l∈t.kids.loose t.c,GT true it l.t:=uT Z;simp only[ec];refine (sN (b:=true) (k:=k) (by omega) (p'++u++pos (t.kids.loose t.c)) (by rw[lA];omega) H5 (by
  intro l hl;rcases List.mem_append.1 hl with hl|hl
  ·refine hg l.t ?_;rw[<- List.map_append];exact List.mem_map_of_mem hl
  ·exact x l (List.mem_filter.1 hl).1)).bind ?_
 rintro _ ⟨y,a4,rfl,H6,g1,g2,g3⟩;have H7:Hp κ _ a4 it (LN (zer (t.kids.loose t.c))++(nd y (-1)++N)) _:=H6.p (npm fun P=>by simp only[List.countP_append];omega);have J:∀ l∈zer (t.kids.loose t.c),l.t.r=0/\l.t.kids = .nil:=by
  intro l hl;obtain⟨h1,h2⟩:=List.mem_filter.1 hl;have h3:l.t.r=0:=by simpa using h2
  refine⟨h3,?_⟩;have h4:=(x l h1).sk;rw[h3] at h4;exact aj h4
 have b1:(TC ((zer (t.kids.loose t.c)).map Lt.t)).length=(zer (t.kids.loose t.c)).length:=by
  have:∀ ls:List Lt,(∀ l∈ls,l.t.r=0/\l.t.kids = .nil)->(TC (ls.map Lt.t)).length=ls.length:=by
   intro ls;induction ls with
   | nil=>intro _;rfl
   | cons l ls ih =>
    intro h;rw[pC,rJ,lA,ih fun l hl=>h l (mC _ hl)];simp[Tr.cells,(h l (List.mem_cons_self ..)).2,F.cells];omega
  exact this _ J
 have j:(TC ((zer (t.kids.loose t.c)).map Lt.t)++y.cells).Perm (TC (p'.map Lt.t++u.map Lt.t)++t.kids.cells):=by
  have h1:=fE ((dr (t.kids.loose t.c)).map Lt.t);rw[List.map_append,vU,xo,<- F.yS] at h1;refine cpm fun P=>?_
  have h2:=h1.countP_eq P;have h3:=g3.countP_eq P;simp only[List.map_append,vU,List.countP_append] at h2 h3 ⊢;omega
 have Y:=(sP e).length_eq;rw[F.wT,lC] at Y;have I:=j.length_eq;rw[lA,b1,F.wT] at I;have h1:=m9 ((it t.c).i:Int) (zer (t.kids.loose t.c)) (by omega) f.size b0 (zer (t.kids.loose t.c)) [] y H7 k (by omega) rfl ⟨g1,.of g2⟩ J (by omega);rw[w7];refine h1.bind ?_;rintro _ ⟨f2,O,a5,rfl,H8,W,X,a7,a6⟩;refine⟨_,rfl,f2,O,a5,rfl,H8.mono ?_,W,X.trans j,(j.map O).symm.trans (a7.trans (j.map it)),fun d hd=>a6 d fun h=>hd (j.mem_iff.1 h)⟩;rw[lA];omega
theorem lO {k:Nat}{f:F}(H:Hp κ n a it (nd f (-1)++N) L)(y:HB true it f)(A:f ≠ .nil)(hs:f.size<1024)(hk:95000<k) :
  Do (pM k a f.hd) fun r=>∃ c x it' I,r=(x.hd,((it c).i:Int),I)/\Hp κ (n+900) I it' (nd x (-1)++N) (((it c).i,(it c).cell (-1))::L)/\HB true it' x/\(f.cells.map it).Perm (it c::x.cells.map it')/\(∀ d,d ∉ f.cells->it' d=it d)/\c∈f.cells /\ ∀ d∈f.cells,¬ (it d).lt (it c):=by
 unfold pM;have j:∀ ν ∈ nd f (-1),ν ∈ nd f (-1)++N:=fun ν h=>mL _ h
 have B:=sy H;have U:=f.vn;have O:=H.cap;have J:f.size<2 ^ 10:=by simpa using hs
 have hlen:=y.len J;cases ef:f.trees with
 | nil =>
  cases f with
  | nil=>exact absurd rfl A
  | cons=>simp[F.trees] at ef
 | cons t0 Y =>
  have u:yb a f.hd=some true:=by
   cases f with
   | nil=>exact absurd rfl A
   | cons c r kids rest=>exact H.live (j _ (List.mem_cons_self ..))
  refine Do.assoc (Do.seq u ?_);refine Do.seq rfl (Do.f rfl ?_);refine (vE (k:=k) H j (by omega) (by omega)).bind ?_;rintro _ ⟨a1,rfl,H1⟩;refine (qT (k:=k) H1 j y ef hk (by omega)).bind ?_;rintro _ ⟨t,a2,ht,rfl,D,z⟩;obtain⟨p,q,e,hp,hq⟩:=qn D ht;have X:=y.lt J t ht;have W:(p++q).length+1=f.len:=by unfold F.len;rw[e];simp;omega
  refine (th (k:=k) D e hp hq (fun s hs=>y.good s (by rw[e];rcases List.mem_append.1 hs with h|h <;> simp[h])) (y.good t ht).kids (y.good t ht).sk (by omega) (by omega) hs hk).bind ?_;rintro _ ⟨x,it',a3,rfl,S,h1,h2,h3,h4⟩;have l:=sP e;refine⟨_,rfl,t.c,x,it',a3,rfl,S.mono (by omega),h1,?_,fun d hd=>h4 d fun h=>hd (l.mem_iff.2 (mC _ h)),l.mem_iff.2 (List.mem_cons_self ..),z⟩;refine (l.map it).trans ?_;rw[pC];exact (h3.symm.trans (h2.symm.map it')).cons _
theorem nr {k:Nat}{f:F}{x:It}(H:Hp κ n a it (nd f (-1)++N) ((x.i,x.cell (-1))::L))(D:HB true it f)(hs:f.size<1024)(hr:2*f.size+2*N.length+1+L.length < κ.C)(hk:95000<k) :
  Do (rZ k a f.hd (x.i:Int)) fun r=>∃ j it' B,r=(j.hd,true,B)/\Hp κ (n+500) B it' (nd j (-1)++N) L/\HB true it' j/\(j.cells.map it').Perm (x::f.cells.map it) /\ ∀ ν ∈ N,it' ν.c=it ν.c:=by
 unfold rZ;have S:f.size<2 ^ 10:=by simpa using hs
 refine (ry H (by rw[lA,rR];omega)).bind ?_;rintro _ ⟨c,a1,rfl,H1,I⟩;refine Do.f rfl ?_;have l:c ∉ f.cells:=fun h=>by
  obtain⟨ν,y,e⟩:=sO (up:=-1) h;exact I ν (mL _ y) e
 have A:HB true (upd it c x) f:=D.congr fun d hd=>vv _ _ (fun e=>l (e ▸ hd))
 have J:Hp κ (n+3) a1 (upd it c x) ((Tr.mk c 0 .nil).nd (-1) (-1)++(nd f (-1)++N)) L:=H1;refine (nC (k:=k) (by omega) J A (fun t ht=>by have:=D.lt S t ht;omega)).bind ?_;rintro _ ⟨j,it',a2,rfl,O,h1,h2,h3,h4⟩;refine⟨_,rfl,j,it',a2,rfl,O.mono (by omega),h1,?_,fun ν y=>?_⟩
 ·refine (h2.map it').trans (h3.trans ?_);rw[pC,uj,List.map_congr_left (f:=upd it c x) (g:=it) fun d hd=>vv _ _ fun e=>l (e ▸ hd)]
 ·have u:=I ν (List.mem_append_right _ y);rw[h4 ν.c ?_,vv _ _ u];intro hm;rcases List.mem_cons.1 hm with z|z
  ·exact u z
  ·have:=H.nd;rw[List.map_append,y0] at this;exact (List.nodup_append.1 this).2.2 _ z _ (List.mem_map_of_mem y) rfl
theorem uK {k:Nat}{f g:F}(H:Hp κ n a it (nd f (-1)++(nd g (-1)++N)) L)(hf:HB true it f)(B:HB true it g)(hs:f.size<256)(hs':g.size<256)(hk:95000<k) :
  Do (rY k a f.hd g.hd) fun r=>∃ u z,r=(u.hd,z)/\Hp κ (n+500) z it (nd u (-1)++N) L/\HB true it u/\u.cells.Perm (f.cells++g.cells):=by
 unfold rY;have j:=sy H;rw[lA,rR] at j;have W:=f.vn;have D:=g.vn;have A:=H.cap;have hlen:=hf.len (R:=8) (by simpa using hs);have i:=B.len (R:=8) (by simpa using hs');by_cases e:f.hd=g.hd
 ·have:f = .nil/\g = .nil:=by
   cases f with
   | nil =>
    cases g with
    | nil=>exact⟨rfl,rfl⟩
    | cons c r kids rest=>simp only[F.hd] at e;omega
   | cons c r kids rest =>
    cases g with
    | nil=>simp only[F.hd] at e;omega
    | cons c' r' x y =>
     simp only[F.hd] at e;have hn:=H.nd;have:c=c':=by omega
     subst this;rw[nd,List.cons_append,pC,List.nodup_cons] at hn;exact absurd (by simp[nd]) hn.1
  obtain⟨rfl,rfl⟩:=this;refine Do.t (by simp) ?_;exact⟨_,rfl,.nil,a,rfl,H.mono (by omega),HB.nil,.refl _⟩
 ·refine Do.f (by simpa using e) ?_;refine (vE (k:=k) H (fun ν h=>mL _ h) (by omega) (by omega)).bind ?_;rintro _ ⟨a1,rfl,H1⟩;refine (vE (k:=k) H1 (fun ν h=>List.mem_append_right _ (mL _ h)) (by omega) (by omega)).bind ?_;rintro _ ⟨a2,rfl,I⟩;refine Do.seq (y4 (by simp[cs] at *;unfold F.len at hlen i;omega)) ?_;have S:cs f.trees++cs g.trees=lc (f.loose (-1)++g.loose (-1)):=by
   rw[wP,lc,lc,xo,xo]
  have J:Hp κ (n+f.len+g.len) a2 it (LN (f.loose (-1)++g.loose (-1))++N) L:=by
   rw[wN,<- wM,<- wM,aA];exact I
  have U:(f.loose (-1)++g.loose (-1)).length=f.len+g.len:=by
   unfold F.len;rw[<- xo f (-1),<- xo g (-1)];simp
  simp only[S];refine (sN (b:=true) (k:=k) (by omega) _ (by omega) J (by
   intro l hl;rcases List.mem_append.1 hl with hl|hl
   ·exact uT hf.good l hl
   ·exact uT B.good l hl)).bind ?_
  rintro _ ⟨u,a3,rfl,O,g1,g2,g3⟩;refine⟨_,rfl,u,a3,rfl,O.mono (by omega),⟨g1,.of g2⟩,g3.trans ?_⟩;rw[List.map_append,vU,xo,xo,<- F.yS,<- F.yS]
theorem u3 {k:Nat}{f:F}{c:Nat}(H:Hp κ n a it (nd f (-1)++N) L)(j:HB true it f)(hc:c∈f.cells)(hs:f.size<1024)(hk:95000<k) :
  Do (pH k a f.hd ((it c).i:Int)) fun r=>∃ it' l U,r=(l.hd,U)/\Hp κ (n+900) U it' (nd l (-1)++N) (((it c).i,(it c).cell (-1))::L)/\HB true it' l/\(∀ d,d ∉ f.cells->it' d=it d)/\(f.cells.map it).Perm (it c::l.cells.map it')/\(∀ d∈l.cells,d∈f.cells):=by
 unfold pH vD;obtain⟨ν,A,rfl⟩:=sO (up:=-1) hc;have mν:ν ∈ nd f (-1)++N:=mL _ A;have b6:=ly H;have x:0<f.size:=by
  rw[<- F.wT];exact List.length_pos_of_mem hc
 have I:=sy H;have b3:=f.vn;have a5:=H.cap;have D:f.size<2 ^ 10:=by simpa using hs
 have hlen:=j.len D;obtain⟨R,h1,h2,h3⟩:=size_le (b:=true) H x fun t ht=>(j.good t ht).sk
 have b2:=h3 10 D;refine Do.assoc ((Ar.cell H (H.item mν) (f:=9) (v:=(ν.c:Int)) rfl (by omega) (by have:=H.lt mν;omega)).bind ?_);rintro _ ⟨a1,rfl,H1⟩;refine Do.seq rfl ?_;refine Do.f (by simp) ?_;have:=pF (k:=k) true (nd f (-1)) j.upOK R (fun ν A=>by
  obtain⟨t,ht,e⟩:=oh f (-1) (fun t ht=>(j.good t ht).sk) ν A;have:=h1 t ht;omega) (N:=N) (L:=L) H1 ν A (by omega) h2 j.ord.any
 refine this.bind ?_;rintro _ ⟨μ,it',a2,rfl,hμ,H2,B,W,X,_,e5⟩;obtain⟨J,Z⟩:=e5 rfl;rw[y0] at W X;obtain⟨t,ht,et⟩:=eR (fun t ht=>(j.good t ht).sk) hμ J;have y:∀ ν ∈ nd f (-1),ν ∈ nd f (-1)++N:=fun ν h=>mL _ h
 refine (vE (k:=k) H2 y (by omega) (by omega)).bind ?_;rintro _ ⟨a3,rfl,O⟩;rw[et] at Z B ⊢;refine Do.seq (qV (cs f.trees) (t.c:Int) (by rw[qW];unfold F.len at hlen;omega) (by rw[qW];unfold F.len at hlen;omega) (List.mem_map.2 ⟨t,ht,rfl⟩)) ?_;refine Do.f rfl ?_;obtain⟨p,q,e,hp,hq⟩:=qn O ht;have hn:f.cells.Nodup:=by
  have:=H.nd;rw[List.map_append,y0] at this;exact (List.nodup_append.1 this).1
 obtain⟨g1,g2⟩:=kG hn j e Z;have b5:=j.lt D t ht;have b4:(p++q).length+1=f.len:=by unfold F.len;rw[e];simp;omega
 refine (th (k:=k) O e hp hq g1 g2 (j.good t ht).sk (by omega) (by omega) hs hk).bind ?_;rintro _ ⟨l,z,a4,rfl,S,h4,Y,h6,h7⟩;rw[B] at S;have u:=sP e;refine⟨_,rfl,z,l,a4,rfl,S.mono (by omega),h4,fun d hd=>?_,?_,fun d hd=>u.mem_iff.2 (mC _ (Y.mem_iff.1 hd))⟩
 ·rw[h7 d fun h=>hd (u.mem_iff.2 (mC _ h)),W d hd]
 ·refine X.symm.trans ?_;have:=u.map it';rw[pC,B] at this;exact this.trans ((h6.symm.trans (Y.symm.map z)).cons _)
end Sk
end
end
noncomputable section
set_option maxRecDepth 10000
namespace Sk
def KH:KS:=fun it M r=>∃ f:F,M=nd f (-1)/\r=f.hd/\HB true it f
section
variable {κ:Cfg} {n:Nat} {a:zb} {L:Heap} {r:Int} {its:List It} {C:Heap}
theorem yj {it:Nat->It}(f:F)(u:Int):((nd f u).map fun ν=>it ν.c)=f.cells.map it:=by rw[<- y0 f u,List.map_map];rfl
theorem um {it:Nat->It}{f:F}(h:its.Perm ((nd f (-1)).map fun ν=>it ν.c)):its.length=f.size:=by rw[h.length_eq,lM,rR]
theorem eH:HK KH (-1) [] []:=⟨fun _=>⟨0,0,0⟩,[],⟨.nil,rfl,rfl,HB.nil⟩,.refl _,.refl _⟩
theorem kB {k:Nat}{x:It}(h:HK KH r its C)(H:Ar κ n a (C++((x.i,x.cell (-1))::L)))(hr:2*its.length+1+L.length < κ.C)(hs:its.length<1024)(hk:95000<k) :
  Do (rZ k a r (x.i:Int)) fun res=>∃ r' C' e,res=(r',true,e)/\HK KH r' (x::its) C'/\Ar κ (n+500) e (C'++L):=by
 obtain⟨it,M,⟨f,rfl,rfl,u⟩,hC,j⟩:=h;have hl:=um j;have t:Hp κ n a it (nd f (-1)++[]) ((x.i,x.cell (-1))::L):=by rw[aN];exact Ar.p H (hC.append_right _)
 refine (nr t u (by omega) (by simp only[List.length_nil];omega) hk).mono ?_;rintro _ ⟨l,it',e,rfl,H1,h1,h2,-⟩;rw[aN] at H1;refine⟨l.hd,_,e,rfl,⟨it',_,⟨l,rfl,rfl,h1⟩,.refl _,?_⟩,H1⟩;rw[yj] at j ⊢;exact (j.cons x).trans h2.symm
theorem eE {k:Nat}(h:HK KH r its C)(H:Ar κ n a (C++L))(hs:its.length<1024)(hk:95000<k):Do (pJ k a r) fun res=>∃ e,Ar κ (n+100) e (C++L)/\((its=[]/\res=(-1,e)) \/ ∃ x∈its,res=((x.i:Int),e) /\ ∀ y∈its,¬ y.lt x):=by
 obtain⟨it,M,⟨f,rfl,rfl,l⟩,hC,j⟩:=h;have hl:=um j;have t:Hp κ n a it (nd f (-1)++[]) L:=by rw[aN];exact Ar.p H (hC.append_right _)
 have hlen:=l.len (R:=10) (by omega);refine (lI t l hk).mono ?_;rintro res ⟨e,H1,h1⟩;rw[aN] at H1;rw[yj] at j;refine⟨e,Ar.mono (Ar.p H1 (hC.append_right _).symm) (by omega),?_⟩;rcases h1 with ⟨rfl,rfl⟩|⟨c,u,rfl,h2⟩
 ·exact Or.inl ⟨j.eq_nil,rfl⟩
 ·refine Or.inr ⟨it c,j.mem_iff.2 (List.mem_map_of_mem u),rfl,fun y z=>?_⟩;obtain⟨d,hd,rfl⟩:=List.mem_map.1 (j.mem_iff.1 z);exact h2 d hd
theorem eM {k:Nat}(h:HK KH r its C)(H:Ar κ n a (C++L))(t:its≠[])(hs:its.length<1024)(hk:95000<k) :
  Do (pM k a r) fun res=>∃ x q r' C' j,res=(r',(x.i:Int),j)/\its.Perm (x::q)/\(∀ y∈its,¬ y.lt x)/\HK KH r' q C'/\Ar κ (n+900) j (C'++((x.i,x.cell (-1))::L)):=by
 obtain⟨it,M,⟨f,rfl,rfl,z⟩,hC,e⟩:=h;have hl:=um e;have u:Hp κ n a it (nd f (-1)++[]) L:=by rw[aN];exact Ar.p H (hC.append_right _)
 rw[yj] at e;have hf:f ≠ .nil:=by rintro rfl;exact t e.eq_nil
 refine (lO u z hf (by omega) hk).mono ?_;rintro _ ⟨c,l,it',j,rfl,H1,h1,h2,-,B,h3⟩;rw[aN] at H1;refine⟨it c,l.cells.map it',l.hd,_,j,rfl,e.trans h2,fun y A=>?_,⟨it',_,⟨l,rfl,rfl,h1⟩,.refl _,by rw[yj]⟩,H1⟩;obtain⟨d,hd,rfl⟩:=List.mem_map.1 (e.mem_iff.1 A);exact h3 d hd
theorem fP {k:Nat}{x:It}(h:HK KH r its C)(z:x∈its)(H:Ar κ n a (C++L))(hs:its.length<1024)(hk:95000<k) :
  Do (pH k a r (x.i:Int)) fun res=>∃ q r' C' e,res=(r',e)/\its.Perm (x::q)/\HK KH r' q C'/\Ar κ (n+900) e (C'++((x.i,x.cell (-1))::L)):=by
 obtain⟨it,M,⟨f,rfl,rfl,y⟩,hC,j⟩:=h;have hl:=um j;have t:Hp κ n a it (nd f (-1)++[]) L:=by rw[aN];exact Ar.p H (hC.append_right _)
 rw[yj] at j;obtain⟨c,u,rfl⟩:=List.mem_map.1 (j.mem_iff.1 z);refine (u3 t y u (by omega) hk).mono ?_;rintro _ ⟨it',l,e,rfl,H1,h1,-,h2,-⟩;rw[aN] at H1;exact⟨l.cells.map it',l.hd,_,e,rfl,j.trans h2,⟨it',_,⟨l,rfl,rfl,h1⟩,.refl _,by rw[yj]⟩,H1⟩
theorem kj {k:Nat}{x y:It}(h:HL KH r its x y C)(hi:y.i=x.i)(u:¬ x.lt y)(H:Ar κ n a (C++L))(hs:its.length<1024)(hk:95000<k) :
  Do (rX k a r (y.i:Int)) fun res=>∃ r' q C' j,res=(r',j)/\its.Perm (x::q)/\HK KH r' (y::q) C'/\Ar κ (n+150) j (C'++L):=by
 obtain⟨it,M,ν,⟨f,rfl,rfl,D⟩,B,rfl,hC,A⟩:=h;have hl:=um A;have z:Hp κ n a (upd it ν.c y) (nd f (-1)++[]) L:=by rw[aN];exact Ar.p H (hC.append_right _)
 have hn:=z.nd;rw[aN] at hn;obtain⟨q,t,e⟩:=jD (y:=y) hn B rfl;have l:ν.c∈f.cells:=by rw[<- y0 f (-1)];exact List.mem_map_of_mem B
 refine (o4 z D l u (by omega) (Q:=10) (by omega) (by omega)).mono ?_;rintro _ ⟨it',j,rfl,H1,h1,-,h2⟩;rw[aN] at H1;refine⟨f.hd,q,_,j,rfl,A.trans t,⟨it',_,⟨f,rfl,rfl,h1⟩,.refl _,?_⟩,Ar.mono H1 (by omega)⟩;rw[yj] at e ⊢;exact e.symm.trans h2.symm
theorem ku {k:Nat}{s:Int}{e:List It}{C':Heap}(h:HK KH r its C)(X:HK KH s e C')(H:Ar κ n a (C++(C'++L)))(hs:its.length<256)(hs':e.length<256)(hk:95000<k) :
  Do (rY k a r s) fun res=>∃ t u S,res=(t,S)/\HK KH t (its++e) u/\Ar κ (n+500) S (u++L):=by
 obtain⟨it,M,⟨t,rfl,rfl,Z⟩,hC,B⟩:=h;obtain⟨it',M',⟨i,rfl,rfl,F⟩,x,l⟩:=X;have hl:=um B;have Y:=um l;rw[yj] at B l;have y:∀ d∈t.cells,d ∉ i.cells:=by
  have hn:=Ar.nodup H;have h1:=((((hC.append ((x).append_right L)).map Prod.fst)).nodup_iff).1 hn;rw[List.map_append,List.map_append] at h1;intro d hd D;have z:d∈(lay it (nd t (-1))).map Prod.fst:=((su it (nd t (-1))).mem_iff).2 (mL _ (by rw[y0];exact hd));have A:d∈(lay it' (nd i (-1))).map Prod.fst:=((su it' (nd i (-1))).mem_iff).2 (mL _ (by rw[y0];exact D));exact (List.nodup_append.1 h1).2.2 d z d (mL _ A) rfl
 let j:Nat->It:=fun d=>if d∈t.cells then it d else it' d
 have J:∀ d∈t.cells,j d=it d:=fun d hd=>if_pos hd
 have O:∀ d∈i.cells,j d=it' d:=fun d hd=>if_neg fun h=>y d h hd
 have z:lay j (nd t (-1))=lay it (nd t (-1)):=vX fun ν I=>J _ (by rw[<- y0 t (-1)];exact List.mem_map_of_mem I)
 have A:lay j (nd i (-1))=lay it' (nd i (-1)):=vX fun ν I=>O _ (by rw[<- y0 i (-1)];exact List.mem_map_of_mem I)
 have W:Hp κ n a j (nd t (-1)++(nd i (-1)++[])) L:=by
  unfold Hp;rw[aN,p8,z,A,aA];exact Ar.p H (hC.append (x.append_right L))
 refine (uK W (Z.congr J) (F.congr O) (by omega) (by omega) hk).mono ?_;rintro _ ⟨U,a1,rfl,H1,h1,h2⟩;rw[aN] at H1;refine⟨U.hd,_,a1,rfl,⟨j,_,⟨U,rfl,rfl,h1⟩,.refl _,?_⟩,H1⟩;rw[yj];have h3:=(h2.map j).symm;rw[List.map_append] at h3;have f1:t.cells.map j=t.cells.map it:=List.map_congr_left J;have f2:i.cells.map j=i.cells.map it':=List.map_congr_left O;rw[f1,f2] at h3;exact (B.append l).trans h3
end
end Sk
end
noncomputable section
set_option maxRecDepth 10000
section
variable {K V:Type} {eq:K->K->Bool}
theorem kr (hq:∀ a b,eq a b=true ↔ a=b){k:K}:∀ {m:List (K × V)},k ∉ m.map Prod.fst->mGet eq k m=none
 | [],_=>rfl
 | p::m,h=>by
  simp only[pC,iC,not_or] at h;rw[mGet,show eq k p.1=false by simpa using fun e=>h.1 ((hq _ _).1 e),cF];exact kr hq h.2
theorem rq (hq:∀ a b,eq a b=true ↔ a=b){k:K}{v:V}{s:K}{u:V}:∀ {m:List (K × V)},mGet eq s (mPut eq k v m)=some u ↔ (s=k/\u=v) \/ (s≠k/\mGet eq s m=some u)
 | []=>by
  simp only[mPut,mGet];cases i:eq s k with
  | true=>have:=(hq _ _).1 i;simp[this,eq_comm]
  | false =>
   have:s≠k:=fun e=>by rw[(hq _ _).2 e] at i;cases i
   simp[this]
 | p::m=>by
  rw[mPut];cases hk:eq k p.1 with
  | true =>
   have l:=(hq _ _).1 hk;rw[cT,mGet,mGet];cases i:eq s k with
   | true=>have:=(hq _ _).1 i;simp[this,eq_comm]
   | false =>
    have j:s≠k:=fun e=>by rw[(hq _ _).2 e] at i;cases i
    have:eq s p.1=false:=by rw[<- l];exact i
    simp[j,this]
  | false =>
   rw[cF,mGet,mGet];cases i:eq s p.1 with
   | true =>
    have l:=(hq _ _).1 i;have j:s≠k:=fun e=>by rw[<- l,(hq _ _).2 e.symm] at hk;cases hk
    simp[j]
   | false =>
    rw[cF,cF];exact rq hq
theorem tT (hq:∀ a b,eq a b=true ↔ a=b){k:K}{v:V}:∀ {m:List (K × V)},(m.map Prod.fst).Nodup->((mPut eq k v m).map Prod.fst).Nodup
 | [],_=>by simp[mPut]
 | p::m,h=>by
  simp only[pC,List.nodup_cons] at h;rw[mPut];cases hk:eq k p.1 with
  | true =>
   have j:=(hq _ _).1 hk;rw[cT];simp only[pC,List.nodup_cons];rw[j];exact h
  | false =>
   rw[cF];simp only[pC,List.nodup_cons];refine⟨fun hm=>?_,tT hq h.2⟩;have key:∀ {m:List (K × V)} {s:K},s∈(mPut eq k v m).map Prod.fst->s=k \/ s∈m.map Prod.fst:=by
    intro m;induction m with
    | nil=>intro s hs;simp[mPut] at hs;exact Or.inl hs
    | cons q m ih =>
     intro s hs;rw[mPut] at hs;cases i:eq k q.1 with
     | true =>
      rw[i,cT] at hs;simp only[pC,iC] at hs ⊢;rcases hs with h|h
      ·exact Or.inl h
      ·exact Or.inr (Or.inr h)
     | false =>
      rw[i,cF] at hs;simp only[pC,iC] at hs ⊢;rcases hs with h|h
      ·exact Or.inr (Or.inl h)
      ·rcases ih h with h|h
       ·exact Or.inl h
       ·exact Or.inr (Or.inr h)
   rcases key hm with e|e
   ·rw[(hq _ _).2 e.symm] at hk;cases hk
   ·exact h.1 e
theorem iB {k s:K}:∀ {m:List (K × V)},s∈(mDel eq k m).map Prod.fst->s∈m.map Prod.fst
 | [],h=>h
 | p::m,h=>by
  rw[mDel] at h;cases hk:eq k p.1 with
  | true=>rw[hk,cT] at h;exact mC _ h
  | false =>
   rw[hk,cF] at h;simp only[pC,iC] at h ⊢;rcases h with h|h
   ·exact Or.inl h
   ·exact Or.inr (iB h)
theorem sV {k:K}:∀ {m:List (K × V)},(m.map Prod.fst).Nodup->((mDel eq k m).map Prod.fst).Nodup
 | [],h=>h
 | p::m,h=>by
  simp only[pC,List.nodup_cons] at h;rw[mDel];cases hk:eq k p.1 with
  | true=>exact h.2
  | false =>
   simp only[cF,pC,List.nodup_cons];exact⟨fun hm=>h.1 (iB hm),sV h.2⟩
theorem qh (hq:∀ a b,eq a b=true ↔ a=b){k s:K}{u:V}:∀ {m:List (K × V)},(m.map Prod.fst).Nodup->(mGet eq s (mDel eq k m)=some u ↔ s≠k/\mGet eq s m=some u)
 | [],_=>by simp[mDel,mGet]
 | p::m,h=>by
  simp only[pC,List.nodup_cons] at h;rw[mDel,mGet];cases hk:eq k p.1 with
  | true =>
   have i:=(hq _ _).1 hk;rw[cT];by_cases hs:s=k
   ·subst hs;rw[kr hq (by rw[i];exact h.1)];simp
   ·have:eq s p.1=false:=by rw[<- i];simpa using fun e=>hs ((hq _ _).1 e)
    simp[this,hs]
  | false =>
   rw[cF,mGet];cases l:eq s p.1 with
   | true =>
    have i:=(hq _ _).1 l;have j:s≠k:=fun e=>by rw[<- i,(hq _ _).2 e.symm] at hk;cases hk
    simp[j]
   | false =>
    rw[cF,cF];exact qh hq h.2
end
theorem vZ (a b:ze):ze.eq a b=true ↔ a=b:=by
 cases a;cases b;simp[ze.eq]
theorem bP (a b:Int):kI a b=true ↔ a=b:=by simp[kI]
def Kd (k:Int):Prop:=k=1 \/ k=2 \/ k=3
def KD (k:Int):KS:=if k=1 then Le.KL else if k=2 then Bi.KH else Sk.KH
def bd (k:Int)(m:Nat):Nat:=if k=1 then 43*m+50 else 900
section
variable {κ:Cfg} {n:Nat} {a:zb} {L:Heap} {k r:Int} {its:List It} {C:Heap} {f:Nat}
theorem BB (hk:Kd k):HK (KD k) (-1) [] []:=by
 rcases hk with rfl|rfl|rfl
 ·exact Le.eH
 ·exact Bi.eH
 ·exact Sk.eH
theorem Aq {x:It}(hk:Kd k)(h:HK (KD k) r its C)(H:Ar κ n a (C++((x.i,x.cell (-1))::L)))(hr:2*its.length+1+L.length < κ.C)(hs:its.length<1024)(hf:95000<f) :
  Do (pd f k a r (x.i:Int)) fun res=>∃ r' C' e,res=(r',true,e)/\HK (KD k) r' (x::its) C'/\Ar κ (n+bd k its.length) e (C'++L):=by
 unfold pd;rcases hk with rfl|rfl|rfl
 ·refine Do.t rfl ((Le.kB (k:=f) h H hr (by omega)).bind ?_);rintro _ ⟨r',C',e,rfl,h1,H1⟩;exact⟨_,rfl,r',C',e,rfl,h1,H1.mono (by simp only[bd,if_true];omega)⟩
 ·refine Do.f rfl (Do.t rfl ((Bi.kB (k:=f) h H hr hs hf).bind ?_));rintro _ ⟨r',C',e,rfl,h1,H1⟩;exact⟨_,rfl,r',C',e,rfl,h1,H1.mono (by simp[bd])⟩
 ·refine Do.f rfl (Do.f rfl (Do.t rfl ((Sk.kB (k:=f) h H hr hs hf).bind ?_)));rintro _ ⟨r',C',e,rfl,h1,H1⟩;exact⟨_,rfl,r',C',e,rfl,h1,H1.mono (by simp[bd])⟩
theorem BA (hk:Kd k)(h:HK (KD k) r its C)(H:Ar κ n a (C++L))(hs:its.length<1024)(hf:95000<f) :
  Do (oG f k a r) fun res=>∃ e,Ar κ (n+100) e (C++L)/\((its=[]/\res=(-1,e)) \/ ∃ x∈its,res=((x.i:Int),e) /\ ∀ y∈its,¬ y.lt x):=by
 unfold oG;rcases hk with rfl|rfl|rfl
 ·refine Do.t rfl ((Le.eE h H).bind ?_);rintro⟨v,b⟩ ⟨e,H1,h1⟩;exact⟨_,rfl,e,H1.mono (by omega),h1⟩
 ·refine Do.f rfl (Do.t rfl ((Bi.eE (k:=f) h H hs hf).bind ?_));rintro⟨v,b⟩ ⟨e,H1,h1⟩;exact⟨_,rfl,e,H1,h1⟩
 ·refine Do.f rfl (Do.f rfl (Do.t rfl ((Sk.eE (k:=f) h H hs hf).bind ?_)));rintro⟨v,b⟩ ⟨e,H1,h1⟩;exact⟨_,rfl,e,H1,h1⟩
theorem BC (hk:Kd k)(h:HK (KD k) r its C)(H:Ar κ n a (C++L))(j:its≠[])(hs:its.length<1024)(hf:95000<f) :
  Do (oH f k a r) fun res=>∃ x q r' C' e,res=(r',(x.i:Int),e)/\its.Perm (x::q)/\(∀ y∈its,¬ y.lt x)/\HK (KD k) r' q C'/\Ar κ (n+bd k its.length) e (C'++((x.i,x.cell (-1))::L)):=by
 unfold oH;rcases hk with rfl|rfl|rfl
 ·refine Do.t rfl ((Le.eM (k:=f) h H j (by omega)).bind ?_);rintro _ ⟨x,q,r',C',e,rfl,h1,h2,h3,H1⟩;exact⟨_,rfl,x,q,r',C',e,rfl,h1,h2,h3,H1.mono (by simp only[bd,if_true];omega)⟩
 ·refine Do.f rfl (Do.t rfl ((Bi.eM (k:=f) h H j hs hf).bind ?_));rintro _ ⟨x,q,r',C',e,rfl,h1,h2,h3,H1⟩;exact⟨_,rfl,x,q,r',C',e,rfl,h1,h2,h3,H1.mono (by simp[bd])⟩
 ·refine Do.f rfl (Do.f rfl (Do.t rfl ((Sk.eM (k:=f) h H j hs hf).bind ?_)));rintro _ ⟨x,q,r',C',e,rfl,h1,h2,h3,H1⟩;exact⟨_,rfl,x,q,r',C',e,rfl,h1,h2,h3,H1.mono (by simp[bd])⟩
theorem Bz {x:It}(hk:Kd k)(h:HK (KD k) r its C)(j:x∈its)(H:Ar κ n a (C++L))(hs:its.length<1024)(hf:95000<f) :
  Do (oF f k a r (x.i:Int)) fun res=>∃ q r' C' e,res=(r',e)/\its.Perm (x::q)/\HK (KD k) r' q C'/\Ar κ (n+bd k its.length) e (C'++((x.i,x.cell (-1))::L)):=by
 unfold oF;rcases hk with rfl|rfl|rfl
 ·refine Do.t rfl ((Le.fP (k:=f) h j H (by omega)).bind ?_);rintro _ ⟨q,r',C',e,rfl,h1,h3,H1⟩;exact⟨_,rfl,q,r',C',e,rfl,h1,h3,H1.mono (by simp only[bd,if_true];omega)⟩
 ·refine Do.f rfl (Do.t rfl ((Bi.fP (k:=f) h j H hs hf).bind ?_));rintro _ ⟨q,r',C',e,rfl,h1,h3,H1⟩;exact⟨_,rfl,q,r',C',e,rfl,h1,h3,H1.mono (by simp[bd])⟩
 ·refine Do.f rfl (Do.f rfl (Do.t rfl ((Sk.fP (k:=f) h j H hs hf).bind ?_)));rintro _ ⟨q,r',C',e,rfl,h1,h3,H1⟩;exact⟨_,rfl,q,r',C',e,rfl,h1,h3,H1.mono (by simp[bd])⟩
theorem Ao {x y:It}(hk:Kd k)(h:HL (KD k) r its x y C)(hi:y.i=x.i)(j:¬ x.lt y)(H:Ar κ n a (C++L))(hs:its.length<1024)(hf:95000<f) :
  Do (q8 f k a r (y.i:Int)) fun res=>∃ r' q C' e,res=(r',e)/\its.Perm (x::q)/\HK (KD k) r' (y::q) C'/\Ar κ (n+bd k its.length) e (C'++L):=by
 unfold q8;rcases hk with rfl|rfl|rfl
 ·refine Do.t rfl ((Le.kj (k:=f) h hi j H (by omega)).bind ?_);rintro _ ⟨r',q,C',e,rfl,h1,h3,H1⟩;exact⟨_,rfl,r',q,C',e,rfl,h1,h3,H1.mono (by simp only[bd,if_true];omega)⟩
 ·refine Do.f rfl (Do.t rfl ((Bi.kj (k:=f) h hi j H hs hf).bind ?_));rintro _ ⟨r',q,C',e,rfl,h1,h3,H1⟩;exact⟨_,rfl,r',q,C',e,rfl,h1,h3,H1.mono (by simp[bd])⟩
 ·refine Do.f rfl (Do.f rfl (Do.t rfl ((Sk.kj (k:=f) h hi j H hs hf).bind ?_)));rintro _ ⟨r',q,C',e,rfl,h1,h3,H1⟩;exact⟨_,rfl,r',q,C',e,rfl,h1,h3,H1.mono (by simp[bd])⟩
theorem Ap {s:Int}{i:List It}{C':Heap}(hk:Kd k)(h:HK (KD k) r its C)(l:HK (KD k) s i C')(H:Ar κ n a (C++(C'++L)))(hs:its.length<256)(hs':i.length<256)(hf:95000<f) :
  Do (q9 f k a r s) fun res=>∃ t e j,res=(t,j)/\HK (KD k) t (its++i) e/\Ar κ (n+bd k (its.length+i.length)) j (e++L):=by
 unfold q9;rcases hk with rfl|rfl|rfl
 ·refine Do.t rfl ((Le.ku (k:=f) h l H (by omega)).bind ?_);rintro _ ⟨t,e,j,rfl,h1,H1⟩;exact⟨_,rfl,t,e,j,rfl,h1,H1.mono (by simp only[bd,if_true];omega)⟩
 ·refine Do.f rfl (Do.t rfl ((Bi.ku (k:=f) h l H hs hs' hf).bind ?_));rintro _ ⟨t,e,j,rfl,h1,H1⟩;exact⟨_,rfl,t,e,j,rfl,h1,H1.mono (by simp[bd])⟩
 ·refine Do.f rfl (Do.f rfl (Do.t rfl ((Sk.ku (k:=f) h l H hs hs' hf).bind ?_)));rintro _ ⟨t,e,j,rfl,h1,H1⟩;exact⟨_,rfl,t,e,j,rfl,h1,H1.mono (by simp[bd])⟩
end
end
noncomputable section
set_option maxRecDepth 10000
namespace Ph
structure Inv (p:zg) (T:Nat):Prop where
 most:0<=p.most/\p.most<=65536
 len:(p.l.length:Int)<=p.most
 fre:∀ f∈p.free,∃ (j:Nat) (x:zu),f=(j:Int)/\p.l[j]? = some x/\x.taken=false
 fnd:p.free.Nodup
 cov:∀ (j:Nat) (x:zu),p.l[j]? = some x->x.taken=false->(j:Int)∈p.free
 gen:∀ (j:Nat) (x:zu),p.l[j]? = some x->1<=x.gen/\x.gen<=T
def Live (p:zg)(r:ze)(v:zB):Prop:=∃ j:Nat,r.At=(j:Int)/\p.l[j]? = some ⟨r.Gen,true,v⟩
section
variable {p:zg} {T:Nat} {r:ze} {v:zB}
theorem Live.idx (h:Live p r v):mIdx p.l r.At=some ⟨r.Gen,true,v⟩:=by
 obtain⟨j,e,h⟩:=h;rw[e,yl];exact h
theorem Live.uniq {w:zB}(h:Live p r v)(j:Live p r w):v=w:=by
 have i:=h.idx;have e:=j.idx;rw[i] at e;simp only[Option.some.injEq,zu.mk.injEq,true_and] at e;exact e
theorem Inv.flen (I:Inv p T):p.free.length<=p.l.length:=by
 have h1:(p.free.map Int.toNat).Nodup:=List.pairwise_map.2 (I.fnd.imp_of_mem fun {x y} u z t e=>by
  obtain⟨i,_,rfl,_⟩:=I.fre x u;obtain⟨j,_,rfl,_⟩:=I.fre y z;simp only[tN] at e;exact t (by rw[e]))
 have h2:=rT (m:=List.range p.l.length) h1 fun x u=>by
  obtain⟨f,hf,rfl⟩:=List.mem_map.1 u;obtain⟨j,y,rfl,hj,_⟩:=I.fre f hf;simp only[tN,List.mem_range];exact (List.getElem?_eq_some_iff.1 hj).1
 simpa using h2
theorem wq (I:Inv p T)(h:Live p r v):yL p r=some (some r.At,0):=by
 have hi:=h.idx;obtain⟨j,e,h⟩:=h;have i:=I.gen _ _ h;simp only at i;have hl:=(List.getElem?_eq_some_iff.1 h).1;unfold yL;rw[dF (by omega),dF (by omega),dF (by omega),hi];simp
theorem wL (I:Inv p T)(h:Live p r v):ym p r=some (v,0):=by
 unfold ym;rw[wq I h];simp[tm,oS,h.idx]
theorem rD (I:Inv p T)(h:Live p r v)(w:zB):xl p r w=some (0,zg.mk p.most (mSet p.l r.At ⟨r.Gen,true,w⟩) p.free):=by
 unfold xl;rw[wq I h];simp[tm,oS,h.idx]
theorem sR (I:Inv p T)(h:Live p r v):xH p r=some (v,0,zg.mk p.most (mSet p.l r.At ⟨r.Gen,false,(zB.mk 0 0 0)⟩) (p.free++[r.At])):=by
 have e:=I.flen;have h1:=I.len;have h2:=I.most;unfold xH;rw[wq I h];simp only[bS,tm,oS,h.idx];rw[y4 (by simp only[List.length_singleton];omega)];simp[mSet]
theorem s7 (I:Inv p T)(u:T<4611686018427387904){fs:List Int}{j:Nat}{x:zu}(hf:p.free=fs++[(j:Int)])(hj:p.l[j]? = some x) :
  yy p v=some (ze.mk (j:Int) (x.gen+1),true,zg.mk p.most (mSet p.l (j:Int) ⟨x.gen+1,true,v⟩) fs):=by
 have y:=I.gen _ _ hj;have t:fs.length<1000000:=by
  have h0:=I.flen;rw[hf] at h0;simp only[lA,List.length_singleton] at h0;have:=I.len;have:=I.most;omega
 have hw:w64 (((fs++[(j:Int)]).length:Int) - 1)=(fs.length:Int):=by
  rw[zP] <;> simp <;> omega
 have i:mIdx (fs++[(j:Int)]) (fs.length:Int)=some (j:Int):=yr fs [] (j:Int);have e:mCut (fs++[(j:Int)]) 0 (fs.length:Int)=some fs:=by
  unfold mCut;rw[if_pos ⟨by omega,by omega,by simp;omega⟩];simp
 unfold yy;rw[hf,hw,dT (by omega)];simp only[cT,i,e,bS];rw[yl,hj];simp only[bS];rw[zP (by omega) (by omega)];simp[mSet]
theorem qo (I:Inv p T)(hf:p.free=[])(hl:(p.l.length:Int)<p.most) :
  yy p v=some (ze.mk (p.l.length:Int) 1,true,zg.mk p.most (p.l++[⟨1,true,v⟩]) []):=by
 have:=I.most;unfold yy;rw[hf];rw[show w64 ((([]:List Int).length:Int) - 1) = -1 by rw[zP] <;> simp];rw[dF (by omega)];simp only[cF];rw[dF (by omega)];simp only[cF];rw[y4 (by simp only[List.length_singleton];omega)];simp only[bS];rw[yr];simp only[bS];rw[show w64 (0+1)=1 by rw[zP] <;> simp];simp[mSet]
theorem yA {l:List zu}{j i:Nat}{x y:zu}(h:l[j]? = some y):(l.set j x)[i]? = if i=j then some x else l[i]?:=by
 have:=(List.getElem?_eq_some_iff.1 h).1;by_cases e:i=j
 ·subst e;rw[if_pos rfl,List.getElem?_set_self this]
 ·rw[if_neg e,getD_set_ne (fun h=>e h.symm)]
theorem rC (I:Inv p T)(h:Live p r v)(w:zB):Inv (zg.mk p.most (mSet p.l r.At ⟨r.Gen,true,w⟩) p.free) T:=by
 obtain⟨j,e,h⟩:=h;have u:=I.gen _ _ h;refine⟨I.most,by simpa[mSet] using I.len,fun f hf=>?_,I.fnd,fun i x t ht=>?_,fun i x t=>?_⟩
 ·obtain⟨i,x,rfl,hi,t⟩:=I.fre f hf;refine⟨i,x,rfl,?_,t⟩;simp only[mSet,e,tN];rw[yA h,if_neg];exact hi;rintro rfl;rw[h] at hi;cases hi;simp at t
 ·simp only[mSet,e,tN] at t;rw[yA h] at t;split at t
  ·cases t;simp at ht
  ·exact I.cov i x t ht
 ·simp only[mSet,e,tN] at t;rw[yA h] at t;split at t
  ·cases t;exact u
  ·exact I.gen i x t
theorem tB (h:Live p r v)(w:zB)(s:ze)(u:zB):Live (zg.mk p.most (mSet p.l r.At ⟨r.Gen,true,w⟩) p.free) s u ↔ (s=r/\u=w) \/ (s≠r/\Live p s u):=by
 obtain⟨j,e,h⟩:=h;constructor
 ·rintro⟨i,t,hi⟩;simp only[mSet,e,tN] at hi;rw[yA h] at hi;split at hi
  ·rename_i x;subst x;simp only[Option.some.injEq,zu.mk.injEq,true_and] at hi;refine Or.inl ⟨?_,hi.2.symm⟩;cases s;cases r;simp only at e t hi ⊢;rw[t,e,hi.1]
  ·rename_i x;refine Or.inr ⟨?_,i,t,hi⟩;rintro rfl;exact x (by omega)
 ·rintro (⟨rfl,rfl⟩|⟨y,i,t,hi⟩)
  ·refine⟨j,e,?_⟩;simp only[mSet,e,tN];rw[yA h,if_pos rfl]
  ·refine⟨i,t,?_⟩;simp only[mSet,e,tN];rw[yA h,if_neg];exact hi;rintro rfl;rw[h] at hi;simp only[Option.some.injEq,zu.mk.injEq,true_and] at hi;refine y ?_;cases s;cases r;simp only at e t hi ⊢;rw[t,e,hi.1]
theorem qZ (I:Inv p T)(h:Live p r v):Inv (zg.mk p.most (mSet p.l r.At ⟨r.Gen,false,(zB.mk 0 0 0)⟩) (p.free++[r.At])) T:=by
 obtain⟨j,e,h⟩:=h;have A:=I.gen _ _ h;have y:r.At ∉ p.free:=by
  intro hf;obtain⟨i,x,B,hi,t⟩:=I.fre _ hf;have:i=j:=by omega
  subst this;rw[h] at hi;cases hi;simp at t
 refine⟨I.most,by simpa[mSet] using I.len,fun f hf=>?_,?_,fun i x t ht=>?_,fun i x t=>?_⟩
 ·simp only[mSet,e,tN];rcases List.mem_append.1 hf with hf|hf
  ·obtain⟨i,x,rfl,hi,t⟩:=I.fre f hf;refine⟨i,x,rfl,?_,t⟩;rw[yA h,if_neg];exact hi;rintro rfl;rw[h] at hi;cases hi;simp at t
  ·rw[List.mem_singleton.1 hf,e];exact⟨j,_,rfl,by rw[yA h,if_pos rfl],rfl⟩
 ·exact List.nodup_append.2 ⟨I.fnd,by simp,fun a ha b z=>by rw[List.mem_singleton.1 z];rintro rfl;exact y ha⟩
 ·simp only[mSet,e,tN] at t;rw[yA h] at t;split at t
  ·rename_i u;subst u;exact List.mem_append_right _ (by rw[e];simp)
  ·exact mL _ (I.cov i x t ht)
 ·simp only[mSet,e,tN] at t;rw[yA h] at t;split at t
  ·cases t;exact A
  ·exact I.gen i x t
theorem rP (h:Live p r v)(s:ze)(u:zB):Live (zg.mk p.most (mSet p.l r.At ⟨r.Gen,false,(zB.mk 0 0 0)⟩) (p.free++[r.At])) s u ↔ s≠r/\Live p s u:=by
 obtain⟨j,e,h⟩:=h;constructor
 ·rintro⟨i,t,hi⟩;simp only[mSet,e,tN] at hi;rw[yA h] at hi;split at hi
  ·simp at hi
  ·rename_i x;refine⟨?_,i,t,hi⟩;rintro rfl;exact x (by omega)
 ·rintro⟨y,i,t,hi⟩;refine⟨i,t,?_⟩;simp only[mSet,e,tN];rw[yA h,if_neg];exact hi;rintro rfl;rw[h] at hi;simp only[Option.some.injEq,zu.mk.injEq,true_and] at hi;refine y ?_;cases s;cases r;simp only at e t hi ⊢;rw[t,e,hi.1]
theorem r8 (I:Inv p T)(W:T<4611686018427387904)(z:(p.l.length:Int)<p.most+p.free.length)(v:zB) :
  ∃ r p',yy p v=some (r,true,p')/\Inv p' (T+1)/\(∀ w,¬ Live p r w)/\(∀ s u,Live p' s u ↔ (s=r/\u=v) \/ Live p s u)/\p'.most=p.most/\(p'.l.length:Int) - p'.free.length=(p.l.length:Int) - p.free.length+1:=by
 rcases List.eq_nil_or_concat p.free with hf|⟨fs,f,hf⟩
 ·rw[hf] at z;refine⟨_,_,qo I hf (by simpa using z),⟨I.most,by simp at z ⊢;omega,by simp,by simp,?_,?_⟩,?_,?_,rfl,by rw[hf];simp⟩
  ·intro j x t ht;simp only at t;by_cases hj:j<p.l.length
   ·rw[List.getElem?_append_left hj] at t;have:=I.cov j x t ht;rw[hf] at this;simp at this
   ·rw[List.getElem?_append_right (by omega)] at t;by_cases e:j - p.l.length=0
    ·rw[e] at t;simp at t;subst t;simp at ht
    ·rw[List.getElem?_eq_none (by simp;omega)] at t;cases t
  ·intro j x t;simp only at t;by_cases hj:j<p.l.length
   ·rw[List.getElem?_append_left hj] at t;have:=I.gen j x t;omega
   ·rw[List.getElem?_append_right (by omega)] at t;by_cases e:j - p.l.length=0
    ·rw[e] at t;simp at t;subst t;simp;omega
    ·rw[List.getElem?_eq_none (by simp;omega)] at t;cases t
  ·rintro w ⟨j,e,h⟩;have:=(List.getElem?_eq_some_iff.1 h).1;simp only at e;omega
  ·intro s u;constructor
   ·rintro⟨j,e,h⟩;simp only at h;by_cases hj:j<p.l.length
    ·rw[List.getElem?_append_left hj] at h;exact Or.inr ⟨j,e,h⟩
    ·rw[List.getElem?_append_right (by omega)] at h;by_cases U:j - p.l.length=0
     ·rw[U] at h;simp at h;refine Or.inl ⟨?_,h.2.symm⟩;cases s;simp only at e h ⊢;rw[e,<- h.1];congr 1;omega
     ·rw[List.getElem?_eq_none (by simp;omega)] at h;cases h
   ·rintro (⟨rfl,rfl⟩|⟨j,e,h⟩)
    ·exact⟨p.l.length,rfl,by simp⟩
    ·have:=(List.getElem?_eq_some_iff.1 h).1;exact⟨j,e,by rw[List.getElem?_append_left this];exact h⟩
 ·rw[List.concat_eq_append] at hf;obtain⟨j,x,rfl,hj,ht⟩:=I.fre f (by rw[hf];simp);have X:=I.gen j x hj;have hn:=I.fnd;rw[hf] at hn;obtain⟨O,-,S⟩:=List.nodup_append.1 hn;have J:(j:Int) ∉ fs:=fun h=>S _ h _ (List.mem_singleton.2 rfl) rfl
  refine⟨_,_,s7 I W hf hj,⟨I.most,by simpa[mSet] using I.len,?_,O,?_,?_⟩,?_,?_,rfl,by rw[hf];simp[mSet];omega⟩
  ·intro f B;obtain⟨i,y,rfl,hi,A⟩:=I.fre f (by rw[hf];exact mL _ B);refine⟨i,y,rfl,?_,A⟩;simp only[mSet,tN];rw[yA hj,if_neg];exact hi;rintro rfl;exact J B
  ·intro i y A F;simp only[mSet,tN] at A;rw[yA hj] at A;split at A
   ·cases A;simp at F
   ·rename_i D;have:=I.cov i y A F;rw[hf] at this;rcases List.mem_append.1 this with h|h
    ·exact h
    ·simp at h;omega
  ·intro i y A;simp only[mSet,tN] at A;rw[yA hj] at A;split at A
   ·cases A;simp only;omega
   ·have:=I.gen i y A;omega
  ·rintro w ⟨i,e,h⟩;simp only at e h;have:i=j:=by omega
   subst this;rw[hj] at h;simp only[Option.some.injEq] at h;rw[h] at ht;simp at ht
  ·intro s u;constructor
   ·rintro⟨i,e,h⟩;simp only[mSet,tN] at h;rw[yA hj] at h;split at h
    ·rename_i D;subst D;simp only[Option.some.injEq,zu.mk.injEq,true_and] at h;refine Or.inl ⟨?_,h.2.symm⟩;cases s;simp only at e h ⊢;rw[e,<- h.1]
    ·exact Or.inr ⟨i,e,h⟩
   ·rintro (⟨rfl,rfl⟩|⟨i,e,h⟩)
    ·refine⟨j,rfl,?_⟩;simp only[mSet,tN];rw[yA hj,if_pos rfl]
    ·refine⟨i,e,?_⟩;simp only[mSet,tN];rw[yA hj,if_neg];exact h;rintro rfl;rw[hj] at h;simp only[Option.some.injEq] at h;rw[h] at ht;simp at ht
end
end Ph
end
noncomputable section
set_option maxRecDepth 10000
namespace Pt
structure Inv (p:zd) (T:Nat):Prop where
 most:0<=p.most/\p.most<=65536
 len:(p.l.length:Int)<=p.most
 fre:∀ f∈p.free,∃ (j:Nat) (x:zp),f=(j:Int)/\p.l[j]? = some x/\x.taken=false
 fnd:p.free.Nodup
 cov:∀ (j:Nat) (x:zp),p.l[j]? = some x->x.taken=false->(j:Int)∈p.free
 gen:∀ (j:Nat) (x:zp),p.l[j]? = some x->1<=x.gen/\x.gen<=T
def Live (p:zd)(r:ze)(v:zA):Prop:=∃ j:Nat,r.At=(j:Int)/\p.l[j]? = some ⟨r.Gen,true,v⟩
section
variable {p:zd} {T:Nat} {r:ze} {v:zA}
theorem Live.idx (h:Live p r v):mIdx p.l r.At=some ⟨r.Gen,true,v⟩:=by
 obtain⟨j,e,h⟩:=h;rw[e,yl];exact h
theorem Live.uniq {w:zA}(h:Live p r v)(j:Live p r w):v=w:=by
 have i:=h.idx;have e:=j.idx;rw[i] at e;simp only[Option.some.injEq,zp.mk.injEq,true_and] at e;exact e
theorem Inv.flen (I:Inv p T):p.free.length<=p.l.length:=by
 have h1:(p.free.map Int.toNat).Nodup:=List.pairwise_map.2 (I.fnd.imp_of_mem fun {x y} u z t e=>by
  obtain⟨i,_,rfl,_⟩:=I.fre x u;obtain⟨j,_,rfl,_⟩:=I.fre y z;simp only[tN] at e;exact t (by rw[e]))
 have h2:=rT (m:=List.range p.l.length) h1 fun x u=>by
  obtain⟨f,hf,rfl⟩:=List.mem_map.1 u;obtain⟨j,y,rfl,hj,_⟩:=I.fre f hf;simp only[tN,List.mem_range];exact (List.getElem?_eq_some_iff.1 hj).1
 simpa using h2
theorem wq (I:Inv p T)(h:Live p r v):yI p r=some (some r.At,0):=by
 have hi:=h.idx;obtain⟨j,e,h⟩:=h;have i:=I.gen _ _ h;simp only at i;have hl:=(List.getElem?_eq_some_iff.1 h).1;unfold yI;rw[dF (by omega),dF (by omega),dF (by omega),hi];simp
theorem wL (I:Inv p T)(h:Live p r v):ye p r=some (v,0):=by
 unfold ye;rw[wq I h];simp[tm,oS,h.idx]
theorem rD (I:Inv p T)(h:Live p r v)(w:zA):xJ p r w=some (0,zd.mk p.most (mSet p.l r.At ⟨r.Gen,true,w⟩) p.free):=by
 unfold xJ;rw[wq I h];simp[tm,oS,h.idx]
theorem sR (I:Inv p T)(h:Live p r v):xu p r=some (v,0,zd.mk p.most (mSet p.l r.At ⟨r.Gen,false,(zA.mk 0 (ze.mk 0 0))⟩) (p.free++[r.At])):=by
 have e:=I.flen;have h1:=I.len;have h2:=I.most;unfold xu;rw[wq I h];simp only[bS,tm,oS,h.idx];rw[y4 (by simp only[List.length_singleton];omega)];simp[mSet]
theorem s7 (I:Inv p T)(u:T<4611686018427387904){fs:List Int}{j:Nat}{x:zp}(hf:p.free=fs++[(j:Int)])(hj:p.l[j]? = some x) :
  yn p v=some (ze.mk (j:Int) (x.gen+1),true,zd.mk p.most (mSet p.l (j:Int) ⟨x.gen+1,true,v⟩) fs):=by
 have y:=I.gen _ _ hj;have t:fs.length<1000000:=by
  have h0:=I.flen;rw[hf] at h0;simp only[lA,List.length_singleton] at h0;have:=I.len;have:=I.most;omega
 have hw:w64 (((fs++[(j:Int)]).length:Int) - 1)=(fs.length:Int):=by
  rw[zP] <;> simp <;> omega
 have i:mIdx (fs++[(j:Int)]) (fs.length:Int)=some (j:Int):=yr fs [] (j:Int);have e:mCut (fs++[(j:Int)]) 0 (fs.length:Int)=some fs:=by
  unfold mCut;rw[if_pos ⟨by omega,by omega,by simp;omega⟩];simp
 unfold yn;rw[hf,hw,dT (by omega)];simp only[cT,i,e,bS];rw[yl,hj];simp only[bS];rw[zP (by omega) (by omega)];simp[mSet]
theorem qo (I:Inv p T)(hf:p.free=[])(hl:(p.l.length:Int)<p.most) :
  yn p v=some (ze.mk (p.l.length:Int) 1,true,zd.mk p.most (p.l++[⟨1,true,v⟩]) []):=by
 have:=I.most;unfold yn;rw[hf];rw[show w64 ((([]:List Int).length:Int) - 1) = -1 by rw[zP] <;> simp];rw[dF (by omega)];simp only[cF];rw[dF (by omega)];simp only[cF];rw[y4 (by simp only[List.length_singleton];omega)];simp only[bS];rw[yr];simp only[bS];rw[show w64 (0+1)=1 by rw[zP] <;> simp];simp[mSet]
theorem yA {l:List zp}{j i:Nat}{x y:zp}(h:l[j]? = some y):(l.set j x)[i]? = if i=j then some x else l[i]?:=by
 have:=(List.getElem?_eq_some_iff.1 h).1;by_cases e:i=j
 ·subst e;rw[if_pos rfl,List.getElem?_set_self this]
 ·rw[if_neg e,getD_set_ne (fun h=>e h.symm)]
theorem rC (I:Inv p T)(h:Live p r v)(w:zA):Inv (zd.mk p.most (mSet p.l r.At ⟨r.Gen,true,w⟩) p.free) T:=by
 obtain⟨j,e,h⟩:=h;have u:=I.gen _ _ h;refine⟨I.most,by simpa[mSet] using I.len,fun f hf=>?_,I.fnd,fun i x t ht=>?_,fun i x t=>?_⟩
 ·obtain⟨i,x,rfl,hi,t⟩:=I.fre f hf;refine⟨i,x,rfl,?_,t⟩;simp only[mSet,e,tN];rw[yA h,if_neg];exact hi;rintro rfl;rw[h] at hi;cases hi;simp at t
 ·simp only[mSet,e,tN] at t;rw[yA h] at t;split at t
  ·cases t;simp at ht
  ·exact I.cov i x t ht
 ·simp only[mSet,e,tN] at t;rw[yA h] at t;split at t
  ·cases t;exact u
  ·exact I.gen i x t
theorem tB (h:Live p r v)(w:zA)(s:ze)(u:zA):Live (zd.mk p.most (mSet p.l r.At ⟨r.Gen,true,w⟩) p.free) s u ↔ (s=r/\u=w) \/ (s≠r/\Live p s u):=by
 obtain⟨j,e,h⟩:=h;constructor
 ·rintro⟨i,t,hi⟩;simp only[mSet,e,tN] at hi;rw[yA h] at hi;split at hi
  ·rename_i x;subst x;simp only[Option.some.injEq,zp.mk.injEq,true_and] at hi;refine Or.inl ⟨?_,hi.2.symm⟩;cases s;cases r;simp only at e t hi ⊢;rw[t,e,hi.1]
  ·rename_i x;refine Or.inr ⟨?_,i,t,hi⟩;rintro rfl;exact x (by omega)
 ·rintro (⟨rfl,rfl⟩|⟨y,i,t,hi⟩)
  ·refine⟨j,e,?_⟩;simp only[mSet,e,tN];rw[yA h,if_pos rfl]
  ·refine⟨i,t,?_⟩;simp only[mSet,e,tN];rw[yA h,if_neg];exact hi;rintro rfl;rw[h] at hi;simp only[Option.some.injEq,zp.mk.injEq,true_and] at hi;refine y ?_;cases s;cases r;simp only at e t hi ⊢;rw[t,e,hi.1]
theorem qZ (I:Inv p T)(h:Live p r v):Inv (zd.mk p.most (mSet p.l r.At ⟨r.Gen,false,(zA.mk 0 (ze.mk 0 0))⟩) (p.free++[r.At])) T:=by
 obtain⟨j,e,h⟩:=h;have A:=I.gen _ _ h;have y:r.At ∉ p.free:=by
  intro hf;obtain⟨i,x,B,hi,t⟩:=I.fre _ hf;have:i=j:=by omega
  subst this;rw[h] at hi;cases hi;simp at t
 refine⟨I.most,by simpa[mSet] using I.len,fun f hf=>?_,?_,fun i x t ht=>?_,fun i x t=>?_⟩
 ·simp only[mSet,e,tN];rcases List.mem_append.1 hf with hf|hf
  ·obtain⟨i,x,rfl,hi,t⟩:=I.fre f hf;refine⟨i,x,rfl,?_,t⟩;rw[yA h,if_neg];exact hi;rintro rfl;rw[h] at hi;cases hi;simp at t
  ·rw[List.mem_singleton.1 hf,e];exact⟨j,_,rfl,by rw[yA h,if_pos rfl],rfl⟩
 ·exact List.nodup_append.2 ⟨I.fnd,by simp,fun a ha b z=>by rw[List.mem_singleton.1 z];rintro rfl;exact y ha⟩
 ·simp only[mSet,e,tN] at t;rw[yA h] at t;split at t
  ·rename_i u;subst u;exact List.mem_append_right _ (by rw[e];simp)
  ·exact mL _ (I.cov i x t ht)
 ·simp only[mSet,e,tN] at t;rw[yA h] at t;split at t
  ·cases t;exact A
  ·exact I.gen i x t
theorem rP (h:Live p r v)(s:ze)(u:zA):Live (zd.mk p.most (mSet p.l r.At ⟨r.Gen,false,(zA.mk 0 (ze.mk 0 0))⟩) (p.free++[r.At])) s u ↔ s≠r/\Live p s u:=by
 obtain⟨j,e,h⟩:=h;constructor
 ·rintro⟨i,t,hi⟩;simp only[mSet,e,tN] at hi;rw[yA h] at hi;split at hi
  ·simp at hi
  ·rename_i x;refine⟨?_,i,t,hi⟩;rintro rfl;exact x (by omega)
 ·rintro⟨y,i,t,hi⟩;refine⟨i,t,?_⟩;simp only[mSet,e,tN];rw[yA h,if_neg];exact hi;rintro rfl;rw[h] at hi;simp only[Option.some.injEq,zp.mk.injEq,true_and] at hi;refine y ?_;cases s;cases r;simp only at e t hi ⊢;rw[t,e,hi.1]
theorem r8 (I:Inv p T)(W:T<4611686018427387904)(z:(p.l.length:Int)<p.most+p.free.length)(v:zA) :
  ∃ r p',yn p v=some (r,true,p')/\Inv p' (T+1)/\(∀ w,¬ Live p r w)/\(∀ s u,Live p' s u ↔ (s=r/\u=v) \/ Live p s u)/\p'.most=p.most/\(p'.l.length:Int) - p'.free.length=(p.l.length:Int) - p.free.length+1:=by
 rcases List.eq_nil_or_concat p.free with hf|⟨fs,f,hf⟩
 ·rw[hf] at z;refine⟨_,_,qo I hf (by simpa using z),⟨I.most,by simp at z ⊢;omega,by simp,by simp,?_,?_⟩,?_,?_,rfl,by rw[hf];simp⟩
  ·intro j x t ht;simp only at t;by_cases hj:j<p.l.length
   ·rw[List.getElem?_append_left hj] at t;have:=I.cov j x t ht;rw[hf] at this;simp at this
   ·rw[List.getElem?_append_right (by omega)] at t;by_cases e:j - p.l.length=0
    ·rw[e] at t;simp at t;subst t;simp at ht
    ·rw[List.getElem?_eq_none (by simp;omega)] at t;cases t
  ·intro j x t;simp only at t;by_cases hj:j<p.l.length
   ·rw[List.getElem?_append_left hj] at t;have:=I.gen j x t;omega
   ·rw[List.getElem?_append_right (by omega)] at t;by_cases e:j - p.l.length=0
    ·rw[e] at t;simp at t;subst t;simp;omega
    ·rw[List.getElem?_eq_none (by simp;omega)] at t;cases t
  ·rintro w ⟨j,e,h⟩;have:=(List.getElem?_eq_some_iff.1 h).1;simp only at e;omega
  ·intro s u;constructor
   ·rintro⟨j,e,h⟩;simp only at h;by_cases hj:j<p.l.length
    ·rw[List.getElem?_append_left hj] at h;exact Or.inr ⟨j,e,h⟩
    ·rw[List.getElem?_append_right (by omega)] at h;by_cases U:j - p.l.length=0
     ·rw[U] at h;simp at h;refine Or.inl ⟨?_,h.2.symm⟩;cases s;simp only at e h ⊢;rw[e,<- h.1];congr 1;omega
     ·rw[List.getElem?_eq_none (by simp;omega)] at h;cases h
   ·rintro (⟨rfl,rfl⟩|⟨j,e,h⟩)
    ·exact⟨p.l.length,rfl,by simp⟩
    ·have:=(List.getElem?_eq_some_iff.1 h).1;exact⟨j,e,by rw[List.getElem?_append_left this];exact h⟩
 ·rw[List.concat_eq_append] at hf;obtain⟨j,x,rfl,hj,ht⟩:=I.fre f (by rw[hf];simp);have X:=I.gen j x hj;have hn:=I.fnd;rw[hf] at hn;obtain⟨O,-,S⟩:=List.nodup_append.1 hn;have J:(j:Int) ∉ fs:=fun h=>S _ h _ (List.mem_singleton.2 rfl) rfl
  refine⟨_,_,s7 I W hf hj,⟨I.most,by simpa[mSet] using I.len,?_,O,?_,?_⟩,?_,?_,rfl,by rw[hf];simp[mSet];omega⟩
  ·intro f B;obtain⟨i,y,rfl,hi,A⟩:=I.fre f (by rw[hf];exact mL _ B);refine⟨i,y,rfl,?_,A⟩;simp only[mSet,tN];rw[yA hj,if_neg];exact hi;rintro rfl;exact J B
  ·intro i y A F;simp only[mSet,tN] at A;rw[yA hj] at A;split at A
   ·cases A;simp at F
   ·rename_i D;have:=I.cov i y A F;rw[hf] at this;rcases List.mem_append.1 this with h|h
    ·exact h
    ·simp at h;omega
  ·intro i y A;simp only[mSet,tN] at A;rw[yA hj] at A;split at A
   ·cases A;simp only;omega
   ·have:=I.gen i y A;omega
  ·rintro w ⟨i,e,h⟩;simp only at e h;have:i=j:=by omega
   subst this;rw[hj] at h;simp only[Option.some.injEq] at h;rw[h] at ht;simp at ht
  ·intro s u;constructor
   ·rintro⟨i,e,h⟩;simp only[mSet,tN] at h;rw[yA hj] at h;split at h
    ·rename_i D;subst D;simp only[Option.some.injEq,zp.mk.injEq,true_and] at h;refine Or.inl ⟨?_,h.2.symm⟩;cases s;simp only at e h ⊢;rw[e,<- h.1]
    ·exact Or.inr ⟨i,e,h⟩
   ·rintro (⟨rfl,rfl⟩|⟨i,e,h⟩)
    ·refine⟨j,rfl,?_⟩;simp only[mSet,tN];rw[yA hj,if_pos rfl]
    ·refine⟨i,e,?_⟩;simp only[mSet,tN];rw[yA hj,if_neg];exact h;rintro rfl;rw[hj] at h;simp only[Option.some.injEq] at h;rw[h] at ht;simp at ht
end
end Pt
end
noncomputable section
set_option maxRecDepth 10000
structure HR where
 ref:ze
 k:Int
 r:Int
 C:Heap
 rs:List (ze × It)
def HR.its (h:HR):List It:=h.rs.map Prod.snd
def HR.val (h:HR):zB:=zB.mk h.k h.r (h.rs.length:Int)
def allC (hs:List HR):Heap:=hs.flatMap HR.C
def allR (hs:List HR):List (ze × It):=hs.flatMap HR.rs
theorem qO (h:HR)(hs:List HR):allC (h::hs)=h.C++allC hs:=rfl
theorem wE (h:HR)(hs:List HR):allR (h::hs)=h.rs++allR hs:=rfl
theorem HR.vg (h:HR):h.its.length=h.rs.length:=by simp[HR.its]
structure PQ (M:Nat) (q:zo) (T:Nat) (hs:List HR):Prop where
 ih:Ph.Inv q.t_.heaps T
 ii:Pt.Inv q.t_.items T
 hl:∀ s u,Ph.Live q.t_.heaps s u ↔ ∃ h∈hs,s=h.ref/\u=h.val
 il:∀ s u,Pt.Live q.t_.items s u ↔ ∃ h∈hs,∃ p∈h.rs,s=p.1/\u=⟨(p.2.i:Int),h.ref⟩
 at1:(q.t_.at_.map Prod.fst).Nodup
 at2:∀ c s,mGet kI c q.t_.at_=some s ↔ ∃ p∈allR hs,c=(p.2.i:Int)/\s=p.1
 en1:(q.entries.map Prod.fst).Nodup
 en2:∀ s e,mGet ze.eq s q.entries=some e ↔ ∃ p∈allR hs,s=p.1/\e=⟨p.2.k,p.2.s⟩
 hk:∀ h∈hs,Kd h.k/\HK (KD h.k) h.r h.its h.C
 hn:(hs.map HR.ref).Nodup
 rn:((allR hs).map Prod.fst).Nodup
 sn:((allR hs).map fun p=>p.2.s).Nodup
 ar:∃ κ n,κ.C=2*M/\Ar κ n q.a_ (allC hs)
 mi:q.items=M
 mm:q.t_.items.most=M
 mb:1<=M/\M<=16384
 ci:(q.t_.items.l.length:Int) - q.t_.items.free.length=(allR hs).length
 ch:(q.t_.heaps.l.length:Int) - q.t_.heaps.free.length=hs.length
 cm:q.t_.heaps.most=64
 sr:∀ p∈allR hs,0<=p.2.s/\p.2.s<q.serial
 sq:0<=q.serial/\q.serial<=T
def Stp' (q e:zo)(B:Nat):Prop:=q.a_.m_.steps<=e.a_.m_.steps/\e.a_.m_.steps<=q.a_.m_.steps+B
section
variable {M:Nat} {q:zo} {T:Nat} {h:HR} {hs hs':List HR}
theorem PQ.p (Q:PQ M q T hs)(hp:hs.Perm hs'):PQ M q T hs':=by
 have j:∀ p,p∈allR hs ↔ p∈allR hs':=fun p=>(hp.flatMap_right HR.rs).mem_iff
 refine⟨Q.ih,Q.ii,fun s u=>(Q.hl s u).trans ⟨?_,?_⟩,fun s u=>(Q.il s u).trans ⟨?_,?_⟩,Q.at1,fun c s=>(Q.at2 c s).trans ⟨?_,?_⟩,Q.en1,fun s e=>(Q.en2 s e).trans ⟨?_,?_⟩,fun h hh=>Q.hk h (hp.mem_iff.2 hh),((hp.map _).nodup_iff).1 Q.hn,(((hp.flatMap_right HR.rs).map _).nodup_iff).1 Q.rn,(((hp.flatMap_right HR.rs).map _).nodup_iff).1 Q.sn,?_,Q.mi,Q.mm,Q.mb,Q.ci.trans ?_,Q.ch.trans ?_,Q.cm,fun p hh=>Q.sr p ((j p).2 hh),Q.sq⟩
 ·rintro⟨g,i,h⟩;exact⟨g,hp.mem_iff.1 i,h⟩
 ·rintro⟨g,i,h⟩;exact⟨g,hp.mem_iff.2 i,h⟩
 ·rintro⟨g,i,h⟩;exact⟨g,hp.mem_iff.1 i,h⟩
 ·rintro⟨g,i,h⟩;exact⟨g,hp.mem_iff.2 i,h⟩
 ·rintro⟨g,i,h⟩;exact⟨g,(j g).1 i,h⟩
 ·rintro⟨g,i,h⟩;exact⟨g,(j g).2 i,h⟩
 ·rintro⟨g,i,h⟩;exact⟨g,(j g).1 i,h⟩
 ·rintro⟨g,i,h⟩;exact⟨g,(j g).2 i,h⟩
 ·obtain⟨κ,n,e,H⟩:=Q.ar;exact⟨κ,n,e,H.p (hp.flatMap_right HR.C)⟩
 ·have:=(hp.flatMap_right HR.rs).length_eq;show ((hs.flatMap HR.rs).length:Int)=((hs'.flatMap HR.rs).length:Int);rw[this]
 ·rw[hp.length_eq]
theorem PQ.live (Q:PQ M q T hs)(hh:h∈hs):Ph.Live q.t_.heaps h.ref h.val:=(Q.hl _ _).2 ⟨h,hh,rfl,rfl⟩
theorem PQ.heap (Q:PQ M q T hs)(hh:h∈hs):yY q.t_ h.ref=some (h.k,h.r,(h.rs.length:Int),0):=by
 unfold yY;rw[Ph.wL Q.ih (Q.live hh)]
 rfl
theorem PQ.lenC (Q:PQ M q T hs):(allC hs).length=2*(allR hs).length:=by
 have:∀ hs:List HR,(∀ h∈hs,Kd h.k/\HK (KD h.k) h.r h.its h.C)->(allC hs).length=2*(allR hs).length:=by
  intro hs;induction hs with
  | nil=>intro _;rfl
  | cons h hs ih =>
   intro hk;have h1:=(hk h (List.mem_cons_self ..)).2.len;have h2:=ih fun g e=>hk g (mC _ e)
   rw[HR.vg] at h1;rw[qO,wE,lA,lA];omega
 exact this hs Q.hk
theorem PQ.BK (Q:PQ M q T hs):(allR hs).length<=M:=by
 obtain⟨κ,n,e,H⟩:=Q.ar;have:=H.room;rw[Q.lenC,e] at this;omega
theorem PQ.cd (Q:PQ M q T hs){p:ze × It}(hp:p∈allR hs):p.2.i∈(allC hs).map Prod.fst:=by
 obtain⟨h,hh,hp⟩:=List.mem_flatMap.1 hp;obtain⟨c,e⟩:=(Q.hk h hh).2.mem (List.mem_map_of_mem (f:=Prod.snd) hp);exact List.mem_map.2 ⟨_,List.mem_flatMap.2 ⟨h,hh,e⟩,rfl⟩
theorem Ar.yt {κ:Cfg}{n:Nat}{a:zb}{L:Heap}(H:Ar κ n a L):Ar ⟨κ.C,a.m_.steps,κ.g,κ.mo⟩ 0 a L :=
 { H with b0:=Int.le_trans H.b0 H.lo,lo:=Int.le_refl _,hi:=by simp }
theorem ik {P l:ze->zB->Prop}{h1:HR}(hl:∀ s u,P s u ↔ ∃ g∈h::hs,s=g.ref/\u=g.val)(hn:((h::hs).map HR.ref).Nodup)(e:h1.ref=h.ref)(x:∀ s u,l s u ↔ (s=h.ref/\u=h1.val) \/ (s≠h.ref/\P s u)) :
  ∀ s u,l s u ↔ ∃ g∈h1::hs,s=g.ref/\u=g.val:=by
 intro s u;simp only[pC,List.nodup_cons] at hn;rw[x];constructor
 ·rintro (⟨rfl,rfl⟩|⟨j,hp⟩)
  ·exact⟨h1,List.mem_cons_self ..,e.symm,rfl⟩
  ·obtain⟨g,i,rfl,rfl⟩:=(hl _ _).1 hp;rcases List.mem_cons.1 i with rfl|i
   ·exact absurd rfl j
   ·exact⟨g,mC _ i,rfl,rfl⟩
 ·rintro⟨g,i,rfl,rfl⟩;rcases List.mem_cons.1 i with rfl|i
  ·exact Or.inl ⟨e,rfl⟩
  ·refine Or.inr ⟨fun t=>hn.1 (t ▸ List.mem_map_of_mem (f:=HR.ref) i),(hl _ _).2 ⟨g,mC _ i,rfl,rfl⟩⟩
theorem PQ.root {t:zj}{T':Nat}(hh:Ph.Inv t.heaps T')(e:Ph.Live t.heaps h.ref h.val)(r n:Int) :
  xh t h.ref r n=some (0,zj.mk (zg.mk t.heaps.most (mSet t.heaps.l h.ref.At ⟨h.ref.Gen,true,⟨h.k,r,n⟩⟩) t.heaps.free) t.items t.at_):=by
 unfold xh;rw[Ph.wL hh e];simp only[bS];rw[show ((0:Int) == 0)=true from rfl,cT];show ((xl t.heaps h.ref (zB.mk h.val.kind r n)).bind _).bind _=_;rw[Ph.rD hh e]
 rfl
theorem PQ.insert (Q:PQ M q T (h::hs))(a5:(allR (h::hs)).length<M)(b3:h.rs.length<1000)(hT:T<4611686018427387000){f:Nat}(hf:95000<f)(kk:Int)(key:Int)(o i0:ze) :
  Do (uc f q (zY.mk 2 kk h.ref o i0 key)) fun res=>∃ (i:ze) (x:It) (r':Int) (C':Heap) (U:zo),res=(zJ.mk 0 (ze.mk 0 0) i (zi.mk key q.serial) 0,U)/\x.k=key/\x.s=q.serial /\
   PQ M U (T+1) (⟨h.ref,h.k,r',C',(i,x)::h.rs⟩::hs)/\U.serial=q.serial+1/\Stp' q U (bd h.k h.rs.length+3):=by
 have hm:h∈h::hs:=List.mem_cons_self ..;obtain⟨κ,n,eC,H0⟩:=Q.ar;have H:=H0.yt;have A:=Q.hk h hm;have I:=Q.lenC;have b2:=Q.mb;unfold uc;rw[Q.heap hm];simp only[bS];refine Do.f rfl ?_;have Y:vN q.t_=some ((allR (h::hs)).length:Int):=by
  unfold vN yM;rw[Q.ci,zP (by omega) (by omega)]
  rfl
 rw[Y];simp only[bS];refine Do.f (dF (by rw[Q.mi];omega)) ?_;refine (lB H (by rw[I];simp only;omega) key q.serial).bind ?_;rintro _ ⟨i,a1,rfl,hi,H1⟩;have W:Ar ⟨κ.C,q.a_.m_.steps,κ.g,κ.mo⟩ (0+3) a1 (h.C++(((It.mk i key q.serial).i,(It.mk i key q.serial).cell (-1))::allC hs)):=H1.p (List.perm_middle (l₁:=h.C) (l₂:=allC hs)).symm;have J:=A.2.len;rw[HR.vg] at J;rw[qO,lA] at I;refine (Aq (f:=f) (x:=It.mk i key q.serial) A.1 A.2 W (by rw[HR.vg];simp only;omega) (by rw[HR.vg];omega) hf).bind ?_;rintro _ ⟨r',C',a2,rfl,h1,X⟩;have a4:mGet kI (i:Int) q.t_.at_=none:=by
  cases y:mGet kI (i:Int) q.t_.at_ with
  | none=>rfl
  | some s =>
   obtain⟨p,hp,e,_⟩:=(Q.at2 _ _).1 y;have:i=p.2.i:=by omega
   rw[this] at hi;exact absurd (Q.cd hp) hi
 obtain⟨B,p',Z,I',a0,O,S,F⟩:=Pt.r8 Q.ii (by omega) (by rw[Q.mm];have:=Q.ci;omega) (zA.mk (i:Int) h.ref);have e3:uL q.t_ h.ref (i:Int)=some (B,0,zj.mk q.t_.heaps p' (mPut kI (i:Int) B q.t_.at_)):=by
  unfold uL;rw[Ph.wL Q.ih (Q.live hm)];simp only[bS];rw[show ((0:Int) != 0)=false from rfl,cF];unfold sW;rw[a4];simp only[bS];have e4:yM q.t_.items=some ((allR (h::hs)).length:Int):=by
   unfold yM;rw[Q.ci,zP (by omega) (by omega)]
  rw[e4];unfold we;simp only[bS];rw[show (((allR (h::hs)).length:Int) == q.t_.items.most)=false by rw[Q.mm];simp;omega,cF,cF,Z]
  rfl
 refine Do.seq e3 ?_;refine Do.seq (PQ.root (t:=zj.mk q.t_.heaps p' (mPut kI (i:Int) B q.t_.at_)) Q.ih (Q.live hm) r' (w64 ((h.rs.length:Int)+1))) ?_;rw[zP (by omega) (by omega),zP (by have:=Q.sq;omega) (by have:=Q.sq;omega)];have z:∀ p∈allR (h::hs),p.1≠B:=by
  intro p hp e;obtain⟨g,y,hp⟩:=List.mem_flatMap.1 hp;exact a0 _ ((Q.il _ _).2 ⟨g,y,p,hp,e.symm,rfl⟩)
 have l:∀ p,p∈allR (⟨h.ref,h.k,r',C',(B,It.mk i key q.serial)::h.rs⟩::hs) ↔ p=(B,It.mk i key q.serial) \/ p∈allR (h::hs):=by
  intro p;simp only[wE,List.cons_append,iC]
 refine⟨_,rfl,B,It.mk i key q.serial,r',C',_,rfl,rfl,rfl,?_,rfl,?_,?_⟩
 ·refine⟨?_,I',?_,?_,tT bP Q.at1,?_,tT vZ Q.en1,?_,?_,?_,?_,?_,⟨⟨κ.C,q.a_.m_.steps,κ.g,κ.mo⟩,_,eC,X⟩,Q.mi,S.trans Q.mm,Q.mb,?_,?_,Q.cm,?_,?_⟩
  ·have:=Ph.rC Q.ih (Q.live hm) (zB.mk h.k r' ((h.rs.length:Int)+1));exact { this with gen:=fun j x hx=>by have:=this.gen j x hx;omega }
  ·refine ik Q.hl Q.hn rfl fun s u=>?_
   have:=Ph.tB (Q.live hm) (zB.mk h.k r' ((h.rs.length:Int)+1)) s u;simpa[HR.val] using this
  ·intro s u;refine (O s u).trans ⟨?_,?_⟩
   ·rintro (⟨rfl,rfl⟩|hl)
    ·exact⟨_,List.mem_cons_self ..,_,List.mem_cons_self ..,rfl,rfl⟩
    ·obtain⟨g,y,p,hp,rfl,rfl⟩:=(Q.il _ _).1 hl;rcases List.mem_cons.1 y with rfl|y
     ·exact⟨_,List.mem_cons_self ..,p,mC _ hp,rfl,rfl⟩
     ·exact⟨g,mC _ y,p,hp,rfl,rfl⟩
   ·rintro⟨g,y,p,hp,rfl,rfl⟩;rcases List.mem_cons.1 y with rfl|y
    ·rcases List.mem_cons.1 hp with rfl|hp
     ·exact Or.inl ⟨rfl,rfl⟩
     ·exact Or.inr ((Q.il _ _).2 ⟨h,hm,p,hp,rfl,rfl⟩)
    ·exact Or.inr ((Q.il _ _).2 ⟨g,mC _ y,p,hp,rfl,rfl⟩)
  ·intro c s;refine (rq bP).trans ⟨?_,?_⟩
   ·rintro (⟨rfl,rfl⟩|⟨a3,y⟩)
    ·exact⟨_,(l _).2 (Or.inl rfl),rfl,rfl⟩
    ·obtain⟨p,hp,e,e'⟩:=(Q.at2 _ _).1 y;exact⟨p,(l _).2 (Or.inr hp),e,e'⟩
   ·rintro⟨p,hp,rfl,rfl⟩;rcases (l _).1 hp with rfl|hp
    ·exact Or.inl ⟨rfl,rfl⟩
    ·refine Or.inr ⟨fun e=>?_,(Q.at2 _ _).2 ⟨p,hp,rfl,rfl⟩⟩;have:p.2.i=i:=by omega
     exact hi (this ▸ Q.cd hp)
  ·intro s e;refine (rq vZ).trans ⟨?_,?_⟩
   ·rintro (⟨rfl,rfl⟩|⟨a3,y⟩)
    ·exact⟨_,(l _).2 (Or.inl rfl),rfl,rfl⟩
    ·obtain⟨p,hp,Y,Z⟩:=(Q.en2 _ _).1 y;exact⟨p,(l _).2 (Or.inr hp),Y,Z⟩
   ·rintro⟨p,hp,rfl,rfl⟩;rcases (l _).1 hp with rfl|hp
    ·exact Or.inl ⟨rfl,rfl⟩
    ·exact Or.inr ⟨z p hp,(Q.en2 _ _).2 ⟨p,hp,rfl,rfl⟩⟩
  ·intro g y;rcases List.mem_cons.1 y with rfl|y
   ·exact⟨A.1,h1⟩
   ·exact Q.hk g (mC _ y)
  ·exact Q.hn
  ·show ((B,It.mk i key q.serial)::(h.rs++allR hs) |>.map Prod.fst).Nodup;rw[pC,List.nodup_cons];refine⟨fun D=>?_,Q.rn⟩;obtain⟨p,hp,e⟩:=List.mem_map.1 D;exact z p hp e
  ·show ((B,It.mk i key q.serial)::(h.rs++allR hs) |>.map fun p=>p.2.s).Nodup;rw[pC,List.nodup_cons];refine⟨fun D=>?_,Q.sn⟩;obtain⟨p,hp,e⟩:=List.mem_map.1 D;have:=(Q.sr p hp).2;simp only at e;omega
  ·rw[F,Q.ci];simp only[wE,lA,lC];omega
  ·have:=Q.ch;simpa[mSet] using this
  ·intro p hp;have:=Q.sq;rcases (l _).1 hp with rfl|hp
   ·simp only;omega
   ·have:=Q.sr p hp;simp only;omega
  ·have:=Q.sq;simp only;omega
 ·exact X.lo
 ·have:=X.hi;rw[HR.vg] at this;simp only at this ⊢;omega
end
end
noncomputable section
set_option maxRecDepth 10000
theorem px {α β:Type}{f:α -> β}{l:List α}{x:β}{q:List β}(h:(l.map f).Perm (x::q)):∃ p rs,l.Perm (p::rs)/\f p=x/\(rs.map f).Perm q:=by
 have e:x∈l.map f:=h.mem_iff.2 (List.mem_cons_self ..);obtain⟨p,hp,rfl⟩:=List.mem_map.1 e;obtain⟨s,t,rfl⟩:=List.append_of_mem hp;have h1:(s++p::t).Perm (p::(s++t)):=List.perm_middle;refine⟨p,s++t,h1,rfl,?_⟩;have h2:=(h1.map f).symm.trans h;rw[pC] at h2;exact h2.cons_inv
theorem uU {K V:Type}{eq:K->K->Bool}{k:K}{z v:V}{m:List (K × V)}(h:mGet eq k m=some v):sW eq k z m=some (v,true):=by
 unfold sW;rw[h]
theorem gw {K V:Type}{eq:K->K->Bool}{k:K}{z:V}{m:List (K × V)}(h:mGet eq k m=none):sW eq k z m=some (z,false):=by
 unfold sW;rw[h]
section
variable {M:Nat} {q:zo} {T:Nat} {h:HR} {hs hs':List HR}
theorem PQ.re (Q:PQ M q T (h::hs)){rs:List (ze × It)}(hp:h.rs.Perm rs):PQ M q T (⟨h.ref,h.k,h.r,h.C,rs⟩::hs):=by
 have j:(allR (h::hs)).Perm (allR (⟨h.ref,h.k,h.r,h.C,rs⟩::hs)):=by rw[wE,wE];exact hp.append_right _
 have i:∀ p,p∈allR (h::hs) ↔ p∈allR (⟨h.ref,h.k,h.r,h.C,rs⟩::hs):=fun p=>j.mem_iff
 have hv:h.val=(⟨h.ref,h.k,h.r,h.C,rs⟩:HR).val:=by simp only[HR.val,hp.length_eq]
 refine⟨Q.ih,Q.ii,fun s u=>(Q.hl s u).trans ?_,fun s u=>(Q.il s u).trans ?_,Q.at1,fun c s=>(Q.at2 c s).trans ?_,Q.en1,fun s e=>(Q.en2 s e).trans ?_,?_,Q.hn,((j.map _).nodup_iff).1 Q.rn,((j.map _).nodup_iff).1 Q.sn,?_,Q.mi,Q.mm,Q.mb,Q.ci.trans ?_,Q.ch,Q.cm,fun p hh=>Q.sr p ((i p).2 hh),Q.sq⟩
 ·simp only[iC,exists_eq_or_imp,hv]
 ·simp only[iC,exists_eq_or_imp,hp.mem_iff]
 ·constructor
  ·rintro⟨p,hp,e⟩;exact⟨p,(i p).1 hp,e⟩
  ·rintro⟨p,hp,e⟩;exact⟨p,(i p).2 hp,e⟩
 ·constructor
  ·rintro⟨p,hp,e⟩;exact⟨p,(i p).1 hp,e⟩
  ·rintro⟨p,hp,e⟩;exact⟨p,(i p).2 hp,e⟩
 ·intro g l;rcases List.mem_cons.1 l with rfl|l
  ·have:=Q.hk h (List.mem_cons_self ..);exact⟨this.1,this.2.p (hp.map _) (.refl _)⟩
  ·exact Q.hk g (mC _ l)
 ·exact Q.ar
 ·rw[j.length_eq]
theorem PQ.Aa (Q:PQ M q T hs){a:zb}(h:∃ κ n,κ.C=2*M/\Ar κ n a (allC hs)):PQ M (zo.mk q.items a q.t_ q.entries q.serial) T hs :=
 ⟨Q.ih,Q.ii,Q.hl,Q.il,Q.at1,Q.at2,Q.en1,Q.en2,Q.hk,Q.hn,Q.rn,Q.sn,h,Q.mi,Q.mm,Q.mb,Q.ci,Q.ch,Q.cm,Q.sr,Q.sq⟩
theorem PQ.lat (Q:PQ M q T hs){p:ze × It}(hp:p∈allR hs):mGet kI (p.2.i:Int) q.t_.at_=some p.1:=(Q.at2 _ _).2 ⟨p,hp,rfl,rfl⟩
theorem PQ.len (Q:PQ M q T hs){p:ze × It}(hp:p∈allR hs):mGet ze.eq p.1 q.entries=some ⟨p.2.k,p.2.s⟩:=(Q.en2 _ _).2 ⟨p,hp,rfl,rfl⟩
theorem oK {g:HR}(e:g∈hs){p:ze × It}(hp:p∈g.rs):p∈allR hs:=List.mem_flatMap.2 ⟨g,e,hp⟩
theorem PQ.drop {p:ze × It}{rs:List (ze × It)}{r':Int}{C':Heap}{a2:zb}{κ:Cfg}{n:Nat}(Q:PQ M q T (h::hs))(hp:h.rs=p::rs)(D:h.rs.length<4096)(hk:HK (KD h.k) r' (rs.map Prod.snd) C')(H:Ar κ n a2 (C'++((p.2.i,p.2.cell (-1))::allC hs)))(U:κ.C=2*M) :
  Do (xh q.t_ h.ref r' (w64 ((h.rs.length:Int) - 1))) fun t1=>Do (vY (zo.mk q.items a2 t1.2 q.entries q.serial) p.1) fun res=>∃ F,res=(⟨p.2.k,p.2.s⟩,F)/\PQ M F T (⟨h.ref,h.k,r',C',rs⟩::hs)/\Ar κ (n+1) F.a_ (C'++allC hs)/\F.serial=q.serial:=by
 have hm:h∈h::hs:=List.mem_cons_self ..;have I:=Q.hk h hm;have l:allR (h::hs)=p::(rs++allR hs):=by rw[wE,hp];rfl
 have B:p∈allR (h::hs):=by rw[l];exact List.mem_cons_self ..
 have z:∀ p'∈rs++allR hs,p'.1≠p.1:=by
  have:=Q.rn;rw[l,pC,List.nodup_cons] at this;intro p' j e;exact this.1 (e ▸ List.mem_map_of_mem (f:=Prod.fst) j)
 have x:∀ p',p'∈allR (h::hs) ↔ p'=p \/ p'∈rs++allR hs:=fun p'=>by rw[l,iC]
 have J:∀ p'∈rs++allR hs,(p'.2.i:Int)≠(p.2.i:Int):=by
  intro p' j e;have S:=Q.lat ((x p').2 (Or.inr j));rw[e,Q.lat B] at S;exact z p' j (Option.some.inj S).symm
 have A:Pt.Live q.t_.items p.1 ⟨(p.2.i:Int),h.ref⟩:=(Q.il _ _).2 ⟨h,hm,p,by rw[hp];exact List.mem_cons_self ..,rfl,rfl⟩;have hw:w64 ((h.rs.length:Int) - 1)=(rs.length:Int):=by
  rw[hp] at D ⊢;simp only[lC] at D ⊢;rw[zP] <;> omega
 rw[hw];refine Do.of (PQ.root Q.ih (Q.live hm) r' rs.length) ?_;unfold vY tv;simp only;rw[Pt.sR Q.ii A];simp only[bS];rw[show ((0:Int) == 0)=true from rfl,cT];simp only[bS];refine ((H.p (List.perm_middle (l₁:=C') (l₂:=allC hs))).give).bind ?_;rintro _ ⟨a3,rfl,O⟩;rw[uU (Q.len B)];refine⟨_,rfl,_,rfl,?_,O,rfl⟩;refine⟨?_,Pt.qZ Q.ii A,?_,?_,sV Q.at1,?_,sV Q.en1,?_,?_,Q.hn,?_,?_,⟨κ,_,U,O⟩,Q.mi,Q.mm,Q.mb,?_,?_,Q.cm,?_,Q.sq⟩
 ·exact Ph.rC Q.ih (Q.live hm) (zB.mk h.k r' (rs.length:Int))
 ·refine ik Q.hl Q.hn rfl fun s u=>?_
  have:=Ph.tB (Q.live hm) (zB.mk h.k r' (rs.length:Int)) s u;simpa[HR.val] using this
 ·intro s u;refine (Pt.rP A s u).trans ⟨?_,?_⟩
  ·rintro⟨y,hl⟩;obtain⟨g,t,p',j,rfl,rfl⟩:=(Q.il _ _).1 hl;rcases List.mem_cons.1 t with rfl|t
   ·rw[hp] at j;rcases List.mem_cons.1 j with rfl|j
    ·exact absurd rfl y
    ·exact⟨_,List.mem_cons_self ..,p',j,rfl,rfl⟩
   ·exact⟨g,mC _ t,p',j,rfl,rfl⟩
  ·rintro⟨g,t,p',j,rfl,rfl⟩;rcases List.mem_cons.1 t with rfl|t
   ·exact⟨z p' (mL _ j),(Q.il _ _).2 ⟨h,hm,p',by rw[hp];exact mC _ j,rfl,rfl⟩⟩
   ·exact⟨z p' (List.mem_append_right _ (oK t j)),(Q.il _ _).2 ⟨g,mC _ t,p',j,rfl,rfl⟩⟩
 ·intro c s;refine (qh bP Q.at1).trans ⟨?_,?_⟩
  ·rintro⟨y,t⟩;obtain⟨p',j,rfl,rfl⟩:=(Q.at2 _ _).1 t;rcases (x p').1 j with rfl|j
   ·exact absurd rfl y
   ·exact⟨p',j,rfl,rfl⟩
  ·rintro⟨p',j,rfl,rfl⟩;exact⟨J p' j,(Q.at2 _ _).2 ⟨p',(x p').2 (Or.inr j),rfl,rfl⟩⟩
 ·intro s e;refine (qh vZ Q.en1).trans ⟨?_,?_⟩
  ·rintro⟨y,t⟩;obtain⟨p',j,rfl,rfl⟩:=(Q.en2 _ _).1 t;rcases (x p').1 j with rfl|j
   ·exact absurd rfl y
   ·exact⟨p',j,rfl,rfl⟩
  ·rintro⟨p',j,rfl,rfl⟩;exact⟨z p' j,(Q.en2 _ _).2 ⟨p',(x p').2 (Or.inr j),rfl,rfl⟩⟩
 ·intro g t;rcases List.mem_cons.1 t with rfl|t
  ·exact⟨I.1,hk⟩
  ·exact Q.hk g (mC _ t)
 ·have:=Q.rn;rw[l,pC,List.nodup_cons] at this;exact this.2
 ·have:=Q.sn;rw[l,pC,List.nodup_cons] at this;exact this.2
 ·have:=Q.ci;rw[l] at this;simp only[mSet,List.length_set,lA,lC,List.length_nil,wE] at this ⊢;omega
 ·have:=Q.ch;simpa[mSet] using this
 ·intro p' j;exact Q.sr p' ((x p').2 (Or.inr j))
theorem PQ.low {p:ze × It}{y:It}{rs:List (ze × It)}{r':Int}{C':Heap}{a2:zb}{κ:Cfg}{n:Nat}(Q:PQ M q T (h::hs))(hp:h.rs=p::rs)(hi:y.i=p.2.i)(J:y.s=p.2.s)(hk:HK (KD h.k) r' (y::rs.map Prod.snd) C')(H:Ar κ n a2 (C'++allC hs))(O:κ.C=2*M) :
  PQ M (zo.mk q.items a2 (zj.mk (zg.mk q.t_.heaps.most (mSet q.t_.heaps.l h.ref.At ⟨h.ref.Gen,true,⟨h.k,r',(h.rs.length:Int)⟩⟩) q.t_.heaps.free) q.t_.items q.t_.at_) (mPut ze.eq p.1 ⟨y.k,y.s⟩ q.entries) q.serial) T (⟨h.ref,h.k,r',C',(p.1,y)::rs⟩::hs):=by
 have hm:h∈h::hs:=List.mem_cons_self ..;have D:=Q.hk h hm;have x:allR (h::hs)=p::(rs++allR hs):=by rw[wE,hp];rfl
 have B:p∈allR (h::hs):=by rw[x];exact List.mem_cons_self ..
 have F:∀ p'∈rs++allR hs,p'.1≠p.1:=by
  have:=Q.rn;rw[x,pC,List.nodup_cons] at this;intro p' j e;exact this.1 (e ▸ List.mem_map_of_mem (f:=Prod.fst) j)
 have A:∀ p',p'∈allR (h::hs) ↔ p'=p \/ p'∈rs++allR hs:=fun p'=>by rw[x,iC]
 have t:∀ p',p'∈allR (⟨h.ref,h.k,r',C',(p.1,y)::rs⟩::hs) ↔ p'=(p.1,y) \/ p'∈rs++allR hs:=fun p'=>by rw[wE];exact iC
 have hlen:h.rs.length=((p.1,y)::rs).length:=by rw[hp];rfl
 refine⟨?_,Q.ii,?_,?_,Q.at1,?_,tT vZ Q.en1,?_,?_,Q.hn,?_,?_,⟨κ,_,O,H⟩,Q.mi,Q.mm,Q.mb,?_,?_,Q.cm,?_,Q.sq⟩
 ·exact Ph.rC Q.ih (Q.live hm) (zB.mk h.k r' (h.rs.length:Int))
 ·refine ik Q.hl Q.hn rfl fun s u=>?_
  have:=Ph.tB (Q.live hm) (zB.mk h.k r' (h.rs.length:Int)) s u;simpa only [HR.val,hlen] using this
 ·intro s u;refine (Q.il s u).trans ⟨?_,?_⟩
  ·rintro⟨g,z,p',j,rfl,rfl⟩;rcases List.mem_cons.1 z with rfl|z
   ·rw[hp] at j;rcases List.mem_cons.1 j with rfl|j
    ·exact⟨_,List.mem_cons_self ..,_,List.mem_cons_self ..,rfl,by rw[hi]⟩
    ·exact⟨_,List.mem_cons_self ..,p',mC _ j,rfl,rfl⟩
   ·exact⟨g,mC _ z,p',j,rfl,rfl⟩
  ·rintro⟨g,z,p',j,rfl,rfl⟩;rcases List.mem_cons.1 z with rfl|z
   ·rcases List.mem_cons.1 j with rfl|j
    ·exact⟨h,hm,p,by rw[hp];exact List.mem_cons_self ..,rfl,by simp only[hi]⟩
    ·exact⟨h,hm,p',by rw[hp];exact mC _ j,rfl,rfl⟩
   ·exact⟨g,mC _ z,p',j,rfl,rfl⟩
 ·intro c s;refine (Q.at2 c s).trans ⟨?_,?_⟩
  ·rintro⟨p',j,rfl,rfl⟩;rcases (A p').1 j with rfl|j
   ·exact⟨_,(t _).2 (Or.inl rfl),by simp only[hi],rfl⟩
   ·exact⟨_,(t _).2 (Or.inr j),rfl,rfl⟩
  ·rintro⟨p',j,rfl,rfl⟩;rcases (t p').1 j with rfl|j
   ·exact⟨_,B,by simp only[hi],rfl⟩
   ·exact⟨_,(A _).2 (Or.inr j),rfl,rfl⟩
 ·intro s e;refine (rq vZ).trans ⟨?_,?_⟩
  ·rintro (⟨rfl,rfl⟩|⟨I,z⟩)
   ·exact⟨_,(t _).2 (Or.inl rfl),rfl,rfl⟩
   ·obtain⟨p',j,rfl,rfl⟩:=(Q.en2 _ _).1 z;rcases (A p').1 j with rfl|j
    ·exact absurd rfl I
    ·exact⟨p',(t _).2 (Or.inr j),rfl,rfl⟩
  ·rintro⟨p',j,rfl,rfl⟩;rcases (t p').1 j with rfl|j
   ·exact Or.inl ⟨rfl,rfl⟩
   ·exact Or.inr ⟨F p' j,(Q.en2 _ _).2 ⟨p',(A p').2 (Or.inr j),rfl,rfl⟩⟩
 ·intro g z;rcases List.mem_cons.1 z with rfl|z
  ·exact⟨D.1,hk⟩
  ·exact Q.hk g (mC _ z)
 ·have:=Q.rn;rw[x] at this;exact this
 ·have:=Q.sn;rw[x] at this;show (((p.1,y)::(rs++allR hs)).map fun p=>p.2.s).Nodup;simp only[pC,J] at this ⊢;exact this
 ·have:=Q.ci;rw[x] at this;simp only[lA,lC,wE] at this ⊢;omega
 ·have:=Q.ch;simpa[mSet] using this
 ·intro p' j;rcases (t p').1 j with rfl|j
  ·simp only[J];exact Q.sr p B
  ·exact Q.sr p' ((A p').2 (Or.inr j))
def okA (i:ze)(p:It):zJ:=zJ.mk 0 (ze.mk 0 0) i (zi.mk p.k p.s) 0
theorem PQ.min (Q:PQ M q T (h::hs))(F:h.rs.length<1000){f:Nat}(hf:95000<f) :
  Do (wY f q h.ref false) fun res=>∃ u,PQ M u T (h::hs)/\u.serial=q.serial/\Stp' q u 100/\((h.rs=[]/\res=(zJ.mk 27 (ze.mk 0 0) (ze.mk 0 0) (zi.mk 0 0) 0,u)) \/ ∃ p∈h.rs,res=(okA p.1 p.2,u) /\ ∀ p'∈h.rs,¬ p'.2.lt p.2):=by
 have hm:h∈h::hs:=List.mem_cons_self ..;have i:=Q.hk h hm;obtain⟨κ,n,D,z⟩:=Q.ar;have H:=z.yt;unfold wY;rw[Q.heap hm];simp only[bS];refine Do.f rfl ?_;refine Do.if (fun e=>?_) (fun e=>?_)
 ·have A:h.rs=[]:=by
   have:(h.rs.length:Int)=0:=by simpa using e
   exact List.eq_nil_of_length_eq_zero (by omega)
  exact⟨_,rfl,q,Q,rfl,⟨Int.le_refl _,by omega⟩,Or.inl ⟨A,rfl⟩⟩
 ·refine Do.t rfl ?_;refine (BA (f:=f) i.1 i.2 H (by rw[HR.vg];omega) hf).bind ?_;rintro _ ⟨a1,H1,h1⟩;rcases h1 with ⟨B,_⟩|⟨x,I,rfl,j⟩
  ·have:=HR.vg h;rw[B] at this;simp at this;rw[<- this] at e;simp at e
  ·obtain⟨p,hp,rfl⟩:=List.mem_map.1 I;have l:=oK hm hp;unfold v7;simp only;rw[uU (Q.lat l)];simp only[bS];rw[uU (Q.len l)];refine⟨_,rfl,_,Q.Aa (a:=a1) ⟨⟨κ.C,q.a_.m_.steps,κ.g,κ.mo⟩,_,D,H1⟩,rfl,⟨H1.lo,by have:=H1.hi;simp only at this ⊢;omega⟩,Or.inr ⟨p,hp,rfl,fun p' y=>j _ (List.mem_map_of_mem (f:=Prod.snd) y)⟩⟩
theorem PQ.pop (Q:PQ M q T (h::hs))(W:h.rs.length<1000)(y:h.rs≠[]){f:Nat}(hf:95000<f) :
  Do (wY f q h.ref true) fun res=>∃ p rs r' C' j,res=(okA p.1 p.2,j)/\h.rs.Perm (p::rs)/\(∀ p'∈h.rs,¬ p'.2.lt p.2)/\PQ M j T (⟨h.ref,h.k,r',C',rs⟩::hs)/\j.serial=q.serial/\Stp' q j (bd h.k h.rs.length+1):=by
 have hm:h∈h::hs:=List.mem_cons_self ..;have l:=Q.hk h hm;obtain⟨κ,n,S,J⟩:=Q.ar;have H:=J.yt;have U:h.rs.length≠0:=fun e=>y (List.eq_nil_of_length_eq_zero e)
 unfold wY;rw[Q.heap hm];simp only[bS];refine Do.f rfl ?_;refine Do.f (by simp;omega) ?_;refine Do.f rfl ?_;refine (BC (f:=f) l.1 l.2 H (by intro e;have:=HR.vg h;rw[e] at this;simp at this;omega) (by rw[HR.vg];omega) hf).bind ?_;rintro _ ⟨x,q0,r',C',a1,rfl,F,t,h1,H1⟩;obtain⟨p,rs,i,rfl,hq⟩:=px F;have B:p∈h.rs:=i.mem_iff.2 (List.mem_cons_self ..);have A:=oK hm B;unfold v7;simp only;rw[uU (Q.lat A)];simp only[bS];have D:=(Q.re i).drop (p:=p) (rs:=rs) (r':=r') (C':=C') (a2:=a1) rfl (by simp only[<- i.length_eq];omega) (h1.p hq.symm (.refl _)) H1 S;simp only[<- i.length_eq] at D;refine D.bind fun t1 D=>D.bind ?_
 rintro _ ⟨j,rfl,O,I,u⟩;refine⟨_,rfl,p,rs,r',C',j,rfl,i,fun p' z=>t _ (List.mem_map_of_mem (f:=Prod.snd) z),O,u,I.lo,?_⟩;have:=I.hi;rw[HR.vg] at this;simp only at this ⊢;omega
theorem PQ.cell (Q:PQ M q T hs){g:HR}(e:g∈hs){p:ze × It}(hp:p∈g.rs):ye q.t_.items p.1=some (⟨(p.2.i:Int),g.ref⟩,0):=Pt.wL Q.ii ((Q.il _ _).2 ⟨g,e,p,hp,rfl,rfl⟩)
theorem PQ.remove (Q:PQ M q T (h::hs))(J:h.rs.length<1000){p:ze × It}(hp:p∈h.rs){f:Nat}(hf:95000<f) :
  Do (ud f q p.1) fun res=>∃ rs r' C' j,res=(okA (ze.mk 0 0) p.2,j)/\h.rs.Perm (p::rs)/\PQ M j T (⟨h.ref,h.k,r',C',rs⟩::hs)/\j.serial=q.serial/\Stp' q j (bd h.k h.rs.length+1):=by
 have hm:h∈h::hs:=List.mem_cons_self ..;have l:=Q.hk h hm;obtain⟨κ,n,F,A⟩:=Q.ar;have H:=A.yt;have I:=Q.cell hm hp;unfold ud w8 v8;rw[I];simp only[bS];refine Do.f rfl ?_;rw[Q.heap hm];simp only[bS];refine (Bz (f:=f) (x:=p.2) l.1 l.2 (List.mem_map_of_mem (f:=Prod.snd) hp) H (by rw[HR.vg];omega) hf).bind ?_;rintro _ ⟨q0,r',C',a1,rfl,y,h1,H1⟩;obtain⟨s,t,e⟩:=List.append_of_mem hp;have i:h.rs.Perm (p::(s++t)):=by rw[e];exact List.perm_middle
 have hq:((s++t).map Prod.snd).Perm q0:=by
  have:=(i.map Prod.snd).symm.trans y;rw[pC] at this;exact this.cons_inv
 have D:=(Q.re i).drop (p:=p) (rs:=s++t) (r':=r') (C':=C') (a2:=a1) rfl (by simp only[<- i.length_eq];omega) (h1.p hq.symm (.refl _)) H1 F;simp only[<- i.length_eq] at D;refine D.bind fun t1 D=>D.bind ?_
 rintro _ ⟨j,rfl,B,z,u⟩;refine⟨_,rfl,s++t,r',C',j,rfl,i,B,u,z.lo,?_⟩;have:=z.hi;rw[HR.vg] at this;simp only at this ⊢;omega
theorem PQ.dG (Q:PQ M q T (h::hs))(O:h.rs.length<1000){p:ze × It}(hp:p∈h.rs){f:Nat}(hf:95000<f){key:Int}(u:key<=p.2.k)(S:Int)(hh o:ze) :
  Do (vq f q (zY.mk 5 S hh o p.1 key)) fun res=>∃ rs r' C' x,res=(okA (ze.mk 0 0) ⟨p.2.i,key,p.2.s⟩,x)/\h.rs.Perm (p::rs)/\PQ M x T (⟨h.ref,h.k,r',C',(p.1,⟨p.2.i,key,p.2.s⟩)::rs⟩::hs)/\x.serial=q.serial/\Stp' q x (bd h.k h.rs.length+2):=by
 have hm:h∈h::hs:=List.mem_cons_self ..;have l:=Q.hk h hm;obtain⟨κ,n,I,F⟩:=Q.ar;have H:=F.yt;have J:=Q.cell hm hp;have A:=oK hm hp;unfold vq w8 v8;rw[J];simp only[bS];rw[uU (Q.len A)];simp only[bS];refine Do.f rfl ?_;refine Do.f (dF (by omega)) ?_;rw[Q.heap hm];simp only[bS];refine (l.2.lower H (List.mem_map_of_mem (f:=Prod.snd) hp) u).bind ?_;rintro _ ⟨U,a1,rfl,h1,H1⟩;refine (Ao (f:=f) (y:=⟨p.2.i,key,p.2.s⟩) l.1 h1 rfl (by unfold It.lt;simp only;omega) H1 (by rw[HR.vg];omega) hf).bind ?_;rintro _ ⟨r',q0,C',a2,rfl,B,h2,z⟩;obtain⟨s,t,e⟩:=List.append_of_mem hp;have j:h.rs.Perm (p::(s++t)):=by rw[e];exact List.perm_middle
 have hq:((s++t).map Prod.snd).Perm q0:=by
  have:=(j.map Prod.snd).symm.trans B;rw[pC] at this;exact this.cons_inv
 have D:=(Q.re j).low (p:=p) (y:=⟨p.2.i,key,p.2.s⟩) (rs:=s++t) (r':=r') (C':=C') (a2:=a2) rfl rfl rfl (h2.p (hq.symm.cons _) (.refl _)) z I;simp only[<- j.length_eq] at D;refine Do.seq (PQ.root Q.ih (Q.live hm) r' h.rs.length) ?_;refine⟨_,rfl,s++t,r',C',_,rfl,j,D,rfl,z.lo,?_⟩;have:=z.hi;rw[HR.vg] at this;simp only at this ⊢;omega
end
end
noncomputable section
set_option maxRecDepth 10000
namespace Pt
def refs:List zp->Nat->List ze
 | [],_=>[]
 | x::l,i=>(if x.taken=true then [ze.mk (i:Int) x.gen] else [])++refs l (i+1)
theorem rr {r:ze}:∀ {l:List zp}{i:Nat},r∈refs l i ↔ ∃ (j:Nat) (x:zp),r.At=((i+j:Nat):Int)/\l[j]? = some x/\x.taken=true/\r.Gen=x.gen
 | [],i=>by simp[refs]
 | x::l,i=>by
  rw[refs,iA,rr];constructor
  ·rintro (h|⟨j,y,e,h,ht,t⟩)
   ·split at h
    ·rw[List.mem_singleton.1 h];exact⟨0,x,rfl,rfl,by assumption,rfl⟩
    ·cases h
   ·exact⟨j+1,y,by rw[e];congr 1;omega,h,ht,t⟩
  ·rintro⟨j,y,e,h,ht,t⟩;cases j with
   | zero =>
    simp only[List.getElem?_cons_zero,Option.some.injEq] at h;subst h
    left
    rw[if_pos ht];cases r;simp only at e t ⊢;rw[e,t];simp
   | succ j=>exact Or.inr ⟨j,y,by rw[e];congr 1;omega,h,ht,t⟩
theorem jM {r:ze}{l:List zp}{i:Nat}(h:r∈refs l i):(i:Int)<=r.At:=by
 obtain⟨j,x,e,_⟩:=rr.1 h;omega
theorem s0:∀ {l:List zp}{i:Nat},(refs l i).Nodup
 | [],i=>List.nodup_nil
 | x::l,i=>by
  rw[refs];refine List.nodup_append.2 ⟨by split <;> simp,s0,fun a ha b j e=>?_⟩;have:=jM j;split at ha
  ·rw[List.mem_singleton.1 ha] at e;subst e;simp only at this;omega
  ·cases ha
theorem pE:∀ {l:List zp}{i:Nat},(refs l i).length<=l.length
 | [],i=>Nat.le_refl _
 | x::l,i=>by
  have:=pE (l:=l) (i:=i+1);rw[refs,lA,lC];split <;> simp <;> omega
theorem l7 {p:zd}(hl:p.l.length<=65536):∀ (rest pre:List zp) (out:List ze) (m:Nat),p.l=pre++rest->out.length<=pre.length->rest.length<m ->
  yz (p.l.length:Int) p m out (pre.length:Int)=some (out++refs rest pre.length)
 | [],pre,out,m+1,e,j,hm=>by
  unfold yz;rw[dF (by rw[e];simp),cF,refs,aN]
 | x::rest,pre,out,m+1,e,j,hm=>by
  have hlen:p.l.length=pre.length+(rest.length+1):=by rw[e];simp
  have ih:=l7 hl rest (pre++[x]) (out++(if x.taken=true then [ze.mk (pre.length:Int) x.gen] else [])) m (by rw[e];simp) (by rw[lA,lA];split <;> simp <;> omega) (by simp only[lC] at hm;omega);have i:mIdx p.l (pre.length:Int)=some x:=by rw[e];exact yr pre rest x
  unfold yz;rw[dT (by omega),cT,i];simp only[bS];rw[zP (by omega) (by omega)];rw[show ((pre++[x]).length:Int)=(pre.length:Int)+1 by simp] at ih;rw[show (pre++[x]).length=pre.length+1 by simp] at ih;rw[refs,<- aA];cases ht:x.taken with
  | true =>
   rw[ht,if_pos rfl] at ih;rw[cT,y4 (by simp only[List.length_singleton];omega)];simp only[bS,if_true];exact ih
  | false =>
   rw[ht] at ih;simp only[Bool.false_eq_true,if_false,aN,cF,bS] at ih ⊢;exact ih
section
variable {p:zd} {T:Nat}
def out (p:zd):List ze:=refs p.l 0
theorem Inv.lb (I:Inv p T):p.l.length<=65536:=by have:=I.len;have:=I.most;omega
theorem qQ (I:Inv p T){k:Nat}(hk:65536<k):xI k p=some (out p):=by
 have:=I.lb;unfold xI;rw[show (0:Int)=(([]:List zp).length:Int) from rfl,l7 this p.l [] [] k rfl (Nat.le_refl _) (by omega)]
 rfl
theorem nh {r:ze}:r∈out p ↔ ∃ v,Live p r v:=by
 unfold out Live;rw[rr];constructor
 ·rintro⟨j,x,e,h,ht,i⟩;refine⟨x.v_,j,by rw[e];congr 1;omega,?_⟩;rw[h];cases x;simp only at ht i ⊢;rw[ht,i]
 ·rintro⟨v,j,e,h⟩;exact⟨j,_,by rw[e];congr 1;omega,h,rfl,rfl⟩
theorem ni:(out p).Nodup:=s0
theorem Inv.iH (I:Inv p T):(out p).length<=65536:=Nat.le_trans pE I.lb
theorem jG {n:Int}(h0:0<=n)(h1:n<=65536)(T:Nat):Inv (zd.mk n [] []) T :=
 ⟨⟨h0,h1⟩,by simpa using h0,by simp,List.nodup_nil,by simp,by simp⟩
theorem iE {n:Int}{r:ze}{v:zA}:¬ Live (zd.mk n [] []) r v:=by
 rintro⟨j,_,h⟩;simp at h
theorem Inv.mono {T':Nat}(I:Inv p T)(h:T<=T'):Inv p T':={ I with gen:=fun j x e=>by have:=I.gen j x e;omega }
end
end Pt
end
noncomputable section
set_option maxRecDepth 10000
def ng (p:zd)(g:ze)(r:ze):Bool:=match ye p r with
 | some v=>ze.eq v.1.heap g
 | none=>false
theorem jB {t:zj}{T:Nat}(I:Pt.Inv t.items T)(g:ze)(l:List ze)(hl:l.length<=65536)(hv:∀ r∈l,∃ v,Pt.Live t.items r v) :
  ∀ (rest pre out:List ze) (m:Nat),l=pre++rest->out.length<=pre.length->rest.length<m->xD (l.length:Int) t l g.At g.Gen m out (pre.length:Int)=some (out++rest.filter (ng t.items g))
 | [],pre,out,m+1,e,y,hm=>by
  unfold xD;rw[dF (by rw[e];simp),cF];simp
 | x::rest,pre,out,m+1,e,y,hm=>by
  have hlen:l.length=pre.length+(rest.length+1):=by rw[e];simp
  obtain⟨v,z⟩:=hv x (by rw[e];simp);have i:=Pt.wL I z;have u:ng t.items g x=ze.eq v.heap g:=by unfold ng;rw[i]
  have j:mIdx l (pre.length:Int)=some x:=by rw[e];exact yr pre rest x
  simp only[lC] at hm;unfold xD;rw[dT (by omega),cT,j];simp only[bS];rw[i];simp only[bS];rw[zP (by omega) (by omega),List.filter_cons,u,show (ze.mk g.At g.Gen)=g from rfl];cases A:ze.eq v.heap g with
  | true =>
   have ih:=jB I g l hl hv rest (pre++[x]) (out++[x]) m (by rw[e];simp) (by simp;omega) (by omega);rw[show ((pre++[x]).length:Int)=(pre.length:Int)+1 by simp] at ih;rw[cT,y4 (by simp only[List.length_singleton];omega)];simp only[bS,if_true];rw[ih];simp
  | false =>
   have ih:=jB I g l hl hv rest (pre++[x]) out m (by rw[e];simp) (by simp;omega) (by omega);rw[show ((pre++[x]).length:Int)=(pre.length:Int)+1 by simp] at ih;rw[cF];simp only[bS,Bool.false_eq_true,if_false];exact ih
theorem ej {h g:ze}{T:Nat}(l:List ze)(hl:l.length<=65536)(hn:l.Nodup){p0:zd}(h0:∀ r∈l,∃ c,Pt.Live p0 r ⟨c,g⟩) :
  ∀ (rest pre:List ze) (t:zj) (m:Nat),l=pre++rest->rest.length<m->Pt.Inv t.items T->t.items.most=p0.most->t.items.l.length=p0.l.length->t.items.free=p0.free ->
   (∀ s u,Pt.Live t.items s u ↔ (s∈pre /\ ∃ c,Pt.Live p0 s ⟨c,g⟩/\u=⟨c,h⟩) \/ (s ∉ pre/\Pt.Live p0 s u)) ->
   ∃ p',xC (l.length:Int) l g.At g.Gen h.At h.Gen m (pre.length:Int) t=some (zj.mk t.heaps p' t.at_)/\Pt.Inv p' T/\p'.most=p0.most/\p'.l.length=p0.l.length/\p'.free=p0.free /\
    (∀ s u,Pt.Live p' s u ↔ (s∈l /\ ∃ c,Pt.Live p0 s ⟨c,g⟩/\u=⟨c,h⟩) \/ (s ∉ l/\Pt.Live p0 s u))
 | [],pre,t,m+1,e,hm,I,z,A,B,j=>by
  refine⟨t.items,?_,I,z,A,B,by rw[e,aN];exact j⟩;unfold xC;rw[dF (by rw[e];simp),cF]
 | x::rest,pre,t,m+1,e,hm,I,z,A,B,j=>by
  have hlen:l.length=pre.length+(rest.length+1):=by rw[e];simp
  obtain⟨c,S⟩:=h0 x (by rw[e];simp);have y:x ∉ pre:=by
   rw[e] at hn;obtain⟨_,_,h3⟩:=List.nodup_append.1 hn;exact fun hp=>h3 x hp x (List.mem_cons_self ..) rfl
  have i:Pt.Live t.items x ⟨c,g⟩:=(j _ _).2 (Or.inr ⟨y,S⟩);have F:mIdx l (pre.length:Int)=some x:=by rw[e];exact yr pre rest x
  simp only[lC] at hm;have O:=Pt.rD I i (zA.mk c h);have D:=Pt.tB i (zA.mk c h);obtain⟨p',U,r⟩:=ej l hl hn h0 rest (pre++[x]) (zj.mk t.heaps (zd.mk t.items.most (mSet t.items.l x.At ⟨x.Gen,true,zA.mk c h⟩) t.items.free) t.at_) m (by rw[e];simp) (by omega) (Pt.rC I i _) z (by simpa[mSet] using A) B (by
   intro s u;refine (D s u).trans ?_;simp only[iA,List.mem_singleton];constructor
   ·rintro (⟨rfl,rfl⟩|⟨J,hl⟩)
    ·exact Or.inl ⟨Or.inr rfl,c,S,rfl⟩
    ·rcases (j _ _).1 hl with ⟨h1,h2⟩|⟨h1,h2⟩
     ·exact Or.inl ⟨Or.inl h1,h2⟩
     ·exact Or.inr ⟨fun h3=>h3.elim h1 J,h2⟩
   ·rintro (⟨h1|rfl,c',h2,rfl⟩|⟨h1,h2⟩)
    ·exact Or.inr ⟨fun e=>y (e ▸ h1),(j _ _).2 (Or.inl ⟨h1,c',h2,rfl⟩)⟩
    ·have:=S.uniq h2;simp only[zA.mk.injEq,and_true] at this;exact Or.inl ⟨rfl,by rw[this]⟩
    ·simp only[not_or] at h1;exact Or.inr ⟨h1.2,(j _ _).2 (Or.inr ⟨h1.1,h2⟩)⟩)
  rw[show ((pre++[x]).length:Int)=(pre.length:Int)+1 by simp] at U;refine⟨p',?_,r⟩;unfold xC;rw[dT (by omega),cT,F];simp only[bS];rw[Pt.wL I i];simp only[bS];rw[show (ze.mk h.At h.Gen)=h from rfl,O];simp only[bS];rw[zP (by omega) (by omega)];exact U
section
variable {M:Nat} {q:zo} {T:Nat} {h g:HR} {hs hs':List HR}
theorem ag (hn:(hs.map HR.ref).Nodup){a b:HR}(ha:a∈hs)(l:b∈hs)(e:a.ref=b.ref):a=b:=by
 induction hs with
 | nil=>cases ha
 | cons c hs ih =>
  rw[pC,List.nodup_cons] at hn;rcases List.mem_cons.1 ha with j|j
  ·rcases List.mem_cons.1 l with i|i
   ·rw[j,i]
   ·exact absurd (by rw[<- j,e];exact List.mem_map_of_mem (f:=HR.ref) i) hn.1
  ·rcases List.mem_cons.1 l with i|i
   ·exact absurd (by rw[<- i,<- e];exact List.mem_map_of_mem (f:=HR.ref) j) hn.1
   ·exact ih hn.2 j i
theorem PQ.meld (Q:PQ M q T (h::g::hs))(a3:h.k=g.k)(c1:h.rs.length<256)(c2:g.rs.length<256){f:Nat}(hf:95000<f) :
  Do (u7 f q h.ref g.ref) fun res=>∃ r' C' q',res=(zJ.mk 0 (ze.mk 0 0) (ze.mk 0 0) (zi.mk 0 0) ((h.rs.length:Int)+g.rs.length),q')/\PQ M q' T (⟨h.ref,h.k,r',C',h.rs++g.rs⟩::hs)/\q'.serial=q.serial/\Stp' q q' (bd h.k (h.rs.length+g.rs.length)):=by
 have hm:h∈h::g::hs:=List.mem_cons_self ..;have B:g∈h::g::hs:=mC _ (List.mem_cons_self ..);have O:=Q.hk h hm;have Y:=Q.hk g B;rw[<- a3] at Y;have F:h.ref≠g.ref:=by
  intro e;have:=Q.hn;simp[e] at this
 have D:=Q.live B;obtain⟨κ,n,eC,H0⟩:=Q.ar;have H:=H0.yt;rw[qO,qO] at H;have I:=Q.ii;have z:ug f q.t_ g.ref=some ((Pt.out q.t_.items).filter (ng q.t_.items g.ref)):=by
  unfold ug;rw[Pt.qQ I (by omega)];simp only[bS];rw[show (0:Int)=(([]:List ze).length:Int) from rfl,jB I g.ref (Pt.out q.t_.items) I.iH (fun r hr=>Pt.nh.1 hr) (Pt.out q.t_.items) [] [] f (List.nil_append _).symm (Nat.le_refl _) (by have:=I.iH;omega)];simp
 generalize S:(Pt.out q.t_.items).filter (ng q.t_.items g.ref)=l' at z;have x:∀ r,r∈l' ↔ ∃ p∈g.rs,r=p.1:=by
  intro r;rw[<- S,List.mem_filter];constructor
  ·rintro⟨h1,h2⟩;obtain⟨v,hv⟩:=Pt.nh.1 h1;unfold ng at h2;rw[Pt.wL I hv] at h2;have h3:=(vZ _ _).1 h2;obtain⟨g0,j,p,hp,rfl,rfl⟩:=(Q.il _ _).1 hv;have:=ag Q.hn j B h3;subst this;exact⟨p,hp,rfl⟩
  ·rintro⟨p,hp,rfl⟩;have hv:Pt.Live q.t_.items p.1 ⟨(p.2.i:Int),g.ref⟩:=(Q.il _ _).2 ⟨g,B,p,hp,rfl,rfl⟩;refine⟨Pt.nh.2 ⟨_,hv⟩,?_⟩;unfold ng;rw[Pt.wL I hv];exact (vZ _ _).2 rfl
 have U:l'.length<=65536:=by rw[<- S];exact Nat.le_trans (List.length_filter_le _ _) I.iH
 have a5:l'.Nodup:=by rw[<- S];exact Pt.ni.sublist List.filter_sublist
 obtain⟨p',e4,I',e5,e6,e7,b0⟩:=ej (h:=h.ref) (g:=g.ref) l' U a5 (p0:=q.t_.items) (fun r hr=>by
  obtain⟨p,hp,rfl⟩:=(x r).1 hr;exact⟨_,(Q.il _ _).2 ⟨g,B,p,hp,rfl,rfl⟩⟩) l' [] q.t_ f rfl (by omega) I rfl rfl rfl (fun s u=>by simp)
 simp only[List.length_nil] at e4;have A:=Q.live hm;have J:uf f q.t_ h.ref g.ref=some (0,zj.mk (zg.mk q.t_.heaps.most (mSet q.t_.heaps.l g.ref.At ⟨g.ref.Gen,false,(zB.mk 0 0 0)⟩) (q.t_.heaps.free++[g.ref.At])) p' q.t_.at_):=by
  unfold uf;rw[Ph.wL Q.ih A];simp only[bS];rw[show ((0:Int) != 0)=false from rfl,cF,Ph.wL Q.ih D];simp only[bS];rw[show ((0:Int) != 0)=false from rfl,cF,show ze.eq h.ref g.ref=false by simpa using fun e=>F ((vZ _ _).1 e),cF,show (h.val.kind != g.val.kind)=false by simpa[HR.val] using a3,cF,z];simp only[bS];rw[show ((0:Nat):Int)=0 from rfl] at e4;rw[e4];simp only[bS];rw[Ph.sR Q.ih D]
  rfl
 unfold u7;rw[Q.heap hm];simp only[bS];rw[Q.heap B];simp only[bS];rw[J];simp only[bS];refine Do.f rfl ?_;refine (Ap (f:=f) O.1 O.2 Y.2 H (by rw[HR.vg];omega) (by rw[HR.vg];omega) hf).bind ?_;rintro _ ⟨r',C',a1,rfl,h1,H1⟩;rw[zP (by omega) (by omega)];have a0:=Ph.qZ Q.ih D;have Z:=Ph.rP D;have y:=(Z h.ref h.val).2 ⟨F,A⟩;refine Do.seq (PQ.root (t:=zj.mk (zg.mk q.t_.heaps.most (mSet q.t_.heaps.l g.ref.At ⟨g.ref.Gen,false,(zB.mk 0 0 0)⟩) (q.t_.heaps.free++[g.ref.At])) p' q.t_.at_) a0 y r' ((h.rs.length:Int)+g.rs.length)) ?_;have X:allR (⟨h.ref,h.k,r',C',h.rs++g.rs⟩::hs)=allR (h::g::hs):=by
  rw[wE,wE,wE,aA]
 have a4:((h::hs).map HR.ref).Nodup:=by
  have:=Q.hn;simp only[pC,List.nodup_cons,iC,not_or] at this ⊢;exact⟨this.1.2,this.2.2⟩
 have a2:∀ g0∈hs,g0.ref≠g.ref:=by
  have:=Q.hn;simp only[pC,List.nodup_cons] at this;exact fun g0 h0 e=>this.2.1 (e ▸ List.mem_map_of_mem (f:=HR.ref) h0)
 refine⟨_,rfl,r',C',_,rfl,?_,rfl,H1.lo,?_⟩
 ·refine⟨?_,I',?_,?_,Q.at1,?_,Q.en1,?_,?_,a4,?_,?_,⟨⟨κ.C,q.a_.m_.steps,κ.g,κ.mo⟩,_,eC,H1⟩,Q.mi,e5.trans Q.mm,Q.mb,?_,?_,Q.cm,?_,Q.sq⟩
  ·exact Ph.rC a0 y (zB.mk h.k r' ((h.rs.length:Int)+g.rs.length))
  ·refine ik (h:=h) (P:=Ph.Live (zg.mk q.t_.heaps.most (mSet q.t_.heaps.l g.ref.At ⟨g.ref.Gen,false,(zB.mk 0 0 0)⟩) (q.t_.heaps.free++[g.ref.At]))) ?_ a4 rfl fun s u=>?_
   ·intro s u;refine (Z s u).trans ⟨?_,?_⟩
    ·rintro⟨a6,hl⟩;obtain⟨g0,j,rfl,rfl⟩:=(Q.hl _ _).1 hl;simp only[iC] at j;rcases j with rfl|rfl|j
     ·exact⟨_,List.mem_cons_self ..,rfl,rfl⟩
     ·exact absurd rfl a6
     ·exact⟨g0,mC _ j,rfl,rfl⟩
    ·rintro⟨g0,j,rfl,rfl⟩;rcases List.mem_cons.1 j with rfl|j
     ·exact⟨F,A⟩
     ·exact⟨a2 g0 j,(Q.hl _ _).2 ⟨g0,by simp[j],rfl,rfl⟩⟩
   ·have:=Ph.tB y (zB.mk h.k r' ((h.rs.length:Int)+g.rs.length)) s u;simpa[HR.val] using this
  ·intro s u;refine (b0 s u).trans ⟨?_,?_⟩
   ·rintro (⟨W,c,hc,rfl⟩|⟨W,hl⟩)
    ·obtain⟨p,hp,rfl⟩:=(x s).1 W;have:=hc.uniq ((Q.il _ _).2 ⟨g,B,p,hp,rfl,rfl⟩);simp only[zA.mk.injEq,and_true] at this;exact⟨_,List.mem_cons_self ..,p,List.mem_append_right _ hp,rfl,by rw[this]⟩
    ·obtain⟨g0,j,p,hp,rfl,rfl⟩:=(Q.il _ _).1 hl;simp only[iC] at j;rcases j with rfl|rfl|j
     ·exact⟨_,List.mem_cons_self ..,p,mL _ hp,rfl,rfl⟩
     ·exact absurd ((x _).2 ⟨p,hp,rfl⟩) W
     ·exact⟨g0,mC _ j,p,hp,rfl,rfl⟩
   ·have key:∀ g0∈h::g::hs,g0.ref≠g.ref -> ∀ p∈g0.rs,p.1 ∉ l':=by
     intro g0 j a7 p hp hl;obtain⟨p2,b1,e⟩:=(x _).1 hl;have h5:=(Q.il p.1 _).2 ⟨g0,j,p,hp,rfl,rfl⟩;have h6:=(Q.il p.1 _).2 ⟨g,B,p2,b1,e,rfl⟩;have:=h5.uniq h6;simp only[zA.mk.injEq] at this;exact a7 this.2
    rintro⟨g0,j,p,hp,rfl,rfl⟩;rcases List.mem_cons.1 j with rfl|j
    ·rcases List.mem_append.1 hp with hp|hp
     ·exact Or.inr ⟨key h hm F p hp,(Q.il _ _).2 ⟨h,hm,p,hp,rfl,rfl⟩⟩
     ·exact Or.inl ⟨(x _).2 ⟨p,hp,rfl⟩,_,(Q.il _ _).2 ⟨g,B,p,hp,rfl,rfl⟩,rfl⟩
    ·exact Or.inr ⟨key g0 (by simp[j]) (a2 g0 j) p hp,(Q.il _ _).2 ⟨g0,by simp[j],p,hp,rfl,rfl⟩⟩
  ·rw[X];exact Q.at2
  ·rw[X];exact Q.en2
  ·intro g0 j;rcases List.mem_cons.1 j with rfl|j
   ·refine⟨O.1,?_⟩;show HK (KD h.k) r' ((h.rs++g.rs).map Prod.snd) C';rw[List.map_append];exact h1
   ·exact Q.hk g0 (by simp[j])
  ·rw[X];exact Q.rn
  ·rw[X];exact Q.sn
  ·rw[X];show (p'.l.length:Int) - p'.free.length=_;rw[e6,e7];exact Q.ci
  ·have:=Q.ch;simp only[mSet,List.length_set,lA,lC,List.length_nil] at this ⊢;omega
  ·rw[X];exact Q.sr
 ·have:=H1.hi;rw[HR.vg,HR.vg] at this;simp only at this ⊢;omega
theorem PQ.make (Q:PQ M q T hs){k:Int}(hk:Kd k)(z:hs.length<64)(F:T<4611686018427387000) :
  ∃ r x,uh q.t_ k=some (r,0,x)/\PQ M (zo.mk q.items q.a_ x q.entries q.serial) (T+1) (⟨r,k,-1,[],[]⟩::hs):=by
 obtain⟨r,p',e,y,j,B,t,i⟩:=Ph.r8 Q.ih (by omega) (by have:=Q.ch;have:=Q.cm;omega) (zB.mk k (-1) 0);have l:sU k=some true:=by
  unfold sU;rcases hk with rfl|rfl|rfl <;> rfl
 refine⟨r,zj.mk p' q.t_.items q.t_.at_,?_,?_⟩
 ·unfold uh;rw[l];simp only[bS];rw[show (!true)=false from rfl,cF,e]
  rfl
 ·have D:allR (⟨r,k,-1,[],[]⟩::hs)=allR hs:=rfl;have A:allC (⟨r,k,-1,[],[]⟩::hs)=allC hs:=rfl;refine⟨y,Q.ii.mono (by omega),?_,?_,Q.at1,Q.at2,Q.en1,Q.en2,?_,?_,Q.rn,Q.sn,Q.ar,Q.mi,Q.mm,Q.mb,Q.ci,?_,t.trans Q.cm,Q.sr,?_⟩
  ·intro s u;refine (B s u).trans ⟨?_,?_⟩
   ·rintro (⟨rfl,rfl⟩|hl)
    ·exact⟨_,List.mem_cons_self ..,rfl,rfl⟩
    ·obtain⟨g0,h0,e⟩:=(Q.hl _ _).1 hl;exact⟨g0,mC _ h0,e⟩
   ·rintro⟨g0,h0,rfl,rfl⟩;rcases List.mem_cons.1 h0 with rfl|h0
    ·exact Or.inl ⟨rfl,rfl⟩
    ·exact Or.inr ((Q.hl _ _).2 ⟨g0,h0,rfl,rfl⟩)
  ·intro s u;refine (Q.il s u).trans ⟨?_,?_⟩
   ·rintro⟨g0,h0,e⟩;exact⟨g0,mC _ h0,e⟩
   ·rintro⟨g0,h0,p,hp,e⟩;rcases List.mem_cons.1 h0 with rfl|h0
    ·cases hp
    ·exact⟨g0,h0,p,hp,e⟩
  ·intro g0 h0;rcases List.mem_cons.1 h0 with rfl|h0
   ·exact⟨hk,BB hk⟩
   ·exact Q.hk g0 h0
  ·rw[pC,List.nodup_cons];refine⟨fun hm=>?_,Q.hn⟩;obtain⟨g0,h0,e⟩:=List.mem_map.1 hm;exact j _ ((Q.hl _ _).2 ⟨g0,h0,e.symm,rfl⟩)
  ·have:=Q.ch;simp only[lC] at i ⊢;omega
  ·have:=Q.sq;simp only;omega
theorem AE (h1:1<=M)(h2:M<=16384):∃ q,kA (M:Int)=some (some q,0)/\PQ M q 0 []/\q.serial=0/\q.a_.m_.steps=0:=by
 obtain⟨a,t,e⟩:=nI (C:=2*M) (by omega);have x:w64 (2*(M:Int))=((2*M:Nat):Int):=by rw[zP (by omega) (by omega)];simp
 have i:(if (if 16384<(M:Int) then 16384 else (M:Int)) > 1 then (if 16384<(M:Int) then 16384 else (M:Int)) else 1)=(M:Int):=by
  rw[show (if 16384<(M:Int) then 16384 else (M:Int))=(M:Int) from if_neg (by omega)];split <;> omega
 have l:(if (if 65536<(M:Int) then 65536 else (M:Int)) > 0 then (if 65536<(M:Int) then 65536 else (M:Int)) else 0)=(M:Int):=by
  rw[show (if 65536<(M:Int) then 65536 else (M:Int))=(M:Int) from if_neg (by omega),if_pos (by omega)]
 refine⟨zo.mk (M:Int) a (zj.mk (zg.mk 64 [] []) (zd.mk (M:Int) [] []) []) [] 0,?_,?_,rfl,?_⟩
 ·unfold kA;rw[show ((decide ((M:Int)<1)) || (decide ((M:Int) > 16384)))=false by simp;omega,cF,x,t];simp only[bS];unfold nE uo vS;simp only[bS];rw[i,l]
  rfl
 ·refine⟨⟨⟨by simp,by simp⟩,by simp,by simp,List.nodup_nil,by simp,by simp⟩,Pt.jG (by omega) (by omega) 0,?_,?_,List.nodup_nil,?_,List.nodup_nil,?_,?_,List.nodup_nil,List.nodup_nil,List.nodup_nil,⟨_,_,rfl,e⟩,rfl,rfl,⟨h1,h2⟩,rfl,rfl,rfl,?_,by simp⟩
  ·intro s u;constructor
   ·rintro⟨j,_,h⟩;simp at h
   ·rintro⟨g,h,_⟩;cases h
  ·intro s u;constructor
   ·rintro⟨j,_,h⟩;simp at h
   ·rintro⟨g,h,_⟩;cases h
  ·intro c s;constructor
   ·intro h;cases h
   ·rintro⟨p,hp,_⟩;cases hp
  ·intro c s;constructor
   ·intro h;cases h
   ·rintro⟨p,hp,_⟩;cases hp
  ·intro h hh;cases hh
  ·intro p hp;cases hp
 ·have:=e.lo;have:=e.hi;simp only at *;omega
end
end
noncomputable section
set_option maxRecDepth 10000
def begun (q:zo)(m:zD):zo:=zo.mk q.items (zb.mk q.a_.l q.a_.never q.a_.free m) q.t_ q.entries q.serial
section
variable {M:Nat} {q:zo} {T:Nat} {h g:HR} {hs hs':List HR} {f:Nat}
theorem PQ.begin (Q:PQ M q T hs):∃ m,uV q.a_.m_=some m/\m.steps=q.a_.m_.steps/\PQ M (begun q m) T hs:=by
 obtain⟨κ,n,e,H⟩:=Q.ar;refine⟨_,rfl,rfl,?_⟩;exact Q.Aa ⟨⟨κ.C,q.a_.m_.steps,q.a_.m_.steps,_⟩,0,e,⟨H.len,H.cap,H.nev,H.fre,H.hav,H.oth,Int.le_trans H.b0 H.lo,Int.le_refl _,by simp,H.mx,rfl,rfl⟩⟩
theorem nF {q1 q2:zo}{m:zD}{B:Nat}(e:m.steps=q.a_.m_.steps)(h:Stp' (begun q m) q2 B):Stp' q q2 B:=by
 unfold Stp' at *
 rw[<- e];exact h
theorem PQ.fS (Q:PQ M q T hs){k:Int}(hk:Kd k)(j:hs.length<64)(y:T<4611686018427387000){a b c:ze}{key:Int} :
  Do (zV f q (zY.mk 1 k a b c key)) fun res=>∃ r i,res=(zJ.mk 0 r (ze.mk 0 0) (zi.mk 0 0) 0,i)/\PQ M i (T+1) (⟨r,k,-1,[],[]⟩::hs)/\i.serial=q.serial/\Stp' q i 0:=by
 obtain⟨m,e,es,l⟩:=Q.begin;unfold zV;refine Do.seq (r:=()) rfl (Do.seq e (Do.t rfl ?_));obtain⟨r,z,x,u⟩:=l.make hk j y;refine Do.seq x ?_;exact⟨_,rfl,r,_,rfl,u,rfl,nF (q1:=q) es ⟨Int.le_refl _,by simp[begun]⟩⟩
theorem PQ.dH (Q:PQ M q T (h::hs))(j:(allR (h::hs)).length<M)(u:h.rs.length<1000)(B:T<4611686018427387000)(hf:95000<f)(y:Int)(key:Int)(o i0:ze) :
  Do (zV f q (zY.mk 2 y h.ref o i0 key)) fun res=>∃ (i:ze) (x:It) (r':Int) (C':Heap) (l:zo),res=(zJ.mk 0 (ze.mk 0 0) i (zi.mk key q.serial) 0,l)/\x.k=key/\x.s=q.serial /\
   PQ M l (T+1) (⟨h.ref,h.k,r',C',(i,x)::h.rs⟩::hs)/\l.serial=q.serial+1/\Stp' q l (bd h.k h.rs.length+3):=by
 obtain⟨m,e,es,z⟩:=Q.begin;unfold zV;refine Do.seq (r:=()) rfl (Do.seq e (Do.f rfl (Do.t rfl ?_)));refine (z.insert j u B hf y key o i0).bind ?_;rintro _ ⟨i,x,r',C',l,rfl,h1,h2,h3,h4,A⟩;exact⟨_,rfl,i,x,r',C',l,rfl,h1,h2,h3,h4,nF (q1:=q) es A⟩
theorem PQ.Bv (Q:PQ M q T (h::hs))(j:h.rs.length<1000)(hf:95000<f){k key:Int}{o i0:ze} :
  Do (zV f q (zY.mk 3 k h.ref o i0 key)) fun res=>∃ i,PQ M i T (h::hs)/\i.serial=q.serial/\Stp' q i 100/\((h.rs=[]/\res=(zJ.mk 27 (ze.mk 0 0) (ze.mk 0 0) (zi.mk 0 0) 0,i)) \/ ∃ p∈h.rs,res=(okA p.1 p.2,i) /\ ∀ p'∈h.rs,¬ p'.2.lt p.2):=by
 obtain⟨m,e,es,l⟩:=Q.begin;unfold zV;refine Do.seq (r:=()) rfl (Do.seq e (Do.f rfl (Do.f rfl (Do.t rfl ?_))));refine (l.min j hf).bind ?_;rintro res ⟨i,h1,h2,h3,h4⟩;exact⟨_,rfl,i,h1,h2,nF (q1:=q) es h3,h4⟩
theorem PQ.Bw (Q:PQ M q T (h::hs))(l:h.rs.length<1000)(j:h.rs≠[])(hf:95000<f){k key:Int}{o i0:ze} :
  Do (zV f q (zY.mk 4 k h.ref o i0 key)) fun res=>∃ p rs r' C' i,res=(okA p.1 p.2,i)/\h.rs.Perm (p::rs)/\(∀ p'∈h.rs,¬ p'.2.lt p.2)/\PQ M i T (⟨h.ref,h.k,r',C',rs⟩::hs)/\i.serial=q.serial/\Stp' q i (bd h.k h.rs.length+1):=by
 obtain⟨m,e,es,u⟩:=Q.begin;unfold zV;refine Do.seq (r:=()) rfl (Do.seq e (Do.f rfl (Do.f rfl (Do.f rfl (Do.t rfl ?_)))));refine (u.pop l j hf).bind ?_;rintro res ⟨p,rs,r',C',i,h1,h2,h3,h4,x,y⟩;exact⟨_,rfl,p,rs,r',C',i,h1,h2,h3,h4,x,nF (q1:=q) es y⟩
theorem PQ.gk (Q:PQ M q T (h::hs))(u:h.rs.length<1000){p:ze × It}(hp:p∈h.rs)(hf:95000<f){key:Int}(l:key<=p.2.k){k:Int}{hh o:ze} :
  Do (zV f q (zY.mk 5 k hh o p.1 key)) fun res=>∃ rs r' C' j,res=(okA (ze.mk 0 0) ⟨p.2.i,key,p.2.s⟩,j)/\h.rs.Perm (p::rs)/\PQ M j T (⟨h.ref,h.k,r',C',(p.1,⟨p.2.i,key,p.2.s⟩)::rs⟩::hs)/\j.serial=q.serial/\Stp' q j (bd h.k h.rs.length+2):=by
 obtain⟨m,e,es,x⟩:=Q.begin;unfold zV;refine Do.seq (r:=()) rfl (Do.seq e (Do.f rfl (Do.f rfl (Do.f rfl (Do.f rfl (Do.t rfl ?_))))));refine (x.dG u hp hf l k hh o).bind ?_;rintro res ⟨rs,r',C',j,h1,h2,h4,y,z⟩;exact⟨_,rfl,rs,r',C',j,h1,h2,h4,y,nF (q1:=q) es z⟩
theorem PQ.dJ (Q:PQ M q T (h::hs))(j:h.rs.length<1000){p:ze × It}(hp:p∈h.rs)(hf:95000<f){k key:Int}{hh o:ze} :
  Do (zV f q (zY.mk 6 k hh o p.1 key)) fun res=>∃ rs r' C' i,res=(okA (ze.mk 0 0) p.2,i)/\h.rs.Perm (p::rs)/\PQ M i T (⟨h.ref,h.k,r',C',rs⟩::hs)/\i.serial=q.serial/\Stp' q i (bd h.k h.rs.length+1):=by
 obtain⟨m,e,es,l⟩:=Q.begin;unfold zV;refine Do.seq (r:=()) rfl (Do.seq e (Do.f rfl (Do.f rfl (Do.f rfl (Do.f rfl (Do.f rfl (Do.t rfl ?_)))))));refine (l.remove j hp hf).bind ?_;rintro res ⟨rs,r',C',i,h1,h2,h4,u,x⟩;exact⟨_,rfl,rs,r',C',i,h1,h2,h4,u,nF (q1:=q) es x⟩
theorem PQ.Ad (Q:PQ M q T (h::g::hs))(j:h.k=g.k)(l:h.rs.length<256)(u:g.rs.length<256)(hf:95000<f){k key:Int}{i0:ze} :
  Do (zV f q (zY.mk 7 k h.ref g.ref i0 key)) fun res=>∃ r' C' i,res=(zJ.mk 0 (ze.mk 0 0) (ze.mk 0 0) (zi.mk 0 0) ((h.rs.length:Int)+g.rs.length),i)/\PQ M i T (⟨h.ref,h.k,r',C',h.rs++g.rs⟩::hs)/\i.serial=q.serial/\Stp' q i (bd h.k (h.rs.length+g.rs.length)):=by
 obtain⟨m,e,es,x⟩:=Q.begin;unfold zV;refine Do.seq (r:=()) rfl (Do.seq e (Do.f rfl (Do.f rfl (Do.f rfl (Do.f rfl (Do.f rfl (Do.f rfl (Do.t rfl ?_))))))));refine (x.meld j l u hf).bind ?_;rintro res ⟨r',C',i,h1,h4,y,z⟩;exact⟨_,rfl,r',C',i,h1,h4,y,nF (q1:=q) es z⟩
end
end
end Go.Proofs.YtojpmaakhdmhmaaGreat
