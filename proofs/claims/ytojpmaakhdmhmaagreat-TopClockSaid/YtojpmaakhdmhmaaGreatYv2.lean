/-
  The statements TopEnds, TopClock of the program.
  Text 2 of 8: of what the proof needs (a row of the program: no condition is left); put together and made narrow by a program.
-/
import Derived.Below
import Derived.Deep.Slices
import Derived.Deep.Strs
import Derived.Laws.BytesString
import Derived.Laws.Externs
import Derived.Lib.AppendZerosOnto
import Derived.Lib.Overlaps
import Derived.Lib.SmallJoins
import Derived.MapKept
import Derived.Sort.Grow
import Derived.Sort.Row
import Derived.Test.YtojpmaakhdmhmaaGreatYv1
set_option linter.unusedVariables false
set_option linter.unusedSimpArgs false
namespace Go.Th
noncomputable section
theorem St.below {w w':World}{As:List HP}(H:St w As w')(i:Nat)(hi:As[i]? = some (Old w)):Go.RowKit.Below w.heap.size w w':=by
 have j:=H.old i hi;refine⟨H.os,H.tape,H.output,?_,j⟩;by_cases hz:w.heap.size=0
 ·omega
 ·have:=j (w.heap.size - 1) (by omega);have e:w.heap[w.heap.size - 1]? = some (w.heap[w.heap.size - 1]'(by omega)):=by simp
  rw[e] at this;have:=(Array.getElem?_eq_some_iff.1 this).1;omega
theorem jC {α:Type}{p:Nat -> α -> Prop}:∀ n:Nat,(∀ i,i<n -> ∃ x,p i x) -> ∃ l:List α,l.length=n /\ ∀ (i:Nat) (x:α),l[i]? = some x->p i x
 | 0,_=>⟨[],rfl,fun i x h=>by simp at h⟩
 | n+1,h=>by
  obtain⟨l,hl,hp⟩:=jC n fun i hi=>h i (by omega)
  obtain⟨x,u⟩:=h n (by omega);refine⟨l++[x],by simp[hl],fun i y e=>?_⟩;by_cases hi:i<n
  ·rw[List.getElem?_append_left (by omega)] at e;exact hp i y e
  ·have t:=(List.getElem?_eq_some_iff.1 e).1;simp[hl] at t;have j:i=n:=by omega
   subst j;rw[List.getElem?_append_right (by omega)] at e;simp[hl] at e;subst e;exact u
section
variable {α H:Type} {en:TypeId × Value->H} {P:Program} {w:World} {base:Nat} {spare:Nat->Bool} {held:Bool} {enc:α -> List Value} {sz:Nat}
theorem AA (he:wj enc sz)(hs:0<sz){a:Addr}(l:List α)(h:∀ (j:Nat) (u:Value),(l.flatMap enc)[j]? = some u->w.cell? (a.add j)=some u):SlRd (Old w) enc sz (some a) l:=by
 intro g F;by_cases hl:l=[]
 ·exact .inl hl
 have e:=yi he l;have x:0<l.length:=by cases l with
  | nil=>exact absurd rfl hl
  | cons=>simp
 have hp:0<(l.flatMap enc).length:=by rw[e];exact Nat.mul_pos x hs
 have h0:=h 0 _ (List.getElem?_eq_getElem hp);have e0:a.add 0=a:=by simp[Addr.add]
 rw[e0] at h0;obtain⟨b,off,spot⟩:=a;unfold World.cell? at h0;split at h0
 ·rename_i c T fr y;split at h0
  ·cases h0
  ·rename_i B;have A:spot=none:=by simpa using B
   subst A;have z:b<w.heap.size:=(Array.getElem?_eq_some_iff.1 y).1;refine .inr ⟨b,off,c,T,fr,rfl,by rw[F b z];exact y,fun i hi=>?_⟩;have t:i<(l.flatMap enc).length:=by rw[e];exact hi
   have D:=h i _ (List.getElem?_eq_getElem t);rw[List.getElem?_eq_getElem t,<- D];unfold Addr.add;split
   ·rename_i hz;subst hz;simp[World.cell?,y]
   ·simp[World.cell?,y]
 ·cases h0
theorem jJ {t e:TypeId}{fuel:Nat}{cs:List Value}{x:DataW H × List MemPlace}(ht:P.underlying t=some (.slice e))(X:P.cellsOf e=sz)(he:wj enc sz)(hs:0<sz)
  (B:∀ n cs y,DataW.trod en P w base spare held n e cs=some y -> ∃ z:α,cs=enc z) (h:DataW.trod en P w base spare held fuel t cs=some x) :
  ∃ (sb:Option Addr) (len cap:Nat) (l:List α),cs=[.slice sb len cap]/\l.length=len/\len<=cap/\SlRd (Old w) enc sz sb l:=by
 rcases Go.Deep.open_slice ht h with ⟨rfl,_⟩|⟨a,len,cap,m,n,D,Z,rfl,hb,hl,hm,O,_,Y⟩
 ·exact⟨none,0,0,[],rfl,rfl,Nat.le_refl _,fun _ _=>.inl rfl⟩
 ·obtain⟨l,J,hp⟩:=jC (α:=α) (p:=fun i z=>w.cells? base (a.add (i*sz)) sz=some (enc z)) len fun i hi=>by
   obtain⟨W,h1,h2⟩:=Y i (by rw[O];split <;> omega);obtain⟨z,rfl⟩:=B _ _ _ h2;rw[X] at h1;exact⟨z,h1⟩
  refine⟨some a,len,cap,l,rfl,J,hl,AA he hs l fun j u hu=>?_⟩;have F:=(List.getElem?_eq_some_iff.1 hu).1;rw[yi he] at F;have hj:j / sz<l.length:=Nat.div_lt_of_lt_mul (by rw[Nat.mul_comm];exact F);have hq:j % sz<sz:=Nat.mod_lt _ hs;have S:=u4 he l (j / sz) (j % sz) hj hq;have U:j / sz*sz+j % sz=j:=by rw[Nat.mul_comm];exact Nat.div_add_mod j sz
  rw[U,hu] at S;have A:=hp (j / sz) l[j / sz] (by simp[hj]);obtain⟨_,_,I⟩:=World.cells?_some A;have:=I (j % sz) (by exact hq);rw[<- S] at this;rw[<- this];congr 1;rw[Go.Deep.add_add,U]
end
end
noncomputable section
theorem eN (A X R V:List Value)(h:V.length=X.length):putAt (A++(X++R)) A.length V=A++(V++R):=by
 rw[ue _ _ _ (by simp;omega)];rw[List.take_left' rfl,aA];congr 2;have:A.length+V.length=(A++X).length:=by simp[h]
 rw[this,<- aA,List.drop_left' rfl]
theorem ql (A X R V:List Value)(n:Nat)(hn:n=A.length)(h:V.length=X.length):putAt (A++(X++R)) n V=A++(V++R):=by
 subst hn;exact eN A X R V h
section
variable {w0 w:World} {As:List HP} {P:Program} {n:Nat} {a:Act} {L:Env} {o:Oper} {T:TypeId}
theorem ae (H:St w0 As w)(i:Nat){b off:Nat}{cs news:List Value}(hi:As[i]? = some (Blk b T cs))(h:∀ (j:Nat) (u:Value),news[j]? = some u->cs[off+j]? = some u):Rd w (some ⟨b,off,none⟩) news:=by
 refine .inr ⟨_,rfl,fun j u hj=>?_⟩;rw[vH];exact H.cell i hi (h j u hj)
theorem OpTo.lp {b off i l e j sz:Nat}{I:Option Addr}{cs:List Value}(news:List Value){x y:Operand}{t u:TypeId}{ti:TypeInfo}(J:zZ n a L)(H:St w0 (Blk b T cs::As) w)
  (S:o.op = .call { callee:=.builtin .copy,args:=#[x,y],argTypes:=#[t,u] }) (W:evO L x=some (.slice (some ⟨b,off,none⟩) i l)) (X:evO L y=some (.slice I e j))
  (ht:P.underlying t=some (.slice T)) (hi:P.info? T=some ti) (F:ti.size=sz) (hr:Rd w I news) (hl:news.length=Nat.min e i*sz) (h1:∀ v∈news,v.oneCell'=true) (z:off+news.length<=cs.length) :
  OpTo P o a w fun v w'=>(∃ k:Int,v = .int .i64 k)/\St w0 (Blk b T (putAt cs off news)::As) w':=by
 obtain⟨dst,op,type,pos,after,guard⟩:=o;simp only at S;subst S;have O:=H.one 0 rfl;have B:=run_storeCells_at P b off T news 0 cs.toArray w O (by simpa using z) h1;simp only[Nat.add_zero] at B;rw[ue _ _ _ z];have hf:=qm (P:=P) (size:=ti.size) (m:=Nat.min e i) (len:=e) (cap:=j) hr (by rw[hl,F]);have A:(Builtin.copy_ #[t,u] type #[.slice (some ⟨b,off,none⟩) i l,.slice I e j]).run P w = .ok (goInt (Nat.min e i)) (w.setRow b (cs.take off++news++cs.drop (off+news.length)).toArray):=by
  have D:Sem.run P (storeCells { block:=b,off:=off } news) w=Result.ok () (w.setRow b (List.take off cs++(news++List.drop (off+news.length) cs)).toArray):=by simpa using B
  simp[Builtin.copy_,xB P ht,Builtin.lenOf,sB P hi,hf,D]
 refine OpTo.of_run (w':=w.setRow b (cs.take off++news++cs.drop (off+news.length)).toArray) (v:=goInt (Nat.min e i)) ?_ ⟨⟨_,rfl⟩,?_⟩
 ·simp[execOp,resolve,invoke,builtin,J.eval W,J.eval X,A]
 ·exact H.set (by simp) (by simp) (by simp) (setRow_heap w b _ _ T (0,0) O) (fun c U=>setRow_other w b c _ U)
theorem OpTo.bL {sz k i j:Nat}{sb:Option Addr}(l:List Value){x y:Operand}{t tn:TypeId}{kn:IntKind}{ti:TypeInfo}{z:Value}(hE:zZ n a L)(H:St w0 As w)
  (ho:o.op = .call { callee:=.builtin .append,args:=#[x,y],argTypes:=#[t,tn] }) (hx:evO L x=some (.slice sb i j)) (hy:evO L y=some (.int .i64 (k:Int)))
  (ht:P.underlying t=some (.slice T)) (X:P.underlying tn=some (.int kn)) (hi:P.info? T=some ti) (D:ti.size=sz) (hz:ti.zero=some z) (Y:z.cells.size=sz) (hs:0<sz)
  (hr:Rd w sb l) (U:l.length=i*sz) (h0:0<k) (hg:j<i+k) (A:i+k<=1073741824) (F:Nat.ble ti.bytes 131072=true) :
  OpTo P o a w fun v w'=>∃ (r c:Nat) (Z:List Value),v = .slice (some ⟨r,0,none⟩) (i+k) c/\i+k<=c/\c<=maxLen/\Z.length=(c - i)*sz/\St w0 (Blk r T (l++Z)::As) w':=by
 have u:=Nat.le_of_ble_eq_true F;obtain⟨dst,op,type,pos,after,guard⟩:=o;simp only at ho;subst ho;have W:Rd w.drew sb l:=by
  rcases hr with h|⟨xa,h1,h2⟩
  ·exact .inl h
  ·exact .inr ⟨xa,h1,by simpa using h2⟩
 have J:=qm (P:=P) (size:=ti.size) (m:=i) (len:=i) (cap:=j) W (by rw[U,D]);have O:k*ti.bytes<=281474976710656:=by
  calc k*ti.bytes<=1073741824*131072:=Nat.mul_le_mul (by omega) u
   _<=281474976710656:=by decide
 have S:Builtin.nextslicecap (i+k) j*ti.bytes<=281474976710656:=by
  refine growslice_fits (need:=i+k) (old:=j) (by omega) ?_
  calc (i+k)*ti.bytes<=1073741824*131072:=Nat.mul_le_mul A u
   _<=140737488355328:=by decide
 have B:=Go.Lib.run_append_grow_zeros (P:=P) w t tn type T ti z .i64 kn ht X hi hz sb i j l J k h0 (by rw[D];exact hs) hg (by omega) O S;have a5:=grownCap_ge w (i+k) j T;have I:=grownCap_le_maxLen w (i+k) j T (by unfold maxLen;omega);refine OpTo.of_run (w':=w.drew.alloc (.cells (l.toArray++Builtin.zeroCells z.cells k++Builtin.zeroCells z.cells (grownCap w (i+k) j T - (i+k))) T (0,0))) ?_
  ⟨w.heap.size,grownCap w (i+k) j T,(Builtin.zeroCells z.cells k++Builtin.zeroCells z.cells (grownCap w (i+k) j T - (i+k))).toList,rfl,by omega,I,?_,?_⟩
 ·simp[execOp,resolve,invoke,builtin,hE.eval hx,hE.eval hy,B]
 ·simp only[Array.length_toList,Array.size_append,size_zeroCells,Y,<- Nat.add_mul];congr 1;omega
 ·have H2:=(H.drew).alloc (.cells (l.toArray++Builtin.zeroCells z.cells k++Builtin.zeroCells z.cells (grownCap w (i+k) j T - (i+k))) T (0,0));refine H2.head fun h hh=>?_
  have e:(l++(Builtin.zeroCells z.cells k++Builtin.zeroCells z.cells (grownCap w (i+k) j T - (i+k))).toList).toArray=l.toArray++Builtin.zeroCells z.cells k++Builtin.zeroCells z.cells (grownCap w (i+k) j T - (i+k)):=by
   apply Array.ext';simp[aA]
  show h _=_;rw[e];exact hh
theorem OpTo.gD {g va vo la ca b off lb cb:Nat}{cv cs:Array Value}{Tv Ts:TypeId}{xs:List Operand}{fn:Func}{tS tR e:TypeId}{ti:TypeInfo}(hE:zZ n a L)(H:St w0 As w)(i j:Nat)
  (hi:As[i]? = some (One va (.cells cv Tv (0,0)))) (hj:As[j]? = some (One b (.cells cs Ts (0,0)))) (hne:va≠b) (hcs:cs.size≠0)
  (ho:callParts o.op=some (.func g,xs)) (hxs:qX L xs=some [.slice (some ⟨va,vo,none⟩) la ca,.slice (some ⟨b,off,none⟩) lb cb])
  (hf : P.funcs[g]? = some fn) (hname : (fn.name == "runtime.NumGoroutine") = false) (hb : fn.body.isNone = true) (hn : Extern.findNext fn = none) (he : Extern.find fn = some (Extern.SlicesOverlaps.overlaps #[tS, tS] #[tR]))
  (ht:P.underlying tS=some (.slice e)) (hz:P.info? e=some ti):OpTo P o a w fun v w'=>v = .bool false/\w'=w:=by
 obtain⟨dst,op,type,pos,after,guard⟩:=o;cases op <;> simp only[callParts] at ho <;> try cases ho
 rename_i c;obtain⟨callee,args,ats⟩:=c;cases callee <;> simp only at ho <;> try cases ho
 have h1:=H.one i hi;have h2:=H.one j hj;have hov:=Go.Lib.run_overlaps_apart (P:=P) w tS tR e ht ti.size (sB P hz) ⟨va,vo,none⟩ ⟨b,off,none⟩ la ca lb cb hne Tv Ts cv.size cs.size (by simp[World.shape?,h1]) (by simp[World.shape?,h2]) hcs (by simp[World.frozen?,h1]) (by simp[World.frozen?,h1]);have hcall:=run_callFunc_extern hf hname hb hn he #[.slice (some ⟨va,vo,none⟩) la ca,.slice (some ⟨b,off,none⟩) lb cb] w;rw[hov] at hcall;have e2:=oW hE _ _ hxs;have e3:args.map a.eval = #[.slice (some ⟨va,vo,none⟩) la ca,.slice (some ⟨b,off,none⟩) lb cb]:=by
  apply Array.ext';simpa using e2
 refine OpTo.of_run (w':=w) (v:=.bool false) ?_ ⟨rfl,rfl⟩;have hfe:a.eval (.func g) = .func (.func g) #[] #[]:=rfl;simp[execOp,resolve,Deferred.ofValue,hfe,invoke,e3,hcall,Result.andThen]
end
theorem St.jP {α:Type}{T:TypeId}{enc:α -> List Value}{sz:Nat}{w0 w:World}{As:List HP}{sb:Option Addr}{sc:Nat}{l:List α}(H:St w0 (Sl T enc sz sb sc l::As) w)(he:wj enc sz)(hl:0<l.length) :
  ∃ (b off:Nat) (A R:List Value),sb=some ⟨b,off,none⟩/\A.length=off/\l.length<=sc/\sc<=maxLen/\(sc - l.length)*sz<=R.length/\St w0 (Blk b T (A++(l.flatMap enc++R))::As) w:=by
 rcases H.kL with ⟨_,rfl,_⟩|⟨b,off,cs,rfl,H1,h1,h2,h3,h4⟩
 ·simp at hl
 ·have t:=yi he l;have hmul:l.length*sz<=sc*sz:=Nat.mul_le_mul_right _ h1;refine⟨b,off,cs.toList.take off,cs.toList.drop (off+l.length*sz),rfl,by simp;omega,h1,h2,?_,?_⟩
  ·simp only[List.length_drop,Array.length_toList,Nat.sub_mul];omega
  ·refine H1.head fun h hh=>?_
   have e:cs.toList.take off++(l.flatMap enc++cs.toList.drop (off+l.length*sz))=cs.toList:=by
    have j:(cs.toList.drop off).take (l.length*sz)=l.flatMap enc:=by
     apply List.ext_getElem?;intro i;by_cases hi:i<l.length*sz
     ·rw[List.getElem?_take,if_pos hi,List.getElem?_drop,<- h4 i hi];simp
     ·rw[List.getElem?_eq_none (by simp;omega),List.getElem?_eq_none (by omega)]
    rw[<- j,<- List.drop_drop,List.take_append_drop,List.take_append_drop]
   show h b=_;rw[e];have:h b=some (.cells cs T (0,0)):=hh;simpa using this
theorem St.cD {α:Type}{T:TypeId}{enc:α -> List Value}{sz:Nat}{w0 w:World}{As:List HP}{b sc:Nat}{l:List α}{A R:List Value}(H:St w0 (Blk b T (A++(l.flatMap enc++R))::As) w)(he:wj enc sz)(h1:l.length<=sc)(h2:sc<=maxLen)(h3:(sc - l.length)*sz<=R.length) :
  St w0 (Sl T enc sz (some ⟨b,A.length,none⟩) sc l::As) w:=by
 have e:=yi he l;have hmul:l.length*sz<=sc*sz:=Nat.mul_le_mul_right _ h1;rw[Nat.sub_mul] at h3;refine H.head fun h hh=>.inr ⟨b,A.length,_,rfl,hh,h1,h2,by simp[e];omega,fun i hi=>?_⟩
 simp only[List.getElem?_toArray];rw[List.getElem?_append_right (by omega),Nat.add_sub_cancel_left,List.getElem?_append_left (by rw[e];exact hi)]
end
end Go.Th
noncomputable section
namespace Go.Th
end Go.Th
end
namespace Go.Th
noncomputable section
section
variable {w0 w:World} {As:List HP} {P:Program} {n:Nat} {a:Act} {L:Env} {o:Oper} {T:TypeId}
end
end
noncomputable section
@[reducible] def catE:Env->Env->Env
 | [],L=>L
 | p::r,L=>p::catE r L
def dN:Env->List Nat
 | []=>[]
 | (t,_)::r=>t::dN r
def hasK (t:Nat):Env->Bool
 | []=>false
 | (u,_)::r=>match Nat.beq t u with
  | true=>true
  | false=>hasK t r
def ov (ops:Array Oper)(new L:Env):List Nat->Bool
 | []=>true
 | i::is=>match ops[i]? with
  | none=>ov ops new L is
  | some o=>match o.dst with
   | none=>ov ops new L is
   | some d=>match hasK d new with
    | true=>ov ops new L is
    | false=>match hasK d L with
     | true=>false
     | false=>ov ops new L is
def segD (P:Program)(n:Nat)(ops:Array Oper)(is:List Nat)(L:Env)(e:List Value)(new:Env):Option (Env × List Ob) :=
 match ov ops new L is with
 | false=>none
 | true=>nv P n ops is L e (dN new)
theorem iy:∀ (new L:Env) (t:Nat) (v:Value),look t (catE new L)=some v->(look t new=some v) \/ (hasK t new=false/\look t L=some v)
 | [],L,t,v,h=>Or.inr ⟨rfl,h⟩
 | (u,x)::r,L,t,v,h=>by
  rw[catE,wR] at h;split at h
  ·subst_vars
   left
   rw[wR,if_pos rfl];exact h
  ·rename_i e;rcases iy r L t v h with h1|⟨h1,h2⟩
   ·left;rw[wR,if_neg e];exact h1
   ·right
    refine⟨?_,h2⟩;simp only[hasK];split
    ·rename_i i;exact absurd (Nat.eq_of_beq_eq_true i) e
    ·exact h1
theorem lG:∀ (L:Env) (t:Nat) (v:Value),look t L=some v->hasK t L=true
 | [],t,v,h=>by cases h
 | (u,x)::r,t,v,h=>by
  simp only[look] at h;simp only[hasK];split at h
  ·rename_i e;first|rfl|rw[e]
  ·rename_i e;first|exact lG r t v h|(rw[e];exact lG r t v h)
theorem oT {ops:Array Oper}{new L:Env}:∀ {is:List Nat},ov ops new L is=true -> ∀ i∈is,∀ o d,ops[i]? = some o->o.dst=some d->hasK d new=true \/ hasK d L=false
 | [],_,i,hi,_,_,_,_=>by cases hi
 | j::is,h,i,hi,o,d,e,hd=>by
  simp only[ov] at h;rcases List.mem_cons.1 hi with rfl|hi
  ·rw[e] at h;simp only[hd] at h;cases h1:hasK d new
   ·rw[h1] at h;simp only at h;cases h2:hasK d L
    ·exact Or.inr rfl
    ·rw[h2] at h;cases h
   ·exact Or.inl rfl
  ·have l:ov ops new L is=true:=by
    repeat' split at h
    all_goals first|exact h|cases h
   exact oT l i hi o d e hd
theorem kJ {n:Nat}{d:Option Tmp}{v:Value}{L L1:Env}{t:Nat}(h:setE n d v L=some L1)(hd:d≠some t):look t L1=look t L:=by
 unfold setE at h;split at h
 ·cases h;rfl
 ·split at h
  ·cases h;rw[wR,if_neg (fun e=>hd (by rw[e]))]
  ·cases h
theorem pZ {P:Program}{n:Nat}{ops:Array Oper}{t:Nat}:∀ (is:List Nat) (L:Env) (e:List Value) (L1:Env) (obs:List Ob),qB P n ops is L e=some (L1,obs)->(∀ i∈is,∀ o,ops[i]? = some o->o.dst≠some t)->look t L1=look t L
 | [],L,e,L1,obs,h,_=>by simp[qB] at h;rw[h.1]
 | i::is,L,e,L1,obs,h,hd=>by
  have l:∀ j∈is,∀ o,ops[j]? = some o->o.dst≠some t:=fun j hj=>hd j (mC _ hj)
  rw[qB] at h;split at h
  ·cases h
  ·rename_i o y;have u:=hd i (List.mem_cons_self ..) o y;split at h
   ·cases h
   ·split at h
    ·rename_i L2 hs;rw[pZ is L2 e L1 obs h l,kJ hs u]
    ·cases h
   ·split at h
    ·cases h
    ·split at h
     ·cases h
     ·rename_i L2 hs;split at h
      ·rename_i z x h3;cases h;rw[pZ is L2 _ _ _ h3 l,kJ hs u]
      ·cases h
theorem zZ.cat {n:Nat}{a:Act}{L1 L new:Env}(h:zZ n a L1)(hs:Th.sel (dN new) L1=some new)(hk:∀ t,hasK t new=false->hasK t L=true->look t L1=look t L):zZ n a (catE new L):=by
 have h2:=s5 h hs;refine⟨h.size,h.defers,fun t v hv=>?_⟩;rcases iy new L t v hv with h1|⟨h1,h3⟩
 ·exact h2.has t v h1
 ·exact h.has t v (by rw[hk t h1 (lG L t v h3)];exact h3)
section
variable {P:Program} {f:FuncId} {k:List Item} {a:Act} {w:World} {R:Value->World->Prop}
theorem eV {P:Program}{n:Nat}{ops:Array Oper}{is:List Nat}{L new:Env}{j:List Value}{obs:List Ob}(he:segD P n ops is L j new=some (new,obs)) :
  ∃ L1,qB P n ops is L j=some (L1,obs) /\ ∀ a:Act,zZ n a L1->zZ n a (catE new L):=by
 unfold segD at he;split at he
 ·cases he
 ·rename_i hd;unfold nv at he;split at he
  ·cases he
  ·rename_i L1 u hs;split at he
   ·rename_i x l;cases he;refine⟨L1,hs,fun a ha=>ha.cat l fun t h1 h2=>pZ is L j L1 _ hs fun i hi o y e=>?_⟩;rcases oT hd i hi o t y e with h3|h3
    ·rw[h1] at h3;cases h3
    ·rw[h2] at h3;cases h3
   ·cases he
theorem WR.d {ops:Array Oper}{i n:Nat}{L:Env}(y:zZ n a L)(j:Nat)(t:List Value)(new:Env){obs:List Ob}(z:xE w obs)(hk:∀ e,zZ n e (catE new L)->WR P f ops j k e w R)
  (hj:(Nat.ble i j && Nat.ble j ops.size)=true:=by rfl) (he:segD P n ops (List.range' i (j - i)) L t new=some (new,obs):=by kernel_rfl):WR P f ops i k a w R:=by
 obtain⟨L1,hs,hn⟩:=eV he;simp only[Bool.and_eq_true] at hj;have h1:=Nat.le_of_ble_eq_true hj.1;have h2:=Nat.le_of_ble_eq_true hj.2;unfold WR;have hr:List.range' i (ops.size - i)=List.range' i (j - i)++List.range' j (ops.size - j):=by
  have u:ops.size - i=(j - i)+(ops.size - j):=by omega
  have x:i+(j - i)=j:=by omega
  rw[u,<- List.range'_append_1,x]
 rw[hr];exact oX _ _ _ _ _ _ y hs z fun e l=>hk e (hn e l)
theorem WR.d0 {ops:Array Oper}{i n:Nat}{L:Env}(l:zZ n a L)(j:Nat)(new:Env)(hk:∀ e,zZ n e (catE new L)->WR P f ops j k e w R)
  (hj:(Nat.ble i j && Nat.ble j ops.size)=true:=by rfl) (he:segD P n ops (List.range' i (j - i)) L [] new=some (new,[]):=by kernel_rfl):WR P f ops i k a w R:=WR.d l j [] new (obs:=[]) trivial hk hj he
theorem WR.e {ops:Array Oper}{i n:Nat}{L:Env}(u:zZ n a L)(j:List Value)(new:Env){obs:List Ob}(x:xE w obs)(hk:∀ l,zZ n l (catE new L)->Runs P f k l w R)
  (hj:Nat.ble i ops.size=true:=by rfl) (he:segD P n ops (List.range' i (ops.size - i)) L j new=some (new,obs):=by kernel_rfl):WR P f ops i k a w R :=
 WR.d u ops.size j new x (fun l t=>WR.done (Nat.ble_eq_true_of_le (Nat.le_refl _)) (hk l t)) (by rw[hj];exact Nat.ble_eq_true_of_le (Nat.le_refl _)) he
theorem WR.e0 {ops:Array Oper}{i n:Nat}{L:Env}(l:zZ n a L)(new:Env)(hk:∀ j,zZ n j (catE new L)->Runs P f k j w R)
  (hj:Nat.ble i ops.size=true:=by rfl) (he:segD P n ops (List.range' i (ops.size - i)) L [] new=some (new,[]):=by kernel_rfl):WR P f ops i k a w R:=WR.e l [] new (obs:=[]) trivial hk hj he
theorem Runs.sr {id:Nat}{ops:Array Oper}{y:Code}(h:WR P f ops 0 (.code y::k) a w R):Runs P f (.code (.seq (.region id ops false) y)::k) a w R:=Runs.seq (Runs.region h)
theorem WQ.d {ops:Array Oper}{dn:List Nat}{pend:List (Nat × List Ob)}{n:Nat}{L:Env}(t:zZ n a L)(is:List Nat)(j:List Value)(new:Env){obs:List Ob}(u:xE w obs)
  (hk:∀ i,zZ n i (catE new L)->WQ P f ops (dn++is) (segP P n ops is L j pend) k i w R)
  (ht:(Nat.ble (dn.length+is.length) ops.size && lX ops is (vM dn))=true:=by kernel_rfl) (he:segD P n ops is L j new=some (new,obs):=by kernel_rfl):WQ P f ops dn pend k a w R:=by
 obtain⟨L1,hs,hn⟩:=eV he;simp only[Bool.and_eq_true] at ht;have hle:=Nat.le_of_ble_eq_true ht.1;have e:ops.size - dn.length=is.length+(ops.size - (dn++is).length):=by simp;omega
 unfold WQ;rw[e];intro hs';exact WP.segs hs' _ _ _ _ _ _ _ _ _ _ t (fun x=>vp x dn) ht.2 hs u fun i l=>hk i (hn i l) hs'
theorem WQ.d0 {ops:Array Oper}{dn:List Nat}{pend:List (Nat × List Ob)}{n:Nat}{L:Env}(i:zZ n a L)(is:List Nat)(new:Env)
  (hk:∀ e,zZ n e (catE new L)->WQ P f ops (dn++is) (segP P n ops is L [] pend) k e w R)
  (ht:(Nat.ble (dn.length+is.length) ops.size && lX ops is (vM dn))=true:=by kernel_rfl) (he:segD P n ops is L [] new=some (new,[]):=by kernel_rfl):WQ P f ops dn pend k a w R:=WQ.d i is [] new (obs:=[]) trivial hk ht he
end
end
noncomputable section
section
variable {α H:Type} {en:TypeId × Value->H} {P:Program} {w:World} {base:Nat} {spare:Nat->Bool} {held:Bool} {enc:α -> List Value} {sz:Nat}
end
end
noncomputable section
section
variable {K V:Type}
def mGet (eq:K->K->Bool)(k:K):List (K × V)->Option V
 | []=>none
 | p::m=>bif eq k p.1 then some p.2 else mGet eq k m
def mPut (eq:K->K->Bool)(k:K)(v:V):List (K × V)->List (K × V)
 | []=>[(k,v)]
 | p::m=>bif eq k p.1 then (k,v)::m else p::mPut eq k v m
def mDel (eq:K->K->Bool)(k:K):List (K × V)->List (K × V)
 | []=>[]
 | p::m=>bif eq k p.1 then m else p::mDel eq k m
def sW (eq:K->K->Bool)(k:K)(z:V)(m:List (K × V)):Option (V × Bool):=some (match mGet eq k m with
 | some v=>(v,true)
 | none=>(z,false))
def mAt (eq:K->K->Bool)(k:K):List K->Nat->Option Nat
 | [],_=>none
 | a::ks,i=>bif eq k a then some i else mAt eq k ks (i+1)
theorem eA (eq:K->K->Bool)(k:K):∀ (ks:List K) (i j:Nat),mAt eq k ks i=some j->i<=j
 | [],i,j,h=>by simp[mAt] at h
 | a::ks,i,j,h=>by
  simp only[mAt] at h;cases he:eq k a <;> simp[he] at h
  ·have:=eA eq k ks (i+1) j h;omega
  ·omega
theorem eB (eq:K->K->Bool)(k:K):∀ (m:List (K × V)) (i:Nat),
  (mAt eq k (m.map (·.1)) i=none/\mGet eq k m=none/\(∀ v,mPut eq k v m=m++[(k,v)])/\mDel eq k m=m) \/
  ∃ j p,mAt eq k (m.map (·.1)) i=some (i+j)/\m[j]? = some p/\eq k p.1=true/\mGet eq k m=some p.2/\(∀ v,mPut eq k v m=m.set j (k,v))/\mDel eq k m=m.eraseIdx j
 | [],i=>.inl ⟨rfl,rfl,fun _=>rfl,rfl⟩
 | p::m,i=>by
  cases he:eq k p.1
  ·rcases eB eq k m (i+1) with ⟨h1,h2,h3,h4⟩|⟨j,q,h1,h2,h3,h4,e,l⟩
   ·exact .inl ⟨by simp[mAt,he,h1],by simp[mGet,he,h2],fun v=>by simp[mPut,he,h3],by simp[mDel,he,h4]⟩
   ·refine .inr ⟨j+1,q,?_,by simpa using h2,h3,by simp[mGet,he,h4],fun v=>by simp[mPut,he,e],by simp[mDel,he,l]⟩;simp[mAt,he,h1];omega
  ·exact .inr ⟨0,p,by simp[mAt,he],rfl,he,by simp[mGet,he],fun v=>by simp[mPut,he],by simp[mDel,he]⟩
structure sM (P:Program) (kt:TypeId) (ek:K->Value) (eq:K->K->Bool):Prop where
 check:∀ (w:World) em k,(Instr.checkKey em 10000 kt (ek k)).run P w = .ok () w
 find:∀ (w:World) k (es:List MapEntry) (ks:List K),es.map (·.key)=ks.map ek->(Instr.findKey kt (ek k) es).run P w = .ok ((mAt eq k ks 0).bind fun j=>(es[j]?).map fun e=>(j,e.val)) w
 stays:∀ (w:World) k,(Instr.keyThatStays (ek k) (ek k)).run P w = .ok (ek k) w
 same:∀ a b,eq a b=true->a=b
end
def kI (a b:Int):Bool:=a == b
theorem mQ (k:Int):∀ (es:List MapEntry) (ks:List Int) (i:Nat),es.map (·.key)=ks.map vI->Instr.findNow (.int .i64) (vI k) es i=some ((mAt kI k ks i).bind fun j=>(es[j - i]?).map fun e=>(j,e.val))
 | [],[],i,_=>by simp[Instr.findNow,mAt]
 | [],_::_,i,h=>by simp at h
 | _::_,[],i,h=>by simp at h
 | e::es,a::ks,i,h=>by
  simp only[pC,List.cons.injEq] at h;have ih:=mQ k es ks (i+1) h.2;simp only[Instr.findNow,h.1,vI,Instr.sameNow,if_true,mAt,kI];cases hk:(k == a)
  ·simp only[cF];simp only[vI] at ih;rw[ih];cases hm:mAt kI k ks (i+1) with
   | none=>rfl
   | some j =>
    have hj:=eA _ _ _ _ _ hm;have l:j - i=(j - (i+1))+1:=by omega
    simp[l]
  ·simp
theorem sM.int {P:Program}{kt:TypeId}(h:P.underlying kt=some (.int .i64)):sM P kt vI kI where
 check:=fun w em k=>Go.MapKept.run_checkKey h (show Go.MapKept.IsKey (.int .i64) (vI k) from rfl) em 9999
 find:=fun w k es ks he=>Go.MapKept.run_findKey h (by simpa using mQ k es ks 0 he)
 stays:=fun w k=>Go.MapKept.run_keyThatStays (d:=.int .i64) (show Go.MapKept.IsKey (.int .i64) (vI k) from rfl)
 same:=fun a b h=>by simpa[kI] using h
section
variable {K V:Type} {P:Program} {ek:K->Value} {eq:K->K->Bool} {kt:TypeId}
theorem qY (he:∀ (w:World) a b,(Op.equal kt (ek a) (ek b)).run P w = .ok (eq a b) w)(w:World)(k:K):∀ (es:List MapEntry) (ks:List K) (i:Nat),es.map (·.key)=ks.map ek ->
  (Instr.findAsking kt (ek k) es i).run P w = .ok ((mAt eq k ks i).bind fun j=>(es[j - i]?).map fun e=>(j,e.val)) w
 | [],[],i,_=>by simp[Instr.findAsking,mAt]
 | [],_::_,i,h=>by simp at h
 | _::_,[],i,h=>by simp at h
 | e::es,a::ks,i,h=>by
  simp only[pC,List.cons.injEq] at h;have ih:=qY he w k es ks (i+1) h.2;simp only[Instr.findAsking,Sem.run_bind,h.1,he,Result.andThen_ok,mAt];cases hk:eq k a
  ·simp only[cF,Bool.false_eq_true,if_false,ih];cases hm:mAt eq k ks (i+1) with
   | none=>rfl
   | some j =>
    have hj:=eA _ _ _ _ _ hm;have l:j - i=(j - (i+1))+1:=by omega
    simp[l]
  ·simp
theorem sM.struct {fs:Array Field}(h:P.underlying kt=some (.struct fs))(l:∀ (w:World) em k,(Instr.checkKey em 10000 kt (ek k)).run P w = .ok () w)
  (he:∀ (w:World) a b,(Op.equal kt (ek a) (ek b)).run P w = .ok (eq a b) w) (hs:∀ k,Instr.sameBits 10000 (ek k) (ek k)=true) (hq:∀ a b,eq a b=true->a=b):sM P kt ek eq where
 check:=l
 find:=fun w k es ks i=>by
  have hf:=qY he w k es ks 0 i;have j:(Instr.findKey kt (ek k) es).run P w=(Instr.findAsking kt (ek k) es).run P w:=by
   cases es with
   | nil=>simp[Instr.findKey,xB P h,Instr.findNow,Instr.findAsking]
   | cons e es=>simp[Instr.findKey,xB P h,Instr.findNow,Instr.sameNow]
  rw[j];simpa using hf
 stays:=fun w k=>by simp[Instr.keyThatStays,hs]
 same:=hq
theorem qI {fs:Array Field}{cs:Array Value}(n:Nat)(h:P.underlying kt=some (.struct fs))(w:World)(em:Bool)
  (hf : ∀ f ∈ fs.toList, f.name ≠ "_" /\ ∃ v, (part f.type cs f.offset).run P w = .ok v w /\ (Instr.checkKey em n f.type v).run P w = .ok () w) : (Instr.checkKey em (n + 1) kt (.agg cs)).run P w = .ok () w := by
 rw[Instr.checkKey];simp only[Sem.run_bind,xB P h,Result.andThen_ok];rw[<- Array.forIn_toList];generalize fs.toList=L at hf;induction L with
 | nil=>simp
 | cons f L ih =>
  obtain⟨hn,v,p1,p2⟩:=hf f (by simp);simp only[List.forIn_cons,Sem.run_bind,hn,ne_eq,not_false_eq_true,if_true,Result.andThen_ok,p1,p2,Sem.run_pure];exact ih fun y hy=>hf y (by simp[hy])
theorem rG (n:Nat)(h:P.underlying kt=some (.int .i64))(w:World)(em:Bool)(x:Int):(Instr.checkKey em (n+1) kt (.int .i64 x)).run P w = .ok () w :=
 Go.MapKept.run_checkKey h (show Go.MapKept.IsKey (.int .i64) (.int .i64 x) from rfl) em n
theorem Ac {P : Program} {cs : Array Value} {w : World} {em : Bool} {n : Nat} {Ls : List Field} (h : Ls = []) : ∀ f ∈ Ls, f.name ≠ "_" /\ ∃ v, (part f.type cs f.offset).run P w = .ok v w /\ (Instr.checkKey em n f.type v).run P w = .ok () w := by
 subst h;intro f hf;cases hf
theorem fN {P : Program} {cs : Array Value} {w : World} {em : Bool} {n : Nat} {Ls fs : List Field} {f : Field} {v : Value} (hL : Ls = f :: fs) (hn : (f.name == "_") = false) (p : (part f.type cs f.offset).run P w = .ok v w) (c : (Instr.checkKey em n f.type v).run P w = .ok () w)
  (r : ∀ g ∈ fs, g.name ≠ "_" /\ ∃ v, (part g.type cs g.offset).run P w = .ok v w /\ (Instr.checkKey em n g.type v).run P w = .ok () w) : ∀ g ∈ Ls, g.name ≠ "_" /\ ∃ v, (part g.type cs g.offset).run P w = .ok v w /\ (Instr.checkKey em n g.type v).run P w = .ok () w := by
 subst hL;intro g hg;rcases List.mem_cons.1 hg with rfl|hg
 ·exact⟨by simpa using hn,v,p,c⟩
 ·exact r g hg
def MpA (r:Nat)(ek:K->Value)(ev:V->Value)(m:List (K × V)):HP:=fun h=>∃ x:Array MapEntry × Nat,One r (.map x.1 x.2) h/\x.1.toList.map (fun e=>(e.key,e.val))=m.map fun p=>(ek p.1,ev p.2)
variable {ev:V->Value} {w w0:World} {As:List HP} {n r:Nat} {L:Env} {o:Oper} {a:Act} {m:List (K × V)} {k:K}
theorem MpA.keys {es:List MapEntry}{m:List (K × V)}(h:es.map (fun e=>(e.key,e.val))=m.map fun p=>(ek p.1,ev p.2)):es.map (·.key)=(m.map (·.1)).map ek:=by
 have:=congrArg (List.map Prod.fst) h;simp only[List.map_map] at this;rw[List.map_map];exact this
theorem MpA.get {es:List MapEntry}{m:List (K × V)}(h:es.map (fun e=>(e.key,e.val))=m.map fun p=>(ek p.1,ev p.2)){j:Nat}{p:K × V}(hj:m[j]? = some p):∃ e,es[j]? = some e/\e.key=ek p.1/\e.val=ev p.2:=by
 have h2:=congrArg (fun l=>l[j]?) h;simp only[List.getElem?_map,hj,Option.map_some] at h2;cases he:es[j]? with
 | none=>rw[he] at h2;simp at h2
 | some e=>rw[he] at h2;simp at h2;exact⟨e,rfl,h2.1,h2.2⟩
theorem sM.found (hk:sM P kt ek eq)(w:World)(k:K){es:List MapEntry}{m:List (K × V)}(h:es.map (fun e=>(e.key,e.val))=m.map fun p=>(ek p.1,ev p.2)) :
  ((Instr.findKey kt (ek k) es).run P w = .ok none w/\mGet eq k m=none/\(∀ v,mPut eq k v m=m++[(k,v)])/\mDel eq k m=m) \/
  ∃ j e v,(Instr.findKey kt (ek k) es).run P w = .ok (some (j,ev v)) w/\es[j]? = some e/\e.key=ek k/\mGet eq k m=some v/\(∀ v,mPut eq k v m=m.set j (k,v))/\mDel eq k m=m.eraseIdx j:=by
 have hf:=hk.find w k es _ (MpA.keys h);rcases eB eq k m 0 with ⟨h1,h2,h3,h4⟩|⟨j,p,h1,h2,h3,h4,u,x⟩
 ·left;rw[h1] at hf;exact⟨hf,h2,h3,h4⟩
 ·right
  obtain⟨e,i,l,t⟩:=MpA.get h h2;simp only[Nat.zero_add] at h1;rw[h1] at hf;simp only[bS,i,Option.map_some,t] at hf;exact⟨j,e,p.2,hf,i,by rw[l,hk.same _ _ h3],h4,u,x⟩
theorem OpTo.BH {K V:Type}{w0 w:World}{As:List HP}(ek:K->Value)(ev:V->Value){t:TypeId}(i:zZ n a L)(H:St w0 As w)(e:o.op = .makeMap t none):OpTo P o a w fun v w'=>∃ r:Nat,v = .map (some r)/\St w0 (MpA r ek ev []::As) w':=by
 obtain⟨dst,op,type,pos,after,guard⟩:=o;simp only at e;subst e;refine OpTo.of_run (w':={ w with heap:=w.heap.push (.map #[] 0) }) (v:=.map (some w.heap.size)) ?_ ⟨w.heap.size,rfl,?_⟩
 ·simp[execOp,Instr.makeMap,newObj]
  rfl
 ·exact (H.alloc (.map #[] 0)).head fun h hh=>⟨(#[],0),hh,by simp⟩
theorem m5 {mt y:TypeId}{ti:TypeInfo}{z:V}(H:St w0 As w)(i:Nat)(hi:As[i]? = some (MpA r ek ev m))(hk:sM P kt ek eq)(ht:P.underlying mt=some (.map kt y))(hz:P.info? y=some ti)(t:ti.zero=some (ev z))(ok:Bool) :
  ∀ {g:V × Bool},sW eq k z m=some g->(Instr.lookup mt (.map (some r)) (ek k) ok).run P w = .ok (if ok then .tuple #[ev g.1,.bool g.2] else ev g.1) w:=by
 intro g l;obtain⟨h1,hs,x,hh,B⟩:=H.at i hi;have A:w.heap[r]? = some (.map x.1 x.2):=hs _ _ hh;rcases hk.found w k B with ⟨f1,f2,_,_⟩|⟨j,e,v,f1,f2,f3,f4,_,_⟩
 ·have u:(zeroValue y).run P w = .ok (ev z) w:=by simp[Go.zeroValue,Go.typeInfo,Sem.run,hz,t]
  simp[Instr.lookup,xB P ht,Go.MapKept.run_getObj_map A,hk.check,f1,u,Result.andThen];simp[sW,f2] at l;subst l;rfl
 ·simp[Instr.lookup,xB P ht,Go.MapKept.run_getObj_map A,hk.check,f1,Result.andThen];simp[sW,f4] at l;subst l;rfl
theorem OpTo.Aw {mt t:TypeId}{ti:TypeInfo}{z:V}{x y:Operand}(i:Nat)(j:zZ n a L)(H:St w0 As w)(hi:As[i]? = some (MpA r ek ev m))(hk:sM P kt ek eq){g:V × Bool}(hl:sW eq k z m=some g)(l:o.op = .lookup mt x y true)
  (ht:P.underlying mt=some (.map kt t)) (hz:P.info? t=some ti) (e:ti.zero=some (ev z)) (u:evO L x=some (.map (some r))) (A:evO L y=some (ek k)) :
  OpTo P o a w fun v w'=>v = .tuple #[ev g.1,.bool g.2]/\w'=w:=by
 obtain⟨dst,op,type,pos,after,guard⟩:=o;simp only at l;subst l;have hl:=m5 (k:=k) H i hi hk ht hz e true hl;exact OpTo.of_run (w':=w) (by simp[execOp,j.eval u,j.eval A,hl]) ⟨rfl,rfl⟩
theorem OpTo.BG {mt t:TypeId}{ti:TypeInfo}{z:V}{x y:Operand}(i:Nat)(j:zZ n a L)(H:St w0 As w)(hi:As[i]? = some (MpA r ek ev m))(hk:sM P kt ek eq){g:V × Bool}(hl:sW eq k z m=some g)(l:o.op = .lookup mt x y false)
  (ht:P.underlying mt=some (.map kt t)) (hz:P.info? t=some ti) (e:ti.zero=some (ev z)) (u:evO L x=some (.map (some r))) (A:evO L y=some (ek k)) :
  OpTo P o a w fun v w'=>v=ev g.1/\w'=w:=by
 obtain⟨dst,op,type,pos,after,guard⟩:=o;simp only at l;subst l;have hl:=m5 (k:=k) H i hi hk ht hz e false hl;exact OpTo.of_run (w':=w) (by simp[execOp,j.eval u,j.eval A,hl]) ⟨rfl,rfl⟩
theorem pk {α β:Type}(f:α -> β):∀ (l:List α) (j:Nat),(l.eraseIdx j).map f=(l.map f).eraseIdx j
 | [],_=>rfl
 | _::_,0=>rfl
 | x::l,j+1=>by simp[pk f l j]
theorem St.cx (H:St w0 (MpA r ek ev m::As) w):∃ es i,St w0 (One r (.map es i)::As) w/\es.toList.map (fun e=>(e.key,e.val))=m.map fun p=>(ek p.1,ev p.2):=by
 obtain⟨x,H⟩:=H.ex;have j:=H.fact fun h hh=>hh.2
 exact⟨x.1,x.2,H.head fun h hh=>hh.1,j⟩
theorem St.dU {es i:Array MapEntry}{u j:Nat}{t:List (K × V)}(H:St w0 (One r (.map es u)::As) w)(he:i.toList.map (fun e=>(e.key,e.val))=t.map fun p=>(ek p.1,ev p.2)) :
  St w0 (MpA r ek ev t::As) { w with heap:=w.heap.setIfInBounds r (.map i j) }:=by
 have l:=H.one 0 rfl;have:=H.set (w':={ w with heap:=w.heap.setIfInBounds r (.map i j) }) (o':=.map i j) rfl rfl rfl (Go.MapKept.heap_set l).1 (Go.MapKept.heap_set l).2;exact this.head fun h hh=>⟨(i,j),hh,he⟩
def pD:Op->Option (TypeId × Operand × Operand × Operand)
 | .mapUpdate t m k x=>some (t,m,k,x)
 | .insert t m k x=>some (t,m,k,x)
 | _=>none
theorem OpTo.BI {mt J:TypeId}{x y z:Operand}{v:V}(B:zZ n a L)(H:St w0 (MpA r ek ev m::As) w)(hk:sM P kt ek eq)(D:pD o.op=some (mt,x,y,z))
  (ht:P.underlying mt=some (.map kt J)) (F:evO L x=some (.map (some r))) (I:evO L y=some (ek k)) (hz:evO L z=some (ev v)):OpTo P o a w fun _ w'=>St w0 (MpA r ek ev (mPut eq k v m)::As) w':=by
 obtain⟨es,A,H1,he⟩:=H.cx;have u:=H1.one 0 rfl;have key:∃ w',(Instr.mapUpdate mt (.map (some r)) (ek k) (ev v)).run P w = .ok () w'/\St w0 (MpA r ek ev (mPut eq k v m)::As) w':=by
  rcases hk.found w k he with ⟨f1,f2,f3,_⟩|⟨j,e,O,f1,f2,f3,f4,f5,_⟩
  ·refine⟨{ w with heap:=w.heap.setIfInBounds r (.map (es.push { key:=ek k,val:=ev v,born:=A }) (A+1)) },?_,H1.dU ?_⟩
   ·simp[Instr.mapUpdate,xB P ht,Go.MapKept.run_getObj_map u,hk.check,f1,Go.MapKept.run_setObj_map _ u,Result.andThen]
   ·rw[f3];simp[he]
  ·have hj:es[j]? = some e:=by simpa using f2
   refine⟨{ w with heap:=w.heap.setIfInBounds r (.map (es.modify j fun e=>{ e with key:=ek k,val:=ev v }) A) },?_,H1.dU ?_⟩
   ·simp[Instr.mapUpdate,xB P ht,Go.MapKept.run_getObj_map u,hk.check,f1,hj,f3,hk.stays,Go.MapKept.run_setObj_map _ u,Result.andThen]
   ·rw[f5];apply List.ext_getElem?;intro i;have hi:=congrArg (fun l=>l[i]?) he;simp only[List.getElem?_map,Array.getElem?_toList] at hi;simp only[List.getElem?_map,Array.getElem?_toList,Array.getElem?_modify,List.getElem?_set];by_cases t:j=i
    ·subst t;have hl:j<m.length:=by
      rw[hj] at hi;cases hm:m[j]? with
      | none=>rw[hm] at hi;simp at hi
      | some _=>exact (List.getElem?_eq_some_iff.1 hm).1
     simp[hj,hl]
    ·simp[t,hi]
 obtain⟨w',h1,h2⟩:=key;obtain⟨dst,op,type,pos,after,guard⟩:=o;cases op <;> simp only[pD] at D <;> try cases D
 all_goals exact OpTo.jI (w':=w') (by simp[execOp,B.eval F,B.eval I,B.eval hz,h1]) h2
theorem OpTo.BF {mt B:TypeId}{x y:Operand}{ats:Array TypeId}(i:zZ n a L)(H:St w0 (MpA r ek ev m::As) w)(hk:sM P kt ek eq)(u:o.op = .call { callee:=.builtin .delete,args:=#[x,y],argTypes:=ats })(ha:ats[0]? = some mt)
  (ht:P.underlying mt=some (.map kt B)) (z:evO L x=some (.map (some r))) (A:evO L y=some (ek k)):OpTo P o a w fun v w'=>v = .tuple #[]/\St w0 (MpA r ek ev (mDel eq k m)::As) w':=by
 obtain⟨es,t,H1,he⟩:=H.cx;have l:=H1.one 0 rfl;obtain⟨dst,op,type,pos,after,guard⟩:=o;simp only at u;subst u;rcases hk.found w k he with ⟨f1,f2,_,f4⟩|⟨j,e,D,f1,f2,f3,f4,_,f6⟩
 ·refine OpTo.of_run (w':={ w with heap:=w.heap.setIfInBounds r (.map es t) }) (v:=.tuple #[]) ?_ ⟨rfl,H1.dU (by rw[f4];exact he)⟩;simp[execOp,resolve,invoke,builtin,i.eval z,i.eval A,Builtin.delete_,ha,xB P ht,Go.MapKept.run_getObj_map l,hk.check,f1,Go.MapKept.run_setObj_map _ l,Result.andThen]
 ·refine OpTo.of_run (w':={ w with heap:=w.heap.setIfInBounds r (.map (es.eraseIdxIfInBounds j) t) }) (v:=.tuple #[]) ?_ ⟨rfl,H1.dU ?_⟩
  ·simp[execOp,resolve,invoke,builtin,i.eval z,i.eval A,Builtin.delete_,ha,xB P ht,Go.MapKept.run_getObj_map l,hk.check,f1,Go.MapKept.run_setObj_map _ l,Result.andThen]
  ·rw[f6];have hj:j<es.size:=by
    have:=(List.getElem?_eq_some_iff.1 f2).1;simpa using this
   simp only[Array.eraseIdxIfInBounds,hj,dif_pos,Array.toList_eraseIdx,pk,he]
end
section
variable {K V:Type} {P:Program} {ek:K->Value} {ev:V->Value} {w w0:World} {As:List HP} {n r:Nat} {L:Env} {o:Oper} {a:Act} {m:List (K × V)}
end
def elemV (sb:Option Addr)(sz:Nat):Option Int->Value
 | none=>.pointer none
 | some i=>match sb with
  | some ⟨b,off,_⟩=>.pointer (some ⟨b,off+(Int.toNat i)*sz,none⟩)
  | none=>.pointer none
theorem mI {sb:Option Addr}{sz b off:Nat}{i:Int}(h:sb=some ⟨b,off,none⟩):elemV sb sz (some i) = .pointer (some ⟨b,off+(Int.toNat i)*sz,none⟩):=by subst h;rfl
def oS {α:Type}:Option α -> Unit ⊕ α
 | none=>.inl ()
 | some x=>.inr x
def tm {α β:Type}(o:Option α)(n:Option β)(s:α -> Option β):Option β:=match oS o with
 | .inl _=>n
 | .inr x=>s x
theorem Am {α:Type}{l:List α}{i:Int}{x:α}(h:mIdx l i=some x):l[i.toNat]? = some x:=(oD h).2
def Pure (q:Prop):HP:=fun _=>q
theorem St.pure {q:Prop}{w0 w:World}{As:List HP}(H:St w0 (Pure q::As) w):q/\St w0 As w:=⟨H.fact fun _ h=>h,H.x0⟩
theorem bU {α:Type}{l:List α}{i:Int}{x y:α}(h:mIdx l i=some x):mIdx (mSet l i y) i=some y:=by
 obtain⟨⟨h0,h1⟩,h2⟩:=oD h;have hl:i.toNat<l.length:=by omega
 simp[mIdx,mSet,h0,hl]
end
noncomputable section
section
variable {H:Type} {en:TypeId × Value->H} {P:Program} {w:World} {base:Nat} {spare:Nat->Bool} {held:Bool}
def q6 (P:Program):Nat->TypeId->Bool
 | 0,_=>false
 | d+1,e=>match P.underlying e with
  | some (.int .i64)=>P.cellsOf e == 1
  | some (.struct fs)=>fs.toList.all (fun f=>q6 P d f.type) && (List.range (P.cellsOf e)).all (fun j=>fs.toList.any fun f=>Nat.ble f.offset j && Nat.blt j (f.offset+P.cellsOf f.type))
  | _=>false
end
end
end Go.Th
noncomputable section
namespace Go.Th
def I64 (x:Int):Prop:=-9223372036854775808<=x/\x<9223372036854775808
theorem cI {x:Int}(h:(Lit.int .i64 x).wf=true):I64 x:=by
 simp[Lit.wf,IntKind.min,IntKind.max,IntKind.signed,IntKind.bits] at h;exact⟨h.1,by omega⟩
section
variable {H:Type} {en:TypeId × Value->H} {P:Program} {w:World} {base:Nat} {spare:Nat->Bool} {held:Bool}
theorem ir:∀ (d:Nat) (e:TypeId),q6 P d e=true -> ∀ n cs y,DataW.trod en P w base spare held n e cs=some y->cs.length=P.cellsOf e /\ ∀ (j:Nat) (u:Value),cs[j]? = some u -> ∃ z:Int,u=Value.int .i64 z/\I64 z
 | 0,e,h,_,_,_,_=>by simp[q6] at h
 | d+1,e,h,n,cs,y,ht=>by
  rw[q6] at h;split at h
  ·rename_i hu;obtain⟨q,rfl,_,hw⟩:=DataW.trod_int hu ht;refine⟨by simpa using (beq_iff_eq.1 h).symm,fun j u hj=>⟨q,?_,cI hw⟩⟩;cases j with
   | zero=>simpa using hj.symm
   | succ j=>simp at hj
  ·rename_i fs hu;simp only[Bool.and_eq_true,List.all_eq_true] at h;obtain⟨h1,h2⟩:=h;obtain⟨xs,m,_,_,hl,F,D⟩:=DataW.trod_struct hu ht;refine⟨hl,fun j u hj=>?_⟩;have A:j<P.cellsOf e:=by rw[<- hl];exact (List.getElem?_eq_some_iff.1 hj).1
   have h3:=h2 j (List.mem_range.2 A);obtain⟨f,hf,h4⟩:=List.any_eq_true.1 h3;simp only[Bool.and_eq_true] at h4;have I:=Nat.le_of_ble_eq_true h4.1;have J:j<f.offset+P.cellsOf f.type:=by
    have:=h4.2;simp only[Nat.blt] at this;exact Nat.le_of_ble_eq_true this
   obtain⟨i,hi⟩:=List.getElem?_of_mem hf;have l:fs[i]? = some f:=by simpa using hi
   have t:=D i f l;have x:i<xs.length:=by
    have:=(Array.getElem?_eq_some_iff.1 l).1;omega
   rw[List.getElem?_eq_getElem x] at t;obtain⟨_,B⟩:=ir d f.type (h1 f hf) _ _ _ t;refine B (j - f.offset) u ?_;rw[List.getElem?_take,if_pos (by omega),List.getElem?_drop];rw[show f.offset+(j - f.offset)=j by omega];exact hj
  ·cases h
theorem fR {e:TypeId}(k:Nat)(hi:q6 P 5 e=true)(u:P.cellsOf e=k):∀ n cs y,DataW.trod en P w base spare held n e cs=some y -> ∃ z:List Int,z.length=k/\cs=(z.map fun x=>.int .i64 x) /\ ∀ x∈z,I64 x:=fun n cs y h=>by
 obtain⟨hl,t⟩:=ir 5 e hi n cs y h;rw[u] at hl;obtain⟨z,hz,hp⟩:=jC (α:=Int) (p:=fun i z=>cs[i]? = some (.int .i64 z)/\I64 z) k fun i hi=>by
  have j:i<cs.length:=by omega
  obtain⟨q,hq,hr⟩:=t i cs[i] (by simp[j]);exact⟨q,by rw[List.getElem?_eq_getElem j,hq],hr⟩
 refine⟨z,hz,?_,fun x B=>?_⟩
 ·apply List.ext_getElem?;intro i;by_cases A:i<k
  ·have l:i<z.length:=by omega
   rw[(hp i z[i] (by simp[l])).1];simp[l]
  ·rw[List.getElem?_eq_none (by omega),List.getElem?_eq_none (by simp;omega)]
 ·obtain⟨i,hi⟩:=List.mem_iff_getElem?.1 B;exact (hp i x hi).2
end
theorem SlRd.sub {α:Type}{p:α -> Prop}{X:HP}{enc:α -> List Value}{sz:Nat}{sb:Option Addr}{l:List {z:α // p z}}(h:SlRd X (fun z=>enc z.1) sz sb l):SlRd X enc sz sb (l.map (·.1)):=by
 intro g e;rcases h g e with rfl|⟨b,off,cs,T,fr,h1,h2,h3⟩
 ·exact .inl rfl
 ·refine .inr ⟨b,off,cs,T,fr,h1,h2,fun i hi=>?_⟩;rw[lM] at hi;rw[h3 i hi];simp[List.flatMap_map]
theorem jU {α:Type}{p:α -> Prop}(l:List {z:α // p z}):∀ z∈l.map (·.1),p z:=fun z hz=>by
 obtain⟨y,_,rfl⟩:=List.mem_map.1 hz;exact y.2
theorem wj.sub {α:Type}{p:α -> Prop}{enc:α -> List Value}{sz:Nat}(h:wj enc sz):wj (fun z:{z:α // p z}=>enc z.1) sz:=⟨fun x=>h.len x.1,fun x=>h.one x.1⟩
end Go.Th
namespace Go.Th
def tJ {α:Type}(enc:α -> List Value)(z:α):Prop:=∀ n:Int,Value.int .i64 n∈enc z->I64 n
theorem dS {l:List Int}{n:Int}(h:Value.int .i64 n∈l.map fun x=>Value.int .i64 x):n∈l:=by
 obtain⟨x,i,e⟩:=List.mem_map.1 h;cases e;exact i
end Go.Th
namespace Go.Th
section
variable {H:Type} {en:TypeId × Value->H} {P:Program} {w:World} {base:Nat} {spare:Nat->Bool} {held:Bool}
theorem j3 {e:TypeId}(he:P.underlying e=some (.int .i64)):∀ n cs y,DataW.trod en P w base spare held n e cs=some y -> ∃ z:{z:Int // tJ ecI z},cs=ecI z.1:=fun n cs y h=>by
 obtain⟨z,rfl,_,hw⟩:=DataW.trod_int he h;have hz:=cI hw;exact⟨⟨z,fun n hn=>by simp[ecI] at hn;rw[hn];exact hz⟩,rfl⟩
end
end Go.Th
end
noncomputable section
namespace Go.Th
end Go.Th
end
namespace Go.Th
noncomputable section
theorem Rd.take {w:World}{e:Option Addr}{a b:List Value}(h:Rd w e (a++b)):Rd w e a:=by
 rcases h with h|⟨i,h1,h2⟩
 ·left
  exact (List.append_eq_nil_iff.1 h).1
 ·refine .inr ⟨i,h1,fun j u hj=>h2 j u ?_⟩;rw[List.getElem?_append_left (List.getElem?_eq_some_iff.1 hj).1];exact hj
section
variable {P:Program} {α:Type} {T:TypeId} {enc:α -> List Value} {sz:Nat} {w0 w:World} {As:List HP}
end
end
end Go.Th
namespace Go.Proofs.YtojpmaakhdmhmaaGreat
open Go.Th
noncomputable section
set_option maxRecDepth 10000
set_option maxHeartbeats 4000000
structure zs where
 f0:Int
 f1:Int
 f2:Int
 f3:Int
 f4:Int
 f5:Int
 f6:Int
 f7:Int
 f8:Int
 f9:Int
 taken:Bool
def zs.enc (x:zs):List Value:=[.int .i64 x.f0,.int .i64 x.f1,.int .i64 x.f2,.int .i64 x.f3,.int .i64 x.f4,.int .i64 x.f5,.int .i64 x.f6,.int .i64 x.f7,.int .i64 x.f8,.int .i64 x.f9,.bool x.taken]
def zs.rH (x:zs)(i:Int):Option Int :=
 if i=0 then some x.f0 else if i=1 then some x.f1 else if i=2 then some x.f2 else if i=3 then some x.f3 else if i=4 then some x.f4 else if i=5 then some x.f5 else if i=6 then some x.f6 else if i=7 then some x.f7 else if i=8 then some x.f8 else if i=9 then some x.f9 else none
def zs.qJ (x:zs)(i v:Int):Option zs :=
 if i=0 then some (zs.mk v x.f1 x.f2 x.f3 x.f4 x.f5 x.f6 x.f7 x.f8 x.f9 x.taken) else if i=1 then some (zs.mk x.f0 v x.f2 x.f3 x.f4 x.f5 x.f6 x.f7 x.f8 x.f9 x.taken) else if i=2 then some (zs.mk x.f0 x.f1 v x.f3 x.f4 x.f5 x.f6 x.f7 x.f8 x.f9 x.taken) else if i=3 then some (zs.mk x.f0 x.f1 x.f2 v x.f4 x.f5 x.f6 x.f7 x.f8 x.f9 x.taken) else if i=4 then some (zs.mk x.f0 x.f1 x.f2 x.f3 v x.f5 x.f6 x.f7 x.f8 x.f9 x.taken) else if i=5 then some (zs.mk x.f0 x.f1 x.f2 x.f3 x.f4 v x.f6 x.f7 x.f8 x.f9 x.taken) else if i=6 then some (zs.mk x.f0 x.f1 x.f2 x.f3 x.f4 x.f5 v x.f7 x.f8 x.f9 x.taken) else if i=7 then some (zs.mk x.f0 x.f1 x.f2 x.f3 x.f4 x.f5 x.f6 v x.f8 x.f9 x.taken) else if i=8 then some (zs.mk x.f0 x.f1 x.f2 x.f3 x.f4 x.f5 x.f6 x.f7 v x.f9 x.taken) else if i=9 then some (zs.mk x.f0 x.f1 x.f2 x.f3 x.f4 x.f5 x.f6 x.f7 x.f8 v x.taken) else none
theorem zs.yN:wj zs.enc 11:=⟨fun _=>rfl,fun x u hu=>by simp only[zs.enc,iC,List.not_mem_nil,or_false] at hu;rcases hu with rfl|rfl|rfl|rfl|rfl|rfl|rfl|rfl|rfl|rfl|rfl <;> rfl⟩
structure zD where
 steps:Int
 begun:Int
 most:Int
structure zb where
 l:List zs
 never:Int
 free:List Int
 m_:zD
structure zB where
 kind:Int
 root:Int
 n:Int
def zB.enc (x:zB):List Value:=[.int .i64 x.kind,.int .i64 x.root,.int .i64 x.n]
theorem zB.yN:wj zB.enc 3:=⟨fun _=>rfl,fun x u hu=>by simp only[zB.enc,iC,List.not_mem_nil,or_false] at hu;rcases hu with rfl|rfl|rfl <;> rfl⟩
structure zu where
 gen:Int
 taken:Bool
 v_:zB
def zu.enc (x:zu):List Value:=[.int .i64 x.gen,.bool x.taken,.int .i64 x.v_.kind,.int .i64 x.v_.root,.int .i64 x.v_.n]
theorem zu.yN:wj zu.enc 5:=⟨fun _=>rfl,fun x u hu=>by simp only[zu.enc,iC,List.not_mem_nil,or_false] at hu;rcases hu with rfl|rfl|rfl|rfl|rfl <;> rfl⟩
structure zg where
 most:Int
 l:List zu
 free:List Int
structure ze where
 At:Int
 Gen:Int
def ze.enc (x:ze):List Value:=[.int .i64 x.At,.int .i64 x.Gen]
theorem ze.yN:wj ze.enc 2:=⟨fun _=>rfl,fun x u hu=>by simp only[ze.enc,iC,List.not_mem_nil,or_false] at hu;rcases hu with rfl|rfl <;> rfl⟩
structure zA where
 cell:Int
 heap:ze
def zA.enc (x:zA):List Value:=[.int .i64 x.cell,.int .i64 x.heap.At,.int .i64 x.heap.Gen]
theorem zA.yN:wj zA.enc 3:=⟨fun _=>rfl,fun x u hu=>by simp only[zA.enc,iC,List.not_mem_nil,or_false] at hu;rcases hu with rfl|rfl|rfl <;> rfl⟩
structure zp where
 gen:Int
 taken:Bool
 v_:zA
def zp.enc (x:zp):List Value:=[.int .i64 x.gen,.bool x.taken,.int .i64 x.v_.cell,.int .i64 x.v_.heap.At,.int .i64 x.v_.heap.Gen]
theorem zp.yN:wj zp.enc 5:=⟨fun _=>rfl,fun x u hu=>by simp only[zp.enc,iC,List.not_mem_nil,or_false] at hu;rcases hu with rfl|rfl|rfl|rfl|rfl <;> rfl⟩
structure zd where
 most:Int
 l:List zp
 free:List Int
structure zj where
 heaps:zg
 items:zd
 at_:List (Int × ze)
def ze.val (x:ze):Value:=.agg #[.int .i64 x.At,.int .i64 x.Gen]
structure zi where
 Key:Int
 Serial:Int
def zi.enc (x:zi):List Value:=[.int .i64 x.Key,.int .i64 x.Serial]
theorem zi.yN:wj zi.enc 2:=⟨fun _=>rfl,fun x u hu=>by simp only[zi.enc,iC,List.not_mem_nil,or_false] at hu;rcases hu with rfl|rfl <;> rfl⟩
structure zo where
 items:Int
 a_:zb
 t_:zj
 entries:List (ze × zi)
 serial:Int
def zi.val (x:zi):Value:=.agg #[.int .i64 x.Key,.int .i64 x.Serial]
structure zz where
 Queue:Int
 Time:Int
 Data:Int
 Item:ze
def zz.enc (x:zz):List Value:=[.int .i64 x.Queue,.int .i64 x.Time,.int .i64 x.Data,.int .i64 x.Item.At,.int .i64 x.Item.Gen]
theorem zz.yN:wj zz.enc 5:=⟨fun _=>rfl,fun x u hu=>by simp only[zz.enc,iC,List.not_mem_nil,or_false] at hu;rcases hu with rfl|rfl|rfl|rfl|rfl <;> rfl⟩
structure zq where
 gen:Int
 taken:Bool
 v_:zz
def zq.enc (x:zq):List Value:=[.int .i64 x.gen,.bool x.taken,.int .i64 x.v_.Queue,.int .i64 x.v_.Time,.int .i64 x.v_.Data,.int .i64 x.v_.Item.At,.int .i64 x.v_.Item.Gen]
theorem zq.yN:wj zq.enc 7:=⟨fun _=>rfl,fun x u hu=>by simp only[zq.enc,iC,List.not_mem_nil,or_false] at hu;rcases hu with rfl|rfl|rfl|rfl|rfl|rfl|rfl <;> rfl⟩
structure zf where
 most:Int
 l:List zq
 free:List Int
structure zn where
 p:zf
 by_:List (ze × ze)
structure zL where
 now:Int
structure za where
 kind:Int
 most:Int
 q:zo
 heaps0:ze
 heaps1:ze
 t_:zn
 when:List (ze × Int)
 clock:zL
 budget:Int
 last:Int
 top:Int
structure zY where
 Op:Int
 Kind:Int
 Heap:ze
 Other:ze
 Item:ze
 Key:Int
def zY.enc (x:zY):List Value:=[.int .i64 x.Op,.int .i64 x.Kind,.int .i64 x.Heap.At,.int .i64 x.Heap.Gen,.int .i64 x.Other.At,.int .i64 x.Other.Gen,.int .i64 x.Item.At,.int .i64 x.Item.Gen,.int .i64 x.Key]
theorem zY.yN:wj zY.enc 9:=⟨fun _=>rfl,fun x u hu=>by simp only[zY.enc,iC,List.not_mem_nil,or_false] at hu;rcases hu with rfl|rfl|rfl|rfl|rfl|rfl|rfl|rfl|rfl <;> rfl⟩
structure zJ where
 Why:Int
 Heap:ze
 Item:ze
 Entry:zi
 N:Int
def zJ.enc (x:zJ):List Value:=[.int .i64 x.Why,.int .i64 x.Heap.At,.int .i64 x.Heap.Gen,.int .i64 x.Item.At,.int .i64 x.Item.Gen,.int .i64 x.Entry.Key,.int .i64 x.Entry.Serial,.int .i64 x.N]
theorem zJ.yN:wj zJ.enc 8:=⟨fun _=>rfl,fun x u hu=>by simp only[zJ.enc,iC,List.not_mem_nil,or_false] at hu;rcases hu with rfl|rfl|rfl|rfl|rfl|rfl|rfl|rfl <;> rfl⟩
def zY.val (x:zY):Value:=.agg #[.int .i64 x.Op,.int .i64 x.Kind,.int .i64 x.Heap.At,.int .i64 x.Heap.Gen,.int .i64 x.Other.At,.int .i64 x.Other.Gen,.int .i64 x.Item.At,.int .i64 x.Item.Gen,.int .i64 x.Key]
def zB.val (x:zB):Value:=.agg #[.int .i64 x.kind,.int .i64 x.root,.int .i64 x.n]
structure zm where
 n:Int
 rank:Int
def zm.enc (x:zm):List Value:=[.int .i64 x.n,.int .i64 x.rank]
theorem zm.yN:wj zm.enc 2:=⟨fun _=>rfl,fun x u hu=>by simp only[zm.enc,iC,List.not_mem_nil,or_false] at hu;rcases hu with rfl|rfl <;> rfl⟩
def zm.val (x:zm):Value:=.agg #[.int .i64 x.n,.int .i64 x.rank]
def zA.val (x:zA):Value:=.agg #[.int .i64 x.cell,.int .i64 x.heap.At,.int .i64 x.heap.Gen]
def ze.eq (x y:ze):Bool:=(x.At == y.At && (x.Gen == y.Gen && true))
structure zk where
 Most:Int
 Gens:List Int
 In:List Bool
 V:List Int
 Back:List Int
structure zC where
 Queue:Int
 Data:Int
 E:zi
 R:ze
def zC.enc (x:zC):List Value:=[.int .i64 x.Queue,.int .i64 x.Data,.int .i64 x.E.Key,.int .i64 x.E.Serial,.int .i64 x.R.At,.int .i64 x.R.Gen]
theorem zC.yN:wj zC.enc 6:=⟨fun _=>rfl,fun x u hu=>by simp only[zC.enc,iC,List.not_mem_nil,or_false] at hu;rcases hu with rfl|rfl|rfl|rfl|rfl|rfl <;> rfl⟩
structure zc where
 Most:Int
 Now:Int
 Next:Int
 Pool:zk
 L:List zC
structure zh where
 L:List zi
structure zt where
 Kind:Int
 Queue:Int
 Job:ze
 Time:Int
 Data:Int
def zt.enc (x:zt):List Value:=[.int .i64 x.Kind,.int .i64 x.Queue,.int .i64 x.Job.At,.int .i64 x.Job.Gen,.int .i64 x.Time,.int .i64 x.Data]
theorem zt.yN:wj zt.enc 6:=⟨fun _=>rfl,fun x u hu=>by simp only[zt.enc,iC,List.not_mem_nil,or_false] at hu;rcases hu with rfl|rfl|rfl|rfl|rfl|rfl <;> rfl⟩
structure zr where
 Why:Int
 Job:ze
 Time:Int
 Data:Int
 N:Int
def zr.enc (x:zr):List Value:=[.int .i64 x.Why,.int .i64 x.Job.At,.int .i64 x.Job.Gen,.int .i64 x.Time,.int .i64 x.Data,.int .i64 x.N]
theorem zr.yN:wj zr.enc 6:=⟨fun _=>rfl,fun x u hu=>by simp only[zr.enc,iC,List.not_mem_nil,or_false] at hu;rcases hu with rfl|rfl|rfl|rfl|rfl|rfl <;> rfl⟩
def zz.val (x:zz):Value:=.agg #[.int .i64 x.Queue,.int .i64 x.Time,.int .i64 x.Data,.int .i64 x.Item.At,.int .i64 x.Item.Gen]
def zt.val (x:zt):Value:=.agg #[.int .i64 x.Kind,.int .i64 x.Queue,.int .i64 x.Job.At,.int .i64 x.Job.Gen,.int .i64 x.Time,.int .i64 x.Data]
def zr.eq (x y:zr):Bool:=(x.Why == y.Why && (ze.eq x.Job y.Job && (x.Time == y.Time && (x.Data == y.Data && (x.N == y.N && true)))))
def zi.eq (x y:zi):Bool:=(x.Key == y.Key && (x.Serial == y.Serial && true))
structure zF where
 Kind:Int
 Queue:Int
 Job:Int
 Data:Int
 Time:Int
 Raw:zt
def zF.enc (x:zF):List Value:=[.int .i64 x.Kind,.int .i64 x.Queue,.int .i64 x.Job,.int .i64 x.Data,.int .i64 x.Time,.int .i64 x.Raw.Kind,.int .i64 x.Raw.Queue,.int .i64 x.Raw.Job.At,.int .i64 x.Raw.Job.Gen,.int .i64 x.Raw.Time,.int .i64 x.Raw.Data]
theorem zF.yN:wj zF.enc 11:=⟨fun _=>rfl,fun x u hu=>by simp only[zF.enc,iC,List.not_mem_nil,or_false] at hu;rcases hu with rfl|rfl|rfl|rfl|rfl|rfl|rfl|rfl|rfl|rfl|rfl <;> rfl⟩
def zF.val (x:zF):Value:=.agg #[.int .i64 x.Kind,.int .i64 x.Queue,.int .i64 x.Job,.int .i64 x.Data,.int .i64 x.Time,.int .i64 x.Raw.Kind,.int .i64 x.Raw.Queue,.int .i64 x.Raw.Job.At,.int .i64 x.Raw.Job.Gen,.int .i64 x.Raw.Time,.int .i64 x.Raw.Data]
def yP (n:Int)(lo:Int)(hi:Int):Option (Int) :=
 (bif (decide (n >= lo)) && (decide (n<=hi)) then
  some n
 else
  (mNz (w64 ((w64 (hi - lo))+1))).bind fun u =>
  ((bif decide (Int.tmod n (w64 ((w64 (hi - lo))+1))<0) then
   some (w64 ((w64 ((w64 ((Int.tmod n (w64 ((w64 (hi - lo))+1)))+hi)) - lo))+1))
  else
   some (Int.tmod n (w64 ((w64 (hi - lo))+1))))).bind fun s =>
  some (w64 (lo+s)))
def uz (e:Int):Option (Bool) :=
 some ((decide (e >= 1)) && (decide (e<=3)))
def bits_Len64 (x:Int):Option (Int) :=
 ((bif decide (x >= 4294967296) then
  some (Int.fdiv x (2 ^ (min (Int.toNat 32) 64)),32)
 else
  some (x,0))).bind fun s =>
 ((bif decide (s.1 >= 65536) then
  some (Int.fdiv s.1 (2 ^ (min (Int.toNat 16) 64)),w64 (s.2+16))
 else
  some (s.1,s.2))).bind fun s1 =>
 ((bif decide (s1.1 >= 256) then
  some (Int.fdiv s1.1 (2 ^ (min (Int.toNat 8) 64)),w64 (s1.2+8))
 else
  some (s1.1,s1.2))).bind fun s2 =>
 (bT (ByteArray.mk #[0,1,2,2,3,3,3,3,4,4,4,4,4,4,4,4,5,5,5,5,5,5,5,5,5,5,5,5,5,5,5,5,6,6,6,6,6,6,6,6,6,6,6,6,6,6,6,6,6,6,6,6,6,6,6,6,6,6,6,6,6,6,6,6,7,7,7,7,7,7,7,7,7,7,7,7,7,7,7,7,7,7,7,7,7,7,7,7,7,7,7,7,7,7,7,7,7,7,7,7,7,7,7,7,7,7,7,7,7,7,7,7,7,7,7,7,7,7,7,7,7,7,7,7,7,7,7,7,8,8,8,8,8,8,8,8,8,8,8,8,8,8,8,8,8,8,8,8,8,8,8,8,8,8,8,8,8,8,8,8,8,8,8,8,8,8,8,8,8,8,8,8,8,8,8,8,8,8,8,8,8,8,8,8,8,8,8,8,8,8,8,8,8,8,8,8,8,8,8,8,8,8,8,8,8,8,8,8,8,8,8,8,8,8,8,8,8,8,8,8,8,8,8,8,8,8,8,8,8,8,8,8,8,8,8,8,8,8,8,8,8,8,8,8,8,8,8,8,8,8,8,8,8,8,8,8]) (IntKind.wrap .u8 (s2.1))).bind fun e =>
 some (w64 (s2.2+(w64 (e))))
def bits_Len (x:Int):Option (Int) :=
 (bits_Len64 x).bind fun t_ =>
 some t_
def qj (n:Int):Option (Int) :=
 (bits_Len (IntKind.wrap .u64 ((if n > 0 then n else 0)))).bind fun t_ =>
 some t_
def wS (a_:Int)(b:Int):Option (Int) :=
 (bif (decide (b > 0)) && (decide (a_ > w64 (9223372036854775807 - b))) then
  some 9223372036854775807
 else
  (bif (decide (b<0)) && (decide (a_<w64 ((-9223372036854775808) - b))) then
   some (-9223372036854775808)
  else
   some (w64 (a_+b))))
def w9 (j:Int)(x1:Int):Nat->Int->Int->Option (Int)
 | 0,_,_=>none
 | m+1,e,x =>
  (bif decide (x<x1) then
   (wS e j).bind fun i =>
   w9 j x1 m i (w64 (x+1))
  else
   some e)
def rz (k:Nat)(a_:Int)(b:Int)(n:Int):Option (Int) :=
 (qj n).bind fun t_ =>
 (w9 b t_ k a_ 0).bind fun s =>
 some s
def si (k:Nat)(i:Int)(items:Int):Option (Int × Bool) :=
 ((uz i).bind fun t_ =>
 (bif !t_ then
  some true
 else
  (bif decide (items<1) then
   some true
  else
   some (decide (items > 4096))))).bind fun s =>
 (bif s then
  some (0,false)
 else
  (rz k 2000 1600 (w64 (items+1))).bind fun e =>
  some (e,true))
def o9  : Option (zD) :=
 some (zD.mk 0 0 0)
def qS (cells:Int):Option (zb) :=
 (gz (if (if 65536<cells then 65536 else cells) > 0 then (if 65536<cells then 65536 else cells) else 0) (zs.mk 0 0 0 0 0 0 0 0 0 0 false)).bind fun l =>
 (o9).bind fun t_ =>
 some (zb.mk l 0 ([]:List Int) t_)
def uo (places:Int):Option (zg) :=
 some (zg.mk (if (if 65536<places then 65536 else places) > 0 then (if 65536<places then 65536 else places) else 0) ([]:List zu) ([]:List Int))
def vS (places:Int):Option (zd) :=
 some (zd.mk (if (if 65536<places then 65536 else places) > 0 then (if 65536<places then 65536 else places) else 0) ([]:List zp) ([]:List Int))
def nE (items:Int):Option (zj) :=
 (uo 64).bind fun t_ =>
 (vS (if (if 16384<items then 16384 else items) > 1 then (if 16384<items then 16384 else items) else 1)).bind fun e =>
 some (zj.mk t_ e ([]:List (Int × ze)))
def kA (items:Int):Option ((Option zo) × Int) :=
 (bif (decide (items<1)) || (decide (items > 16384)) then
  some ((none:Option zo),1)
 else
  (qS (w64 (2*items))).bind fun t_ =>
  (nE items).bind fun e =>
  some (some (zo.mk items t_ e ([]:List (ze × zi)) 0),0))
def uX (places:Int):Option (zf) :=
 some (zf.mk (if (if 65536<places then 65536 else places) > 0 then (if 65536<places then 65536 else places) else 0) ([]:List zq) ([]:List Int))
def q7 (e:Int):Option (zn) :=
 (uX (if (if 4096<e then 4096 else e) > 1 then (if 4096<e then 4096 else e) else 1)).bind fun t_ =>
 some (zn.mk t_ ([]:List (ze × ze)))
def qU  : Option (zL) :=
 some (zL.mk 0)
def wk (e:zY):Option (zJ) :=
 none
def uR (a_:zb):Option (Unit) :=
 some ()
def sX (m_:zD):Option (Int) :=
 some (w64 (m_.steps - m_.begun))
def rF (m_:zD):Option (Int) :=
 (sX m_).bind fun t_ =>
 some (if t_ > m_.most then t_ else m_.most)
def uV (m_:zD):Option (zD) :=
 (rF m_).bind fun t_ =>
 some (zD.mk m_.steps m_.steps t_)
def sU (e:Int):Option (Bool) :=
 some ((decide (e >= 1)) && (decide (e<=5)))
def yy (p:zg)(v_:zB):Option (ze × Bool × zg) :=
 ((bif decide (w64 ((p.free.length:Int) - 1) >= 0) then
  (mIdx p.free (w64 ((p.free.length:Int) - 1))).bind fun x =>
  (mCut p.free 0 (w64 ((p.free.length:Int) - 1))).bind fun l =>
  some (.inr (x,zg.mk p.most p.l l))
 else
  (bif decide ((p.l.length:Int) >= p.most) then
   some (.inl (ze.mk 0 0,false,p))
  else
   (mApp p.l ([zu.mk 0 false (zB.mk 0 0 0)]:List zu)).bind fun l1 =>
   some (.inr ((p.l.length:Int),zg.mk p.most l1 p.free)))):Option ((ze × Bool × zg) ⊕ (Int × zg))).bind fun s =>
 match s with
 | .inl e=>some e
 | .inr s1 =>
  (mIdx s1.2.l s1.1).bind fun x1 =>
  some (ze.mk s1.1 (w64 (x1.gen+1)),true,zg.mk s1.2.most (mSet (mSet (mSet s1.2.l s1.1 (zu.mk (w64 (x1.gen+1)) x1.taken x1.v_)) s1.1 (zu.mk (w64 (x1.gen+1)) true x1.v_)) s1.1 (zu.mk (w64 (x1.gen+1)) true v_)) s1.2.free)
def uh (t_:zj)(j:Int):Option (ze × Int × zj) :=
 (sU j).bind fun i =>
 (bif !i then
  some (ze.mk 0 0,24,t_)
 else
  (yy t_.heaps (zB.mk j (-1) 0)).bind fun e =>
  (bif !e.2.1 then
   some (ze.mk 0 0,13,zj.mk e.2.2 t_.items t_.at_)
  else
   some (e.1,0,zj.mk e.2.2 t_.items t_.at_)))
def yL (p:zg)(r:ze):Option ((Option Int) × Int) :=
 ((bif decide (r.At<0) then
  some true
 else
  (bif decide (r.At >= (p.l.length:Int)) then
   some true
  else
   (bif decide (r.Gen<1) then
    some true
   else
    (mIdx p.l r.At).bind fun x1 =>
    some (decide (r.Gen > x1.gen)))))).bind fun s =>
 (bif s then
  some ((none:Option Int),22)
 else
  (mIdx p.l r.At).bind fun x2 =>
  (bif (decide (r.Gen<x2.gen)) || (!x2.taken) then
   some ((none:Option Int),23)
  else
   some ((some r.At:Option Int),0)))
def ym (p:zg)(r:ze):Option (zB × Int) :=
 (yL p r).bind fun t_ =>
 (tm t_.1
  ((bif t_.2 != 0 then
   some (zB.mk 0 0 0,t_.2)
  else
   none))
  (fun i =>
  (mIdx p.l i).bind fun x =>
  (bif t_.2 != 0 then
   some (zB.mk 0 0 0,t_.2)
  else
   some (x.v_,0))))
def yY (t_:zj)(i:ze):Option (Int × Int × Int × Int) :=
 (ym t_.heaps i).bind fun e =>
 some (e.1.kind,e.1.root,e.1.n,e.2)
def vc (e:Int):Option (zJ) :=
 some (zJ.mk e (ze.mk 0 0) (ze.mk 0 0) (zi.mk 0 0) 0)
def yM (p:zd):Option (Int) :=
 some (w64 ((p.l.length:Int) - (p.free.length:Int)))
def vN (t_:zj):Option (Int) :=
 (yM t_.items).bind fun e =>
 some e
def xg (m_:zD)(n:Int):Option (zD) :=
 (wS m_.steps (if n > 0 then n else 0)).bind fun t_ =>
 some (zD.mk t_ m_.begun m_.most)
def ra  : Option (zs) :=
 some (zs.mk (-1) (-1) (-1) (-1) 0 0 (-1) 0 0 (-1) true)
def w6 (a_:zb):Option (Int × Bool × zb) :=
 (xg a_.m_ 1).bind fun t_ =>
 ((bif decide (w64 ((a_.free.length:Int) - 1) >= 0) then
  (mIdx a_.free (w64 ((a_.free.length:Int) - 1))).bind fun x =>
  (mCut a_.free 0 (w64 ((a_.free.length:Int) - 1))).bind fun l =>
  some (.inr (x,zb.mk a_.l a_.never l t_))
 else
  (bif decide (a_.never >= (a_.l.length:Int)) then
   some (.inl ((-1),false,zb.mk a_.l a_.never a_.free t_))
  else
   some (.inr (a_.never,zb.mk a_.l (w64 (a_.never+1)) a_.free t_)))):Option ((Int × Bool × zb) ⊕ (Int × zb))).bind fun s =>
 match s with
 | .inl i=>some i
 | .inr s1 =>
  (ra).bind fun e =>
  (mIdx s1.2.l s1.1).bind fun x1 =>
  some (s1.1,true,zb.mk (mSet s1.2.l s1.1 e) s1.2.never s1.2.free s1.2.m_)
def yb (a_:zb)(e:Int):Option (Bool) :=
 ((bif decide (e >= 0) then
  (bif decide (e<(a_.l.length:Int)) then
   (mIdx a_.l e).bind fun x1 =>
   some x1.taken
  else
   some false)
 else
  some false)).bind fun s =>
 some s
def xN (a_:zb)(e:Int)(field:Int):Option (Bool) :=
 ((yb a_ e).bind fun t_ =>
 (bif t_ then
  (bif decide (field >= 0) then
   some (decide (field<10))
  else
   some false)
 else
  some false)).bind fun s =>
 some s
def zx (a_:zb)(e:Int)(field:Int)(v_:Int):Option (Bool × zb) :=
 (xg a_.m_ 1).bind fun t_ =>
 (xN (zb.mk a_.l a_.never a_.free t_) e field).bind fun i =>
 (bif !i then
  some (false,zb.mk a_.l a_.never a_.free t_)
 else
  (mIdx a_.l e).bind fun x =>
  (mIn field 10).bind fun u =>
  (zs.qJ x field v_).bind fun y =>
  some (true,zb.mk (mSet a_.l e y) a_.never a_.free t_))
def oE (a_:zb)(key:Int)(serial:Int):Option (Int × Bool × zb) :=
 (w6 a_).bind fun t_ =>
 ((bif t_.2.1 then
  (zx t_.2.2 t_.1 7 key).bind fun e =>
  (zx e.2 t_.1 8 serial).bind fun i =>
  some i.2
 else
  some t_.2.2)).bind fun s =>
 some (t_.1,t_.2.1,s)
def qf (a_:zb)(n:Int)(i:Int):Option (zb) :=
 (zx a_ n 6 i).bind fun t_ =>
 (zx t_.2 i 9 n).bind fun e =>
 some e.2
def qi (a_:zb)(i:Int):Option (Int × Bool × zb) :=
 (w6 a_).bind fun t_ =>
 ((bif t_.2.1 then
  (qf t_.2.2 t_.1 i).bind fun e =>
  some e
 else
  some t_.2.2)).bind fun s =>
 some (t_.1,t_.2.1,s)
def xz (a_:zb):Option (Int) :=
 some (a_.l.length:Int)
def zR (a_:zb)(i:Int)(field:Int):Option (Int × zb) :=
 (xg a_.m_ 1).bind fun t_ =>
 (xN (zb.mk a_.l a_.never a_.free t_) i field).bind fun e =>
 (bif !e then
  some ((-1),zb.mk a_.l a_.never a_.free t_)
 else
  (mIdx a_.l i).bind fun x =>
  (mIn field 10).bind fun u =>
  (zs.rH x field).bind fun v_ =>
  some (v_,zb.mk a_.l a_.never a_.free t_))
def zE (a_:zb)(e:Int)(field:Int):Option (Int × zb) :=
 (zR a_ e field).bind fun t_ =>
 ((bif decide (t_.1<0) then
  some true
 else
  some (decide (t_.1 >= (t_.2.l.length:Int))))).bind fun s =>
 (bif s then
  some ((-1),t_.2)
 else
  some (t_.1,t_.2))
def sS (a_:zb)(i:Int):Option (zi × zb) :=
 (zR a_ i 7).bind fun t_ =>
 (zR t_.2 i 8).bind fun e =>
 some (zi.mk t_.1 e.1,e.2)
def vC (x:Int):Option (Bool) :=
 some (x != x)
def wO (x:Int)(y:Int):Option (Int) :=
 (vC x).bind fun t_ =>
 (vC y).bind fun e =>
 (bif t_ then
  (bif e then
   some 0
  else
   some (-1))
 else
  (bif e then
   some 1
  else
   (bif decide (x<y) then
    some (-1)
   else
    (bif decide (x > y) then
     some 1
    else
     some 0))))
def vJ (x1:Int)(l:List Int):Nat->Int->Option ((Int) ⊕ (Unit))
 | 0,_=>none
 | m+1,x =>
  (bif decide (x<x1) then
   (mIdx l x).bind fun x2 =>
   (bif x2 != 0 then
    some (.inl x2)
   else
    vJ x1 l m (w64 (x+1)))
  else
   some (.inr ()))
def qb (k:Nat)(e:List Int):Option (Int) :=
 (vJ (e.length:Int) e k 0).bind fun s =>
 match s with
 | .inl i=>some i
 | .inr s1 =>
  some 0
def wF (k:Nat)(a_:zi)(b:zi):Option (Int) :=
 (wO a_.Key b.Key).bind fun t_ =>
 (wO a_.Serial b.Serial).bind fun e =>
 (qb k ([t_,e]:List Int)).bind fun i =>
 some i
def rh (k:Nat)(a_:zb)(i:Int)(j:Int):Option (Bool × zb) :=
 (sS a_ i).bind fun t_ =>
 (sS t_.2 j).bind fun e =>
 (wF k t_.1 e.1).bind fun l =>
 some ((decide (l<0)) || ((l == 0) && (decide (i<j))),e.2)
def vF (k:Nat)(a_:zb)(n:Int)(m_:Int):Option (Bool × zb) :=
 (zE a_ n 6).bind fun t_ =>
 (zE t_.2 m_ 6).bind fun e =>
 (rh k e.2 t_.1 e.1).bind fun i =>
 some (i.1,i.2)
def tf (a_:zb)(n:Int):Option (Int × zb) :=
 (bif n == (-1) then
  some (0,a_)
 else
  (zR a_ n 4).bind fun t_ =>
  some (t_.1,t_.2))
def tQ (a_:zb)(n:Int):Option (Bool × zb) :=
 (zE a_ n 2).bind fun t_ =>
 (zE t_.2 n 3).bind fun i =>
 (tf i.2 t_.1).bind fun j =>
 (tf j.2 i.1).bind fun e =>
 ((bif decide (j.1<e.1) then
  (zx e.2 n 2 i.1).bind fun t =>
  (zx t.2 n 3 t_.1).bind fun u =>
  some (j.1,u.2)
 else
  some (e.1,e.2))).bind fun s =>
 (zR s.2 n 4).bind fun l =>
 (zx l.2 n 4 (w64 (s.1+1))).bind fun x =>
 some (l.1 != (w64 (s.1+1)),x.2)
def wQ:Nat->Int->Int->(List Int)->zb->Option (Int × Int × (List Int) × zb)
 | 0,_,_,_,_=>none
 | m+1,r1,s1,path,m_ =>
  ((bif r1 != (-1) then
   (bif s1 != (-1) then
    (xz m_).bind fun t_ =>
    some (decide ((path.length:Int)<=t_))
   else
    some false)
  else
   some false)).bind fun t =>
  (bif t then
   (vF m m_ s1 r1).bind fun e =>
   ((bif e.1 then
    some (s1,r1)
   else
    some (r1,s1))).bind fun j =>
   (mApp path ([j.1]:List Int)).bind fun l =>
   (zE e.2 j.1 3).bind fun i =>
   wQ m i.1 j.2 l i.2
  else
   some (r1,s1,path,m_))
def xO (l1:List Int):Nat->Int->Int->zb->Option (Int × zb)
 | 0,_,_,_=>none
 | m+1,top,e,i =>
  (bif decide (e >= 0) then
   (mIdx l1 e).bind fun x =>
   (zx i x 3 top).bind fun j =>
   (mIdx l1 e).bind fun x1 =>
   (zx j.2 top 0 x1).bind fun l =>
   (mIdx l1 e).bind fun x2 =>
   (tQ l.2 x2).bind fun t =>
   xO l1 m x2 (w64 (e - 1)) t.2
  else
   some (top,i))
def wV (k:Nat)(a_:zb)(r:Int)(s:Int):Option (Int × zb) :=
 (bif r == s then
  some (r,a_)
 else
  (wQ k r s ([]:List Int) a_).bind fun s2 =>
  (xO s2.2.2.1 k (if s2.2.1 > s2.1 then s2.2.1 else s2.1) (w64 ((s2.2.2.1.length:Int) - 1)) s2.2.2.2).bind fun e =>
  (zx e.2 e.1 0 (-1)).bind fun i =>
  some (e.1,i.2))
def sx (k:Nat)(a_:zb)(r:Int)(i:Int):Option (Int × Bool × zb) :=
 (qi a_ i).bind fun t_ =>
 (bif !t_.2.1 then
  some (r,false,t_.2.2)
 else
  (zx t_.2.2 t_.1 4 1).bind fun j =>
  (wV k j.2 r t_.1).bind fun e =>
  some (e.1,true,e.2))
def uW (e:Int):Nat->Int->(List Int)->zb->Option ((List Int) × zb)
 | 0,_,_,_=>none
 | m+1,j,out,m_ =>
  ((yb m_ j).bind fun t_ =>
  (bif t_ then
   (xz m_).bind fun t =>
   some (decide ((out.length:Int)<t))
  else
   some false)).bind fun s1 =>
  (bif s1 then
   (mApp out ([j]:List Int)).bind fun l =>
   (zE m_ j e).bind fun i =>
   uW e m i.1 l i.2
  else
   some (out,m_))
def pt (k:Nat)(a_:zb)(n:Int)(field:Int):Option ((List Int) × zb) :=
 (uW field k n ([]:List Int) a_).bind fun s =>
 some (s.1,s.2)
def xX (k:Nat)(a_:zb)(r:Int):Option ((List Int) × zb) :=
 (pt k a_ r 3).bind fun t_ =>
 some (t_.1,t_.2)
def ua (x:zm)(y:zm):Option (Int) :=
 some (if (if 1<w64 (x.rank - y.rank) then 1 else w64 (x.rank - y.rank)) > (-1) then (if 1<w64 (x.rank - y.rank) then 1 else w64 (x.rank - y.rank)) else (-1))
def zO (i:Int)(l:Int)(i1:Int):Nat->Int->(List zm)->Option ((List zm))
 | 0,_,_=>none
 | m+1,j,e =>
  ((bif decide (j > i) then
   (mIdx e j).bind fun x1 =>
   (mIdx e (w64 (j - 1))).bind fun x2 =>
   (ua x1 x2).bind fun t_ =>
   some (decide (t_<0))
  else
   some false)).bind fun s2 =>
  (bif s2 then
   (mIdx e (w64 (j - 1))).bind fun x3 =>
   (mIdx e j).bind fun x4 =>
   (mIdx e j).bind fun x5 =>
   (mIdx (mSet e j x3) (w64 (j - 1))).bind fun x6 =>
   zO i l i1 m (w64 (j - 1)) (mSet (mSet e j x3) (w64 (j - 1)) x4)
  else
   some e)
def zH (e:Int)(j:Int):Nat->Int->(List zm)->Option ((List zm))
 | 0,_,_=>none
 | m+1,i,m_ =>
  (bif decide (i<j) then
   (zO e j i m i m_).bind fun s1 =>
   zH e j m (w64 (i+1)) s1
  else
   some m_)
def zM (k:Nat)(data:List zm)(a_:Int)(b:Int):Option ((List zm)) :=
 (zH a_ b k (w64 (a_+1)) data).bind fun s =>
 (sa s.length data.length).bind fun u =>
 some s
def zX (e:Int):Nat->Int->Int->(List zm)->Option (Int × (List zm))
 | 0,_,_,_=>none
 | m+1,a_,b,m_ =>
  (bif decide (b<=e) then
   (zM m m_ a_ b).bind fun t_ =>
   zX e m b (w64 (b+20)) t_
  else
   some (a_,m_))
def xy (l:Int)(e:Int)(l1:List zm):Nat->Int->Int->Option (Int)
 | 0,_,_=>none
 | m+1,i,j =>
  (bif decide (j<=l) then
   none
  else
   some i)
def ya (i:Int)(l:List zm):Nat->Int->Option (Unit)
 | 0,_=>none
 | m+1,e =>
  (bif decide (e<i) then
   (xy i e l m 0 (w64 (2*e))).bind fun s2 =>
   ((bif decide (w64 (s2+e)<i) then
    none
   else
    some ())).bind fun j =>
   ya i l m (w64 (e*2))
  else
   some ())
def y1 (k:Nat)(data:List zm)(n:Int):Option ((List zm)) :=
 (zX n k 0 20 data).bind fun s =>
 (zM k s.2 s.1 n).bind fun e =>
 (ya n e k 20).bind fun s1 =>
 (sa e.length data.length).bind fun u =>
 some e
def yu (k:Nat)(x:List zm):Option ((List zm)) :=
 (y1 k x (x.length:Int)).bind fun t_ =>
 (sa t_.length x.length).bind fun u =>
 some t_
def uv (a_:zb)(n:Int)(up:Int):Option (zb) :=
 (zE a_ up 1).bind fun t_ =>
 (zx t_.2 n 3 t_.1).bind fun e =>
 (zx e.2 n 0 up).bind fun i =>
 (zx i.2 up 1 n).bind fun j =>
 some j.2
def u1 (k:Nat)(a_:zb)(n:Int)(m_:Int)(rank:Int):Option (Int × zb) :=
 (vF k a_ m_ n).bind fun t_ =>
 ((bif t_.1 then
  some (m_,n)
 else
  some (n,m_))).bind fun s =>
 (uv t_.2 s.2 s.1).bind fun e =>
 (zx e s.1 4 (w64 (rank+1))).bind fun i =>
 some (s.1,i.2)
def uA (l1:List Int):Nat->Int->Int->zb->Option (Int × zb)
 | 0,_,_,_=>none
 | m+1,next,e,m_ =>
  (bif decide (e >= 0) then
   (mIdx l1 e).bind fun x =>
   (zx m_ x 3 next).bind fun t_ =>
   (mIdx l1 e).bind fun x1 =>
   (zx t_.2 x1 0 (-1)).bind fun i =>
   (mIdx l1 e).bind fun x2 =>
   uA l1 m x2 (w64 (e - 1)) i.2
  else
   some (next,m_))
def pQ (k:Nat)(a_:zb)(l:List Int):Option (Int × zb) :=
 (uA l k (-1) (w64 ((l.length:Int) - 1)) a_).bind fun s =>
 some (s.1,s.2)
def ve (x1:Int)(l1:List Int):Nat->(List zm)->Int->zb->Option ((List zm) × zb)
 | 0,_,_,_=>none
 | m+1,wait,x,m_ =>
  (bif decide (x<x1) then
   (mIdx l1 x).bind fun x2 =>
   (zR m_ x2 4).bind fun t_ =>
   (mApp wait ([zm.mk x2 t_.1]:List zm)).bind fun l2 =>
   ve x1 l1 m l2 (w64 (x+1)) t_.2
  else
   some (wait,m_))
def vf (j:List zm)(v_:Int)(e:Int)(t:List Int)(l:zb)(u:List Int):Nat->Int->Option (Int)
 | 0,_=>none
 | m+1,i =>
  ((bif decide (i<(j.length:Int)) then
   (mIdx j i).bind fun x8 =>
   some (decide (x8.rank<e))
  else
   some false)).bind fun x =>
  (bif x then
   vf j v_ e t l u m (w64 (i+1))
  else
   some i)
def wi (l:List Int):Nat->(List zm)->(List Int)->zb->Option ((List Int) × zb)
 | 0,_,_,_=>none
 | m+1,e,out,j =>
  (bif decide ((e.length:Int) > 0) then
   (mIdx e 0).bind fun x3 =>
   ((bif (e.length:Int) == 1 then
    some true
   else
    (mIdx e 1).bind fun x5 =>
    some (x5.rank != x3.rank))).bind fun s2 =>
   (bif s2 then
    (mCut e 1 (e.length:Int)).bind fun x =>
    (mApp out ([x3.n]:List Int)).bind fun y =>
    wi l m x y j
   else
    (mIdx e 1).bind fun x6 =>
    (u1 m j x3.n x6.n x3.rank).bind fun i =>
    (mCut e 2 (e.length:Int)).bind fun u =>
    (vf u ((zm.mk i.1 (w64 (x3.rank+1))).n) ((zm.mk i.1 (w64 (x3.rank+1))).rank) out i.2 l m 0).bind fun z =>
    (qE u z ([(zm.mk i.1 (w64 (x3.rank+1)))]:List zm)).bind fun t =>
    wi l m t out i.2)
  else
   some (out,j))
def w3 (k:Nat)(a_:zb)(l:List Int):Option (Int × zb) :=
 (ve (l.length:Int) l k ([]:List zm) 0 a_).bind fun s =>
 (yu k s.1).bind fun i =>
 (wi l k i ([]:List Int) s.2).bind fun s1 =>
 (pQ k s1.2 s1.1).bind fun e =>
 some (e.1,e.2)
def uD (k:Nat)(a_:zb)(r:Int)(i:Int):Option (Int × Bool × zb) :=
 (qi a_ i).bind fun t_ =>
 (bif !t_.2.1 then
  some (r,false,t_.2.2)
 else
  (xX k t_.2.2 r).bind fun e =>
  (mApp ([t_.1]:List Int) e.1).bind fun l =>
  (w3 k e.2 l).bind fun j =>
  some (j.1,true,j.2))
def sT (a_:zb)(n:Int)(m_:Int):Option (zb) :=
 (zE a_ n 6).bind fun t_ =>
 (zE t_.2 m_ 6).bind fun e =>
 (qf e.2 n e.1).bind fun i =>
 (qf i m_ t_.1).bind fun j =>
 some j
def uZ (k:Nat)(a_:zb)(r:Int)(n:Int):Option (Int × zb) :=
 ((bif r != (-1) then
  (zE a_ r 3).bind fun t_ =>
  some (t_.1,t_.2)
 else
  some ((-1),a_))).bind fun s =>
 (zR s.2 r 4).bind fun i =>
 ((bif s.1 == (-1) then
  some (true,i.2)
 else
  (zR i.2 s.1 4).bind fun t =>
  some (t.1 != i.1,t.2))).bind fun s1 =>
 (bif s1.1 then
  (zx s1.2 n 3 r).bind fun x =>
  (zx x.2 n 0 (-1)).bind fun y =>
  some (n,y.2)
 else
  (zE s1.2 s.1 3).bind fun u =>
  (u1 k u.2 r s.1 i.1).bind fun e =>
  (vF k e.2 n e.1).bind fun j =>
  ((bif j.1 then
   (sT j.2 n e.1).bind fun z =>
   some z
  else
   some j.2)).bind fun s2 =>
  (uv s2 n e.1).bind fun A =>
  (zx A e.1 3 u.1).bind fun l =>
  some (e.1,l.2))
def rZ (k:Nat)(a_:zb)(r:Int)(i:Int):Option (Int × Bool × zb) :=
 (qi a_ i).bind fun t_ =>
 (bif !t_.2.1 then
  some (r,false,t_.2.2)
 else
  (uZ k t_.2.2 r t_.1).bind fun e =>
  some (e.1,true,e.2))
def j8 (a_:zb)(r:Int)(i:Int):Option (Int × Bool) :=
 none
def oz (a_:zb)(r:Int)(i:Int):Option (Int × Bool) :=
 none
def pd (k:Nat)(l:Int)(a_:zb)(r:Int)(i:Int):Option (Int × Bool × zb) :=
 (bif l == 1 then
  (sx k a_ r i).bind fun t_ =>
  some (t_.1,t_.2.1,t_.2.2)
 else
  (bif l == 2 then
   (uD k a_ r i).bind fun e =>
   some (e.1,e.2.1,e.2.2)
  else
   (bif l == 3 then
    (rZ k a_ r i).bind fun j =>
    some (j.1,j.2.1,j.2.2)
   else
    (bif l == 4 then
     (j8 a_ r i).bind fun t =>
     some (t.1,t.2,a_)
    else
     (bif l == 5 then
      (oz a_ r i).bind fun u =>
      some (u.1,u.2,a_)
     else
      some (r,false,a_))))))
def we (p:zd):Option (Int) :=
 some p.most
def yn (p:zd)(v_:zA):Option (ze × Bool × zd) :=
 ((bif decide (w64 ((p.free.length:Int) - 1) >= 0) then
  (mIdx p.free (w64 ((p.free.length:Int) - 1))).bind fun x =>
  (mCut p.free 0 (w64 ((p.free.length:Int) - 1))).bind fun l =>
  some (.inr (x,zd.mk p.most p.l l))
 else
  (bif decide ((p.l.length:Int) >= p.most) then
   some (.inl (ze.mk 0 0,false,p))
  else
   (mApp p.l ([zp.mk 0 false (zA.mk 0 (ze.mk 0 0))]:List zp)).bind fun l1 =>
   some (.inr ((p.l.length:Int),zd.mk p.most l1 p.free)))):Option ((ze × Bool × zd) ⊕ (Int × zd))).bind fun s =>
 match s with
 | .inl e=>some e
 | .inr s1 =>
  (mIdx s1.2.l s1.1).bind fun x1 =>
  some (ze.mk s1.1 (w64 (x1.gen+1)),true,zd.mk s1.2.most (mSet (mSet (mSet s1.2.l s1.1 (zp.mk (w64 (x1.gen+1)) x1.taken x1.v_)) s1.1 (zp.mk (w64 (x1.gen+1)) true x1.v_)) s1.1 (zp.mk (w64 (x1.gen+1)) true v_)) s1.2.free)
def uL (t_:zj)(t:ze)(cell:Int):Option (ze × Int × zj) :=
 (ym t_.heaps t).bind fun i =>
 (bif i.2 != 0 then
  some (ze.mk 0 0,i.2,t_)
 else
  (sW kI cell (ze.mk 0 0) t_.at_).bind fun x =>
  (yM t_.items).bind fun j =>
  (we t_.items).bind fun l =>
  (bif j == l then
   some (ze.mk 0 0,13,t_)
  else
   (bif x.2 then
    some (ze.mk 0 0,1,t_)
   else
    (yn t_.items (zA.mk cell t)).bind fun e =>
    some (e.1,0,zj.mk ((zj.mk t_.heaps e.2.2 t_.at_).heaps) ((zj.mk t_.heaps e.2.2 t_.at_).items) (mPut kI cell e.1 ((zj.mk t_.heaps e.2.2 t_.at_).at_))))))
def xl (p:zg)(r:ze)(v_:zB):Option (Int × zg) :=
 (yL p r).bind fun t_ =>
 (tm t_.1
  (((bif t_.2 == 0 then
   none
  else
   some ())).bind fun s =>
  some (t_.2,p))
  (fun i =>
  (mIdx p.l i).bind fun x =>
  ((bif t_.2 == 0 then
   some (zg.mk p.most (mSet p.l i (zu.mk x.gen x.taken v_)) p.free)
  else
   some p)).bind fun s1 =>
  some (t_.2,s1)))
def xh (t_:zj)(j:ze)(r:Int)(n:Int):Option (Int × zj) :=
 (ym t_.heaps j).bind fun e =>
 ((bif e.2 == 0 then
  (xl t_.heaps j (zB.mk e.1.kind r n)).bind fun i =>
  some (zj.mk i.2 t_.items t_.at_)
 else
  some t_)).bind fun s =>
 some (e.2,s)
def uc (k:Nat)(q:zo)(l:zY):Option (zJ × zo) :=
 (yY q.t_ l.Heap).bind fun t_ =>
 (bif t_.2.2.2 != 0 then
  (vc t_.2.2.2).bind fun t =>
  some (t,q)
 else
  (vN q.t_).bind fun u =>
  (bif decide (u >= q.items) then
   (vc 13).bind fun x =>
   some (x,q)
  else
   (oE q.a_ l.Key q.serial).bind fun j =>
   (pd k t_.1 j.2.2 t_.2.1 j.1).bind fun i =>
   (uL q.t_ l.Heap j.1).bind fun e =>
   (xh ((zo.mk q.items i.2.2 e.2.2 q.entries q.serial).t_) l.Heap i.1 (w64 (t_.2.2.1+1))).bind fun y =>
   some (zJ.mk 0 (ze.mk 0 0) e.1 (zi.mk l.Key q.serial) 0,zo.mk ((zo.mk q.items i.2.2 e.2.2 q.entries q.serial).items) ((zo.mk q.items i.2.2 e.2.2 q.entries q.serial).a_) y.2 (mPut ze.eq e.1 (zi.mk l.Key q.serial) ((zo.mk q.items i.2.2 e.2.2 q.entries q.serial).entries)) (w64 (((zo.mk q.items i.2.2 e.2.2 q.entries q.serial).serial)+1)))))
def rm (a_:zb)(r:Int):Option (Int × zb) :=
 (zE a_ r 6).bind fun t_ =>
 some (t_.1,t_.2)
def wJ (x1:Int)(l1:List Int):Nat->Int->Int->zb->Option (Int × zb)
 | 0,_,_,_=>none
 | m+1,e,x,m_ =>
  (bif decide (x<x1) then
   ((mIdx l1 x).bind fun x2 =>
   ((bif e == (-1) then
    some (true,m_)
   else
    (vF m m_ x2 e).bind fun t_ =>
    some (t_.1,t_.2))).bind fun s2 =>
   (bif s2.1 then
    some (x2,s2.2)
   else
    some (e,s2.2))).bind fun s1 =>
   wJ x1 l1 m s1.1 (w64 (x+1)) s1.2
  else
   some (e,m_))
def vd (k:Nat)(a_:zb)(l:List Int):Option (Int × zb) :=
 (wJ (l.length:Int) l k (-1) 0 a_).bind fun s =>
 some (s.1,s.2)
def tc (k:Nat)(a_:zb)(r:Int):Option (Int × zb) :=
 (xX k a_ r).bind fun t_ =>
 (vd k t_.2 t_.1).bind fun e =>
 (zE e.2 e.1 6).bind fun i =>
 some (i.1,i.2)
def pJ (k:Nat)(a_:zb)(r:Int):Option (Int × zb) :=
 (xX k a_ r).bind fun t_ =>
 (vd k t_.2 t_.1).bind fun e =>
 (zE e.2 e.1 6).bind fun i =>
 some (i.1,i.2)
def fZ (a_:zb)(r:Int):Option (Int) :=
 none
def nk (a_:zb)(r:Int):Option (Int) :=
 none
def oG (k:Nat)(e:Int)(a_:zb)(r:Int):Option (Int × zb) :=
 (bif e == 1 then
  (rm a_ r).bind fun t_ =>
  some (t_.1,t_.2)
 else
  (bif e == 2 then
   (tc k a_ r).bind fun i =>
   some (i.1,i.2)
  else
   (bif e == 3 then
    (pJ k a_ r).bind fun j =>
    some (j.1,j.2)
   else
    (bif e == 4 then
     (fZ a_ r).bind fun l =>
     some (l,a_)
    else
     (bif e == 5 then
      (nk a_ r).bind fun t =>
      some (t,a_)
     else
      some ((-1),a_))))))
def v7 (t_:zj)(cell:Int):Option (ze × Bool) :=
 (sW kI cell (ze.mk 0 0) t_.at_).bind fun x =>
 some (x.1,x.2)
def rO (k:Nat)(a_:zb)(n:Int):Option (Int × zb) :=
 (zE a_ n 2).bind fun t_ =>
 (zE t_.2 n 3).bind fun e =>
 (wV k e.2 t_.1 e.1).bind fun i =>
 some (i.1,i.2)
def w5 (a_:zb)(e:Int):Option (Bool × zb) :=
 (xg a_.m_ 1).bind fun t_ =>
 (yb (zb.mk a_.l a_.never a_.free t_) e).bind fun i =>
 (bif !i then
  some (false,zb.mk a_.l a_.never a_.free t_)
 else
  (mIdx a_.l e).bind fun x =>
  (mApp a_.free ([e]:List Int)).bind fun l =>
  some (true,zb.mk (mSet a_.l e (zs.mk x.f0 x.f1 x.f2 x.f3 x.f4 x.f5 x.f6 x.f7 x.f8 x.f9 false)) a_.never l t_))
def ru (a_:zb)(n:Int):Option (Int × zb) :=
 (zE a_ n 6).bind fun t_ =>
 (zx t_.2 t_.1 9 (-1)).bind fun e =>
 (w5 e.2 n).bind fun i =>
 some (t_.1,i.2)
def uk (k:Nat)(a_:zb)(r:Int):Option (Int × Int × zb) :=
 ((yb a_ r).bind fun t_ =>
 some (!t_)).bind fun s =>
 (bif s then
  some ((-1),(-1),a_)
 else
  (rO k a_ r).bind fun e =>
  (zx e.2 e.1 0 (-1)).bind fun j =>
  (ru j.2 r).bind fun i =>
  some (e.1,i.1,i.2))
def wm (x:Int)(v_:Int):Option (Bool) :=
 some (x == v_)
def zT (x1:Int)(l:List Int)(e:Int):Nat->Int->Option ((Int) ⊕ (Unit))
 | 0,_=>none
 | m+1,x =>
  (bif decide (x<x1) then
   (mIdx l x).bind fun x2 =>
   (wm x2 e).bind fun t_ =>
   (bif t_ then
    some (.inl x)
   else
    zT x1 l e m (w64 (x+1)))
  else
   some (.inr ()))
def xK (k:Nat)(s:List Int)(v_:Int):Option (Int) :=
 (zT (s.length:Int) s v_ k 0).bind fun s1 =>
 match s1 with
 | .inl e=>some e
 | .inr s2 =>
  some (-1)
def z6 (e:Int):Nat->Int->Int->(List Int)->Option (Int × (List Int))
 | 0,_,_,_=>none
 | m+1,i,j,m_ =>
  (bif decide (j<(m_.length:Int)) then
   ((mIdx m_ j).bind fun x =>
   (wm x e).bind fun l =>
   (bif !l then
    (mIdx m_ i).bind fun x1 =>
    some (w64 (i+1),mSet m_ i x)
   else
    some (i,m_))).bind fun s2 =>
   z6 e m s2.1 (w64 (j+1)) s2.2
  else
   some (i,m_))
def y2 (k:Nat)(s:List Int)(v_:Int):Option ((List Int)) :=
 (xK k s v_).bind fun t_ =>
 (bif t_ == (-1) then
  some s
 else
  (z6 v_ k t_ (w64 (t_+1)) s).bind fun s1 =>
  (mCut s1.2 s1.1 (s1.2.length:Int)).bind fun l =>
  (mCut (rE s1.2 s1.1 0) 0 s1.1).bind fun l1 =>
  some l1)
def tI (k:Nat)(a_:zb)(n:Int):Option ((List Int) × zb) :=
 (zE a_ n 1).bind fun t_ =>
 (pt k t_.2 t_.1 3).bind fun e =>
 some (e.1,e.2)
def xq (k:Nat)(a_:zb)(l:List Int)(n:Int):Option (Int × Int × zb) :=
 (y2 k l n).bind fun t_ =>
 (tI k a_ n).bind fun e =>
 (mApp t_ e.1).bind fun l1 =>
 (ru e.2 n).bind fun i =>
 (w3 k i.2 l1).bind fun j =>
 some (j.1,i.1,j.2)
def td (k:Nat)(a_:zb)(r:Int):Option (Int × Int × zb) :=
 ((yb a_ r).bind fun t_ =>
 some (!t_)).bind fun s =>
 (bif s then
  some ((-1),(-1),a_)
 else
  (xX k a_ r).bind fun e =>
  (vd k e.2 e.1).bind fun j =>
  (xq k j.2 e.1 j.1).bind fun i =>
  some (i.1,i.2.1,i.2.2))
def vG (x:Int)(v_:Int):Option (Bool) :=
 some (x == v_)
def zU (x1:Int)(l:List Int)(e:Int):Nat->Int->Option ((Int) ⊕ (Unit))
 | 0,_=>none
 | m+1,x =>
  (bif decide (x<x1) then
   (mIdx l x).bind fun x2 =>
   (vG x2 e).bind fun t_ =>
   (bif t_ then
    some (.inl x)
   else
    zU x1 l e m (w64 (x+1)))
  else
   some (.inr ()))
def xL (k:Nat)(s:List Int)(v_:Int):Option (Int) :=
 (zU (s.length:Int) s v_ k 0).bind fun s1 =>
 match s1 with
 | .inl e=>some e
 | .inr s2 =>
  some (-1)
def z7 (e:Int):Nat->Int->Int->(List Int)->Option (Int × (List Int))
 | 0,_,_,_=>none
 | m+1,i,j,m_ =>
  (bif decide (j<(m_.length:Int)) then
   ((mIdx m_ j).bind fun x =>
   (vG x e).bind fun l =>
   (bif !l then
    (mIdx m_ i).bind fun x1 =>
    some (w64 (i+1),mSet m_ i x)
   else
    some (i,m_))).bind fun s2 =>
   z7 e m s2.1 (w64 (j+1)) s2.2
  else
   some (i,m_))
def y3 (k:Nat)(s:List Int)(v_:Int):Option ((List Int)) :=
 (xL k s v_).bind fun t_ =>
 (bif t_ == (-1) then
  some s
 else
  (z7 v_ k t_ (w64 (t_+1)) s).bind fun s1 =>
  (mCut s1.2 s1.1 (s1.2.length:Int)).bind fun l =>
  (mCut (rE s1.2 s1.1 0) 0 s1.1).bind fun l1 =>
  some l1)
def xP (x1:Int)(l1:List Int)(v_:Int):Nat->(List Int)->(List Int)->Int->zb->Option ((List Int) × (List Int) × zb)
 | 0,_,_,_,_=>none
 | m+1,rest,alone,x,m_ =>
  (bif decide (x<x1) then
   ((mIdx l1 x).bind fun x2 =>
   (zR m_ x2 4).bind fun e =>
   (bif e.1 == 0 then
    (mApp alone ([x2]:List Int)).bind fun l2 =>
    some (rest,l2,e.2)
   else
    (mApp rest ([x2]:List Int)).bind fun i =>
    some (i,alone,e.2))).bind fun s1 =>
   xP x1 l1 v_ m s1.1 s1.2.1 (w64 (x+1)) s1.2.2
  else
   some (rest,alone,m_))
def xQ (i:Int)(x4:Int)(l:List Int):Nat->Int->Int->zb->Option (Int × zb)
 | 0,_,_,_=>none
 | m+1,t,x3,e =>
  (bif decide (x3<x4) then
   (mIdx l x3).bind fun x5 =>
   (uZ m e t x5).bind fun j =>
   xQ i x4 l m j.1 (w64 (x3+1)) j.2
  else
   some (t,e))
def wW (k:Nat)(a_:zb)(l:List Int)(n:Int):Option (Int × Int × zb) :=
 (y3 k l n).bind fun t_ =>
 (tI k a_ n).bind fun e =>
 (xP (e.1.length:Int) e.1 n k t_ ([]:List Int) 0 e.2).bind fun s =>
 (ru s.2.2 n).bind fun i =>
 (w3 k i.2 s.1).bind fun j =>
 (xQ i.1 (s.2.1.length:Int) s.2.1 k j.1 0 j.2).bind fun s2 =>
 some (s2.1,i.1,s2.2)
def pM (k:Nat)(a_:zb)(r:Int):Option (Int × Int × zb) :=
 ((yb a_ r).bind fun t_ =>
 some (!t_)).bind fun s =>
 (bif s then
  some ((-1),(-1),a_)
 else
  (xX k a_ r).bind fun e =>
  (vd k e.2 e.1).bind fun j =>
  (wW k j.2 e.1 j.1).bind fun i =>
  some (i.1,i.2.1,i.2.2))
def ea (a_:zb)(r:Int):Option (Int × Int) :=
 none
def nm (a_:zb)(r:Int):Option (Int × Int) :=
 none
def oH (k:Nat)(j:Int)(a_:zb)(r:Int):Option (Int × Int × zb) :=
 (bif j == 1 then
  (uk k a_ r).bind fun t_ =>
  some (t_.1,t_.2.1,t_.2.2)
 else
  (bif j == 2 then
   (td k a_ r).bind fun e =>
   some (e.1,e.2.1,e.2.2)
  else
   (bif j == 3 then
    (pM k a_ r).bind fun i =>
    some (i.1,i.2.1,i.2.2)
   else
    (bif j == 4 then
     (ea a_ r).bind fun l =>
     some (l.1,l.2,a_)
    else
     (bif j == 5 then
      (nm a_ r).bind fun t =>
      some (t.1,t.2,a_)
     else
      some ((-1),(-1),a_))))))
def yI (p:zd)(r:ze):Option ((Option Int) × Int) :=
 ((bif decide (r.At<0) then
  some true
 else
  (bif decide (r.At >= (p.l.length:Int)) then
   some true
  else
   (bif decide (r.Gen<1) then
    some true
   else
    (mIdx p.l r.At).bind fun x1 =>
    some (decide (r.Gen > x1.gen)))))).bind fun s =>
 (bif s then
  some ((none:Option Int),22)
 else
  (mIdx p.l r.At).bind fun x2 =>
  (bif (decide (r.Gen<x2.gen)) || (!x2.taken) then
   some ((none:Option Int),23)
  else
   some ((some r.At:Option Int),0)))
def xu (p:zd)(r:ze):Option (zA × Int × zd) :=
 (yI p r).bind fun t_ =>
 (tm t_.1
  ((bif t_.2 != 0 then
   some (zA.mk 0 (ze.mk 0 0),t_.2,p)
  else
   none))
  (fun i =>
  (mIdx p.l i).bind fun x =>
  (bif t_.2 != 0 then
   some (zA.mk 0 (ze.mk 0 0),t_.2,p)
  else
   (mApp p.free ([r.At]:List Int)).bind fun l =>
   some (x.v_,0,zd.mk p.most (mSet (mSet p.l i (zp.mk x.gen false x.v_)) i (zp.mk x.gen false (zA.mk 0 (ze.mk 0 0)))) l))))
def tv (t_:zj)(i:ze):Option (Int × Int × zj) :=
 (xu t_.items i).bind fun e =>
 ((bif e.2.1 == 0 then
  some (zj.mk ((zj.mk t_.heaps e.2.2 t_.at_).heaps) ((zj.mk t_.heaps e.2.2 t_.at_).items) (mDel kI e.1.cell ((zj.mk t_.heaps e.2.2 t_.at_).at_)))
 else
  some (zj.mk t_.heaps e.2.2 t_.at_))).bind fun s =>
 some (e.1.cell,e.2.1,s)
def vY (q:zo)(i:ze):Option (zi × zo) :=
 (tv q.t_ i).bind fun t_ =>
 (w5 q.a_ t_.1).bind fun e =>
 (sW ze.eq i (zi.mk 0 0) q.entries).bind fun x =>
 some (x.1,zo.mk q.items e.2 t_.2.2 (mDel ze.eq i q.entries) q.serial)
def wY (k:Nat)(q:zo)(A:ze)(out:Bool):Option (zJ × zo) :=
 (yY q.t_ A).bind fun t_ =>
 (bif t_.2.2.2 != 0 then
  (vc t_.2.2.2).bind fun u =>
  some (u,q)
 else
  (bif t_.2.2.1 == 0 then
   (vc 27).bind fun y =>
   some (y,q)
  else
   (bif !out then
    (oG k t_.1 q.a_ t_.2.1).bind fun e =>
    (v7 q.t_ e.1).bind fun j =>
    (sW ze.eq j.1 (zi.mk 0 0) ((zo.mk q.items e.2 q.t_ q.entries q.serial).entries)).bind fun x =>
    some (zJ.mk 0 (ze.mk 0 0) j.1 x.1 0,(zo.mk q.items e.2 q.t_ q.entries q.serial))
   else
    (oH k t_.1 q.a_ t_.2.1).bind fun i =>
    (v7 q.t_ i.2.1).bind fun l =>
    (xh q.t_ A i.1 (w64 (t_.2.2.1 - 1))).bind fun z =>
    (vY (zo.mk q.items i.2.2 z.2 q.entries q.serial) l.1).bind fun t =>
    some (zJ.mk 0 (ze.mk 0 0) l.1 t.1 0,t.2))))
def ye (p:zd)(r:ze):Option (zA × Int) :=
 (yI p r).bind fun t_ =>
 (tm t_.1
  ((bif t_.2 != 0 then
   some (zA.mk 0 (ze.mk 0 0),t_.2)
  else
   none))
  (fun i =>
  (mIdx p.l i).bind fun x =>
  (bif t_.2 != 0 then
   some (zA.mk 0 (ze.mk 0 0),t_.2)
  else
   some (x.v_,0))))
def w8 (t_:zj)(i:ze):Option (Int × Int) :=
 (ye t_.items i).bind fun e =>
 some (e.1.cell,e.2)
def v8 (t_:zj)(i:ze):Option (ze × Int) :=
 (ye t_.items i).bind fun e =>
 some (e.1.heap,e.2)
def tF (a_:zb)(i:Int)(key:Int):Option (Bool × zb) :=
 ((zR a_ i 7).bind fun t_ =>
 some (decide (key > t_.1),t_.2)).bind fun s =>
 (bif s.1 then
  some (false,s.2)
 else
  (zx s.2 i 7 key).bind fun e =>
  some (e.1,e.2))
def vD (a_:zb)(i:Int):Option (Int × zb) :=
 (zE a_ i 9).bind fun t_ =>
 some (t_.1,t_.2)
def xf:Nat->Int->Int->zb->Option (zb)
 | 0,_,_,_=>none
 | m+1,p,l,m_ =>
  ((bif p != (-1) then
   (xz m_).bind fun j =>
   (bif decide (l<=j) then
    (tQ m_ p).bind fun e =>
    some (e.1,e.2)
   else
    some (false,m_))
  else
   some (false,m_))).bind fun s2 =>
  (bif s2.1 then
   (zE s2.2 p 0).bind fun i =>
   xf m i.1 (w64 (l+1)) i.2
  else
   some s2.2)
def uJ (k:Nat)(a_:zb)(n:Int):Option (zb) :=
 (zE a_ n 0).bind fun t_ =>
 (zE t_.2 t_.1 2).bind fun e =>
 ((bif e.1 == n then
  (zx e.2 t_.1 2 (-1)).bind fun j =>
  some j.2
 else
  (zE e.2 t_.1 3).bind fun i =>
  (bif i.1 == n then
   (zx i.2 t_.1 3 (-1)).bind fun l =>
   some l.2
  else
   some i.2))).bind fun s =>
 (zx s n 0 (-1)).bind fun t =>
 (xf k t_.1 0 t.2).bind fun s1 =>
 some s1
def sv (k:Nat)(a_:zb)(r:Int)(i:Int):Option (Int × zb) :=
 (vD a_ i).bind fun t_ =>
 ((bif t_.1 == (-1) then
  some (true,t_.2)
 else
  (bif t_.1 == r then
   some (true,t_.2)
  else
   (zE t_.2 t_.1 0).bind fun e =>
   some (e.1 == (-1),e.2)))).bind fun s =>
 (bif s.1 then
  some (r,s.2)
 else
  (uJ k s.2 t_.1).bind fun l =>
  (wV k l r t_.1).bind fun j =>
  some (j.1,j.2))
def w4 (i:Bool):Nat->Int->Int->zb->Option (Int × zb)
 | 0,_,_,_=>none
 | m+1,n,u,m_ =>
  ((bif n != (-1) then
   (xz m_).bind fun l =>
   some (decide (u<=l))
  else
   some false)).bind fun s1 =>
  (bif s1 then
   (zE m_ n 0).bind fun e =>
   ((bif e.1 == (-1) then
    some (true,e.2)
   else
    (bif !i then
     (vF m e.2 n e.1).bind fun j =>
     some (!j.1,j.2)
    else
     some (false,e.2)))).bind fun s2 =>
   (bif s2.1 then
    some (n,s2.2)
   else
    (sT s2.2 n e.1).bind fun t =>
    w4 i m e.1 (w64 (u+1)) t)
  else
   some (n,m_))
def u2 (k:Nat)(a_:zb)(i:Int)(any:Bool):Option (Int × zb) :=
 (vD a_ i).bind fun t_ =>
 (w4 any k t_.1 0 t_.2).bind fun s =>
 some (s.1,s.2)
def uB (k:Nat)(a_:zb)(r:Int)(i:Int):Option (Int × zb) :=
 (u2 k a_ i false).bind fun t_ =>
 some (r,t_.2)
def rX (k:Nat)(a_:zb)(r:Int)(i:Int):Option (Int × zb) :=
 (u2 k a_ i false).bind fun t_ =>
 some (r,t_.2)
def j6 (a_:zb)(r:Int)(i:Int):Option (Int) :=
 none
def ox (a_:zb)(r:Int)(i:Int):Option (Int) :=
 none
def q8 (k:Nat)(e:Int)(a_:zb)(r:Int)(i:Int):Option (Int × zb) :=
 (bif e == 1 then
  (sv k a_ r i).bind fun t_ =>
  some (t_.1,t_.2)
 else
  (bif e == 2 then
   (uB k a_ r i).bind fun j =>
   some (j.1,j.2)
  else
   (bif e == 3 then
    (rX k a_ r i).bind fun l =>
    some (l.1,l.2)
   else
    (bif e == 4 then
     (j6 a_ r i).bind fun t =>
     some (t,a_)
    else
     (bif e == 5 then
      (ox a_ r i).bind fun u =>
      some (u,a_)
     else
      some (r,a_))))))
def vq (k:Nat)(q:zo)(e:zY):Option (zJ × zo) :=
 (w8 q.t_ e.Item).bind fun t_ =>
 (sW ze.eq e.Item (zi.mk 0 0) q.entries).bind fun x =>
 (bif t_.2 != 0 then
  (vc t_.2).bind fun t =>
  some (t,q)
 else
  (bif decide (e.Key > x.1.Key) then
   (vc 26).bind fun u =>
   some (u,q)
  else
   (v8 q.t_ e.Item).bind fun j =>
   (yY q.t_ j.1).bind fun i =>
   (tF q.a_ t_.1 e.Key).bind fun y =>
   (q8 k i.1 y.2 i.2.1 t_.1).bind fun l =>
   (xh q.t_ j.1 l.1 i.2.2.1).bind fun z =>
   some (zJ.mk 0 (ze.mk 0 0) (ze.mk 0 0) (zi.mk e.Key x.1.Serial) 0,zo.mk q.items l.2 z.2 (mPut ze.eq e.Item (zi.mk e.Key x.1.Serial) q.entries) q.serial)))
def rl (k:Nat)(a_:zb)(r:Int)(i:Int):Option (Int × zb) :=
 (vD a_ i).bind fun t_ =>
 (bif t_.1 == (-1) then
  some (r,t_.2)
 else
  ((bif t_.1 == r then
   some (true,t_.2)
  else
   (zE t_.2 t_.1 0).bind fun e =>
   some (e.1 == (-1),e.2))).bind fun s =>
  (bif s.1 then
   (uk k s.2 t_.1).bind fun j =>
   some (j.1,j.2.2)
  else
   (uJ k s.2 t_.1).bind fun u =>
   (uk k u t_.1).bind fun l =>
   (wV k l.2.2 r l.1).bind fun t =>
   some (t.1,t.2)))
def wv (e:Int)(x1:Int)(l:List Int):Nat->Int->Option ((Int) ⊕ (Unit))
 | 0,_=>none
 | m+1,x =>
  (bif decide (x<x1) then
   (mIdx l x).bind fun x2 =>
   (bif e == x2 then
    some (.inl x)
   else
    wv e x1 l m (w64 (x+1)))
  else
   some (.inr ()))
def tr (k:Nat)(s:List Int)(v_:Int):Option (Int) :=
 (wv v_ (s.length:Int) s k 0).bind fun s1 =>
 match s1 with
 | .inl e=>some e
 | .inr s2 =>
  some (-1)
def wu (k:Nat)(s:List Int)(v_:Int):Option (Bool) :=
 (tr k s v_).bind fun t_ =>
 some (decide (t_ >= 0))
def ta (k:Nat)(a_:zb)(r:Int)(i:Int):Option (Int × zb) :=
 (vD a_ i).bind fun t_ =>
 (bif t_.1 == (-1) then
  some (r,t_.2)
 else
  (u2 k t_.2 i true).bind fun j =>
  (xX k j.2 r).bind fun e =>
  (wu k e.1 j.1).bind fun t =>
  (bif !t then
   some (r,e.2)
  else
   (xq k e.2 e.1 j.1).bind fun l =>
   some (l.1,l.2.2)))
def pH (k:Nat)(a_:zb)(r:Int)(i:Int):Option (Int × zb) :=
 (vD a_ i).bind fun t_ =>
 (bif t_.1 == (-1) then
  some (r,t_.2)
 else
  (u2 k t_.2 i true).bind fun j =>
  (xX k j.2 r).bind fun e =>
  (wu k e.1 j.1).bind fun t =>
  (bif !t then
   some (r,e.2)
  else
   (wW k e.2 e.1 j.1).bind fun l =>
   some (l.1,l.2.2)))
def fY (a_:zb)(r:Int)(i:Int):Option (Int) :=
 none
def nj (a_:zb)(r:Int)(i:Int):Option (Int) :=
 none
def oF (k:Nat)(e:Int)(a_:zb)(r:Int)(i:Int):Option (Int × zb) :=
 (bif e == 1 then
  (rl k a_ r i).bind fun t_ =>
  some (t_.1,t_.2)
 else
  (bif e == 2 then
   (ta k a_ r i).bind fun j =>
   some (j.1,j.2)
  else
   (bif e == 3 then
    (pH k a_ r i).bind fun l =>
    some (l.1,l.2)
   else
    (bif e == 4 then
     (fY a_ r i).bind fun t =>
     some (t,a_)
    else
     (bif e == 5 then
      (nj a_ r i).bind fun u =>
      some (u,a_)
     else
      some (r,a_))))))
def ud (k:Nat)(q:zo)(i:ze):Option (zJ × zo) :=
 (w8 q.t_ i).bind fun t_ =>
 (bif t_.2 != 0 then
  (vc t_.2).bind fun u =>
  some (u,q)
 else
  (v8 q.t_ i).bind fun j =>
  (yY q.t_ j.1).bind fun e =>
  (oF k e.1 q.a_ e.2.1 t_.1).bind fun l =>
  (xh q.t_ j.1 l.1 (w64 (e.2.2.1 - 1))).bind fun x =>
  (vY (zo.mk q.items l.2 x.2 q.entries q.serial) i).bind fun t =>
  some (zJ.mk 0 (ze.mk 0 0) (ze.mk 0 0) t.1 0,t.2))
def yz (x1:Int)(m_:zd):Nat->(List ze)->Int->Option ((List ze))
 | 0,_,_=>none
 | m+1,out,x =>
  (bif decide (x<x1) then
   ((mIdx m_.l x).bind fun x2 =>
   (bif x2.taken then
    (mApp out ([ze.mk x x2.gen]:List ze)).bind fun l =>
    some l
   else
    some out)).bind fun s1 =>
   yz x1 m_ m s1 (w64 (x+1))
  else
   some out)
def xI (k:Nat)(p:zd):Option ((List ze)) :=
 (yz (p.l.length:Int) p k ([]:List ze) 0).bind fun s =>
 some s
def xD (x1:Int)(m_:zj)(l:List ze)(v_:Int)(e:Int):Nat->(List ze)->Int->Option ((List ze))
 | 0,_,_=>none
 | m+1,out,x =>
  (bif decide (x<x1) then
   ((mIdx l x).bind fun x2 =>
   (ye m_.items x2).bind fun i =>
   (bif ze.eq i.1.heap (ze.mk v_ e) then
    (mApp out ([x2]:List ze)).bind fun l1 =>
    some l1
   else
    some out)).bind fun s1 =>
   xD x1 m_ l v_ e m s1 (w64 (x+1))
  else
   some out)
def ug (k:Nat)(t_:zj)(i:ze):Option ((List ze)) :=
 (xI k t_.items).bind fun e =>
 (xD (e.length:Int) t_ e i.At i.Gen k ([]:List ze) 0).bind fun s =>
 some s
def xJ (p:zd)(r:ze)(v_:zA):Option (Int × zd) :=
 (yI p r).bind fun t_ =>
 (tm t_.1
  (((bif t_.2 == 0 then
   none
  else
   some ())).bind fun s =>
  some (t_.2,p))
  (fun i =>
  (mIdx p.l i).bind fun x =>
  ((bif t_.2 == 0 then
   some (zd.mk p.most (mSet p.l i (zp.mk x.gen x.taken v_)) p.free)
  else
   some p)).bind fun s1 =>
  some (t_.2,s1)))
def xH (p:zg)(r:ze):Option (zB × Int × zg) :=
 (yL p r).bind fun t_ =>
 (tm t_.1
  ((bif t_.2 != 0 then
   some (zB.mk 0 0 0,t_.2,p)
  else
   none))
  (fun i =>
  (mIdx p.l i).bind fun x =>
  (bif t_.2 != 0 then
   some (zB.mk 0 0 0,t_.2,p)
  else
   (mApp p.free ([r.At]:List Int)).bind fun l =>
   some (x.v_,0,zg.mk p.most (mSet (mSet p.l i (zu.mk x.gen false x.v_)) i (zu.mk x.gen false (zB.mk 0 0 0))) l))))
def xC (x1:Int)(l:List ze)(v_:Int)(u:Int)(e:Int)(i:Int):Nat->Int->zj->Option (zj)
 | 0,_,_=>none
 | m+1,x,m_ =>
  (bif decide (x<x1) then
   (mIdx l x).bind fun x2 =>
   (ye m_.items x2).bind fun j =>
   (xJ m_.items x2 (zA.mk j.1.cell (ze.mk e i))).bind fun t =>
   xC x1 l v_ u e i m (w64 (x+1)) (zj.mk m_.heaps t.2 m_.at_)
  else
   some m_)
def uf (k:Nat)(t_:zj)(t:ze)(o:ze):Option (Int × zj) :=
 (ym t_.heaps t).bind fun e =>
 (bif e.2 != 0 then
  some (e.2,t_)
 else
  (ym t_.heaps o).bind fun i =>
  (bif i.2 != 0 then
   some (i.2,t_)
  else
   (bif ze.eq t o then
    some (25,t_)
   else
    (bif e.1.kind != i.1.kind then
     some (24,t_)
    else
     (ug k t_ o).bind fun j =>
     (xC (j.length:Int) j o.At o.Gen t.At t.Gen k 0 t_).bind fun s =>
     (xH s.heaps o).bind fun l =>
     some (l.2.1,zj.mk l.2.2 s.items s.at_)))))
def sw (k:Nat)(a_:zb)(r:Int)(s:Int):Option (Int × zb) :=
 (wV k a_ r s).bind fun t_ =>
 some (t_.1,t_.2)
def uC (k:Nat)(a_:zb)(r:Int)(s:Int):Option (Int × zb) :=
 (bif r == s then
  some (r,a_)
 else
  (xX k a_ r).bind fun t_ =>
  (xX k t_.2 s).bind fun e =>
  (mApp t_.1 e.1).bind fun l =>
  (w3 k e.2 l).bind fun i =>
  some (i.1,i.2))
def rY (k:Nat)(a_:zb)(r:Int)(s:Int):Option (Int × zb) :=
 (bif r == s then
  some (r,a_)
 else
  (xX k a_ r).bind fun t_ =>
  (xX k t_.2 s).bind fun e =>
  (mApp t_.1 e.1).bind fun l =>
  (w3 k e.2 l).bind fun i =>
  some (i.1,i.2))
def j7 (a_:zb)(r:Int)(s:Int):Option (Int) :=
 none
def oy (a_:zb)(r:Int)(s:Int):Option (Int) :=
 none
def q9 (k:Nat)(e:Int)(a_:zb)(r:Int)(s:Int):Option (Int × zb) :=
 (bif e == 1 then
  (sw k a_ r s).bind fun t_ =>
  some (t_.1,t_.2)
 else
  (bif e == 2 then
   (uC k a_ r s).bind fun i =>
   some (i.1,i.2)
  else
   (bif e == 3 then
    (rY k a_ r s).bind fun j =>
    some (j.1,j.2)
   else
    (bif e == 4 then
     (j7 a_ r s).bind fun l =>
     some (l,a_)
    else
     (bif e == 5 then
      (oy a_ r s).bind fun t =>
      some (t,a_)
     else
      some (r,a_))))))
def u7 (k:Nat)(q:zo)(l:ze)(o:ze):Option (zJ × zo) :=
 (yY q.t_ l).bind fun t_ =>
 (yY q.t_ o).bind fun i =>
 (uf k q.t_ l o).bind fun e =>
 (bif e.1 != 0 then
  (vc e.1).bind fun t =>
  some (t,zo.mk q.items q.a_ e.2 q.entries q.serial)
 else
  (q9 k t_.1 q.a_ t_.2.1 i.2.1).bind fun j =>
  (xh e.2 l j.1 (w64 (t_.2.2.1+i.2.2.1))).bind fun u =>
  some (zJ.mk 0 (ze.mk 0 0) (ze.mk 0 0) (zi.mk 0 0) (w64 (t_.2.2.1+i.2.2.1)),zo.mk q.items j.2 u.2 q.entries q.serial))
def sZ (q:zo)(e:ze):Option (zJ) :=
 none
def zV (k:Nat)(q:zo)(i:zY):Option (zJ × zo) :=
 (uR q.a_).bind fun t_ =>
 (uV q.a_.m_).bind fun e =>
 (bif i.Op == 1 then
  (uh q.t_ i.Kind).bind fun j =>
  some (zJ.mk j.2.1 j.1 (ze.mk 0 0) (zi.mk 0 0) 0,zo.mk q.items (zb.mk q.a_.l q.a_.never q.a_.free e) j.2.2 q.entries q.serial)
 else
  (bif i.Op == 2 then
   (uc k (zo.mk q.items (zb.mk q.a_.l q.a_.never q.a_.free e) q.t_ q.entries q.serial) i).bind fun x =>
   some (x.1,x.2)
  else
   (bif i.Op == 3 then
    (wY k (zo.mk q.items (zb.mk q.a_.l q.a_.never q.a_.free e) q.t_ q.entries q.serial) i.Heap false).bind fun y =>
    some (y.1,y.2)
   else
    (bif i.Op == 4 then
     (wY k (zo.mk q.items (zb.mk q.a_.l q.a_.never q.a_.free e) q.t_ q.entries q.serial) i.Heap true).bind fun z =>
     some (z.1,z.2)
    else
     (bif i.Op == 5 then
      (vq k (zo.mk q.items (zb.mk q.a_.l q.a_.never q.a_.free e) q.t_ q.entries q.serial) i).bind fun A =>
      some (A.1,A.2)
     else
      (bif i.Op == 6 then
       (ud k (zo.mk q.items (zb.mk q.a_.l q.a_.never q.a_.free e) q.t_ q.entries q.serial) i.Item).bind fun B =>
       some (B.1,B.2)
      else
       (bif i.Op == 7 then
        (u7 k (zo.mk q.items (zb.mk q.a_.l q.a_.never q.a_.free e) q.t_ q.entries q.serial) i.Heap i.Other).bind fun D =>
        some (D.1,D.2)
       else
        (bif i.Op == 8 then
         (yY q.t_ i.Heap).bind fun F =>
         some (zJ.mk F.2.2.2 (ze.mk 0 0) (ze.mk 0 0) (zi.mk 0 0) F.2.2.1,zo.mk q.items (zb.mk q.a_.l q.a_.never q.a_.free e) q.t_ q.entries q.serial)
        else
         (bif i.Op == 9 then
          (sZ (zo.mk q.items (zb.mk q.a_.l q.a_.never q.a_.free e) q.t_ q.entries q.serial) i.Heap).bind fun t =>
          some (t,zo.mk q.items (zb.mk q.a_.l q.a_.never q.a_.free e) q.t_ q.entries q.serial)
         else
          (vc 12).bind fun u =>
          some (u,zo.mk q.items (zb.mk q.a_.l q.a_.never q.a_.free e) q.t_ q.entries q.serial))))))))))
def sm (k:Nat)(i:Int)(most:Int):Option ((Option za) × Int) :=
 (uz i).bind fun t_ =>
 (bif !t_ then
  some ((none:Option za),24)
 else
  (si k i most).bind fun j =>
  (bif !j.2 then
   some ((none:Option za),1)
  else
   (kA most).bind fun t =>
   (tm t.1
    ((q7 most).bind fun y =>
    (qU).bind fun z =>
    (wk (zY.mk 1 i (ze.mk 0 0) (ze.mk 0 0) (ze.mk 0 0) 0)).bind fun A =>
    (wk (zY.mk 1 i (ze.mk 0 0) (ze.mk 0 0) (ze.mk 0 0) 0)).bind fun B =>
    none)
    (fun m_ =>
    (q7 most).bind fun u =>
    (qU).bind fun x =>
    (zV k m_ (zY.mk 1 i (ze.mk 0 0) (ze.mk 0 0) (ze.mk 0 0) 0)).bind fun l =>
    (zV k l.2 (zY.mk 1 i (ze.mk 0 0) (ze.mk 0 0) (ze.mk 0 0) 0)).bind fun e =>
    some (some (za.mk i most e.2 l.1.Heap e.1.Heap u ([]:List (ze × Int)) x j.1 0 0),0)))))
def tZ (places:Int):Option (zk) :=
 some (zk.mk (if 0 > (if 65536<places then 65536 else places) then 0 else (if 65536<places then 65536 else places)) ([]:List Int) ([]:List Bool) ([]:List Int) ([]:List Int))
def ui (e:Int):Option (zc) :=
 (tZ e).bind fun t_ =>
 some (zc.mk e 0 0 t_ ([]:List zC))
def xm (k:Nat)(t:Int)(e:Int):Option (za × zc) :=
 (yP e 1 60).bind fun t_ =>
 (yP t 1 3).bind fun j =>
 (sm k j t_).bind fun i =>
 (tm i.1
  (none)
  (fun m_ =>
  (bif i.2 != 0 then
   none
  else
   (ui t_).bind fun l =>
   some (m_,l))))
def sY (m_:zD):Option (Int) :=
 some m_.steps
def tX (q:zo):Option (Int) :=
 (uR q.a_).bind fun t_ =>
 (sY q.a_.m_).bind fun e =>
 some e
def yJ (e:Int):Option (zr) :=
 some (zr.mk e (ze.mk 0 0) 0 0 0)
def xx (p:zf):Option (Int) :=
 some (w64 ((p.l.length:Int) - (p.free.length:Int)))
def vV (t_:zn):Option (Int) :=
 (xx t_.p).bind fun e =>
 some e
def wK (p:zf):Option (Int) :=
 some p.most
def yd (p:zf)(v_:zz):Option (ze × Bool × zf) :=
 ((bif decide (w64 ((p.free.length:Int) - 1) >= 0) then
  (mIdx p.free (w64 ((p.free.length:Int) - 1))).bind fun x =>
  (mCut p.free 0 (w64 ((p.free.length:Int) - 1))).bind fun l =>
  some (.inr (x,zf.mk p.most p.l l))
 else
  (bif decide ((p.l.length:Int) >= p.most) then
   some (.inl (ze.mk 0 0,false,p))
  else
   (mApp p.l ([zq.mk 0 false (zz.mk 0 0 0 (ze.mk 0 0))]:List zq)).bind fun l1 =>
   some (.inr ((p.l.length:Int),zf.mk p.most l1 p.free)))):Option ((ze × Bool × zf) ⊕ (Int × zf))).bind fun s =>
 match s with
 | .inl e=>some e
 | .inr s1 =>
  (mIdx s1.2.l s1.1).bind fun x1 =>
  some (ze.mk s1.1 (w64 (x1.gen+1)),true,zf.mk s1.2.most (mSet (mSet (mSet s1.2.l s1.1 (zq.mk (w64 (x1.gen+1)) x1.taken x1.v_)) s1.1 (zq.mk (w64 (x1.gen+1)) true x1.v_)) s1.1 (zq.mk (w64 (x1.gen+1)) true v_)) s1.2.free)
def sH (t_:zn)(j:zz):Option (ze × Int × zn) :=
 (sW ze.eq j.Item (ze.mk 0 0) t_.by_).bind fun x =>
 (xx t_.p).bind fun i =>
 (wK t_.p).bind fun l =>
 (bif i == l then
  some (ze.mk 0 0,13,t_)
 else
  (bif x.2 then
   some (ze.mk 0 0,1,t_)
  else
   (yd t_.p j).bind fun e =>
   some (e.1,0,zn.mk ((zn.mk e.2.2 t_.by_).p) (mPut ze.eq j.Item e.1 ((zn.mk e.2.2 t_.by_).by_)))))
def tz (j:zz):Option (zr) :=
 some (zr.mk 0 (ze.mk 0 0) j.Time j.Data 0)
def xn (k:Nat)(d:za)(l:zt):Option (zr × za) :=
 (vV d.t_).bind fun t_ =>
 (bif decide (t_ >= d.most) then
  (yJ 13).bind fun t =>
  some (t,d)
 else
  (mIdx ([d.heaps0,d.heaps1]:List ze) l.Queue).bind fun x =>
  (zV k d.q (zY.mk 2 0 x (ze.mk 0 0) (ze.mk 0 0) l.Time)).bind fun e =>
  (sH ((za.mk d.kind d.most e.2 d.heaps0 d.heaps1 d.t_ d.when d.clock d.budget d.last d.top).t_) (zz.mk l.Queue l.Time l.Data e.1.Item)).bind fun i =>
  (tz (zz.mk l.Queue l.Time l.Data e.1.Item)).bind fun j =>
  some (zr.mk j.Why i.1 j.Time j.Data j.N,za.mk ((za.mk ((za.mk d.kind d.most e.2 d.heaps0 d.heaps1 d.t_ d.when d.clock d.budget d.last d.top).kind) ((za.mk d.kind d.most e.2 d.heaps0 d.heaps1 d.t_ d.when d.clock d.budget d.last d.top).most) ((za.mk d.kind d.most e.2 d.heaps0 d.heaps1 d.t_ d.when d.clock d.budget d.last d.top).q) ((za.mk d.kind d.most e.2 d.heaps0 d.heaps1 d.t_ d.when d.clock d.budget d.last d.top).heaps0) ((za.mk d.kind d.most e.2 d.heaps0 d.heaps1 d.t_ d.when d.clock d.budget d.last d.top).heaps1) i.2.2 ((za.mk d.kind d.most e.2 d.heaps0 d.heaps1 d.t_ d.when d.clock d.budget d.last d.top).when) ((za.mk d.kind d.most e.2 d.heaps0 d.heaps1 d.t_ d.when d.clock d.budget d.last d.top).clock) ((za.mk d.kind d.most e.2 d.heaps0 d.heaps1 d.t_ d.when d.clock d.budget d.last d.top).budget) ((za.mk d.kind d.most e.2 d.heaps0 d.heaps1 d.t_ d.when d.clock d.budget d.last d.top).last) ((za.mk d.kind d.most e.2 d.heaps0 d.heaps1 d.t_ d.when d.clock d.budget d.last d.top).top)).kind) ((za.mk ((za.mk d.kind d.most e.2 d.heaps0 d.heaps1 d.t_ d.when d.clock d.budget d.last d.top).kind) ((za.mk d.kind d.most e.2 d.heaps0 d.heaps1 d.t_ d.when d.clock d.budget d.last d.top).most) ((za.mk d.kind d.most e.2 d.heaps0 d.heaps1 d.t_ d.when d.clock d.budget d.last d.top).q) ((za.mk d.kind d.most e.2 d.heaps0 d.heaps1 d.t_ d.when d.clock d.budget d.last d.top).heaps0) ((za.mk d.kind d.most e.2 d.heaps0 d.heaps1 d.t_ d.when d.clock d.budget d.last d.top).heaps1) i.2.2 ((za.mk d.kind d.most e.2 d.heaps0 d.heaps1 d.t_ d.when d.clock d.budget d.last d.top).when) ((za.mk d.kind d.most e.2 d.heaps0 d.heaps1 d.t_ d.when d.clock d.budget d.last d.top).clock) ((za.mk d.kind d.most e.2 d.heaps0 d.heaps1 d.t_ d.when d.clock d.budget d.last d.top).budget) ((za.mk d.kind d.most e.2 d.heaps0 d.heaps1 d.t_ d.when d.clock d.budget d.last d.top).last) ((za.mk d.kind d.most e.2 d.heaps0 d.heaps1 d.t_ d.when d.clock d.budget d.last d.top).top)).most) ((za.mk ((za.mk d.kind d.most e.2 d.heaps0 d.heaps1 d.t_ d.when d.clock d.budget d.last d.top).kind) ((za.mk d.kind d.most e.2 d.heaps0 d.heaps1 d.t_ d.when d.clock d.budget d.last d.top).most) ((za.mk d.kind d.most e.2 d.heaps0 d.heaps1 d.t_ d.when d.clock d.budget d.last d.top).q) ((za.mk d.kind d.most e.2 d.heaps0 d.heaps1 d.t_ d.when d.clock d.budget d.last d.top).heaps0) ((za.mk d.kind d.most e.2 d.heaps0 d.heaps1 d.t_ d.when d.clock d.budget d.last d.top).heaps1) i.2.2 ((za.mk d.kind d.most e.2 d.heaps0 d.heaps1 d.t_ d.when d.clock d.budget d.last d.top).when) ((za.mk d.kind d.most e.2 d.heaps0 d.heaps1 d.t_ d.when d.clock d.budget d.last d.top).clock) ((za.mk d.kind d.most e.2 d.heaps0 d.heaps1 d.t_ d.when d.clock d.budget d.last d.top).budget) ((za.mk d.kind d.most e.2 d.heaps0 d.heaps1 d.t_ d.when d.clock d.budget d.last d.top).last) ((za.mk d.kind d.most e.2 d.heaps0 d.heaps1 d.t_ d.when d.clock d.budget d.last d.top).top)).q) ((za.mk ((za.mk d.kind d.most e.2 d.heaps0 d.heaps1 d.t_ d.when d.clock d.budget d.last d.top).kind) ((za.mk d.kind d.most e.2 d.heaps0 d.heaps1 d.t_ d.when d.clock d.budget d.last d.top).most) ((za.mk d.kind d.most e.2 d.heaps0 d.heaps1 d.t_ d.when d.clock d.budget d.last d.top).q) ((za.mk d.kind d.most e.2 d.heaps0 d.heaps1 d.t_ d.when d.clock d.budget d.last d.top).heaps0) ((za.mk d.kind d.most e.2 d.heaps0 d.heaps1 d.t_ d.when d.clock d.budget d.last d.top).heaps1) i.2.2 ((za.mk d.kind d.most e.2 d.heaps0 d.heaps1 d.t_ d.when d.clock d.budget d.last d.top).when) ((za.mk d.kind d.most e.2 d.heaps0 d.heaps1 d.t_ d.when d.clock d.budget d.last d.top).clock) ((za.mk d.kind d.most e.2 d.heaps0 d.heaps1 d.t_ d.when d.clock d.budget d.last d.top).budget) ((za.mk d.kind d.most e.2 d.heaps0 d.heaps1 d.t_ d.when d.clock d.budget d.last d.top).last) ((za.mk d.kind d.most e.2 d.heaps0 d.heaps1 d.t_ d.when d.clock d.budget d.last d.top).top)).heaps0) ((za.mk ((za.mk d.kind d.most e.2 d.heaps0 d.heaps1 d.t_ d.when d.clock d.budget d.last d.top).kind) ((za.mk d.kind d.most e.2 d.heaps0 d.heaps1 d.t_ d.when d.clock d.budget d.last d.top).most) ((za.mk d.kind d.most e.2 d.heaps0 d.heaps1 d.t_ d.when d.clock d.budget d.last d.top).q) ((za.mk d.kind d.most e.2 d.heaps0 d.heaps1 d.t_ d.when d.clock d.budget d.last d.top).heaps0) ((za.mk d.kind d.most e.2 d.heaps0 d.heaps1 d.t_ d.when d.clock d.budget d.last d.top).heaps1) i.2.2 ((za.mk d.kind d.most e.2 d.heaps0 d.heaps1 d.t_ d.when d.clock d.budget d.last d.top).when) ((za.mk d.kind d.most e.2 d.heaps0 d.heaps1 d.t_ d.when d.clock d.budget d.last d.top).clock) ((za.mk d.kind d.most e.2 d.heaps0 d.heaps1 d.t_ d.when d.clock d.budget d.last d.top).budget) ((za.mk d.kind d.most e.2 d.heaps0 d.heaps1 d.t_ d.when d.clock d.budget d.last d.top).last) ((za.mk d.kind d.most e.2 d.heaps0 d.heaps1 d.t_ d.when d.clock d.budget d.last d.top).top)).heaps1) ((za.mk ((za.mk d.kind d.most e.2 d.heaps0 d.heaps1 d.t_ d.when d.clock d.budget d.last d.top).kind) ((za.mk d.kind d.most e.2 d.heaps0 d.heaps1 d.t_ d.when d.clock d.budget d.last d.top).most) ((za.mk d.kind d.most e.2 d.heaps0 d.heaps1 d.t_ d.when d.clock d.budget d.last d.top).q) ((za.mk d.kind d.most e.2 d.heaps0 d.heaps1 d.t_ d.when d.clock d.budget d.last d.top).heaps0) ((za.mk d.kind d.most e.2 d.heaps0 d.heaps1 d.t_ d.when d.clock d.budget d.last d.top).heaps1) i.2.2 ((za.mk d.kind d.most e.2 d.heaps0 d.heaps1 d.t_ d.when d.clock d.budget d.last d.top).when) ((za.mk d.kind d.most e.2 d.heaps0 d.heaps1 d.t_ d.when d.clock d.budget d.last d.top).clock) ((za.mk d.kind d.most e.2 d.heaps0 d.heaps1 d.t_ d.when d.clock d.budget d.last d.top).budget) ((za.mk d.kind d.most e.2 d.heaps0 d.heaps1 d.t_ d.when d.clock d.budget d.last d.top).last) ((za.mk d.kind d.most e.2 d.heaps0 d.heaps1 d.t_ d.when d.clock d.budget d.last d.top).top)).t_) (mPut ze.eq i.1 e.1.Entry.Serial ((za.mk ((za.mk d.kind d.most e.2 d.heaps0 d.heaps1 d.t_ d.when d.clock d.budget d.last d.top).kind) ((za.mk d.kind d.most e.2 d.heaps0 d.heaps1 d.t_ d.when d.clock d.budget d.last d.top).most) ((za.mk d.kind d.most e.2 d.heaps0 d.heaps1 d.t_ d.when d.clock d.budget d.last d.top).q) ((za.mk d.kind d.most e.2 d.heaps0 d.heaps1 d.t_ d.when d.clock d.budget d.last d.top).heaps0) ((za.mk d.kind d.most e.2 d.heaps0 d.heaps1 d.t_ d.when d.clock d.budget d.last d.top).heaps1) i.2.2 ((za.mk d.kind d.most e.2 d.heaps0 d.heaps1 d.t_ d.when d.clock d.budget d.last d.top).when) ((za.mk d.kind d.most e.2 d.heaps0 d.heaps1 d.t_ d.when d.clock d.budget d.last d.top).clock) ((za.mk d.kind d.most e.2 d.heaps0 d.heaps1 d.t_ d.when d.clock d.budget d.last d.top).budget) ((za.mk d.kind d.most e.2 d.heaps0 d.heaps1 d.t_ d.when d.clock d.budget d.last d.top).last) ((za.mk d.kind d.most e.2 d.heaps0 d.heaps1 d.t_ d.when d.clock d.budget d.last d.top).top)).when)) ((za.mk ((za.mk d.kind d.most e.2 d.heaps0 d.heaps1 d.t_ d.when d.clock d.budget d.last d.top).kind) ((za.mk d.kind d.most e.2 d.heaps0 d.heaps1 d.t_ d.when d.clock d.budget d.last d.top).most) ((za.mk d.kind d.most e.2 d.heaps0 d.heaps1 d.t_ d.when d.clock d.budget d.last d.top).q) ((za.mk d.kind d.most e.2 d.heaps0 d.heaps1 d.t_ d.when d.clock d.budget d.last d.top).heaps0) ((za.mk d.kind d.most e.2 d.heaps0 d.heaps1 d.t_ d.when d.clock d.budget d.last d.top).heaps1) i.2.2 ((za.mk d.kind d.most e.2 d.heaps0 d.heaps1 d.t_ d.when d.clock d.budget d.last d.top).when) ((za.mk d.kind d.most e.2 d.heaps0 d.heaps1 d.t_ d.when d.clock d.budget d.last d.top).clock) ((za.mk d.kind d.most e.2 d.heaps0 d.heaps1 d.t_ d.when d.clock d.budget d.last d.top).budget) ((za.mk d.kind d.most e.2 d.heaps0 d.heaps1 d.t_ d.when d.clock d.budget d.last d.top).last) ((za.mk d.kind d.most e.2 d.heaps0 d.heaps1 d.t_ d.when d.clock d.budget d.last d.top).top)).clock) ((za.mk ((za.mk d.kind d.most e.2 d.heaps0 d.heaps1 d.t_ d.when d.clock d.budget d.last d.top).kind) ((za.mk d.kind d.most e.2 d.heaps0 d.heaps1 d.t_ d.when d.clock d.budget d.last d.top).most) ((za.mk d.kind d.most e.2 d.heaps0 d.heaps1 d.t_ d.when d.clock d.budget d.last d.top).q) ((za.mk d.kind d.most e.2 d.heaps0 d.heaps1 d.t_ d.when d.clock d.budget d.last d.top).heaps0) ((za.mk d.kind d.most e.2 d.heaps0 d.heaps1 d.t_ d.when d.clock d.budget d.last d.top).heaps1) i.2.2 ((za.mk d.kind d.most e.2 d.heaps0 d.heaps1 d.t_ d.when d.clock d.budget d.last d.top).when) ((za.mk d.kind d.most e.2 d.heaps0 d.heaps1 d.t_ d.when d.clock d.budget d.last d.top).clock) ((za.mk d.kind d.most e.2 d.heaps0 d.heaps1 d.t_ d.when d.clock d.budget d.last d.top).budget) ((za.mk d.kind d.most e.2 d.heaps0 d.heaps1 d.t_ d.when d.clock d.budget d.last d.top).last) ((za.mk d.kind d.most e.2 d.heaps0 d.heaps1 d.t_ d.when d.clock d.budget d.last d.top).top)).budget) ((za.mk ((za.mk d.kind d.most e.2 d.heaps0 d.heaps1 d.t_ d.when d.clock d.budget d.last d.top).kind) ((za.mk d.kind d.most e.2 d.heaps0 d.heaps1 d.t_ d.when d.clock d.budget d.last d.top).most) ((za.mk d.kind d.most e.2 d.heaps0 d.heaps1 d.t_ d.when d.clock d.budget d.last d.top).q) ((za.mk d.kind d.most e.2 d.heaps0 d.heaps1 d.t_ d.when d.clock d.budget d.last d.top).heaps0) ((za.mk d.kind d.most e.2 d.heaps0 d.heaps1 d.t_ d.when d.clock d.budget d.last d.top).heaps1) i.2.2 ((za.mk d.kind d.most e.2 d.heaps0 d.heaps1 d.t_ d.when d.clock d.budget d.last d.top).when) ((za.mk d.kind d.most e.2 d.heaps0 d.heaps1 d.t_ d.when d.clock d.budget d.last d.top).clock) ((za.mk d.kind d.most e.2 d.heaps0 d.heaps1 d.t_ d.when d.clock d.budget d.last d.top).budget) ((za.mk d.kind d.most e.2 d.heaps0 d.heaps1 d.t_ d.when d.clock d.budget d.last d.top).last) ((za.mk d.kind d.most e.2 d.heaps0 d.heaps1 d.t_ d.when d.clock d.budget d.last d.top).top)).last) ((za.mk ((za.mk d.kind d.most e.2 d.heaps0 d.heaps1 d.t_ d.when d.clock d.budget d.last d.top).kind) ((za.mk d.kind d.most e.2 d.heaps0 d.heaps1 d.t_ d.when d.clock d.budget d.last d.top).most) ((za.mk d.kind d.most e.2 d.heaps0 d.heaps1 d.t_ d.when d.clock d.budget d.last d.top).q) ((za.mk d.kind d.most e.2 d.heaps0 d.heaps1 d.t_ d.when d.clock d.budget d.last d.top).heaps0) ((za.mk d.kind d.most e.2 d.heaps0 d.heaps1 d.t_ d.when d.clock d.budget d.last d.top).heaps1) i.2.2 ((za.mk d.kind d.most e.2 d.heaps0 d.heaps1 d.t_ d.when d.clock d.budget d.last d.top).when) ((za.mk d.kind d.most e.2 d.heaps0 d.heaps1 d.t_ d.when d.clock d.budget d.last d.top).clock) ((za.mk d.kind d.most e.2 d.heaps0 d.heaps1 d.t_ d.when d.clock d.budget d.last d.top).budget) ((za.mk d.kind d.most e.2 d.heaps0 d.heaps1 d.t_ d.when d.clock d.budget d.last d.top).last) ((za.mk d.kind d.most e.2 d.heaps0 d.heaps1 d.t_ d.when d.clock d.budget d.last d.top).top)).top)))
def zN (p:zf)(r:ze):Option ((Option Int) × Int) :=
 ((bif decide (r.At<0) then
  some true
 else
  (bif decide (r.At >= (p.l.length:Int)) then
   some true
  else
   (bif decide (r.Gen<1) then
    some true
   else
    (mIdx p.l r.At).bind fun x1 =>
    some (decide (r.Gen > x1.gen)))))).bind fun s =>
 (bif s then
  some ((none:Option Int),22)
 else
  (mIdx p.l r.At).bind fun x2 =>
  (bif (decide (r.Gen<x2.gen)) || (!x2.taken) then
   some ((none:Option Int),23)
  else
   some ((some r.At:Option Int),0)))
def yf (p:zf)(r:ze):Option (zz × Int) :=
 (zN p r).bind fun t_ =>
 (tm t_.1
  ((bif t_.2 != 0 then
   some (zz.mk 0 0 0 (ze.mk 0 0),t_.2)
  else
   none))
  (fun i =>
  (mIdx p.l i).bind fun x =>
  (bif t_.2 != 0 then
   some (zz.mk 0 0 0 (ze.mk 0 0),t_.2)
  else
   some (x.v_,0))))
def xG (t_:zn)(r:ze):Option (zz × Int) :=
 (yf t_.p r).bind fun e =>
 some (e.1,e.2)
def y9 (p:zf)(r:ze)(v_:zz):Option (Int × zf) :=
 (zN p r).bind fun t_ =>
 (tm t_.1
  (((bif t_.2 == 0 then
   none
  else
   some ())).bind fun s =>
  some (t_.2,p))
  (fun i =>
  (mIdx p.l i).bind fun x =>
  ((bif t_.2 == 0 then
   some (zf.mk p.most (mSet p.l i (zq.mk x.gen x.taken v_)) p.free)
  else
   some p)).bind fun s1 =>
  some (t_.2,s1)))
def u6 (t_:zn)(r:ze)(j:zz):Option (Int × zn) :=
 (yf t_.p r).bind fun e =>
 (bif e.2 != 0 then
  some (e.2,t_)
 else
  (sW ze.eq j.Item (ze.mk 0 0) t_.by_).bind fun x =>
  ((bif x.2 then
   some (!(ze.eq x.1 r))
  else
   some false)).bind fun s =>
  (bif s then
   some (1,t_)
  else
   (y9 t_.p r j).bind fun i =>
   some (i.1,zn.mk i.2 (mPut ze.eq j.Item r (mDel ze.eq e.1.Item t_.by_)))))
def xt (k:Nat)(d:za)(e:zt):Option (zr × za) :=
 (xG d.t_ e.Job).bind fun t_ =>
 (bif t_.2 != 0 then
  (yJ t_.2).bind fun i =>
  some (i,d)
 else
  (bif decide (e.Time > t_.1.Time) then
   (yJ 26).bind fun j =>
   some (j,d)
  else
   (zV k d.q (zY.mk 5 0 (ze.mk 0 0) (ze.mk 0 0) t_.1.Item e.Time)).bind fun l =>
   (u6 d.t_ e.Job (zz.mk t_.1.Queue e.Time t_.1.Data t_.1.Item)).bind fun t =>
   (tz (zz.mk t_.1.Queue e.Time t_.1.Data t_.1.Item)).bind fun u =>
   some (u,za.mk d.kind d.most l.2 d.heaps0 d.heaps1 t.2 d.when d.clock d.budget d.last d.top)))
def zQ (p:zf)(r:ze):Option (zz × Int × zf) :=
 (zN p r).bind fun t_ =>
 (tm t_.1
  ((bif t_.2 != 0 then
   some (zz.mk 0 0 0 (ze.mk 0 0),t_.2,p)
  else
   none))
  (fun i =>
  (mIdx p.l i).bind fun x =>
  (bif t_.2 != 0 then
   some (zz.mk 0 0 0 (ze.mk 0 0),t_.2,p)
  else
   (mApp p.free ([r.At]:List Int)).bind fun l =>
   some (x.v_,0,zf.mk p.most (mSet (mSet p.l i (zq.mk x.gen false x.v_)) i (zq.mk x.gen false (zz.mk 0 0 0 (ze.mk 0 0)))) l))))
def uI (t_:zn)(r:ze):Option (zz × Int × zn) :=
 (zQ t_.p r).bind fun e =>
 ((bif e.2.1 == 0 then
  some (zn.mk ((zn.mk e.2.2 t_.by_).p) (mDel ze.eq e.1.Item ((zn.mk e.2.2 t_.by_).by_)))
 else
  some (zn.mk e.2.2 t_.by_))).bind fun s =>
 some (e.1,e.2.1,s)
def yR (d:za)(r:ze):Option (zr × za) :=
 (uI d.t_ r).bind fun t_ =>
 (bif t_.2.1 != 0 then
  (yJ t_.2.1).bind fun e =>
  some (e,za.mk d.kind d.most d.q d.heaps0 d.heaps1 t_.2.2 d.when d.clock d.budget d.last d.top)
 else
  (tz t_.1).bind fun i =>
  some (i,za.mk ((za.mk d.kind d.most d.q d.heaps0 d.heaps1 t_.2.2 d.when d.clock d.budget d.last d.top).kind) ((za.mk d.kind d.most d.q d.heaps0 d.heaps1 t_.2.2 d.when d.clock d.budget d.last d.top).most) ((za.mk d.kind d.most d.q d.heaps0 d.heaps1 t_.2.2 d.when d.clock d.budget d.last d.top).q) ((za.mk d.kind d.most d.q d.heaps0 d.heaps1 t_.2.2 d.when d.clock d.budget d.last d.top).heaps0) ((za.mk d.kind d.most d.q d.heaps0 d.heaps1 t_.2.2 d.when d.clock d.budget d.last d.top).heaps1) ((za.mk d.kind d.most d.q d.heaps0 d.heaps1 t_.2.2 d.when d.clock d.budget d.last d.top).t_) (mDel ze.eq r ((za.mk d.kind d.most d.q d.heaps0 d.heaps1 t_.2.2 d.when d.clock d.budget d.last d.top).when)) ((za.mk d.kind d.most d.q d.heaps0 d.heaps1 t_.2.2 d.when d.clock d.budget d.last d.top).clock) ((za.mk d.kind d.most d.q d.heaps0 d.heaps1 t_.2.2 d.when d.clock d.budget d.last d.top).budget) ((za.mk d.kind d.most d.q d.heaps0 d.heaps1 t_.2.2 d.when d.clock d.budget d.last d.top).last) ((za.mk d.kind d.most d.q d.heaps0 d.heaps1 t_.2.2 d.when d.clock d.budget d.last d.top).top)))
def xr (k:Nat)(d:za)(r:ze):Option (zr × za) :=
 (xG d.t_ r).bind fun t_ =>
 ((bif t_.2 == 0 then
  (zV k d.q (zY.mk 6 0 (ze.mk 0 0) (ze.mk 0 0) t_.1.Item 0)).bind fun i =>
  some (za.mk d.kind d.most i.2 d.heaps0 d.heaps1 d.t_ d.when d.clock d.budget d.last d.top)
 else
  some d)).bind fun s =>
 (yR s r).bind fun e =>
 some (e.1,e.2)
def sE (e:zL)(by_:Int):Option (Int × zL) :=
 (bif decide (by_<0) then
  some (1,e)
 else
  (wS e.now by_).bind fun t_ =>
  some (0,zL.mk t_))
def vB (e:zL):Option (Int) :=
 some e.now
def vA (e:zL)(at_:Int):Option (Bool) :=
 some (decide (at_<=e.now))
def ri (t_:zn)(item:ze):Option (ze × Bool) :=
 (sW ze.eq item (ze.mk 0 0) t_.by_).bind fun x =>
 some (x.1,x.2)
def xS (k:Nat)(d:za)(queue:Int):Option (zr × za) :=
 (mIdx ([d.heaps0,d.heaps1]:List ze) queue).bind fun x =>
 (zV k d.q (zY.mk 3 0 x (ze.mk 0 0) (ze.mk 0 0) 0)).bind fun t_ =>
 ((bif t_.1.Why != 0 then
  some (true,za.mk d.kind d.most t_.2 d.heaps0 d.heaps1 d.t_ d.when d.clock d.budget d.last d.top)
 else
  (vA ((za.mk d.kind d.most t_.2 d.heaps0 d.heaps1 d.t_ d.when d.clock d.budget d.last d.top).clock) t_.1.Entry.Key).bind fun l =>
  some (!l,za.mk ((za.mk d.kind d.most t_.2 d.heaps0 d.heaps1 d.t_ d.when d.clock d.budget d.last d.top).kind) ((za.mk d.kind d.most t_.2 d.heaps0 d.heaps1 d.t_ d.when d.clock d.budget d.last d.top).most) ((za.mk d.kind d.most t_.2 d.heaps0 d.heaps1 d.t_ d.when d.clock d.budget d.last d.top).q) ((za.mk d.kind d.most t_.2 d.heaps0 d.heaps1 d.t_ d.when d.clock d.budget d.last d.top).heaps0) ((za.mk d.kind d.most t_.2 d.heaps0 d.heaps1 d.t_ d.when d.clock d.budget d.last d.top).heaps1) ((za.mk d.kind d.most t_.2 d.heaps0 d.heaps1 d.t_ d.when d.clock d.budget d.last d.top).t_) ((za.mk d.kind d.most t_.2 d.heaps0 d.heaps1 d.t_ d.when d.clock d.budget d.last d.top).when) ((za.mk d.kind d.most t_.2 d.heaps0 d.heaps1 d.t_ d.when d.clock d.budget d.last d.top).clock) ((za.mk d.kind d.most t_.2 d.heaps0 d.heaps1 d.t_ d.when d.clock d.budget d.last d.top).budget) ((za.mk d.kind d.most t_.2 d.heaps0 d.heaps1 d.t_ d.when d.clock d.budget d.last d.top).last) ((za.mk d.kind d.most t_.2 d.heaps0 d.heaps1 d.t_ d.when d.clock d.budget d.last d.top).top)))).bind fun s =>
 (bif s.1 then
  (yJ 28).bind fun t =>
  some (t,s.2)
 else
  (zV k s.2.q (zY.mk 4 0 x (ze.mk 0 0) (ze.mk 0 0) 0)).bind fun i =>
  (ri s.2.t_ i.1.Item).bind fun j =>
  (yR (za.mk s.2.kind s.2.most i.2 s.2.heaps0 s.2.heaps1 s.2.t_ s.2.when s.2.clock s.2.budget s.2.last s.2.top) j.1).bind fun e =>
  some (zr.mk e.1.Why j.1 e.1.Time e.1.Data e.1.N,e.2))
def yK (x1:Int)(m_:zf):Nat->(List ze)->Int->Option ((List ze))
 | 0,_,_=>none
 | m+1,out,x =>
  (bif decide (x<x1) then
   ((mIdx m_.l x).bind fun x2 =>
   (bif x2.taken then
    (mApp out ([ze.mk x x2.gen]:List ze)).bind fun l =>
    some l
   else
    some out)).bind fun s1 =>
   yK x1 m_ m s1 (w64 (x+1))
  else
   some out)
def y8 (k:Nat)(p:zf):Option ((List ze)) :=
 (yK (p.l.length:Int) p k ([]:List ze) 0).bind fun s =>
 some s
def xU (e:Int)(j:Int)(x1:Int)(l:List ze):Nat->Int->Int->zn->Option (Int × zn)
 | 0,_,_,_=>none
 | m+1,n,x,m_ =>
  (bif decide (x<x1) then
   ((mIdx l x).bind fun x2 =>
   (yf m_.p x2).bind fun i =>
   (bif i.1.Queue == e then
    (y9 m_.p x2 (zz.mk j i.1.Time i.1.Data i.1.Item)).bind fun t =>
    some (w64 (n+1),zn.mk t.2 m_.by_)
   else
    some (n,m_))).bind fun s1 =>
   xU e j x1 l m s1.1 (w64 (x+1)) s1.2
  else
   some (n,m_))
def tP (k:Nat)(t_:zn)(from_:Int)(to:Int):Option (Int × zn) :=
 (y8 k t_.p).bind fun e =>
 (xU from_ to (e.length:Int) e k 0 0 t_).bind fun s =>
 some (s.1,s.2)
def xF (k:Nat)(d:za):Option (zr × za) :=
 (zV k d.q (zY.mk 7 0 d.heaps0 d.heaps1 (ze.mk 0 0) 0)).bind fun t_ =>
 (zV k t_.2 (zY.mk 1 d.kind (ze.mk 0 0) (ze.mk 0 0) (ze.mk 0 0) 0)).bind fun e =>
 (tP k d.t_ 1 0).bind fun i =>
 some (zr.mk 0 (ze.mk 0 0) 0 0 i.1,za.mk d.kind d.most e.2 d.heaps0 e.1.Heap i.2 d.when d.clock d.budget d.last d.top)
def xA (e:Int)(x1:Int)(m_:zn)(l:List ze):Nat->Int->Int->Option (Int)
 | 0,_,_=>none
 | m+1,n,x =>
  (bif decide (x<x1) then
   ((mIdx l x).bind fun x2 =>
   (yf m_.p x2).bind fun i =>
   (bif i.1.Queue == e then
    some (w64 (n+1))
   else
    some n)).bind fun s1 =>
   xA e x1 m_ l m s1 (w64 (x+1))
  else
   some n)
def ub (k:Nat)(t_:zn)(queue:Int):Option (Int) :=
 (y8 k t_.p).bind fun e =>
 (xA queue (e.length:Int) t_ e k 0 0).bind fun s =>
 some s
def wc (k:Nat)(d:za)(e:zt):Option (zr × za) :=
 (((bif e.Kind == 1 then
  some (e.Kind == 1)
 else
  (bif e.Kind == 5 then
   some (e.Kind == 5)
  else
   (bif e.Kind == 6 then
    some (e.Kind == 6)
   else
    some (e.Kind == 7))))).bind fun s2 =>
 (bif s2 then
  (bif !((decide (e.Queue >= 0)) && (decide (e.Queue<2))) then
   (yJ 1).bind fun t_ =>
   some (.inl (t_,d))
  else
   some (.inr ()))
 else
  some (.inr ())):Option ((zr × za) ⊕ (Unit))).bind fun s =>
 match s with
 | .inl F=>some F
 | .inr s1 =>
  (bif e.Kind == 1 then
   (xn k d e).bind fun j =>
   some (j.1,j.2)
  else
   (bif e.Kind == 2 then
    (xt k d e).bind fun u =>
    some (u.1,u.2)
   else
    (bif e.Kind == 3 then
     (xr k d e.Job).bind fun x =>
     some (x.1,x.2)
    else
     (bif e.Kind == 4 then
      (sE d.clock e.Time).bind fun i =>
      (bif i.1 != 0 then
       (yJ i.1).bind fun A =>
       some (A,za.mk d.kind d.most d.q d.heaps0 d.heaps1 d.t_ d.when i.2 d.budget d.last d.top)
      else
       (vB i.2).bind fun B =>
       some (zr.mk 0 (ze.mk 0 0) B 0 0,za.mk d.kind d.most d.q d.heaps0 d.heaps1 d.t_ d.when i.2 d.budget d.last d.top))
     else
      (bif e.Kind == 5 then
       (xS k d e.Queue).bind fun y =>
       some (y.1,y.2)
      else
       (bif e.Kind == 6 then
        (bif e.Queue == 0 then
         (yJ 25).bind fun D =>
         some (D,d)
        else
         (xF k d).bind fun z =>
         some (z.1,z.2))
       else
        (bif e.Kind == 7 then
         (ub k d.t_ e.Queue).bind fun l =>
         some (zr.mk 0 (ze.mk 0 0) 0 0 l,d)
        else
         (yJ 12).bind fun t =>
         some (t,d))))))))
def zW (k:Nat)(d:za)(l:zt):Option (zr × za) :=
 (tX d.q).bind fun t_ =>
 (wc k d l).bind fun e =>
 (tX e.2.q).bind fun i =>
 (bif decide (w64 (i - t_) > e.2.budget) then
  (yJ 29).bind fun j =>
  some (j,za.mk e.2.kind e.2.most e.2.q e.2.heaps0 e.2.heaps1 e.2.t_ e.2.when e.2.clock e.2.budget (w64 (i - t_)) (if w64 (i - t_) > e.2.top then w64 (i - t_) else e.2.top))
 else
  some (e.1,za.mk e.2.kind e.2.most e.2.q e.2.heaps0 e.2.heaps1 e.2.t_ e.2.when e.2.clock e.2.budget (w64 (i - t_)) (if w64 (i - t_) > e.2.top then w64 (i - t_) else e.2.top)))
def yZ (d:za):Option (Int) :=
 (vV d.t_).bind fun t_ =>
 some t_
def wU (e:Int)(m_:zh):Nat->Int->Option ((Int × zh) ⊕ (Unit))
 | 0,_=>none
 | m+1,i =>
  (bif decide (i<(m_.L.length:Int)) then
   (mIdx m_.L i).bind fun x =>
   (bif x.Serial == e then
    some (.inl (i,m_))
   else
    wU e m_ m (w64 (i+1)))
  else
   some (.inr ()))
def wG (k:Nat)(s:zh)(serial:Int):Option (Int × zh) :=
 (wU serial s k 0).bind fun s1 =>
 match s1 with
 | .inl e=>some e
 | .inr s2 =>
  some ((-1),s)
def vu (a_:zi)(b:zi):Option (Bool) :=
 some ((decide (a_.Key<b.Key)) || ((a_.Key == b.Key) && (decide (a_.Serial<b.Serial))))
def ur (i1:Int)(l2:List zi)(i:List zi):Nat->Int->Option (Int)
 | 0,_=>none
 | m+1,e =>
  ((bif decide (e > 0) then
   (mIdx i i1).bind fun x1 =>
   (mIdx l2 (w64 (e - 1))).bind fun x2 =>
   (vu x1 x2).bind fun t_ =>
   some t_
  else
   some false)).bind fun s2 =>
  (bif s2 then
   ur i1 l2 i m (w64 (e - 1))
  else
   some e)
def uq (l1:List zi):Nat->(List zi)->Int->Option ((List zi))
 | 0,_,_=>none
 | m+1,out,i =>
  (bif decide (i<(l1.length:Int)) then
   (ur i out l1 m (out.length:Int)).bind fun s1 =>
   (mCut out 0 s1).bind fun e =>
   (mIdx l1 i).bind fun x3 =>
   (mCut out s1 (out.length:Int)).bind fun j =>
   (mApp ([]:List zi) e).bind fun l =>
   (mApp l ([x3]:List zi)).bind fun t =>
   (mApp t j).bind fun u =>
   uq l1 m u (w64 (i+1))
  else
   some out)
def tw (k:Nat)(l:List zi):Option ((List zi)) :=
 (uq l k ([]:List zi) 0).bind fun s =>
 some s
def xp (k:Nat)(s:zh)(e:zi):Option (Bool × zh) :=
 (wG k s e.Serial).bind fun t_ =>
 (bif decide (t_.1 >= 0) then
  some (false,t_.2)
 else
  (mApp ([]:List zi) t_.2.L).bind fun l =>
  (mApp l ([e]:List zi)).bind fun l1 =>
  (tw k l1).bind fun i =>
  some (true,zh.mk i))
def vT (s:zh):Option (zi × Bool) :=
 (bif (s.L.length:Int) == 0 then
  some (zi.mk 0 0,false)
 else
  (mIdx s.L 0).bind fun x =>
  some (x,true))
def yp (d:za):Option (Int) :=
 (vB d.clock).bind fun t_ =>
 some t_
def uM (k:Nat)(s:zh)(serial:Int):Option (zi × Bool × zh) :=
 (wG k s serial).bind fun t_ =>
 (bif decide (t_.1<0) then
  some (zi.mk 0 0,false,t_.2)
 else
  (mIdx t_.2.L t_.1).bind fun x =>
  (mCut t_.2.L 0 t_.1).bind fun l =>
  (mCut t_.2.L (w64 (t_.1+1)) (t_.2.L.length:Int)).bind fun l1 =>
  (mApp ([]:List zi) l).bind fun l2 =>
  (mApp l2 l1).bind fun e =>
  some (x,true,zh.mk e))
def tx (k:Nat)(s:zh):Option (zi × Bool × zh) :=
 (vT s).bind fun t_ =>
 ((bif t_.2 then
  (uM k s t_.1.Serial).bind fun e =>
  some e.2.2
 else
  some s)).bind fun s1 =>
 some (t_.1,t_.2,s1)
def u5 (k:Nat)(t_:zn):Option ((List ze)) :=
 (y8 k t_.p).bind fun e =>
 some e
def yE (i:Int)(l:Int)(i1:Int):Nat->Int->(List zi)->Option ((List zi))
 | 0,_,_=>none
 | m+1,j,e =>
  ((bif decide (j > i) then
   (mIdx e j).bind fun x1 =>
   (mIdx e (w64 (j - 1))).bind fun x2 =>
   (wF m x1 x2).bind fun t_ =>
   some (decide (t_<0))
  else
   some false)).bind fun s2 =>
  (bif s2 then
   (mIdx e (w64 (j - 1))).bind fun x3 =>
   (mIdx e j).bind fun x4 =>
   (mIdx e j).bind fun x5 =>
   (mIdx (mSet e j x3) (w64 (j - 1))).bind fun x6 =>
   yE i l i1 m (w64 (j - 1)) (mSet (mSet e j x3) (w64 (j - 1)) x4)
  else
   some e)
def yD (e:Int)(j:Int):Nat->Int->(List zi)->Option ((List zi))
 | 0,_,_=>none
 | m+1,i,m_ =>
  (bif decide (i<j) then
   (yE e j i m i m_).bind fun s1 =>
   yD e j m (w64 (i+1)) s1
  else
   some m_)
def yO (k:Nat)(data:List zi)(a_:Int)(b:Int):Option ((List zi)) :=
 (yD a_ b k (w64 (a_+1)) data).bind fun s =>
 (sa s.length data.length).bind fun u =>
 some s
def yQ (e:Int)(j:Int)(l:Int):Nat->Int->(List zi)->Option ((List zi))
 | 0,_,_=>none
 | m+1,i,m_ =>
  (bif decide (i<l) then
   (mIdx m_ (w64 (j+i))).bind fun x =>
   (mIdx m_ (w64 (e+i))).bind fun x1 =>
   (mIdx m_ (w64 (e+i))).bind fun x2 =>
   (mIdx (mSet m_ (w64 (e+i)) x) (w64 (j+i))).bind fun x3 =>
   yQ e j l m (w64 (i+1)) (mSet (mSet m_ (w64 (e+i)) x) (w64 (j+i)) x1)
  else
   some m_)
def yC (k:Nat)(data:List zi)(a_:Int)(b:Int)(n:Int):Option ((List zi)) :=
 (yQ a_ b n k 0 data).bind fun s =>
 (sa s.length data.length).bind fun u =>
 some s
def yB (e:Int):Nat->Int->Int->(List zi)->Option (Int × (List zi))
 | 0,_,_,_=>none
 | m+1,i,j,l =>
  (bif i != j then
   (bif decide (i > j) then
    (yC m l (w64 (e - i)) e j).bind fun t_ =>
    yB e m (w64 (i - j)) j t_
   else
    (yC m l (w64 (e - i)) (w64 ((w64 (e+j)) - i)) i).bind fun t =>
    yB e m i (w64 (j - i)) t)
  else
   some (i,l))
def wA (k:Nat)(data:List zi)(a_:Int)(m_:Int)(b:Int):Option ((List zi)) :=
 (yB m_ k (w64 (m_ - a_)) (w64 (b - m_)) data).bind fun s =>
 (yC k s.2 (w64 (m_ - s.1)) m_ s.1).bind fun e =>
 (sa e.length data.length).bind fun u =>
 some e
def yv (e:(List zi)->Int->Int->Int->Option ((List zi)))(t:Int)(l:List zi):Nat->Int->Int->Option (Int)
 | 0,_,_=>none
 | m+1,i,j =>
  (bif decide (i<j) then
   (mIdx l (w64 (Int.fdiv (IntKind.wrap .u64 (w64 (i+j))) (2 ^ (min (Int.toNat 1) 64))))).bind fun x =>
   (mIdx l t).bind fun x1 =>
   (wF m x x1).bind fun t_ =>
   (bif decide (t_<0) then
    yv e t l m (w64 ((w64 (Int.fdiv (IntKind.wrap .u64 (w64 (i+j))) (2 ^ (min (Int.toNat 1) 64))))+1)) j
   else
    yv e t l m i (w64 (Int.fdiv (IntKind.wrap .u64 (w64 (i+j))) (2 ^ (min (Int.toNat 1) 64)))))
  else
   some i)
def yT (j:(List zi)->Int->Int->Int->Option ((List zi)))(i1:Int):Nat->Int->(List zi)->Option ((List zi))
 | 0,_,_=>none
 | m+1,i,e =>
  (bif decide (i<w64 (i1 - 1)) then
   (mIdx e (w64 (i+1))).bind fun x2 =>
   (mIdx e i).bind fun x3 =>
   (mIdx e i).bind fun x4 =>
   (mIdx (mSet e i x2) (w64 (i+1))).bind fun x5 =>
   yT j i1 m (w64 (i+1)) (mSet (mSet e i x2) (w64 (i+1)) x3)
  else
   some e)
def yw (e:(List zi)->Int->Int->Int->Option ((List zi)))(i:Int)(l1:List zi):Nat->Int->Int->Option (Int)
 | 0,_,_=>none
 | m+1,i2,j =>
  (bif decide (i2<j) then
   (mIdx l1 i).bind fun x6 =>
   (mIdx l1 (w64 (Int.fdiv (IntKind.wrap .u64 (w64 (i2+j))) (2 ^ (min (Int.toNat 1) 64))))).bind fun x7 =>
   (wF m x6 x7).bind fun l =>
   (bif !(decide (l<0)) then
    yw e i l1 m (w64 ((w64 (Int.fdiv (IntKind.wrap .u64 (w64 (i2+j))) (2 ^ (min (Int.toNat 1) 64))))+1)) j
   else
    yw e i l1 m i2 (w64 (Int.fdiv (IntKind.wrap .u64 (w64 (i2+j))) (2 ^ (min (Int.toNat 1) 64)))))
  else
   some i2)
def yU (j:(List zi)->Int->Int->Int->Option ((List zi)))(i3:Int):Nat->Int->(List zi)->Option ((List zi))
 | 0,_,_=>none
 | m+1,e,i =>
  (bif decide (e > i3) then
   (mIdx i (w64 (e - 1))).bind fun x8 =>
   (mIdx i e).bind fun x9 =>
   (mIdx i e).bind fun x10 =>
   (mIdx (mSet i e x8) (w64 (e - 1))).bind fun x11 =>
   yU j i3 m (w64 (e - 1)) (mSet (mSet i e x8) (w64 (e - 1)) x9)
  else
   some i)
def yx (e:(List zi)->Int->Int->Int->Option ((List zi)))(i:Int)(l:Int)(j:Int)(t:Int)(n:Int)(p:Int)(l2:List zi):Nat->Int->Int->Option (Int)
 | 0,_,_=>none
 | m+1,start,r =>
  (bif decide (start<r) then
   (mIdx l2 (w64 (p - (w64 (Int.fdiv (IntKind.wrap .u64 (w64 (start+r))) (2 ^ (min (Int.toNat 1) 64))))))).bind fun x12 =>
   (mIdx l2 (w64 (Int.fdiv (IntKind.wrap .u64 (w64 (start+r))) (2 ^ (min (Int.toNat 1) 64))))).bind fun x13 =>
   (wF m x12 x13).bind fun u =>
   (bif !(decide (u<0)) then
    yx e i l j t n p l2 m (w64 ((w64 (Int.fdiv (IntKind.wrap .u64 (w64 (start+r))) (2 ^ (min (Int.toNat 1) 64))))+1)) r
   else
    yx e i l j t n p l2 m start (w64 (Int.fdiv (IntKind.wrap .u64 (w64 (start+r))) (2 ^ (min (Int.toNat 1) 64)))))
  else
   some start)
def zy:Nat->(List zi)->Int->Int->Int->Option ((List zi))
 | 0,_,_,_,_=>none
 | k+1,data,a_,m_,b =>
  (bif (w64 (m_ - a_)) == 1 then
   (yv (zy k) a_ data k m_ b).bind fun s =>
   (yT (zy k) s k a_ data).bind fun s1 =>
   (sa s1.length data.length).bind fun u =>
   some s1
  else
   (bif (w64 (b - m_)) == 1 then
    (yw (zy k) m_ data k a_ m_).bind fun s2 =>
    (yU (zy k) s2 k m_ data).bind fun x =>
    (sa x.length data.length).bind fun A =>
    some x
   else
    ((bif decide (m_ > w64 (Int.fdiv (IntKind.wrap .u64 (w64 (a_+b))) (2 ^ (min (Int.toNat 1) 64)))) then
     some (w64 ((w64 ((w64 (Int.fdiv (IntKind.wrap .u64 (w64 (a_+b))) (2 ^ (min (Int.toNat 1) 64))))+m_)) - b),w64 (Int.fdiv (IntKind.wrap .u64 (w64 (a_+b))) (2 ^ (min (Int.toNat 1) 64))))
    else
     some (a_,m_))).bind fun y =>
    (yx (zy k) a_ m_ b (w64 (Int.fdiv (IntKind.wrap .u64 (w64 (a_+b))) (2 ^ (min (Int.toNat 1) 64)))) (w64 ((w64 (Int.fdiv (IntKind.wrap .u64 (w64 (a_+b))) (2 ^ (min (Int.toNat 1) 64))))+m_)) (w64 ((w64 ((w64 (Int.fdiv (IntKind.wrap .u64 (w64 (a_+b))) (2 ^ (min (Int.toNat 1) 64))))+m_)) - 1)) data k y.1 y.2).bind fun e =>
    ((bif (decide (e<m_)) && (decide (m_<w64 ((w64 ((w64 (Int.fdiv (IntKind.wrap .u64 (w64 (a_+b))) (2 ^ (min (Int.toNat 1) 64))))+m_)) - e))) then
     (wA k data e m_ (w64 ((w64 ((w64 (Int.fdiv (IntKind.wrap .u64 (w64 (a_+b))) (2 ^ (min (Int.toNat 1) 64))))+m_)) - e))).bind fun l =>
     some l
    else
     some data)).bind fun z =>
    ((bif (decide (a_<e)) && (decide (e<w64 (Int.fdiv (IntKind.wrap .u64 (w64 (a_+b))) (2 ^ (min (Int.toNat 1) 64))))) then
     ((zy k) z a_ e (w64 (Int.fdiv (IntKind.wrap .u64 (w64 (a_+b))) (2 ^ (min (Int.toNat 1) 64))))).bind fun t =>
     some t
    else
     some z)).bind fun j =>
    (bif (decide (w64 (Int.fdiv (IntKind.wrap .u64 (w64 (a_+b))) (2 ^ (min (Int.toNat 1) 64)))<w64 ((w64 ((w64 (Int.fdiv (IntKind.wrap .u64 (w64 (a_+b))) (2 ^ (min (Int.toNat 1) 64))))+m_)) - e))) && (decide (w64 ((w64 ((w64 (Int.fdiv (IntKind.wrap .u64 (w64 (a_+b))) (2 ^ (min (Int.toNat 1) 64))))+m_)) - e)<b)) then
     ((zy k) j (w64 (Int.fdiv (IntKind.wrap .u64 (w64 (a_+b))) (2 ^ (min (Int.toNat 1) 64)))) (w64 ((w64 ((w64 (Int.fdiv (IntKind.wrap .u64 (w64 (a_+b))) (2 ^ (min (Int.toNat 1) 64))))+m_)) - e)) b).bind fun i =>
     (sa i.length data.length).bind fun B =>
     some i
    else
     (sa j.length data.length).bind fun D =>
     some j)))
def y5 (e:Int):Nat->Int->Int->(List zi)->Option (Int × (List zi))
 | 0,_,_,_=>none
 | m+1,a_,b,m_ =>
  (bif decide (b<=e) then
   (yO m m_ a_ b).bind fun t_ =>
   y5 e m b (w64 (b+20)) t_
  else
   some (a_,m_))
def y7 (u:Int)(e:Int):Nat->Int->Int->(List zi)->Option (Int × (List zi))
 | 0,_,_,_=>none
 | m+1,i,l,j =>
  (bif decide (l<=u) then
   (zy m j i (w64 (i+e)) l).bind fun t =>
   y7 u e m l (w64 (l+(w64 (2*e)))) t
  else
   some (i,j))
def y6 (j:Int):Nat->Int->(List zi)->Option ((List zi))
 | 0,_,_=>none
 | m+1,e,i =>
  (bif decide (e<j) then
   (y7 j e m 0 (w64 (2*e)) i).bind fun s2 =>
   ((bif decide (w64 (s2.1+e)<j) then
    (zy m s2.2 s2.1 (w64 (s2.1+e)) j).bind fun l =>
    some l
   else
    some s2.2)).bind fun t =>
   y6 j m (w64 (e*2)) t
  else
   some i)
def wB (k:Nat)(data:List zi)(n:Int):Option ((List zi)) :=
 (y5 n k 0 20 data).bind fun s =>
 (yO k s.2 s.1 n).bind fun e =>
 (y6 n k 20 e).bind fun s1 =>
 (sa s1.length data.length).bind fun u =>
 some s1
def wx (k:Nat)(x:List zi):Option ((List zi)) :=
 (wB k x (x.length:Int)).bind fun t_ =>
 (sa t_.length x.length).bind fun u =>
 some t_
def mY (k:Nat)(l:List zi):Option ((List zi)) :=
 (ko l).bind fun t_ =>
 (wx k t_).bind fun e =>
 some e
def wo (e:Int)(x1:Int)(m_:za)(l:List ze):Nat->(List zi)->Int->Option ((List zi))
 | 0,_,_=>none
 | m+1,out,x =>
  (bif decide (x<x1) then
   ((mIdx l x).bind fun x2 =>
   (xG m_.t_ x2).bind fun i =>
   (bif i.1.Queue == e then
    (sW ze.eq x2 (0:Int) m_.when).bind fun x3 =>
    (mApp out ([zi.mk i.1.Time x3.1]:List zi)).bind fun l1 =>
    some l1
   else
    some out)).bind fun s1 =>
   wo e x1 m_ l m s1 (w64 (x+1))
  else
   some out)
def uy (k:Nat)(d:za)(queue:Int):Option ((List zi)) :=
 (u5 k d.t_).bind fun t_ =>
 (wo queue (t_.length:Int) d t_ k ([]:List zi) 0).bind fun s =>
 (mY k s).bind fun e =>
 some e
def xY (l:List zi)(l1:List zi):Nat->Int->Option ((Bool) ⊕ (Unit))
 | 0,_=>none
 | m+1,i =>
  (bif decide (i<(l.length:Int)) then
   (mIdx l i).bind fun x =>
   (mIdx l1 i).bind fun x1 =>
   (bif !(zi.eq x x1) then
    some (.inl false)
   else
    xY l l1 m (w64 (i+1)))
  else
   some (.inr ()))
def vP (k:Nat)(a_:List zi)(b:List zi):Option (Bool) :=
 (bif (a_.length:Int) != (b.length:Int) then
  some false
 else
  (xY a_ b k 0).bind fun s =>
  match s with
  | .inl e=>some e
  | .inr s1 =>
   some true)
def mE (n:Int):Option (Int) :=
 (bif decide ((if n > 0 then n else 0) > 23058430092136938) then
  some 9223372036854775807
 else
  some (w64 (500+(w64 (400*(if n > 0 then n else 0))))))
def sj (k:Nat)(n:Int):Option (Int) :=
 ((bif decide ((if n > 0 then n else 0)<9223372036854775807) then
  some (w64 ((if n > 0 then n else 0)+1))
 else
  some (if n > 0 then n else 0))).bind fun s =>
 (rz k 500 400 s).bind fun t_ =>
 some t_
def jZ (k:Nat)(e:Int)(op:Int)(n:Int):Option (Int) :=
 ((sU e).bind fun t_ =>
 (bif t_ then
  some (op == 9)
 else
  some false)).bind fun s =>
 (bif s then
  (mE n).bind fun i =>
  some i
 else
  (uz e).bind fun j =>
  (bif !j then
   some 500
  else
   ((bif op == 2 then
    (bif e == 3 then
     some (.inl 500)
    else
     (sj k n).bind fun l =>
     some (.inl l))
   else
    (bif op == 3 then
     (bif e == 1 then
      some (.inl 500)
     else
      (sj k n).bind fun t =>
      some (.inl t))
    else
     ((bif op == 4 then
      some (op == 4)
     else
      (bif op == 5 then
       some (op == 5)
      else
       (bif op == 6 then
        some (op == 6)
       else
        some (op == 7))))).bind fun y =>
     (bif y then
      (sj k n).bind fun u =>
      some (.inl u)
     else
      some (.inr ())))):Option ((Int) ⊕ (Unit))).bind fun s1 =>
   match s1 with
   | .inl x=>some x
   | .inr s2 =>
    some 500))
def wC (k:Nat)  : Option (Bool) :=
 (kA 2).bind fun t_ =>
 (tm t_.1
  (some false)
  (fun m_ =>
  (bif t_.2 != 0 then
   some false
  else
   (zV k m_ (zY.mk 1 1 (ze.mk 0 0) (ze.mk 0 0) (ze.mk 0 0) 0)).bind fun e =>
   (zV k e.2 (zY.mk 2 0 e.1.Heap (ze.mk 0 0) (ze.mk 0 0) 5)).bind fun i =>
   (zV k i.2 (zY.mk 3 0 e.1.Heap (ze.mk 0 0) (ze.mk 0 0) 0)).bind fun j =>
   ((bif e.1.Why == 0 then
    (bif i.1.Why == 0 then
     (bif j.1.Entry.Key == 5 then
      (bif ze.eq j.1.Item i.1.Item then
       (jZ k 1 1 0).bind fun l =>
       some (l == 500)
      else
       some false)
     else
      some false)
    else
     some false)
   else
    some false)).bind fun s =>
   some s)))
def vh (l:List Int)(t:zc)(l1:List Int):Nat->Int->zh->za->Option ((Bool) ⊕ (zh × za))
 | 0,_,_,_=>none
 | m+1,i,m_,j =>
  (bif (decide (i<(l1.length:Int))) && (decide (i<50)) then
   (mIdx l1 i).bind fun x =>
   ((zW m j (zt.mk 1 0 (ze.mk 0 0) (Int.tmod x 100) i)).bind fun e =>
   (bif e.1.Why != 0 then
    (yZ e.2).bind fun u =>
    some (decide (u<50),e.2)
   else
    some (false,e.2))).bind fun s2 =>
   (bif s2.1 then
    some (.inl false)
   else
    (xp m m_ (zi.mk (Int.tmod x 100) i)).bind fun y =>
    vh l t l1 m (w64 (i+1)) y.2 s2.2)
  else
   some (.inr (m_,j)))
def vj (z:List Int)(i2:Int)(t:zc)(A:List Int):Nat->Int->za->zh->Option ((Bool) ⊕ (za × zh))
 | 0,_,_,_=>none
 | m+1,n,l,i =>
  (bif decide (n<60) then
   (zW m l (zt.mk 5 0 (ze.mk 0 0) 0 0)).bind fun e =>
   (vT i).bind fun j =>
   ((bif !j.2 then
    some true
   else
    (yp e.2).bind fun x =>
    some (decide (j.1.Key > x)))).bind fun u =>
   (bif u then
    (bif !(zr.eq e.1 (zr.mk 28 (ze.mk 0 0) 0 0 0)) then
     some (.inl false)
    else
     some (.inr (e.2,i)))
   else
    (bif (e.1.Why != 0) || ((e.1.Time != j.1.Key) || (e.1.Data != j.1.Serial)) then
     some (.inl false)
    else
     (tx m i).bind fun y =>
     vj z i2 t A m (w64 (n+1)) e.2 y.2.2))
  else
   some (.inr (l,i)))
def vi (l2:List Int)(j:zc)(u:List Int):Nat->Int->zh->za->Option ((Bool) ⊕ (zh × za))
 | 0,_,_,_=>none
 | m+1,i1,e,i =>
  (bif (decide (i1<(l2.length:Int))) && (decide (i1<20)) then
   ((mIdx l2 i1).bind fun x1 =>
   ((bif decide (Int.tmod x1 30<0) then
    some (w64 (0 - (Int.tmod x1 30)))
   else
    some (Int.tmod x1 30))).bind fun A =>
   (zW m i (zt.mk 4 0 (ze.mk 0 0) A 0)).bind fun t =>
   (vj l2 i1 j u m 0 t.2 e).bind fun B =>
   match B with
   | .inl l=>some (.inl l)
   | .inr y =>
    some (.inr (y.2,y.1)):Option ((Bool) ⊕ (zh × za))).bind fun z =>
   match z with
   | .inl l=>some (.inl l)
   | .inr x =>
    vi l2 j u m (w64 (i1+1)) x.1 x.2
  else
   some (.inr (e,i)))
def qK (k:Nat)(y:Int)(times:List Int)(steps:List Int):Option (Bool) :=
 (xm k y 60).bind fun t_ =>
 (vh steps t_.2 times k 0 (zh.mk ([]:List zi)) t_.1).bind fun s =>
 match s with
 | .inl l=>some l
 | .inr s1 =>
  (yZ s1.2).bind fun u =>
  (bif u != (s1.1.L.length:Int) then
   some false
  else
   (vi steps t_.2 times k 0 s1.1 s1.2).bind fun z =>
   match z with
   | .inl l=>some l
   | .inr x =>
    ((uy k x.2 0).bind fun e =>
    (vP k e x.1.L).bind fun i =>
    (bif i then
     (wC k).bind fun j =>
     some j
    else
     some false)).bind fun t =>
    some t)
def w2 (x:zF)(i:List ze):Option (zt) :=
 (bif (Int.tmod x.Job 16) == 15 then
  some x.Raw
 else
  (yP x.Kind 0 1048576).bind fun t_ =>
  (mIdx ([1,1,1,2,3,4,5,5,5,6,7]:List Int) (Int.tmod t_ 11)).bind fun x1 =>
  (yP x.Queue 0 1048576).bind fun e =>
  ((bif (Int.tmod x.Data 4) != 0 then
   some (Int.tmod ((zt.mk x1 (Int.tmod e 2) (ze.mk 0 0) x.Time x.Data).Time) 30)
  else
   some ((zt.mk x1 (Int.tmod e 2) (ze.mk 0 0) x.Time x.Data).Time))).bind fun s =>
  ((bif decide ((i.length:Int) > 0) then
   (yP x.Job 0 (w64 ((i.length:Int) - 1))).bind fun j =>
   (mIdx i j).bind fun x2 =>
   some (x2.At,x2.Gen)
  else
   some (((zt.mk x1 (Int.tmod e 2) (ze.mk 0 0) x.Time x.Data).Job).At,((zt.mk x1 (Int.tmod e 2) (ze.mk 0 0) x.Time x.Data).Job).Gen))).bind fun s1 =>
  some (zt.mk ((zt.mk x1 (Int.tmod e 2) (ze.mk 0 0) x.Time x.Data).Kind) ((zt.mk x1 (Int.tmod e 2) (ze.mk 0 0) x.Time x.Data).Queue) (ze.mk s1.1 s1.2) s ((zt.mk x1 (Int.tmod e 2) (ze.mk 0 0) x.Time x.Data).Data)))
def yF (e:Int)(x1:Int)(m_:za)(l:List ze):Nat->Int->Int->Option (Int)
 | 0,_,_=>none
 | m+1,n,x =>
  (bif decide (x<x1) then
   ((mIdx l x).bind fun x2 =>
   (xG m_.t_ x2).bind fun i =>
   ((bif i.1.Queue == e then
    (vA m_.clock i.1.Time).bind fun j =>
    some j
   else
    some false)).bind fun s2 =>
   (bif s2 then
    some (w64 (n+1))
   else
    some n)).bind fun s1 =>
   yF e x1 m_ l m s1 (w64 (x+1))
  else
   some n)
def yc (k:Nat)(d:za)(queue:Int):Option (Int) :=
 (u5 k d.t_).bind fun t_ =>
 (yF queue (t_.length:Int) d t_ k 0 0).bind fun s =>
 some s
def vL (e:Int)(x1:Int):Nat->(List zt)->Int->Option ((List zt))
 | 0,_,_=>none
 | m+1,out,x =>
  (bif decide (x<x1) then
   (mApp out ([zt.mk 5 e (ze.mk 0 0) 0 0]:List zt)).bind fun l =>
   vL e x1 m l (w64 (x+1))
  else
   some out)
def uS (k:Nat)(queue:Int)(n:Int):Option ((List zt)) :=
 (vL queue (if (if 4096<n then 4096 else n) > 0 then (if 4096<n then 4096 else n) else 0) k ([]:List zt) 0).bind fun s =>
 some s
def yG (x1:Int)(l1:List zt):Nat->(List zr)->Int->za->Option ((List zr) × za)
 | 0,_,_,_=>none
 | m+1,out,x,m_ =>
  (bif decide (x<x1) then
   (mIdx l1 x).bind fun x2 =>
   (zW m m_ x2).bind fun t_ =>
   (mApp out ([t_.1]:List zr)).bind fun l2 =>
   yG x1 l1 m l2 (w64 (x+1)) t_.2
  else
   some (out,m_))
def yq (k:Nat)(d:za)(l:List zt):Option ((List zr) × za) :=
 (yG (l.length:Int) l k ([]:List zr) 0 d).bind fun s =>
 some (s.1,s.2)
def tE (k:Nat)(d:za):Option (Bool) :=
 ((yc k d 0).bind fun t_ =>
 (bif t_ == 0 then
  (yc k d 1).bind fun e =>
  some (e == 0)
 else
  some false)).bind fun s =>
 some s
def yX (j:zc)(l1:List zF):Nat->(List ze)->Int->za->Option (za)
 | 0,_,_,_=>none
 | m+1,told,i,m_ =>
  (bif (decide (i<(l1.length:Int))) && (decide (i<100)) then
   ((mIdx l1 i).bind fun x =>
   (w2 x told).bind fun l =>
   (zW m m_ l).bind fun e =>
   (bif (e.1.Why == 0) && (decide (e.1.Job.Gen > 0)) then
    (mApp told ([e.1.Job]:List ze)).bind fun l2 =>
    some (l2,e.2)
   else
    some (told,e.2))).bind fun s1 =>
   yX j l1 m s1.1 (w64 (i+1)) s1.2
  else
   some m_)
def yk (i:Int)(e:List zr)(j:za)(l:zc)(t:List zF):Nat->Int->Option ((Bool) ⊕ (Unit))
 | 0,_=>none
 | m+1,i2 =>
  (bif decide (i2<=i) then
   ((mIdx e i2).bind fun x8 =>
   (bif !((x8.Why == 0) == (decide (i2<i))) then
    some true
   else
    (bif decide (i2 > 0) then
     (bif decide (i2<i) then
      (mIdx e i2).bind fun x9 =>
      (mIdx e (w64 (i2 - 1))).bind fun x10 =>
      some (decide (x9.Time<x10.Time))
     else
      some false)
    else
     some false))).bind fun u =>
   (bif u then
    some (.inl false)
   else
    yk i e j l t m (w64 (i2+1)))
  else
   some (.inr ()))
def wI (k:Nat)(D:Int)(u:Int)(l:List zF):Option (Bool) :=
 (xm k D u).bind fun t_ =>
 (yX t_.2 l k ([]:List ze) 0 t_.1).bind fun s =>
 (yc k s 0).bind fun j =>
 (uS k 0 (w64 (j+1))).bind fun z =>
 (yq k s z).bind fun e =>
 (bif (e.1.length:Int) != (w64 (j+1)) then
  some false
 else
  (yk j e.1 e.2 t_.2 l k 0).bind fun s2 =>
  match s2 with
  | .inl y=>some y
  | .inr J =>
   (yc k e.2 1).bind fun t =>
   (uS k 1 (w64 (t+1))).bind fun A =>
   (yq k e.2 A).bind fun i =>
   (bif (i.1.length:Int) != (w64 (t+1)) then
    some false
   else
    (yk t i.1 i.2 t_.2 l k 0).bind fun F =>
    match F with
    | .inl y=>some y
    | .inr O =>
     ((tE k i.2).bind fun B =>
     (bif B then
      (wC k).bind fun x =>
      some x
     else
      some false)).bind fun I =>
     some I))
def yW (p:zk)(v_:Int):Option (ze × Bool × zk) :=
 ((bif decide ((p.Back.length:Int) > 0) then
  (mIdx p.Back (w64 ((p.Back.length:Int) - 1))).bind fun x =>
  (mCut p.Back 0 (w64 ((p.Back.length:Int) - 1))).bind fun l =>
  some (.inr (x,zk.mk p.Most p.Gens p.In p.V l))
 else
  (bif decide ((p.Gens.length:Int) >= p.Most) then
   some (.inl (ze.mk 0 0,false,p))
  else
   (mApp p.Gens ([0]:List Int)).bind fun l1 =>
   (mApp p.In ([false]:List Bool)).bind fun l2 =>
   (mApp p.V ([0]:List Int)).bind fun e =>
   some (.inr ((p.Gens.length:Int),zk.mk p.Most l1 l2 e p.Back)))):Option ((ze × Bool × zk) ⊕ (Int × zk))).bind fun s =>
 match s with
 | .inl i=>some i
 | .inr s1 =>
  (mIdx s1.2.Gens s1.1).bind fun x1 =>
  (mIdx s1.2.Gens s1.1).bind fun x2 =>
  (mIdx s1.2.In s1.1).bind fun x3 =>
  (mIdx s1.2.V s1.1).bind fun x4 =>
  (mIdx (mSet s1.2.Gens s1.1 (w64 (x1+1))) s1.1).bind fun x5 =>
  some (ze.mk s1.1 x5,true,zk.mk s1.2.Most (mSet s1.2.Gens s1.1 (w64 (x1+1))) (mSet s1.2.In s1.1 true) (mSet s1.2.V s1.1 v_) s1.2.Back)
def z8 (e:Int)(m_:zc):Nat->Int->Int->Option (Int)
 | 0,_,_=>none
 | m+1,j,i =>
  (bif decide (i<(m_.L.length:Int)) then
   (((mIdx m_.L i).bind fun x2 =>
   (bif x2.Queue == e then
    (bif decide (j<0) then
     some true
    else
     (mIdx m_.L i).bind fun x3 =>
     (mIdx m_.L j).bind fun x4 =>
     (vu x3.E x4.E).bind fun t_ =>
     some t_)
   else
    some false)).bind fun s2 =>
   (bif s2 then
    some i
   else
    some j)).bind fun s1 =>
   z8 e m_ m s1 (w64 (i+1))
  else
   some j)
def xj (k:Nat)(d:zc)(queue:Int):Option (Int) :=
 (z8 queue d k (-1) 0).bind fun s =>
 some s
def xR (p:zk)(r:ze):Option (Int) :=
 ((bif decide (r.At<0) then
  some true
 else
  (bif decide (r.At >= (p.Gens.length:Int)) then
   some true
  else
   (bif decide (r.Gen<1) then
    some true
   else
    (mIdx p.Gens r.At).bind fun x1 =>
    some (decide (r.Gen > x1)))))).bind fun s =>
 (bif s then
  some 22
 else
  ((mIdx p.Gens r.At).bind fun x4 =>
  (bif decide (r.Gen<x4) then
   some true
  else
   (mIdx p.In r.At).bind fun x5 =>
   some (!x5))).bind fun s1 =>
  (bif s1 then
   some 23
  else
   some 0))
def wH (p:zk)(r:ze):Option (Int × Int × zk) :=
 (xR p r).bind fun t_ =>
 (bif t_ != 0 then
  some (0,t_,p)
 else
  (mIdx p.In r.At).bind fun x =>
  (mApp ([]:List Int) p.Back).bind fun l =>
  (mApp l ([r.At]:List Int)).bind fun l1 =>
  (mIdx ((zk.mk p.Most p.Gens (mSet p.In r.At false) p.V l1).V) r.At).bind fun x1 =>
  some (x1,0,(zk.mk p.Most p.Gens (mSet p.In r.At false) p.V l1)))
def yV (d:zc)(e:Int):Option (zC × zc) :=
 (mIdx d.L e).bind fun x =>
 (mCut d.L 0 e).bind fun l =>
 (mCut d.L (w64 (e+1)) (d.L.length:Int)).bind fun l1 =>
 (mApp ([]:List zC) l).bind fun l2 =>
 (mApp l2 l1).bind fun i =>
 (wH d.Pool x.R).bind fun t_ =>
 some (x,zc.mk d.Most d.Now d.Next t_.2.2 i)
def yg (e:Int)(m_:zc):Nat->Int->Int->Option (Int)
 | 0,_,_=>none
 | m+1,n,i =>
  (bif decide (i<(m_.L.length:Int)) then
   ((mIdx m_.L i).bind fun x =>
   (bif x.Queue == e then
    some (w64 (n+1))
   else
    some n)).bind fun s1 =>
   yg e m_ m s1 (w64 (i+1))
  else
   some n)
def xi (k:Nat)(d:zc)(queue:Int):Option (Int) :=
 (yg queue d k 0 0).bind fun s =>
 some s
def yh:Nat->Int->Int->zc->Option (Int × zc)
 | 0,_,_,_=>none
 | m+1,n,i,m_ =>
  (bif decide (i<(m_.L.length:Int)) then
   ((mIdx m_.L i).bind fun x2 =>
   (bif x2.Queue == 1 then
    (mIdx m_.L i).bind fun x3 =>
    some (w64 (n+1),zc.mk m_.Most m_.Now m_.Next m_.Pool (mSet m_.L i (zC.mk 0 x3.Data x3.E x3.R)))
   else
    some (n,m_))).bind fun s2 =>
   yh m s2.1 (w64 (i+1)) s2.2
  else
   some (n,m_))
def zS (k:Nat)(d:zc)(e:zt):Option (zr × zc) :=
 (bif e.Kind == 1 then
  (yW d.Pool 0).bind fun t_ =>
  (bif !t_.2.1 then
   some (zr.mk 13 (ze.mk 0 0) 0 0 0,zc.mk d.Most d.Now d.Next t_.2.2 d.L)
  else
   (mApp ([]:List zC) d.L).bind fun l =>
   (mApp l ([zC.mk e.Queue e.Data (zi.mk e.Time d.Next) t_.1]:List zC)).bind fun l1 =>
   some (zr.mk 0 t_.1 e.Time e.Data 0,zc.mk ((zc.mk d.Most d.Now d.Next t_.2.2 l1).Most) ((zc.mk d.Most d.Now d.Next t_.2.2 l1).Now) (w64 (((zc.mk d.Most d.Now d.Next t_.2.2 l1).Next)+1)) ((zc.mk d.Most d.Now d.Next t_.2.2 l1).Pool) ((zc.mk d.Most d.Now d.Next t_.2.2 l1).L)))
 else
  (bif e.Kind == 5 then
   (xj k d e.Queue).bind fun j =>
   ((bif decide (j<0) then
    some true
   else
    (mIdx d.L j).bind fun x1 =>
    some (decide (x1.E.Key > d.Now)))).bind fun s =>
   (bif s then
    some (zr.mk 28 (ze.mk 0 0) 0 0 0,d)
   else
    (yV d j).bind fun i =>
    some (zr.mk 0 i.1.R i.1.E.Key i.1.Data 0,i.2))
  else
   (bif e.Kind == 6 then
    (bif e.Queue == 0 then
     some (zr.mk 25 (ze.mk 0 0) 0 0 0,d)
    else
     (yh k 0 0 d).bind fun s1 =>
     some (zr.mk 0 (ze.mk 0 0) 0 0 s1.1,s1.2))
   else
    (xi k d e.Queue).bind fun t =>
    some (zr.mk 0 (ze.mk 0 0) 0 0 t,d))))
def yo (v_:Int)(e:Int)(m_:zc):Nat->Int->Option ((Int × zc) ⊕ (Unit))
 | 0,_=>none
 | m+1,i =>
  (bif decide (i<(m_.L.length:Int)) then
   (mIdx m_.L i).bind fun x =>
   (bif ze.eq x.R (ze.mk v_ e) then
    some (.inl (i,m_))
   else
    yo v_ e m_ m (w64 (i+1)))
  else
   some (.inr ()))
def xv (k:Nat)(d:zc)(r:ze):Option (Int × zc) :=
 (yo r.At r.Gen d k 0).bind fun s =>
 match s with
 | .inl e=>some e
 | .inr s1 =>
  some ((-1),d)
def uN (a_:Int)(b:Int):Option (Int) :=
 (bif (decide (a_ > 0)) && (decide (b > w64 (9223372036854775807 - a_))) then
  some 9223372036854775807
 else
  (bif (decide (a_<0)) && (decide (b<w64 ((-9223372036854775808) - a_))) then
   some (-9223372036854775808)
  else
   some (w64 (a_+b))))
def zI (k:Nat)(d:zc)(i:zt):Option (zr × zc) :=
 (((bif i.Kind == 1 then
  some (i.Kind == 1)
 else
  (bif i.Kind == 5 then
   some (i.Kind == 5)
  else
   (bif i.Kind == 6 then
    some (i.Kind == 6)
   else
    some (i.Kind == 7))))).bind fun s2 =>
 (bif s2 then
  (bif (i.Queue != 0) && (i.Queue != 1) then
   some (.inl (zr.mk 1 (ze.mk 0 0) 0 0 0,d))
  else
   (zS k d i).bind fun t_ =>
   some (.inl (t_.1,t_.2)))
 else
  ((bif i.Kind == 2 then
   some (i.Kind == 2)
  else
   some (i.Kind == 3))).bind fun y =>
  (bif y then
   (xR d.Pool i.Job).bind fun l =>
   (bif l != 0 then
    some (.inl (zr.mk l (ze.mk 0 0) 0 0 0,d))
   else
    (xv k d i.Job).bind fun e =>
    (bif i.Kind == 3 then
     (yV e.2 e.1).bind fun j =>
     some (.inl (zr.mk 0 (ze.mk 0 0) j.1.E.Key j.1.Data 0,j.2))
    else
     (mIdx e.2.L e.1).bind fun x =>
     (bif decide (i.Time > x.E.Key) then
      some (.inl (zr.mk 26 (ze.mk 0 0) 0 0 0,e.2))
     else
      (mIdx e.2.L e.1).bind fun x1 =>
      (mIdx (mSet e.2.L e.1 (zC.mk x1.Queue x1.Data (zi.mk i.Time x1.E.Serial) x1.R)) e.1).bind fun x2 =>
      some (.inl (zr.mk 0 (ze.mk 0 0) i.Time x2.Data 0,zc.mk e.2.Most e.2.Now e.2.Next e.2.Pool (mSet e.2.L e.1 (zC.mk x1.Queue x1.Data (zi.mk i.Time x1.E.Serial) x1.R)))))))
  else
   (bif i.Kind == 4 then
    (bif decide (i.Time<0) then
     some (.inl (zr.mk 1 (ze.mk 0 0) 0 0 0,d))
    else
     (uN d.Now i.Time).bind fun t =>
     some (.inl (zr.mk 0 (ze.mk 0 0) t 0 0,zc.mk d.Most t d.Next d.Pool d.L)))
   else
    some (.inr ())))):Option ((zr × zc) ⊕ (Unit))).bind fun s =>
 match s with
 | .inl u=>some u
 | .inr s1 =>
  some (zr.mk 12 (ze.mk 0 0) 0 0 0,d)
def vK (e:Int)(x1:Int)(l:List zr)(m_:za):Nat->Int->Int->Option (Int)
 | 0,_,_=>none
 | m+1,n,x =>
  (bif decide (x<x1) then
   ((mIdx l x).bind fun x2 =>
   (bif x2.Why == 0 then
    some (w64 (n+1))
   else
    some n)).bind fun s1 =>
   vK e x1 l m_ m s1 (w64 (x+1))
  else
   some n)
def qd (k:Nat)(d:za)(queue:Int):Option (Int × Bool × za) :=
 (yc k d queue).bind fun t_ =>
 (uS k queue t_).bind fun i =>
 (yq k d i).bind fun e =>
 (vK queue (e.1.length:Int) e.1 e.2 k 0 0).bind fun s =>
 (yc k e.2 queue).bind fun j =>
 some (s,j == 0,e.2)
def xd (l:List Int)(l1:List Int):Nat->Int->za->zc->Option ((Bool) ⊕ (za × zc))
 | 0,_,_,_=>none
 | m+1,i,m_,e =>
  (bif (decide (i<(l.length:Int))) && (decide (i<10)) then
   (mIdx l i).bind fun x =>
   (zW m m_ (zt.mk 1 0 (ze.mk 0 0) x i)).bind fun j =>
   (zI m e (zt.mk 1 0 (ze.mk 0 0) x i)).bind fun t =>
   (bif !(zr.eq j.1 t.1) then
    some (.inl false)
   else
    xd l l1 m (w64 (i+1)) j.2 t.2)
  else
   some (.inr (m_,e)))
def xe (l2:List Int):Nat->Int->za->zc->Option ((Bool) ⊕ (za × zc))
 | 0,_,_,_=>none
 | m+1,i1,j,l =>
  (bif (decide (i1<(l2.length:Int))) && (decide (i1<10)) then
   (mIdx l2 i1).bind fun x1 =>
   (yp j).bind fun u =>
   ((zW m j (zt.mk 4 0 (ze.mk 0 0) x1 0)).bind fun e =>
   (zI m l (zt.mk 4 0 (ze.mk 0 0) x1 0)).bind fun i =>
   (bif !(zr.eq e.1 i.1) then
    some (true,e.2,i.2)
   else
    (yp e.2).bind fun x =>
    (bif decide (x<u) then
     some (true,e.2,i.2)
    else
     (yp e.2).bind fun y =>
     some (y != i.2.Now,e.2,i.2)))).bind fun t =>
   (bif t.1 then
    some (.inl false)
   else
    xe l2 m (w64 (i1+1)) t.2.1 t.2.2)
  else
   some (.inr (j,l)))
def wy (k:Nat)(y:Int)(steps:List Int)(times:List Int):Option (Bool) :=
 (xm k y 20).bind fun t_ =>
 (xd times steps k 0 t_.1 t_.2).bind fun s =>
 match s with
 | .inl t=>some t
 | .inr s1 =>
  (xe steps k 0 s1.1 s1.2).bind fun s2 =>
  match s2 with
  | .inl t=>some t
  | .inr x =>
   (zW k x.1 (zt.mk 4 0 (ze.mk 0 0) 9223372036854775807 0)).bind fun u =>
   (qd k u.2 0).bind fun e =>
   ((yp e.2.2).bind fun i =>
   (bif i == 9223372036854775807 then
    (bif e.1 == (x.2.L.length:Int) then
     (bif e.2.1 then
      (yZ e.2.2).bind fun j =>
      (bif j == 0 then
       (wC k).bind fun l =>
       some l
      else
       some false)
     else
      some false)
    else
     some false)
   else
    some false)).bind fun z =>
   some z
end
end Go.Proofs.YtojpmaakhdmhmaaGreat
