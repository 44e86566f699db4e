/-
  The statements TopScripts of the program.
  Text 2 of 9: of what the proof needs (a row of the program: no condition is left); put together and made narrow by a program.
-/
import Derived.Below
import Derived.Deep.Slices
import Derived.Deep.Strs
import Derived.Laws.BytesString
import Derived.Laws.Externs
import Derived.Lib.AppendZerosOnto
import Derived.Lib.Overlaps
import Derived.Lib.SmallJoins
import Derived.MapKept
import Derived.Sort.Grow
import Derived.Sort.Row
import Derived.Test.YtcepppmiplonfaaGreatYb1
set_option linter.unusedVariables false
set_option linter.unusedSimpArgs false
namespace Go.Th
noncomputable section
theorem St.below {w w':World}{As:List HP}(H:St w As w')(i:Nat)(hi:As[i]? = some (Old w)):Go.RowKit.Below w.heap.size w w':=by
 have j:=H.old i hi;refine⟨H.os,H.tape,H.output,?_,j⟩;by_cases l:w.heap.size=0
 ·omega
 ·have:=j (w.heap.size - 1) (by omega);have e:w.heap[w.heap.size - 1]? = some (w.heap[w.heap.size - 1]'(by omega)):=by simp
  rw[e] at this;have:=(Array.getElem?_eq_some_iff.1 this).1;omega
theorem bP {α:Type}{p:Nat -> α -> Prop}:∀ n:Nat,(∀ i,i<n -> ∃ x,p i x) -> ∃ l:List α,l.length=n /\ ∀ (i:Nat) (x:α),l[i]? = some x->p i x
 | 0,_=>⟨[],rfl,fun i x h=>by simp at h⟩
 | n+1,h=>by
  obtain⟨l,hl,hp⟩:=bP n fun i hi=>h i (by omega)
  obtain⟨x,u⟩:=h n (by omega);refine⟨l++[x],by simp[hl],fun i y e=>?_⟩;by_cases hi:i<n
  ·rw[List.getElem?_append_left (by omega)] at e;exact hp i y e
  ·have t:=(List.getElem?_eq_some_iff.1 e).1;simp[hl] at t;have j:i=n:=by omega
   subst j;rw[List.getElem?_append_right (by omega)] at e;simp[hl] at e;subst e;exact u
section
variable {α H:Type} {en:TypeId × Value->H} {P:Program} {w:World} {base:Nat} {spare:Nat->Bool} {held:Bool} {enc:α -> List Value} {sz:Nat}
theorem Dm (he:wg enc sz)(hs:0<sz){a:Addr}(l:List α)(h:∀ (j:Nat) (u:Value),(l.flatMap enc)[j]? = some u->w.cell? (a.add j)=some u):SlRd (Old w) enc sz (some a) l:=by
 intro g F;by_cases hl:l=[]
 ·exact .inl hl
 have e:=yB he l;have x:0<l.length:=by cases l with
  | nil=>exact absurd rfl hl
  | cons=>simp
 have hp:0<(l.flatMap enc).length:=by rw[e];exact Nat.mul_pos x hs
 have h0:=h 0 _ (List.getElem?_eq_getElem hp);have e0:a.add 0=a:=by simp[Addr.add]
 rw[e0] at h0;obtain⟨b,off,spot⟩:=a;unfold World.cell? at h0;split at h0
 ·rename_i c T fr y;split at h0
  ·cases h0
  ·rename_i B;have A:spot=none:=by simpa using B
   subst A;have z:b<w.heap.size:=(Array.getElem?_eq_some_iff.1 y).1;refine .inr ⟨b,off,c,T,fr,rfl,by rw[F b z];exact y,fun i hi=>?_⟩;have t:i<(l.flatMap enc).length:=by rw[e];exact hi
   have D:=h i _ (List.getElem?_eq_getElem t);rw[List.getElem?_eq_getElem t,<- D];unfold Addr.add;split
   ·rename_i I;subst I;simp[World.cell?,y]
   ·simp[World.cell?,y]
 ·cases h0
theorem Cf {t e:TypeId}{fuel:Nat}{cs:List Value}{x:DataW H × List MemPlace}(ht:P.underlying t=some (.slice e))(X:P.cellsOf e=sz)(he:wg enc sz)(hs:0<sz)
  (B:∀ n cs y,DataW.trod en P w base spare held n e cs=some y -> ∃ z:α,cs=enc z) (h:DataW.trod en P w base spare held fuel t cs=some x) :
  ∃ (sb:Option Addr) (len cap:Nat) (l:List α),cs=[.slice sb len cap]/\l.length=len/\len<=cap/\SlRd (Old w) enc sz sb l:=by
 rcases Go.Deep.open_slice ht h with ⟨rfl,_⟩|⟨a,len,cap,m,n,D,Z,rfl,hb,hl,hm,O,_,Y⟩
 ·exact⟨none,0,0,[],rfl,rfl,Nat.le_refl _,fun _ _=>.inl rfl⟩
 ·obtain⟨l,J,hp⟩:=bP (α:=α) (p:=fun i z=>w.cells? base (a.add (i*sz)) sz=some (enc z)) len fun i hi=>by
   obtain⟨W,h1,h2⟩:=Y i (by rw[O];split <;> omega);obtain⟨z,rfl⟩:=B _ _ _ h2;rw[X] at h1;exact⟨z,h1⟩
  refine⟨some a,len,cap,l,rfl,J,hl,Dm he hs l fun j u hu=>?_⟩;have F:=(List.getElem?_eq_some_iff.1 hu).1;rw[yB he] at F;have hj:j / sz<l.length:=Nat.div_lt_of_lt_mul (by rw[Nat.mul_comm];exact F);have hq:j % sz<sz:=Nat.mod_lt _ hs;have S:=sC he l (j / sz) (j % sz) hj hq;have U:j / sz*sz+j % sz=j:=by rw[Nat.mul_comm];exact Nat.div_add_mod j sz
  rw[U,hu] at S;have A:=hp (j / sz) l[j / sz] (by simp[hj]);obtain⟨_,_,I⟩:=World.cells?_some A;have:=I (j % sz) (by exact hq);rw[<- S] at this;rw[<- this];congr 1;rw[Go.Deep.add_add,U]
end
end
noncomputable section
theorem ag (A X R V:List Value)(h:V.length=X.length):putAt (A++(X++R)) A.length V=A++(V++R):=by
 rw[ta _ _ _ (by simp;omega)];rw[List.take_left' rfl,aA];congr 2;have:A.length+V.length=(A++X).length:=by simp[h]
 rw[this,<- aA,List.drop_left' rfl]
theorem oE (A X R V:List Value)(n:Nat)(hn:n=A.length)(h:V.length=X.length):putAt (A++(X++R)) n V=A++(V++R):=by
 subst hn;exact ag A X R V h
section
variable {w0 w:World} {As:List HP} {P:Program} {n:Nat} {a:Act} {L:Env} {o:Oper} {T:TypeId}
theorem Ci (H:St w0 As w)(i:Nat){b off:Nat}{cs news:List Value}(hi:As[i]? = some (Blk b T cs))(h:∀ (j:Nat) (u:Value),news[j]? = some u->cs[off+j]? = some u):Rd w (some ⟨b,off,none⟩) news:=by
 refine .inr ⟨_,rfl,fun j u hj=>?_⟩;rw[uF];exact H.cell i hi (h j u hj)
theorem OpTo.ik {b off i l e j sz:Nat}{J:Option Addr}{cs:List Value}(news:List Value){x y:Operand}{t u:TypeId}{I:TypeInfo}(O:zN n a L)(H:St w0 (Blk b T cs::As) w)
  (U:o.op = .call { callee:=.builtin .copy,args:=#[x,y],argTypes:=#[t,u] }) (Y:evO L x=some (.slice (some ⟨b,off,none⟩) i l)) (Z:evO L y=some (.slice J e j))
  (ht:P.underlying t=some (.slice T)) (hi:P.info? T=some I) (F:I.size=sz) (X:Rd w J news) (hl:news.length=Nat.min e i*sz) (h1:∀ v∈news,v.oneCell'=true) (z:off+news.length<=cs.length) :
  OpTo P o a w fun v w'=>(∃ k:Int,v = .int .i64 k)/\St w0 (Blk b T (putAt cs off news)::As) w':=by
 obtain⟨dst,op,type,pos,after,guard⟩:=o;simp only at U;subst U;have S:=H.one 0 rfl;have B:=run_storeCells_at P b off T news 0 cs.toArray w S (by simpa using z) h1;simp only[Nat.add_zero] at B;rw[ta _ _ _ z];have hf:=oF (P:=P) (size:=I.size) (m:=Nat.min e i) (len:=e) (cap:=j) X (by rw[hl,F]);have A:(Builtin.copy_ #[t,u] type #[.slice (some ⟨b,off,none⟩) i l,.slice J e j]).run P w = .ok (goInt (Nat.min e i)) (w.setRow b (cs.take off++news++cs.drop (off+news.length)).toArray):=by
  have D:Sem.run P (storeCells { block:=b,off:=off } news) w=Result.ok () (w.setRow b (List.take off cs++(news++List.drop (off+news.length) cs)).toArray):=by simpa using B
  simp[Builtin.copy_,xN P ht,Builtin.lenOf,qk P hi,hf,D]
 refine OpTo.of_run (w':=w.setRow b (cs.take off++news++cs.drop (off+news.length)).toArray) (v:=goInt (Nat.min e i)) ?_ ⟨⟨_,rfl⟩,?_⟩
 ·simp[execOp,resolve,invoke,builtin,O.eval Y,O.eval Z,A]
 ·exact H.set (by simp) (by simp) (by simp) (setRow_heap w b _ _ T (0,0) S) (fun c W=>setRow_other w b c _ W)
theorem OpTo.BX {sz k i j:Nat}{sb:Option Addr}(l:List Value){x y:Operand}{t tn:TypeId}{kn:IntKind}{u:TypeInfo}{z:Value}(hE:zN n a L)(H:St w0 As w)
  (ho:o.op = .call { callee:=.builtin .append,args:=#[x,y],argTypes:=#[t,tn] }) (hx:evO L x=some (.slice sb i j)) (hy:evO L y=some (.int .i64 (k:Int)))
  (ht:P.underlying t=some (.slice T)) (Y:P.underlying tn=some (.int kn)) (hi:P.info? T=some u) (F:u.size=sz) (hz:u.zero=some z) (a0:z.cells.size=sz) (hs:0<sz)
  (hr:Rd w sb l) (W:l.length=i*sz) (h0:0<k) (hg:j<i+k) (B:i+k<=1073741824) (I:Nat.ble u.bytes 131072=true) :
  OpTo P o a w fun v w'=>∃ (r c:Nat) (Z:List Value),v = .slice (some ⟨r,0,none⟩) (i+k) c/\i+k<=c/\c<=maxLen/\Z.length=(c - i)*sz/\St w0 (Blk r T (l++Z)::As) w':=by
 have A:=Nat.le_of_ble_eq_true I;obtain⟨dst,op,type,pos,after,guard⟩:=o;simp only at ho;subst ho;have X:Rd w.drew sb l:=by
  rcases hr with h|⟨xa,h1,h2⟩
  ·exact .inl h
  ·exact .inr ⟨xa,h1,by simpa using h2⟩
 have O:=oF (P:=P) (size:=u.size) (m:=i) (len:=i) (cap:=j) X (by rw[W,F]);have S:k*u.bytes<=281474976710656:=by
  calc k*u.bytes<=1073741824*131072:=Nat.mul_le_mul (by omega) A
   _<=281474976710656:=by decide
 have U:Builtin.nextslicecap (i+k) j*u.bytes<=281474976710656:=by
  refine growslice_fits (need:=i+k) (old:=j) (by omega) ?_
  calc (i+k)*u.bytes<=1073741824*131072:=Nat.mul_le_mul B A
   _<=140737488355328:=by decide
 have D:=Go.Lib.run_append_grow_zeros (P:=P) w t tn type T u z .i64 kn ht Y hi hz sb i j l O k h0 (by rw[F];exact hs) hg (by omega) S U;have a6:=grownCap_ge w (i+k) j T;have J:=grownCap_le_maxLen w (i+k) j T (by unfold maxLen;omega);refine OpTo.of_run (w':=w.drew.alloc (.cells (l.toArray++Builtin.zeroCells z.cells k++Builtin.zeroCells z.cells (grownCap w (i+k) j T - (i+k))) T (0,0))) ?_
  ⟨w.heap.size,grownCap w (i+k) j T,(Builtin.zeroCells z.cells k++Builtin.zeroCells z.cells (grownCap w (i+k) j T - (i+k))).toList,rfl,by omega,J,?_,?_⟩
 ·simp[execOp,resolve,invoke,builtin,hE.eval hx,hE.eval hy,D]
 ·simp only[Array.length_toList,Array.size_append,size_zeroCells,a0,<- Nat.add_mul];congr 1;omega
 ·have H2:=(H.drew).alloc (.cells (l.toArray++Builtin.zeroCells z.cells k++Builtin.zeroCells z.cells (grownCap w (i+k) j T - (i+k))) T (0,0));refine H2.head fun h hh=>?_
  have e:(l++(Builtin.zeroCells z.cells k++Builtin.zeroCells z.cells (grownCap w (i+k) j T - (i+k))).toList).toArray=l.toArray++Builtin.zeroCells z.cells k++Builtin.zeroCells z.cells (grownCap w (i+k) j T - (i+k)):=by
   apply Array.ext';simp[aA]
  show h _=_;rw[e];exact hh
theorem OpTo.cj {g va vo la ca b off lb cb:Nat}{cv cs:Array Value}{Tv Ts:TypeId}{xs:List Operand}{fn:Func}{tS tR e:TypeId}{ti:TypeInfo}(hE:zN n a L)(H:St w0 As w)(i j:Nat)
  (hi:As[i]? = some (One va (.cells cv Tv (0,0)))) (hj:As[j]? = some (One b (.cells cs Ts (0,0)))) (hne:va≠b) (hcs:cs.size≠0)
  (ho:callParts o.op=some (.func g,xs)) (hxs:nG L xs=some [.slice (some ⟨va,vo,none⟩) la ca,.slice (some ⟨b,off,none⟩) lb cb])
  (hf : P.funcs[g]? = some fn) (hname : (fn.name == "runtime.NumGoroutine") = false) (hb : fn.body.isNone = true) (hn : Extern.findNext fn = none) (he : Extern.find fn = some (Extern.SlicesOverlaps.overlaps #[tS, tS] #[tR]))
  (ht:P.underlying tS=some (.slice e)) (hz:P.info? e=some ti):OpTo P o a w fun v w'=>v = .bool false/\w'=w:=by
 obtain⟨dst,op,type,pos,after,guard⟩:=o;cases op <;> simp only[callParts] at ho <;> try cases ho
 rename_i c;obtain⟨callee,args,ats⟩:=c;cases callee <;> simp only at ho <;> try cases ho
 have h1:=H.one i hi;have h2:=H.one j hj;have hov:=Go.Lib.run_overlaps_apart (P:=P) w tS tR e ht ti.size (qk P hz) ⟨va,vo,none⟩ ⟨b,off,none⟩ la ca lb cb hne Tv Ts cv.size cs.size (by simp[World.shape?,h1]) (by simp[World.shape?,h2]) hcs (by simp[World.frozen?,h1]) (by simp[World.frozen?,h1]);have hcall:=run_callFunc_extern hf hname hb hn he #[.slice (some ⟨va,vo,none⟩) la ca,.slice (some ⟨b,off,none⟩) lb cb] w;rw[hov] at hcall;have e2:=lS hE _ _ hxs;have e3:args.map a.eval = #[.slice (some ⟨va,vo,none⟩) la ca,.slice (some ⟨b,off,none⟩) lb cb]:=by
  apply Array.ext';simpa using e2
 refine OpTo.of_run (w':=w) (v:=.bool false) ?_ ⟨rfl,rfl⟩;have hfe:a.eval (.func g) = .func (.func g) #[] #[]:=rfl;simp[execOp,resolve,Deferred.ofValue,hfe,invoke,e3,hcall,Result.andThen]
end
theorem St.eu {α:Type}{T:TypeId}{enc:α -> List Value}{sz:Nat}{w0 w:World}{As:List HP}{sb:Option Addr}{sc:Nat}{l:List α}(H:St w0 (Sl T enc sz sb sc l::As) w)(he:wg enc sz)(hl:0<l.length) :
  ∃ (b off:Nat) (A R:List Value),sb=some ⟨b,off,none⟩/\A.length=off/\l.length<=sc/\sc<=maxLen/\(sc - l.length)*sz<=R.length/\St w0 (Blk b T (A++(l.flatMap enc++R))::As) w:=by
 rcases H.gW with ⟨_,rfl,_⟩|⟨b,off,cs,rfl,H1,h1,h2,h3,h4⟩
 ·simp at hl
 ·have t:=yB he l;have hmul:l.length*sz<=sc*sz:=Nat.mul_le_mul_right _ h1;refine⟨b,off,cs.toList.take off,cs.toList.drop (off+l.length*sz),rfl,by simp;omega,h1,h2,?_,?_⟩
  ·simp only[List.length_drop,Array.length_toList,Nat.sub_mul];omega
  ·refine H1.head fun h hh=>?_
   have e:cs.toList.take off++(l.flatMap enc++cs.toList.drop (off+l.length*sz))=cs.toList:=by
    have j:(cs.toList.drop off).take (l.length*sz)=l.flatMap enc:=by
     apply List.ext_getElem?;intro i;by_cases hi:i<l.length*sz
     ·rw[List.getElem?_take,if_pos hi,List.getElem?_drop,<- h4 i hi];simp
     ·rw[List.getElem?_eq_none (by simp;omega),List.getElem?_eq_none (by omega)]
    rw[<- j,<- List.drop_drop,List.take_append_drop,List.take_append_drop]
   show h b=_;rw[e];have:h b=some (.cells cs T (0,0)):=hh;simpa using this
theorem St.Bg {α:Type}{T:TypeId}{enc:α -> List Value}{sz:Nat}{w0 w:World}{As:List HP}{b sc:Nat}{l:List α}{A R:List Value}(H:St w0 (Blk b T (A++(l.flatMap enc++R))::As) w)(he:wg enc sz)(h1:l.length<=sc)(h2:sc<=maxLen)(h3:(sc - l.length)*sz<=R.length) :
  St w0 (Sl T enc sz (some ⟨b,A.length,none⟩) sc l::As) w:=by
 have e:=yB he l;have hmul:l.length*sz<=sc*sz:=Nat.mul_le_mul_right _ h1;rw[Nat.sub_mul] at h3;refine H.head fun h hh=>.inr ⟨b,A.length,_,rfl,hh,h1,h2,by simp[e];omega,fun i hi=>?_⟩
 simp only[List.getElem?_toArray];rw[List.getElem?_append_right (by omega),Nat.add_sub_cancel_left,List.getElem?_append_left (by rw[e];exact hi)]
end
end Go.Th
noncomputable section
namespace Go.Th
end Go.Th
end
namespace Go.Th
noncomputable section
section
variable {w0 w:World} {As:List HP} {P:Program} {n:Nat} {a:Act} {L:Env} {o:Oper} {T:TypeId}
end
end
noncomputable section
@[reducible] def catE:Env->Env->Env
 | [],L=>L
 | p::r,L=>p::catE r L
def Ao:Env->List Nat
 | []=>[]
 | (t,_)::r=>t::Ao r
def hasK (t:Nat):Env->Bool
 | []=>false
 | (u,_)::r=>match Nat.beq t u with
  | true=>true
  | false=>hasK t r
def mY (ops:Array Oper)(new L:Env):List Nat->Bool
 | []=>true
 | i::is=>match ops[i]? with
  | none=>mY ops new L is
  | some o=>match o.dst with
   | none=>mY ops new L is
   | some d=>match hasK d new with
    | true=>mY ops new L is
    | false=>match hasK d L with
     | true=>false
     | false=>mY ops new L is
def segD (P:Program)(n:Nat)(ops:Array Oper)(is:List Nat)(L:Env)(e:List Value)(new:Env):Option (Env × List Ob) :=
 match mY ops new L is with
 | false=>none
 | true=>kv P n ops is L e (Ao new)
theorem dd:∀ (new L:Env) (t:Nat) (v:Value),look t (catE new L)=some v->(look t new=some v) \/ (hasK t new=false/\look t L=some v)
 | [],L,t,v,h=>Or.inr ⟨rfl,h⟩
 | (u,x)::r,L,t,v,h=>by
  rw[catE,vH] at h;split at h
  ·subst_vars
   left
   rw[vH,if_pos rfl];exact h
  ·rename_i e;rcases dd r L t v h with h1|⟨h1,h2⟩
   ·left;rw[vH,if_neg e];exact h1
   ·right
    refine⟨?_,h2⟩;simp only[hasK];split
    ·rename_i i;exact absurd (Nat.eq_of_beq_eq_true i) e
    ·exact h1
theorem iF:∀ (L:Env) (t:Nat) (v:Value),look t L=some v->hasK t L=true
 | [],t,v,h=>by cases h
 | (u,x)::r,t,v,h=>by
  simp only[look] at h;simp only[hasK];split at h
  ·rename_i e;first|rfl|rw[e]
  ·rename_i e;first|exact iF r t v h|(rw[e];exact iF r t v h)
theorem lP {ops:Array Oper}{new L:Env}:∀ {is:List Nat},mY ops new L is=true -> ∀ i∈is,∀ o d,ops[i]? = some o->o.dst=some d->hasK d new=true \/ hasK d L=false
 | [],_,i,hi,_,_,_,_=>by cases hi
 | j::is,h,i,hi,o,d,e,hd=>by
  simp only[mY] at h;rcases List.mem_cons.1 hi with rfl|hi
  ·rw[e] at h;simp only[hd] at h;cases h1:hasK d new
   ·rw[h1] at h;simp only at h;cases h2:hasK d L
    ·exact Or.inr rfl
    ·rw[h2] at h;cases h
   ·exact Or.inl rfl
  ·have l:mY ops new L is=true:=by
    repeat' split at h
    all_goals first|exact h|cases h
   exact lP l i hi o d e hd
theorem gS {n:Nat}{d:Option Tmp}{v:Value}{L L1:Env}{t:Nat}(h:setE n d v L=some L1)(hd:d≠some t):look t L1=look t L:=by
 unfold setE at h;split at h
 ·cases h;rfl
 ·split at h
  ·cases h;rw[vH,if_neg (fun e=>hd (by rw[e]))]
  ·cases h
theorem mz {P:Program}{n:Nat}{ops:Array Oper}{t:Nat}:∀ (is:List Nat) (L:Env) (e:List Value) (L1:Env) (obs:List Ob),oX P n ops is L e=some (L1,obs)->(∀ i∈is,∀ o,ops[i]? = some o->o.dst≠some t)->look t L1=look t L
 | [],L,e,L1,obs,h,_=>by simp[oX] at h;rw[h.1]
 | i::is,L,e,L1,obs,h,hd=>by
  have l:∀ j∈is,∀ o,ops[j]? = some o->o.dst≠some t:=fun j hj=>hd j (mC _ hj)
  rw[oX] at h;split at h
  ·cases h
  ·rename_i o y;have u:=hd i (List.mem_cons_self ..) o y;split at h
   ·cases h
   ·split at h
    ·rename_i L2 hs;rw[mz is L2 e L1 obs h l,gS hs u]
    ·cases h
   ·split at h
    ·cases h
    ·split at h
     ·cases h
     ·rename_i L2 hs;split at h
      ·rename_i z x h3;cases h;rw[mz is L2 _ _ _ h3 l,gS hs u]
      ·cases h
theorem zN.cat {n:Nat}{a:Act}{L1 L new:Env}(h:zN n a L1)(hs:Th.sel (Ao new) L1=some new)(hk:∀ t,hasK t new=false->hasK t L=true->look t L1=look t L):zN n a (catE new L):=by
 have h2:=qK h hs;refine⟨h.size,h.defers,fun t v hv=>?_⟩;rcases dd new L t v hv with h1|⟨h1,h3⟩
 ·exact h2.has t v h1
 ·exact h.has t v (by rw[hk t h1 (iF L t v h3)];exact h3)
section
variable {P:Program} {f:FuncId} {k:List Item} {a:Act} {w:World} {R:Value->World->Prop}
theorem az {P:Program}{n:Nat}{ops:Array Oper}{is:List Nat}{L new:Env}{j:List Value}{obs:List Ob}(he:segD P n ops is L j new=some (new,obs)) :
  ∃ L1,oX P n ops is L j=some (L1,obs) /\ ∀ a:Act,zN n a L1->zN n a (catE new L):=by
 unfold segD at he;split at he
 ·cases he
 ·rename_i hd;unfold kv at he;split at he
  ·cases he
  ·rename_i L1 u hs;split at he
   ·rename_i x l;cases he;refine⟨L1,hs,fun a ha=>ha.cat l fun t h1 h2=>mz is L j L1 _ hs fun i hi o y e=>?_⟩;rcases lP hd i hi o t y e with h3|h3
    ·rw[h1] at h3;cases h3
    ·rw[h2] at h3;cases h3
   ·cases he
theorem WR.d {ops:Array Oper}{i n:Nat}{L:Env}(x:zN n a L)(j:Nat)(l:List Value)(new:Env){obs:List Ob}(y:wm w obs)(hk:∀ a',zN n a' (catE new L)->WR P f ops j k a' w R)
  (hj:(Nat.ble i j && Nat.ble j ops.size)=true:=by rfl) (he:segD P n ops (List.range' i (j - i)) L l new=some (new,obs):=by kernel_rfl):WR P f ops i k a w R:=by
 obtain⟨L1,hs,hn⟩:=az he;simp only[Bool.and_eq_true] at hj;have h1:=Nat.le_of_ble_eq_true hj.1;have h2:=Nat.le_of_ble_eq_true hj.2;unfold WR;have z:List.range' i (ops.size - i)=List.range' i (j - i)++List.range' j (ops.size - j):=by
  have t:ops.size - i=(j - i)+(ops.size - j):=by omega
  have u:i+(j - i)=j:=by omega
  rw[t,<- List.range'_append_1,u]
 rw[z];exact lT _ _ _ _ _ _ x hs y fun a' e=>hk a' (hn a' e)
theorem WR.d0 {ops:Array Oper}{i n:Nat}{L:Env}(e:zN n a L)(j:Nat)(new:Env)(hk:∀ a',zN n a' (catE new L)->WR P f ops j k a' w R)
  (hj:(Nat.ble i j && Nat.ble j ops.size)=true:=by rfl) (he:segD P n ops (List.range' i (j - i)) L [] new=some (new,[]):=by kernel_rfl):WR P f ops i k a w R:=WR.d e j [] new (obs:=[]) trivial hk hj he
theorem WR.e {ops:Array Oper}{i n:Nat}{L:Env}(t:zN n a L)(j:List Value)(new:Env){obs:List Ob}(u:wm w obs)(hk:∀ a',zN n a' (catE new L)->Runs P f k a' w R)
  (hj:Nat.ble i ops.size=true:=by rfl) (he:segD P n ops (List.range' i (ops.size - i)) L j new=some (new,obs):=by kernel_rfl):WR P f ops i k a w R :=
 WR.d t ops.size j new u (fun a' l=>WR.done (Nat.ble_eq_true_of_le (Nat.le_refl _)) (hk a' l)) (by rw[hj];exact Nat.ble_eq_true_of_le (Nat.le_refl _)) he
theorem WR.e0 {ops:Array Oper}{i n:Nat}{L:Env}(j:zN n a L)(new:Env)(hk:∀ a',zN n a' (catE new L)->Runs P f k a' w R)
  (hj:Nat.ble i ops.size=true:=by rfl) (he:segD P n ops (List.range' i (ops.size - i)) L [] new=some (new,[]):=by kernel_rfl):WR P f ops i k a w R:=WR.e j [] new (obs:=[]) trivial hk hj he
theorem Runs.sr {id:Nat}{ops:Array Oper}{y:Code}(h:WR P f ops 0 (.code y::k) a w R):Runs P f (.code (.seq (.region id ops false) y)::k) a w R:=Runs.seq (Runs.region h)
theorem WQ.d {ops:Array Oper}{dn:List Nat}{pend:List (Nat × List Ob)}{n:Nat}{L:Env}(l:zN n a L)(is:List Nat)(i:List Value)(new:Env){obs:List Ob}(t:wm w obs)
  (hk:∀ a',zN n a' (catE new L)->WQ P f ops (dn++is) (segP P n ops is L i pend) k a' w R)
  (ht:(Nat.ble (dn.length+is.length) ops.size && iX ops is (uI dn))=true:=by kernel_rfl) (he:segD P n ops is L i new=some (new,obs):=by kernel_rfl):WQ P f ops dn pend k a w R:=by
 obtain⟨L1,hs,hn⟩:=az he;simp only[Bool.and_eq_true] at ht;have hle:=Nat.le_of_ble_eq_true ht.1;have e:ops.size - dn.length=is.length+(ops.size - (dn++is).length):=by simp;omega
 unfold WQ;rw[e];intro hs';exact WP.segs hs' _ _ _ _ _ _ _ _ _ _ l (fun x=>ur x dn) ht.2 hs t fun a' j=>hk a' (hn a' j) hs'
theorem WQ.d0 {ops:Array Oper}{dn:List Nat}{pend:List (Nat × List Ob)}{n:Nat}{L:Env}(e:zN n a L)(is:List Nat)(new:Env)
  (hk:∀ a',zN n a' (catE new L)->WQ P f ops (dn++is) (segP P n ops is L [] pend) k a' w R)
  (ht:(Nat.ble (dn.length+is.length) ops.size && iX ops is (uI dn))=true:=by kernel_rfl) (he:segD P n ops is L [] new=some (new,[]):=by kernel_rfl):WQ P f ops dn pend k a w R:=WQ.d e is [] new (obs:=[]) trivial hk ht he
end
end
noncomputable section
section
variable {α H:Type} {en:TypeId × Value->H} {P:Program} {w:World} {base:Nat} {spare:Nat->Bool} {held:Bool} {enc:α -> List Value} {sz:Nat}
end
end
noncomputable section
section
variable {K V:Type}
def mGet (eq:K->K->Bool)(k:K):List (K × V)->Option V
 | []=>none
 | p::m=>bif eq k p.1 then some p.2 else mGet eq k m
def mPut (eq:K->K->Bool)(k:K)(v:V):List (K × V)->List (K × V)
 | []=>[(k,v)]
 | p::m=>bif eq k p.1 then (k,v)::m else p::mPut eq k v m
def mDel (eq:K->K->Bool)(k:K):List (K × V)->List (K × V)
 | []=>[]
 | p::m=>bif eq k p.1 then m else p::mDel eq k m
def qZ (eq:K->K->Bool)(k:K)(z:V)(m:List (K × V)):Option (V × Bool):=some (match mGet eq k m with
 | some v=>(v,true)
 | none=>(z,false))
def mAt (eq:K->K->Bool)(k:K):List K->Nat->Option Nat
 | [],_=>none
 | a::ks,i=>bif eq k a then some i else mAt eq k ks (i+1)
theorem bR (eq:K->K->Bool)(k:K):∀ (ks:List K) (i j:Nat),mAt eq k ks i=some j->i<=j
 | [],i,j,h=>by simp[mAt] at h
 | a::ks,i,j,h=>by
  simp only[mAt] at h;cases he:eq k a <;> simp[he] at h
  ·have:=bR eq k ks (i+1) j h;omega
  ·omega
theorem bT (eq:K->K->Bool)(k:K):∀ (m:List (K × V)) (i:Nat),
  (mAt eq k (m.map (·.1)) i=none/\mGet eq k m=none/\(∀ v,mPut eq k v m=m++[(k,v)])/\mDel eq k m=m) \/
  ∃ j p,mAt eq k (m.map (·.1)) i=some (i+j)/\m[j]? = some p/\eq k p.1=true/\mGet eq k m=some p.2/\(∀ v,mPut eq k v m=m.set j (k,v))/\mDel eq k m=m.eraseIdx j
 | [],i=>.inl ⟨rfl,rfl,fun _=>rfl,rfl⟩
 | p::m,i=>by
  cases he:eq k p.1
  ·rcases bT eq k m (i+1) with ⟨h1,h2,h3,h4⟩|⟨j,q,h1,h2,h3,h4,e,l⟩
   ·exact .inl ⟨by simp[mAt,he,h1],by simp[mGet,he,h2],fun v=>by simp[mPut,he,h3],by simp[mDel,he,h4]⟩
   ·refine .inr ⟨j+1,q,?_,by simpa using h2,h3,by simp[mGet,he,h4],fun v=>by simp[mPut,he,e],by simp[mDel,he,l]⟩;simp[mAt,he,h1];omega
  ·exact .inr ⟨0,p,by simp[mAt,he],rfl,he,by simp[mGet,he],fun v=>by simp[mPut,he],by simp[mDel,he]⟩
structure qv (P:Program) (kt:TypeId) (ek:K->Value) (eq:K->K->Bool):Prop where
 check:∀ (w:World) em k,(Instr.checkKey em 10000 kt (ek k)).run P w = .ok () w
 find:∀ (w:World) k (es:List MapEntry) (ks:List K),es.map (·.key)=ks.map ek->(Instr.findKey kt (ek k) es).run P w = .ok ((mAt eq k ks 0).bind fun j=>(es[j]?).map fun e=>(j,e.val)) w
 stays:∀ (w:World) k,(Instr.keyThatStays (ek k) (ek k)).run P w = .ok (ek k) w
 same:∀ a b,eq a b=true->a=b
end
def kI (a b:Int):Bool:=a == b
theorem jH (k:Int):∀ (es:List MapEntry) (ks:List Int) (i:Nat),es.map (·.key)=ks.map vI->Instr.findNow (.int .i64) (vI k) es i=some ((mAt kI k ks i).bind fun j=>(es[j - i]?).map fun e=>(j,e.val))
 | [],[],i,_=>by simp[Instr.findNow,mAt]
 | [],_::_,i,h=>by simp at h
 | _::_,[],i,h=>by simp at h
 | e::es,a::ks,i,h=>by
  simp only[pC,List.cons.injEq] at h;have ih:=jH k es ks (i+1) h.2;simp only[Instr.findNow,h.1,vI,Instr.sameNow,if_true,mAt,kI];cases hk:(k == a)
  ·simp only[cF];simp only[vI] at ih;rw[ih];cases hm:mAt kI k ks (i+1) with
   | none=>rfl
   | some j =>
    have hj:=bR _ _ _ _ _ hm;have l:j - i=(j - (i+1))+1:=by omega
    simp[l]
  ·simp
theorem qv.int {P:Program}{kt:TypeId}(h:P.underlying kt=some (.int .i64)):qv P kt vI kI where
 check:=fun w em k=>Go.MapKept.run_checkKey h (show Go.MapKept.IsKey (.int .i64) (vI k) from rfl) em 9999
 find:=fun w k es ks he=>Go.MapKept.run_findKey h (by simpa using jH k es ks 0 he)
 stays:=fun w k=>Go.MapKept.run_keyThatStays (d:=.int .i64) (show Go.MapKept.IsKey (.int .i64) (vI k) from rfl)
 same:=fun a b h=>by simpa[kI] using h
section
variable {K V:Type} {P:Program} {ek:K->Value} {eq:K->K->Bool} {kt:TypeId}
theorem nH (he:∀ (w:World) a b,(Op.equal kt (ek a) (ek b)).run P w = .ok (eq a b) w)(w:World)(k:K):∀ (es:List MapEntry) (ks:List K) (i:Nat),es.map (·.key)=ks.map ek ->
  (Instr.findAsking kt (ek k) es i).run P w = .ok ((mAt eq k ks i).bind fun j=>(es[j - i]?).map fun e=>(j,e.val)) w
 | [],[],i,_=>by simp[Instr.findAsking,mAt]
 | [],_::_,i,h=>by simp at h
 | _::_,[],i,h=>by simp at h
 | e::es,a::ks,i,h=>by
  simp only[pC,List.cons.injEq] at h;have ih:=nH he w k es ks (i+1) h.2;simp only[Instr.findAsking,Sem.run_bind,h.1,he,Result.andThen_ok,mAt];cases hk:eq k a
  ·simp only[cF,Bool.false_eq_true,if_false,ih];cases hm:mAt eq k ks (i+1) with
   | none=>rfl
   | some j =>
    have hj:=bR _ _ _ _ _ hm;have l:j - i=(j - (i+1))+1:=by omega
    simp[l]
  ·simp
theorem qv.struct {fs:Array Field}(h:P.underlying kt=some (.struct fs))(l:∀ (w:World) em k,(Instr.checkKey em 10000 kt (ek k)).run P w = .ok () w)
  (he:∀ (w:World) a b,(Op.equal kt (ek a) (ek b)).run P w = .ok (eq a b) w) (hs:∀ k,Instr.sameBits 10000 (ek k) (ek k)=true) (hq:∀ a b,eq a b=true->a=b):qv P kt ek eq where
 check:=l
 find:=fun w k es ks i=>by
  have hf:=nH he w k es ks 0 i;have j:(Instr.findKey kt (ek k) es).run P w=(Instr.findAsking kt (ek k) es).run P w:=by
   cases es with
   | nil=>simp[Instr.findKey,xN P h,Instr.findNow,Instr.findAsking]
   | cons e es=>simp[Instr.findKey,xN P h,Instr.findNow,Instr.sameNow]
  rw[j];simpa using hf
 stays:=fun w k=>by simp[Instr.keyThatStays,hs]
 same:=hq
theorem nj {fs:Array Field}{cs:Array Value}(n:Nat)(h:P.underlying kt=some (.struct fs))(w:World)(em:Bool)
  (hf : ∀ f ∈ fs.toList, f.name ≠ "_" /\ ∃ v, (part f.type cs f.offset).run P w = .ok v w /\ (Instr.checkKey em n f.type v).run P w = .ok () w) : (Instr.checkKey em (n + 1) kt (.agg cs)).run P w = .ok () w := by
 rw[Instr.checkKey];simp only[Sem.run_bind,xN P h,Result.andThen_ok];rw[<- Array.forIn_toList];generalize fs.toList=L at hf;induction L with
 | nil=>simp
 | cons f L ih =>
  obtain⟨hn,v,p1,p2⟩:=hf f (by simp);simp only[List.forIn_cons,Sem.run_bind,hn,ne_eq,not_false_eq_true,if_true,Result.andThen_ok,p1,p2,Sem.run_pure];exact ih fun y hy=>hf y (by simp[hy])
theorem pD (n:Nat)(h:P.underlying kt=some (.int .i64))(w:World)(em:Bool)(x:Int):(Instr.checkKey em (n+1) kt (.int .i64 x)).run P w = .ok () w :=
 Go.MapKept.run_checkKey h (show Go.MapKept.IsKey (.int .i64) (.int .i64 x) from rfl) em n
theorem CQ {P : Program} {cs : Array Value} {w : World} {em : Bool} {n : Nat} {Ls : List Field} (h : Ls = []) : ∀ f ∈ Ls, f.name ≠ "_" /\ ∃ v, (part f.type cs f.offset).run P w = .ok v w /\ (Instr.checkKey em n f.type v).run P w = .ok () w := by
 subst h;intro f hf;cases hf
theorem bj {P : Program} {cs : Array Value} {w : World} {em : Bool} {n : Nat} {Ls fs : List Field} {f : Field} {v : Value} (hL : Ls = f :: fs) (hn : (f.name == "_") = false) (p : (part f.type cs f.offset).run P w = .ok v w) (c : (Instr.checkKey em n f.type v).run P w = .ok () w)
  (r : ∀ g ∈ fs, g.name ≠ "_" /\ ∃ v, (part g.type cs g.offset).run P w = .ok v w /\ (Instr.checkKey em n g.type v).run P w = .ok () w) : ∀ g ∈ Ls, g.name ≠ "_" /\ ∃ v, (part g.type cs g.offset).run P w = .ok v w /\ (Instr.checkKey em n g.type v).run P w = .ok () w := by
 subst hL;intro g hg;rcases List.mem_cons.1 hg with rfl|hg
 ·exact⟨by simpa using hn,v,p,c⟩
 ·exact r g hg
def MpA (r:Nat)(ek:K->Value)(ev:V->Value)(m:List (K × V)):HP:=fun h=>∃ x:Array MapEntry × Nat,One r (.map x.1 x.2) h/\x.1.toList.map (fun e=>(e.key,e.val))=m.map fun p=>(ek p.1,ev p.2)
variable {ev:V->Value} {w w0:World} {As:List HP} {n r:Nat} {L:Env} {o:Oper} {a:Act} {m:List (K × V)} {k:K}
theorem MpA.keys {es:List MapEntry}{m:List (K × V)}(h:es.map (fun e=>(e.key,e.val))=m.map fun p=>(ek p.1,ev p.2)):es.map (·.key)=(m.map (·.1)).map ek:=by
 have:=congrArg (List.map Prod.fst) h;simp only[List.map_map] at this;rw[List.map_map];exact this
theorem MpA.get {es:List MapEntry}{m:List (K × V)}(h:es.map (fun e=>(e.key,e.val))=m.map fun p=>(ek p.1,ev p.2)){j:Nat}{p:K × V}(hj:m[j]? = some p):∃ e,es[j]? = some e/\e.key=ek p.1/\e.val=ev p.2:=by
 have h2:=congrArg (fun l=>l[j]?) h;simp only[List.getElem?_map,hj,Option.map_some] at h2;cases he:es[j]? with
 | none=>rw[he] at h2;simp at h2
 | some e=>rw[he] at h2;simp at h2;exact⟨e,rfl,h2.1,h2.2⟩
theorem qv.found (hk:qv P kt ek eq)(w:World)(k:K){es:List MapEntry}{m:List (K × V)}(h:es.map (fun e=>(e.key,e.val))=m.map fun p=>(ek p.1,ev p.2)) :
  ((Instr.findKey kt (ek k) es).run P w = .ok none w/\mGet eq k m=none/\(∀ v,mPut eq k v m=m++[(k,v)])/\mDel eq k m=m) \/
  ∃ j e v,(Instr.findKey kt (ek k) es).run P w = .ok (some (j,ev v)) w/\es[j]? = some e/\e.key=ek k/\mGet eq k m=some v/\(∀ v,mPut eq k v m=m.set j (k,v))/\mDel eq k m=m.eraseIdx j:=by
 have hf:=hk.find w k es _ (MpA.keys h);rcases bT eq k m 0 with ⟨h1,h2,h3,h4⟩|⟨j,p,h1,h2,h3,h4,u,x⟩
 ·left;rw[h1] at hf;exact⟨hf,h2,h3,h4⟩
 ·right
  obtain⟨e,i,l,t⟩:=MpA.get h h2;simp only[Nat.zero_add] at h1;rw[h1] at hf;simp only[bS,i,Option.map_some,t] at hf;exact⟨j,e,p.2,hf,i,by rw[l,hk.same _ _ h3],h4,u,x⟩
theorem OpTo.Er {K V:Type}{w0 w:World}{As:List HP}(ek:K->Value)(ev:V->Value){t:TypeId}(i:zN n a L)(H:St w0 As w)(e:o.op = .makeMap t none):OpTo P o a w fun v w'=>∃ r:Nat,v = .map (some r)/\St w0 (MpA r ek ev []::As) w':=by
 obtain⟨dst,op,type,pos,after,guard⟩:=o;simp only at e;subst e;refine OpTo.of_run (w':={ w with heap:=w.heap.push (.map #[] 0) }) (v:=.map (some w.heap.size)) ?_ ⟨w.heap.size,rfl,?_⟩
 ·simp[execOp,Instr.makeMap,newObj]
  rfl
 ·exact (H.alloc (.map #[] 0)).head fun h hh=>⟨(#[],0),hh,by simp⟩
theorem jS {mt y:TypeId}{B:TypeInfo}{z:V}(H:St w0 As w)(i:Nat)(hi:As[i]? = some (MpA r ek ev m))(hk:qv P kt ek eq)(ht:P.underlying mt=some (.map kt y))(F:P.info? y=some B)(t:B.zero=some (ev z))(ok:Bool) :
  ∀ {g:V × Bool},qZ eq k z m=some g->(Instr.lookup mt (.map (some r)) (ek k) ok).run P w = .ok (if ok then .tuple #[ev g.1,.bool g.2] else ev g.1) w:=by
 intro g l;obtain⟨h1,hs,x,hh,D⟩:=H.at i hi;have A:w.heap[r]? = some (.map x.1 x.2):=hs _ _ hh;rcases hk.found w k D with ⟨f1,f2,_,_⟩|⟨j,e,v,f1,f2,f3,f4,_,_⟩
 ·have u:(zeroValue y).run P w = .ok (ev z) w:=by simp[Go.zeroValue,Go.typeInfo,Sem.run,F,t]
  simp[Instr.lookup,xN P ht,Go.MapKept.run_getObj_map A,hk.check,f1,u,Result.andThen];simp[qZ,f2] at l;subst l;rfl
 ·simp[Instr.lookup,xN P ht,Go.MapKept.run_getObj_map A,hk.check,f1,Result.andThen];simp[qZ,f4] at l;subst l;rfl
theorem OpTo.Di {mt u:TypeId}{t:TypeInfo}{z:V}{x y:Operand}(i:Nat)(j:zN n a L)(H:St w0 As w)(hi:As[i]? = some (MpA r ek ev m))(hk:qv P kt ek eq){g:V × Bool}(hl:qZ eq k z m=some g)(l:o.op = .lookup mt x y true)
  (ht:P.underlying mt=some (.map kt u)) (D:P.info? u=some t) (e:t.zero=some (ev z)) (A:evO L x=some (.map (some r))) (B:evO L y=some (ek k)) :
  OpTo P o a w fun v w'=>v = .tuple #[ev g.1,.bool g.2]/\w'=w:=by
 obtain⟨dst,op,type,pos,after,guard⟩:=o;simp only at l;subst l;have hl:=jS (k:=k) H i hi hk ht D e true hl;exact OpTo.of_run (w':=w) (by simp[execOp,j.eval A,j.eval B,hl]) ⟨rfl,rfl⟩
theorem OpTo.Ep {mt u:TypeId}{t:TypeInfo}{z:V}{x y:Operand}(i:Nat)(j:zN n a L)(H:St w0 As w)(hi:As[i]? = some (MpA r ek ev m))(hk:qv P kt ek eq){g:V × Bool}(hl:qZ eq k z m=some g)(l:o.op = .lookup mt x y false)
  (ht:P.underlying mt=some (.map kt u)) (D:P.info? u=some t) (e:t.zero=some (ev z)) (A:evO L x=some (.map (some r))) (B:evO L y=some (ek k)) :
  OpTo P o a w fun v w'=>v=ev g.1/\w'=w:=by
 obtain⟨dst,op,type,pos,after,guard⟩:=o;simp only at l;subst l;have hl:=jS (k:=k) H i hi hk ht D e false hl;exact OpTo.of_run (w':=w) (by simp[execOp,j.eval A,j.eval B,hl]) ⟨rfl,rfl⟩
theorem nT {α β:Type}(f:α -> β):∀ (l:List α) (j:Nat),(l.eraseIdx j).map f=(l.map f).eraseIdx j
 | [],_=>rfl
 | _::_,0=>rfl
 | x::l,j+1=>by simp[nT f l j]
theorem St.A9 (H:St w0 (MpA r ek ev m::As) w):∃ es i,St w0 (One r (.map es i)::As) w/\es.toList.map (fun e=>(e.key,e.val))=m.map fun p=>(ek p.1,ev p.2):=by
 obtain⟨x,H⟩:=H.ex;have j:=H.fact fun h hh=>hh.2
 exact⟨x.1,x.2,H.head fun h hh=>hh.1,j⟩
theorem St.Ax {es i:Array MapEntry}{u j:Nat}{t:List (K × V)}(H:St w0 (One r (.map es u)::As) w)(he:i.toList.map (fun e=>(e.key,e.val))=t.map fun p=>(ek p.1,ev p.2)) :
  St w0 (MpA r ek ev t::As) { w with heap:=w.heap.setIfInBounds r (.map i j) }:=by
 have l:=H.one 0 rfl;have:=H.set (w':={ w with heap:=w.heap.setIfInBounds r (.map i j) }) (o':=.map i j) rfl rfl rfl (Go.MapKept.heap_set l).1 (Go.MapKept.heap_set l).2;exact this.head fun h hh=>⟨(i,j),hh,he⟩
def nZ:Op->Option (TypeId × Operand × Operand × Operand)
 | .mapUpdate t m k x=>some (t,m,k,x)
 | .insert t m k x=>some (t,m,k,x)
 | _=>none
theorem OpTo.Es {mt O:TypeId}{x y z:Operand}{v:V}(B:zN n a L)(H:St w0 (MpA r ek ev m::As) w)(hk:qv P kt ek eq)(D:nZ o.op=some (mt,x,y,z))
  (ht:P.underlying mt=some (.map kt O)) (F:evO L x=some (.map (some r))) (I:evO L y=some (ek k)) (J:evO L z=some (ev v)):OpTo P o a w fun _ w'=>St w0 (MpA r ek ev (mPut eq k v m)::As) w':=by
 obtain⟨es,A,H1,he⟩:=H.A9;have u:=H1.one 0 rfl;have key:∃ w',(Instr.mapUpdate mt (.map (some r)) (ek k) (ev v)).run P w = .ok () w'/\St w0 (MpA r ek ev (mPut eq k v m)::As) w':=by
  rcases hk.found w k he with ⟨f1,f2,f3,_⟩|⟨j,e,S,f1,f2,f3,f4,f5,_⟩
  ·refine⟨{ w with heap:=w.heap.setIfInBounds r (.map (es.push { key:=ek k,val:=ev v,born:=A }) (A+1)) },?_,H1.Ax ?_⟩
   ·simp[Instr.mapUpdate,xN P ht,Go.MapKept.run_getObj_map u,hk.check,f1,Go.MapKept.run_setObj_map _ u,Result.andThen]
   ·rw[f3];simp[he]
  ·have hj:es[j]? = some e:=by simpa using f2
   refine⟨{ w with heap:=w.heap.setIfInBounds r (.map (es.modify j fun e=>{ e with key:=ek k,val:=ev v }) A) },?_,H1.Ax ?_⟩
   ·simp[Instr.mapUpdate,xN P ht,Go.MapKept.run_getObj_map u,hk.check,f1,hj,f3,hk.stays,Go.MapKept.run_setObj_map _ u,Result.andThen]
   ·rw[f5];apply List.ext_getElem?;intro i;have hi:=congrArg (fun l=>l[i]?) he;simp only[List.getElem?_map,Array.getElem?_toList] at hi;simp only[List.getElem?_map,Array.getElem?_toList,Array.getElem?_modify,List.getElem?_set];by_cases t:j=i
    ·subst t;have hl:j<m.length:=by
      rw[hj] at hi;cases hm:m[j]? with
      | none=>rw[hm] at hi;simp at hi
      | some _=>exact (List.getElem?_eq_some_iff.1 hm).1
     simp[hj,hl]
    ·simp[t,hi]
 obtain⟨w',h1,h2⟩:=key;obtain⟨dst,op,type,pos,after,guard⟩:=o;cases op <;> simp only[nZ] at D <;> try cases D
 all_goals exact OpTo.fW (w':=w') (by simp[execOp,B.eval F,B.eval I,B.eval J,h1]) h2
theorem OpTo.Eo {mt B:TypeId}{x y:Operand}{ats:Array TypeId}(i:zN n a L)(H:St w0 (MpA r ek ev m::As) w)(hk:qv P kt ek eq)(u:o.op = .call { callee:=.builtin .delete,args:=#[x,y],argTypes:=ats })(ha:ats[0]? = some mt)
  (ht:P.underlying mt=some (.map kt B)) (z:evO L x=some (.map (some r))) (A:evO L y=some (ek k)):OpTo P o a w fun v w'=>v = .tuple #[]/\St w0 (MpA r ek ev (mDel eq k m)::As) w':=by
 obtain⟨es,t,H1,he⟩:=H.A9;have l:=H1.one 0 rfl;obtain⟨dst,op,type,pos,after,guard⟩:=o;simp only at u;subst u;rcases hk.found w k he with ⟨f1,f2,_,f4⟩|⟨j,e,D,f1,f2,f3,f4,_,f6⟩
 ·refine OpTo.of_run (w':={ w with heap:=w.heap.setIfInBounds r (.map es t) }) (v:=.tuple #[]) ?_ ⟨rfl,H1.Ax (by rw[f4];exact he)⟩;simp[execOp,resolve,invoke,builtin,i.eval z,i.eval A,Builtin.delete_,ha,xN P ht,Go.MapKept.run_getObj_map l,hk.check,f1,Go.MapKept.run_setObj_map _ l,Result.andThen]
 ·refine OpTo.of_run (w':={ w with heap:=w.heap.setIfInBounds r (.map (es.eraseIdxIfInBounds j) t) }) (v:=.tuple #[]) ?_ ⟨rfl,H1.Ax ?_⟩
  ·simp[execOp,resolve,invoke,builtin,i.eval z,i.eval A,Builtin.delete_,ha,xN P ht,Go.MapKept.run_getObj_map l,hk.check,f1,Go.MapKept.run_setObj_map _ l,Result.andThen]
  ·rw[f6];have hj:j<es.size:=by
    have:=(List.getElem?_eq_some_iff.1 f2).1;simpa using this
   simp only[Array.eraseIdxIfInBounds,hj,dif_pos,Array.toList_eraseIdx,nT,he]
end
section
variable {K V:Type} {P:Program} {ek:K->Value} {ev:V->Value} {w w0:World} {As:List HP} {n r:Nat} {L:Env} {o:Oper} {a:Act} {m:List (K × V)}
end
def elemV (sb:Option Addr)(sz:Nat):Option Int->Value
 | none=>.pointer none
 | some i=>match sb with
  | some ⟨b,off,_⟩=>.pointer (some ⟨b,off+(Int.toNat i)*sz,none⟩)
  | none=>.pointer none
theorem jC {sb:Option Addr}{sz b off:Nat}{i:Int}(h:sb=some ⟨b,off,none⟩):elemV sb sz (some i) = .pointer (some ⟨b,off+(Int.toNat i)*sz,none⟩):=by subst h;rfl
def optV {α:Type}(q:Nat):Option α -> Value
 | none=>.pointer none
 | some _=>.pointer (some ⟨q,0,none⟩)
def OptR {α:Type}(f:α -> HP):Option α -> HP
 | none=>fun _=>True
 | some m=>f m
theorem St.optN {α:Type}{f:α -> HP}{w0 w:World}{As:List HP}(H:St w0 As w):St w0 (OptR f none::As) w :=
 ⟨H.os,H.tape,H.output,fun _=>none,hpOf w,fun _=>.inl rfl,fun _ _ h=>by simp at h,Sub.refl _,trivial,H.heap⟩
def oS {α:Type}:Option α -> Unit ⊕ α
 | none=>.inl ()
 | some x=>.inr x
def uA {α β:Type}(o:Option α)(n:Option β)(s:α -> Option β):Option β:=match oS o with
 | .inl _=>n
 | .inr x=>s x
theorem lJ {α β:Type}{o:Option α}{n r:Option β}{s:α -> Option β}(e:o=none)(hm:uA o n s=r):n=r:=by subst e;exact hm
theorem lK {α β:Type}{o:Option α}{n r:Option β}{s:α -> Option β}{x:α}(e:o=some x)(hm:uA o n s=r):s x=r:=by subst e;exact hm
theorem CY {α:Type}{l:List α}{i:Int}{x:α}(h:mIdx l i=some x):l[i.toNat]? = some x:=(rh h).2
def ecU (x:Int):List Value:=[.int .u8 x]
theorem mZ:wg ecU 1:=⟨fun _=>rfl,fun x u hu=>by simp[ecU] at hu;subst hu;rfl⟩
def Pure (q:Prop):HP:=fun _=>q
theorem St.pure {q:Prop}{w0 w:World}{As:List HP}(H:St w0 (Pure q::As) w):q/\St w0 As w:=⟨H.fact fun _ h=>h,H.x0⟩
theorem St.gG {q:Prop}{w0 w:World}{As:List HP}(h:q)(H:St w0 As w):St w0 (Pure q::As) w :=
 ⟨H.os,H.tape,H.output,fun _=>none,hpOf w,fun _=>.inl rfl,fun _ _ h=>by simp at h,Sub.refl _,h,H.heap⟩
theorem Ca {α:Type}{l:List α}{i:Int}{x y:α}(h:mIdx l i=some x):mIdx (mSet l i y) i=some y:=by
 obtain⟨⟨h0,h1⟩,h2⟩:=rh h;have hl:i.toNat<l.length:=by omega
 simp[mIdx,mSet,h0,hl]
end
noncomputable section
section
variable {H:Type} {en:TypeId × Value->H} {P:Program} {w:World} {base:Nat} {spare:Nat->Bool} {held:Bool}
end
end
end Go.Th
noncomputable section
namespace Go.Th
end Go.Th
end
namespace Go.Th
noncomputable section
theorem Rd.take {w:World}{xb:Option Addr}{a b:List Value}(h:Rd w xb (a++b)):Rd w xb a:=by
 rcases h with h|⟨e,h1,h2⟩
 ·left
  exact (List.append_eq_nil_iff.1 h).1
 ·refine .inr ⟨e,h1,fun j u hj=>h2 j u ?_⟩;rw[List.getElem?_append_left (List.getElem?_eq_some_iff.1 hj).1];exact hj
section
variable {P:Program} {α:Type} {T:TypeId} {enc:α -> List Value} {sz:Nat} {w0 w:World} {As:List HP}
end
end
end Go.Th
namespace Go.Proofs.YtcepppmiplonfaaGreat
open Go.Th
noncomputable section
set_option maxRecDepth 10000
set_option maxHeartbeats 4000000
structure zd where
 At:Int
 Gen:Int
def zd.enc (x:zd):List Value:=[.int .i64 x.At,.int .i64 x.Gen]
theorem zd.zY:wg zd.enc 2:=⟨fun _=>rfl,fun x u hu=>by simp only[zd.enc,iC,List.not_mem_nil,or_false] at hu;rcases hu with rfl|rfl <;> rfl⟩
structure zk where
 Kind:Int
 Queue:Int
 Job:zd
 Time:Int
 Data:Int
def zk.enc (x:zk):List Value:=[.int .i64 x.Kind,.int .i64 x.Queue,.int .i64 x.Job.At,.int .i64 x.Job.Gen,.int .i64 x.Time,.int .i64 x.Data]
theorem zk.zY:wg zk.enc 6:=⟨fun _=>rfl,fun x u hu=>by simp only[zk.enc,iC,List.not_mem_nil,or_false] at hu;rcases hu with rfl|rfl|rfl|rfl|rfl|rfl <;> rfl⟩
structure yw where
 Kind:Int
 Queue:Int
 Job:Int
 Data:Int
 Time:Int
 Raw:zk
def yw.enc (x:yw):List Value:=[.int .i64 x.Kind,.int .i64 x.Queue,.int .i64 x.Job,.int .i64 x.Data,.int .i64 x.Time,.int .i64 x.Raw.Kind,.int .i64 x.Raw.Queue,.int .i64 x.Raw.Job.At,.int .i64 x.Raw.Job.Gen,.int .i64 x.Raw.Time,.int .i64 x.Raw.Data]
theorem yw.zY:wg yw.enc 11:=⟨fun _=>rfl,fun x u hu=>by simp only[yw.enc,iC,List.not_mem_nil,or_false] at hu;rcases hu with rfl|rfl|rfl|rfl|rfl|rfl|rfl|rfl|rfl|rfl|rfl <;> rfl⟩
structure zS where
 Kind:Int
 Box:Int
 Command:zk
def zS.enc (x:zS):List Value:=[.int .i64 x.Kind,.int .i64 x.Box,.int .i64 x.Command.Kind,.int .i64 x.Command.Queue,.int .i64 x.Command.Job.At,.int .i64 x.Command.Job.Gen,.int .i64 x.Command.Time,.int .i64 x.Command.Data]
theorem zS.zY:wg zS.enc 8:=⟨fun _=>rfl,fun x u hu=>by simp only[zS.enc,iC,List.not_mem_nil,or_false] at hu;rcases hu with rfl|rfl|rfl|rfl|rfl|rfl|rfl|rfl <;> rfl⟩
structure sZ where
 Kind:Int
 Jobs:Int
 Boxes:Int
 Room:Int
 L:List yw
 Kinds:List Int
 Acts:List zS
 Tame:Bool
structure zz where
 Kind:Int
 Jobs:Int
 Boxes:Int
 Room:Int
 Acts:List zS
def yw.val (x:yw):Value:=.agg #[.int .i64 x.Kind,.int .i64 x.Queue,.int .i64 x.Job,.int .i64 x.Data,.int .i64 x.Time,.int .i64 x.Raw.Kind,.int .i64 x.Raw.Queue,.int .i64 x.Raw.Job.At,.int .i64 x.Raw.Job.Gen,.int .i64 x.Raw.Time,.int .i64 x.Raw.Data]
structure zn where
 Why:Int
 Job:zd
 Time:Int
 Data:Int
 N:Int
def zn.enc (x:zn):List Value:=[.int .i64 x.Why,.int .i64 x.Job.At,.int .i64 x.Job.Gen,.int .i64 x.Time,.int .i64 x.Data,.int .i64 x.N]
theorem zn.zY:wg zn.enc 6:=⟨fun _=>rfl,fun x u hu=>by simp only[zn.enc,iC,List.not_mem_nil,or_false] at hu;rcases hu with rfl|rfl|rfl|rfl|rfl|rfl <;> rfl⟩
structure zx where
 Command:zk
 Reply:zn
 Now:Int
 Steps:Int
def zx.enc (x:zx):List Value:=[.int .i64 x.Command.Kind,.int .i64 x.Command.Queue,.int .i64 x.Command.Job.At,.int .i64 x.Command.Job.Gen,.int .i64 x.Command.Time,.int .i64 x.Command.Data,.int .i64 x.Reply.Why,.int .i64 x.Reply.Job.At,.int .i64 x.Reply.Job.Gen,.int .i64 x.Reply.Time,.int .i64 x.Reply.Data,.int .i64 x.Reply.N,.int .i64 x.Now,.int .i64 x.Steps]
theorem zx.zY:wg zx.enc 14:=⟨fun _=>rfl,fun x u hu=>by simp only[zx.enc,iC,List.not_mem_nil,or_false] at hu;rcases hu with rfl|rfl|rfl|rfl|rfl|rfl|rfl|rfl|rfl|rfl|rfl|rfl|rfl|rfl <;> rfl⟩
structure xQ where
 Replies:List zn
 Events:List zx
 Why:Int
structure zy where
 f0:Int
 f1:Int
 f2:Int
 f3:Int
 f4:Int
 f5:Int
 f6:Int
 f7:Int
 f8:Int
 f9:Int
 taken:Bool
def zy.enc (x:zy):List Value:=[.int .i64 x.f0,.int .i64 x.f1,.int .i64 x.f2,.int .i64 x.f3,.int .i64 x.f4,.int .i64 x.f5,.int .i64 x.f6,.int .i64 x.f7,.int .i64 x.f8,.int .i64 x.f9,.bool x.taken]
def zy.pE (x:zy)(i:Int):Option Int :=
 if i=0 then some x.f0 else if i=1 then some x.f1 else if i=2 then some x.f2 else if i=3 then some x.f3 else if i=4 then some x.f4 else if i=5 then some x.f5 else if i=6 then some x.f6 else if i=7 then some x.f7 else if i=8 then some x.f8 else if i=9 then some x.f9 else none
def zy.nk (x:zy)(i v:Int):Option zy :=
 if i=0 then some (zy.mk v x.f1 x.f2 x.f3 x.f4 x.f5 x.f6 x.f7 x.f8 x.f9 x.taken) else if i=1 then some (zy.mk x.f0 v x.f2 x.f3 x.f4 x.f5 x.f6 x.f7 x.f8 x.f9 x.taken) else if i=2 then some (zy.mk x.f0 x.f1 v x.f3 x.f4 x.f5 x.f6 x.f7 x.f8 x.f9 x.taken) else if i=3 then some (zy.mk x.f0 x.f1 x.f2 v x.f4 x.f5 x.f6 x.f7 x.f8 x.f9 x.taken) else if i=4 then some (zy.mk x.f0 x.f1 x.f2 x.f3 v x.f5 x.f6 x.f7 x.f8 x.f9 x.taken) else if i=5 then some (zy.mk x.f0 x.f1 x.f2 x.f3 x.f4 v x.f6 x.f7 x.f8 x.f9 x.taken) else if i=6 then some (zy.mk x.f0 x.f1 x.f2 x.f3 x.f4 x.f5 v x.f7 x.f8 x.f9 x.taken) else if i=7 then some (zy.mk x.f0 x.f1 x.f2 x.f3 x.f4 x.f5 x.f6 v x.f8 x.f9 x.taken) else if i=8 then some (zy.mk x.f0 x.f1 x.f2 x.f3 x.f4 x.f5 x.f6 x.f7 v x.f9 x.taken) else if i=9 then some (zy.mk x.f0 x.f1 x.f2 x.f3 x.f4 x.f5 x.f6 x.f7 x.f8 v x.taken) else none
theorem zy.zY:wg zy.enc 11:=⟨fun _=>rfl,fun x u hu=>by simp only[zy.enc,iC,List.not_mem_nil,or_false] at hu;rcases hu with rfl|rfl|rfl|rfl|rfl|rfl|rfl|rfl|rfl|rfl|rfl <;> rfl⟩
structure zI where
 steps:Int
 begun:Int
 most:Int
structure za where
 l:List zy
 never:Int
 free:List Int
 m_:zI
structure zG where
 kind:Int
 root:Int
 n:Int
def zG.enc (x:zG):List Value:=[.int .i64 x.kind,.int .i64 x.root,.int .i64 x.n]
theorem zG.zY:wg zG.enc 3:=⟨fun _=>rfl,fun x u hu=>by simp only[zG.enc,iC,List.not_mem_nil,or_false] at hu;rcases hu with rfl|rfl|rfl <;> rfl⟩
structure zA where
 gen:Int
 taken:Bool
 v_:zG
def zA.enc (x:zA):List Value:=[.int .i64 x.gen,.bool x.taken,.int .i64 x.v_.kind,.int .i64 x.v_.root,.int .i64 x.v_.n]
theorem zA.zY:wg zA.enc 5:=⟨fun _=>rfl,fun x u hu=>by simp only[zA.enc,iC,List.not_mem_nil,or_false] at hu;rcases hu with rfl|rfl|rfl|rfl|rfl <;> rfl⟩
structure zi where
 most:Int
 l:List zA
 free:List Int
structure zD where
 cell:Int
 heap:zd
def zD.enc (x:zD):List Value:=[.int .i64 x.cell,.int .i64 x.heap.At,.int .i64 x.heap.Gen]
theorem zD.zY:wg zD.enc 3:=⟨fun _=>rfl,fun x u hu=>by simp only[zD.enc,iC,List.not_mem_nil,or_false] at hu;rcases hu with rfl|rfl|rfl <;> rfl⟩
structure zs where
 gen:Int
 taken:Bool
 v_:zD
def zs.enc (x:zs):List Value:=[.int .i64 x.gen,.bool x.taken,.int .i64 x.v_.cell,.int .i64 x.v_.heap.At,.int .i64 x.v_.heap.Gen]
theorem zs.zY:wg zs.enc 5:=⟨fun _=>rfl,fun x u hu=>by simp only[zs.enc,iC,List.not_mem_nil,or_false] at hu;rcases hu with rfl|rfl|rfl|rfl|rfl <;> rfl⟩
structure ze where
 most:Int
 l:List zs
 free:List Int
structure zm where
 heaps:zi
 items:ze
 at_:List (Int × zd)
def zd.val (x:zd):Value:=.agg #[.int .i64 x.At,.int .i64 x.Gen]
structure zJ where
 Key:Int
 Serial:Int
def zJ.enc (x:zJ):List Value:=[.int .i64 x.Key,.int .i64 x.Serial]
theorem zJ.zY:wg zJ.enc 2:=⟨fun _=>rfl,fun x u hu=>by simp only[zJ.enc,iC,List.not_mem_nil,or_false] at hu;rcases hu with rfl|rfl <;> rfl⟩
structure zr where
 items:Int
 a_:za
 t_:zm
 entries:List (zd × zJ)
 serial:Int
def zJ.val (x:zJ):Value:=.agg #[.int .i64 x.Key,.int .i64 x.Serial]
structure zF where
 Queue:Int
 Time:Int
 Data:Int
 Item:zd
def zF.enc (x:zF):List Value:=[.int .i64 x.Queue,.int .i64 x.Time,.int .i64 x.Data,.int .i64 x.Item.At,.int .i64 x.Item.Gen]
theorem zF.zY:wg zF.enc 5:=⟨fun _=>rfl,fun x u hu=>by simp only[zF.enc,iC,List.not_mem_nil,or_false] at hu;rcases hu with rfl|rfl|rfl|rfl|rfl <;> rfl⟩
structure zt where
 gen:Int
 taken:Bool
 v_:zF
def zt.enc (x:zt):List Value:=[.int .i64 x.gen,.bool x.taken,.int .i64 x.v_.Queue,.int .i64 x.v_.Time,.int .i64 x.v_.Data,.int .i64 x.v_.Item.At,.int .i64 x.v_.Item.Gen]
theorem zt.zY:wg zt.enc 7:=⟨fun _=>rfl,fun x u hu=>by simp only[zt.enc,iC,List.not_mem_nil,or_false] at hu;rcases hu with rfl|rfl|rfl|rfl|rfl|rfl|rfl <;> rfl⟩
structure zf where
 most:Int
 l:List zt
 free:List Int
structure zq where
 p:zf
 by_:List (zd × zd)
structure zW where
 now:Int
structure zb where
 kind:Int
 most:Int
 q:zr
 heaps0:zd
 heaps1:zd
 t_:zq
 when:List (zd × Int)
 clock:zW
 budget:Int
 last:Int
 top:Int
structure yk where
 Op:Int
 Kind:Int
 Heap:zd
 Other:zd
 Item:zd
 Key:Int
def yk.enc (x:yk):List Value:=[.int .i64 x.Op,.int .i64 x.Kind,.int .i64 x.Heap.At,.int .i64 x.Heap.Gen,.int .i64 x.Other.At,.int .i64 x.Other.Gen,.int .i64 x.Item.At,.int .i64 x.Item.Gen,.int .i64 x.Key]
theorem yk.zY:wg yk.enc 9:=⟨fun _=>rfl,fun x u hu=>by simp only[yk.enc,iC,List.not_mem_nil,or_false] at hu;rcases hu with rfl|rfl|rfl|rfl|rfl|rfl|rfl|rfl|rfl <;> rfl⟩
structure zR where
 Why:Int
 Heap:zd
 Item:zd
 Entry:zJ
 N:Int
def zR.enc (x:zR):List Value:=[.int .i64 x.Why,.int .i64 x.Heap.At,.int .i64 x.Heap.Gen,.int .i64 x.Item.At,.int .i64 x.Item.Gen,.int .i64 x.Entry.Key,.int .i64 x.Entry.Serial,.int .i64 x.N]
theorem zR.zY:wg zR.enc 8:=⟨fun _=>rfl,fun x u hu=>by simp only[zR.enc,iC,List.not_mem_nil,or_false] at hu;rcases hu with rfl|rfl|rfl|rfl|rfl|rfl|rfl|rfl <;> rfl⟩
def yk.val (x:yk):Value:=.agg #[.int .i64 x.Op,.int .i64 x.Kind,.int .i64 x.Heap.At,.int .i64 x.Heap.Gen,.int .i64 x.Other.At,.int .i64 x.Other.Gen,.int .i64 x.Item.At,.int .i64 x.Item.Gen,.int .i64 x.Key]
def zG.val (x:zG):Value:=.agg #[.int .i64 x.kind,.int .i64 x.root,.int .i64 x.n]
structure zp where
 n:Int
 rank:Int
def zp.enc (x:zp):List Value:=[.int .i64 x.n,.int .i64 x.rank]
theorem zp.zY:wg zp.enc 2:=⟨fun _=>rfl,fun x u hu=>by simp only[zp.enc,iC,List.not_mem_nil,or_false] at hu;rcases hu with rfl|rfl <;> rfl⟩
def zp.val (x:zp):Value:=.agg #[.int .i64 x.n,.int .i64 x.rank]
def zD.val (x:zD):Value:=.agg #[.int .i64 x.cell,.int .i64 x.heap.At,.int .i64 x.heap.Gen]
def zd.eq (x y:zd):Bool:=(x.At == y.At && (x.Gen == y.Gen && true))
structure zg where
 c_:MCh zk
def zk.val (x:zk):Value:=.agg #[.int .i64 x.Kind,.int .i64 x.Queue,.int .i64 x.Job.At,.int .i64 x.Job.Gen,.int .i64 x.Time,.int .i64 x.Data]
structure zj where
 l:List zg
structure zh where
 d:zb
 desk:zj
structure zw where
 s:zh
 l:List zx
def zS.val (x:zS):Value:=.agg #[.int .i64 x.Kind,.int .i64 x.Box,.int .i64 x.Command.Kind,.int .i64 x.Command.Queue,.int .i64 x.Command.Job.At,.int .i64 x.Command.Job.Gen,.int .i64 x.Command.Time,.int .i64 x.Command.Data]
def zF.val (x:zF):Value:=.agg #[.int .i64 x.Queue,.int .i64 x.Time,.int .i64 x.Data,.int .i64 x.Item.At,.int .i64 x.Item.Gen]
structure zE where
 Kind:Int
 Box:Int
 D:yw
def zE.enc (x:zE):List Value:=[.int .i64 x.Kind,.int .i64 x.Box,.int .i64 x.D.Kind,.int .i64 x.D.Queue,.int .i64 x.D.Job,.int .i64 x.D.Data,.int .i64 x.D.Time,.int .i64 x.D.Raw.Kind,.int .i64 x.D.Raw.Queue,.int .i64 x.D.Raw.Job.At,.int .i64 x.D.Raw.Job.Gen,.int .i64 x.D.Raw.Time,.int .i64 x.D.Raw.Data]
theorem zE.zY:wg zE.enc 13:=⟨fun _=>rfl,fun x u hu=>by simp only[zE.enc,iC,List.not_mem_nil,or_false] at hu;rcases hu with rfl|rfl|rfl|rfl|rfl|rfl|rfl|rfl|rfl|rfl|rfl|rfl|rfl <;> rfl⟩
structure zo where
 Most:Int
 Gens:List Int
 In:List Bool
 V:List Int
 Back:List Int
structure zH where
 Queue:Int
 Data:Int
 E:zJ
 R:zd
def zH.enc (x:zH):List Value:=[.int .i64 x.Queue,.int .i64 x.Data,.int .i64 x.E.Key,.int .i64 x.E.Serial,.int .i64 x.R.At,.int .i64 x.R.Gen]
theorem zH.zY:wg zH.enc 6:=⟨fun _=>rfl,fun x u hu=>by simp only[zH.enc,iC,List.not_mem_nil,or_false] at hu;rcases hu with rfl|rfl|rfl|rfl|rfl|rfl <;> rfl⟩
structure zc where
 Most:Int
 Now:Int
 Next:Int
 Pool:zo
 L:List zH
def zn.eq (x y:zn):Bool:=(x.Why == y.Why && (zd.eq x.Job y.Job && (x.Time == y.Time && (x.Data == y.Data && (x.N == y.N && true)))))
def zk.eq (x y:zk):Bool:=(x.Kind == y.Kind && (x.Queue == y.Queue && (zd.eq x.Job y.Job && (x.Time == y.Time && (x.Data == y.Data && true)))))
structure zu where
 b:List Int
 bad:Bool
def zx.eq (x y:zx):Bool:=(zk.eq x.Command y.Command && (zn.eq x.Reply y.Reply && (x.Now == y.Now && (x.Steps == y.Steps && true))))
def yU (n:Int)(lo:Int)(hi:Int):Option (Int) :=
 (bif (decide (n >= lo)) && (decide (n<=hi)) then
  some n
 else
  (mNz (w64 ((w64 (hi - lo))+1))).bind fun u =>
  ((bif decide (Int.tmod n (w64 ((w64 (hi - lo))+1))<0) then
   some (w64 ((w64 ((w64 ((Int.tmod n (w64 ((w64 (hi - lo))+1)))+hi)) - lo))+1))
  else
   some (Int.tmod n (w64 ((w64 (hi - lo))+1))))).bind fun s =>
  some (w64 (lo+s)))
def tr (x:yw)(i:List zd):Option (zk) :=
 (bif (Int.tmod x.Job 16) == 15 then
  some x.Raw
 else
  (yU x.Kind 0 1048576).bind fun t_ =>
  (mIdx ([1,1,1,2,3,4,5,5,5,6,7]:List Int) (Int.tmod t_ 11)).bind fun x1 =>
  (yU x.Queue 0 1048576).bind fun e =>
  ((bif (Int.tmod x.Data 4) != 0 then
   some (Int.tmod ((zk.mk x1 (Int.tmod e 2) (zd.mk 0 0) x.Time x.Data).Time) 30)
  else
   some ((zk.mk x1 (Int.tmod e 2) (zd.mk 0 0) x.Time x.Data).Time))).bind fun s =>
  ((bif decide ((i.length:Int) > 0) then
   (yU x.Job 0 (w64 ((i.length:Int) - 1))).bind fun j =>
   (mIdx i j).bind fun x2 =>
   some (x2.At,x2.Gen)
  else
   some (((zk.mk x1 (Int.tmod e 2) (zd.mk 0 0) x.Time x.Data).Job).At,((zk.mk x1 (Int.tmod e 2) (zd.mk 0 0) x.Time x.Data).Job).Gen))).bind fun s1 =>
  some (zk.mk ((zk.mk x1 (Int.tmod e 2) (zd.mk 0 0) x.Time x.Data).Kind) ((zk.mk x1 (Int.tmod e 2) (zd.mk 0 0) x.Time x.Data).Queue) (zd.mk s1.1 s1.2) s ((zk.mk x1 (Int.tmod e 2) (zd.mk 0 0) x.Time x.Data).Data)))
def vh (e:Int):Option (Bool) :=
 some ((decide (e >= 1)) && (decide (e<=3)))
def bits_Len64 (x:Int):Option (Int) :=
 ((bif decide (x >= 4294967296) then
  some (Int.fdiv x (2 ^ (min (Int.toNat 32) 64)),32)
 else
  some (x,0))).bind fun s =>
 ((bif decide (s.1 >= 65536) then
  some (Int.fdiv s.1 (2 ^ (min (Int.toNat 16) 64)),w64 (s.2+16))
 else
  some (s.1,s.2))).bind fun s1 =>
 ((bif decide (s1.1 >= 256) then
  some (Int.fdiv s1.1 (2 ^ (min (Int.toNat 8) 64)),w64 (s1.2+8))
 else
  some (s1.1,s1.2))).bind fun s2 =>
 (B6 (ByteArray.mk #[0,1,2,2,3,3,3,3,4,4,4,4,4,4,4,4,5,5,5,5,5,5,5,5,5,5,5,5,5,5,5,5,6,6,6,6,6,6,6,6,6,6,6,6,6,6,6,6,6,6,6,6,6,6,6,6,6,6,6,6,6,6,6,6,7,7,7,7,7,7,7,7,7,7,7,7,7,7,7,7,7,7,7,7,7,7,7,7,7,7,7,7,7,7,7,7,7,7,7,7,7,7,7,7,7,7,7,7,7,7,7,7,7,7,7,7,7,7,7,7,7,7,7,7,7,7,7,7,8,8,8,8,8,8,8,8,8,8,8,8,8,8,8,8,8,8,8,8,8,8,8,8,8,8,8,8,8,8,8,8,8,8,8,8,8,8,8,8,8,8,8,8,8,8,8,8,8,8,8,8,8,8,8,8,8,8,8,8,8,8,8,8,8,8,8,8,8,8,8,8,8,8,8,8,8,8,8,8,8,8,8,8,8,8,8,8,8,8,8,8,8,8,8,8,8,8,8,8,8,8,8,8,8,8,8,8,8,8,8,8,8,8,8,8,8,8,8,8,8,8,8,8,8,8,8,8]) (IntKind.wrap .u8 (s2.1))).bind fun c_ =>
 some (w64 (s2.2+(w64 (c_))))
def bits_Len (x:Int):Option (Int) :=
 (bits_Len64 x).bind fun t_ =>
 some t_
def oC (n:Int):Option (Int) :=
 (bits_Len (IntKind.wrap .u64 ((if n > 0 then n else 0)))).bind fun t_ =>
 some t_
def uD (a_:Int)(b:Int):Option (Int) :=
 (bif (decide (b > 0)) && (decide (a_ > w64 (9223372036854775807 - b))) then
  some 9223372036854775807
 else
  (bif (decide (b<0)) && (decide (a_<w64 ((-9223372036854775808) - b))) then
   some (-9223372036854775808)
  else
   some (w64 (a_+b))))
def ud (j:Int)(x1:Int):Nat->Int->Int->Option (Int)
 | 0,_,_=>none
 | m+1,e,x =>
  (bif decide (x<x1) then
   (uD e j).bind fun i =>
   ud j x1 m i (w64 (x+1))
  else
   some e)
def ph (k:Nat)(a_:Int)(b:Int)(n:Int):Option (Int) :=
 (oC n).bind fun t_ =>
 (ud b t_ k a_ 0).bind fun s =>
 some s
def tx (k:Nat)(i:Int)(items:Int):Option (Int × Bool) :=
 ((vh i).bind fun t_ =>
 (bif !t_ then
  some true
 else
  (bif decide (items<1) then
   some true
  else
   some (decide (items > 4096))))).bind fun s =>
 (bif s then
  some (0,false)
 else
  (ph k 2000 1600 (w64 (items+1))).bind fun e =>
  some (e,true))
def kb  : Option (zI) :=
 some (zI.mk 0 0 0)
def nz (cells:Int):Option (za) :=
 (iG (if (if 65536<cells then 65536 else cells) > 0 then (if 65536<cells then 65536 else cells) else 0) (zy.mk 0 0 0 0 0 0 0 0 0 0 false)).bind fun l =>
 (kb).bind fun t_ =>
 some (za.mk l 0 ([]:List Int) t_)
def tp (places:Int):Option (zi) :=
 some (zi.mk (if (if 65536<places then 65536 else places) > 0 then (if 65536<places then 65536 else places) else 0) ([]:List zA) ([]:List Int))
def uM (places:Int):Option (ze) :=
 some (ze.mk (if (if 65536<places then 65536 else places) > 0 then (if 65536<places then 65536 else places) else 0) ([]:List zs) ([]:List Int))
def kH (items:Int):Option (zm) :=
 (tp 64).bind fun t_ =>
 (uM (if (if 16384<items then 16384 else items) > 1 then (if 16384<items then 16384 else items) else 1)).bind fun e =>
 some (zm.mk t_ e ([]:List (Int × zd)))
def gF (items:Int):Option ((Option zr) × Int) :=
 (bif (decide (items<1)) || (decide (items > 16384)) then
  some ((none:Option zr),1)
 else
  (nz (w64 (2*items))).bind fun t_ =>
  (kH items).bind fun e =>
  some (some (zr.mk items t_ e ([]:List (zd × zJ)) 0),0))
def sj (places:Int):Option (zf) :=
 some (zf.mk (if (if 65536<places then 65536 else places) > 0 then (if 65536<places then 65536 else places) else 0) ([]:List zt) ([]:List Int))
def nK (e:Int):Option (zq) :=
 (sj (if (if 4096<e then 4096 else e) > 1 then (if 4096<e then 4096 else e) else 1)).bind fun t_ =>
 some (zq.mk t_ ([]:List (zd × zd)))
def nC  : Option (zW) :=
 some (zW.mk 0)
def wV (c_:yk):Option (zR) :=
 none
def sa (a_:za):Option (Unit) :=
 some ()
def qG (m_:zI):Option (Int) :=
 some (w64 (m_.steps - m_.begun))
def pz (m_:zI):Option (Int) :=
 (qG m_).bind fun t_ =>
 some (if t_ > m_.most then t_ else m_.most)
def sg (m_:zI):Option (zI) :=
 (pz m_).bind fun t_ =>
 some (zI.mk m_.steps m_.steps t_)
def qE (e:Int):Option (Bool) :=
 some ((decide (e >= 1)) && (decide (e<=5)))
def yN (p:zi)(v_:zG):Option (zd × Bool × zi) :=
 ((bif decide (w64 ((p.free.length:Int) - 1) >= 0) then
  (mIdx p.free (w64 ((p.free.length:Int) - 1))).bind fun x =>
  (mCut p.free 0 (w64 ((p.free.length:Int) - 1))).bind fun l =>
  some (.inr (x,zi.mk p.most p.l l))
 else
  (bif decide ((p.l.length:Int) >= p.most) then
   some (.inl (zd.mk 0 0,false,p))
  else
   (mApp p.l ([zA.mk 0 false (zG.mk 0 0 0)]:List zA)).bind fun e =>
   some (.inr ((p.l.length:Int),zi.mk p.most e p.free)))):Option ((zd × Bool × zi) ⊕ (Int × zi))).bind fun s =>
 match s with
 | .inl i=>some i
 | .inr s1 =>
  (mIdx s1.2.l s1.1).bind fun x1 =>
  some (zd.mk s1.1 (w64 (x1.gen+1)),true,zi.mk s1.2.most (mSet (mSet (mSet s1.2.l s1.1 (zA.mk (w64 (x1.gen+1)) x1.taken x1.v_)) s1.1 (zA.mk (w64 (x1.gen+1)) true x1.v_)) s1.1 (zA.mk (w64 (x1.gen+1)) true v_)) s1.2.free)
def te (t_:zm)(j:Int):Option (zd × Int × zm) :=
 (qE j).bind fun i =>
 (bif !i then
  some (zd.mk 0 0,24,t_)
 else
  (yN t_.heaps (zG.mk j (-1) 0)).bind fun e =>
  (bif !e.2.1 then
   some (zd.mk 0 0,13,zm.mk e.2.2 t_.items t_.at_)
  else
   some (e.1,0,zm.mk e.2.2 t_.items t_.at_)))
def xd (p:zi)(r:zd):Option ((Option Int) × Int) :=
 ((bif decide (r.At<0) then
  some true
 else
  (bif decide (r.At >= (p.l.length:Int)) then
   some true
  else
   (bif decide (r.Gen<1) then
    some true
   else
    (mIdx p.l r.At).bind fun x1 =>
    some (decide (r.Gen > x1.gen)))))).bind fun s =>
 (bif s then
  some ((none:Option Int),22)
 else
  (mIdx p.l r.At).bind fun x2 =>
  (bif (decide (r.Gen<x2.gen)) || (!x2.taken) then
   some ((none:Option Int),23)
  else
   some ((some r.At:Option Int),0)))
def yH (p:zi)(r:zd):Option (zG × Int) :=
 (xd p r).bind fun t_ =>
 (uA t_.1
  ((bif t_.2 != 0 then
   some (zG.mk 0 0 0,t_.2)
  else
   none))
  (fun i =>
  (mIdx p.l i).bind fun x =>
  (bif t_.2 != 0 then
   some (zG.mk 0 0 0,t_.2)
  else
   some (x.v_,0))))
def xq (t_:zm)(i:zd):Option (Int × Int × Int × Int) :=
 (yH t_.heaps i).bind fun e =>
 some (e.1.kind,e.1.root,e.1.n,e.2)
def ue (e:Int):Option (zR) :=
 some (zR.mk e (zd.mk 0 0) (zd.mk 0 0) (zJ.mk 0 0) 0)
def xe (p:ze):Option (Int) :=
 some (w64 ((p.l.length:Int) - (p.free.length:Int)))
def uJ (t_:zm):Option (Int) :=
 (xe t_.items).bind fun e =>
 some e
def xE (m_:zI)(n:Int):Option (zI) :=
 (uD m_.steps (if n > 0 then n else 0)).bind fun t_ =>
 some (zI.mk t_ m_.begun m_.most)
def qR  : Option (zy) :=
 some (zy.mk (-1) (-1) (-1) (-1) 0 0 (-1) 0 0 (-1) true)
def vX (a_:za):Option (Int × Bool × za) :=
 (xE a_.m_ 1).bind fun t_ =>
 ((bif decide (w64 ((a_.free.length:Int) - 1) >= 0) then
  (mIdx a_.free (w64 ((a_.free.length:Int) - 1))).bind fun x =>
  (mCut a_.free 0 (w64 ((a_.free.length:Int) - 1))).bind fun l =>
  some (.inr (x,za.mk a_.l a_.never l t_))
 else
  (bif decide (a_.never >= (a_.l.length:Int)) then
   some (.inl ((-1),false,za.mk a_.l a_.never a_.free t_))
  else
   some (.inr (a_.never,za.mk a_.l (w64 (a_.never+1)) a_.free t_)))):Option ((Int × Bool × za) ⊕ (Int × za))).bind fun s =>
 match s with
 | .inl i=>some i
 | .inr s1 =>
  (qR).bind fun e =>
  (mIdx s1.2.l s1.1).bind fun x1 =>
  some (s1.1,true,za.mk (mSet s1.2.l s1.1 e) s1.2.never s1.2.free s1.2.m_)
def yr (a_:za)(c_:Int):Option (Bool) :=
 ((bif decide (c_ >= 0) then
  (bif decide (c_<(a_.l.length:Int)) then
   (mIdx a_.l c_).bind fun x1 =>
   some x1.taken
  else
   some false)
 else
  some false)).bind fun s =>
 some s
def wB (a_:za)(c_:Int)(field:Int):Option (Bool) :=
 ((yr a_ c_).bind fun t_ =>
 (bif t_ then
  (bif decide (field >= 0) then
   some (decide (field<10))
  else
   some false)
 else
  some false)).bind fun s =>
 some s
def zC (a_:za)(c_:Int)(field:Int)(v_:Int):Option (Bool × za) :=
 (xE a_.m_ 1).bind fun t_ =>
 (wB (za.mk a_.l a_.never a_.free t_) c_ field).bind fun e =>
 (bif !e then
  some (false,za.mk a_.l a_.never a_.free t_)
 else
  (mIdx a_.l c_).bind fun x =>
  (mIn field 10).bind fun u =>
  (zy.nk x field v_).bind fun y =>
  some (true,za.mk (mSet a_.l c_ y) a_.never a_.free t_))
def lq (a_:za)(key:Int)(serial:Int):Option (Int × Bool × za) :=
 (vX a_).bind fun t_ =>
 ((bif t_.2.1 then
  (zC t_.2.2 t_.1 7 key).bind fun e =>
  (zC e.2 t_.1 8 serial).bind fun i =>
  some i.2
 else
  some t_.2.2)).bind fun s =>
 some (t_.1,t_.2.1,s)
def oy (a_:za)(n:Int)(i:Int):Option (za) :=
 (zC a_ n 6 i).bind fun t_ =>
 (zC t_.2 i 9 n).bind fun e =>
 some e.2
def oB (a_:za)(i:Int):Option (Int × Bool × za) :=
 (vX a_).bind fun t_ =>
 ((bif t_.2.1 then
  (oy t_.2.2 t_.1 i).bind fun e =>
  some e
 else
  some t_.2.2)).bind fun s =>
 some (t_.1,t_.2.1,s)
def wh (a_:za):Option (Int) :=
 some (a_.l.length:Int)
def yd (a_:za)(c_:Int)(field:Int):Option (Int × za) :=
 (xE a_.m_ 1).bind fun t_ =>
 (wB (za.mk a_.l a_.never a_.free t_) c_ field).bind fun e =>
 (bif !e then
  some ((-1),za.mk a_.l a_.never a_.free t_)
 else
  (mIdx a_.l c_).bind fun x =>
  (mIn field 10).bind fun u =>
  (zy.pE x field).bind fun v_ =>
  some (v_,za.mk a_.l a_.never a_.free t_))
def zK (a_:za)(c_:Int)(field:Int):Option (Int × za) :=
 (yd a_ c_ field).bind fun t_ =>
 ((bif decide (t_.1<0) then
  some true
 else
  some (decide (t_.1 >= (t_.2.l.length:Int))))).bind fun s =>
 (bif s then
  some ((-1),t_.2)
 else
  some (t_.1,t_.2))
def qC (a_:za)(i:Int):Option (zJ × za) :=
 (yd a_ i 7).bind fun t_ =>
 (yd t_.2 i 8).bind fun e =>
 some (zJ.mk t_.1 e.1,e.2)
def ux (x:Int):Option (Bool) :=
 some (x != x)
def vD (x:Int)(y:Int):Option (Int) :=
 (ux x).bind fun t_ =>
 (ux y).bind fun e =>
 (bif t_ then
  (bif e then
   some 0
  else
   some (-1))
 else
  (bif e then
   some 1
  else
   (bif decide (x<y) then
    some (-1)
   else
    (bif decide (x > y) then
     some 1
    else
     some 0))))
def uG (x1:Int)(l:List Int):Nat->Int->Option ((Int) ⊕ (Unit))
 | 0,_=>none
 | m+1,x =>
  (bif decide (x<x1) then
   (mIdx l x).bind fun x2 =>
   (bif x2 != 0 then
    some (.inl x2)
   else
    uG x1 l m (w64 (x+1)))
  else
   some (.inr ()))
def ov (k:Nat)(e:List Int):Option (Int) :=
 (uG (e.length:Int) e k 0).bind fun s =>
 match s with
 | .inl i=>some i
 | .inr s1 =>
  some 0
def rr (k:Nat)(a_:zJ)(b:zJ):Option (Int) :=
 (vD a_.Key b.Key).bind fun t_ =>
 (vD a_.Serial b.Serial).bind fun e =>
 (ov k ([t_,e]:List Int)).bind fun i =>
 some i
def qT (k:Nat)(a_:za)(i:Int)(j:Int):Option (Bool × za) :=
 (qC a_ i).bind fun t_ =>
 (qC t_.2 j).bind fun e =>
 (rr k t_.1 e.1).bind fun l =>
 some ((decide (l<0)) || ((l == 0) && (decide (i<j))),e.2)
def uC (k:Nat)(a_:za)(n:Int)(m_:Int):Option (Bool × za) :=
 (zK a_ n 6).bind fun t_ =>
 (zK t_.2 m_ 6).bind fun e =>
 (qT k e.2 t_.1 e.1).bind fun i =>
 some (i.1,i.2)
def sL (a_:za)(n:Int):Option (Int × za) :=
 (bif n == (-1) then
  some (0,a_)
 else
  (yd a_ n 4).bind fun t_ =>
  some (t_.1,t_.2))
def rL (a_:za)(n:Int):Option (Bool × za) :=
 (zK a_ n 2).bind fun t_ =>
 (zK t_.2 n 3).bind fun i =>
 (sL i.2 t_.1).bind fun j =>
 (sL j.2 i.1).bind fun e =>
 ((bif decide (j.1<e.1) then
  (zC e.2 n 2 i.1).bind fun t =>
  (zC t.2 n 3 t_.1).bind fun u =>
  some (j.1,u.2)
 else
  some (e.1,e.2))).bind fun s =>
 (yd s.2 n 4).bind fun l =>
 (zC l.2 n 4 (w64 (s.1+1))).bind fun x =>
 some (l.1 != (w64 (s.1+1)),x.2)
def vG:Nat->Int->Int->(List Int)->za->Option (Int × Int × (List Int) × za)
 | 0,_,_,_,_=>none
 | m+1,r1,s1,path,m_ =>
  ((bif r1 != (-1) then
   (bif s1 != (-1) then
    (wh m_).bind fun t_ =>
    some (decide ((path.length:Int)<=t_))
   else
    some false)
  else
   some false)).bind fun t =>
  (bif t then
   (uC m m_ s1 r1).bind fun e =>
   ((bif e.1 then
    some (s1,r1)
   else
    some (r1,s1))).bind fun j =>
   (mApp path ([j.1]:List Int)).bind fun l =>
   (zK e.2 j.1 3).bind fun i =>
   vG m i.1 j.2 l i.2
  else
   some (r1,s1,path,m_))
def wC (j:List Int):Nat->Int->Int->za->Option (Int × za)
 | 0,_,_,_=>none
 | m+1,top,e,i =>
  (bif decide (e >= 0) then
   (mIdx j e).bind fun x =>
   (zC i x 3 top).bind fun l =>
   (mIdx j e).bind fun x1 =>
   (zC l.2 top 0 x1).bind fun t =>
   (mIdx j e).bind fun x2 =>
   (rL t.2 x2).bind fun u =>
   wC j m x2 (w64 (e - 1)) u.2
  else
   some (top,i))
def vN (k:Nat)(a_:za)(r:Int)(s:Int):Option (Int × za) :=
 (bif r == s then
  some (r,a_)
 else
  (vG k r s ([]:List Int) a_).bind fun s2 =>
  (wC s2.2.2.1 k (if s2.2.1 > s2.1 then s2.2.1 else s2.1) (w64 ((s2.2.2.1.length:Int) - 1)) s2.2.2.2).bind fun e =>
  (zC e.2 e.1 0 (-1)).bind fun i =>
  some (e.1,i.2))
def qh (k:Nat)(a_:za)(r:Int)(i:Int):Option (Int × Bool × za) :=
 (oB a_ i).bind fun t_ =>
 (bif !t_.2.1 then
  some (r,false,t_.2.2)
 else
  (zC t_.2.2 t_.1 4 1).bind fun j =>
  (vN k j.2 r t_.1).bind fun e =>
  some (e.1,true,e.2))
def si (e:Int):Nat->Int->(List Int)->za->Option ((List Int) × za)
 | 0,_,_,_=>none
 | m+1,n1,out,m_ =>
  ((yr m_ n1).bind fun t_ =>
  (bif t_ then
   (wh m_).bind fun j =>
   some (decide ((out.length:Int)<j))
  else
   some false)).bind fun s1 =>
  (bif s1 then
   (mApp out ([n1]:List Int)).bind fun l =>
   (zK m_ n1 e).bind fun i =>
   si e m i.1 l i.2
  else
   some (out,m_))
def nU (k:Nat)(a_:za)(n:Int)(field:Int):Option ((List Int) × za) :=
 (si field k n ([]:List Int) a_).bind fun s =>
 some (s.1,s.2)
def wM (k:Nat)(a_:za)(r:Int):Option ((List Int) × za) :=
 (nU k a_ r 3).bind fun t_ =>
 some (t_.1,t_.2)
def uW (x:zp)(y:zp):Option (Int) :=
 some (if (if 1<w64 (x.rank - y.rank) then 1 else w64 (x.rank - y.rank)) > (-1) then (if 1<w64 (x.rank - y.rank) then 1 else w64 (x.rank - y.rank)) else (-1))
def ya (i:Int)(l:Int)(i1:Int):Nat->Int->(List zp)->Option ((List zp))
 | 0,_,_=>none
 | m+1,j,e =>
  ((bif decide (j > i) then
   (mIdx e j).bind fun x1 =>
   (mIdx e (w64 (j - 1))).bind fun x2 =>
   (uW x1 x2).bind fun t_ =>
   some (decide (t_<0))
  else
   some false)).bind fun s2 =>
  (bif s2 then
   (mIdx e (w64 (j - 1))).bind fun x3 =>
   (mIdx e j).bind fun x4 =>
   (mIdx e j).bind fun x5 =>
   (mIdx (mSet e j x3) (w64 (j - 1))).bind fun x6 =>
   ya i l i1 m (w64 (j - 1)) (mSet (mSet e j x3) (w64 (j - 1)) x4)
  else
   some e)
def zL (e:Int)(j:Int):Nat->Int->(List zp)->Option ((List zp))
 | 0,_,_=>none
 | m+1,i,m_ =>
  (bif decide (i<j) then
   (ya e j i m i m_).bind fun s1 =>
   zL e j m (w64 (i+1)) s1
  else
   some m_)
def zX (k:Nat)(data:List zp)(a_:Int)(b:Int):Option ((List zp)) :=
 (zL a_ b k (w64 (a_+1)) data).bind fun s =>
 (mJ s.length data.length).bind fun u =>
 some s
def yj (n1:Int):Nat->Int->Int->(List zp)->Option (Int × (List zp))
 | 0,_,_,_=>none
 | m+1,a_,b,m_ =>
  (bif decide (b<=n1) then
   (zX m m_ a_ b).bind fun t_ =>
   yj n1 m b (w64 (b+20)) t_
  else
   some (a_,m_))
def we (l:Int)(e:Int)(t:List zp):Nat->Int->Int->Option (Int)
 | 0,_,_=>none
 | m+1,i,j =>
  (bif decide (j<=l) then
   none
  else
   some i)
def yq (i:Int)(l:List zp):Nat->Int->Option (Unit)
 | 0,_=>none
 | m+1,e =>
  (bif decide (e<i) then
   (we i e l m 0 (w64 (2*e))).bind fun s2 =>
   ((bif decide (w64 (s2+e)<i) then
    none
   else
    some ())).bind fun j =>
   yq i l m (w64 (e*2))
  else
   some ())
def xx (k:Nat)(data:List zp)(n:Int):Option ((List zp)) :=
 (yj n k 0 20 data).bind fun s =>
 (zX k s.2 s.1 n).bind fun e =>
 (yq n e k 20).bind fun s1 =>
 (mJ e.length data.length).bind fun u =>
 some e
def yM (k:Nat)(x:List zp):Option ((List zp)) :=
 (xx k x (x.length:Int)).bind fun t_ =>
 (mJ t_.length x.length).bind fun u =>
 some t_
def tv (a_:za)(n:Int)(up:Int):Option (za) :=
 (zK a_ up 1).bind fun t_ =>
 (zC t_.2 n 3 t_.1).bind fun e =>
 (zC e.2 n 0 up).bind fun i =>
 (zC i.2 up 1 n).bind fun j =>
 some j.2
def sy (k:Nat)(a_:za)(n:Int)(m_:Int)(rank:Int):Option (Int × za) :=
 (uC k a_ m_ n).bind fun t_ =>
 ((bif t_.1 then
  some (m_,n)
 else
  some (n,m_))).bind fun s =>
 (tv t_.2 s.2 s.1).bind fun e =>
 (zC e s.1 4 (w64 (rank+1))).bind fun i =>
 some (s.1,i.2)
def tC (i:List Int):Nat->Int->Int->za->Option (Int × za)
 | 0,_,_,_=>none
 | m+1,next,e,m_ =>
  (bif decide (e >= 0) then
   (mIdx i e).bind fun x =>
   (zC m_ x 3 next).bind fun t_ =>
   (mIdx i e).bind fun x1 =>
   (zC t_.2 x1 0 (-1)).bind fun j =>
   (mIdx i e).bind fun x2 =>
   tC i m x2 (w64 (e - 1)) j.2
  else
   some (next,m_))
def ml (k:Nat)(a_:za)(l:List Int):Option (Int × za) :=
 (tC l k (-1) (w64 ((l.length:Int) - 1)) a_).bind fun s =>
 some (s.1,s.2)
def uh (x1:Int)(e:List Int):Nat->(List zp)->Int->za->Option ((List zp) × za)
 | 0,_,_,_=>none
 | m+1,wait,x,m_ =>
  (bif decide (x<x1) then
   (mIdx e x).bind fun x2 =>
   (yd m_ x2 4).bind fun t_ =>
   (mApp wait ([zp.mk x2 t_.1]:List zp)).bind fun i =>
   uh x1 e m i (w64 (x+1)) t_.2
  else
   some (wait,m_))
def ui (j:List zp)(v_:Int)(e:Int)(t:List Int)(l:za)(u:List Int):Nat->Int->Option (Int)
 | 0,_=>none
 | m+1,i =>
  ((bif decide (i<(j.length:Int)) then
   (mIdx j i).bind fun x8 =>
   some (decide (x8.rank<e))
  else
   some false)).bind fun x =>
  (bif x then
   ui j v_ e t l u m (w64 (i+1))
  else
   some i)
def wT (l:List Int):Nat->(List zp)->(List Int)->za->Option ((List Int) × za)
 | 0,_,_,_=>none
 | m+1,e,out,j =>
  (bif decide ((e.length:Int) > 0) then
   (mIdx e 0).bind fun x3 =>
   ((bif (e.length:Int) == 1 then
    some true
   else
    (mIdx e 1).bind fun x5 =>
    some (x5.rank != x3.rank))).bind fun s2 =>
   (bif s2 then
    (mCut e 1 (e.length:Int)).bind fun x =>
    (mApp out ([x3.n]:List Int)).bind fun y =>
    wT l m x y j
   else
    (mIdx e 1).bind fun x6 =>
    (sy m j x3.n x6.n x3.rank).bind fun i =>
    (mCut e 2 (e.length:Int)).bind fun u =>
    (ui u ((zp.mk i.1 (w64 (x3.rank+1))).n) ((zp.mk i.1 (w64 (x3.rank+1))).rank) out i.2 l m 0).bind fun z =>
    (nc u z ([(zp.mk i.1 (w64 (x3.rank+1)))]:List zp)).bind fun t =>
    wT l m t out i.2)
  else
   some (out,j))
def vU (k:Nat)(a_:za)(l:List Int):Option (Int × za) :=
 (uh (l.length:Int) l k ([]:List zp) 0 a_).bind fun s =>
 (yM k s.1).bind fun i =>
 (wT l k i ([]:List Int) s.2).bind fun s1 =>
 (ml k s1.2 s1.1).bind fun e =>
 some (e.1,e.2)
def tG (k:Nat)(a_:za)(r:Int)(i:Int):Option (Int × Bool × za) :=
 (oB a_ i).bind fun t_ =>
 (bif !t_.2.1 then
  some (r,false,t_.2.2)
 else
  (wM k t_.2.2 r).bind fun e =>
  (mApp ([t_.1]:List Int) e.1).bind fun l =>
  (vU k e.2 l).bind fun j =>
  some (j.1,true,j.2))
def qD (a_:za)(n:Int)(m_:Int):Option (za) :=
 (zK a_ n 6).bind fun t_ =>
 (zK t_.2 m_ 6).bind fun e =>
 (oy e.2 n e.1).bind fun i =>
 (oy i m_ t_.1).bind fun j =>
 some j
def sv (k:Nat)(a_:za)(r:Int)(n:Int):Option (Int × za) :=
 ((bif r != (-1) then
  (zK a_ r 3).bind fun t_ =>
  some (t_.1,t_.2)
 else
  some ((-1),a_))).bind fun s =>
 (yd s.2 r 4).bind fun i =>
 ((bif s.1 == (-1) then
  some (true,i.2)
 else
  (yd i.2 s.1 4).bind fun t =>
  some (t.1 != i.1,t.2))).bind fun s1 =>
 (bif s1.1 then
  (zC s1.2 n 3 r).bind fun x =>
  (zC x.2 n 0 (-1)).bind fun y =>
  some (n,y.2)
 else
  (zK s1.2 s.1 3).bind fun u =>
  (sy k u.2 r s.1 i.1).bind fun e =>
  (uC k e.2 n e.1).bind fun j =>
  ((bif j.1 then
   (qD j.2 n e.1).bind fun z =>
   some z
  else
   some j.2)).bind fun s2 =>
  (tv s2 n e.1).bind fun A =>
  (zC A e.1 3 u.1).bind fun l =>
  some (e.1,l.2))
def og (k:Nat)(a_:za)(r:Int)(i:Int):Option (Int × Bool × za) :=
 (oB a_ i).bind fun t_ =>
 (bif !t_.2.1 then
  some (r,false,t_.2.2)
 else
  (sv k t_.2.2 r t_.1).bind fun e =>
  some (e.1,true,e.2))
def eQ (a_:za)(r:Int)(i:Int):Option (Int × Bool) :=
 none
def lh (a_:za)(r:Int)(i:Int):Option (Int × Bool) :=
 none
def nO (k:Nat)(l:Int)(a_:za)(r:Int)(i:Int):Option (Int × Bool × za) :=
 (bif l == 1 then
  (qh k a_ r i).bind fun t_ =>
  some (t_.1,t_.2.1,t_.2.2)
 else
  (bif l == 2 then
   (tG k a_ r i).bind fun e =>
   some (e.1,e.2.1,e.2.2)
  else
   (bif l == 3 then
    (og k a_ r i).bind fun j =>
    some (j.1,j.2.1,j.2.2)
   else
    (bif l == 4 then
     (eQ a_ r i).bind fun t =>
     some (t.1,t.2,a_)
    else
     (bif l == 5 then
      (lh a_ r i).bind fun u =>
      some (u.1,u.2,a_)
     else
      some (r,false,a_))))))
def wQ (p:ze):Option (Int) :=
 some p.most
def yI (p:ze)(v_:zD):Option (zd × Bool × ze) :=
 ((bif decide (w64 ((p.free.length:Int) - 1) >= 0) then
  (mIdx p.free (w64 ((p.free.length:Int) - 1))).bind fun x =>
  (mCut p.free 0 (w64 ((p.free.length:Int) - 1))).bind fun l =>
  some (.inr (x,ze.mk p.most p.l l))
 else
  (bif decide ((p.l.length:Int) >= p.most) then
   some (.inl (zd.mk 0 0,false,p))
  else
   (mApp p.l ([zs.mk 0 false (zD.mk 0 (zd.mk 0 0))]:List zs)).bind fun e =>
   some (.inr ((p.l.length:Int),ze.mk p.most e p.free)))):Option ((zd × Bool × ze) ⊕ (Int × ze))).bind fun s =>
 match s with
 | .inl i=>some i
 | .inr s1 =>
  (mIdx s1.2.l s1.1).bind fun x1 =>
  some (zd.mk s1.1 (w64 (x1.gen+1)),true,ze.mk s1.2.most (mSet (mSet (mSet s1.2.l s1.1 (zs.mk (w64 (x1.gen+1)) x1.taken x1.v_)) s1.1 (zs.mk (w64 (x1.gen+1)) true x1.v_)) s1.1 (zs.mk (w64 (x1.gen+1)) true v_)) s1.2.free)
def tQ (t_:zm)(t:zd)(cell:Int):Option (zd × Int × zm) :=
 (yH t_.heaps t).bind fun i =>
 (bif i.2 != 0 then
  some (zd.mk 0 0,i.2,t_)
 else
  (qZ kI cell (zd.mk 0 0) t_.at_).bind fun x =>
  (xe t_.items).bind fun j =>
  (wQ t_.items).bind fun l =>
  (bif j == l then
   some (zd.mk 0 0,13,t_)
  else
   (bif x.2 then
    some (zd.mk 0 0,1,t_)
   else
    (yI t_.items (zD.mk cell t)).bind fun e =>
    some (e.1,0,zm.mk ((zm.mk t_.heaps e.2.2 t_.at_).heaps) ((zm.mk t_.heaps e.2.2 t_.at_).items) (mPut kI cell e.1 ((zm.mk t_.heaps e.2.2 t_.at_).at_))))))
def xJ (p:zi)(r:zd)(v_:zG):Option (Int × zi) :=
 (xd p r).bind fun t_ =>
 (uA t_.1
  (((bif t_.2 == 0 then
   none
  else
   some ())).bind fun s =>
  some (t_.2,p))
  (fun i =>
  (mIdx p.l i).bind fun x =>
  ((bif t_.2 == 0 then
   some (zi.mk p.most (mSet p.l i (zA.mk x.gen x.taken v_)) p.free)
  else
   some p)).bind fun s1 =>
  some (t_.2,s1)))
def xF (t_:zm)(j:zd)(r:Int)(n:Int):Option (Int × zm) :=
 (yH t_.heaps j).bind fun e =>
 ((bif e.2 == 0 then
  (xJ t_.heaps j (zG.mk e.1.kind r n)).bind fun i =>
  some (zm.mk i.2 t_.items t_.at_)
 else
  some t_)).bind fun s =>
 some (e.2,s)
def uY (k:Nat)(q:zr)(c_:yk):Option (zR × zr) :=
 (xq q.t_ c_.Heap).bind fun t_ =>
 (bif t_.2.2.2 != 0 then
  (ue t_.2.2.2).bind fun l =>
  some (l,q)
 else
  (uJ q.t_).bind fun t =>
  (bif decide (t >= q.items) then
   (ue 13).bind fun u =>
   some (u,q)
  else
   (lq q.a_ c_.Key q.serial).bind fun j =>
   (nO k t_.1 j.2.2 t_.2.1 j.1).bind fun i =>
   (tQ q.t_ c_.Heap j.1).bind fun e =>
   (xF ((zr.mk q.items i.2.2 e.2.2 q.entries q.serial).t_) c_.Heap i.1 (w64 (t_.2.2.1+1))).bind fun x =>
   some (zR.mk 0 (zd.mk 0 0) e.1 (zJ.mk c_.Key q.serial) 0,zr.mk ((zr.mk q.items i.2.2 e.2.2 q.entries q.serial).items) ((zr.mk q.items i.2.2 e.2.2 q.entries q.serial).a_) x.2 (mPut zd.eq e.1 (zJ.mk c_.Key q.serial) ((zr.mk q.items i.2.2 e.2.2 q.entries q.serial).entries)) (w64 (((zr.mk q.items i.2.2 e.2.2 q.entries q.serial).serial)+1)))))
def qW (a_:za)(r:Int):Option (Int × za) :=
 (zK a_ r 6).bind fun t_ =>
 some (t_.1,t_.2)
def vr (x1:Int)(i:List Int):Nat->Int->Int->za->Option (Int × za)
 | 0,_,_,_=>none
 | m+1,e,x,m_ =>
  (bif decide (x<x1) then
   ((mIdx i x).bind fun x2 =>
   ((bif e == (-1) then
    some (true,m_)
   else
    (uC m m_ x2 e).bind fun t_ =>
    some (t_.1,t_.2))).bind fun s2 =>
   (bif s2.1 then
    some (x2,s2.2)
   else
    some (e,s2.2))).bind fun s1 =>
   vr x1 i m s1.1 (w64 (x+1)) s1.2
  else
   some (e,m_))
def ug (k:Nat)(a_:za)(l:List Int):Option (Int × za) :=
 (vr (l.length:Int) l k (-1) 0 a_).bind fun s =>
 some (s.1,s.2)
def sI (k:Nat)(a_:za)(r:Int):Option (Int × za) :=
 (wM k a_ r).bind fun t_ =>
 (ug k t_.2 t_.1).bind fun e =>
 (zK e.2 e.1 6).bind fun i =>
 some (i.1,i.2)
def mf (k:Nat)(a_:za)(r:Int):Option (Int × za) :=
 (wM k a_ r).bind fun t_ =>
 (ug k t_.2 t_.1).bind fun e =>
 (zK e.2 e.1 6).bind fun i =>
 some (i.1,i.2)
def bE (a_:za)(r:Int):Option (Int) :=
 none
def kl (a_:za)(r:Int):Option (Int) :=
 none
def lv (k:Nat)(e:Int)(a_:za)(r:Int):Option (Int × za) :=
 (bif e == 1 then
  (qW a_ r).bind fun t_ =>
  some (t_.1,t_.2)
 else
  (bif e == 2 then
   (sI k a_ r).bind fun i =>
   some (i.1,i.2)
  else
   (bif e == 3 then
    (mf k a_ r).bind fun j =>
    some (j.1,j.2)
   else
    (bif e == 4 then
     (bE a_ r).bind fun l =>
     some (l,a_)
    else
     (bif e == 5 then
      (kl a_ r).bind fun t =>
      some (t,a_)
     else
      some ((-1),a_))))))
def uS (t_:zm)(cell:Int):Option (zd × Bool) :=
 (qZ kI cell (zd.mk 0 0) t_.at_).bind fun x =>
 some (x.1,x.2)
def pQ (k:Nat)(a_:za)(n:Int):Option (Int × za) :=
 (zK a_ n 2).bind fun t_ =>
 (zK t_.2 n 3).bind fun e =>
 (vN k e.2 t_.1 e.1).bind fun i =>
 some (i.1,i.2)
def vW (a_:za)(c_:Int):Option (Bool × za) :=
 (xE a_.m_ 1).bind fun t_ =>
 (yr (za.mk a_.l a_.never a_.free t_) c_).bind fun e =>
 (bif !e then
  some (false,za.mk a_.l a_.never a_.free t_)
 else
  (mIdx a_.l c_).bind fun x =>
  (mApp a_.free ([c_]:List Int)).bind fun l =>
  some (true,za.mk (mSet a_.l c_ (zy.mk x.f0 x.f1 x.f2 x.f3 x.f4 x.f5 x.f6 x.f7 x.f8 x.f9 false)) a_.never l t_))
def pe (a_:za)(n:Int):Option (Int × za) :=
 (zK a_ n 6).bind fun t_ =>
 (zC t_.2 t_.1 9 (-1)).bind fun e =>
 (vW e.2 n).bind fun i =>
 some (t_.1,i.2)
def tj (k:Nat)(a_:za)(r:Int):Option (Int × Int × za) :=
 ((yr a_ r).bind fun t_ =>
 some (!t_)).bind fun s =>
 (bif s then
  some ((-1),(-1),a_)
 else
  (pQ k a_ r).bind fun e =>
  (zC e.2 e.1 0 (-1)).bind fun j =>
  (pe j.2 r).bind fun i =>
  some (e.1,i.1,i.2))
def wW (x:Int)(v_:Int):Option (Bool) :=
 some (x == v_)
def yf (x1:Int)(l:List Int)(e:Int):Nat->Int->Option ((Int) ⊕ (Unit))
 | 0,_=>none
 | m+1,x =>
  (bif decide (x<x1) then
   (mIdx l x).bind fun x2 =>
   (wW x2 e).bind fun t_ =>
   (bif t_ then
    some (.inl x)
   else
    yf x1 l e m (w64 (x+1)))
  else
   some (.inr ()))
def wy (k:Nat)(s:List Int)(v_:Int):Option (Int) :=
 (yf (s.length:Int) s v_ k 0).bind fun s1 =>
 match s1 with
 | .inl e=>some e
 | .inr s2 =>
  some (-1)
def yn (e:Int):Nat->Int->Int->(List Int)->Option (Int × (List Int))
 | 0,_,_,_=>none
 | m+1,i,j,m_ =>
  (bif decide (j<(m_.length:Int)) then
   ((mIdx m_ j).bind fun x =>
   (wW x e).bind fun l =>
   (bif !l then
    (mIdx m_ i).bind fun x1 =>
    some (w64 (i+1),mSet m_ i x)
   else
    some (i,m_))).bind fun s2 =>
   yn e m s2.1 (w64 (j+1)) s2.2
  else
   some (i,m_))
def xy (k:Nat)(s:List Int)(v_:Int):Option ((List Int)) :=
 (wy k s v_).bind fun t_ =>
 (bif t_ == (-1) then
  some s
 else
  (yn v_ k t_ (w64 (t_+1)) s).bind fun s1 =>
  (mCut s1.2 s1.1 (s1.2.length:Int)).bind fun l =>
  (mCut (py s1.2 s1.1 0) 0 s1.1).bind fun e =>
  some e)
def rC (k:Nat)(a_:za)(n:Int):Option ((List Int) × za) :=
 (zK a_ n 1).bind fun t_ =>
 (nU k t_.2 t_.1 3).bind fun e =>
 some (e.1,e.2)
def xO (k:Nat)(a_:za)(l:List Int)(n:Int):Option (Int × Int × za) :=
 (xy k l n).bind fun t_ =>
 (rC k a_ n).bind fun e =>
 (mApp t_ e.1).bind fun t =>
 (pe e.2 n).bind fun i =>
 (vU k i.2 t).bind fun j =>
 some (j.1,i.1,j.2)
def sJ (k:Nat)(a_:za)(r:Int):Option (Int × Int × za) :=
 ((yr a_ r).bind fun t_ =>
 some (!t_)).bind fun s =>
 (bif s then
  some ((-1),(-1),a_)
 else
  (wM k a_ r).bind fun e =>
  (ug k e.2 e.1).bind fun j =>
  (xO k j.2 e.1 j.1).bind fun i =>
  some (i.1,i.2.1,i.2.2))
def uE (x:Int)(v_:Int):Option (Bool) :=
 some (x == v_)
def yg (x1:Int)(l:List Int)(e:Int):Nat->Int->Option ((Int) ⊕ (Unit))
 | 0,_=>none
 | m+1,x =>
  (bif decide (x<x1) then
   (mIdx l x).bind fun x2 =>
   (uE x2 e).bind fun t_ =>
   (bif t_ then
    some (.inl x)
   else
    yg x1 l e m (w64 (x+1)))
  else
   some (.inr ()))
def wz (k:Nat)(s:List Int)(v_:Int):Option (Int) :=
 (yg (s.length:Int) s v_ k 0).bind fun s1 =>
 match s1 with
 | .inl e=>some e
 | .inr s2 =>
  some (-1)
def yo (e:Int):Nat->Int->Int->(List Int)->Option (Int × (List Int))
 | 0,_,_,_=>none
 | m+1,i,j,m_ =>
  (bif decide (j<(m_.length:Int)) then
   ((mIdx m_ j).bind fun x =>
   (uE x e).bind fun l =>
   (bif !l then
    (mIdx m_ i).bind fun x1 =>
    some (w64 (i+1),mSet m_ i x)
   else
    some (i,m_))).bind fun s2 =>
   yo e m s2.1 (w64 (j+1)) s2.2
  else
   some (i,m_))
def xz (k:Nat)(s:List Int)(v_:Int):Option ((List Int)) :=
 (wz k s v_).bind fun t_ =>
 (bif t_ == (-1) then
  some s
 else
  (yo v_ k t_ (w64 (t_+1)) s).bind fun s1 =>
  (mCut s1.2 s1.1 (s1.2.length:Int)).bind fun l =>
  (mCut (py s1.2 s1.1 0) 0 s1.1).bind fun e =>
  some e)
def wE (x1:Int)(i:List Int)(v_:Int):Nat->(List Int)->(List Int)->Int->za->Option ((List Int) × (List Int) × za)
 | 0,_,_,_,_=>none
 | m+1,rest,alone,x,m_ =>
  (bif decide (x<x1) then
   ((mIdx i x).bind fun x2 =>
   (yd m_ x2 4).bind fun e =>
   (bif e.1 == 0 then
    (mApp alone ([x2]:List Int)).bind fun j =>
    some (rest,j,e.2)
   else
    (mApp rest ([x2]:List Int)).bind fun l =>
    some (l,alone,e.2))).bind fun s1 =>
   wE x1 i v_ m s1.1 s1.2.1 (w64 (x+1)) s1.2.2
  else
   some (rest,alone,m_))
def wF (i:Int)(x4:Int)(l:List Int):Nat->Int->Int->za->Option (Int × za)
 | 0,_,_,_=>none
 | m+1,t,x3,e =>
  (bif decide (x3<x4) then
   (mIdx l x3).bind fun x5 =>
   (sv m e t x5).bind fun j =>
   wF i x4 l m j.1 (w64 (x3+1)) j.2
  else
   some (t,e))
def vO (k:Nat)(a_:za)(l:List Int)(n:Int):Option (Int × Int × za) :=
 (xz k l n).bind fun t_ =>
 (rC k a_ n).bind fun e =>
 (wE (e.1.length:Int) e.1 n k t_ ([]:List Int) 0 e.2).bind fun s =>
 (pe s.2.2 n).bind fun i =>
 (vU k i.2 s.1).bind fun j =>
 (wF i.1 (s.2.1.length:Int) s.2.1 k j.1 0 j.2).bind fun s2 =>
 some (s2.1,i.1,s2.2)
def mg (k:Nat)(a_:za)(r:Int):Option (Int × Int × za) :=
 ((yr a_ r).bind fun t_ =>
 some (!t_)).bind fun s =>
 (bif s then
  some ((-1),(-1),a_)
 else
  (wM k a_ r).bind fun e =>
  (ug k e.2 e.1).bind fun j =>
  (vO k j.2 e.1 j.1).bind fun i =>
  some (i.1,i.2.1,i.2.2))
def bF (a_:za)(r:Int):Option (Int × Int) :=
 none
def km (a_:za)(r:Int):Option (Int × Int) :=
 none
def lx (k:Nat)(j:Int)(a_:za)(r:Int):Option (Int × Int × za) :=
 (bif j == 1 then
  (tj k a_ r).bind fun t_ =>
  some (t_.1,t_.2.1,t_.2.2)
 else
  (bif j == 2 then
   (sJ k a_ r).bind fun e =>
   some (e.1,e.2.1,e.2.2)
  else
   (bif j == 3 then
    (mg k a_ r).bind fun i =>
    some (i.1,i.2.1,i.2.2)
   else
    (bif j == 4 then
     (bF a_ r).bind fun l =>
     some (l.1,l.2,a_)
    else
     (bif j == 5 then
      (km a_ r).bind fun t =>
      some (t.1,t.2,a_)
     else
      some ((-1),(-1),a_))))))
def yX (p:ze)(r:zd):Option ((Option Int) × Int) :=
 ((bif decide (r.At<0) then
  some true
 else
  (bif decide (r.At >= (p.l.length:Int)) then
   some true
  else
   (bif decide (r.Gen<1) then
    some true
   else
    (mIdx p.l r.At).bind fun x1 =>
    some (decide (r.Gen > x1.gen)))))).bind fun s =>
 (bif s then
  some ((none:Option Int),22)
 else
  (mIdx p.l r.At).bind fun x2 =>
  (bif (decide (r.Gen<x2.gen)) || (!x2.taken) then
   some ((none:Option Int),23)
  else
   some ((some r.At:Option Int),0)))
def xX (p:ze)(r:zd):Option (zD × Int × ze) :=
 (yX p r).bind fun t_ =>
 (uA t_.1
  ((bif t_.2 != 0 then
   some (zD.mk 0 (zd.mk 0 0),t_.2,p)
  else
   none))
  (fun i =>
  (mIdx p.l i).bind fun x =>
  (bif t_.2 != 0 then
   some (zD.mk 0 (zd.mk 0 0),t_.2,p)
  else
   (mApp p.free ([r.At]:List Int)).bind fun l =>
   some (x.v_,0,ze.mk p.most (mSet (mSet p.l i (zs.mk x.gen false x.v_)) i (zs.mk x.gen false (zD.mk 0 (zd.mk 0 0)))) l))))
def sX (t_:zm)(i:zd):Option (Int × Int × zm) :=
 (xX t_.items i).bind fun e =>
 ((bif e.2.1 == 0 then
  some (zm.mk ((zm.mk t_.heaps e.2.2 t_.at_).heaps) ((zm.mk t_.heaps e.2.2 t_.at_).items) (mDel kI e.1.cell ((zm.mk t_.heaps e.2.2 t_.at_).at_)))
 else
  some (zm.mk t_.heaps e.2.2 t_.at_))).bind fun s =>
 some (e.1.cell,e.2.1,s)
def uR (q:zr)(i:zd):Option (zJ × zr) :=
 (sX q.t_ i).bind fun t_ =>
 (vW q.a_ t_.1).bind fun e =>
 (qZ zd.eq i (zJ.mk 0 0) q.entries).bind fun x =>
 some (x.1,zr.mk q.items e.2 t_.2.2 (mDel zd.eq i q.entries) q.serial)
def vS (k:Nat)(q:zr)(A:zd)(out:Bool):Option (zR × zr) :=
 (xq q.t_ A).bind fun t_ =>
 (bif t_.2.2.2 != 0 then
  (ue t_.2.2.2).bind fun u =>
  some (u,q)
 else
  (bif t_.2.2.1 == 0 then
   (ue 27).bind fun y =>
   some (y,q)
  else
   (bif !out then
    (lv k t_.1 q.a_ t_.2.1).bind fun e =>
    (uS q.t_ e.1).bind fun j =>
    (qZ zd.eq j.1 (zJ.mk 0 0) ((zr.mk q.items e.2 q.t_ q.entries q.serial).entries)).bind fun x =>
    some (zR.mk 0 (zd.mk 0 0) j.1 x.1 0,(zr.mk q.items e.2 q.t_ q.entries q.serial))
   else
    (lx k t_.1 q.a_ t_.2.1).bind fun i =>
    (uS q.t_ i.2.1).bind fun l =>
    (xF q.t_ A i.1 (w64 (t_.2.2.1 - 1))).bind fun z =>
    (uR (zr.mk q.items i.2.2 z.2 q.entries q.serial) l.1).bind fun t =>
    some (zR.mk 0 (zd.mk 0 0) l.1 t.1 0,t.2))))
def yu (p:ze)(r:zd):Option (zD × Int) :=
 (yX p r).bind fun t_ =>
 (uA t_.1
  ((bif t_.2 != 0 then
   some (zD.mk 0 (zd.mk 0 0),t_.2)
  else
   none))
  (fun i =>
  (mIdx p.l i).bind fun x =>
  (bif t_.2 != 0 then
   some (zD.mk 0 (zd.mk 0 0),t_.2)
  else
   some (x.v_,0))))
def ua (t_:zm)(i:zd):Option (Int × Int) :=
 (yu t_.items i).bind fun e =>
 some (e.1.cell,e.2)
def uT (t_:zm)(i:zd):Option (zd × Int) :=
 (yu t_.items i).bind fun e =>
 some (e.1.heap,e.2)
def ry (a_:za)(i:Int)(key:Int):Option (Bool × za) :=
 ((yd a_ i 7).bind fun t_ =>
 some (decide (key > t_.1),t_.2)).bind fun s =>
 (bif s.1 then
  some (false,s.2)
 else
  (zC s.2 i 7 key).bind fun e =>
  some (e.1,e.2))
def uy (a_:za)(i:Int):Option (Int × za) :=
 (zK a_ i 9).bind fun t_ =>
 some (t_.1,t_.2)
def xD:Nat->Int->Int->za->Option (za)
 | 0,_,_,_=>none
 | m+1,p,l,m_ =>
  ((bif p != (-1) then
   (wh m_).bind fun j =>
   (bif decide (l<=j) then
    (rL m_ p).bind fun e =>
    some (e.1,e.2)
   else
    some (false,m_))
  else
   some (false,m_))).bind fun s2 =>
  (bif s2.1 then
   (zK s2.2 p 0).bind fun i =>
   xD m i.1 (w64 (l+1)) i.2
  else
   some s2.2)
def tL (k:Nat)(a_:za)(n:Int):Option (za) :=
 (zK a_ n 0).bind fun t_ =>
 (zK t_.2 t_.1 2).bind fun e =>
 ((bif e.1 == n then
  (zC e.2 t_.1 2 (-1)).bind fun j =>
  some j.2
 else
  (zK e.2 t_.1 3).bind fun i =>
  (bif i.1 == n then
   (zC i.2 t_.1 3 (-1)).bind fun l =>
   some l.2
  else
   some i.2))).bind fun s =>
 (zC s n 0 (-1)).bind fun t =>
 (xD k t_.1 0 t.2).bind fun s1 =>
 some s1
def qf (k:Nat)(a_:za)(r:Int)(i:Int):Option (Int × za) :=
 (uy a_ i).bind fun t_ =>
 ((bif t_.1 == (-1) then
  some (true,t_.2)
 else
  (bif t_.1 == r then
   some (true,t_.2)
  else
   (zK t_.2 t_.1 0).bind fun e =>
   some (e.1 == (-1),e.2)))).bind fun s =>
 (bif s.1 then
  some (r,s.2)
 else
  (tL k s.2 t_.1).bind fun l =>
  (vN k l r t_.1).bind fun j =>
  some (j.1,j.2))
def vV (i:Bool):Nat->Int->Int->za->Option (Int × za)
 | 0,_,_,_=>none
 | m+1,n,u,m_ =>
  ((bif n != (-1) then
   (wh m_).bind fun l =>
   some (decide (u<=l))
  else
   some false)).bind fun s1 =>
  (bif s1 then
   (zK m_ n 0).bind fun e =>
   ((bif e.1 == (-1) then
    some (true,e.2)
   else
    (bif !i then
     (uC m e.2 n e.1).bind fun j =>
     some (!j.1,j.2)
    else
     some (false,e.2)))).bind fun s2 =>
   (bif s2.1 then
    some (n,s2.2)
   else
    (qD s2.2 n e.1).bind fun t =>
    vV i m e.1 (w64 (u+1)) t)
  else
   some (n,m_))
def sA (k:Nat)(a_:za)(i:Int)(any:Bool):Option (Int × za) :=
 (uy a_ i).bind fun t_ =>
 (vV any k t_.1 0 t_.2).bind fun s =>
 some (s.1,s.2)
def tE (k:Nat)(a_:za)(r:Int)(i:Int):Option (Int × za) :=
 (sA k a_ i false).bind fun t_ =>
 some (r,t_.2)
def oc (k:Nat)(a_:za)(r:Int)(i:Int):Option (Int × za) :=
 (sA k a_ i false).bind fun t_ =>
 some (r,t_.2)
def eO (a_:za)(r:Int)(i:Int):Option (Int) :=
 none
def lf (a_:za)(r:Int)(i:Int):Option (Int) :=
 none
def nL (k:Nat)(e:Int)(a_:za)(r:Int)(i:Int):Option (Int × za) :=
 (bif e == 1 then
  (qf k a_ r i).bind fun t_ =>
  some (t_.1,t_.2)
 else
  (bif e == 2 then
   (tE k a_ r i).bind fun j =>
   some (j.1,j.2)
  else
   (bif e == 3 then
    (oc k a_ r i).bind fun l =>
    some (l.1,l.2)
   else
    (bif e == 4 then
     (eO a_ r i).bind fun t =>
     some (t,a_)
    else
     (bif e == 5 then
      (lf a_ r i).bind fun u =>
      some (u,a_)
     else
      some (r,a_))))))
def uu (k:Nat)(q:zr)(c_:yk):Option (zR × zr) :=
 (ua q.t_ c_.Item).bind fun t_ =>
 (qZ zd.eq c_.Item (zJ.mk 0 0) q.entries).bind fun x =>
 (bif t_.2 != 0 then
  (ue t_.2).bind fun l =>
  some (l,q)
 else
  (bif decide (c_.Key > x.1.Key) then
   (ue 26).bind fun t =>
   some (t,q)
  else
   (uT q.t_ c_.Item).bind fun i =>
   (xq q.t_ i.1).bind fun e =>
   (ry q.a_ t_.1 c_.Key).bind fun u =>
   (nL k e.1 u.2 e.2.1 t_.1).bind fun j =>
   (xF q.t_ i.1 j.1 e.2.2.1).bind fun y =>
   some (zR.mk 0 (zd.mk 0 0) (zd.mk 0 0) (zJ.mk c_.Key x.1.Serial) 0,zr.mk q.items j.2 y.2 (mPut zd.eq c_.Item (zJ.mk c_.Key x.1.Serial) q.entries) q.serial)))
def qV (k:Nat)(a_:za)(r:Int)(i:Int):Option (Int × za) :=
 (uy a_ i).bind fun t_ =>
 (bif t_.1 == (-1) then
  some (r,t_.2)
 else
  ((bif t_.1 == r then
   some (true,t_.2)
  else
   (zK t_.2 t_.1 0).bind fun e =>
   some (e.1 == (-1),e.2))).bind fun s =>
  (bif s.1 then
   (tj k s.2 t_.1).bind fun j =>
   some (j.1,j.2.2)
  else
   (tL k s.2 t_.1).bind fun u =>
   (tj k u t_.1).bind fun l =>
   (vN k l.2.2 r l.1).bind fun t =>
   some (t.1,t.2)))
def vd (e:Int)(x1:Int)(l:List Int):Nat->Int->Option ((Int) ⊕ (Unit))
 | 0,_=>none
 | m+1,x =>
  (bif decide (x<x1) then
   (mIdx l x).bind fun x2 =>
   (bif e == x2 then
    some (.inl x)
   else
    vd e x1 l m (w64 (x+1)))
  else
   some (.inr ()))
def sV (k:Nat)(s:List Int)(v_:Int):Option (Int) :=
 (vd v_ (s.length:Int) s k 0).bind fun s1 =>
 match s1 with
 | .inl e=>some e
 | .inr s2 =>
  some (-1)
def vc (k:Nat)(s:List Int)(v_:Int):Option (Bool) :=
 (sV k s v_).bind fun t_ =>
 some (decide (t_ >= 0))
def sH (k:Nat)(a_:za)(r:Int)(i:Int):Option (Int × za) :=
 (uy a_ i).bind fun t_ =>
 (bif t_.1 == (-1) then
  some (r,t_.2)
 else
  (sA k t_.2 i true).bind fun j =>
  (wM k j.2 r).bind fun e =>
  (vc k e.1 j.1).bind fun t =>
  (bif !t then
   some (r,e.2)
  else
   (xO k e.2 e.1 j.1).bind fun l =>
   some (l.1,l.2.2)))
def me (k:Nat)(a_:za)(r:Int)(i:Int):Option (Int × za) :=
 (uy a_ i).bind fun t_ =>
 (bif t_.1 == (-1) then
  some (r,t_.2)
 else
  (sA k t_.2 i true).bind fun j =>
  (wM k j.2 r).bind fun e =>
  (vc k e.1 j.1).bind fun t =>
  (bif !t then
   some (r,e.2)
  else
   (vO k e.2 e.1 j.1).bind fun l =>
   some (l.1,l.2.2)))
def bD (a_:za)(r:Int)(i:Int):Option (Int) :=
 none
def kj (a_:za)(r:Int)(i:Int):Option (Int) :=
 none
def lu (k:Nat)(e:Int)(a_:za)(r:Int)(i:Int):Option (Int × za) :=
 (bif e == 1 then
  (qV k a_ r i).bind fun t_ =>
  some (t_.1,t_.2)
 else
  (bif e == 2 then
   (sH k a_ r i).bind fun j =>
   some (j.1,j.2)
  else
   (bif e == 3 then
    (me k a_ r i).bind fun l =>
    some (l.1,l.2)
   else
    (bif e == 4 then
     (bD a_ r i).bind fun t =>
     some (t,a_)
    else
     (bif e == 5 then
      (kj a_ r i).bind fun u =>
      some (u,a_)
     else
      some (r,a_))))))
def uZ (k:Nat)(q:zr)(i:zd):Option (zR × zr) :=
 (ua q.t_ i).bind fun t_ =>
 (bif t_.2 != 0 then
  (ue t_.2).bind fun u =>
  some (u,q)
 else
  (uT q.t_ i).bind fun j =>
  (xq q.t_ j.1).bind fun e =>
  (lu k e.1 q.a_ e.2.1 t_.1).bind fun l =>
  (xF q.t_ j.1 l.1 (w64 (e.2.2.1 - 1))).bind fun x =>
  (uR (zr.mk q.items l.2 x.2 q.entries q.serial) i).bind fun t =>
  some (zR.mk 0 (zd.mk 0 0) (zd.mk 0 0) t.1 0,t.2))
def yO (x1:Int)(m_:ze):Nat->(List zd)->Int->Option ((List zd))
 | 0,_,_=>none
 | m+1,out,x =>
  (bif decide (x<x1) then
   ((mIdx m_.l x).bind fun x2 =>
   (bif x2.taken then
    (mApp out ([zd.mk x x2.gen]:List zd)).bind fun l =>
    some l
   else
    some out)).bind fun s1 =>
   yO x1 m_ m s1 (w64 (x+1))
  else
   some out)
def wv (k:Nat)(p:ze):Option ((List zd)) :=
 (yO (p.l.length:Int) p k ([]:List zd) 0).bind fun s =>
 some s
def wk (x1:Int)(m_:zm)(l:List zd)(v_:Int)(e:Int):Nat->(List zd)->Int->Option ((List zd))
 | 0,_,_=>none
 | m+1,out,x =>
  (bif decide (x<x1) then
   ((mIdx l x).bind fun x2 =>
   (yu m_.items x2).bind fun i =>
   (bif zd.eq i.1.heap (zd.mk v_ e) then
    (mApp out ([x2]:List zd)).bind fun j =>
    some j
   else
    some out)).bind fun s1 =>
   wk x1 m_ l v_ e m s1 (w64 (x+1))
  else
   some out)
def td (k:Nat)(t_:zm)(i:zd):Option ((List zd)) :=
 (wv k t_.items).bind fun e =>
 (wk (e.length:Int) t_ e i.At i.Gen k ([]:List zd) 0).bind fun s =>
 some s
def wx (p:ze)(r:zd)(v_:zD):Option (Int × ze) :=
 (yX p r).bind fun t_ =>
 (uA t_.1
  (((bif t_.2 == 0 then
   none
  else
   some ())).bind fun s =>
  some (t_.2,p))
  (fun i =>
  (mIdx p.l i).bind fun x =>
  ((bif t_.2 == 0 then
   some (ze.mk p.most (mSet p.l i (zs.mk x.gen x.taken v_)) p.free)
  else
   some p)).bind fun s1 =>
  some (t_.2,s1)))
def wu (p:zi)(r:zd):Option (zG × Int × zi) :=
 (xd p r).bind fun t_ =>
 (uA t_.1
  ((bif t_.2 != 0 then
   some (zG.mk 0 0 0,t_.2,p)
  else
   none))
  (fun i =>
  (mIdx p.l i).bind fun x =>
  (bif t_.2 != 0 then
   some (zG.mk 0 0 0,t_.2,p)
  else
   (mApp p.free ([r.At]:List Int)).bind fun l =>
   some (x.v_,0,zi.mk p.most (mSet (mSet p.l i (zA.mk x.gen false x.v_)) i (zA.mk x.gen false (zG.mk 0 0 0))) l))))
def wj (x1:Int)(l:List zd)(v_:Int)(u:Int)(e:Int)(i:Int):Nat->Int->zm->Option (zm)
 | 0,_,_=>none
 | m+1,x,m_ =>
  (bif decide (x<x1) then
   (mIdx l x).bind fun x2 =>
   (yu m_.items x2).bind fun j =>
   (wx m_.items x2 (zD.mk j.1.cell (zd.mk e i))).bind fun t =>
   wj x1 l v_ u e i m (w64 (x+1)) (zm.mk m_.heaps t.2 m_.at_)
  else
   some m_)
def tc (k:Nat)(t_:zm)(t:zd)(o:zd):Option (Int × zm) :=
 (yH t_.heaps t).bind fun e =>
 (bif e.2 != 0 then
  some (e.2,t_)
 else
  (yH t_.heaps o).bind fun i =>
  (bif i.2 != 0 then
   some (i.2,t_)
  else
   (bif zd.eq t o then
    some (25,t_)
   else
    (bif e.1.kind != i.1.kind then
     some (24,t_)
    else
     (td k t_ o).bind fun j =>
     (wj (j.length:Int) j o.At o.Gen t.At t.Gen k 0 t_).bind fun s =>
     (wu s.heaps o).bind fun l =>
     some (l.2.1,zm.mk l.2.2 s.items s.at_)))))
def qg (k:Nat)(a_:za)(r:Int)(s:Int):Option (Int × za) :=
 (vN k a_ r s).bind fun t_ =>
 some (t_.1,t_.2)
def tF (k:Nat)(a_:za)(r:Int)(s:Int):Option (Int × za) :=
 (bif r == s then
  some (r,a_)
 else
  (wM k a_ r).bind fun t_ =>
  (wM k t_.2 s).bind fun e =>
  (mApp t_.1 e.1).bind fun l =>
  (vU k e.2 l).bind fun i =>
  some (i.1,i.2))
def oe (k:Nat)(a_:za)(r:Int)(s:Int):Option (Int × za) :=
 (bif r == s then
  some (r,a_)
 else
  (wM k a_ r).bind fun t_ =>
  (wM k t_.2 s).bind fun e =>
  (mApp t_.1 e.1).bind fun l =>
  (vU k e.2 l).bind fun i =>
  some (i.1,i.2))
def eP (a_:za)(r:Int)(s:Int):Option (Int) :=
 none
def lg (a_:za)(r:Int)(s:Int):Option (Int) :=
 none
def nM (k:Nat)(e:Int)(a_:za)(r:Int)(s:Int):Option (Int × za) :=
 (bif e == 1 then
  (qg k a_ r s).bind fun t_ =>
  some (t_.1,t_.2)
 else
  (bif e == 2 then
   (tF k a_ r s).bind fun i =>
   some (i.1,i.2)
  else
   (bif e == 3 then
    (oe k a_ r s).bind fun j =>
    some (j.1,j.2)
   else
    (bif e == 4 then
     (eP a_ r s).bind fun l =>
     some (l,a_)
    else
     (bif e == 5 then
      (lg a_ r s).bind fun t =>
      some (t,a_)
     else
      some (r,a_))))))
def sF (k:Nat)(q:zr)(l:zd)(o:zd):Option (zR × zr) :=
 (xq q.t_ l).bind fun t_ =>
 (xq q.t_ o).bind fun i =>
 (tc k q.t_ l o).bind fun e =>
 (bif e.1 != 0 then
  (ue e.1).bind fun t =>
  some (t,zr.mk q.items q.a_ e.2 q.entries q.serial)
 else
  (nM k t_.1 q.a_ t_.2.1 i.2.1).bind fun j =>
  (xF e.2 l j.1 (w64 (t_.2.2.1+i.2.2.1))).bind fun u =>
  some (zR.mk 0 (zd.mk 0 0) (zd.mk 0 0) (zJ.mk 0 0) (w64 (t_.2.2.1+i.2.2.1)),zr.mk q.items j.2 u.2 q.entries q.serial))
def qI (q:zr)(e:zd):Option (zR) :=
 none
def yh (k:Nat)(q:zr)(c_:yk):Option (zR × zr) :=
 (sa q.a_).bind fun t_ =>
 (sg q.a_.m_).bind fun e =>
 (bif c_.Op == 1 then
  (te q.t_ c_.Kind).bind fun i =>
  some (zR.mk i.2.1 i.1 (zd.mk 0 0) (zJ.mk 0 0) 0,zr.mk q.items (za.mk q.a_.l q.a_.never q.a_.free e) i.2.2 q.entries q.serial)
 else
  (bif c_.Op == 2 then
   (uY k (zr.mk q.items (za.mk q.a_.l q.a_.never q.a_.free e) q.t_ q.entries q.serial) c_).bind fun u =>
   some (u.1,u.2)
  else
   (bif c_.Op == 3 then
    (vS k (zr.mk q.items (za.mk q.a_.l q.a_.never q.a_.free e) q.t_ q.entries q.serial) c_.Heap false).bind fun x =>
    some (x.1,x.2)
   else
    (bif c_.Op == 4 then
     (vS k (zr.mk q.items (za.mk q.a_.l q.a_.never q.a_.free e) q.t_ q.entries q.serial) c_.Heap true).bind fun y =>
     some (y.1,y.2)
    else
     (bif c_.Op == 5 then
      (uu k (zr.mk q.items (za.mk q.a_.l q.a_.never q.a_.free e) q.t_ q.entries q.serial) c_).bind fun z =>
      some (z.1,z.2)
     else
      (bif c_.Op == 6 then
       (uZ k (zr.mk q.items (za.mk q.a_.l q.a_.never q.a_.free e) q.t_ q.entries q.serial) c_.Item).bind fun A =>
       some (A.1,A.2)
      else
       (bif c_.Op == 7 then
        (sF k (zr.mk q.items (za.mk q.a_.l q.a_.never q.a_.free e) q.t_ q.entries q.serial) c_.Heap c_.Other).bind fun B =>
        some (B.1,B.2)
       else
        (bif c_.Op == 8 then
         (xq q.t_ c_.Heap).bind fun D =>
         some (zR.mk D.2.2.2 (zd.mk 0 0) (zd.mk 0 0) (zJ.mk 0 0) D.2.2.1,zr.mk q.items (za.mk q.a_.l q.a_.never q.a_.free e) q.t_ q.entries q.serial)
        else
         (bif c_.Op == 9 then
          (qI (zr.mk q.items (za.mk q.a_.l q.a_.never q.a_.free e) q.t_ q.entries q.serial) c_.Heap).bind fun j =>
          some (j,zr.mk q.items (za.mk q.a_.l q.a_.never q.a_.free e) q.t_ q.entries q.serial)
         else
          (ue 12).bind fun t =>
          some (t,zr.mk q.items (za.mk q.a_.l q.a_.never q.a_.free e) q.t_ q.entries q.serial))))))))))
def vk (k:Nat)(i:Int)(most:Int):Option ((Option zb) × Int) :=
 (vh i).bind fun t_ =>
 (bif !t_ then
  some ((none:Option zb),24)
 else
  (tx k i most).bind fun j =>
  (bif !j.2 then
   some ((none:Option zb),1)
  else
   (gF most).bind fun t =>
   (uA t.1
    ((nK most).bind fun y =>
    (nC).bind fun z =>
    (wV (yk.mk 1 i (zd.mk 0 0) (zd.mk 0 0) (zd.mk 0 0) 0)).bind fun A =>
    (wV (yk.mk 1 i (zd.mk 0 0) (zd.mk 0 0) (zd.mk 0 0) 0)).bind fun B =>
    none)
    (fun m_ =>
    (nK most).bind fun u =>
    (nC).bind fun x =>
    (yh k m_ (yk.mk 1 i (zd.mk 0 0) (zd.mk 0 0) (zd.mk 0 0) 0)).bind fun l =>
    (yh k l.2 (yk.mk 1 i (zd.mk 0 0) (zd.mk 0 0) (zd.mk 0 0) 0)).bind fun e =>
    some (some (zb.mk i most e.2 l.1.Heap e.1.Heap u ([]:List (zd × Int)) x j.1 0 0),0)))))
def xv (room:Int):Option (zg) :=
 (Aw zk (if (if 4096<room then 4096 else room) > 1 then (if 4096<room then 4096 else room) else 1)).bind fun m_ =>
 some (zg.mk m_)
def yl (e:Int)(x1:Int):Nat->Int->zj->Option (zj)
 | 0,_,_=>none
 | m+1,x,m_ =>
  (bif decide (x<x1) then
   (xv e).bind fun t_ =>
   (mApp m_.l ([t_]:List zg)).bind fun l =>
   yl e x1 m (w64 (x+1)) (zj.mk l)
  else
   some m_)
def xk (k:Nat)(boxes:Int)(room:Int):Option (zj) :=
 (yl room (if (if 4<boxes then 4 else boxes) > 1 then (if 4<boxes then 4 else boxes) else 1) k 0 (zj.mk ([]:List zg))).bind fun s =>
 some s
def uf (k:Nat)(j:Int)(e:Int)(boxes:Int)(room:Int):Option ((Option zh) × Int) :=
 (vk k j e).bind fun t_ =>
 (uA t_.1
  ((bif t_.2 != 0 then
   some ((none:Option zh),t_.2)
  else
   (xk k boxes room).bind fun l =>
   none))
  (fun m_ =>
  (bif t_.2 != 0 then
   some ((none:Option zh),t_.2)
  else
   (xk k boxes room).bind fun i =>
   some (some (zh.mk m_ i),0))))
def sP (k:Nat)(i:Int)(e:Int)(boxes:Int)(room:Int):Option ((Option zw) × Int) :=
 (uf k i e boxes room).bind fun t_ =>
 (uA t_.1
  ((bif t_.2 != 0 then
   some ((none:Option zw),t_.2)
  else
   none))
  (fun m_ =>
  (bif t_.2 != 0 then
   some ((none:Option zw),t_.2)
  else
   some (some (zw.mk m_ ([]:List zx)),0))))
def tB:Nat->Int->Int->Option (Int)
 | 0,_,_=>none
 | m+1,n,x =>
  (bif decide (x<4097) then
   none
  else
   some n)
def sO (k:Nat)  : Option (Int) :=
 (tB k 0 0).bind fun s =>
 some s
def rX (k:Nat)(x:zS):Option (zn) :=
 (bif x.Kind == 1 then
  none
 else
  (bif x.Kind == 2 then
   none
  else
   (bif x.Kind == 3 then
    none
   else
    (bif x.Kind == 4 then
     (sO k).bind fun t_ =>
     some (zn.mk 0 (zd.mk 0 0) 0 0 t_)
    else
     some (zn.mk 12 (zd.mk 0 0) 0 0 0)))))
def um (x1:Int)(e:List zS):Nat->(List zn)->Int->Option ((List zn))
 | 0,_,_=>none
 | m+1,out,x =>
  (bif decide (x<x1) then
   (mIdx e x).bind fun x2 =>
   (rX m x2).bind fun t_ =>
   (mApp out ([t_]:List zn)).bind fun i =>
   um x1 e m i (w64 (x+1))
  else
   some out)
def tu (k:Nat)(l:List zS):Option ((List zn)) :=
 (um (l.length:Int) l k ([]:List zn) 0).bind fun s =>
 some s
def uk  : Option ((List zx)) :=
 none
def wq (b:zg)(v_:zk):Option (Bool × zg) :=
 (bif MCh.room b.c_ then
  some (true,zg.mk (MCh.push b.c_ v_))
 else
  some (false,b))
def xW (d:zj)(box:Int)(v_:zk):Option (Int × zj) :=
 ((bif decide (box<0) then
  some true
 else
  some (decide (box >= (d.l.length:Int))))).bind fun s =>
 (bif s then
  some (30,d)
 else
  (mIdx d.l box).bind fun x =>
  (wq x v_).bind fun t_ =>
  (bif !t_.1 then
   some (13,zj.mk (mSet d.l box t_.2))
  else
   some (0,zj.mk (mSet d.l box t_.2))))
def yL (s:zh)(box:Int)(c_:zk):Option (Int × zh) :=
 (xW s.desk box c_).bind fun t_ =>
 some (t_.1,zh.mk s.d t_.2)
def xC (b:zg):Option (zk × Bool × zg) :=
 (match MCh.buf b.c_ with
 | [] =>
  some (zk.mk 0 0 (zd.mk 0 0) 0 0,false,b)
 | u::r1 =>
  some (u,true,zg.mk (MCh.rest b.c_ r1)))
def zV (x1:Int):Nat->Int->zj->Option ((zk × Int × Bool × zj) ⊕ (zj))
 | 0,_,_=>none
 | m+1,x,m_ =>
  (bif decide (x<x1) then
   (mIdx m_.l x).bind fun x2 =>
   (xC x2).bind fun t_ =>
   (bif t_.2.1 then
    some (.inl (t_.1,x,true,zj.mk (mSet m_.l x t_.2.2)))
   else
    zV x1 m (w64 (x+1)) (zj.mk (mSet m_.l x t_.2.2)))
  else
   some (.inr m_))
def xV (k:Nat)(d:zj):Option (zk × Int × Bool × zj) :=
 (zV (d.l.length:Int) k 0 d).bind fun s =>
 match s with
 | .inl e=>some e
 | .inr s1 =>
  some (zk.mk 0 0 (zd.mk 0 0) 0 0,0,false,s1)
def qH (m_:zI):Option (Int) :=
 some m_.steps
def rT (q:zr):Option (Int) :=
 (sa q.a_).bind fun t_ =>
 (qH q.a_.m_).bind fun e =>
 some e
def yZ (e:Int):Option (zn) :=
 some (zn.mk e (zd.mk 0 0) 0 0 0)
def wc (p:zf):Option (Int) :=
 some (w64 ((p.l.length:Int) - (p.free.length:Int)))
def sD (t_:zq):Option (Int) :=
 (wc t_.p).bind fun e =>
 some e
def vv (p:zf):Option (Int) :=
 some p.most
def yt (p:zf)(v_:zF):Option (zd × Bool × zf) :=
 ((bif decide (w64 ((p.free.length:Int) - 1) >= 0) then
  (mIdx p.free (w64 ((p.free.length:Int) - 1))).bind fun x =>
  (mCut p.free 0 (w64 ((p.free.length:Int) - 1))).bind fun l =>
  some (.inr (x,zf.mk p.most p.l l))
 else
  (bif decide ((p.l.length:Int) >= p.most) then
   some (.inl (zd.mk 0 0,false,p))
  else
   (mApp p.l ([zt.mk 0 false (zF.mk 0 0 0 (zd.mk 0 0))]:List zt)).bind fun e =>
   some (.inr ((p.l.length:Int),zf.mk p.most e p.free)))):Option ((zd × Bool × zf) ⊕ (Int × zf))).bind fun s =>
 match s with
 | .inl i=>some i
 | .inr s1 =>
  (mIdx s1.2.l s1.1).bind fun x1 =>
  some (zd.mk s1.1 (w64 (x1.gen+1)),true,zf.mk s1.2.most (mSet (mSet (mSet s1.2.l s1.1 (zt.mk (w64 (x1.gen+1)) x1.taken x1.v_)) s1.1 (zt.mk (w64 (x1.gen+1)) true x1.v_)) s1.1 (zt.mk (w64 (x1.gen+1)) true v_)) s1.2.free)
def qp (t_:zq)(j:zF):Option (zd × Int × zq) :=
 (qZ zd.eq j.Item (zd.mk 0 0) t_.by_).bind fun x =>
 (wc t_.p).bind fun i =>
 (vv t_.p).bind fun l =>
 (bif i == l then
  some (zd.mk 0 0,13,t_)
 else
  (bif x.2 then
   some (zd.mk 0 0,1,t_)
  else
   (yt t_.p j).bind fun e =>
   some (e.1,0,zq.mk ((zq.mk e.2.2 t_.by_).p) (mPut zd.eq j.Item e.1 ((zq.mk e.2.2 t_.by_).by_)))))
def rf (j:zF):Option (zn) :=
 some (zn.mk 0 (zd.mk 0 0) j.Time j.Data 0)
def xL (k:Nat)(d:zb)(c_:zk):Option (zn × zb) :=
 (sD d.t_).bind fun t_ =>
 (bif decide (t_ >= d.most) then
  (yZ 13).bind fun l =>
  some (l,d)
 else
  (mIdx ([d.heaps0,d.heaps1]:List zd) c_.Queue).bind fun x =>
  (yh k d.q (yk.mk 2 0 x (zd.mk 0 0) (zd.mk 0 0) c_.Time)).bind fun e =>
  (qp ((zb.mk d.kind d.most e.2 d.heaps0 d.heaps1 d.t_ d.when d.clock d.budget d.last d.top).t_) (zF.mk c_.Queue c_.Time c_.Data e.1.Item)).bind fun i =>
  (rf (zF.mk c_.Queue c_.Time c_.Data e.1.Item)).bind fun j =>
  some (zn.mk j.Why i.1 j.Time j.Data j.N,zb.mk ((zb.mk ((zb.mk d.kind d.most e.2 d.heaps0 d.heaps1 d.t_ d.when d.clock d.budget d.last d.top).kind) ((zb.mk d.kind d.most e.2 d.heaps0 d.heaps1 d.t_ d.when d.clock d.budget d.last d.top).most) ((zb.mk d.kind d.most e.2 d.heaps0 d.heaps1 d.t_ d.when d.clock d.budget d.last d.top).q) ((zb.mk d.kind d.most e.2 d.heaps0 d.heaps1 d.t_ d.when d.clock d.budget d.last d.top).heaps0) ((zb.mk d.kind d.most e.2 d.heaps0 d.heaps1 d.t_ d.when d.clock d.budget d.last d.top).heaps1) i.2.2 ((zb.mk d.kind d.most e.2 d.heaps0 d.heaps1 d.t_ d.when d.clock d.budget d.last d.top).when) ((zb.mk d.kind d.most e.2 d.heaps0 d.heaps1 d.t_ d.when d.clock d.budget d.last d.top).clock) ((zb.mk d.kind d.most e.2 d.heaps0 d.heaps1 d.t_ d.when d.clock d.budget d.last d.top).budget) ((zb.mk d.kind d.most e.2 d.heaps0 d.heaps1 d.t_ d.when d.clock d.budget d.last d.top).last) ((zb.mk d.kind d.most e.2 d.heaps0 d.heaps1 d.t_ d.when d.clock d.budget d.last d.top).top)).kind) ((zb.mk ((zb.mk d.kind d.most e.2 d.heaps0 d.heaps1 d.t_ d.when d.clock d.budget d.last d.top).kind) ((zb.mk d.kind d.most e.2 d.heaps0 d.heaps1 d.t_ d.when d.clock d.budget d.last d.top).most) ((zb.mk d.kind d.most e.2 d.heaps0 d.heaps1 d.t_ d.when d.clock d.budget d.last d.top).q) ((zb.mk d.kind d.most e.2 d.heaps0 d.heaps1 d.t_ d.when d.clock d.budget d.last d.top).heaps0) ((zb.mk d.kind d.most e.2 d.heaps0 d.heaps1 d.t_ d.when d.clock d.budget d.last d.top).heaps1) i.2.2 ((zb.mk d.kind d.most e.2 d.heaps0 d.heaps1 d.t_ d.when d.clock d.budget d.last d.top).when) ((zb.mk d.kind d.most e.2 d.heaps0 d.heaps1 d.t_ d.when d.clock d.budget d.last d.top).clock) ((zb.mk d.kind d.most e.2 d.heaps0 d.heaps1 d.t_ d.when d.clock d.budget d.last d.top).budget) ((zb.mk d.kind d.most e.2 d.heaps0 d.heaps1 d.t_ d.when d.clock d.budget d.last d.top).last) ((zb.mk d.kind d.most e.2 d.heaps0 d.heaps1 d.t_ d.when d.clock d.budget d.last d.top).top)).most) ((zb.mk ((zb.mk d.kind d.most e.2 d.heaps0 d.heaps1 d.t_ d.when d.clock d.budget d.last d.top).kind) ((zb.mk d.kind d.most e.2 d.heaps0 d.heaps1 d.t_ d.when d.clock d.budget d.last d.top).most) ((zb.mk d.kind d.most e.2 d.heaps0 d.heaps1 d.t_ d.when d.clock d.budget d.last d.top).q) ((zb.mk d.kind d.most e.2 d.heaps0 d.heaps1 d.t_ d.when d.clock d.budget d.last d.top).heaps0) ((zb.mk d.kind d.most e.2 d.heaps0 d.heaps1 d.t_ d.when d.clock d.budget d.last d.top).heaps1) i.2.2 ((zb.mk d.kind d.most e.2 d.heaps0 d.heaps1 d.t_ d.when d.clock d.budget d.last d.top).when) ((zb.mk d.kind d.most e.2 d.heaps0 d.heaps1 d.t_ d.when d.clock d.budget d.last d.top).clock) ((zb.mk d.kind d.most e.2 d.heaps0 d.heaps1 d.t_ d.when d.clock d.budget d.last d.top).budget) ((zb.mk d.kind d.most e.2 d.heaps0 d.heaps1 d.t_ d.when d.clock d.budget d.last d.top).last) ((zb.mk d.kind d.most e.2 d.heaps0 d.heaps1 d.t_ d.when d.clock d.budget d.last d.top).top)).q) ((zb.mk ((zb.mk d.kind d.most e.2 d.heaps0 d.heaps1 d.t_ d.when d.clock d.budget d.last d.top).kind) ((zb.mk d.kind d.most e.2 d.heaps0 d.heaps1 d.t_ d.when d.clock d.budget d.last d.top).most) ((zb.mk d.kind d.most e.2 d.heaps0 d.heaps1 d.t_ d.when d.clock d.budget d.last d.top).q) ((zb.mk d.kind d.most e.2 d.heaps0 d.heaps1 d.t_ d.when d.clock d.budget d.last d.top).heaps0) ((zb.mk d.kind d.most e.2 d.heaps0 d.heaps1 d.t_ d.when d.clock d.budget d.last d.top).heaps1) i.2.2 ((zb.mk d.kind d.most e.2 d.heaps0 d.heaps1 d.t_ d.when d.clock d.budget d.last d.top).when) ((zb.mk d.kind d.most e.2 d.heaps0 d.heaps1 d.t_ d.when d.clock d.budget d.last d.top).clock) ((zb.mk d.kind d.most e.2 d.heaps0 d.heaps1 d.t_ d.when d.clock d.budget d.last d.top).budget) ((zb.mk d.kind d.most e.2 d.heaps0 d.heaps1 d.t_ d.when d.clock d.budget d.last d.top).last) ((zb.mk d.kind d.most e.2 d.heaps0 d.heaps1 d.t_ d.when d.clock d.budget d.last d.top).top)).heaps0) ((zb.mk ((zb.mk d.kind d.most e.2 d.heaps0 d.heaps1 d.t_ d.when d.clock d.budget d.last d.top).kind) ((zb.mk d.kind d.most e.2 d.heaps0 d.heaps1 d.t_ d.when d.clock d.budget d.last d.top).most) ((zb.mk d.kind d.most e.2 d.heaps0 d.heaps1 d.t_ d.when d.clock d.budget d.last d.top).q) ((zb.mk d.kind d.most e.2 d.heaps0 d.heaps1 d.t_ d.when d.clock d.budget d.last d.top).heaps0) ((zb.mk d.kind d.most e.2 d.heaps0 d.heaps1 d.t_ d.when d.clock d.budget d.last d.top).heaps1) i.2.2 ((zb.mk d.kind d.most e.2 d.heaps0 d.heaps1 d.t_ d.when d.clock d.budget d.last d.top).when) ((zb.mk d.kind d.most e.2 d.heaps0 d.heaps1 d.t_ d.when d.clock d.budget d.last d.top).clock) ((zb.mk d.kind d.most e.2 d.heaps0 d.heaps1 d.t_ d.when d.clock d.budget d.last d.top).budget) ((zb.mk d.kind d.most e.2 d.heaps0 d.heaps1 d.t_ d.when d.clock d.budget d.last d.top).last) ((zb.mk d.kind d.most e.2 d.heaps0 d.heaps1 d.t_ d.when d.clock d.budget d.last d.top).top)).heaps1) ((zb.mk ((zb.mk d.kind d.most e.2 d.heaps0 d.heaps1 d.t_ d.when d.clock d.budget d.last d.top).kind) ((zb.mk d.kind d.most e.2 d.heaps0 d.heaps1 d.t_ d.when d.clock d.budget d.last d.top).most) ((zb.mk d.kind d.most e.2 d.heaps0 d.heaps1 d.t_ d.when d.clock d.budget d.last d.top).q) ((zb.mk d.kind d.most e.2 d.heaps0 d.heaps1 d.t_ d.when d.clock d.budget d.last d.top).heaps0) ((zb.mk d.kind d.most e.2 d.heaps0 d.heaps1 d.t_ d.when d.clock d.budget d.last d.top).heaps1) i.2.2 ((zb.mk d.kind d.most e.2 d.heaps0 d.heaps1 d.t_ d.when d.clock d.budget d.last d.top).when) ((zb.mk d.kind d.most e.2 d.heaps0 d.heaps1 d.t_ d.when d.clock d.budget d.last d.top).clock) ((zb.mk d.kind d.most e.2 d.heaps0 d.heaps1 d.t_ d.when d.clock d.budget d.last d.top).budget) ((zb.mk d.kind d.most e.2 d.heaps0 d.heaps1 d.t_ d.when d.clock d.budget d.last d.top).last) ((zb.mk d.kind d.most e.2 d.heaps0 d.heaps1 d.t_ d.when d.clock d.budget d.last d.top).top)).t_) (mPut zd.eq i.1 e.1.Entry.Serial ((zb.mk ((zb.mk d.kind d.most e.2 d.heaps0 d.heaps1 d.t_ d.when d.clock d.budget d.last d.top).kind) ((zb.mk d.kind d.most e.2 d.heaps0 d.heaps1 d.t_ d.when d.clock d.budget d.last d.top).most) ((zb.mk d.kind d.most e.2 d.heaps0 d.heaps1 d.t_ d.when d.clock d.budget d.last d.top).q) ((zb.mk d.kind d.most e.2 d.heaps0 d.heaps1 d.t_ d.when d.clock d.budget d.last d.top).heaps0) ((zb.mk d.kind d.most e.2 d.heaps0 d.heaps1 d.t_ d.when d.clock d.budget d.last d.top).heaps1) i.2.2 ((zb.mk d.kind d.most e.2 d.heaps0 d.heaps1 d.t_ d.when d.clock d.budget d.last d.top).when) ((zb.mk d.kind d.most e.2 d.heaps0 d.heaps1 d.t_ d.when d.clock d.budget d.last d.top).clock) ((zb.mk d.kind d.most e.2 d.heaps0 d.heaps1 d.t_ d.when d.clock d.budget d.last d.top).budget) ((zb.mk d.kind d.most e.2 d.heaps0 d.heaps1 d.t_ d.when d.clock d.budget d.last d.top).last) ((zb.mk d.kind d.most e.2 d.heaps0 d.heaps1 d.t_ d.when d.clock d.budget d.last d.top).top)).when)) ((zb.mk ((zb.mk d.kind d.most e.2 d.heaps0 d.heaps1 d.t_ d.when d.clock d.budget d.last d.top).kind) ((zb.mk d.kind d.most e.2 d.heaps0 d.heaps1 d.t_ d.when d.clock d.budget d.last d.top).most) ((zb.mk d.kind d.most e.2 d.heaps0 d.heaps1 d.t_ d.when d.clock d.budget d.last d.top).q) ((zb.mk d.kind d.most e.2 d.heaps0 d.heaps1 d.t_ d.when d.clock d.budget d.last d.top).heaps0) ((zb.mk d.kind d.most e.2 d.heaps0 d.heaps1 d.t_ d.when d.clock d.budget d.last d.top).heaps1) i.2.2 ((zb.mk d.kind d.most e.2 d.heaps0 d.heaps1 d.t_ d.when d.clock d.budget d.last d.top).when) ((zb.mk d.kind d.most e.2 d.heaps0 d.heaps1 d.t_ d.when d.clock d.budget d.last d.top).clock) ((zb.mk d.kind d.most e.2 d.heaps0 d.heaps1 d.t_ d.when d.clock d.budget d.last d.top).budget) ((zb.mk d.kind d.most e.2 d.heaps0 d.heaps1 d.t_ d.when d.clock d.budget d.last d.top).last) ((zb.mk d.kind d.most e.2 d.heaps0 d.heaps1 d.t_ d.when d.clock d.budget d.last d.top).top)).clock) ((zb.mk ((zb.mk d.kind d.most e.2 d.heaps0 d.heaps1 d.t_ d.when d.clock d.budget d.last d.top).kind) ((zb.mk d.kind d.most e.2 d.heaps0 d.heaps1 d.t_ d.when d.clock d.budget d.last d.top).most) ((zb.mk d.kind d.most e.2 d.heaps0 d.heaps1 d.t_ d.when d.clock d.budget d.last d.top).q) ((zb.mk d.kind d.most e.2 d.heaps0 d.heaps1 d.t_ d.when d.clock d.budget d.last d.top).heaps0) ((zb.mk d.kind d.most e.2 d.heaps0 d.heaps1 d.t_ d.when d.clock d.budget d.last d.top).heaps1) i.2.2 ((zb.mk d.kind d.most e.2 d.heaps0 d.heaps1 d.t_ d.when d.clock d.budget d.last d.top).when) ((zb.mk d.kind d.most e.2 d.heaps0 d.heaps1 d.t_ d.when d.clock d.budget d.last d.top).clock) ((zb.mk d.kind d.most e.2 d.heaps0 d.heaps1 d.t_ d.when d.clock d.budget d.last d.top).budget) ((zb.mk d.kind d.most e.2 d.heaps0 d.heaps1 d.t_ d.when d.clock d.budget d.last d.top).last) ((zb.mk d.kind d.most e.2 d.heaps0 d.heaps1 d.t_ d.when d.clock d.budget d.last d.top).top)).budget) ((zb.mk ((zb.mk d.kind d.most e.2 d.heaps0 d.heaps1 d.t_ d.when d.clock d.budget d.last d.top).kind) ((zb.mk d.kind d.most e.2 d.heaps0 d.heaps1 d.t_ d.when d.clock d.budget d.last d.top).most) ((zb.mk d.kind d.most e.2 d.heaps0 d.heaps1 d.t_ d.when d.clock d.budget d.last d.top).q) ((zb.mk d.kind d.most e.2 d.heaps0 d.heaps1 d.t_ d.when d.clock d.budget d.last d.top).heaps0) ((zb.mk d.kind d.most e.2 d.heaps0 d.heaps1 d.t_ d.when d.clock d.budget d.last d.top).heaps1) i.2.2 ((zb.mk d.kind d.most e.2 d.heaps0 d.heaps1 d.t_ d.when d.clock d.budget d.last d.top).when) ((zb.mk d.kind d.most e.2 d.heaps0 d.heaps1 d.t_ d.when d.clock d.budget d.last d.top).clock) ((zb.mk d.kind d.most e.2 d.heaps0 d.heaps1 d.t_ d.when d.clock d.budget d.last d.top).budget) ((zb.mk d.kind d.most e.2 d.heaps0 d.heaps1 d.t_ d.when d.clock d.budget d.last d.top).last) ((zb.mk d.kind d.most e.2 d.heaps0 d.heaps1 d.t_ d.when d.clock d.budget d.last d.top).top)).last) ((zb.mk ((zb.mk d.kind d.most e.2 d.heaps0 d.heaps1 d.t_ d.when d.clock d.budget d.last d.top).kind) ((zb.mk d.kind d.most e.2 d.heaps0 d.heaps1 d.t_ d.when d.clock d.budget d.last d.top).most) ((zb.mk d.kind d.most e.2 d.heaps0 d.heaps1 d.t_ d.when d.clock d.budget d.last d.top).q) ((zb.mk d.kind d.most e.2 d.heaps0 d.heaps1 d.t_ d.when d.clock d.budget d.last d.top).heaps0) ((zb.mk d.kind d.most e.2 d.heaps0 d.heaps1 d.t_ d.when d.clock d.budget d.last d.top).heaps1) i.2.2 ((zb.mk d.kind d.most e.2 d.heaps0 d.heaps1 d.t_ d.when d.clock d.budget d.last d.top).when) ((zb.mk d.kind d.most e.2 d.heaps0 d.heaps1 d.t_ d.when d.clock d.budget d.last d.top).clock) ((zb.mk d.kind d.most e.2 d.heaps0 d.heaps1 d.t_ d.when d.clock d.budget d.last d.top).budget) ((zb.mk d.kind d.most e.2 d.heaps0 d.heaps1 d.t_ d.when d.clock d.budget d.last d.top).last) ((zb.mk d.kind d.most e.2 d.heaps0 d.heaps1 d.t_ d.when d.clock d.budget d.last d.top).top)).top)))
def zZ (p:zf)(r:zd):Option ((Option Int) × Int) :=
 ((bif decide (r.At<0) then
  some true
 else
  (bif decide (r.At >= (p.l.length:Int)) then
   some true
  else
   (bif decide (r.Gen<1) then
    some true
   else
    (mIdx p.l r.At).bind fun x1 =>
    some (decide (r.Gen > x1.gen)))))).bind fun s =>
 (bif s then
  some ((none:Option Int),22)
 else
  (mIdx p.l r.At).bind fun x2 =>
  (bif (decide (r.Gen<x2.gen)) || (!x2.taken) then
   some ((none:Option Int),23)
  else
   some ((some r.At:Option Int),0)))
def yx (p:zf)(r:zd):Option (zF × Int) :=
 (zZ p r).bind fun t_ =>
 (uA t_.1
  ((bif t_.2 != 0 then
   some (zF.mk 0 0 0 (zd.mk 0 0),t_.2)
  else
   none))
  (fun i =>
  (mIdx p.l i).bind fun x =>
  (bif t_.2 != 0 then
   some (zF.mk 0 0 0 (zd.mk 0 0),t_.2)
  else
   some (x.v_,0))))
def uP (t_:zq)(r:zd):Option (zF × Int) :=
 (yx t_.p r).bind fun e =>
 some (e.1,e.2)
def xB (p:zf)(r:zd)(v_:zF):Option (Int × zf) :=
 (zZ p r).bind fun t_ =>
 (uA t_.1
  (((bif t_.2 == 0 then
   none
  else
   some ())).bind fun s =>
  some (t_.2,p))
  (fun i =>
  (mIdx p.l i).bind fun x =>
  ((bif t_.2 == 0 then
   some (zf.mk p.most (mSet p.l i (zt.mk x.gen x.taken v_)) p.free)
  else
   some p)).bind fun s1 =>
  some (t_.2,s1)))
def sE (t_:zq)(r:zd)(j:zF):Option (Int × zq) :=
 (yx t_.p r).bind fun e =>
 (bif e.2 != 0 then
  some (e.2,t_)
 else
  (qZ zd.eq j.Item (zd.mk 0 0) t_.by_).bind fun x =>
  ((bif x.2 then
   some (!(zd.eq x.1 r))
  else
   some false)).bind fun s =>
  (bif s then
   some (1,t_)
  else
   (xB t_.p r j).bind fun i =>
   some (i.1,zq.mk i.2 (mPut zd.eq j.Item r (mDel zd.eq e.1.Item t_.by_)))))
def xU (k:Nat)(d:zb)(c_:zk):Option (zn × zb) :=
 (uP d.t_ c_.Job).bind fun t_ =>
 (bif t_.2 != 0 then
  (yZ t_.2).bind fun e =>
  some (e,d)
 else
  (bif decide (c_.Time > t_.1.Time) then
   (yZ 26).bind fun i =>
   some (i,d)
  else
   (yh k d.q (yk.mk 5 0 (zd.mk 0 0) (zd.mk 0 0) t_.1.Item c_.Time)).bind fun j =>
   (sE d.t_ c_.Job (zF.mk t_.1.Queue c_.Time t_.1.Data t_.1.Item)).bind fun l =>
   (rf (zF.mk t_.1.Queue c_.Time t_.1.Data t_.1.Item)).bind fun t =>
   some (t,zb.mk d.kind d.most j.2 d.heaps0 d.heaps1 l.2 d.when d.clock d.budget d.last d.top)))
def yb (p:zf)(r:zd):Option (zF × Int × zf) :=
 (zZ p r).bind fun t_ =>
 (uA t_.1
  ((bif t_.2 != 0 then
   some (zF.mk 0 0 0 (zd.mk 0 0),t_.2,p)
  else
   none))
  (fun i =>
  (mIdx p.l i).bind fun x =>
  (bif t_.2 != 0 then
   some (zF.mk 0 0 0 (zd.mk 0 0),t_.2,p)
  else
   (mApp p.free ([r.At]:List Int)).bind fun l =>
   some (x.v_,0,zf.mk p.most (mSet (mSet p.l i (zt.mk x.gen false x.v_)) i (zt.mk x.gen false (zF.mk 0 0 0 (zd.mk 0 0)))) l))))
def tK (t_:zq)(r:zd):Option (zF × Int × zq) :=
 (yb t_.p r).bind fun e =>
 ((bif e.2.1 == 0 then
  some (zq.mk ((zq.mk e.2.2 t_.by_).p) (mDel zd.eq e.1.Item ((zq.mk e.2.2 t_.by_).by_)))
 else
  some (zq.mk e.2.2 t_.by_))).bind fun s =>
 some (e.1,e.2.1,s)
def xj (d:zb)(r:zd):Option (zn × zb) :=
 (tK d.t_ r).bind fun t_ =>
 (bif t_.2.1 != 0 then
  (yZ t_.2.1).bind fun e =>
  some (e,zb.mk d.kind d.most d.q d.heaps0 d.heaps1 t_.2.2 d.when d.clock d.budget d.last d.top)
 else
  (rf t_.1).bind fun i =>
  some (i,zb.mk ((zb.mk d.kind d.most d.q d.heaps0 d.heaps1 t_.2.2 d.when d.clock d.budget d.last d.top).kind) ((zb.mk d.kind d.most d.q d.heaps0 d.heaps1 t_.2.2 d.when d.clock d.budget d.last d.top).most) ((zb.mk d.kind d.most d.q d.heaps0 d.heaps1 t_.2.2 d.when d.clock d.budget d.last d.top).q) ((zb.mk d.kind d.most d.q d.heaps0 d.heaps1 t_.2.2 d.when d.clock d.budget d.last d.top).heaps0) ((zb.mk d.kind d.most d.q d.heaps0 d.heaps1 t_.2.2 d.when d.clock d.budget d.last d.top).heaps1) ((zb.mk d.kind d.most d.q d.heaps0 d.heaps1 t_.2.2 d.when d.clock d.budget d.last d.top).t_) (mDel zd.eq r ((zb.mk d.kind d.most d.q d.heaps0 d.heaps1 t_.2.2 d.when d.clock d.budget d.last d.top).when)) ((zb.mk d.kind d.most d.q d.heaps0 d.heaps1 t_.2.2 d.when d.clock d.budget d.last d.top).clock) ((zb.mk d.kind d.most d.q d.heaps0 d.heaps1 t_.2.2 d.when d.clock d.budget d.last d.top).budget) ((zb.mk d.kind d.most d.q d.heaps0 d.heaps1 t_.2.2 d.when d.clock d.budget d.last d.top).last) ((zb.mk d.kind d.most d.q d.heaps0 d.heaps1 t_.2.2 d.when d.clock d.budget d.last d.top).top)))
def xT (k:Nat)(d:zb)(r:zd):Option (zn × zb) :=
 (uP d.t_ r).bind fun t_ =>
 ((bif t_.2 == 0 then
  (yh k d.q (yk.mk 6 0 (zd.mk 0 0) (zd.mk 0 0) t_.1.Item 0)).bind fun i =>
  some (zb.mk d.kind d.most i.2 d.heaps0 d.heaps1 d.t_ d.when d.clock d.budget d.last d.top)
 else
  some d)).bind fun s =>
 (xj s r).bind fun e =>
 some (e.1,e.2)
def qn (c_:zW)(by_:Int):Option (Int × zW) :=
 (bif decide (by_<0) then
  some (1,c_)
 else
  (uD c_.now by_).bind fun t_ =>
  some (0,zW.mk t_))
def tH (c_:zW):Option (Int) :=
 some c_.now
def rE (c_:zW)(at_:Int):Option (Bool) :=
 some (decide (at_<=c_.now))
def qU (t_:zq)(item:zd):Option (zd × Bool) :=
 (qZ zd.eq item (zd.mk 0 0) t_.by_).bind fun x =>
 some (x.1,x.2)
def wI (k:Nat)(d:zb)(queue:Int):Option (zn × zb) :=
 (mIdx ([d.heaps0,d.heaps1]:List zd) queue).bind fun x =>
 (yh k d.q (yk.mk 3 0 x (zd.mk 0 0) (zd.mk 0 0) 0)).bind fun t_ =>
 ((bif t_.1.Why != 0 then
  some (true,zb.mk d.kind d.most t_.2 d.heaps0 d.heaps1 d.t_ d.when d.clock d.budget d.last d.top)
 else
  (rE ((zb.mk d.kind d.most t_.2 d.heaps0 d.heaps1 d.t_ d.when d.clock d.budget d.last d.top).clock) t_.1.Entry.Key).bind fun l =>
  some (!l,zb.mk ((zb.mk d.kind d.most t_.2 d.heaps0 d.heaps1 d.t_ d.when d.clock d.budget d.last d.top).kind) ((zb.mk d.kind d.most t_.2 d.heaps0 d.heaps1 d.t_ d.when d.clock d.budget d.last d.top).most) ((zb.mk d.kind d.most t_.2 d.heaps0 d.heaps1 d.t_ d.when d.clock d.budget d.last d.top).q) ((zb.mk d.kind d.most t_.2 d.heaps0 d.heaps1 d.t_ d.when d.clock d.budget d.last d.top).heaps0) ((zb.mk d.kind d.most t_.2 d.heaps0 d.heaps1 d.t_ d.when d.clock d.budget d.last d.top).heaps1) ((zb.mk d.kind d.most t_.2 d.heaps0 d.heaps1 d.t_ d.when d.clock d.budget d.last d.top).t_) ((zb.mk d.kind d.most t_.2 d.heaps0 d.heaps1 d.t_ d.when d.clock d.budget d.last d.top).when) ((zb.mk d.kind d.most t_.2 d.heaps0 d.heaps1 d.t_ d.when d.clock d.budget d.last d.top).clock) ((zb.mk d.kind d.most t_.2 d.heaps0 d.heaps1 d.t_ d.when d.clock d.budget d.last d.top).budget) ((zb.mk d.kind d.most t_.2 d.heaps0 d.heaps1 d.t_ d.when d.clock d.budget d.last d.top).last) ((zb.mk d.kind d.most t_.2 d.heaps0 d.heaps1 d.t_ d.when d.clock d.budget d.last d.top).top)))).bind fun s =>
 (bif s.1 then
  (yZ 28).bind fun t =>
  some (t,s.2)
 else
  (yh k s.2.q (yk.mk 4 0 x (zd.mk 0 0) (zd.mk 0 0) 0)).bind fun i =>
  (qU s.2.t_ i.1.Item).bind fun j =>
  (xj (zb.mk s.2.kind s.2.most i.2 s.2.heaps0 s.2.heaps1 s.2.t_ s.2.when s.2.clock s.2.budget s.2.last s.2.top) j.1).bind fun e =>
  some (zn.mk e.1.Why j.1 e.1.Time e.1.Data e.1.N,e.2))
def y8 (x1:Int)(m_:zf):Nat->(List zd)->Int->Option ((List zd))
 | 0,_,_=>none
 | m+1,out,x =>
  (bif decide (x<x1) then
   ((mIdx m_.l x).bind fun x2 =>
   (bif x2.taken then
    (mApp out ([zd.mk x x2.gen]:List zd)).bind fun l =>
    some l
   else
    some out)).bind fun s1 =>
   y8 x1 m_ m s1 (w64 (x+1))
  else
   some out)
def xZ (k:Nat)(p:zf):Option ((List zd)) :=
 (y8 (p.l.length:Int) p k ([]:List zd) 0).bind fun s =>
 some s
def wK (e:Int)(j:Int)(x1:Int)(l:List zd):Nat->Int->Int->zq->Option (Int × zq)
 | 0,_,_,_=>none
 | m+1,n,x,m_ =>
  (bif decide (x<x1) then
   ((mIdx l x).bind fun x2 =>
   (yx m_.p x2).bind fun i =>
   (bif i.1.Queue == e then
    (xB m_.p x2 (zF.mk j i.1.Time i.1.Data i.1.Item)).bind fun t =>
    some (w64 (n+1),zq.mk t.2 m_.by_)
   else
    some (n,m_))).bind fun s1 =>
   wK e j x1 l m s1.1 (w64 (x+1)) s1.2
  else
   some (n,m_))
def rK (k:Nat)(t_:zq)(from_:Int)(to:Int):Option (Int × zq) :=
 (xZ k t_.p).bind fun e =>
 (wK from_ to (e.length:Int) e k 0 0 t_).bind fun s =>
 some (s.1,s.2)
def wo (k:Nat)(d:zb):Option (zn × zb) :=
 (yh k d.q (yk.mk 7 0 d.heaps0 d.heaps1 (zd.mk 0 0) 0)).bind fun t_ =>
 (yh k t_.2 (yk.mk 1 d.kind (zd.mk 0 0) (zd.mk 0 0) (zd.mk 0 0) 0)).bind fun e =>
 (rK k d.t_ 1 0).bind fun i =>
 some (zn.mk 0 (zd.mk 0 0) 0 0 i.1,zb.mk d.kind d.most e.2 d.heaps0 e.1.Heap i.2 d.when d.clock d.budget d.last d.top)
def wi (e:Int)(x1:Int)(m_:zq)(l:List zd):Nat->Int->Int->Option (Int)
 | 0,_,_=>none
 | m+1,n,x =>
  (bif decide (x<x1) then
   ((mIdx l x).bind fun x2 =>
   (yx m_.p x2).bind fun i =>
   (bif i.1.Queue == e then
    some (w64 (n+1))
   else
    some n)).bind fun s1 =>
   wi e x1 m_ l m s1 (w64 (x+1))
  else
   some n)
def uX (k:Nat)(t_:zq)(queue:Int):Option (Int) :=
 (xZ k t_.p).bind fun e =>
 (wi queue (e.length:Int) t_ e k 0 0).bind fun s =>
 some s
def wP (k:Nat)(d:zb)(c_:zk):Option (zn × zb) :=
 (((bif c_.Kind == 1 then
  some (c_.Kind == 1)
 else
  (bif c_.Kind == 5 then
   some (c_.Kind == 5)
  else
   (bif c_.Kind == 6 then
    some (c_.Kind == 6)
   else
    some (c_.Kind == 7))))).bind fun s2 =>
 (bif s2 then
  (bif !((decide (c_.Queue >= 0)) && (decide (c_.Queue<2))) then
   (yZ 1).bind fun t_ =>
   some (.inl (t_,d))
  else
   some (.inr ()))
 else
  some (.inr ())):Option ((zn × zb) ⊕ (Unit))).bind fun s =>
 match s with
 | .inl D=>some D
 | .inr s1 =>
  (bif c_.Kind == 1 then
   (xL k d c_).bind fun i =>
   some (i.1,i.2)
  else
   (bif c_.Kind == 2 then
    (xU k d c_).bind fun t =>
    some (t.1,t.2)
   else
    (bif c_.Kind == 3 then
     (xT k d c_.Job).bind fun u =>
     some (u.1,u.2)
    else
     (bif c_.Kind == 4 then
      (qn d.clock c_.Time).bind fun e =>
      (bif e.1 != 0 then
       (yZ e.1).bind fun z =>
       some (z,zb.mk d.kind d.most d.q d.heaps0 d.heaps1 d.t_ d.when e.2 d.budget d.last d.top)
      else
       (tH e.2).bind fun A =>
       some (zn.mk 0 (zd.mk 0 0) A 0 0,zb.mk d.kind d.most d.q d.heaps0 d.heaps1 d.t_ d.when e.2 d.budget d.last d.top))
     else
      (bif c_.Kind == 5 then
       (wI k d c_.Queue).bind fun x =>
       some (x.1,x.2)
      else
       (bif c_.Kind == 6 then
        (bif c_.Queue == 0 then
         (yZ 25).bind fun B =>
         some (B,d)
        else
         (wo k d).bind fun y =>
         some (y.1,y.2))
       else
        (bif c_.Kind == 7 then
         (uX k d.t_ c_.Queue).bind fun j =>
         some (zn.mk 0 (zd.mk 0 0) 0 0 j,d)
        else
         (yZ 12).bind fun l =>
         some (l,d))))))))
def xf (k:Nat)(d:zb)(c_:zk):Option (zn × zb) :=
 (rT d.q).bind fun t_ =>
 (wP k d c_).bind fun e =>
 (rT e.2.q).bind fun i =>
 (bif decide (w64 (i - t_) > e.2.budget) then
  (yZ 29).bind fun j =>
  some (j,zb.mk e.2.kind e.2.most e.2.q e.2.heaps0 e.2.heaps1 e.2.t_ e.2.when e.2.clock e.2.budget (w64 (i - t_)) (if w64 (i - t_) > e.2.top then w64 (i - t_) else e.2.top))
 else
  some (e.1,zb.mk e.2.kind e.2.most e.2.q e.2.heaps0 e.2.heaps1 e.2.t_ e.2.when e.2.clock e.2.budget (w64 (i - t_)) (if w64 (i - t_) > e.2.top then w64 (i - t_) else e.2.top)))
def yF (k:Nat)(s:zh):Option (zn × zk × Bool × zh) :=
 (xV k s.desk).bind fun t_ =>
 (bif !t_.2.2.1 then
  some (zn.mk 0 (zd.mk 0 0) 0 0 0,zk.mk 0 0 (zd.mk 0 0) 0 0,false,zh.mk s.d t_.2.2.2)
 else
  (xf k s.d t_.1).bind fun e =>
  some (e.1,t_.1,true,zh.mk e.2 t_.2.2.2))
def zO (s:zh):Option (Unit) :=
 some ()
def xt (d:zb):Option (Int) :=
 (tH d.clock).bind fun t_ =>
 some t_
def xi (d:zb):Option (Int) :=
 some d.last
def ve (b:zw)(c_:zk)(r:zn):Option (zn × zw) :=
 (zO b.s).bind fun t_ =>
 (xt b.s.d).bind fun e =>
 (xi b.s.d).bind fun i =>
 (mApp b.l ([zx.mk c_ r e i]:List zx)).bind fun l =>
 some (r,zw.mk b.s l)
def xP (k:Nat)(s:zh)(c_:zk):Option (zn × zh) :=
 (xf k s.d c_).bind fun t_ =>
 some (t_.1,zh.mk t_.2 s.desk)
def xp:Nat->Int->Int->zw->Option (Int × zw)
 | 0,_,_,_=>none
 | m+1,n,x,m_ =>
  (bif decide (x<4097) then
   (xP m m_.s (zk.mk 5 0 (zd.mk 0 0) 0 0)).bind fun t_ =>
   (ve (zw.mk t_.2 m_.l) (zk.mk 5 0 (zd.mk 0 0) 0 0) t_.1).bind fun e =>
   (bif e.1.Why != 0 then
    some (n,e.2)
   else
    xp m (w64 (n+1)) (w64 (x+1)) e.2)
  else
   some (n,m_))
def tf (k:Nat)(b:zw):Option (Int × zw) :=
 (xp k 0 0 b).bind fun s =>
 some (s.1,s.2)
def uU (k:Nat)(b:zw)(x:zS):Option (zn × zw) :=
 (bif x.Kind == 1 then
  (yL b.s x.Box x.Command).bind fun t_ =>
  some (zn.mk t_.1 (zd.mk 0 0) 0 0 0,zw.mk t_.2 b.l)
 else
  (bif x.Kind == 2 then
   (yF k b.s).bind fun e =>
   (bif !e.2.2.1 then
    some (zn.mk 27 (zd.mk 0 0) 0 0 0,zw.mk e.2.2.2 b.l)
   else
    (ve (zw.mk e.2.2.2 b.l) e.2.1 e.1).bind fun i =>
    some (i.1,i.2))
  else
   (bif x.Kind == 3 then
    (xP k b.s x.Command).bind fun j =>
    (ve (zw.mk j.2 b.l) x.Command j.1).bind fun t =>
    some (t.1,t.2)
   else
    (bif x.Kind == 4 then
     (tf k b).bind fun u =>
     some (zn.mk 0 (zd.mk 0 0) 0 0 u.1,u.2)
    else
     some (zn.mk 12 (zd.mk 0 0) 0 0 0,b)))))
def xK (x1:Int)(e:List zS):Nat->(List zn)->Int->zw->Option ((List zn) × zw)
 | 0,_,_,_=>none
 | m+1,out,x,m_ =>
  (bif decide (x<x1) then
   (mIdx e x).bind fun x2 =>
   (uU m m_ x2).bind fun t_ =>
   (mApp out ([t_.1]:List zn)).bind fun i =>
   xK x1 e m i (w64 (x+1)) t_.2
  else
   some (out,m_))
def uV (k:Nat)(b:zw)(l:List zS):Option ((List zn) × zw) :=
 (xK (l.length:Int) l k ([]:List zn) 0 b).bind fun s =>
 some (s.1,s.2)
def vM (b:zw):Option ((List zx)) :=
 (db b.l).bind fun t_ =>
 some t_
def lB (k:Nat)(s:zz):Option (xQ) :=
 (sP k s.Kind s.Jobs s.Boxes s.Room).bind fun t_ =>
 (uA t_.1
  ((bif t_.2 != 0 then
   some (xQ.mk ([]:List zn) ([]:List zx) t_.2)
  else
   (mCut s.Acts 0 (if 256<(s.Acts.length:Int) then 256 else (s.Acts.length:Int))).bind fun l =>
   (tu k l).bind fun i =>
   (uk).bind fun j =>
   some (xQ.mk i j 0)))
  (fun m_ =>
  (bif t_.2 != 0 then
   some (xQ.mk ([]:List zn) ([]:List zx) t_.2)
  else
   (mCut s.Acts 0 (if 256<(s.Acts.length:Int) then 256 else (s.Acts.length:Int))).bind fun u =>
   (uV k m_ u).bind fun e =>
   (vM e.2).bind fun t =>
   some (xQ.mk e.1 t 0))))
def ot (places:Int):Option (zo) :=
 some (zo.mk (if 0 > (if 65536<places then 65536 else places) then 0 else (if 65536<places then 65536 else places)) ([]:List Int) ([]:List Bool) ([]:List Int) ([]:List Int))
def ra (e:Int):Option (zc) :=
 (ot e).bind fun t_ =>
 some (zc.mk e 0 0 t_ ([]:List zH))
def xo (p:zo)(v_:Int):Option (zd × Bool × zo) :=
 ((bif decide ((p.Back.length:Int) > 0) then
  (mIdx p.Back (w64 ((p.Back.length:Int) - 1))).bind fun x =>
  (mCut p.Back 0 (w64 ((p.Back.length:Int) - 1))).bind fun l =>
  some (.inr (x,zo.mk p.Most p.Gens p.In p.V l))
 else
  (bif decide ((p.Gens.length:Int) >= p.Most) then
   some (.inl (zd.mk 0 0,false,p))
  else
   (mApp p.Gens ([0]:List Int)).bind fun e =>
   (mApp p.In ([false]:List Bool)).bind fun i =>
   (mApp p.V ([0]:List Int)).bind fun j =>
   some (.inr ((p.Gens.length:Int),zo.mk p.Most e i j p.Back)))):Option ((zd × Bool × zo) ⊕ (Int × zo))).bind fun s =>
 match s with
 | .inl t=>some t
 | .inr s1 =>
  (mIdx s1.2.Gens s1.1).bind fun x1 =>
  (mIdx s1.2.Gens s1.1).bind fun x2 =>
  (mIdx s1.2.In s1.1).bind fun x3 =>
  (mIdx s1.2.V s1.1).bind fun x4 =>
  (mIdx (mSet s1.2.Gens s1.1 (w64 (x1+1))) s1.1).bind fun x5 =>
  some (zd.mk s1.1 x5,true,zo.mk s1.2.Most (mSet s1.2.Gens s1.1 (w64 (x1+1))) (mSet s1.2.In s1.1 true) (mSet s1.2.V s1.1 v_) s1.2.Back)
def tU (a_:zJ)(b:zJ):Option (Bool) :=
 some ((decide (a_.Key<b.Key)) || ((a_.Key == b.Key) && (decide (a_.Serial<b.Serial))))
def yp (e:Int)(m_:zc):Nat->Int->Int->Option (Int)
 | 0,_,_=>none
 | m+1,j,i =>
  (bif decide (i<(m_.L.length:Int)) then
   (((mIdx m_.L i).bind fun x2 =>
   (bif x2.Queue == e then
    (bif decide (j<0) then
     some true
    else
     (mIdx m_.L i).bind fun x3 =>
     (mIdx m_.L j).bind fun x4 =>
     (tU x3.E x4.E).bind fun t_ =>
     some t_)
   else
    some false)).bind fun s2 =>
   (bif s2 then
    some i
   else
    some j)).bind fun s1 =>
   yp e m_ m s1 (w64 (i+1))
  else
   some j)
def xH (k:Nat)(d:zc)(queue:Int):Option (Int) :=
 (yp queue d k (-1) 0).bind fun s =>
 some s
def wH (p:zo)(r:zd):Option (Int) :=
 ((bif decide (r.At<0) then
  some true
 else
  (bif decide (r.At >= (p.Gens.length:Int)) then
   some true
  else
   (bif decide (r.Gen<1) then
    some true
   else
    (mIdx p.Gens r.At).bind fun x1 =>
    some (decide (r.Gen > x1)))))).bind fun s =>
 (bif s then
  some 22
 else
  ((mIdx p.Gens r.At).bind fun x4 =>
  (bif decide (r.Gen<x4) then
   some true
  else
   (mIdx p.In r.At).bind fun x5 =>
   some (!x5))).bind fun s1 =>
  (bif s1 then
   some 23
  else
   some 0))
def vp (p:zo)(r:zd):Option (Int × Int × zo) :=
 (wH p r).bind fun t_ =>
 (bif t_ != 0 then
  some (0,t_,p)
 else
  (mIdx p.In r.At).bind fun x =>
  (mApp ([]:List Int) p.Back).bind fun l =>
  (mApp l ([r.At]:List Int)).bind fun e =>
  (mIdx ((zo.mk p.Most p.Gens (mSet p.In r.At false) p.V e).V) r.At).bind fun x1 =>
  some (x1,0,(zo.mk p.Most p.Gens (mSet p.In r.At false) p.V e)))
def xn (d:zc)(e:Int):Option (zH × zc) :=
 (mIdx d.L e).bind fun x =>
 (mCut d.L 0 e).bind fun l =>
 (mCut d.L (w64 (e+1)) (d.L.length:Int)).bind fun i =>
 (mApp ([]:List zH) l).bind fun j =>
 (mApp j i).bind fun t =>
 (vp d.Pool x.R).bind fun t_ =>
 some (x,zc.mk d.Most d.Now d.Next t_.2.2 t)
def yy (e:Int)(m_:zc):Nat->Int->Int->Option (Int)
 | 0,_,_=>none
 | m+1,n,i =>
  (bif decide (i<(m_.L.length:Int)) then
   ((mIdx m_.L i).bind fun x =>
   (bif x.Queue == e then
    some (w64 (n+1))
   else
    some n)).bind fun s1 =>
   yy e m_ m s1 (w64 (i+1))
  else
   some n)
def xG (k:Nat)(d:zc)(queue:Int):Option (Int) :=
 (yy queue d k 0 0).bind fun s =>
 some s
def yz:Nat->Int->Int->zc->Option (Int × zc)
 | 0,_,_,_=>none
 | m+1,n,i,m_ =>
  (bif decide (i<(m_.L.length:Int)) then
   ((mIdx m_.L i).bind fun x2 =>
   (bif x2.Queue == 1 then
    (mIdx m_.L i).bind fun x3 =>
    some (w64 (n+1),zc.mk m_.Most m_.Now m_.Next m_.Pool (mSet m_.L i (zH.mk 0 x3.Data x3.E x3.R)))
   else
    some (n,m_))).bind fun s2 =>
   yz m s2.1 (w64 (i+1)) s2.2
  else
   some (n,m_))
def ye (k:Nat)(d:zc)(c_:zk):Option (zn × zc) :=
 (bif c_.Kind == 1 then
  (xo d.Pool 0).bind fun t_ =>
  (bif !t_.2.1 then
   some (zn.mk 13 (zd.mk 0 0) 0 0 0,zc.mk d.Most d.Now d.Next t_.2.2 d.L)
  else
   (mApp ([]:List zH) d.L).bind fun l =>
   (mApp l ([zH.mk c_.Queue c_.Data (zJ.mk c_.Time d.Next) t_.1]:List zH)).bind fun j =>
   some (zn.mk 0 t_.1 c_.Time c_.Data 0,zc.mk ((zc.mk d.Most d.Now d.Next t_.2.2 j).Most) ((zc.mk d.Most d.Now d.Next t_.2.2 j).Now) (w64 (((zc.mk d.Most d.Now d.Next t_.2.2 j).Next)+1)) ((zc.mk d.Most d.Now d.Next t_.2.2 j).Pool) ((zc.mk d.Most d.Now d.Next t_.2.2 j).L)))
 else
  (bif c_.Kind == 5 then
   (xH k d c_.Queue).bind fun i =>
   ((bif decide (i<0) then
    some true
   else
    (mIdx d.L i).bind fun x1 =>
    some (decide (x1.E.Key > d.Now)))).bind fun s =>
   (bif s then
    some (zn.mk 28 (zd.mk 0 0) 0 0 0,d)
   else
    (xn d i).bind fun e =>
    some (zn.mk 0 e.1.R e.1.E.Key e.1.Data 0,e.2))
  else
   (bif c_.Kind == 6 then
    (bif c_.Queue == 0 then
     some (zn.mk 25 (zd.mk 0 0) 0 0 0,d)
    else
     (yz k 0 0 d).bind fun s1 =>
     some (zn.mk 0 (zd.mk 0 0) 0 0 s1.1,s1.2))
   else
    (xG k d c_.Queue).bind fun t =>
    some (zn.mk 0 (zd.mk 0 0) 0 0 t,d))))
def yK (v_:Int)(e:Int)(m_:zc):Nat->Int->Option ((Int × zc) ⊕ (Unit))
 | 0,_=>none
 | m+1,i =>
  (bif decide (i<(m_.L.length:Int)) then
   (mIdx m_.L i).bind fun x =>
   (bif zd.eq x.R (zd.mk v_ e) then
    some (.inl (i,m_))
   else
    yK v_ e m_ m (w64 (i+1)))
  else
   some (.inr ()))
def xY (k:Nat)(d:zc)(r:zd):Option (Int × zc) :=
 (yK r.At r.Gen d k 0).bind fun s =>
 match s with
 | .inl e=>some e
 | .inr s1 =>
  some ((-1),d)
def tT (a_:Int)(b:Int):Option (Int) :=
 (bif (decide (a_ > 0)) && (decide (b > w64 (9223372036854775807 - a_))) then
  some 9223372036854775807
 else
  (bif (decide (a_<0)) && (decide (b<w64 ((-9223372036854775808) - a_))) then
   some (-9223372036854775808)
  else
   some (w64 (a_+b))))
def zP (k:Nat)(d:zc)(c_:zk):Option (zn × zc) :=
 (((bif c_.Kind == 1 then
  some (c_.Kind == 1)
 else
  (bif c_.Kind == 5 then
   some (c_.Kind == 5)
  else
   (bif c_.Kind == 6 then
    some (c_.Kind == 6)
   else
    some (c_.Kind == 7))))).bind fun s2 =>
 (bif s2 then
  (bif (c_.Queue != 0) && (c_.Queue != 1) then
   some (.inl (zn.mk 1 (zd.mk 0 0) 0 0 0,d))
  else
   (ye k d c_).bind fun t_ =>
   some (.inl (t_.1,t_.2)))
 else
  ((bif c_.Kind == 2 then
   some (c_.Kind == 2)
  else
   some (c_.Kind == 3))).bind fun u =>
  (bif u then
   (wH d.Pool c_.Job).bind fun j =>
   (bif j != 0 then
    some (.inl (zn.mk j (zd.mk 0 0) 0 0 0,d))
   else
    (xY k d c_.Job).bind fun e =>
    (bif c_.Kind == 3 then
     (xn e.2 e.1).bind fun i =>
     some (.inl (zn.mk 0 (zd.mk 0 0) i.1.E.Key i.1.Data 0,i.2))
    else
     (mIdx e.2.L e.1).bind fun x =>
     (bif decide (c_.Time > x.E.Key) then
      some (.inl (zn.mk 26 (zd.mk 0 0) 0 0 0,e.2))
     else
      (mIdx e.2.L e.1).bind fun x1 =>
      (mIdx (mSet e.2.L e.1 (zH.mk x1.Queue x1.Data (zJ.mk c_.Time x1.E.Serial) x1.R)) e.1).bind fun x2 =>
      some (.inl (zn.mk 0 (zd.mk 0 0) c_.Time x2.Data 0,zc.mk e.2.Most e.2.Now e.2.Next e.2.Pool (mSet e.2.L e.1 (zH.mk x1.Queue x1.Data (zJ.mk c_.Time x1.E.Serial) x1.R)))))))
  else
   (bif c_.Kind == 4 then
    (bif decide (c_.Time<0) then
     some (.inl (zn.mk 1 (zd.mk 0 0) 0 0 0,d))
    else
     (tT d.Now c_.Time).bind fun l =>
     some (.inl (zn.mk 0 (zd.mk 0 0) l 0 0,zc.mk d.Most l d.Next d.Pool d.L)))
   else
    some (.inr ())))):Option ((zn × zc) ⊕ (Unit))).bind fun s =>
 match s with
 | .inl t=>some t
 | .inr s1 =>
  some (zn.mk 12 (zd.mk 0 0) 0 0 0,d)
def vJ (b:zg):Option (Int) :=
 some (b.c_.buf.length:Int)
def xg (x1:Int)(m_:zj):Nat->Int->Int->Option (Int)
 | 0,_,_=>none
 | m+1,n,x =>
  (bif decide (x<x1) then
   (mIdx m_.l x).bind fun x2 =>
   (vJ x2).bind fun t_ =>
   xg x1 m_ m (w64 (n+t_)) (w64 (x+1))
  else
   some n)
def vu (k:Nat)(d:zj):Option (Int) :=
 (xg (d.l.length:Int) d k 0 0).bind fun s =>
 some s
def vT (k:Nat)(s:zh):Option (Int) :=
 (vu k s.desk).bind fun t_ =>
 some t_
def xr (d:zb):Option (Int) :=
 (sD d.t_).bind fun t_ =>
 some t_
def xR (d:zb):Option (Int) :=
 some d.budget
def wO (n1:Int)(i:Int)(i1:Int)(v_:Int)(t:Int)(u:Int)(x:Int)(y:Int)(z:Int)(B:List zd)(A:List (List zk))(j:zc)(l:zh)(D:List zE):Nat->Int->Option (Int)
 | 0,_=>none
 | m+1,e =>
  ((bif decide (e<n1) then
   (mIdx A e).bind fun x3 =>
   some ((x3.length:Int) == 0)
  else
   some false)).bind fun F =>
  (bif F then
   wO n1 i i1 v_ t u x y z B A j l D m (w64 (e+1))
  else
   some e)
def yT (z:Int)(j:Int)(i3:Int)(t:List zd)(l:List (List zk))(x:zc)(y:zh)(u:List zE):Nat->Int->Int->Option (Int)
 | 0,_,_=>none
 | m+1,e,i =>
  (bif decide (i<z) then
   (mIdx l i).bind fun x10 =>
   yT z j i3 t l x y u m (w64 (e+(x10.length:Int))) (w64 (i+1))
  else
   some e)
def wN (n:Int)(most:Int)(I:List zE):Nat->(List zd)->Int->(List (List zk))->zc->zh->Option ((Bool) ⊕ (zc × zh))
 | 0,_,_,_,_,_=>none
 | m+1,told,i,y,A,B =>
  (bif (decide (i<(I.length:Int))) && (decide (i<90)) then
   ((mIdx I i).bind fun x =>
   (tr x.D told).bind fun l =>
   (mIdx I i).bind fun x1 =>
   ((bif x1.Kind == 4 then
    some (x1.Kind == 4)
   else
    (bif x1.Kind == 5 then
     some (x1.Kind == 5)
    else
     (bif x1.Kind == 6 then
      some (x1.Kind == 6)
     else
      some (x1.Kind == 7))))).bind fun s5 =>
   (bif s5 then
    (wO n most i l.Kind l.Queue l.Job.At l.Job.Gen l.Time l.Data told y A B I m 0).bind fun s6 =>
    (yF m B).bind fun j =>
    ((bif !(j.2.2.1 == (decide (s6<n))) then
     some true
    else
     (bif !j.2.2.1 then
      (bif !(zn.eq j.1 (zn.mk 0 (zd.mk 0 0) 0 0 0)) then
       some true
      else
       some (!(zk.eq j.2.1 (zk.mk 0 0 (zd.mk 0 0) 0 0))))
     else
      some false))).bind fun s8 =>
    (bif s8 then
     some (.inl false)
    else
     (bif !j.2.2.1 then
      some (.inr (told,y,A,j.2.2.2))
     else
      (mIdx y s6).bind fun x4 =>
      (mIdx x4 0).bind fun x5 =>
      (mCut x4 1 (x4.length:Int)).bind fun l6 =>
      (mApp ([]:List zk) l6).bind fun l7 =>
      (bif !(zk.eq j.2.1 x5) then
       some (.inl false)
      else
       (zP m A x5).bind fun F =>
       (bif !(zn.eq j.1 F.1) then
        some (.inl false)
       else
        ((bif (x5.Kind == 1) && (j.1.Why == 0) then
         (mApp told ([j.1.Job]:List zd)).bind fun l8 =>
         some l8
        else
         some told)).bind fun s9 =>
        (yT n most i s9 (mSet y s6 l7) F.2 j.2.2.2 I m 0 0).bind fun b1 =>
        ((vT m j.2.2.2).bind fun U =>
        (bif U != b1 then
         some true
        else
         (zO j.2.2.2).bind fun b9 =>
         (xt j.2.2.2.d).bind fun W =>
         (bif W != F.2.Now then
          some true
         else
          (zO j.2.2.2).bind fun c0 =>
          (xr j.2.2.2.d).bind fun X =>
          (bif X != (F.2.L.length:Int) then
           some true
          else
           (zO j.2.2.2).bind fun c1 =>
           (xi j.2.2.2.d).bind fun Y =>
           (zO j.2.2.2).bind fun c2 =>
           (xR j.2.2.2.d).bind fun Z =>
           some (decide (Y > Z)))))).bind fun b2 =>
        (bif b2 then
         some (.inl false)
        else
         some (.inr (s9,mSet y s6 l7,F.2,j.2.2.2)))))))
   else
    ((bif x1.Kind == 8 then
     (xP m B l).bind fun t =>
     (zP m A l).bind fun u =>
     some (.inr (u.1.Why,u.1.Job.At,u.1.Job.Gen,u.1.Time,u.1.Data,u.1.N,t.1.Why,t.1.Job.At,t.1.Job.Gen,t.1.Time,t.1.Data,t.1.N,l.Kind,l.Queue,l.Job.At,l.Job.Gen,l.Time,l.Data,y,u.2,t.2))
    else
     (mIdx I i).bind fun x7 =>
     (yU x7.Box (-1) 4).bind fun z =>
     ((bif (decide (z<0)) || (decide (z >= n)) then
      some 30
     else
      (mIdx y z).bind fun x8 =>
      (bif decide ((x8.length:Int) >= most) then
       some 13
      else
       some 0))).bind fun O =>
     (yL B z l).bind fun J =>
     (bif J.1 != O then
      some (.inl false)
     else
      ((bif O == 0 then
       (mIdx y z).bind fun x9 =>
       (mApp ([]:List zk) x9).bind fun a7 =>
       (mApp a7 ([l]:List zk)).bind fun a8 =>
       some (mSet y z a8)
      else
       some y)).bind fun b4 =>
      some (.inr (0,0,0,0,0,0,0,0,0,0,0,0,0,0,0,0,0,0,b4,A,J.2)))):Option ((Bool) ⊕ (Int × Int × Int × Int × Int × Int × Int × Int × Int × Int × Int × Int × Int × Int × Int × Int × Int × Int × (List (List zk)) × zc × zh))).bind fun b3 =>
    match b3 with
    | .inl r_=>some (.inl r_)
    | .inr e =>
     (bif !(zn.eq (zn.mk e.2.2.2.2.2.2.1 (zd.mk e.2.2.2.2.2.2.2.1 e.2.2.2.2.2.2.2.2.1) e.2.2.2.2.2.2.2.2.2.1 e.2.2.2.2.2.2.2.2.2.2.1 e.2.2.2.2.2.2.2.2.2.2.2.1) (zn.mk e.1 (zd.mk e.2.1 e.2.2.1) e.2.2.2.1 e.2.2.2.2.1 e.2.2.2.2.2.1)) then
      some (.inl false)
     else
      ((bif (e.2.2.2.2.2.2.2.2.2.2.2.2.1 == 1) && (e.2.2.2.2.2.2.1 == 0) then
       (mApp told ([zd.mk e.2.2.2.2.2.2.2.1 e.2.2.2.2.2.2.2.2.1]:List zd)).bind fun a9 =>
       some a9
      else
       some told)).bind fun S =>
      (yT n most i S e.2.2.2.2.2.2.2.2.2.2.2.2.2.2.2.2.2.2.1 e.2.2.2.2.2.2.2.2.2.2.2.2.2.2.2.2.2.2.2.1 e.2.2.2.2.2.2.2.2.2.2.2.2.2.2.2.2.2.2.2.2 I m 0 0).bind fun b5 =>
      ((vT m e.2.2.2.2.2.2.2.2.2.2.2.2.2.2.2.2.2.2.2.2).bind fun a0 =>
      (bif a0 != b5 then
       some true
      else
       (zO e.2.2.2.2.2.2.2.2.2.2.2.2.2.2.2.2.2.2.2.2).bind fun c3 =>
       (xt e.2.2.2.2.2.2.2.2.2.2.2.2.2.2.2.2.2.2.2.2.d).bind fun a1 =>
       (bif a1 != e.2.2.2.2.2.2.2.2.2.2.2.2.2.2.2.2.2.2.2.1.Now then
        some true
       else
        (zO e.2.2.2.2.2.2.2.2.2.2.2.2.2.2.2.2.2.2.2.2).bind fun c4 =>
        (xr e.2.2.2.2.2.2.2.2.2.2.2.2.2.2.2.2.2.2.2.2.d).bind fun a2 =>
        (bif a2 != (e.2.2.2.2.2.2.2.2.2.2.2.2.2.2.2.2.2.2.2.1.L.length:Int) then
         some true
        else
         (zO e.2.2.2.2.2.2.2.2.2.2.2.2.2.2.2.2.2.2.2.2).bind fun c5 =>
         (xi e.2.2.2.2.2.2.2.2.2.2.2.2.2.2.2.2.2.2.2.2.d).bind fun a3 =>
         (zO e.2.2.2.2.2.2.2.2.2.2.2.2.2.2.2.2.2.2.2.2).bind fun c6 =>
         (xR e.2.2.2.2.2.2.2.2.2.2.2.2.2.2.2.2.2.2.2.2.d).bind fun a4 =>
         some (decide (a3 > a4)))))).bind fun b6 =>
      (bif b6 then
       some (.inl false)
      else
       some (.inr (S,e.2.2.2.2.2.2.2.2.2.2.2.2.2.2.2.2.2.2.1,e.2.2.2.2.2.2.2.2.2.2.2.2.2.2.2.2.2.2.2.1,e.2.2.2.2.2.2.2.2.2.2.2.2.2.2.2.2.2.2.2.2))))):Option ((Bool) ⊕ ((List zd) × (List (List zk)) × zc × zh))).bind fun s3 =>
   match s3 with
   | .inl r_=>some (.inl r_)
   | .inr s4 =>
    wN n most I m s4.1 (w64 (i+1)) s4.2.1 s4.2.2.1 s4.2.2.2
  else
   some (.inr (A,B)))
def vL (k:Nat)(y:Int)(i:Int)(boxes:Int)(room:Int)(l:List zE):Option (Bool) :=
 (yU y 1 3).bind fun t_ =>
 (yU i 1 20).bind fun j =>
 (yU boxes 1 4).bind fun e =>
 (yU room 1 6).bind fun t =>
 (uf k t_ j e t).bind fun u =>
 (uA u.1
  (some false)
  (fun m_ =>
  ((bif u.2 != 0 then
   some true
  else
   (zO m_).bind fun B =>
   some false)).bind fun s =>
  (bif s then
   some false
  else
   (ra j).bind fun x =>
   (iG e ([]:List zk)).bind fun z =>
   (wN e t l k ([]:List zd) 0 z x m_).bind fun s1 =>
   match s1 with
   | .inl A=>some A
   | .inr s2 =>
    some true)))
def vn (k:Nat)  : Option (Bool) :=
 (uf k 3 4 2 2).bind fun t_ =>
 (uA t_.1
  ((uf k 5 4 2 2).bind fun O =>
  (uA O.1
   (some false)
   (fun X =>
   some false)))
  (fun m_ =>
  (uf k 5 4 2 2).bind fun z =>
  (uA z.1
   (((bif t_.2 != 0 then
    some (true,m_)
   else
    (bif z.2 != 24 then
     some (true,m_)
    else
     (yL m_ 9 (zk.mk 0 0 (zd.mk 0 0) 0 0)).bind fun A =>
     (bif A.1 != 30 then
      some (true,A.2)
     else
      (yL A.2 1 (zk.mk 1 0 (zd.mk 0 0) 0 7)).bind fun B =>
      (bif B.1 != 0 then
       some (true,B.2)
      else
       (yL B.2 0 (zk.mk 7 0 (zd.mk 0 0) 0 0)).bind fun J =>
       some (J.1 != 0,J.2)))))).bind fun s =>
   (bif s.1 then
    some false
   else
    (yF k s.2).bind fun u =>
    (yF k u.2.2.2).bind fun D =>
    (yF k D.2.2.2).bind fun x =>
    ((bif u.2.2.1 then
     (bif zn.eq u.1 (zn.mk 0 (zd.mk 0 0) 0 0 0) then
      (bif u.2.1.Kind == 7 then
       (bif D.2.2.1 then
        (bif D.1.Data == 7 then
         (bif !x.2.2.1 then
          (zO x.2.2.2).bind fun a0 =>
          (zO x.2.2.2).bind fun S =>
          (xr x.2.2.2.d).bind fun F =>
          some (F == 1)
         else
          some false)
        else
         some false)
       else
        some false)
      else
       some false)
     else
      some false)
    else
     some false)).bind fun s1 =>
    some s1))
   (fun Y =>
   ((bif t_.2 != 0 then
    some (true,m_)
   else
    (bif z.2 != 24 then
     some (true,m_)
    else
     (yL m_ 9 (zk.mk 0 0 (zd.mk 0 0) 0 0)).bind fun j =>
     (bif j.1 != 30 then
      some (true,j.2)
     else
      (yL j.2 1 (zk.mk 1 0 (zd.mk 0 0) 0 7)).bind fun l =>
      (bif l.1 != 0 then
       some (true,l.2)
      else
       (yL l.2 0 (zk.mk 7 0 (zd.mk 0 0) 0 0)).bind fun y =>
       some (y.1 != 0,y.2)))))).bind fun s2 =>
   (bif s2.1 then
    some false
   else
    (yF k s2.2).bind fun e =>
    (yF k e.2.2.2).bind fun t =>
    (yF k t.2.2.2).bind fun i =>
    ((bif e.2.2.1 then
     (bif zn.eq e.1 (zn.mk 0 (zd.mk 0 0) 0 0 0) then
      (bif e.2.1.Kind == 7 then
       (bif t.2.2.1 then
        (bif t.1.Data == 7 then
         (bif !i.2.2.1 then
          (zO i.2.2.2).bind fun U =>
          (zO i.2.2.2).bind fun W =>
          (xr i.2.2.2.d).bind fun I =>
          some (I == 1)
         else
          some false)
        else
         some false)
       else
        some false)
      else
       some false)
     else
      some false)
    else
     some false)).bind fun Z =>
    some Z)))))
def qP (k:Nat)(j:Int)(e:Int)(boxes:Int)(room:Int)(l:List zE):Option (Bool) :=
 ((vL k j e boxes room l).bind fun t_ =>
 (bif t_ then
  (vn k).bind fun i =>
  some i
 else
  some false)).bind fun s =>
 some s
def yS (e:Int)(i:List Int)(x1:Int)(m_:zu):Nat->Int->Int->Option (Int)
 | 0,_,_=>none
 | m+1,n,x =>
  (bif decide (x<x1) then
   (mIdx i x).bind fun x2 =>
   yS e i x1 m_ m (IntKind.wrap .u64 ((BitVec.ofInt 64 (IntKind.wrap .u64 (n*2 ^ (min (Int.toNat 8) 64))) ||| BitVec.ofInt 64 (IntKind.wrap .u64 (x2))).toNat:Int)) (w64 (x+1))
  else
   some n)
def xm (k:Nat)(r:zu)(bytes:Int):Option (Int × zu) :=
 (bif decide ((r.b.length:Int)<bytes) then
  some (0,zu.mk ([]:List Int) true)
 else
  (mCut r.b 0 bytes).bind fun l =>
  (yS bytes l (l.length:Int) r k 0 0).bind fun s =>
  (mCut r.b bytes (r.b.length:Int)).bind fun e =>
  some (s,zu.mk e r.bad))
def yc (k:Nat)(r:zu)(bytes:Int):Option (Int × zu) :=
 (xm k r bytes).bind fun t_ =>
 some (w64 (t_.1),t_.2)
def rA (kind:Int):Option (Bool) :=
 some ((kind == 1) || (kind == 3))
def su (e:Int)(x1:Int)(i:List Int):Nat->Int->Option ((Bool) ⊕ (Unit))
 | 0,_=>none
 | m+1,x =>
  (bif decide (x<x1) then
   (mIdx i x).bind fun x2 =>
   (bif (decide (x2<0)) || (decide (x2 > e)) then
    some (.inl false)
   else
    su e x1 i m (w64 (x+1)))
  else
   some (.inr ()))
def tP (k:Nat)(most:Int)(l:List Int):Option (Bool) :=
 (su most (l.length:Int) l k 0).bind fun s =>
 match s with
 | .inl e=>some e
 | .inr s1 =>
  some true
def ob (k:Nat)(x:zS):Option (Bool) :=
 (bif (decide (x.Kind<1)) || (decide (x.Kind > 4)) then
  some false
 else
  (rA x.Kind).bind fun t_ =>
  (bif !t_ then
   some true
  else
   ((bif x.Kind != 1 then
    (tP k 255 ([x.Command.Kind]:List Int)).bind fun e =>
    (bif e then
     (tP k 1 ([x.Command.Queue]:List Int)).bind fun i =>
     (bif i then
      (tP k 65535 ([x.Command.Job.At,x.Command.Job.Gen,x.Command.Data]:List Int)).bind fun j =>
      some j
     else
      some false)
    else
     some false)
   else
    (tP k 255 ([x.Box]:List Int)).bind fun l =>
    (bif l then
     (tP k 255 ([x.Command.Kind]:List Int)).bind fun t =>
     (bif t then
      (tP k 1 ([x.Command.Queue]:List Int)).bind fun u =>
      (bif u then
       (tP k 65535 ([x.Command.Job.At,x.Command.Job.Gen,x.Command.Data]:List Int)).bind fun y =>
       some y
      else
       some false)
     else
      some false)
    else
     some false))).bind fun s =>
   some s))
def qN (k:Nat)(r:zu)(kind:Int):Option (zS × Bool × zu) :=
 ((bif kind == 1 then
  (yc k r 1).bind fun t_ =>
  some (t_.1,t_.2)
 else
  some (0,r))).bind fun s =>
 (rA kind).bind fun x =>
 ((bif x then
  (yc k s.2 1).bind fun e =>
  (yc k e.2 1).bind fun i =>
  (yc k i.2 2).bind fun j =>
  (yc k j.2 2).bind fun l =>
  (xm k l.2 8).bind fun t =>
  (yc k t.2 2).bind fun u =>
  some (e.1,i.1,j.1,l.1,w64 (t.1),u.1,u.2)
 else
  some (0,0,0,0,0,0,s.2))).bind fun s1 =>
 ((bif !s1.2.2.2.2.2.2.bad then
  (ob k (zS.mk kind s.1 (zk.mk s1.1 s1.2.1 (zd.mk s1.2.2.1 s1.2.2.2.1) s1.2.2.2.2.1 s1.2.2.2.2.2.1))).bind fun y =>
  some (y,kind,s.1,s1.1,s1.2.1,s1.2.2.1,s1.2.2.2.1,s1.2.2.2.2.1,s1.2.2.2.2.2.1)
 else
  some (false,kind,s.1,s1.1,s1.2.1,s1.2.2.1,s1.2.2.2.1,s1.2.2.2.2.1,s1.2.2.2.2.2.1))).bind fun s2 =>
 some (zS.mk s2.2.1 s2.2.2.1 (zk.mk s2.2.2.2.1 s2.2.2.2.2.1 (zd.mk s2.2.2.2.2.2.1 s2.2.2.2.2.2.2.1) s2.2.2.2.2.2.2.2.1 s2.2.2.2.2.2.2.2.2),s2.1,s1.2.2.2.2.2.2)
def wD (t:zz)(l:List Int):Nat->zz->zu->Option (zz × zu)
 | 0,_,_=>none
 | m+1,m_,j =>
  ((bif decide ((j.b.length:Int) > 0) then
   some (decide ((m_.Acts.length:Int)<256))
  else
   some false)).bind fun s1 =>
  (bif s1 then
   (yc m j 1).bind fun e =>
   (bif (decide (e.1<1)) || (decide (e.1 > 4)) then
    wD t l m m_ e.2
   else
    (qN m e.2 e.1).bind fun i =>
    (bif !i.2.1 then
     some (m_,i.2.2)
    else
     (mApp m_.Acts ([i.1]:List zS)).bind fun u =>
     wD t l m (zz.mk m_.Kind m_.Jobs m_.Boxes m_.Room u) i.2.2))
  else
   some (m_,j))
def sN (k:Nat)(b:List Int):Option (zz × Int) :=
 (bif decide ((b.length:Int)<5) then
  some (zz.mk 0 0 0 0 ([]:List zS),12)
 else
  (yc k (zu.mk b false) 1).bind fun t_ =>
  (yc k t_.2 2).bind fun e =>
  (yc k e.2 1).bind fun i =>
  (yc k i.2 1).bind fun j =>
  (wD (zz.mk 0 0 0 0 ([]:List zS)) b k (zz.mk t_.1 e.1 i.1 j.1 ([]:List zS)) j.2).bind fun s =>
  some (s.1,0))
def ss (k:Nat)(b:List Int):Option (xQ) :=
 (sN k b).bind fun t_ =>
 (bif t_.2 != 0 then
  some (xQ.mk ([]:List zn) ([]:List zx) t_.2)
 else
  (lB k t_.1).bind fun e =>
  some e)
def yJ (l:List zn)(e:List zn):Nat->Int->Option ((Bool) ⊕ (Unit))
 | 0,_=>none
 | m+1,i =>
  (bif decide (i<(l.length:Int)) then
   (mIdx l i).bind fun x =>
   (mIdx e i).bind fun x1 =>
   (bif !(zn.eq x x1) then
    some (.inl false)
   else
    yJ l e m (w64 (i+1)))
  else
   some (.inr ()))
def xA (k:Nat)(a_:List zn)(b:List zn):Option (Bool) :=
 (bif (a_.length:Int) != (b.length:Int) then
  some false
 else
  (yJ a_ b k 0).bind fun s =>
  match s with
  | .inl e=>some e
  | .inr s1 =>
   some true)
def yD (l:List zx)(e:List zx):Nat->Int->Option ((Bool) ⊕ (Unit))
 | 0,_=>none
 | m+1,i =>
  (bif decide (i<(l.length:Int)) then
   (mIdx l i).bind fun x =>
   (mIdx e i).bind fun x1 =>
   (bif !(zx.eq x x1) then
    some (.inl false)
   else
    yD l e m (w64 (i+1)))
  else
   some (.inr ()))
def xh (k:Nat)(a_:List zx)(b:List zx):Option (Bool) :=
 (bif (a_.length:Int) != (b.length:Int) then
  some false
 else
  (yD a_ b k 0).bind fun s =>
  match s with
  | .inl e=>some e
  | .inr s1 =>
   some true)
def jy (n:Int):Option (Int) :=
 (bif decide ((if n > 0 then n else 0) > 23058430092136938) then
  some 9223372036854775807
 else
  some (w64 (500+(w64 (400*(if n > 0 then n else 0))))))
def qc (k:Nat)(n:Int):Option (Int) :=
 ((bif decide ((if n > 0 then n else 0)<9223372036854775807) then
  some (w64 ((if n > 0 then n else 0)+1))
 else
  some (if n > 0 then n else 0))).bind fun s =>
 (ph k 500 400 s).bind fun t_ =>
 some t_
def eI (k:Nat)(e:Int)(op:Int)(n:Int):Option (Int) :=
 ((qE e).bind fun t_ =>
 (bif t_ then
  some (op == 9)
 else
  some false)).bind fun s =>
 (bif s then
  (jy n).bind fun i =>
  some i
 else
  (vh e).bind fun j =>
  (bif !j then
   some 500
  else
   ((bif op == 2 then
    (bif e == 3 then
     some (.inl 500)
    else
     (qc k n).bind fun l =>
     some (.inl l))
   else
    (bif op == 3 then
     (bif e == 1 then
      some (.inl 500)
     else
      (qc k n).bind fun t =>
      some (.inl t))
    else
     ((bif op == 4 then
      some (op == 4)
     else
      (bif op == 5 then
       some (op == 5)
      else
       (bif op == 6 then
        some (op == 6)
       else
        some (op == 7))))).bind fun y =>
     (bif y then
      (qc k n).bind fun u =>
      some (.inl u)
     else
      some (.inr ())))):Option ((Int) ⊕ (Unit))).bind fun s1 =>
   match s1 with
   | .inl x=>some x
   | .inr s2 =>
    some 500))
def uc (k:Nat)  : Option (Bool) :=
 (gF 2).bind fun t_ =>
 (uA t_.1
  (some false)
  (fun m_ =>
  (bif t_.2 != 0 then
   some false
  else
   (yh k m_ (yk.mk 1 1 (zd.mk 0 0) (zd.mk 0 0) (zd.mk 0 0) 0)).bind fun e =>
   (yh k e.2 (yk.mk 2 0 e.1.Heap (zd.mk 0 0) (zd.mk 0 0) 5)).bind fun i =>
   (yh k i.2 (yk.mk 3 0 e.1.Heap (zd.mk 0 0) (zd.mk 0 0) 0)).bind fun j =>
   ((bif e.1.Why == 0 then
    (bif i.1.Why == 0 then
     (bif j.1.Entry.Key == 5 then
      (bif zd.eq j.1.Item i.1.Item then
       (eI k 1 1 0).bind fun l =>
       some (l == 500)
      else
       some false)
     else
      some false)
    else
     some false)
   else
    some false)).bind fun s =>
   some s)))
def vq (k:Nat)(b:List Int):Option (Bool) :=
 ((bif decide ((b.length:Int) > 300) then
  (mCut b 0 300).bind fun l =>
  some l
 else
  some b)).bind fun s =>
 (ss k s).bind fun t_ =>
 (ss k s).bind fun e =>
 ((bif t_.Why == e.Why then
  (xA k t_.Replies e.Replies).bind fun i =>
  (bif i then
   (xh k t_.Events e.Events).bind fun j =>
   (bif j then
    (bif t_.Why == 0 then
     (uc k).bind fun t =>
     some t
    else
     (bif (w64 ((t_.Replies.length:Int)+(t_.Events.length:Int))) == 0 then
      (uc k).bind fun u =>
      some u
     else
      some false))
   else
    some false)
  else
   some false)
 else
  some false)).bind fun s1 =>
 some s1
end
end Go.Proofs.YtcepppmiplonfaaGreat
