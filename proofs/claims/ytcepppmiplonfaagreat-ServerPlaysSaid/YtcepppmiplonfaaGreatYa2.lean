/-
  The statements ServerPlays of the program.
  Text 2 of 10: of what the proof needs (a row of the program: no condition is left); put together and made narrow by a program.
-/
import Derived.Below
import Derived.Deep.Slices
import Derived.Deep.Strs
import Derived.Laws.BytesString
import Derived.Laws.Externs
import Derived.Lib.AppendZerosOnto
import Derived.Lib.Overlaps
import Derived.Lib.SmallJoins
import Derived.MapKept
import Derived.Sort.Grow
import Derived.Sort.Row
import Derived.Test.YtcepppmiplonfaaGreatYa1
set_option linter.unusedVariables false
set_option linter.unusedSimpArgs false
namespace Go.Th
noncomputable section
theorem St.below {w w' : World} {As : List HP} (H : St w As w') (i : Nat) (hi : As[i]? = some (Old w)) : Go.RowKit.Below w.heap.size w w' := by
 have j := H.old i hi;refine ⟨H.os,H.tape,H.output,?_,j⟩;by_cases hz : w.heap.size = 0
 ·omega
 ·have := j (w.heap.size - 1) (by omega);have e : w.heap[w.heap.size - 1]? = some (w.heap[w.heap.size - 1]'(by omega)) := by simp
  rw [e] at this;have := (Array.getElem?_eq_some_iff.1 this).1;omega
theorem gH {α : Type} {p : Nat -> α -> Prop} : ∀ n : Nat,(∀ i,i < n -> ∃ x,p i x) -> ∃ l : List α,l.length = n /\ ∀ (i : Nat) (x : α),l[i]? = some x -> p i x
 | 0,_ => ⟨[],rfl,fun i x h => by simp at h⟩
 | n + 1,h => by
  obtain ⟨l,hl,hp⟩ := gH n fun i hi => h i (by omega)
  obtain ⟨x,u⟩ := h n (by omega);refine ⟨l ++ [x],by simp [hl],fun i y e => ?_⟩;by_cases hi : i < n
  ·rw [List.getElem?_append_left (by omega)] at e;exact hp i y e
  ·have t := (List.getElem?_eq_some_iff.1 e).1;simp [hl] at t;have j : i = n := by omega
   subst j;rw [List.getElem?_append_right (by omega)] at e;simp [hl] at e;subst e; exact u
section
variable {α H : Type} {en : TypeId × Value -> H} {P : Program} {w : World} {base : Nat} {spare : Nat -> Bool} {held : Bool} {enc : α -> List Value} {sz : Nat}
theorem BZ (he : xV enc sz) (hs : 0 < sz) {a : Addr} (l : List α) (h : ∀ (j : Nat) (u : Value),(l.flatMap enc)[j]? = some u -> w.cell? (a.add j) = some u) : SlRd (Old w) enc sz (some a) l := by
 intro g F;by_cases hl : l = []
 ·exact .inl hl
 have e := yA he l;have x : 0 < l.length := by cases l with
  | nil => exact absurd rfl hl
  | cons => simp
 have hp : 0 < (l.flatMap enc).length := by rw [e]; exact Nat.mul_pos x hs
 have h0 := h 0 _ (List.getElem?_eq_getElem hp);have e0 : a.add 0 = a := by simp [Addr.add]
 rw [e0] at h0;obtain ⟨b,off,spot⟩ := a;unfold World.cell? at h0;split at h0
 ·rename_i c T fr y;split at h0
  ·cases h0
  ·rename_i B;have A : spot = none := by simpa using B
   subst A;have z : b < w.heap.size := (Array.getElem?_eq_some_iff.1 y).1;refine .inr ⟨b,off,c,T,fr,rfl,by rw [F b z]; exact y,fun i hi => ?_⟩;have t : i < (l.flatMap enc).length := by rw [e]; exact hi
   have D := h i _ (List.getElem?_eq_getElem t);rw [List.getElem?_eq_getElem t,<- D];unfold Addr.add;split
   ·rename_i hz; subst hz; simp [World.cell?,y]
   ·simp [World.cell?,y]
 ·cases h0
theorem AY {t e : TypeId} {fuel : Nat} {cs : List Value} {x : DataW H × List MemPlace} (ht : P.underlying t = some (.slice e)) (X : P.cellsOf e = sz) (he : xV enc sz) (hs : 0 < sz)
  (B : ∀ n cs y,DataW.trod en P w base spare held n e cs = some y -> ∃ z : α,cs = enc z) (h : DataW.trod en P w base spare held fuel t cs = some x) :
  ∃ (sb : Option Addr) (len cap : Nat) (l : List α),cs = [.slice sb len cap] /\ l.length = len /\ len <= cap /\ SlRd (Old w) enc sz sb l := by
 rcases Go.Deep.open_slice ht h with ⟨rfl,_⟩ | ⟨a,len,cap,m,n,D,Z,rfl,hb,hl,hm,O,_,Y⟩
 ·exact ⟨none,0,0,[],rfl,rfl,Nat.le_refl _,fun _ _ => .inl rfl⟩
 ·obtain ⟨l,J,hp⟩ := gH (α := α) (p := fun i z => w.cells? base (a.add (i * sz)) sz = some (enc z)) len fun i hi => by
   obtain ⟨W,h1,h2⟩ := Y i (by rw [O]; split <;> omega);obtain ⟨z,rfl⟩ := B _ _ _ h2;rw [X] at h1;exact ⟨z,h1⟩
  refine ⟨some a,len,cap,l,rfl,J,hl,BZ he hs l fun j u hu => ?_⟩;have F := (List.getElem?_eq_some_iff.1 hu).1;rw [yA he] at F;have hj : j / sz < l.length := Nat.div_lt_of_lt_mul (by rw [Nat.mul_comm]; exact F);have hq : j % sz < sz := Nat.mod_lt _ hs;have S := tO he l (j / sz) (j % sz) hj hq;have U : j / sz * sz + j % sz = j := by rw [Nat.mul_comm]; exact Nat.div_add_mod j sz
  rw [U,hu] at S;have A := hp (j / sz) l[j / sz] (by simp [hj]);obtain ⟨_,_,I⟩ := World.cells?_some A;have := I (j % sz) (by exact hq);rw [<- S] at this;rw [<- this];congr 1;rw [Go.Deep.add_add,U]
end
end
noncomputable section
theorem cL (A X R V : List Value) (h : V.length = X.length) : putAt (A ++ (X ++ R)) A.length V = A ++ (V ++ R) := by
 rw [uM _ _ _ (by simp; omega)];rw [List.take_left' rfl,aA];congr 2;have : A.length + V.length = (A ++ X).length := by simp [h]
 rw [this,<- aA,List.drop_left' rfl]
theorem pD (A X R V : List Value) (n : Nat) (hn : n = A.length) (h : V.length = X.length) : putAt (A ++ (X ++ R)) n V = A ++ (V ++ R) := by
 subst hn; exact cL A X R V h
section
variable {w0 w : World} {As : List HP} {P : Program} {n : Nat} {a : Act} {L : Env} {o : Oper} {T : TypeId}
theorem A4 (H : St w0 As w) (i : Nat) {b off : Nat} {cs news : List Value} (hi : As[i]? = some (Blk b T cs)) (h : ∀ (j : Nat) (u : Value),news[j]? = some u -> cs[off + j]? = some u) : Rd w (some ⟨b,off,none⟩) news := by
 refine .inr ⟨_,rfl,fun j u hj => ?_⟩;rw [uo];exact H.cell i hi (h j u hj)
theorem OpTo.jn {b off j A e z sz : Nat} {O : Option Addr} {cs : List Value} (news : List Value) {x y : Operand} {t u : TypeId} {ti : TypeInfo} (S : zN n a L) (H : St w0 (Blk b T cs :: As) w)
  (W : o.op = .call { callee := .builtin .copy,args := #[x,y],argTypes := #[t,u] }) (Y : evO L x = some (.slice (some ⟨b,off,none⟩) j A)) (Z : evO L y = some (.slice O e z))
  (ht : P.underlying t = some (.slice T)) (hi : P.info? T = some ti) (J : ti.size = sz) (hr : Rd w O news) (hl : news.length = Nat.min e j * sz) (h1 : ∀ v ∈ news,v.oneCell' = true) (B : off + news.length <= cs.length) :
  OpTo P o a w fun v w' => (∃ k : Int,v = .int .i64 k) /\ St w0 (Blk b T (putAt cs off news) :: As) w' := by
 obtain ⟨dst,op,type,pos,after,guard⟩ := o;simp only at W;subst W;have U := H.one 0 rfl;have F := run_storeCells_at P b off T news 0 cs.toArray w U (by simpa using B) h1;simp only [Nat.add_zero] at F;rw [uM _ _ _ B];have hf := pE (P := P) (size := ti.size) (m := Nat.min e j) (len := e) (cap := z) hr (by rw [hl,J]);have D : (Builtin.copy_ #[t,u] type #[.slice (some ⟨b,off,none⟩) j A,.slice O e z]).run P w = .ok (goInt (Nat.min e j)) (w.setRow b (cs.take off ++ news ++ cs.drop (off + news.length)).toArray) := by
  have I : Sem.run P (storeCells { block := b,off := off } news) w = Result.ok () (w.setRow b (List.take off cs ++ (news ++ List.drop (off + news.length) cs)).toArray) := by simpa using F
  simp [Builtin.copy_,xL P ht,Builtin.lenOf,rE P hi,hf,I]
 refine OpTo.of_run (w' := w.setRow b (cs.take off ++ news ++ cs.drop (off + news.length)).toArray) (v := goInt (Nat.min e j)) ?_ ⟨⟨_,rfl⟩,?_⟩
 ·simp [execOp,resolve,invoke,builtin,S.eval Y,S.eval Z,D]
 ·exact H.set (by simp) (by simp) (by simp) (setRow_heap w b _ _ T (0,0) U) (fun c X => setRow_other w b c _ X)
theorem OpTo.AD {sz k j u : Nat} {sb : Option Addr} (A : List Value) {x y : Operand} {t tn : TypeId} {kn : IntKind} {ti : TypeInfo} {z : Value} (hE : zN n a L) (H : St w0 As w)
  (ho : o.op = .call { callee := .builtin .append,args := #[x,y],argTypes := #[t,tn] }) (hx : evO L x = some (.slice sb j u)) (hy : evO L y = some (.int .i64 (k : Int)))
  (ht : P.underlying t = some (.slice T)) (a0 : P.underlying tn = some (.int kn)) (hi : P.info? T = some ti) (I : ti.size = sz) (hz : ti.zero = some z) (a1 : z.cells.size = sz) (hs : 0 < sz)
  (hr : Rd w sb A) (X : A.length = j * sz) (h0 : 0 < k) (hg : u < j + k) (D : j + k <= 1073741824) (J : Nat.ble ti.bytes 131072 = true) :
  OpTo P o a w fun v w' => ∃ (r c : Nat) (Z : List Value),v = .slice (some ⟨r,0,none⟩) (j + k) c /\ j + k <= c /\ c <= maxLen /\ Z.length = (c - j) * sz /\ St w0 (Blk r T (A ++ Z) :: As) w' := by
 have B := Nat.le_of_ble_eq_true J;obtain ⟨dst,op,type,pos,after,guard⟩ := o;simp only at ho;subst ho;have Y : Rd w.drew sb A := by
  rcases hr with h | ⟨xa,h1,h2⟩
  ·exact .inl h
  ·exact .inr ⟨xa,h1,by simpa using h2⟩
 have S := pE (P := P) (size := ti.size) (m := j) (len := j) (cap := u) Y (by rw [X,I]);have U : k * ti.bytes <= 281474976710656 := by
  calc k * ti.bytes <= 1073741824 * 131072 := Nat.mul_le_mul (by omega) B
   _ <= 281474976710656 := by decide
 have W : Builtin.nextslicecap (j + k) u * ti.bytes <= 281474976710656 := by
  refine growslice_fits (need := j + k) (old := u) (by omega) ?_
  calc (j + k) * ti.bytes <= 1073741824 * 131072 := Nat.mul_le_mul D B
   _ <= 140737488355328 := by decide
 have F := Go.Lib.run_append_grow_zeros (P := P) w t tn type T ti z .i64 kn ht a0 hi hz sb j u A S k h0 (by rw [I]; exact hs) hg (by omega) U W;have a7 := grownCap_ge w (j + k) u T;have O := grownCap_le_maxLen w (j + k) u T (by unfold maxLen; omega);refine OpTo.of_run (w' := w.drew.alloc (.cells (A.toArray ++ Builtin.zeroCells z.cells k ++ Builtin.zeroCells z.cells (grownCap w (j + k) u T - (j + k))) T (0,0))) ?_
  ⟨w.heap.size,grownCap w (j + k) u T,(Builtin.zeroCells z.cells k ++ Builtin.zeroCells z.cells (grownCap w (j + k) u T - (j + k))).toList,rfl,by omega,O,?_,?_⟩
 ·simp [execOp,resolve,invoke,builtin,hE.eval hx,hE.eval hy,F]
 ·simp only [Array.length_toList,Array.size_append,size_zeroCells,a1,<- Nat.add_mul];congr 1; omega
 ·have H2 := (H.drew).alloc (.cells (A.toArray ++ Builtin.zeroCells z.cells k ++ Builtin.zeroCells z.cells (grownCap w (j + k) u T - (j + k))) T (0,0));refine H2.head fun h hh => ?_
  have e : (A ++ (Builtin.zeroCells z.cells k ++ Builtin.zeroCells z.cells (grownCap w (j + k) u T - (j + k))).toList).toArray = A.toArray ++ Builtin.zeroCells z.cells k ++ Builtin.zeroCells z.cells (grownCap w (j + k) u T - (j + k)) := by
   apply Array.ext';simp [aA]
  show h _ = _;rw [e];exact hh
theorem OpTo.eQ {g va vo la ca b off lb cb : Nat} {cv cs : Array Value} {Tv Ts : TypeId} {xs : List Operand} {fn : Func} {tS tR e : TypeId} {ti : TypeInfo} (hE : zN n a L) (H : St w0 As w) (i j : Nat)
  (hi : As[i]? = some (One va (.cells cv Tv (0,0)))) (hj : As[j]? = some (One b (.cells cs Ts (0,0)))) (hne : va ≠ b) (hcs : cs.size ≠ 0)
  (ho : callParts o.op = some (.func g,xs)) (hxs : oG L xs = some [.slice (some ⟨va,vo,none⟩) la ca,.slice (some ⟨b,off,none⟩) lb cb])
  (hf : P.funcs[g]? = some fn) (hname : (fn.name == "runtime.NumGoroutine") = false) (hb : fn.body.isNone = true) (hn : Extern.findNext fn = none) (he : Extern.find fn = some (Extern.SlicesOverlaps.overlaps #[tS, tS] #[tR]))
  (ht : P.underlying tS = some (.slice e)) (hz : P.info? e = some ti) : OpTo P o a w fun v w' => v = .bool false /\ w' = w := by
 obtain ⟨dst,op,type,pos,after,guard⟩ := o;cases op <;> simp only [callParts] at ho <;> try cases ho
 rename_i c;obtain ⟨callee,args,ats⟩ := c;cases callee <;> simp only at ho <;> try cases ho
 have h1 := H.one i hi;have h2 := H.one j hj;have hov := Go.Lib.run_overlaps_apart (P := P) w tS tR e ht ti.size (rE P hz) ⟨va,vo,none⟩ ⟨b,off,none⟩ la ca lb cb hne Tv Ts cv.size cs.size (by simp [World.shape?,h1]) (by simp [World.shape?,h2]) hcs (by simp [World.frozen?,h1]) (by simp [World.frozen?,h1]);have hcall := run_callFunc_extern hf hname hb hn he #[.slice (some ⟨va,vo,none⟩) la ca,.slice (some ⟨b,off,none⟩) lb cb] w;rw [hov] at hcall;have e2 := mM hE _ _ hxs;have e3 : args.map a.eval = #[.slice (some ⟨va,vo,none⟩) la ca,.slice (some ⟨b,off,none⟩) lb cb] := by
  apply Array.ext';simpa using e2
 refine OpTo.of_run (w' := w) (v := .bool false) ?_ ⟨rfl,rfl⟩;have hfe : a.eval (.func g) = .func (.func g) #[] #[] := rfl;simp [execOp,resolve,Deferred.ofValue,hfe,invoke,e3,hcall,Result.andThen]
end
theorem St.fe {α : Type} {T : TypeId} {enc : α -> List Value} {sz : Nat} {w0 w : World} {As : List HP} {sb : Option Addr} {sc : Nat} {l : List α} (H : St w0 (Sl T enc sz sb sc l :: As) w) (he : xV enc sz) (hl : 0 < l.length) :
  ∃ (b off : Nat) (A R : List Value),sb = some ⟨b,off,none⟩ /\ A.length = off /\ l.length <= sc /\ sc <= maxLen /\ (sc - l.length) * sz <= R.length /\ St w0 (Blk b T (A ++ (l.flatMap enc ++ R)) :: As) w := by
 rcases H.iO with ⟨_,rfl,_⟩ | ⟨b,off,cs,rfl,H1,h1,h2,h3,h4⟩
 ·simp at hl
 ·have t := yA he l;have hmul : l.length * sz <= sc * sz := Nat.mul_le_mul_right _ h1;refine ⟨b,off,cs.toList.take off,cs.toList.drop (off + l.length * sz),rfl,by simp; omega,h1,h2,?_,?_⟩
  ·simp only [List.length_drop,Array.length_toList,Nat.sub_mul]; omega
  ·refine H1.head fun h hh => ?_
   have e : cs.toList.take off ++ (l.flatMap enc ++ cs.toList.drop (off + l.length * sz)) = cs.toList := by
    have j : (cs.toList.drop off).take (l.length * sz) = l.flatMap enc := by
     apply List.ext_getElem?;intro i;by_cases hi : i < l.length * sz
     ·rw [List.getElem?_take,if_pos hi,List.getElem?_drop,<- h4 i hi]; simp
     ·rw [List.getElem?_eq_none (by simp; omega),List.getElem?_eq_none (by omega)]
    rw [<- j,<- List.drop_drop,List.take_append_drop,List.take_append_drop]
   show h b = _;rw [e];have : h b = some (.cells cs T (0,0)) := hh;simpa using this
theorem St.aL {α : Type} {T : TypeId} {enc : α -> List Value} {sz : Nat} {w0 w : World} {As : List HP} {b sc : Nat} {l : List α} {A R : List Value} (H : St w0 (Blk b T (A ++ (l.flatMap enc ++ R)) :: As) w) (he : xV enc sz) (h1 : l.length <= sc) (h2 : sc <= maxLen) (h3 : (sc - l.length) * sz <= R.length) :
  St w0 (Sl T enc sz (some ⟨b,A.length,none⟩) sc l :: As) w := by
 have e := yA he l;have hmul : l.length * sz <= sc * sz := Nat.mul_le_mul_right _ h1;rw [Nat.sub_mul] at h3;refine H.head fun h hh => .inr ⟨b,A.length,_,rfl,hh,h1,h2,by simp [e]; omega,fun i hi => ?_⟩
 simp only [List.getElem?_toArray];rw [List.getElem?_append_right (by omega),Nat.add_sub_cancel_left,List.getElem?_append_left (by rw [e]; exact hi)]
end
end Go.Th
noncomputable section
namespace Go.Th
end Go.Th
end
namespace Go.Th
noncomputable section
section
variable {w0 w : World} {As : List HP} {P : Program} {n : Nat} {a : Act} {L : Env} {o : Oper} {T : TypeId}
end
end
noncomputable section
@[reducible] def catE : Env -> Env -> Env
 | [],L => L
 | p :: r,L => p :: catE r L
def bP : Env -> List Nat
 | [] => []
 | (t,_) :: r => t :: bP r
def hasK (t : Nat) : Env -> Bool
 | [] => false
 | (u,_) :: r => match Nat.beq t u with
  | true => true
  | false => hasK t r
def nT (ops : Array Oper) (new L : Env) : List Nat -> Bool
 | [] => true
 | i :: is => match ops[i]? with
  | none => nT ops new L is
  | some o => match o.dst with
   | none => nT ops new L is
   | some d => match hasK d new with
    | true => nT ops new L is
    | false => match hasK d L with
     | true => false
     | false => nT ops new L is
def segD (P : Program) (n : Nat) (ops : Array Oper) (is : List Nat) (L : Env) (e : List Value) (new : Env) : Option (Env × List Ob) :=
 match nT ops new L is with
 | false => none
 | true => ly P n ops is L e (bP new)
theorem fP : ∀ (new L : Env) (t : Nat) (v : Value),look t (catE new L) = some v -> (look t new = some v) \/ (hasK t new = false /\ look t L = some v)
 | [],L,t,v,h => Or.inr ⟨rfl,h⟩
 | (u,x) :: r,L,t,v,h => by
  rw [catE,vv] at h;split at h
  ·subst_vars
   left
   rw [vv,if_pos rfl]; exact h
  ·rename_i e;rcases fP r L t v h with h1 | ⟨h1,h2⟩
   ·left; rw [vv,if_neg e]; exact h1
   ·right
    refine ⟨?_,h2⟩;simp only [hasK];split
    ·rename_i j; exact absurd (Nat.eq_of_beq_eq_true j) e
    ·exact h1
theorem jB : ∀ (L : Env) (t : Nat) (v : Value),look t L = some v -> hasK t L = true
 | [],t,v,h => by cases h
 | (u,x) :: r,t,v,h => by
  simp only [look] at h;simp only [hasK];split at h
  ·rename_i e; first | rfl | rw [e]
  ·rename_i e; first | exact jB r t v h | (rw [e]; exact jB r t v h)
theorem mI {ops : Array Oper} {new L : Env} : ∀ {is : List Nat},nT ops new L is = true -> ∀ i ∈ is,∀ o d,ops[i]? = some o -> o.dst = some d -> hasK d new = true \/ hasK d L = false
 | [],_,i,hi,_,_,_,_ => by cases hi
 | j :: is,h,i,hi,o,d,e,hd => by
  simp only [nT] at h;rcases List.mem_cons.1 hi with rfl | hi
  ·rw [e] at h;simp only [hd] at h;cases h1 : hasK d new
   ·rw [h1] at h;simp only at h;cases h2 : hasK d L
    ·exact Or.inr rfl
    ·rw [h2] at h; cases h
   ·exact Or.inl rfl
  ·have t : nT ops new L is = true := by
    repeat' split at h
    all_goals first | exact h | cases h
   exact mI t i hi o d e hd
theorem iM {n : Nat} {d : Option Tmp} {v : Value} {L L1 : Env} {t : Nat} (h : setE n d v L = some L1) (hd : d ≠ some t) : look t L1 = look t L := by
 unfold setE at h;split at h
 ·cases h; rfl
 ·split at h
  ·cases h;rw [vv,if_neg (fun e => hd (by rw [e]))]
  ·cases h
theorem nz {P : Program} {n : Nat} {ops : Array Oper} {t : Nat} : ∀ (is : List Nat) (L : Env) (e : List Value) (L1 : Env) (obs : List Ob),oa P n ops is L e = some (L1,obs) -> (∀ i ∈ is,∀ o,ops[i]? = some o -> o.dst ≠ some t) -> look t L1 = look t L
 | [],L,e,L1,obs,h,_ => by simp [oa] at h; rw [h.1]
 | i :: is,L,e,L1,obs,h,hd => by
  have u : ∀ j ∈ is,∀ o,ops[j]? = some o -> o.dst ≠ some t := fun j hj => hd j (mC _ hj)
  rw [oa] at h;split at h
  ·cases h
  ·rename_i o z;have x := hd i (List.mem_cons_self ..) o z;split at h
   ·cases h
   ·split at h
    ·rename_i L2 hs;rw [nz is L2 e L1 obs h u,iM hs x]
    ·cases h
   ·split at h
    ·cases h
    ·split at h
     ·cases h
     ·rename_i L2 hs;split at h
      ·rename_i A y h3;cases h;rw [nz is L2 _ _ _ h3 u,iM hs x]
      ·cases h
theorem zN.cat {n : Nat} {a : Act} {L1 L new : Env} (h : zN n a L1) (hs : Th.sel (bP new) L1 = some new) (hk : ∀ t,hasK t new = false -> hasK t L = true -> look t L1 = look t L) : zN n a (catE new L) := by
 have h2 := qd h hs;refine ⟨h.size,h.defers,fun t v hv => ?_⟩;rcases fP new L t v hv with h1 | ⟨h1,h3⟩
 ·exact h2.has t v h1
 ·exact h.has t v (by rw [hk t h1 (jB L t v h3)]; exact h3)
section
variable {P : Program} {f : FuncId} {k : List Item} {a : Act} {w : World} {R : Value -> World -> Prop}
theorem cU {P : Program} {n : Nat} {ops : Array Oper} {is : List Nat} {L new : Env} {j : List Value} {obs : List Ob} (he : segD P n ops is L j new = some (new,obs)) :
  ∃ L1,oa P n ops is L j = some (L1,obs) /\ ∀ a : Act,zN n a L1 -> zN n a (catE new L) := by
 unfold segD at he;split at he
 ·cases he
 ·rename_i hd;unfold ly at he;split at he
  ·cases he
  ·rename_i L1 x hs;split at he
   ·rename_i y u;cases he;refine ⟨L1,hs,fun a ha => ha.cat u fun t h1 h2 => nz is L j L1 _ hs fun i hi o z e => ?_⟩;rcases mI hd i hi o t z e with h3 | h3
    ·rw [h1] at h3; cases h3
    ·rw [h2] at h3; cases h3
   ·cases he
theorem WR.d {ops : Array Oper} {i n : Nat} {L : Env} (y : zN n a L) (j : Nat) (t : List Value) (new : Env) {obs : List Ob} (z : wc w obs) (hk : ∀ a',zN n a' (catE new L) -> WR P f ops j k a' w R)
  (hj : (Nat.ble i j && Nat.ble j ops.size) = true := by rfl) (he : segD P n ops (List.range' i (j - i)) L t new = some (new,obs) := by kernel_rfl) : WR P f ops i k a w R := by
 obtain ⟨L1,hs,hn⟩ := cU he;simp only [Bool.and_eq_true] at hj;have h1 := Nat.le_of_ble_eq_true hj.1;have h2 := Nat.le_of_ble_eq_true hj.2;unfold WR;have hr : List.range' i (ops.size - i) = List.range' i (j - i) ++ List.range' j (ops.size - j) := by
  have u : ops.size - i = (j - i) + (ops.size - j) := by omega
  have x : i + (j - i) = j := by omega
  rw [u,<- List.range'_append_1,x]
 rw [hr];exact mO _ _ _ _ _ _ y hs z fun a' e => hk a' (hn a' e)
theorem WR.d0 {ops : Array Oper} {i n : Nat} {L : Env} (e : zN n a L) (j : Nat) (new : Env) (hk : ∀ a',zN n a' (catE new L) -> WR P f ops j k a' w R)
  (hj : (Nat.ble i j && Nat.ble j ops.size) = true := by rfl) (he : segD P n ops (List.range' i (j - i)) L [] new = some (new,[]) := by kernel_rfl) : WR P f ops i k a w R := WR.d e j [] new (obs := []) trivial hk hj he
theorem WR.e {ops : Array Oper} {i n : Nat} {L : Env} (u : zN n a L) (j : List Value) (new : Env) {obs : List Ob} (x : wc w obs) (hk : ∀ a',zN n a' (catE new L) -> Runs P f k a' w R)
  (hj : Nat.ble i ops.size = true := by rfl) (he : segD P n ops (List.range' i (ops.size - i)) L j new = some (new,obs) := by kernel_rfl) : WR P f ops i k a w R :=
 WR.d u ops.size j new x (fun a' t => WR.done (Nat.ble_eq_true_of_le (Nat.le_refl _)) (hk a' t)) (by rw [hj]; exact Nat.ble_eq_true_of_le (Nat.le_refl _)) he
theorem WR.e0 {ops : Array Oper} {i n : Nat} {L : Env} (j : zN n a L) (new : Env) (hk : ∀ a',zN n a' (catE new L) -> Runs P f k a' w R)
  (hj : Nat.ble i ops.size = true := by rfl) (he : segD P n ops (List.range' i (ops.size - i)) L [] new = some (new,[]) := by kernel_rfl) : WR P f ops i k a w R := WR.e j [] new (obs := []) trivial hk hj he
theorem Runs.sr {id : Nat} {ops : Array Oper} {y : Code} (h : WR P f ops 0 (.code y :: k) a w R) : Runs P f (.code (.seq (.region id ops false) y) :: k) a w R := Runs.seq (Runs.region h)
theorem WQ.d {ops : Array Oper} {dn : List Nat} {pend : List (Nat × List Ob)} {n : Nat} {L : Env} (u : zN n a L) (is : List Nat) (j : List Value) (new : Env) {obs : List Ob} (y : wc w obs)
  (hk : ∀ a',zN n a' (catE new L) -> WQ P f ops (dn ++ is) (segP P n ops is L j pend) k a' w R)
  (ht : (Nat.ble (dn.length + is.length) ops.size && jQ ops is (uu dn)) = true := by kernel_rfl) (he : segD P n ops is L j new = some (new,obs) := by kernel_rfl) : WQ P f ops dn pend k a w R := by
 obtain ⟨L1,hs,hn⟩ := cU he;simp only [Bool.and_eq_true] at ht;have hle := Nat.le_of_ble_eq_true ht.1;have e : ops.size - dn.length = is.length + (ops.size - (dn ++ is).length) := by simp; omega
 unfold WQ;rw [e];intro hs';exact WP.segs hs' _ _ _ _ _ _ _ _ _ _ u (fun x => vY x dn) ht.2 hs y fun a' t => hk a' (hn a' t) hs'
theorem WQ.d0 {ops : Array Oper} {dn : List Nat} {pend : List (Nat × List Ob)} {n : Nat} {L : Env} (e : zN n a L) (is : List Nat) (new : Env)
  (hk : ∀ a',zN n a' (catE new L) -> WQ P f ops (dn ++ is) (segP P n ops is L [] pend) k a' w R)
  (ht : (Nat.ble (dn.length + is.length) ops.size && jQ ops is (uu dn)) = true := by kernel_rfl) (he : segD P n ops is L [] new = some (new,[]) := by kernel_rfl) : WQ P f ops dn pend k a w R := WQ.d e is [] new (obs := []) trivial hk ht he
end
end
noncomputable section
section
variable {α H : Type} {en : TypeId × Value -> H} {P : Program} {w : World} {base : Nat} {spare : Nat -> Bool} {held : Bool} {enc : α -> List Value} {sz : Nat}
end
end
noncomputable section
section
variable {K V : Type}
def mGet (eq : K -> K -> Bool) (k : K) : List (K × V) -> Option V
 | [] => none
 | p :: m => bif eq k p.1 then some p.2 else mGet eq k m
def mPut (eq : K -> K -> Bool) (k : K) (v : V) : List (K × V) -> List (K × V)
 | [] => [(k,v)]
 | p :: m => bif eq k p.1 then (k,v) :: m else p :: mPut eq k v m
def mDel (eq : K -> K -> Bool) (k : K) : List (K × V) -> List (K × V)
 | [] => []
 | p :: m => bif eq k p.1 then m else p :: mDel eq k m
def qo (eq : K -> K -> Bool) (k : K) (z : V) (m : List (K × V)) : Option (V × Bool) := some (match mGet eq k m with
 | some v => (v,true)
 | none => (z,false))
def mAt (eq : K -> K -> Bool) (k : K) : List K -> Nat -> Option Nat
 | [],_ => none
 | a :: ks,i => bif eq k a then some i else mAt eq k ks (i + 1)
theorem cx (eq : K -> K -> Bool) (k : K) : ∀ (ks : List K) (i j : Nat),mAt eq k ks i = some j -> i <= j
 | [],i,j,h => by simp [mAt] at h
 | a :: ks,i,j,h => by
  simp only [mAt] at h;cases he : eq k a <;> simp [he] at h
  ·have := cx eq k ks (i + 1) j h; omega
  ·omega
theorem cy (eq : K -> K -> Bool) (k : K) : ∀ (m : List (K × V)) (i : Nat),
  (mAt eq k (m.map (·.1)) i = none /\ mGet eq k m = none /\ (∀ v,mPut eq k v m = m ++ [(k,v)]) /\ mDel eq k m = m) \/
  ∃ j p,mAt eq k (m.map (·.1)) i = some (i + j) /\ m[j]? = some p /\ eq k p.1 = true /\ mGet eq k m = some p.2 /\ (∀ v,mPut eq k v m = m.set j (k,v)) /\ mDel eq k m = m.eraseIdx j
 | [],i => .inl ⟨rfl,rfl,fun _ => rfl,rfl⟩
 | p :: m,i => by
  cases he : eq k p.1
  ·rcases cy eq k m (i + 1) with ⟨h1,h2,h3,h4⟩ | ⟨j,q,h1,h2,h3,h4,e,t⟩
   ·exact .inl ⟨by simp [mAt,he,h1],by simp [mGet,he,h2],fun v => by simp [mPut,he,h3],by simp [mDel,he,h4]⟩
   ·refine .inr ⟨j + 1,q,?_,by simpa using h2,h3,by simp [mGet,he,h4],fun v => by simp [mPut,he,e],by simp [mDel,he,t]⟩;simp [mAt,he,h1]; omega
  ·exact .inr ⟨0,p,by simp [mAt,he],rfl,he,by simp [mGet,he],fun v => by simp [mPut,he],by simp [mDel,he]⟩
structure rP (P : Program) (kt : TypeId) (ek : K -> Value) (eq : K -> K -> Bool) : Prop where
 check : ∀ (w : World) em k,(Instr.checkKey em 10000 kt (ek k)).run P w = .ok () w
 find : ∀ (w : World) k (es : List MapEntry) (ks : List K),es.map (·.key) = ks.map ek -> (Instr.findKey kt (ek k) es).run P w = .ok ((mAt eq k ks 0).bind fun j => (es[j]?).map fun e => (j,e.val)) w
 stays : ∀ (w : World) k,(Instr.keyThatStays (ek k) (ek k)).run P w = .ok (ek k) w
 same : ∀ a b,eq a b = true -> a = b
end
def kI (a b : Int) : Bool := a == b
theorem kL (k : Int) : ∀ (es : List MapEntry) (ks : List Int) (i : Nat),es.map (·.key) = ks.map vI -> Instr.findNow (.int .i64) (vI k) es i = some ((mAt kI k ks i).bind fun j => (es[j - i]?).map fun e => (j,e.val))
 | [],[],i,_ => by simp [Instr.findNow,mAt]
 | [],_ :: _,i,h => by simp at h
 | _ :: _,[],i,h => by simp at h
 | e :: es,a :: ks,i,h => by
  simp only [pC,List.cons.injEq] at h;have ih := kL k es ks (i + 1) h.2;simp only [Instr.findNow,h.1,vI,Instr.sameNow,if_true,mAt,kI];cases hk : (k == a)
  ·simp only [cF];simp only [vI] at ih;rw [ih];cases hm : mAt kI k ks (i + 1) with
   | none => rfl
   | some j =>
    have hj := cx _ _ _ _ _ hm;have t : j - i = (j - (i + 1)) + 1 := by omega
    simp [t]
  ·simp
theorem rP.int {P : Program} {kt : TypeId} (h : P.underlying kt = some (.int .i64)) : rP P kt vI kI where
 check := fun w em k => Go.MapKept.run_checkKey h (show Go.MapKept.IsKey (.int .i64) (vI k) from rfl) em 9999
 find := fun w k es ks he => Go.MapKept.run_findKey h (by simpa using kL k es ks 0 he)
 stays := fun w k => Go.MapKept.run_keyThatStays (d := .int .i64) (show Go.MapKept.IsKey (.int .i64) (vI k) from rfl)
 same := fun a b h => by simpa [kI] using h
section
variable {K V : Type} {P : Program} {ek : K -> Value} {eq : K -> K -> Bool} {kt : TypeId}
theorem oH (he : ∀ (w : World) a b,(Op.equal kt (ek a) (ek b)).run P w = .ok (eq a b) w) (w : World) (k : K) : ∀ (es : List MapEntry) (ks : List K) (i : Nat),es.map (·.key) = ks.map ek ->
  (Instr.findAsking kt (ek k) es i).run P w = .ok ((mAt eq k ks i).bind fun j => (es[j - i]?).map fun e => (j,e.val)) w
 | [],[],i,_ => by simp [Instr.findAsking,mAt]
 | [],_ :: _,i,h => by simp at h
 | _ :: _,[],i,h => by simp at h
 | e :: es,a :: ks,i,h => by
  simp only [pC,List.cons.injEq] at h;have ih := oH he w k es ks (i + 1) h.2;simp only [Instr.findAsking,Sem.run_bind,h.1,he,Result.andThen_ok,mAt];cases hk : eq k a
  ·simp only [cF,Bool.false_eq_true,if_false,ih];cases hm : mAt eq k ks (i + 1) with
   | none => rfl
   | some j =>
    have hj := cx _ _ _ _ _ hm;have t : j - i = (j - (i + 1)) + 1 := by omega
    simp [t]
  ·simp
theorem rP.struct {fs : Array Field} (h : P.underlying kt = some (.struct fs)) (u : ∀ (w : World) em k,(Instr.checkKey em 10000 kt (ek k)).run P w = .ok () w)
  (he : ∀ (w : World) a b,(Op.equal kt (ek a) (ek b)).run P w = .ok (eq a b) w) (hs : ∀ k,Instr.sameBits 10000 (ek k) (ek k) = true) (hq : ∀ a b,eq a b = true -> a = b) : rP P kt ek eq where
 check := u
 find := fun w k es ks j => by
  have hf := oH he w k es ks 0 j;have t : (Instr.findKey kt (ek k) es).run P w = (Instr.findAsking kt (ek k) es).run P w := by
   cases es with
   | nil => simp [Instr.findKey,xL P h,Instr.findNow,Instr.findAsking]
   | cons e es => simp [Instr.findKey,xL P h,Instr.findNow,Instr.sameNow]
  rw [t];simpa using hf
 stays := fun w k => by simp [Instr.keyThatStays,hs]
 same := hq
theorem oq {fs : Array Field} {cs : Array Value} (n : Nat) (h : P.underlying kt = some (.struct fs)) (w : World) (em : Bool)
  (hf : ∀ f ∈ fs.toList, f.name ≠ "_" /\ ∃ v, (part f.type cs f.offset).run P w = .ok v w /\ (Instr.checkKey em n f.type v).run P w = .ok () w) : (Instr.checkKey em (n + 1) kt (.agg cs)).run P w = .ok () w := by
 rw [Instr.checkKey];simp only [Sem.run_bind,xL P h,Result.andThen_ok];rw [<- Array.forIn_toList];generalize fs.toList = L at hf;induction L with
 | nil => simp
 | cons f L ih =>
  obtain ⟨hn,v,p1,p2⟩ := hf f (by simp);simp only [List.forIn_cons,Sem.run_bind,hn,ne_eq,not_false_eq_true,if_true,Result.andThen_ok,p1,p2,Sem.run_pure];exact ih fun y hy => hf y (by simp [hy])
theorem qD (n : Nat) (h : P.underlying kt = some (.int .i64)) (w : World) (em : Bool) (x : Int) : (Instr.checkKey em (n + 1) kt (.int .i64 x)).run P w = .ok () w :=
 Go.MapKept.run_checkKey h (show Go.MapKept.IsKey (.int .i64) (.int .i64 x) from rfl) em n
theorem Bz {P : Program} {cs : Array Value} {w : World} {em : Bool} {n : Nat} {Ls : List Field} (h : Ls = []) : ∀ f ∈ Ls, f.name ≠ "_" /\ ∃ v, (part f.type cs f.offset).run P w = .ok v w /\ (Instr.checkKey em n f.type v).run P w = .ok () w := by
 subst h; intro f hf; cases hf
theorem dM {P : Program} {cs : Array Value} {w : World} {em : Bool} {n : Nat} {Ls fs : List Field} {f : Field} {v : Value} (hL : Ls = f :: fs) (hn : (f.name == "_") = false) (p : (part f.type cs f.offset).run P w = .ok v w) (c : (Instr.checkKey em n f.type v).run P w = .ok () w)
  (r : ∀ g ∈ fs, g.name ≠ "_" /\ ∃ v, (part g.type cs g.offset).run P w = .ok v w /\ (Instr.checkKey em n g.type v).run P w = .ok () w) : ∀ g ∈ Ls, g.name ≠ "_" /\ ∃ v, (part g.type cs g.offset).run P w = .ok v w /\ (Instr.checkKey em n g.type v).run P w = .ok () w := by
 subst hL; intro g hg;rcases List.mem_cons.1 hg with rfl | hg
 ·exact ⟨by simpa using hn,v,p,c⟩
 ·exact r g hg
def MpA (r : Nat) (ek : K -> Value) (ev : V -> Value) (m : List (K × V)) : HP := fun h => ∃ x : Array MapEntry × Nat,One r (.map x.1 x.2) h /\ x.1.toList.map (fun e => (e.key,e.val)) = m.map fun p => (ek p.1,ev p.2)
variable {ev : V -> Value} {w w0 : World} {As : List HP} {n r : Nat} {L : Env} {o : Oper} {a : Act} {m : List (K × V)} {k : K}
theorem MpA.keys {es : List MapEntry} {m : List (K × V)} (h : es.map (fun e => (e.key,e.val)) = m.map fun p => (ek p.1,ev p.2)) : es.map (·.key) = (m.map (·.1)).map ek := by
 have := congrArg (List.map Prod.fst) h;simp only [List.map_map] at this;rw [List.map_map];exact this
theorem MpA.get {es : List MapEntry} {m : List (K × V)} (h : es.map (fun e => (e.key,e.val)) = m.map fun p => (ek p.1,ev p.2)) {j : Nat} {p : K × V} (hj : m[j]? = some p) : ∃ e,es[j]? = some e /\ e.key = ek p.1 /\ e.val = ev p.2 := by
 have h2 := congrArg (fun l => l[j]?) h;simp only [List.getElem?_map,hj,Option.map_some] at h2;cases he : es[j]? with
 | none => rw [he] at h2; simp at h2
 | some e => rw [he] at h2; simp at h2; exact ⟨e,rfl,h2.1,h2.2⟩
theorem rP.found (hk : rP P kt ek eq) (w : World) (k : K) {es : List MapEntry} {m : List (K × V)} (h : es.map (fun e => (e.key,e.val)) = m.map fun p => (ek p.1,ev p.2)) :
  ((Instr.findKey kt (ek k) es).run P w = .ok none w /\ mGet eq k m = none /\ (∀ v,mPut eq k v m = m ++ [(k,v)]) /\ mDel eq k m = m) \/
  ∃ j e v,(Instr.findKey kt (ek k) es).run P w = .ok (some (j,ev v)) w /\ es[j]? = some e /\ e.key = ek k /\ mGet eq k m = some v /\ (∀ v,mPut eq k v m = m.set j (k,v)) /\ mDel eq k m = m.eraseIdx j := by
 have hf := hk.find w k es _ (MpA.keys h);rcases cy eq k m 0 with ⟨h1,h2,h3,h4⟩ | ⟨j,p,h1,h2,h3,h4,y,z⟩
 ·left; rw [h1] at hf; exact ⟨hf,h2,h3,h4⟩
 ·right
  obtain ⟨e,t,u,x⟩ := MpA.get h h2;simp only [Nat.zero_add] at h1;rw [h1] at hf;simp only [bS,t,Option.map_some,x] at hf;exact ⟨j,e,p.2,hf,t,by rw [u,hk.same _ _ h3],h4,y,z⟩
theorem OpTo.Dd {K V : Type} {w0 w : World} {As : List HP} (ek : K -> Value) (ev : V -> Value) {t : TypeId} (j : zN n a L) (H : St w0 As w) (e : o.op = .makeMap t none) : OpTo P o a w fun v w' => ∃ r : Nat,v = .map (some r) /\ St w0 (MpA r ek ev [] :: As) w' := by
 obtain ⟨dst,op,type,pos,after,guard⟩ := o;simp only at e;subst e;refine OpTo.of_run (w' := { w with heap := w.heap.push (.map #[] 0) }) (v := .map (some w.heap.size)) ?_ ⟨w.heap.size,rfl,?_⟩
 ·simp [execOp,Instr.makeMap,newObj]
  rfl
 ·exact (H.alloc (.map #[] 0)).head fun h hh => ⟨(#[],0),hh,by simp⟩
theorem kW {mt A : TypeId} {ti : TypeInfo} {z : V} (H : St w0 As w) (i : Nat) (hi : As[i]? = some (MpA r ek ev m)) (hk : rP P kt ek eq) (ht : P.underlying mt = some (.map kt A)) (hz : P.info? A = some ti) (u : ti.zero = some (ev z)) (ok : Bool) :
  ∀ {g : V × Bool},qo eq k z m = some g -> (Instr.lookup mt (.map (some r)) (ek k) ok).run P w = .ok (if ok then .tuple #[ev g.1,.bool g.2] else ev g.1) w := by
 intro g t;obtain ⟨h1,hs,x,hh,D⟩ := H.at i hi;have B : w.heap[r]? = some (.map x.1 x.2) := hs _ _ hh;rcases hk.found w k D with ⟨f1,f2,_,_⟩ | ⟨j,e,v,f1,f2,f3,f4,_,_⟩
 ·have y : (zeroValue A).run P w = .ok (ev z) w := by simp [Go.zeroValue,Go.typeInfo,Sem.run,hz,u]
  simp [Instr.lookup,xL P ht,Go.MapKept.run_getObj_map B,hk.check,f1,y,Result.andThen]; simp [qo,f2] at t; subst t; rfl
 ·simp [Instr.lookup,xL P ht,Go.MapKept.run_getObj_map B,hk.check,f1,Result.andThen]; simp [qo,f4] at t; subst t; rfl
theorem OpTo.BU {mt u : TypeId} {ti : TypeInfo} {z : V} {x y : Operand} (i : Nat) (j : zN n a L) (H : St w0 As w) (hi : As[i]? = some (MpA r ek ev m)) (hk : rP P kt ek eq) {g : V × Bool} (hl : qo eq k z m = some g) (t : o.op = .lookup mt x y true)
  (ht : P.underlying mt = some (.map kt u)) (hz : P.info? u = some ti) (e : ti.zero = some (ev z)) (A : evO L x = some (.map (some r))) (B : evO L y = some (ek k)) :
  OpTo P o a w fun v w' => v = .tuple #[ev g.1,.bool g.2] /\ w' = w := by
 obtain ⟨dst,op,type,pos,after,guard⟩ := o;simp only at t;subst t;have hl := kW (k := k) H i hi hk ht hz e true hl;exact OpTo.of_run (w' := w) (by simp [execOp,j.eval A,j.eval B,hl]) ⟨rfl,rfl⟩
theorem OpTo.Dc {mt u : TypeId} {ti : TypeInfo} {z : V} {x y : Operand} (i : Nat) (j : zN n a L) (H : St w0 As w) (hi : As[i]? = some (MpA r ek ev m)) (hk : rP P kt ek eq) {g : V × Bool} (hl : qo eq k z m = some g) (t : o.op = .lookup mt x y false)
  (ht : P.underlying mt = some (.map kt u)) (hz : P.info? u = some ti) (e : ti.zero = some (ev z)) (A : evO L x = some (.map (some r))) (B : evO L y = some (ek k)) :
  OpTo P o a w fun v w' => v = ev g.1 /\ w' = w := by
 obtain ⟨dst,op,type,pos,after,guard⟩ := o;simp only at t;subst t;have hl := kW (k := k) H i hi hk ht hz e false hl;exact OpTo.of_run (w' := w) (by simp [execOp,j.eval A,j.eval B,hl]) ⟨rfl,rfl⟩
theorem oT {α β : Type} (f : α -> β) : ∀ (l : List α) (j : Nat),(l.eraseIdx j).map f = (l.map f).eraseIdx j
 | [],_ => rfl
 | _ :: _,0 => rfl
 | x :: l,j + 1 => by simp [oT f l j]
theorem St.aE (H : St w0 (MpA r ek ev m :: As) w) : ∃ es j,St w0 (One r (.map es j) :: As) w /\ es.toList.map (fun e => (e.key,e.val)) = m.map fun p => (ek p.1,ev p.2) := by
 obtain ⟨x,H⟩ := H.ex;have t := H.fact fun h hh => hh.2
 exact ⟨x.1,x.2,H.head fun h hh => hh.1,t⟩
theorem St.bX {es j : Array MapEntry} {y t : Nat} {x : List (K × V)} (H : St w0 (One r (.map es y) :: As) w) (he : j.toList.map (fun e => (e.key,e.val)) = x.map fun p => (ek p.1,ev p.2)) :
  St w0 (MpA r ek ev x :: As) { w with heap := w.heap.setIfInBounds r (.map j t) } := by
 have u := H.one 0 rfl;have := H.set (w' := { w with heap := w.heap.setIfInBounds r (.map j t) }) (o' := .map j t) rfl rfl rfl (Go.MapKept.heap_set u).1 (Go.MapKept.heap_set u).2;exact this.head fun h hh => ⟨(j,t),hh,he⟩
def oZ : Op -> Option (TypeId × Operand × Operand × Operand)
 | .mapUpdate t m k x => some (t,m,k,x)
 | .insert t m k x => some (t,m,k,x)
 | _ => none
theorem OpTo.De {mt J : TypeId} {x y z : Operand} {v : V} (B : zN n a L) (H : St w0 (MpA r ek ev m :: As) w) (hk : rP P kt ek eq) (D : oZ o.op = some (mt,x,y,z))
  (ht : P.underlying mt = some (.map kt J)) (F : evO L x = some (.map (some r))) (I : evO L y = some (ek k)) (hz : evO L z = some (ev v)) : OpTo P o a w fun _ w' => St w0 (MpA r ek ev (mPut eq k v m) :: As) w' := by
 obtain ⟨es,A,H1,he⟩ := H.aE;have u := H1.one 0 rfl;have key : ∃ w',(Instr.mapUpdate mt (.map (some r)) (ek k) (ev v)).run P w = .ok () w' /\ St w0 (MpA r ek ev (mPut eq k v m) :: As) w' := by
  rcases hk.found w k he with ⟨f1,f2,f3,_⟩ | ⟨j,e,O,f1,f2,f3,f4,f5,_⟩
  ·refine ⟨{ w with heap := w.heap.setIfInBounds r (.map (es.push { key := ek k,val := ev v,born := A }) (A + 1)) },?_,H1.bX ?_⟩
   ·simp [Instr.mapUpdate,xL P ht,Go.MapKept.run_getObj_map u,hk.check,f1,Go.MapKept.run_setObj_map _ u,Result.andThen]
   ·rw [f3]; simp [he]
  ·have hj : es[j]? = some e := by simpa using f2
   refine ⟨{ w with heap := w.heap.setIfInBounds r (.map (es.modify j fun e => { e with key := ek k,val := ev v }) A) },?_,H1.bX ?_⟩
   ·simp [Instr.mapUpdate,xL P ht,Go.MapKept.run_getObj_map u,hk.check,f1,hj,f3,hk.stays,Go.MapKept.run_setObj_map _ u,Result.andThen]
   ·rw [f5];apply List.ext_getElem?;intro i;have hi := congrArg (fun l => l[i]?) he;simp only [List.getElem?_map,Array.getElem?_toList] at hi;simp only [List.getElem?_map,Array.getElem?_toList,Array.getElem?_modify,List.getElem?_set];by_cases t : j = i
    ·subst t;have hl : j < m.length := by
      rw [hj] at hi;cases hm : m[j]? with
      | none => rw [hm] at hi; simp at hi
      | some _ => exact (List.getElem?_eq_some_iff.1 hm).1
     simp [hj,hl]
    ·simp [t,hi]
 obtain ⟨w',h1,h2⟩ := key;obtain ⟨dst,op,type,pos,after,guard⟩ := o;cases op <;> simp only [oZ] at D <;> try cases D
 all_goals exact OpTo.gQ (w' := w') (by simp [execOp,B.eval F,B.eval I,B.eval hz,h1]) h2
theorem OpTo.Db {mt F : TypeId} {x y : Operand} {ats : Array TypeId} (t : zN n a L) (H : St w0 (MpA r ek ev m :: As) w) (hk : rP P kt ek eq) (A : o.op = .call { callee := .builtin .delete,args := #[x,y],argTypes := ats }) (ha : ats[0]? = some mt)
  (ht : P.underlying mt = some (.map kt F)) (B : evO L x = some (.map (some r))) (D : evO L y = some (ek k)) : OpTo P o a w fun v w' => v = .tuple #[] /\ St w0 (MpA r ek ev (mDel eq k m) :: As) w' := by
 obtain ⟨es,z,H1,he⟩ := H.aE;have u := H1.one 0 rfl;obtain ⟨dst,op,type,pos,after,guard⟩ := o;simp only at A;subst A;rcases hk.found w k he with ⟨f1,f2,_,f4⟩ | ⟨j,e,I,f1,f2,f3,f4,_,f6⟩
 ·refine OpTo.of_run (w' := { w with heap := w.heap.setIfInBounds r (.map es z) }) (v := .tuple #[]) ?_ ⟨rfl,H1.bX (by rw [f4]; exact he)⟩;simp [execOp,resolve,invoke,builtin,t.eval B,t.eval D,Builtin.delete_,ha,xL P ht,Go.MapKept.run_getObj_map u,hk.check,f1,Go.MapKept.run_setObj_map _ u,Result.andThen]
 ·refine OpTo.of_run (w' := { w with heap := w.heap.setIfInBounds r (.map (es.eraseIdxIfInBounds j) z) }) (v := .tuple #[]) ?_ ⟨rfl,H1.bX ?_⟩
  ·simp [execOp,resolve,invoke,builtin,t.eval B,t.eval D,Builtin.delete_,ha,xL P ht,Go.MapKept.run_getObj_map u,hk.check,f1,Go.MapKept.run_setObj_map _ u,Result.andThen]
  ·rw [f6];have hj : j < es.size := by
    have := (List.getElem?_eq_some_iff.1 f2).1;simpa using this
   simp only [Array.eraseIdxIfInBounds,hj,dif_pos,Array.toList_eraseIdx,oT,he]
end
section
variable {K V : Type} {P : Program} {ek : K -> Value} {ev : V -> Value} {w w0 : World} {As : List HP} {n r : Nat} {L : Env} {o : Oper} {a : Act} {m : List (K × V)}
end
def elemV (sb : Option Addr) (sz : Nat) : Option Int -> Value
 | none => .pointer none
 | some i => match sb with
  | some ⟨b,off,_⟩ => .pointer (some ⟨b,off + (Int.toNat i) * sz,none⟩)
  | none => .pointer none
theorem kF {sb : Option Addr} {sz b off : Nat} {i : Int} (h : sb = some ⟨b,off,none⟩) : elemV sb sz (some i) = .pointer (some ⟨b,off + (Int.toNat i) * sz,none⟩) := by subst h; rfl
def optV {α : Type} (q : Nat) : Option α -> Value
 | none => .pointer none
 | some _ => .pointer (some ⟨q,0,none⟩)
def OptR {α : Type} (f : α -> HP) : Option α -> HP
 | none => fun _ => True
 | some m => f m
theorem St.optN {α : Type} {f : α -> HP} {w0 w : World} {As : List HP} (H : St w0 As w) : St w0 (OptR f none :: As) w :=
 ⟨H.os,H.tape,H.output,fun _ => none,hpOf w,fun _ => .inl rfl,fun _ _ h => by simp at h,Sub.refl _,trivial,H.heap⟩
def oS {α : Type} : Option α -> Unit ⊕ α
 | none => .inl ()
 | some x => .inr x
def uT {α β : Type} (o : Option α) (n : Option β) (s : α -> Option β) : Option β := match oS o with
 | .inl _ => n
 | .inr x => s x
theorem jY {α β : Type} {o : Option α} {n r : Option β} {s : α -> Option β} (e : o = none) (hm : uT o n s = r) : n = r := by subst e; exact hm
theorem jZ {α β : Type} {o : Option α} {n r : Option β} {s : α -> Option β} {x : α} (e : o = some x) (hm : uT o n s = r) : s x = r := by subst e; exact hm
theorem BK {α : Type} {l : List α} {i : Int} {x : α} (h : mIdx l i = some x) : l[i.toNat]? = some x := (sy h).2
def ecU (x : Int) : List Value := [.int .u8 x]
theorem BD : xV ecU 1 := ⟨fun _ => rfl,fun x u hu => by simp [ecU] at hu; subst hu; rfl⟩
def Pure (q : Prop) : HP := fun _ => q
theorem St.pure {q : Prop} {w0 w : World} {As : List HP} (H : St w0 (Pure q :: As) w) : q /\ St w0 As w := ⟨H.fact fun _ h => h,H.x0⟩
theorem AR {α : Type} {l : List α} {i : Int} {x y : α} (h : mIdx l i = some x) : mIdx (mSet l i y) i = some y := by
 obtain ⟨⟨h0,h1⟩,h2⟩ := sy h;have hl : i.toNat < l.length := by omega
 simp [mIdx,mSet,h0,hl]
end
noncomputable section
section
variable {H : Type} {en : TypeId × Value -> H} {P : Program} {w : World} {base : Nat} {spare : Nat -> Bool} {held : Bool}
def oK (P : Program) : Nat -> TypeId -> Bool
 | 0,_ => false
 | d + 1,e => match P.underlying e with
  | some (.int .i64) => P.cellsOf e == 1
  | some (.struct fs) => fs.toList.all (fun f => oK P d f.type) && (List.range (P.cellsOf e)).all (fun j => fs.toList.any fun f => Nat.ble f.offset j && Nat.blt j (f.offset + P.cellsOf f.type))
  | _ => false
end
end
end Go.Th
noncomputable section
namespace Go.Th
def I64 (x : Int) : Prop := -9223372036854775808 <= x /\ x < 9223372036854775808
theorem Ck {x : Int} (h : (Lit.int .i64 x).wf = true) : I64 x := by
 simp [Lit.wf,IntKind.min,IntKind.max,IntKind.signed,IntKind.bits] at h;exact ⟨h.1,by omega⟩
section
variable {H : Type} {en : TypeId × Value -> H} {P : Program} {w : World} {base : Nat} {spare : Nat -> Bool} {held : Bool}
theorem fM : ∀ (d : Nat) (e : TypeId),oK P d e = true -> ∀ n cs y,DataW.trod en P w base spare held n e cs = some y -> cs.length = P.cellsOf e /\ ∀ (j : Nat) (u : Value),cs[j]? = some u -> ∃ z : Int,u = Value.int .i64 z /\ I64 z
 | 0,e,h,_,_,_,_ => by simp [oK] at h
 | d + 1,e,h,n,cs,y,ht => by
  rw [oK] at h;split at h
  ·rename_i hu;obtain ⟨q,rfl,_,hw⟩ := DataW.trod_int hu ht;refine ⟨by simpa using (beq_iff_eq.1 h).symm,fun j u hj => ⟨q,?_,Ck hw⟩⟩;cases j with
   | zero => simpa using hj.symm
   | succ j => simp at hj
  ·rename_i fs hu;simp only [Bool.and_eq_true,List.all_eq_true] at h;obtain ⟨h1,h2⟩ := h;obtain ⟨xs,m,_,_,hl,I,F⟩ := DataW.trod_struct hu ht;refine ⟨hl,fun j u hj => ?_⟩;have B : j < P.cellsOf e := by rw [<- hl]; exact (List.getElem?_eq_some_iff.1 hj).1
   have h3 := h2 j (List.mem_range.2 B);obtain ⟨f,hf,h4⟩ := List.any_eq_true.1 h3;simp only [Bool.and_eq_true] at h4;have J := Nat.le_of_ble_eq_true h4.1;have O : j < f.offset + P.cellsOf f.type := by
    have := h4.2;simp only [Nat.blt] at this;exact Nat.le_of_ble_eq_true this
   obtain ⟨i,hi⟩ := List.getElem?_of_mem hf;have t : fs[i]? = some f := by simpa using hi
   have x := F i f t;have A : i < xs.length := by
    have := (Array.getElem?_eq_some_iff.1 t).1;omega
   rw [List.getElem?_eq_getElem A] at x;obtain ⟨_,D⟩ := fM d f.type (h1 f hf) _ _ _ x;refine D (j - f.offset) u ?_;rw [List.getElem?_take,if_pos (by omega),List.getElem?_drop];rw [show f.offset + (j - f.offset) = j by omega];exact hj
  ·cases h
theorem dQ {e : TypeId} (k : Nat) (hi : oK P 5 e = true) (A : P.cellsOf e = k) : ∀ n cs y,DataW.trod en P w base spare held n e cs = some y -> ∃ z : List Int,z.length = k /\ cs = (z.map fun x => .int .i64 x) /\ ∀ x ∈ z,I64 x := fun n cs y h => by
 obtain ⟨hl,u⟩ := fM 5 e hi n cs y h;rw [A] at hl;obtain ⟨z,hz,hp⟩ := gH (α := Int) (p := fun i z => cs[i]? = some (.int .i64 z) /\ I64 z) k fun i hi => by
  have j : i < cs.length := by omega
  obtain ⟨q,hq,hr⟩ := u i cs[i] (by simp [j]);exact ⟨q,by rw [List.getElem?_eq_getElem j,hq],hr⟩
 refine ⟨z,hz,?_,fun x D => ?_⟩
 ·apply List.ext_getElem?;intro i;by_cases B : i < k
  ·have t : i < z.length := by omega
   rw [(hp i z[i] (by simp [t])).1];simp [t]
  ·rw [List.getElem?_eq_none (by omega),List.getElem?_eq_none (by simp; omega)]
 ·obtain ⟨i,hi⟩ := List.mem_iff_getElem?.1 D;exact (hp i x hi).2
end
theorem SlRd.sub {α : Type} {p : α -> Prop} {X : HP} {enc : α -> List Value} {sz : Nat} {sb : Option Addr} {l : List {z : α // p z}} (h : SlRd X (fun z => enc z.1) sz sb l) : SlRd X enc sz sb (l.map (·.1)) := by
 intro g e;rcases h g e with rfl | ⟨b,off,cs,T,fr,h1,h2,h3⟩
 ·exact .inl rfl
 ·refine .inr ⟨b,off,cs,T,fr,h1,h2,fun i hi => ?_⟩;rw [lM] at hi;rw [h3 i hi];simp [List.flatMap_map]
theorem Be {α : Type} {p : α -> Prop} (l : List {z : α // p z}) : ∀ z ∈ l.map (·.1),p z := fun z hz => by
 obtain ⟨y,_,rfl⟩ := List.mem_map.1 hz;exact y.2
theorem xV.sub {α : Type} {p : α -> Prop} {enc : α -> List Value} {sz : Nat} (h : xV enc sz) : xV (fun z : {z : α // p z} => enc z.1) sz := ⟨fun x => h.len x.1,fun x => h.one x.1⟩
end Go.Th
namespace Go.Th
def fm {α : Type} (enc : α -> List Value) (z : α) : Prop := ∀ n : Int,Value.int .i64 n ∈ enc z -> I64 n
theorem bW {l : List Int} {n : Int} (h : Value.int .i64 n ∈ l.map fun x => Value.int .i64 x) : n ∈ l := by
 obtain ⟨x,j,e⟩ := List.mem_map.1 h;cases e;exact j
end Go.Th
namespace Go.Th
section
variable {H : Type} {en : TypeId × Value -> H} {P : Program} {w : World} {base : Nat} {spare : Nat -> Bool} {held : Bool}
end
end Go.Th
end
noncomputable section
namespace Go.Th
end Go.Th
end
namespace Go.Th
noncomputable section
theorem Rd.take {w : World} {xb : Option Addr} {a b : List Value} (h : Rd w xb (a ++ b)) : Rd w xb a := by
 rcases h with h | ⟨e,h1,h2⟩
 ·left
  exact (List.append_eq_nil_iff.1 h).1
 ·refine .inr ⟨e,h1,fun j u hj => h2 j u ?_⟩;rw [List.getElem?_append_left (List.getElem?_eq_some_iff.1 hj).1];exact hj
section
variable {P : Program} {α : Type} {T : TypeId} {enc : α -> List Value} {sz : Nat} {w0 w : World} {As : List HP}
end
end
end Go.Th
namespace Go.Proofs.YtcepppmiplonfaaGreat
open Go.Th
noncomputable section
set_option maxRecDepth 10000
set_option maxHeartbeats 4000000
structure zd where
 At : Int
 Gen : Int
def zd.enc (x : zd) : List Value := [.int .i64 x.At,.int .i64 x.Gen]
theorem zd.yb : xV zd.enc 2 := ⟨fun _ => rfl,fun x u hu => by simp only [zd.enc,iC,List.not_mem_nil,or_false] at hu; rcases hu with rfl | rfl <;> rfl⟩
structure zk where
 Kind : Int
 Queue : Int
 Job : zd
 Time : Int
 Data : Int
def zk.enc (x : zk) : List Value := [.int .i64 x.Kind,.int .i64 x.Queue,.int .i64 x.Job.At,.int .i64 x.Job.Gen,.int .i64 x.Time,.int .i64 x.Data]
theorem zk.yb : xV zk.enc 6 := ⟨fun _ => rfl,fun x u hu => by simp only [zk.enc,iC,List.not_mem_nil,or_false] at hu; rcases hu with rfl | rfl | rfl | rfl | rfl | rfl <;> rfl⟩
structure yo where
 Kind : Int
 Queue : Int
 Job : Int
 Data : Int
 Time : Int
 Raw : zk
def yo.enc (x : yo) : List Value := [.int .i64 x.Kind,.int .i64 x.Queue,.int .i64 x.Job,.int .i64 x.Data,.int .i64 x.Time,.int .i64 x.Raw.Kind,.int .i64 x.Raw.Queue,.int .i64 x.Raw.Job.At,.int .i64 x.Raw.Job.Gen,.int .i64 x.Raw.Time,.int .i64 x.Raw.Data]
theorem yo.yb : xV yo.enc 11 := ⟨fun _ => rfl,fun x u hu => by simp only [yo.enc,iC,List.not_mem_nil,or_false] at hu; rcases hu with rfl | rfl | rfl | rfl | rfl | rfl | rfl | rfl | rfl | rfl | rfl <;> rfl⟩
structure wI where
 Kind : Int
 Box : Int
 Command : zk
def wI.enc (x : wI) : List Value := [.int .i64 x.Kind,.int .i64 x.Box,.int .i64 x.Command.Kind,.int .i64 x.Command.Queue,.int .i64 x.Command.Job.At,.int .i64 x.Command.Job.Gen,.int .i64 x.Command.Time,.int .i64 x.Command.Data]
theorem wI.yb : xV wI.enc 8 := ⟨fun _ => rfl,fun x u hu => by simp only [wI.enc,iC,List.not_mem_nil,or_false] at hu; rcases hu with rfl | rfl | rfl | rfl | rfl | rfl | rfl | rfl <;> rfl⟩
structure sw where
 Kind : Int
 Jobs : Int
 Boxes : Int
 Room : Int
 L : List yo
 Kinds : List Int
 Acts : List wI
 Tame : Bool
structure yh where
 Kind : Int
 Jobs : Int
 Boxes : Int
 Room : Int
 Acts : List wI
def yo.val (x : yo) : Value := .agg #[.int .i64 x.Kind,.int .i64 x.Queue,.int .i64 x.Job,.int .i64 x.Data,.int .i64 x.Time,.int .i64 x.Raw.Kind,.int .i64 x.Raw.Queue,.int .i64 x.Raw.Job.At,.int .i64 x.Raw.Job.Gen,.int .i64 x.Raw.Time,.int .i64 x.Raw.Data]
structure zr where
 Why : Int
 Job : zd
 Time : Int
 Data : Int
 N : Int
def zr.enc (x : zr) : List Value := [.int .i64 x.Why,.int .i64 x.Job.At,.int .i64 x.Job.Gen,.int .i64 x.Time,.int .i64 x.Data,.int .i64 x.N]
theorem zr.yb : xV zr.enc 6 := ⟨fun _ => rfl,fun x u hu => by simp only [zr.enc,iC,List.not_mem_nil,or_false] at hu; rcases hu with rfl | rfl | rfl | rfl | rfl | rfl <;> rfl⟩
structure zM where
 Command : zk
 Reply : zr
 Now : Int
 Steps : Int
def zM.enc (x : zM) : List Value := [.int .i64 x.Command.Kind,.int .i64 x.Command.Queue,.int .i64 x.Command.Job.At,.int .i64 x.Command.Job.Gen,.int .i64 x.Command.Time,.int .i64 x.Command.Data,.int .i64 x.Reply.Why,.int .i64 x.Reply.Job.At,.int .i64 x.Reply.Job.Gen,.int .i64 x.Reply.Time,.int .i64 x.Reply.Data,.int .i64 x.Reply.N,.int .i64 x.Now,.int .i64 x.Steps]
theorem zM.yb : xV zM.enc 14 := ⟨fun _ => rfl,fun x u hu => by simp only [zM.enc,iC,List.not_mem_nil,or_false] at hu; rcases hu with rfl | rfl | rfl | rfl | rfl | rfl | rfl | rfl | rfl | rfl | rfl | rfl | rfl | rfl <;> rfl⟩
structure qU where
 Replies : List zr
 Events : List zM
 Why : Int
structure zu where
 f0 : Int
 f1 : Int
 f2 : Int
 f3 : Int
 f4 : Int
 f5 : Int
 f6 : Int
 f7 : Int
 f8 : Int
 f9 : Int
 taken : Bool
def zu.enc (x : zu) : List Value := [.int .i64 x.f0,.int .i64 x.f1,.int .i64 x.f2,.int .i64 x.f3,.int .i64 x.f4,.int .i64 x.f5,.int .i64 x.f6,.int .i64 x.f7,.int .i64 x.f8,.int .i64 x.f9,.bool x.taken]
def zu.qF (x : zu) (i : Int) : Option Int :=
 if i = 0 then some x.f0 else if i = 1 then some x.f1 else if i = 2 then some x.f2 else if i = 3 then some x.f3 else if i = 4 then some x.f4 else if i = 5 then some x.f5 else if i = 6 then some x.f6 else if i = 7 then some x.f7 else if i = 8 then some x.f8 else if i = 9 then some x.f9 else none
def zu.ou (x : zu) (i v : Int) : Option zu :=
 if i = 0 then some (zu.mk v x.f1 x.f2 x.f3 x.f4 x.f5 x.f6 x.f7 x.f8 x.f9 x.taken) else if i = 1 then some (zu.mk x.f0 v x.f2 x.f3 x.f4 x.f5 x.f6 x.f7 x.f8 x.f9 x.taken) else if i = 2 then some (zu.mk x.f0 x.f1 v x.f3 x.f4 x.f5 x.f6 x.f7 x.f8 x.f9 x.taken) else if i = 3 then some (zu.mk x.f0 x.f1 x.f2 v x.f4 x.f5 x.f6 x.f7 x.f8 x.f9 x.taken) else if i = 4 then some (zu.mk x.f0 x.f1 x.f2 x.f3 v x.f5 x.f6 x.f7 x.f8 x.f9 x.taken) else if i = 5 then some (zu.mk x.f0 x.f1 x.f2 x.f3 x.f4 v x.f6 x.f7 x.f8 x.f9 x.taken) else if i = 6 then some (zu.mk x.f0 x.f1 x.f2 x.f3 x.f4 x.f5 v x.f7 x.f8 x.f9 x.taken) else if i = 7 then some (zu.mk x.f0 x.f1 x.f2 x.f3 x.f4 x.f5 x.f6 v x.f8 x.f9 x.taken) else if i = 8 then some (zu.mk x.f0 x.f1 x.f2 x.f3 x.f4 x.f5 x.f6 x.f7 v x.f9 x.taken) else if i = 9 then some (zu.mk x.f0 x.f1 x.f2 x.f3 x.f4 x.f5 x.f6 x.f7 x.f8 v x.taken) else none
theorem zu.yb : xV zu.enc 11 := ⟨fun _ => rfl,fun x u hu => by simp only [zu.enc,iC,List.not_mem_nil,or_false] at hu; rcases hu with rfl | rfl | rfl | rfl | rfl | rfl | rfl | rfl | rfl | rfl | rfl <;> rfl⟩
structure zF where
 steps : Int
 begun : Int
 most : Int
structure za where
 l : List zu
 never : Int
 free : List Int
 m_ : zF
structure zC where
 kind : Int
 root : Int
 n : Int
def zC.enc (x : zC) : List Value := [.int .i64 x.kind,.int .i64 x.root,.int .i64 x.n]
theorem zC.yb : xV zC.enc 3 := ⟨fun _ => rfl,fun x u hu => by simp only [zC.enc,iC,List.not_mem_nil,or_false] at hu; rcases hu with rfl | rfl | rfl <;> rfl⟩
structure zx where
 gen : Int
 taken : Bool
 v_ : zC
def zx.enc (x : zx) : List Value := [.int .i64 x.gen,.bool x.taken,.int .i64 x.v_.kind,.int .i64 x.v_.root,.int .i64 x.v_.n]
theorem zx.yb : xV zx.enc 5 := ⟨fun _ => rfl,fun x u hu => by simp only [zx.enc,iC,List.not_mem_nil,or_false] at hu; rcases hu with rfl | rfl | rfl | rfl | rfl <;> rfl⟩
structure zj where
 most : Int
 l : List zx
 free : List Int
structure zA where
 cell : Int
 heap : zd
def zA.enc (x : zA) : List Value := [.int .i64 x.cell,.int .i64 x.heap.At,.int .i64 x.heap.Gen]
theorem zA.yb : xV zA.enc 3 := ⟨fun _ => rfl,fun x u hu => by simp only [zA.enc,iC,List.not_mem_nil,or_false] at hu; rcases hu with rfl | rfl | rfl <;> rfl⟩
structure zs where
 gen : Int
 taken : Bool
 v_ : zA
def zs.enc (x : zs) : List Value := [.int .i64 x.gen,.bool x.taken,.int .i64 x.v_.cell,.int .i64 x.v_.heap.At,.int .i64 x.v_.heap.Gen]
theorem zs.yb : xV zs.enc 5 := ⟨fun _ => rfl,fun x u hu => by simp only [zs.enc,iC,List.not_mem_nil,or_false] at hu; rcases hu with rfl | rfl | rfl | rfl | rfl <;> rfl⟩
structure ze where
 most : Int
 l : List zs
 free : List Int
structure zm where
 heaps : zj
 items : ze
 at_ : List (Int × zd)
def zd.val (x : zd) : Value := .agg #[.int .i64 x.At,.int .i64 x.Gen]
structure zG where
 Key : Int
 Serial : Int
def zG.enc (x : zG) : List Value := [.int .i64 x.Key,.int .i64 x.Serial]
theorem zG.yb : xV zG.enc 2 := ⟨fun _ => rfl,fun x u hu => by simp only [zG.enc,iC,List.not_mem_nil,or_false] at hu; rcases hu with rfl | rfl <;> rfl⟩
structure zq where
 items : Int
 a_ : za
 t_ : zm
 entries : List (zd × zG)
 serial : Int
def zG.val (x : zG) : Value := .agg #[.int .i64 x.Key,.int .i64 x.Serial]
structure zB where
 Queue : Int
 Time : Int
 Data : Int
 Item : zd
def zB.enc (x : zB) : List Value := [.int .i64 x.Queue,.int .i64 x.Time,.int .i64 x.Data,.int .i64 x.Item.At,.int .i64 x.Item.Gen]
theorem zB.yb : xV zB.enc 5 := ⟨fun _ => rfl,fun x u hu => by simp only [zB.enc,iC,List.not_mem_nil,or_false] at hu; rcases hu with rfl | rfl | rfl | rfl | rfl <;> rfl⟩
structure zt where
 gen : Int
 taken : Bool
 v_ : zB
def zt.enc (x : zt) : List Value := [.int .i64 x.gen,.bool x.taken,.int .i64 x.v_.Queue,.int .i64 x.v_.Time,.int .i64 x.v_.Data,.int .i64 x.v_.Item.At,.int .i64 x.v_.Item.Gen]
theorem zt.yb : xV zt.enc 7 := ⟨fun _ => rfl,fun x u hu => by simp only [zt.enc,iC,List.not_mem_nil,or_false] at hu; rcases hu with rfl | rfl | rfl | rfl | rfl | rfl | rfl <;> rfl⟩
structure zg where
 most : Int
 l : List zt
 free : List Int
structure zp where
 p : zg
 by_ : List (zd × zd)
structure zP where
 now : Int
structure zb where
 kind : Int
 most : Int
 q : zq
 heaps0 : zd
 heaps1 : zd
 t_ : zp
 when : List (zd × Int)
 clock : zP
 budget : Int
 last : Int
 top : Int
structure yk where
 Op : Int
 Kind : Int
 Heap : zd
 Other : zd
 Item : zd
 Key : Int
def yk.enc (x : yk) : List Value := [.int .i64 x.Op,.int .i64 x.Kind,.int .i64 x.Heap.At,.int .i64 x.Heap.Gen,.int .i64 x.Other.At,.int .i64 x.Other.Gen,.int .i64 x.Item.At,.int .i64 x.Item.Gen,.int .i64 x.Key]
theorem yk.yb : xV yk.enc 9 := ⟨fun _ => rfl,fun x u hu => by simp only [yk.enc,iC,List.not_mem_nil,or_false] at hu; rcases hu with rfl | rfl | rfl | rfl | rfl | rfl | rfl | rfl | rfl <;> rfl⟩
structure zO where
 Why : Int
 Heap : zd
 Item : zd
 Entry : zG
 N : Int
def zO.enc (x : zO) : List Value := [.int .i64 x.Why,.int .i64 x.Heap.At,.int .i64 x.Heap.Gen,.int .i64 x.Item.At,.int .i64 x.Item.Gen,.int .i64 x.Entry.Key,.int .i64 x.Entry.Serial,.int .i64 x.N]
theorem zO.yb : xV zO.enc 8 := ⟨fun _ => rfl,fun x u hu => by simp only [zO.enc,iC,List.not_mem_nil,or_false] at hu; rcases hu with rfl | rfl | rfl | rfl | rfl | rfl | rfl | rfl <;> rfl⟩
def yk.val (x : yk) : Value := .agg #[.int .i64 x.Op,.int .i64 x.Kind,.int .i64 x.Heap.At,.int .i64 x.Heap.Gen,.int .i64 x.Other.At,.int .i64 x.Other.Gen,.int .i64 x.Item.At,.int .i64 x.Item.Gen,.int .i64 x.Key]
def zC.val (x : zC) : Value := .agg #[.int .i64 x.kind,.int .i64 x.root,.int .i64 x.n]
structure zo where
 n : Int
 rank : Int
def zo.enc (x : zo) : List Value := [.int .i64 x.n,.int .i64 x.rank]
theorem zo.yb : xV zo.enc 2 := ⟨fun _ => rfl,fun x u hu => by simp only [zo.enc,iC,List.not_mem_nil,or_false] at hu; rcases hu with rfl | rfl <;> rfl⟩
def zo.val (x : zo) : Value := .agg #[.int .i64 x.n,.int .i64 x.rank]
def zA.val (x : zA) : Value := .agg #[.int .i64 x.cell,.int .i64 x.heap.At,.int .i64 x.heap.Gen]
def zd.eq (x y : zd) : Bool := (x.At == y.At && (x.Gen == y.Gen && true))
structure zf where
 c_ : MCh zk
def zk.val (x : zk) : Value := .agg #[.int .i64 x.Kind,.int .i64 x.Queue,.int .i64 x.Job.At,.int .i64 x.Job.Gen,.int .i64 x.Time,.int .i64 x.Data]
structure zh where
 l : List zf
structure zi where
 d : zb
 desk : zh
structure yf where
 s : zi
 l : List zM
def wI.val (x : wI) : Value := .agg #[.int .i64 x.Kind,.int .i64 x.Box,.int .i64 x.Command.Kind,.int .i64 x.Command.Queue,.int .i64 x.Command.Job.At,.int .i64 x.Command.Job.Gen,.int .i64 x.Command.Time,.int .i64 x.Command.Data]
def zB.val (x : zB) : Value := .agg #[.int .i64 x.Queue,.int .i64 x.Time,.int .i64 x.Data,.int .i64 x.Item.At,.int .i64 x.Item.Gen]
structure zw where
 Kind : Int
 Box : Int
 D : yo
def zw.enc (x : zw) : List Value := [.int .i64 x.Kind,.int .i64 x.Box,.int .i64 x.D.Kind,.int .i64 x.D.Queue,.int .i64 x.D.Job,.int .i64 x.D.Data,.int .i64 x.D.Time,.int .i64 x.D.Raw.Kind,.int .i64 x.D.Raw.Queue,.int .i64 x.D.Raw.Job.At,.int .i64 x.D.Raw.Job.Gen,.int .i64 x.D.Raw.Time,.int .i64 x.D.Raw.Data]
theorem zw.yb : xV zw.enc 13 := ⟨fun _ => rfl,fun x u hu => by simp only [zw.enc,iC,List.not_mem_nil,or_false] at hu; rcases hu with rfl | rfl | rfl | rfl | rfl | rfl | rfl | rfl | rfl | rfl | rfl | rfl | rfl <;> rfl⟩
structure zn where
 Most : Int
 Gens : List Int
 In : List Bool
 V : List Int
 Back : List Int
structure zE where
 Queue : Int
 Data : Int
 E : zG
 R : zd
def zE.enc (x : zE) : List Value := [.int .i64 x.Queue,.int .i64 x.Data,.int .i64 x.E.Key,.int .i64 x.E.Serial,.int .i64 x.R.At,.int .i64 x.R.Gen]
theorem zE.yb : xV zE.enc 6 := ⟨fun _ => rfl,fun x u hu => by simp only [zE.enc,iC,List.not_mem_nil,or_false] at hu; rcases hu with rfl | rfl | rfl | rfl | rfl | rfl <;> rfl⟩
structure zc where
 Most : Int
 Now : Int
 Next : Int
 Pool : zn
 L : List zE
def zr.eq (x y : zr) : Bool := (x.Why == y.Why && (zd.eq x.Job y.Job && (x.Time == y.Time && (x.Data == y.Data && (x.N == y.N && true)))))
def zk.eq (x y : zk) : Bool := (x.Kind == y.Kind && (x.Queue == y.Queue && (zd.eq x.Job y.Job && (x.Time == y.Time && (x.Data == y.Data && true)))))
structure xx where
 b : List Int
 bad : Bool
def zM.eq (x y : zM) : Bool := (zk.eq x.Command y.Command && (zr.eq x.Reply y.Reply && (x.Now == y.Now && (x.Steps == y.Steps && true))))
def yC (n : Int) (lo : Int) (hi : Int) : Option (Int) :=
 (bif (decide (n >= lo)) && (decide (n <= hi)) then
  some n
 else
  (mNz (w64 ((w64 (hi - lo)) + 1))).bind fun u =>
  ((bif decide (Int.tmod n (w64 ((w64 (hi - lo)) + 1)) < 0) then
   some (w64 ((w64 ((w64 ((Int.tmod n (w64 ((w64 (hi - lo)) + 1))) + hi)) - lo)) + 1))
  else
   some (Int.tmod n (w64 ((w64 (hi - lo)) + 1))))).bind fun s =>
  some (w64 (lo + s)))
def wV (x : yo) (j : List zd) : Option (zk) :=
 (bif (Int.tmod x.Job 16) == 15 then
  some x.Raw
 else
  (yC x.Kind 0 1048576).bind fun t_ =>
  (mIdx ([1,1,1,2,3,4,5,5,5,6,7] : List Int) (Int.tmod t_ 11)).bind fun x1 =>
  (yC x.Queue 0 1048576).bind fun e =>
  ((bif (Int.tmod x.Data 4) != 0 then
   some (Int.tmod ((zk.mk x1 (Int.tmod e 2) (zd.mk 0 0) x.Time x.Data).Time) 30)
  else
   some ((zk.mk x1 (Int.tmod e 2) (zd.mk 0 0) x.Time x.Data).Time))).bind fun s =>
  ((bif decide ((j.length : Int) > 0) then
   (yC x.Job 0 (w64 ((j.length : Int) - 1))).bind fun t =>
   (mIdx j t).bind fun x2 =>
   some (x2.At,x2.Gen)
  else
   some (((zk.mk x1 (Int.tmod e 2) (zd.mk 0 0) x.Time x.Data).Job).At,((zk.mk x1 (Int.tmod e 2) (zd.mk 0 0) x.Time x.Data).Job).Gen))).bind fun s1 =>
  some (zk.mk ((zk.mk x1 (Int.tmod e 2) (zd.mk 0 0) x.Time x.Data).Kind) ((zk.mk x1 (Int.tmod e 2) (zd.mk 0 0) x.Time x.Data).Queue) (zd.mk s1.1 s1.2) s ((zk.mk x1 (Int.tmod e 2) (zd.mk 0 0) x.Time x.Data).Data)))
def tB (e : Int) : Option (Bool) :=
 some ((decide (e >= 1)) && (decide (e <= 3)))
def bits_Len64 (x : Int) : Option (Int) :=
 ((bif decide (x >= 4294967296) then
  some (Int.fdiv x (2 ^ (min (Int.toNat 32) 64)),32)
 else
  some (x,0))).bind fun s =>
 ((bif decide (s.1 >= 65536) then
  some (Int.fdiv s.1 (2 ^ (min (Int.toNat 16) 64)),w64 (s.2 + 16))
 else
  some (s.1,s.2))).bind fun s1 =>
 ((bif decide (s1.1 >= 256) then
  some (Int.fdiv s1.1 (2 ^ (min (Int.toNat 8) 64)),w64 (s1.2 + 8))
 else
  some (s1.1,s1.2))).bind fun s2 =>
 (AP (ByteArray.mk #[0,1,2,2,3,3,3,3,4,4,4,4,4,4,4,4,5,5,5,5,5,5,5,5,5,5,5,5,5,5,5,5,6,6,6,6,6,6,6,6,6,6,6,6,6,6,6,6,6,6,6,6,6,6,6,6,6,6,6,6,6,6,6,6,7,7,7,7,7,7,7,7,7,7,7,7,7,7,7,7,7,7,7,7,7,7,7,7,7,7,7,7,7,7,7,7,7,7,7,7,7,7,7,7,7,7,7,7,7,7,7,7,7,7,7,7,7,7,7,7,7,7,7,7,7,7,7,7,8,8,8,8,8,8,8,8,8,8,8,8,8,8,8,8,8,8,8,8,8,8,8,8,8,8,8,8,8,8,8,8,8,8,8,8,8,8,8,8,8,8,8,8,8,8,8,8,8,8,8,8,8,8,8,8,8,8,8,8,8,8,8,8,8,8,8,8,8,8,8,8,8,8,8,8,8,8,8,8,8,8,8,8,8,8,8,8,8,8,8,8,8,8,8,8,8,8,8,8,8,8,8,8,8,8,8,8,8,8,8,8,8,8,8,8,8,8,8,8,8,8,8,8,8,8,8,8]) (IntKind.wrap .u8 (s2.1))).bind fun c_ =>
 some (w64 (s2.2 + (w64 (c_))))
def bits_Len (x : Int) : Option (Int) :=
 (bits_Len64 x).bind fun t_ =>
 some t_
def py (n : Int) : Option (Int) :=
 (bits_Len (IntKind.wrap .u64 ((if n > 0 then n else 0)))).bind fun t_ =>
 some t_
def uj (a_ : Int) (b : Int) : Option (Int) :=
 (bif (decide (b > 0)) && (decide (a_ > w64 (9223372036854775807 - b))) then
  some 9223372036854775807
 else
  (bif (decide (b < 0)) && (decide (a_ < w64 ((-9223372036854775808) - b))) then
   some (-9223372036854775808)
  else
   some (w64 (a_ + b))))
def vQ (t : Int) (x1 : Int) : Nat -> Int -> Int -> Option (Int)
 | 0,_,_ => none
 | m + 1,e,x =>
  (bif decide (x < x1) then
   (uj e t).bind fun j =>
   vQ t x1 m j (w64 (x + 1))
  else
   some e)
def oj (k : Nat) (a_ : Int) (b : Int) (n : Int) : Option (Int) :=
 (py n).bind fun t_ =>
 (vQ b t_ k a_ 0).bind fun s =>
 some s
def ru (k : Nat) (j : Int) (items : Int) : Option (Int × Bool) :=
 ((tB j).bind fun t_ =>
 (bif !t_ then
  some true
 else
  (bif decide (items < 1) then
   some true
  else
   some (decide (items > 4096))))).bind fun s =>
 (bif s then
  some (0,false)
 else
  (oj k 2000 1600 (w64 (items + 1))).bind fun e =>
  some (e,true))
def mX  : Option (zF) :=
 some (zF.mk 0 0 0)
def oB (cells : Int) : Option (za) :=
 (mW (if (if 65536 < cells then 65536 else cells) > 0 then (if 65536 < cells then 65536 else cells) else 0) (zu.mk 0 0 0 0 0 0 0 0 0 0 false)).bind fun l =>
 (mX).bind fun t_ =>
 some (za.mk l 0 ([] : List Int) t_)
def uV (places : Int) : Option (zj) :=
 some (zj.mk (if (if 65536 < places then 65536 else places) > 0 then (if 65536 < places then 65536 else places) else 0) ([] : List zx) ([] : List Int))
def uz (places : Int) : Option (ze) :=
 some (ze.mk (if (if 65536 < places then 65536 else places) > 0 then (if 65536 < places then 65536 else places) else 0) ([] : List zs) ([] : List Int))
def lI (items : Int) : Option (zm) :=
 (uV 64).bind fun t_ =>
 (uz (if (if 16384 < items then 16384 else items) > 1 then (if 16384 < items then 16384 else items) else 1)).bind fun e =>
 some (zm.mk t_ e ([] : List (Int × zd)))
def ea (items : Int) : Option ((Option zq) × Int) :=
 (bif (decide (items < 1)) || (decide (items > 16384)) then
  some ((none : Option zq),1)
 else
  (oB (w64 (2 * items))).bind fun t_ =>
  (lI items).bind fun e =>
  some (some (zq.mk items t_ e ([] : List (zd × zG)) 0),0))
def tG (places : Int) : Option (zg) :=
 some (zg.mk (if (if 65536 < places then 65536 else places) > 0 then (if 65536 < places then 65536 else places) else 0) ([] : List zt) ([] : List Int))
def oL (e : Int) : Option (zp) :=
 (tG (if (if 4096 < e then 4096 else e) > 1 then (if 4096 < e then 4096 else e) else 1)).bind fun t_ =>
 some (zp.mk t_ ([] : List (zd × zd)))
def oD  : Option (zP) :=
 some (zP.mk 0)
def wP (c_ : yk) : Option (zO) :=
 none
def tA (a_ : za) : Option (Unit) :=
 some ()
def rZ (m_ : zF) : Option (Int) :=
 some (w64 (m_.steps - m_.begun))
def qC (m_ : zF) : Option (Int) :=
 (rZ m_).bind fun t_ =>
 some (if t_ > m_.most then t_ else m_.most)
def tE (m_ : zF) : Option (zF) :=
 (qC m_).bind fun t_ =>
 some (zF.mk m_.steps m_.steps t_)
def pn (e : Int) : Option (Bool) :=
 some ((decide (e >= 1)) && (decide (e <= 5)))
def yM (p : zj) (v_ : zC) : Option (zd × Bool × zj) :=
 ((bif decide (w64 ((p.free.length : Int) - 1) >= 0) then
  (mIdx p.free (w64 ((p.free.length : Int) - 1))).bind fun x =>
  (mCut p.free 0 (w64 ((p.free.length : Int) - 1))).bind fun l =>
  some (.inr (x,zj.mk p.most p.l l))
 else
  (bif decide ((p.l.length : Int) >= p.most) then
   some (.inl (zd.mk 0 0,false,p))
  else
   (mApp p.l ([zx.mk 0 false (zC.mk 0 0 0)] : List zx)).bind fun e =>
   some (.inr ((p.l.length : Int),zj.mk p.most e p.free)))) : Option ((zd × Bool × zj) ⊕ (Int × zj))).bind fun s =>
 match s with
 | .inl j => some j
 | .inr s1 =>
  (mIdx s1.2.l s1.1).bind fun x1 =>
  some (zd.mk s1.1 (w64 (x1.gen + 1)),true,zj.mk s1.2.most (mSet (mSet (mSet s1.2.l s1.1 (zx.mk (w64 (x1.gen + 1)) x1.taken x1.v_)) s1.1 (zx.mk (w64 (x1.gen + 1)) true x1.v_)) s1.1 (zx.mk (w64 (x1.gen + 1)) true v_)) s1.2.free)
def uP (t_ : zm) (t : Int) : Option (zd × Int × zm) :=
 (pn t).bind fun j =>
 (bif !j then
  some (zd.mk 0 0,24,t_)
 else
  (yM t_.heaps (zC.mk t (-1) 0)).bind fun e =>
  (bif !e.2.1 then
   some (zd.mk 0 0,13,zm.mk e.2.2 t_.items t_.at_)
  else
   some (e.1,0,zm.mk e.2.2 t_.items t_.at_)))
def y3 (p : zj) (r : zd) : Option ((Option Int) × Int) :=
 ((bif decide (r.At < 0) then
  some true
 else
  (bif decide (r.At >= (p.l.length : Int)) then
   some true
  else
   (bif decide (r.Gen < 1) then
    some true
   else
    (mIdx p.l r.At).bind fun x1 =>
    some (decide (r.Gen > x1.gen)))))).bind fun s =>
 (bif s then
  some ((none : Option Int),22)
 else
  (mIdx p.l r.At).bind fun x2 =>
  (bif (decide (r.Gen < x2.gen)) || (!x2.taken) then
   some ((none : Option Int),23)
  else
   some ((some r.At : Option Int),0)))
def yE (p : zj) (r : zd) : Option (zC × Int) :=
 (y3 p r).bind fun t_ =>
 (uT t_.1
  ((bif t_.2 != 0 then
   some (zC.mk 0 0 0,t_.2)
  else
   none))
  (fun i =>
  (mIdx p.l i).bind fun x =>
  (bif t_.2 != 0 then
   some (zC.mk 0 0 0,t_.2)
  else
   some (x.v_,0))))
def xp (t_ : zm) (j : zd) : Option (Int × Int × Int × Int) :=
 (yE t_.heaps j).bind fun e =>
 some (e.1.kind,e.1.root,e.1.n,e.2)
def vR (e : Int) : Option (zO) :=
 some (zO.mk e (zd.mk 0 0) (zd.mk 0 0) (zG.mk 0 0) 0)
def xd (p : ze) : Option (Int) :=
 some (w64 ((p.l.length : Int) - (p.free.length : Int)))
def uv (t_ : zm) : Option (Int) :=
 (xd t_.items).bind fun e =>
 some e
def xB (m_ : zF) (n : Int) : Option (zF) :=
 (uj m_.steps (if n > 0 then n else 0)).bind fun t_ =>
 some (zF.mk t_ m_.begun m_.most)
def qg  : Option (zu) :=
 some (zu.mk (-1) (-1) (-1) (-1) 0 0 (-1) 0 0 (-1) true)
def vK (a_ : za) : Option (Int × Bool × za) :=
 (xB a_.m_ 1).bind fun t_ =>
 ((bif decide (w64 ((a_.free.length : Int) - 1) >= 0) then
  (mIdx a_.free (w64 ((a_.free.length : Int) - 1))).bind fun x =>
  (mCut a_.free 0 (w64 ((a_.free.length : Int) - 1))).bind fun l =>
  some (.inr (x,za.mk a_.l a_.never l t_))
 else
  (bif decide (a_.never >= (a_.l.length : Int)) then
   some (.inl ((-1),false,za.mk a_.l a_.never a_.free t_))
  else
   some (.inr (a_.never,za.mk a_.l (w64 (a_.never + 1)) a_.free t_)))) : Option ((Int × Bool × za) ⊕ (Int × za))).bind fun s =>
 match s with
 | .inl j => some j
 | .inr s1 =>
  (qg).bind fun e =>
  (mIdx s1.2.l s1.1).bind fun x1 =>
  some (s1.1,true,za.mk (mSet s1.2.l s1.1 e) s1.2.never s1.2.free s1.2.m_)
def yr (a_ : za) (c_ : Int) : Option (Bool) :=
 ((bif decide (c_ >= 0) then
  (bif decide (c_ < (a_.l.length : Int)) then
   (mIdx a_.l c_).bind fun x1 =>
   some x1.taken
  else
   some false)
 else
  some false)).bind fun s =>
 some s
def wq (a_ : za) (c_ : Int) (field : Int) : Option (Bool) :=
 ((yr a_ c_).bind fun t_ =>
 (bif t_ then
  (bif decide (field >= 0) then
   some (decide (field < 10))
  else
   some false)
 else
  some false)).bind fun s =>
 some s
def zz (a_ : za) (c_ : Int) (field : Int) (v_ : Int) : Option (Bool × za) :=
 (xB a_.m_ 1).bind fun t_ =>
 (wq (za.mk a_.l a_.never a_.free t_) c_ field).bind fun e =>
 (bif !e then
  some (false,za.mk a_.l a_.never a_.free t_)
 else
  (mIdx a_.l c_).bind fun x =>
  (mIn field 10).bind fun u =>
  (zu.ou x field v_).bind fun y =>
  some (true,za.mk (mSet a_.l c_ y) a_.never a_.free t_))
def mf (a_ : za) (key : Int) (serial : Int) : Option (Int × Bool × za) :=
 (vK a_).bind fun t_ =>
 ((bif t_.2.1 then
  (zz t_.2.2 t_.1 7 key).bind fun e =>
  (zz e.2 t_.1 8 serial).bind fun j =>
  some j.2
 else
  some t_.2.2)).bind fun s =>
 some (t_.1,t_.2.1,s)
def pk (a_ : za) (n : Int) (i : Int) : Option (za) :=
 (zz a_ n 6 i).bind fun t_ =>
 (zz t_.2 i 9 n).bind fun e =>
 some e.2
def px (a_ : za) (i : Int) : Option (Int × Bool × za) :=
 (vK a_).bind fun t_ =>
 ((bif t_.2.1 then
  (pk t_.2.2 t_.1 i).bind fun e =>
  some e
 else
  some t_.2.2)).bind fun s =>
 some (t_.1,t_.2.1,s)
def xW (a_ : za) : Option (Int) :=
 some (a_.l.length : Int)
def zW (a_ : za) (c_ : Int) (field : Int) : Option (Int × za) :=
 (xB a_.m_ 1).bind fun t_ =>
 (wq (za.mk a_.l a_.never a_.free t_) c_ field).bind fun e =>
 (bif !e then
  some ((-1),za.mk a_.l a_.never a_.free t_)
 else
  (mIdx a_.l c_).bind fun x =>
  (mIn field 10).bind fun u =>
  (zu.qF x field).bind fun v_ =>
  some (v_,za.mk a_.l a_.never a_.free t_))
def zH (a_ : za) (c_ : Int) (field : Int) : Option (Int × za) :=
 (zW a_ c_ field).bind fun t_ =>
 ((bif decide (t_.1 < 0) then
  some true
 else
  some (decide (t_.1 >= (t_.2.l.length : Int))))).bind fun s =>
 (bif s then
  some ((-1),t_.2)
 else
  some (t_.1,t_.2))
def rW (a_ : za) (i : Int) : Option (zG × za) :=
 (zW a_ i 7).bind fun t_ =>
 (zW t_.2 i 8).bind fun e =>
 some (zG.mk t_.1 e.1,e.2)
def ud (x : Int) : Option (Bool) :=
 some (x != x)
def vp (x : Int) (y : Int) : Option (Int) :=
 (ud x).bind fun t_ =>
 (ud y).bind fun e =>
 (bif t_ then
  (bif e then
   some 0
  else
   some (-1))
 else
  (bif e then
   some 1
  else
   (bif decide (x < y) then
    some (-1)
   else
    (bif decide (x > y) then
     some 1
    else
     some 0))))
def uq (x1 : Int) (l : List Int) : Nat -> Int -> Option ((Int) ⊕ (Unit))
 | 0,_ => none
 | m + 1,x =>
  (bif decide (x < x1) then
   (mIdx l x).bind fun x2 =>
   (bif x2 != 0 then
    some (.inl x2)
   else
    uq x1 l m (w64 (x + 1)))
  else
   some (.inr ()))
def pf (k : Nat) (e : List Int) : Option (Int) :=
 (uq (e.length : Int) e k 0).bind fun s =>
 match s with
 | .inl j => some j
 | .inr s1 =>
  some 0
def sE (k : Nat) (a_ : zG) (b : zG) : Option (Int) :=
 (vp a_.Key b.Key).bind fun t_ =>
 (vp a_.Serial b.Serial).bind fun e =>
 (pf k ([t_,e] : List Int)).bind fun j =>
 some j
def qi (k : Nat) (a_ : za) (i : Int) (j : Int) : Option (Bool × za) :=
 (rW a_ i).bind fun t_ =>
 (rW t_.2 j).bind fun e =>
 (sE k t_.1 e.1).bind fun t =>
 some ((decide (t < 0)) || ((t == 0) && (decide (i < j))),e.2)
def ui (k : Nat) (a_ : za) (n : Int) (m_ : Int) : Option (Bool × za) :=
 (zH a_ n 6).bind fun t_ =>
 (zH t_.2 m_ 6).bind fun e =>
 (qi k e.2 t_.1 e.1).bind fun j =>
 some (j.1,j.2)
def tZ (a_ : za) (n : Int) : Option (Int × za) :=
 (bif n == (-1) then
  some (0,a_)
 else
  (zW a_ n 4).bind fun t_ =>
  some (t_.1,t_.2))
def sV (a_ : za) (n : Int) : Option (Bool × za) :=
 (zH a_ n 2).bind fun t_ =>
 (zH t_.2 n 3).bind fun j =>
 (tZ j.2 t_.1).bind fun t =>
 (tZ t.2 j.1).bind fun e =>
 ((bif decide (t.1 < e.1) then
  (zz e.2 n 2 j.1).bind fun x =>
  (zz x.2 n 3 t_.1).bind fun y =>
  some (t.1,y.2)
 else
  some (e.1,e.2))).bind fun s =>
 (zW s.2 n 4).bind fun u =>
 (zz u.2 n 4 (w64 (s.1 + 1))).bind fun z =>
 some (u.1 != (w64 (s.1 + 1)),z.2)
def vu : Nat -> Int -> Int -> (List Int) -> za -> Option (Int × Int × (List Int) × za)
 | 0,_,_,_,_ => none
 | m + 1,r1,s1,path,m_ =>
  ((bif r1 != (-1) then
   (bif s1 != (-1) then
    (xW m_).bind fun t_ =>
    some (decide ((path.length : Int) <= t_))
   else
    some false)
  else
   some false)).bind fun u =>
  (bif u then
   (ui m m_ s1 r1).bind fun e =>
   ((bif e.1 then
    some (s1,r1)
   else
    some (r1,s1))).bind fun t =>
   (mApp path ([t.1] : List Int)).bind fun l =>
   (zH e.2 t.1 3).bind fun j =>
   vu m j.1 t.2 l j.2
  else
   some (r1,s1,path,m_))
def wu (t : List Int) : Nat -> Int -> Int -> za -> Option (Int × za)
 | 0,_,_,_ => none
 | m + 1,top,e,j =>
  (bif decide (e >= 0) then
   (mIdx t e).bind fun x =>
   (zz j x 3 top).bind fun u =>
   (mIdx t e).bind fun x1 =>
   (zz u.2 top 0 x1).bind fun y =>
   (mIdx t e).bind fun x2 =>
   (sV y.2 x2).bind fun z =>
   wu t m x2 (w64 (e - 1)) z.2
  else
   some (top,j))
def vB (k : Nat) (a_ : za) (r : Int) (s : Int) : Option (Int × za) :=
 (bif r == s then
  some (r,a_)
 else
  (vu k r s ([] : List Int) a_).bind fun s2 =>
  (wu s2.2.2.1 k (if s2.2.1 > s2.1 then s2.2.1 else s2.1) (w64 ((s2.2.2.1.length : Int) - 1)) s2.2.2.2).bind fun e =>
  (zz e.2 e.1 0 (-1)).bind fun j =>
  some (e.1,j.2))
def rB (k : Nat) (a_ : za) (r : Int) (i : Int) : Option (Int × Bool × za) :=
 (px a_ i).bind fun t_ =>
 (bif !t_.2.1 then
  some (r,false,t_.2.2)
 else
  (zz t_.2.2 t_.1 4 1).bind fun j =>
  (vB k j.2 r t_.1).bind fun e =>
  some (e.1,true,e.2))
def tF (e : Int) : Nat -> Int -> (List Int) -> za -> Option ((List Int) × za)
 | 0,_,_,_ => none
 | m + 1,t,out,m_ =>
  ((yr m_ t).bind fun t_ =>
  (bif t_ then
   (xW m_).bind fun u =>
   some (decide ((out.length : Int) < u))
  else
   some false)).bind fun s1 =>
  (bif s1 then
   (mApp out ([t] : List Int)).bind fun l =>
   (zH m_ t e).bind fun j =>
   tF e m j.1 l j.2
  else
   some (out,m_))
def oU (k : Nat) (a_ : za) (n : Int) (field : Int) : Option ((List Int) × za) :=
 (tF field k n ([] : List Int) a_).bind fun s =>
 some (s.1,s.2)
def wH (k : Nat) (a_ : za) (r : Int) : Option ((List Int) × za) :=
 (oU k a_ r 3).bind fun t_ =>
 some (t_.1,t_.2)
def uI (x : zo) (y : zo) : Option (Int) :=
 some (if (if 1 < w64 (x.rank - y.rank) then 1 else w64 (x.rank - y.rank)) > (-1) then (if 1 < w64 (x.rank - y.rank) then 1 else w64 (x.rank - y.rank)) else (-1))
def zT (t : Int) (u : Int) (i1 : Int) : Nat -> Int -> (List zo) -> Option ((List zo))
 | 0,_,_ => none
 | m + 1,j,e =>
  ((bif decide (j > t) then
   (mIdx e j).bind fun x1 =>
   (mIdx e (w64 (j - 1))).bind fun x2 =>
   (uI x1 x2).bind fun t_ =>
   some (decide (t_ < 0))
  else
   some false)).bind fun s2 =>
  (bif s2 then
   (mIdx e (w64 (j - 1))).bind fun x3 =>
   (mIdx e j).bind fun x4 =>
   (mIdx e j).bind fun x5 =>
   (mIdx (mSet e j x3) (w64 (j - 1))).bind fun x6 =>
   zT t u i1 m (w64 (j - 1)) (mSet (mSet e j x3) (w64 (j - 1)) x4)
  else
   some e)
def zJ (e : Int) (j : Int) : Nat -> Int -> (List zo) -> Option ((List zo))
 | 0,_,_ => none
 | m + 1,i,m_ =>
  (bif decide (i < j) then
   (zT e j i m i m_).bind fun s1 =>
   zJ e j m (w64 (i + 1)) s1
  else
   some m_)
def zR (k : Nat) (data : List zo) (a_ : Int) (b : Int) : Option ((List zo)) :=
 (zJ a_ b k (w64 (a_ + 1)) data).bind fun s =>
 (nH s.length data.length).bind fun u =>
 some s
def ya (e : Int) : Nat -> Int -> Int -> (List zo) -> Option (Int × (List zo))
 | 0,_,_,_ => none
 | m + 1,a_,b,m_ =>
  (bif decide (b <= e) then
   (zR m m_ a_ b).bind fun t_ =>
   ya e m b (w64 (b + 20)) t_
  else
   some (a_,m_))
def xU (u : Int) (e : Int) (x : List zo) : Nat -> Int -> Int -> Option (Int)
 | 0,_,_ => none
 | m + 1,j,t =>
  (bif decide (t <= u) then
   none
  else
   some j)
def yp (j : Int) (l : List zo) : Nat -> Int -> Option (Unit)
 | 0,_ => none
 | m + 1,e =>
  (bif decide (e < j) then
   (xU j e l m 0 (w64 (2 * e))).bind fun s2 =>
   ((bif decide (w64 (s2 + e) < j) then
    none
   else
    some ())).bind fun t =>
   yp j l m (w64 (e * 2))
  else
   some ())
def xt (k : Nat) (data : List zo) (n : Int) : Option ((List zo)) :=
 (ya n k 0 20 data).bind fun s =>
 (zR k s.2 s.1 n).bind fun e =>
 (yp n e k 20).bind fun s1 =>
 (nH e.length data.length).bind fun u =>
 some e
def yK (k : Nat) (x : List zo) : Option ((List zo)) :=
 (xt k x (x.length : Int)).bind fun t_ =>
 (nH t_.length x.length).bind fun u =>
 some t_
def uW (a_ : za) (n : Int) (up : Int) : Option (za) :=
 (zH a_ up 1).bind fun t_ =>
 (zz t_.2 n 3 t_.1).bind fun e =>
 (zz e.2 n 0 up).bind fun j =>
 (zz j.2 up 1 n).bind fun t =>
 some t.2
def tK (k : Nat) (a_ : za) (n : Int) (m_ : Int) (rank : Int) : Option (Int × za) :=
 (ui k a_ m_ n).bind fun t_ =>
 ((bif t_.1 then
  some (m_,n)
 else
  some (n,m_))).bind fun s =>
 (uW t_.2 s.2 s.1).bind fun e =>
 (zz e s.1 4 (w64 (rank + 1))).bind fun j =>
 some (s.1,j.2)
def tc (j : List Int) : Nat -> Int -> Int -> za -> Option (Int × za)
 | 0,_,_,_ => none
 | m + 1,next,e,m_ =>
  (bif decide (e >= 0) then
   (mIdx j e).bind fun x =>
   (zz m_ x 3 next).bind fun t_ =>
   (mIdx j e).bind fun x1 =>
   (zz t_.2 x1 0 (-1)).bind fun t =>
   (mIdx j e).bind fun x2 =>
   tc j m x2 (w64 (e - 1)) t.2
  else
   some (next,m_))
def nq (k : Nat) (a_ : za) (l : List Int) : Option (Int × za) :=
 (tc l k (-1) (w64 ((l.length : Int) - 1)) a_).bind fun s =>
 some (s.1,s.2)
def vT (x1 : Int) (e : List Int) : Nat -> (List zo) -> Int -> za -> Option ((List zo) × za)
 | 0,_,_,_ => none
 | m + 1,wait,x,m_ =>
  (bif decide (x < x1) then
   (mIdx e x).bind fun x2 =>
   (zW m_ x2 4).bind fun t_ =>
   (mApp wait ([zo.mk x2 t_.1] : List zo)).bind fun j =>
   vT x1 e m j (w64 (x + 1)) t_.2
  else
   some (wait,m_))
def vU (t : List zo) (v_ : Int) (e : Int) (x : List Int) (u : za) (y : List Int) : Nat -> Int -> Option (Int)
 | 0,_ => none
 | m + 1,j =>
  ((bif decide (j < (t.length : Int)) then
   (mIdx t j).bind fun x8 =>
   some (decide (x8.rank < e))
  else
   some false)).bind fun z =>
  (bif z then
   vU t v_ e x u y m (w64 (j + 1))
  else
   some j)
def wN (u : List Int) : Nat -> (List zo) -> (List Int) -> za -> Option ((List Int) × za)
 | 0,_,_,_ => none
 | m + 1,e,out,t =>
  (bif decide ((e.length : Int) > 0) then
   (mIdx e 0).bind fun x3 =>
   ((bif (e.length : Int) == 1 then
    some true
   else
    (mIdx e 1).bind fun x5 =>
    some (x5.rank != x3.rank))).bind fun s2 =>
   (bif s2 then
    (mCut e 1 (e.length : Int)).bind fun l4 =>
    (mApp out ([x3.n] : List Int)).bind fun z =>
    wN u m l4 z t
   else
    (mIdx e 1).bind fun x6 =>
    (tK m t x3.n x6.n x3.rank).bind fun j =>
    (mCut e 2 (e.length : Int)).bind fun y =>
    (vU y ((zo.mk j.1 (w64 (x3.rank + 1))).n) ((zo.mk j.1 (w64 (x3.rank + 1))).rank) out j.2 u m 0).bind fun A =>
    (oe y A ([(zo.mk j.1 (w64 (x3.rank + 1)))] : List zo)).bind fun x =>
    wN u m x out j.2)
  else
   some (out,t))
def vG (k : Nat) (a_ : za) (l : List Int) : Option (Int × za) :=
 (vT (l.length : Int) l k ([] : List zo) 0 a_).bind fun s =>
 (yK k s.1).bind fun j =>
 (wN l k j ([] : List Int) s.2).bind fun s1 =>
 (nq k s1.2 s1.1).bind fun e =>
 some (e.1,e.2)
def tf (k : Nat) (a_ : za) (r : Int) (i : Int) : Option (Int × Bool × za) :=
 (px a_ i).bind fun t_ =>
 (bif !t_.2.1 then
  some (r,false,t_.2.2)
 else
  (wH k t_.2.2 r).bind fun e =>
  (mApp ([t_.1] : List Int) e.1).bind fun l =>
  (vG k e.2 l).bind fun j =>
  some (j.1,true,j.2))
def rX (a_ : za) (n : Int) (m_ : Int) : Option (za) :=
 (zH a_ n 6).bind fun t_ =>
 (zH t_.2 m_ 6).bind fun e =>
 (pk e.2 n e.1).bind fun j =>
 (pk j m_ t_.1).bind fun t =>
 some t
def tI (k : Nat) (a_ : za) (r : Int) (n : Int) : Option (Int × za) :=
 ((bif r != (-1) then
  (zH a_ r 3).bind fun t_ =>
  some (t_.1,t_.2)
 else
  some ((-1),a_))).bind fun s =>
 (zW s.2 r 4).bind fun j =>
 ((bif s.1 == (-1) then
  some (true,j.2)
 else
  (zW j.2 s.1 4).bind fun x =>
  some (x.1 != j.1,x.2))).bind fun s1 =>
 (bif s1.1 then
  (zz s1.2 n 3 r).bind fun z =>
  (zz z.2 n 0 (-1)).bind fun A =>
  some (n,A.2)
 else
  (zH s1.2 s.1 3).bind fun y =>
  (tK k y.2 r s.1 j.1).bind fun e =>
  (ui k e.2 n e.1).bind fun t =>
  ((bif t.1 then
   (rX t.2 n e.1).bind fun B =>
   some B
  else
   some t.2)).bind fun s2 =>
  (uW s2 n e.1).bind fun D =>
  (zz D e.1 3 y.1).bind fun u =>
  some (e.1,u.2))
def qX (k : Nat) (a_ : za) (r : Int) (i : Int) : Option (Int × Bool × za) :=
 (px a_ i).bind fun t_ =>
 (bif !t_.2.1 then
  some (r,false,t_.2.2)
 else
  (tI k t_.2.2 r t_.1).bind fun e =>
  some (e.1,true,e.2))
def fC (a_ : za) (r : Int) (i : Int) : Option (Int × Bool) :=
 none
def nX (a_ : za) (r : Int) (i : Int) : Option (Int × Bool) :=
 none
def oO (k : Nat) (t : Int) (a_ : za) (r : Int) (i : Int) : Option (Int × Bool × za) :=
 (bif t == 1 then
  (rB k a_ r i).bind fun t_ =>
  some (t_.1,t_.2.1,t_.2.2)
 else
  (bif t == 2 then
   (tf k a_ r i).bind fun e =>
   some (e.1,e.2.1,e.2.2)
  else
   (bif t == 3 then
    (qX k a_ r i).bind fun j =>
    some (j.1,j.2.1,j.2.2)
   else
    (bif t == 4 then
     (fC a_ r i).bind fun u =>
     some (u.1,u.2,a_)
    else
     (bif t == 5 then
      (nX a_ r i).bind fun x =>
      some (x.1,x.2,a_)
     else
      some (r,false,a_))))))
def wK (p : ze) : Option (Int) :=
 some p.most
def yG (p : ze) (v_ : zA) : Option (zd × Bool × ze) :=
 ((bif decide (w64 ((p.free.length : Int) - 1) >= 0) then
  (mIdx p.free (w64 ((p.free.length : Int) - 1))).bind fun x =>
  (mCut p.free 0 (w64 ((p.free.length : Int) - 1))).bind fun l =>
  some (.inr (x,ze.mk p.most p.l l))
 else
  (bif decide ((p.l.length : Int) >= p.most) then
   some (.inl (zd.mk 0 0,false,p))
  else
   (mApp p.l ([zs.mk 0 false (zA.mk 0 (zd.mk 0 0))] : List zs)).bind fun e =>
   some (.inr ((p.l.length : Int),ze.mk p.most e p.free)))) : Option ((zd × Bool × ze) ⊕ (Int × ze))).bind fun s =>
 match s with
 | .inl j => some j
 | .inr s1 =>
  (mIdx s1.2.l s1.1).bind fun x1 =>
  some (zd.mk s1.1 (w64 (x1.gen + 1)),true,ze.mk s1.2.most (mSet (mSet (mSet s1.2.l s1.1 (zs.mk (w64 (x1.gen + 1)) x1.taken x1.v_)) s1.1 (zs.mk (w64 (x1.gen + 1)) true x1.v_)) s1.1 (zs.mk (w64 (x1.gen + 1)) true v_)) s1.2.free)
def tr (t_ : zm) (y : zd) (cell : Int) : Option (zd × Int × zm) :=
 (yE t_.heaps y).bind fun j =>
 (bif j.2 != 0 then
  some (zd.mk 0 0,j.2,t_)
 else
  (qo kI cell (zd.mk 0 0) t_.at_).bind fun x =>
  (xd t_.items).bind fun t =>
  (wK t_.items).bind fun u =>
  (bif t == u then
   some (zd.mk 0 0,13,t_)
  else
   (bif x.2 then
    some (zd.mk 0 0,1,t_)
   else
    (yG t_.items (zA.mk cell y)).bind fun e =>
    some (e.1,0,zm.mk ((zm.mk t_.heaps e.2.2 t_.at_).heaps) ((zm.mk t_.heaps e.2.2 t_.at_).items) (mPut kI cell e.1 ((zm.mk t_.heaps e.2.2 t_.at_).at_))))))
def xH (p : zj) (r : zd) (v_ : zC) : Option (Int × zj) :=
 (y3 p r).bind fun t_ =>
 (uT t_.1
  (((bif t_.2 == 0 then
   none
  else
   some ())).bind fun s =>
  some (t_.2,p))
  (fun i =>
  (mIdx p.l i).bind fun x =>
  ((bif t_.2 == 0 then
   some (zj.mk p.most (mSet p.l i (zx.mk x.gen x.taken v_)) p.free)
  else
   some p)).bind fun s1 =>
  some (t_.2,s1)))
def xC (t_ : zm) (t : zd) (r : Int) (n : Int) : Option (Int × zm) :=
 (yE t_.heaps t).bind fun e =>
 ((bif e.2 == 0 then
  (xH t_.heaps t (zC.mk e.1.kind r n)).bind fun j =>
  some (zm.mk j.2 t_.items t_.at_)
 else
  some t_)).bind fun s =>
 some (e.2,s)
def uK (k : Nat) (q : zq) (c_ : yk) : Option (zO × zq) :=
 (xp q.t_ c_.Heap).bind fun t_ =>
 (bif t_.2.2.2 != 0 then
  (vR t_.2.2.2).bind fun u =>
  some (u,q)
 else
  (uv q.t_).bind fun x =>
  (bif decide (x >= q.items) then
   (vR 13).bind fun y =>
   some (y,q)
  else
   (mf q.a_ c_.Key q.serial).bind fun t =>
   (oO k t_.1 t.2.2 t_.2.1 t.1).bind fun j =>
   (tr q.t_ c_.Heap t.1).bind fun e =>
   (xC ((zq.mk q.items j.2.2 e.2.2 q.entries q.serial).t_) c_.Heap j.1 (w64 (t_.2.2.1 + 1))).bind fun z =>
   some (zO.mk 0 (zd.mk 0 0) e.1 (zG.mk c_.Key q.serial) 0,zq.mk ((zq.mk q.items j.2.2 e.2.2 q.entries q.serial).items) ((zq.mk q.items j.2.2 e.2.2 q.entries q.serial).a_) z.2 (mPut zd.eq e.1 (zG.mk c_.Key q.serial) ((zq.mk q.items j.2.2 e.2.2 q.entries q.serial).entries)) (w64 (((zq.mk q.items j.2.2 e.2.2 q.entries q.serial).serial) + 1)))))
def ql (a_ : za) (r : Int) : Option (Int × za) :=
 (zH a_ r 6).bind fun t_ =>
 some (t_.1,t_.2)
def vh (x1 : Int) (j : List Int) : Nat -> Int -> Int -> za -> Option (Int × za)
 | 0,_,_,_ => none
 | m + 1,e,x,m_ =>
  (bif decide (x < x1) then
   ((mIdx j x).bind fun x2 =>
   ((bif e == (-1) then
    some (true,m_)
   else
    (ui m m_ x2 e).bind fun t_ =>
    some (t_.1,t_.2))).bind fun s2 =>
   (bif s2.1 then
    some (x2,s2.2)
   else
    some (e,s2.2))).bind fun s1 =>
   vh x1 j m s1.1 (w64 (x + 1)) s1.2
  else
   some (e,m_))
def vS (k : Nat) (a_ : za) (l : List Int) : Option (Int × za) :=
 (vh (l.length : Int) l k (-1) 0 a_).bind fun s =>
 some (s.1,s.2)
def tV (k : Nat) (a_ : za) (r : Int) : Option (Int × za) :=
 (wH k a_ r).bind fun t_ =>
 (vS k t_.2 t_.1).bind fun e =>
 (zH e.2 e.1 6).bind fun j =>
 some (j.1,j.2)
def ni (k : Nat) (a_ : za) (r : Int) : Option (Int × za) :=
 (wH k a_ r).bind fun t_ =>
 (vS k t_.2 t_.1).bind fun e =>
 (zH e.2 e.1 6).bind fun j =>
 some (j.1,j.2)
def cc (a_ : za) (r : Int) : Option (Int) :=
 none
def ll (a_ : za) (r : Int) : Option (Int) :=
 none
def mh (k : Nat) (e : Int) (a_ : za) (r : Int) : Option (Int × za) :=
 (bif e == 1 then
  (ql a_ r).bind fun t_ =>
  some (t_.1,t_.2)
 else
  (bif e == 2 then
   (tV k a_ r).bind fun j =>
   some (j.1,j.2)
  else
   (bif e == 3 then
    (ni k a_ r).bind fun t =>
    some (t.1,t.2)
   else
    (bif e == 4 then
     (cc a_ r).bind fun u =>
     some (u,a_)
    else
     (bif e == 5 then
      (ll a_ r).bind fun x =>
      some (x,a_)
     else
      some ((-1),a_))))))
def uG (t_ : zm) (cell : Int) : Option (zd × Bool) :=
 (qo kI cell (zd.mk 0 0) t_.at_).bind fun x =>
 some (x.1,x.2)
def qM (k : Nat) (a_ : za) (n : Int) : Option (Int × za) :=
 (zH a_ n 2).bind fun t_ =>
 (zH t_.2 n 3).bind fun e =>
 (vB k e.2 t_.1 e.1).bind fun j =>
 some (j.1,j.2)
def vJ (a_ : za) (c_ : Int) : Option (Bool × za) :=
 (xB a_.m_ 1).bind fun t_ =>
 (yr (za.mk a_.l a_.never a_.free t_) c_).bind fun e =>
 (bif !e then
  some (false,za.mk a_.l a_.never a_.free t_)
 else
  (mIdx a_.l c_).bind fun x =>
  (mApp a_.free ([c_] : List Int)).bind fun l =>
  some (true,za.mk (mSet a_.l c_ (zu.mk x.f0 x.f1 x.f2 x.f3 x.f4 x.f5 x.f6 x.f7 x.f8 x.f9 false)) a_.never l t_))
def qq (a_ : za) (n : Int) : Option (Int × za) :=
 (zH a_ n 6).bind fun t_ =>
 (zz t_.2 t_.1 9 (-1)).bind fun e =>
 (vJ e.2 n).bind fun j =>
 some (t_.1,j.2)
def uS (k : Nat) (a_ : za) (r : Int) : Option (Int × Int × za) :=
 ((yr a_ r).bind fun t_ =>
 some (!t_)).bind fun s =>
 (bif s then
  some ((-1),(-1),a_)
 else
  (qM k a_ r).bind fun e =>
  (zz e.2 e.1 0 (-1)).bind fun t =>
  (qq t.2 r).bind fun j =>
  some (e.1,j.1,j.2))
def wQ (x : Int) (v_ : Int) : Option (Bool) :=
 some (x == v_)
def zY (x1 : Int) (l : List Int) (e : Int) : Nat -> Int -> Option ((Int) ⊕ (Unit))
 | 0,_ => none
 | m + 1,x =>
  (bif decide (x < x1) then
   (mIdx l x).bind fun x2 =>
   (wQ x2 e).bind fun t_ =>
   (bif t_ then
    some (.inl x)
   else
    zY x1 l e m (w64 (x + 1)))
  else
   some (.inr ()))
def wk (k : Nat) (s : List Int) (v_ : Int) : Option (Int) :=
 (zY (s.length : Int) s v_ k 0).bind fun s1 =>
 match s1 with
 | .inl e => some e
 | .inr s2 =>
  some (-1)
def yl (e : Int) : Nat -> Int -> Int -> (List Int) -> Option (Int × (List Int))
 | 0,_,_,_ => none
 | m + 1,i,j,m_ =>
  (bif decide (j < (m_.length : Int)) then
   ((mIdx m_ j).bind fun x =>
   (wQ x e).bind fun t =>
   (bif !t then
    (mIdx m_ i).bind fun x1 =>
    some (w64 (i + 1),mSet m_ i x)
   else
    some (i,m_))).bind fun s2 =>
   yl e m s2.1 (w64 (j + 1)) s2.2
  else
   some (i,m_))
def xv (k : Nat) (s : List Int) (v_ : Int) : Option ((List Int)) :=
 (wk k s v_).bind fun t_ =>
 (bif t_ == (-1) then
  some s
 else
  (yl v_ k t_ (w64 (t_ + 1)) s).bind fun s1 =>
  (mCut s1.2 s1.1 (s1.2.length : Int)).bind fun l =>
  (mCut (qB s1.2 s1.1 0) 0 s1.1).bind fun e =>
  some e)
def sM (k : Nat) (a_ : za) (n : Int) : Option ((List Int) × za) :=
 (zH a_ n 1).bind fun t_ =>
 (oU k t_.2 t_.1 3).bind fun e =>
 some (e.1,e.2)
def xM (k : Nat) (a_ : za) (l : List Int) (n : Int) : Option (Int × Int × za) :=
 (xv k l n).bind fun t_ =>
 (sM k a_ n).bind fun e =>
 (mApp t_ e.1).bind fun u =>
 (qq e.2 n).bind fun j =>
 (vG k j.2 u).bind fun t =>
 some (t.1,j.1,t.2)
def tW (k : Nat) (a_ : za) (r : Int) : Option (Int × Int × za) :=
 ((yr a_ r).bind fun t_ =>
 some (!t_)).bind fun s =>
 (bif s then
  some ((-1),(-1),a_)
 else
  (wH k a_ r).bind fun e =>
  (vS k e.2 e.1).bind fun t =>
  (xM k t.2 e.1 t.1).bind fun j =>
  some (j.1,j.2.1,j.2.2))
def uk (x : Int) (v_ : Int) : Option (Bool) :=
 some (x == v_)
def zZ (x1 : Int) (l : List Int) (e : Int) : Nat -> Int -> Option ((Int) ⊕ (Unit))
 | 0,_ => none
 | m + 1,x =>
  (bif decide (x < x1) then
   (mIdx l x).bind fun x2 =>
   (uk x2 e).bind fun t_ =>
   (bif t_ then
    some (.inl x)
   else
    zZ x1 l e m (w64 (x + 1)))
  else
   some (.inr ()))
def wm (k : Nat) (s : List Int) (v_ : Int) : Option (Int) :=
 (zZ (s.length : Int) s v_ k 0).bind fun s1 =>
 match s1 with
 | .inl e => some e
 | .inr s2 =>
  some (-1)
def ym (e : Int) : Nat -> Int -> Int -> (List Int) -> Option (Int × (List Int))
 | 0,_,_,_ => none
 | m + 1,i,j,m_ =>
  (bif decide (j < (m_.length : Int)) then
   ((mIdx m_ j).bind fun x =>
   (uk x e).bind fun t =>
   (bif !t then
    (mIdx m_ i).bind fun x1 =>
    some (w64 (i + 1),mSet m_ i x)
   else
    some (i,m_))).bind fun s2 =>
   ym e m s2.1 (w64 (j + 1)) s2.2
  else
   some (i,m_))
def xw (k : Nat) (s : List Int) (v_ : Int) : Option ((List Int)) :=
 (wm k s v_).bind fun t_ =>
 (bif t_ == (-1) then
  some s
 else
  (ym v_ k t_ (w64 (t_ + 1)) s).bind fun s1 =>
  (mCut s1.2 s1.1 (s1.2.length : Int)).bind fun l =>
  (mCut (qB s1.2 s1.1 0) 0 s1.1).bind fun e =>
  some e)
def wv (x1 : Int) (j : List Int) (v_ : Int) : Nat -> (List Int) -> (List Int) -> Int -> za -> Option ((List Int) × (List Int) × za)
 | 0,_,_,_,_ => none
 | m + 1,rest,alone,x,m_ =>
  (bif decide (x < x1) then
   ((mIdx j x).bind fun x2 =>
   (zW m_ x2 4).bind fun e =>
   (bif e.1 == 0 then
    (mApp alone ([x2] : List Int)).bind fun t =>
    some (rest,t,e.2)
   else
    (mApp rest ([x2] : List Int)).bind fun u =>
    some (u,alone,e.2))).bind fun s1 =>
   wv x1 j v_ m s1.1 s1.2.1 (w64 (x + 1)) s1.2.2
  else
   some (rest,alone,m_))
def wx (i : Int) (x4 : Int) (l4 : List Int) : Nat -> Int -> Int -> za -> Option (Int × za)
 | 0,_,_,_ => none
 | m + 1,r3,x3,e =>
  (bif decide (x3 < x4) then
   (mIdx l4 x3).bind fun x5 =>
   (tI m e r3 x5).bind fun j =>
   wx i x4 l4 m j.1 (w64 (x3 + 1)) j.2
  else
   some (r3,e))
def vC (k : Nat) (a_ : za) (l : List Int) (n : Int) : Option (Int × Int × za) :=
 (xw k l n).bind fun t_ =>
 (sM k a_ n).bind fun e =>
 (wv (e.1.length : Int) e.1 n k t_ ([] : List Int) 0 e.2).bind fun s =>
 (qq s.2.2 n).bind fun j =>
 (vG k j.2 s.1).bind fun t =>
 (wx j.1 (s.2.1.length : Int) s.2.1 k t.1 0 t.2).bind fun s2 =>
 some (s2.1,j.1,s2.2)
def nj (k : Nat) (a_ : za) (r : Int) : Option (Int × Int × za) :=
 ((yr a_ r).bind fun t_ =>
 some (!t_)).bind fun s =>
 (bif s then
  some ((-1),(-1),a_)
 else
  (wH k a_ r).bind fun e =>
  (vS k e.2 e.1).bind fun t =>
  (vC k t.2 e.1 t.1).bind fun j =>
  some (j.1,j.2.1,j.2.2))
def cd (a_ : za) (r : Int) : Option (Int × Int) :=
 none
def lp (a_ : za) (r : Int) : Option (Int × Int) :=
 none
def mj (k : Nat) (t : Int) (a_ : za) (r : Int) : Option (Int × Int × za) :=
 (bif t == 1 then
  (uS k a_ r).bind fun t_ =>
  some (t_.1,t_.2.1,t_.2.2)
 else
  (bif t == 2 then
   (tW k a_ r).bind fun e =>
   some (e.1,e.2.1,e.2.2)
  else
   (bif t == 3 then
    (nj k a_ r).bind fun j =>
    some (j.1,j.2.1,j.2.2)
   else
    (bif t == 4 then
     (cd a_ r).bind fun u =>
     some (u.1,u.2,a_)
    else
     (bif t == 5 then
      (lp a_ r).bind fun x =>
      some (x.1,x.2,a_)
     else
      some ((-1),(-1),a_))))))
def yW (p : ze) (r : zd) : Option ((Option Int) × Int) :=
 ((bif decide (r.At < 0) then
  some true
 else
  (bif decide (r.At >= (p.l.length : Int)) then
   some true
  else
   (bif decide (r.Gen < 1) then
    some true
   else
    (mIdx p.l r.At).bind fun x1 =>
    some (decide (r.Gen > x1.gen)))))).bind fun s =>
 (bif s then
  some ((none : Option Int),22)
 else
  (mIdx p.l r.At).bind fun x2 =>
  (bif (decide (r.Gen < x2.gen)) || (!x2.taken) then
   some ((none : Option Int),23)
  else
   some ((some r.At : Option Int),0)))
def xQ (p : ze) (r : zd) : Option (zA × Int × ze) :=
 (yW p r).bind fun t_ =>
 (uT t_.1
  ((bif t_.2 != 0 then
   some (zA.mk 0 (zd.mk 0 0),t_.2,p)
  else
   none))
  (fun i =>
  (mIdx p.l i).bind fun x =>
  (bif t_.2 != 0 then
   some (zA.mk 0 (zd.mk 0 0),t_.2,p)
  else
   (mApp p.free ([r.At] : List Int)).bind fun l =>
   some (x.v_,0,ze.mk p.most (mSet (mSet p.l i (zs.mk x.gen false x.v_)) i (zs.mk x.gen false (zA.mk 0 (zd.mk 0 0)))) l))))
def sv (t_ : zm) (i : zd) : Option (Int × Int × zm) :=
 (xQ t_.items i).bind fun e =>
 ((bif e.2.1 == 0 then
  some (zm.mk ((zm.mk t_.heaps e.2.2 t_.at_).heaps) ((zm.mk t_.heaps e.2.2 t_.at_).items) (mDel kI e.1.cell ((zm.mk t_.heaps e.2.2 t_.at_).at_)))
 else
  some (zm.mk t_.heaps e.2.2 t_.at_))).bind fun s =>
 some (e.1.cell,e.2.1,s)
def uF (q : zq) (i : zd) : Option (zG × zq) :=
 (sv q.t_ i).bind fun t_ =>
 (vJ q.a_ t_.1).bind fun e =>
 (qo zd.eq i (zG.mk 0 0) q.entries).bind fun x =>
 some (x.1,zq.mk q.items e.2 t_.2.2 (mDel zd.eq i q.entries) q.serial)
def vF (k : Nat) (q : zq) (D : zd) (out : Bool) : Option (zO × zq) :=
 (xp q.t_ D).bind fun t_ =>
 (bif t_.2.2.2 != 0 then
  (vR t_.2.2.2).bind fun z =>
  some (z,q)
 else
  (bif t_.2.2.1 == 0 then
   (vR 27).bind fun A =>
   some (A,q)
  else
   (bif !out then
    (mh k t_.1 q.a_ t_.2.1).bind fun e =>
    (uG q.t_ e.1).bind fun t =>
    (qo zd.eq t.1 (zG.mk 0 0) ((zq.mk q.items e.2 q.t_ q.entries q.serial).entries)).bind fun x =>
    some (zO.mk 0 (zd.mk 0 0) t.1 x.1 0,(zq.mk q.items e.2 q.t_ q.entries q.serial))
   else
    (mj k t_.1 q.a_ t_.2.1).bind fun j =>
    (uG q.t_ j.2.1).bind fun u =>
    (xC q.t_ D j.1 (w64 (t_.2.2.1 - 1))).bind fun B =>
    (uF (zq.mk q.items j.2.2 B.2 q.entries q.serial) u.1).bind fun y =>
    some (zO.mk 0 (zd.mk 0 0) u.1 y.1 0,y.2))))
def yu (p : ze) (r : zd) : Option (zA × Int) :=
 (yW p r).bind fun t_ =>
 (uT t_.1
  ((bif t_.2 != 0 then
   some (zA.mk 0 (zd.mk 0 0),t_.2)
  else
   none))
  (fun i =>
  (mIdx p.l i).bind fun x =>
  (bif t_.2 != 0 then
   some (zA.mk 0 (zd.mk 0 0),t_.2)
  else
   some (x.v_,0))))
def vN (t_ : zm) (i : zd) : Option (Int × Int) :=
 (yu t_.items i).bind fun e =>
 some (e.1.cell,e.2)
def uH (t_ : zm) (i : zd) : Option (zd × Int) :=
 (yu t_.items i).bind fun e =>
 some (e.1.heap,e.2)
def sJ (a_ : za) (i : Int) (key : Int) : Option (Bool × za) :=
 ((zW a_ i 7).bind fun t_ =>
 some (decide (key > t_.1),t_.2)).bind fun s =>
 (bif s.1 then
  some (false,s.2)
 else
  (zz s.2 i 7 key).bind fun e =>
  some (e.1,e.2))
def uf (a_ : za) (i : Int) : Option (Int × za) :=
 (zH a_ i 9).bind fun t_ =>
 some (t_.1,t_.2)
def xA : Nat -> Int -> Int -> za -> Option (za)
 | 0,_,_,_ => none
 | m + 1,p,u,m_ =>
  ((bif p != (-1) then
   (xW m_).bind fun t =>
   (bif decide (u <= t) then
    (sV m_ p).bind fun e =>
    some (e.1,e.2)
   else
    some (false,m_))
  else
   some (false,m_))).bind fun s2 =>
  (bif s2.1 then
   (zH s2.2 p 0).bind fun j =>
   xA m j.1 (w64 (u + 1)) j.2
  else
   some s2.2)
def tp (k : Nat) (a_ : za) (n : Int) : Option (za) :=
 (zH a_ n 0).bind fun t_ =>
 (zH t_.2 t_.1 2).bind fun e =>
 ((bif e.1 == n then
  (zz e.2 t_.1 2 (-1)).bind fun t =>
  some t.2
 else
  (zH e.2 t_.1 3).bind fun j =>
  (bif j.1 == n then
   (zz j.2 t_.1 3 (-1)).bind fun u =>
   some u.2
  else
   some j.2))).bind fun s =>
 (zz s n 0 (-1)).bind fun x =>
 (xA k t_.1 0 x.2).bind fun s1 =>
 some s1
def rz (k : Nat) (a_ : za) (r : Int) (i : Int) : Option (Int × za) :=
 (uf a_ i).bind fun t_ =>
 ((bif t_.1 == (-1) then
  some (true,t_.2)
 else
  (bif t_.1 == r then
   some (true,t_.2)
  else
   (zH t_.2 t_.1 0).bind fun e =>
   some (e.1 == (-1),e.2)))).bind fun s =>
 (bif s.1 then
  some (r,s.2)
 else
  (tp k s.2 t_.1).bind fun t =>
  (vB k t r t_.1).bind fun j =>
  some (j.1,j.2))
def vH (j : Bool) : Nat -> Int -> Int -> za -> Option (Int × za)
 | 0,_,_,_ => none
 | m + 1,n,y,m_ =>
  ((bif n != (-1) then
   (xW m_).bind fun u =>
   some (decide (y <= u))
  else
   some false)).bind fun s1 =>
  (bif s1 then
   (zH m_ n 0).bind fun e =>
   ((bif e.1 == (-1) then
    some (true,e.2)
   else
    (bif !j then
     (ui m e.2 n e.1).bind fun t =>
     some (!t.1,t.2)
    else
     some (false,e.2)))).bind fun s2 =>
   (bif s2.1 then
    some (n,s2.2)
   else
    (rX s2.2 n e.1).bind fun x =>
    vH j m e.1 (w64 (y + 1)) x)
  else
   some (n,m_))
def tL (k : Nat) (a_ : za) (i : Int) (any : Bool) : Option (Int × za) :=
 (uf a_ i).bind fun t_ =>
 (vH any k t_.1 0 t_.2).bind fun s =>
 some (s.1,s.2)
def td (k : Nat) (a_ : za) (r : Int) (i : Int) : Option (Int × za) :=
 (tL k a_ i false).bind fun t_ =>
 some (r,t_.2)
def qV (k : Nat) (a_ : za) (r : Int) (i : Int) : Option (Int × za) :=
 (tL k a_ i false).bind fun t_ =>
 some (r,t_.2)
def fA (a_ : za) (r : Int) (i : Int) : Option (Int) :=
 none
def nV (a_ : za) (r : Int) (i : Int) : Option (Int) :=
 none
def oM (k : Nat) (e : Int) (a_ : za) (r : Int) (i : Int) : Option (Int × za) :=
 (bif e == 1 then
  (rz k a_ r i).bind fun t_ =>
  some (t_.1,t_.2)
 else
  (bif e == 2 then
   (td k a_ r i).bind fun j =>
   some (j.1,j.2)
  else
   (bif e == 3 then
    (qV k a_ r i).bind fun t =>
    some (t.1,t.2)
   else
    (bif e == 4 then
     (fA a_ r i).bind fun u =>
     some (u,a_)
    else
     (bif e == 5 then
      (nV a_ r i).bind fun x =>
      some (x,a_)
     else
      some (r,a_))))))
def vZ (k : Nat) (q : zq) (c_ : yk) : Option (zO × zq) :=
 (vN q.t_ c_.Item).bind fun t_ =>
 (qo zd.eq c_.Item (zG.mk 0 0) q.entries).bind fun x =>
 (bif t_.2 != 0 then
  (vR t_.2).bind fun u =>
  some (u,q)
 else
  (bif decide (c_.Key > x.1.Key) then
   (vR 26).bind fun y =>
   some (y,q)
  else
   (uH q.t_ c_.Item).bind fun j =>
   (xp q.t_ j.1).bind fun e =>
   (sJ q.a_ t_.1 c_.Key).bind fun z =>
   (oM k e.1 z.2 e.2.1 t_.1).bind fun t =>
   (xC q.t_ j.1 t.1 e.2.2.1).bind fun A =>
   some (zO.mk 0 (zd.mk 0 0) (zd.mk 0 0) (zG.mk c_.Key x.1.Serial) 0,zq.mk q.items t.2 A.2 (mPut zd.eq c_.Item (zG.mk c_.Key x.1.Serial) q.entries) q.serial)))
def qk (k : Nat) (a_ : za) (r : Int) (i : Int) : Option (Int × za) :=
 (uf a_ i).bind fun t_ =>
 (bif t_.1 == (-1) then
  some (r,t_.2)
 else
  ((bif t_.1 == r then
   some (true,t_.2)
  else
   (zH t_.2 t_.1 0).bind fun e =>
   some (e.1 == (-1),e.2))).bind fun s =>
  (bif s.1 then
   (uS k s.2 t_.1).bind fun j =>
   some (j.1,j.2.2)
  else
   (tp k s.2 t_.1).bind fun x =>
   (uS k x t_.1).bind fun t =>
   (vB k t.2.2 r t.1).bind fun u =>
   some (u.1,u.2)))
def wU (e : Int) (x1 : Int) (l : List Int) : Nat -> Int -> Option ((Int) ⊕ (Unit))
 | 0,_ => none
 | m + 1,x =>
  (bif decide (x < x1) then
   (mIdx l x).bind fun x2 =>
   (bif e == x2 then
    some (.inl x)
   else
    wU e x1 l m (w64 (x + 1)))
  else
   some (.inr ()))
def ss (k : Nat) (s : List Int) (v_ : Int) : Option (Int) :=
 (wU v_ (s.length : Int) s k 0).bind fun s1 =>
 match s1 with
 | .inl e => some e
 | .inr s2 =>
  some (-1)
def wT (k : Nat) (s : List Int) (v_ : Int) : Option (Bool) :=
 (ss k s v_).bind fun t_ =>
 some (decide (t_ >= 0))
def tU (k : Nat) (a_ : za) (r : Int) (i : Int) : Option (Int × za) :=
 (uf a_ i).bind fun t_ =>
 (bif t_.1 == (-1) then
  some (r,t_.2)
 else
  (tL k t_.2 i true).bind fun j =>
  (wH k j.2 r).bind fun e =>
  (wT k e.1 j.1).bind fun u =>
  (bif !u then
   some (r,e.2)
  else
   (xM k e.2 e.1 j.1).bind fun t =>
   some (t.1,t.2.2)))
def nh (k : Nat) (a_ : za) (r : Int) (i : Int) : Option (Int × za) :=
 (uf a_ i).bind fun t_ =>
 (bif t_.1 == (-1) then
  some (r,t_.2)
 else
  (tL k t_.2 i true).bind fun j =>
  (wH k j.2 r).bind fun e =>
  (wT k e.1 j.1).bind fun u =>
  (bif !u then
   some (r,e.2)
  else
   (vC k e.2 e.1 j.1).bind fun t =>
   some (t.1,t.2.2)))
def dZ (a_ : za) (r : Int) (i : Int) : Option (Int) :=
 none
def lj (a_ : za) (r : Int) (i : Int) : Option (Int) :=
 none
def mg (k : Nat) (e : Int) (a_ : za) (r : Int) (i : Int) : Option (Int × za) :=
 (bif e == 1 then
  (qk k a_ r i).bind fun t_ =>
  some (t_.1,t_.2)
 else
  (bif e == 2 then
   (tU k a_ r i).bind fun j =>
   some (j.1,j.2)
  else
   (bif e == 3 then
    (nh k a_ r i).bind fun t =>
    some (t.1,t.2)
   else
    (bif e == 4 then
     (dZ a_ r i).bind fun u =>
     some (u,a_)
    else
     (bif e == 5 then
      (lj a_ r i).bind fun x =>
      some (x,a_)
     else
      some (r,a_))))))
def uL (k : Nat) (q : zq) (i : zd) : Option (zO × zq) :=
 (vN q.t_ i).bind fun t_ =>
 (bif t_.2 != 0 then
  (vR t_.2).bind fun x =>
  some (x,q)
 else
  (uH q.t_ i).bind fun j =>
  (xp q.t_ j.1).bind fun e =>
  (mg k e.1 q.a_ e.2.1 t_.1).bind fun t =>
  (xC q.t_ j.1 t.1 (w64 (e.2.2.1 - 1))).bind fun y =>
  (uF (zq.mk q.items t.2 y.2 q.entries q.serial) i).bind fun u =>
  some (zO.mk 0 (zd.mk 0 0) (zd.mk 0 0) u.1 0,u.2))
def yN (x1 : Int) (m_ : ze) : Nat -> (List zd) -> Int -> Option ((List zd))
 | 0,_,_ => none
 | m + 1,out,x =>
  (bif decide (x < x1) then
   ((mIdx m_.l x).bind fun x2 =>
   (bif x2.taken then
    (mApp out ([zd.mk x x2.gen] : List zd)).bind fun l =>
    some l
   else
    some out)).bind fun s1 =>
   yN x1 m_ m s1 (w64 (x + 1))
  else
   some out)
def wi (k : Nat) (p : ze) : Option ((List zd)) :=
 (yN (p.l.length : Int) p k ([] : List zd) 0).bind fun s =>
 some s
def xZ (x1 : Int) (m_ : zm) (l : List zd) (v_ : Int) (e : Int) : Nat -> (List zd) -> Int -> Option ((List zd))
 | 0,_,_ => none
 | m + 1,out,x =>
  (bif decide (x < x1) then
   ((mIdx l x).bind fun x2 =>
   (yu m_.items x2).bind fun j =>
   (bif zd.eq j.1.heap (zd.mk v_ e) then
    (mApp out ([x2] : List zd)).bind fun t =>
    some t
   else
    some out)).bind fun s1 =>
   xZ x1 m_ l v_ e m s1 (w64 (x + 1))
  else
   some out)
def uO (k : Nat) (t_ : zm) (j : zd) : Option ((List zd)) :=
 (wi k t_.items).bind fun e =>
 (xZ (e.length : Int) t_ e j.At j.Gen k ([] : List zd) 0).bind fun s =>
 some s
def wj (p : ze) (r : zd) (v_ : zA) : Option (Int × ze) :=
 (yW p r).bind fun t_ =>
 (uT t_.1
  (((bif t_.2 == 0 then
   none
  else
   some ())).bind fun s =>
  some (t_.2,p))
  (fun i =>
  (mIdx p.l i).bind fun x =>
  ((bif t_.2 == 0 then
   some (ze.mk p.most (mSet p.l i (zs.mk x.gen x.taken v_)) p.free)
  else
   some p)).bind fun s1 =>
  some (t_.2,s1)))
def wh (p : zj) (r : zd) : Option (zC × Int × zj) :=
 (y3 p r).bind fun t_ =>
 (uT t_.1
  ((bif t_.2 != 0 then
   some (zC.mk 0 0 0,t_.2,p)
  else
   none))
  (fun i =>
  (mIdx p.l i).bind fun x =>
  (bif t_.2 != 0 then
   some (zC.mk 0 0 0,t_.2,p)
  else
   (mApp p.free ([r.At] : List Int)).bind fun l =>
   some (x.v_,0,zj.mk p.most (mSet (mSet p.l i (zx.mk x.gen false x.v_)) i (zx.mk x.gen false (zC.mk 0 0 0))) l))))
def xY (x1 : Int) (l : List zd) (v_ : Int) (y : Int) (e : Int) (j : Int) : Nat -> Int -> zm -> Option (zm)
 | 0,_,_ => none
 | m + 1,x,m_ =>
  (bif decide (x < x1) then
   (mIdx l x).bind fun x2 =>
   (yu m_.items x2).bind fun t =>
   (wj m_.items x2 (zA.mk t.1.cell (zd.mk e j))).bind fun u =>
   xY x1 l v_ y e j m (w64 (x + 1)) (zm.mk m_.heaps u.2 m_.at_)
  else
   some m_)
def uN (k : Nat) (t_ : zm) (x : zd) (o : zd) : Option (Int × zm) :=
 (yE t_.heaps x).bind fun e =>
 (bif e.2 != 0 then
  some (e.2,t_)
 else
  (yE t_.heaps o).bind fun j =>
  (bif j.2 != 0 then
   some (j.2,t_)
  else
   (bif zd.eq x o then
    some (25,t_)
   else
    (bif e.1.kind != j.1.kind then
     some (24,t_)
    else
     (uO k t_ o).bind fun t =>
     (xY (t.length : Int) t o.At o.Gen x.At x.Gen k 0 t_).bind fun s =>
     (wh s.heaps o).bind fun u =>
     some (u.2.1,zm.mk u.2.2 s.items s.at_)))))
def rA (k : Nat) (a_ : za) (r : Int) (s : Int) : Option (Int × za) :=
 (vB k a_ r s).bind fun t_ =>
 some (t_.1,t_.2)
def te (k : Nat) (a_ : za) (r : Int) (s : Int) : Option (Int × za) :=
 (bif r == s then
  some (r,a_)
 else
  (wH k a_ r).bind fun t_ =>
  (wH k t_.2 s).bind fun e =>
  (mApp t_.1 e.1).bind fun l =>
  (vG k e.2 l).bind fun j =>
  some (j.1,j.2))
def qW (k : Nat) (a_ : za) (r : Int) (s : Int) : Option (Int × za) :=
 (bif r == s then
  some (r,a_)
 else
  (wH k a_ r).bind fun t_ =>
  (wH k t_.2 s).bind fun e =>
  (mApp t_.1 e.1).bind fun l =>
  (vG k e.2 l).bind fun j =>
  some (j.1,j.2))
def fB (a_ : za) (r : Int) (s : Int) : Option (Int) :=
 none
def nW (a_ : za) (r : Int) (s : Int) : Option (Int) :=
 none
def oN (k : Nat) (e : Int) (a_ : za) (r : Int) (s : Int) : Option (Int × za) :=
 (bif e == 1 then
  (rA k a_ r s).bind fun t_ =>
  some (t_.1,t_.2)
 else
  (bif e == 2 then
   (te k a_ r s).bind fun j =>
   some (j.1,j.2)
  else
   (bif e == 3 then
    (qW k a_ r s).bind fun t =>
    some (t.1,t.2)
   else
    (bif e == 4 then
     (fB a_ r s).bind fun u =>
     some (u,a_)
    else
     (bif e == 5 then
      (nW a_ r s).bind fun x =>
      some (x,a_)
     else
      some (r,a_))))))
def tQ (k : Nat) (q : zq) (u : zd) (o : zd) : Option (zO × zq) :=
 (xp q.t_ u).bind fun t_ =>
 (xp q.t_ o).bind fun j =>
 (uN k q.t_ u o).bind fun e =>
 (bif e.1 != 0 then
  (vR e.1).bind fun x =>
  some (x,zq.mk q.items q.a_ e.2 q.entries q.serial)
 else
  (oN k t_.1 q.a_ t_.2.1 j.2.1).bind fun t =>
  (xC e.2 u t.1 (w64 (t_.2.2.1 + j.2.2.1))).bind fun y =>
  some (zO.mk 0 (zd.mk 0 0) (zd.mk 0 0) (zG.mk 0 0) (w64 (t_.2.2.1 + j.2.2.1)),zq.mk q.items t.2 y.2 q.entries q.serial))
def qb (q : zq) (e : zd) : Option (zO) :=
 none
def yg (k : Nat) (q : zq) (c_ : yk) : Option (zO × zq) :=
 (tA q.a_).bind fun t_ =>
 (tE q.a_.m_).bind fun e =>
 (bif c_.Op == 1 then
  (uP q.t_ c_.Kind).bind fun j =>
  some (zO.mk j.2.1 j.1 (zd.mk 0 0) (zG.mk 0 0) 0,zq.mk q.items (za.mk q.a_.l q.a_.never q.a_.free e) j.2.2 q.entries q.serial)
 else
  (bif c_.Op == 2 then
   (uK k (zq.mk q.items (za.mk q.a_.l q.a_.never q.a_.free e) q.t_ q.entries q.serial) c_).bind fun x =>
   some (x.1,x.2)
  else
   (bif c_.Op == 3 then
    (vF k (zq.mk q.items (za.mk q.a_.l q.a_.never q.a_.free e) q.t_ q.entries q.serial) c_.Heap false).bind fun y =>
    some (y.1,y.2)
   else
    (bif c_.Op == 4 then
     (vF k (zq.mk q.items (za.mk q.a_.l q.a_.never q.a_.free e) q.t_ q.entries q.serial) c_.Heap true).bind fun z =>
     some (z.1,z.2)
    else
     (bif c_.Op == 5 then
      (vZ k (zq.mk q.items (za.mk q.a_.l q.a_.never q.a_.free e) q.t_ q.entries q.serial) c_).bind fun A =>
      some (A.1,A.2)
     else
      (bif c_.Op == 6 then
       (uL k (zq.mk q.items (za.mk q.a_.l q.a_.never q.a_.free e) q.t_ q.entries q.serial) c_.Item).bind fun B =>
       some (B.1,B.2)
      else
       (bif c_.Op == 7 then
        (tQ k (zq.mk q.items (za.mk q.a_.l q.a_.never q.a_.free e) q.t_ q.entries q.serial) c_.Heap c_.Other).bind fun D =>
        some (D.1,D.2)
       else
        (bif c_.Op == 8 then
         (xp q.t_ c_.Heap).bind fun F =>
         some (zO.mk F.2.2.2 (zd.mk 0 0) (zd.mk 0 0) (zG.mk 0 0) F.2.2.1,zq.mk q.items (za.mk q.a_.l q.a_.never q.a_.free e) q.t_ q.entries q.serial)
        else
         (bif c_.Op == 9 then
          (qb (zq.mk q.items (za.mk q.a_.l q.a_.never q.a_.free e) q.t_ q.entries q.serial) c_.Heap).bind fun t =>
          some (t,zq.mk q.items (za.mk q.a_.l q.a_.never q.a_.free e) q.t_ q.entries q.serial)
         else
          (vR 12).bind fun u =>
          some (u,zq.mk q.items (za.mk q.a_.l q.a_.never q.a_.free e) q.t_ q.entries q.serial))))))))))
def tX (k : Nat) (j : Int) (most : Int) : Option ((Option zb) × Int) :=
 (tB j).bind fun t_ =>
 (bif !t_ then
  some ((none : Option zb),24)
 else
  (ru k j most).bind fun t =>
  (bif !t.2 then
   some ((none : Option zb),1)
  else
   (ea most).bind fun x =>
   (uT x.1
    ((oL most).bind fun A =>
    (oD).bind fun B =>
    (wP (yk.mk 1 j (zd.mk 0 0) (zd.mk 0 0) (zd.mk 0 0) 0)).bind fun D =>
    (wP (yk.mk 1 j (zd.mk 0 0) (zd.mk 0 0) (zd.mk 0 0) 0)).bind fun F =>
    none)
    (fun m_ =>
    (oL most).bind fun y =>
    (oD).bind fun z =>
    (yg k m_ (yk.mk 1 j (zd.mk 0 0) (zd.mk 0 0) (zd.mk 0 0) 0)).bind fun u =>
    (yg k u.2 (yk.mk 1 j (zd.mk 0 0) (zd.mk 0 0) (zd.mk 0 0) 0)).bind fun e =>
    some (some (zb.mk j most e.2 u.1.Heap e.1.Heap y ([] : List (zd × Int)) z t.1 0 0),0)))))
def xq (room : Int) : Option (zf) :=
 (bV zk (if (if 4096 < room then 4096 else room) > 1 then (if 4096 < room then 4096 else room) else 1)).bind fun m_ =>
 some (zf.mk m_)
def yi (e : Int) (x1 : Int) : Nat -> Int -> zh -> Option (zh)
 | 0,_,_ => none
 | m + 1,x,m_ =>
  (bif decide (x < x1) then
   (xq e).bind fun t_ =>
   (mApp m_.l ([t_] : List zf)).bind fun l =>
   yi e x1 m (w64 (x + 1)) (zh.mk l)
  else
   some m_)
def xj (k : Nat) (boxes : Int) (room : Int) : Option (zh) :=
 (yi room (if (if 4 < boxes then 4 else boxes) > 1 then (if 4 < boxes then 4 else boxes) else 1) k 0 (zh.mk ([] : List zf))).bind fun s =>
 some s
def ta (k : Nat) (t : Int) (e : Int) (boxes : Int) (room : Int) : Option ((Option zi) × Int) :=
 (tX k t e).bind fun t_ =>
 (uT t_.1
  ((bif t_.2 != 0 then
   some ((none : Option zi),t_.2)
  else
   (xj k boxes room).bind fun u =>
   none))
  (fun m_ =>
  (bif t_.2 != 0 then
   some ((none : Option zi),t_.2)
  else
   (xj k boxes room).bind fun j =>
   some (some (zi.mk m_ j),0))))
def xz (b : zf) (v_ : zk) : Option (Bool × zf) :=
 (bif MCh.room b.c_ then
  some (true,zf.mk (MCh.push b.c_ v_))
 else
  some (false,b))
def xu (d : zh) (box : Int) (v_ : zk) : Option (Int × zh) :=
 ((bif decide (box < 0) then
  some true
 else
  some (decide (box >= (d.l.length : Int))))).bind fun s =>
 (bif s then
  some (30,d)
 else
  (mIdx d.l box).bind fun x =>
  (xz x v_).bind fun t_ =>
  (bif !t_.1 then
   some (13,zh.mk (mSet d.l box t_.2))
  else
   some (0,zh.mk (mSet d.l box t_.2))))
def yw (s : zi) (box : Int) (c_ : zk) : Option (Int × zi) :=
 (xu s.desk box c_).bind fun t_ =>
 some (t_.1,zi.mk s.d t_.2)
def yY (b : zf) : Option (zk × Bool × zf) :=
 (match MCh.buf b.c_ with
 | [] =>
  some (zk.mk 0 0 (zd.mk 0 0) 0 0,false,b)
 | u :: r1 =>
  some (u,true,zf.mk (MCh.rest b.c_ r1)))
def zI (x1 : Int) : Nat -> Int -> zh -> Option ((zk × Int × Bool × zh) ⊕ (zh))
 | 0,_,_ => none
 | m + 1,x,m_ =>
  (bif decide (x < x1) then
   (mIdx m_.l x).bind fun x2 =>
   (yY x2).bind fun t_ =>
   (bif t_.2.1 then
    some (.inl (t_.1,x,true,zh.mk (mSet m_.l x t_.2.2)))
   else
    zI x1 m (w64 (x + 1)) (zh.mk (mSet m_.l x t_.2.2)))
  else
   some (.inr m_))
def yU (k : Nat) (d : zh) : Option (zk × Int × Bool × zh) :=
 (zI (d.l.length : Int) k 0 d).bind fun s =>
 match s with
 | .inl e => some e
 | .inr s1 =>
  some (zk.mk 0 0 (zd.mk 0 0) 0 0,0,false,s1)
def qa (m_ : zF) : Option (Int) :=
 some m_.steps
def rf (q : zq) : Option (Int) :=
 (tA q.a_).bind fun t_ =>
 (qa q.a_.m_).bind fun e =>
 some e
def yX (e : Int) : Option (zr) :=
 some (zr.mk e (zd.mk 0 0) 0 0 0)
def xT (p : zg) : Option (Int) :=
 some (w64 ((p.l.length : Int) - (p.free.length : Int)))
def uD (t_ : zp) : Option (Int) :=
 (xT t_.p).bind fun e =>
 some e
def vi (p : zg) : Option (Int) :=
 some p.most
def yt (p : zg) (v_ : zB) : Option (zd × Bool × zg) :=
 ((bif decide (w64 ((p.free.length : Int) - 1) >= 0) then
  (mIdx p.free (w64 ((p.free.length : Int) - 1))).bind fun x =>
  (mCut p.free 0 (w64 ((p.free.length : Int) - 1))).bind fun l =>
  some (.inr (x,zg.mk p.most p.l l))
 else
  (bif decide ((p.l.length : Int) >= p.most) then
   some (.inl (zd.mk 0 0,false,p))
  else
   (mApp p.l ([zt.mk 0 false (zB.mk 0 0 0 (zd.mk 0 0))] : List zt)).bind fun e =>
   some (.inr ((p.l.length : Int),zg.mk p.most e p.free)))) : Option ((zd × Bool × zg) ⊕ (Int × zg))).bind fun s =>
 match s with
 | .inl j => some j
 | .inr s1 =>
  (mIdx s1.2.l s1.1).bind fun x1 =>
  some (zd.mk s1.1 (w64 (x1.gen + 1)),true,zg.mk s1.2.most (mSet (mSet (mSet s1.2.l s1.1 (zt.mk (w64 (x1.gen + 1)) x1.taken x1.v_)) s1.1 (zt.mk (w64 (x1.gen + 1)) true x1.v_)) s1.1 (zt.mk (w64 (x1.gen + 1)) true v_)) s1.2.free)
def rK (t_ : zp) (j : zB) : Option (zd × Int × zp) :=
 (qo zd.eq j.Item (zd.mk 0 0) t_.by_).bind fun x =>
 (xT t_.p).bind fun t =>
 (vi t_.p).bind fun u =>
 (bif t == u then
  some (zd.mk 0 0,13,t_)
 else
  (bif x.2 then
   some (zd.mk 0 0,1,t_)
  else
   (yt t_.p j).bind fun e =>
   some (e.1,0,zp.mk ((zp.mk e.2.2 t_.by_).p) (mPut zd.eq j.Item e.1 ((zp.mk e.2.2 t_.by_).by_)))))
def sx (j : zB) : Option (zr) :=
 some (zr.mk 0 (zd.mk 0 0) j.Time j.Data 0)
def xJ (k : Nat) (d : zb) (c_ : zk) : Option (zr × zb) :=
 (uD d.t_).bind fun t_ =>
 (bif decide (t_ >= d.most) then
  (yX 13).bind fun u =>
  some (u,d)
 else
  (mIdx ([d.heaps0,d.heaps1] : List zd) c_.Queue).bind fun x =>
  (yg k d.q (yk.mk 2 0 x (zd.mk 0 0) (zd.mk 0 0) c_.Time)).bind fun e =>
  (rK ((zb.mk d.kind d.most e.2 d.heaps0 d.heaps1 d.t_ d.when d.clock d.budget d.last d.top).t_) (zB.mk c_.Queue c_.Time c_.Data e.1.Item)).bind fun j =>
  (sx (zB.mk c_.Queue c_.Time c_.Data e.1.Item)).bind fun t =>
  some (zr.mk t.Why j.1 t.Time t.Data t.N,zb.mk ((zb.mk ((zb.mk d.kind d.most e.2 d.heaps0 d.heaps1 d.t_ d.when d.clock d.budget d.last d.top).kind) ((zb.mk d.kind d.most e.2 d.heaps0 d.heaps1 d.t_ d.when d.clock d.budget d.last d.top).most) ((zb.mk d.kind d.most e.2 d.heaps0 d.heaps1 d.t_ d.when d.clock d.budget d.last d.top).q) ((zb.mk d.kind d.most e.2 d.heaps0 d.heaps1 d.t_ d.when d.clock d.budget d.last d.top).heaps0) ((zb.mk d.kind d.most e.2 d.heaps0 d.heaps1 d.t_ d.when d.clock d.budget d.last d.top).heaps1) j.2.2 ((zb.mk d.kind d.most e.2 d.heaps0 d.heaps1 d.t_ d.when d.clock d.budget d.last d.top).when) ((zb.mk d.kind d.most e.2 d.heaps0 d.heaps1 d.t_ d.when d.clock d.budget d.last d.top).clock) ((zb.mk d.kind d.most e.2 d.heaps0 d.heaps1 d.t_ d.when d.clock d.budget d.last d.top).budget) ((zb.mk d.kind d.most e.2 d.heaps0 d.heaps1 d.t_ d.when d.clock d.budget d.last d.top).last) ((zb.mk d.kind d.most e.2 d.heaps0 d.heaps1 d.t_ d.when d.clock d.budget d.last d.top).top)).kind) ((zb.mk ((zb.mk d.kind d.most e.2 d.heaps0 d.heaps1 d.t_ d.when d.clock d.budget d.last d.top).kind) ((zb.mk d.kind d.most e.2 d.heaps0 d.heaps1 d.t_ d.when d.clock d.budget d.last d.top).most) ((zb.mk d.kind d.most e.2 d.heaps0 d.heaps1 d.t_ d.when d.clock d.budget d.last d.top).q) ((zb.mk d.kind d.most e.2 d.heaps0 d.heaps1 d.t_ d.when d.clock d.budget d.last d.top).heaps0) ((zb.mk d.kind d.most e.2 d.heaps0 d.heaps1 d.t_ d.when d.clock d.budget d.last d.top).heaps1) j.2.2 ((zb.mk d.kind d.most e.2 d.heaps0 d.heaps1 d.t_ d.when d.clock d.budget d.last d.top).when) ((zb.mk d.kind d.most e.2 d.heaps0 d.heaps1 d.t_ d.when d.clock d.budget d.last d.top).clock) ((zb.mk d.kind d.most e.2 d.heaps0 d.heaps1 d.t_ d.when d.clock d.budget d.last d.top).budget) ((zb.mk d.kind d.most e.2 d.heaps0 d.heaps1 d.t_ d.when d.clock d.budget d.last d.top).last) ((zb.mk d.kind d.most e.2 d.heaps0 d.heaps1 d.t_ d.when d.clock d.budget d.last d.top).top)).most) ((zb.mk ((zb.mk d.kind d.most e.2 d.heaps0 d.heaps1 d.t_ d.when d.clock d.budget d.last d.top).kind) ((zb.mk d.kind d.most e.2 d.heaps0 d.heaps1 d.t_ d.when d.clock d.budget d.last d.top).most) ((zb.mk d.kind d.most e.2 d.heaps0 d.heaps1 d.t_ d.when d.clock d.budget d.last d.top).q) ((zb.mk d.kind d.most e.2 d.heaps0 d.heaps1 d.t_ d.when d.clock d.budget d.last d.top).heaps0) ((zb.mk d.kind d.most e.2 d.heaps0 d.heaps1 d.t_ d.when d.clock d.budget d.last d.top).heaps1) j.2.2 ((zb.mk d.kind d.most e.2 d.heaps0 d.heaps1 d.t_ d.when d.clock d.budget d.last d.top).when) ((zb.mk d.kind d.most e.2 d.heaps0 d.heaps1 d.t_ d.when d.clock d.budget d.last d.top).clock) ((zb.mk d.kind d.most e.2 d.heaps0 d.heaps1 d.t_ d.when d.clock d.budget d.last d.top).budget) ((zb.mk d.kind d.most e.2 d.heaps0 d.heaps1 d.t_ d.when d.clock d.budget d.last d.top).last) ((zb.mk d.kind d.most e.2 d.heaps0 d.heaps1 d.t_ d.when d.clock d.budget d.last d.top).top)).q) ((zb.mk ((zb.mk d.kind d.most e.2 d.heaps0 d.heaps1 d.t_ d.when d.clock d.budget d.last d.top).kind) ((zb.mk d.kind d.most e.2 d.heaps0 d.heaps1 d.t_ d.when d.clock d.budget d.last d.top).most) ((zb.mk d.kind d.most e.2 d.heaps0 d.heaps1 d.t_ d.when d.clock d.budget d.last d.top).q) ((zb.mk d.kind d.most e.2 d.heaps0 d.heaps1 d.t_ d.when d.clock d.budget d.last d.top).heaps0) ((zb.mk d.kind d.most e.2 d.heaps0 d.heaps1 d.t_ d.when d.clock d.budget d.last d.top).heaps1) j.2.2 ((zb.mk d.kind d.most e.2 d.heaps0 d.heaps1 d.t_ d.when d.clock d.budget d.last d.top).when) ((zb.mk d.kind d.most e.2 d.heaps0 d.heaps1 d.t_ d.when d.clock d.budget d.last d.top).clock) ((zb.mk d.kind d.most e.2 d.heaps0 d.heaps1 d.t_ d.when d.clock d.budget d.last d.top).budget) ((zb.mk d.kind d.most e.2 d.heaps0 d.heaps1 d.t_ d.when d.clock d.budget d.last d.top).last) ((zb.mk d.kind d.most e.2 d.heaps0 d.heaps1 d.t_ d.when d.clock d.budget d.last d.top).top)).heaps0) ((zb.mk ((zb.mk d.kind d.most e.2 d.heaps0 d.heaps1 d.t_ d.when d.clock d.budget d.last d.top).kind) ((zb.mk d.kind d.most e.2 d.heaps0 d.heaps1 d.t_ d.when d.clock d.budget d.last d.top).most) ((zb.mk d.kind d.most e.2 d.heaps0 d.heaps1 d.t_ d.when d.clock d.budget d.last d.top).q) ((zb.mk d.kind d.most e.2 d.heaps0 d.heaps1 d.t_ d.when d.clock d.budget d.last d.top).heaps0) ((zb.mk d.kind d.most e.2 d.heaps0 d.heaps1 d.t_ d.when d.clock d.budget d.last d.top).heaps1) j.2.2 ((zb.mk d.kind d.most e.2 d.heaps0 d.heaps1 d.t_ d.when d.clock d.budget d.last d.top).when) ((zb.mk d.kind d.most e.2 d.heaps0 d.heaps1 d.t_ d.when d.clock d.budget d.last d.top).clock) ((zb.mk d.kind d.most e.2 d.heaps0 d.heaps1 d.t_ d.when d.clock d.budget d.last d.top).budget) ((zb.mk d.kind d.most e.2 d.heaps0 d.heaps1 d.t_ d.when d.clock d.budget d.last d.top).last) ((zb.mk d.kind d.most e.2 d.heaps0 d.heaps1 d.t_ d.when d.clock d.budget d.last d.top).top)).heaps1) ((zb.mk ((zb.mk d.kind d.most e.2 d.heaps0 d.heaps1 d.t_ d.when d.clock d.budget d.last d.top).kind) ((zb.mk d.kind d.most e.2 d.heaps0 d.heaps1 d.t_ d.when d.clock d.budget d.last d.top).most) ((zb.mk d.kind d.most e.2 d.heaps0 d.heaps1 d.t_ d.when d.clock d.budget d.last d.top).q) ((zb.mk d.kind d.most e.2 d.heaps0 d.heaps1 d.t_ d.when d.clock d.budget d.last d.top).heaps0) ((zb.mk d.kind d.most e.2 d.heaps0 d.heaps1 d.t_ d.when d.clock d.budget d.last d.top).heaps1) j.2.2 ((zb.mk d.kind d.most e.2 d.heaps0 d.heaps1 d.t_ d.when d.clock d.budget d.last d.top).when) ((zb.mk d.kind d.most e.2 d.heaps0 d.heaps1 d.t_ d.when d.clock d.budget d.last d.top).clock) ((zb.mk d.kind d.most e.2 d.heaps0 d.heaps1 d.t_ d.when d.clock d.budget d.last d.top).budget) ((zb.mk d.kind d.most e.2 d.heaps0 d.heaps1 d.t_ d.when d.clock d.budget d.last d.top).last) ((zb.mk d.kind d.most e.2 d.heaps0 d.heaps1 d.t_ d.when d.clock d.budget d.last d.top).top)).t_) (mPut zd.eq j.1 e.1.Entry.Serial ((zb.mk ((zb.mk d.kind d.most e.2 d.heaps0 d.heaps1 d.t_ d.when d.clock d.budget d.last d.top).kind) ((zb.mk d.kind d.most e.2 d.heaps0 d.heaps1 d.t_ d.when d.clock d.budget d.last d.top).most) ((zb.mk d.kind d.most e.2 d.heaps0 d.heaps1 d.t_ d.when d.clock d.budget d.last d.top).q) ((zb.mk d.kind d.most e.2 d.heaps0 d.heaps1 d.t_ d.when d.clock d.budget d.last d.top).heaps0) ((zb.mk d.kind d.most e.2 d.heaps0 d.heaps1 d.t_ d.when d.clock d.budget d.last d.top).heaps1) j.2.2 ((zb.mk d.kind d.most e.2 d.heaps0 d.heaps1 d.t_ d.when d.clock d.budget d.last d.top).when) ((zb.mk d.kind d.most e.2 d.heaps0 d.heaps1 d.t_ d.when d.clock d.budget d.last d.top).clock) ((zb.mk d.kind d.most e.2 d.heaps0 d.heaps1 d.t_ d.when d.clock d.budget d.last d.top).budget) ((zb.mk d.kind d.most e.2 d.heaps0 d.heaps1 d.t_ d.when d.clock d.budget d.last d.top).last) ((zb.mk d.kind d.most e.2 d.heaps0 d.heaps1 d.t_ d.when d.clock d.budget d.last d.top).top)).when)) ((zb.mk ((zb.mk d.kind d.most e.2 d.heaps0 d.heaps1 d.t_ d.when d.clock d.budget d.last d.top).kind) ((zb.mk d.kind d.most e.2 d.heaps0 d.heaps1 d.t_ d.when d.clock d.budget d.last d.top).most) ((zb.mk d.kind d.most e.2 d.heaps0 d.heaps1 d.t_ d.when d.clock d.budget d.last d.top).q) ((zb.mk d.kind d.most e.2 d.heaps0 d.heaps1 d.t_ d.when d.clock d.budget d.last d.top).heaps0) ((zb.mk d.kind d.most e.2 d.heaps0 d.heaps1 d.t_ d.when d.clock d.budget d.last d.top).heaps1) j.2.2 ((zb.mk d.kind d.most e.2 d.heaps0 d.heaps1 d.t_ d.when d.clock d.budget d.last d.top).when) ((zb.mk d.kind d.most e.2 d.heaps0 d.heaps1 d.t_ d.when d.clock d.budget d.last d.top).clock) ((zb.mk d.kind d.most e.2 d.heaps0 d.heaps1 d.t_ d.when d.clock d.budget d.last d.top).budget) ((zb.mk d.kind d.most e.2 d.heaps0 d.heaps1 d.t_ d.when d.clock d.budget d.last d.top).last) ((zb.mk d.kind d.most e.2 d.heaps0 d.heaps1 d.t_ d.when d.clock d.budget d.last d.top).top)).clock) ((zb.mk ((zb.mk d.kind d.most e.2 d.heaps0 d.heaps1 d.t_ d.when d.clock d.budget d.last d.top).kind) ((zb.mk d.kind d.most e.2 d.heaps0 d.heaps1 d.t_ d.when d.clock d.budget d.last d.top).most) ((zb.mk d.kind d.most e.2 d.heaps0 d.heaps1 d.t_ d.when d.clock d.budget d.last d.top).q) ((zb.mk d.kind d.most e.2 d.heaps0 d.heaps1 d.t_ d.when d.clock d.budget d.last d.top).heaps0) ((zb.mk d.kind d.most e.2 d.heaps0 d.heaps1 d.t_ d.when d.clock d.budget d.last d.top).heaps1) j.2.2 ((zb.mk d.kind d.most e.2 d.heaps0 d.heaps1 d.t_ d.when d.clock d.budget d.last d.top).when) ((zb.mk d.kind d.most e.2 d.heaps0 d.heaps1 d.t_ d.when d.clock d.budget d.last d.top).clock) ((zb.mk d.kind d.most e.2 d.heaps0 d.heaps1 d.t_ d.when d.clock d.budget d.last d.top).budget) ((zb.mk d.kind d.most e.2 d.heaps0 d.heaps1 d.t_ d.when d.clock d.budget d.last d.top).last) ((zb.mk d.kind d.most e.2 d.heaps0 d.heaps1 d.t_ d.when d.clock d.budget d.last d.top).top)).budget) ((zb.mk ((zb.mk d.kind d.most e.2 d.heaps0 d.heaps1 d.t_ d.when d.clock d.budget d.last d.top).kind) ((zb.mk d.kind d.most e.2 d.heaps0 d.heaps1 d.t_ d.when d.clock d.budget d.last d.top).most) ((zb.mk d.kind d.most e.2 d.heaps0 d.heaps1 d.t_ d.when d.clock d.budget d.last d.top).q) ((zb.mk d.kind d.most e.2 d.heaps0 d.heaps1 d.t_ d.when d.clock d.budget d.last d.top).heaps0) ((zb.mk d.kind d.most e.2 d.heaps0 d.heaps1 d.t_ d.when d.clock d.budget d.last d.top).heaps1) j.2.2 ((zb.mk d.kind d.most e.2 d.heaps0 d.heaps1 d.t_ d.when d.clock d.budget d.last d.top).when) ((zb.mk d.kind d.most e.2 d.heaps0 d.heaps1 d.t_ d.when d.clock d.budget d.last d.top).clock) ((zb.mk d.kind d.most e.2 d.heaps0 d.heaps1 d.t_ d.when d.clock d.budget d.last d.top).budget) ((zb.mk d.kind d.most e.2 d.heaps0 d.heaps1 d.t_ d.when d.clock d.budget d.last d.top).last) ((zb.mk d.kind d.most e.2 d.heaps0 d.heaps1 d.t_ d.when d.clock d.budget d.last d.top).top)).last) ((zb.mk ((zb.mk d.kind d.most e.2 d.heaps0 d.heaps1 d.t_ d.when d.clock d.budget d.last d.top).kind) ((zb.mk d.kind d.most e.2 d.heaps0 d.heaps1 d.t_ d.when d.clock d.budget d.last d.top).most) ((zb.mk d.kind d.most e.2 d.heaps0 d.heaps1 d.t_ d.when d.clock d.budget d.last d.top).q) ((zb.mk d.kind d.most e.2 d.heaps0 d.heaps1 d.t_ d.when d.clock d.budget d.last d.top).heaps0) ((zb.mk d.kind d.most e.2 d.heaps0 d.heaps1 d.t_ d.when d.clock d.budget d.last d.top).heaps1) j.2.2 ((zb.mk d.kind d.most e.2 d.heaps0 d.heaps1 d.t_ d.when d.clock d.budget d.last d.top).when) ((zb.mk d.kind d.most e.2 d.heaps0 d.heaps1 d.t_ d.when d.clock d.budget d.last d.top).clock) ((zb.mk d.kind d.most e.2 d.heaps0 d.heaps1 d.t_ d.when d.clock d.budget d.last d.top).budget) ((zb.mk d.kind d.most e.2 d.heaps0 d.heaps1 d.t_ d.when d.clock d.budget d.last d.top).last) ((zb.mk d.kind d.most e.2 d.heaps0 d.heaps1 d.t_ d.when d.clock d.budget d.last d.top).top)).top)))
def zS (p : zg) (r : zd) : Option ((Option Int) × Int) :=
 ((bif decide (r.At < 0) then
  some true
 else
  (bif decide (r.At >= (p.l.length : Int)) then
   some true
  else
   (bif decide (r.Gen < 1) then
    some true
   else
    (mIdx p.l r.At).bind fun x1 =>
    some (decide (r.Gen > x1.gen)))))).bind fun s =>
 (bif s then
  some ((none : Option Int),22)
 else
  (mIdx p.l r.At).bind fun x2 =>
  (bif (decide (r.Gen < x2.gen)) || (!x2.taken) then
   some ((none : Option Int),23)
  else
   some ((some r.At : Option Int),0)))
def yx (p : zg) (r : zd) : Option (zB × Int) :=
 (zS p r).bind fun t_ =>
 (uT t_.1
  ((bif t_.2 != 0 then
   some (zB.mk 0 0 0 (zd.mk 0 0),t_.2)
  else
   none))
  (fun i =>
  (mIdx p.l i).bind fun x =>
  (bif t_.2 != 0 then
   some (zB.mk 0 0 0 (zd.mk 0 0),t_.2)
  else
   some (x.v_,0))))
def uC (t_ : zp) (r : zd) : Option (zB × Int) :=
 (yx t_.p r).bind fun e =>
 some (e.1,e.2)
def xy (p : zg) (r : zd) (v_ : zB) : Option (Int × zg) :=
 (zS p r).bind fun t_ =>
 (uT t_.1
  (((bif t_.2 == 0 then
   none
  else
   some ())).bind fun s =>
  some (t_.2,p))
  (fun i =>
  (mIdx p.l i).bind fun x =>
  ((bif t_.2 == 0 then
   some (zg.mk p.most (mSet p.l i (zt.mk x.gen x.taken v_)) p.free)
  else
   some p)).bind fun s1 =>
  some (t_.2,s1)))
def tP (t_ : zp) (r : zd) (j : zB) : Option (Int × zp) :=
 (yx t_.p r).bind fun e =>
 (bif e.2 != 0 then
  some (e.2,t_)
 else
  (qo zd.eq j.Item (zd.mk 0 0) t_.by_).bind fun x =>
  ((bif x.2 then
   some (!(zd.eq x.1 r))
  else
   some false)).bind fun s =>
  (bif s then
   some (1,t_)
  else
   (xy t_.p r j).bind fun t =>
   some (t.1,zp.mk t.2 (mPut zd.eq j.Item r (mDel zd.eq e.1.Item t_.by_)))))
def xP (k : Nat) (d : zb) (c_ : zk) : Option (zr × zb) :=
 (uC d.t_ c_.Job).bind fun t_ =>
 (bif t_.2 != 0 then
  (yX t_.2).bind fun e =>
  some (e,d)
 else
  (bif decide (c_.Time > t_.1.Time) then
   (yX 26).bind fun j =>
   some (j,d)
  else
   (yg k d.q (yk.mk 5 0 (zd.mk 0 0) (zd.mk 0 0) t_.1.Item c_.Time)).bind fun t =>
   (tP d.t_ c_.Job (zB.mk t_.1.Queue c_.Time t_.1.Data t_.1.Item)).bind fun u =>
   (sx (zB.mk t_.1.Queue c_.Time t_.1.Data t_.1.Item)).bind fun x =>
   some (x,zb.mk d.kind d.most t.2 d.heaps0 d.heaps1 u.2 d.when d.clock d.budget d.last d.top)))
def zU (p : zg) (r : zd) : Option (zB × Int × zg) :=
 (zS p r).bind fun t_ =>
 (uT t_.1
  ((bif t_.2 != 0 then
   some (zB.mk 0 0 0 (zd.mk 0 0),t_.2,p)
  else
   none))
  (fun i =>
  (mIdx p.l i).bind fun x =>
  (bif t_.2 != 0 then
   some (zB.mk 0 0 0 (zd.mk 0 0),t_.2,p)
  else
   (mApp p.free ([r.At] : List Int)).bind fun l =>
   some (x.v_,0,zg.mk p.most (mSet (mSet p.l i (zt.mk x.gen false x.v_)) i (zt.mk x.gen false (zB.mk 0 0 0 (zd.mk 0 0)))) l))))
def tm (t_ : zp) (r : zd) : Option (zB × Int × zp) :=
 (zU t_.p r).bind fun e =>
 ((bif e.2.1 == 0 then
  some (zp.mk ((zp.mk e.2.2 t_.by_).p) (mDel zd.eq e.1.Item ((zp.mk e.2.2 t_.by_).by_)))
 else
  some (zp.mk e.2.2 t_.by_))).bind fun s =>
 some (e.1,e.2.1,s)
def xi (d : zb) (r : zd) : Option (zr × zb) :=
 (tm d.t_ r).bind fun t_ =>
 (bif t_.2.1 != 0 then
  (yX t_.2.1).bind fun e =>
  some (e,zb.mk d.kind d.most d.q d.heaps0 d.heaps1 t_.2.2 d.when d.clock d.budget d.last d.top)
 else
  (sx t_.1).bind fun j =>
  some (j,zb.mk ((zb.mk d.kind d.most d.q d.heaps0 d.heaps1 t_.2.2 d.when d.clock d.budget d.last d.top).kind) ((zb.mk d.kind d.most d.q d.heaps0 d.heaps1 t_.2.2 d.when d.clock d.budget d.last d.top).most) ((zb.mk d.kind d.most d.q d.heaps0 d.heaps1 t_.2.2 d.when d.clock d.budget d.last d.top).q) ((zb.mk d.kind d.most d.q d.heaps0 d.heaps1 t_.2.2 d.when d.clock d.budget d.last d.top).heaps0) ((zb.mk d.kind d.most d.q d.heaps0 d.heaps1 t_.2.2 d.when d.clock d.budget d.last d.top).heaps1) ((zb.mk d.kind d.most d.q d.heaps0 d.heaps1 t_.2.2 d.when d.clock d.budget d.last d.top).t_) (mDel zd.eq r ((zb.mk d.kind d.most d.q d.heaps0 d.heaps1 t_.2.2 d.when d.clock d.budget d.last d.top).when)) ((zb.mk d.kind d.most d.q d.heaps0 d.heaps1 t_.2.2 d.when d.clock d.budget d.last d.top).clock) ((zb.mk d.kind d.most d.q d.heaps0 d.heaps1 t_.2.2 d.when d.clock d.budget d.last d.top).budget) ((zb.mk d.kind d.most d.q d.heaps0 d.heaps1 t_.2.2 d.when d.clock d.budget d.last d.top).last) ((zb.mk d.kind d.most d.q d.heaps0 d.heaps1 t_.2.2 d.when d.clock d.budget d.last d.top).top)))
def xO (k : Nat) (d : zb) (r : zd) : Option (zr × zb) :=
 (uC d.t_ r).bind fun t_ =>
 ((bif t_.2 == 0 then
  (yg k d.q (yk.mk 6 0 (zd.mk 0 0) (zd.mk 0 0) t_.1.Item 0)).bind fun j =>
  some (zb.mk d.kind d.most j.2 d.heaps0 d.heaps1 d.t_ d.when d.clock d.budget d.last d.top)
 else
  some d)).bind fun s =>
 (xi s r).bind fun e =>
 some (e.1,e.2)
def rH (c_ : zP) (by_ : Int) : Option (Int × zP) :=
 (bif decide (by_ < 0) then
  some (1,c_)
 else
  (uj c_.now by_).bind fun t_ =>
  some (0,zP.mk t_))
def uc (c_ : zP) : Option (Int) :=
 some c_.now
def sP (c_ : zP) (at_ : Int) : Option (Bool) :=
 some (decide (at_ <= c_.now))
def qj (t_ : zp) (item : zd) : Option (zd × Bool) :=
 (qo zd.eq item (zd.mk 0 0) t_.by_).bind fun x =>
 some (x.1,x.2)
def wA (k : Nat) (d : zb) (queue : Int) : Option (zr × zb) :=
 (mIdx ([d.heaps0,d.heaps1] : List zd) queue).bind fun x =>
 (yg k d.q (yk.mk 3 0 x (zd.mk 0 0) (zd.mk 0 0) 0)).bind fun t_ =>
 ((bif t_.1.Why != 0 then
  some (true,zb.mk d.kind d.most t_.2 d.heaps0 d.heaps1 d.t_ d.when d.clock d.budget d.last d.top)
 else
  (sP ((zb.mk d.kind d.most t_.2 d.heaps0 d.heaps1 d.t_ d.when d.clock d.budget d.last d.top).clock) t_.1.Entry.Key).bind fun u =>
  some (!u,zb.mk ((zb.mk d.kind d.most t_.2 d.heaps0 d.heaps1 d.t_ d.when d.clock d.budget d.last d.top).kind) ((zb.mk d.kind d.most t_.2 d.heaps0 d.heaps1 d.t_ d.when d.clock d.budget d.last d.top).most) ((zb.mk d.kind d.most t_.2 d.heaps0 d.heaps1 d.t_ d.when d.clock d.budget d.last d.top).q) ((zb.mk d.kind d.most t_.2 d.heaps0 d.heaps1 d.t_ d.when d.clock d.budget d.last d.top).heaps0) ((zb.mk d.kind d.most t_.2 d.heaps0 d.heaps1 d.t_ d.when d.clock d.budget d.last d.top).heaps1) ((zb.mk d.kind d.most t_.2 d.heaps0 d.heaps1 d.t_ d.when d.clock d.budget d.last d.top).t_) ((zb.mk d.kind d.most t_.2 d.heaps0 d.heaps1 d.t_ d.when d.clock d.budget d.last d.top).when) ((zb.mk d.kind d.most t_.2 d.heaps0 d.heaps1 d.t_ d.when d.clock d.budget d.last d.top).clock) ((zb.mk d.kind d.most t_.2 d.heaps0 d.heaps1 d.t_ d.when d.clock d.budget d.last d.top).budget) ((zb.mk d.kind d.most t_.2 d.heaps0 d.heaps1 d.t_ d.when d.clock d.budget d.last d.top).last) ((zb.mk d.kind d.most t_.2 d.heaps0 d.heaps1 d.t_ d.when d.clock d.budget d.last d.top).top)))).bind fun s =>
 (bif s.1 then
  (yX 28).bind fun y =>
  some (y,s.2)
 else
  (yg k s.2.q (yk.mk 4 0 x (zd.mk 0 0) (zd.mk 0 0) 0)).bind fun j =>
  (qj s.2.t_ j.1.Item).bind fun t =>
  (xi (zb.mk s.2.kind s.2.most j.2 s.2.heaps0 s.2.heaps1 s.2.t_ s.2.when s.2.clock s.2.budget s.2.last s.2.top) t.1).bind fun e =>
  some (zr.mk e.1.Why t.1 e.1.Time e.1.Data e.1.N,e.2))
def yZ (x1 : Int) (m_ : zg) : Nat -> (List zd) -> Int -> Option ((List zd))
 | 0,_,_ => none
 | m + 1,out,x =>
  (bif decide (x < x1) then
   ((mIdx m_.l x).bind fun x2 =>
   (bif x2.taken then
    (mApp out ([zd.mk x x2.gen] : List zd)).bind fun l =>
    some l
   else
    some out)).bind fun s1 =>
   yZ x1 m_ m s1 (w64 (x + 1))
  else
   some out)
def xS (k : Nat) (p : zg) : Option ((List zd)) :=
 (yZ (p.l.length : Int) p k ([] : List zd) 0).bind fun s =>
 some s
def wC (e : Int) (t : Int) (x1 : Int) (l : List zd) : Nat -> Int -> Int -> zp -> Option (Int × zp)
 | 0,_,_,_ => none
 | m + 1,n,x,m_ =>
  (bif decide (x < x1) then
   ((mIdx l x).bind fun x2 =>
   (yx m_.p x2).bind fun j =>
   (bif j.1.Queue == e then
    (xy m_.p x2 (zB.mk t j.1.Time j.1.Data j.1.Item)).bind fun u =>
    some (w64 (n + 1),zp.mk u.2 m_.by_)
   else
    some (n,m_))).bind fun s1 =>
   wC e t x1 l m s1.1 (w64 (x + 1)) s1.2
  else
   some (n,m_))
def sU (k : Nat) (t_ : zp) (from_ : Int) (to : Int) : Option (Int × zp) :=
 (xS k t_.p).bind fun e =>
 (wC from_ to (e.length : Int) e k 0 0 t_).bind fun s =>
 some (s.1,s.2)
def we (k : Nat) (d : zb) : Option (zr × zb) :=
 (yg k d.q (yk.mk 7 0 d.heaps0 d.heaps1 (zd.mk 0 0) 0)).bind fun t_ =>
 (yg k t_.2 (yk.mk 1 d.kind (zd.mk 0 0) (zd.mk 0 0) (zd.mk 0 0) 0)).bind fun e =>
 (sU k d.t_ 1 0).bind fun j =>
 some (zr.mk 0 (zd.mk 0 0) 0 0 j.1,zb.mk d.kind d.most e.2 d.heaps0 e.1.Heap j.2 d.when d.clock d.budget d.last d.top)
def xX (e : Int) (x1 : Int) (m_ : zp) (l : List zd) : Nat -> Int -> Int -> Option (Int)
 | 0,_,_ => none
 | m + 1,n,x =>
  (bif decide (x < x1) then
   ((mIdx l x).bind fun x2 =>
   (yx m_.p x2).bind fun j =>
   (bif j.1.Queue == e then
    some (w64 (n + 1))
   else
    some n)).bind fun s1 =>
   xX e x1 m_ l m s1 (w64 (x + 1))
  else
   some n)
def uJ (k : Nat) (t_ : zp) (queue : Int) : Option (Int) :=
 (xS k t_.p).bind fun e =>
 (xX queue (e.length : Int) t_ e k 0 0).bind fun s =>
 some s
def wJ (k : Nat) (d : zb) (c_ : zk) : Option (zr × zb) :=
 (((bif c_.Kind == 1 then
  some (c_.Kind == 1)
 else
  (bif c_.Kind == 5 then
   some (c_.Kind == 5)
  else
   (bif c_.Kind == 6 then
    some (c_.Kind == 6)
   else
    some (c_.Kind == 7))))).bind fun s2 =>
 (bif s2 then
  (bif !((decide (c_.Queue >= 0)) && (decide (c_.Queue < 2))) then
   (yX 1).bind fun t_ =>
   some (.inl (t_,d))
  else
   some (.inr ()))
 else
  some (.inr ())) : Option ((zr × zb) ⊕ (Unit))).bind fun s =>
 match s with
 | .inl I => some I
 | .inr s1 =>
  (bif c_.Kind == 1 then
   (xJ k d c_).bind fun j =>
   some (j.1,j.2)
  else
   (bif c_.Kind == 2 then
    (xP k d c_).bind fun x =>
    some (x.1,x.2)
   else
    (bif c_.Kind == 3 then
     (xO k d c_.Job).bind fun y =>
     some (y.1,y.2)
    else
     (bif c_.Kind == 4 then
      (rH d.clock c_.Time).bind fun e =>
      (bif e.1 != 0 then
       (yX e.1).bind fun B =>
       some (B,zb.mk d.kind d.most d.q d.heaps0 d.heaps1 d.t_ d.when e.2 d.budget d.last d.top)
      else
       (uc e.2).bind fun D =>
       some (zr.mk 0 (zd.mk 0 0) D 0 0,zb.mk d.kind d.most d.q d.heaps0 d.heaps1 d.t_ d.when e.2 d.budget d.last d.top))
     else
      (bif c_.Kind == 5 then
       (wA k d c_.Queue).bind fun z =>
       some (z.1,z.2)
      else
       (bif c_.Kind == 6 then
        (bif c_.Queue == 0 then
         (yX 25).bind fun F =>
         some (F,d)
        else
         (we k d).bind fun A =>
         some (A.1,A.2))
       else
        (bif c_.Kind == 7 then
         (uJ k d.t_ c_.Queue).bind fun t =>
         some (zr.mk 0 (zd.mk 0 0) 0 0 t,d)
        else
         (yX 12).bind fun u =>
         some (u,d))))))))
def yP (k : Nat) (d : zb) (c_ : zk) : Option (zr × zb) :=
 (rf d.q).bind fun t_ =>
 (wJ k d c_).bind fun e =>
 (rf e.2.q).bind fun j =>
 (bif decide (w64 (j - t_) > e.2.budget) then
  (yX 29).bind fun t =>
  some (t,zb.mk e.2.kind e.2.most e.2.q e.2.heaps0 e.2.heaps1 e.2.t_ e.2.when e.2.clock e.2.budget (w64 (j - t_)) (if w64 (j - t_) > e.2.top then w64 (j - t_) else e.2.top))
 else
  some (e.1,zb.mk e.2.kind e.2.most e.2.q e.2.heaps0 e.2.heaps1 e.2.t_ e.2.when e.2.clock e.2.budget (w64 (j - t_)) (if w64 (j - t_) > e.2.top then w64 (j - t_) else e.2.top)))
def ye (k : Nat) (s : zi) : Option (zr × zk × Bool × zi) :=
 (yU k s.desk).bind fun t_ =>
 (bif !t_.2.2.1 then
  some (zr.mk 0 (zd.mk 0 0) 0 0 0,zk.mk 0 0 (zd.mk 0 0) 0 0,false,zi.mk s.d t_.2.2.2)
 else
  (yP k s.d t_.1).bind fun e =>
  some (e.1,t_.1,true,zi.mk e.2 t_.2.2.2))
def zD (s : zi) : Option (Unit) :=
 some ()
def yJ (d : zb) : Option (Int) :=
 (uc d.clock).bind fun t_ =>
 some t_
def yD (d : zb) : Option (Int) :=
 some d.last
def um (b : yf) (c_ : zk) (r : zr) : Option (zr × yf) :=
 (zD b.s).bind fun t_ =>
 (yJ b.s.d).bind fun e =>
 (yD b.s.d).bind fun j =>
 (mApp b.l ([zM.mk c_ r e j] : List zM)).bind fun l =>
 some (r,yf.mk b.s l)
def xo (k : Nat) (s : zi) (c_ : zk) : Option (zr × zi) :=
 (yP k s.d c_).bind fun t_ =>
 some (t_.1,zi.mk t_.2 s.desk)
def wW : Nat -> Int -> Int -> yf -> Option (Int × yf)
 | 0,_,_,_ => none
 | m + 1,n,x,m_ =>
  (bif decide (x < 4097) then
   (xo m m_.s (zk.mk 5 0 (zd.mk 0 0) 0 0)).bind fun t_ =>
   (um (yf.mk t_.2 m_.l) (zk.mk 5 0 (zd.mk 0 0) 0 0) t_.1).bind fun e =>
   (bif e.1.Why != 0 then
    some (n,e.2)
   else
    wW m (w64 (n + 1)) (w64 (x + 1)) e.2)
  else
   some (n,m_))
def qE (k : Nat) (b : yf) : Option (Int × yf) :=
 (wW k 0 0 b).bind fun s =>
 some (s.1,s.2)
def pX (k : Nat) (b : yf) (x : wI) : Option (zr × yf) :=
 (bif x.Kind == 1 then
  (yw b.s x.Box x.Command).bind fun t_ =>
  some (zr.mk t_.1 (zd.mk 0 0) 0 0 0,yf.mk t_.2 b.l)
 else
  (bif x.Kind == 2 then
   (ye k b.s).bind fun e =>
   (bif !e.2.2.1 then
    some (zr.mk 27 (zd.mk 0 0) 0 0 0,yf.mk e.2.2.2 b.l)
   else
    (um (yf.mk e.2.2.2 b.l) e.2.1 e.1).bind fun j =>
    some (j.1,j.2))
  else
   (bif x.Kind == 3 then
    (xo k b.s x.Command).bind fun t =>
    (um (yf.mk t.2 b.l) x.Command t.1).bind fun u =>
    some (u.1,u.2)
   else
    (bif x.Kind == 4 then
     (qE k b).bind fun y =>
     some (zr.mk 0 (zd.mk 0 0) 0 0 y.1,y.2)
    else
     some (zr.mk 12 (zd.mk 0 0) 0 0 0,b)))))
def rl (places : Int) : Option (zn) :=
 some (zn.mk (if 0 > (if 65536 < places then 65536 else places) then 0 else (if 65536 < places then 65536 else places)) ([] : List Int) ([] : List Bool) ([] : List Int) ([] : List Int))
def vP (e : Int) : Option (zc) :=
 (rl e).bind fun t_ =>
 some (zc.mk e 0 0 t_ ([] : List zE))
def xn (p : zn) (v_ : Int) : Option (zd × Bool × zn) :=
 ((bif decide ((p.Back.length : Int) > 0) then
  (mIdx p.Back (w64 ((p.Back.length : Int) - 1))).bind fun x =>
  (mCut p.Back 0 (w64 ((p.Back.length : Int) - 1))).bind fun l =>
  some (.inr (x,zn.mk p.Most p.Gens p.In p.V l))
 else
  (bif decide ((p.Gens.length : Int) >= p.Most) then
   some (.inl (zd.mk 0 0,false,p))
  else
   (mApp p.Gens ([0] : List Int)).bind fun e =>
   (mApp p.In ([false] : List Bool)).bind fun j =>
   (mApp p.V ([0] : List Int)).bind fun t =>
   some (.inr ((p.Gens.length : Int),zn.mk p.Most e j t p.Back)))) : Option ((zd × Bool × zn) ⊕ (Int × zn))).bind fun s =>
 match s with
 | .inl u => some u
 | .inr s1 =>
  (mIdx s1.2.Gens s1.1).bind fun x1 =>
  (mIdx s1.2.Gens s1.1).bind fun x2 =>
  (mIdx s1.2.In s1.1).bind fun x3 =>
  (mIdx s1.2.V s1.1).bind fun x4 =>
  (mIdx (mSet s1.2.Gens s1.1 (w64 (x1 + 1))) s1.1).bind fun x5 =>
  some (zd.mk s1.1 x5,true,zn.mk s1.2.Most (mSet s1.2.Gens s1.1 (w64 (x1 + 1))) (mSet s1.2.In s1.1 true) (mSet s1.2.V s1.1 v_) s1.2.Back)
def tv (a_ : zG) (b : zG) : Option (Bool) :=
 some ((decide (a_.Key < b.Key)) || ((a_.Key == b.Key) && (decide (a_.Serial < b.Serial))))
def yn (e : Int) (m_ : zc) : Nat -> Int -> Int -> Option (Int)
 | 0,_,_ => none
 | m + 1,j,i =>
  (bif decide (i < (m_.L.length : Int)) then
   (((mIdx m_.L i).bind fun x2 =>
   (bif x2.Queue == e then
    (bif decide (j < 0) then
     some true
    else
     (mIdx m_.L i).bind fun x3 =>
     (mIdx m_.L j).bind fun x4 =>
     (tv x3.E x4.E).bind fun t_ =>
     some t_)
   else
    some false)).bind fun s2 =>
   (bif s2 then
    some i
   else
    some j)).bind fun s1 =>
   yn e m_ m s1 (w64 (i + 1))
  else
   some j)
def xE (k : Nat) (d : zc) (queue : Int) : Option (Int) :=
 (yn queue d k (-1) 0).bind fun s =>
 some s
def wz (p : zn) (r : zd) : Option (Int) :=
 ((bif decide (r.At < 0) then
  some true
 else
  (bif decide (r.At >= (p.Gens.length : Int)) then
   some true
  else
   (bif decide (r.Gen < 1) then
    some true
   else
    (mIdx p.Gens r.At).bind fun x1 =>
    some (decide (r.Gen > x1)))))).bind fun s =>
 (bif s then
  some 22
 else
  ((mIdx p.Gens r.At).bind fun x4 =>
  (bif decide (r.Gen < x4) then
   some true
  else
   (mIdx p.In r.At).bind fun x5 =>
   some (!x5))).bind fun s1 =>
  (bif s1 then
   some 23
  else
   some 0))
def vg (p : zn) (r : zd) : Option (Int × Int × zn) :=
 (wz p r).bind fun t_ =>
 (bif t_ != 0 then
  some (0,t_,p)
 else
  (mIdx p.In r.At).bind fun x =>
  (mApp ([] : List Int) p.Back).bind fun l =>
  (mApp l ([r.At] : List Int)).bind fun e =>
  (mIdx ((zn.mk p.Most p.Gens (mSet p.In r.At false) p.V e).V) r.At).bind fun x1 =>
  some (x1,0,(zn.mk p.Most p.Gens (mSet p.In r.At false) p.V e)))
def xm (d : zc) (e : Int) : Option (zE × zc) :=
 (mIdx d.L e).bind fun x =>
 (mCut d.L 0 e).bind fun l =>
 (mCut d.L (w64 (e + 1)) (d.L.length : Int)).bind fun j =>
 (mApp ([] : List zE) l).bind fun t =>
 (mApp t j).bind fun u =>
 (vg d.Pool x.R).bind fun t_ =>
 some (x,zc.mk d.Most d.Now d.Next t_.2.2 u)
def yy (e : Int) (m_ : zc) : Nat -> Int -> Int -> Option (Int)
 | 0,_,_ => none
 | m + 1,n,i =>
  (bif decide (i < (m_.L.length : Int)) then
   ((mIdx m_.L i).bind fun x =>
   (bif x.Queue == e then
    some (w64 (n + 1))
   else
    some n)).bind fun s1 =>
   yy e m_ m s1 (w64 (i + 1))
  else
   some n)
def xD (k : Nat) (d : zc) (queue : Int) : Option (Int) :=
 (yy queue d k 0 0).bind fun s =>
 some s
def yz : Nat -> Int -> Int -> zc -> Option (Int × zc)
 | 0,_,_,_ => none
 | m + 1,n,i,m_ =>
  (bif decide (i < (m_.L.length : Int)) then
   ((mIdx m_.L i).bind fun x2 =>
   (bif x2.Queue == 1 then
    (mIdx m_.L i).bind fun x3 =>
    some (w64 (n + 1),zc.mk m_.Most m_.Now m_.Next m_.Pool (mSet m_.L i (zE.mk 0 x3.Data x3.E x3.R)))
   else
    some (n,m_))).bind fun s2 =>
   yz m s2.1 (w64 (i + 1)) s2.2
  else
   some (n,m_))
def zX (k : Nat) (d : zc) (c_ : zk) : Option (zr × zc) :=
 (bif c_.Kind == 1 then
  (xn d.Pool 0).bind fun t_ =>
  (bif !t_.2.1 then
   some (zr.mk 13 (zd.mk 0 0) 0 0 0,zc.mk d.Most d.Now d.Next t_.2.2 d.L)
  else
   (mApp ([] : List zE) d.L).bind fun l =>
   (mApp l ([zE.mk c_.Queue c_.Data (zG.mk c_.Time d.Next) t_.1] : List zE)).bind fun t =>
   some (zr.mk 0 t_.1 c_.Time c_.Data 0,zc.mk ((zc.mk d.Most d.Now d.Next t_.2.2 t).Most) ((zc.mk d.Most d.Now d.Next t_.2.2 t).Now) (w64 (((zc.mk d.Most d.Now d.Next t_.2.2 t).Next) + 1)) ((zc.mk d.Most d.Now d.Next t_.2.2 t).Pool) ((zc.mk d.Most d.Now d.Next t_.2.2 t).L)))
 else
  (bif c_.Kind == 5 then
   (xE k d c_.Queue).bind fun j =>
   ((bif decide (j < 0) then
    some true
   else
    (mIdx d.L j).bind fun x1 =>
    some (decide (x1.E.Key > d.Now)))).bind fun s =>
   (bif s then
    some (zr.mk 28 (zd.mk 0 0) 0 0 0,d)
   else
    (xm d j).bind fun e =>
    some (zr.mk 0 e.1.R e.1.E.Key e.1.Data 0,e.2))
  else
   (bif c_.Kind == 6 then
    (bif c_.Queue == 0 then
     some (zr.mk 25 (zd.mk 0 0) 0 0 0,d)
    else
     (yz k 0 0 d).bind fun s1 =>
     some (zr.mk 0 (zd.mk 0 0) 0 0 s1.1,s1.2))
   else
    (xD k d c_.Queue).bind fun u =>
    some (zr.mk 0 (zd.mk 0 0) 0 0 u,d))))
def yH (v_ : Int) (e : Int) (m_ : zc) : Nat -> Int -> Option ((Int × zc) ⊕ (Unit))
 | 0,_ => none
 | m + 1,i =>
  (bif decide (i < (m_.L.length : Int)) then
   (mIdx m_.L i).bind fun x =>
   (bif zd.eq x.R (zd.mk v_ e) then
    some (.inl (i,m_))
   else
    yH v_ e m_ m (w64 (i + 1)))
  else
   some (.inr ()))
def xR (k : Nat) (d : zc) (r : zd) : Option (Int × zc) :=
 (yH r.At r.Gen d k 0).bind fun s =>
 match s with
 | .inl e => some e
 | .inr s1 =>
  some ((-1),d)
def tu (a_ : Int) (b : Int) : Option (Int) :=
 (bif (decide (a_ > 0)) && (decide (b > w64 (9223372036854775807 - a_))) then
  some 9223372036854775807
 else
  (bif (decide (a_ < 0)) && (decide (b < w64 ((-9223372036854775808) - a_))) then
   some (-9223372036854775808)
  else
   some (w64 (a_ + b))))
def zK (k : Nat) (d : zc) (c_ : zk) : Option (zr × zc) :=
 (((bif c_.Kind == 1 then
  some (c_.Kind == 1)
 else
  (bif c_.Kind == 5 then
   some (c_.Kind == 5)
  else
   (bif c_.Kind == 6 then
    some (c_.Kind == 6)
   else
    some (c_.Kind == 7))))).bind fun s2 =>
 (bif s2 then
  (bif (c_.Queue != 0) && (c_.Queue != 1) then
   some (.inl (zr.mk 1 (zd.mk 0 0) 0 0 0,d))
  else
   (zX k d c_).bind fun t_ =>
   some (.inl (t_.1,t_.2)))
 else
  ((bif c_.Kind == 2 then
   some (c_.Kind == 2)
  else
   some (c_.Kind == 3))).bind fun z =>
  (bif z then
   (wz d.Pool c_.Job).bind fun t =>
   (bif t != 0 then
    some (.inl (zr.mk t (zd.mk 0 0) 0 0 0,d))
   else
    (xR k d c_.Job).bind fun e =>
    (bif c_.Kind == 3 then
     (xm e.2 e.1).bind fun j =>
     some (.inl (zr.mk 0 (zd.mk 0 0) j.1.E.Key j.1.Data 0,j.2))
    else
     (mIdx e.2.L e.1).bind fun x =>
     (bif decide (c_.Time > x.E.Key) then
      some (.inl (zr.mk 26 (zd.mk 0 0) 0 0 0,e.2))
     else
      (mIdx e.2.L e.1).bind fun x1 =>
      (mIdx (mSet e.2.L e.1 (zE.mk x1.Queue x1.Data (zG.mk c_.Time x1.E.Serial) x1.R)) e.1).bind fun x2 =>
      some (.inl (zr.mk 0 (zd.mk 0 0) c_.Time x2.Data 0,zc.mk e.2.Most e.2.Now e.2.Next e.2.Pool (mSet e.2.L e.1 (zE.mk x1.Queue x1.Data (zG.mk c_.Time x1.E.Serial) x1.R)))))))
  else
   (bif c_.Kind == 4 then
    (bif decide (c_.Time < 0) then
     some (.inl (zr.mk 1 (zd.mk 0 0) 0 0 0,d))
    else
     (tu d.Now c_.Time).bind fun u =>
     some (.inl (zr.mk 0 (zd.mk 0 0) u 0 0,zc.mk d.Most u d.Next d.Pool d.L)))
   else
    some (.inr ())))) : Option ((zr × zc) ⊕ (Unit))).bind fun s =>
 match s with
 | .inl y => some y
 | .inr s1 =>
  some (zr.mk 12 (zd.mk 0 0) 0 0 0,d)
def wD (b : zf) : Option (Int) :=
 some (b.c_.buf.length : Int)
def yq (x1 : Int) (m_ : zh) : Nat -> Int -> Int -> Option (Int)
 | 0,_,_ => none
 | m + 1,n,x =>
  (bif decide (x < x1) then
   (mIdx m_.l x).bind fun x2 =>
   (wD x2).bind fun t_ =>
   yq x1 m_ m (w64 (n + t_)) (w64 (x + 1))
  else
   some n)
def wg (k : Nat) (d : zh) : Option (Int) :=
 (yq (d.l.length : Int) d k 0 0).bind fun s =>
 some s
def xG (k : Nat) (s : zi) : Option (Int) :=
 (wg k s.desk).bind fun t_ =>
 some t_
def yI (d : zb) : Option (Int) :=
 (uD d.t_).bind fun t_ =>
 some t_
def yT (d : zb) : Option (Int) :=
 some d.budget
def xf (D : Int) (j : Int) (i1 : Int) (v_ : Int) (x : Int) (y : Int) (z : Int) (A : Int) (B : Int) (F : List zd) (l4 : List (List zk)) (t : zc) (u : zi) (I : List zw) : Nat -> Int -> Option (Int)
 | 0,_ => none
 | m + 1,e =>
  ((bif decide (e < D) then
   (mIdx l4 e).bind fun x3 =>
   some ((x3.length : Int) == 0)
  else
   some false)).bind fun J =>
  (bif J then
   xf D j i1 v_ x y z A B F l4 t u I m (w64 (e + 1))
  else
   some e)
def yj (B : Int) (t : Int) (i3 : Int) (x : List zd) (u : List (List zk)) (z : zc) (A : zi) (y : List zw) : Nat -> Int -> Int -> Option (Int)
 | 0,_,_ => none
 | m + 1,e,j =>
  (bif decide (j < B) then
   (mIdx u j).bind fun x10 =>
   yj B t i3 x u z A y m (w64 (e + (x10.length : Int))) (w64 (j + 1))
  else
   some e)
def yS (n : Int) (most : Int) (J : List zw) : Nat -> (List zd) -> Int -> (List (List zk)) -> zc -> zi -> Option ((Bool) ⊕ (zc × zi))
 | 0,_,_,_,_,_ => none
 | m + 1,told,i,z,B,F =>
  (bif (decide (i < (J.length : Int))) && (decide (i < 90)) then
   ((mIdx J i).bind fun x =>
   (wV x.D told).bind fun t =>
   (mIdx J i).bind fun x1 =>
   ((bif x1.Kind == 4 then
    some (x1.Kind == 4)
   else
    (bif x1.Kind == 5 then
     some (x1.Kind == 5)
    else
     (bif x1.Kind == 6 then
      some (x1.Kind == 6)
     else
      some (x1.Kind == 7))))).bind fun s5 =>
   (bif s5 then
    (xf n most i t.Kind t.Queue t.Job.At t.Job.Gen t.Time t.Data told z B F J m 0).bind fun s6 =>
    (ye m F).bind fun j =>
    ((bif !(j.2.2.1 == (decide (s6 < n))) then
     some true
    else
     (bif !j.2.2.1 then
      (bif !(zr.eq j.1 (zr.mk 0 (zd.mk 0 0) 0 0 0)) then
       some true
      else
       some (!(zk.eq j.2.1 (zk.mk 0 0 (zd.mk 0 0) 0 0))))
     else
      some false))).bind fun s8 =>
    (bif s8 then
     some (.inl false)
    else
     (bif !j.2.2.1 then
      some (.inr (told,z,B,j.2.2.2))
     else
      (mIdx z s6).bind fun x4 =>
      (mIdx x4 0).bind fun x5 =>
      (mCut x4 1 (x4.length : Int)).bind fun l6 =>
      (mApp ([] : List zk) l6).bind fun l7 =>
      (bif !(zk.eq j.2.1 x5) then
       some (.inl false)
      else
       (zK m B x5).bind fun I =>
       (bif !(zr.eq j.1 I.1) then
        some (.inl false)
       else
        ((bif (x5.Kind == 1) && (j.1.Why == 0) then
         (mApp told ([j.1.Job] : List zd)).bind fun l8 =>
         some l8
        else
         some told)).bind fun s9 =>
        (yj n most i s9 (mSet z s6 l7) I.2 j.2.2.2 J m 0 0).bind fun b2 =>
        ((xG m j.2.2.2).bind fun W =>
        (bif W != b2 then
         some true
        else
         (zD j.2.2.2).bind fun c0 =>
         (yJ j.2.2.2.d).bind fun X =>
         (bif X != I.2.Now then
          some true
         else
          (zD j.2.2.2).bind fun c1 =>
          (yI j.2.2.2.d).bind fun Y =>
          (bif Y != (I.2.L.length : Int) then
           some true
          else
           (zD j.2.2.2).bind fun c2 =>
           (yD j.2.2.2.d).bind fun Z =>
           (zD j.2.2.2).bind fun c3 =>
           (yT j.2.2.2.d).bind fun a0 =>
           some (decide (Z > a0)))))).bind fun b3 =>
        (bif b3 then
         some (.inl false)
        else
         some (.inr (s9,mSet z s6 l7,I.2,j.2.2.2)))))))
   else
    ((bif x1.Kind == 8 then
     (xo m F t).bind fun u =>
     (zK m B t).bind fun y =>
     some (.inr (y.1.Why,y.1.Job.At,y.1.Job.Gen,y.1.Time,y.1.Data,y.1.N,u.1.Why,u.1.Job.At,u.1.Job.Gen,u.1.Time,u.1.Data,u.1.N,t.Kind,t.Queue,t.Job.At,t.Job.Gen,t.Time,t.Data,z,y.2,u.2))
    else
     (mIdx J i).bind fun x7 =>
     (yC x7.Box (-1) 4).bind fun A =>
     ((bif (decide (A < 0)) || (decide (A >= n)) then
      some 30
     else
      (mIdx z A).bind fun x8 =>
      (bif decide ((x8.length : Int) >= most) then
       some 13
      else
       some 0))).bind fun S =>
     (yw F A t).bind fun O =>
     (bif O.1 != S then
      some (.inl false)
     else
      ((bif S == 0 then
       (mIdx z A).bind fun x9 =>
       (mApp ([] : List zk) x9).bind fun a8 =>
       (mApp a8 ([t] : List zk)).bind fun a9 =>
       some (mSet z A a9)
      else
       some z)).bind fun b5 =>
      some (.inr (0,0,0,0,0,0,0,0,0,0,0,0,0,0,0,0,0,0,b5,B,O.2)))) : Option ((Bool) ⊕ (Int × Int × Int × Int × Int × Int × Int × Int × Int × Int × Int × Int × Int × Int × Int × Int × Int × Int × (List (List zk)) × zc × zi))).bind fun b4 =>
    match b4 with
    | .inl r_ => some (.inl r_)
    | .inr e =>
     (bif !(zr.eq (zr.mk e.2.2.2.2.2.2.1 (zd.mk e.2.2.2.2.2.2.2.1 e.2.2.2.2.2.2.2.2.1) e.2.2.2.2.2.2.2.2.2.1 e.2.2.2.2.2.2.2.2.2.2.1 e.2.2.2.2.2.2.2.2.2.2.2.1) (zr.mk e.1 (zd.mk e.2.1 e.2.2.1) e.2.2.2.1 e.2.2.2.2.1 e.2.2.2.2.2.1)) then
      some (.inl false)
     else
      ((bif (e.2.2.2.2.2.2.2.2.2.2.2.2.1 == 1) && (e.2.2.2.2.2.2.1 == 0) then
       (mApp told ([zd.mk e.2.2.2.2.2.2.2.1 e.2.2.2.2.2.2.2.2.1] : List zd)).bind fun b0 =>
       some b0
      else
       some told)).bind fun U =>
      (yj n most i U e.2.2.2.2.2.2.2.2.2.2.2.2.2.2.2.2.2.2.1 e.2.2.2.2.2.2.2.2.2.2.2.2.2.2.2.2.2.2.2.1 e.2.2.2.2.2.2.2.2.2.2.2.2.2.2.2.2.2.2.2.2 J m 0 0).bind fun b6 =>
      ((xG m e.2.2.2.2.2.2.2.2.2.2.2.2.2.2.2.2.2.2.2.2).bind fun a1 =>
      (bif a1 != b6 then
       some true
      else
       (zD e.2.2.2.2.2.2.2.2.2.2.2.2.2.2.2.2.2.2.2.2).bind fun c4 =>
       (yJ e.2.2.2.2.2.2.2.2.2.2.2.2.2.2.2.2.2.2.2.2.d).bind fun a2 =>
       (bif a2 != e.2.2.2.2.2.2.2.2.2.2.2.2.2.2.2.2.2.2.2.1.Now then
        some true
       else
        (zD e.2.2.2.2.2.2.2.2.2.2.2.2.2.2.2.2.2.2.2.2).bind fun c5 =>
        (yI e.2.2.2.2.2.2.2.2.2.2.2.2.2.2.2.2.2.2.2.2.d).bind fun a3 =>
        (bif a3 != (e.2.2.2.2.2.2.2.2.2.2.2.2.2.2.2.2.2.2.2.1.L.length : Int) then
         some true
        else
         (zD e.2.2.2.2.2.2.2.2.2.2.2.2.2.2.2.2.2.2.2.2).bind fun c6 =>
         (yD e.2.2.2.2.2.2.2.2.2.2.2.2.2.2.2.2.2.2.2.2.d).bind fun a4 =>
         (zD e.2.2.2.2.2.2.2.2.2.2.2.2.2.2.2.2.2.2.2.2).bind fun c7 =>
         (yT e.2.2.2.2.2.2.2.2.2.2.2.2.2.2.2.2.2.2.2.2.d).bind fun a5 =>
         some (decide (a4 > a5)))))).bind fun b7 =>
      (bif b7 then
       some (.inl false)
      else
       some (.inr (U,e.2.2.2.2.2.2.2.2.2.2.2.2.2.2.2.2.2.2.1,e.2.2.2.2.2.2.2.2.2.2.2.2.2.2.2.2.2.2.2.1,e.2.2.2.2.2.2.2.2.2.2.2.2.2.2.2.2.2.2.2.2))))) : Option ((Bool) ⊕ ((List zd) × (List (List zk)) × zc × zi))).bind fun s3 =>
   match s3 with
   | .inl r_ => some (.inl r_)
   | .inr s4 =>
    yS n most J m s4.1 (w64 (i + 1)) s4.2.1 s4.2.2.1 s4.2.2.2
  else
   some (.inr (B,F)))
def xI (k : Nat) (z : Int) (j : Int) (boxes : Int) (room : Int) (l : List zw) : Option (Bool) :=
 (yC z 1 3).bind fun t_ =>
 (yC j 1 20).bind fun t =>
 (yC boxes 1 4).bind fun e =>
 (yC room 1 6).bind fun u =>
 (ta k t_ t e u).bind fun x =>
 (uT x.1
  (some false)
  (fun m_ =>
  ((bif x.2 != 0 then
   some true
  else
   (zD m_).bind fun D =>
   some false)).bind fun s =>
  (bif s then
   some false
  else
   (vP t).bind fun y =>
   (mW e ([] : List zk)).bind fun A =>
   (yS e u l k ([] : List zd) 0 A y m_).bind fun s1 =>
   match s1 with
   | .inl B => some B
   | .inr s2 =>
    some true)))
def wG (k : Nat)  : Option (Bool) :=
 (ta k 3 4 2 2).bind fun t_ =>
 (uT t_.1
  ((ta k 5 4 2 2).bind fun U =>
  (uT U.1
   (some false)
   (fun Z =>
   some false)))
  (fun m_ =>
  (ta k 5 4 2 2).bind fun B =>
  (uT B.1
   (((bif t_.2 != 0 then
    some (true,m_)
   else
    (bif B.2 != 24 then
     some (true,m_)
    else
     (yw m_ 9 (zk.mk 0 0 (zd.mk 0 0) 0 0)).bind fun D =>
     (bif D.1 != 30 then
      some (true,D.2)
     else
      (yw D.2 1 (zk.mk 1 0 (zd.mk 0 0) 0 7)).bind fun F =>
      (bif F.1 != 0 then
       some (true,F.2)
      else
       (yw F.2 0 (zk.mk 7 0 (zd.mk 0 0) 0 0)).bind fun S =>
       some (S.1 != 0,S.2)))))).bind fun s =>
   (bif s.1 then
    some false
   else
    (ye k s.2).bind fun y =>
    (ye k y.2.2.2).bind fun I =>
    (ye k I.2.2.2).bind fun z =>
    ((bif y.2.2.1 then
     (bif zr.eq y.1 (zr.mk 0 (zd.mk 0 0) 0 0 0) then
      (bif y.2.1.Kind == 7 then
       (bif I.2.2.1 then
        (bif I.1.Data == 7 then
         (bif !z.2.2.1 then
          (zD z.2.2.2).bind fun a2 =>
          (zD z.2.2.2).bind fun W =>
          (yI z.2.2.2.d).bind fun J =>
          some (J == 1)
         else
          some false)
        else
         some false)
       else
        some false)
      else
       some false)
     else
      some false)
    else
     some false)).bind fun s1 =>
    some s1))
   (fun a0 =>
   ((bif t_.2 != 0 then
    some (true,m_)
   else
    (bif B.2 != 24 then
     some (true,m_)
    else
     (yw m_ 9 (zk.mk 0 0 (zd.mk 0 0) 0 0)).bind fun t =>
     (bif t.1 != 30 then
      some (true,t.2)
     else
      (yw t.2 1 (zk.mk 1 0 (zd.mk 0 0) 0 7)).bind fun u =>
      (bif u.1 != 0 then
       some (true,u.2)
      else
       (yw u.2 0 (zk.mk 7 0 (zd.mk 0 0) 0 0)).bind fun A =>
       some (A.1 != 0,A.2)))))).bind fun s2 =>
   (bif s2.1 then
    some false
   else
    (ye k s2.2).bind fun e =>
    (ye k e.2.2.2).bind fun x =>
    (ye k x.2.2.2).bind fun j =>
    ((bif e.2.2.1 then
     (bif zr.eq e.1 (zr.mk 0 (zd.mk 0 0) 0 0 0) then
      (bif e.2.1.Kind == 7 then
       (bif x.2.2.1 then
        (bif x.1.Data == 7 then
         (bif !j.2.2.1 then
          (zD j.2.2.2).bind fun X =>
          (zD j.2.2.2).bind fun Y =>
          (yI j.2.2.2.d).bind fun O =>
          some (O == 1)
         else
          some false)
        else
         some false)
       else
        some false)
      else
       some false)
     else
      some false)
    else
     some false)).bind fun s3 =>
    some s3)))))
def wF (k : Nat) (t : Int) (e : Int) (boxes : Int) (room : Int) (l : List zw) : Option (Bool) :=
 ((xI k t e boxes room l).bind fun t_ =>
 (bif t_ then
  (wG k).bind fun j =>
  some j
 else
  some false)).bind fun s =>
 some s
end
end Go.Proofs.YtcepppmiplonfaaGreat
