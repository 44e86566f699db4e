/-
  The statements TopTimes of the program.
  Text 2 of 8: of what the proof needs (a row of the program: no condition is left); put together and made narrow by a program.
-/
import Derived.Below
import Derived.Deep.Slices
import Derived.Deep.Strs
import Derived.Laws.BytesString
import Derived.Laws.Externs
import Derived.Lib.AppendZerosOnto
import Derived.Lib.Overlaps
import Derived.Lib.SmallJoins
import Derived.MapKept
import Derived.Sort.Grow
import Derived.Sort.Row
import Derived.Test.YtojpmaakhdmhmaaGreatYw1
set_option linter.unusedVariables false
set_option linter.unusedSimpArgs false
namespace Go.Th
noncomputable section
theorem St.below {w w' : World} {As : List HP} (H : St w As w') (i : Nat) (hi : As[i]? = some (Old w)) : Go.RowKit.Below w.heap.size w w' := by
 have j := H.old i hi;refine ⟨H.os,H.tape,H.output,?_,j⟩;by_cases l : w.heap.size = 0
 ·omega
 ·have := j (w.heap.size - 1) (by omega);have e : w.heap[w.heap.size - 1]? = some (w.heap[w.heap.size - 1]'(by omega)) := by simp
  rw [e] at this;have := (Array.getElem?_eq_some_iff.1 this).1;omega
theorem fP {α : Type} {p : Nat -> α -> Prop} : ∀ n : Nat,(∀ i,i < n -> ∃ x,p i x) -> ∃ l : List α,l.length = n /\ ∀ (i : Nat) (x : α),l[i]? = some x -> p i x
 | 0,_ => ⟨[],rfl,fun i x h => by simp at h⟩
 | n + 1,h => by
  obtain ⟨l,hl,hp⟩ := fP n fun i hi => h i (by omega)
  obtain ⟨x,u⟩ := h n (by omega);refine ⟨l ++ [x],by simp [hl],fun i y e => ?_⟩;by_cases hi : i < n
  ·rw [List.getElem?_append_left (by omega)] at e;exact hp i y e
  ·have t := (List.getElem?_eq_some_iff.1 e).1;simp [hl] at t;have j : i = n := by omega
   subst j;rw [List.getElem?_append_right (by omega)] at e;simp [hl] at e;subst e; exact u
section
variable {α H : Type} {en : TypeId × Value -> H} {P : Program} {w : World} {base : Nat} {spare : Nat -> Bool} {held : Bool} {enc : α -> List Value} {sz : Nat}
theorem aV (he : wx enc sz) (hs : 0 < sz) {a : Addr} (l : List α) (h : ∀ (j : Nat) (u : Value),(l.flatMap enc)[j]? = some u -> w.cell? (a.add j) = some u) : SlRd (Old w) enc sz (some a) l := by
 intro g F;by_cases hl : l = []
 ·exact .inl hl
 have e := yr he l;have x : 0 < l.length := by cases l with
  | nil => exact absurd rfl hl
  | cons => simp
 have hp : 0 < (l.flatMap enc).length := by rw [e]; exact Nat.mul_pos x hs
 have h0 := h 0 _ (List.getElem?_eq_getElem hp);have e0 : a.add 0 = a := by simp [Addr.add]
 rw [e0] at h0;obtain ⟨b,off,spot⟩ := a;unfold World.cell? at h0;split at h0
 ·rename_i c T fr y;split at h0
  ·cases h0
  ·rename_i B;have A : spot = none := by simpa using B
   subst A;have z : b < w.heap.size := (Array.getElem?_eq_some_iff.1 y).1;refine .inr ⟨b,off,c,T,fr,rfl,by rw [F b z]; exact y,fun i hi => ?_⟩;have t : i < (l.flatMap enc).length := by rw [e]; exact hi
   have D := h i _ (List.getElem?_eq_getElem t);rw [List.getElem?_eq_getElem t,<- D];unfold Addr.add;split
   ·rename_i I; subst I; simp [World.cell?,y]
   ·simp [World.cell?,y]
 ·cases h0
theorem ed {t e : TypeId} {fuel : Nat} {cs : List Value} {x : DataW H × List MemPlace} (ht : P.underlying t = some (.slice e)) (X : P.cellsOf e = sz) (he : wx enc sz) (hs : 0 < sz)
  (B : ∀ n cs y,DataW.trod en P w base spare held n e cs = some y -> ∃ z : α,cs = enc z) (h : DataW.trod en P w base spare held fuel t cs = some x) :
  ∃ (sb : Option Addr) (len cap : Nat) (l : List α),cs = [.slice sb len cap] /\ l.length = len /\ len <= cap /\ SlRd (Old w) enc sz sb l := by
 rcases Go.Deep.open_slice ht h with ⟨rfl,_⟩ | ⟨a,len,cap,m,n,D,Z,rfl,hb,hl,hm,O,_,Y⟩
 ·exact ⟨none,0,0,[],rfl,rfl,Nat.le_refl _,fun _ _ => .inl rfl⟩
 ·obtain ⟨l,J,hp⟩ := fP (α := α) (p := fun i z => w.cells? base (a.add (i * sz)) sz = some (enc z)) len fun i hi => by
   obtain ⟨W,h1,h2⟩ := Y i (by rw [O]; split <;> omega);obtain ⟨z,rfl⟩ := B _ _ _ h2;rw [X] at h1;exact ⟨z,h1⟩
  refine ⟨some a,len,cap,l,rfl,J,hl,aV he hs l fun j u hu => ?_⟩;have F := (List.getElem?_eq_some_iff.1 hu).1;rw [yr he] at F;have hj : j / sz < l.length := Nat.div_lt_of_lt_mul (by rw [Nat.mul_comm]; exact F);have hq : j % sz < sz := Nat.mod_lt _ hs;have S := uT he l (j / sz) (j % sz) hj hq;have U : j / sz * sz + j % sz = j := by rw [Nat.mul_comm]; exact Nat.div_add_mod j sz
  rw [U,hu] at S;have A := hp (j / sz) l[j / sz] (by simp [hj]);obtain ⟨_,_,I⟩ := World.cells?_some A;have := I (j % sz) (by exact hq);rw [<- S] at this;rw [<- this];congr 1;rw [Go.Deep.add_add,U]
theorem fq {e : TypeId} (he : P.underlying e = some (.int .i64)) : ∀ n cs y,DataW.trod en P w base spare held n e cs = some y -> ∃ z : Int,cs = ecI z := fun n cs y h => by
 obtain ⟨z,rfl,_⟩ := DataW.trod_int he h;exact ⟨z,rfl⟩
end
end
noncomputable section
theorem eh (A X R V : List Value) (h : V.length = X.length) : putAt (A ++ (X ++ R)) A.length V = A ++ (V ++ R) := by
 rw [vX _ _ _ (by simp; omega)];rw [List.take_left' rfl,aA];congr 2;have : A.length + V.length = (A ++ X).length := by simp [h]
 rw [this,<- aA,List.drop_left' rfl]
theorem qe (A X R V : List Value) (n : Nat) (hn : n = A.length) (h : V.length = X.length) : putAt (A ++ (X ++ R)) n V = A ++ (V ++ R) := by
 subst hn; exact eh A X R V h
section
variable {w0 w : World} {As : List HP} {P : Program} {n : Nat} {a : Act} {L : Env} {o : Oper} {T : TypeId}
theorem bM (H : St w0 As w) (i : Nat) {b off : Nat} {cs news : List Value} (hi : As[i]? = some (Blk b T cs)) (h : ∀ (j : Nat) (u : Value),news[j]? = some u -> cs[off + j]? = some u) : Rd w (some ⟨b,off,none⟩) news := by
 refine .inr ⟨_,rfl,fun j u hj => ?_⟩;rw [vE];exact H.cell i hi (h j u hj)
theorem OpTo.lf {b off i l e j sz : Nat} {I : Option Addr} {cs : List Value} (news : List Value) {x y : Operand} {t u : TypeId} {ti : TypeInfo} (J : yc n a L) (H : St w0 (Blk b T cs :: As) w)
  (S : o.op = .call { callee := .builtin .copy,args := #[x,y],argTypes := #[t,u] }) (X : evO L x = some (.slice (some ⟨b,off,none⟩) i l)) (Y : evO L y = some (.slice I e j))
  (ht : P.underlying t = some (.slice T)) (hi : P.info? T = some ti) (F : ti.size = sz) (W : Rd w I news) (hl : news.length = Nat.min e i * sz) (h1 : ∀ v ∈ news,v.oneCell' = true) (z : off + news.length <= cs.length) :
  OpTo P o a w fun v w' => (∃ k : Int,v = .int .i64 k) /\ St w0 (Blk b T (putAt cs off news) :: As) w' := by
 obtain ⟨dst,op,type,pos,after,guard⟩ := o;simp only at S;subst S;have O := H.one 0 rfl;have B := run_storeCells_at P b off T news 0 cs.toArray w O (by simpa using z) h1;simp only [Nat.add_zero] at B;rw [vX _ _ _ z];have hf := qf (P := P) (size := ti.size) (m := Nat.min e i) (len := e) (cap := j) W (by rw [hl,F]);have A : (Builtin.copy_ #[t,u] type #[.slice (some ⟨b,off,none⟩) i l,.slice I e j]).run P w = .ok (goInt (Nat.min e i)) (w.setRow b (cs.take off ++ news ++ cs.drop (off + news.length)).toArray) := by
  have D : Sem.run P (storeCells { block := b,off := off } news) w = Result.ok () (w.setRow b (List.take off cs ++ (news ++ List.drop (off + news.length) cs)).toArray) := by simpa using B
  simp [Builtin.copy_,xD P ht,Builtin.lenOf,si P hi,hf,D]
 refine OpTo.of_run (w' := w.setRow b (cs.take off ++ news ++ cs.drop (off + news.length)).toArray) (v := goInt (Nat.min e i)) ?_ ⟨⟨_,rfl⟩,?_⟩
 ·simp [execOp,resolve,invoke,builtin,J.eval X,J.eval Y,A]
 ·exact H.set (by simp) (by simp) (by simp) (setRow_heap w b _ _ T (0,0) O) (fun c U => setRow_other w b c _ U)
theorem OpTo.bt {sz k i j : Nat} {sb : Option Addr} (l : List Value) {x y : Operand} {t tn : TypeId} {kn : IntKind} {ti : TypeInfo} {z : Value} (hE : yc n a L) (H : St w0 As w)
  (ho : o.op = .call { callee := .builtin .append,args := #[x,y],argTypes := #[t,tn] }) (hx : evO L x = some (.slice sb i j)) (hy : evO L y = some (.int .i64 (k : Int)))
  (ht : P.underlying t = some (.slice T)) (X : P.underlying tn = some (.int kn)) (hi : P.info? T = some ti) (D : ti.size = sz) (hz : ti.zero = some z) (Y : z.cells.size = sz) (hs : 0 < sz)
  (hr : Rd w sb l) (U : l.length = i * sz) (h0 : 0 < k) (hg : j < i + k) (A : i + k <= 1073741824) (F : Nat.ble ti.bytes 131072 = true) :
  OpTo P o a w fun v w' => ∃ (r c : Nat) (Z : List Value),v = .slice (some ⟨r,0,none⟩) (i + k) c /\ i + k <= c /\ c <= maxLen /\ Z.length = (c - i) * sz /\ St w0 (Blk r T (l ++ Z) :: As) w' := by
 have u := Nat.le_of_ble_eq_true F;obtain ⟨dst,op,type,pos,after,guard⟩ := o;simp only at ho;subst ho;have W : Rd w.drew sb l := by
  rcases hr with h | ⟨xa,h1,h2⟩
  ·exact .inl h
  ·exact .inr ⟨xa,h1,by simpa using h2⟩
 have J := qf (P := P) (size := ti.size) (m := i) (len := i) (cap := j) W (by rw [U,D]);have O : k * ti.bytes <= 281474976710656 := by
  calc k * ti.bytes <= 1073741824 * 131072 := Nat.mul_le_mul (by omega) u
   _ <= 281474976710656 := by decide
 have S : Builtin.nextslicecap (i + k) j * ti.bytes <= 281474976710656 := by
  refine growslice_fits (need := i + k) (old := j) (by omega) ?_
  calc (i + k) * ti.bytes <= 1073741824 * 131072 := Nat.mul_le_mul A u
   _ <= 140737488355328 := by decide
 have B := Go.Lib.run_append_grow_zeros (P := P) w t tn type T ti z .i64 kn ht X hi hz sb i j l J k h0 (by rw [D]; exact hs) hg (by omega) O S;have a5 := grownCap_ge w (i + k) j T;have I := grownCap_le_maxLen w (i + k) j T (by unfold maxLen; omega);refine OpTo.of_run (w' := w.drew.alloc (.cells (l.toArray ++ Builtin.zeroCells z.cells k ++ Builtin.zeroCells z.cells (grownCap w (i + k) j T - (i + k))) T (0,0))) ?_
  ⟨w.heap.size,grownCap w (i + k) j T,(Builtin.zeroCells z.cells k ++ Builtin.zeroCells z.cells (grownCap w (i + k) j T - (i + k))).toList,rfl,by omega,I,?_,?_⟩
 ·simp [execOp,resolve,invoke,builtin,hE.eval hx,hE.eval hy,B]
 ·simp only [Array.length_toList,Array.size_append,size_zeroCells,Y,<- Nat.add_mul];congr 1; omega
 ·have H2 := (H.drew).alloc (.cells (l.toArray ++ Builtin.zeroCells z.cells k ++ Builtin.zeroCells z.cells (grownCap w (i + k) j T - (i + k))) T (0,0));refine H2.head fun h hh => ?_
  have e : (l ++ (Builtin.zeroCells z.cells k ++ Builtin.zeroCells z.cells (grownCap w (i + k) j T - (i + k))).toList).toArray = l.toArray ++ Builtin.zeroCells z.cells k ++ Builtin.zeroCells z.cells (grownCap w (i + k) j T - (i + k)) := by
   apply Array.ext';simp [aA]
  show h _ = _;rw [e];exact hh
theorem OpTo.hQ {g va vo la ca b off lb cb : Nat} {cv cs : Array Value} {Tv Ts : TypeId} {xs : List Operand} {fn : Func} {tS tR e : TypeId} {ti : TypeInfo} (hE : yc n a L) (H : St w0 As w) (i j : Nat)
  (hi : As[i]? = some (One va (.cells cv Tv (0,0)))) (hj : As[j]? = some (One b (.cells cs Ts (0,0)))) (hne : va ≠ b) (hcs : cs.size ≠ 0)
  (ho : callParts o.op = some (.func g,xs)) (hxs : qS L xs = some [.slice (some ⟨va,vo,none⟩) la ca,.slice (some ⟨b,off,none⟩) lb cb])
  (hf : P.funcs[g]? = some fn) (hname : (fn.name == "runtime.NumGoroutine") = false) (hb : fn.body.isNone = true) (hn : Extern.findNext fn = none) (he : Extern.find fn = some (Extern.SlicesOverlaps.overlaps #[tS, tS] #[tR]))
  (ht : P.underlying tS = some (.slice e)) (hz : P.info? e = some ti) : OpTo P o a w fun v w' => v = .bool false /\ w' = w := by
 obtain ⟨dst,op,type,pos,after,guard⟩ := o;cases op <;> simp only [callParts] at ho <;> try cases ho
 rename_i c;obtain ⟨callee,args,ats⟩ := c;cases callee <;> simp only at ho <;> try cases ho
 have h1 := H.one i hi;have h2 := H.one j hj;have hov := Go.Lib.run_overlaps_apart (P := P) w tS tR e ht ti.size (si P hz) ⟨va,vo,none⟩ ⟨b,off,none⟩ la ca lb cb hne Tv Ts cv.size cs.size (by simp [World.shape?,h1]) (by simp [World.shape?,h2]) hcs (by simp [World.frozen?,h1]) (by simp [World.frozen?,h1]);have hcall := run_callFunc_extern hf hname hb hn he #[.slice (some ⟨va,vo,none⟩) la ca,.slice (some ⟨b,off,none⟩) lb cb] w;rw [hov] at hcall;have e2 := oO hE _ _ hxs;have e3 : args.map a.eval = #[.slice (some ⟨va,vo,none⟩) la ca,.slice (some ⟨b,off,none⟩) lb cb] := by
  apply Array.ext';simpa using e2
 refine OpTo.of_run (w' := w) (v := .bool false) ?_ ⟨rfl,rfl⟩;have hfe : a.eval (.func g) = .func (.func g) #[] #[] := rfl;simp [execOp,resolve,Deferred.ofValue,hfe,invoke,e3,hcall,Result.andThen]
end
theorem St.jH {α : Type} {T : TypeId} {enc : α -> List Value} {sz : Nat} {w0 w : World} {As : List HP} {sb : Option Addr} {sc : Nat} {l : List α} (H : St w0 (Sl T enc sz sb sc l :: As) w) (he : wx enc sz) (hl : 0 < l.length) :
  ∃ (b off : Nat) (A R : List Value),sb = some ⟨b,off,none⟩ /\ A.length = off /\ l.length <= sc /\ sc <= maxLen /\ (sc - l.length) * sz <= R.length /\ St w0 (Blk b T (A ++ (l.flatMap enc ++ R)) :: As) w := by
 rcases H.kE with ⟨_,rfl,_⟩ | ⟨b,off,cs,rfl,H1,h1,h2,h3,h4⟩
 ·simp at hl
 ·have t := yr he l;have hmul : l.length * sz <= sc * sz := Nat.mul_le_mul_right _ h1;refine ⟨b,off,cs.toList.take off,cs.toList.drop (off + l.length * sz),rfl,by simp; omega,h1,h2,?_,?_⟩
  ·simp only [List.length_drop,Array.length_toList,Nat.sub_mul]; omega
  ·refine H1.head fun h hh => ?_
   have e : cs.toList.take off ++ (l.flatMap enc ++ cs.toList.drop (off + l.length * sz)) = cs.toList := by
    have j : (cs.toList.drop off).take (l.length * sz) = l.flatMap enc := by
     apply List.ext_getElem?;intro i;by_cases hi : i < l.length * sz
     ·rw [List.getElem?_take,if_pos hi,List.getElem?_drop,<- h4 i hi]; simp
     ·rw [List.getElem?_eq_none (by simp; omega),List.getElem?_eq_none (by omega)]
    rw [<- j,<- List.drop_drop,List.take_append_drop,List.take_append_drop]
   show h b = _;rw [e];have : h b = some (.cells cs T (0,0)) := hh;simpa using this
theorem St.cu {α : Type} {T : TypeId} {enc : α -> List Value} {sz : Nat} {w0 w : World} {As : List HP} {b sc : Nat} {l : List α} {A R : List Value} (H : St w0 (Blk b T (A ++ (l.flatMap enc ++ R)) :: As) w) (he : wx enc sz) (h1 : l.length <= sc) (h2 : sc <= maxLen) (h3 : (sc - l.length) * sz <= R.length) :
  St w0 (Sl T enc sz (some ⟨b,A.length,none⟩) sc l :: As) w := by
 have e := yr he l;have hmul : l.length * sz <= sc * sz := Nat.mul_le_mul_right _ h1;rw [Nat.sub_mul] at h3;refine H.head fun h hh => .inr ⟨b,A.length,_,rfl,hh,h1,h2,by simp [e]; omega,fun i hi => ?_⟩
 simp only [List.getElem?_toArray];rw [List.getElem?_append_right (by omega),Nat.add_sub_cancel_left,List.getElem?_append_left (by rw [e]; exact hi)]
end
end Go.Th
noncomputable section
namespace Go.Th
end Go.Th
end
namespace Go.Th
noncomputable section
section
variable {w0 w : World} {As : List HP} {P : Program} {n : Nat} {a : Act} {L : Env} {o : Oper} {T : TypeId}
end
end
noncomputable section
@[reducible] def catE : Env -> Env -> Env
 | [],L => L
 | p :: r,L => p :: catE r L
def dx : Env -> List Nat
 | [] => []
 | (t,_) :: r => t :: dx r
def hasK (t : Nat) : Env -> Bool
 | [] => false
 | (u,_) :: r => match Nat.beq t u with
  | true => true
  | false => hasK t r
def oh (ops : Array Oper) (new L : Env) : List Nat -> Bool
 | [] => true
 | i :: is => match ops[i]? with
  | none => oh ops new L is
  | some o => match o.dst with
   | none => oh ops new L is
   | some d => match hasK d new with
    | true => oh ops new L is
    | false => match hasK d L with
     | true => false
     | false => oh ops new L is
def segD (P : Program) (n : Nat) (ops : Array Oper) (is : List Nat) (L : Env) (e : List Value) (new : Env) : Option (Env × List Ob) :=
 match oh ops new L is with
 | false => none
 | true => ni P n ops is L e (dx new)
theorem j9 : ∀ (new L : Env) (t : Nat) (v : Value),look t (catE new L) = some v -> (look t new = some v) \/ (hasK t new = false /\ look t L = some v)
 | [],L,t,v,h => Or.inr ⟨rfl,h⟩
 | (u,x) :: r,L,t,v,h => by
  rw [catE,wT] at h;split at h
  ·subst_vars
   left
   rw [wT,if_pos rfl]; exact h
  ·rename_i e;rcases j9 r L t v h with h1 | ⟨h1,h2⟩
   ·left; rw [wT,if_neg e]; exact h1
   ·right
    refine ⟨?_,h2⟩;simp only [hasK];split
    ·rename_i i; exact absurd (Nat.eq_of_beq_eq_true i) e
    ·exact h1
theorem ly : ∀ (L : Env) (t : Nat) (v : Value),look t L = some v -> hasK t L = true
 | [],t,v,h => by cases h
 | (u,x) :: r,t,v,h => by
  simp only [look] at h;simp only [hasK];split at h
  ·rename_i e; first | rfl | rw [e]
  ·rename_i e; first | exact ly r t v h | (rw [e]; exact ly r t v h)
theorem oM {ops : Array Oper} {new L : Env} : ∀ {is : List Nat},oh ops new L is = true -> ∀ i ∈ is,∀ o d,ops[i]? = some o -> o.dst = some d -> hasK d new = true \/ hasK d L = false
 | [],_,i,hi,_,_,_,_ => by cases hi
 | j :: is,h,i,hi,o,d,e,hd => by
  simp only [oh] at h;rcases List.mem_cons.1 hi with rfl | hi
  ·rw [e] at h;simp only [hd] at h;cases h1 : hasK d new
   ·rw [h1] at h;simp only at h;cases h2 : hasK d L
    ·exact Or.inr rfl
    ·rw [h2] at h; cases h
   ·exact Or.inl rfl
  ·have l : oh ops new L is = true := by
    repeat' split at h
    all_goals first | exact h | cases h
   exact oM l i hi o d e hd
theorem kC {n : Nat} {d : Option Tmp} {v : Value} {L L1 : Env} {t : Nat} (h : setE n d v L = some L1) (hd : d ≠ some t) : look t L1 = look t L := by
 unfold setE at h;split at h
 ·cases h; rfl
 ·split at h
  ·cases h;rw [wT,if_neg (fun e => hd (by rw [e]))]
  ·cases h
theorem pS {P : Program} {n : Nat} {ops : Array Oper} {t : Nat} : ∀ (is : List Nat) (L : Env) (e : List Value) (L1 : Env) (obs : List Ob),qt P n ops is L e = some (L1,obs) -> (∀ i ∈ is,∀ o,ops[i]? = some o -> o.dst ≠ some t) -> look t L1 = look t L
 | [],L,e,L1,obs,h,_ => by simp [qt] at h; rw [h.1]
 | i :: is,L,e,L1,obs,h,hd => by
  have l : ∀ j ∈ is,∀ o,ops[j]? = some o -> o.dst ≠ some t := fun j hj => hd j (mC _ hj)
  rw [qt] at h;split at h
  ·cases h
  ·rename_i o y;have u := hd i (List.mem_cons_self ..) o y;split at h
   ·cases h
   ·split at h
    ·rename_i L2 hs;rw [pS is L2 e L1 obs h l,kC hs u]
    ·cases h
   ·split at h
    ·cases h
    ·split at h
     ·cases h
     ·rename_i L2 hs;split at h
      ·rename_i z x h3;cases h;rw [pS is L2 _ _ _ h3 l,kC hs u]
      ·cases h
theorem yc.cat {n : Nat} {a : Act} {L1 L new : Env} (h : yc n a L1) (hs : Th.sel (dx new) L1 = some new) (hk : ∀ t,hasK t new = false -> hasK t L = true -> look t L1 = look t L) : yc n a (catE new L) := by
 have h2 := sU h hs;refine ⟨h.size,h.defers,fun t v hv => ?_⟩;rcases j9 new L t v hv with h1 | ⟨h1,h3⟩
 ·exact h2.has t v h1
 ·exact h.has t v (by rw [hk t h1 (ly L t v h3)]; exact h3)
section
variable {P : Program} {f : FuncId} {k : List Item} {a : Act} {w : World} {R : Value -> World -> Prop}
theorem eF {P : Program} {n : Nat} {ops : Array Oper} {is : List Nat} {L new : Env} {j : List Value} {obs : List Ob} (he : segD P n ops is L j new = some (new,obs)) :
  ∃ L1,qt P n ops is L j = some (L1,obs) /\ ∀ a : Act,yc n a L1 -> yc n a (catE new L) := by
 unfold segD at he;split at he
 ·cases he
 ·rename_i hd;unfold ni at he;split at he
  ·cases he
  ·rename_i L1 u hs;split at he
   ·rename_i x l;cases he;refine ⟨L1,hs,fun a ha => ha.cat l fun t h1 h2 => pS is L j L1 _ hs fun i hi o y e => ?_⟩;rcases oM hd i hi o t y e with h3 | h3
    ·rw [h1] at h3; cases h3
    ·rw [h2] at h3; cases h3
   ·cases he
theorem WR.d {ops : Array Oper} {i n : Nat} {L : Env} (y : yc n a L) (j : Nat) (t : List Value) (new : Env) {obs : List Ob} (z : xJ w obs) (hk : ∀ e,yc n e (catE new L) -> WR P f ops j k e w R)
  (hj : (Nat.ble i j && Nat.ble j ops.size) = true := by rfl) (he : segD P n ops (List.range' i (j - i)) L t new = some (new,obs) := by kernel_rfl) : WR P f ops i k a w R := by
 obtain ⟨L1,hs,hn⟩ := eF he;simp only [Bool.and_eq_true] at hj;have h1 := Nat.le_of_ble_eq_true hj.1;have h2 := Nat.le_of_ble_eq_true hj.2;unfold WR;have A : List.range' i (ops.size - i) = List.range' i (j - i) ++ List.range' j (ops.size - j) := by
  have u : ops.size - i = (j - i) + (ops.size - j) := by omega
  have x : i + (j - i) = j := by omega
  rw [u,<- List.range'_append_1,x]
 rw [A];exact oP _ _ _ _ _ _ y hs z fun e l => hk e (hn e l)
theorem WR.d0 {ops : Array Oper} {i n : Nat} {L : Env} (l : yc n a L) (j : Nat) (new : Env) (hk : ∀ e,yc n e (catE new L) -> WR P f ops j k e w R)
  (hj : (Nat.ble i j && Nat.ble j ops.size) = true := by rfl) (he : segD P n ops (List.range' i (j - i)) L [] new = some (new,[]) := by kernel_rfl) : WR P f ops i k a w R := WR.d l j [] new (obs := []) trivial hk hj he
theorem WR.e {ops : Array Oper} {i n : Nat} {L : Env} (u : yc n a L) (j : List Value) (new : Env) {obs : List Ob} (x : xJ w obs) (hk : ∀ l,yc n l (catE new L) -> Runs P f k l w R)
  (hj : Nat.ble i ops.size = true := by rfl) (he : segD P n ops (List.range' i (ops.size - i)) L j new = some (new,obs) := by kernel_rfl) : WR P f ops i k a w R :=
 WR.d u ops.size j new x (fun l t => WR.done (Nat.ble_eq_true_of_le (Nat.le_refl _)) (hk l t)) (by rw [hj]; exact Nat.ble_eq_true_of_le (Nat.le_refl _)) he
theorem WR.e0 {ops : Array Oper} {i n : Nat} {L : Env} (l : yc n a L) (new : Env) (hk : ∀ j,yc n j (catE new L) -> Runs P f k j w R)
  (hj : Nat.ble i ops.size = true := by rfl) (he : segD P n ops (List.range' i (ops.size - i)) L [] new = some (new,[]) := by kernel_rfl) : WR P f ops i k a w R := WR.e l [] new (obs := []) trivial hk hj he
theorem Runs.sr {id : Nat} {ops : Array Oper} {y : Code} (h : WR P f ops 0 (.code y :: k) a w R) : Runs P f (.code (.seq (.region id ops false) y) :: k) a w R := Runs.seq (Runs.region h)
theorem WQ.d {ops : Array Oper} {dn : List Nat} {pend : List (Nat × List Ob)} {n : Nat} {L : Env} (t : yc n a L) (is : List Nat) (j : List Value) (new : Env) {obs : List Ob} (u : xJ w obs)
  (hk : ∀ i,yc n i (catE new L) -> WQ P f ops (dn ++ is) (segP P n ops is L j pend) k i w R)
  (ht : (Nat.ble (dn.length + is.length) ops.size && lQ ops is (vG dn)) = true := by kernel_rfl) (he : segD P n ops is L j new = some (new,obs) := by kernel_rfl) : WQ P f ops dn pend k a w R := by
 obtain ⟨L1,hs,hn⟩ := eF he;simp only [Bool.and_eq_true] at ht;have hle := Nat.le_of_ble_eq_true ht.1;have e : ops.size - dn.length = is.length + (ops.size - (dn ++ is).length) := by simp; omega
 unfold WQ;rw [e];intro hs';exact WP.segs hs' _ _ _ _ _ _ _ _ _ _ t (fun x => vk x dn) ht.2 hs u fun i l => hk i (hn i l) hs'
theorem WQ.d0 {ops : Array Oper} {dn : List Nat} {pend : List (Nat × List Ob)} {n : Nat} {L : Env} (i : yc n a L) (is : List Nat) (new : Env)
  (hk : ∀ e,yc n e (catE new L) -> WQ P f ops (dn ++ is) (segP P n ops is L [] pend) k e w R)
  (ht : (Nat.ble (dn.length + is.length) ops.size && lQ ops is (vG dn)) = true := by kernel_rfl) (he : segD P n ops is L [] new = some (new,[]) := by kernel_rfl) : WQ P f ops dn pend k a w R := WQ.d i is [] new (obs := []) trivial hk ht he
end
end
noncomputable section
section
variable {α H : Type} {en : TypeId × Value -> H} {P : Program} {w : World} {base : Nat} {spare : Nat -> Bool} {held : Bool} {enc : α -> List Value} {sz : Nat}
end
end
noncomputable section
section
variable {K V : Type}
def mGet (eq : K -> K -> Bool) (k : K) : List (K × V) -> Option V
 | [] => none
 | p :: m => bif eq k p.1 then some p.2 else mGet eq k m
def mPut (eq : K -> K -> Bool) (k : K) (v : V) : List (K × V) -> List (K × V)
 | [] => [(k,v)]
 | p :: m => bif eq k p.1 then (k,v) :: m else p :: mPut eq k v m
def mDel (eq : K -> K -> Bool) (k : K) : List (K × V) -> List (K × V)
 | [] => []
 | p :: m => bif eq k p.1 then m else p :: mDel eq k m
def sP (eq : K -> K -> Bool) (k : K) (z : V) (m : List (K × V)) : Option (V × Bool) := some (match mGet eq k m with
 | some v => (v,true)
 | none => (z,false))
def mAt (eq : K -> K -> Bool) (k : K) : List K -> Nat -> Option Nat
 | [],_ => none
 | a :: ks,i => bif eq k a then some i else mAt eq k ks (i + 1)
theorem fR (eq : K -> K -> Bool) (k : K) : ∀ (ks : List K) (i j : Nat),mAt eq k ks i = some j -> i <= j
 | [],i,j,h => by simp [mAt] at h
 | a :: ks,i,j,h => by
  simp only [mAt] at h;cases he : eq k a <;> simp [he] at h
  ·have := fR eq k ks (i + 1) j h; omega
  ·omega
theorem fS (eq : K -> K -> Bool) (k : K) : ∀ (m : List (K × V)) (i : Nat),
  (mAt eq k (m.map (·.1)) i = none /\ mGet eq k m = none /\ (∀ v,mPut eq k v m = m ++ [(k,v)]) /\ mDel eq k m = m) \/
  ∃ j p,mAt eq k (m.map (·.1)) i = some (i + j) /\ m[j]? = some p /\ eq k p.1 = true /\ mGet eq k m = some p.2 /\ (∀ v,mPut eq k v m = m.set j (k,v)) /\ mDel eq k m = m.eraseIdx j
 | [],i => .inl ⟨rfl,rfl,fun _ => rfl,rfl⟩
 | p :: m,i => by
  cases he : eq k p.1
  ·rcases fS eq k m (i + 1) with ⟨h1,h2,h3,h4⟩ | ⟨j,q,h1,h2,h3,h4,e,l⟩
   ·exact .inl ⟨by simp [mAt,he,h1],by simp [mGet,he,h2],fun v => by simp [mPut,he,h3],by simp [mDel,he,h4]⟩
   ·refine .inr ⟨j + 1,q,?_,by simpa using h2,h3,by simp [mGet,he,h4],fun v => by simp [mPut,he,e],by simp [mDel,he,l]⟩;simp [mAt,he,h1]; omega
  ·exact .inr ⟨0,p,by simp [mAt,he],rfl,he,by simp [mGet,he],fun v => by simp [mPut,he],by simp [mDel,he]⟩
structure sE (P : Program) (kt : TypeId) (ek : K -> Value) (eq : K -> K -> Bool) : Prop where
 check : ∀ (w : World) em k,(Instr.checkKey em 10000 kt (ek k)).run P w = .ok () w
 find : ∀ (w : World) k (es : List MapEntry) (ks : List K),es.map (·.key) = ks.map ek -> (Instr.findKey kt (ek k) es).run P w = .ok ((mAt eq k ks 0).bind fun j => (es[j]?).map fun e => (j,e.val)) w
 stays : ∀ (w : World) k,(Instr.keyThatStays (ek k) (ek k)).run P w = .ok (ek k) w
 same : ∀ a b,eq a b = true -> a = b
end
def kI (a b : Int) : Bool := a == b
theorem mH (k : Int) : ∀ (es : List MapEntry) (ks : List Int) (i : Nat),es.map (·.key) = ks.map vI -> Instr.findNow (.int .i64) (vI k) es i = some ((mAt kI k ks i).bind fun j => (es[j - i]?).map fun e => (j,e.val))
 | [],[],i,_ => by simp [Instr.findNow,mAt]
 | [],_ :: _,i,h => by simp at h
 | _ :: _,[],i,h => by simp at h
 | e :: es,a :: ks,i,h => by
  simp only [pC,List.cons.injEq] at h;have ih := mH k es ks (i + 1) h.2;simp only [Instr.findNow,h.1,vI,Instr.sameNow,if_true,mAt,kI];cases hk : (k == a)
  ·simp only [cF];simp only [vI] at ih;rw [ih];cases hm : mAt kI k ks (i + 1) with
   | none => rfl
   | some j =>
    have hj := fR _ _ _ _ _ hm;have l : j - i = (j - (i + 1)) + 1 := by omega
    simp [l]
  ·simp
theorem sE.int {P : Program} {kt : TypeId} (h : P.underlying kt = some (.int .i64)) : sE P kt vI kI where
 check := fun w em k => Go.MapKept.run_checkKey h (show Go.MapKept.IsKey (.int .i64) (vI k) from rfl) em 9999
 find := fun w k es ks he => Go.MapKept.run_findKey h (by simpa using mH k es ks 0 he)
 stays := fun w k => Go.MapKept.run_keyThatStays (d := .int .i64) (show Go.MapKept.IsKey (.int .i64) (vI k) from rfl)
 same := fun a b h => by simpa [kI] using h
section
variable {K V : Type} {P : Program} {ek : K -> Value} {eq : K -> K -> Bool} {kt : TypeId}
theorem qT (he : ∀ (w : World) a b,(Op.equal kt (ek a) (ek b)).run P w = .ok (eq a b) w) (w : World) (k : K) : ∀ (es : List MapEntry) (ks : List K) (i : Nat),es.map (·.key) = ks.map ek ->
  (Instr.findAsking kt (ek k) es i).run P w = .ok ((mAt eq k ks i).bind fun j => (es[j - i]?).map fun e => (j,e.val)) w
 | [],[],i,_ => by simp [Instr.findAsking,mAt]
 | [],_ :: _,i,h => by simp at h
 | _ :: _,[],i,h => by simp at h
 | e :: es,a :: ks,i,h => by
  simp only [pC,List.cons.injEq] at h;have ih := qT he w k es ks (i + 1) h.2;simp only [Instr.findAsking,Sem.run_bind,h.1,he,Result.andThen_ok,mAt];cases hk : eq k a
  ·simp only [cF,Bool.false_eq_true,if_false,ih];cases hm : mAt eq k ks (i + 1) with
   | none => rfl
   | some j =>
    have hj := fR _ _ _ _ _ hm;have l : j - i = (j - (i + 1)) + 1 := by omega
    simp [l]
  ·simp
theorem sE.struct {fs : Array Field} (h : P.underlying kt = some (.struct fs)) (l : ∀ (w : World) em k,(Instr.checkKey em 10000 kt (ek k)).run P w = .ok () w)
  (he : ∀ (w : World) a b,(Op.equal kt (ek a) (ek b)).run P w = .ok (eq a b) w) (hs : ∀ k,Instr.sameBits 10000 (ek k) (ek k) = true) (hq : ∀ a b,eq a b = true -> a = b) : sE P kt ek eq where
 check := l
 find := fun w k es ks i => by
  have hf := qT he w k es ks 0 i;have j : (Instr.findKey kt (ek k) es).run P w = (Instr.findAsking kt (ek k) es).run P w := by
   cases es with
   | nil => simp [Instr.findKey,xD P h,Instr.findNow,Instr.findAsking]
   | cons e es => simp [Instr.findKey,xD P h,Instr.findNow,Instr.sameNow]
  rw [j];simpa using hf
 stays := fun w k => by simp [Instr.keyThatStays,hs]
 same := hq
theorem qC {fs : Array Field} {cs : Array Value} (n : Nat) (h : P.underlying kt = some (.struct fs)) (w : World) (em : Bool)
  (hf : ∀ f ∈ fs.toList, f.name ≠ "_" /\ ∃ v, (part f.type cs f.offset).run P w = .ok v w /\ (Instr.checkKey em n f.type v).run P w = .ok () w) : (Instr.checkKey em (n + 1) kt (.agg cs)).run P w = .ok () w := by
 rw [Instr.checkKey];simp only [Sem.run_bind,xD P h,Result.andThen_ok];rw [<- Array.forIn_toList];generalize fs.toList = L at hf;induction L with
 | nil => simp
 | cons f L ih =>
  obtain ⟨hn,v,p1,p2⟩ := hf f (by simp);simp only [List.forIn_cons,Sem.run_bind,hn,ne_eq,not_false_eq_true,if_true,Result.andThen_ok,p1,p2,Sem.run_pure];exact ih fun y hy => hf y (by simp [hy])
theorem rB (n : Nat) (h : P.underlying kt = some (.int .i64)) (w : World) (em : Bool) (x : Int) : (Instr.checkKey em (n + 1) kt (.int .i64 x)).run P w = .ok () w :=
 Go.MapKept.run_checkKey h (show Go.MapKept.IsKey (.int .i64) (.int .i64 x) from rfl) em n
theorem aE {P : Program} {cs : Array Value} {w : World} {em : Bool} {n : Nat} {Ls : List Field} (h : Ls = []) : ∀ f ∈ Ls, f.name ≠ "_" /\ ∃ v, (part f.type cs f.offset).run P w = .ok v w /\ (Instr.checkKey em n f.type v).run P w = .ok () w := by
 subst h; intro f hf; cases hf
theorem fl {P : Program} {cs : Array Value} {w : World} {em : Bool} {n : Nat} {Ls fs : List Field} {f : Field} {v : Value} (hL : Ls = f :: fs) (hn : (f.name == "_") = false) (p : (part f.type cs f.offset).run P w = .ok v w) (c : (Instr.checkKey em n f.type v).run P w = .ok () w)
  (r : ∀ g ∈ fs, g.name ≠ "_" /\ ∃ v, (part g.type cs g.offset).run P w = .ok v w /\ (Instr.checkKey em n g.type v).run P w = .ok () w) : ∀ g ∈ Ls, g.name ≠ "_" /\ ∃ v, (part g.type cs g.offset).run P w = .ok v w /\ (Instr.checkKey em n g.type v).run P w = .ok () w := by
 subst hL; intro g hg;rcases List.mem_cons.1 hg with rfl | hg
 ·exact ⟨by simpa using hn,v,p,c⟩
 ·exact r g hg
def MpA (r : Nat) (ek : K -> Value) (ev : V -> Value) (m : List (K × V)) : HP := fun h => ∃ x : Array MapEntry × Nat,One r (.map x.1 x.2) h /\ x.1.toList.map (fun e => (e.key,e.val)) = m.map fun p => (ek p.1,ev p.2)
variable {ev : V -> Value} {w w0 : World} {As : List HP} {n r : Nat} {L : Env} {o : Oper} {a : Act} {m : List (K × V)} {k : K}
theorem MpA.keys {es : List MapEntry} {m : List (K × V)} (h : es.map (fun e => (e.key,e.val)) = m.map fun p => (ek p.1,ev p.2)) : es.map (·.key) = (m.map (·.1)).map ek := by
 have := congrArg (List.map Prod.fst) h;simp only [List.map_map] at this;rw [List.map_map];exact this
theorem MpA.get {es : List MapEntry} {m : List (K × V)} (h : es.map (fun e => (e.key,e.val)) = m.map fun p => (ek p.1,ev p.2)) {j : Nat} {p : K × V} (hj : m[j]? = some p) : ∃ e,es[j]? = some e /\ e.key = ek p.1 /\ e.val = ev p.2 := by
 have h2 := congrArg (fun l => l[j]?) h;simp only [List.getElem?_map,hj,Option.map_some] at h2;cases he : es[j]? with
 | none => rw [he] at h2; simp at h2
 | some e => rw [he] at h2; simp at h2; exact ⟨e,rfl,h2.1,h2.2⟩
theorem sE.found (hk : sE P kt ek eq) (w : World) (k : K) {es : List MapEntry} {m : List (K × V)} (h : es.map (fun e => (e.key,e.val)) = m.map fun p => (ek p.1,ev p.2)) :
  ((Instr.findKey kt (ek k) es).run P w = .ok none w /\ mGet eq k m = none /\ (∀ v,mPut eq k v m = m ++ [(k,v)]) /\ mDel eq k m = m) \/
  ∃ j e v,(Instr.findKey kt (ek k) es).run P w = .ok (some (j,ev v)) w /\ es[j]? = some e /\ e.key = ek k /\ mGet eq k m = some v /\ (∀ v,mPut eq k v m = m.set j (k,v)) /\ mDel eq k m = m.eraseIdx j := by
 have hf := hk.find w k es _ (MpA.keys h);rcases fS eq k m 0 with ⟨h1,h2,h3,h4⟩ | ⟨j,p,h1,h2,h3,h4,u,x⟩
 ·left; rw [h1] at hf; exact ⟨hf,h2,h3,h4⟩
 ·right
  obtain ⟨e,i,l,t⟩ := MpA.get h h2;simp only [Nat.zero_add] at h1;rw [h1] at hf;simp only [bS,i,Option.map_some,t] at hf;exact ⟨j,e,p.2,hf,i,by rw [l,hk.same _ _ h3],h4,u,x⟩
theorem OpTo.Bc {K V : Type} {w0 w : World} {As : List HP} (ek : K -> Value) (ev : V -> Value) {t : TypeId} (i : yc n a L) (H : St w0 As w) (e : o.op = .makeMap t none) : OpTo P o a w fun v w' => ∃ r : Nat,v = .map (some r) /\ St w0 (MpA r ek ev [] :: As) w' := by
 obtain ⟨dst,op,type,pos,after,guard⟩ := o;simp only at e;subst e;refine OpTo.of_run (w' := { w with heap := w.heap.push (.map #[] 0) }) (v := .map (some w.heap.size)) ?_ ⟨w.heap.size,rfl,?_⟩
 ·simp [execOp,Instr.makeMap,newObj]
  rfl
 ·exact (H.alloc (.map #[] 0)).head fun h hh => ⟨(#[],0),hh,by simp⟩
theorem mV {mt y : TypeId} {ti : TypeInfo} {z : V} (H : St w0 As w) (i : Nat) (hi : As[i]? = some (MpA r ek ev m)) (hk : sE P kt ek eq) (ht : P.underlying mt = some (.map kt y)) (D : P.info? y = some ti) (t : ti.zero = some (ev z)) (ok : Bool) :
  ∀ {g : V × Bool},sP eq k z m = some g -> (Instr.lookup mt (.map (some r)) (ek k) ok).run P w = .ok (if ok then .tuple #[ev g.1,.bool g.2] else ev g.1) w := by
 intro g l;obtain ⟨h1,hs,x,hh,B⟩ := H.at i hi;have A : w.heap[r]? = some (.map x.1 x.2) := hs _ _ hh;rcases hk.found w k B with ⟨f1,f2,_,_⟩ | ⟨j,e,v,f1,f2,f3,f4,_,_⟩
 ·have u : (zeroValue y).run P w = .ok (ev z) w := by simp [Go.zeroValue,Go.typeInfo,Sem.run,D,t]
  simp [Instr.lookup,xD P ht,Go.MapKept.run_getObj_map A,hk.check,f1,u,Result.andThen]; simp [sP,f2] at l; subst l; rfl
 ·simp [Instr.lookup,xD P ht,Go.MapKept.run_getObj_map A,hk.check,f1,Result.andThen]; simp [sP,f4] at l; subst l; rfl
theorem OpTo.aR {mt t : TypeId} {ti : TypeInfo} {z : V} {x y : Operand} (i : Nat) (j : yc n a L) (H : St w0 As w) (hi : As[i]? = some (MpA r ek ev m)) (hk : sE P kt ek eq) {g : V × Bool} (hl : sP eq k z m = some g) (l : o.op = .lookup mt x y true)
  (ht : P.underlying mt = some (.map kt t)) (B : P.info? t = some ti) (e : ti.zero = some (ev z)) (u : evO L x = some (.map (some r))) (A : evO L y = some (ek k)) :
  OpTo P o a w fun v w' => v = .tuple #[ev g.1,.bool g.2] /\ w' = w := by
 obtain ⟨dst,op,type,pos,after,guard⟩ := o;simp only at l;subst l;have hl := mV (k := k) H i hi hk ht B e true hl;exact OpTo.of_run (w' := w) (by simp [execOp,j.eval u,j.eval A,hl]) ⟨rfl,rfl⟩
theorem OpTo.Bb {mt t : TypeId} {ti : TypeInfo} {z : V} {x y : Operand} (i : Nat) (j : yc n a L) (H : St w0 As w) (hi : As[i]? = some (MpA r ek ev m)) (hk : sE P kt ek eq) {g : V × Bool} (hl : sP eq k z m = some g) (l : o.op = .lookup mt x y false)
  (ht : P.underlying mt = some (.map kt t)) (B : P.info? t = some ti) (e : ti.zero = some (ev z)) (u : evO L x = some (.map (some r))) (A : evO L y = some (ek k)) :
  OpTo P o a w fun v w' => v = ev g.1 /\ w' = w := by
 obtain ⟨dst,op,type,pos,after,guard⟩ := o;simp only at l;subst l;have hl := mV (k := k) H i hi hk ht B e false hl;exact OpTo.of_run (w' := w) (by simp [execOp,j.eval u,j.eval A,hl]) ⟨rfl,rfl⟩
theorem q9 {α β : Type} (f : α -> β) : ∀ (l : List α) (j : Nat),(l.eraseIdx j).map f = (l.map f).eraseIdx j
 | [],_ => rfl
 | _ :: _,0 => rfl
 | x :: l,j + 1 => by simp [q9 f l j]
theorem St.cg (H : St w0 (MpA r ek ev m :: As) w) : ∃ es i,St w0 (One r (.map es i) :: As) w /\ es.toList.map (fun e => (e.key,e.val)) = m.map fun p => (ek p.1,ev p.2) := by
 obtain ⟨x,H⟩ := H.ex;have j := H.fact fun h hh => hh.2
 exact ⟨x.1,x.2,H.head fun h hh => hh.1,j⟩
theorem St.dC {es i : Array MapEntry} {u j : Nat} {t : List (K × V)} (H : St w0 (One r (.map es u) :: As) w) (he : i.toList.map (fun e => (e.key,e.val)) = t.map fun p => (ek p.1,ev p.2)) :
  St w0 (MpA r ek ev t :: As) { w with heap := w.heap.setIfInBounds r (.map i j) } := by
 have l := H.one 0 rfl;have := H.set (w' := { w with heap := w.heap.setIfInBounds r (.map i j) }) (o' := .map i j) rfl rfl rfl (Go.MapKept.heap_set l).1 (Go.MapKept.heap_set l).2;exact this.head fun h hh => ⟨(i,j),hh,he⟩
def pt : Op -> Option (TypeId × Operand × Operand × Operand)
 | .mapUpdate t m k x => some (t,m,k,x)
 | .insert t m k x => some (t,m,k,x)
 | _ => none
theorem OpTo.Bd {mt O : TypeId} {x y z : Operand} {v : V} (B : yc n a L) (H : St w0 (MpA r ek ev m :: As) w) (hk : sE P kt ek eq) (D : pt o.op = some (mt,x,y,z))
  (ht : P.underlying mt = some (.map kt O)) (F : evO L x = some (.map (some r))) (I : evO L y = some (ek k)) (J : evO L z = some (ev v)) : OpTo P o a w fun _ w' => St w0 (MpA r ek ev (mPut eq k v m) :: As) w' := by
 obtain ⟨es,A,H1,he⟩ := H.cg;have u := H1.one 0 rfl;have key : ∃ w',(Instr.mapUpdate mt (.map (some r)) (ek k) (ev v)).run P w = .ok () w' /\ St w0 (MpA r ek ev (mPut eq k v m) :: As) w' := by
  rcases hk.found w k he with ⟨f1,f2,f3,_⟩ | ⟨j,e,S,f1,f2,f3,f4,f5,_⟩
  ·refine ⟨{ w with heap := w.heap.setIfInBounds r (.map (es.push { key := ek k,val := ev v,born := A }) (A + 1)) },?_,H1.dC ?_⟩
   ·simp [Instr.mapUpdate,xD P ht,Go.MapKept.run_getObj_map u,hk.check,f1,Go.MapKept.run_setObj_map _ u,Result.andThen]
   ·rw [f3]; simp [he]
  ·have hj : es[j]? = some e := by simpa using f2
   refine ⟨{ w with heap := w.heap.setIfInBounds r (.map (es.modify j fun e => { e with key := ek k,val := ev v }) A) },?_,H1.dC ?_⟩
   ·simp [Instr.mapUpdate,xD P ht,Go.MapKept.run_getObj_map u,hk.check,f1,hj,f3,hk.stays,Go.MapKept.run_setObj_map _ u,Result.andThen]
   ·rw [f5];apply List.ext_getElem?;intro i;have hi := congrArg (fun l => l[i]?) he;simp only [List.getElem?_map,Array.getElem?_toList] at hi;simp only [List.getElem?_map,Array.getElem?_toList,Array.getElem?_modify,List.getElem?_set];by_cases t : j = i
    ·subst t;have hl : j < m.length := by
      rw [hj] at hi;cases hm : m[j]? with
      | none => rw [hm] at hi; simp at hi
      | some _ => exact (List.getElem?_eq_some_iff.1 hm).1
     simp [hj,hl]
    ·simp [t,hi]
 obtain ⟨w',h1,h2⟩ := key;obtain ⟨dst,op,type,pos,after,guard⟩ := o;cases op <;> simp only [pt] at D <;> try cases D
 all_goals exact OpTo.jB (w' := w') (by simp [execOp,B.eval F,B.eval I,B.eval J,h1]) h2
theorem OpTo.Ba {mt B : TypeId} {x y : Operand} {ats : Array TypeId} (i : yc n a L) (H : St w0 (MpA r ek ev m :: As) w) (hk : sE P kt ek eq) (u : o.op = .call { callee := .builtin .delete,args := #[x,y],argTypes := ats }) (ha : ats[0]? = some mt)
  (ht : P.underlying mt = some (.map kt B)) (z : evO L x = some (.map (some r))) (A : evO L y = some (ek k)) : OpTo P o a w fun v w' => v = .tuple #[] /\ St w0 (MpA r ek ev (mDel eq k m) :: As) w' := by
 obtain ⟨es,t,H1,he⟩ := H.cg;have l := H1.one 0 rfl;obtain ⟨dst,op,type,pos,after,guard⟩ := o;simp only at u;subst u;rcases hk.found w k he with ⟨f1,f2,_,f4⟩ | ⟨j,e,D,f1,f2,f3,f4,_,f6⟩
 ·refine OpTo.of_run (w' := { w with heap := w.heap.setIfInBounds r (.map es t) }) (v := .tuple #[]) ?_ ⟨rfl,H1.dC (by rw [f4]; exact he)⟩;simp [execOp,resolve,invoke,builtin,i.eval z,i.eval A,Builtin.delete_,ha,xD P ht,Go.MapKept.run_getObj_map l,hk.check,f1,Go.MapKept.run_setObj_map _ l,Result.andThen]
 ·refine OpTo.of_run (w' := { w with heap := w.heap.setIfInBounds r (.map (es.eraseIdxIfInBounds j) t) }) (v := .tuple #[]) ?_ ⟨rfl,H1.dC ?_⟩
  ·simp [execOp,resolve,invoke,builtin,i.eval z,i.eval A,Builtin.delete_,ha,xD P ht,Go.MapKept.run_getObj_map l,hk.check,f1,Go.MapKept.run_setObj_map _ l,Result.andThen]
  ·rw [f6];have hj : j < es.size := by
    have := (List.getElem?_eq_some_iff.1 f2).1;simpa using this
   simp only [Array.eraseIdxIfInBounds,hj,dif_pos,Array.toList_eraseIdx,q9,he]
end
section
variable {K V : Type} {P : Program} {ek : K -> Value} {ev : V -> Value} {w w0 : World} {As : List HP} {n r : Nat} {L : Env} {o : Oper} {a : Act} {m : List (K × V)}
end
def elemV (sb : Option Addr) (sz : Nat) : Option Int -> Value
 | none => .pointer none
 | some i => match sb with
  | some ⟨b,off,_⟩ => .pointer (some ⟨b,off + (Int.toNat i) * sz,none⟩)
  | none => .pointer none
theorem my {sb : Option Addr} {sz b off : Nat} {i : Int} (h : sb = some ⟨b,off,none⟩) : elemV sb sz (some i) = .pointer (some ⟨b,off + (Int.toNat i) * sz,none⟩) := by subst h; rfl
def oS {α : Type} : Option α -> Unit ⊕ α
 | none => .inl ()
 | some x => .inr x
def ta {α β : Type} (o : Option α) (n : Option β) (s : α -> Option β) : Option β := match oS o with
 | .inl _ => n
 | .inr x => s x
theorem tD {α : Type} {l : List α} {i : Int} {x : α} (h : mIdx l i = some x) : l[i.toNat]? = some x := (oy h).2
def Pure (q : Prop) : HP := fun _ => q
theorem St.pure {q : Prop} {w0 w : World} {As : List HP} (H : St w0 (Pure q :: As) w) : q /\ St w0 As w := ⟨H.fact fun _ h => h,H.x0⟩
theorem bF {α : Type} {l : List α} {i : Int} {x y : α} (h : mIdx l i = some x) : mIdx (mSet l i y) i = some y := by
 obtain ⟨⟨h0,h1⟩,h2⟩ := oy h;have hl : i.toNat < l.length := by omega
 simp [mIdx,mSet,h0,hl]
end
noncomputable section
section
variable {H : Type} {en : TypeId × Value -> H} {P : Program} {w : World} {base : Nat} {spare : Nat -> Bool} {held : Bool}
end
end
end Go.Th
noncomputable section
namespace Go.Th
end Go.Th
end
namespace Go.Th
noncomputable section
theorem Rd.take {w : World} {e : Option Addr} {a b : List Value} (h : Rd w e (a ++ b)) : Rd w e a := by
 rcases h with h | ⟨i,h1,h2⟩
 ·left
  exact (List.append_eq_nil_iff.1 h).1
 ·refine .inr ⟨i,h1,fun j u hj => h2 j u ?_⟩;rw [List.getElem?_append_left (List.getElem?_eq_some_iff.1 hj).1];exact hj
section
variable {P : Program} {α : Type} {T : TypeId} {enc : α -> List Value} {sz : Nat} {w0 w : World} {As : List HP}
end
end
end Go.Th
namespace Go.Proofs.YtojpmaakhdmhmaaGreat
open Go.Th
noncomputable section
set_option maxRecDepth 10000
set_option maxHeartbeats 4000000
structure zr where
 f0 : Int
 f1 : Int
 f2 : Int
 f3 : Int
 f4 : Int
 f5 : Int
 f6 : Int
 f7 : Int
 f8 : Int
 f9 : Int
 taken : Bool
def zr.enc (x : zr) : List Value := [.int .i64 x.f0,.int .i64 x.f1,.int .i64 x.f2,.int .i64 x.f3,.int .i64 x.f4,.int .i64 x.f5,.int .i64 x.f6,.int .i64 x.f7,.int .i64 x.f8,.int .i64 x.f9,.bool x.taken]
def zr.rC (x : zr) (i : Int) : Option Int :=
 if i = 0 then some x.f0 else if i = 1 then some x.f1 else if i = 2 then some x.f2 else if i = 3 then some x.f3 else if i = 4 then some x.f4 else if i = 5 then some x.f5 else if i = 6 then some x.f6 else if i = 7 then some x.f7 else if i = 8 then some x.f8 else if i = 9 then some x.f9 else none
def zr.qD (x : zr) (i v : Int) : Option zr :=
 if i = 0 then some (zr.mk v x.f1 x.f2 x.f3 x.f4 x.f5 x.f6 x.f7 x.f8 x.f9 x.taken) else if i = 1 then some (zr.mk x.f0 v x.f2 x.f3 x.f4 x.f5 x.f6 x.f7 x.f8 x.f9 x.taken) else if i = 2 then some (zr.mk x.f0 x.f1 v x.f3 x.f4 x.f5 x.f6 x.f7 x.f8 x.f9 x.taken) else if i = 3 then some (zr.mk x.f0 x.f1 x.f2 v x.f4 x.f5 x.f6 x.f7 x.f8 x.f9 x.taken) else if i = 4 then some (zr.mk x.f0 x.f1 x.f2 x.f3 v x.f5 x.f6 x.f7 x.f8 x.f9 x.taken) else if i = 5 then some (zr.mk x.f0 x.f1 x.f2 x.f3 x.f4 v x.f6 x.f7 x.f8 x.f9 x.taken) else if i = 6 then some (zr.mk x.f0 x.f1 x.f2 x.f3 x.f4 x.f5 v x.f7 x.f8 x.f9 x.taken) else if i = 7 then some (zr.mk x.f0 x.f1 x.f2 x.f3 x.f4 x.f5 x.f6 v x.f8 x.f9 x.taken) else if i = 8 then some (zr.mk x.f0 x.f1 x.f2 x.f3 x.f4 x.f5 x.f6 x.f7 v x.f9 x.taken) else if i = 9 then some (zr.mk x.f0 x.f1 x.f2 x.f3 x.f4 x.f5 x.f6 x.f7 x.f8 v x.taken) else none
theorem zr.yX : wx zr.enc 11 := ⟨fun _ => rfl,fun x u hu => by simp only [zr.enc,iC,List.not_mem_nil,or_false] at hu; rcases hu with rfl | rfl | rfl | rfl | rfl | rfl | rfl | rfl | rfl | rfl | rfl <;> rfl⟩
structure zB where
 steps : Int
 begun : Int
 most : Int
structure zb where
 l : List zr
 never : Int
 free : List Int
 m_ : zB
structure zA where
 kind : Int
 root : Int
 n : Int
def zA.enc (x : zA) : List Value := [.int .i64 x.kind,.int .i64 x.root,.int .i64 x.n]
theorem zA.yX : wx zA.enc 3 := ⟨fun _ => rfl,fun x u hu => by simp only [zA.enc,iC,List.not_mem_nil,or_false] at hu; rcases hu with rfl | rfl | rfl <;> rfl⟩
structure zs where
 gen : Int
 taken : Bool
 v_ : zA
def zs.enc (x : zs) : List Value := [.int .i64 x.gen,.bool x.taken,.int .i64 x.v_.kind,.int .i64 x.v_.root,.int .i64 x.v_.n]
theorem zs.yX : wx zs.enc 5 := ⟨fun _ => rfl,fun x u hu => by simp only [zs.enc,iC,List.not_mem_nil,or_false] at hu; rcases hu with rfl | rfl | rfl | rfl | rfl <;> rfl⟩
structure zh where
 most : Int
 l : List zs
 free : List Int
structure zd where
 At : Int
 Gen : Int
def zd.enc (x : zd) : List Value := [.int .i64 x.At,.int .i64 x.Gen]
theorem zd.yX : wx zd.enc 2 := ⟨fun _ => rfl,fun x u hu => by simp only [zd.enc,iC,List.not_mem_nil,or_false] at hu; rcases hu with rfl | rfl <;> rfl⟩
structure zy where
 cell : Int
 heap : zd
def zy.enc (x : zy) : List Value := [.int .i64 x.cell,.int .i64 x.heap.At,.int .i64 x.heap.Gen]
theorem zy.yX : wx zy.enc 3 := ⟨fun _ => rfl,fun x u hu => by simp only [zy.enc,iC,List.not_mem_nil,or_false] at hu; rcases hu with rfl | rfl | rfl <;> rfl⟩
structure zo where
 gen : Int
 taken : Bool
 v_ : zy
def zo.enc (x : zo) : List Value := [.int .i64 x.gen,.bool x.taken,.int .i64 x.v_.cell,.int .i64 x.v_.heap.At,.int .i64 x.v_.heap.Gen]
theorem zo.yX : wx zo.enc 5 := ⟨fun _ => rfl,fun x u hu => by simp only [zo.enc,iC,List.not_mem_nil,or_false] at hu; rcases hu with rfl | rfl | rfl | rfl | rfl <;> rfl⟩
structure zc where
 most : Int
 l : List zo
 free : List Int
structure zj where
 heaps : zh
 items : zc
 at_ : List (Int × zd)
def zd.val (x : zd) : Value := .agg #[.int .i64 x.At,.int .i64 x.Gen]
structure zg where
 Key : Int
 Serial : Int
def zg.enc (x : zg) : List Value := [.int .i64 x.Key,.int .i64 x.Serial]
theorem zg.yX : wx zg.enc 2 := ⟨fun _ => rfl,fun x u hu => by simp only [zg.enc,iC,List.not_mem_nil,or_false] at hu; rcases hu with rfl | rfl <;> rfl⟩
structure zn where
 items : Int
 a_ : zb
 t_ : zj
 entries : List (zd × zg)
 serial : Int
def zg.val (x : zg) : Value := .agg #[.int .i64 x.Key,.int .i64 x.Serial]
structure zz where
 Queue : Int
 Time : Int
 Data : Int
 Item : zd
def zz.enc (x : zz) : List Value := [.int .i64 x.Queue,.int .i64 x.Time,.int .i64 x.Data,.int .i64 x.Item.At,.int .i64 x.Item.Gen]
theorem zz.yX : wx zz.enc 5 := ⟨fun _ => rfl,fun x u hu => by simp only [zz.enc,iC,List.not_mem_nil,or_false] at hu; rcases hu with rfl | rfl | rfl | rfl | rfl <;> rfl⟩
structure zp where
 gen : Int
 taken : Bool
 v_ : zz
def zp.enc (x : zp) : List Value := [.int .i64 x.gen,.bool x.taken,.int .i64 x.v_.Queue,.int .i64 x.v_.Time,.int .i64 x.v_.Data,.int .i64 x.v_.Item.At,.int .i64 x.v_.Item.Gen]
theorem zp.yX : wx zp.enc 7 := ⟨fun _ => rfl,fun x u hu => by simp only [zp.enc,iC,List.not_mem_nil,or_false] at hu; rcases hu with rfl | rfl | rfl | rfl | rfl | rfl | rfl <;> rfl⟩
structure ze where
 most : Int
 l : List zp
 free : List Int
structure zm where
 p : ze
 by_ : List (zd × zd)
structure zJ where
 now : Int
structure za where
 kind : Int
 most : Int
 q : zn
 heaps0 : zd
 heaps1 : zd
 t_ : zm
 when : List (zd × Int)
 clock : zJ
 budget : Int
 last : Int
 top : Int
structure yb where
 Op : Int
 Kind : Int
 Heap : zd
 Other : zd
 Item : zd
 Key : Int
def yb.enc (x : yb) : List Value := [.int .i64 x.Op,.int .i64 x.Kind,.int .i64 x.Heap.At,.int .i64 x.Heap.Gen,.int .i64 x.Other.At,.int .i64 x.Other.Gen,.int .i64 x.Item.At,.int .i64 x.Item.Gen,.int .i64 x.Key]
theorem yb.yX : wx yb.enc 9 := ⟨fun _ => rfl,fun x u hu => by simp only [yb.enc,iC,List.not_mem_nil,or_false] at hu; rcases hu with rfl | rfl | rfl | rfl | rfl | rfl | rfl | rfl | rfl <;> rfl⟩
structure zI where
 Why : Int
 Heap : zd
 Item : zd
 Entry : zg
 N : Int
def zI.enc (x : zI) : List Value := [.int .i64 x.Why,.int .i64 x.Heap.At,.int .i64 x.Heap.Gen,.int .i64 x.Item.At,.int .i64 x.Item.Gen,.int .i64 x.Entry.Key,.int .i64 x.Entry.Serial,.int .i64 x.N]
theorem zI.yX : wx zI.enc 8 := ⟨fun _ => rfl,fun x u hu => by simp only [zI.enc,iC,List.not_mem_nil,or_false] at hu; rcases hu with rfl | rfl | rfl | rfl | rfl | rfl | rfl | rfl <;> rfl⟩
def yb.val (x : yb) : Value := .agg #[.int .i64 x.Op,.int .i64 x.Kind,.int .i64 x.Heap.At,.int .i64 x.Heap.Gen,.int .i64 x.Other.At,.int .i64 x.Other.Gen,.int .i64 x.Item.At,.int .i64 x.Item.Gen,.int .i64 x.Key]
def zA.val (x : zA) : Value := .agg #[.int .i64 x.kind,.int .i64 x.root,.int .i64 x.n]
structure zk where
 n : Int
 rank : Int
def zk.enc (x : zk) : List Value := [.int .i64 x.n,.int .i64 x.rank]
theorem zk.yX : wx zk.enc 2 := ⟨fun _ => rfl,fun x u hu => by simp only [zk.enc,iC,List.not_mem_nil,or_false] at hu; rcases hu with rfl | rfl <;> rfl⟩
def zk.val (x : zk) : Value := .agg #[.int .i64 x.n,.int .i64 x.rank]
def zy.val (x : zy) : Value := .agg #[.int .i64 x.cell,.int .i64 x.heap.At,.int .i64 x.heap.Gen]
def zd.eq (x y : zd) : Bool := (x.At == y.At && (x.Gen == y.Gen && true))
structure zq where
 Most : Int
 Gens : List Int
 In : List Bool
 V : List Int
 Back : List Int
structure zD where
 Queue : Int
 Data : Int
 E : zg
 R : zd
def zD.enc (x : zD) : List Value := [.int .i64 x.Queue,.int .i64 x.Data,.int .i64 x.E.Key,.int .i64 x.E.Serial,.int .i64 x.R.At,.int .i64 x.R.Gen]
theorem zD.yX : wx zD.enc 6 := ⟨fun _ => rfl,fun x u hu => by simp only [zD.enc,iC,List.not_mem_nil,or_false] at hu; rcases hu with rfl | rfl | rfl | rfl | rfl | rfl <;> rfl⟩
structure zf where
 Most : Int
 Now : Int
 Next : Int
 Pool : zq
 L : List zD
structure zi where
 L : List zg
structure zE where
 Kind : Int
 Queue : Int
 Job : zd
 Time : Int
 Data : Int
def zE.enc (x : zE) : List Value := [.int .i64 x.Kind,.int .i64 x.Queue,.int .i64 x.Job.At,.int .i64 x.Job.Gen,.int .i64 x.Time,.int .i64 x.Data]
theorem zE.yX : wx zE.enc 6 := ⟨fun _ => rfl,fun x u hu => by simp only [zE.enc,iC,List.not_mem_nil,or_false] at hu; rcases hu with rfl | rfl | rfl | rfl | rfl | rfl <;> rfl⟩
structure zu where
 Why : Int
 Job : zd
 Time : Int
 Data : Int
 N : Int
def zu.enc (x : zu) : List Value := [.int .i64 x.Why,.int .i64 x.Job.At,.int .i64 x.Job.Gen,.int .i64 x.Time,.int .i64 x.Data,.int .i64 x.N]
theorem zu.yX : wx zu.enc 6 := ⟨fun _ => rfl,fun x u hu => by simp only [zu.enc,iC,List.not_mem_nil,or_false] at hu; rcases hu with rfl | rfl | rfl | rfl | rfl | rfl <;> rfl⟩
def zz.val (x : zz) : Value := .agg #[.int .i64 x.Queue,.int .i64 x.Time,.int .i64 x.Data,.int .i64 x.Item.At,.int .i64 x.Item.Gen]
def zE.val (x : zE) : Value := .agg #[.int .i64 x.Kind,.int .i64 x.Queue,.int .i64 x.Job.At,.int .i64 x.Job.Gen,.int .i64 x.Time,.int .i64 x.Data]
def zu.eq (x y : zu) : Bool := (x.Why == y.Why && (zd.eq x.Job y.Job && (x.Time == y.Time && (x.Data == y.Data && (x.N == y.N && true)))))
def zg.eq (x y : zg) : Bool := (x.Key == y.Key && (x.Serial == y.Serial && true))
structure yC where
 Kind : Int
 Queue : Int
 Job : Int
 Data : Int
 Time : Int
 Raw : zE
def yC.enc (x : yC) : List Value := [.int .i64 x.Kind,.int .i64 x.Queue,.int .i64 x.Job,.int .i64 x.Data,.int .i64 x.Time,.int .i64 x.Raw.Kind,.int .i64 x.Raw.Queue,.int .i64 x.Raw.Job.At,.int .i64 x.Raw.Job.Gen,.int .i64 x.Raw.Time,.int .i64 x.Raw.Data]
theorem yC.yX : wx yC.enc 11 := ⟨fun _ => rfl,fun x u hu => by simp only [yC.enc,iC,List.not_mem_nil,or_false] at hu; rcases hu with rfl | rfl | rfl | rfl | rfl | rfl | rfl | rfl | rfl | rfl | rfl <;> rfl⟩
def yC.val (x : yC) : Value := .agg #[.int .i64 x.Kind,.int .i64 x.Queue,.int .i64 x.Job,.int .i64 x.Data,.int .i64 x.Time,.int .i64 x.Raw.Kind,.int .i64 x.Raw.Queue,.int .i64 x.Raw.Job.At,.int .i64 x.Raw.Job.Gen,.int .i64 x.Raw.Time,.int .i64 x.Raw.Data]
def xt (n : Int) (lo : Int) (hi : Int) : Option (Int) :=
 (bif (decide (n >= lo)) && (decide (n <= hi)) then
  some n
 else
  (mNz (w64 ((w64 (hi - lo)) + 1))).bind fun u =>
  ((bif decide (Int.tmod n (w64 ((w64 (hi - lo)) + 1)) < 0) then
   some (w64 ((w64 ((w64 ((Int.tmod n (w64 ((w64 (hi - lo)) + 1))) + hi)) - lo)) + 1))
  else
   some (Int.tmod n (w64 ((w64 (hi - lo)) + 1))))).bind fun s =>
  some (w64 (lo + s)))
def uj (e : Int) : Option (Bool) :=
 some ((decide (e >= 1)) && (decide (e <= 3)))
def bits_Len64 (x : Int) : Option (Int) :=
 ((bif decide (x >= 4294967296) then
  some (Int.fdiv x (2 ^ (min (Int.toNat 32) 64)),32)
 else
  some (x,0))).bind fun s =>
 ((bif decide (s.1 >= 65536) then
  some (Int.fdiv s.1 (2 ^ (min (Int.toNat 16) 64)),w64 (s.2 + 16))
 else
  some (s.1,s.2))).bind fun s1 =>
 ((bif decide (s1.1 >= 256) then
  some (Int.fdiv s1.1 (2 ^ (min (Int.toNat 8) 64)),w64 (s1.2 + 8))
 else
  some (s1.1,s1.2))).bind fun s2 =>
 (bE (ByteArray.mk #[0,1,2,2,3,3,3,3,4,4,4,4,4,4,4,4,5,5,5,5,5,5,5,5,5,5,5,5,5,5,5,5,6,6,6,6,6,6,6,6,6,6,6,6,6,6,6,6,6,6,6,6,6,6,6,6,6,6,6,6,6,6,6,6,7,7,7,7,7,7,7,7,7,7,7,7,7,7,7,7,7,7,7,7,7,7,7,7,7,7,7,7,7,7,7,7,7,7,7,7,7,7,7,7,7,7,7,7,7,7,7,7,7,7,7,7,7,7,7,7,7,7,7,7,7,7,7,7,8,8,8,8,8,8,8,8,8,8,8,8,8,8,8,8,8,8,8,8,8,8,8,8,8,8,8,8,8,8,8,8,8,8,8,8,8,8,8,8,8,8,8,8,8,8,8,8,8,8,8,8,8,8,8,8,8,8,8,8,8,8,8,8,8,8,8,8,8,8,8,8,8,8,8,8,8,8,8,8,8,8,8,8,8,8,8,8,8,8,8,8,8,8,8,8,8,8,8,8,8,8,8,8,8,8,8,8,8,8,8,8,8,8,8,8,8,8,8,8,8,8,8,8,8,8,8,8]) (IntKind.wrap .u8 (s2.1))).bind fun e =>
 some (w64 (s2.2 + (w64 (e))))
def bits_Len (x : Int) : Option (Int) :=
 (bits_Len64 x).bind fun t_ =>
 some t_
def qb (n : Int) : Option (Int) :=
 (bits_Len (IntKind.wrap .u64 ((if n > 0 then n else 0)))).bind fun t_ =>
 some t_
def vB (a_ : Int) (b : Int) : Option (Int) :=
 (bif (decide (b > 0)) && (decide (a_ > w64 (9223372036854775807 - b))) then
  some 9223372036854775807
 else
  (bif (decide (b < 0)) && (decide (a_ < w64 ((-9223372036854775808) - b))) then
   some (-9223372036854775808)
  else
   some (w64 (a_ + b))))
def vc (j : Int) (x1 : Int) : Nat -> Int -> Int -> Option (Int)
 | 0,_,_ => none
 | m + 1,e,x =>
  (bif decide (x < x1) then
   (vB e j).bind fun i =>
   vc j x1 m i (w64 (x + 1))
  else
   some e)
def rq (k : Nat) (a_ : Int) (b : Int) (n : Int) : Option (Int) :=
 (qb n).bind fun t_ =>
 (vc b t_ k a_ 0).bind fun s =>
 some s
def tV (k : Nat) (i : Int) (items : Int) : Option (Int × Bool) :=
 ((uj i).bind fun t_ =>
 (bif !t_ then
  some true
 else
  (bif decide (items < 1) then
   some true
  else
   some (decide (items > 4096))))).bind fun s =>
 (bif s then
  some (0,false)
 else
  (rq k 2000 1600 (w64 (items + 1))).bind fun e =>
  some (e,true))
def oX  : Option (zB) :=
 some (zB.mk 0 0 0)
def qK (cells : Int) : Option (zb) :=
 (hP (if (if 65536 < cells then 65536 else cells) > 0 then (if 65536 < cells then 65536 else cells) else 0) (zr.mk 0 0 0 0 0 0 0 0 0 0 false)).bind fun l =>
 (oX).bind fun t_ =>
 some (zb.mk l 0 ([] : List Int) t_)
def ue (places : Int) : Option (zh) :=
 some (zh.mk (if (if 65536 < places then 65536 else places) > 0 then (if 65536 < places then 65536 else places) else 0) ([] : List zs) ([] : List Int))
def vK (places : Int) : Option (zc) :=
 some (zc.mk (if (if 65536 < places then 65536 else places) > 0 then (if 65536 < places then 65536 else places) else 0) ([] : List zo) ([] : List Int))
def nu (items : Int) : Option (zj) :=
 (ue 64).bind fun t_ =>
 (vK (if (if 16384 < items then 16384 else items) > 1 then (if 16384 < items then 16384 else items) else 1)).bind fun e =>
 some (zj.mk t_ e ([] : List (Int × zd)))
def kq (items : Int) : Option ((Option zn) × Int) :=
 (bif (decide (items < 1)) || (decide (items > 16384)) then
  some ((none : Option zn),1)
 else
  (qK (w64 (2 * items))).bind fun t_ =>
  (nu items).bind fun e =>
  some (some (zn.mk items t_ e ([] : List (zd × zg)) 0),0))
def uM (places : Int) : Option (ze) :=
 some (ze.mk (if (if 65536 < places then 65536 else places) > 0 then (if 65536 < places then 65536 else places) else 0) ([] : List zp) ([] : List Int))
def qW (jobs : Int) : Option (zm) :=
 (uM (if (if 4096 < jobs then 4096 else jobs) > 1 then (if 4096 < jobs then 4096 else jobs) else 1)).bind fun t_ =>
 some (zm.mk t_ ([] : List (zd × zd)))
def qN  : Option (zJ) :=
 some (zJ.mk 0)
def wy (e : yb) : Option (zI) :=
 none
def uI (a_ : zb) : Option (Unit) :=
 some ()
def sQ (m_ : zB) : Option (Int) :=
 some (w64 (m_.steps - m_.begun))
def rA (m_ : zB) : Option (Int) :=
 (sQ m_).bind fun t_ =>
 some (if t_ > m_.most then t_ else m_.most)
def uK (m_ : zB) : Option (zB) :=
 (rA m_).bind fun t_ =>
 some (zB.mk m_.steps m_.steps t_)
def sN (e : Int) : Option (Bool) :=
 some ((decide (e >= 1)) && (decide (e <= 5)))
def yD (p : zh) (v_ : zA) : Option (zd × Bool × zh) :=
 ((bif decide (w64 ((p.free.length : Int) - 1) >= 0) then
  (mIdx p.free (w64 ((p.free.length : Int) - 1))).bind fun x =>
  (mCut p.free 0 (w64 ((p.free.length : Int) - 1))).bind fun l =>
  some (.inr (x,zh.mk p.most p.l l))
 else
  (bif decide ((p.l.length : Int) >= p.most) then
   some (.inl (zd.mk 0 0,false,p))
  else
   (mApp p.l ([zs.mk 0 false (zA.mk 0 0 0)] : List zs)).bind fun l1 =>
   some (.inr ((p.l.length : Int),zh.mk p.most l1 p.free)))) : Option ((zd × Bool × zh) ⊕ (Int × zh))).bind fun s =>
 match s with
 | .inl e => some e
 | .inr s1 =>
  (mIdx s1.2.l s1.1).bind fun x1 =>
  some (zd.mk s1.1 (w64 (x1.gen + 1)),true,zh.mk s1.2.most (mSet (mSet (mSet s1.2.l s1.1 (zs.mk (w64 (x1.gen + 1)) x1.taken x1.v_)) s1.1 (zs.mk (w64 (x1.gen + 1)) true x1.v_)) s1.1 (zs.mk (w64 (x1.gen + 1)) true v_)) s1.2.free)
def v7 (t_ : zj) (j : Int) : Option (zd × Int × zj) :=
 (sN j).bind fun i =>
 (bif !i then
  some (zd.mk 0 0,24,t_)
 else
  (yD t_.heaps (zA.mk j (-1) 0)).bind fun e =>
  (bif !e.2.1 then
   some (zd.mk 0 0,13,zj.mk e.2.2 t_.items t_.at_)
  else
   some (e.1,0,zj.mk e.2.2 t_.items t_.at_)))
def yT (p : zh) (r : zd) : Option ((Option Int) × Int) :=
 ((bif decide (r.At < 0) then
  some true
 else
  (bif decide (r.At >= (p.l.length : Int)) then
   some true
  else
   (bif decide (r.Gen < 1) then
    some true
   else
    (mIdx p.l r.At).bind fun x1 =>
    some (decide (r.Gen > x1.gen)))))).bind fun s =>
 (bif s then
  some ((none : Option Int),22)
 else
  (mIdx p.l r.At).bind fun x2 =>
  (bif (decide (r.Gen < x2.gen)) || (!x2.taken) then
   some ((none : Option Int),23)
  else
   some ((some r.At : Option Int),0)))
def yw (p : zh) (r : zd) : Option (zA × Int) :=
 (yT p r).bind fun t_ =>
 (ta t_.1
  ((bif t_.2 != 0 then
   some (zA.mk 0 0 0,t_.2)
  else
   none))
  (fun i =>
  (mIdx p.l i).bind fun x =>
  (bif t_.2 != 0 then
   some (zA.mk 0 0 0,t_.2)
  else
   some (x.v_,0))))
def y0 (t_ : zj) (i : zd) : Option (Int × Int × Int × Int) :=
 (yw t_.heaps i).bind fun e =>
 some (e.1.kind,e.1.root,e.1.n,e.2)
def vd (e : Int) : Option (zI) :=
 some (zI.mk e (zd.mk 0 0) (zd.mk 0 0) (zg.mk 0 0) 0)
def yU (p : zc) : Option (Int) :=
 some (w64 ((p.l.length : Int) - (p.free.length : Int)))
def vH (t_ : zj) : Option (Int) :=
 (yU t_.items).bind fun e =>
 some e
def xi (m_ : zB) (n : Int) : Option (zB) :=
 (vB m_.steps (if n > 0 then n else 0)).bind fun t_ =>
 some (zB.mk t_ m_.begun m_.most)
def sY  : Option (zr) :=
 some (zr.mk (-1) (-1) (-1) (-1) 0 0 (-1) 0 0 (-1) true)
def w6 (a_ : zb) : Option (Int × Bool × zb) :=
 (xi a_.m_ 1).bind fun t_ =>
 ((bif decide (w64 ((a_.free.length : Int) - 1) >= 0) then
  (mIdx a_.free (w64 ((a_.free.length : Int) - 1))).bind fun x =>
  (mCut a_.free 0 (w64 ((a_.free.length : Int) - 1))).bind fun l =>
  some (.inr (x,zb.mk a_.l a_.never l t_))
 else
  (bif decide (a_.never >= (a_.l.length : Int)) then
   some (.inl ((-1),false,zb.mk a_.l a_.never a_.free t_))
  else
   some (.inr (a_.never,zb.mk a_.l (w64 (a_.never + 1)) a_.free t_)))) : Option ((Int × Bool × zb) ⊕ (Int × zb))).bind fun s =>
 match s with
 | .inl i => some i
 | .inr s1 =>
  (sY).bind fun e =>
  (mIdx s1.2.l s1.1).bind fun x1 =>
  some (s1.1,true,zb.mk (mSet s1.2.l s1.1 e) s1.2.never s1.2.free s1.2.m_)
def yk (a_ : zb) (e : Int) : Option (Bool) :=
 ((bif decide (e >= 0) then
  (bif decide (e < (a_.l.length : Int)) then
   (mIdx a_.l e).bind fun x1 =>
   some x1.taken
  else
   some false)
 else
  some false)).bind fun s =>
 some s
def xS (a_ : zb) (e : Int) (field : Int) : Option (Bool) :=
 ((yk a_ e).bind fun t_ =>
 (bif t_ then
  (bif decide (field >= 0) then
   some (decide (field < 10))
  else
   some false)
 else
  some false)).bind fun s =>
 some s
def zx (a_ : zb) (e : Int) (field : Int) (v_ : Int) : Option (Bool × zb) :=
 (xi a_.m_ 1).bind fun t_ =>
 (xS (zb.mk a_.l a_.never a_.free t_) e field).bind fun i =>
 (bif !i then
  some (false,zb.mk a_.l a_.never a_.free t_)
 else
  (mIdx a_.l e).bind fun x =>
  (mIn field 10).bind fun u =>
  (zr.qD x field v_).bind fun y =>
  some (true,zb.mk (mSet a_.l e y) a_.never a_.free t_))
def oz (a_ : zb) (key : Int) (serial : Int) : Option (Int × Bool × zb) :=
 (w6 a_).bind fun t_ =>
 ((bif t_.2.1 then
  (zx t_.2.2 t_.1 7 key).bind fun e =>
  (zx e.2 t_.1 8 serial).bind fun i =>
  some i.2
 else
  some t_.2.2)).bind fun s =>
 some (t_.1,t_.2.1,s)
def rZ (a_ : zb) (n : Int) (i : Int) : Option (zb) :=
 (zx a_ n 6 i).bind fun t_ =>
 (zx t_.2 i 9 n).bind fun e =>
 some e.2
def qa (a_ : zb) (i : Int) : Option (Int × Bool × zb) :=
 (w6 a_).bind fun t_ =>
 ((bif t_.2.1 then
  (rZ t_.2.2 t_.1 i).bind fun e =>
  some e
 else
  some t_.2.2)).bind fun s =>
 some (t_.1,t_.2.1,s)
def xB (a_ : zb) : Option (Int) :=
 some (a_.l.length : Int)
def zS (a_ : zb) (i : Int) (field : Int) : Option (Int × zb) :=
 (xi a_.m_ 1).bind fun t_ =>
 (xS (zb.mk a_.l a_.never a_.free t_) i field).bind fun e =>
 (bif !e then
  some ((-1),zb.mk a_.l a_.never a_.free t_)
 else
  (mIdx a_.l i).bind fun x =>
  (mIn field 10).bind fun u =>
  (zr.rC x field).bind fun v_ =>
  some (v_,zb.mk a_.l a_.never a_.free t_))
def zC (a_ : zb) (e : Int) (field : Int) : Option (Int × zb) :=
 (zS a_ e field).bind fun t_ =>
 ((bif decide (t_.1 < 0) then
  some true
 else
  some (decide (t_.1 >= (t_.2.l.length : Int))))).bind fun s =>
 (bif s then
  some ((-1),t_.2)
 else
  some (t_.1,t_.2))
def sL (a_ : zb) (i : Int) : Option (zg × zb) :=
 (zS a_ i 7).bind fun t_ =>
 (zS t_.2 i 8).bind fun e =>
 some (zg.mk t_.1 e.1,e.2)
def vr (x : Int) : Option (Bool) :=
 some (x != x)
def wQ (x : Int) (y : Int) : Option (Int) :=
 (vr x).bind fun t_ =>
 (vr y).bind fun e =>
 (bif t_ then
  (bif e then
   some 0
  else
   some (-1))
 else
  (bif e then
   some 1
  else
   (bif decide (x < y) then
    some (-1)
   else
    (bif decide (x > y) then
     some 1
    else
     some 0))))
def vF (x1 : Int) (l : List Int) : Nat -> Int -> Option ((Int) ⊕ (Unit))
 | 0,_ => none
 | m + 1,x =>
  (bif decide (x < x1) then
   (mIdx l x).bind fun x2 =>
   (bif x2 != 0 then
    some (.inl x2)
   else
    vF x1 l m (w64 (x + 1)))
  else
   some (.inr ()))
def rW (k : Nat) (e : List Int) : Option (Int) :=
 (vF (e.length : Int) e k 0).bind fun s =>
 match s with
 | .inl i => some i
 | .inr s1 =>
  some 0
def xL (k : Nat) (a_ : zg) (b : zg) : Option (Int) :=
 (wQ a_.Key b.Key).bind fun t_ =>
 (wQ a_.Serial b.Serial).bind fun e =>
 (rW k ([t_,e] : List Int)).bind fun i =>
 some i
def s7 (k : Nat) (a_ : zb) (i : Int) (j : Int) : Option (Bool × zb) :=
 (sL a_ i).bind fun t_ =>
 (sL t_.2 j).bind fun e =>
 (xL k t_.1 e.1).bind fun l =>
 some ((decide (l < 0)) || ((l == 0) && (decide (i < j))),e.2)
def vA (k : Nat) (a_ : zb) (n : Int) (m_ : Int) : Option (Bool × zb) :=
 (zC a_ n 6).bind fun t_ =>
 (zC t_.2 m_ 6).bind fun e =>
 (s7 k e.2 t_.1 e.1).bind fun i =>
 some (i.1,i.2)
def u5 (a_ : zb) (n : Int) : Option (Int × zb) :=
 (bif n == (-1) then
  some (0,a_)
 else
  (zS a_ n 4).bind fun t_ =>
  some (t_.1,t_.2))
def tF (a_ : zb) (n : Int) : Option (Bool × zb) :=
 (zC a_ n 2).bind fun t_ =>
 (zC t_.2 n 3).bind fun i =>
 (u5 i.2 t_.1).bind fun j =>
 (u5 j.2 i.1).bind fun e =>
 ((bif decide (j.1 < e.1) then
  (zx e.2 n 2 i.1).bind fun t =>
  (zx t.2 n 3 t_.1).bind fun u =>
  some (j.1,u.2)
 else
  some (e.1,e.2))).bind fun s =>
 (zS s.2 n 4).bind fun l =>
 (zx l.2 n 4 (w64 (s.1 + 1))).bind fun x =>
 some (l.1 != (w64 (s.1 + 1)),x.2)
def wS : Nat -> Int -> Int -> (List Int) -> zb -> Option (Int × Int × (List Int) × zb)
 | 0,_,_,_,_ => none
 | m + 1,r1,s1,path,m_ =>
  ((bif r1 != (-1) then
   (bif s1 != (-1) then
    (xB m_).bind fun t_ =>
    some (decide ((path.length : Int) <= t_))
   else
    some false)
  else
   some false)).bind fun t =>
  (bif t then
   (vA m m_ s1 r1).bind fun e =>
   ((bif e.1 then
    some (s1,r1)
   else
    some (r1,s1))).bind fun j =>
   (mApp path ([j.1] : List Int)).bind fun l =>
   (zC e.2 j.1 3).bind fun i =>
   wS m i.1 j.2 l i.2
  else
   some (r1,s1,path,m_))
def xT (l1 : List Int) : Nat -> Int -> Int -> zb -> Option (Int × zb)
 | 0,_,_,_ => none
 | m + 1,top,e,i =>
  (bif decide (e >= 0) then
   (mIdx l1 e).bind fun x =>
   (zx i x 3 top).bind fun j =>
   (mIdx l1 e).bind fun x1 =>
   (zx j.2 top 0 x1).bind fun l =>
   (mIdx l1 e).bind fun x2 =>
   (tF l.2 x2).bind fun t =>
   xT l1 m x2 (w64 (e - 1)) t.2
  else
   some (top,i))
def wV (k : Nat) (a_ : zb) (r : Int) (s : Int) : Option (Int × zb) :=
 (bif r == s then
  some (r,a_)
 else
  (wS k r s ([] : List Int) a_).bind fun s2 =>
  (xT s2.2.2.1 k (if s2.2.1 > s2.1 then s2.2.1 else s2.1) (w64 ((s2.2.2.1.length : Int) - 1)) s2.2.2.2).bind fun e =>
  (zx e.2 e.1 0 (-1)).bind fun i =>
  some (e.1,i.2))
def se (k : Nat) (a_ : zb) (r : Int) (i : Int) : Option (Int × Bool × zb) :=
 (qa a_ i).bind fun t_ =>
 (bif !t_.2.1 then
  some (r,false,t_.2.2)
 else
  (zx t_.2.2 t_.1 4 1).bind fun j =>
  (wV k j.2 r t_.1).bind fun e =>
  some (e.1,true,e.2))
def uL (e : Int) : Nat -> Int -> (List Int) -> zb -> Option ((List Int) × zb)
 | 0,_,_,_ => none
 | m + 1,j,out,m_ =>
  ((yk m_ j).bind fun t_ =>
  (bif t_ then
   (xB m_).bind fun t =>
   some (decide ((out.length : Int) < t))
  else
   some false)).bind fun s1 =>
  (bif s1 then
   (mApp out ([j] : List Int)).bind fun l =>
   (zC m_ j e).bind fun i =>
   uL e m i.1 l i.2
  else
   some (out,m_))
def pf (k : Nat) (a_ : zb) (n : Int) (field : Int) : Option ((List Int) × zb) :=
 (uL field k n ([] : List Int) a_).bind fun s =>
 some (s.1,s.2)
def wg (k : Nat) (a_ : zb) (r : Int) : Option ((List Int) × zb) :=
 (pf k a_ r 3).bind fun t_ =>
 some (t_.1,t_.2)
def vT (x : zk) (y : zk) : Option (Int) :=
 some (if (if 1 < w64 (x.rank - y.rank) then 1 else w64 (x.rank - y.rank)) > (-1) then (if 1 < w64 (x.rank - y.rank) then 1 else w64 (x.rank - y.rank)) else (-1))
def zP (i : Int) (l : Int) (i1 : Int) : Nat -> Int -> (List zk) -> Option ((List zk))
 | 0,_,_ => none
 | m + 1,j,e =>
  ((bif decide (j > i) then
   (mIdx e j).bind fun x1 =>
   (mIdx e (w64 (j - 1))).bind fun x2 =>
   (vT x1 x2).bind fun t_ =>
   some (decide (t_ < 0))
  else
   some false)).bind fun s2 =>
  (bif s2 then
   (mIdx e (w64 (j - 1))).bind fun x3 =>
   (mIdx e j).bind fun x4 =>
   (mIdx e j).bind fun x5 =>
   (mIdx (mSet e j x3) (w64 (j - 1))).bind fun x6 =>
   zP i l i1 m (w64 (j - 1)) (mSet (mSet e j x3) (w64 (j - 1)) x4)
  else
   some e)
def zG (e : Int) (j : Int) : Nat -> Int -> (List zk) -> Option ((List zk))
 | 0,_,_ => none
 | m + 1,i,m_ =>
  (bif decide (i < j) then
   (zP e j i m i m_).bind fun s1 =>
   zG e j m (w64 (i + 1)) s1
  else
   some m_)
def zK (k : Nat) (data : List zk) (a_ : Int) (b : Int) : Option ((List zk)) :=
 (zG a_ b k (w64 (a_ + 1)) data).bind fun s =>
 (uo s.length data.length).bind fun u =>
 some s
def z7 (e : Int) : Nat -> Int -> Int -> (List zk) -> Option (Int × (List zk))
 | 0,_,_,_ => none
 | m + 1,a_,b,m_ =>
  (bif decide (b <= e) then
   (zK m m_ a_ b).bind fun t_ =>
   z7 e m b (w64 (b + 20)) t_
  else
   some (a_,m_))
def xA (l : Int) (e : Int) (l1 : List zk) : Nat -> Int -> Int -> Option (Int)
 | 0,_,_ => none
 | m + 1,i,j =>
  (bif decide (j <= l) then
   none
  else
   some i)
def yj (i : Int) (l : List zk) : Nat -> Int -> Option (Unit)
 | 0,_ => none
 | m + 1,e =>
  (bif decide (e < i) then
   (xA i e l m 0 (w64 (2 * e))).bind fun s2 =>
   ((bif decide (w64 (s2 + e) < i) then
    none
   else
    some ())).bind fun j =>
   yj i l m (w64 (e * 2))
  else
   some ())
def y5 (k : Nat) (data : List zk) (n : Int) : Option ((List zk)) :=
 (z7 n k 0 20 data).bind fun s =>
 (zK k s.2 s.1 n).bind fun e =>
 (yj n e k 20).bind fun s1 =>
 (uo e.length data.length).bind fun u =>
 some e
def yB (k : Nat) (x : List zk) : Option ((List zk)) :=
 (y5 k x (x.length : Int)).bind fun t_ =>
 (uo t_.length x.length).bind fun u =>
 some t_
def ug (a_ : zb) (n : Int) (up : Int) : Option (zb) :=
 (zC a_ up 1).bind fun t_ =>
 (zx t_.2 n 3 t_.1).bind fun e =>
 (zx e.2 n 0 up).bind fun i =>
 (zx i.2 up 1 n).bind fun j =>
 some j.2
def uQ (k : Nat) (a_ : zb) (n : Int) (m_ : Int) (rank : Int) : Option (Int × zb) :=
 (vA k a_ m_ n).bind fun t_ =>
 ((bif t_.1 then
  some (m_,n)
 else
  some (n,m_))).bind fun s =>
 (ug t_.2 s.2 s.1).bind fun e =>
 (zx e s.1 4 (w64 (rank + 1))).bind fun i =>
 some (s.1,i.2)
def um (l1 : List Int) : Nat -> Int -> Int -> zb -> Option (Int × zb)
 | 0,_,_,_ => none
 | m + 1,next,e,m_ =>
  (bif decide (e >= 0) then
   (mIdx l1 e).bind fun x =>
   (zx m_ x 3 next).bind fun t_ =>
   (mIdx l1 e).bind fun x1 =>
   (zx t_.2 x1 0 (-1)).bind fun i =>
   (mIdx l1 e).bind fun x2 =>
   um l1 m x2 (w64 (e - 1)) i.2
  else
   some (next,m_))
def pH (k : Nat) (a_ : zb) (l : List Int) : Option (Int × zb) :=
 (um l k (-1) (w64 ((l.length : Int) - 1)) a_).bind fun s =>
 some (s.1,s.2)
def vf (x1 : Int) (l1 : List Int) : Nat -> (List zk) -> Int -> zb -> Option ((List zk) × zb)
 | 0,_,_,_ => none
 | m + 1,wait,x,m_ =>
  (bif decide (x < x1) then
   (mIdx l1 x).bind fun x2 =>
   (zS m_ x2 4).bind fun t_ =>
   (mApp wait ([zk.mk x2 t_.1] : List zk)).bind fun l2 =>
   vf x1 l1 m l2 (w64 (x + 1)) t_.2
  else
   some (wait,m_))
def vg (j : List zk) (v_ : Int) (e : Int) (t : List Int) (l : zb) (u : List Int) : Nat -> Int -> Option (Int)
 | 0,_ => none
 | m + 1,i =>
  ((bif decide (i < (j.length : Int)) then
   (mIdx j i).bind fun x8 =>
   some (decide (x8.rank < e))
  else
   some false)).bind fun x =>
  (bif x then
   vg j v_ e t l u m (w64 (i + 1))
  else
   some i)
def wv (l : List Int) : Nat -> (List zk) -> (List Int) -> zb -> Option ((List Int) × zb)
 | 0,_,_,_ => none
 | m + 1,e,out,j =>
  (bif decide ((e.length : Int) > 0) then
   (mIdx e 0).bind fun x3 =>
   ((bif (e.length : Int) == 1 then
    some true
   else
    (mIdx e 1).bind fun x5 =>
    some (x5.rank != x3.rank))).bind fun s2 =>
   (bif s2 then
    (mCut e 1 (e.length : Int)).bind fun x =>
    (mApp out ([x3.n] : List Int)).bind fun y =>
    wv l m x y j
   else
    (mIdx e 1).bind fun x6 =>
    (uQ m j x3.n x6.n x3.rank).bind fun i =>
    (mCut e 2 (e.length : Int)).bind fun u =>
    (vg u ((zk.mk i.1 (w64 (x3.rank + 1))).n) ((zk.mk i.1 (w64 (x3.rank + 1))).rank) out i.2 l m 0).bind fun z =>
    (qx u z ([(zk.mk i.1 (w64 (x3.rank + 1)))] : List zk)).bind fun t =>
    wv l m t out i.2)
  else
   some (out,j))
def w3 (k : Nat) (a_ : zb) (l : List Int) : Option (Int × zb) :=
 (vf (l.length : Int) l k ([] : List zk) 0 a_).bind fun s =>
 (yB k s.1).bind fun i =>
 (wv l k i ([] : List Int) s.2).bind fun s1 =>
 (pH k s1.2 s1.1).bind fun e =>
 some (e.1,e.2)
def uu (k : Nat) (a_ : zb) (r : Int) (i : Int) : Option (Int × Bool × zb) :=
 (qa a_ i).bind fun t_ =>
 (bif !t_.2.1 then
  some (r,false,t_.2.2)
 else
  (wg k t_.2.2 r).bind fun e =>
  (mApp ([t_.1] : List Int) e.1).bind fun l =>
  (w3 k e.2 l).bind fun j =>
  some (j.1,true,j.2))
def sM (a_ : zb) (n : Int) (m_ : Int) : Option (zb) :=
 (zC a_ n 6).bind fun t_ =>
 (zC t_.2 m_ 6).bind fun e =>
 (rZ e.2 n e.1).bind fun i =>
 (rZ i m_ t_.1).bind fun j =>
 some j
def uO (k : Nat) (a_ : zb) (r : Int) (n : Int) : Option (Int × zb) :=
 ((bif r != (-1) then
  (zC a_ r 3).bind fun t_ =>
  some (t_.1,t_.2)
 else
  some ((-1),a_))).bind fun s =>
 (zS s.2 r 4).bind fun i =>
 ((bif s.1 == (-1) then
  some (true,i.2)
 else
  (zS i.2 s.1 4).bind fun t =>
  some (t.1 != i.1,t.2))).bind fun s1 =>
 (bif s1.1 then
  (zx s1.2 n 3 r).bind fun x =>
  (zx x.2 n 0 (-1)).bind fun y =>
  some (n,y.2)
 else
  (zC s1.2 s.1 3).bind fun u =>
  (uQ k u.2 r s.1 i.1).bind fun e =>
  (vA k e.2 n e.1).bind fun j =>
  ((bif j.1 then
   (sM j.2 n e.1).bind fun z =>
   some z
  else
   some j.2)).bind fun s2 =>
  (ug s2 n e.1).bind fun A =>
  (zx A e.1 3 u.1).bind fun l =>
  some (e.1,l.2))
def rT (k : Nat) (a_ : zb) (r : Int) (i : Int) : Option (Int × Bool × zb) :=
 (qa a_ i).bind fun t_ =>
 (bif !t_.2.1 then
  some (r,false,t_.2.2)
 else
  (uO k t_.2.2 r t_.1).bind fun e =>
  some (e.1,true,e.2))
def jX (a_ : zb) (r : Int) (i : Int) : Option (Int × Bool) :=
 none
def ot (a_ : zb) (r : Int) (i : Int) : Option (Int × Bool) :=
 none
def qZ (k : Nat) (l : Int) (a_ : zb) (r : Int) (i : Int) : Option (Int × Bool × zb) :=
 (bif l == 1 then
  (se k a_ r i).bind fun t_ =>
  some (t_.1,t_.2.1,t_.2.2)
 else
  (bif l == 2 then
   (uu k a_ r i).bind fun e =>
   some (e.1,e.2.1,e.2.2)
  else
   (bif l == 3 then
    (rT k a_ r i).bind fun j =>
    some (j.1,j.2.1,j.2.2)
   else
    (bif l == 4 then
     (jX a_ r i).bind fun t =>
     some (t.1,t.2,a_)
    else
     (bif l == 5 then
      (ot a_ r i).bind fun u =>
      some (u.1,u.2,a_)
     else
      some (r,false,a_))))))
def wm (p : zc) : Option (Int) :=
 some p.most
def yy (p : zc) (v_ : zy) : Option (zd × Bool × zc) :=
 ((bif decide (w64 ((p.free.length : Int) - 1) >= 0) then
  (mIdx p.free (w64 ((p.free.length : Int) - 1))).bind fun x =>
  (mCut p.free 0 (w64 ((p.free.length : Int) - 1))).bind fun l =>
  some (.inr (x,zc.mk p.most p.l l))
 else
  (bif decide ((p.l.length : Int) >= p.most) then
   some (.inl (zd.mk 0 0,false,p))
  else
   (mApp p.l ([zo.mk 0 false (zy.mk 0 (zd.mk 0 0))] : List zo)).bind fun l1 =>
   some (.inr ((p.l.length : Int),zc.mk p.most l1 p.free)))) : Option ((zd × Bool × zc) ⊕ (Int × zc))).bind fun s =>
 match s with
 | .inl e => some e
 | .inr s1 =>
  (mIdx s1.2.l s1.1).bind fun x1 =>
  some (zd.mk s1.1 (w64 (x1.gen + 1)),true,zc.mk s1.2.most (mSet (mSet (mSet s1.2.l s1.1 (zo.mk (w64 (x1.gen + 1)) x1.taken x1.v_)) s1.1 (zo.mk (w64 (x1.gen + 1)) true x1.v_)) s1.1 (zo.mk (w64 (x1.gen + 1)) true v_)) s1.2.free)
def uE (t_ : zj) (t : zd) (cell : Int) : Option (zd × Int × zj) :=
 (yw t_.heaps t).bind fun i =>
 (bif i.2 != 0 then
  some (zd.mk 0 0,i.2,t_)
 else
  (sP kI cell (zd.mk 0 0) t_.at_).bind fun x =>
  (yU t_.items).bind fun j =>
  (wm t_.items).bind fun l =>
  (bif j == l then
   some (zd.mk 0 0,13,t_)
  else
   (bif x.2 then
    some (zd.mk 0 0,1,t_)
   else
    (yy t_.items (zy.mk cell t)).bind fun e =>
    some (e.1,0,zj.mk ((zj.mk t_.heaps e.2.2 t_.at_).heaps) ((zj.mk t_.heaps e.2.2 t_.at_).items) (mPut kI cell e.1 ((zj.mk t_.heaps e.2.2 t_.at_).at_))))))
def xn (p : zh) (r : zd) (v_ : zA) : Option (Int × zh) :=
 (yT p r).bind fun t_ =>
 (ta t_.1
  (((bif t_.2 == 0 then
   none
  else
   some ())).bind fun s =>
  some (t_.2,p))
  (fun i =>
  (mIdx p.l i).bind fun x =>
  ((bif t_.2 == 0 then
   some (zh.mk p.most (mSet p.l i (zs.mk x.gen x.taken v_)) p.free)
  else
   some p)).bind fun s1 =>
  some (t_.2,s1)))
def xj (t_ : zj) (j : zd) (r : Int) (n : Int) : Option (Int × zj) :=
 (yw t_.heaps j).bind fun e =>
 ((bif e.2 == 0 then
  (xn t_.heaps j (zA.mk e.1.kind r n)).bind fun i =>
  some (zj.mk i.2 t_.items t_.at_)
 else
  some t_)).bind fun s =>
 some (e.2,s)
def vV (k : Nat) (q : zn) (l : yb) : Option (zI × zn) :=
 (y0 q.t_ l.Heap).bind fun t_ =>
 (bif t_.2.2.2 != 0 then
  (vd t_.2.2.2).bind fun t =>
  some (t,q)
 else
  (vH q.t_).bind fun u =>
  (bif decide (u >= q.items) then
   (vd 13).bind fun x =>
   some (x,q)
  else
   (oz q.a_ l.Key q.serial).bind fun j =>
   (qZ k t_.1 j.2.2 t_.2.1 j.1).bind fun i =>
   (uE q.t_ l.Heap j.1).bind fun e =>
   (xj ((zn.mk q.items i.2.2 e.2.2 q.entries q.serial).t_) l.Heap i.1 (w64 (t_.2.2.1 + 1))).bind fun y =>
   some (zI.mk 0 (zd.mk 0 0) e.1 (zg.mk l.Key q.serial) 0,zn.mk ((zn.mk q.items i.2.2 e.2.2 q.entries q.serial).items) ((zn.mk q.items i.2.2 e.2.2 q.entries q.serial).a_) y.2 (mPut zd.eq e.1 (zg.mk l.Key q.serial) ((zn.mk q.items i.2.2 e.2.2 q.entries q.serial).entries)) (w64 (((zn.mk q.items i.2.2 e.2.2 q.entries q.serial).serial) + 1)))))
def ra (a_ : zb) (r : Int) : Option (Int × zb) :=
 (zC a_ r 6).bind fun t_ =>
 some (t_.1,t_.2)
def wK (x1 : Int) (l1 : List Int) : Nat -> Int -> Int -> zb -> Option (Int × zb)
 | 0,_,_,_ => none
 | m + 1,e,x,m_ =>
  (bif decide (x < x1) then
   ((mIdx l1 x).bind fun x2 =>
   ((bif e == (-1) then
    some (true,m_)
   else
    (vA m m_ x2 e).bind fun t_ =>
    some (t_.1,t_.2))).bind fun s2 =>
   (bif s2.1 then
    some (x2,s2.2)
   else
    some (e,s2.2))).bind fun s1 =>
   wK x1 l1 m s1.1 (w64 (x + 1)) s1.2
  else
   some (e,m_))
def ve (k : Nat) (a_ : zb) (l : List Int) : Option (Int × zb) :=
 (wK (l.length : Int) l k (-1) 0 a_).bind fun s =>
 some (s.1,s.2)
def uY (k : Nat) (a_ : zb) (r : Int) : Option (Int × zb) :=
 (wg k a_ r).bind fun t_ =>
 (ve k t_.2 t_.1).bind fun e =>
 (zC e.2 e.1 6).bind fun i =>
 some (i.1,i.2)
def pz (k : Nat) (a_ : zb) (r : Int) : Option (Int × zb) :=
 (wg k a_ r).bind fun t_ =>
 (ve k t_.2 t_.1).bind fun e =>
 (zC e.2 e.1 6).bind fun i =>
 some (i.1,i.2)
def fF (a_ : zb) (r : Int) : Option (Int) :=
 none
def o7 (a_ : zb) (r : Int) : Option (Int) :=
 none
def oB (k : Nat) (e : Int) (a_ : zb) (r : Int) : Option (Int × zb) :=
 (bif e == 1 then
  (ra a_ r).bind fun t_ =>
  some (t_.1,t_.2)
 else
  (bif e == 2 then
   (uY k a_ r).bind fun i =>
   some (i.1,i.2)
  else
   (bif e == 3 then
    (pz k a_ r).bind fun j =>
    some (j.1,j.2)
   else
    (bif e == 4 then
     (fF a_ r).bind fun l =>
     some (l,a_)
    else
     (bif e == 5 then
      (o7 a_ r).bind fun t =>
      some (t,a_)
     else
      some ((-1),a_))))))
def vR (t_ : zj) (cell : Int) : Option (zd × Bool) :=
 (sP kI cell (zd.mk 0 0) t_.at_).bind fun x =>
 some (x.1,x.2)
def rH (k : Nat) (a_ : zb) (n : Int) : Option (Int × zb) :=
 (zC a_ n 2).bind fun t_ =>
 (zC t_.2 n 3).bind fun e =>
 (wV k e.2 t_.1 e.1).bind fun i =>
 some (i.1,i.2)
def w5 (a_ : zb) (e : Int) : Option (Bool × zb) :=
 (xi a_.m_ 1).bind fun t_ =>
 (yk (zb.mk a_.l a_.never a_.free t_) e).bind fun i =>
 (bif !i then
  some (false,zb.mk a_.l a_.never a_.free t_)
 else
  (mIdx a_.l e).bind fun x =>
  (mApp a_.free ([e] : List Int)).bind fun l =>
  some (true,zb.mk (mSet a_.l e (zr.mk x.f0 x.f1 x.f2 x.f3 x.f4 x.f5 x.f6 x.f7 x.f8 x.f9 false)) a_.never l t_))
def rl (a_ : zb) (n : Int) : Option (Int × zb) :=
 (zC a_ n 6).bind fun t_ =>
 (zx t_.2 t_.1 9 (-1)).bind fun e =>
 (w5 e.2 n).bind fun i =>
 some (t_.1,i.2)
def uc (k : Nat) (a_ : zb) (r : Int) : Option (Int × Int × zb) :=
 ((yk a_ r).bind fun t_ =>
 some (!t_)).bind fun s =>
 (bif s then
  some ((-1),(-1),a_)
 else
  (rH k a_ r).bind fun e =>
  (zx e.2 e.1 0 (-1)).bind fun j =>
  (rl j.2 r).bind fun i =>
  some (e.1,i.1,i.2))
def wz (x : Int) (v_ : Int) : Option (Bool) :=
 some (x == v_)
def zX (x1 : Int) (l : List Int) (e : Int) : Nat -> Int -> Option ((Int) ⊕ (Unit))
 | 0,_ => none
 | m + 1,x =>
  (bif decide (x < x1) then
   (mIdx l x).bind fun x2 =>
   (wz x2 e).bind fun t_ =>
   (bif t_ then
    some (.inl x)
   else
    zX x1 l e m (w64 (x + 1)))
  else
   some (.inr ()))
def xP (k : Nat) (s : List Int) (v_ : Int) : Option (Int) :=
 (zX (s.length : Int) s v_ k 0).bind fun s1 =>
 match s1 with
 | .inl e => some e
 | .inr s2 =>
  some (-1)
def yg (e : Int) : Nat -> Int -> Int -> (List Int) -> Option (Int × (List Int))
 | 0,_,_,_ => none
 | m + 1,i,j,m_ =>
  (bif decide (j < (m_.length : Int)) then
   ((mIdx m_ j).bind fun x =>
   (wz x e).bind fun l =>
   (bif !l then
    (mIdx m_ i).bind fun x1 =>
    some (w64 (i + 1),mSet m_ i x)
   else
    some (i,m_))).bind fun s2 =>
   yg e m s2.1 (w64 (j + 1)) s2.2
  else
   some (i,m_))
def y6 (k : Nat) (s : List Int) (v_ : Int) : Option ((List Int)) :=
 (xP k s v_).bind fun t_ =>
 (bif t_ == (-1) then
  some s
 else
  (yg v_ k t_ (w64 (t_ + 1)) s).bind fun s1 =>
  (mCut s1.2 s1.1 (s1.2.length : Int)).bind fun l =>
  (mCut (rz s1.2 s1.1 0) 0 s1.1).bind fun l1 =>
  some l1)
def tw (k : Nat) (a_ : zb) (n : Int) : Option ((List Int) × zb) :=
 (zC a_ n 1).bind fun t_ =>
 (pf k t_.2 t_.1 3).bind fun e =>
 some (e.1,e.2)
def xv (k : Nat) (a_ : zb) (l : List Int) (n : Int) : Option (Int × Int × zb) :=
 (y6 k l n).bind fun t_ =>
 (tw k a_ n).bind fun e =>
 (mApp t_ e.1).bind fun l1 =>
 (rl e.2 n).bind fun i =>
 (w3 k i.2 l1).bind fun j =>
 some (j.1,i.1,j.2)
def uZ (k : Nat) (a_ : zb) (r : Int) : Option (Int × Int × zb) :=
 ((yk a_ r).bind fun t_ =>
 some (!t_)).bind fun s =>
 (bif s then
  some ((-1),(-1),a_)
 else
  (wg k a_ r).bind fun e =>
  (ve k e.2 e.1).bind fun j =>
  (xv k j.2 e.1 j.1).bind fun i =>
  some (i.1,i.2.1,i.2.2))
def vC (x : Int) (v_ : Int) : Option (Bool) :=
 some (x == v_)
def zY (x1 : Int) (l : List Int) (e : Int) : Nat -> Int -> Option ((Int) ⊕ (Unit))
 | 0,_ => none
 | m + 1,x =>
  (bif decide (x < x1) then
   (mIdx l x).bind fun x2 =>
   (vC x2 e).bind fun t_ =>
   (bif t_ then
    some (.inl x)
   else
    zY x1 l e m (w64 (x + 1)))
  else
   some (.inr ()))
def xQ (k : Nat) (s : List Int) (v_ : Int) : Option (Int) :=
 (zY (s.length : Int) s v_ k 0).bind fun s1 =>
 match s1 with
 | .inl e => some e
 | .inr s2 =>
  some (-1)
def yh (e : Int) : Nat -> Int -> Int -> (List Int) -> Option (Int × (List Int))
 | 0,_,_,_ => none
 | m + 1,i,j,m_ =>
  (bif decide (j < (m_.length : Int)) then
   ((mIdx m_ j).bind fun x =>
   (vC x e).bind fun l =>
   (bif !l then
    (mIdx m_ i).bind fun x1 =>
    some (w64 (i + 1),mSet m_ i x)
   else
    some (i,m_))).bind fun s2 =>
   yh e m s2.1 (w64 (j + 1)) s2.2
  else
   some (i,m_))
def y7 (k : Nat) (s : List Int) (v_ : Int) : Option ((List Int)) :=
 (xQ k s v_).bind fun t_ =>
 (bif t_ == (-1) then
  some s
 else
  (yh v_ k t_ (w64 (t_ + 1)) s).bind fun s1 =>
  (mCut s1.2 s1.1 (s1.2.length : Int)).bind fun l =>
  (mCut (rz s1.2 s1.1 0) 0 s1.1).bind fun l1 =>
  some l1)
def xU (x1 : Int) (l1 : List Int) (v_ : Int) : Nat -> (List Int) -> (List Int) -> Int -> zb -> Option ((List Int) × (List Int) × zb)
 | 0,_,_,_,_ => none
 | m + 1,rest,alone,x,m_ =>
  (bif decide (x < x1) then
   ((mIdx l1 x).bind fun x2 =>
   (zS m_ x2 4).bind fun e =>
   (bif e.1 == 0 then
    (mApp alone ([x2] : List Int)).bind fun l2 =>
    some (rest,l2,e.2)
   else
    (mApp rest ([x2] : List Int)).bind fun i =>
    some (i,alone,e.2))).bind fun s1 =>
   xU x1 l1 v_ m s1.1 s1.2.1 (w64 (x + 1)) s1.2.2
  else
   some (rest,alone,m_))
def xV (i : Int) (x4 : Int) (l : List Int) : Nat -> Int -> Int -> zb -> Option (Int × zb)
 | 0,_,_,_ => none
 | m + 1,t,x3,e =>
  (bif decide (x3 < x4) then
   (mIdx l x3).bind fun x5 =>
   (uO m e t x5).bind fun j =>
   xV i x4 l m j.1 (w64 (x3 + 1)) j.2
  else
   some (t,e))
def wW (k : Nat) (a_ : zb) (l : List Int) (n : Int) : Option (Int × Int × zb) :=
 (y7 k l n).bind fun t_ =>
 (tw k a_ n).bind fun e =>
 (xU (e.1.length : Int) e.1 n k t_ ([] : List Int) 0 e.2).bind fun s =>
 (rl s.2.2 n).bind fun i =>
 (w3 k i.2 s.1).bind fun j =>
 (xV i.1 (s.2.1.length : Int) s.2.1 k j.1 0 j.2).bind fun s2 =>
 some (s2.1,i.1,s2.2)
def pD (k : Nat) (a_ : zb) (r : Int) : Option (Int × Int × zb) :=
 ((yk a_ r).bind fun t_ =>
 some (!t_)).bind fun s =>
 (bif s then
  some ((-1),(-1),a_)
 else
  (wg k a_ r).bind fun e =>
  (ve k e.2 e.1).bind fun j =>
  (wW k j.2 e.1 j.1).bind fun i =>
  some (i.1,i.2.1,i.2.2))
def fG (a_ : zb) (r : Int) : Option (Int × Int) :=
 none
def o8 (a_ : zb) (r : Int) : Option (Int × Int) :=
 none
def oC (k : Nat) (j : Int) (a_ : zb) (r : Int) : Option (Int × Int × zb) :=
 (bif j == 1 then
  (uc k a_ r).bind fun t_ =>
  some (t_.1,t_.2.1,t_.2.2)
 else
  (bif j == 2 then
   (uZ k a_ r).bind fun e =>
   some (e.1,e.2.1,e.2.2)
  else
   (bif j == 3 then
    (pD k a_ r).bind fun i =>
    some (i.1,i.2.1,i.2.2)
   else
    (bif j == 4 then
     (fG a_ r).bind fun l =>
     some (l.1,l.2,a_)
    else
     (bif j == 5 then
      (o8 a_ r).bind fun t =>
      some (t.1,t.2,a_)
     else
      some ((-1),(-1),a_))))))
def yM (p : zc) (r : zd) : Option ((Option Int) × Int) :=
 ((bif decide (r.At < 0) then
  some true
 else
  (bif decide (r.At >= (p.l.length : Int)) then
   some true
  else
   (bif decide (r.Gen < 1) then
    some true
   else
    (mIdx p.l r.At).bind fun x1 =>
    some (decide (r.Gen > x1.gen)))))).bind fun s =>
 (bif s then
  some ((none : Option Int),22)
 else
  (mIdx p.l r.At).bind fun x2 =>
  (bif (decide (r.Gen < x2.gen)) || (!x2.taken) then
   some ((none : Option Int),23)
  else
   some ((some r.At : Option Int),0)))
def xy (p : zc) (r : zd) : Option (zy × Int × zc) :=
 (yM p r).bind fun t_ =>
 (ta t_.1
  ((bif t_.2 != 0 then
   some (zy.mk 0 (zd.mk 0 0),t_.2,p)
  else
   none))
  (fun i =>
  (mIdx p.l i).bind fun x =>
  (bif t_.2 != 0 then
   some (zy.mk 0 (zd.mk 0 0),t_.2,p)
  else
   (mApp p.free ([r.At] : List Int)).bind fun l =>
   some (x.v_,0,zc.mk p.most (mSet (mSet p.l i (zo.mk x.gen false x.v_)) i (zo.mk x.gen false (zy.mk 0 (zd.mk 0 0)))) l))))
def tg (t_ : zj) (i : zd) : Option (Int × Int × zj) :=
 (xy t_.items i).bind fun e =>
 ((bif e.2.1 == 0 then
  some (zj.mk ((zj.mk t_.heaps e.2.2 t_.at_).heaps) ((zj.mk t_.heaps e.2.2 t_.at_).items) (mDel kI e.1.cell ((zj.mk t_.heaps e.2.2 t_.at_).at_)))
 else
  some (zj.mk t_.heaps e.2.2 t_.at_))).bind fun s =>
 some (e.1.cell,e.2.1,s)
def vP (q : zn) (i : zd) : Option (zg × zn) :=
 (tg q.t_ i).bind fun t_ =>
 (w5 q.a_ t_.1).bind fun e =>
 (sP zd.eq i (zg.mk 0 0) q.entries).bind fun x =>
 some (x.1,zn.mk q.items e.2 t_.2.2 (mDel zd.eq i q.entries) q.serial)
def wZ (k : Nat) (q : zn) (A : zd) (out : Bool) : Option (zI × zn) :=
 (y0 q.t_ A).bind fun t_ =>
 (bif t_.2.2.2 != 0 then
  (vd t_.2.2.2).bind fun u =>
  some (u,q)
 else
  (bif t_.2.2.1 == 0 then
   (vd 27).bind fun y =>
   some (y,q)
  else
   (bif !out then
    (oB k t_.1 q.a_ t_.2.1).bind fun e =>
    (vR q.t_ e.1).bind fun j =>
    (sP zd.eq j.1 (zg.mk 0 0) ((zn.mk q.items e.2 q.t_ q.entries q.serial).entries)).bind fun x =>
    some (zI.mk 0 (zd.mk 0 0) j.1 x.1 0,(zn.mk q.items e.2 q.t_ q.entries q.serial))
   else
    (oC k t_.1 q.a_ t_.2.1).bind fun i =>
    (vR q.t_ i.2.1).bind fun l =>
    (xj q.t_ A i.1 (w64 (t_.2.2.1 - 1))).bind fun z =>
    (vP (zn.mk q.items i.2.2 z.2 q.entries q.serial) l.1).bind fun t =>
    some (zI.mk 0 (zd.mk 0 0) l.1 t.1 0,t.2))))
def ym (p : zc) (r : zd) : Option (zy × Int) :=
 (yM p r).bind fun t_ =>
 (ta t_.1
  ((bif t_.2 != 0 then
   some (zy.mk 0 (zd.mk 0 0),t_.2)
  else
   none))
  (fun i =>
  (mIdx p.l i).bind fun x =>
  (bif t_.2 != 0 then
   some (zy.mk 0 (zd.mk 0 0),t_.2)
  else
   some (x.v_,0))))
def w8 (t_ : zj) (i : zd) : Option (Int × Int) :=
 (ym t_.items i).bind fun e =>
 some (e.1.cell,e.2)
def vS (t_ : zj) (i : zd) : Option (zd × Int) :=
 (ym t_.items i).bind fun e =>
 some (e.1.heap,e.2)
def tr (a_ : zb) (i : Int) (key : Int) : Option (Bool × zb) :=
 ((zS a_ i 7).bind fun t_ =>
 some (decide (key > t_.1),t_.2)).bind fun s =>
 (bif s.1 then
  some (false,s.2)
 else
  (zx s.2 i 7 key).bind fun e =>
  some (e.1,e.2))
def vu (a_ : zb) (i : Int) : Option (Int × zb) :=
 (zC a_ i 9).bind fun t_ =>
 some (t_.1,t_.2)
def xh : Nat -> Int -> Int -> zb -> Option (zb)
 | 0,_,_,_ => none
 | m + 1,p,l,m_ =>
  ((bif p != (-1) then
   (xB m_).bind fun j =>
   (bif decide (l <= j) then
    (tF m_ p).bind fun e =>
    some (e.1,e.2)
   else
    some (false,m_))
  else
   some (false,m_))).bind fun s2 =>
  (bif s2.1 then
   (zC s2.2 p 0).bind fun i =>
   xh m i.1 (w64 (l + 1)) i.2
  else
   some s2.2)
def uC (k : Nat) (a_ : zb) (n : Int) : Option (zb) :=
 (zC a_ n 0).bind fun t_ =>
 (zC t_.2 t_.1 2).bind fun e =>
 ((bif e.1 == n then
  (zx e.2 t_.1 2 (-1)).bind fun j =>
  some j.2
 else
  (zC e.2 t_.1 3).bind fun i =>
  (bif i.1 == n then
   (zx i.2 t_.1 3 (-1)).bind fun l =>
   some l.2
  else
   some i.2))).bind fun s =>
 (zx s n 0 (-1)).bind fun t =>
 (xh k t_.1 0 t.2).bind fun s1 =>
 some s1
def sa (k : Nat) (a_ : zb) (r : Int) (i : Int) : Option (Int × zb) :=
 (vu a_ i).bind fun t_ =>
 ((bif t_.1 == (-1) then
  some (true,t_.2)
 else
  (bif t_.1 == r then
   some (true,t_.2)
  else
   (zC t_.2 t_.1 0).bind fun e =>
   some (e.1 == (-1),e.2)))).bind fun s =>
 (bif s.1 then
  some (r,s.2)
 else
  (uC k s.2 t_.1).bind fun l =>
  (wV k l r t_.1).bind fun j =>
  some (j.1,j.2))
def w4 (i : Bool) : Nat -> Int -> Int -> zb -> Option (Int × zb)
 | 0,_,_,_ => none
 | m + 1,n,u,m_ =>
  ((bif n != (-1) then
   (xB m_).bind fun l =>
   some (decide (u <= l))
  else
   some false)).bind fun s1 =>
  (bif s1 then
   (zC m_ n 0).bind fun e =>
   ((bif e.1 == (-1) then
    some (true,e.2)
   else
    (bif !i then
     (vA m e.2 n e.1).bind fun j =>
     some (!j.1,j.2)
    else
     some (false,e.2)))).bind fun s2 =>
   (bif s2.1 then
    some (n,s2.2)
   else
    (sM s2.2 n e.1).bind fun t =>
    w4 i m e.1 (w64 (u + 1)) t)
  else
   some (n,m_))
def uR (k : Nat) (a_ : zb) (i : Int) (any : Bool) : Option (Int × zb) :=
 (vu a_ i).bind fun t_ =>
 (w4 any k t_.1 0 t_.2).bind fun s =>
 some (s.1,s.2)
def uq (k : Nat) (a_ : zb) (r : Int) (i : Int) : Option (Int × zb) :=
 (uR k a_ i false).bind fun t_ =>
 some (r,t_.2)
def rQ (k : Nat) (a_ : zb) (r : Int) (i : Int) : Option (Int × zb) :=
 (uR k a_ i false).bind fun t_ =>
 some (r,t_.2)
def jV (a_ : zb) (r : Int) (i : Int) : Option (Int) :=
 none
def oo (a_ : zb) (r : Int) (i : Int) : Option (Int) :=
 none
def qX (k : Nat) (e : Int) (a_ : zb) (r : Int) (i : Int) : Option (Int × zb) :=
 (bif e == 1 then
  (sa k a_ r i).bind fun t_ =>
  some (t_.1,t_.2)
 else
  (bif e == 2 then
   (uq k a_ r i).bind fun j =>
   some (j.1,j.2)
  else
   (bif e == 3 then
    (rQ k a_ r i).bind fun l =>
    some (l.1,l.2)
   else
    (bif e == 4 then
     (jV a_ r i).bind fun t =>
     some (t,a_)
    else
     (bif e == 5 then
      (oo a_ r i).bind fun u =>
      some (u,a_)
     else
      some (r,a_))))))
def vn (k : Nat) (q : zn) (e : yb) : Option (zI × zn) :=
 (w8 q.t_ e.Item).bind fun t_ =>
 (sP zd.eq e.Item (zg.mk 0 0) q.entries).bind fun x =>
 (bif t_.2 != 0 then
  (vd t_.2).bind fun t =>
  some (t,q)
 else
  (bif decide (e.Key > x.1.Key) then
   (vd 26).bind fun u =>
   some (u,q)
  else
   (vS q.t_ e.Item).bind fun j =>
   (y0 q.t_ j.1).bind fun i =>
   (tr q.a_ t_.1 e.Key).bind fun y =>
   (qX k i.1 y.2 i.2.1 t_.1).bind fun l =>
   (xj q.t_ j.1 l.1 i.2.2.1).bind fun z =>
   some (zI.mk 0 (zd.mk 0 0) (zd.mk 0 0) (zg.mk e.Key x.1.Serial) 0,zn.mk q.items l.2 z.2 (mPut zd.eq e.Item (zg.mk e.Key x.1.Serial) q.entries) q.serial)))
def s9 (k : Nat) (a_ : zb) (r : Int) (i : Int) : Option (Int × zb) :=
 (vu a_ i).bind fun t_ =>
 (bif t_.1 == (-1) then
  some (r,t_.2)
 else
  ((bif t_.1 == r then
   some (true,t_.2)
  else
   (zC t_.2 t_.1 0).bind fun e =>
   some (e.1 == (-1),e.2))).bind fun s =>
  (bif s.1 then
   (uc k s.2 t_.1).bind fun j =>
   some (j.1,j.2.2)
  else
   (uC k s.2 t_.1).bind fun u =>
   (uc k u t_.1).bind fun l =>
   (wV k l.2.2 r l.1).bind fun t =>
   some (t.1,t.2)))
def wC (e : Int) (x1 : Int) (l : List Int) : Nat -> Int -> Option ((Int) ⊕ (Unit))
 | 0,_ => none
 | m + 1,x =>
  (bif decide (x < x1) then
   (mIdx l x).bind fun x2 =>
   (bif e == x2 then
    some (.inl x)
   else
    wC e x1 l m (w64 (x + 1)))
  else
   some (.inr ()))
def te (k : Nat) (s : List Int) (v_ : Int) : Option (Int) :=
 (wC v_ (s.length : Int) s k 0).bind fun s1 =>
 match s1 with
 | .inl e => some e
 | .inr s2 =>
  some (-1)
def wB (k : Nat) (s : List Int) (v_ : Int) : Option (Bool) :=
 (te k s v_).bind fun t_ =>
 some (decide (t_ >= 0))
def uX (k : Nat) (a_ : zb) (r : Int) (i : Int) : Option (Int × zb) :=
 (vu a_ i).bind fun t_ =>
 (bif t_.1 == (-1) then
  some (r,t_.2)
 else
  (uR k t_.2 i true).bind fun j =>
  (wg k j.2 r).bind fun e =>
  (wB k e.1 j.1).bind fun t =>
  (bif !t then
   some (r,e.2)
  else
   (xv k e.2 e.1 j.1).bind fun l =>
   some (l.1,l.2.2)))
def py (k : Nat) (a_ : zb) (r : Int) (i : Int) : Option (Int × zb) :=
 (vu a_ i).bind fun t_ =>
 (bif t_.1 == (-1) then
  some (r,t_.2)
 else
  (uR k t_.2 i true).bind fun j =>
  (wg k j.2 r).bind fun e =>
  (wB k e.1 j.1).bind fun t =>
  (bif !t then
   some (r,e.2)
  else
   (wW k e.2 e.1 j.1).bind fun l =>
   some (l.1,l.2.2)))
def fE (a_ : zb) (r : Int) (i : Int) : Option (Int) :=
 none
def o6 (a_ : zb) (r : Int) (i : Int) : Option (Int) :=
 none
def oA (k : Nat) (e : Int) (a_ : zb) (r : Int) (i : Int) : Option (Int × zb) :=
 (bif e == 1 then
  (s9 k a_ r i).bind fun t_ =>
  some (t_.1,t_.2)
 else
  (bif e == 2 then
   (uX k a_ r i).bind fun j =>
   some (j.1,j.2)
  else
   (bif e == 3 then
    (py k a_ r i).bind fun l =>
    some (l.1,l.2)
   else
    (bif e == 4 then
     (fE a_ r i).bind fun t =>
     some (t,a_)
    else
     (bif e == 5 then
      (o6 a_ r i).bind fun u =>
      some (u,a_)
     else
      some (r,a_))))))
def vW (k : Nat) (q : zn) (i : zd) : Option (zI × zn) :=
 (w8 q.t_ i).bind fun t_ =>
 (bif t_.2 != 0 then
  (vd t_.2).bind fun u =>
  some (u,q)
 else
  (vS q.t_ i).bind fun j =>
  (y0 q.t_ j.1).bind fun e =>
  (oA k e.1 q.a_ e.2.1 t_.1).bind fun l =>
  (xj q.t_ j.1 l.1 (w64 (e.2.2.1 - 1))).bind fun x =>
  (vP (zn.mk q.items l.2 x.2 q.entries q.serial) i).bind fun t =>
  some (zI.mk 0 (zd.mk 0 0) (zd.mk 0 0) t.1 0,t.2))
def yE (x1 : Int) (m_ : zc) : Nat -> (List zd) -> Int -> Option ((List zd))
 | 0,_,_ => none
 | m + 1,out,x =>
  (bif decide (x < x1) then
   ((mIdx m_.l x).bind fun x2 =>
   (bif x2.taken then
    (mApp out ([zd.mk x x2.gen] : List zd)).bind fun l =>
    some l
   else
    some out)).bind fun s1 =>
   yE x1 m_ m s1 (w64 (x + 1))
  else
   some out)
def xN (k : Nat) (p : zc) : Option ((List zd)) :=
 (yE (p.l.length : Int) p k ([] : List zd) 0).bind fun s =>
 some s
def xF (x1 : Int) (m_ : zj) (l : List zd) (v_ : Int) (e : Int) : Nat -> (List zd) -> Int -> Option ((List zd))
 | 0,_,_ => none
 | m + 1,out,x =>
  (bif decide (x < x1) then
   ((mIdx l x).bind fun x2 =>
   (ym m_.items x2).bind fun i =>
   (bif zd.eq i.1.heap (zd.mk v_ e) then
    (mApp out ([x2] : List zd)).bind fun l1 =>
    some l1
   else
    some out)).bind fun s1 =>
   xF x1 m_ l v_ e m s1 (w64 (x + 1))
  else
   some out)
def vZ (k : Nat) (t_ : zj) (i : zd) : Option ((List zd)) :=
 (xN k t_.items).bind fun e =>
 (xF (e.length : Int) t_ e i.At i.Gen k ([] : List zd) 0).bind fun s =>
 some s
def xO (p : zc) (r : zd) (v_ : zy) : Option (Int × zc) :=
 (yM p r).bind fun t_ =>
 (ta t_.1
  (((bif t_.2 == 0 then
   none
  else
   some ())).bind fun s =>
  some (t_.2,p))
  (fun i =>
  (mIdx p.l i).bind fun x =>
  ((bif t_.2 == 0 then
   some (zc.mk p.most (mSet p.l i (zo.mk x.gen x.taken v_)) p.free)
  else
   some p)).bind fun s1 =>
  some (t_.2,s1)))
def xM (p : zh) (r : zd) : Option (zA × Int × zh) :=
 (yT p r).bind fun t_ =>
 (ta t_.1
  ((bif t_.2 != 0 then
   some (zA.mk 0 0 0,t_.2,p)
  else
   none))
  (fun i =>
  (mIdx p.l i).bind fun x =>
  (bif t_.2 != 0 then
   some (zA.mk 0 0 0,t_.2,p)
  else
   (mApp p.free ([r.At] : List Int)).bind fun l =>
   some (x.v_,0,zh.mk p.most (mSet (mSet p.l i (zs.mk x.gen false x.v_)) i (zs.mk x.gen false (zA.mk 0 0 0))) l))))
def xE (x1 : Int) (l : List zd) (v_ : Int) (u : Int) (e : Int) (i : Int) : Nat -> Int -> zj -> Option (zj)
 | 0,_,_ => none
 | m + 1,x,m_ =>
  (bif decide (x < x1) then
   (mIdx l x).bind fun x2 =>
   (ym m_.items x2).bind fun j =>
   (xO m_.items x2 (zy.mk j.1.cell (zd.mk e i))).bind fun t =>
   xE x1 l v_ u e i m (w64 (x + 1)) (zj.mk m_.heaps t.2 m_.at_)
  else
   some m_)
def vY (k : Nat) (t_ : zj) (t : zd) (o : zd) : Option (Int × zj) :=
 (yw t_.heaps t).bind fun e =>
 (bif e.2 != 0 then
  some (e.2,t_)
 else
  (yw t_.heaps o).bind fun i =>
  (bif i.2 != 0 then
   some (i.2,t_)
  else
   (bif zd.eq t o then
    some (25,t_)
   else
    (bif e.1.kind != i.1.kind then
     some (24,t_)
    else
     (vZ k t_ o).bind fun j =>
     (xE (j.length : Int) j o.At o.Gen t.At t.Gen k 0 t_).bind fun s =>
     (xM s.heaps o).bind fun l =>
     some (l.2.1,zj.mk l.2.2 s.items s.at_)))))
def sd (k : Nat) (a_ : zb) (r : Int) (s : Int) : Option (Int × zb) :=
 (wV k a_ r s).bind fun t_ =>
 some (t_.1,t_.2)
def ur (k : Nat) (a_ : zb) (r : Int) (s : Int) : Option (Int × zb) :=
 (bif r == s then
  some (r,a_)
 else
  (wg k a_ r).bind fun t_ =>
  (wg k t_.2 s).bind fun e =>
  (mApp t_.1 e.1).bind fun l =>
  (w3 k e.2 l).bind fun i =>
  some (i.1,i.2))
def rR (k : Nat) (a_ : zb) (r : Int) (s : Int) : Option (Int × zb) :=
 (bif r == s then
  some (r,a_)
 else
  (wg k a_ r).bind fun t_ =>
  (wg k t_.2 s).bind fun e =>
  (mApp t_.1 e.1).bind fun l =>
  (w3 k e.2 l).bind fun i =>
  some (i.1,i.2))
def jW (a_ : zb) (r : Int) (s : Int) : Option (Int) :=
 none
def oq (a_ : zb) (r : Int) (s : Int) : Option (Int) :=
 none
def qY (k : Nat) (e : Int) (a_ : zb) (r : Int) (s : Int) : Option (Int × zb) :=
 (bif e == 1 then
  (sd k a_ r s).bind fun t_ =>
  some (t_.1,t_.2)
 else
  (bif e == 2 then
   (ur k a_ r s).bind fun i =>
   some (i.1,i.2)
  else
   (bif e == 3 then
    (rR k a_ r s).bind fun j =>
    some (j.1,j.2)
   else
    (bif e == 4 then
     (jW a_ r s).bind fun l =>
     some (l,a_)
    else
     (bif e == 5 then
      (oq a_ r s).bind fun t =>
      some (t,a_)
     else
      some (r,a_))))))
def uV (k : Nat) (q : zn) (l : zd) (o : zd) : Option (zI × zn) :=
 (y0 q.t_ l).bind fun t_ =>
 (y0 q.t_ o).bind fun i =>
 (vY k q.t_ l o).bind fun e =>
 (bif e.1 != 0 then
  (vd e.1).bind fun t =>
  some (t,zn.mk q.items q.a_ e.2 q.entries q.serial)
 else
  (qY k t_.1 q.a_ t_.2.1 i.2.1).bind fun j =>
  (xj e.2 l j.1 (w64 (t_.2.2.1 + i.2.2.1))).bind fun u =>
  some (zI.mk 0 (zd.mk 0 0) (zd.mk 0 0) (zg.mk 0 0) (w64 (t_.2.2.1 + i.2.2.1)),zn.mk q.items j.2 u.2 q.entries q.serial))
def sS (q : zn) (e : zd) : Option (zI) :=
 none
def zZ (k : Nat) (q : zn) (i : yb) : Option (zI × zn) :=
 (uI q.a_).bind fun t_ =>
 (uK q.a_.m_).bind fun e =>
 (bif i.Op == 1 then
  (v7 q.t_ i.Kind).bind fun j =>
  some (zI.mk j.2.1 j.1 (zd.mk 0 0) (zg.mk 0 0) 0,zn.mk q.items (zb.mk q.a_.l q.a_.never q.a_.free e) j.2.2 q.entries q.serial)
 else
  (bif i.Op == 2 then
   (vV k (zn.mk q.items (zb.mk q.a_.l q.a_.never q.a_.free e) q.t_ q.entries q.serial) i).bind fun x =>
   some (x.1,x.2)
  else
   (bif i.Op == 3 then
    (wZ k (zn.mk q.items (zb.mk q.a_.l q.a_.never q.a_.free e) q.t_ q.entries q.serial) i.Heap false).bind fun y =>
    some (y.1,y.2)
   else
    (bif i.Op == 4 then
     (wZ k (zn.mk q.items (zb.mk q.a_.l q.a_.never q.a_.free e) q.t_ q.entries q.serial) i.Heap true).bind fun z =>
     some (z.1,z.2)
    else
     (bif i.Op == 5 then
      (vn k (zn.mk q.items (zb.mk q.a_.l q.a_.never q.a_.free e) q.t_ q.entries q.serial) i).bind fun A =>
      some (A.1,A.2)
     else
      (bif i.Op == 6 then
       (vW k (zn.mk q.items (zb.mk q.a_.l q.a_.never q.a_.free e) q.t_ q.entries q.serial) i.Item).bind fun B =>
       some (B.1,B.2)
      else
       (bif i.Op == 7 then
        (uV k (zn.mk q.items (zb.mk q.a_.l q.a_.never q.a_.free e) q.t_ q.entries q.serial) i.Heap i.Other).bind fun D =>
        some (D.1,D.2)
       else
        (bif i.Op == 8 then
         (y0 q.t_ i.Heap).bind fun F =>
         some (zI.mk F.2.2.2 (zd.mk 0 0) (zd.mk 0 0) (zg.mk 0 0) F.2.2.1,zn.mk q.items (zb.mk q.a_.l q.a_.never q.a_.free e) q.t_ q.entries q.serial)
        else
         (bif i.Op == 9 then
          (sS (zn.mk q.items (zb.mk q.a_.l q.a_.never q.a_.free e) q.t_ q.entries q.serial) i.Heap).bind fun t =>
          some (t,zn.mk q.items (zb.mk q.a_.l q.a_.never q.a_.free e) q.t_ q.entries q.serial)
         else
          (vd 12).bind fun u =>
          some (u,zn.mk q.items (zb.mk q.a_.l q.a_.never q.a_.free e) q.t_ q.entries q.serial))))))))))
def tX (k : Nat) (i : Int) (most : Int) : Option ((Option za) × Int) :=
 (uj i).bind fun t_ =>
 (bif !t_ then
  some ((none : Option za),24)
 else
  (tV k i most).bind fun j =>
  (bif !j.2 then
   some ((none : Option za),1)
  else
   (kq most).bind fun t =>
   (ta t.1
    ((qW most).bind fun y =>
    (qN).bind fun z =>
    (wy (yb.mk 1 i (zd.mk 0 0) (zd.mk 0 0) (zd.mk 0 0) 0)).bind fun A =>
    (wy (yb.mk 1 i (zd.mk 0 0) (zd.mk 0 0) (zd.mk 0 0) 0)).bind fun B =>
    none)
    (fun m_ =>
    (qW most).bind fun u =>
    (qN).bind fun x =>
    (zZ k m_ (yb.mk 1 i (zd.mk 0 0) (zd.mk 0 0) (zd.mk 0 0) 0)).bind fun l =>
    (zZ k l.2 (yb.mk 1 i (zd.mk 0 0) (zd.mk 0 0) (zd.mk 0 0) 0)).bind fun e =>
    some (some (za.mk i most e.2 l.1.Heap e.1.Heap u ([] : List (zd × Int)) x j.1 0 0),0)))))
def tO (places : Int) : Option (zq) :=
 some (zq.mk (if 0 > (if 65536 < places then 65536 else places) then 0 else (if 65536 < places then 65536 else places)) ([] : List Int) ([] : List Bool) ([] : List Int) ([] : List Int))
def v8 (jobs : Int) : Option (zf) :=
 (tO jobs).bind fun t_ =>
 some (zf.mk jobs 0 0 t_ ([] : List zD))
def wJ (k : Nat) (l : Int) (jobs : Int) : Option (za × zf) :=
 (xt jobs 1 60).bind fun t_ =>
 (xt l 1 3).bind fun i =>
 (tX k i t_).bind fun e =>
 (ta e.1
  (none)
  (fun m_ =>
  (bif e.2 != 0 then
   none
  else
   (v8 t_).bind fun j =>
   some (m_,j))))
def sR (m_ : zB) : Option (Int) :=
 some m_.steps
def tK (q : zn) : Option (Int) :=
 (uI q.a_).bind fun t_ =>
 (sR q.a_.m_).bind fun e =>
 some e
def yO (e : Int) : Option (zu) :=
 some (zu.mk e (zd.mk 0 0) 0 0 0)
def xz (p : ze) : Option (Int) :=
 some (w64 ((p.l.length : Int) - (p.free.length : Int)))
def vM (t_ : zm) : Option (Int) :=
 (xz t_.p).bind fun e =>
 some e
def wL (p : ze) : Option (Int) :=
 some p.most
def yl (p : ze) (v_ : zz) : Option (zd × Bool × ze) :=
 ((bif decide (w64 ((p.free.length : Int) - 1) >= 0) then
  (mIdx p.free (w64 ((p.free.length : Int) - 1))).bind fun x =>
  (mCut p.free 0 (w64 ((p.free.length : Int) - 1))).bind fun l =>
  some (.inr (x,ze.mk p.most p.l l))
 else
  (bif decide ((p.l.length : Int) >= p.most) then
   some (.inl (zd.mk 0 0,false,p))
  else
   (mApp p.l ([zp.mk 0 false (zz.mk 0 0 0 (zd.mk 0 0))] : List zp)).bind fun l1 =>
   some (.inr ((p.l.length : Int),ze.mk p.most l1 p.free)))) : Option ((zd × Bool × ze) ⊕ (Int × ze))).bind fun s =>
 match s with
 | .inl e => some e
 | .inr s1 =>
  (mIdx s1.2.l s1.1).bind fun x1 =>
  some (zd.mk s1.1 (w64 (x1.gen + 1)),true,ze.mk s1.2.most (mSet (mSet (mSet s1.2.l s1.1 (zp.mk (w64 (x1.gen + 1)) x1.taken x1.v_)) s1.1 (zp.mk (w64 (x1.gen + 1)) true x1.v_)) s1.1 (zp.mk (w64 (x1.gen + 1)) true v_)) s1.2.free)
def sv (t_ : zm) (j : zz) : Option (zd × Int × zm) :=
 (sP zd.eq j.Item (zd.mk 0 0) t_.by_).bind fun x =>
 (xz t_.p).bind fun i =>
 (wL t_.p).bind fun l =>
 (bif i == l then
  some (zd.mk 0 0,13,t_)
 else
  (bif x.2 then
   some (zd.mk 0 0,1,t_)
  else
   (yl t_.p j).bind fun e =>
   some (e.1,0,zm.mk ((zm.mk e.2.2 t_.by_).p) (mPut zd.eq j.Item e.1 ((zm.mk e.2.2 t_.by_).by_)))))
def th (j : zz) : Option (zu) :=
 some (zu.mk 0 (zd.mk 0 0) j.Time j.Data 0)
def xp (k : Nat) (d : za) (l : zE) : Option (zu × za) :=
 (vM d.t_).bind fun t_ =>
 (bif decide (t_ >= d.most) then
  (yO 13).bind fun t =>
  some (t,d)
 else
  (mIdx ([d.heaps0,d.heaps1] : List zd) l.Queue).bind fun x =>
  (zZ k d.q (yb.mk 2 0 x (zd.mk 0 0) (zd.mk 0 0) l.Time)).bind fun e =>
  (sv ((za.mk d.kind d.most e.2 d.heaps0 d.heaps1 d.t_ d.when d.clock d.budget d.last d.top).t_) (zz.mk l.Queue l.Time l.Data e.1.Item)).bind fun i =>
  (th (zz.mk l.Queue l.Time l.Data e.1.Item)).bind fun j =>
  some (zu.mk j.Why i.1 j.Time j.Data j.N,za.mk ((za.mk ((za.mk d.kind d.most e.2 d.heaps0 d.heaps1 d.t_ d.when d.clock d.budget d.last d.top).kind) ((za.mk d.kind d.most e.2 d.heaps0 d.heaps1 d.t_ d.when d.clock d.budget d.last d.top).most) ((za.mk d.kind d.most e.2 d.heaps0 d.heaps1 d.t_ d.when d.clock d.budget d.last d.top).q) ((za.mk d.kind d.most e.2 d.heaps0 d.heaps1 d.t_ d.when d.clock d.budget d.last d.top).heaps0) ((za.mk d.kind d.most e.2 d.heaps0 d.heaps1 d.t_ d.when d.clock d.budget d.last d.top).heaps1) i.2.2 ((za.mk d.kind d.most e.2 d.heaps0 d.heaps1 d.t_ d.when d.clock d.budget d.last d.top).when) ((za.mk d.kind d.most e.2 d.heaps0 d.heaps1 d.t_ d.when d.clock d.budget d.last d.top).clock) ((za.mk d.kind d.most e.2 d.heaps0 d.heaps1 d.t_ d.when d.clock d.budget d.last d.top).budget) ((za.mk d.kind d.most e.2 d.heaps0 d.heaps1 d.t_ d.when d.clock d.budget d.last d.top).last) ((za.mk d.kind d.most e.2 d.heaps0 d.heaps1 d.t_ d.when d.clock d.budget d.last d.top).top)).kind) ((za.mk ((za.mk d.kind d.most e.2 d.heaps0 d.heaps1 d.t_ d.when d.clock d.budget d.last d.top).kind) ((za.mk d.kind d.most e.2 d.heaps0 d.heaps1 d.t_ d.when d.clock d.budget d.last d.top).most) ((za.mk d.kind d.most e.2 d.heaps0 d.heaps1 d.t_ d.when d.clock d.budget d.last d.top).q) ((za.mk d.kind d.most e.2 d.heaps0 d.heaps1 d.t_ d.when d.clock d.budget d.last d.top).heaps0) ((za.mk d.kind d.most e.2 d.heaps0 d.heaps1 d.t_ d.when d.clock d.budget d.last d.top).heaps1) i.2.2 ((za.mk d.kind d.most e.2 d.heaps0 d.heaps1 d.t_ d.when d.clock d.budget d.last d.top).when) ((za.mk d.kind d.most e.2 d.heaps0 d.heaps1 d.t_ d.when d.clock d.budget d.last d.top).clock) ((za.mk d.kind d.most e.2 d.heaps0 d.heaps1 d.t_ d.when d.clock d.budget d.last d.top).budget) ((za.mk d.kind d.most e.2 d.heaps0 d.heaps1 d.t_ d.when d.clock d.budget d.last d.top).last) ((za.mk d.kind d.most e.2 d.heaps0 d.heaps1 d.t_ d.when d.clock d.budget d.last d.top).top)).most) ((za.mk ((za.mk d.kind d.most e.2 d.heaps0 d.heaps1 d.t_ d.when d.clock d.budget d.last d.top).kind) ((za.mk d.kind d.most e.2 d.heaps0 d.heaps1 d.t_ d.when d.clock d.budget d.last d.top).most) ((za.mk d.kind d.most e.2 d.heaps0 d.heaps1 d.t_ d.when d.clock d.budget d.last d.top).q) ((za.mk d.kind d.most e.2 d.heaps0 d.heaps1 d.t_ d.when d.clock d.budget d.last d.top).heaps0) ((za.mk d.kind d.most e.2 d.heaps0 d.heaps1 d.t_ d.when d.clock d.budget d.last d.top).heaps1) i.2.2 ((za.mk d.kind d.most e.2 d.heaps0 d.heaps1 d.t_ d.when d.clock d.budget d.last d.top).when) ((za.mk d.kind d.most e.2 d.heaps0 d.heaps1 d.t_ d.when d.clock d.budget d.last d.top).clock) ((za.mk d.kind d.most e.2 d.heaps0 d.heaps1 d.t_ d.when d.clock d.budget d.last d.top).budget) ((za.mk d.kind d.most e.2 d.heaps0 d.heaps1 d.t_ d.when d.clock d.budget d.last d.top).last) ((za.mk d.kind d.most e.2 d.heaps0 d.heaps1 d.t_ d.when d.clock d.budget d.last d.top).top)).q) ((za.mk ((za.mk d.kind d.most e.2 d.heaps0 d.heaps1 d.t_ d.when d.clock d.budget d.last d.top).kind) ((za.mk d.kind d.most e.2 d.heaps0 d.heaps1 d.t_ d.when d.clock d.budget d.last d.top).most) ((za.mk d.kind d.most e.2 d.heaps0 d.heaps1 d.t_ d.when d.clock d.budget d.last d.top).q) ((za.mk d.kind d.most e.2 d.heaps0 d.heaps1 d.t_ d.when d.clock d.budget d.last d.top).heaps0) ((za.mk d.kind d.most e.2 d.heaps0 d.heaps1 d.t_ d.when d.clock d.budget d.last d.top).heaps1) i.2.2 ((za.mk d.kind d.most e.2 d.heaps0 d.heaps1 d.t_ d.when d.clock d.budget d.last d.top).when) ((za.mk d.kind d.most e.2 d.heaps0 d.heaps1 d.t_ d.when d.clock d.budget d.last d.top).clock) ((za.mk d.kind d.most e.2 d.heaps0 d.heaps1 d.t_ d.when d.clock d.budget d.last d.top).budget) ((za.mk d.kind d.most e.2 d.heaps0 d.heaps1 d.t_ d.when d.clock d.budget d.last d.top).last) ((za.mk d.kind d.most e.2 d.heaps0 d.heaps1 d.t_ d.when d.clock d.budget d.last d.top).top)).heaps0) ((za.mk ((za.mk d.kind d.most e.2 d.heaps0 d.heaps1 d.t_ d.when d.clock d.budget d.last d.top).kind) ((za.mk d.kind d.most e.2 d.heaps0 d.heaps1 d.t_ d.when d.clock d.budget d.last d.top).most) ((za.mk d.kind d.most e.2 d.heaps0 d.heaps1 d.t_ d.when d.clock d.budget d.last d.top).q) ((za.mk d.kind d.most e.2 d.heaps0 d.heaps1 d.t_ d.when d.clock d.budget d.last d.top).heaps0) ((za.mk d.kind d.most e.2 d.heaps0 d.heaps1 d.t_ d.when d.clock d.budget d.last d.top).heaps1) i.2.2 ((za.mk d.kind d.most e.2 d.heaps0 d.heaps1 d.t_ d.when d.clock d.budget d.last d.top).when) ((za.mk d.kind d.most e.2 d.heaps0 d.heaps1 d.t_ d.when d.clock d.budget d.last d.top).clock) ((za.mk d.kind d.most e.2 d.heaps0 d.heaps1 d.t_ d.when d.clock d.budget d.last d.top).budget) ((za.mk d.kind d.most e.2 d.heaps0 d.heaps1 d.t_ d.when d.clock d.budget d.last d.top).last) ((za.mk d.kind d.most e.2 d.heaps0 d.heaps1 d.t_ d.when d.clock d.budget d.last d.top).top)).heaps1) ((za.mk ((za.mk d.kind d.most e.2 d.heaps0 d.heaps1 d.t_ d.when d.clock d.budget d.last d.top).kind) ((za.mk d.kind d.most e.2 d.heaps0 d.heaps1 d.t_ d.when d.clock d.budget d.last d.top).most) ((za.mk d.kind d.most e.2 d.heaps0 d.heaps1 d.t_ d.when d.clock d.budget d.last d.top).q) ((za.mk d.kind d.most e.2 d.heaps0 d.heaps1 d.t_ d.when d.clock d.budget d.last d.top).heaps0) ((za.mk d.kind d.most e.2 d.heaps0 d.heaps1 d.t_ d.when d.clock d.budget d.last d.top).heaps1) i.2.2 ((za.mk d.kind d.most e.2 d.heaps0 d.heaps1 d.t_ d.when d.clock d.budget d.last d.top).when) ((za.mk d.kind d.most e.2 d.heaps0 d.heaps1 d.t_ d.when d.clock d.budget d.last d.top).clock) ((za.mk d.kind d.most e.2 d.heaps0 d.heaps1 d.t_ d.when d.clock d.budget d.last d.top).budget) ((za.mk d.kind d.most e.2 d.heaps0 d.heaps1 d.t_ d.when d.clock d.budget d.last d.top).last) ((za.mk d.kind d.most e.2 d.heaps0 d.heaps1 d.t_ d.when d.clock d.budget d.last d.top).top)).t_) (mPut zd.eq i.1 e.1.Entry.Serial ((za.mk ((za.mk d.kind d.most e.2 d.heaps0 d.heaps1 d.t_ d.when d.clock d.budget d.last d.top).kind) ((za.mk d.kind d.most e.2 d.heaps0 d.heaps1 d.t_ d.when d.clock d.budget d.last d.top).most) ((za.mk d.kind d.most e.2 d.heaps0 d.heaps1 d.t_ d.when d.clock d.budget d.last d.top).q) ((za.mk d.kind d.most e.2 d.heaps0 d.heaps1 d.t_ d.when d.clock d.budget d.last d.top).heaps0) ((za.mk d.kind d.most e.2 d.heaps0 d.heaps1 d.t_ d.when d.clock d.budget d.last d.top).heaps1) i.2.2 ((za.mk d.kind d.most e.2 d.heaps0 d.heaps1 d.t_ d.when d.clock d.budget d.last d.top).when) ((za.mk d.kind d.most e.2 d.heaps0 d.heaps1 d.t_ d.when d.clock d.budget d.last d.top).clock) ((za.mk d.kind d.most e.2 d.heaps0 d.heaps1 d.t_ d.when d.clock d.budget d.last d.top).budget) ((za.mk d.kind d.most e.2 d.heaps0 d.heaps1 d.t_ d.when d.clock d.budget d.last d.top).last) ((za.mk d.kind d.most e.2 d.heaps0 d.heaps1 d.t_ d.when d.clock d.budget d.last d.top).top)).when)) ((za.mk ((za.mk d.kind d.most e.2 d.heaps0 d.heaps1 d.t_ d.when d.clock d.budget d.last d.top).kind) ((za.mk d.kind d.most e.2 d.heaps0 d.heaps1 d.t_ d.when d.clock d.budget d.last d.top).most) ((za.mk d.kind d.most e.2 d.heaps0 d.heaps1 d.t_ d.when d.clock d.budget d.last d.top).q) ((za.mk d.kind d.most e.2 d.heaps0 d.heaps1 d.t_ d.when d.clock d.budget d.last d.top).heaps0) ((za.mk d.kind d.most e.2 d.heaps0 d.heaps1 d.t_ d.when d.clock d.budget d.last d.top).heaps1) i.2.2 ((za.mk d.kind d.most e.2 d.heaps0 d.heaps1 d.t_ d.when d.clock d.budget d.last d.top).when) ((za.mk d.kind d.most e.2 d.heaps0 d.heaps1 d.t_ d.when d.clock d.budget d.last d.top).clock) ((za.mk d.kind d.most e.2 d.heaps0 d.heaps1 d.t_ d.when d.clock d.budget d.last d.top).budget) ((za.mk d.kind d.most e.2 d.heaps0 d.heaps1 d.t_ d.when d.clock d.budget d.last d.top).last) ((za.mk d.kind d.most e.2 d.heaps0 d.heaps1 d.t_ d.when d.clock d.budget d.last d.top).top)).clock) ((za.mk ((za.mk d.kind d.most e.2 d.heaps0 d.heaps1 d.t_ d.when d.clock d.budget d.last d.top).kind) ((za.mk d.kind d.most e.2 d.heaps0 d.heaps1 d.t_ d.when d.clock d.budget d.last d.top).most) ((za.mk d.kind d.most e.2 d.heaps0 d.heaps1 d.t_ d.when d.clock d.budget d.last d.top).q) ((za.mk d.kind d.most e.2 d.heaps0 d.heaps1 d.t_ d.when d.clock d.budget d.last d.top).heaps0) ((za.mk d.kind d.most e.2 d.heaps0 d.heaps1 d.t_ d.when d.clock d.budget d.last d.top).heaps1) i.2.2 ((za.mk d.kind d.most e.2 d.heaps0 d.heaps1 d.t_ d.when d.clock d.budget d.last d.top).when) ((za.mk d.kind d.most e.2 d.heaps0 d.heaps1 d.t_ d.when d.clock d.budget d.last d.top).clock) ((za.mk d.kind d.most e.2 d.heaps0 d.heaps1 d.t_ d.when d.clock d.budget d.last d.top).budget) ((za.mk d.kind d.most e.2 d.heaps0 d.heaps1 d.t_ d.when d.clock d.budget d.last d.top).last) ((za.mk d.kind d.most e.2 d.heaps0 d.heaps1 d.t_ d.when d.clock d.budget d.last d.top).top)).budget) ((za.mk ((za.mk d.kind d.most e.2 d.heaps0 d.heaps1 d.t_ d.when d.clock d.budget d.last d.top).kind) ((za.mk d.kind d.most e.2 d.heaps0 d.heaps1 d.t_ d.when d.clock d.budget d.last d.top).most) ((za.mk d.kind d.most e.2 d.heaps0 d.heaps1 d.t_ d.when d.clock d.budget d.last d.top).q) ((za.mk d.kind d.most e.2 d.heaps0 d.heaps1 d.t_ d.when d.clock d.budget d.last d.top).heaps0) ((za.mk d.kind d.most e.2 d.heaps0 d.heaps1 d.t_ d.when d.clock d.budget d.last d.top).heaps1) i.2.2 ((za.mk d.kind d.most e.2 d.heaps0 d.heaps1 d.t_ d.when d.clock d.budget d.last d.top).when) ((za.mk d.kind d.most e.2 d.heaps0 d.heaps1 d.t_ d.when d.clock d.budget d.last d.top).clock) ((za.mk d.kind d.most e.2 d.heaps0 d.heaps1 d.t_ d.when d.clock d.budget d.last d.top).budget) ((za.mk d.kind d.most e.2 d.heaps0 d.heaps1 d.t_ d.when d.clock d.budget d.last d.top).last) ((za.mk d.kind d.most e.2 d.heaps0 d.heaps1 d.t_ d.when d.clock d.budget d.last d.top).top)).last) ((za.mk ((za.mk d.kind d.most e.2 d.heaps0 d.heaps1 d.t_ d.when d.clock d.budget d.last d.top).kind) ((za.mk d.kind d.most e.2 d.heaps0 d.heaps1 d.t_ d.when d.clock d.budget d.last d.top).most) ((za.mk d.kind d.most e.2 d.heaps0 d.heaps1 d.t_ d.when d.clock d.budget d.last d.top).q) ((za.mk d.kind d.most e.2 d.heaps0 d.heaps1 d.t_ d.when d.clock d.budget d.last d.top).heaps0) ((za.mk d.kind d.most e.2 d.heaps0 d.heaps1 d.t_ d.when d.clock d.budget d.last d.top).heaps1) i.2.2 ((za.mk d.kind d.most e.2 d.heaps0 d.heaps1 d.t_ d.when d.clock d.budget d.last d.top).when) ((za.mk d.kind d.most e.2 d.heaps0 d.heaps1 d.t_ d.when d.clock d.budget d.last d.top).clock) ((za.mk d.kind d.most e.2 d.heaps0 d.heaps1 d.t_ d.when d.clock d.budget d.last d.top).budget) ((za.mk d.kind d.most e.2 d.heaps0 d.heaps1 d.t_ d.when d.clock d.budget d.last d.top).last) ((za.mk d.kind d.most e.2 d.heaps0 d.heaps1 d.t_ d.when d.clock d.budget d.last d.top).top)).top)))
def zO (p : ze) (r : zd) : Option ((Option Int) × Int) :=
 ((bif decide (r.At < 0) then
  some true
 else
  (bif decide (r.At >= (p.l.length : Int)) then
   some true
  else
   (bif decide (r.Gen < 1) then
    some true
   else
    (mIdx p.l r.At).bind fun x1 =>
    some (decide (r.Gen > x1.gen)))))).bind fun s =>
 (bif s then
  some ((none : Option Int),22)
 else
  (mIdx p.l r.At).bind fun x2 =>
  (bif (decide (r.Gen < x2.gen)) || (!x2.taken) then
   some ((none : Option Int),23)
  else
   some ((some r.At : Option Int),0)))
def yn (p : ze) (r : zd) : Option (zz × Int) :=
 (zO p r).bind fun t_ =>
 (ta t_.1
  ((bif t_.2 != 0 then
   some (zz.mk 0 0 0 (zd.mk 0 0),t_.2)
  else
   none))
  (fun i =>
  (mIdx p.l i).bind fun x =>
  (bif t_.2 != 0 then
   some (zz.mk 0 0 0 (zd.mk 0 0),t_.2)
  else
   some (x.v_,0))))
def wq (t_ : zm) (r : zd) : Option (zz × Int) :=
 (yn t_.p r).bind fun e =>
 some (e.1,e.2)
def xd (p : ze) (r : zd) (v_ : zz) : Option (Int × ze) :=
 (zO p r).bind fun t_ =>
 (ta t_.1
  (((bif t_.2 == 0 then
   none
  else
   some ())).bind fun s =>
  some (t_.2,p))
  (fun i =>
  (mIdx p.l i).bind fun x =>
  ((bif t_.2 == 0 then
   some (ze.mk p.most (mSet p.l i (zp.mk x.gen x.taken v_)) p.free)
  else
   some p)).bind fun s1 =>
  some (t_.2,s1)))
def uU (t_ : zm) (r : zd) (j : zz) : Option (Int × zm) :=
 (yn t_.p r).bind fun e =>
 (bif e.2 != 0 then
  some (e.2,t_)
 else
  (sP zd.eq j.Item (zd.mk 0 0) t_.by_).bind fun x =>
  ((bif x.2 then
   some (!(zd.eq x.1 r))
  else
   some false)).bind fun s =>
  (bif s then
   some (1,t_)
  else
   (xd t_.p r j).bind fun i =>
   some (i.1,zm.mk i.2 (mPut zd.eq j.Item r (mDel zd.eq e.1.Item t_.by_)))))
def xx (k : Nat) (d : za) (e : zE) : Option (zu × za) :=
 (wq d.t_ e.Job).bind fun t_ =>
 (bif t_.2 != 0 then
  (yO t_.2).bind fun i =>
  some (i,d)
 else
  (bif decide (e.Time > t_.1.Time) then
   (yO 26).bind fun j =>
   some (j,d)
  else
   (zZ k d.q (yb.mk 5 0 (zd.mk 0 0) (zd.mk 0 0) t_.1.Item e.Time)).bind fun l =>
   (uU d.t_ e.Job (zz.mk t_.1.Queue e.Time t_.1.Data t_.1.Item)).bind fun t =>
   (th (zz.mk t_.1.Queue e.Time t_.1.Data t_.1.Item)).bind fun u =>
   some (u,za.mk d.kind d.most l.2 d.heaps0 d.heaps1 t.2 d.when d.clock d.budget d.last d.top)))
def zQ (p : ze) (r : zd) : Option (zz × Int × ze) :=
 (zO p r).bind fun t_ =>
 (ta t_.1
  ((bif t_.2 != 0 then
   some (zz.mk 0 0 0 (zd.mk 0 0),t_.2,p)
  else
   none))
  (fun i =>
  (mIdx p.l i).bind fun x =>
  (bif t_.2 != 0 then
   some (zz.mk 0 0 0 (zd.mk 0 0),t_.2,p)
  else
   (mApp p.free ([r.At] : List Int)).bind fun l =>
   some (x.v_,0,ze.mk p.most (mSet (mSet p.l i (zp.mk x.gen false x.v_)) i (zp.mk x.gen false (zz.mk 0 0 0 (zd.mk 0 0)))) l))))
def uB (t_ : zm) (r : zd) : Option (zz × Int × zm) :=
 (zQ t_.p r).bind fun e =>
 ((bif e.2.1 == 0 then
  some (zm.mk ((zm.mk e.2.2 t_.by_).p) (mDel zd.eq e.1.Item ((zm.mk e.2.2 t_.by_).by_)))
 else
  some (zm.mk e.2.2 t_.by_))).bind fun s =>
 some (e.1,e.2.1,s)
def yY (d : za) (r : zd) : Option (zu × za) :=
 (uB d.t_ r).bind fun t_ =>
 (bif t_.2.1 != 0 then
  (yO t_.2.1).bind fun e =>
  some (e,za.mk d.kind d.most d.q d.heaps0 d.heaps1 t_.2.2 d.when d.clock d.budget d.last d.top)
 else
  (th t_.1).bind fun i =>
  some (i,za.mk ((za.mk d.kind d.most d.q d.heaps0 d.heaps1 t_.2.2 d.when d.clock d.budget d.last d.top).kind) ((za.mk d.kind d.most d.q d.heaps0 d.heaps1 t_.2.2 d.when d.clock d.budget d.last d.top).most) ((za.mk d.kind d.most d.q d.heaps0 d.heaps1 t_.2.2 d.when d.clock d.budget d.last d.top).q) ((za.mk d.kind d.most d.q d.heaps0 d.heaps1 t_.2.2 d.when d.clock d.budget d.last d.top).heaps0) ((za.mk d.kind d.most d.q d.heaps0 d.heaps1 t_.2.2 d.when d.clock d.budget d.last d.top).heaps1) ((za.mk d.kind d.most d.q d.heaps0 d.heaps1 t_.2.2 d.when d.clock d.budget d.last d.top).t_) (mDel zd.eq r ((za.mk d.kind d.most d.q d.heaps0 d.heaps1 t_.2.2 d.when d.clock d.budget d.last d.top).when)) ((za.mk d.kind d.most d.q d.heaps0 d.heaps1 t_.2.2 d.when d.clock d.budget d.last d.top).clock) ((za.mk d.kind d.most d.q d.heaps0 d.heaps1 t_.2.2 d.when d.clock d.budget d.last d.top).budget) ((za.mk d.kind d.most d.q d.heaps0 d.heaps1 t_.2.2 d.when d.clock d.budget d.last d.top).last) ((za.mk d.kind d.most d.q d.heaps0 d.heaps1 t_.2.2 d.when d.clock d.budget d.last d.top).top)))
def xw (k : Nat) (d : za) (r : zd) : Option (zu × za) :=
 (wq d.t_ r).bind fun t_ =>
 ((bif t_.2 == 0 then
  (zZ k d.q (yb.mk 6 0 (zd.mk 0 0) (zd.mk 0 0) t_.1.Item 0)).bind fun i =>
  some (za.mk d.kind d.most i.2 d.heaps0 d.heaps1 d.t_ d.when d.clock d.budget d.last d.top)
 else
  some d)).bind fun s =>
 (yY s r).bind fun e =>
 some (e.1,e.2)
def ss (e : zJ) (by_ : Int) : Option (Int × zJ) :=
 (bif decide (by_ < 0) then
  some (1,e)
 else
  (vB e.now by_).bind fun t_ =>
  some (0,zJ.mk t_))
def uv (e : zJ) : Option (Int) :=
 some e.now
def tz (e : zJ) (at_ : Int) : Option (Bool) :=
 some (decide (at_ <= e.now))
def s8 (t_ : zm) (item : zd) : Option (zd × Bool) :=
 (sP zd.eq item (zd.mk 0 0) t_.by_).bind fun x =>
 some (x.1,x.2)
def xW (k : Nat) (d : za) (queue : Int) : Option (zu × za) :=
 (mIdx ([d.heaps0,d.heaps1] : List zd) queue).bind fun x =>
 (zZ k d.q (yb.mk 3 0 x (zd.mk 0 0) (zd.mk 0 0) 0)).bind fun t_ =>
 ((bif t_.1.Why != 0 then
  some (true,za.mk d.kind d.most t_.2 d.heaps0 d.heaps1 d.t_ d.when d.clock d.budget d.last d.top)
 else
  (tz ((za.mk d.kind d.most t_.2 d.heaps0 d.heaps1 d.t_ d.when d.clock d.budget d.last d.top).clock) t_.1.Entry.Key).bind fun l =>
  some (!l,za.mk ((za.mk d.kind d.most t_.2 d.heaps0 d.heaps1 d.t_ d.when d.clock d.budget d.last d.top).kind) ((za.mk d.kind d.most t_.2 d.heaps0 d.heaps1 d.t_ d.when d.clock d.budget d.last d.top).most) ((za.mk d.kind d.most t_.2 d.heaps0 d.heaps1 d.t_ d.when d.clock d.budget d.last d.top).q) ((za.mk d.kind d.most t_.2 d.heaps0 d.heaps1 d.t_ d.when d.clock d.budget d.last d.top).heaps0) ((za.mk d.kind d.most t_.2 d.heaps0 d.heaps1 d.t_ d.when d.clock d.budget d.last d.top).heaps1) ((za.mk d.kind d.most t_.2 d.heaps0 d.heaps1 d.t_ d.when d.clock d.budget d.last d.top).t_) ((za.mk d.kind d.most t_.2 d.heaps0 d.heaps1 d.t_ d.when d.clock d.budget d.last d.top).when) ((za.mk d.kind d.most t_.2 d.heaps0 d.heaps1 d.t_ d.when d.clock d.budget d.last d.top).clock) ((za.mk d.kind d.most t_.2 d.heaps0 d.heaps1 d.t_ d.when d.clock d.budget d.last d.top).budget) ((za.mk d.kind d.most t_.2 d.heaps0 d.heaps1 d.t_ d.when d.clock d.budget d.last d.top).last) ((za.mk d.kind d.most t_.2 d.heaps0 d.heaps1 d.t_ d.when d.clock d.budget d.last d.top).top)))).bind fun s =>
 (bif s.1 then
  (yO 28).bind fun t =>
  some (t,s.2)
 else
  (zZ k s.2.q (yb.mk 4 0 x (zd.mk 0 0) (zd.mk 0 0) 0)).bind fun i =>
  (s8 s.2.t_ i.1.Item).bind fun j =>
  (yY (za.mk s.2.kind s.2.most i.2 s.2.heaps0 s.2.heaps1 s.2.t_ s.2.when s.2.clock s.2.budget s.2.last s.2.top) j.1).bind fun e =>
  some (zu.mk e.1.Why j.1 e.1.Time e.1.Data e.1.N,e.2))
def yS (x1 : Int) (m_ : ze) : Nat -> (List zd) -> Int -> Option ((List zd))
 | 0,_,_ => none
 | m + 1,out,x =>
  (bif decide (x < x1) then
   ((mIdx m_.l x).bind fun x2 =>
   (bif x2.taken then
    (mApp out ([zd.mk x x2.gen] : List zd)).bind fun l =>
    some l
   else
    some out)).bind fun s1 =>
   yS x1 m_ m s1 (w64 (x + 1))
  else
   some out)
def y9 (k : Nat) (p : ze) : Option ((List zd)) :=
 (yS (p.l.length : Int) p k ([] : List zd) 0).bind fun s =>
 some s
def xY (e : Int) (j : Int) (x1 : Int) (l : List zd) : Nat -> Int -> Int -> zm -> Option (Int × zm)
 | 0,_,_,_ => none
 | m + 1,n,x,m_ =>
  (bif decide (x < x1) then
   ((mIdx l x).bind fun x2 =>
   (yn m_.p x2).bind fun i =>
   (bif i.1.Queue == e then
    (xd m_.p x2 (zz.mk j i.1.Time i.1.Data i.1.Item)).bind fun t =>
    some (w64 (n + 1),zm.mk t.2 m_.by_)
   else
    some (n,m_))).bind fun s1 =>
   xY e j x1 l m s1.1 (w64 (x + 1)) s1.2
  else
   some (n,m_))
def tE (k : Nat) (t_ : zm) (from_ : Int) (to : Int) : Option (Int × zm) :=
 (y9 k t_.p).bind fun e =>
 (xY from_ to (e.length : Int) e k 0 0 t_).bind fun s =>
 some (s.1,s.2)
def xK (k : Nat) (d : za) : Option (zu × za) :=
 (zZ k d.q (yb.mk 7 0 d.heaps0 d.heaps1 (zd.mk 0 0) 0)).bind fun t_ =>
 (zZ k t_.2 (yb.mk 1 d.kind (zd.mk 0 0) (zd.mk 0 0) (zd.mk 0 0) 0)).bind fun e =>
 (tE k d.t_ 1 0).bind fun i =>
 some (zu.mk 0 (zd.mk 0 0) 0 0 i.1,za.mk d.kind d.most e.2 d.heaps0 e.1.Heap i.2 d.when d.clock d.budget d.last d.top)
def xC (e : Int) (x1 : Int) (m_ : zm) (l : List zd) : Nat -> Int -> Int -> Option (Int)
 | 0,_,_ => none
 | m + 1,n,x =>
  (bif decide (x < x1) then
   ((mIdx l x).bind fun x2 =>
   (yn m_.p x2).bind fun i =>
   (bif i.1.Queue == e then
    some (w64 (n + 1))
   else
    some n)).bind fun s1 =>
   xC e x1 m_ l m s1 (w64 (x + 1))
  else
   some n)
def vU (k : Nat) (t_ : zm) (queue : Int) : Option (Int) :=
 (y9 k t_.p).bind fun e =>
 (xC queue (e.length : Int) t_ e k 0 0).bind fun s =>
 some s
def wk (k : Nat) (d : za) (e : zE) : Option (zu × za) :=
 (((bif e.Kind == 1 then
  some (e.Kind == 1)
 else
  (bif e.Kind == 5 then
   some (e.Kind == 5)
  else
   (bif e.Kind == 6 then
    some (e.Kind == 6)
   else
    some (e.Kind == 7))))).bind fun s2 =>
 (bif s2 then
  (bif !((decide (e.Queue >= 0)) && (decide (e.Queue < 2))) then
   (yO 1).bind fun t_ =>
   some (.inl (t_,d))
  else
   some (.inr ()))
 else
  some (.inr ())) : Option ((zu × za) ⊕ (Unit))).bind fun s =>
 match s with
 | .inl F => some F
 | .inr s1 =>
  (bif e.Kind == 1 then
   (xp k d e).bind fun j =>
   some (j.1,j.2)
  else
   (bif e.Kind == 2 then
    (xx k d e).bind fun u =>
    some (u.1,u.2)
   else
    (bif e.Kind == 3 then
     (xw k d e.Job).bind fun x =>
     some (x.1,x.2)
    else
     (bif e.Kind == 4 then
      (ss d.clock e.Time).bind fun i =>
      (bif i.1 != 0 then
       (yO i.1).bind fun A =>
       some (A,za.mk d.kind d.most d.q d.heaps0 d.heaps1 d.t_ d.when i.2 d.budget d.last d.top)
      else
       (uv i.2).bind fun B =>
       some (zu.mk 0 (zd.mk 0 0) B 0 0,za.mk d.kind d.most d.q d.heaps0 d.heaps1 d.t_ d.when i.2 d.budget d.last d.top))
     else
      (bif e.Kind == 5 then
       (xW k d e.Queue).bind fun y =>
       some (y.1,y.2)
      else
       (bif e.Kind == 6 then
        (bif e.Queue == 0 then
         (yO 25).bind fun D =>
         some (D,d)
        else
         (xK k d).bind fun z =>
         some (z.1,z.2))
       else
        (bif e.Kind == 7 then
         (vU k d.t_ e.Queue).bind fun l =>
         some (zu.mk 0 (zd.mk 0 0) 0 0 l,d)
        else
         (yO 12).bind fun t =>
         some (t,d))))))))
def yW (k : Nat) (d : za) (l : zE) : Option (zu × za) :=
 (tK d.q).bind fun t_ =>
 (wk k d l).bind fun e =>
 (tK e.2.q).bind fun i =>
 (bif decide (w64 (i - t_) > e.2.budget) then
  (yO 29).bind fun j =>
  some (j,za.mk e.2.kind e.2.most e.2.q e.2.heaps0 e.2.heaps1 e.2.t_ e.2.when e.2.clock e.2.budget (w64 (i - t_)) (if w64 (i - t_) > e.2.top then w64 (i - t_) else e.2.top))
 else
  some (e.1,za.mk e.2.kind e.2.most e.2.q e.2.heaps0 e.2.heaps1 e.2.t_ e.2.when e.2.clock e.2.budget (w64 (i - t_)) (if w64 (i - t_) > e.2.top then w64 (i - t_) else e.2.top)))
def xr (d : za) : Option (Int) :=
 (vM d.t_).bind fun t_ =>
 some t_
def yJ (e : Int) (m_ : zi) : Nat -> Int -> Option ((Int × zi) ⊕ (Unit))
 | 0,_ => none
 | m + 1,i =>
  (bif decide (i < (m_.L.length : Int)) then
   (mIdx m_.L i).bind fun x =>
   (bif x.Serial == e then
    some (.inl (i,m_))
   else
    yJ e m_ m (w64 (i + 1)))
  else
   some (.inr ()))
def yK (k : Nat) (s : zi) (serial : Int) : Option (Int × zi) :=
 (yJ serial s k 0).bind fun s1 =>
 match s1 with
 | .inl e => some e
 | .inr s2 =>
  some ((-1),s)
def we (a_ : zg) (b : zg) : Option (Bool) :=
 some ((decide (a_.Key < b.Key)) || ((a_.Key == b.Key) && (decide (a_.Serial < b.Serial))))
def xH (i1 : Int) (l2 : List zg) (i : List zg) : Nat -> Int -> Option (Int)
 | 0,_ => none
 | m + 1,e =>
  ((bif decide (e > 0) then
   (mIdx i i1).bind fun x1 =>
   (mIdx l2 (w64 (e - 1))).bind fun x2 =>
   (we x1 x2).bind fun t_ =>
   some t_
  else
   some false)).bind fun s2 =>
  (bif s2 then
   xH i1 l2 i m (w64 (e - 1))
  else
   some e)
def xG (l1 : List zg) : Nat -> (List zg) -> Int -> Option ((List zg))
 | 0,_,_ => none
 | m + 1,out,i =>
  (bif decide (i < (l1.length : Int)) then
   (xH i out l1 m (out.length : Int)).bind fun s1 =>
   (mCut out 0 s1).bind fun e =>
   (mIdx l1 i).bind fun x3 =>
   (mCut out s1 (out.length : Int)).bind fun j =>
   (mApp ([] : List zg) e).bind fun l =>
   (mApp l ([x3] : List zg)).bind fun t =>
   (mApp t j).bind fun u =>
   xG l1 m u (w64 (i + 1))
  else
   some out)
def w9 (k : Nat) (l : List zg) : Option ((List zg)) :=
 (xG l k ([] : List zg) 0).bind fun s =>
 some s
def yN (k : Nat) (s : zi) (e : zg) : Option (Bool × zi) :=
 (yK k s e.Serial).bind fun t_ =>
 (bif decide (t_.1 >= 0) then
  some (false,t_.2)
 else
  (mApp ([] : List zg) t_.2.L).bind fun l =>
  (mApp l ([e] : List zg)).bind fun l1 =>
  (w9 k l1).bind fun i =>
  some (true,zi.mk i))
def yV (s : zi) : Option (zg × Bool) :=
 (bif (s.L.length : Int) == 0 then
  some (zg.mk 0 0,false)
 else
  (mIdx s.L 0).bind fun x =>
  some (x,true))
def wY (d : za) : Option (Int) :=
 (uv d.clock).bind fun t_ =>
 some t_
def w2 (k : Nat) (s : zi) (serial : Int) : Option (zg × Bool × zi) :=
 (yK k s serial).bind fun t_ =>
 (bif decide (t_.1 < 0) then
  some (zg.mk 0 0,false,t_.2)
 else
  (mIdx t_.2.L t_.1).bind fun x =>
  (mCut t_.2.L 0 t_.1).bind fun l =>
  (mCut t_.2.L (w64 (t_.1 + 1)) (t_.2.L.length : Int)).bind fun l1 =>
  (mApp ([] : List zg) l).bind fun l2 =>
  (mApp l2 l1).bind fun e =>
  some (x,true,zi.mk e))
def wO (k : Nat) (s : zi) : Option (zg × Bool × zi) :=
 (yV s).bind fun t_ =>
 ((bif t_.2 then
  (w2 k s t_.1.Serial).bind fun e =>
  some e.2.2
 else
  some s)).bind fun s1 =>
 some (t_.1,t_.2,s1)
def sw (k : Nat) (t_ : zm) : Option ((List zd)) :=
 (y9 k t_.p).bind fun e =>
 some e
def zW (i : Int) (l : Int) (i1 : Int) : Nat -> Int -> (List zg) -> Option ((List zg))
 | 0,_,_ => none
 | m + 1,j,e =>
  ((bif decide (j > i) then
   (mIdx e j).bind fun x1 =>
   (mIdx e (w64 (j - 1))).bind fun x2 =>
   (xL m x1 x2).bind fun t_ =>
   some (decide (t_ < 0))
  else
   some false)).bind fun s2 =>
  (bif s2 then
   (mIdx e (w64 (j - 1))).bind fun x3 =>
   (mIdx e j).bind fun x4 =>
   (mIdx e j).bind fun x5 =>
   (mIdx (mSet e j x3) (w64 (j - 1))).bind fun x6 =>
   zW i l i1 m (w64 (j - 1)) (mSet (mSet e j x3) (w64 (j - 1)) x4)
  else
   some e)
def zL (e : Int) (j : Int) : Nat -> Int -> (List zg) -> Option ((List zg))
 | 0,_,_ => none
 | m + 1,i,m_ =>
  (bif decide (i < j) then
   (zW e j i m i m_).bind fun s1 =>
   zL e j m (w64 (i + 1)) s1
  else
   some m_)
def yi (k : Nat) (data : List zg) (a_ : Int) (b : Int) : Option ((List zg)) :=
 (zL a_ b k (w64 (a_ + 1)) data).bind fun s =>
 (uo s.length data.length).bind fun u =>
 some s
def ya (e : Int) (j : Int) (l : Int) : Nat -> Int -> (List zg) -> Option ((List zg))
 | 0,_,_ => none
 | m + 1,i,m_ =>
  (bif decide (i < l) then
   (mIdx m_ (w64 (j + i))).bind fun x =>
   (mIdx m_ (w64 (e + i))).bind fun x1 =>
   (mIdx m_ (w64 (e + i))).bind fun x2 =>
   (mIdx (mSet m_ (w64 (e + i)) x) (w64 (j + i))).bind fun x3 =>
   ya e j l m (w64 (i + 1)) (mSet (mSet m_ (w64 (e + i)) x) (w64 (j + i)) x1)
  else
   some m_)
def yf (k : Nat) (data : List zg) (a_ : Int) (b : Int) (n : Int) : Option ((List zg)) :=
 (ya a_ b n k 0 data).bind fun s =>
 (uo s.length data.length).bind fun u =>
 some s
def yd (e : Int) : Nat -> Int -> Int -> (List zg) -> Option (Int × (List zg))
 | 0,_,_,_ => none
 | m + 1,i,j,l =>
  (bif i != j then
   (bif decide (i > j) then
    (yf m l (w64 (e - i)) e j).bind fun t_ =>
    yd e m (w64 (i - j)) j t_
   else
    (yf m l (w64 (e - i)) (w64 ((w64 (e + j)) - i)) i).bind fun t =>
    yd e m i (w64 (j - i)) t)
  else
   some (i,l))
def yx (k : Nat) (data : List zg) (a_ : Int) (m_ : Int) (b : Int) : Option ((List zg)) :=
 (yd m_ k (w64 (m_ - a_)) (w64 (b - m_)) data).bind fun s =>
 (yf k s.2 (w64 (m_ - s.1)) m_ s.1).bind fun e =>
 (uo e.length data.length).bind fun u =>
 some e
def zM (e : (List zg) -> Int -> Int -> Int -> Option ((List zg))) (t : Int) (l : List zg) : Nat -> Int -> Int -> Option (Int)
 | 0,_,_ => none
 | m + 1,i,j =>
  (bif decide (i < j) then
   (mIdx l (w64 (Int.fdiv (IntKind.wrap .u64 (w64 (i + j))) (2 ^ (min (Int.toNat 1) 64))))).bind fun x =>
   (mIdx l t).bind fun x1 =>
   (xL m x x1).bind fun t_ =>
   (bif decide (t_ < 0) then
    zM e t l m (w64 ((w64 (Int.fdiv (IntKind.wrap .u64 (w64 (i + j))) (2 ^ (min (Int.toNat 1) 64)))) + 1)) j
   else
    zM e t l m i (w64 (Int.fdiv (IntKind.wrap .u64 (w64 (i + j))) (2 ^ (min (Int.toNat 1) 64)))))
  else
   some i)
def zT (j : (List zg) -> Int -> Int -> Int -> Option ((List zg))) (i1 : Int) : Nat -> Int -> (List zg) -> Option ((List zg))
 | 0,_,_ => none
 | m + 1,i,e =>
  (bif decide (i < w64 (i1 - 1)) then
   (mIdx e (w64 (i + 1))).bind fun x2 =>
   (mIdx e i).bind fun x3 =>
   (mIdx e i).bind fun x4 =>
   (mIdx (mSet e i x2) (w64 (i + 1))).bind fun x5 =>
   zT j i1 m (w64 (i + 1)) (mSet (mSet e i x2) (w64 (i + 1)) x3)
  else
   some e)
def zN (e : (List zg) -> Int -> Int -> Int -> Option ((List zg))) (i : Int) (l1 : List zg) : Nat -> Int -> Int -> Option (Int)
 | 0,_,_ => none
 | m + 1,i2,j =>
  (bif decide (i2 < j) then
   (mIdx l1 i).bind fun x6 =>
   (mIdx l1 (w64 (Int.fdiv (IntKind.wrap .u64 (w64 (i2 + j))) (2 ^ (min (Int.toNat 1) 64))))).bind fun x7 =>
   (xL m x6 x7).bind fun l =>
   (bif !(decide (l < 0)) then
    zN e i l1 m (w64 ((w64 (Int.fdiv (IntKind.wrap .u64 (w64 (i2 + j))) (2 ^ (min (Int.toNat 1) 64)))) + 1)) j
   else
    zN e i l1 m i2 (w64 (Int.fdiv (IntKind.wrap .u64 (w64 (i2 + j))) (2 ^ (min (Int.toNat 1) 64)))))
  else
   some i2)
def zU (j : (List zg) -> Int -> Int -> Int -> Option ((List zg))) (i3 : Int) : Nat -> Int -> (List zg) -> Option ((List zg))
 | 0,_,_ => none
 | m + 1,e,i =>
  (bif decide (e > i3) then
   (mIdx i (w64 (e - 1))).bind fun x8 =>
   (mIdx i e).bind fun x9 =>
   (mIdx i e).bind fun x10 =>
   (mIdx (mSet i e x8) (w64 (e - 1))).bind fun x11 =>
   zU j i3 m (w64 (e - 1)) (mSet (mSet i e x8) (w64 (e - 1)) x9)
  else
   some i)
def zV (e : (List zg) -> Int -> Int -> Int -> Option ((List zg))) (i : Int) (l : Int) (j : Int) (t : Int) (n : Int) (p : Int) (l2 : List zg) : Nat -> Int -> Int -> Option (Int)
 | 0,_,_ => none
 | m + 1,start,r =>
  (bif decide (start < r) then
   (mIdx l2 (w64 (p - (w64 (Int.fdiv (IntKind.wrap .u64 (w64 (start + r))) (2 ^ (min (Int.toNat 1) 64))))))).bind fun x12 =>
   (mIdx l2 (w64 (Int.fdiv (IntKind.wrap .u64 (w64 (start + r))) (2 ^ (min (Int.toNat 1) 64))))).bind fun x13 =>
   (xL m x12 x13).bind fun u =>
   (bif !(decide (u < 0)) then
    zV e i l j t n p l2 m (w64 ((w64 (Int.fdiv (IntKind.wrap .u64 (w64 (start + r))) (2 ^ (min (Int.toNat 1) 64)))) + 1)) r
   else
    zV e i l j t n p l2 m start (w64 (Int.fdiv (IntKind.wrap .u64 (w64 (start + r))) (2 ^ (min (Int.toNat 1) 64)))))
  else
   some start)
def zt : Nat -> (List zg) -> Int -> Int -> Int -> Option ((List zg))
 | 0,_,_,_,_ => none
 | k + 1,data,a_,m_,b =>
  (bif (w64 (m_ - a_)) == 1 then
   (zM (zt k) a_ data k m_ b).bind fun s =>
   (zT (zt k) s k a_ data).bind fun s1 =>
   (uo s1.length data.length).bind fun u =>
   some s1
  else
   (bif (w64 (b - m_)) == 1 then
    (zN (zt k) m_ data k a_ m_).bind fun s2 =>
    (zU (zt k) s2 k m_ data).bind fun x =>
    (uo x.length data.length).bind fun A =>
    some x
   else
    ((bif decide (m_ > w64 (Int.fdiv (IntKind.wrap .u64 (w64 (a_ + b))) (2 ^ (min (Int.toNat 1) 64)))) then
     some (w64 ((w64 ((w64 (Int.fdiv (IntKind.wrap .u64 (w64 (a_ + b))) (2 ^ (min (Int.toNat 1) 64)))) + m_)) - b),w64 (Int.fdiv (IntKind.wrap .u64 (w64 (a_ + b))) (2 ^ (min (Int.toNat 1) 64))))
    else
     some (a_,m_))).bind fun y =>
    (zV (zt k) a_ m_ b (w64 (Int.fdiv (IntKind.wrap .u64 (w64 (a_ + b))) (2 ^ (min (Int.toNat 1) 64)))) (w64 ((w64 (Int.fdiv (IntKind.wrap .u64 (w64 (a_ + b))) (2 ^ (min (Int.toNat 1) 64)))) + m_)) (w64 ((w64 ((w64 (Int.fdiv (IntKind.wrap .u64 (w64 (a_ + b))) (2 ^ (min (Int.toNat 1) 64)))) + m_)) - 1)) data k y.1 y.2).bind fun e =>
    ((bif (decide (e < m_)) && (decide (m_ < w64 ((w64 ((w64 (Int.fdiv (IntKind.wrap .u64 (w64 (a_ + b))) (2 ^ (min (Int.toNat 1) 64)))) + m_)) - e))) then
     (yx k data e m_ (w64 ((w64 ((w64 (Int.fdiv (IntKind.wrap .u64 (w64 (a_ + b))) (2 ^ (min (Int.toNat 1) 64)))) + m_)) - e))).bind fun l =>
     some l
    else
     some data)).bind fun z =>
    ((bif (decide (a_ < e)) && (decide (e < w64 (Int.fdiv (IntKind.wrap .u64 (w64 (a_ + b))) (2 ^ (min (Int.toNat 1) 64))))) then
     ((zt k) z a_ e (w64 (Int.fdiv (IntKind.wrap .u64 (w64 (a_ + b))) (2 ^ (min (Int.toNat 1) 64))))).bind fun t =>
     some t
    else
     some z)).bind fun j =>
    (bif (decide (w64 (Int.fdiv (IntKind.wrap .u64 (w64 (a_ + b))) (2 ^ (min (Int.toNat 1) 64))) < w64 ((w64 ((w64 (Int.fdiv (IntKind.wrap .u64 (w64 (a_ + b))) (2 ^ (min (Int.toNat 1) 64)))) + m_)) - e))) && (decide (w64 ((w64 ((w64 (Int.fdiv (IntKind.wrap .u64 (w64 (a_ + b))) (2 ^ (min (Int.toNat 1) 64)))) + m_)) - e) < b)) then
     ((zt k) j (w64 (Int.fdiv (IntKind.wrap .u64 (w64 (a_ + b))) (2 ^ (min (Int.toNat 1) 64)))) (w64 ((w64 ((w64 (Int.fdiv (IntKind.wrap .u64 (w64 (a_ + b))) (2 ^ (min (Int.toNat 1) 64)))) + m_)) - e)) b).bind fun i =>
     (uo i.length data.length).bind fun B =>
     some i
    else
     (uo j.length data.length).bind fun D =>
     some j)))
def yo (e : Int) : Nat -> Int -> Int -> (List zg) -> Option (Int × (List zg))
 | 0,_,_,_ => none
 | m + 1,a_,b,m_ =>
  (bif decide (b <= e) then
   (yi m m_ a_ b).bind fun t_ =>
   yo e m b (w64 (b + 20)) t_
  else
   some (a_,m_))
def yp (u : Int) (e : Int) : Nat -> Int -> Int -> (List zg) -> Option (Int × (List zg))
 | 0,_,_,_ => none
 | m + 1,i,l,j =>
  (bif decide (l <= u) then
   (zt m j i (w64 (i + e)) l).bind fun t =>
   yp u e m l (w64 (l + (w64 (2 * e)))) t
  else
   some (i,j))
def ye (j : Int) : Nat -> Int -> (List zg) -> Option ((List zg))
 | 0,_,_ => none
 | m + 1,e,i =>
  (bif decide (e < j) then
   (yp j e m 0 (w64 (2 * e)) i).bind fun s2 =>
   ((bif decide (w64 (s2.1 + e) < j) then
    (zt m s2.2 s2.1 (w64 (s2.1 + e)) j).bind fun l =>
    some l
   else
    some s2.2)).bind fun t =>
   ye j m (w64 (e * 2)) t
  else
   some i)
def yR (k : Nat) (data : List zg) (n : Int) : Option ((List zg)) :=
 (yo n k 0 20 data).bind fun s =>
 (yi k s.2 s.1 n).bind fun e =>
 (ye n k 20 e).bind fun s1 =>
 (uo s1.length data.length).bind fun u =>
 some s1
def xl (k : Nat) (x : List zg) : Option ((List zg)) :=
 (yR k x (x.length : Int)).bind fun t_ =>
 (uo t_.length x.length).bind fun u =>
 some t_
def qc (k : Nat) (l : List zg) : Option ((List zg)) :=
 (mO l).bind fun t_ =>
 (xl k t_).bind fun e =>
 some e
def yI (e : Int) (x1 : Int) (m_ : za) (l : List zd) : Nat -> (List zg) -> Int -> Option ((List zg))
 | 0,_,_ => none
 | m + 1,out,x =>
  (bif decide (x < x1) then
   ((mIdx l x).bind fun x2 =>
   (wq m_.t_ x2).bind fun i =>
   (bif i.1.Queue == e then
    (sP zd.eq x2 (0 : Int) m_.when).bind fun x3 =>
    (mApp out ([zg.mk i.1.Time x3.1] : List zg)).bind fun l1 =>
    some l1
   else
    some out)).bind fun s1 =>
   yI e x1 m_ l m s1 (w64 (x + 1))
  else
   some out)
def xm (k : Nat) (d : za) (queue : Int) : Option ((List zg)) :=
 (sw k d.t_).bind fun t_ =>
 (yI queue (t_.length : Int) d t_ k ([] : List zg) 0).bind fun s =>
 (qc k s).bind fun e =>
 some e
def yz (l : List zg) (l1 : List zg) : Nat -> Int -> Option ((Bool) ⊕ (Unit))
 | 0,_ => none
 | m + 1,i =>
  (bif decide (i < (l.length : Int)) then
   (mIdx l i).bind fun x =>
   (mIdx l1 i).bind fun x1 =>
   (bif !(zg.eq x x1) then
    some (.inl false)
   else
    yz l l1 m (w64 (i + 1)))
  else
   some (.inr ()))
def y8 (k : Nat) (a_ : List zg) (b : List zg) : Option (Bool) :=
 (bif (a_.length : Int) != (b.length : Int) then
  some false
 else
  (yz a_ b k 0).bind fun s =>
  match s with
  | .inl e => some e
  | .inr s1 =>
   some true)
def mn (n : Int) : Option (Int) :=
 (bif decide ((if n > 0 then n else 0) > 23058430092136938) then
  some 9223372036854775807
 else
  some (w64 (500 + (w64 (400 * (if n > 0 then n else 0))))))
def tW (k : Nat) (n : Int) : Option (Int) :=
 ((bif decide ((if n > 0 then n else 0) < 9223372036854775807) then
  some (w64 ((if n > 0 then n else 0) + 1))
 else
  some (if n > 0 then n else 0))).bind fun s =>
 (rq k 500 400 s).bind fun t_ =>
 some t_
def jP (k : Nat) (e : Int) (op : Int) (n : Int) : Option (Int) :=
 ((sN e).bind fun t_ =>
 (bif t_ then
  some (op == 9)
 else
  some false)).bind fun s =>
 (bif s then
  (mn n).bind fun i =>
  some i
 else
  (uj e).bind fun j =>
  (bif !j then
   some 500
  else
   ((bif op == 2 then
    (bif e == 3 then
     some (.inl 500)
    else
     (tW k n).bind fun l =>
     some (.inl l))
   else
    (bif op == 3 then
     (bif e == 1 then
      some (.inl 500)
     else
      (tW k n).bind fun t =>
      some (.inl t))
    else
     ((bif op == 4 then
      some (op == 4)
     else
      (bif op == 5 then
       some (op == 5)
      else
       (bif op == 6 then
        some (op == 6)
       else
        some (op == 7))))).bind fun y =>
     (bif y then
      (tW k n).bind fun u =>
      some (.inl u)
     else
      some (.inr ())))) : Option ((Int) ⊕ (Unit))).bind fun s1 =>
   match s1 with
   | .inl x => some x
   | .inr s2 =>
    some 500))
def ua (k : Nat)  : Option (Bool) :=
 (kq 2).bind fun t_ =>
 (ta t_.1
  (some false)
  (fun m_ =>
  (bif t_.2 != 0 then
   some false
  else
   (zZ k m_ (yb.mk 1 1 (zd.mk 0 0) (zd.mk 0 0) (zd.mk 0 0) 0)).bind fun e =>
   (zZ k e.2 (yb.mk 2 0 e.1.Heap (zd.mk 0 0) (zd.mk 0 0) 5)).bind fun i =>
   (zZ k i.2 (yb.mk 3 0 e.1.Heap (zd.mk 0 0) (zd.mk 0 0) 0)).bind fun j =>
   ((bif e.1.Why == 0 then
    (bif i.1.Why == 0 then
     (bif j.1.Entry.Key == 5 then
      (bif zd.eq j.1.Item i.1.Item then
       (jP k 1 1 0).bind fun l =>
       some (l == 500)
      else
       some false)
     else
      some false)
    else
     some false)
   else
    some false)).bind fun s =>
   some s)))
def xe (l : List Int) (t : zf) (l1 : List Int) : Nat -> Int -> zi -> za -> Option ((Bool) ⊕ (zi × za))
 | 0,_,_,_ => none
 | m + 1,i,m_,j =>
  (bif (decide (i < (l1.length : Int))) && (decide (i < 50)) then
   (mIdx l1 i).bind fun x =>
   ((yW m j (zE.mk 1 0 (zd.mk 0 0) (Int.tmod x 100) i)).bind fun e =>
   (bif e.1.Why != 0 then
    (xr e.2).bind fun u =>
    some (decide (u < 50),e.2)
   else
    some (false,e.2))).bind fun s2 =>
   (bif s2.1 then
    some (.inl false)
   else
    (yN m m_ (zg.mk (Int.tmod x 100) i)).bind fun y =>
    xe l t l1 m (w64 (i + 1)) y.2 s2.2)
  else
   some (.inr (m_,j)))
def xg (z : List Int) (i2 : Int) (t : zf) (A : List Int) : Nat -> Int -> za -> zi -> Option ((Bool) ⊕ (za × zi))
 | 0,_,_,_ => none
 | m + 1,n,l,i =>
  (bif decide (n < 60) then
   (yW m l (zE.mk 5 0 (zd.mk 0 0) 0 0)).bind fun e =>
   (yV i).bind fun j =>
   ((bif !j.2 then
    some true
   else
    (wY e.2).bind fun x =>
    some (decide (j.1.Key > x)))).bind fun u =>
   (bif u then
    (bif !(zu.eq e.1 (zu.mk 28 (zd.mk 0 0) 0 0 0)) then
     some (.inl false)
    else
     some (.inr (e.2,i)))
   else
    (bif (e.1.Why != 0) || ((e.1.Time != j.1.Key) || (e.1.Data != j.1.Serial)) then
     some (.inl false)
    else
     (wO m i).bind fun y =>
     xg z i2 t A m (w64 (n + 1)) e.2 y.2.2))
  else
   some (.inr (l,i)))
def xf (l2 : List Int) (j : zf) (u : List Int) : Nat -> Int -> zi -> za -> Option ((Bool) ⊕ (zi × za))
 | 0,_,_,_ => none
 | m + 1,i1,e,i =>
  (bif (decide (i1 < (l2.length : Int))) && (decide (i1 < 20)) then
   ((mIdx l2 i1).bind fun x1 =>
   ((bif decide (Int.tmod x1 30 < 0) then
    some (w64 (0 - (Int.tmod x1 30)))
   else
    some (Int.tmod x1 30))).bind fun A =>
   (yW m i (zE.mk 4 0 (zd.mk 0 0) A 0)).bind fun t =>
   (xg l2 i1 j u m 0 t.2 e).bind fun B =>
   match B with
   | .inl l => some (.inl l)
   | .inr y =>
    some (.inr (y.2,y.1)) : Option ((Bool) ⊕ (zi × za))).bind fun z =>
   match z with
   | .inl l => some (.inl l)
   | .inr x =>
    xf l2 j u m (w64 (i1 + 1)) x.1 x.2
  else
   some (.inr (e,i)))
def wD (k : Nat) (y : Int) (times : List Int) (steps : List Int) : Option (Bool) :=
 (wJ k y 60).bind fun t_ =>
 (xe steps t_.2 times k 0 (zi.mk ([] : List zg)) t_.1).bind fun s =>
 match s with
 | .inl l => some l
 | .inr s1 =>
  (xr s1.2).bind fun u =>
  (bif u != (s1.1.L.length : Int) then
   some false
  else
   (xf steps t_.2 times k 0 s1.1 s1.2).bind fun z =>
   match z with
   | .inl l => some l
   | .inr x =>
    ((xm k x.2 0).bind fun e =>
    (y8 k e x.1.L).bind fun i =>
    (bif i then
     (ua k).bind fun j =>
     some j
    else
     some false)).bind fun t =>
    some t)
def xo (p : zq) (v_ : Int) : Option (zd × Bool × zq) :=
 ((bif decide ((p.Back.length : Int) > 0) then
  (mIdx p.Back (w64 ((p.Back.length : Int) - 1))).bind fun x =>
  (mCut p.Back 0 (w64 ((p.Back.length : Int) - 1))).bind fun l =>
  some (.inr (x,zq.mk p.Most p.Gens p.In p.V l))
 else
  (bif decide ((p.Gens.length : Int) >= p.Most) then
   some (.inl (zd.mk 0 0,false,p))
  else
   (mApp p.Gens ([0] : List Int)).bind fun l1 =>
   (mApp p.In ([false] : List Bool)).bind fun l2 =>
   (mApp p.V ([0] : List Int)).bind fun e =>
   some (.inr ((p.Gens.length : Int),zq.mk p.Most l1 l2 e p.Back)))) : Option ((zd × Bool × zq) ⊕ (Int × zq))).bind fun s =>
 match s with
 | .inl i => some i
 | .inr s1 =>
  (mIdx s1.2.Gens s1.1).bind fun x1 =>
  (mIdx s1.2.Gens s1.1).bind fun x2 =>
  (mIdx s1.2.In s1.1).bind fun x3 =>
  (mIdx s1.2.V s1.1).bind fun x4 =>
  (mIdx (mSet s1.2.Gens s1.1 (w64 (x1 + 1))) s1.1).bind fun x5 =>
  some (zd.mk s1.1 x5,true,zq.mk s1.2.Most (mSet s1.2.Gens s1.1 (w64 (x1 + 1))) (mSet s1.2.In s1.1 true) (mSet s1.2.V s1.1 v_) s1.2.Back)
def yq (e : Int) (m_ : zf) : Nat -> Int -> Int -> Option (Int)
 | 0,_,_ => none
 | m + 1,j,i =>
  (bif decide (i < (m_.L.length : Int)) then
   (((mIdx m_.L i).bind fun x2 =>
   (bif x2.Queue == e then
    (bif decide (j < 0) then
     some true
    else
     (mIdx m_.L i).bind fun x3 =>
     (mIdx m_.L j).bind fun x4 =>
     (we x3.E x4.E).bind fun t_ =>
     some t_)
   else
    some false)).bind fun s2 =>
   (bif s2 then
    some i
   else
    some j)).bind fun s1 =>
   yq e m_ m s1 (w64 (i + 1))
  else
   some j)
def wi (k : Nat) (d : zf) (queue : Int) : Option (Int) :=
 (yq queue d k (-1) 0).bind fun s =>
 some s
def wI (p : zq) (r : zd) : Option (Int) :=
 ((bif decide (r.At < 0) then
  some true
 else
  (bif decide (r.At >= (p.Gens.length : Int)) then
   some true
  else
   (bif decide (r.Gen < 1) then
    some true
   else
    (mIdx p.Gens r.At).bind fun x1 =>
    some (decide (r.Gen > x1)))))).bind fun s =>
 (bif s then
  some 22
 else
  ((mIdx p.Gens r.At).bind fun x4 =>
  (bif decide (r.Gen < x4) then
   some true
  else
   (mIdx p.In r.At).bind fun x5 =>
   some (!x5))).bind fun s1 =>
  (bif s1 then
   some 23
  else
   some 0))
def vD (p : zq) (r : zd) : Option (Int × Int × zq) :=
 (wI p r).bind fun t_ =>
 (bif t_ != 0 then
  some (0,t_,p)
 else
  (mIdx p.In r.At).bind fun x =>
  (mApp ([] : List Int) p.Back).bind fun l =>
  (mApp l ([r.At] : List Int)).bind fun l1 =>
  (mIdx ((zq.mk p.Most p.Gens (mSet p.In r.At false) p.V l1).V) r.At).bind fun x1 =>
  some (x1,0,(zq.mk p.Most p.Gens (mSet p.In r.At false) p.V l1)))
def xu (d : zf) (e : Int) : Option (zD × zf) :=
 (mIdx d.L e).bind fun x =>
 (mCut d.L 0 e).bind fun l =>
 (mCut d.L (w64 (e + 1)) (d.L.length : Int)).bind fun l1 =>
 (mApp ([] : List zD) l).bind fun l2 =>
 (mApp l2 l1).bind fun i =>
 (vD d.Pool x.R).bind fun t_ =>
 some (x,zf.mk d.Most d.Now d.Next t_.2.2 i)
def yF (e : Int) (m_ : zf) : Nat -> Int -> Int -> Option (Int)
 | 0,_,_ => none
 | m + 1,n,i =>
  (bif decide (i < (m_.L.length : Int)) then
   ((mIdx m_.L i).bind fun x =>
   (bif x.Queue == e then
    some (w64 (n + 1))
   else
    some n)).bind fun s1 =>
   yF e m_ m s1 (w64 (i + 1))
  else
   some n)
def wh (k : Nat) (d : zf) (queue : Int) : Option (Int) :=
 (yF queue d k 0 0).bind fun s =>
 some s
def yG : Nat -> Int -> Int -> zf -> Option (Int × zf)
 | 0,_,_,_ => none
 | m + 1,n,i,m_ =>
  (bif decide (i < (m_.L.length : Int)) then
   ((mIdx m_.L i).bind fun x2 =>
   (bif x2.Queue == 1 then
    (mIdx m_.L i).bind fun x3 =>
    some (w64 (n + 1),zf.mk m_.Most m_.Now m_.Next m_.Pool (mSet m_.L i (zD.mk 0 x3.Data x3.E x3.R)))
   else
    some (n,m_))).bind fun s2 =>
   yG m s2.1 (w64 (i + 1)) s2.2
  else
   some (n,m_))
def z8 (k : Nat) (d : zf) (e : zE) : Option (zu × zf) :=
 (bif e.Kind == 1 then
  (xo d.Pool 0).bind fun t_ =>
  (bif !t_.2.1 then
   some (zu.mk 13 (zd.mk 0 0) 0 0 0,zf.mk d.Most d.Now d.Next t_.2.2 d.L)
  else
   (mApp ([] : List zD) d.L).bind fun l =>
   (mApp l ([zD.mk e.Queue e.Data (zg.mk e.Time d.Next) t_.1] : List zD)).bind fun l1 =>
   some (zu.mk 0 t_.1 e.Time e.Data 0,zf.mk ((zf.mk d.Most d.Now d.Next t_.2.2 l1).Most) ((zf.mk d.Most d.Now d.Next t_.2.2 l1).Now) (w64 (((zf.mk d.Most d.Now d.Next t_.2.2 l1).Next) + 1)) ((zf.mk d.Most d.Now d.Next t_.2.2 l1).Pool) ((zf.mk d.Most d.Now d.Next t_.2.2 l1).L)))
 else
  (bif e.Kind == 5 then
   (wi k d e.Queue).bind fun j =>
   ((bif decide (j < 0) then
    some true
   else
    (mIdx d.L j).bind fun x1 =>
    some (decide (x1.E.Key > d.Now)))).bind fun s =>
   (bif s then
    some (zu.mk 28 (zd.mk 0 0) 0 0 0,d)
   else
    (xu d j).bind fun i =>
    some (zu.mk 0 i.1.R i.1.E.Key i.1.Data 0,i.2))
  else
   (bif e.Kind == 6 then
    (bif e.Queue == 0 then
     some (zu.mk 25 (zd.mk 0 0) 0 0 0,d)
    else
     (yG k 0 0 d).bind fun s1 =>
     some (zu.mk 0 (zd.mk 0 0) 0 0 s1.1,s1.2))
   else
    (wh k d e.Queue).bind fun t =>
    some (zu.mk 0 (zd.mk 0 0) 0 0 t,d))))
def yQ (v_ : Int) (e : Int) (m_ : zf) : Nat -> Int -> Option ((Int × zf) ⊕ (Unit))
 | 0,_ => none
 | m + 1,i =>
  (bif decide (i < (m_.L.length : Int)) then
   (mIdx m_.L i).bind fun x =>
   (bif zd.eq x.R (zd.mk v_ e) then
    some (.inl (i,m_))
   else
    yQ v_ e m_ m (w64 (i + 1)))
  else
   some (.inr ()))
def wF (k : Nat) (d : zf) (r : zd) : Option (Int × zf) :=
 (yQ r.At r.Gen d k 0).bind fun s =>
 match s with
 | .inl e => some e
 | .inr s1 =>
  some ((-1),d)
def tM (a_ : Int) (b : Int) : Option (Int) :=
 (bif (decide (a_ > 0)) && (decide (b > w64 (9223372036854775807 - a_))) then
  some 9223372036854775807
 else
  (bif (decide (a_ < 0)) && (decide (b < w64 ((-9223372036854775808) - a_))) then
   some (-9223372036854775808)
  else
   some (w64 (a_ + b))))
def zR (k : Nat) (d : zf) (i : zE) : Option (zu × zf) :=
 (((bif i.Kind == 1 then
  some (i.Kind == 1)
 else
  (bif i.Kind == 5 then
   some (i.Kind == 5)
  else
   (bif i.Kind == 6 then
    some (i.Kind == 6)
   else
    some (i.Kind == 7))))).bind fun s2 =>
 (bif s2 then
  (bif (i.Queue != 0) && (i.Queue != 1) then
   some (.inl (zu.mk 1 (zd.mk 0 0) 0 0 0,d))
  else
   (z8 k d i).bind fun t_ =>
   some (.inl (t_.1,t_.2)))
 else
  ((bif i.Kind == 2 then
   some (i.Kind == 2)
  else
   some (i.Kind == 3))).bind fun y =>
  (bif y then
   (wI d.Pool i.Job).bind fun l =>
   (bif l != 0 then
    some (.inl (zu.mk l (zd.mk 0 0) 0 0 0,d))
   else
    (wF k d i.Job).bind fun e =>
    (bif i.Kind == 3 then
     (xu e.2 e.1).bind fun j =>
     some (.inl (zu.mk 0 (zd.mk 0 0) j.1.E.Key j.1.Data 0,j.2))
    else
     (mIdx e.2.L e.1).bind fun x =>
     (bif decide (i.Time > x.E.Key) then
      some (.inl (zu.mk 26 (zd.mk 0 0) 0 0 0,e.2))
     else
      (mIdx e.2.L e.1).bind fun x1 =>
      (mIdx (mSet e.2.L e.1 (zD.mk x1.Queue x1.Data (zg.mk i.Time x1.E.Serial) x1.R)) e.1).bind fun x2 =>
      some (.inl (zu.mk 0 (zd.mk 0 0) i.Time x2.Data 0,zf.mk e.2.Most e.2.Now e.2.Next e.2.Pool (mSet e.2.L e.1 (zD.mk x1.Queue x1.Data (zg.mk i.Time x1.E.Serial) x1.R)))))))
  else
   (bif i.Kind == 4 then
    (bif decide (i.Time < 0) then
     some (.inl (zu.mk 1 (zd.mk 0 0) 0 0 0,d))
    else
     (tM d.Now i.Time).bind fun t =>
     some (.inl (zu.mk 0 (zd.mk 0 0) t 0 0,zf.mk d.Most t d.Next d.Pool d.L)))
   else
    some (.inr ())))) : Option ((zu × zf) ⊕ (Unit))).bind fun s =>
 match s with
 | .inl u => some u
 | .inr s1 =>
  some (zu.mk 12 (zd.mk 0 0) 0 0 0,d)
end
end Go.Proofs.YtojpmaakhdmhmaaGreat
