/-
  The statements DispatchMerges, DispatchEnds of the program.
  Text 2 of 8: of what the proof needs (a row of the program: no condition is left); put together and made narrow by a program.
-/
import Derived.Below
import Derived.Deep.Slices
import Derived.Deep.Strs
import Derived.Laws.BytesString
import Derived.Laws.Externs
import Derived.Lib.AppendZerosOnto
import Derived.Lib.Overlaps
import Derived.Lib.SmallJoins
import Derived.MapKept
import Derived.Sort.Grow
import Derived.Sort.Row
import Derived.Test.YteflmnbkdhneiaaGreatYu1
set_option linter.unusedVariables false
set_option linter.unusedSimpArgs false
namespace Go.Th
noncomputable section
theorem St.below {w w' : World} {As : List HP} (H : St w As w') (i : Nat) (hi : As[i]? = some (Old w)) : Go.RowKit.Below w.heap.size w w' := by
 have j := H.old i hi;refine ⟨H.os, H.tape, H.output, ?_, j⟩;by_cases hz : w.heap.size = 0
 ·omega
 ·have := j (w.heap.size - 1) (by omega);have e : w.heap[w.heap.size - 1]? = some (w.heap[w.heap.size - 1]'(by omega)) := by simp
  rw [e] at this;have := (Array.getElem?_eq_some_iff.1 this).1;omega
theorem j2 {α : Type} {p : Nat -> α -> Prop} : ∀ n : Nat, (∀ i, i < n -> ∃ x, p i x) -> ∃ l : List α, l.length = n /\ ∀ (i : Nat) (x : α), l[i]? = some x -> p i x
 | 0, _ => ⟨[], rfl, fun i x h => by simp at h⟩
 | n + 1, h => by
  obtain ⟨l, hl, hp⟩ := j2 n fun i hi => h i (by omega)
  obtain ⟨x, u⟩ := h n (by omega);refine ⟨l ++ [x], by simp [hl], fun i y e => ?_⟩;by_cases hi : i < n
  ·rw [List.getElem?_append_left (by omega)] at e;exact hp i y e
  ·have j := (List.getElem?_eq_some_iff.1 e).1;simp [hl] at j;have t : i = n := by omega
   subst t;rw [List.getElem?_append_right (by omega)] at e;simp [hl] at e;subst e; exact u
section
variable {α H : Type} {en : TypeId × Value -> H} {P : Program} {w : World} {base : Nat} {spare : Nat -> Bool} {held : Bool} {enc : α -> List Value} {sz : Nat}
theorem Ap (he : wH enc sz) (hs : 0 < sz) {a : Addr} (l : List α) (h : ∀ (j : Nat) (u : Value), (l.flatMap enc)[j]? = some u -> w.cell? (a.add j) = some u) : SlRd (Old w) enc sz (some a) l := by
 intro g D;by_cases hl : l = []
 ·exact .inl hl
 have e := yD he l;have t : 0 < l.length := by cases l with
  | nil => exact absurd rfl hl
  | cons => simp
 have hp : 0 < (l.flatMap enc).length := by rw [e]; exact Nat.mul_pos t hs
 have h0 := h 0 _ (List.getElem?_eq_getElem hp);have e0 : a.add 0 = a := by simp [Addr.add]
 rw [e0] at h0;obtain ⟨b, off, spot⟩ := a;unfold World.cell? at h0;split at h0
 ·rename_i c T fr y;split at h0
  ·cases h0
  ·rename_i z;have A : spot = none := by simpa using z
   subst A;have B : b < w.heap.size := (Array.getElem?_eq_some_iff.1 y).1;refine .inr ⟨b, off, c, T, fr, rfl, by rw [D b B]; exact y, fun i hi => ?_⟩;have x : i < (l.flatMap enc).length := by rw [e]; exact hi
   have F := h i _ (List.getElem?_eq_getElem x);rw [List.getElem?_eq_getElem x, <- F];unfold Addr.add;split
   ·rename_i hz; subst hz; simp [World.cell?, y]
   ·simp [World.cell?, y]
 ·cases h0
theorem er {t e : TypeId} {fuel : Nat} {cs : List Value} {x : DataW H × List MemPlace} (ht : P.underlying t = some (.slice e)) (W : P.cellsOf e = sz) (he : wH enc sz) (hs : 0 < sz)
  (B : ∀ n cs y, DataW.trod en P w base spare held n e cs = some y -> ∃ z : α, cs = enc z) (h : DataW.trod en P w base spare held fuel t cs = some x) :
  ∃ (sb : Option Addr) (len cap : Nat) (l : List α), cs = [.slice sb len cap] /\ l.length = len /\ len <= cap /\ SlRd (Old w) enc sz sb l := by
 rcases Go.Deep.open_slice ht h with ⟨rfl, _⟩ | ⟨a, len, cap, m, n, D, Z, rfl, hb, hl, hm, I, _, X⟩
 ·exact ⟨none, 0, 0, [], rfl, rfl, Nat.le_refl _, fun _ _ => .inl rfl⟩
 ·obtain ⟨l, J, hp⟩ := j2 (α := α) (p := fun i z => w.cells? base (a.add (i * sz)) sz = some (enc z)) len fun i hi => by
   obtain ⟨Y, h1, h2⟩ := X i (by rw [I]; split <;> omega);obtain ⟨z, rfl⟩ := B _ _ _ h2;rw [W] at h1;exact ⟨z, h1⟩
  refine ⟨some a, len, cap, l, rfl, J, hl, Ap he hs l fun j u hu => ?_⟩;have F := (List.getElem?_eq_some_iff.1 hu).1;rw [yD he] at F;have hj : j / sz < l.length := Nat.div_lt_of_lt_mul (by rw [Nat.mul_comm]; exact F);have hq : j % sz < sz := Nat.mod_lt _ hs;have S := th he l (j / sz) (j % sz) hj hq;have U : j / sz * sz + j % sz = j := by rw [Nat.mul_comm]; exact Nat.div_add_mod j sz
  rw [U, hu] at S;have A := hp (j / sz) l[j / sz] (by simp [hj]);obtain ⟨_, _, O⟩ := World.cells?_some A;have := O (j % sz) (by exact hq);rw [<- S] at this;rw [<- this];congr 1;rw [Go.Deep.add_add, U]
theorem aI {e : TypeId} (he : P.underlying e = some (.int .i64)) : ∀ n cs y, DataW.trod en P w base spare held n e cs = some y -> ∃ z : Int, cs = ecI z := fun n cs y h => by
 obtain ⟨z, rfl, _⟩ := DataW.trod_int he h;exact ⟨z, rfl⟩
end
end
noncomputable section
theorem eP (A X R V : List Value) (h : V.length = X.length) : putAt (A ++ (X ++ R)) A.length V = A ++ (V ++ R) := by
 rw [uu _ _ _ (by simp; omega)];rw [List.take_left' rfl, aA];congr 2;have : A.length + V.length = (A ++ X).length := by simp [h]
 rw [this, <- aA, List.drop_left' rfl]
theorem qj (A X R V : List Value) (n : Nat) (hn : n = A.length) (h : V.length = X.length) : putAt (A ++ (X ++ R)) n V = A ++ (V ++ R) := by
 subst hn; exact eP A X R V h
section
variable {w0 w : World} {As : List HP} {P : Program} {n : Nat} {a : Act} {L : Env} {o : Oper} {T : TypeId}
theorem aG (H : St w0 As w) (i : Nat) {b off : Nat} {cs news : List Value} (hi : As[i]? = some (Blk b T cs)) (h : ∀ (j : Nat) (u : Value), news[j]? = some u -> cs[off + j]? = some u) : Rd w (some ⟨b, off, none⟩) news := by
 refine .inr ⟨_, rfl, fun j u hj => ?_⟩;rw [ub];exact H.cell i hi (h j u hj)
theorem OpTo.lT {b off i l e j sz : Nat} {F : Option Addr} {cs : List Value} (news : List Value) {x y : Operand} {t u : TypeId} {ti : TypeInfo} (J : yg n a L) (H : St w0 (Blk b T cs :: As) w)
  (O : o.op = .call { callee := .builtin .copy, args := #[x, y], argTypes := #[t, u] }) (U : evO L x = some (.slice (some ⟨b, off, none⟩) i l)) (W : evO L y = some (.slice F e j))
  (ht : P.underlying t = some (.slice T)) (hi : P.info? T = some ti) (I : ti.size = sz) (hr : Rd w F news) (hl : news.length = Nat.min e i * sz) (h1 : ∀ v ∈ news, v.oneCell' = true) (z : off + news.length <= cs.length) :
  OpTo P o a w fun v w' => (∃ k : Int, v = .int .i64 k) /\ St w0 (Blk b T (putAt cs off news) :: As) w' := by
 obtain ⟨dst, op, type, pos, after, guard⟩ := o;simp only at O;subst O;have S := H.one 0 rfl;have A := run_storeCells_at P b off T news 0 cs.toArray w S (by simpa using z) h1;simp only [Nat.add_zero] at A;rw [uu _ _ _ z];have hf := qn (P := P) (size := ti.size) (m := Nat.min e i) (len := e) (cap := j) hr (by rw [hl, I]);have B : (Builtin.copy_ #[t, u] type #[.slice (some ⟨b, off, none⟩) i l, .slice F e j]).run P w = .ok (goInt (Nat.min e i)) (w.setRow b (cs.take off ++ news ++ cs.drop (off + news.length)).toArray) := by
  have D : Sem.run P (storeCells { block := b, off := off } news) w = Result.ok () (w.setRow b (List.take off cs ++ (news ++ List.drop (off + news.length) cs)).toArray) := by simpa using A
  simp [Builtin.copy_, xV P ht, Builtin.lenOf, sK P hi, hf, D]
 refine OpTo.of_run (w' := w.setRow b (cs.take off ++ news ++ cs.drop (off + news.length)).toArray) (v := goInt (Nat.min e i)) ?_ ⟨⟨_, rfl⟩, ?_⟩
 ·simp [execOp, resolve, invoke, builtin, J.eval U, J.eval W, B]
 ·exact H.set (by simp) (by simp) (by simp) (setRow_heap w b _ _ T (0, 0) S) (fun c X => setRow_other w b c _ X)
theorem OpTo.aw {sz k i j : Nat} {sb : Option Addr} (l : List Value) {x y : Operand} {t F : TypeId} {kn : IntKind} {ti : TypeInfo} {z : Value} (hE : yg n a L) (H : St w0 As w)
  (ho : o.op = .call { callee := .builtin .append, args := #[x, y], argTypes := #[t, F] }) (hx : evO L x = some (.slice sb i j)) (hy : evO L y = some (.int .i64 (k : Int)))
  (ht : P.underlying t = some (.slice T)) (I : P.underlying F = some (.int kn)) (hi : P.info? T = some ti) (u : ti.size = sz) (hz : ti.zero = some z) (J : z.cells.size = sz) (hs : 0 < sz)
  (hr : Rd w sb l) (O : l.length = i * sz) (h0 : 0 < k) (hg : j < i + k) (A : i + k <= 1073741824) (S : Nat.ble ti.bytes 131072 = true) :
  OpTo P o a w fun v w' => ∃ (r c : Nat) (Z : List Value), v = .slice (some ⟨r, 0, none⟩) (i + k) c /\ i + k <= c /\ c <= maxLen /\ Z.length = (c - i) * sz /\ St w0 (Blk r T (l ++ Z) :: As) w' := by
 have B := Nat.le_of_ble_eq_true S;obtain ⟨dst, op, type, pos, after, guard⟩ := o;simp only at ho;subst ho;have U : Rd w.drew sb l := by
  rcases hr with h | ⟨xa, h1, h2⟩
  ·exact .inl h
  ·exact .inr ⟨xa, h1, by simpa using h2⟩
 have W := qn (P := P) (size := ti.size) (m := i) (len := i) (cap := j) U (by rw [O, u]);have X : k * ti.bytes <= 281474976710656 := by
  calc k * ti.bytes <= 1073741824 * 131072 := Nat.mul_le_mul (by omega) B
   _ <= 281474976710656 := by decide
 have Y : Builtin.nextslicecap (i + k) j * ti.bytes <= 281474976710656 := by
  refine growslice_fits (need := i + k) (old := j) (by omega) ?_
  calc (i + k) * ti.bytes <= 1073741824 * 131072 := Nat.mul_le_mul A B
   _ <= 140737488355328 := by decide
 have D := Go.Lib.run_append_grow_zeros (P := P) w t F type T ti z .i64 kn ht I hi hz sb i j l W k h0 (by rw [u]; exact hs) hg (by omega) X Y;have a7 := grownCap_ge w (i + k) j T;have a0 := grownCap_le_maxLen w (i + k) j T (by unfold maxLen; omega);refine OpTo.of_run (w' := w.drew.alloc (.cells (l.toArray ++ Builtin.zeroCells z.cells k ++ Builtin.zeroCells z.cells (grownCap w (i + k) j T - (i + k))) T (0, 0))) ?_
  ⟨w.heap.size, grownCap w (i + k) j T, (Builtin.zeroCells z.cells k ++ Builtin.zeroCells z.cells (grownCap w (i + k) j T - (i + k))).toList, rfl, by omega, a0, ?_, ?_⟩
 ·simp [execOp, resolve, invoke, builtin, hE.eval hx, hE.eval hy, D]
 ·simp only [Array.length_toList, Array.size_append, size_zeroCells, J, <- Nat.add_mul];congr 1; omega
 ·have H2 := (H.drew).alloc (.cells (l.toArray ++ Builtin.zeroCells z.cells k ++ Builtin.zeroCells z.cells (grownCap w (i + k) j T - (i + k))) T (0, 0));refine H2.head fun h hh => ?_
  have e : (l ++ (Builtin.zeroCells z.cells k ++ Builtin.zeroCells z.cells (grownCap w (i + k) j T - (i + k))).toList).toArray = l.toArray ++ Builtin.zeroCells z.cells k ++ Builtin.zeroCells z.cells (grownCap w (i + k) j T - (i + k)) := by
   apply Array.ext';simp [aA]
  show h _ = _;rw [e];exact hh
theorem OpTo.gR {g va vo la ca b off lb cb : Nat} {cv cs : Array Value} {Tv Ts : TypeId} {xs : List Operand} {fn : Func} {tS tR e : TypeId} {ti : TypeInfo} (hE : yg n a L) (H : St w0 As w) (i j : Nat)
  (hi : As[i]? = some (One va (.cells cv Tv (0, 0)))) (hj : As[j]? = some (One b (.cells cs Ts (0, 0)))) (hne : va ≠ b) (hcs : cs.size ≠ 0)
  (ho : callParts o.op = some (.func g, xs)) (hxs : qY L xs = some [.slice (some ⟨va, vo, none⟩) la ca, .slice (some ⟨b, off, none⟩) lb cb])
  (hf : P.funcs[g]? = some fn) (hname : (fn.name == "runtime.NumGoroutine") = false) (hb : fn.body.isNone = true) (hn : Extern.findNext fn = none) (he : Extern.find fn = some (Extern.SlicesOverlaps.overlaps #[tS, tS] #[tR]))
  (ht : P.underlying tS = some (.slice e)) (hz : P.info? e = some ti) : OpTo P o a w fun v w' => v = .bool false /\ w' = w := by
 obtain ⟨dst, op, type, pos, after, guard⟩ := o;cases op <;> simp only [callParts] at ho <;> try cases ho
 rename_i c;obtain ⟨callee, args, ats⟩ := c;cases callee <;> simp only at ho <;> try cases ho
 have h1 := H.one i hi;have h2 := H.one j hj;have hov := Go.Lib.run_overlaps_apart (P := P) w tS tR e ht ti.size (sK P hz) ⟨va, vo, none⟩ ⟨b, off, none⟩ la ca lb cb hne Tv Ts cv.size cs.size (by simp [World.shape?, h1]) (by simp [World.shape?, h2]) hcs (by simp [World.frozen?, h1]) (by simp [World.frozen?, h1]);have hcall := run_callFunc_extern hf hname hb hn he #[.slice (some ⟨va, vo, none⟩) la ca, .slice (some ⟨b, off, none⟩) lb cb] w;rw [hov] at hcall;have e2 := nv hE _ _ hxs;have e3 : args.map a.eval = #[.slice (some ⟨va, vo, none⟩) la ca, .slice (some ⟨b, off, none⟩) lb cb] := by
  apply Array.ext';simpa using e2
 refine OpTo.of_run (w' := w) (v := .bool false) ?_ ⟨rfl, rfl⟩;have hfe : a.eval (.func g) = .func (.func g) #[] #[] := rfl;simp [execOp, resolve, Deferred.ofValue, hfe, invoke, e3, hcall, Result.andThen]
end
theorem St.iu {α : Type} {T : TypeId} {enc : α -> List Value} {sz : Nat} {w0 w : World} {As : List HP} {sb : Option Addr} {sc : Nat} {l : List α} (H : St w0 (Sl T enc sz sb sc l :: As) w) (he : wH enc sz) (hl : 0 < l.length) :
  ∃ (b off : Nat) (A R : List Value), sb = some ⟨b, off, none⟩ /\ A.length = off /\ l.length <= sc /\ sc <= maxLen /\ (sc - l.length) * sz <= R.length /\ St w0 (Blk b T (A ++ (l.flatMap enc ++ R)) :: As) w := by
 rcases H.kX with ⟨_, rfl, _⟩ | ⟨b, off, cs, rfl, H1, h1, h2, h3, h4⟩
 ·simp at hl
 ·have j := yD he l;have hmul : l.length * sz <= sc * sz := Nat.mul_le_mul_right _ h1;refine ⟨b, off, cs.toList.take off, cs.toList.drop (off + l.length * sz), rfl, by simp; omega, h1, h2, ?_, ?_⟩
  ·simp only [List.length_drop, Array.length_toList, Nat.sub_mul]; omega
  ·refine H1.head fun h hh => ?_
   have e : cs.toList.take off ++ (l.flatMap enc ++ cs.toList.drop (off + l.length * sz)) = cs.toList := by
    have t : (cs.toList.drop off).take (l.length * sz) = l.flatMap enc := by
     apply List.ext_getElem?;intro i;by_cases hi : i < l.length * sz
     ·rw [List.getElem?_take, if_pos hi, List.getElem?_drop, <- h4 i hi]; simp
     ·rw [List.getElem?_eq_none (by simp; omega), List.getElem?_eq_none (by omega)]
    rw [<- t, <- List.drop_drop, List.take_append_drop, List.take_append_drop]
   show h b = _;rw [e];have : h b = some (.cells cs T (0, 0)) := hh;simpa using this
theorem St.bg {α : Type} {T : TypeId} {enc : α -> List Value} {sz : Nat} {w0 w : World} {As : List HP} {b sc : Nat} {l : List α} {A R : List Value} (H : St w0 (Blk b T (A ++ (l.flatMap enc ++ R)) :: As) w) (he : wH enc sz) (h1 : l.length <= sc) (h2 : sc <= maxLen) (h3 : (sc - l.length) * sz <= R.length) :
  St w0 (Sl T enc sz (some ⟨b, A.length, none⟩) sc l :: As) w := by
 have e := yD he l;have hmul : l.length * sz <= sc * sz := Nat.mul_le_mul_right _ h1;rw [Nat.sub_mul] at h3;refine H.head fun h hh => .inr ⟨b, A.length, _, rfl, hh, h1, h2, by simp [e]; omega, fun i hi => ?_⟩
 simp only [List.getElem?_toArray];rw [List.getElem?_append_right (by omega), Nat.add_sub_cancel_left, List.getElem?_append_left (by rw [e]; exact hi)]
end
end Go.Th
noncomputable section
namespace Go.Th
end Go.Th
end
namespace Go.Th
noncomputable section
section
variable {w0 w : World} {As : List HP} {P : Program} {n : Nat} {a : Act} {L : Env} {o : Oper} {T : TypeId}
end
end
noncomputable section
@[reducible] def catE : Env -> Env -> Env
 | [], L => L
 | p :: r, L => p :: catE r L
def cP : Env -> List Nat
 | [] => []
 | (t, _) :: r => t :: cP r
def hasK (t : Nat) : Env -> Bool
 | [] => false
 | (u, _) :: r => match Nat.beq t u with
  | true => true
  | false => hasK t r
def oH (ops : Array Oper) (new L : Env) : List Nat -> Bool
 | [] => true
 | i :: is => match ops[i]? with
  | none => oH ops new L is
  | some o => match o.dst with
   | none => oH ops new L is
   | some d => match hasK d new with
    | true => oH ops new L is
    | false => match hasK d L with
     | true => false
     | false => oH ops new L is
def segD (P : Program) (n : Nat) (ops : Array Oper) (is : List Nat) (L : Env) (e : List Value) (new : Env) : Option (Env × List Ob) :=
 match oH ops new L is with
 | false => none
 | true => nV P n ops is L e (cP new)
theorem gn : ∀ (new L : Env) (t : Nat) (v : Value), look t (catE new L) = some v -> (look t new = some v) \/ (hasK t new = false /\ look t L = some v)
 | [], L, t, v, h => Or.inr ⟨rfl, h⟩
 | (u, x) :: r, L, t, v, h => by
  rw [catE, w9] at h;split at h
  ·subst_vars
   left
   rw [w9, if_pos rfl]; exact h
  ·rename_i e;rcases gn r L t v h with h1 | ⟨h1, h2⟩
   ·left; rw [w9, if_neg e]; exact h1
   ·right
    refine ⟨?_, h2⟩;simp only [hasK];split
    ·rename_i i; exact absurd (Nat.eq_of_beq_eq_true i) e
    ·exact h1
theorem kh : ∀ (L : Env) (t : Nat) (v : Value), look t L = some v -> hasK t L = true
 | [], t, v, h => by cases h
 | (u, x) :: r, t, v, h => by
  simp only [look] at h;simp only [hasK];split at h
  ·rename_i e; first | rfl | rw [e]
  ·rename_i e; first | exact kh r t v h | (rw [e]; exact kh r t v h)
theorem nj {ops : Array Oper} {new L : Env} : ∀ {is : List Nat}, oH ops new L is = true -> ∀ i ∈ is, ∀ o d, ops[i]? = some o -> o.dst = some d -> hasK d new = true \/ hasK d L = false
 | [], _, i, hi, _, _, _, _ => by cases hi
 | j :: is, h, i, hi, o, d, e, hd => by
  simp only [oH] at h;rcases List.mem_cons.1 hi with rfl | hi
  ·rw [e] at h;simp only [hd] at h;cases h1 : hasK d new
   ·rw [h1] at h;simp only at h;cases h2 : hasK d L
    ·exact Or.inr rfl
    ·rw [h2] at h; cases h
   ·exact Or.inl rfl
  ·have l : oH ops new L is = true := by
    repeat' split at h
    all_goals first | exact h | cases h
   exact nj l i hi o d e hd
theorem jd {n : Nat} {d : Option Tmp} {v : Value} {L i : Env} {t : Nat} (h : setE n d v L = some i) (hd : d ≠ some t) : look t i = look t L := by
 unfold setE at h;split at h
 ·cases h; rfl
 ·split at h
  ·cases h;rw [w9, if_neg (fun e => hd (by rw [e]))]
  ·cases h
theorem oA {P : Program} {n : Nat} {ops : Array Oper} {t : Nat} : ∀ (is : List Nat) (L : Env) (e : List Value) (l : Env) (obs : List Ob), qN P n ops is L e = some (l, obs) -> (∀ i ∈ is, ∀ o, ops[i]? = some o -> o.dst ≠ some t) -> look t l = look t L
 | [], L, e, l, obs, h, _ => by simp [qN] at h; rw [h.1]
 | i :: is, L, e, l, obs, h, hd => by
  have u : ∀ j ∈ is, ∀ o, ops[j]? = some o -> o.dst ≠ some t := fun j hj => hd j (mC _ hj)
  rw [qN] at h;split at h
  ·cases h
  ·rename_i o z;have x := hd i (List.mem_cons_self ..) o z;split at h
   ·cases h
   ·split at h
    ·rename_i L2 hs;rw [oA is L2 e l obs h u, jd hs x]
    ·cases h
   ·split at h
    ·cases h
    ·split at h
     ·cases h
     ·rename_i L2 hs;split at h
      ·rename_i A y h3;cases h;rw [oA is L2 _ _ _ h3 u, jd hs x]
      ·cases h
theorem yg.cat {n : Nat} {a : Act} {e L new : Env} (h : yg n a e) (hs : Th.sel (cP new) e = some new) (hk : ∀ t, hasK t new = false -> hasK t L = true -> look t e = look t L) : yg n a (catE new L) := by
 have h2 := sW h hs;refine ⟨h.size, h.defers, fun t v hv => ?_⟩;rcases gn new L t v hv with h1 | ⟨h1, h3⟩
 ·exact h2.has t v h1
 ·exact h.has t v (by rw [hk t h1 (kh L t v h3)]; exact h3)
section
variable {P : Program} {f : FuncId} {k : List Item} {a : Act} {w : World} {R : Value -> World -> Prop}
theorem ey {P : Program} {n : Nat} {ops : Array Oper} {is : List Nat} {L new : Env} {j : List Value} {obs : List Ob} (he : segD P n ops is L j new = some (new, obs)) :
  ∃ l, qN P n ops is L j = some (l, obs) /\ ∀ a : Act, yg n a l -> yg n a (catE new L) := by
 unfold segD at he;split at he
 ·cases he
 ·rename_i hd;unfold nV at he;split at he
  ·cases he
  ·rename_i l x hs;split at he
   ·rename_i y u;cases he;refine ⟨l, hs, fun a ha => ha.cat u fun t h1 h2 => oA is L j l _ hs fun i hi o z e => ?_⟩;rcases nj hd i hi o t z e with h3 | h3
    ·rw [h1] at h3; cases h3
    ·rw [h2] at h3; cases h3
   ·cases he
theorem WR.d {ops : Array Oper} {i n : Nat} {L : Env} (u : yg n a L) (j : Nat) (l : List Value) (new : Env) {obs : List Ob} (x : wc w obs) (hk : ∀ e, yg n e (catE new L) -> WR P f ops j k e w R)
  (hj : (Nat.ble i j && Nat.ble j ops.size) = true := by rfl) (he : segD P n ops (List.range' i (j - i)) L l new = some (new, obs) := by kernel_rfl) : WR P f ops i k a w R := by
 obtain ⟨A, hs, hn⟩ := ey he;simp only [Bool.and_eq_true] at hj;have h1 := Nat.le_of_ble_eq_true hj.1;have h2 := Nat.le_of_ble_eq_true hj.2;unfold WR;have hr : List.range' i (ops.size - i) = List.range' i (j - i) ++ List.range' j (ops.size - j) := by
  have y : ops.size - i = (j - i) + (ops.size - j) := by omega
  have z : i + (j - i) = j := by omega
  rw [y, <- List.range'_append_1, z]
 rw [hr];exact nD _ _ _ _ _ _ u hs x fun e t => hk e (hn e t)
theorem WR.d0 {ops : Array Oper} {i n : Nat} {L : Env} (l : yg n a L) (j : Nat) (new : Env) (hk : ∀ e, yg n e (catE new L) -> WR P f ops j k e w R)
  (hj : (Nat.ble i j && Nat.ble j ops.size) = true := by rfl) (he : segD P n ops (List.range' i (j - i)) L [] new = some (new, []) := by kernel_rfl) : WR P f ops i k a w R := WR.d l j [] new (obs := []) trivial hk hj he
theorem WR.e {ops : Array Oper} {i n : Nat} {L : Env} (u : yg n a L) (j : List Value) (new : Env) {obs : List Ob} (x : wc w obs) (hk : ∀ l, yg n l (catE new L) -> Runs P f k l w R)
  (hj : Nat.ble i ops.size = true := by rfl) (he : segD P n ops (List.range' i (ops.size - i)) L j new = some (new, obs) := by kernel_rfl) : WR P f ops i k a w R :=
 WR.d u ops.size j new x (fun l t => WR.done (Nat.ble_eq_true_of_le (Nat.le_refl _)) (hk l t)) (by rw [hj]; exact Nat.ble_eq_true_of_le (Nat.le_refl _)) he
theorem WR.e0 {ops : Array Oper} {i n : Nat} {L : Env} (l : yg n a L) (new : Env) (hk : ∀ j, yg n j (catE new L) -> Runs P f k j w R)
  (hj : Nat.ble i ops.size = true := by rfl) (he : segD P n ops (List.range' i (ops.size - i)) L [] new = some (new, []) := by kernel_rfl) : WR P f ops i k a w R := WR.e l [] new (obs := []) trivial hk hj he
theorem Runs.sr {id : Nat} {ops : Array Oper} {y : Code} (h : WR P f ops 0 (.code y :: k) a w R) : Runs P f (.code (.seq (.region id ops false) y) :: k) a w R := Runs.seq (Runs.region h)
theorem WQ.d {ops : Array Oper} {dn : List Nat} {pend : List (Nat × List Ob)} {n : Nat} {L : Env} (t : yg n a L) (is : List Nat) (i : List Value) (new : Env) {obs : List Ob} (u : wc w obs)
  (hk : ∀ j, yg n j (catE new L) -> WQ P f ops (dn ++ is) (segP P n ops is L i pend) k j w R)
  (ht : (Nat.ble (dn.length + is.length) ops.size && kC ops is (ua dn)) = true := by kernel_rfl) (he : segD P n ops is L i new = some (new, obs) := by kernel_rfl) : WQ P f ops dn pend k a w R := by
 obtain ⟨y, hs, hn⟩ := ey he;simp only [Bool.and_eq_true] at ht;have hle := Nat.le_of_ble_eq_true ht.1;have e : ops.size - dn.length = is.length + (ops.size - (dn ++ is).length) := by simp; omega
 unfold WQ;rw [e];intro hs';exact WP.segs hs' _ _ _ _ _ _ _ _ _ _ t (fun x => vM x dn) ht.2 hs u fun j l => hk j (hn j l) hs'
theorem WQ.d0 {ops : Array Oper} {dn : List Nat} {pend : List (Nat × List Ob)} {n : Nat} {L : Env} (i : yg n a L) (is : List Nat) (new : Env)
  (hk : ∀ e, yg n e (catE new L) -> WQ P f ops (dn ++ is) (segP P n ops is L [] pend) k e w R)
  (ht : (Nat.ble (dn.length + is.length) ops.size && kC ops is (ua dn)) = true := by kernel_rfl) (he : segD P n ops is L [] new = some (new, []) := by kernel_rfl) : WQ P f ops dn pend k a w R := WQ.d i is [] new (obs := []) trivial hk ht he
end
end
noncomputable section
section
variable {α H : Type} {en : TypeId × Value -> H} {P : Program} {w : World} {base : Nat} {spare : Nat -> Bool} {held : Bool} {enc : α -> List Value} {sz : Nat}
end
end
noncomputable section
section
variable {K V : Type}
def mGet (eq : K -> K -> Bool) (k : K) : List (K × V) -> Option V
 | [] => none
 | p :: m => bif eq k p.1 then some p.2 else mGet eq k m
def mPut (eq : K -> K -> Bool) (k : K) (v : V) : List (K × V) -> List (K × V)
 | [] => [(k, v)]
 | p :: m => bif eq k p.1 then (k, v) :: m else p :: mPut eq k v m
def mDel (eq : K -> K -> Bool) (k : K) : List (K × V) -> List (K × V)
 | [] => []
 | p :: m => bif eq k p.1 then m else p :: mDel eq k m
def rr (eq : K -> K -> Bool) (k : K) (z : V) (m : List (K × V)) : Option (V × Bool) := some (match mGet eq k m with
 | some v => (v, true)
 | none => (z, false))
def mAt (eq : K -> K -> Bool) (k : K) : List K -> Nat -> Option Nat
 | [], _ => none
 | a :: ks, i => bif eq k a then some i else mAt eq k ks (i + 1)
theorem eB (eq : K -> K -> Bool) (k : K) : ∀ (ks : List K) (i j : Nat), mAt eq k ks i = some j -> i <= j
 | [], i, j, h => by simp [mAt] at h
 | a :: ks, i, j, h => by
  simp only [mAt] at h;cases he : eq k a <;> simp [he] at h
  ·have := eB eq k ks (i + 1) j h; omega
  ·omega
theorem eU (eq : K -> K -> Bool) (k : K) : ∀ (m : List (K × V)) (i : Nat),
  (mAt eq k (m.map (·.1)) i = none /\ mGet eq k m = none /\ (∀ v, mPut eq k v m = m ++ [(k, v)]) /\ mDel eq k m = m) \/
  ∃ j p, mAt eq k (m.map (·.1)) i = some (i + j) /\ m[j]? = some p /\ eq k p.1 = true /\ mGet eq k m = some p.2 /\ (∀ v, mPut eq k v m = m.set j (k, v)) /\ mDel eq k m = m.eraseIdx j
 | [], i => .inl ⟨rfl, rfl, fun _ => rfl, rfl⟩
 | p :: m, i => by
  cases he : eq k p.1
  ·rcases eU eq k m (i + 1) with ⟨h1, h2, h3, h4⟩ | ⟨j, q, h1, h2, h3, h4, e, l⟩
   ·exact .inl ⟨by simp [mAt, he, h1], by simp [mGet, he, h2], fun v => by simp [mPut, he, h3], by simp [mDel, he, h4]⟩
   ·refine .inr ⟨j + 1, q, ?_, by simpa using h2, h3, by simp [mGet, he, h4], fun v => by simp [mPut, he, e], by simp [mDel, he, l]⟩;simp [mAt, he, h1]; omega
  ·exact .inr ⟨0, p, by simp [mAt, he], rfl, he, by simp [mGet, he], fun v => by simp [mPut, he], by simp [mDel, he]⟩
structure s5 (P : Program) (kt : TypeId) (ek : K -> Value) (eq : K -> K -> Bool) : Prop where
 check : ∀ (w : World) em k, (Instr.checkKey em 10000 kt (ek k)).run P w = .ok () w
 find : ∀ (w : World) k (es : List MapEntry) (ks : List K), es.map (·.key) = ks.map ek -> (Instr.findKey kt (ek k) es).run P w = .ok ((mAt eq k ks 0).bind fun j => (es[j]?).map fun e => (j, e.val)) w
 stays : ∀ (w : World) k, (Instr.keyThatStays (ek k) (ek k)).run P w = .ok (ek k) w
 same : ∀ a b, eq a b = true -> a = b
end
def kI (a b : Int) : Bool := a == b
theorem lE (k : Int) : ∀ (es : List MapEntry) (ks : List Int) (i : Nat), es.map (·.key) = ks.map vI -> Instr.findNow (.int .i64) (vI k) es i = some ((mAt kI k ks i).bind fun j => (es[j - i]?).map fun e => (j, e.val))
 | [], [], i, _ => by simp [Instr.findNow, mAt]
 | [], _ :: _, i, h => by simp at h
 | _ :: _, [], i, h => by simp at h
 | e :: es, a :: ks, i, h => by
  simp only [pC, List.cons.injEq] at h;have ih := lE k es ks (i + 1) h.2;simp only [Instr.findNow, h.1, vI, Instr.sameNow, if_true, mAt, kI];cases hk : (k == a)
  ·simp only [cF];simp only [vI] at ih;rw [ih];cases hm : mAt kI k ks (i + 1) with
   | none => rfl
   | some j =>
    have hj := eB _ _ _ _ _ hm;have l : j - i = (j - (i + 1)) + 1 := by omega
    simp [l]
  ·simp
theorem s5.int {P : Program} {kt : TypeId} (h : P.underlying kt = some (.int .i64)) : s5 P kt vI kI where
 check := fun w em k => Go.MapKept.run_checkKey h (show Go.MapKept.IsKey (.int .i64) (vI k) from rfl) em 9999
 find := fun w k es ks he => Go.MapKept.run_findKey h (by simpa using lE k es ks 0 he)
 stays := fun w k => Go.MapKept.run_keyThatStays (d := .int .i64) (show Go.MapKept.IsKey (.int .i64) (vI k) from rfl)
 same := fun a b h => by simpa [kI] using h
section
variable {K V : Type} {P : Program} {ek : K -> Value} {eq : K -> K -> Bool} {kt : TypeId}
theorem pH (he : ∀ (w : World) a b, (Op.equal kt (ek a) (ek b)).run P w = .ok (eq a b) w) (w : World) (k : K) : ∀ (es : List MapEntry) (ks : List K) (i : Nat), es.map (·.key) = ks.map ek ->
  (Instr.findAsking kt (ek k) es i).run P w = .ok ((mAt eq k ks i).bind fun j => (es[j - i]?).map fun e => (j, e.val)) w
 | [], [], i, _ => by simp [Instr.findAsking, mAt]
 | [], _ :: _, i, h => by simp at h
 | _ :: _, [], i, h => by simp at h
 | e :: es, a :: ks, i, h => by
  simp only [pC, List.cons.injEq] at h;have ih := pH he w k es ks (i + 1) h.2;simp only [Instr.findAsking, Sem.run_bind, h.1, he, Result.andThen_ok, mAt];cases hk : eq k a
  ·simp only [cF, Bool.false_eq_true, if_false, ih];cases hm : mAt eq k ks (i + 1) with
   | none => rfl
   | some j =>
    have hj := eB _ _ _ _ _ hm;have l : j - i = (j - (i + 1)) + 1 := by omega
    simp [l]
  ·simp
theorem s5.struct {fs : Array Field} (h : P.underlying kt = some (.struct fs)) (j : ∀ (w : World) em k, (Instr.checkKey em 10000 kt (ek k)).run P w = .ok () w)
  (he : ∀ (w : World) a b, (Op.equal kt (ek a) (ek b)).run P w = .ok (eq a b) w) (hs : ∀ k, Instr.sameBits 10000 (ek k) (ek k) = true) (hq : ∀ a b, eq a b = true -> a = b) : s5 P kt ek eq where
 check := j
 find := fun w k es ks i => by
  have hf := pH he w k es ks 0 i;have l : (Instr.findKey kt (ek k) es).run P w = (Instr.findAsking kt (ek k) es).run P w := by
   cases es with
   | nil => simp [Instr.findKey, xV P h, Instr.findNow, Instr.findAsking]
   | cons e es => simp [Instr.findKey, xV P h, Instr.findNow, Instr.sameNow]
  rw [l];simpa using hf
 stays := fun w k => by simp [Instr.keyThatStays, hs]
 same := hq
theorem qI {fs : Array Field} {cs : Array Value} (n : Nat) (h : P.underlying kt = some (.struct fs)) (w : World) (em : Bool)
  (hf : ∀ f ∈ fs.toList, f.name ≠ "_" /\ ∃ v, (part f.type cs f.offset).run P w = .ok v w /\ (Instr.checkKey em n f.type v).run P w = .ok () w) : (Instr.checkKey em (n + 1) kt (.agg cs)).run P w = .ok () w := by
 rw [Instr.checkKey];simp only [Sem.run_bind, xV P h, Result.andThen_ok];rw [<- Array.forIn_toList];generalize fs.toList = L at hf;induction L with
 | nil => simp
 | cons f L ih =>
  obtain ⟨hn, v, p1, p2⟩ := hf f (by simp);simp only [List.forIn_cons, Sem.run_bind, hn, ne_eq, not_false_eq_true, if_true, Result.andThen_ok, p1, p2, Sem.run_pure];exact ih fun y hy => hf y (by simp [hy])
theorem rP (n : Nat) (h : P.underlying kt = some (.int .i64)) (w : World) (em : Bool) (x : Int) : (Instr.checkKey em (n + 1) kt (.int .i64 x)).run P w = .ok () w :=
 Go.MapKept.run_checkKey h (show Go.MapKept.IsKey (.int .i64) (.int .i64 x) from rfl) em n
theorem A6 {P : Program} {cs : Array Value} {w : World} {em : Bool} {n : Nat} {Ls : List Field} (h : Ls = []) : ∀ f ∈ Ls, f.name ≠ "_" /\ ∃ v, (part f.type cs f.offset).run P w = .ok v w /\ (Instr.checkKey em n f.type v).run P w = .ok () w := by
 subst h; intro f hf; cases hf
theorem eE {P : Program} {cs : Array Value} {w : World} {em : Bool} {n : Nat} {Ls fs : List Field} {f : Field} {v : Value} (hL : Ls = f :: fs) (hn : (f.name == "_") = false) (p : (part f.type cs f.offset).run P w = .ok v w) (c : (Instr.checkKey em n f.type v).run P w = .ok () w)
  (r : ∀ g ∈ fs, g.name ≠ "_" /\ ∃ v, (part g.type cs g.offset).run P w = .ok v w /\ (Instr.checkKey em n g.type v).run P w = .ok () w) : ∀ g ∈ Ls, g.name ≠ "_" /\ ∃ v, (part g.type cs g.offset).run P w = .ok v w /\ (Instr.checkKey em n g.type v).run P w = .ok () w := by
 subst hL; intro g hg;rcases List.mem_cons.1 hg with rfl | hg
 ·exact ⟨by simpa using hn, v, p, c⟩
 ·exact r g hg
def MpA (r : Nat) (ek : K -> Value) (ev : V -> Value) (m : List (K × V)) : HP := fun h => ∃ x : Array MapEntry × Nat, One r (.map x.1 x.2) h /\ x.1.toList.map (fun e => (e.key, e.val)) = m.map fun p => (ek p.1, ev p.2)
variable {ev : V -> Value} {w w0 : World} {As : List HP} {n r : Nat} {L : Env} {o : Oper} {a : Act} {m : List (K × V)} {k : K}
theorem MpA.keys {es : List MapEntry} {m : List (K × V)} (h : es.map (fun e => (e.key, e.val)) = m.map fun p => (ek p.1, ev p.2)) : es.map (·.key) = (m.map (·.1)).map ek := by
 have := congrArg (List.map Prod.fst) h;simp only [List.map_map] at this;rw [List.map_map];exact this
theorem MpA.get {es : List MapEntry} {m : List (K × V)} (h : es.map (fun e => (e.key, e.val)) = m.map fun p => (ek p.1, ev p.2)) {j : Nat} {p : K × V} (hj : m[j]? = some p) : ∃ e, es[j]? = some e /\ e.key = ek p.1 /\ e.val = ev p.2 := by
 have h2 := congrArg (fun l => l[j]?) h;simp only [List.getElem?_map, hj, Option.map_some] at h2;cases he : es[j]? with
 | none => rw [he] at h2; simp at h2
 | some e => rw [he] at h2; simp at h2; exact ⟨e, rfl, h2.1, h2.2⟩
theorem s5.found (hk : s5 P kt ek eq) (w : World) (k : K) {es : List MapEntry} {m : List (K × V)} (h : es.map (fun e => (e.key, e.val)) = m.map fun p => (ek p.1, ev p.2)) :
  ((Instr.findKey kt (ek k) es).run P w = .ok none w /\ mGet eq k m = none /\ (∀ v, mPut eq k v m = m ++ [(k, v)]) /\ mDel eq k m = m) \/
  ∃ j e v, (Instr.findKey kt (ek k) es).run P w = .ok (some (j, ev v)) w /\ es[j]? = some e /\ e.key = ek k /\ mGet eq k m = some v /\ (∀ v, mPut eq k v m = m.set j (k, v)) /\ mDel eq k m = m.eraseIdx j := by
 have hf := hk.find w k es _ (MpA.keys h);rcases eU eq k m 0 with ⟨h1, h2, h3, h4⟩ | ⟨j, p, h1, h2, h3, h4, l, t⟩
 ·left; rw [h1] at hf; exact ⟨hf, h2, h3, h4⟩
 ·right
  obtain ⟨e, i, u, x⟩ := MpA.get h h2;simp only [Nat.zero_add] at h1;rw [h1] at hf;simp only [bS, i, Option.map_some, x] at hf;exact ⟨j, e, p.2, hf, i, by rw [u, hk.same _ _ h3], h4, l, t⟩
theorem OpTo.B5 {K V : Type} {w0 w : World} {As : List HP} (ek : K -> Value) (ev : V -> Value) {t : TypeId} (i : yg n a L) (H : St w0 As w) (e : o.op = .makeMap t none) : OpTo P o a w fun v w' => ∃ r : Nat, v = .map (some r) /\ St w0 (MpA r ek ev [] :: As) w' := by
 obtain ⟨dst, op, type, pos, after, guard⟩ := o;simp only at e;subst e;refine OpTo.of_run (w' := { w with heap := w.heap.push (.map #[] 0) }) (v := .map (some w.heap.size)) ?_ ⟨w.heap.size, rfl, ?_⟩
 ·simp [execOp, Instr.makeMap, newObj]
  rfl
 ·exact (H.alloc (.map #[] 0)).head fun h hh => ⟨(#[], 0), hh, by simp⟩
theorem mP {mt t : TypeId} {ti : TypeInfo} {z : V} (H : St w0 As w) (i : Nat) (hi : As[i]? = some (MpA r ek ev m)) (hk : s5 P kt ek eq) (ht : P.underlying mt = some (.map kt t)) (hz : P.info? t = some ti) (u : ti.zero = some (ev z)) (ok : Bool) :
  ∀ {g : V × Bool}, rr eq k z m = some g -> (Instr.lookup mt (.map (some r)) (ek k) ok).run P w = .ok (if ok then .tuple #[ev g.1, .bool g.2] else ev g.1) w := by
 intro g l;obtain ⟨h1, hs, x, hh, B⟩ := H.at i hi;have A : w.heap[r]? = some (.map x.1 x.2) := hs _ _ hh;rcases hk.found w k B with ⟨f1, f2, _, _⟩ | ⟨j, e, v, f1, f2, f3, f4, _, _⟩
 ·have y : (zeroValue t).run P w = .ok (ev z) w := by simp [Go.zeroValue, Go.typeInfo, Sem.run, hz, u]
  simp [Instr.lookup, xV P ht, Go.MapKept.run_getObj_map A, hk.check, f1, y, Result.andThen]; simp [rr, f2] at l; subst l; rfl
 ·simp [Instr.lookup, xV P ht, Go.MapKept.run_getObj_map A, hk.check, f1, Result.andThen]; simp [rr, f4] at l; subst l; rfl
theorem OpTo.AW {mt j : TypeId} {ti : TypeInfo} {z : V} {x y : Operand} (i : Nat) (l : yg n a L) (H : St w0 As w) (hi : As[i]? = some (MpA r ek ev m)) (hk : s5 P kt ek eq) {g : V × Bool} (hl : rr eq k z m = some g) (t : o.op = .lookup mt x y true)
  (ht : P.underlying mt = some (.map kt j)) (hz : P.info? j = some ti) (e : ti.zero = some (ev z)) (u : evO L x = some (.map (some r))) (A : evO L y = some (ek k)) :
  OpTo P o a w fun v w' => v = .tuple #[ev g.1, .bool g.2] /\ w' = w := by
 obtain ⟨dst, op, type, pos, after, guard⟩ := o;simp only at t;subst t;have hl := mP (k := k) H i hi hk ht hz e true hl;exact OpTo.of_run (w' := w) (by simp [execOp, l.eval u, l.eval A, hl]) ⟨rfl, rfl⟩
theorem OpTo.B9 {mt j : TypeId} {ti : TypeInfo} {z : V} {x y : Operand} (i : Nat) (l : yg n a L) (H : St w0 As w) (hi : As[i]? = some (MpA r ek ev m)) (hk : s5 P kt ek eq) {g : V × Bool} (hl : rr eq k z m = some g) (t : o.op = .lookup mt x y false)
  (ht : P.underlying mt = some (.map kt j)) (hz : P.info? j = some ti) (e : ti.zero = some (ev z)) (u : evO L x = some (.map (some r))) (A : evO L y = some (ek k)) :
  OpTo P o a w fun v w' => v = ev g.1 /\ w' = w := by
 obtain ⟨dst, op, type, pos, after, guard⟩ := o;simp only at t;subst t;have hl := mP (k := k) H i hi hk ht hz e false hl;exact OpTo.of_run (w' := w) (by simp [execOp, l.eval u, l.eval A, hl]) ⟨rfl, rfl⟩
theorem pF {α β : Type} (f : α -> β) : ∀ (l : List α) (j : Nat), (l.eraseIdx j).map f = (l.map f).eraseIdx j
 | [], _ => rfl
 | _ :: _, 0 => rfl
 | x :: l, j + 1 => by simp [pF f l j]
theorem St.cZ (H : St w0 (MpA r ek ev m :: As) w) : ∃ es i, St w0 (One r (.map es i) :: As) w /\ es.toList.map (fun e => (e.key, e.val)) = m.map fun p => (ek p.1, ev p.2) := by
 obtain ⟨x, H⟩ := H.ex;have j := H.fact fun h hh => hh.2
 exact ⟨x.1, x.2, H.head fun h hh => hh.1, j⟩
theorem St.dX {es i : Array MapEntry} {u j : Nat} {l : List (K × V)} (H : St w0 (One r (.map es u) :: As) w) (he : i.toList.map (fun e => (e.key, e.val)) = l.map fun p => (ek p.1, ev p.2)) :
  St w0 (MpA r ek ev l :: As) { w with heap := w.heap.setIfInBounds r (.map i j) } := by
 have t := H.one 0 rfl;have := H.set (w' := { w with heap := w.heap.setIfInBounds r (.map i j) }) (o' := .map i j) rfl rfl rfl (Go.MapKept.heap_set t).1 (Go.MapKept.heap_set t).2;exact this.head fun h hh => ⟨(i, j), hh, he⟩
def ph : Op -> Option (TypeId × Operand × Operand × Operand)
 | .mapUpdate t m k x => some (t, m, k, x)
 | .insert t m k x => some (t, m, k, x)
 | _ => none
theorem OpTo.BH {mt F : TypeId} {x y z : Operand} {v : V} (A : yg n a L) (H : St w0 (MpA r ek ev m :: As) w) (hk : s5 P kt ek eq) (D : ph o.op = some (mt, x, y, z))
  (ht : P.underlying mt = some (.map kt F)) (I : evO L x = some (.map (some r))) (J : evO L y = some (ek k)) (hz : evO L z = some (ev v)) : OpTo P o a w fun _ w' => St w0 (MpA r ek ev (mPut eq k v m) :: As) w' := by
 obtain ⟨es, B, H1, he⟩ := H.cZ;have u := H1.one 0 rfl;have key : ∃ w', (Instr.mapUpdate mt (.map (some r)) (ek k) (ev v)).run P w = .ok () w' /\ St w0 (MpA r ek ev (mPut eq k v m) :: As) w' := by
  rcases hk.found w k he with ⟨f1, f2, f3, _⟩ | ⟨j, e, O, f1, f2, f3, f4, f5, _⟩
  ·refine ⟨{ w with heap := w.heap.setIfInBounds r (.map (es.push { key := ek k, val := ev v, born := B }) (B + 1)) }, ?_, H1.dX ?_⟩
   ·simp [Instr.mapUpdate, xV P ht, Go.MapKept.run_getObj_map u, hk.check, f1, Go.MapKept.run_setObj_map _ u, Result.andThen]
   ·rw [f3]; simp [he]
  ·have hj : es[j]? = some e := by simpa using f2
   refine ⟨{ w with heap := w.heap.setIfInBounds r (.map (es.modify j fun e => { e with key := ek k, val := ev v }) B) }, ?_, H1.dX ?_⟩
   ·simp [Instr.mapUpdate, xV P ht, Go.MapKept.run_getObj_map u, hk.check, f1, hj, f3, hk.stays, Go.MapKept.run_setObj_map _ u, Result.andThen]
   ·rw [f5];apply List.ext_getElem?;intro i;have hi := congrArg (fun l => l[i]?) he;simp only [List.getElem?_map, Array.getElem?_toList] at hi;simp only [List.getElem?_map, Array.getElem?_toList, Array.getElem?_modify, List.getElem?_set];by_cases t : j = i
    ·subst t;have hl : j < m.length := by
      rw [hj] at hi;cases hm : m[j]? with
      | none => rw [hm] at hi; simp at hi
      | some _ => exact (List.getElem?_eq_some_iff.1 hm).1
     simp [hj, hl]
    ·simp [t, hi]
 obtain ⟨w', h1, h2⟩ := key;obtain ⟨dst, op, type, pos, after, guard⟩ := o;cases op <;> simp only [ph] at D <;> try cases D
 all_goals exact OpTo.jD (w' := w') (by simp [execOp, A.eval I, A.eval J, A.eval hz, h1]) h2
theorem OpTo.Bn {mt B : TypeId} {x y : Operand} {ats : Array TypeId} (i : yg n a L) (H : St w0 (MpA r ek ev m :: As) w) (hk : s5 P kt ek eq) (t : o.op = .call { callee := .builtin .delete, args := #[x, y], argTypes := ats }) (ha : ats[0]? = some mt)
  (ht : P.underlying mt = some (.map kt B)) (u : evO L x = some (.map (some r))) (z : evO L y = some (ek k)) : OpTo P o a w fun v w' => v = .tuple #[] /\ St w0 (MpA r ek ev (mDel eq k m) :: As) w' := by
 obtain ⟨es, A, H1, he⟩ := H.cZ;have l := H1.one 0 rfl;obtain ⟨dst, op, type, pos, after, guard⟩ := o;simp only at t;subst t;rcases hk.found w k he with ⟨f1, f2, _, f4⟩ | ⟨j, e, D, f1, f2, f3, f4, _, f6⟩
 ·refine OpTo.of_run (w' := { w with heap := w.heap.setIfInBounds r (.map es A) }) (v := .tuple #[]) ?_ ⟨rfl, H1.dX (by rw [f4]; exact he)⟩;simp [execOp, resolve, invoke, builtin, i.eval u, i.eval z, Builtin.delete_, ha, xV P ht, Go.MapKept.run_getObj_map l, hk.check, f1, Go.MapKept.run_setObj_map _ l, Result.andThen]
 ·refine OpTo.of_run (w' := { w with heap := w.heap.setIfInBounds r (.map (es.eraseIdxIfInBounds j) A) }) (v := .tuple #[]) ?_ ⟨rfl, H1.dX ?_⟩
  ·simp [execOp, resolve, invoke, builtin, i.eval u, i.eval z, Builtin.delete_, ha, xV P ht, Go.MapKept.run_getObj_map l, hk.check, f1, Go.MapKept.run_setObj_map _ l, Result.andThen]
  ·rw [f6];have hj : j < es.size := by
    have := (List.getElem?_eq_some_iff.1 f2).1;simpa using this
   simp only [Array.eraseIdxIfInBounds, hj, dif_pos, Array.toList_eraseIdx, pF, he]
end
section
variable {K V : Type} {P : Program} {ek : K -> Value} {ev : V -> Value} {w w0 : World} {As : List HP} {n r : Nat} {L : Env} {o : Oper} {a : Act} {m : List (K × V)}
end
def elemV (sb : Option Addr) (sz : Nat) : Option Int -> Value
 | none => .pointer none
 | some i => match sb with
  | some ⟨b, off, _⟩ => .pointer (some ⟨b, off + (Int.toNat i) * sz, none⟩)
  | none => .pointer none
theorem ly {sb : Option Addr} {sz b off : Nat} {i : Int} (h : sb = some ⟨b, off, none⟩) : elemV sb sz (some i) = .pointer (some ⟨b, off + (Int.toNat i) * sz, none⟩) := by subst h; rfl
def oS {α : Type} : Option α -> Unit ⊕ α
 | none => .inl ()
 | some x => .inr x
def uW {α β : Type} (o : Option α) (n : Option β) (s : α -> Option β) : Option β := match oS o with
 | .inl _ => n
 | .inr x => s x
theorem sj {α : Type} {l : List α} {i : Int} {x : α} (h : mIdx l i = some x) : l[i.toNat]? = some x := (oQ h).2
def Pure (q : Prop) : HP := fun _ => q
theorem St.pure {q : Prop} {w0 w : World} {As : List HP} (H : St w0 (Pure q :: As) w) : q /\ St w0 As w := ⟨H.fact fun _ h => h, H.x0⟩
theorem Ag {α : Type} {l : List α} {i : Int} {x y : α} (h : mIdx l i = some x) : mIdx (mSet l i y) i = some y := by
 obtain ⟨⟨h0, h1⟩, h2⟩ := oQ h;have hl : i.toNat < l.length := by omega
 simp [mIdx, mSet, h0, hl]
end
noncomputable section
section
variable {H : Type} {en : TypeId × Value -> H} {P : Program} {w : World} {base : Nat} {spare : Nat -> Bool} {held : Bool}
def pS (P : Program) : Nat -> TypeId -> Bool
 | 0, _ => false
 | d + 1, e => match P.underlying e with
  | some (.int .i64) => P.cellsOf e == 1
  | some (.struct fs) => fs.toList.all (fun f => pS P d f.type) && (List.range (P.cellsOf e)).all (fun j => fs.toList.any fun f => Nat.ble f.offset j && Nat.blt j (f.offset + P.cellsOf f.type))
  | _ => false
end
end
end Go.Th
noncomputable section
namespace Go.Th
end Go.Th
end
namespace Go.Th
noncomputable section
theorem Rd.take {w : World} {e : Option Addr} {a b : List Value} (h : Rd w e (a ++ b)) : Rd w e a := by
 rcases h with h | ⟨i, h1, h2⟩
 ·left
  exact (List.append_eq_nil_iff.1 h).1
 ·refine .inr ⟨i, h1, fun j u hj => h2 j u ?_⟩;rw [List.getElem?_append_left (List.getElem?_eq_some_iff.1 hj).1];exact hj
section
variable {P : Program} {α : Type} {T : TypeId} {enc : α -> List Value} {sz : Nat} {w0 w : World} {As : List HP}
end
end
end Go.Th
namespace Go.Proofs.YteflmnbkdhneiaaGreat
open Go.Th
noncomputable section
set_option maxRecDepth 10000
set_option maxHeartbeats 4000000
structure zr where
 f0 : Int
 f1 : Int
 f2 : Int
 f3 : Int
 f4 : Int
 f5 : Int
 f6 : Int
 f7 : Int
 f8 : Int
 f9 : Int
 taken : Bool
def zr.enc (x : zr) : List Value := [.int .i64 x.f0, .int .i64 x.f1, .int .i64 x.f2, .int .i64 x.f3, .int .i64 x.f4, .int .i64 x.f5, .int .i64 x.f6, .int .i64 x.f7, .int .i64 x.f8, .int .i64 x.f9, .bool x.taken]
def zr.rU (x : zr) (i : Int) : Option Int :=
 if i = 0 then some x.f0 else if i = 1 then some x.f1 else if i = 2 then some x.f2 else if i = 3 then some x.f3 else if i = 4 then some x.f4 else if i = 5 then some x.f5 else if i = 6 then some x.f6 else if i = 7 then some x.f7 else if i = 8 then some x.f8 else if i = 9 then some x.f9 else none
def zr.qQ (x : zr) (i v : Int) : Option zr :=
 if i = 0 then some (zr.mk v x.f1 x.f2 x.f3 x.f4 x.f5 x.f6 x.f7 x.f8 x.f9 x.taken) else if i = 1 then some (zr.mk x.f0 v x.f2 x.f3 x.f4 x.f5 x.f6 x.f7 x.f8 x.f9 x.taken) else if i = 2 then some (zr.mk x.f0 x.f1 v x.f3 x.f4 x.f5 x.f6 x.f7 x.f8 x.f9 x.taken) else if i = 3 then some (zr.mk x.f0 x.f1 x.f2 v x.f4 x.f5 x.f6 x.f7 x.f8 x.f9 x.taken) else if i = 4 then some (zr.mk x.f0 x.f1 x.f2 x.f3 v x.f5 x.f6 x.f7 x.f8 x.f9 x.taken) else if i = 5 then some (zr.mk x.f0 x.f1 x.f2 x.f3 x.f4 v x.f6 x.f7 x.f8 x.f9 x.taken) else if i = 6 then some (zr.mk x.f0 x.f1 x.f2 x.f3 x.f4 x.f5 v x.f7 x.f8 x.f9 x.taken) else if i = 7 then some (zr.mk x.f0 x.f1 x.f2 x.f3 x.f4 x.f5 x.f6 v x.f8 x.f9 x.taken) else if i = 8 then some (zr.mk x.f0 x.f1 x.f2 x.f3 x.f4 x.f5 x.f6 x.f7 v x.f9 x.taken) else if i = 9 then some (zr.mk x.f0 x.f1 x.f2 x.f3 x.f4 x.f5 x.f6 x.f7 x.f8 v x.taken) else none
theorem zr.xJ : wH zr.enc 11 := ⟨fun _ => rfl, fun x u hu => by simp only [zr.enc, iC, List.not_mem_nil, or_false] at hu; rcases hu with rfl | rfl | rfl | rfl | rfl | rfl | rfl | rfl | rfl | rfl | rfl <;> rfl⟩
structure zD where
 steps : Int
 begun : Int
 most : Int
structure zb where
 l : List zr
 never : Int
 free : List Int
 m_ : zD
structure zB where
 kind : Int
 root : Int
 n : Int
def zB.enc (x : zB) : List Value := [.int .i64 x.kind, .int .i64 x.root, .int .i64 x.n]
theorem zB.xJ : wH zB.enc 3 := ⟨fun _ => rfl, fun x u hu => by simp only [zB.enc, iC, List.not_mem_nil, or_false] at hu; rcases hu with rfl | rfl | rfl <;> rfl⟩
structure zs where
 gen : Int
 taken : Bool
 v_ : zB
def zs.enc (x : zs) : List Value := [.int .i64 x.gen, .bool x.taken, .int .i64 x.v_.kind, .int .i64 x.v_.root, .int .i64 x.v_.n]
theorem zs.xJ : wH zs.enc 5 := ⟨fun _ => rfl, fun x u hu => by simp only [zs.enc, iC, List.not_mem_nil, or_false] at hu; rcases hu with rfl | rfl | rfl | rfl | rfl <;> rfl⟩
structure zh where
 most : Int
 l : List zs
 free : List Int
structure zf where
 At : Int
 Gen : Int
def zf.enc (x : zf) : List Value := [.int .i64 x.At, .int .i64 x.Gen]
theorem zf.xJ : wH zf.enc 2 := ⟨fun _ => rfl, fun x u hu => by simp only [zf.enc, iC, List.not_mem_nil, or_false] at hu; rcases hu with rfl | rfl <;> rfl⟩
structure zA where
 cell : Int
 heap : zf
def zA.enc (x : zA) : List Value := [.int .i64 x.cell, .int .i64 x.heap.At, .int .i64 x.heap.Gen]
theorem zA.xJ : wH zA.enc 3 := ⟨fun _ => rfl, fun x u hu => by simp only [zA.enc, iC, List.not_mem_nil, or_false] at hu; rcases hu with rfl | rfl | rfl <;> rfl⟩
structure zp where
 gen : Int
 taken : Bool
 v_ : zA
def zp.enc (x : zp) : List Value := [.int .i64 x.gen, .bool x.taken, .int .i64 x.v_.cell, .int .i64 x.v_.heap.At, .int .i64 x.v_.heap.Gen]
theorem zp.xJ : wH zp.enc 5 := ⟨fun _ => rfl, fun x u hu => by simp only [zp.enc, iC, List.not_mem_nil, or_false] at hu; rcases hu with rfl | rfl | rfl | rfl | rfl <;> rfl⟩
structure ze where
 most : Int
 l : List zp
 free : List Int
structure zj where
 heaps : zh
 items : ze
 at_ : List (Int × zf)
def zf.val (x : zf) : Value := .agg #[.int .i64 x.At, .int .i64 x.Gen]
structure zi where
 Key : Int
 Serial : Int
def zi.enc (x : zi) : List Value := [.int .i64 x.Key, .int .i64 x.Serial]
theorem zi.xJ : wH zi.enc 2 := ⟨fun _ => rfl, fun x u hu => by simp only [zi.enc, iC, List.not_mem_nil, or_false] at hu; rcases hu with rfl | rfl <;> rfl⟩
structure zo where
 items : Int
 a_ : zb
 t_ : zj
 entries : List (zf × zi)
 serial : Int
def zi.val (x : zi) : Value := .agg #[.int .i64 x.Key, .int .i64 x.Serial]
structure zz where
 Queue : Int
 Time : Int
 Data : Int
 Item : zf
def zz.enc (x : zz) : List Value := [.int .i64 x.Queue, .int .i64 x.Time, .int .i64 x.Data, .int .i64 x.Item.At, .int .i64 x.Item.Gen]
theorem zz.xJ : wH zz.enc 5 := ⟨fun _ => rfl, fun x u hu => by simp only [zz.enc, iC, List.not_mem_nil, or_false] at hu; rcases hu with rfl | rfl | rfl | rfl | rfl <;> rfl⟩
structure zq where
 gen : Int
 taken : Bool
 v_ : zz
def zq.enc (x : zq) : List Value := [.int .i64 x.gen, .bool x.taken, .int .i64 x.v_.Queue, .int .i64 x.v_.Time, .int .i64 x.v_.Data, .int .i64 x.v_.Item.At, .int .i64 x.v_.Item.Gen]
theorem zq.xJ : wH zq.enc 7 := ⟨fun _ => rfl, fun x u hu => by simp only [zq.enc, iC, List.not_mem_nil, or_false] at hu; rcases hu with rfl | rfl | rfl | rfl | rfl | rfl | rfl <;> rfl⟩
structure zg where
 most : Int
 l : List zq
 free : List Int
structure zn where
 p : zg
 by_ : List (zf × zf)
structure zO where
 now : Int
structure za where
 kind : Int
 most : Int
 q : zo
 heaps0 : zf
 heaps1 : zf
 t_ : zn
 when : List (zf × Int)
 clock : zO
 budget : Int
 last : Int
 top : Int
structure yk where
 Op : Int
 Kind : Int
 Heap : zf
 Other : zf
 Item : zf
 Key : Int
def yk.enc (x : yk) : List Value := [.int .i64 x.Op, .int .i64 x.Kind, .int .i64 x.Heap.At, .int .i64 x.Heap.Gen, .int .i64 x.Other.At, .int .i64 x.Other.Gen, .int .i64 x.Item.At, .int .i64 x.Item.Gen, .int .i64 x.Key]
theorem yk.xJ : wH yk.enc 9 := ⟨fun _ => rfl, fun x u hu => by simp only [yk.enc, iC, List.not_mem_nil, or_false] at hu; rcases hu with rfl | rfl | rfl | rfl | rfl | rfl | rfl | rfl | rfl <;> rfl⟩
structure zK where
 Why : Int
 Heap : zf
 Item : zf
 Entry : zi
 N : Int
def zK.enc (x : zK) : List Value := [.int .i64 x.Why, .int .i64 x.Heap.At, .int .i64 x.Heap.Gen, .int .i64 x.Item.At, .int .i64 x.Item.Gen, .int .i64 x.Entry.Key, .int .i64 x.Entry.Serial, .int .i64 x.N]
theorem zK.xJ : wH zK.enc 8 := ⟨fun _ => rfl, fun x u hu => by simp only [zK.enc, iC, List.not_mem_nil, or_false] at hu; rcases hu with rfl | rfl | rfl | rfl | rfl | rfl | rfl | rfl <;> rfl⟩
def yk.val (x : yk) : Value := .agg #[.int .i64 x.Op, .int .i64 x.Kind, .int .i64 x.Heap.At, .int .i64 x.Heap.Gen, .int .i64 x.Other.At, .int .i64 x.Other.Gen, .int .i64 x.Item.At, .int .i64 x.Item.Gen, .int .i64 x.Key]
def zB.val (x : zB) : Value := .agg #[.int .i64 x.kind, .int .i64 x.root, .int .i64 x.n]
structure zm where
 n : Int
 rank : Int
def zm.enc (x : zm) : List Value := [.int .i64 x.n, .int .i64 x.rank]
theorem zm.xJ : wH zm.enc 2 := ⟨fun _ => rfl, fun x u hu => by simp only [zm.enc, iC, List.not_mem_nil, or_false] at hu; rcases hu with rfl | rfl <;> rfl⟩
def zm.val (x : zm) : Value := .agg #[.int .i64 x.n, .int .i64 x.rank]
def zA.val (x : zA) : Value := .agg #[.int .i64 x.cell, .int .i64 x.heap.At, .int .i64 x.heap.Gen]
def zf.eq (x y : zf) : Bool := (x.At == y.At && (x.Gen == y.Gen && true))
structure zk where
 Most : Int
 Gens : List Int
 In : List Bool
 V : List Int
 Back : List Int
structure zC where
 Queue : Int
 Data : Int
 E : zi
 R : zf
def zC.enc (x : zC) : List Value := [.int .i64 x.Queue, .int .i64 x.Data, .int .i64 x.E.Key, .int .i64 x.E.Serial, .int .i64 x.R.At, .int .i64 x.R.Gen]
theorem zC.xJ : wH zC.enc 6 := ⟨fun _ => rfl, fun x u hu => by simp only [zC.enc, iC, List.not_mem_nil, or_false] at hu; rcases hu with rfl | rfl | rfl | rfl | rfl | rfl <;> rfl⟩
structure zd where
 Most : Int
 Now : Int
 Next : Int
 Pool : zk
 L : List zC
structure zH where
 d : za
 m_ : zd
 k_ : Int
 told : List zf
structure zw where
 Kind : Int
 Queue : Int
 Job : zf
 Time : Int
 Data : Int
def zw.enc (x : zw) : List Value := [.int .i64 x.Kind, .int .i64 x.Queue, .int .i64 x.Job.At, .int .i64 x.Job.Gen, .int .i64 x.Time, .int .i64 x.Data]
theorem zw.xJ : wH zw.enc 6 := ⟨fun _ => rfl, fun x u hu => by simp only [zw.enc, iC, List.not_mem_nil, or_false] at hu; rcases hu with rfl | rfl | rfl | rfl | rfl | rfl <;> rfl⟩
structure zu where
 Why : Int
 Job : zf
 Time : Int
 Data : Int
 N : Int
def zu.enc (x : zu) : List Value := [.int .i64 x.Why, .int .i64 x.Job.At, .int .i64 x.Job.Gen, .int .i64 x.Time, .int .i64 x.Data, .int .i64 x.N]
theorem zu.xJ : wH zu.enc 6 := ⟨fun _ => rfl, fun x u hu => by simp only [zu.enc, iC, List.not_mem_nil, or_false] at hu; rcases hu with rfl | rfl | rfl | rfl | rfl | rfl <;> rfl⟩
def zz.val (x : zz) : Value := .agg #[.int .i64 x.Queue, .int .i64 x.Time, .int .i64 x.Data, .int .i64 x.Item.At, .int .i64 x.Item.Gen]
def zw.val (x : zw) : Value := .agg #[.int .i64 x.Kind, .int .i64 x.Queue, .int .i64 x.Job.At, .int .i64 x.Job.Gen, .int .i64 x.Time, .int .i64 x.Data]
def zu.eq (x y : zu) : Bool := (x.Why == y.Why && (zf.eq x.Job y.Job && (x.Time == y.Time && (x.Data == y.Data && (x.N == y.N && true)))))
structure xF where
 Command : zw
 Reply : zu
 Now : Int
 Steps : Int
def xF.enc (x : xF) : List Value := [.int .i64 x.Command.Kind, .int .i64 x.Command.Queue, .int .i64 x.Command.Job.At, .int .i64 x.Command.Job.Gen, .int .i64 x.Command.Time, .int .i64 x.Command.Data, .int .i64 x.Reply.Why, .int .i64 x.Reply.Job.At, .int .i64 x.Reply.Job.Gen, .int .i64 x.Reply.Time, .int .i64 x.Reply.Data, .int .i64 x.Reply.N, .int .i64 x.Now, .int .i64 x.Steps]
theorem xF.xJ : wH xF.enc 14 := ⟨fun _ => rfl, fun x u hu => by simp only [xF.enc, iC, List.not_mem_nil, or_false] at hu; rcases hu with rfl | rfl | rfl | rfl | rfl | rfl | rfl | rfl | rfl | rfl | rfl | rfl | rfl | rfl <;> rfl⟩
structure zF where
 Kind : Int
 Queue : Int
 Job : Int
 Data : Int
 Time : Int
 Raw : zw
def zF.enc (x : zF) : List Value := [.int .i64 x.Kind, .int .i64 x.Queue, .int .i64 x.Job, .int .i64 x.Data, .int .i64 x.Time, .int .i64 x.Raw.Kind, .int .i64 x.Raw.Queue, .int .i64 x.Raw.Job.At, .int .i64 x.Raw.Job.Gen, .int .i64 x.Raw.Time, .int .i64 x.Raw.Data]
theorem zF.xJ : wH zF.enc 11 := ⟨fun _ => rfl, fun x u hu => by simp only [zF.enc, iC, List.not_mem_nil, or_false] at hu; rcases hu with rfl | rfl | rfl | rfl | rfl | rfl | rfl | rfl | rfl | rfl | rfl <;> rfl⟩
def zF.val (x : zF) : Value := .agg #[.int .i64 x.Kind, .int .i64 x.Queue, .int .i64 x.Job, .int .i64 x.Data, .int .i64 x.Time, .int .i64 x.Raw.Kind, .int .i64 x.Raw.Queue, .int .i64 x.Raw.Job.At, .int .i64 x.Raw.Job.Gen, .int .i64 x.Raw.Time, .int .i64 x.Raw.Data]
def zi.eq (x y : zi) : Bool := (x.Key == y.Key && (x.Serial == y.Serial && true))
structure zc where
 d : za
 m_ : zd
 k_ : Int
 told : List zf
def yG (n : Int) (lo : Int) (hi : Int) : Option (Int) :=
 (bif (decide (n >= lo)) && (decide (n <= hi)) then
  some n
 else
  (mNz (w64 ((w64 (hi - lo)) + 1))).bind fun u =>
  ((bif decide (Int.tmod n (w64 ((w64 (hi - lo)) + 1)) < 0) then
   some (w64 ((w64 ((w64 ((Int.tmod n (w64 ((w64 (hi - lo)) + 1))) + hi)) - lo)) + 1))
  else
   some (Int.tmod n (w64 ((w64 (hi - lo)) + 1))))).bind fun s =>
  some (w64 (lo + s)))
def td (k_ : Int) : Option (Bool) :=
 some ((decide (k_ >= 1)) && (decide (k_ <= 3)))
def bits_Len64 (x : Int) : Option (Int) :=
 ((bif decide (x >= 4294967296) then
  some (Int.fdiv x (2 ^ (min (Int.toNat 32) 64)), 32)
 else
  some (x, 0))).bind fun s =>
 ((bif decide (s.1 >= 65536) then
  some (Int.fdiv s.1 (2 ^ (min (Int.toNat 16) 64)), w64 (s.2 + 16))
 else
  some (s.1, s.2))).bind fun s1 =>
 ((bif decide (s1.1 >= 256) then
  some (Int.fdiv s1.1 (2 ^ (min (Int.toNat 8) 64)), w64 (s1.2 + 8))
 else
  some (s1.1, s1.2))).bind fun s2 =>
 (aV (ByteArray.mk #[0, 1, 2, 2, 3, 3, 3, 3, 4, 4, 4, 4, 4, 4, 4, 4, 5, 5, 5, 5, 5, 5, 5, 5, 5, 5, 5, 5, 5, 5, 5, 5, 6, 6, 6, 6, 6, 6, 6, 6, 6, 6, 6, 6, 6, 6, 6, 6, 6, 6, 6, 6, 6, 6, 6, 6, 6, 6, 6, 6, 6, 6, 6, 6, 7, 7, 7, 7, 7, 7, 7, 7, 7, 7, 7, 7, 7, 7, 7, 7, 7, 7, 7, 7, 7, 7, 7, 7, 7, 7, 7, 7, 7, 7, 7, 7, 7, 7, 7, 7, 7, 7, 7, 7, 7, 7, 7, 7, 7, 7, 7, 7, 7, 7, 7, 7, 7, 7, 7, 7, 7, 7, 7, 7, 7, 7, 7, 7, 8, 8, 8, 8, 8, 8, 8, 8, 8, 8, 8, 8, 8, 8, 8, 8, 8, 8, 8, 8, 8, 8, 8, 8, 8, 8, 8, 8, 8, 8, 8, 8, 8, 8, 8, 8, 8, 8, 8, 8, 8, 8, 8, 8, 8, 8, 8, 8, 8, 8, 8, 8, 8, 8, 8, 8, 8, 8, 8, 8, 8, 8, 8, 8, 8, 8, 8, 8, 8, 8, 8, 8, 8, 8, 8, 8, 8, 8, 8, 8, 8, 8, 8, 8, 8, 8, 8, 8, 8, 8, 8, 8, 8, 8, 8, 8, 8, 8, 8, 8, 8, 8, 8, 8, 8, 8, 8, 8, 8, 8, 8, 8, 8, 8, 8, 8, 8, 8, 8, 8, 8, 8, 8, 8, 8, 8, 8, 8]) (IntKind.wrap .u8 (s2.1))).bind fun e =>
 some (w64 (s2.2 + (w64 (e))))
def bits_Len (x : Int) : Option (Int) :=
 (bits_Len64 x).bind fun t_ =>
 some t_
def qx (n : Int) : Option (Int) :=
 (bits_Len (IntKind.wrap .u64 ((if n > 0 then n else 0)))).bind fun t_ =>
 some t_
def vu (a_ : Int) (b : Int) : Option (Int) :=
 (bif (decide (b > 0)) && (decide (a_ > w64 (9223372036854775807 - b))) then
  some 9223372036854775807
 else
  (bif (decide (b < 0)) && (decide (a_ < w64 ((-9223372036854775808) - b))) then
   some (-9223372036854775808)
  else
   some (w64 (a_ + b))))
def vJ (j : Int) (x1 : Int) : Nat -> Int -> Int -> Option (Int)
 | 0, _, _ => none
 | m + 1, e, x =>
  (bif decide (x < x1) then
   (vu e j).bind fun i =>
   vJ j x1 m i (w64 (x + 1))
  else
   some e)
def qX (k : Nat) (a_ : Int) (b : Int) (n : Int) : Option (Int) :=
 (qx n).bind fun t_ =>
 (vJ b t_ k a_ 0).bind fun s =>
 some s
def sH (k : Nat) (k_ : Int) (items : Int) : Option (Int × Bool) :=
 ((td k_).bind fun t_ =>
 (bif !t_ then
  some true
 else
  (bif decide (items < 1) then
   some true
  else
   some (decide (items > 4096))))).bind fun s =>
 (bif s then
  some (0, false)
 else
  (qX k 2000 1600 (w64 (items + 1))).bind fun e =>
  some (e, true))
def nT  : Option (zD) :=
 some (zD.mk 0 0 0)
def q8 (cells : Int) : Option (zb) :=
 (gD (if (if 65536 < cells then 65536 else cells) > 0 then (if 65536 < cells then 65536 else cells) else 0) (zr.mk 0 0 0 0 0 0 0 0 0 0 false)).bind fun l =>
 (nT).bind fun t_ =>
 some (zb.mk l 0 ([] : List Int) t_)
def uD (places : Int) : Option (zh) :=
 some (zh.mk (if (if 65536 < places then 65536 else places) > 0 then (if 65536 < places then 65536 else places) else 0) ([] : List zs) ([] : List Int))
def uc (places : Int) : Option (ze) :=
 some (ze.mk (if (if 65536 < places then 65536 else places) > 0 then (if 65536 < places then 65536 else places) else 0) ([] : List zp) ([] : List Int))
def nR (items : Int) : Option (zj) :=
 (uD 64).bind fun t_ =>
 (uc (if (if 16384 < items then 16384 else items) > 1 then (if 16384 < items then 16384 else items) else 1)).bind fun e =>
 some (zj.mk t_ e ([] : List (Int × zf)))
def iJ (items : Int) : Option ((Option zo) × Int) :=
 (bif (decide (items < 1)) || (decide (items > 16384)) then
  some ((none : Option zo), 1)
 else
  (q8 (w64 (2 * items))).bind fun t_ =>
  (nR items).bind fun e =>
  some (some (zo.mk items t_ e ([] : List (zf × zi)) 0), 0))
def u9 (places : Int) : Option (zg) :=
 some (zg.mk (if (if 65536 < places then 65536 else places) > 0 then (if 65536 < places then 65536 else places) else 0) ([] : List zq) ([] : List Int))
def pg (jobs : Int) : Option (zn) :=
 (u9 (if (if 4096 < jobs then 4096 else jobs) > 1 then (if 4096 < jobs then 4096 else jobs) else 1)).bind fun t_ =>
 some (zn.mk t_ ([] : List (zf × zf)))
def pJ  : Option (zO) :=
 some (zO.mk 0)
def wN (e : yk) : Option (zK) :=
 none
def u5 (a_ : zb) : Option (Unit) :=
 some ()
def sX (m_ : zD) : Option (Int) :=
 some (w64 (m_.steps - m_.begun))
def rQ (m_ : zD) : Option (Int) :=
 (sX m_).bind fun t_ =>
 some (if t_ > m_.most then t_ else m_.most)
def u0 (m_ : zD) : Option (zD) :=
 (rQ m_).bind fun t_ =>
 some (zD.mk m_.steps m_.steps t_)
def qo (k_ : Int) : Option (Bool) :=
 some ((decide (k_ >= 1)) && (decide (k_ <= 5)))
def yR (p : zh) (v_ : zB) : Option (zf × Bool × zh) :=
 ((bif decide (w64 ((p.free.length : Int) - 1) >= 0) then
  (mIdx p.free (w64 ((p.free.length : Int) - 1))).bind fun x =>
  (mCut p.free 0 (w64 ((p.free.length : Int) - 1))).bind fun l =>
  some (.inr (x, zh.mk p.most p.l l))
 else
  (bif decide ((p.l.length : Int) >= p.most) then
   some (.inl (zf.mk 0 0, false, p))
  else
   (mApp p.l ([zs.mk 0 false (zB.mk 0 0 0)] : List zs)).bind fun l1 =>
   some (.inr ((p.l.length : Int), zh.mk p.most l1 p.free)))) : Option ((zf × Bool × zh) ⊕ (Int × zh))).bind fun s =>
 match s with
 | .inl e => some e
 | .inr s1 =>
  (mIdx s1.2.l s1.1).bind fun x1 =>
  some (zf.mk s1.1 (w64 (x1.gen + 1)), true, zh.mk s1.2.most (mSet (mSet (mSet s1.2.l s1.1 (zs.mk (w64 (x1.gen + 1)) x1.taken x1.v_)) s1.1 (zs.mk (w64 (x1.gen + 1)) true x1.v_)) s1.1 (zs.mk (w64 (x1.gen + 1)) true v_)) s1.2.free)
def uy (t_ : zj) (k_ : Int) : Option (zf × Int × zj) :=
 (qo k_).bind fun i =>
 (bif !i then
  some (zf.mk 0 0, 24, t_)
 else
  (yR t_.heaps (zB.mk k_ (-1) 0)).bind fun e =>
  (bif !e.2.1 then
   some (zf.mk 0 0, 13, zj.mk e.2.2 t_.items t_.at_)
  else
   some (e.1, 0, zj.mk e.2.2 t_.items t_.at_)))
def xb (p : zh) (r : zf) : Option ((Option Int) × Int) :=
 ((bif decide (r.At < 0) then
  some true
 else
  (bif decide (r.At >= (p.l.length : Int)) then
   some true
  else
   (bif decide (r.Gen < 1) then
    some true
   else
    (mIdx p.l r.At).bind fun x1 =>
    some (decide (r.Gen > x1.gen)))))).bind fun s =>
 (bif s then
  some ((none : Option Int), 22)
 else
  (mIdx p.l r.At).bind fun x2 =>
  (bif (decide (r.Gen < x2.gen)) || (!x2.taken) then
   some ((none : Option Int), 23)
  else
   some ((some r.At : Option Int), 0)))
def yJ (p : zh) (r : zf) : Option (zB × Int) :=
 (xb p r).bind fun t_ =>
 (uW t_.1
  ((bif t_.2 != 0 then
   some (zB.mk 0 0 0, t_.2)
  else
   none))
  (fun i =>
  (mIdx p.l i).bind fun x =>
  (bif t_.2 != 0 then
   some (zB.mk 0 0 0, t_.2)
  else
   some (x.v_, 0))))
def xl (t_ : zj) (i : zf) : Option (Int × Int × Int × Int) :=
 (yJ t_.heaps i).bind fun e =>
 some (e.1.kind, e.1.root, e.1.n, e.2)
def vF (e : Int) : Option (zK) :=
 some (zK.mk e (zf.mk 0 0) (zf.mk 0 0) (zi.mk 0 0) 0)
def y9 (p : ze) : Option (Int) :=
 some (w64 ((p.l.length : Int) - (p.free.length : Int)))
def v7 (t_ : zj) : Option (Int) :=
 (y9 t_.items).bind fun e =>
 some e
def xA (m_ : zD) (n : Int) : Option (zD) :=
 (vu m_.steps (if n > 0 then n else 0)).bind fun t_ =>
 some (zD.mk t_ m_.begun m_.most)
def rB  : Option (zr) :=
 some (zr.mk (-1) (-1) (-1) (-1) 0 0 (-1) 0 0 (-1) true)
def vD (a_ : zb) : Option (Int × Bool × zb) :=
 (xA a_.m_ 1).bind fun t_ =>
 ((bif decide (w64 ((a_.free.length : Int) - 1) >= 0) then
  (mIdx a_.free (w64 ((a_.free.length : Int) - 1))).bind fun x =>
  (mCut a_.free 0 (w64 ((a_.free.length : Int) - 1))).bind fun l =>
  some (.inr (x, zb.mk a_.l a_.never l t_))
 else
  (bif decide (a_.never >= (a_.l.length : Int)) then
   some (.inl ((-1), false, zb.mk a_.l a_.never a_.free t_))
  else
   some (.inr (a_.never, zb.mk a_.l (w64 (a_.never + 1)) a_.free t_)))) : Option ((Int × Bool × zb) ⊕ (Int × zb))).bind fun s =>
 match s with
 | .inl i => some i
 | .inr s1 =>
  (rB).bind fun e =>
  (mIdx s1.2.l s1.1).bind fun x1 =>
  some (s1.1, true, zb.mk (mSet s1.2.l s1.1 e) s1.2.never s1.2.free s1.2.m_)
def yt (a_ : zb) (e : Int) : Option (Bool) :=
 ((bif decide (e >= 0) then
  (bif decide (e < (a_.l.length : Int)) then
   (mIdx a_.l e).bind fun x1 =>
   some x1.taken
  else
   some false)
 else
  some false)).bind fun s =>
 some s
def wo (a_ : zb) (e : Int) (field : Int) : Option (Bool) :=
 ((yt a_ e).bind fun t_ =>
 (bif t_ then
  (bif decide (field >= 0) then
   some (decide (field < 10))
  else
   some false)
 else
  some false)).bind fun s =>
 some s
def zy (a_ : zb) (e : Int) (field : Int) (v_ : Int) : Option (Bool × zb) :=
 (xA a_.m_ 1).bind fun t_ =>
 (wo (zb.mk a_.l a_.never a_.free t_) e field).bind fun i =>
 (bif !i then
  some (false, zb.mk a_.l a_.never a_.free t_)
 else
  (mIdx a_.l e).bind fun x =>
  (mIn field 10).bind fun u =>
  (zr.qQ x field v_).bind fun y =>
  some (true, zb.mk (mSet a_.l e y) a_.never a_.free t_))
def oR (a_ : zb) (key : Int) (serial : Int) : Option (Int × Bool × zb) :=
 (vD a_).bind fun t_ =>
 ((bif t_.2.1 then
  (zy t_.2.2 t_.1 7 key).bind fun e =>
  (zy e.2 t_.1 8 serial).bind fun i =>
  some i.2
 else
  some t_.2.2)).bind fun s =>
 some (t_.1, t_.2.1, s)
def qp (a_ : zb) (n : Int) (i : Int) : Option (zb) :=
 (zy a_ n 6 i).bind fun t_ =>
 (zy t_.2 i 9 n).bind fun e =>
 some e.2
def qq (a_ : zb) (i : Int) : Option (Int × Bool × zb) :=
 (vD a_).bind fun t_ =>
 ((bif t_.2.1 then
  (qp t_.2.2 t_.1 i).bind fun e =>
  some e
 else
  some t_.2.2)).bind fun s =>
 some (t_.1, t_.2.1, s)
def xT (a_ : zb) : Option (Int) :=
 some (a_.l.length : Int)
def zX (a_ : zb) (i : Int) (field : Int) : Option (Int × zb) :=
 (xA a_.m_ 1).bind fun t_ =>
 (wo (zb.mk a_.l a_.never a_.free t_) i field).bind fun e =>
 (bif !e then
  some ((-1), zb.mk a_.l a_.never a_.free t_)
 else
  (mIdx a_.l i).bind fun x =>
  (mIn field 10).bind fun u =>
  (zr.rU x field).bind fun v_ =>
  some (v_, zb.mk a_.l a_.never a_.free t_))
def zE (a_ : zb) (e : Int) (field : Int) : Option (Int × zb) :=
 (zX a_ e field).bind fun t_ =>
 ((bif decide (t_.1 < 0) then
  some true
 else
  some (decide (t_.1 >= (t_.2.l.length : Int))))).bind fun s =>
 (bif s then
  some ((-1), t_.2)
 else
  some (t_.1, t_.2))
def ri (a_ : zb) (i : Int) : Option (zi × zb) :=
 (zX a_ i 7).bind fun t_ =>
 (zX t_.2 i 8).bind fun e =>
 some (zi.mk t_.1 e.1, e.2)
def vT (x : Int) : Option (Bool) :=
 some (x != x)
def vf (x : Int) (y : Int) : Option (Int) :=
 (vT x).bind fun t_ =>
 (vT y).bind fun e =>
 (bif t_ then
  (bif e then
   some 0
  else
   some (-1))
 else
  (bif e then
   some 1
  else
   (bif decide (x < y) then
    some (-1)
   else
    (bif decide (x > y) then
     some 1
    else
     some 0))))
def vZ (x1 : Int) (l : List Int) : Nat -> Int -> Option ((Int) ⊕ (Unit))
 | 0, _ => none
 | m + 1, x =>
  (bif decide (x < x1) then
   (mIdx l x).bind fun x2 =>
   (bif x2 != 0 then
    some (.inl x2)
   else
    vZ x1 l m (w64 (x + 1)))
  else
   some (.inr ()))
def qw (k : Nat) (e : List Int) : Option (Int) :=
 (vZ (e.length : Int) e k 0).bind fun s =>
 match s with
 | .inl i => some i
 | .inr s1 =>
  some 0
def xY (k : Nat) (a_ : zi) (b : zi) : Option (Int) :=
 (vf a_.Key b.Key).bind fun t_ =>
 (vf a_.Serial b.Serial).bind fun e =>
 (qw k ([t_, e] : List Int)).bind fun i =>
 some i
def rL (k : Nat) (a_ : zb) (i : Int) (j : Int) : Option (Bool × zb) :=
 (ri a_ i).bind fun t_ =>
 (ri t_.2 j).bind fun e =>
 (xY k t_.1 e.1).bind fun l =>
 some ((decide (l < 0)) || ((l == 0) && (decide (i < j))), e.2)
def vR (k : Nat) (a_ : zb) (n : Int) (m_ : Int) : Option (Bool × zb) :=
 (zE a_ n 6).bind fun t_ =>
 (zE t_.2 m_ 6).bind fun e =>
 (rL k e.2 t_.1 e.1).bind fun i =>
 some (i.1, i.2)
def tw (a_ : zb) (n : Int) : Option (Int × zb) :=
 (bif n == (-1) then
  some (0, a_)
 else
  (zX a_ n 4).bind fun t_ =>
  some (t_.1, t_.2))
def sm (a_ : zb) (n : Int) : Option (Bool × zb) :=
 (zE a_ n 2).bind fun t_ =>
 (zE t_.2 n 3).bind fun i =>
 (tw i.2 t_.1).bind fun j =>
 (tw j.2 i.1).bind fun e =>
 ((bif decide (j.1 < e.1) then
  (zy e.2 n 2 i.1).bind fun t =>
  (zy t.2 n 3 t_.1).bind fun u =>
  some (j.1, u.2)
 else
  some (e.1, e.2))).bind fun s =>
 (zX s.2 n 4).bind fun l =>
 (zy l.2 n 4 (w64 (s.1 + 1))).bind fun x =>
 some (l.1 != (w64 (s.1 + 1)), x.2)
def w8 : Nat -> Int -> Int -> (List Int) -> zb -> Option (Int × Int × (List Int) × zb)
 | 0, _, _, _, _ => none
 | m + 1, r1, s1, path, m_ =>
  ((bif r1 != (-1) then
   (bif s1 != (-1) then
    (xT m_).bind fun t_ =>
    some (decide ((path.length : Int) <= t_))
   else
    some false)
  else
   some false)).bind fun t =>
  (bif t then
   (vR m m_ s1 r1).bind fun e =>
   ((bif e.1 then
    some (s1, r1)
   else
    some (r1, s1))).bind fun j =>
   (mApp path ([j.1] : List Int)).bind fun l =>
   (zE e.2 j.1 3).bind fun i =>
   w8 m i.1 j.2 l i.2
  else
   some (r1, s1, path, m_))
def wm (l1 : List Int) : Nat -> Int -> Int -> zb -> Option (Int × zb)
 | 0, _, _, _ => none
 | m + 1, top, k_, e =>
  (bif decide (k_ >= 0) then
   (mIdx l1 k_).bind fun x =>
   (zy e x 3 top).bind fun i =>
   (mIdx l1 k_).bind fun x1 =>
   (zy i.2 top 0 x1).bind fun j =>
   (mIdx l1 k_).bind fun x2 =>
   (sm j.2 x2).bind fun l =>
   wm l1 m x2 (w64 (k_ - 1)) l.2
  else
   some (top, e))
def vg (k : Nat) (a_ : zb) (r : Int) (s : Int) : Option (Int × zb) :=
 (bif r == s then
  some (r, a_)
 else
  (w8 k r s ([] : List Int) a_).bind fun s2 =>
  (wm s2.2.2.1 k (if s2.2.1 > s2.1 then s2.2.1 else s2.1) (w64 ((s2.2.2.1.length : Int) - 1)) s2.2.2.2).bind fun e =>
  (zy e.2 e.1 0 (-1)).bind fun i =>
  some (e.1, i.2))
def sC (k : Nat) (a_ : zb) (r : Int) (i : Int) : Option (Int × Bool × zb) :=
 (qq a_ i).bind fun t_ =>
 (bif !t_.2.1 then
  some (r, false, t_.2.2)
 else
  (zy t_.2.2 t_.1 4 1).bind fun j =>
  (vg k j.2 r t_.1).bind fun e =>
  some (e.1, true, e.2))
def u7 (e : Int) : Nat -> Int -> (List Int) -> zb -> Option ((List Int) × zb)
 | 0, _, _, _ => none
 | m + 1, j, out, m_ =>
  ((yt m_ j).bind fun t_ =>
  (bif t_ then
   (xT m_).bind fun t =>
   some (decide ((out.length : Int) < t))
  else
   some false)).bind fun s1 =>
  (bif s1 then
   (mApp out ([j] : List Int)).bind fun l =>
   (zE m_ j e).bind fun i =>
   u7 e m i.1 l i.2
  else
   some (out, m_))
def pk (k : Nat) (a_ : zb) (n : Int) (field : Int) : Option ((List Int) × zb) :=
 (u7 field k n ([] : List Int) a_).bind fun s =>
 some (s.1, s.2)
def wx (k : Nat) (a_ : zb) (r : Int) : Option ((List Int) × zb) :=
 (pk k a_ r 3).bind fun t_ =>
 some (t_.1, t_.2)
def uk (x : zm) (y : zm) : Option (Int) :=
 some (if (if 1 < w64 (x.rank - y.rank) then 1 else w64 (x.rank - y.rank)) > (-1) then (if 1 < w64 (x.rank - y.rank) then 1 else w64 (x.rank - y.rank)) else (-1))
def zT (i : Int) (l : Int) (i1 : Int) : Nat -> Int -> (List zm) -> Option ((List zm))
 | 0, _, _ => none
 | m + 1, j, e =>
  ((bif decide (j > i) then
   (mIdx e j).bind fun x1 =>
   (mIdx e (w64 (j - 1))).bind fun x2 =>
   (uk x1 x2).bind fun t_ =>
   some (decide (t_ < 0))
  else
   some false)).bind fun s2 =>
  (bif s2 then
   (mIdx e (w64 (j - 1))).bind fun x3 =>
   (mIdx e j).bind fun x4 =>
   (mIdx e j).bind fun x5 =>
   (mIdx (mSet e j x3) (w64 (j - 1))).bind fun x6 =>
   zT i l i1 m (w64 (j - 1)) (mSet (mSet e j x3) (w64 (j - 1)) x4)
  else
   some e)
def zI (e : Int) (j : Int) : Nat -> Int -> (List zm) -> Option ((List zm))
 | 0, _, _ => none
 | m + 1, i, m_ =>
  (bif decide (i < j) then
   (zT e j i m i m_).bind fun s1 =>
   zI e j m (w64 (i + 1)) s1
  else
   some m_)
def zN (k : Nat) (data : List zm) (a_ : Int) (b : Int) : Option ((List zm)) :=
 (zI a_ b k (w64 (a_ + 1)) data).bind fun s =>
 (uo s.length data.length).bind fun u =>
 some s
def ye (e : Int) : Nat -> Int -> Int -> (List zm) -> Option (Int × (List zm))
 | 0, _, _, _ => none
 | m + 1, a_, b, m_ =>
  (bif decide (b <= e) then
   (zN m m_ a_ b).bind fun t_ =>
   ye e m b (w64 (b + 20)) t_
  else
   some (a_, m_))
def xR (j : Int) (e : Int) (l1 : List zm) : Nat -> Int -> Int -> Option (Int)
 | 0, _, _ => none
 | m + 1, i, l =>
  (bif decide (l <= j) then
   none
  else
   some i)
def yp (i : Int) (l : List zm) : Nat -> Int -> Option (Unit)
 | 0, _ => none
 | m + 1, e =>
  (bif decide (e < i) then
   (xR i e l m 0 (w64 (2 * e))).bind fun s2 =>
   ((bif decide (w64 (s2 + e) < i) then
    none
   else
    some ())).bind fun j =>
   yp i l m (w64 (e * 2))
  else
   some ())
def xo (k : Nat) (data : List zm) (n : Int) : Option ((List zm)) :=
 (ye n k 0 20 data).bind fun s =>
 (zN k s.2 s.1 n).bind fun e =>
 (yp n e k 20).bind fun s1 =>
 (uo e.length data.length).bind fun u =>
 some e
def yP (k : Nat) (x : List zm) : Option ((List zm)) :=
 (xo k x (x.length : Int)).bind fun t_ =>
 (uo t_.length x.length).bind fun u =>
 some t_
def uB (a_ : zb) (n : Int) (up : Int) : Option (zb) :=
 (zE a_ up 1).bind fun t_ =>
 (zy t_.2 n 3 t_.1).bind fun e =>
 (zy e.2 n 0 up).bind fun i =>
 (zy i.2 up 1 n).bind fun j =>
 some j.2
def te (k : Nat) (a_ : zb) (n : Int) (m_ : Int) (rank : Int) : Option (Int × zb) :=
 (vR k a_ m_ n).bind fun t_ =>
 ((bif t_.1 then
  some (m_, n)
 else
  some (n, m_))).bind fun s =>
 (uB t_.2 s.2 s.1).bind fun e =>
 (zy e s.1 4 (w64 (rank + 1))).bind fun i =>
 some (s.1, i.2)
def uI (l1 : List Int) : Nat -> Int -> Int -> zb -> Option (Int × zb)
 | 0, _, _, _ => none
 | m + 1, next, k_, m_ =>
  (bif decide (k_ >= 0) then
   (mIdx l1 k_).bind fun x =>
   (zy m_ x 3 next).bind fun t_ =>
   (mIdx l1 k_).bind fun x1 =>
   (zy t_.2 x1 0 (-1)).bind fun e =>
   (mIdx l1 k_).bind fun x2 =>
   uI l1 m x2 (w64 (k_ - 1)) e.2
  else
   some (next, m_))
def q7 (k : Nat) (a_ : zb) (l : List Int) : Option (Int × zb) :=
 (uI l k (-1) (w64 ((l.length : Int) - 1)) a_).bind fun s =>
 some (s.1, s.2)
def vE (x1 : Int) (l1 : List Int) : Nat -> (List zm) -> Int -> zb -> Option ((List zm) × zb)
 | 0, _, _, _ => none
 | m + 1, wait, x, m_ =>
  (bif decide (x < x1) then
   (mIdx l1 x).bind fun x2 =>
   (zX m_ x2 4).bind fun t_ =>
   (mApp wait ([zm.mk x2 t_.1] : List zm)).bind fun l2 =>
   vE x1 l1 m l2 (w64 (x + 1)) t_.2
  else
   some (wait, m_))
def vH (i : List zm) (v_ : Int) (e : Int) (l : List Int) (j : zb) (t : List Int) : Nat -> Int -> Option (Int)
 | 0, _ => none
 | m + 1, k_ =>
  ((bif decide (k_ < (i.length : Int)) then
   (mIdx i k_).bind fun x8 =>
   some (decide (x8.rank < e))
  else
   some false)).bind fun u =>
  (bif u then
   vH i v_ e l j t m (w64 (k_ + 1))
  else
   some k_)
def wJ (l : List Int) : Nat -> (List zm) -> (List Int) -> zb -> Option ((List Int) × zb)
 | 0, _, _, _ => none
 | m + 1, e, out, j =>
  (bif decide ((e.length : Int) > 0) then
   (mIdx e 0).bind fun x3 =>
   ((bif (e.length : Int) == 1 then
    some true
   else
    (mIdx e 1).bind fun x5 =>
    some (x5.rank != x3.rank))).bind fun s2 =>
   (bif s2 then
    (mCut e 1 (e.length : Int)).bind fun x =>
    (mApp out ([x3.n] : List Int)).bind fun y =>
    wJ l m x y j
   else
    (mIdx e 1).bind fun x6 =>
    (te m j x3.n x6.n x3.rank).bind fun i =>
    (mCut e 2 (e.length : Int)).bind fun u =>
    (vH u ((zm.mk i.1 (w64 (x3.rank + 1))).n) ((zm.mk i.1 (w64 (x3.rank + 1))).rank) out i.2 l m 0).bind fun z =>
    (qR u z ([(zm.mk i.1 (w64 (x3.rank + 1)))] : List zm)).bind fun t =>
    wJ l m t out i.2)
  else
   some (out, j))
def vj (k : Nat) (a_ : zb) (l : List Int) : Option (Int × zb) :=
 (vE (l.length : Int) l k ([] : List zm) 0 a_).bind fun s =>
 (yP k s.1).bind fun i =>
 (wJ l k i ([] : List Int) s.2).bind fun s1 =>
 (q7 k s1.2 s1.1).bind fun e =>
 some (e.1, e.2)
def uN (k : Nat) (a_ : zb) (r : Int) (i : Int) : Option (Int × Bool × zb) :=
 (qq a_ i).bind fun t_ =>
 (bif !t_.2.1 then
  some (r, false, t_.2.2)
 else
  (wx k t_.2.2 r).bind fun e =>
  (mApp ([t_.1] : List Int) e.1).bind fun l =>
  (vj k e.2 l).bind fun j =>
  some (j.1, true, j.2))
def s0 (a_ : zb) (n : Int) (m_ : Int) : Option (zb) :=
 (zE a_ n 6).bind fun t_ =>
 (zE t_.2 m_ 6).bind fun e =>
 (qp e.2 n e.1).bind fun i =>
 (qp i m_ t_.1).bind fun j =>
 some j
def ta (k : Nat) (a_ : zb) (r : Int) (n : Int) : Option (Int × zb) :=
 ((bif r != (-1) then
  (zE a_ r 3).bind fun t_ =>
  some (t_.1, t_.2)
 else
  some ((-1), a_))).bind fun s =>
 (zX s.2 r 4).bind fun i =>
 ((bif s.1 == (-1) then
  some (true, i.2)
 else
  (zX i.2 s.1 4).bind fun l =>
  some (l.1 != i.1, l.2))).bind fun s1 =>
 (bif s1.1 then
  (zy s1.2 n 3 r).bind fun x =>
  (zy x.2 n 0 (-1)).bind fun y =>
  some (n, y.2)
 else
  (zE s1.2 s.1 3).bind fun t =>
  (te k t.2 r s.1 i.1).bind fun e =>
  (vR k e.2 n e.1).bind fun j =>
  ((bif j.1 then
   (s0 j.2 n e.1).bind fun z =>
   some z
  else
   some j.2)).bind fun s2 =>
  (uB s2 n e.1).bind fun A =>
  (zy A e.1 3 t.1).bind fun u =>
  some (e.1, u.2))
def r4 (k : Nat) (a_ : zb) (r : Int) (i : Int) : Option (Int × Bool × zb) :=
 (qq a_ i).bind fun t_ =>
 (bif !t_.2.1 then
  some (r, false, t_.2.2)
 else
  (ta k t_.2.2 r t_.1).bind fun e =>
  some (e.1, true, e.2))
def iK (a_ : zb) (r : Int) (i : Int) : Option (Int × Bool) :=
 none
def oL (a_ : zb) (r : Int) (i : Int) : Option (Int × Bool) :=
 none
def q9 (k : Nat) (k_ : Int) (a_ : zb) (r : Int) (i : Int) : Option (Int × Bool × zb) :=
 (bif k_ == 1 then
  (sC k a_ r i).bind fun t_ =>
  some (t_.1, t_.2.1, t_.2.2)
 else
  (bif k_ == 2 then
   (uN k a_ r i).bind fun e =>
   some (e.1, e.2.1, e.2.2)
  else
   (bif k_ == 3 then
    (r4 k a_ r i).bind fun j =>
    some (j.1, j.2.1, j.2.2)
   else
    (bif k_ == 4 then
     (iK a_ r i).bind fun l =>
     some (l.1, l.2, a_)
    else
     (bif k_ == 5 then
      (oL a_ r i).bind fun t =>
      some (t.1, t.2, a_)
     else
      some (r, false, a_))))))
def wI (p : ze) : Option (Int) :=
 some p.most
def yL (p : ze) (v_ : zA) : Option (zf × Bool × ze) :=
 ((bif decide (w64 ((p.free.length : Int) - 1) >= 0) then
  (mIdx p.free (w64 ((p.free.length : Int) - 1))).bind fun x =>
  (mCut p.free 0 (w64 ((p.free.length : Int) - 1))).bind fun l =>
  some (.inr (x, ze.mk p.most p.l l))
 else
  (bif decide ((p.l.length : Int) >= p.most) then
   some (.inl (zf.mk 0 0, false, p))
  else
   (mApp p.l ([zp.mk 0 false (zA.mk 0 (zf.mk 0 0))] : List zp)).bind fun l1 =>
   some (.inr ((p.l.length : Int), ze.mk p.most l1 p.free)))) : Option ((zf × Bool × ze) ⊕ (Int × ze))).bind fun s =>
 match s with
 | .inl e => some e
 | .inr s1 =>
  (mIdx s1.2.l s1.1).bind fun x1 =>
  some (zf.mk s1.1 (w64 (x1.gen + 1)), true, ze.mk s1.2.most (mSet (mSet (mSet s1.2.l s1.1 (zp.mk (w64 (x1.gen + 1)) x1.taken x1.v_)) s1.1 (zp.mk (w64 (x1.gen + 1)) true x1.v_)) s1.1 (zp.mk (w64 (x1.gen + 1)) true v_)) s1.2.free)
def uL (t_ : zj) (t : zf) (cell : Int) : Option (zf × Int × zj) :=
 (yJ t_.heaps t).bind fun i =>
 (bif i.2 != 0 then
  some (zf.mk 0 0, i.2, t_)
 else
  (rr kI cell (zf.mk 0 0) t_.at_).bind fun x =>
  (y9 t_.items).bind fun j =>
  (wI t_.items).bind fun l =>
  (bif j == l then
   some (zf.mk 0 0, 13, t_)
  else
   (bif x.2 then
    some (zf.mk 0 0, 1, t_)
   else
    (yL t_.items (zA.mk cell t)).bind fun e =>
    some (e.1, 0, zj.mk ((zj.mk t_.heaps e.2.2 t_.at_).heaps) ((zj.mk t_.heaps e.2.2 t_.at_).items) (mPut kI cell e.1 ((zj.mk t_.heaps e.2.2 t_.at_).at_))))))
def xG (p : zh) (r : zf) (v_ : zB) : Option (Int × zh) :=
 (xb p r).bind fun t_ =>
 (uW t_.1
  (((bif t_.2 == 0 then
   none
  else
   some ())).bind fun s =>
  some (t_.2, p))
  (fun i =>
  (mIdx p.l i).bind fun x =>
  ((bif t_.2 == 0 then
   some (zh.mk p.most (mSet p.l i (zs.mk x.gen x.taken v_)) p.free)
  else
   some p)).bind fun s1 =>
  some (t_.2, s1)))
def xz (t_ : zj) (j : zf) (r : Int) (n : Int) : Option (Int × zj) :=
 (yJ t_.heaps j).bind fun e =>
 ((bif e.2 == 0 then
  (xG t_.heaps j (zB.mk e.1.kind r n)).bind fun i =>
  some (zj.mk i.2 t_.items t_.at_)
 else
  some t_)).bind fun s =>
 some (e.2, s)
def uz (k : Nat) (q : zo) (l : yk) : Option (zK × zo) :=
 (xl q.t_ l.Heap).bind fun t_ =>
 (bif t_.2.2.2 != 0 then
  (vF t_.2.2.2).bind fun t =>
  some (t, q)
 else
  (v7 q.t_).bind fun u =>
  (bif decide (u >= q.items) then
   (vF 13).bind fun x =>
   some (x, q)
  else
   (oR q.a_ l.Key q.serial).bind fun j =>
   (q9 k t_.1 j.2.2 t_.2.1 j.1).bind fun i =>
   (uL q.t_ l.Heap j.1).bind fun e =>
   (xz ((zo.mk q.items i.2.2 e.2.2 q.entries q.serial).t_) l.Heap i.1 (w64 (t_.2.2.1 + 1))).bind fun y =>
   some (zK.mk 0 (zf.mk 0 0) e.1 (zi.mk l.Key q.serial) 0, zo.mk ((zo.mk q.items i.2.2 e.2.2 q.entries q.serial).items) ((zo.mk q.items i.2.2 e.2.2 q.entries q.serial).a_) y.2 (mPut zf.eq e.1 (zi.mk l.Key q.serial) ((zo.mk q.items i.2.2 e.2.2 q.entries q.serial).entries)) (w64 (((zo.mk q.items i.2.2 e.2.2 q.entries q.serial).serial) + 1)))))
def rE (a_ : zb) (r : Int) : Option (Int × zb) :=
 (zE a_ r 6).bind fun t_ =>
 some (t_.1, t_.2)
def wY (x1 : Int) (l1 : List Int) : Nat -> Int -> Int -> zb -> Option (Int × zb)
 | 0, _, _, _ => none
 | m + 1, e, x, m_ =>
  (bif decide (x < x1) then
   ((mIdx l1 x).bind fun x2 =>
   ((bif e == (-1) then
    some (true, m_)
   else
    (vR m m_ x2 e).bind fun t_ =>
    some (t_.1, t_.2))).bind fun s2 =>
   (bif s2.1 then
    some (x2, s2.2)
   else
    some (e, s2.2))).bind fun s1 =>
   wY x1 l1 m s1.1 (w64 (x + 1)) s1.2
  else
   some (e, m_))
def vG (k : Nat) (a_ : zb) (l : List Int) : Option (Int × zb) :=
 (wY (l.length : Int) l k (-1) 0 a_).bind fun s =>
 some (s.1, s.2)
def tA (k : Nat) (a_ : zb) (r : Int) : Option (Int × zb) :=
 (wx k a_ r).bind fun t_ =>
 (vG k t_.2 t_.1).bind fun e =>
 (zE e.2 e.1 6).bind fun i =>
 some (i.1, i.2)
def pn (k : Nat) (a_ : zb) (r : Int) : Option (Int × zb) :=
 (wx k a_ r).bind fun t_ =>
 (vG k t_.2 t_.1).bind fun e =>
 (zE e.2 e.1 6).bind fun i =>
 some (i.1, i.2)
def ed (a_ : zb) (r : Int) : Option (Int) :=
 none
def nF (a_ : zb) (r : Int) : Option (Int) :=
 none
def oW (k : Nat) (k_ : Int) (a_ : zb) (r : Int) : Option (Int × zb) :=
 (bif k_ == 1 then
  (rE a_ r).bind fun t_ =>
  some (t_.1, t_.2)
 else
  (bif k_ == 2 then
   (tA k a_ r).bind fun e =>
   some (e.1, e.2)
  else
   (bif k_ == 3 then
    (pn k a_ r).bind fun i =>
    some (i.1, i.2)
   else
    (bif k_ == 4 then
     (ed a_ r).bind fun j =>
     some (j, a_)
    else
     (bif k_ == 5 then
      (nF a_ r).bind fun l =>
      some (l, a_)
     else
      some ((-1), a_))))))
def ug (t_ : zj) (cell : Int) : Option (zf × Bool) :=
 (rr kI cell (zf.mk 0 0) t_.at_).bind fun x =>
 some (x.1, x.2)
def qg (k : Nat) (a_ : zb) (n : Int) : Option (Int × zb) :=
 (zE a_ n 2).bind fun t_ =>
 (zE t_.2 n 3).bind fun e =>
 (vg k e.2 t_.1 e.1).bind fun i =>
 some (i.1, i.2)
def vC (a_ : zb) (e : Int) : Option (Bool × zb) :=
 (xA a_.m_ 1).bind fun t_ =>
 (yt (zb.mk a_.l a_.never a_.free t_) e).bind fun i =>
 (bif !i then
  some (false, zb.mk a_.l a_.never a_.free t_)
 else
  (mIdx a_.l e).bind fun x =>
  (mApp a_.free ([e] : List Int)).bind fun l =>
  some (true, zb.mk (mSet a_.l e (zr.mk x.f0 x.f1 x.f2 x.f3 x.f4 x.f5 x.f6 x.f7 x.f8 x.f9 false)) a_.never l t_))
def rv (a_ : zb) (n : Int) : Option (Int × zb) :=
 (zE a_ n 6).bind fun t_ =>
 (zy t_.2 t_.1 9 (-1)).bind fun e =>
 (vC e.2 n).bind fun i =>
 some (t_.1, i.2)
def uE (k : Nat) (a_ : zb) (r : Int) : Option (Int × Int × zb) :=
 ((yt a_ r).bind fun t_ =>
 some (!t_)).bind fun s =>
 (bif s then
  some ((-1), (-1), a_)
 else
  (qg k a_ r).bind fun e =>
  (zy e.2 e.1 0 (-1)).bind fun j =>
  (rv j.2 r).bind fun i =>
  some (e.1, i.1, i.2))
def wQ (x : Int) (v_ : Int) : Option (Bool) :=
 some (x == v_)
def yc (x1 : Int) (l : List Int) (e : Int) : Nat -> Int -> Option ((Int) ⊕ (Unit))
 | 0, _ => none
 | m + 1, x =>
  (bif decide (x < x1) then
   (mIdx l x).bind fun x2 =>
   (wQ x2 e).bind fun t_ =>
   (bif t_ then
    some (.inl x)
   else
    yc x1 l e m (w64 (x + 1)))
  else
   some (.inr ()))
def wj (k : Nat) (s : List Int) (v_ : Int) : Option (Int) :=
 (yc (s.length : Int) s v_ k 0).bind fun s1 =>
 match s1 with
 | .inl e => some e
 | .inr s2 =>
  some (-1)
def yn (e : Int) : Nat -> Int -> Int -> (List Int) -> Option (Int × (List Int))
 | 0, _, _, _ => none
 | m + 1, i, j, m_ =>
  (bif decide (j < (m_.length : Int)) then
   ((mIdx m_ j).bind fun x =>
   (wQ x e).bind fun l =>
   (bif !l then
    (mIdx m_ i).bind fun x1 =>
    some (w64 (i + 1), mSet m_ i x)
   else
    some (i, m_))).bind fun s2 =>
   yn e m s2.1 (w64 (j + 1)) s2.2
  else
   some (i, m_))
def xp (k : Nat) (s : List Int) (v_ : Int) : Option ((List Int)) :=
 (wj k s v_).bind fun t_ =>
 (bif t_ == (-1) then
  some s
 else
  (yn v_ k t_ (w64 (t_ + 1)) s).bind fun s1 =>
  (mCut s1.2 s1.1 (s1.2.length : Int)).bind fun l =>
  (mCut (rT s1.2 s1.1 0) 0 s1.1).bind fun l1 =>
  some l1)
def tQ (k : Nat) (a_ : zb) (n : Int) : Option ((List Int) × zb) :=
 (zE a_ n 1).bind fun t_ =>
 (pk k t_.2 t_.1 3).bind fun e =>
 some (e.1, e.2)
def xK (k : Nat) (a_ : zb) (l : List Int) (n : Int) : Option (Int × Int × zb) :=
 (xp k l n).bind fun t_ =>
 (tQ k a_ n).bind fun e =>
 (mApp t_ e.1).bind fun l1 =>
 (rv e.2 n).bind fun i =>
 (vj k i.2 l1).bind fun j =>
 some (j.1, i.1, j.2)
def tq (k : Nat) (a_ : zb) (r : Int) : Option (Int × Int × zb) :=
 ((yt a_ r).bind fun t_ =>
 some (!t_)).bind fun s =>
 (bif s then
  some ((-1), (-1), a_)
 else
  (wx k a_ r).bind fun e =>
  (vG k e.2 e.1).bind fun j =>
  (xK k j.2 e.1 j.1).bind fun i =>
  some (i.1, i.2.1, i.2.2))
def vX (x : Int) (v_ : Int) : Option (Bool) :=
 some (x == v_)
def yb (x1 : Int) (l : List Int) (e : Int) : Nat -> Int -> Option ((Int) ⊕ (Unit))
 | 0, _ => none
 | m + 1, x =>
  (bif decide (x < x1) then
   (mIdx l x).bind fun x2 =>
   (vX x2 e).bind fun t_ =>
   (bif t_ then
    some (.inl x)
   else
    yb x1 l e m (w64 (x + 1)))
  else
   some (.inr ()))
def wk (k : Nat) (s : List Int) (v_ : Int) : Option (Int) :=
 (yb (s.length : Int) s v_ k 0).bind fun s1 =>
 match s1 with
 | .inl e => some e
 | .inr s2 =>
  some (-1)
def ym (e : Int) : Nat -> Int -> Int -> (List Int) -> Option (Int × (List Int))
 | 0, _, _, _ => none
 | m + 1, i, j, m_ =>
  (bif decide (j < (m_.length : Int)) then
   ((mIdx m_ j).bind fun x =>
   (vX x e).bind fun l =>
   (bif !l then
    (mIdx m_ i).bind fun x1 =>
    some (w64 (i + 1), mSet m_ i x)
   else
    some (i, m_))).bind fun s2 =>
   ym e m s2.1 (w64 (j + 1)) s2.2
  else
   some (i, m_))
def xq (k : Nat) (s : List Int) (v_ : Int) : Option ((List Int)) :=
 (wk k s v_).bind fun t_ =>
 (bif t_ == (-1) then
  some s
 else
  (ym v_ k t_ (w64 (t_ + 1)) s).bind fun s1 =>
  (mCut s1.2 s1.1 (s1.2.length : Int)).bind fun l =>
  (mCut (rT s1.2 s1.1 0) 0 s1.1).bind fun l1 =>
  some l1)
def wq (x1 : Int) (l1 : List Int) (v_ : Int) : Nat -> (List Int) -> (List Int) -> Int -> zb -> Option ((List Int) × (List Int) × zb)
 | 0, _, _, _, _ => none
 | m + 1, rest, alone, x, m_ =>
  (bif decide (x < x1) then
   ((mIdx l1 x).bind fun x2 =>
   (zX m_ x2 4).bind fun e =>
   (bif e.1 == 0 then
    (mApp alone ([x2] : List Int)).bind fun l2 =>
    some (rest, l2, e.2)
   else
    (mApp rest ([x2] : List Int)).bind fun i =>
    some (i, alone, e.2))).bind fun s1 =>
   wq x1 l1 v_ m s1.1 s1.2.1 (w64 (x + 1)) s1.2.2
  else
   some (rest, alone, m_))
def wv (i : Int) (x4 : Int) (l : List Int) : Nat -> Int -> Int -> zb -> Option (Int × zb)
 | 0, _, _, _ => none
 | m + 1, r3, x3, e =>
  (bif decide (x3 < x4) then
   (mIdx l x3).bind fun x5 =>
   (ta m e r3 x5).bind fun j =>
   wv i x4 l m j.1 (w64 (x3 + 1)) j.2
  else
   some (r3, e))
def vh (k : Nat) (a_ : zb) (l : List Int) (n : Int) : Option (Int × Int × zb) :=
 (xq k l n).bind fun t_ =>
 (tQ k a_ n).bind fun e =>
 (wq (e.1.length : Int) e.1 n k t_ ([] : List Int) 0 e.2).bind fun s =>
 (rv s.2.2 n).bind fun i =>
 (vj k i.2 s.1).bind fun j =>
 (wv i.1 (s.2.1.length : Int) s.2.1 k j.1 0 j.2).bind fun s2 =>
 some (s2.1, i.1, s2.2)
def p4 (k : Nat) (a_ : zb) (r : Int) : Option (Int × Int × zb) :=
 ((yt a_ r).bind fun t_ =>
 some (!t_)).bind fun s =>
 (bif s then
  some ((-1), (-1), a_)
 else
  (wx k a_ r).bind fun e =>
  (vG k e.2 e.1).bind fun j =>
  (vh k j.2 e.1 j.1).bind fun i =>
  some (i.1, i.2.1, i.2.2))
def fZ (a_ : zb) (r : Int) : Option (Int × Int) :=
 none
def nL (a_ : zb) (r : Int) : Option (Int × Int) :=
 none
def oO (k : Nat) (k_ : Int) (a_ : zb) (r : Int) : Option (Int × Int × zb) :=
 (bif k_ == 1 then
  (uE k a_ r).bind fun t_ =>
  some (t_.1, t_.2.1, t_.2.2)
 else
  (bif k_ == 2 then
   (tq k a_ r).bind fun e =>
   some (e.1, e.2.1, e.2.2)
  else
   (bif k_ == 3 then
    (p4 k a_ r).bind fun i =>
    some (i.1, i.2.1, i.2.2)
   else
    (bif k_ == 4 then
     (fZ a_ r).bind fun j =>
     some (j.1, j.2, a_)
    else
     (bif k_ == 5 then
      (nL a_ r).bind fun l =>
      some (l.1, l.2, a_)
     else
      some ((-1), (-1), a_))))))
def yZ (p : ze) (r : zf) : Option ((Option Int) × Int) :=
 ((bif decide (r.At < 0) then
  some true
 else
  (bif decide (r.At >= (p.l.length : Int)) then
   some true
  else
   (bif decide (r.Gen < 1) then
    some true
   else
    (mIdx p.l r.At).bind fun x1 =>
    some (decide (r.Gen > x1.gen)))))).bind fun s =>
 (bif s then
  some ((none : Option Int), 22)
 else
  (mIdx p.l r.At).bind fun x2 =>
  (bif (decide (r.Gen < x2.gen)) || (!x2.taken) then
   some ((none : Option Int), 23)
  else
   some ((some r.At : Option Int), 0)))
def xM (p : ze) (r : zf) : Option (zA × Int × ze) :=
 (yZ p r).bind fun t_ =>
 (uW t_.1
  ((bif t_.2 != 0 then
   some (zA.mk 0 (zf.mk 0 0), t_.2, p)
  else
   none))
  (fun i =>
  (mIdx p.l i).bind fun x =>
  (bif t_.2 != 0 then
   some (zA.mk 0 (zf.mk 0 0), t_.2, p)
  else
   (mApp p.free ([r.At] : List Int)).bind fun l =>
   some (x.v_, 0, ze.mk p.most (mSet (mSet p.l i (zp.mk x.gen false x.v_)) i (zp.mk x.gen false (zA.mk 0 (zf.mk 0 0)))) l))))
def tB (t_ : zj) (i : zf) : Option (Int × Int × zj) :=
 (xM t_.items i).bind fun e =>
 ((bif e.2.1 == 0 then
  some (zj.mk ((zj.mk t_.heaps e.2.2 t_.at_).heaps) ((zj.mk t_.heaps e.2.2 t_.at_).items) (mDel kI e.1.cell ((zj.mk t_.heaps e.2.2 t_.at_).at_)))
 else
  some (zj.mk t_.heaps e.2.2 t_.at_))).bind fun s =>
 some (e.1.cell, e.2.1, s)
def ue (q : zo) (i : zf) : Option (zi × zo) :=
 (tB q.t_ i).bind fun t_ =>
 (vC q.a_ t_.1).bind fun e =>
 (rr zf.eq i (zi.mk 0 0) q.entries).bind fun x =>
 some (x.1, zo.mk q.items e.2 t_.2.2 (mDel zf.eq i q.entries) q.serial)
def vk (k : Nat) (q : zo) (A : zf) (out : Bool) : Option (zK × zo) :=
 (xl q.t_ A).bind fun t_ =>
 (bif t_.2.2.2 != 0 then
  (vF t_.2.2.2).bind fun u =>
  some (u, q)
 else
  (bif t_.2.2.1 == 0 then
   (vF 27).bind fun y =>
   some (y, q)
  else
   (bif !out then
    (oW k t_.1 q.a_ t_.2.1).bind fun e =>
    (ug q.t_ e.1).bind fun j =>
    (rr zf.eq j.1 (zi.mk 0 0) ((zo.mk q.items e.2 q.t_ q.entries q.serial).entries)).bind fun x =>
    some (zK.mk 0 (zf.mk 0 0) j.1 x.1 0, (zo.mk q.items e.2 q.t_ q.entries q.serial))
   else
    (oO k t_.1 q.a_ t_.2.1).bind fun i =>
    (ug q.t_ i.2.1).bind fun l =>
    (xz q.t_ A i.1 (w64 (t_.2.2.1 - 1))).bind fun z =>
    (ue (zo.mk q.items i.2.2 z.2 q.entries q.serial) l.1).bind fun t =>
    some (zK.mk 0 (zf.mk 0 0) l.1 t.1 0, t.2))))
def yu (p : ze) (r : zf) : Option (zA × Int) :=
 (yZ p r).bind fun t_ =>
 (uW t_.1
  ((bif t_.2 != 0 then
   some (zA.mk 0 (zf.mk 0 0), t_.2)
  else
   none))
  (fun i =>
  (mIdx p.l i).bind fun x =>
  (bif t_.2 != 0 then
   some (zA.mk 0 (zf.mk 0 0), t_.2)
  else
   some (x.v_, 0))))
def vv (t_ : zj) (i : zf) : Option (Int × Int) :=
 (yu t_.items i).bind fun e =>
 some (e.1.cell, e.2)
def ui (t_ : zj) (i : zf) : Option (zf × Int) :=
 (yu t_.items i).bind fun e =>
 some (e.1.heap, e.2)
def tO (a_ : zb) (i : Int) (key : Int) : Option (Bool × zb) :=
 ((zX a_ i 7).bind fun t_ =>
 some (decide (key > t_.1), t_.2)).bind fun s =>
 (bif s.1 then
  some (false, s.2)
 else
  (zy s.2 i 7 key).bind fun e =>
  some (e.1, e.2))
def vW (a_ : zb) (i : Int) : Option (Int × zb) :=
 (zE a_ i 9).bind fun t_ =>
 some (t_.1, t_.2)
def xy : Nat -> Int -> Int -> zb -> Option (zb)
 | 0, _, _, _ => none
 | m + 1, p, k_, m_ =>
  ((bif p != (-1) then
   (xT m_).bind fun j =>
   (bif decide (k_ <= j) then
    (sm m_ p).bind fun e =>
    some (e.1, e.2)
   else
    some (false, m_))
  else
   some (false, m_))).bind fun s2 =>
  (bif s2.1 then
   (zE s2.2 p 0).bind fun i =>
   xy m i.1 (w64 (k_ + 1)) i.2
  else
   some s2.2)
def uS (k : Nat) (a_ : zb) (n : Int) : Option (zb) :=
 (zE a_ n 0).bind fun t_ =>
 (zE t_.2 t_.1 2).bind fun e =>
 ((bif e.1 == n then
  (zy e.2 t_.1 2 (-1)).bind fun j =>
  some j.2
 else
  (zE e.2 t_.1 3).bind fun i =>
  (bif i.1 == n then
   (zy i.2 t_.1 3 (-1)).bind fun l =>
   some l.2
  else
   some i.2))).bind fun s =>
 (zy s n 0 (-1)).bind fun t =>
 (xy k t_.1 0 t.2).bind fun s1 =>
 some s1
def sG (k : Nat) (a_ : zb) (r : Int) (i : Int) : Option (Int × zb) :=
 (vW a_ i).bind fun t_ =>
 ((bif t_.1 == (-1) then
  some (true, t_.2)
 else
  (bif t_.1 == r then
   some (true, t_.2)
  else
   (zE t_.2 t_.1 0).bind fun e =>
   some (e.1 == (-1), e.2)))).bind fun s =>
 (bif s.1 then
  some (r, s.2)
 else
  (uS k s.2 t_.1).bind fun l =>
  (vg k l r t_.1).bind fun j =>
  some (j.1, j.2))
def vn (i : Bool) : Nat -> Int -> Int -> zb -> Option (Int × zb)
 | 0, _, _, _ => none
 | m + 1, n, k_, m_ =>
  ((bif n != (-1) then
   (xT m_).bind fun l =>
   some (decide (k_ <= l))
  else
   some false)).bind fun s1 =>
  (bif s1 then
   (zE m_ n 0).bind fun e =>
   ((bif e.1 == (-1) then
    some (true, e.2)
   else
    (bif !i then
     (vR m e.2 n e.1).bind fun j =>
     some (!j.1, j.2)
    else
     some (false, e.2)))).bind fun s2 =>
   (bif s2.1 then
    some (n, s2.2)
   else
    (s0 s2.2 n e.1).bind fun t =>
    vn i m e.1 (w64 (k_ + 1)) t)
  else
   some (n, m_))
def uZ (k : Nat) (a_ : zb) (i : Int) (any : Bool) : Option (Int × zb) :=
 (vW a_ i).bind fun t_ =>
 (vn any k t_.1 0 t_.2).bind fun s =>
 some (s.1, s.2)
def uU (k : Nat) (a_ : zb) (r : Int) (i : Int) : Option (Int × zb) :=
 (uZ k a_ i false).bind fun t_ =>
 some (r, t_.2)
def qf (k : Nat) (a_ : zb) (r : Int) (i : Int) : Option (Int × zb) :=
 (uZ k a_ i false).bind fun t_ =>
 some (r, t_.2)
def iV (a_ : zb) (r : Int) (i : Int) : Option (Int) :=
 none
def oN (a_ : zb) (r : Int) (i : Int) : Option (Int) :=
 none
def q5 (k : Nat) (k_ : Int) (a_ : zb) (r : Int) (i : Int) : Option (Int × zb) :=
 (bif k_ == 1 then
  (sG k a_ r i).bind fun t_ =>
  some (t_.1, t_.2)
 else
  (bif k_ == 2 then
   (uU k a_ r i).bind fun e =>
   some (e.1, e.2)
  else
   (bif k_ == 3 then
    (qf k a_ r i).bind fun j =>
    some (j.1, j.2)
   else
    (bif k_ == 4 then
     (iV a_ r i).bind fun l =>
     some (l, a_)
    else
     (bif k_ == 5 then
      (oN a_ r i).bind fun t =>
      some (t, a_)
     else
      some (r, a_))))))
def vP (k : Nat) (q : zo) (e : yk) : Option (zK × zo) :=
 (vv q.t_ e.Item).bind fun t_ =>
 (rr zf.eq e.Item (zi.mk 0 0) q.entries).bind fun x =>
 (bif t_.2 != 0 then
  (vF t_.2).bind fun t =>
  some (t, q)
 else
  (bif decide (e.Key > x.1.Key) then
   (vF 26).bind fun u =>
   some (u, q)
  else
   (ui q.t_ e.Item).bind fun j =>
   (xl q.t_ j.1).bind fun i =>
   (tO q.a_ t_.1 e.Key).bind fun y =>
   (q5 k i.1 y.2 i.2.1 t_.1).bind fun l =>
   (xz q.t_ j.1 l.1 i.2.2.1).bind fun z =>
   some (zK.mk 0 (zf.mk 0 0) (zf.mk 0 0) (zi.mk e.Key x.1.Serial) 0, zo.mk q.items l.2 z.2 (mPut zf.eq e.Item (zi.mk e.Key x.1.Serial) q.entries) q.serial)))
def rz (k : Nat) (a_ : zb) (r : Int) (i : Int) : Option (Int × zb) :=
 (vW a_ i).bind fun t_ =>
 (bif t_.1 == (-1) then
  some (r, t_.2)
 else
  ((bif t_.1 == r then
   some (true, t_.2)
  else
   (zE t_.2 t_.1 0).bind fun e =>
   some (e.1 == (-1), e.2))).bind fun s =>
  (bif s.1 then
   (uE k s.2 t_.1).bind fun j =>
   some (j.1, j.2.2)
  else
   (uS k s.2 t_.1).bind fun u =>
   (uE k u t_.1).bind fun l =>
   (vg k l.2.2 r l.1).bind fun t =>
   some (t.1, t.2)))
def wP (e : Int) (x1 : Int) (l : List Int) : Nat -> Int -> Option ((Int) ⊕ (Unit))
 | 0, _ => none
 | m + 1, x =>
  (bif decide (x < x1) then
   (mIdx l x).bind fun x2 =>
   (bif e == x2 then
    some (.inl x)
   else
    wP e x1 l m (w64 (x + 1)))
  else
   some (.inr ()))
def tE (k : Nat) (s : List Int) (v_ : Int) : Option (Int) :=
 (wP v_ (s.length : Int) s k 0).bind fun s1 =>
 match s1 with
 | .inl e => some e
 | .inr s2 =>
  some (-1)
def wR (k : Nat) (s : List Int) (v_ : Int) : Option (Bool) :=
 (tE k s v_).bind fun t_ =>
 some (decide (t_ >= 0))
def tp (k : Nat) (a_ : zb) (r : Int) (i : Int) : Option (Int × zb) :=
 (vW a_ i).bind fun t_ =>
 (bif t_.1 == (-1) then
  some (r, t_.2)
 else
  (uZ k t_.2 i true).bind fun j =>
  (wx k j.2 r).bind fun e =>
  (wR k e.1 j.1).bind fun t =>
  (bif !t then
   some (r, e.2)
  else
   (xK k e.2 e.1 j.1).bind fun l =>
   some (l.1, l.2.2)))
def py (k : Nat) (a_ : zb) (r : Int) (i : Int) : Option (Int × zb) :=
 (vW a_ i).bind fun t_ =>
 (bif t_.1 == (-1) then
  some (r, t_.2)
 else
  (uZ k t_.2 i true).bind fun j =>
  (wx k j.2 r).bind fun e =>
  (wR k e.1 j.1).bind fun t =>
  (bif !t then
   some (r, e.2)
  else
   (vh k e.2 e.1 j.1).bind fun l =>
   some (l.1, l.2.2)))
def dw (a_ : zb) (r : Int) (i : Int) : Option (Int) :=
 none
def nz (a_ : zb) (r : Int) (i : Int) : Option (Int) :=
 none
def oY (k : Nat) (k_ : Int) (a_ : zb) (r : Int) (i : Int) : Option (Int × zb) :=
 (bif k_ == 1 then
  (rz k a_ r i).bind fun t_ =>
  some (t_.1, t_.2)
 else
  (bif k_ == 2 then
   (tp k a_ r i).bind fun e =>
   some (e.1, e.2)
  else
   (bif k_ == 3 then
    (py k a_ r i).bind fun j =>
    some (j.1, j.2)
   else
    (bif k_ == 4 then
     (dw a_ r i).bind fun l =>
     some (l, a_)
    else
     (bif k_ == 5 then
      (nz a_ r i).bind fun t =>
      some (t, a_)
     else
      some (r, a_))))))
def uv (k : Nat) (q : zo) (i : zf) : Option (zK × zo) :=
 (vv q.t_ i).bind fun t_ =>
 (bif t_.2 != 0 then
  (vF t_.2).bind fun u =>
  some (u, q)
 else
  (ui q.t_ i).bind fun j =>
  (xl q.t_ j.1).bind fun e =>
  (oY k e.1 q.a_ e.2.1 t_.1).bind fun l =>
  (xz q.t_ j.1 l.1 (w64 (e.2.2.1 - 1))).bind fun x =>
  (ue (zo.mk q.items l.2 x.2 q.entries q.serial) i).bind fun t =>
  some (zK.mk 0 (zf.mk 0 0) (zf.mk 0 0) t.1 0, t.2))
def yT (x1 : Int) (m_ : ze) : Nat -> (List zf) -> Int -> Option ((List zf))
 | 0, _, _ => none
 | m + 1, out, x =>
  (bif decide (x < x1) then
   ((mIdx m_.l x).bind fun x2 =>
   (bif x2.taken then
    (mApp out ([zf.mk x x2.gen] : List zf)).bind fun l =>
    some l
   else
    some out)).bind fun s1 =>
   yT x1 m_ m s1 (w64 (x + 1))
  else
   some out)
def xX (k : Nat) (p : ze) : Option ((List zf)) :=
 (yT (p.l.length : Int) p k ([] : List zf) 0).bind fun s =>
 some s
def xS (x1 : Int) (m_ : zj) (l : List zf) (v_ : Int) (e : Int) : Nat -> (List zf) -> Int -> Option ((List zf))
 | 0, _, _ => none
 | m + 1, out, x =>
  (bif decide (x < x1) then
   ((mIdx l x).bind fun x2 =>
   (yu m_.items x2).bind fun i =>
   (bif zf.eq i.1.heap (zf.mk v_ e) then
    (mApp out ([x2] : List zf)).bind fun l1 =>
    some l1
   else
    some out)).bind fun s1 =>
   xS x1 m_ l v_ e m s1 (w64 (x + 1))
  else
   some out)
def uw (k : Nat) (t_ : zj) (i : zf) : Option ((List zf)) :=
 (xX k t_.items).bind fun e =>
 (xS (e.length : Int) t_ e i.At i.Gen k ([] : List zf) 0).bind fun s =>
 some s
def wh (p : ze) (r : zf) (v_ : zA) : Option (Int × ze) :=
 (yZ p r).bind fun t_ =>
 (uW t_.1
  (((bif t_.2 == 0 then
   none
  else
   some ())).bind fun s =>
  some (t_.2, p))
  (fun i =>
  (mIdx p.l i).bind fun x =>
  ((bif t_.2 == 0 then
   some (ze.mk p.most (mSet p.l i (zp.mk x.gen x.taken v_)) p.free)
  else
   some p)).bind fun s1 =>
  some (t_.2, s1)))
def xZ (p : zh) (r : zf) : Option (zB × Int × zh) :=
 (xb p r).bind fun t_ =>
 (uW t_.1
  ((bif t_.2 != 0 then
   some (zB.mk 0 0 0, t_.2, p)
  else
   none))
  (fun i =>
  (mIdx p.l i).bind fun x =>
  (bif t_.2 != 0 then
   some (zB.mk 0 0 0, t_.2, p)
  else
   (mApp p.free ([r.At] : List Int)).bind fun l =>
   some (x.v_, 0, zh.mk p.most (mSet (mSet p.l i (zs.mk x.gen false x.v_)) i (zs.mk x.gen false (zB.mk 0 0 0))) l))))
def xU (x1 : Int) (l : List zf) (v_ : Int) (j : Int) (e : Int) (i : Int) : Nat -> Int -> zj -> Option (zj)
 | 0, _, _ => none
 | m + 1, x, m_ =>
  (bif decide (x < x1) then
   (mIdx l x).bind fun x2 =>
   (yu m_.items x2).bind fun t =>
   (wh m_.items x2 (zA.mk t.1.cell (zf.mk e i))).bind fun u =>
   xU x1 l v_ j e i m (w64 (x + 1)) (zj.mk m_.heaps u.2 m_.at_)
  else
   some m_)
def uA (k : Nat) (t_ : zj) (t : zf) (o : zf) : Option (Int × zj) :=
 (yJ t_.heaps t).bind fun e =>
 (bif e.2 != 0 then
  some (e.2, t_)
 else
  (yJ t_.heaps o).bind fun i =>
  (bif i.2 != 0 then
   some (i.2, t_)
  else
   (bif zf.eq t o then
    some (25, t_)
   else
    (bif e.1.kind != i.1.kind then
     some (24, t_)
    else
     (uw k t_ o).bind fun j =>
     (xU (j.length : Int) j o.At o.Gen t.At t.Gen k 0 t_).bind fun s =>
     (xZ s.heaps o).bind fun l =>
     some (l.2.1, zj.mk l.2.2 s.items s.at_)))))
def sB (k : Nat) (a_ : zb) (r : Int) (s : Int) : Option (Int × zb) :=
 (vg k a_ r s).bind fun t_ =>
 some (t_.1, t_.2)
def uT (k : Nat) (a_ : zb) (r : Int) (s : Int) : Option (Int × zb) :=
 (bif r == s then
  some (r, a_)
 else
  (wx k a_ r).bind fun t_ =>
  (wx k t_.2 s).bind fun e =>
  (mApp t_.1 e.1).bind fun l =>
  (vj k e.2 l).bind fun i =>
  some (i.1, i.2))
def qb (k : Nat) (a_ : zb) (r : Int) (s : Int) : Option (Int × zb) :=
 (bif r == s then
  some (r, a_)
 else
  (wx k a_ r).bind fun t_ =>
  (wx k t_.2 s).bind fun e =>
  (mApp t_.1 e.1).bind fun l =>
  (vj k e.2 l).bind fun i =>
  some (i.1, i.2))
def hK (a_ : zb) (r : Int) (s : Int) : Option (Int) :=
 none
def oM (a_ : zb) (r : Int) (s : Int) : Option (Int) :=
 none
def pX (k : Nat) (k_ : Int) (a_ : zb) (r : Int) (s : Int) : Option (Int × zb) :=
 (bif k_ == 1 then
  (sB k a_ r s).bind fun t_ =>
  some (t_.1, t_.2)
 else
  (bif k_ == 2 then
   (uT k a_ r s).bind fun e =>
   some (e.1, e.2)
  else
   (bif k_ == 3 then
    (qb k a_ r s).bind fun i =>
    some (i.1, i.2)
   else
    (bif k_ == 4 then
     (hK a_ r s).bind fun j =>
     some (j, a_)
    else
     (bif k_ == 5 then
      (oM a_ r s).bind fun l =>
      some (l, a_)
     else
      some (r, a_))))))
def tn (k : Nat) (q : zo) (l : zf) (o : zf) : Option (zK × zo) :=
 (xl q.t_ l).bind fun t_ =>
 (xl q.t_ o).bind fun i =>
 (uA k q.t_ l o).bind fun e =>
 (bif e.1 != 0 then
  (vF e.1).bind fun t =>
  some (t, zo.mk q.items q.a_ e.2 q.entries q.serial)
 else
  (pX k t_.1 q.a_ t_.2.1 i.2.1).bind fun j =>
  (xz e.2 l j.1 (w64 (t_.2.2.1 + i.2.2.1))).bind fun u =>
  some (zK.mk 0 (zf.mk 0 0) (zf.mk 0 0) (zi.mk 0 0) (w64 (t_.2.2.1 + i.2.2.1)), zo.mk q.items j.2 u.2 q.entries q.serial))
def s6 (q : zo) (e : zf) : Option (zK) :=
 none
def yh (k : Nat) (q : zo) (i : yk) : Option (zK × zo) :=
 (u5 q.a_).bind fun t_ =>
 (u0 q.a_.m_).bind fun e =>
 (bif i.Op == 1 then
  (uy q.t_ i.Kind).bind fun j =>
  some (zK.mk j.2.1 j.1 (zf.mk 0 0) (zi.mk 0 0) 0, zo.mk q.items (zb.mk q.a_.l q.a_.never q.a_.free e) j.2.2 q.entries q.serial)
 else
  (bif i.Op == 2 then
   (uz k (zo.mk q.items (zb.mk q.a_.l q.a_.never q.a_.free e) q.t_ q.entries q.serial) i).bind fun t =>
   some (t.1, t.2)
  else
   (bif i.Op == 3 then
    (vk k (zo.mk q.items (zb.mk q.a_.l q.a_.never q.a_.free e) q.t_ q.entries q.serial) i.Heap false).bind fun u =>
    some (u.1, u.2)
   else
    (bif i.Op == 4 then
     (vk k (zo.mk q.items (zb.mk q.a_.l q.a_.never q.a_.free e) q.t_ q.entries q.serial) i.Heap true).bind fun x =>
     some (x.1, x.2)
    else
     (bif i.Op == 5 then
      (vP k (zo.mk q.items (zb.mk q.a_.l q.a_.never q.a_.free e) q.t_ q.entries q.serial) i).bind fun y =>
      some (y.1, y.2)
     else
      (bif i.Op == 6 then
       (uv k (zo.mk q.items (zb.mk q.a_.l q.a_.never q.a_.free e) q.t_ q.entries q.serial) i.Item).bind fun z =>
       some (z.1, z.2)
      else
       (bif i.Op == 7 then
        (tn k (zo.mk q.items (zb.mk q.a_.l q.a_.never q.a_.free e) q.t_ q.entries q.serial) i.Heap i.Other).bind fun A =>
        some (A.1, A.2)
       else
        (bif i.Op == 8 then
         (xl q.t_ i.Heap).bind fun B =>
         some (zK.mk B.2.2.2 (zf.mk 0 0) (zf.mk 0 0) (zi.mk 0 0) B.2.2.1, zo.mk q.items (zb.mk q.a_.l q.a_.never q.a_.free e) q.t_ q.entries q.serial)
        else
         (bif i.Op == 9 then
          (s6 (zo.mk q.items (zb.mk q.a_.l q.a_.never q.a_.free e) q.t_ q.entries q.serial) i.Heap).bind fun D =>
          some (D, zo.mk q.items (zb.mk q.a_.l q.a_.never q.a_.free e) q.t_ q.entries q.serial)
         else
          (vF 12).bind fun F =>
          some (F, zo.mk q.items (zb.mk q.a_.l q.a_.never q.a_.free e) q.t_ q.entries q.serial))))))))))
def sF (k : Nat) (k_ : Int) (most : Int) : Option ((Option za) × Int) :=
 (td k_).bind fun t_ =>
 (bif !t_ then
  some ((none : Option za), 24)
 else
  (sH k k_ most).bind fun i =>
  (bif !i.2 then
   some ((none : Option za), 1)
  else
   (iJ most).bind fun l =>
   (uW l.1
    ((pg most).bind fun x =>
    (pJ).bind fun y =>
    (wN (yk.mk 1 k_ (zf.mk 0 0) (zf.mk 0 0) (zf.mk 0 0) 0)).bind fun z =>
    (wN (yk.mk 1 k_ (zf.mk 0 0) (zf.mk 0 0) (zf.mk 0 0) 0)).bind fun A =>
    none)
    (fun m_ =>
    (pg most).bind fun t =>
    (pJ).bind fun u =>
    (yh k m_ (yk.mk 1 k_ (zf.mk 0 0) (zf.mk 0 0) (zf.mk 0 0) 0)).bind fun j =>
    (yh k j.2 (yk.mk 1 k_ (zf.mk 0 0) (zf.mk 0 0) (zf.mk 0 0) 0)).bind fun e =>
    some (some (za.mk k_ most e.2 j.1.Heap e.1.Heap t ([] : List (zf × Int)) u i.1 0 0), 0)))))
def sa (places : Int) : Option (zk) :=
 some (zk.mk (if 0 > (if 65536 < places then 65536 else places) then 0 else (if 65536 < places then 65536 else places)) ([] : List Int) ([] : List Bool) ([] : List Int) ([] : List Int))
def ux (jobs : Int) : Option (zd) :=
 (sa jobs).bind fun t_ =>
 some (zd.mk jobs 0 0 t_ ([] : List zC))
def rf (m_ : zD) : Option (Int) :=
 some m_.steps
def tZ (q : zo) : Option (Int) :=
 (u5 q.a_).bind fun t_ =>
 (rf q.a_.m_).bind fun e =>
 some e
def y6 (e : Int) : Option (zu) :=
 some (zu.mk e (zf.mk 0 0) 0 0 0)
def xQ (p : zg) : Option (Int) :=
 some (w64 ((p.l.length : Int) - (p.free.length : Int)))
def we (t_ : zn) : Option (Int) :=
 (xQ t_.p).bind fun e =>
 some e
def w6 (p : zg) : Option (Int) :=
 some p.most
def yv (p : zg) (v_ : zz) : Option (zf × Bool × zg) :=
 ((bif decide (w64 ((p.free.length : Int) - 1) >= 0) then
  (mIdx p.free (w64 ((p.free.length : Int) - 1))).bind fun x =>
  (mCut p.free 0 (w64 ((p.free.length : Int) - 1))).bind fun l =>
  some (.inr (x, zg.mk p.most p.l l))
 else
  (bif decide ((p.l.length : Int) >= p.most) then
   some (.inl (zf.mk 0 0, false, p))
  else
   (mApp p.l ([zq.mk 0 false (zz.mk 0 0 0 (zf.mk 0 0))] : List zq)).bind fun l1 =>
   some (.inr ((p.l.length : Int), zg.mk p.most l1 p.free)))) : Option ((zf × Bool × zg) ⊕ (Int × zg))).bind fun s =>
 match s with
 | .inl e => some e
 | .inr s1 =>
  (mIdx s1.2.l s1.1).bind fun x1 =>
  some (zf.mk s1.1 (w64 (x1.gen + 1)), true, zg.mk s1.2.most (mSet (mSet (mSet s1.2.l s1.1 (zq.mk (w64 (x1.gen + 1)) x1.taken x1.v_)) s1.1 (zq.mk (w64 (x1.gen + 1)) true x1.v_)) s1.1 (zq.mk (w64 (x1.gen + 1)) true v_)) s1.2.free)
def sT (t_ : zn) (j : zz) : Option (zf × Int × zn) :=
 (rr zf.eq j.Item (zf.mk 0 0) t_.by_).bind fun x =>
 (xQ t_.p).bind fun i =>
 (w6 t_.p).bind fun l =>
 (bif i == l then
  some (zf.mk 0 0, 13, t_)
 else
  (bif x.2 then
   some (zf.mk 0 0, 1, t_)
  else
   (yv t_.p j).bind fun e =>
   some (e.1, 0, zn.mk ((zn.mk e.2.2 t_.by_).p) (mPut zf.eq j.Item e.1 ((zn.mk e.2.2 t_.by_).by_)))))
def tK (j : zz) : Option (zu) :=
 some (zu.mk 0 (zf.mk 0 0) j.Time j.Data 0)
def xH (k : Nat) (d : za) (l : zw) : Option (zu × za) :=
 (we d.t_).bind fun t_ =>
 (bif decide (t_ >= d.most) then
  (y6 13).bind fun t =>
  some (t, d)
 else
  (mIdx ([d.heaps0, d.heaps1] : List zf) l.Queue).bind fun x =>
  (yh k d.q (yk.mk 2 0 x (zf.mk 0 0) (zf.mk 0 0) l.Time)).bind fun e =>
  (sT ((za.mk d.kind d.most e.2 d.heaps0 d.heaps1 d.t_ d.when d.clock d.budget d.last d.top).t_) (zz.mk l.Queue l.Time l.Data e.1.Item)).bind fun i =>
  (tK (zz.mk l.Queue l.Time l.Data e.1.Item)).bind fun j =>
  some (zu.mk j.Why i.1 j.Time j.Data j.N, za.mk ((za.mk ((za.mk d.kind d.most e.2 d.heaps0 d.heaps1 d.t_ d.when d.clock d.budget d.last d.top).kind) ((za.mk d.kind d.most e.2 d.heaps0 d.heaps1 d.t_ d.when d.clock d.budget d.last d.top).most) ((za.mk d.kind d.most e.2 d.heaps0 d.heaps1 d.t_ d.when d.clock d.budget d.last d.top).q) ((za.mk d.kind d.most e.2 d.heaps0 d.heaps1 d.t_ d.when d.clock d.budget d.last d.top).heaps0) ((za.mk d.kind d.most e.2 d.heaps0 d.heaps1 d.t_ d.when d.clock d.budget d.last d.top).heaps1) i.2.2 ((za.mk d.kind d.most e.2 d.heaps0 d.heaps1 d.t_ d.when d.clock d.budget d.last d.top).when) ((za.mk d.kind d.most e.2 d.heaps0 d.heaps1 d.t_ d.when d.clock d.budget d.last d.top).clock) ((za.mk d.kind d.most e.2 d.heaps0 d.heaps1 d.t_ d.when d.clock d.budget d.last d.top).budget) ((za.mk d.kind d.most e.2 d.heaps0 d.heaps1 d.t_ d.when d.clock d.budget d.last d.top).last) ((za.mk d.kind d.most e.2 d.heaps0 d.heaps1 d.t_ d.when d.clock d.budget d.last d.top).top)).kind) ((za.mk ((za.mk d.kind d.most e.2 d.heaps0 d.heaps1 d.t_ d.when d.clock d.budget d.last d.top).kind) ((za.mk d.kind d.most e.2 d.heaps0 d.heaps1 d.t_ d.when d.clock d.budget d.last d.top).most) ((za.mk d.kind d.most e.2 d.heaps0 d.heaps1 d.t_ d.when d.clock d.budget d.last d.top).q) ((za.mk d.kind d.most e.2 d.heaps0 d.heaps1 d.t_ d.when d.clock d.budget d.last d.top).heaps0) ((za.mk d.kind d.most e.2 d.heaps0 d.heaps1 d.t_ d.when d.clock d.budget d.last d.top).heaps1) i.2.2 ((za.mk d.kind d.most e.2 d.heaps0 d.heaps1 d.t_ d.when d.clock d.budget d.last d.top).when) ((za.mk d.kind d.most e.2 d.heaps0 d.heaps1 d.t_ d.when d.clock d.budget d.last d.top).clock) ((za.mk d.kind d.most e.2 d.heaps0 d.heaps1 d.t_ d.when d.clock d.budget d.last d.top).budget) ((za.mk d.kind d.most e.2 d.heaps0 d.heaps1 d.t_ d.when d.clock d.budget d.last d.top).last) ((za.mk d.kind d.most e.2 d.heaps0 d.heaps1 d.t_ d.when d.clock d.budget d.last d.top).top)).most) ((za.mk ((za.mk d.kind d.most e.2 d.heaps0 d.heaps1 d.t_ d.when d.clock d.budget d.last d.top).kind) ((za.mk d.kind d.most e.2 d.heaps0 d.heaps1 d.t_ d.when d.clock d.budget d.last d.top).most) ((za.mk d.kind d.most e.2 d.heaps0 d.heaps1 d.t_ d.when d.clock d.budget d.last d.top).q) ((za.mk d.kind d.most e.2 d.heaps0 d.heaps1 d.t_ d.when d.clock d.budget d.last d.top).heaps0) ((za.mk d.kind d.most e.2 d.heaps0 d.heaps1 d.t_ d.when d.clock d.budget d.last d.top).heaps1) i.2.2 ((za.mk d.kind d.most e.2 d.heaps0 d.heaps1 d.t_ d.when d.clock d.budget d.last d.top).when) ((za.mk d.kind d.most e.2 d.heaps0 d.heaps1 d.t_ d.when d.clock d.budget d.last d.top).clock) ((za.mk d.kind d.most e.2 d.heaps0 d.heaps1 d.t_ d.when d.clock d.budget d.last d.top).budget) ((za.mk d.kind d.most e.2 d.heaps0 d.heaps1 d.t_ d.when d.clock d.budget d.last d.top).last) ((za.mk d.kind d.most e.2 d.heaps0 d.heaps1 d.t_ d.when d.clock d.budget d.last d.top).top)).q) ((za.mk ((za.mk d.kind d.most e.2 d.heaps0 d.heaps1 d.t_ d.when d.clock d.budget d.last d.top).kind) ((za.mk d.kind d.most e.2 d.heaps0 d.heaps1 d.t_ d.when d.clock d.budget d.last d.top).most) ((za.mk d.kind d.most e.2 d.heaps0 d.heaps1 d.t_ d.when d.clock d.budget d.last d.top).q) ((za.mk d.kind d.most e.2 d.heaps0 d.heaps1 d.t_ d.when d.clock d.budget d.last d.top).heaps0) ((za.mk d.kind d.most e.2 d.heaps0 d.heaps1 d.t_ d.when d.clock d.budget d.last d.top).heaps1) i.2.2 ((za.mk d.kind d.most e.2 d.heaps0 d.heaps1 d.t_ d.when d.clock d.budget d.last d.top).when) ((za.mk d.kind d.most e.2 d.heaps0 d.heaps1 d.t_ d.when d.clock d.budget d.last d.top).clock) ((za.mk d.kind d.most e.2 d.heaps0 d.heaps1 d.t_ d.when d.clock d.budget d.last d.top).budget) ((za.mk d.kind d.most e.2 d.heaps0 d.heaps1 d.t_ d.when d.clock d.budget d.last d.top).last) ((za.mk d.kind d.most e.2 d.heaps0 d.heaps1 d.t_ d.when d.clock d.budget d.last d.top).top)).heaps0) ((za.mk ((za.mk d.kind d.most e.2 d.heaps0 d.heaps1 d.t_ d.when d.clock d.budget d.last d.top).kind) ((za.mk d.kind d.most e.2 d.heaps0 d.heaps1 d.t_ d.when d.clock d.budget d.last d.top).most) ((za.mk d.kind d.most e.2 d.heaps0 d.heaps1 d.t_ d.when d.clock d.budget d.last d.top).q) ((za.mk d.kind d.most e.2 d.heaps0 d.heaps1 d.t_ d.when d.clock d.budget d.last d.top).heaps0) ((za.mk d.kind d.most e.2 d.heaps0 d.heaps1 d.t_ d.when d.clock d.budget d.last d.top).heaps1) i.2.2 ((za.mk d.kind d.most e.2 d.heaps0 d.heaps1 d.t_ d.when d.clock d.budget d.last d.top).when) ((za.mk d.kind d.most e.2 d.heaps0 d.heaps1 d.t_ d.when d.clock d.budget d.last d.top).clock) ((za.mk d.kind d.most e.2 d.heaps0 d.heaps1 d.t_ d.when d.clock d.budget d.last d.top).budget) ((za.mk d.kind d.most e.2 d.heaps0 d.heaps1 d.t_ d.when d.clock d.budget d.last d.top).last) ((za.mk d.kind d.most e.2 d.heaps0 d.heaps1 d.t_ d.when d.clock d.budget d.last d.top).top)).heaps1) ((za.mk ((za.mk d.kind d.most e.2 d.heaps0 d.heaps1 d.t_ d.when d.clock d.budget d.last d.top).kind) ((za.mk d.kind d.most e.2 d.heaps0 d.heaps1 d.t_ d.when d.clock d.budget d.last d.top).most) ((za.mk d.kind d.most e.2 d.heaps0 d.heaps1 d.t_ d.when d.clock d.budget d.last d.top).q) ((za.mk d.kind d.most e.2 d.heaps0 d.heaps1 d.t_ d.when d.clock d.budget d.last d.top).heaps0) ((za.mk d.kind d.most e.2 d.heaps0 d.heaps1 d.t_ d.when d.clock d.budget d.last d.top).heaps1) i.2.2 ((za.mk d.kind d.most e.2 d.heaps0 d.heaps1 d.t_ d.when d.clock d.budget d.last d.top).when) ((za.mk d.kind d.most e.2 d.heaps0 d.heaps1 d.t_ d.when d.clock d.budget d.last d.top).clock) ((za.mk d.kind d.most e.2 d.heaps0 d.heaps1 d.t_ d.when d.clock d.budget d.last d.top).budget) ((za.mk d.kind d.most e.2 d.heaps0 d.heaps1 d.t_ d.when d.clock d.budget d.last d.top).last) ((za.mk d.kind d.most e.2 d.heaps0 d.heaps1 d.t_ d.when d.clock d.budget d.last d.top).top)).t_) (mPut zf.eq i.1 e.1.Entry.Serial ((za.mk ((za.mk d.kind d.most e.2 d.heaps0 d.heaps1 d.t_ d.when d.clock d.budget d.last d.top).kind) ((za.mk d.kind d.most e.2 d.heaps0 d.heaps1 d.t_ d.when d.clock d.budget d.last d.top).most) ((za.mk d.kind d.most e.2 d.heaps0 d.heaps1 d.t_ d.when d.clock d.budget d.last d.top).q) ((za.mk d.kind d.most e.2 d.heaps0 d.heaps1 d.t_ d.when d.clock d.budget d.last d.top).heaps0) ((za.mk d.kind d.most e.2 d.heaps0 d.heaps1 d.t_ d.when d.clock d.budget d.last d.top).heaps1) i.2.2 ((za.mk d.kind d.most e.2 d.heaps0 d.heaps1 d.t_ d.when d.clock d.budget d.last d.top).when) ((za.mk d.kind d.most e.2 d.heaps0 d.heaps1 d.t_ d.when d.clock d.budget d.last d.top).clock) ((za.mk d.kind d.most e.2 d.heaps0 d.heaps1 d.t_ d.when d.clock d.budget d.last d.top).budget) ((za.mk d.kind d.most e.2 d.heaps0 d.heaps1 d.t_ d.when d.clock d.budget d.last d.top).last) ((za.mk d.kind d.most e.2 d.heaps0 d.heaps1 d.t_ d.when d.clock d.budget d.last d.top).top)).when)) ((za.mk ((za.mk d.kind d.most e.2 d.heaps0 d.heaps1 d.t_ d.when d.clock d.budget d.last d.top).kind) ((za.mk d.kind d.most e.2 d.heaps0 d.heaps1 d.t_ d.when d.clock d.budget d.last d.top).most) ((za.mk d.kind d.most e.2 d.heaps0 d.heaps1 d.t_ d.when d.clock d.budget d.last d.top).q) ((za.mk d.kind d.most e.2 d.heaps0 d.heaps1 d.t_ d.when d.clock d.budget d.last d.top).heaps0) ((za.mk d.kind d.most e.2 d.heaps0 d.heaps1 d.t_ d.when d.clock d.budget d.last d.top).heaps1) i.2.2 ((za.mk d.kind d.most e.2 d.heaps0 d.heaps1 d.t_ d.when d.clock d.budget d.last d.top).when) ((za.mk d.kind d.most e.2 d.heaps0 d.heaps1 d.t_ d.when d.clock d.budget d.last d.top).clock) ((za.mk d.kind d.most e.2 d.heaps0 d.heaps1 d.t_ d.when d.clock d.budget d.last d.top).budget) ((za.mk d.kind d.most e.2 d.heaps0 d.heaps1 d.t_ d.when d.clock d.budget d.last d.top).last) ((za.mk d.kind d.most e.2 d.heaps0 d.heaps1 d.t_ d.when d.clock d.budget d.last d.top).top)).clock) ((za.mk ((za.mk d.kind d.most e.2 d.heaps0 d.heaps1 d.t_ d.when d.clock d.budget d.last d.top).kind) ((za.mk d.kind d.most e.2 d.heaps0 d.heaps1 d.t_ d.when d.clock d.budget d.last d.top).most) ((za.mk d.kind d.most e.2 d.heaps0 d.heaps1 d.t_ d.when d.clock d.budget d.last d.top).q) ((za.mk d.kind d.most e.2 d.heaps0 d.heaps1 d.t_ d.when d.clock d.budget d.last d.top).heaps0) ((za.mk d.kind d.most e.2 d.heaps0 d.heaps1 d.t_ d.when d.clock d.budget d.last d.top).heaps1) i.2.2 ((za.mk d.kind d.most e.2 d.heaps0 d.heaps1 d.t_ d.when d.clock d.budget d.last d.top).when) ((za.mk d.kind d.most e.2 d.heaps0 d.heaps1 d.t_ d.when d.clock d.budget d.last d.top).clock) ((za.mk d.kind d.most e.2 d.heaps0 d.heaps1 d.t_ d.when d.clock d.budget d.last d.top).budget) ((za.mk d.kind d.most e.2 d.heaps0 d.heaps1 d.t_ d.when d.clock d.budget d.last d.top).last) ((za.mk d.kind d.most e.2 d.heaps0 d.heaps1 d.t_ d.when d.clock d.budget d.last d.top).top)).budget) ((za.mk ((za.mk d.kind d.most e.2 d.heaps0 d.heaps1 d.t_ d.when d.clock d.budget d.last d.top).kind) ((za.mk d.kind d.most e.2 d.heaps0 d.heaps1 d.t_ d.when d.clock d.budget d.last d.top).most) ((za.mk d.kind d.most e.2 d.heaps0 d.heaps1 d.t_ d.when d.clock d.budget d.last d.top).q) ((za.mk d.kind d.most e.2 d.heaps0 d.heaps1 d.t_ d.when d.clock d.budget d.last d.top).heaps0) ((za.mk d.kind d.most e.2 d.heaps0 d.heaps1 d.t_ d.when d.clock d.budget d.last d.top).heaps1) i.2.2 ((za.mk d.kind d.most e.2 d.heaps0 d.heaps1 d.t_ d.when d.clock d.budget d.last d.top).when) ((za.mk d.kind d.most e.2 d.heaps0 d.heaps1 d.t_ d.when d.clock d.budget d.last d.top).clock) ((za.mk d.kind d.most e.2 d.heaps0 d.heaps1 d.t_ d.when d.clock d.budget d.last d.top).budget) ((za.mk d.kind d.most e.2 d.heaps0 d.heaps1 d.t_ d.when d.clock d.budget d.last d.top).last) ((za.mk d.kind d.most e.2 d.heaps0 d.heaps1 d.t_ d.when d.clock d.budget d.last d.top).top)).last) ((za.mk ((za.mk d.kind d.most e.2 d.heaps0 d.heaps1 d.t_ d.when d.clock d.budget d.last d.top).kind) ((za.mk d.kind d.most e.2 d.heaps0 d.heaps1 d.t_ d.when d.clock d.budget d.last d.top).most) ((za.mk d.kind d.most e.2 d.heaps0 d.heaps1 d.t_ d.when d.clock d.budget d.last d.top).q) ((za.mk d.kind d.most e.2 d.heaps0 d.heaps1 d.t_ d.when d.clock d.budget d.last d.top).heaps0) ((za.mk d.kind d.most e.2 d.heaps0 d.heaps1 d.t_ d.when d.clock d.budget d.last d.top).heaps1) i.2.2 ((za.mk d.kind d.most e.2 d.heaps0 d.heaps1 d.t_ d.when d.clock d.budget d.last d.top).when) ((za.mk d.kind d.most e.2 d.heaps0 d.heaps1 d.t_ d.when d.clock d.budget d.last d.top).clock) ((za.mk d.kind d.most e.2 d.heaps0 d.heaps1 d.t_ d.when d.clock d.budget d.last d.top).budget) ((za.mk d.kind d.most e.2 d.heaps0 d.heaps1 d.t_ d.when d.clock d.budget d.last d.top).last) ((za.mk d.kind d.most e.2 d.heaps0 d.heaps1 d.t_ d.when d.clock d.budget d.last d.top).top)).top)))
def zS (p : zg) (r : zf) : Option ((Option Int) × Int) :=
 ((bif decide (r.At < 0) then
  some true
 else
  (bif decide (r.At >= (p.l.length : Int)) then
   some true
  else
   (bif decide (r.Gen < 1) then
    some true
   else
    (mIdx p.l r.At).bind fun x1 =>
    some (decide (r.Gen > x1.gen)))))).bind fun s =>
 (bif s then
  some ((none : Option Int), 22)
 else
  (mIdx p.l r.At).bind fun x2 =>
  (bif (decide (r.Gen < x2.gen)) || (!x2.taken) then
   some ((none : Option Int), 23)
  else
   some ((some r.At : Option Int), 0)))
def yx (p : zg) (r : zf) : Option (zz × Int) :=
 (zS p r).bind fun t_ =>
 (uW t_.1
  ((bif t_.2 != 0 then
   some (zz.mk 0 0 0 (zf.mk 0 0), t_.2)
  else
   none))
  (fun i =>
  (mIdx p.l i).bind fun x =>
  (bif t_.2 != 0 then
   some (zz.mk 0 0 0 (zf.mk 0 0), t_.2)
  else
   some (x.v_, 0))))
def xw (t_ : zn) (r : zf) : Option (zz × Int) :=
 (yx t_.p r).bind fun e =>
 some (e.1, e.2)
def xt (p : zg) (r : zf) (v_ : zz) : Option (Int × zg) :=
 (zS p r).bind fun t_ =>
 (uW t_.1
  (((bif t_.2 == 0 then
   none
  else
   some ())).bind fun s =>
  some (t_.2, p))
  (fun i =>
  (mIdx p.l i).bind fun x =>
  ((bif t_.2 == 0 then
   some (zg.mk p.most (mSet p.l i (zq.mk x.gen x.taken v_)) p.free)
  else
   some p)).bind fun s1 =>
  some (t_.2, s1)))
def tm (t_ : zn) (r : zf) (j : zz) : Option (Int × zn) :=
 (yx t_.p r).bind fun e =>
 (bif e.2 != 0 then
  some (e.2, t_)
 else
  (rr zf.eq j.Item (zf.mk 0 0) t_.by_).bind fun x =>
  ((bif x.2 then
   some (!(zf.eq x.1 r))
  else
   some false)).bind fun s =>
  (bif s then
   some (1, t_)
  else
   (xt t_.p r j).bind fun i =>
   some (i.1, zn.mk i.2 (mPut zf.eq j.Item r (mDel zf.eq e.1.Item t_.by_)))))
def xL (k : Nat) (d : za) (e : zw) : Option (zu × za) :=
 (xw d.t_ e.Job).bind fun t_ =>
 (bif t_.2 != 0 then
  (y6 t_.2).bind fun i =>
  some (i, d)
 else
  (bif decide (e.Time > t_.1.Time) then
   (y6 26).bind fun j =>
   some (j, d)
  else
   (yh k d.q (yk.mk 5 0 (zf.mk 0 0) (zf.mk 0 0) t_.1.Item e.Time)).bind fun l =>
   (tm d.t_ e.Job (zz.mk t_.1.Queue e.Time t_.1.Data t_.1.Item)).bind fun t =>
   (tK (zz.mk t_.1.Queue e.Time t_.1.Data t_.1.Item)).bind fun u =>
   some (u, za.mk d.kind d.most l.2 d.heaps0 d.heaps1 t.2 d.when d.clock d.budget d.last d.top)))
def zW (p : zg) (r : zf) : Option (zz × Int × zg) :=
 (zS p r).bind fun t_ =>
 (uW t_.1
  ((bif t_.2 != 0 then
   some (zz.mk 0 0 0 (zf.mk 0 0), t_.2, p)
  else
   none))
  (fun i =>
  (mIdx p.l i).bind fun x =>
  (bif t_.2 != 0 then
   some (zz.mk 0 0 0 (zf.mk 0 0), t_.2, p)
  else
   (mApp p.free ([r.At] : List Int)).bind fun l =>
   some (x.v_, 0, zg.mk p.most (mSet (mSet p.l i (zq.mk x.gen false x.v_)) i (zq.mk x.gen false (zz.mk 0 0 0 (zf.mk 0 0)))) l))))
def uR (t_ : zn) (r : zf) : Option (zz × Int × zn) :=
 (zW t_.p r).bind fun e =>
 ((bif e.2.1 == 0 then
  some (zn.mk ((zn.mk e.2.2 t_.by_).p) (mDel zf.eq e.1.Item ((zn.mk e.2.2 t_.by_).by_)))
 else
  some (zn.mk e.2.2 t_.by_))).bind fun s =>
 some (e.1, e.2.1, s)
def xf (d : za) (r : zf) : Option (zu × za) :=
 (uR d.t_ r).bind fun t_ =>
 (bif t_.2.1 != 0 then
  (y6 t_.2.1).bind fun e =>
  some (e, za.mk d.kind d.most d.q d.heaps0 d.heaps1 t_.2.2 d.when d.clock d.budget d.last d.top)
 else
  (tK t_.1).bind fun i =>
  some (i, za.mk ((za.mk d.kind d.most d.q d.heaps0 d.heaps1 t_.2.2 d.when d.clock d.budget d.last d.top).kind) ((za.mk d.kind d.most d.q d.heaps0 d.heaps1 t_.2.2 d.when d.clock d.budget d.last d.top).most) ((za.mk d.kind d.most d.q d.heaps0 d.heaps1 t_.2.2 d.when d.clock d.budget d.last d.top).q) ((za.mk d.kind d.most d.q d.heaps0 d.heaps1 t_.2.2 d.when d.clock d.budget d.last d.top).heaps0) ((za.mk d.kind d.most d.q d.heaps0 d.heaps1 t_.2.2 d.when d.clock d.budget d.last d.top).heaps1) ((za.mk d.kind d.most d.q d.heaps0 d.heaps1 t_.2.2 d.when d.clock d.budget d.last d.top).t_) (mDel zf.eq r ((za.mk d.kind d.most d.q d.heaps0 d.heaps1 t_.2.2 d.when d.clock d.budget d.last d.top).when)) ((za.mk d.kind d.most d.q d.heaps0 d.heaps1 t_.2.2 d.when d.clock d.budget d.last d.top).clock) ((za.mk d.kind d.most d.q d.heaps0 d.heaps1 t_.2.2 d.when d.clock d.budget d.last d.top).budget) ((za.mk d.kind d.most d.q d.heaps0 d.heaps1 t_.2.2 d.when d.clock d.budget d.last d.top).last) ((za.mk d.kind d.most d.q d.heaps0 d.heaps1 t_.2.2 d.when d.clock d.budget d.last d.top).top)))
def xO (k : Nat) (d : za) (r : zf) : Option (zu × za) :=
 (xw d.t_ r).bind fun t_ =>
 ((bif t_.2 == 0 then
  (yh k d.q (yk.mk 6 0 (zf.mk 0 0) (zf.mk 0 0) t_.1.Item 0)).bind fun i =>
  some (za.mk d.kind d.most i.2 d.heaps0 d.heaps1 d.t_ d.when d.clock d.budget d.last d.top)
 else
  some d)).bind fun s =>
 (xf s r).bind fun e =>
 some (e.1, e.2)
def sU (e : zO) (by_ : Int) : Option (Int × zO) :=
 (bif decide (by_ < 0) then
  some (1, e)
 else
  (vu e.now by_).bind fun t_ =>
  some (0, zO.mk t_))
def vY (e : zO) : Option (Int) :=
 some e.now
def vS (e : zO) (at_ : Int) : Option (Bool) :=
 some (decide (at_ <= e.now))
def rN (t_ : zn) (item : zf) : Option (zf × Bool) :=
 (rr zf.eq item (zf.mk 0 0) t_.by_).bind fun x =>
 some (x.1, x.2)
def wE (k : Nat) (d : za) (queue : Int) : Option (zu × za) :=
 (mIdx ([d.heaps0, d.heaps1] : List zf) queue).bind fun x =>
 (yh k d.q (yk.mk 3 0 x (zf.mk 0 0) (zf.mk 0 0) 0)).bind fun t_ =>
 ((bif t_.1.Why != 0 then
  some (true, za.mk d.kind d.most t_.2 d.heaps0 d.heaps1 d.t_ d.when d.clock d.budget d.last d.top)
 else
  (vS ((za.mk d.kind d.most t_.2 d.heaps0 d.heaps1 d.t_ d.when d.clock d.budget d.last d.top).clock) t_.1.Entry.Key).bind fun l =>
  some (!l, za.mk ((za.mk d.kind d.most t_.2 d.heaps0 d.heaps1 d.t_ d.when d.clock d.budget d.last d.top).kind) ((za.mk d.kind d.most t_.2 d.heaps0 d.heaps1 d.t_ d.when d.clock d.budget d.last d.top).most) ((za.mk d.kind d.most t_.2 d.heaps0 d.heaps1 d.t_ d.when d.clock d.budget d.last d.top).q) ((za.mk d.kind d.most t_.2 d.heaps0 d.heaps1 d.t_ d.when d.clock d.budget d.last d.top).heaps0) ((za.mk d.kind d.most t_.2 d.heaps0 d.heaps1 d.t_ d.when d.clock d.budget d.last d.top).heaps1) ((za.mk d.kind d.most t_.2 d.heaps0 d.heaps1 d.t_ d.when d.clock d.budget d.last d.top).t_) ((za.mk d.kind d.most t_.2 d.heaps0 d.heaps1 d.t_ d.when d.clock d.budget d.last d.top).when) ((za.mk d.kind d.most t_.2 d.heaps0 d.heaps1 d.t_ d.when d.clock d.budget d.last d.top).clock) ((za.mk d.kind d.most t_.2 d.heaps0 d.heaps1 d.t_ d.when d.clock d.budget d.last d.top).budget) ((za.mk d.kind d.most t_.2 d.heaps0 d.heaps1 d.t_ d.when d.clock d.budget d.last d.top).last) ((za.mk d.kind d.most t_.2 d.heaps0 d.heaps1 d.t_ d.when d.clock d.budget d.last d.top).top)))).bind fun s =>
 (bif s.1 then
  (y6 28).bind fun t =>
  some (t, s.2)
 else
  (yh k s.2.q (yk.mk 4 0 x (zf.mk 0 0) (zf.mk 0 0) 0)).bind fun i =>
  (rN s.2.t_ i.1.Item).bind fun j =>
  (xf (za.mk s.2.kind s.2.most i.2 s.2.heaps0 s.2.heaps1 s.2.t_ s.2.when s.2.clock s.2.budget s.2.last s.2.top) j.1).bind fun e =>
  some (zu.mk e.1.Why j.1 e.1.Time e.1.Data e.1.N, e.2))
def y8 (x1 : Int) (m_ : zg) : Nat -> (List zf) -> Int -> Option ((List zf))
 | 0, _, _ => none
 | m + 1, out, x =>
  (bif decide (x < x1) then
   ((mIdx m_.l x).bind fun x2 =>
   (bif x2.taken then
    (mApp out ([zf.mk x x2.gen] : List zf)).bind fun l =>
    some l
   else
    some out)).bind fun s1 =>
   y8 x1 m_ m s1 (w64 (x + 1))
  else
   some out)
def xr (k : Nat) (p : zg) : Option ((List zf)) :=
 (y8 (p.l.length : Int) p k ([] : List zf) 0).bind fun s =>
 some s
def wz (e : Int) (j : Int) (x1 : Int) (l : List zf) : Nat -> Int -> Int -> zn -> Option (Int × zn)
 | 0, _, _, _ => none
 | m + 1, n, x, m_ =>
  (bif decide (x < x1) then
   ((mIdx l x).bind fun x2 =>
   (yx m_.p x2).bind fun i =>
   (bif i.1.Queue == e then
    (xt m_.p x2 (zz.mk j i.1.Time i.1.Data i.1.Item)).bind fun t =>
    some (w64 (n + 1), zn.mk t.2 m_.by_)
   else
    some (n, m_))).bind fun s1 =>
   wz e j x1 l m s1.1 (w64 (x + 1)) s1.2
  else
   some (n, m_))
def tU (k : Nat) (t_ : zn) (from_ : Int) (to : Int) : Option (Int × zn) :=
 (xr k t_.p).bind fun e =>
 (wz from_ to (e.length : Int) e k 0 0 t_).bind fun s =>
 some (s.1, s.2)
def wg (k : Nat) (d : za) : Option (zu × za) :=
 (yh k d.q (yk.mk 7 0 d.heaps0 d.heaps1 (zf.mk 0 0) 0)).bind fun t_ =>
 (yh k t_.2 (yk.mk 1 d.kind (zf.mk 0 0) (zf.mk 0 0) (zf.mk 0 0) 0)).bind fun e =>
 (tU k d.t_ 1 0).bind fun i =>
 some (zu.mk 0 (zf.mk 0 0) 0 0 i.1, za.mk d.kind d.most e.2 d.heaps0 e.1.Heap i.2 d.when d.clock d.budget d.last d.top)
def xW (e : Int) (x1 : Int) (m_ : zn) (l : List zf) : Nat -> Int -> Int -> Option (Int)
 | 0, _, _ => none
 | m + 1, n, x =>
  (bif decide (x < x1) then
   ((mIdx l x).bind fun x2 =>
   (yx m_.p x2).bind fun i =>
   (bif i.1.Queue == e then
    some (w64 (n + 1))
   else
    some n)).bind fun s1 =>
   xW e x1 m_ l m s1 (w64 (x + 1))
  else
   some n)
def ur (k : Nat) (t_ : zn) (queue : Int) : Option (Int) :=
 (xr k t_.p).bind fun e =>
 (xW queue (e.length : Int) t_ e k 0 0).bind fun s =>
 some s
def wG (k : Nat) (d : za) (e : zw) : Option (zu × za) :=
 (((bif e.Kind == 1 then
  some (e.Kind == 1)
 else
  (bif e.Kind == 5 then
   some (e.Kind == 5)
  else
   (bif e.Kind == 6 then
    some (e.Kind == 6)
   else
    some (e.Kind == 7))))).bind fun s2 =>
 (bif s2 then
  (bif !((decide (e.Queue >= 0)) && (decide (e.Queue < 2))) then
   (y6 1).bind fun t_ =>
   some (.inl (t_, d))
  else
   some (.inr ()))
 else
  some (.inr ())) : Option ((zu × za) ⊕ (Unit))).bind fun s =>
 match s with
 | .inl F => some F
 | .inr s1 =>
  (bif e.Kind == 1 then
   (xH k d e).bind fun j =>
   some (j.1, j.2)
  else
   (bif e.Kind == 2 then
    (xL k d e).bind fun l =>
    some (l.1, l.2)
   else
    (bif e.Kind == 3 then
     (xO k d e.Job).bind fun t =>
     some (t.1, t.2)
    else
     (bif e.Kind == 4 then
      (sU d.clock e.Time).bind fun i =>
      (bif i.1 != 0 then
       (y6 i.1).bind fun A =>
       some (A, za.mk d.kind d.most d.q d.heaps0 d.heaps1 d.t_ d.when i.2 d.budget d.last d.top)
      else
       (vY i.2).bind fun B =>
       some (zu.mk 0 (zf.mk 0 0) B 0 0, za.mk d.kind d.most d.q d.heaps0 d.heaps1 d.t_ d.when i.2 d.budget d.last d.top))
     else
      (bif e.Kind == 5 then
       (wE k d e.Queue).bind fun u =>
       some (u.1, u.2)
      else
       (bif e.Kind == 6 then
        (bif e.Queue == 0 then
         (y6 25).bind fun D =>
         some (D, d)
        else
         (wg k d).bind fun x =>
         some (x.1, x.2))
       else
        (bif e.Kind == 7 then
         (ur k d.t_ e.Queue).bind fun y =>
         some (zu.mk 0 (zf.mk 0 0) 0 0 y, d)
        else
         (y6 12).bind fun z =>
         some (z, d))))))))
def yr (k : Nat) (d : za) (l : zw) : Option (zu × za) :=
 (tZ d.q).bind fun t_ =>
 (wG k d l).bind fun e =>
 (tZ e.2.q).bind fun i =>
 (bif decide (w64 (i - t_) > e.2.budget) then
  (y6 29).bind fun j =>
  some (j, za.mk e.2.kind e.2.most e.2.q e.2.heaps0 e.2.heaps1 e.2.t_ e.2.when e.2.clock e.2.budget (w64 (i - t_)) (if w64 (i - t_) > e.2.top then w64 (i - t_) else e.2.top))
 else
  some (e.1, za.mk e.2.kind e.2.most e.2.q e.2.heaps0 e.2.heaps1 e.2.t_ e.2.when e.2.clock e.2.budget (w64 (i - t_)) (if w64 (i - t_) > e.2.top then w64 (i - t_) else e.2.top)))
def xi (p : zk) (v_ : Int) : Option (zf × Bool × zk) :=
 ((bif decide ((p.Back.length : Int) > 0) then
  (mIdx p.Back (w64 ((p.Back.length : Int) - 1))).bind fun x =>
  (mCut p.Back 0 (w64 ((p.Back.length : Int) - 1))).bind fun l =>
  some (.inr (x, zk.mk p.Most p.Gens p.In p.V l))
 else
  (bif decide ((p.Gens.length : Int) >= p.Most) then
   some (.inl (zf.mk 0 0, false, p))
  else
   (mApp p.Gens ([0] : List Int)).bind fun l1 =>
   (mApp p.In ([false] : List Bool)).bind fun l2 =>
   (mApp p.V ([0] : List Int)).bind fun e =>
   some (.inr ((p.Gens.length : Int), zk.mk p.Most l1 l2 e p.Back)))) : Option ((zf × Bool × zk) ⊕ (Int × zk))).bind fun s =>
 match s with
 | .inl i => some i
 | .inr s1 =>
  (mIdx s1.2.Gens s1.1).bind fun x1 =>
  (mIdx s1.2.Gens s1.1).bind fun x2 =>
  (mIdx s1.2.In s1.1).bind fun x3 =>
  (mIdx s1.2.V s1.1).bind fun x4 =>
  (mIdx (mSet s1.2.Gens s1.1 (w64 (x1 + 1))) s1.1).bind fun x5 =>
  some (zf.mk s1.1 x5, true, zk.mk s1.2.Most (mSet s1.2.Gens s1.1 (w64 (x1 + 1))) (mSet s1.2.In s1.1 true) (mSet s1.2.V s1.1 v_) s1.2.Back)
def wF (a_ : zi) (b : zi) : Option (Bool) :=
 some ((decide (a_.Key < b.Key)) || ((a_.Key == b.Key) && (decide (a_.Serial < b.Serial))))
def yo (e : Int) (m_ : zd) : Nat -> Int -> Int -> Option (Int)
 | 0, _, _ => none
 | m + 1, k_, i =>
  (bif decide (i < (m_.L.length : Int)) then
   (((mIdx m_.L i).bind fun x2 =>
   (bif x2.Queue == e then
    (bif decide (k_ < 0) then
     some true
    else
     (mIdx m_.L i).bind fun x3 =>
     (mIdx m_.L k_).bind fun x4 =>
     (wF x3.E x4.E).bind fun t_ =>
     some t_)
   else
    some false)).bind fun s2 =>
   (bif s2 then
    some i
   else
    some k_)).bind fun s1 =>
   yo e m_ m s1 (w64 (i + 1))
  else
   some k_)
def xB (k : Nat) (d : zd) (queue : Int) : Option (Int) :=
 (yo queue d k (-1) 0).bind fun s =>
 some s
def wu (p : zk) (r : zf) : Option (Int) :=
 ((bif decide (r.At < 0) then
  some true
 else
  (bif decide (r.At >= (p.Gens.length : Int)) then
   some true
  else
   (bif decide (r.Gen < 1) then
    some true
   else
    (mIdx p.Gens r.At).bind fun x1 =>
    some (decide (r.Gen > x1)))))).bind fun s =>
 (bif s then
  some 22
 else
  ((mIdx p.Gens r.At).bind fun x4 =>
  (bif decide (r.Gen < x4) then
   some true
  else
   (mIdx p.In r.At).bind fun x5 =>
   some (!x5))).bind fun s1 =>
  (bif s1 then
   some 23
  else
   some 0))
def w5 (p : zk) (r : zf) : Option (Int × Int × zk) :=
 (wu p r).bind fun t_ =>
 (bif t_ != 0 then
  some (0, t_, p)
 else
  (mIdx p.In r.At).bind fun x =>
  (mApp ([] : List Int) p.Back).bind fun l =>
  (mApp l ([r.At] : List Int)).bind fun l1 =>
  (mIdx ((zk.mk p.Most p.Gens (mSet p.In r.At false) p.V l1).V) r.At).bind fun x1 =>
  some (x1, 0, (zk.mk p.Most p.Gens (mSet p.In r.At false) p.V l1)))
def xh (d : zd) (k_ : Int) : Option (zC × zd) :=
 (mIdx d.L k_).bind fun x =>
 (mCut d.L 0 k_).bind fun l =>
 (mCut d.L (w64 (k_ + 1)) (d.L.length : Int)).bind fun l1 =>
 (mApp ([] : List zC) l).bind fun l2 =>
 (mApp l2 l1).bind fun e =>
 (w5 d.Pool x.R).bind fun t_ =>
 some (x, zd.mk d.Most d.Now d.Next t_.2.2 e)
def yz (e : Int) (m_ : zd) : Nat -> Int -> Int -> Option (Int)
 | 0, _, _ => none
 | m + 1, n, i =>
  (bif decide (i < (m_.L.length : Int)) then
   ((mIdx m_.L i).bind fun x =>
   (bif x.Queue == e then
    some (w64 (n + 1))
   else
    some n)).bind fun s1 =>
   yz e m_ m s1 (w64 (i + 1))
  else
   some n)
def xx (k : Nat) (d : zd) (queue : Int) : Option (Int) :=
 (yz queue d k 0 0).bind fun s =>
 some s
def yA : Nat -> Int -> Int -> zd -> Option (Int × zd)
 | 0, _, _, _ => none
 | m + 1, n, i, m_ =>
  (bif decide (i < (m_.L.length : Int)) then
   ((mIdx m_.L i).bind fun x2 =>
   (bif x2.Queue == 1 then
    (mIdx m_.L i).bind fun x3 =>
    some (w64 (n + 1), zd.mk m_.Most m_.Now m_.Next m_.Pool (mSet m_.L i (zC.mk 0 x3.Data x3.E x3.R)))
   else
    some (n, m_))).bind fun s2 =>
   yA m s2.1 (w64 (i + 1)) s2.2
  else
   some (n, m_))
def z8 (k : Nat) (d : zd) (e : zw) : Option (zu × zd) :=
 (bif e.Kind == 1 then
  (xi d.Pool 0).bind fun t_ =>
  (bif !t_.2.1 then
   some (zu.mk 13 (zf.mk 0 0) 0 0 0, zd.mk d.Most d.Now d.Next t_.2.2 d.L)
  else
   (mApp ([] : List zC) d.L).bind fun l =>
   (mApp l ([zC.mk e.Queue e.Data (zi.mk e.Time d.Next) t_.1] : List zC)).bind fun l1 =>
   some (zu.mk 0 t_.1 e.Time e.Data 0, zd.mk ((zd.mk d.Most d.Now d.Next t_.2.2 l1).Most) ((zd.mk d.Most d.Now d.Next t_.2.2 l1).Now) (w64 (((zd.mk d.Most d.Now d.Next t_.2.2 l1).Next) + 1)) ((zd.mk d.Most d.Now d.Next t_.2.2 l1).Pool) ((zd.mk d.Most d.Now d.Next t_.2.2 l1).L)))
 else
  (bif e.Kind == 5 then
   (xB k d e.Queue).bind fun j =>
   ((bif decide (j < 0) then
    some true
   else
    (mIdx d.L j).bind fun x1 =>
    some (decide (x1.E.Key > d.Now)))).bind fun s =>
   (bif s then
    some (zu.mk 28 (zf.mk 0 0) 0 0 0, d)
   else
    (xh d j).bind fun i =>
    some (zu.mk 0 i.1.R i.1.E.Key i.1.Data 0, i.2))
  else
   (bif e.Kind == 6 then
    (bif e.Queue == 0 then
     some (zu.mk 25 (zf.mk 0 0) 0 0 0, d)
    else
     (yA k 0 0 d).bind fun s1 =>
     some (zu.mk 0 (zf.mk 0 0) 0 0 s1.1, s1.2))
   else
    (xx k d e.Queue).bind fun t =>
    some (zu.mk 0 (zf.mk 0 0) 0 0 t, d))))
def yN (v_ : Int) (e : Int) (m_ : zd) : Nat -> Int -> Option ((Int × zd) ⊕ (Unit))
 | 0, _ => none
 | m + 1, i =>
  (bif decide (i < (m_.L.length : Int)) then
   (mIdx m_.L i).bind fun x =>
   (bif zf.eq x.R (zf.mk v_ e) then
    some (.inl (i, m_))
   else
    yN v_ e m_ m (w64 (i + 1)))
  else
   some (.inr ()))
def xN (k : Nat) (d : zd) (r : zf) : Option (Int × zd) :=
 (yN r.At r.Gen d k 0).bind fun s =>
 match s with
 | .inl e => some e
 | .inr s1 =>
  some ((-1), d)
def uQ (a_ : Int) (b : Int) : Option (Int) :=
 (bif (decide (a_ > 0)) && (decide (b > w64 (9223372036854775807 - a_))) then
  some 9223372036854775807
 else
  (bif (decide (a_ < 0)) && (decide (b < w64 ((-9223372036854775808) - a_))) then
   some (-9223372036854775808)
  else
   some (w64 (a_ + b))))
def zL (k : Nat) (d : zd) (i : zw) : Option (zu × zd) :=
 (((bif i.Kind == 1 then
  some (i.Kind == 1)
 else
  (bif i.Kind == 5 then
   some (i.Kind == 5)
  else
   (bif i.Kind == 6 then
    some (i.Kind == 6)
   else
    some (i.Kind == 7))))).bind fun s2 =>
 (bif s2 then
  (bif (i.Queue != 0) && (i.Queue != 1) then
   some (.inl (zu.mk 1 (zf.mk 0 0) 0 0 0, d))
  else
   (z8 k d i).bind fun t_ =>
   some (.inl (t_.1, t_.2)))
 else
  ((bif i.Kind == 2 then
   some (i.Kind == 2)
  else
   some (i.Kind == 3))).bind fun u =>
  (bif u then
   (wu d.Pool i.Job).bind fun l =>
   (bif l != 0 then
    some (.inl (zu.mk l (zf.mk 0 0) 0 0 0, d))
   else
    (xN k d i.Job).bind fun e =>
    (bif i.Kind == 3 then
     (xh e.2 e.1).bind fun j =>
     some (.inl (zu.mk 0 (zf.mk 0 0) j.1.E.Key j.1.Data 0, j.2))
    else
     (mIdx e.2.L e.1).bind fun x =>
     (bif decide (i.Time > x.E.Key) then
      some (.inl (zu.mk 26 (zf.mk 0 0) 0 0 0, e.2))
     else
      (mIdx e.2.L e.1).bind fun x1 =>
      (mIdx (mSet e.2.L e.1 (zC.mk x1.Queue x1.Data (zi.mk i.Time x1.E.Serial) x1.R)) e.1).bind fun x2 =>
      some (.inl (zu.mk 0 (zf.mk 0 0) i.Time x2.Data 0, zd.mk e.2.Most e.2.Now e.2.Next e.2.Pool (mSet e.2.L e.1 (zC.mk x1.Queue x1.Data (zi.mk i.Time x1.E.Serial) x1.R)))))))
  else
   (bif i.Kind == 4 then
    (bif decide (i.Time < 0) then
     some (.inl (zu.mk 1 (zf.mk 0 0) 0 0 0, d))
    else
     (uQ d.Now i.Time).bind fun t =>
     some (.inl (zu.mk 0 (zf.mk 0 0) t 0 0, zd.mk d.Most t d.Next d.Pool d.L)))
   else
    some (.inr ())))) : Option ((zu × zd) ⊕ (Unit))).bind fun s =>
 match s with
 | .inl y => some y
 | .inr s1 =>
  some (zu.mk 12 (zf.mk 0 0) 0 0 0, d)
def yW (d : za) : Option (Int) :=
 some d.last
def yM (d : za) : Option (Int) :=
 some d.budget
def wB (d : za) : Option (Int) :=
 some d.top
def xm (d : za) : Option (Int) :=
 (vY d.clock).bind fun t_ =>
 some t_
def zM (d : za) : Option (Int) :=
 (we d.t_).bind fun t_ =>
 some t_
def uf (k : Nat) (t_ : zn) : Option ((List zf)) :=
 (xr k t_.p).bind fun e =>
 some e
def y0 (e : Int) (x1 : Int) (m_ : za) (l : List zf) : Nat -> Int -> Int -> Option (Int)
 | 0, _, _ => none
 | m + 1, n, x =>
  (bif decide (x < x1) then
   ((mIdx l x).bind fun x2 =>
   (xw m_.t_ x2).bind fun i =>
   ((bif i.1.Queue == e then
    (vS m_.clock i.1.Time).bind fun j =>
    some j
   else
    some false)).bind fun s2 =>
   (bif s2 then
    some (w64 (n + 1))
   else
    some n)).bind fun s1 =>
   y0 e x1 m_ l m s1 (w64 (x + 1))
  else
   some n)
def yQ (k : Nat) (d : za) (queue : Int) : Option (Int) :=
 (uf k d.t_).bind fun t_ =>
 (y0 queue (t_.length : Int) d t_ k 0 0).bind fun s =>
 some s
def vp (x : zF) (jobs : List zf) : Option (zw) :=
 (bif (Int.tmod x.Job 16) == 15 then
  some x.Raw
 else
  (yG x.Kind 0 1048576).bind fun t_ =>
  (mIdx ([1, 1, 1, 2, 3, 4, 5, 5, 5, 6, 7] : List Int) (Int.tmod t_ 11)).bind fun x1 =>
  (yG x.Queue 0 1048576).bind fun e =>
  ((bif (Int.tmod x.Data 4) != 0 then
   some (Int.tmod ((zw.mk x1 (Int.tmod e 2) (zf.mk 0 0) x.Time x.Data).Time) 30)
  else
   some ((zw.mk x1 (Int.tmod e 2) (zf.mk 0 0) x.Time x.Data).Time))).bind fun s =>
  ((bif decide ((jobs.length : Int) > 0) then
   (yG x.Job 0 (w64 ((jobs.length : Int) - 1))).bind fun i =>
   (mIdx jobs i).bind fun x2 =>
   some (x2.At, x2.Gen)
  else
   some (((zw.mk x1 (Int.tmod e 2) (zf.mk 0 0) x.Time x.Data).Job).At, ((zw.mk x1 (Int.tmod e 2) (zf.mk 0 0) x.Time x.Data).Job).Gen))).bind fun s1 =>
  some (zw.mk ((zw.mk x1 (Int.tmod e 2) (zf.mk 0 0) x.Time x.Data).Kind) ((zw.mk x1 (Int.tmod e 2) (zf.mk 0 0) x.Time x.Data).Queue) (zf.mk s1.1 s1.2) s ((zw.mk x1 (Int.tmod e 2) (zf.mk 0 0) x.Time x.Data).Data)))
def yY (e : Int) (m_ : zd) : Nat -> Int -> Int -> Option (Int)
 | 0, _, _ => none
 | m + 1, n, i =>
  (bif decide (i < (m_.L.length : Int)) then
   (((mIdx m_.L i).bind fun x2 =>
   (bif x2.Queue == e then
    (mIdx m_.L i).bind fun x3 =>
    some (decide (x3.E.Key <= m_.Now))
   else
    some false)).bind fun s2 =>
   (bif s2 then
    some (w64 (n + 1))
   else
    some n)).bind fun s1 =>
   yY e m_ m s1 (w64 (i + 1))
  else
   some n)
def xj (k : Nat) (d : zd) (queue : Int) : Option (Int) :=
 (yY queue d k 0 0).bind fun s =>
 some s
def z7 (i : Int) (l : Int) (i1 : Int) : Nat -> Int -> (List zi) -> Option ((List zi))
 | 0, _, _ => none
 | m + 1, j, e =>
  ((bif decide (j > i) then
   (mIdx e j).bind fun x1 =>
   (mIdx e (w64 (j - 1))).bind fun x2 =>
   (xY m x1 x2).bind fun t_ =>
   some (decide (t_ < 0))
  else
   some false)).bind fun s2 =>
  (bif s2 then
   (mIdx e (w64 (j - 1))).bind fun x3 =>
   (mIdx e j).bind fun x4 =>
   (mIdx e j).bind fun x5 =>
   (mIdx (mSet e j x3) (w64 (j - 1))).bind fun x6 =>
   z7 i l i1 m (w64 (j - 1)) (mSet (mSet e j x3) (w64 (j - 1)) x4)
  else
   some e)
def zP (e : Int) (j : Int) : Nat -> Int -> (List zi) -> Option ((List zi))
 | 0, _, _ => none
 | m + 1, i, m_ =>
  (bif decide (i < j) then
   (z7 e j i m i m_).bind fun s1 =>
   zP e j m (w64 (i + 1)) s1
  else
   some m_)
def yq (k : Nat) (data : List zi) (a_ : Int) (b : Int) : Option ((List zi)) :=
 (zP a_ b k (w64 (a_ + 1)) data).bind fun s =>
 (uo s.length data.length).bind fun u =>
 some s
def yf (e : Int) (j : Int) (l : Int) : Nat -> Int -> (List zi) -> Option ((List zi))
 | 0, _, _ => none
 | m + 1, i, m_ =>
  (bif decide (i < l) then
   (mIdx m_ (w64 (j + i))).bind fun x =>
   (mIdx m_ (w64 (e + i))).bind fun x1 =>
   (mIdx m_ (w64 (e + i))).bind fun x2 =>
   (mIdx (mSet m_ (w64 (e + i)) x) (w64 (j + i))).bind fun x3 =>
   yf e j l m (w64 (i + 1)) (mSet (mSet m_ (w64 (e + i)) x) (w64 (j + i)) x1)
  else
   some m_)
def yj (k : Nat) (data : List zi) (a_ : Int) (b : Int) (n : Int) : Option ((List zi)) :=
 (yf a_ b n k 0 data).bind fun s =>
 (uo s.length data.length).bind fun u =>
 some s
def yi (e : Int) : Nat -> Int -> Int -> (List zi) -> Option (Int × (List zi))
 | 0, _, _, _ => none
 | m + 1, i, j, l =>
  (bif i != j then
   (bif decide (i > j) then
    (yj m l (w64 (e - i)) e j).bind fun t_ =>
    yi e m (w64 (i - j)) j t_
   else
    (yj m l (w64 (e - i)) (w64 ((w64 (e + j)) - i)) i).bind fun t =>
    yi e m i (w64 (j - i)) t)
  else
   some (i, l))
def yK (k : Nat) (data : List zi) (a_ : Int) (m_ : Int) (b : Int) : Option ((List zi)) :=
 (yi m_ k (w64 (m_ - a_)) (w64 (b - m_)) data).bind fun s =>
 (yj k s.2 (w64 (m_ - s.1)) m_ s.1).bind fun e =>
 (uo e.length data.length).bind fun u =>
 some e
def zR (e : (List zi) -> Int -> Int -> Int -> Option ((List zi))) (t : Int) (l : List zi) : Nat -> Int -> Int -> Option (Int)
 | 0, _, _ => none
 | m + 1, i, j =>
  (bif decide (i < j) then
   (mIdx l (w64 (Int.fdiv (IntKind.wrap .u64 (w64 (i + j))) (2 ^ (min (Int.toNat 1) 64))))).bind fun x =>
   (mIdx l t).bind fun x1 =>
   (xY m x x1).bind fun t_ =>
   (bif decide (t_ < 0) then
    zR e t l m (w64 ((w64 (Int.fdiv (IntKind.wrap .u64 (w64 (i + j))) (2 ^ (min (Int.toNat 1) 64)))) + 1)) j
   else
    zR e t l m i (w64 (Int.fdiv (IntKind.wrap .u64 (w64 (i + j))) (2 ^ (min (Int.toNat 1) 64)))))
  else
   some i)
def z6 (i : (List zi) -> Int -> Int -> Int -> Option ((List zi))) (i1 : Int) : Nat -> Int -> (List zi) -> Option ((List zi))
 | 0, _, _ => none
 | m + 1, k_, e =>
  (bif decide (k_ < w64 (i1 - 1)) then
   (mIdx e (w64 (k_ + 1))).bind fun x2 =>
   (mIdx e k_).bind fun x3 =>
   (mIdx e k_).bind fun x4 =>
   (mIdx (mSet e k_ x2) (w64 (k_ + 1))).bind fun x5 =>
   z6 i i1 m (w64 (k_ + 1)) (mSet (mSet e k_ x2) (w64 (k_ + 1)) x3)
  else
   some e)
def zQ (e : (List zi) -> Int -> Int -> Int -> Option ((List zi))) (i : Int) (l1 : List zi) : Nat -> Int -> Int -> Option (Int)
 | 0, _, _ => none
 | m + 1, i2, j =>
  (bif decide (i2 < j) then
   (mIdx l1 i).bind fun x6 =>
   (mIdx l1 (w64 (Int.fdiv (IntKind.wrap .u64 (w64 (i2 + j))) (2 ^ (min (Int.toNat 1) 64))))).bind fun x7 =>
   (xY m x6 x7).bind fun l =>
   (bif !(decide (l < 0)) then
    zQ e i l1 m (w64 ((w64 (Int.fdiv (IntKind.wrap .u64 (w64 (i2 + j))) (2 ^ (min (Int.toNat 1) 64)))) + 1)) j
   else
    zQ e i l1 m i2 (w64 (Int.fdiv (IntKind.wrap .u64 (w64 (i2 + j))) (2 ^ (min (Int.toNat 1) 64)))))
  else
   some i2)
def zZ (j : (List zi) -> Int -> Int -> Int -> Option ((List zi))) (i3 : Int) : Nat -> Int -> (List zi) -> Option ((List zi))
 | 0, _, _ => none
 | m + 1, e, i =>
  (bif decide (e > i3) then
   (mIdx i (w64 (e - 1))).bind fun x8 =>
   (mIdx i e).bind fun x9 =>
   (mIdx i e).bind fun x10 =>
   (mIdx (mSet i e x8) (w64 (e - 1))).bind fun x11 =>
   zZ j i3 m (w64 (e - 1)) (mSet (mSet i e x8) (w64 (e - 1)) x9)
  else
   some i)
def zY (e : (List zi) -> Int -> Int -> Int -> Option ((List zi))) (i : Int) (j : Int) (l : Int) (t : Int) (n : Int) (p : Int) (l2 : List zi) : Nat -> Int -> Int -> Option (Int)
 | 0, _, _ => none
 | m + 1, start, r =>
  (bif decide (start < r) then
   (mIdx l2 (w64 (p - (w64 (Int.fdiv (IntKind.wrap .u64 (w64 (start + r))) (2 ^ (min (Int.toNat 1) 64))))))).bind fun x12 =>
   (mIdx l2 (w64 (Int.fdiv (IntKind.wrap .u64 (w64 (start + r))) (2 ^ (min (Int.toNat 1) 64))))).bind fun x13 =>
   (xY m x12 x13).bind fun u =>
   (bif !(decide (u < 0)) then
    zY e i j l t n p l2 m (w64 ((w64 (Int.fdiv (IntKind.wrap .u64 (w64 (start + r))) (2 ^ (min (Int.toNat 1) 64)))) + 1)) r
   else
    zY e i j l t n p l2 m start (w64 (Int.fdiv (IntKind.wrap .u64 (w64 (start + r))) (2 ^ (min (Int.toNat 1) 64)))))
  else
   some start)
def zt : Nat -> (List zi) -> Int -> Int -> Int -> Option ((List zi))
 | 0, _, _, _, _ => none
 | k + 1, data, a_, m_, b =>
  (bif (w64 (m_ - a_)) == 1 then
   (zR (zt k) a_ data k m_ b).bind fun s =>
   (z6 (zt k) s k a_ data).bind fun s1 =>
   (uo s1.length data.length).bind fun u =>
   some s1
  else
   (bif (w64 (b - m_)) == 1 then
    (zQ (zt k) m_ data k a_ m_).bind fun s2 =>
    (zZ (zt k) s2 k m_ data).bind fun x =>
    (uo x.length data.length).bind fun A =>
    some x
   else
    ((bif decide (m_ > w64 (Int.fdiv (IntKind.wrap .u64 (w64 (a_ + b))) (2 ^ (min (Int.toNat 1) 64)))) then
     some (w64 ((w64 ((w64 (Int.fdiv (IntKind.wrap .u64 (w64 (a_ + b))) (2 ^ (min (Int.toNat 1) 64)))) + m_)) - b), w64 (Int.fdiv (IntKind.wrap .u64 (w64 (a_ + b))) (2 ^ (min (Int.toNat 1) 64))))
    else
     some (a_, m_))).bind fun y =>
    (zY (zt k) a_ m_ b (w64 (Int.fdiv (IntKind.wrap .u64 (w64 (a_ + b))) (2 ^ (min (Int.toNat 1) 64)))) (w64 ((w64 (Int.fdiv (IntKind.wrap .u64 (w64 (a_ + b))) (2 ^ (min (Int.toNat 1) 64)))) + m_)) (w64 ((w64 ((w64 (Int.fdiv (IntKind.wrap .u64 (w64 (a_ + b))) (2 ^ (min (Int.toNat 1) 64)))) + m_)) - 1)) data k y.1 y.2).bind fun e =>
    ((bif (decide (e < m_)) && (decide (m_ < w64 ((w64 ((w64 (Int.fdiv (IntKind.wrap .u64 (w64 (a_ + b))) (2 ^ (min (Int.toNat 1) 64)))) + m_)) - e))) then
     (yK k data e m_ (w64 ((w64 ((w64 (Int.fdiv (IntKind.wrap .u64 (w64 (a_ + b))) (2 ^ (min (Int.toNat 1) 64)))) + m_)) - e))).bind fun j =>
     some j
    else
     some data)).bind fun z =>
    ((bif (decide (a_ < e)) && (decide (e < w64 (Int.fdiv (IntKind.wrap .u64 (w64 (a_ + b))) (2 ^ (min (Int.toNat 1) 64))))) then
     ((zt k) z a_ e (w64 (Int.fdiv (IntKind.wrap .u64 (w64 (a_ + b))) (2 ^ (min (Int.toNat 1) 64))))).bind fun l =>
     some l
    else
     some z)).bind fun t =>
    (bif (decide (w64 (Int.fdiv (IntKind.wrap .u64 (w64 (a_ + b))) (2 ^ (min (Int.toNat 1) 64))) < w64 ((w64 ((w64 (Int.fdiv (IntKind.wrap .u64 (w64 (a_ + b))) (2 ^ (min (Int.toNat 1) 64)))) + m_)) - e))) && (decide (w64 ((w64 ((w64 (Int.fdiv (IntKind.wrap .u64 (w64 (a_ + b))) (2 ^ (min (Int.toNat 1) 64)))) + m_)) - e) < b)) then
     ((zt k) t (w64 (Int.fdiv (IntKind.wrap .u64 (w64 (a_ + b))) (2 ^ (min (Int.toNat 1) 64)))) (w64 ((w64 ((w64 (Int.fdiv (IntKind.wrap .u64 (w64 (a_ + b))) (2 ^ (min (Int.toNat 1) 64)))) + m_)) - e)) b).bind fun i =>
     (uo i.length data.length).bind fun B =>
     some i
    else
     (uo t.length data.length).bind fun D =>
     some t)))
def yd (e : Int) : Nat -> Int -> Int -> (List zi) -> Option (Int × (List zi))
 | 0, _, _, _ => none
 | m + 1, a_, b, m_ =>
  (bif decide (b <= e) then
   (yq m m_ a_ b).bind fun t_ =>
   yd e m b (w64 (b + 20)) t_
  else
   some (a_, m_))
def yy (u : Int) (e : Int) : Nat -> Int -> Int -> (List zi) -> Option (Int × (List zi))
 | 0, _, _, _ => none
 | m + 1, i, l, j =>
  (bif decide (l <= u) then
   (zt m j i (w64 (i + e)) l).bind fun t =>
   yy u e m l (w64 (l + (w64 (2 * e)))) t
  else
   some (i, j))
def zV (i : Int) : Nat -> Int -> (List zi) -> Option ((List zi))
 | 0, _, _ => none
 | m + 1, e, j =>
  (bif decide (e < i) then
   (yy i e m 0 (w64 (2 * e)) j).bind fun s2 =>
   ((bif decide (w64 (s2.1 + e) < i) then
    (zt m s2.2 s2.1 (w64 (s2.1 + e)) i).bind fun l =>
    some l
   else
    some s2.2)).bind fun t =>
   zV i m (w64 (e * 2)) t
  else
   some j)
def y7 (k : Nat) (data : List zi) (n : Int) : Option ((List zi)) :=
 (yd n k 0 20 data).bind fun s =>
 (yq k s.2 s.1 n).bind fun e =>
 (zV n k 20 e).bind fun s1 =>
 (uo s1.length data.length).bind fun u =>
 some s1
def xD (k : Nat) (x : List zi) : Option ((List zi)) :=
 (y7 k x (x.length : Int)).bind fun t_ =>
 (uo t_.length x.length).bind fun u =>
 some t_
def qi (k : Nat) (l : List zi) : Option ((List zi)) :=
 (mj l).bind fun t_ =>
 (xD k t_).bind fun e =>
 some e
def yX (e : Int) (x1 : Int) (m_ : za) (l : List zf) : Nat -> (List zi) -> Int -> Option ((List zi))
 | 0, _, _ => none
 | m + 1, out, x =>
  (bif decide (x < x1) then
   ((mIdx l x).bind fun x2 =>
   (xw m_.t_ x2).bind fun i =>
   (bif i.1.Queue == e then
    (rr zf.eq x2 (0 : Int) m_.when).bind fun x3 =>
    (mApp out ([zi.mk i.1.Time x3.1] : List zi)).bind fun l1 =>
    some l1
   else
    some out)).bind fun s1 =>
   yX e x1 m_ l m s1 (w64 (x + 1))
  else
   some out)
def yw (k : Nat) (d : za) (queue : Int) : Option ((List zi)) :=
 (uf k d.t_).bind fun t_ =>
 (yX queue (t_.length : Int) d t_ k ([] : List zi) 0).bind fun s =>
 (qi k s).bind fun e =>
 some e
def wS (i1 : Int) (l2 : List zi) (e : List zi) : Nat -> Int -> Option (Int)
 | 0, _ => none
 | m + 1, k_ =>
  ((bif decide (k_ > 0) then
   (mIdx e i1).bind fun x1 =>
   (mIdx l2 (w64 (k_ - 1))).bind fun x2 =>
   (wF x1 x2).bind fun t_ =>
   some t_
  else
   some false)).bind fun s2 =>
  (bif s2 then
   wS i1 l2 e m (w64 (k_ - 1))
  else
   some k_)
def wT (l1 : List zi) : Nat -> (List zi) -> Int -> Option ((List zi))
 | 0, _, _ => none
 | m + 1, out, i =>
  (bif decide (i < (l1.length : Int)) then
   (wS i out l1 m (out.length : Int)).bind fun s1 =>
   (mCut out 0 s1).bind fun e =>
   (mIdx l1 i).bind fun x3 =>
   (mCut out s1 (out.length : Int)).bind fun j =>
   (mApp ([] : List zi) e).bind fun l =>
   (mApp l ([x3] : List zi)).bind fun t =>
   (mApp t j).bind fun u =>
   wT l1 m u (w64 (i + 1))
  else
   some out)
def tC (k : Nat) (l : List zi) : Option ((List zi)) :=
 (wT l k ([] : List zi) 0).bind fun s =>
 some s
def yV (e : Int) (m_ : zd) : Nat -> (List zi) -> Int -> Option ((List zi))
 | 0, _, _ => none
 | m + 1, out, i =>
  (bif decide (i < (m_.L.length : Int)) then
   ((mIdx m_.L i).bind fun x =>
   (bif x.Queue == e then
    (mIdx m_.L i).bind fun x1 =>
    (mApp out ([x1.E] : List zi)).bind fun l =>
    some l
   else
    some out)).bind fun s1 =>
   yV e m_ m s1 (w64 (i + 1))
  else
   some out)
def xe (k : Nat) (d : zd) (queue : Int) : Option ((List zi)) :=
 (yV queue d k ([] : List zi) 0).bind fun s =>
 (tC k s).bind fun t_ =>
 some t_
def y5 (l : List zi) (l1 : List zi) : Nat -> Int -> Option ((Bool) ⊕ (Unit))
 | 0, _ => none
 | m + 1, i =>
  (bif decide (i < (l.length : Int)) then
   (mIdx l i).bind fun x =>
   (mIdx l1 i).bind fun x1 =>
   (bif !(zi.eq x x1) then
    some (.inl false)
   else
    y5 l l1 m (w64 (i + 1)))
  else
   some (.inr ()))
def xP (k : Nat) (a_ : List zi) (b : List zi) : Option (Bool) :=
 (bif (a_.length : Int) != (b.length : Int) then
  some false
 else
  (y5 a_ b k 0).bind fun s =>
  match s with
  | .inl e => some e
  | .inr s1 =>
   some true)
def wC (k : Nat) (k_ : Int) (jobs : Int) : Option ((Option zc)) :=
 (yG k_ 1 3).bind fun t_ =>
 (yG jobs 1 40).bind fun e =>
 (sF k t_ e).bind fun i =>
 (uW i.1
  (some (none : Option zc))
  (fun m_ =>
  (bif i.2 != 0 then
   some (none : Option zc)
  else
   (ux e).bind fun j =>
   some (some (zc.mk m_ j t_ ([] : List zf))))))
def yl (k : Nat) (i : zc) (j : zw) : Option (Bool × zc) :=
 (yr k i.d j).bind fun t_ =>
 (zL k i.m_ j).bind fun e =>
 ((bif !(zu.eq t_.1 e.1) then
  some (true, zc.mk t_.2 e.2 i.k_ i.told)
 else
  (yW ((zc.mk t_.2 e.2 i.k_ i.told).d)).bind fun t =>
  (bif decide (t < 0) then
   some (true, (zc.mk t_.2 e.2 i.k_ i.told))
  else
   (yW ((zc.mk t_.2 e.2 i.k_ i.told).d)).bind fun u =>
   (yM ((zc.mk t_.2 e.2 i.k_ i.told).d)).bind fun x =>
   (bif decide (u > x) then
    some (true, (zc.mk t_.2 e.2 i.k_ i.told))
   else
    (wB ((zc.mk t_.2 e.2 i.k_ i.told).d)).bind fun y =>
    (yM ((zc.mk t_.2 e.2 i.k_ i.told).d)).bind fun z =>
    (bif decide (y > z) then
     some (true, (zc.mk t_.2 e.2 i.k_ i.told))
    else
     (xm ((zc.mk t_.2 e.2 i.k_ i.told).d)).bind fun A =>
     (bif A != (((zc.mk t_.2 e.2 i.k_ i.told).m_).Now) then
      some (true, zc.mk ((zc.mk t_.2 e.2 i.k_ i.told).d) ((zc.mk t_.2 e.2 i.k_ i.told).m_) ((zc.mk t_.2 e.2 i.k_ i.told).k_) ((zc.mk t_.2 e.2 i.k_ i.told).told))
     else
      (zM ((zc.mk t_.2 e.2 i.k_ i.told).d)).bind fun B =>
      some (B != ((((zc.mk t_.2 e.2 i.k_ i.told).m_).L).length : Int), zc.mk ((zc.mk t_.2 e.2 i.k_ i.told).d) ((zc.mk t_.2 e.2 i.k_ i.told).m_) ((zc.mk t_.2 e.2 i.k_ i.told).k_) ((zc.mk t_.2 e.2 i.k_ i.told).told)))))))).bind fun s =>
 (bif s.1 then
  some (false, s.2)
 else
  ((bif (j.Kind == 1) && (t_.1.Why == 0) then
   (mApp s.2.told ([t_.1.Job] : List zf)).bind fun l =>
   some (zc.mk s.2.d s.2.m_ s.2.k_ l)
  else
   some s.2)).bind fun s1 =>
  some (true, s1))
def wZ (k : Nat)  : Option (Bool) :=
 (wC k 3 4).bind fun t_ =>
 (uW t_
  (some false)
  (fun m_ =>
  ((yl k m_ (zw.mk 1 0 (zf.mk 0 0) 5 9)).bind fun e =>
  (bif !e.1 then
   some (true, e.2)
  else
   (yl k e.2 (zw.mk 5 0 (zf.mk 0 0) 0 0)).bind fun i =>
   (bif !i.1 then
    some (true, i.2)
   else
    (yl k i.2 (zw.mk 4 0 (zf.mk 0 0) 5 0)).bind fun j =>
    some (!j.1, j.2)))).bind fun s =>
  (bif s.1 then
   some false
  else
   (yr k s.2.d (zw.mk 5 0 (zf.mk 0 0) 0 0)).bind fun l =>
   (yr k l.2 (zw.mk 5 0 (zf.mk 0 0) 0 0)).bind fun t =>
   ((bif (s.2.told.length : Int) == 1 then
    (mIdx s.2.told 0).bind fun x1 =>
    (bif zu.eq l.1 (zu.mk 0 x1 5 9 0) then
     (bif t.1.Why == 28 then
      (zM t.2).bind fun u =>
      some (u == 0)
     else
      some false)
    else
     some false)
   else
    some false)).bind fun s1 =>
   some s1)))
def yB (l : Int) (l1 : List zF) : Nat -> Int -> zc -> Option (zc)
 | 0, _, _ => none
 | m + 1, i, e =>
  (bif (decide (i < (l1.length : Int))) && (decide (i < 80)) then
   ((mIdx l1 i).bind fun x =>
   (vp x e.told).bind fun t =>
   (yr m e.d t).bind fun j =>
   (bif (j.1.Why == 0) && (decide (j.1.Job.Gen > 0)) then
    (mApp ((zc.mk j.2 e.m_ e.k_ e.told).told) ([j.1.Job] : List zf)).bind fun l2 =>
    some (zc.mk ((zc.mk j.2 e.m_ e.k_ e.told).d) ((zc.mk j.2 e.m_ e.k_ e.told).m_) ((zc.mk j.2 e.m_ e.k_ e.told).k_) l2)
   else
    some (zc.mk j.2 e.m_ e.k_ e.told))).bind fun s1 =>
   yB l l1 m (w64 (i + 1)) s1
  else
   some e)
def yS (q1 : Int) (p1 : Int) (n : Int) (u : List zF) : Nat -> Int -> Int -> zc -> Option ((Bool) ⊕ (zc))
 | 0, _, _, _ => none
 | m + 1, last, i1, i =>
  (bif decide (i1 < p1) then
   (yr m i.d (zw.mk 5 q1 (zf.mk 0 0) 0 0)).bind fun e =>
   ((bif e.1.Why != 0 then
    some true
   else
    (bif decide (e.1.Time < last) then
     some true
    else
     (xm e.2).bind fun j =>
     (bif decide (e.1.Time > j) then
      some true
     else
      (yW e.2).bind fun l =>
      (yM e.2).bind fun t =>
      some (decide (l > t)))))).bind fun x =>
   (bif x then
    some (.inl false)
   else
    yS q1 p1 n u m e.1.Time (w64 (i1 + 1)) (zc.mk e.2 i.m_ i.k_ i.told))
  else
   some (.inr i))
def xv (k : Nat) (k_ : Int) (jobs : Int) (l : List zF) (queue : Int) : Option (Bool) :=
 (wC k k_ jobs).bind fun t_ =>
 (uW t_
  (some false)
  (fun m_ =>
  (yB queue l k 0 m_).bind fun s =>
  (yG queue 0 1).bind fun j =>
  (yQ k s.d j).bind fun t =>
  (zM s.d).bind fun u =>
  (yS j t u l k (-9223372036854775808) 0 s).bind fun s2 =>
  match s2 with
  | .inl A => some A
  | .inr i =>
   ((yr k i.d (zw.mk 5 j (zf.mk 0 0) 0 0)).bind fun e =>
   (bif e.1.Why == 28 then
    (yQ k e.2 j).bind fun x =>
    (bif x == 0 then
     (zM e.2).bind fun y =>
     (bif y == (w64 (u - t)) then
      (wZ k).bind fun z =>
      some (z, zc.mk e.2 i.m_ i.k_ i.told)
     else
      some (false, zc.mk e.2 i.m_ i.k_ i.told))
    else
     some (false, zc.mk e.2 i.m_ i.k_ i.told))
   else
    some (false, zc.mk e.2 i.m_ i.k_ i.told))).bind fun B =>
   some B.1))
def yI (l : List Int) : Nat -> Int -> zc -> Option ((Bool) ⊕ (zc))
 | 0, _, _ => none
 | m + 1, i, e =>
  (bif (decide (i < (l.length : Int))) && (decide (i < 40)) then
   (mIdx l i).bind fun x =>
   (yl m e (zw.mk 1 (Int.tmod i 2) (zf.mk 0 0) (Int.tmod x 1000) i)).bind fun j =>
   (bif !j.1 then
    some (.inl false)
   else
    yI l m (w64 (i + 1)) j.2)
  else
   some (.inr e))
def yH (n : Int) (l1 : List zi) (l2 : List Int) : Nat -> Int -> zc -> Option ((Bool) ⊕ (zc))
 | 0, _, _ => none
 | m + 1, i1, e =>
  (bif decide (i1 < n) then
   (yr m e.d (zw.mk 5 0 (zf.mk 0 0) 0 0)).bind fun i =>
   ((bif i.1.Why != 0 then
    some true
   else
    (mIdx l1 i1).bind fun x2 =>
    (bif i.1.Time != x2.Key then
     some true
    else
     (mIdx l1 i1).bind fun x3 =>
     some (i.1.Data != x3.Serial)))).bind fun j =>
   (bif j then
    some (.inl false)
   else
    yH n l1 l2 m (w64 (i1 + 1)) (zc.mk i.2 e.m_ e.k_ e.told))
  else
   some (.inr e))
def xk (k : Nat) (k_ : Int) (times : List Int) : Option (Bool) :=
 (wC k k_ 40).bind fun t_ =>
 (uW t_
  (some false)
  (fun m_ =>
  (yI times k 0 m_).bind fun s =>
  match s with
  | .inl t => some t
  | .inr s1 =>
   (zM s1.d).bind fun i =>
   ((yl k s1 (zw.mk 6 1 (zf.mk 0 0) 0 0)).bind fun e =>
   (bif !e.1 then
    some (true, e.2)
   else
    (yw k e.2.d 1).bind fun u =>
    (bif (u.length : Int) != 0 then
     some (true, e.2)
    else
     (yw k e.2.d 0).bind fun x =>
     (bif (x.length : Int) != i then
      some (true, e.2)
     else
      (yl k e.2 (zw.mk 4 0 (zf.mk 0 0) 1000 0)).bind fun j =>
      some (!j.1, j.2))))).bind fun s2 =>
   (bif s2.1 then
    some false
   else
    (yw k s2.2.d 0).bind fun y =>
    (yH i y times k 0 s2.2).bind fun A =>
    match A with
    | .inl t => some t
    | .inr B =>
     ((zM B.d).bind fun z =>
     (bif z == 0 then
      (wZ k).bind fun l =>
      some l
     else
      some false)).bind fun D =>
     some D)))
def uV (k : Nat) (e : zc) : Option (Bool) :=
 ((yw k e.d 0).bind fun t_ =>
 (xe k e.m_ 0).bind fun i =>
 (xP k t_ i).bind fun j =>
 (bif !j then
  some true
 else
  (yQ k e.d 0).bind fun l =>
  (xj k e.m_ 0).bind fun t =>
  some (l != t))).bind fun s =>
 (bif s then
  some false
 else
  ((yw k e.d 1).bind fun u =>
  (xe k e.m_ 1).bind fun x =>
  (xP k u x).bind fun y =>
  (bif !y then
   some true
  else
   (yQ k e.d 1).bind fun z =>
   (xj k e.m_ 1).bind fun A =>
   some (z != A))).bind fun s1 =>
  (bif s1 then
   some false
  else
   some true))
end
end Go.Proofs.YteflmnbkdhneiaaGreat
