import Derived.Below
import Derived.Deep.Slices
import Derived.Deep.Strs
import Derived.Laws.BytesString
import Derived.Laws.Externs
import Derived.Lib.AppendZerosOnto
import Derived.Lib.Overlaps
import Derived.Lib.SmallJoins
import Derived.MapKept
import Derived.Sort.Grow
import Derived.Sort.Row
import Derived.Test.YteflmnbkdhneiaaGreatYv1
set_option linter.unusedVariables false
set_option linter.unusedSimpArgs false
namespace Go.Th
noncomputable section
theorem St.below {w w' : World} {As : List HP} (H : St w As w') (i : Nat) (hi : As[i]? = some (Old w)) : Go.RowKit.Below w.heap.size w w' := by
 have j := H.old i hi;refine ⟨H.os, H.tape, H.output, ?_, j⟩;by_cases hz : w.heap.size = 0
 ·omega
 ·have := j (w.heap.size - 1) (by omega);have e : w.heap[w.heap.size - 1]? = some (w.heap[w.heap.size - 1]'(by omega)) := by simp
  rw [e] at this;have := (Array.getElem?_eq_some_iff.1 this).1;omega
theorem im {α : Type} {p : Nat -> α -> Prop} : ∀ n : Nat, (∀ i, i < n -> ∃ x, p i x) -> ∃ l : List α, l.length = n /\ ∀ (i : Nat) (x : α), l[i]? = some x -> p i x
 | 0, _ => ⟨[], rfl, fun i x h => by simp at h⟩
 | n + 1, h => by
  obtain ⟨l, hl, hp⟩ := im n fun i hi => h i (by omega)
  obtain ⟨x, u⟩ := h n (by omega);refine ⟨l ++ [x], by simp [hl], fun i y e => ?_⟩;by_cases hi : i < n
  ·rw [List.getElem?_append_left (by omega)] at e;exact hp i y e
  ·have j := (List.getElem?_eq_some_iff.1 e).1;simp [hl] at j;have t : i = n := by omega
   subst t;rw [List.getElem?_append_right (by omega)] at e;simp [hl] at e;subst e; exact u
section
variable {α H : Type} {en : TypeId × Value -> H} {P : Program} {w : World} {base : Nat} {spare : Nat -> Bool} {held : Bool} {enc : α -> List Value} {sz : Nat}
theorem Bh (he : wG enc sz) (hs : 0 < sz) {a : Addr} (l : List α) (h : ∀ (j : Nat) (u : Value), (l.flatMap enc)[j]? = some u -> w.cell? (a.add j) = some u) : SlRd (Old w) enc sz (some a) l := by
 intro g D;by_cases hl : l = []
 ·exact .inl hl
 have e := yB he l;have t : 0 < l.length := by cases l with
  | nil => exact absurd rfl hl
  | cons => simp
 have hp : 0 < (l.flatMap enc).length := by rw [e]; exact Nat.mul_pos t hs
 have h0 := h 0 _ (List.getElem?_eq_getElem hp);have e0 : a.add 0 = a := by simp [Addr.add]
 rw [e0] at h0;obtain ⟨b, off, spot⟩ := a;unfold World.cell? at h0;split at h0
 ·rename_i c T fr y;split at h0
  ·cases h0
  ·rename_i z;have A : spot = none := by simpa using z
   subst A;have B : b < w.heap.size := (Array.getElem?_eq_some_iff.1 y).1;refine .inr ⟨b, off, c, T, fr, rfl, by rw [D b B]; exact y, fun i hi => ?_⟩;have x : i < (l.flatMap enc).length := by rw [e]; exact hi
   have F := h i _ (List.getElem?_eq_getElem x);rw [List.getElem?_eq_getElem x, <- F];unfold Addr.add;split
   ·rename_i hz; subst hz; simp [World.cell?, y]
   ·simp [World.cell?, y]
 ·cases h0
theorem fX {t e : TypeId} {fuel : Nat} {cs : List Value} {x : DataW H × List MemPlace} (ht : P.underlying t = some (.slice e)) (W : P.cellsOf e = sz) (he : wG enc sz) (hs : 0 < sz)
  (B : ∀ n cs y, DataW.trod en P w base spare held n e cs = some y -> ∃ z : α, cs = enc z) (h : DataW.trod en P w base spare held fuel t cs = some x) :
  ∃ (sb : Option Addr) (len cap : Nat) (l : List α), cs = [.slice sb len cap] /\ l.length = len /\ len <= cap /\ SlRd (Old w) enc sz sb l := by
 rcases Go.Deep.open_slice ht h with ⟨rfl, _⟩ | ⟨a, len, cap, m, n, D, Z, rfl, hb, hl, hm, I, _, X⟩
 ·exact ⟨none, 0, 0, [], rfl, rfl, Nat.le_refl _, fun _ _ => .inl rfl⟩
 ·obtain ⟨l, J, hp⟩ := im (α := α) (p := fun i z => w.cells? base (a.add (i * sz)) sz = some (enc z)) len fun i hi => by
   obtain ⟨Y, h1, h2⟩ := X i (by rw [I]; split <;> omega);obtain ⟨z, rfl⟩ := B _ _ _ h2;rw [W] at h1;exact ⟨z, h1⟩
  refine ⟨some a, len, cap, l, rfl, J, hl, Bh he hs l fun j u hu => ?_⟩;have F := (List.getElem?_eq_some_iff.1 hu).1;rw [yB he] at F;have hj : j / sz < l.length := Nat.div_lt_of_lt_mul (by rw [Nat.mul_comm]; exact F);have hq : j % sz < sz := Nat.mod_lt _ hs;have S := tg he l (j / sz) (j % sz) hj hq;have U : j / sz * sz + j % sz = j := by rw [Nat.mul_comm]; exact Nat.div_add_mod j sz
  rw [U, hu] at S;have A := hp (j / sz) l[j / sz] (by simp [hj]);obtain ⟨_, _, O⟩ := World.cells?_some A;have := O (j % sz) (by exact hq);rw [<- S] at this;rw [<- this];congr 1;rw [Go.Deep.add_add, U]
end
end
noncomputable section
theorem dP (A X R V : List Value) (h : V.length = X.length) : putAt (A ++ (X ++ R)) A.length V = A ++ (V ++ R) := by
 rw [uq _ _ _ (by simp; omega)];rw [List.take_left' rfl, aA];congr 2;have : A.length + V.length = (A ++ X).length := by simp [h]
 rw [this, <- aA, List.drop_left' rfl]
theorem qv (A X R V : List Value) (n : Nat) (hn : n = A.length) (h : V.length = X.length) : putAt (A ++ (X ++ R)) n V = A ++ (V ++ R) := by
 subst hn; exact dP A X R V h
section
variable {w0 w : World} {As : List HP} {P : Program} {n : Nat} {a : Act} {L : Env} {o : Oper} {T : TypeId}
theorem ag (H : St w0 As w) (i : Nat) {b off : Nat} {cs news : List Value} (hi : As[i]? = some (Blk b T cs)) (h : ∀ (j : Nat) (u : Value), news[j]? = some u -> cs[off + j]? = some u) : Rd w (some ⟨b, off, none⟩) news := by
 refine .inr ⟨_, rfl, fun j u hj => ?_⟩;rw [vZ];exact H.cell i hi (h j u hj)
theorem OpTo.lN {b off i l e j sz : Nat} {F : Option Addr} {cs : List Value} (news : List Value) {x y : Operand} {t u : TypeId} {ti : TypeInfo} (J : yf n a L) (H : St w0 (Blk b T cs :: As) w)
  (O : o.op = .call { callee := .builtin .copy, args := #[x, y], argTypes := #[t, u] }) (U : evO L x = some (.slice (some ⟨b, off, none⟩) i l)) (W : evO L y = some (.slice F e j))
  (ht : P.underlying t = some (.slice T)) (hi : P.info? T = some ti) (I : ti.size = sz) (hr : Rd w F news) (hl : news.length = Nat.min e i * sz) (h1 : ∀ v ∈ news, v.oneCell' = true) (z : off + news.length <= cs.length) :
  OpTo P o a w fun v w' => (∃ k : Int, v = .int .i64 k) /\ St w0 (Blk b T (putAt cs off news) :: As) w' := by
 obtain ⟨dst, op, type, pos, after, guard⟩ := o;simp only at O;subst O;have S := H.one 0 rfl;have A := run_storeCells_at P b off T news 0 cs.toArray w S (by simpa using z) h1;simp only [Nat.add_zero] at A;rw [uq _ _ _ z];have hf := qi (P := P) (size := ti.size) (m := Nat.min e i) (len := e) (cap := j) hr (by rw [hl, I]);have B : (Builtin.copy_ #[t, u] type #[.slice (some ⟨b, off, none⟩) i l, .slice F e j]).run P w = .ok (goInt (Nat.min e i)) (w.setRow b (cs.take off ++ news ++ cs.drop (off + news.length)).toArray) := by
  have D : Sem.run P (storeCells { block := b, off := off } news) w = Result.ok () (w.setRow b (List.take off cs ++ (news ++ List.drop (off + news.length) cs)).toArray) := by simpa using A
  simp [Builtin.copy_, xW P ht, Builtin.lenOf, sv P hi, hf, D]
 refine OpTo.of_run (w' := w.setRow b (cs.take off ++ news ++ cs.drop (off + news.length)).toArray) (v := goInt (Nat.min e i)) ?_ ⟨⟨_, rfl⟩, ?_⟩
 ·simp [execOp, resolve, invoke, builtin, J.eval U, J.eval W, B]
 ·exact H.set (by simp) (by simp) (by simp) (setRow_heap w b _ _ T (0, 0) S) (fun c X => setRow_other w b c _ X)
theorem OpTo.aQ {sz k i j : Nat} {sb : Option Addr} (l : List Value) {x y : Operand} {t F : TypeId} {kn : IntKind} {ti : TypeInfo} {z : Value} (hE : yf n a L) (H : St w0 As w)
  (ho : o.op = .call { callee := .builtin .append, args := #[x, y], argTypes := #[t, F] }) (hx : evO L x = some (.slice sb i j)) (hy : evO L y = some (.int .i64 (k : Int)))
  (ht : P.underlying t = some (.slice T)) (I : P.underlying F = some (.int kn)) (hi : P.info? T = some ti) (u : ti.size = sz) (hz : ti.zero = some z) (J : z.cells.size = sz) (hs : 0 < sz)
  (hr : Rd w sb l) (O : l.length = i * sz) (h0 : 0 < k) (hg : j < i + k) (A : i + k <= 1073741824) (S : Nat.ble ti.bytes 131072 = true) :
  OpTo P o a w fun v w' => ∃ (r c : Nat) (Z : List Value), v = .slice (some ⟨r, 0, none⟩) (i + k) c /\ i + k <= c /\ c <= maxLen /\ Z.length = (c - i) * sz /\ St w0 (Blk r T (l ++ Z) :: As) w' := by
 have B := Nat.le_of_ble_eq_true S;obtain ⟨dst, op, type, pos, after, guard⟩ := o;simp only at ho;subst ho;have U : Rd w.drew sb l := by
  rcases hr with h | ⟨xa, h1, h2⟩
  ·exact .inl h
  ·exact .inr ⟨xa, h1, by simpa using h2⟩
 have W := qi (P := P) (size := ti.size) (m := i) (len := i) (cap := j) U (by rw [O, u]);have X : k * ti.bytes <= 281474976710656 := by
  calc k * ti.bytes <= 1073741824 * 131072 := Nat.mul_le_mul (by omega) B
   _ <= 281474976710656 := by decide
 have Y : Builtin.nextslicecap (i + k) j * ti.bytes <= 281474976710656 := by
  refine growslice_fits (need := i + k) (old := j) (by omega) ?_
  calc (i + k) * ti.bytes <= 1073741824 * 131072 := Nat.mul_le_mul A B
   _ <= 140737488355328 := by decide
 have D := Go.Lib.run_append_grow_zeros (P := P) w t F type T ti z .i64 kn ht I hi hz sb i j l W k h0 (by rw [u]; exact hs) hg (by omega) X Y;have a7 := grownCap_ge w (i + k) j T;have a0 := grownCap_le_maxLen w (i + k) j T (by unfold maxLen; omega);refine OpTo.of_run (w' := w.drew.alloc (.cells (l.toArray ++ Builtin.zeroCells z.cells k ++ Builtin.zeroCells z.cells (grownCap w (i + k) j T - (i + k))) T (0, 0))) ?_
  ⟨w.heap.size, grownCap w (i + k) j T, (Builtin.zeroCells z.cells k ++ Builtin.zeroCells z.cells (grownCap w (i + k) j T - (i + k))).toList, rfl, by omega, a0, ?_, ?_⟩
 ·simp [execOp, resolve, invoke, builtin, hE.eval hx, hE.eval hy, D]
 ·simp only [Array.length_toList, Array.size_append, size_zeroCells, J, <- Nat.add_mul];congr 1; omega
 ·have H2 := (H.drew).alloc (.cells (l.toArray ++ Builtin.zeroCells z.cells k ++ Builtin.zeroCells z.cells (grownCap w (i + k) j T - (i + k))) T (0, 0));refine H2.head fun h hh => ?_
  have e : (l ++ (Builtin.zeroCells z.cells k ++ Builtin.zeroCells z.cells (grownCap w (i + k) j T - (i + k))).toList).toArray = l.toArray ++ Builtin.zeroCells z.cells k ++ Builtin.zeroCells z.cells (grownCap w (i + k) j T - (i + k)) := by
   apply Array.ext';simp [aA]
  show h _ = _;rw [e];exact hh
theorem OpTo.gz {g va vo la ca b off lb cb : Nat} {cv cs : Array Value} {Tv Ts : TypeId} {xs : List Operand} {fn : Func} {tS tR e : TypeId} {ti : TypeInfo} (hE : yf n a L) (H : St w0 As w) (i j : Nat)
  (hi : As[i]? = some (One va (.cells cv Tv (0, 0)))) (hj : As[j]? = some (One b (.cells cs Ts (0, 0)))) (hne : va ≠ b) (hcs : cs.size ≠ 0)
  (ho : callParts o.op = some (.func g, xs)) (hxs : qU L xs = some [.slice (some ⟨va, vo, none⟩) la ca, .slice (some ⟨b, off, none⟩) lb cb])
  (hf : P.funcs[g]? = some fn) (hname : (fn.name == "runtime.NumGoroutine") = false) (hb : fn.body.isNone = true) (hn : Extern.findNext fn = none) (he : Extern.find fn = some (Extern.SlicesOverlaps.overlaps #[tS, tS] #[tR]))
  (ht : P.underlying tS = some (.slice e)) (hz : P.info? e = some ti) : OpTo P o a w fun v w' => v = .bool false /\ w' = w := by
 obtain ⟨dst, op, type, pos, after, guard⟩ := o;cases op <;> simp only [callParts] at ho <;> try cases ho
 rename_i c;obtain ⟨callee, args, ats⟩ := c;cases callee <;> simp only at ho <;> try cases ho
 have h1 := H.one i hi;have h2 := H.one j hj;have hov := Go.Lib.run_overlaps_apart (P := P) w tS tR e ht ti.size (sv P hz) ⟨va, vo, none⟩ ⟨b, off, none⟩ la ca lb cb hne Tv Ts cv.size cs.size (by simp [World.shape?, h1]) (by simp [World.shape?, h2]) hcs (by simp [World.frozen?, h1]) (by simp [World.frozen?, h1]);have hcall := run_callFunc_extern hf hname hb hn he #[.slice (some ⟨va, vo, none⟩) la ca, .slice (some ⟨b, off, none⟩) lb cb] w;rw [hov] at hcall;have e2 := o7 hE _ _ hxs;have e3 : args.map a.eval = #[.slice (some ⟨va, vo, none⟩) la ca, .slice (some ⟨b, off, none⟩) lb cb] := by
  apply Array.ext';simpa using e2
 refine OpTo.of_run (w' := w) (v := .bool false) ?_ ⟨rfl, rfl⟩;have hfe : a.eval (.func g) = .func (.func g) #[] #[] := rfl;simp [execOp, resolve, Deferred.ofValue, hfe, invoke, e3, hcall, Result.andThen]
end
theorem St.ic {α : Type} {T : TypeId} {enc : α -> List Value} {sz : Nat} {w0 w : World} {As : List HP} {sb : Option Addr} {sc : Nat} {l : List α} (H : St w0 (Sl T enc sz sb sc l :: As) w) (he : wG enc sz) (hl : 0 < l.length) :
  ∃ (b off : Nat) (A R : List Value), sb = some ⟨b, off, none⟩ /\ A.length = off /\ l.length <= sc /\ sc <= maxLen /\ (sc - l.length) * sz <= R.length /\ St w0 (Blk b T (A ++ (l.flatMap enc ++ R)) :: As) w := by
 rcases H.kJ with ⟨_, rfl, _⟩ | ⟨b, off, cs, rfl, H1, h1, h2, h3, h4⟩
 ·simp at hl
 ·have j := yB he l;have hmul : l.length * sz <= sc * sz := Nat.mul_le_mul_right _ h1;refine ⟨b, off, cs.toList.take off, cs.toList.drop (off + l.length * sz), rfl, by simp; omega, h1, h2, ?_, ?_⟩
  ·simp only [List.length_drop, Array.length_toList, Nat.sub_mul]; omega
  ·refine H1.head fun h hh => ?_
   have e : cs.toList.take off ++ (l.flatMap enc ++ cs.toList.drop (off + l.length * sz)) = cs.toList := by
    have t : (cs.toList.drop off).take (l.length * sz) = l.flatMap enc := by
     apply List.ext_getElem?;intro i;by_cases hi : i < l.length * sz
     ·rw [List.getElem?_take, if_pos hi, List.getElem?_drop, <- h4 i hi]; simp
     ·rw [List.getElem?_eq_none (by simp; omega), List.getElem?_eq_none (by omega)]
    rw [<- t, <- List.drop_drop, List.take_append_drop, List.take_append_drop]
   show h b = _;rw [e];have : h b = some (.cells cs T (0, 0)) := hh;simpa using this
theorem St.bz {α : Type} {T : TypeId} {enc : α -> List Value} {sz : Nat} {w0 w : World} {As : List HP} {b sc : Nat} {l : List α} {A R : List Value} (H : St w0 (Blk b T (A ++ (l.flatMap enc ++ R)) :: As) w) (he : wG enc sz) (h1 : l.length <= sc) (h2 : sc <= maxLen) (h3 : (sc - l.length) * sz <= R.length) :
  St w0 (Sl T enc sz (some ⟨b, A.length, none⟩) sc l :: As) w := by
 have e := yB he l;have hmul : l.length * sz <= sc * sz := Nat.mul_le_mul_right _ h1;rw [Nat.sub_mul] at h3;refine H.head fun h hh => .inr ⟨b, A.length, _, rfl, hh, h1, h2, by simp [e]; omega, fun i hi => ?_⟩
 simp only [List.getElem?_toArray];rw [List.getElem?_append_right (by omega), Nat.add_sub_cancel_left, List.getElem?_append_left (by rw [e]; exact hi)]
end
end Go.Th
noncomputable section
namespace Go.Th
end Go.Th
end
namespace Go.Th
noncomputable section
section
variable {w0 w : World} {As : List HP} {P : Program} {n : Nat} {a : Act} {L : Env} {o : Oper} {T : TypeId}
end
end
noncomputable section
@[reducible] def catE : Env -> Env -> Env
 | [], L => L
 | p :: r, L => p :: catE r L
def bf : Env -> List Nat
 | [] => []
 | (t, _) :: r => t :: bf r
def hasK (t : Nat) : Env -> Bool
 | [] => false
 | (u, _) :: r => match Nat.beq t u with
  | true => true
  | false => hasK t r
def oF (ops : Array Oper) (new L : Env) : List Nat -> Bool
 | [] => true
 | i :: is => match ops[i]? with
  | none => oF ops new L is
  | some o => match o.dst with
   | none => oF ops new L is
   | some d => match hasK d new with
    | true => oF ops new L is
    | false => match hasK d L with
     | true => false
     | false => oF ops new L is
def segD (P : Program) (n : Nat) (ops : Array Oper) (is : List Nat) (L : Env) (e : List Value) (new : Env) : Option (Env × List Ob) :=
 match oF ops new L is with
 | false => none
 | true => nz P n ops is L e (bf new)
theorem iT : ∀ (new L : Env) (t : Nat) (v : Value), look t (catE new L) = some v -> (look t new = some v) \/ (hasK t new = false /\ look t L = some v)
 | [], L, t, v, h => Or.inr ⟨rfl, h⟩
 | (u, x) :: r, L, t, v, h => by
  rw [catE, w5] at h;split at h
  ·subst_vars
   left
   rw [w5, if_pos rfl]; exact h
  ·rename_i e;rcases iT r L t v h with h1 | ⟨h1, h2⟩
   ·left; rw [w5, if_neg e]; exact h1
   ·right
    refine ⟨?_, h2⟩;simp only [hasK];split
    ·rename_i i; exact absurd (Nat.eq_of_beq_eq_true i) e
    ·exact h1
theorem kj : ∀ (L : Env) (t : Nat) (v : Value), look t L = some v -> hasK t L = true
 | [], t, v, h => by cases h
 | (u, x) :: r, t, v, h => by
  simp only [look] at h;simp only [hasK];split at h
  ·rename_i e; first | rfl | rw [e]
  ·rename_i e; first | exact kj r t v h | (rw [e]; exact kj r t v h)
theorem nS {ops : Array Oper} {new L : Env} : ∀ {is : List Nat}, oF ops new L is = true -> ∀ i ∈ is, ∀ o d, ops[i]? = some o -> o.dst = some d -> hasK d new = true \/ hasK d L = false
 | [], _, i, hi, _, _, _, _ => by cases hi
 | j :: is, h, i, hi, o, d, e, hd => by
  simp only [oF] at h;rcases List.mem_cons.1 hi with rfl | hi
  ·rw [e] at h;simp only [hd] at h;cases h1 : hasK d new
   ·rw [h1] at h;simp only at h;cases h2 : hasK d L
    ·exact Or.inr rfl
    ·rw [h2] at h; cases h
   ·exact Or.inl rfl
  ·have l : oF ops new L is = true := by
    repeat' split at h
    all_goals first | exact h | cases h
   exact nS l i hi o d e hd
theorem kN {n : Nat} {d : Option Tmp} {v : Value} {L i : Env} {t : Nat} (h : setE n d v L = some i) (hd : d ≠ some t) : look t i = look t L := by
 unfold setE at h;split at h
 ·cases h; rfl
 ·split at h
  ·cases h;rw [w5, if_neg (fun e => hd (by rw [e]))]
  ·cases h
theorem oa {P : Program} {n : Nat} {ops : Array Oper} {t : Nat} : ∀ (is : List Nat) (L : Env) (e : List Value) (l : Env) (obs : List Ob), qQ P n ops is L e = some (l, obs) -> (∀ i ∈ is, ∀ o, ops[i]? = some o -> o.dst ≠ some t) -> look t l = look t L
 | [], L, e, l, obs, h, _ => by simp [qQ] at h; rw [h.1]
 | i :: is, L, e, l, obs, h, hd => by
  have u : ∀ j ∈ is, ∀ o, ops[j]? = some o -> o.dst ≠ some t := fun j hj => hd j (mC _ hj)
  rw [qQ] at h;split at h
  ·cases h
  ·rename_i o z;have x := hd i (List.mem_cons_self ..) o z;split at h
   ·cases h
   ·split at h
    ·rename_i L2 hs;rw [oa is L2 e l obs h u, kN hs x]
    ·cases h
   ·split at h
    ·cases h
    ·split at h
     ·cases h
     ·rename_i L2 hs;split at h
      ·rename_i A y h3;cases h;rw [oa is L2 _ _ _ h3 u, kN hs x]
      ·cases h
theorem yf.cat {n : Nat} {a : Act} {e L new : Env} (h : yf n a e) (hs : Th.sel (bf new) e = some new) (hk : ∀ t, hasK t new = false -> hasK t L = true -> look t e = look t L) : yf n a (catE new L) := by
 have h2 := s9 h hs;refine ⟨h.size, h.defers, fun t v hv => ?_⟩;rcases iT new L t v hv with h1 | ⟨h1, h3⟩
 ·exact h2.has t v h1
 ·exact h.has t v (by rw [hk t h1 (kj L t v h3)]; exact h3)
section
variable {P : Program} {f : FuncId} {k : List Item} {a : Act} {w : World} {R : Value -> World -> Prop}
theorem eD {P : Program} {n : Nat} {ops : Array Oper} {is : List Nat} {L new : Env} {j : List Value} {obs : List Ob} (he : segD P n ops is L j new = some (new, obs)) :
  ∃ l, qQ P n ops is L j = some (l, obs) /\ ∀ a : Act, yf n a l -> yf n a (catE new L) := by
 unfold segD at he;split at he
 ·cases he
 ·rename_i hd;unfold nz at he;split at he
  ·cases he
  ·rename_i l x hs;split at he
   ·rename_i y u;cases he;refine ⟨l, hs, fun a ha => ha.cat u fun t h1 h2 => oa is L j l _ hs fun i hi o z e => ?_⟩;rcases nS hd i hi o t z e with h3 | h3
    ·rw [h1] at h3; cases h3
    ·rw [h2] at h3; cases h3
   ·cases he
theorem WR.d {ops : Array Oper} {i n : Nat} {L : Env} (u : yf n a L) (j : Nat) (l : List Value) (new : Env) {obs : List Ob} (x : wj w obs) (hk : ∀ e, yf n e (catE new L) -> WR P f ops j k e w R)
  (hj : (Nat.ble i j && Nat.ble j ops.size) = true := by rfl) (he : segD P n ops (List.range' i (j - i)) L l new = some (new, obs) := by kernel_rfl) : WR P f ops i k a w R := by
 obtain ⟨A, hs, hn⟩ := eD he;simp only [Bool.and_eq_true] at hj;have h1 := Nat.le_of_ble_eq_true hj.1;have h2 := Nat.le_of_ble_eq_true hj.2;unfold WR;have hr : List.range' i (ops.size - i) = List.range' i (j - i) ++ List.range' j (ops.size - j) := by
  have y : ops.size - i = (j - i) + (ops.size - j) := by omega
  have z : i + (j - i) = j := by omega
  rw [y, <- List.range'_append_1, z]
 rw [hr];exact nH _ _ _ _ _ _ u hs x fun e t => hk e (hn e t)
theorem WR.d0 {ops : Array Oper} {i n : Nat} {L : Env} (l : yf n a L) (j : Nat) (new : Env) (hk : ∀ e, yf n e (catE new L) -> WR P f ops j k e w R)
  (hj : (Nat.ble i j && Nat.ble j ops.size) = true := by rfl) (he : segD P n ops (List.range' i (j - i)) L [] new = some (new, []) := by kernel_rfl) : WR P f ops i k a w R := WR.d l j [] new (obs := []) trivial hk hj he
theorem WR.e {ops : Array Oper} {i n : Nat} {L : Env} (u : yf n a L) (j : List Value) (new : Env) {obs : List Ob} (x : wj w obs) (hk : ∀ l, yf n l (catE new L) -> Runs P f k l w R)
  (hj : Nat.ble i ops.size = true := by rfl) (he : segD P n ops (List.range' i (ops.size - i)) L j new = some (new, obs) := by kernel_rfl) : WR P f ops i k a w R :=
 WR.d u ops.size j new x (fun l t => WR.done (Nat.ble_eq_true_of_le (Nat.le_refl _)) (hk l t)) (by rw [hj]; exact Nat.ble_eq_true_of_le (Nat.le_refl _)) he
theorem WR.e0 {ops : Array Oper} {i n : Nat} {L : Env} (l : yf n a L) (new : Env) (hk : ∀ j, yf n j (catE new L) -> Runs P f k j w R)
  (hj : Nat.ble i ops.size = true := by rfl) (he : segD P n ops (List.range' i (ops.size - i)) L [] new = some (new, []) := by kernel_rfl) : WR P f ops i k a w R := WR.e l [] new (obs := []) trivial hk hj he
theorem Runs.sr {id : Nat} {ops : Array Oper} {y : Code} (h : WR P f ops 0 (.code y :: k) a w R) : Runs P f (.code (.seq (.region id ops false) y) :: k) a w R := Runs.seq (Runs.region h)
theorem WQ.d {ops : Array Oper} {dn : List Nat} {pend : List (Nat × List Ob)} {n : Nat} {L : Env} (t : yf n a L) (is : List Nat) (i : List Value) (new : Env) {obs : List Ob} (u : wj w obs)
  (hk : ∀ j, yf n j (catE new L) -> WQ P f ops (dn ++ is) (segP P n ops is L i pend) k j w R)
  (ht : (Nat.ble (dn.length + is.length) ops.size && l9 ops is (vW dn)) = true := by kernel_rfl) (he : segD P n ops is L i new = some (new, obs) := by kernel_rfl) : WQ P f ops dn pend k a w R := by
 obtain ⟨y, hs, hn⟩ := eD he;simp only [Bool.and_eq_true] at ht;have hle := Nat.le_of_ble_eq_true ht.1;have e : ops.size - dn.length = is.length + (ops.size - (dn ++ is).length) := by simp; omega
 unfold WQ;rw [e];intro hs';exact WP.segs hs' _ _ _ _ _ _ _ _ _ _ t (fun x => vG x dn) ht.2 hs u fun j l => hk j (hn j l) hs'
theorem WQ.d0 {ops : Array Oper} {dn : List Nat} {pend : List (Nat × List Ob)} {n : Nat} {L : Env} (i : yf n a L) (is : List Nat) (new : Env)
  (hk : ∀ e, yf n e (catE new L) -> WQ P f ops (dn ++ is) (segP P n ops is L [] pend) k e w R)
  (ht : (Nat.ble (dn.length + is.length) ops.size && l9 ops is (vW dn)) = true := by kernel_rfl) (he : segD P n ops is L [] new = some (new, []) := by kernel_rfl) : WQ P f ops dn pend k a w R := WQ.d i is [] new (obs := []) trivial hk ht he
end
end
noncomputable section
section
variable {α H : Type} {en : TypeId × Value -> H} {P : Program} {w : World} {base : Nat} {spare : Nat -> Bool} {held : Bool} {enc : α -> List Value} {sz : Nat}
end
end
noncomputable section
section
variable {K V : Type}
def mGet (eq : K -> K -> Bool) (k : K) : List (K × V) -> Option V
 | [] => none
 | p :: m => bif eq k p.1 then some p.2 else mGet eq k m
def mPut (eq : K -> K -> Bool) (k : K) (v : V) : List (K × V) -> List (K × V)
 | [] => [(k, v)]
 | p :: m => bif eq k p.1 then (k, v) :: m else p :: mPut eq k v m
def mDel (eq : K -> K -> Bool) (k : K) : List (K × V) -> List (K × V)
 | [] => []
 | p :: m => bif eq k p.1 then m else p :: mDel eq k m
def sS (eq : K -> K -> Bool) (k : K) (z : V) (m : List (K × V)) : Option (V × Bool) := some (match mGet eq k m with
 | some v => (v, true)
 | none => (z, false))
def mAt (eq : K -> K -> Bool) (k : K) : List K -> Nat -> Option Nat
 | [], _ => none
 | a :: ks, i => bif eq k a then some i else mAt eq k ks (i + 1)
theorem fL (eq : K -> K -> Bool) (k : K) : ∀ (ks : List K) (i j : Nat), mAt eq k ks i = some j -> i <= j
 | [], i, j, h => by simp [mAt] at h
 | a :: ks, i, j, h => by
  simp only [mAt] at h;cases he : eq k a <;> simp [he] at h
  ·have := fL eq k ks (i + 1) j h; omega
  ·omega
theorem cr (eq : K -> K -> Bool) (k : K) : ∀ (m : List (K × V)) (i : Nat),
  (mAt eq k (m.map (·.1)) i = none /\ mGet eq k m = none /\ (∀ v, mPut eq k v m = m ++ [(k, v)]) /\ mDel eq k m = m) \/
  ∃ j p, mAt eq k (m.map (·.1)) i = some (i + j) /\ m[j]? = some p /\ eq k p.1 = true /\ mGet eq k m = some p.2 /\ (∀ v, mPut eq k v m = m.set j (k, v)) /\ mDel eq k m = m.eraseIdx j
 | [], i => .inl ⟨rfl, rfl, fun _ => rfl, rfl⟩
 | p :: m, i => by
  cases he : eq k p.1
  ·rcases cr eq k m (i + 1) with ⟨h1, h2, h3, h4⟩ | ⟨j, q, h1, h2, h3, h4, e, l⟩
   ·exact .inl ⟨by simp [mAt, he, h1], by simp [mGet, he, h2], fun v => by simp [mPut, he, h3], by simp [mDel, he, h4]⟩
   ·refine .inr ⟨j + 1, q, ?_, by simpa using h2, h3, by simp [mGet, he, h4], fun v => by simp [mPut, he, e], by simp [mDel, he, l]⟩;simp [mAt, he, h1]; omega
  ·exact .inr ⟨0, p, by simp [mAt, he], rfl, he, by simp [mGet, he], fun v => by simp [mPut, he], by simp [mDel, he]⟩
structure s8 (P : Program) (kt : TypeId) (ek : K -> Value) (eq : K -> K -> Bool) : Prop where
 check : ∀ (w : World) em k, (Instr.checkKey em 10000 kt (ek k)).run P w = .ok () w
 find : ∀ (w : World) k (es : List MapEntry) (ks : List K), es.map (·.key) = ks.map ek -> (Instr.findKey kt (ek k) es).run P w = .ok ((mAt eq k ks 0).bind fun j => (es[j]?).map fun e => (j, e.val)) w
 stays : ∀ (w : World) k, (Instr.keyThatStays (ek k) (ek k)).run P w = .ok (ek k) w
 same : ∀ a b, eq a b = true -> a = b
end
def kI (a b : Int) : Bool := a == b
theorem lu (k : Int) : ∀ (es : List MapEntry) (ks : List Int) (i : Nat), es.map (·.key) = ks.map vI -> Instr.findNow (.int .i64) (vI k) es i = some ((mAt kI k ks i).bind fun j => (es[j - i]?).map fun e => (j, e.val))
 | [], [], i, _ => by simp [Instr.findNow, mAt]
 | [], _ :: _, i, h => by simp at h
 | _ :: _, [], i, h => by simp at h
 | e :: es, a :: ks, i, h => by
  simp only [pC, List.cons.injEq] at h;have ih := lu k es ks (i + 1) h.2;simp only [Instr.findNow, h.1, vI, Instr.sameNow, if_true, mAt, kI];cases hk : (k == a)
  ·simp only [cF];simp only [vI] at ih;rw [ih];cases hm : mAt kI k ks (i + 1) with
   | none => rfl
   | some j =>
    have hj := fL _ _ _ _ _ hm;have l : j - i = (j - (i + 1)) + 1 := by omega
    simp [l]
  ·simp
theorem s8.int {P : Program} {kt : TypeId} (h : P.underlying kt = some (.int .i64)) : s8 P kt vI kI where
 check := fun w em k => Go.MapKept.run_checkKey h (show Go.MapKept.IsKey (.int .i64) (vI k) from rfl) em 9999
 find := fun w k es ks he => Go.MapKept.run_findKey h (by simpa using lu k es ks 0 he)
 stays := fun w k => Go.MapKept.run_keyThatStays (d := .int .i64) (show Go.MapKept.IsKey (.int .i64) (vI k) from rfl)
 same := fun a b h => by simpa [kI] using h
section
variable {K V : Type} {P : Program} {ek : K -> Value} {eq : K -> K -> Bool} {kt : TypeId}
theorem qZ (he : ∀ (w : World) a b, (Op.equal kt (ek a) (ek b)).run P w = .ok (eq a b) w) (w : World) (k : K) : ∀ (es : List MapEntry) (ks : List K) (i : Nat), es.map (·.key) = ks.map ek ->
  (Instr.findAsking kt (ek k) es i).run P w = .ok ((mAt eq k ks i).bind fun j => (es[j - i]?).map fun e => (j, e.val)) w
 | [], [], i, _ => by simp [Instr.findAsking, mAt]
 | [], _ :: _, i, h => by simp at h
 | _ :: _, [], i, h => by simp at h
 | e :: es, a :: ks, i, h => by
  simp only [pC, List.cons.injEq] at h;have ih := qZ he w k es ks (i + 1) h.2;simp only [Instr.findAsking, Sem.run_bind, h.1, he, Result.andThen_ok, mAt];cases hk : eq k a
  ·simp only [cF, Bool.false_eq_true, if_false, ih];cases hm : mAt eq k ks (i + 1) with
   | none => rfl
   | some j =>
    have hj := fL _ _ _ _ _ hm;have l : j - i = (j - (i + 1)) + 1 := by omega
    simp [l]
  ·simp
theorem s8.struct {fs : Array Field} (h : P.underlying kt = some (.struct fs)) (j : ∀ (w : World) em k, (Instr.checkKey em 10000 kt (ek k)).run P w = .ok () w)
  (he : ∀ (w : World) a b, (Op.equal kt (ek a) (ek b)).run P w = .ok (eq a b) w) (hs : ∀ k, Instr.sameBits 10000 (ek k) (ek k) = true) (hq : ∀ a b, eq a b = true -> a = b) : s8 P kt ek eq where
 check := j
 find := fun w k es ks i => by
  have hf := qZ he w k es ks 0 i;have l : (Instr.findKey kt (ek k) es).run P w = (Instr.findAsking kt (ek k) es).run P w := by
   cases es with
   | nil => simp [Instr.findKey, xW P h, Instr.findNow, Instr.findAsking]
   | cons e es => simp [Instr.findKey, xW P h, Instr.findNow, Instr.sameNow]
  rw [l];simpa using hf
 stays := fun w k => by simp [Instr.keyThatStays, hs]
 same := hq
theorem qF {fs : Array Field} {cs : Array Value} (n : Nat) (h : P.underlying kt = some (.struct fs)) (w : World) (em : Bool)
  (hf : ∀ f ∈ fs.toList, f.name ≠ "_" /\ ∃ v, (part f.type cs f.offset).run P w = .ok v w /\ (Instr.checkKey em n f.type v).run P w = .ok () w) : (Instr.checkKey em (n + 1) kt (.agg cs)).run P w = .ok () w := by
 rw [Instr.checkKey];simp only [Sem.run_bind, xW P h, Result.andThen_ok];rw [<- Array.forIn_toList];generalize fs.toList = L at hf;induction L with
 | nil => simp
 | cons f L ih =>
  obtain ⟨hn, v, p1, p2⟩ := hf f (by simp);simp only [List.forIn_cons, Sem.run_bind, hn, ne_eq, not_false_eq_true, if_true, Result.andThen_ok, p1, p2, Sem.run_pure];exact ih fun y hy => hf y (by simp [hy])
theorem rN (n : Nat) (h : P.underlying kt = some (.int .i64)) (w : World) (em : Bool) (x : Int) : (Instr.checkKey em (n + 1) kt (.int .i64 x)).run P w = .ok () w :=
 Go.MapKept.run_checkKey h (show Go.MapKept.IsKey (.int .i64) (.int .i64 x) from rfl) em n
theorem AD {P : Program} {cs : Array Value} {w : World} {em : Bool} {n : Nat} {Ls : List Field} (h : Ls = []) : ∀ f ∈ Ls, f.name ≠ "_" /\ ∃ v, (part f.type cs f.offset).run P w = .ok v w /\ (Instr.checkKey em n f.type v).run P w = .ok () w := by
 subst h; intro f hf; cases hf
theorem dX {P : Program} {cs : Array Value} {w : World} {em : Bool} {n : Nat} {Ls fs : List Field} {f : Field} {v : Value} (hL : Ls = f :: fs) (hn : (f.name == "_") = false) (p : (part f.type cs f.offset).run P w = .ok v w) (c : (Instr.checkKey em n f.type v).run P w = .ok () w)
  (r : ∀ g ∈ fs, g.name ≠ "_" /\ ∃ v, (part g.type cs g.offset).run P w = .ok v w /\ (Instr.checkKey em n g.type v).run P w = .ok () w) : ∀ g ∈ Ls, g.name ≠ "_" /\ ∃ v, (part g.type cs g.offset).run P w = .ok v w /\ (Instr.checkKey em n g.type v).run P w = .ok () w := by
 subst hL; intro g hg;rcases List.mem_cons.1 hg with rfl | hg
 ·exact ⟨by simpa using hn, v, p, c⟩
 ·exact r g hg
def MpA (r : Nat) (ek : K -> Value) (ev : V -> Value) (m : List (K × V)) : HP := fun h => ∃ x : Array MapEntry × Nat, One r (.map x.1 x.2) h /\ x.1.toList.map (fun e => (e.key, e.val)) = m.map fun p => (ek p.1, ev p.2)
variable {ev : V -> Value} {w w0 : World} {As : List HP} {n r : Nat} {L : Env} {o : Oper} {a : Act} {m : List (K × V)} {k : K}
theorem MpA.keys {es : List MapEntry} {m : List (K × V)} (h : es.map (fun e => (e.key, e.val)) = m.map fun p => (ek p.1, ev p.2)) : es.map (·.key) = (m.map (·.1)).map ek := by
 have := congrArg (List.map Prod.fst) h;simp only [List.map_map] at this;rw [List.map_map];exact this
theorem MpA.get {es : List MapEntry} {m : List (K × V)} (h : es.map (fun e => (e.key, e.val)) = m.map fun p => (ek p.1, ev p.2)) {j : Nat} {p : K × V} (hj : m[j]? = some p) : ∃ e, es[j]? = some e /\ e.key = ek p.1 /\ e.val = ev p.2 := by
 have h2 := congrArg (fun l => l[j]?) h;simp only [List.getElem?_map, hj, Option.map_some] at h2;cases he : es[j]? with
 | none => rw [he] at h2; simp at h2
 | some e => rw [he] at h2; simp at h2; exact ⟨e, rfl, h2.1, h2.2⟩
theorem s8.found (hk : s8 P kt ek eq) (w : World) (k : K) {es : List MapEntry} {m : List (K × V)} (h : es.map (fun e => (e.key, e.val)) = m.map fun p => (ek p.1, ev p.2)) :
  ((Instr.findKey kt (ek k) es).run P w = .ok none w /\ mGet eq k m = none /\ (∀ v, mPut eq k v m = m ++ [(k, v)]) /\ mDel eq k m = m) \/
  ∃ j e v, (Instr.findKey kt (ek k) es).run P w = .ok (some (j, ev v)) w /\ es[j]? = some e /\ e.key = ek k /\ mGet eq k m = some v /\ (∀ v, mPut eq k v m = m.set j (k, v)) /\ mDel eq k m = m.eraseIdx j := by
 have hf := hk.find w k es _ (MpA.keys h);rcases cr eq k m 0 with ⟨h1, h2, h3, h4⟩ | ⟨j, p, h1, h2, h3, h4, l, t⟩
 ·left; rw [h1] at hf; exact ⟨hf, h2, h3, h4⟩
 ·right
  obtain ⟨e, i, u, x⟩ := MpA.get h h2;simp only [Nat.zero_add] at h1;rw [h1] at hf;simp only [bS, i, Option.map_some, x] at hf;exact ⟨j, e, p.2, hf, i, by rw [u, hk.same _ _ h3], h4, l, t⟩
theorem OpTo.BR {K V : Type} {w0 w : World} {As : List HP} (ek : K -> Value) (ev : V -> Value) {t : TypeId} (i : yf n a L) (H : St w0 As w) (e : o.op = .makeMap t none) : OpTo P o a w fun v w' => ∃ r : Nat, v = .map (some r) /\ St w0 (MpA r ek ev [] :: As) w' := by
 obtain ⟨dst, op, type, pos, after, guard⟩ := o;simp only at e;subst e;refine OpTo.of_run (w' := { w with heap := w.heap.push (.map #[] 0) }) (v := .map (some w.heap.size)) ?_ ⟨w.heap.size, rfl, ?_⟩
 ·simp [execOp, Instr.makeMap, newObj]
  rfl
 ·exact (H.alloc (.map #[] 0)).head fun h hh => ⟨(#[], 0), hh, by simp⟩
theorem lI {mt t : TypeId} {ti : TypeInfo} {z : V} (H : St w0 As w) (i : Nat) (hi : As[i]? = some (MpA r ek ev m)) (hk : s8 P kt ek eq) (ht : P.underlying mt = some (.map kt t)) (hz : P.info? t = some ti) (u : ti.zero = some (ev z)) (ok : Bool) :
  ∀ {g : V × Bool}, sS eq k z m = some g -> (Instr.lookup mt (.map (some r)) (ek k) ok).run P w = .ok (if ok then .tuple #[ev g.1, .bool g.2] else ev g.1) w := by
 intro g l;obtain ⟨h1, hs, x, hh, B⟩ := H.at i hi;have A : w.heap[r]? = some (.map x.1 x.2) := hs _ _ hh;rcases hk.found w k B with ⟨f1, f2, _, _⟩ | ⟨j, e, v, f1, f2, f3, f4, _, _⟩
 ·have y : (zeroValue t).run P w = .ok (ev z) w := by simp [Go.zeroValue, Go.typeInfo, Sem.run, hz, u]
  simp [Instr.lookup, xW P ht, Go.MapKept.run_getObj_map A, hk.check, f1, y, Result.andThen]; simp [sS, f2] at l; subst l; rfl
 ·simp [Instr.lookup, xW P ht, Go.MapKept.run_getObj_map A, hk.check, f1, Result.andThen]; simp [sS, f4] at l; subst l; rfl
theorem OpTo.AV {mt j : TypeId} {ti : TypeInfo} {z : V} {x y : Operand} (i : Nat) (l : yf n a L) (H : St w0 As w) (hi : As[i]? = some (MpA r ek ev m)) (hk : s8 P kt ek eq) {g : V × Bool} (hl : sS eq k z m = some g) (t : o.op = .lookup mt x y true)
  (ht : P.underlying mt = some (.map kt j)) (hz : P.info? j = some ti) (e : ti.zero = some (ev z)) (u : evO L x = some (.map (some r))) (A : evO L y = some (ek k)) :
  OpTo P o a w fun v w' => v = .tuple #[ev g.1, .bool g.2] /\ w' = w := by
 obtain ⟨dst, op, type, pos, after, guard⟩ := o;simp only at t;subst t;have hl := lI (k := k) H i hi hk ht hz e true hl;exact OpTo.of_run (w' := w) (by simp [execOp, l.eval u, l.eval A, hl]) ⟨rfl, rfl⟩
theorem OpTo.Bz {mt j : TypeId} {ti : TypeInfo} {z : V} {x y : Operand} (i : Nat) (l : yf n a L) (H : St w0 As w) (hi : As[i]? = some (MpA r ek ev m)) (hk : s8 P kt ek eq) {g : V × Bool} (hl : sS eq k z m = some g) (t : o.op = .lookup mt x y false)
  (ht : P.underlying mt = some (.map kt j)) (hz : P.info? j = some ti) (e : ti.zero = some (ev z)) (u : evO L x = some (.map (some r))) (A : evO L y = some (ek k)) :
  OpTo P o a w fun v w' => v = ev g.1 /\ w' = w := by
 obtain ⟨dst, op, type, pos, after, guard⟩ := o;simp only at t;subst t;have hl := lI (k := k) H i hi hk ht hz e false hl;exact OpTo.of_run (w' := w) (by simp [execOp, l.eval u, l.eval A, hl]) ⟨rfl, rfl⟩
theorem pT {α β : Type} (f : α -> β) : ∀ (l : List α) (j : Nat), (l.eraseIdx j).map f = (l.map f).eraseIdx j
 | [], _ => rfl
 | _ :: _, 0 => rfl
 | x :: l, j + 1 => by simp [pT f l j]
theorem St.bE (H : St w0 (MpA r ek ev m :: As) w) : ∃ es i, St w0 (One r (.map es i) :: As) w /\ es.toList.map (fun e => (e.key, e.val)) = m.map fun p => (ek p.1, ev p.2) := by
 obtain ⟨x, H⟩ := H.ex;have j := H.fact fun h hh => hh.2
 exact ⟨x.1, x.2, H.head fun h hh => hh.1, j⟩
theorem St.cw {es i : Array MapEntry} {u j : Nat} {l : List (K × V)} (H : St w0 (One r (.map es u) :: As) w) (he : i.toList.map (fun e => (e.key, e.val)) = l.map fun p => (ek p.1, ev p.2)) :
  St w0 (MpA r ek ev l :: As) { w with heap := w.heap.setIfInBounds r (.map i j) } := by
 have t := H.one 0 rfl;have := H.set (w' := { w with heap := w.heap.setIfInBounds r (.map i j) }) (o' := .map i j) rfl rfl rfl (Go.MapKept.heap_set t).1 (Go.MapKept.heap_set t).2;exact this.head fun h hh => ⟨(i, j), hh, he⟩
def qX : Op -> Option (TypeId × Operand × Operand × Operand)
 | .mapUpdate t m k x => some (t, m, k, x)
 | .insert t m k x => some (t, m, k, x)
 | _ => none
theorem OpTo.Cj {mt F : TypeId} {x y z : Operand} {v : V} (A : yf n a L) (H : St w0 (MpA r ek ev m :: As) w) (hk : s8 P kt ek eq) (D : qX o.op = some (mt, x, y, z))
  (ht : P.underlying mt = some (.map kt F)) (I : evO L x = some (.map (some r))) (J : evO L y = some (ek k)) (hz : evO L z = some (ev v)) : OpTo P o a w fun _ w' => St w0 (MpA r ek ev (mPut eq k v m) :: As) w' := by
 obtain ⟨es, B, H1, he⟩ := H.bE;have u := H1.one 0 rfl;have key : ∃ w', (Instr.mapUpdate mt (.map (some r)) (ek k) (ev v)).run P w = .ok () w' /\ St w0 (MpA r ek ev (mPut eq k v m) :: As) w' := by
  rcases hk.found w k he with ⟨f1, f2, f3, _⟩ | ⟨j, e, O, f1, f2, f3, f4, f5, _⟩
  ·refine ⟨{ w with heap := w.heap.setIfInBounds r (.map (es.push { key := ek k, val := ev v, born := B }) (B + 1)) }, ?_, H1.cw ?_⟩
   ·simp [Instr.mapUpdate, xW P ht, Go.MapKept.run_getObj_map u, hk.check, f1, Go.MapKept.run_setObj_map _ u, Result.andThen]
   ·rw [f3]; simp [he]
  ·have hj : es[j]? = some e := by simpa using f2
   refine ⟨{ w with heap := w.heap.setIfInBounds r (.map (es.modify j fun e => { e with key := ek k, val := ev v }) B) }, ?_, H1.cw ?_⟩
   ·simp [Instr.mapUpdate, xW P ht, Go.MapKept.run_getObj_map u, hk.check, f1, hj, f3, hk.stays, Go.MapKept.run_setObj_map _ u, Result.andThen]
   ·rw [f5];apply List.ext_getElem?;intro i;have hi := congrArg (fun l => l[i]?) he;simp only [List.getElem?_map, Array.getElem?_toList] at hi;simp only [List.getElem?_map, Array.getElem?_toList, Array.getElem?_modify, List.getElem?_set];by_cases t : j = i
    ·subst t;have hl : j < m.length := by
      rw [hj] at hi;cases hm : m[j]? with
      | none => rw [hm] at hi; simp at hi
      | some _ => exact (List.getElem?_eq_some_iff.1 hm).1
     simp [hj, hl]
    ·simp [t, hi]
 obtain ⟨w', h1, h2⟩ := key;obtain ⟨dst, op, type, pos, after, guard⟩ := o;cases op <;> simp only [qX] at D <;> try cases D
 all_goals exact OpTo.ij (w' := w') (by simp [execOp, A.eval I, A.eval J, A.eval hz, h1]) h2
theorem OpTo.BH {mt B : TypeId} {x y : Operand} {ats : Array TypeId} (i : yf n a L) (H : St w0 (MpA r ek ev m :: As) w) (hk : s8 P kt ek eq) (t : o.op = .call { callee := .builtin .delete, args := #[x, y], argTypes := ats }) (ha : ats[0]? = some mt)
  (ht : P.underlying mt = some (.map kt B)) (u : evO L x = some (.map (some r))) (z : evO L y = some (ek k)) : OpTo P o a w fun v w' => v = .tuple #[] /\ St w0 (MpA r ek ev (mDel eq k m) :: As) w' := by
 obtain ⟨es, A, H1, he⟩ := H.bE;have l := H1.one 0 rfl;obtain ⟨dst, op, type, pos, after, guard⟩ := o;simp only at t;subst t;rcases hk.found w k he with ⟨f1, f2, _, f4⟩ | ⟨j, e, D, f1, f2, f3, f4, _, f6⟩
 ·refine OpTo.of_run (w' := { w with heap := w.heap.setIfInBounds r (.map es A) }) (v := .tuple #[]) ?_ ⟨rfl, H1.cw (by rw [f4]; exact he)⟩;simp [execOp, resolve, invoke, builtin, i.eval u, i.eval z, Builtin.delete_, ha, xW P ht, Go.MapKept.run_getObj_map l, hk.check, f1, Go.MapKept.run_setObj_map _ l, Result.andThen]
 ·refine OpTo.of_run (w' := { w with heap := w.heap.setIfInBounds r (.map (es.eraseIdxIfInBounds j) A) }) (v := .tuple #[]) ?_ ⟨rfl, H1.cw ?_⟩
  ·simp [execOp, resolve, invoke, builtin, i.eval u, i.eval z, Builtin.delete_, ha, xW P ht, Go.MapKept.run_getObj_map l, hk.check, f1, Go.MapKept.run_setObj_map _ l, Result.andThen]
  ·rw [f6];have hj : j < es.size := by
    have := (List.getElem?_eq_some_iff.1 f2).1;simpa using this
   simp only [Array.eraseIdxIfInBounds, hj, dif_pos, Array.toList_eraseIdx, pT, he]
end
section
variable {K V : Type} {P : Program} {ek : K -> Value} {ev : V -> Value} {w w0 : World} {As : List HP} {n r : Nat} {L : Env} {o : Oper} {a : Act} {m : List (K × V)}
end
def elemV (sb : Option Addr) (sz : Nat) : Option Int -> Value
 | none => .pointer none
 | some i => match sb with
  | some ⟨b, off, _⟩ => .pointer (some ⟨b, off + (Int.toNat i) * sz, none⟩)
  | none => .pointer none
theorem lh {sb : Option Addr} {sz b off : Nat} {i : Int} (h : sb = some ⟨b, off, none⟩) : elemV sb sz (some i) = .pointer (some ⟨b, off + (Int.toNat i) * sz, none⟩) := by subst h; rfl
def oS {α : Type} : Option α -> Unit ⊕ α
 | none => .inl ()
 | some x => .inr x
def vD {α β : Type} (o : Option α) (n : Option β) (s : α -> Option β) : Option β := match oS o with
 | .inl _ => n
 | .inr x => s x
theorem sg {α : Type} {l : List α} {i : Int} {x : α} (h : mIdx l i = some x) : l[i.toNat]? = some x := (oQ h).2
def Pure (q : Prop) : HP := fun _ => q
theorem St.pure {q : Prop} {w0 w : World} {As : List HP} (H : St w0 (Pure q :: As) w) : q /\ St w0 As w := ⟨H.fact fun _ h => h, H.x0⟩
theorem Ad {α : Type} {l : List α} {i : Int} {x y : α} (h : mIdx l i = some x) : mIdx (mSet l i y) i = some y := by
 obtain ⟨⟨h0, h1⟩, h2⟩ := oQ h;have hl : i.toNat < l.length := by omega
 simp [mIdx, mSet, h0, hl]
end
noncomputable section
section
variable {H : Type} {en : TypeId × Value -> H} {P : Program} {w : World} {base : Nat} {spare : Nat -> Bool} {held : Bool}
def pF (P : Program) : Nat -> TypeId -> Bool
 | 0, _ => false
 | d + 1, e => match P.underlying e with
  | some (.int .i64) => P.cellsOf e == 1
  | some (.struct fs) => fs.toList.all (fun f => pF P d f.type) && (List.range (P.cellsOf e)).all (fun j => fs.toList.any fun f => Nat.ble f.offset j && Nat.blt j (f.offset + P.cellsOf f.type))
  | _ => false
end
end
end Go.Th
noncomputable section
namespace Go.Th
def I64 (x : Int) : Prop := -9223372036854775808 <= x /\ x < 9223372036854775808
theorem A4 {x : Int} (h : (Lit.int .i64 x).wf = true) : I64 x := by
 simp [Lit.wf, IntKind.min, IntKind.max, IntKind.signed, IntKind.bits] at h;exact ⟨h.1, by omega⟩
section
variable {H : Type} {en : TypeId × Value -> H} {P : Program} {w : World} {base : Nat} {spare : Nat -> Bool} {held : Bool}
theorem hK : ∀ (d : Nat) (e : TypeId), pF P d e = true -> ∀ n cs y, DataW.trod en P w base spare held n e cs = some y -> cs.length = P.cellsOf e /\ ∀ (j : Nat) (u : Value), cs[j]? = some u -> ∃ z : Int, u = Value.int .i64 z /\ I64 z
 | 0, e, h, _, _, _, _ => by simp [pF] at h
 | d + 1, e, h, n, cs, y, ht => by
  rw [pF] at h;split at h
  ·rename_i hu;obtain ⟨q, rfl, _, hw⟩ := DataW.trod_int hu ht;refine ⟨by simpa using (beq_iff_eq.1 h).symm, fun j u hj => ⟨q, ?_, A4 hw⟩⟩;cases j with
   | zero => simpa using hj.symm
   | succ j => simp at hj
  ·rename_i fs hu;simp only [Bool.and_eq_true, List.all_eq_true] at h;obtain ⟨h1, h2⟩ := h;obtain ⟨xs, m, _, _, hl, B, D⟩ := DataW.trod_struct hu ht;refine ⟨hl, fun j u hj => ?_⟩;have x : j < P.cellsOf e := by rw [<- hl]; exact (List.getElem?_eq_some_iff.1 hj).1
   have h3 := h2 j (List.mem_range.2 x);obtain ⟨f, hf, h4⟩ := List.any_eq_true.1 h3;simp only [Bool.and_eq_true] at h4;have I := Nat.le_of_ble_eq_true h4.1;have J : j < f.offset + P.cellsOf f.type := by
    have := h4.2;simp only [Nat.blt] at this;exact Nat.le_of_ble_eq_true this
   obtain ⟨i, hi⟩ := List.getElem?_of_mem hf;have l : fs[i]? = some f := by simpa using hi
   have t := D i f l;have A : i < xs.length := by
    have := (Array.getElem?_eq_some_iff.1 l).1;omega
   rw [List.getElem?_eq_getElem A] at t;obtain ⟨_, F⟩ := hK d f.type (h1 f hf) _ _ _ t;refine F (j - f.offset) u ?_;rw [List.getElem?_take, if_pos (by omega), List.getElem?_drop];rw [show f.offset + (j - f.offset) = j by omega];exact hj
  ·cases h
theorem k7 {e : TypeId} (k : Nat) (hi : pF P 5 e = true) (u : P.cellsOf e = k) : ∀ n cs y, DataW.trod en P w base spare held n e cs = some y -> ∃ z : List Int, z.length = k /\ cs = (z.map fun x => .int .i64 x) /\ ∀ x ∈ z, I64 x := fun n cs y h => by
 obtain ⟨hl, t⟩ := hK 5 e hi n cs y h;rw [u] at hl;obtain ⟨z, hz, hp⟩ := im (α := Int) (p := fun i z => cs[i]? = some (.int .i64 z) /\ I64 z) k fun i hi => by
  have j : i < cs.length := by omega
  obtain ⟨q, hq, hr⟩ := t i cs[i] (by simp [j]);exact ⟨q, by rw [List.getElem?_eq_getElem j, hq], hr⟩
 refine ⟨z, hz, ?_, fun x A => ?_⟩
 ·apply List.ext_getElem?;intro i;by_cases B : i < k
  ·have l : i < z.length := by omega
   rw [(hp i z[i] (by simp [l])).1];simp [l]
  ·rw [List.getElem?_eq_none (by omega), List.getElem?_eq_none (by simp; omega)]
 ·obtain ⟨i, hi⟩ := List.mem_iff_getElem?.1 A;exact (hp i x hi).2
end
theorem SlRd.sub {α : Type} {p : α -> Prop} {X : HP} {enc : α -> List Value} {sz : Nat} {sb : Option Addr} {l : List {z : α // p z}} (h : SlRd X (fun z => enc z.1) sz sb l) : SlRd X enc sz sb (l.map (·.1)) := by
 intro g e;rcases h g e with rfl | ⟨b, off, cs, T, fr, h1, h2, h3⟩
 ·exact .inl rfl
 ·refine .inr ⟨b, off, cs, T, fr, h1, h2, fun i hi => ?_⟩;rw [lM] at hi;rw [h3 i hi];simp [List.flatMap_map]
theorem eG {α : Type} {p : α -> Prop} (l : List {z : α // p z}) : ∀ z ∈ l.map (·.1), p z := fun z hz => by
 obtain ⟨y, _, rfl⟩ := List.mem_map.1 hz;exact y.2
theorem wG.sub {α : Type} {p : α -> Prop} {enc : α -> List Value} {sz : Nat} (h : wG enc sz) : wG (fun z : {z : α // p z} => enc z.1) sz := ⟨fun x => h.len x.1, fun x => h.one x.1⟩
end Go.Th
namespace Go.Th
def qW {α : Type} (enc : α -> List Value) (z : α) : Prop := ∀ n : Int, Value.int .i64 n ∈ enc z -> I64 n
theorem gv {l : List Int} {n : Int} (h : Value.int .i64 n ∈ l.map fun x => Value.int .i64 x) : n ∈ l := by
 obtain ⟨x, i, e⟩ := List.mem_map.1 h;cases e;exact i
end Go.Th
namespace Go.Th
section
variable {H : Type} {en : TypeId × Value -> H} {P : Program} {w : World} {base : Nat} {spare : Nat -> Bool} {held : Bool}
end
end Go.Th
end
noncomputable section
namespace Go.Th
end Go.Th
end
namespace Go.Th
noncomputable section
theorem Rd.take {w : World} {e : Option Addr} {a b : List Value} (h : Rd w e (a ++ b)) : Rd w e a := by
 rcases h with h | ⟨i, h1, h2⟩
 ·left
  exact (List.append_eq_nil_iff.1 h).1
 ·refine .inr ⟨i, h1, fun j u hj => h2 j u ?_⟩;rw [List.getElem?_append_left (List.getElem?_eq_some_iff.1 hj).1];exact hj
section
variable {P : Program} {α : Type} {T : TypeId} {enc : α -> List Value} {sz : Nat} {w0 w : World} {As : List HP}
end
end
end Go.Th
namespace Go.Proofs.YteflmnbkdhneiaaGreat
open Go.Th
noncomputable section
set_option maxRecDepth 10000
set_option maxHeartbeats 4000000
structure zr where
 f0 : Int
 f1 : Int
 f2 : Int
 f3 : Int
 f4 : Int
 f5 : Int
 f6 : Int
 f7 : Int
 f8 : Int
 f9 : Int
 taken : Bool
def zr.enc (x : zr) : List Value := [.int .i64 x.f0, .int .i64 x.f1, .int .i64 x.f2, .int .i64 x.f3, .int .i64 x.f4, .int .i64 x.f5, .int .i64 x.f6, .int .i64 x.f7, .int .i64 x.f8, .int .i64 x.f9, .bool x.taken]
def zr.rO (x : zr) (i : Int) : Option Int :=
 if i = 0 then some x.f0 else if i = 1 then some x.f1 else if i = 2 then some x.f2 else if i = 3 then some x.f3 else if i = 4 then some x.f4 else if i = 5 then some x.f5 else if i = 6 then some x.f6 else if i = 7 then some x.f7 else if i = 8 then some x.f8 else if i = 9 then some x.f9 else none
def zr.qM (x : zr) (i v : Int) : Option zr :=
 if i = 0 then some (zr.mk v x.f1 x.f2 x.f3 x.f4 x.f5 x.f6 x.f7 x.f8 x.f9 x.taken) else if i = 1 then some (zr.mk x.f0 v x.f2 x.f3 x.f4 x.f5 x.f6 x.f7 x.f8 x.f9 x.taken) else if i = 2 then some (zr.mk x.f0 x.f1 v x.f3 x.f4 x.f5 x.f6 x.f7 x.f8 x.f9 x.taken) else if i = 3 then some (zr.mk x.f0 x.f1 x.f2 v x.f4 x.f5 x.f6 x.f7 x.f8 x.f9 x.taken) else if i = 4 then some (zr.mk x.f0 x.f1 x.f2 x.f3 v x.f5 x.f6 x.f7 x.f8 x.f9 x.taken) else if i = 5 then some (zr.mk x.f0 x.f1 x.f2 x.f3 x.f4 v x.f6 x.f7 x.f8 x.f9 x.taken) else if i = 6 then some (zr.mk x.f0 x.f1 x.f2 x.f3 x.f4 x.f5 v x.f7 x.f8 x.f9 x.taken) else if i = 7 then some (zr.mk x.f0 x.f1 x.f2 x.f3 x.f4 x.f5 x.f6 v x.f8 x.f9 x.taken) else if i = 8 then some (zr.mk x.f0 x.f1 x.f2 x.f3 x.f4 x.f5 x.f6 x.f7 v x.f9 x.taken) else if i = 9 then some (zr.mk x.f0 x.f1 x.f2 x.f3 x.f4 x.f5 x.f6 x.f7 x.f8 v x.taken) else none
theorem zr.xI : wG zr.enc 11 := ⟨fun _ => rfl, fun x u hu => by simp only [zr.enc, iC, List.not_mem_nil, or_false] at hu; rcases hu with rfl | rfl | rfl | rfl | rfl | rfl | rfl | rfl | rfl | rfl | rfl <;> rfl⟩
structure zE where
 steps : Int
 begun : Int
 most : Int
structure zb where
 l : List zr
 never : Int
 free : List Int
 m_ : zE
structure zC where
 kind : Int
 root : Int
 n : Int
def zC.enc (x : zC) : List Value := [.int .i64 x.kind, .int .i64 x.root, .int .i64 x.n]
theorem zC.xI : wG zC.enc 3 := ⟨fun _ => rfl, fun x u hu => by simp only [zC.enc, iC, List.not_mem_nil, or_false] at hu; rcases hu with rfl | rfl | rfl <;> rfl⟩
structure zs where
 gen : Int
 taken : Bool
 v_ : zC
def zs.enc (x : zs) : List Value := [.int .i64 x.gen, .bool x.taken, .int .i64 x.v_.kind, .int .i64 x.v_.root, .int .i64 x.v_.n]
theorem zs.xI : wG zs.enc 5 := ⟨fun _ => rfl, fun x u hu => by simp only [zs.enc, iC, List.not_mem_nil, or_false] at hu; rcases hu with rfl | rfl | rfl | rfl | rfl <;> rfl⟩
structure zh where
 most : Int
 l : List zs
 free : List Int
structure zf where
 At : Int
 Gen : Int
def zf.enc (x : zf) : List Value := [.int .i64 x.At, .int .i64 x.Gen]
theorem zf.xI : wG zf.enc 2 := ⟨fun _ => rfl, fun x u hu => by simp only [zf.enc, iC, List.not_mem_nil, or_false] at hu; rcases hu with rfl | rfl <;> rfl⟩
structure zB where
 cell : Int
 heap : zf
def zB.enc (x : zB) : List Value := [.int .i64 x.cell, .int .i64 x.heap.At, .int .i64 x.heap.Gen]
theorem zB.xI : wG zB.enc 3 := ⟨fun _ => rfl, fun x u hu => by simp only [zB.enc, iC, List.not_mem_nil, or_false] at hu; rcases hu with rfl | rfl | rfl <;> rfl⟩
structure zp where
 gen : Int
 taken : Bool
 v_ : zB
def zp.enc (x : zp) : List Value := [.int .i64 x.gen, .bool x.taken, .int .i64 x.v_.cell, .int .i64 x.v_.heap.At, .int .i64 x.v_.heap.Gen]
theorem zp.xI : wG zp.enc 5 := ⟨fun _ => rfl, fun x u hu => by simp only [zp.enc, iC, List.not_mem_nil, or_false] at hu; rcases hu with rfl | rfl | rfl | rfl | rfl <;> rfl⟩
structure ze where
 most : Int
 l : List zp
 free : List Int
structure zj where
 heaps : zh
 items : ze
 at_ : List (Int × zf)
def zf.val (x : zf) : Value := .agg #[.int .i64 x.At, .int .i64 x.Gen]
structure zi where
 Key : Int
 Serial : Int
def zi.enc (x : zi) : List Value := [.int .i64 x.Key, .int .i64 x.Serial]
theorem zi.xI : wG zi.enc 2 := ⟨fun _ => rfl, fun x u hu => by simp only [zi.enc, iC, List.not_mem_nil, or_false] at hu; rcases hu with rfl | rfl <;> rfl⟩
structure zo where
 items : Int
 a_ : zb
 t_ : zj
 entries : List (zf × zi)
 serial : Int
def zi.val (x : zi) : Value := .agg #[.int .i64 x.Key, .int .i64 x.Serial]
structure zA where
 Queue : Int
 Time : Int
 Data : Int
 Item : zf
def zA.enc (x : zA) : List Value := [.int .i64 x.Queue, .int .i64 x.Time, .int .i64 x.Data, .int .i64 x.Item.At, .int .i64 x.Item.Gen]
theorem zA.xI : wG zA.enc 5 := ⟨fun _ => rfl, fun x u hu => by simp only [zA.enc, iC, List.not_mem_nil, or_false] at hu; rcases hu with rfl | rfl | rfl | rfl | rfl <;> rfl⟩
structure zq where
 gen : Int
 taken : Bool
 v_ : zA
def zq.enc (x : zq) : List Value := [.int .i64 x.gen, .bool x.taken, .int .i64 x.v_.Queue, .int .i64 x.v_.Time, .int .i64 x.v_.Data, .int .i64 x.v_.Item.At, .int .i64 x.v_.Item.Gen]
theorem zq.xI : wG zq.enc 7 := ⟨fun _ => rfl, fun x u hu => by simp only [zq.enc, iC, List.not_mem_nil, or_false] at hu; rcases hu with rfl | rfl | rfl | rfl | rfl | rfl | rfl <;> rfl⟩
structure zg where
 most : Int
 l : List zq
 free : List Int
structure zn where
 p : zg
 by_ : List (zf × zf)
structure zM where
 now : Int
structure za where
 kind : Int
 most : Int
 q : zo
 heaps0 : zf
 heaps1 : zf
 t_ : zn
 when : List (zf × Int)
 clock : zM
 budget : Int
 last : Int
 top : Int
structure yk where
 Op : Int
 Kind : Int
 Heap : zf
 Other : zf
 Item : zf
 Key : Int
def yk.enc (x : yk) : List Value := [.int .i64 x.Op, .int .i64 x.Kind, .int .i64 x.Heap.At, .int .i64 x.Heap.Gen, .int .i64 x.Other.At, .int .i64 x.Other.Gen, .int .i64 x.Item.At, .int .i64 x.Item.Gen, .int .i64 x.Key]
theorem yk.xI : wG yk.enc 9 := ⟨fun _ => rfl, fun x u hu => by simp only [yk.enc, iC, List.not_mem_nil, or_false] at hu; rcases hu with rfl | rfl | rfl | rfl | rfl | rfl | rfl | rfl | rfl <;> rfl⟩
structure zL where
 Why : Int
 Heap : zf
 Item : zf
 Entry : zi
 N : Int
def zL.enc (x : zL) : List Value := [.int .i64 x.Why, .int .i64 x.Heap.At, .int .i64 x.Heap.Gen, .int .i64 x.Item.At, .int .i64 x.Item.Gen, .int .i64 x.Entry.Key, .int .i64 x.Entry.Serial, .int .i64 x.N]
theorem zL.xI : wG zL.enc 8 := ⟨fun _ => rfl, fun x u hu => by simp only [zL.enc, iC, List.not_mem_nil, or_false] at hu; rcases hu with rfl | rfl | rfl | rfl | rfl | rfl | rfl | rfl <;> rfl⟩
def yk.val (x : yk) : Value := .agg #[.int .i64 x.Op, .int .i64 x.Kind, .int .i64 x.Heap.At, .int .i64 x.Heap.Gen, .int .i64 x.Other.At, .int .i64 x.Other.Gen, .int .i64 x.Item.At, .int .i64 x.Item.Gen, .int .i64 x.Key]
def zC.val (x : zC) : Value := .agg #[.int .i64 x.kind, .int .i64 x.root, .int .i64 x.n]
structure zm where
 n : Int
 rank : Int
def zm.enc (x : zm) : List Value := [.int .i64 x.n, .int .i64 x.rank]
theorem zm.xI : wG zm.enc 2 := ⟨fun _ => rfl, fun x u hu => by simp only [zm.enc, iC, List.not_mem_nil, or_false] at hu; rcases hu with rfl | rfl <;> rfl⟩
def zm.val (x : zm) : Value := .agg #[.int .i64 x.n, .int .i64 x.rank]
def zB.val (x : zB) : Value := .agg #[.int .i64 x.cell, .int .i64 x.heap.At, .int .i64 x.heap.Gen]
def zf.eq (x y : zf) : Bool := (x.At == y.At && (x.Gen == y.Gen && true))
structure zk where
 Most : Int
 Gens : List Int
 In : List Bool
 V : List Int
 Back : List Int
structure zD where
 Queue : Int
 Data : Int
 E : zi
 R : zf
def zD.enc (x : zD) : List Value := [.int .i64 x.Queue, .int .i64 x.Data, .int .i64 x.E.Key, .int .i64 x.E.Serial, .int .i64 x.R.At, .int .i64 x.R.Gen]
theorem zD.xI : wG zD.enc 6 := ⟨fun _ => rfl, fun x u hu => by simp only [zD.enc, iC, List.not_mem_nil, or_false] at hu; rcases hu with rfl | rfl | rfl | rfl | rfl | rfl <;> rfl⟩
structure zd where
 Most : Int
 Now : Int
 Next : Int
 Pool : zk
 L : List zD
structure zG where
 d : za
 m_ : zd
 k_ : Int
 told : List zf
structure zy where
 Kind : Int
 Queue : Int
 Job : zf
 Time : Int
 Data : Int
def zy.enc (x : zy) : List Value := [.int .i64 x.Kind, .int .i64 x.Queue, .int .i64 x.Job.At, .int .i64 x.Job.Gen, .int .i64 x.Time, .int .i64 x.Data]
theorem zy.xI : wG zy.enc 6 := ⟨fun _ => rfl, fun x u hu => by simp only [zy.enc, iC, List.not_mem_nil, or_false] at hu; rcases hu with rfl | rfl | rfl | rfl | rfl | rfl <;> rfl⟩
structure zu where
 Why : Int
 Job : zf
 Time : Int
 Data : Int
 N : Int
def zu.enc (x : zu) : List Value := [.int .i64 x.Why, .int .i64 x.Job.At, .int .i64 x.Job.Gen, .int .i64 x.Time, .int .i64 x.Data, .int .i64 x.N]
theorem zu.xI : wG zu.enc 6 := ⟨fun _ => rfl, fun x u hu => by simp only [zu.enc, iC, List.not_mem_nil, or_false] at hu; rcases hu with rfl | rfl | rfl | rfl | rfl | rfl <;> rfl⟩
def zA.val (x : zA) : Value := .agg #[.int .i64 x.Queue, .int .i64 x.Time, .int .i64 x.Data, .int .i64 x.Item.At, .int .i64 x.Item.Gen]
def zy.val (x : zy) : Value := .agg #[.int .i64 x.Kind, .int .i64 x.Queue, .int .i64 x.Job.At, .int .i64 x.Job.Gen, .int .i64 x.Time, .int .i64 x.Data]
def zu.eq (x y : zu) : Bool := (x.Why == y.Why && (zf.eq x.Job y.Job && (x.Time == y.Time && (x.Data == y.Data && (x.N == y.N && true)))))
structure xC where
 Command : zy
 Reply : zu
 Now : Int
 Steps : Int
def xC.enc (x : xC) : List Value := [.int .i64 x.Command.Kind, .int .i64 x.Command.Queue, .int .i64 x.Command.Job.At, .int .i64 x.Command.Job.Gen, .int .i64 x.Command.Time, .int .i64 x.Command.Data, .int .i64 x.Reply.Why, .int .i64 x.Reply.Job.At, .int .i64 x.Reply.Job.Gen, .int .i64 x.Reply.Time, .int .i64 x.Reply.Data, .int .i64 x.Reply.N, .int .i64 x.Now, .int .i64 x.Steps]
theorem xC.xI : wG xC.enc 14 := ⟨fun _ => rfl, fun x u hu => by simp only [xC.enc, iC, List.not_mem_nil, or_false] at hu; rcases hu with rfl | rfl | rfl | rfl | rfl | rfl | rfl | rfl | rfl | rfl | rfl | rfl | rfl | rfl <;> rfl⟩
structure zx where
 Kind : Int
 Queue : Int
 Job : Int
 Data : Int
 Time : Int
 Raw : zy
def zx.enc (x : zx) : List Value := [.int .i64 x.Kind, .int .i64 x.Queue, .int .i64 x.Job, .int .i64 x.Data, .int .i64 x.Time, .int .i64 x.Raw.Kind, .int .i64 x.Raw.Queue, .int .i64 x.Raw.Job.At, .int .i64 x.Raw.Job.Gen, .int .i64 x.Raw.Time, .int .i64 x.Raw.Data]
theorem zx.xI : wG zx.enc 11 := ⟨fun _ => rfl, fun x u hu => by simp only [zx.enc, iC, List.not_mem_nil, or_false] at hu; rcases hu with rfl | rfl | rfl | rfl | rfl | rfl | rfl | rfl | rfl | rfl | rfl <;> rfl⟩
def zx.val (x : zx) : Value := .agg #[.int .i64 x.Kind, .int .i64 x.Queue, .int .i64 x.Job, .int .i64 x.Data, .int .i64 x.Time, .int .i64 x.Raw.Kind, .int .i64 x.Raw.Queue, .int .i64 x.Raw.Job.At, .int .i64 x.Raw.Job.Gen, .int .i64 x.Raw.Time, .int .i64 x.Raw.Data]
def zi.eq (x y : zi) : Bool := (x.Key == y.Key && (x.Serial == y.Serial && true))
structure zc where
 d : za
 m_ : zd
 k_ : Int
 told : List zf
def yX (n : Int) (lo : Int) (hi : Int) : Option (Int) :=
 (bif (decide (n >= lo)) && (decide (n <= hi)) then
  some n
 else
  (mNz (w64 ((w64 (hi - lo)) + 1))).bind fun u =>
  ((bif decide (Int.tmod n (w64 ((w64 (hi - lo)) + 1)) < 0) then
   some (w64 ((w64 ((w64 ((Int.tmod n (w64 ((w64 (hi - lo)) + 1))) + hi)) - lo)) + 1))
  else
   some (Int.tmod n (w64 ((w64 (hi - lo)) + 1))))).bind fun s =>
  some (w64 (lo + s)))
def u6 (k_ : Int) : Option (Bool) :=
 some ((decide (k_ >= 1)) && (decide (k_ <= 3)))
def bits_Len64 (x : Int) : Option (Int) :=
 ((bif decide (x >= 4294967296) then
  some (Int.fdiv x (2 ^ (min (Int.toNat 32) 64)), 32)
 else
  some (x, 0))).bind fun s =>
 ((bif decide (s.1 >= 65536) then
  some (Int.fdiv s.1 (2 ^ (min (Int.toNat 16) 64)), w64 (s.2 + 16))
 else
  some (s.1, s.2))).bind fun s1 =>
 ((bif decide (s1.1 >= 256) then
  some (Int.fdiv s1.1 (2 ^ (min (Int.toNat 8) 64)), w64 (s1.2 + 8))
 else
  some (s1.1, s1.2))).bind fun s2 =>
 (aa (ByteArray.mk #[0, 1, 2, 2, 3, 3, 3, 3, 4, 4, 4, 4, 4, 4, 4, 4, 5, 5, 5, 5, 5, 5, 5, 5, 5, 5, 5, 5, 5, 5, 5, 5, 6, 6, 6, 6, 6, 6, 6, 6, 6, 6, 6, 6, 6, 6, 6, 6, 6, 6, 6, 6, 6, 6, 6, 6, 6, 6, 6, 6, 6, 6, 6, 6, 7, 7, 7, 7, 7, 7, 7, 7, 7, 7, 7, 7, 7, 7, 7, 7, 7, 7, 7, 7, 7, 7, 7, 7, 7, 7, 7, 7, 7, 7, 7, 7, 7, 7, 7, 7, 7, 7, 7, 7, 7, 7, 7, 7, 7, 7, 7, 7, 7, 7, 7, 7, 7, 7, 7, 7, 7, 7, 7, 7, 7, 7, 7, 7, 8, 8, 8, 8, 8, 8, 8, 8, 8, 8, 8, 8, 8, 8, 8, 8, 8, 8, 8, 8, 8, 8, 8, 8, 8, 8, 8, 8, 8, 8, 8, 8, 8, 8, 8, 8, 8, 8, 8, 8, 8, 8, 8, 8, 8, 8, 8, 8, 8, 8, 8, 8, 8, 8, 8, 8, 8, 8, 8, 8, 8, 8, 8, 8, 8, 8, 8, 8, 8, 8, 8, 8, 8, 8, 8, 8, 8, 8, 8, 8, 8, 8, 8, 8, 8, 8, 8, 8, 8, 8, 8, 8, 8, 8, 8, 8, 8, 8, 8, 8, 8, 8, 8, 8, 8, 8, 8, 8, 8, 8, 8, 8, 8, 8, 8, 8, 8, 8, 8, 8, 8, 8, 8, 8, 8, 8, 8, 8]) (IntKind.wrap .u8 (s2.1))).bind fun e =>
 some (w64 (s2.2 + (w64 (e))))
def bits_Len (x : Int) : Option (Int) :=
 (bits_Len64 x).bind fun t_ =>
 some t_
def qq (n : Int) : Option (Int) :=
 (bits_Len (IntKind.wrap .u64 ((if n > 0 then n else 0)))).bind fun t_ =>
 some t_
def vU (a_ : Int) (b : Int) : Option (Int) :=
 (bif (decide (b > 0)) && (decide (a_ > w64 (9223372036854775807 - b))) then
  some 9223372036854775807
 else
  (bif (decide (b < 0)) && (decide (a_ < w64 ((-9223372036854775808) - b))) then
   some (-9223372036854775808)
  else
   some (w64 (a_ + b))))
def vB (j : Int) (x1 : Int) : Nat -> Int -> Int -> Option (Int)
 | 0, _, _ => none
 | m + 1, e, x =>
  (bif decide (x < x1) then
   (vU e j).bind fun i =>
   vB j x1 m i (w64 (x + 1))
  else
   some e)
def qK (k : Nat) (a_ : Int) (b : Int) (n : Int) : Option (Int) :=
 (qq n).bind fun t_ =>
 (vB b t_ k a_ 0).bind fun s =>
 some s
def sD (k : Nat) (k_ : Int) (items : Int) : Option (Int × Bool) :=
 ((u6 k_).bind fun t_ =>
 (bif !t_ then
  some true
 else
  (bif decide (items < 1) then
   some true
  else
   some (decide (items > 4096))))).bind fun s =>
 (bif s then
  some (0, false)
 else
  (qK k 2000 1600 (w64 (items + 1))).bind fun e =>
  some (e, true))
def nm  : Option (zE) :=
 some (zE.mk 0 0 0)
def pd (cells : Int) : Option (zb) :=
 (gZ (if (if 65536 < cells then 65536 else cells) > 0 then (if 65536 < cells then 65536 else cells) else 0) (zr.mk 0 0 0 0 0 0 0 0 0 0 false)).bind fun l =>
 (nm).bind fun t_ =>
 some (zb.mk l 0 ([] : List Int) t_)
def uz (places : Int) : Option (zh) :=
 some (zh.mk (if (if 65536 < places then 65536 else places) > 0 then (if 65536 < places then 65536 else places) else 0) ([] : List zs) ([] : List Int))
def v7 (places : Int) : Option (ze) :=
 some (ze.mk (if (if 65536 < places then 65536 else places) > 0 then (if 65536 < places then 65536 else places) else 0) ([] : List zp) ([] : List Int))
def nF (items : Int) : Option (zj) :=
 (uz 64).bind fun t_ =>
 (v7 (if (if 16384 < items then 16384 else items) > 1 then (if 16384 < items then 16384 else items) else 1)).bind fun e =>
 some (zj.mk t_ e ([] : List (Int × zf)))
def gp (items : Int) : Option ((Option zo) × Int) :=
 (bif (decide (items < 1)) || (decide (items > 16384)) then
  some ((none : Option zo), 1)
 else
  (pd (w64 (2 * items))).bind fun t_ =>
  (nF items).bind fun e =>
  some (some (zo.mk items t_ e ([] : List (zf × zi)) 0), 0))
def tc (places : Int) : Option (zg) :=
 some (zg.mk (if (if 65536 < places then 65536 else places) > 0 then (if 65536 < places then 65536 else places) else 0) ([] : List zq) ([] : List Int))
def pM (jobs : Int) : Option (zn) :=
 (tc (if (if 4096 < jobs then 4096 else jobs) > 1 then (if 4096 < jobs then 4096 else jobs) else 1)).bind fun t_ =>
 some (zn.mk t_ ([] : List (zf × zf)))
def pX  : Option (zM) :=
 some (zM.mk 0)
def wM (e : yk) : Option (zL) :=
 none
def td (a_ : zb) : Option (Unit) :=
 some ()
def s6 (m_ : zE) : Option (Int) :=
 some (w64 (m_.steps - m_.begun))
def rK (m_ : zE) : Option (Int) :=
 (s6 m_).bind fun t_ =>
 some (if t_ > m_.most then t_ else m_.most)
def u7 (m_ : zE) : Option (zE) :=
 (rK m_).bind fun t_ =>
 some (zE.mk m_.steps m_.steps t_)
def ql (k_ : Int) : Option (Bool) :=
 some ((decide (k_ >= 1)) && (decide (k_ <= 5)))
def yS (p : zh) (v_ : zC) : Option (zf × Bool × zh) :=
 ((bif decide (w64 ((p.free.length : Int) - 1) >= 0) then
  (mIdx p.free (w64 ((p.free.length : Int) - 1))).bind fun x =>
  (mCut p.free 0 (w64 ((p.free.length : Int) - 1))).bind fun l =>
  some (.inr (x, zh.mk p.most p.l l))
 else
  (bif decide ((p.l.length : Int) >= p.most) then
   some (.inl (zf.mk 0 0, false, p))
  else
   (mApp p.l ([zs.mk 0 false (zC.mk 0 0 0)] : List zs)).bind fun l1 =>
   some (.inr ((p.l.length : Int), zh.mk p.most l1 p.free)))) : Option ((zf × Bool × zh) ⊕ (Int × zh))).bind fun s =>
 match s with
 | .inl e => some e
 | .inr s1 =>
  (mIdx s1.2.l s1.1).bind fun x1 =>
  some (zf.mk s1.1 (w64 (x1.gen + 1)), true, zh.mk s1.2.most (mSet (mSet (mSet s1.2.l s1.1 (zs.mk (w64 (x1.gen + 1)) x1.taken x1.v_)) s1.1 (zs.mk (w64 (x1.gen + 1)) true x1.v_)) s1.1 (zs.mk (w64 (x1.gen + 1)) true v_)) s1.2.free)
def um (t_ : zj) (k_ : Int) : Option (zf × Int × zj) :=
 (ql k_).bind fun i =>
 (bif !i then
  some (zf.mk 0 0, 24, t_)
 else
  (yS t_.heaps (zC.mk k_ (-1) 0)).bind fun e =>
  (bif !e.2.1 then
   some (zf.mk 0 0, 13, zj.mk e.2.2 t_.items t_.at_)
  else
   some (e.1, 0, zj.mk e.2.2 t_.items t_.at_)))
def y8 (p : zh) (r : zf) : Option ((Option Int) × Int) :=
 ((bif decide (r.At < 0) then
  some true
 else
  (bif decide (r.At >= (p.l.length : Int)) then
   some true
  else
   (bif decide (r.Gen < 1) then
    some true
   else
    (mIdx p.l r.At).bind fun x1 =>
    some (decide (r.Gen > x1.gen)))))).bind fun s =>
 (bif s then
  some ((none : Option Int), 22)
 else
  (mIdx p.l r.At).bind fun x2 =>
  (bif (decide (r.Gen < x2.gen)) || (!x2.taken) then
   some ((none : Option Int), 23)
  else
   some ((some r.At : Option Int), 0)))
def yJ (p : zh) (r : zf) : Option (zC × Int) :=
 (y8 p r).bind fun t_ =>
 (vD t_.1
  ((bif t_.2 != 0 then
   some (zC.mk 0 0 0, t_.2)
  else
   none))
  (fun i =>
  (mIdx p.l i).bind fun x =>
  (bif t_.2 != 0 then
   some (zC.mk 0 0 0, t_.2)
  else
   some (x.v_, 0))))
def xh (t_ : zj) (i : zf) : Option (Int × Int × Int × Int) :=
 (yJ t_.heaps i).bind fun e =>
 some (e.1.kind, e.1.root, e.1.n, e.2)
def vu (e : Int) : Option (zL) :=
 some (zL.mk e (zf.mk 0 0) (zf.mk 0 0) (zi.mk 0 0) 0)
def y9 (p : ze) : Option (Int) :=
 some (w64 ((p.l.length : Int) - (p.free.length : Int)))
def vY (t_ : zj) : Option (Int) :=
 (y9 t_.items).bind fun e =>
 some e
def xw (m_ : zE) (n : Int) : Option (zE) :=
 (vU m_.steps (if n > 0 then n else 0)).bind fun t_ =>
 some (zE.mk t_ m_.begun m_.most)
def rE  : Option (zr) :=
 some (zr.mk (-1) (-1) (-1) (-1) 0 0 (-1) 0 0 (-1) true)
def vi (a_ : zb) : Option (Int × Bool × zb) :=
 (xw a_.m_ 1).bind fun t_ =>
 ((bif decide (w64 ((a_.free.length : Int) - 1) >= 0) then
  (mIdx a_.free (w64 ((a_.free.length : Int) - 1))).bind fun x =>
  (mCut a_.free 0 (w64 ((a_.free.length : Int) - 1))).bind fun l =>
  some (.inr (x, zb.mk a_.l a_.never l t_))
 else
  (bif decide (a_.never >= (a_.l.length : Int)) then
   some (.inl ((-1), false, zb.mk a_.l a_.never a_.free t_))
  else
   some (.inr (a_.never, zb.mk a_.l (w64 (a_.never + 1)) a_.free t_)))) : Option ((Int × Bool × zb) ⊕ (Int × zb))).bind fun s =>
 match s with
 | .inl i => some i
 | .inr s1 =>
  (rE).bind fun e =>
  (mIdx s1.2.l s1.1).bind fun x1 =>
  some (s1.1, true, zb.mk (mSet s1.2.l s1.1 e) s1.2.never s1.2.free s1.2.m_)
def yr (a_ : zb) (e : Int) : Option (Bool) :=
 ((bif decide (e >= 0) then
  (bif decide (e < (a_.l.length : Int)) then
   (mIdx a_.l e).bind fun x1 =>
   some x1.taken
  else
   some false)
 else
  some false)).bind fun s =>
 some s
def wq (a_ : zb) (e : Int) (field : Int) : Option (Bool) :=
 ((yr a_ e).bind fun t_ =>
 (bif t_ then
  (bif decide (field >= 0) then
   some (decide (field < 10))
  else
   some false)
 else
  some false)).bind fun s =>
 some s
def zz (a_ : zb) (e : Int) (field : Int) (v_ : Int) : Option (Bool × zb) :=
 (xw a_.m_ 1).bind fun t_ =>
 (wq (zb.mk a_.l a_.never a_.free t_) e field).bind fun i =>
 (bif !i then
  some (false, zb.mk a_.l a_.never a_.free t_)
 else
  (mIdx a_.l e).bind fun x =>
  (mIn field 10).bind fun u =>
  (zr.qM x field v_).bind fun y =>
  some (true, zb.mk (mSet a_.l e y) a_.never a_.free t_))
def oL (a_ : zb) (key : Int) (serial : Int) : Option (Int × Bool × zb) :=
 (vi a_).bind fun t_ =>
 ((bif t_.2.1 then
  (zz t_.2.2 t_.1 7 key).bind fun e =>
  (zz e.2 t_.1 8 serial).bind fun i =>
  some i.2
 else
  some t_.2.2)).bind fun s =>
 some (t_.1, t_.2.1, s)
def qg (a_ : zb) (n : Int) (i : Int) : Option (zb) :=
 (zz a_ n 6 i).bind fun t_ =>
 (zz t_.2 i 9 n).bind fun e =>
 some e.2
def qn (a_ : zb) (i : Int) : Option (Int × Bool × zb) :=
 (vi a_).bind fun t_ =>
 ((bif t_.2.1 then
  (qg t_.2.2 t_.1 i).bind fun e =>
  some e
 else
  some t_.2.2)).bind fun s =>
 some (t_.1, t_.2.1, s)
def xT (a_ : zb) : Option (Int) :=
 some (a_.l.length : Int)
def zY (a_ : zb) (i : Int) (field : Int) : Option (Int × zb) :=
 (xw a_.m_ 1).bind fun t_ =>
 (wq (zb.mk a_.l a_.never a_.free t_) i field).bind fun e =>
 (bif !e then
  some ((-1), zb.mk a_.l a_.never a_.free t_)
 else
  (mIdx a_.l i).bind fun x =>
  (mIn field 10).bind fun u =>
  (zr.rO x field).bind fun v_ =>
  some (v_, zb.mk a_.l a_.never a_.free t_))
def zF (a_ : zb) (e : Int) (field : Int) : Option (Int × zb) :=
 (zY a_ e field).bind fun t_ =>
 ((bif decide (t_.1 < 0) then
  some true
 else
  some (decide (t_.1 >= (t_.2.l.length : Int))))).bind fun s =>
 (bif s then
  some ((-1), t_.2)
 else
  some (t_.1, t_.2))
def ra (a_ : zb) (i : Int) : Option (zi × zb) :=
 (zY a_ i 7).bind fun t_ =>
 (zY t_.2 i 8).bind fun e =>
 some (zi.mk t_.1 e.1, e.2)
def vO (x : Int) : Option (Bool) :=
 some (x != x)
def w4 (x : Int) (y : Int) : Option (Int) :=
 (vO x).bind fun t_ =>
 (vO y).bind fun e =>
 (bif t_ then
  (bif e then
   some 0
  else
   some (-1))
 else
  (bif e then
   some 1
  else
   (bif decide (x < y) then
    some (-1)
   else
    (bif decide (x > y) then
     some 1
    else
     some 0))))
def vX (x1 : Int) (l : List Int) : Nat -> Int -> Option ((Int) ⊕ (Unit))
 | 0, _ => none
 | m + 1, x =>
  (bif decide (x < x1) then
   (mIdx l x).bind fun x2 =>
   (bif x2 != 0 then
    some (.inl x2)
   else
    vX x1 l m (w64 (x + 1)))
  else
   some (.inr ()))
def qj (k : Nat) (e : List Int) : Option (Int) :=
 (vX (e.length : Int) e k 0).bind fun s =>
 match s with
 | .inl i => some i
 | .inr s1 =>
  some 0
def wc (k : Nat) (a_ : zi) (b : zi) : Option (Int) :=
 (w4 a_.Key b.Key).bind fun t_ =>
 (w4 a_.Serial b.Serial).bind fun e =>
 (qj k ([t_, e] : List Int)).bind fun i =>
 some i
def ry (k : Nat) (a_ : zb) (i : Int) (j : Int) : Option (Bool × zb) :=
 (ra a_ i).bind fun t_ =>
 (ra t_.2 j).bind fun e =>
 (wc k t_.1 e.1).bind fun l =>
 some ((decide (l < 0)) || ((l == 0) && (decide (i < j))), e.2)
def vN (k : Nat) (a_ : zb) (n : Int) (m_ : Int) : Option (Bool × zb) :=
 (zF a_ n 6).bind fun t_ =>
 (zF t_.2 m_ 6).bind fun e =>
 (ry k e.2 t_.1 e.1).bind fun i =>
 some (i.1, i.2)
def tr (a_ : zb) (n : Int) : Option (Int × zb) :=
 (bif n == (-1) then
  some (0, a_)
 else
  (zY a_ n 4).bind fun t_ =>
  some (t_.1, t_.2))
def sf (a_ : zb) (n : Int) : Option (Bool × zb) :=
 (zF a_ n 2).bind fun t_ =>
 (zF t_.2 n 3).bind fun i =>
 (tr i.2 t_.1).bind fun j =>
 (tr j.2 i.1).bind fun e =>
 ((bif decide (j.1 < e.1) then
  (zz e.2 n 2 i.1).bind fun t =>
  (zz t.2 n 3 t_.1).bind fun u =>
  some (j.1, u.2)
 else
  some (e.1, e.2))).bind fun s =>
 (zY s.2 n 4).bind fun l =>
 (zz l.2 n 4 (w64 (s.1 + 1))).bind fun x =>
 some (l.1 != (w64 (s.1 + 1)), x.2)
def w7 : Nat -> Int -> Int -> (List Int) -> zb -> Option (Int × Int × (List Int) × zb)
 | 0, _, _, _, _ => none
 | m + 1, r1, s1, path, m_ =>
  ((bif r1 != (-1) then
   (bif s1 != (-1) then
    (xT m_).bind fun t_ =>
    some (decide ((path.length : Int) <= t_))
   else
    some false)
  else
   some false)).bind fun t =>
  (bif t then
   (vN m m_ s1 r1).bind fun e =>
   ((bif e.1 then
    some (s1, r1)
   else
    some (r1, s1))).bind fun j =>
   (mApp path ([j.1] : List Int)).bind fun l =>
   (zF e.2 j.1 3).bind fun i =>
   w7 m i.1 j.2 l i.2
  else
   some (r1, s1, path, m_))
def wv (l1 : List Int) : Nat -> Int -> Int -> zb -> Option (Int × zb)
 | 0, _, _, _ => none
 | m + 1, top, k_, e =>
  (bif decide (k_ >= 0) then
   (mIdx l1 k_).bind fun x =>
   (zz e x 3 top).bind fun i =>
   (mIdx l1 k_).bind fun x1 =>
   (zz i.2 top 0 x1).bind fun j =>
   (mIdx l1 k_).bind fun x2 =>
   (sf j.2 x2).bind fun l =>
   wv l1 m x2 (w64 (k_ - 1)) l.2
  else
   some (top, e))
def vd (k : Nat) (a_ : zb) (r : Int) (s : Int) : Option (Int × zb) :=
 (bif r == s then
  some (r, a_)
 else
  (w7 k r s ([] : List Int) a_).bind fun s2 =>
  (wv s2.2.2.1 k (if s2.2.1 > s2.1 then s2.2.1 else s2.1) (w64 ((s2.2.2.1.length : Int) - 1)) s2.2.2.2).bind fun e =>
  (zz e.2 e.1 0 (-1)).bind fun i =>
  some (e.1, i.2))
def ss (k : Nat) (a_ : zb) (r : Int) (i : Int) : Option (Int × Bool × zb) :=
 (qn a_ i).bind fun t_ =>
 (bif !t_.2.1 then
  some (r, false, t_.2.2)
 else
  (zz t_.2.2 t_.1 4 1).bind fun j =>
  (vd k j.2 r t_.1).bind fun e =>
  some (e.1, true, e.2))
def uZ (e : Int) : Nat -> Int -> (List Int) -> zb -> Option ((List Int) × zb)
 | 0, _, _, _ => none
 | m + 1, j, out, m_ =>
  ((yr m_ j).bind fun t_ =>
  (bif t_ then
   (xT m_).bind fun t =>
   some (decide ((out.length : Int) < t))
  else
   some false)).bind fun s1 =>
  (bif s1 then
   (mApp out ([j] : List Int)).bind fun l =>
   (zF m_ j e).bind fun i =>
   uZ e m i.1 l i.2
  else
   some (out, m_))
def pw (k : Nat) (a_ : zb) (n : Int) (field : Int) : Option ((List Int) × zb) :=
 (uZ field k n ([] : List Int) a_).bind fun s =>
 some (s.1, s.2)
def wC (k : Nat) (a_ : zb) (r : Int) : Option ((List Int) × zb) :=
 (pw k a_ r 3).bind fun t_ =>
 some (t_.1, t_.2)
def ub (x : zm) (y : zm) : Option (Int) :=
 some (if (if 1 < w64 (x.rank - y.rank) then 1 else w64 (x.rank - y.rank)) > (-1) then (if 1 < w64 (x.rank - y.rank) then 1 else w64 (x.rank - y.rank)) else (-1))
def zS (i : Int) (l : Int) (i1 : Int) : Nat -> Int -> (List zm) -> Option ((List zm))
 | 0, _, _ => none
 | m + 1, j, e =>
  ((bif decide (j > i) then
   (mIdx e j).bind fun x1 =>
   (mIdx e (w64 (j - 1))).bind fun x2 =>
   (ub x1 x2).bind fun t_ =>
   some (decide (t_ < 0))
  else
   some false)).bind fun s2 =>
  (bif s2 then
   (mIdx e (w64 (j - 1))).bind fun x3 =>
   (mIdx e j).bind fun x4 =>
   (mIdx e j).bind fun x5 =>
   (mIdx (mSet e j x3) (w64 (j - 1))).bind fun x6 =>
   zS i l i1 m (w64 (j - 1)) (mSet (mSet e j x3) (w64 (j - 1)) x4)
  else
   some e)
def zH (e : Int) (j : Int) : Nat -> Int -> (List zm) -> Option ((List zm))
 | 0, _, _ => none
 | m + 1, i, m_ =>
  (bif decide (i < j) then
   (zS e j i m i m_).bind fun s1 =>
   zH e j m (w64 (i + 1)) s1
  else
   some m_)
def zN (k : Nat) (data : List zm) (a_ : Int) (b : Int) : Option ((List zm)) :=
 (zH a_ b k (w64 (a_ + 1)) data).bind fun s =>
 (uc s.length data.length).bind fun u =>
 some s
def yd (e : Int) : Nat -> Int -> Int -> (List zm) -> Option (Int × (List zm))
 | 0, _, _, _ => none
 | m + 1, a_, b, m_ =>
  (bif decide (b <= e) then
   (zN m m_ a_ b).bind fun t_ =>
   yd e m b (w64 (b + 20)) t_
  else
   some (a_, m_))
def xQ (j : Int) (e : Int) (l1 : List zm) : Nat -> Int -> Int -> Option (Int)
 | 0, _, _ => none
 | m + 1, i, l =>
  (bif decide (l <= j) then
   none
  else
   some i)
def yq (i : Int) (l : List zm) : Nat -> Int -> Option (Unit)
 | 0, _ => none
 | m + 1, e =>
  (bif decide (e < i) then
   (xQ i e l m 0 (w64 (2 * e))).bind fun s2 =>
   ((bif decide (w64 (s2 + e) < i) then
    none
   else
    some ())).bind fun j =>
   yq i l m (w64 (e * 2))
  else
   some ())
def xi (k : Nat) (data : List zm) (n : Int) : Option ((List zm)) :=
 (yd n k 0 20 data).bind fun s =>
 (zN k s.2 s.1 n).bind fun e =>
 (yq n e k 20).bind fun s1 =>
 (uc e.length data.length).bind fun u =>
 some e
def yQ (k : Nat) (x : List zm) : Option ((List zm)) :=
 (xi k x (x.length : Int)).bind fun t_ =>
 (uc t_.length x.length).bind fun u =>
 some t_
def uD (a_ : zb) (n : Int) (up : Int) : Option (zb) :=
 (zF a_ up 1).bind fun t_ =>
 (zz t_.2 n 3 t_.1).bind fun e =>
 (zz e.2 n 0 up).bind fun i =>
 (zz i.2 up 1 n).bind fun j =>
 some j.2
def uW (k : Nat) (a_ : zb) (n : Int) (m_ : Int) (rank : Int) : Option (Int × zb) :=
 (vN k a_ m_ n).bind fun t_ =>
 ((bif t_.1 then
  some (m_, n)
 else
  some (n, m_))).bind fun s =>
 (uD t_.2 s.2 s.1).bind fun e =>
 (zz e s.1 4 (w64 (rank + 1))).bind fun i =>
 some (s.1, i.2)
def uH (l1 : List Int) : Nat -> Int -> Int -> zb -> Option (Int × zb)
 | 0, _, _, _ => none
 | m + 1, next, k_, m_ =>
  (bif decide (k_ >= 0) then
   (mIdx l1 k_).bind fun x =>
   (zz m_ x 3 next).bind fun t_ =>
   (mIdx l1 k_).bind fun x1 =>
   (zz t_.2 x1 0 (-1)).bind fun e =>
   (mIdx l1 k_).bind fun x2 =>
   uH l1 m x2 (w64 (k_ - 1)) e.2
  else
   some (next, m_))
def pZ (k : Nat) (a_ : zb) (l : List Int) : Option (Int × zb) :=
 (uH l k (-1) (w64 ((l.length : Int) - 1)) a_).bind fun s =>
 some (s.1, s.2)
def vA (x1 : Int) (l1 : List Int) : Nat -> (List zm) -> Int -> zb -> Option ((List zm) × zb)
 | 0, _, _, _ => none
 | m + 1, wait, x, m_ =>
  (bif decide (x < x1) then
   (mIdx l1 x).bind fun x2 =>
   (zY m_ x2 4).bind fun t_ =>
   (mApp wait ([zm.mk x2 t_.1] : List zm)).bind fun l2 =>
   vA x1 l1 m l2 (w64 (x + 1)) t_.2
  else
   some (wait, m_))
def vC (i : List zm) (v_ : Int) (e : Int) (l : List Int) (j : zb) (t : List Int) : Nat -> Int -> Option (Int)
 | 0, _ => none
 | m + 1, k_ =>
  ((bif decide (k_ < (i.length : Int)) then
   (mIdx i k_).bind fun x8 =>
   some (decide (x8.rank < e))
  else
   some false)).bind fun u =>
  (bif u then
   vC i v_ e l j t m (w64 (k_ + 1))
  else
   some k_)
def wJ (l : List Int) : Nat -> (List zm) -> (List Int) -> zb -> Option ((List Int) × zb)
 | 0, _, _, _ => none
 | m + 1, e, out, j =>
  (bif decide ((e.length : Int) > 0) then
   (mIdx e 0).bind fun x3 =>
   ((bif (e.length : Int) == 1 then
    some true
   else
    (mIdx e 1).bind fun x5 =>
    some (x5.rank != x3.rank))).bind fun s2 =>
   (bif s2 then
    (mCut e 1 (e.length : Int)).bind fun x =>
    (mApp out ([x3.n] : List Int)).bind fun y =>
    wJ l m x y j
   else
    (mIdx e 1).bind fun x6 =>
    (uW m j x3.n x6.n x3.rank).bind fun i =>
    (mCut e 2 (e.length : Int)).bind fun u =>
    (vC u ((zm.mk i.1 (w64 (x3.rank + 1))).n) ((zm.mk i.1 (w64 (x3.rank + 1))).rank) out i.2 l m 0).bind fun z =>
    (qJ u z ([(zm.mk i.1 (w64 (x3.rank + 1)))] : List zm)).bind fun t =>
    wJ l m t out i.2)
  else
   some (out, j))
def vh (k : Nat) (a_ : zb) (l : List Int) : Option (Int × zb) :=
 (vA (l.length : Int) l k ([] : List zm) 0 a_).bind fun s =>
 (yQ k s.1).bind fun i =>
 (wJ l k i ([] : List Int) s.2).bind fun s1 =>
 (pZ k s1.2 s1.1).bind fun e =>
 some (e.1, e.2)
def uQ (k : Nat) (a_ : zb) (r : Int) (i : Int) : Option (Int × Bool × zb) :=
 (qn a_ i).bind fun t_ =>
 (bif !t_.2.1 then
  some (r, false, t_.2.2)
 else
  (wC k t_.2.2 r).bind fun e =>
  (mApp ([t_.1] : List Int) e.1).bind fun l =>
  (vh k e.2 l).bind fun j =>
  some (j.1, true, j.2))
def sV (a_ : zb) (n : Int) (m_ : Int) : Option (zb) :=
 (zF a_ n 6).bind fun t_ =>
 (zF t_.2 m_ 6).bind fun e =>
 (qg e.2 n e.1).bind fun i =>
 (qg i m_ t_.1).bind fun j =>
 some j
def u5 (k : Nat) (a_ : zb) (r : Int) (n : Int) : Option (Int × zb) :=
 ((bif r != (-1) then
  (zF a_ r 3).bind fun t_ =>
  some (t_.1, t_.2)
 else
  some ((-1), a_))).bind fun s =>
 (zY s.2 r 4).bind fun i =>
 ((bif s.1 == (-1) then
  some (true, i.2)
 else
  (zY i.2 s.1 4).bind fun l =>
  some (l.1 != i.1, l.2))).bind fun s1 =>
 (bif s1.1 then
  (zz s1.2 n 3 r).bind fun x =>
  (zz x.2 n 0 (-1)).bind fun y =>
  some (n, y.2)
 else
  (zF s1.2 s.1 3).bind fun t =>
  (uW k t.2 r s.1 i.1).bind fun e =>
  (vN k e.2 n e.1).bind fun j =>
  ((bif j.1 then
   (sV j.2 n e.1).bind fun z =>
   some z
  else
   some j.2)).bind fun s2 =>
  (uD s2 n e.1).bind fun A =>
  (zz A e.1 3 t.1).bind fun u =>
  some (e.1, u.2))
def qc (k : Nat) (a_ : zb) (r : Int) (i : Int) : Option (Int × Bool × zb) :=
 (qn a_ i).bind fun t_ =>
 (bif !t_.2.1 then
  some (r, false, t_.2.2)
 else
  (u5 k t_.2.2 r t_.1).bind fun e =>
  some (e.1, true, e.2))
def hQ (a_ : zb) (r : Int) (i : Int) : Option (Int × Bool) :=
 none
def oH (a_ : zb) (r : Int) (i : Int) : Option (Int × Bool) :=
 none
def pS (k : Nat) (k_ : Int) (a_ : zb) (r : Int) (i : Int) : Option (Int × Bool × zb) :=
 (bif k_ == 1 then
  (ss k a_ r i).bind fun t_ =>
  some (t_.1, t_.2.1, t_.2.2)
 else
  (bif k_ == 2 then
   (uQ k a_ r i).bind fun e =>
   some (e.1, e.2.1, e.2.2)
  else
   (bif k_ == 3 then
    (qc k a_ r i).bind fun j =>
    some (j.1, j.2.1, j.2.2)
   else
    (bif k_ == 4 then
     (hQ a_ r i).bind fun l =>
     some (l.1, l.2, a_)
    else
     (bif k_ == 5 then
      (oH a_ r i).bind fun t =>
      some (t.1, t.2, a_)
     else
      some (r, false, a_))))))
def wH (p : ze) : Option (Int) :=
 some p.most
def yM (p : ze) (v_ : zB) : Option (zf × Bool × ze) :=
 ((bif decide (w64 ((p.free.length : Int) - 1) >= 0) then
  (mIdx p.free (w64 ((p.free.length : Int) - 1))).bind fun x =>
  (mCut p.free 0 (w64 ((p.free.length : Int) - 1))).bind fun l =>
  some (.inr (x, ze.mk p.most p.l l))
 else
  (bif decide ((p.l.length : Int) >= p.most) then
   some (.inl (zf.mk 0 0, false, p))
  else
   (mApp p.l ([zp.mk 0 false (zB.mk 0 (zf.mk 0 0))] : List zp)).bind fun l1 =>
   some (.inr ((p.l.length : Int), ze.mk p.most l1 p.free)))) : Option ((zf × Bool × ze) ⊕ (Int × ze))).bind fun s =>
 match s with
 | .inl e => some e
 | .inr s1 =>
  (mIdx s1.2.l s1.1).bind fun x1 =>
  some (zf.mk s1.1 (w64 (x1.gen + 1)), true, ze.mk s1.2.most (mSet (mSet (mSet s1.2.l s1.1 (zp.mk (w64 (x1.gen + 1)) x1.taken x1.v_)) s1.1 (zp.mk (w64 (x1.gen + 1)) true x1.v_)) s1.1 (zp.mk (w64 (x1.gen + 1)) true v_)) s1.2.free)
def uT (t_ : zj) (t : zf) (cell : Int) : Option (zf × Int × zj) :=
 (yJ t_.heaps t).bind fun i =>
 (bif i.2 != 0 then
  some (zf.mk 0 0, i.2, t_)
 else
  (sS kI cell (zf.mk 0 0) t_.at_).bind fun x =>
  (y9 t_.items).bind fun j =>
  (wH t_.items).bind fun l =>
  (bif j == l then
   some (zf.mk 0 0, 13, t_)
  else
   (bif x.2 then
    some (zf.mk 0 0, 1, t_)
   else
    (yM t_.items (zB.mk cell t)).bind fun e =>
    some (e.1, 0, zj.mk ((zj.mk t_.heaps e.2.2 t_.at_).heaps) ((zj.mk t_.heaps e.2.2 t_.at_).items) (mPut kI cell e.1 ((zj.mk t_.heaps e.2.2 t_.at_).at_))))))
def xE (p : zh) (r : zf) (v_ : zC) : Option (Int × zh) :=
 (y8 p r).bind fun t_ =>
 (vD t_.1
  (((bif t_.2 == 0 then
   none
  else
   some ())).bind fun s =>
  some (t_.2, p))
  (fun i =>
  (mIdx p.l i).bind fun x =>
  ((bif t_.2 == 0 then
   some (zh.mk p.most (mSet p.l i (zs.mk x.gen x.taken v_)) p.free)
  else
   some p)).bind fun s1 =>
  some (t_.2, s1)))
def xx (t_ : zj) (j : zf) (r : Int) (n : Int) : Option (Int × zj) :=
 (yJ t_.heaps j).bind fun e =>
 ((bif e.2 == 0 then
  (xE t_.heaps j (zC.mk e.1.kind r n)).bind fun i =>
  some (zj.mk i.2 t_.items t_.at_)
 else
  some t_)).bind fun s =>
 some (e.2, s)
def uv (k : Nat) (q : zo) (l : yk) : Option (zL × zo) :=
 (xh q.t_ l.Heap).bind fun t_ =>
 (bif t_.2.2.2 != 0 then
  (vu t_.2.2.2).bind fun t =>
  some (t, q)
 else
  (vY q.t_).bind fun u =>
  (bif decide (u >= q.items) then
   (vu 13).bind fun x =>
   some (x, q)
  else
   (oL q.a_ l.Key q.serial).bind fun j =>
   (pS k t_.1 j.2.2 t_.2.1 j.1).bind fun i =>
   (uT q.t_ l.Heap j.1).bind fun e =>
   (xx ((zo.mk q.items i.2.2 e.2.2 q.entries q.serial).t_) l.Heap i.1 (w64 (t_.2.2.1 + 1))).bind fun y =>
   some (zL.mk 0 (zf.mk 0 0) e.1 (zi.mk l.Key q.serial) 0, zo.mk ((zo.mk q.items i.2.2 e.2.2 q.entries q.serial).items) ((zo.mk q.items i.2.2 e.2.2 q.entries q.serial).a_) y.2 (mPut zf.eq e.1 (zi.mk l.Key q.serial) ((zo.mk q.items i.2.2 e.2.2 q.entries q.serial).entries)) (w64 (((zo.mk q.items i.2.2 e.2.2 q.entries q.serial).serial) + 1)))))
def rD (a_ : zb) (r : Int) : Option (Int × zb) :=
 (zF a_ r 6).bind fun t_ =>
 some (t_.1, t_.2)
def wX (x1 : Int) (l1 : List Int) : Nat -> Int -> Int -> zb -> Option (Int × zb)
 | 0, _, _, _ => none
 | m + 1, e, x, m_ =>
  (bif decide (x < x1) then
   ((mIdx l1 x).bind fun x2 =>
   ((bif e == (-1) then
    some (true, m_)
   else
    (vN m m_ x2 e).bind fun t_ =>
    some (t_.1, t_.2))).bind fun s2 =>
   (bif s2.1 then
    some (x2, s2.2)
   else
    some (e, s2.2))).bind fun s1 =>
   wX x1 l1 m s1.1 (w64 (x + 1)) s1.2
  else
   some (e, m_))
def vv (k : Nat) (a_ : zb) (l : List Int) : Option (Int × zb) :=
 (wX (l.length : Int) l k (-1) 0 a_).bind fun s =>
 some (s.1, s.2)
def tv (k : Nat) (a_ : zb) (r : Int) : Option (Int × zb) :=
 (wC k a_ r).bind fun t_ =>
 (vv k t_.2 t_.1).bind fun e =>
 (zF e.2 e.1 6).bind fun i =>
 some (i.1, i.2)
def py (k : Nat) (a_ : zb) (r : Int) : Option (Int × zb) :=
 (wC k a_ r).bind fun t_ =>
 (vv k t_.2 t_.1).bind fun e =>
 (zF e.2 e.1 6).bind fun i =>
 some (i.1, i.2)
def fT (a_ : zb) (r : Int) : Option (Int) :=
 none
def o5 (a_ : zb) (r : Int) : Option (Int) :=
 none
def oT (k : Nat) (k_ : Int) (a_ : zb) (r : Int) : Option (Int × zb) :=
 (bif k_ == 1 then
  (rD a_ r).bind fun t_ =>
  some (t_.1, t_.2)
 else
  (bif k_ == 2 then
   (tv k a_ r).bind fun e =>
   some (e.1, e.2)
  else
   (bif k_ == 3 then
    (py k a_ r).bind fun i =>
    some (i.1, i.2)
   else
    (bif k_ == 4 then
     (fT a_ r).bind fun j =>
     some (j, a_)
    else
     (bif k_ == 5 then
      (o5 a_ r).bind fun l =>
      some (l, a_)
     else
      some ((-1), a_))))))
def ua (t_ : zj) (cell : Int) : Option (zf × Bool) :=
 (sS kI cell (zf.mk 0 0) t_.at_).bind fun x =>
 some (x.1, x.2)
def rP (k : Nat) (a_ : zb) (n : Int) : Option (Int × zb) :=
 (zF a_ n 2).bind fun t_ =>
 (zF t_.2 n 3).bind fun e =>
 (vd k e.2 t_.1 e.1).bind fun i =>
 some (i.1, i.2)
def vj (a_ : zb) (e : Int) : Option (Bool × zb) :=
 (xw a_.m_ 1).bind fun t_ =>
 (yr (zb.mk a_.l a_.never a_.free t_) e).bind fun i =>
 (bif !i then
  some (false, zb.mk a_.l a_.never a_.free t_)
 else
  (mIdx a_.l e).bind fun x =>
  (mApp a_.free ([e] : List Int)).bind fun l =>
  some (true, zb.mk (mSet a_.l e (zr.mk x.f0 x.f1 x.f2 x.f3 x.f4 x.f5 x.f6 x.f7 x.f8 x.f9 false)) a_.never l t_))
def rm (a_ : zb) (n : Int) : Option (Int × zb) :=
 (zF a_ n 6).bind fun t_ =>
 (zz t_.2 t_.1 9 (-1)).bind fun e =>
 (vj e.2 n).bind fun i =>
 some (t_.1, i.2)
def uF (k : Nat) (a_ : zb) (r : Int) : Option (Int × Int × zb) :=
 ((yr a_ r).bind fun t_ =>
 some (!t_)).bind fun s =>
 (bif s then
  some ((-1), (-1), a_)
 else
  (rP k a_ r).bind fun e =>
  (zz e.2 e.1 0 (-1)).bind fun j =>
  (rm j.2 r).bind fun i =>
  some (e.1, i.1, i.2))
def wP (x : Int) (v_ : Int) : Option (Bool) :=
 some (x == v_)
def ya (x1 : Int) (l : List Int) (e : Int) : Nat -> Int -> Option ((Int) ⊕ (Unit))
 | 0, _ => none
 | m + 1, x =>
  (bif decide (x < x1) then
   (mIdx l x).bind fun x2 =>
   (wP x2 e).bind fun t_ =>
   (bif t_ then
    some (.inl x)
   else
    ya x1 l e m (w64 (x + 1)))
  else
   some (.inr ()))
def wg (k : Nat) (s : List Int) (v_ : Int) : Option (Int) :=
 (ya (s.length : Int) s v_ k 0).bind fun s1 =>
 match s1 with
 | .inl e => some e
 | .inr s2 =>
  some (-1)
def yl (e : Int) : Nat -> Int -> Int -> (List Int) -> Option (Int × (List Int))
 | 0, _, _, _ => none
 | m + 1, i, j, m_ =>
  (bif decide (j < (m_.length : Int)) then
   ((mIdx m_ j).bind fun x =>
   (wP x e).bind fun l =>
   (bif !l then
    (mIdx m_ i).bind fun x1 =>
    some (w64 (i + 1), mSet m_ i x)
   else
    some (i, m_))).bind fun s2 =>
   yl e m s2.1 (w64 (j + 1)) s2.2
  else
   some (i, m_))
def xm (k : Nat) (s : List Int) (v_ : Int) : Option ((List Int)) :=
 (wg k s v_).bind fun t_ =>
 (bif t_ == (-1) then
  some s
 else
  (yl v_ k t_ (w64 (t_ + 1)) s).bind fun s1 =>
  (mCut s1.2 s1.1 (s1.2.length : Int)).bind fun l =>
  (mCut (rL s1.2 s1.1 0) 0 s1.1).bind fun l1 =>
  some l1)
def tJ (k : Nat) (a_ : zb) (n : Int) : Option ((List Int) × zb) :=
 (zF a_ n 1).bind fun t_ =>
 (pw k t_.2 t_.1 3).bind fun e =>
 some (e.1, e.2)
def xK (k : Nat) (a_ : zb) (l : List Int) (n : Int) : Option (Int × Int × zb) :=
 (xm k l n).bind fun t_ =>
 (tJ k a_ n).bind fun e =>
 (mApp t_ e.1).bind fun l1 =>
 (rm e.2 n).bind fun i =>
 (vh k i.2 l1).bind fun j =>
 some (j.1, i.1, j.2)
def tm (k : Nat) (a_ : zb) (r : Int) : Option (Int × Int × zb) :=
 ((yr a_ r).bind fun t_ =>
 some (!t_)).bind fun s =>
 (bif s then
  some ((-1), (-1), a_)
 else
  (wC k a_ r).bind fun e =>
  (vv k e.2 e.1).bind fun j =>
  (xK k j.2 e.1 j.1).bind fun i =>
  some (i.1, i.2.1, i.2.2))
def vM (x : Int) (v_ : Int) : Option (Bool) :=
 some (x == v_)
def yb (x1 : Int) (l : List Int) (e : Int) : Nat -> Int -> Option ((Int) ⊕ (Unit))
 | 0, _ => none
 | m + 1, x =>
  (bif decide (x < x1) then
   (mIdx l x).bind fun x2 =>
   (vM x2 e).bind fun t_ =>
   (bif t_ then
    some (.inl x)
   else
    yb x1 l e m (w64 (x + 1)))
  else
   some (.inr ()))
def we (k : Nat) (s : List Int) (v_ : Int) : Option (Int) :=
 (yb (s.length : Int) s v_ k 0).bind fun s1 =>
 match s1 with
 | .inl e => some e
 | .inr s2 =>
  some (-1)
def ym (e : Int) : Nat -> Int -> Int -> (List Int) -> Option (Int × (List Int))
 | 0, _, _, _ => none
 | m + 1, i, j, m_ =>
  (bif decide (j < (m_.length : Int)) then
   ((mIdx m_ j).bind fun x =>
   (vM x e).bind fun l =>
   (bif !l then
    (mIdx m_ i).bind fun x1 =>
    some (w64 (i + 1), mSet m_ i x)
   else
    some (i, m_))).bind fun s2 =>
   ym e m s2.1 (w64 (j + 1)) s2.2
  else
   some (i, m_))
def xl (k : Nat) (s : List Int) (v_ : Int) : Option ((List Int)) :=
 (we k s v_).bind fun t_ =>
 (bif t_ == (-1) then
  some s
 else
  (ym v_ k t_ (w64 (t_ + 1)) s).bind fun s1 =>
  (mCut s1.2 s1.1 (s1.2.length : Int)).bind fun l =>
  (mCut (rL s1.2 s1.1 0) 0 s1.1).bind fun l1 =>
  some l1)
def wm (x1 : Int) (l1 : List Int) (v_ : Int) : Nat -> (List Int) -> (List Int) -> Int -> zb -> Option ((List Int) × (List Int) × zb)
 | 0, _, _, _, _ => none
 | m + 1, rest, alone, x, m_ =>
  (bif decide (x < x1) then
   ((mIdx l1 x).bind fun x2 =>
   (zY m_ x2 4).bind fun e =>
   (bif e.1 == 0 then
    (mApp alone ([x2] : List Int)).bind fun l2 =>
    some (rest, l2, e.2)
   else
    (mApp rest ([x2] : List Int)).bind fun i =>
    some (i, alone, e.2))).bind fun s1 =>
   wm x1 l1 v_ m s1.1 s1.2.1 (w64 (x + 1)) s1.2.2
  else
   some (rest, alone, m_))
def wo (i : Int) (x4 : Int) (l : List Int) : Nat -> Int -> Int -> zb -> Option (Int × zb)
 | 0, _, _, _ => none
 | m + 1, t, x3, e =>
  (bif decide (x3 < x4) then
   (mIdx l x3).bind fun x5 =>
   (u5 m e t x5).bind fun j =>
   wo i x4 l m j.1 (w64 (x3 + 1)) j.2
  else
   some (t, e))
def vc (k : Nat) (a_ : zb) (l : List Int) (n : Int) : Option (Int × Int × zb) :=
 (xl k l n).bind fun t_ =>
 (tJ k a_ n).bind fun e =>
 (wm (e.1.length : Int) e.1 n k t_ ([] : List Int) 0 e.2).bind fun s =>
 (rm s.2.2 n).bind fun i =>
 (vh k i.2 s.1).bind fun j =>
 (wo i.1 (s.2.1.length : Int) s.2.1 k j.1 0 j.2).bind fun s2 =>
 some (s2.1, i.1, s2.2)
def q9 (k : Nat) (a_ : zb) (r : Int) : Option (Int × Int × zb) :=
 ((yr a_ r).bind fun t_ =>
 some (!t_)).bind fun s =>
 (bif s then
  some ((-1), (-1), a_)
 else
  (wC k a_ r).bind fun e =>
  (vv k e.2 e.1).bind fun j =>
  (vc k j.2 e.1 j.1).bind fun i =>
  some (i.1, i.2.1, i.2.2))
def eg (a_ : zb) (r : Int) : Option (Int × Int) :=
 none
def nI (a_ : zb) (r : Int) : Option (Int × Int) :=
 none
def oN (k : Nat) (k_ : Int) (a_ : zb) (r : Int) : Option (Int × Int × zb) :=
 (bif k_ == 1 then
  (uF k a_ r).bind fun t_ =>
  some (t_.1, t_.2.1, t_.2.2)
 else
  (bif k_ == 2 then
   (tm k a_ r).bind fun e =>
   some (e.1, e.2.1, e.2.2)
  else
   (bif k_ == 3 then
    (q9 k a_ r).bind fun i =>
    some (i.1, i.2.1, i.2.2)
   else
    (bif k_ == 4 then
     (eg a_ r).bind fun j =>
     some (j.1, j.2, a_)
    else
     (bif k_ == 5 then
      (nI a_ r).bind fun l =>
      some (l.1, l.2, a_)
     else
      some ((-1), (-1), a_))))))
def y0 (p : ze) (r : zf) : Option ((Option Int) × Int) :=
 ((bif decide (r.At < 0) then
  some true
 else
  (bif decide (r.At >= (p.l.length : Int)) then
   some true
  else
   (bif decide (r.Gen < 1) then
    some true
   else
    (mIdx p.l r.At).bind fun x1 =>
    some (decide (r.Gen > x1.gen)))))).bind fun s =>
 (bif s then
  some ((none : Option Int), 22)
 else
  (mIdx p.l r.At).bind fun x2 =>
  (bif (decide (r.Gen < x2.gen)) || (!x2.taken) then
   some ((none : Option Int), 23)
  else
   some ((some r.At : Option Int), 0)))
def xN (p : ze) (r : zf) : Option (zB × Int × ze) :=
 (y0 p r).bind fun t_ =>
 (vD t_.1
  ((bif t_.2 != 0 then
   some (zB.mk 0 (zf.mk 0 0), t_.2, p)
  else
   none))
  (fun i =>
  (mIdx p.l i).bind fun x =>
  (bif t_.2 != 0 then
   some (zB.mk 0 (zf.mk 0 0), t_.2, p)
  else
   (mApp p.free ([r.At] : List Int)).bind fun l =>
   some (x.v_, 0, ze.mk p.most (mSet (mSet p.l i (zp.mk x.gen false x.v_)) i (zp.mk x.gen false (zB.mk 0 (zf.mk 0 0)))) l))))
def tw (t_ : zj) (i : zf) : Option (Int × Int × zj) :=
 (xN t_.items i).bind fun e =>
 ((bif e.2.1 == 0 then
  some (zj.mk ((zj.mk t_.heaps e.2.2 t_.at_).heaps) ((zj.mk t_.heaps e.2.2 t_.at_).items) (mDel kI e.1.cell ((zj.mk t_.heaps e.2.2 t_.at_).at_)))
 else
  some (zj.mk t_.heaps e.2.2 t_.at_))).bind fun s =>
 some (e.1.cell, e.2.1, s)
def uj (q : zo) (i : zf) : Option (zi × zo) :=
 (tw q.t_ i).bind fun t_ =>
 (vj q.a_ t_.1).bind fun e =>
 (sS zf.eq i (zi.mk 0 0) q.entries).bind fun x =>
 some (x.1, zo.mk q.items e.2 t_.2.2 (mDel zf.eq i q.entries) q.serial)
def vf (k : Nat) (q : zo) (A : zf) (out : Bool) : Option (zL × zo) :=
 (xh q.t_ A).bind fun t_ =>
 (bif t_.2.2.2 != 0 then
  (vu t_.2.2.2).bind fun u =>
  some (u, q)
 else
  (bif t_.2.2.1 == 0 then
   (vu 27).bind fun y =>
   some (y, q)
  else
   (bif !out then
    (oT k t_.1 q.a_ t_.2.1).bind fun e =>
    (ua q.t_ e.1).bind fun j =>
    (sS zf.eq j.1 (zi.mk 0 0) ((zo.mk q.items e.2 q.t_ q.entries q.serial).entries)).bind fun x =>
    some (zL.mk 0 (zf.mk 0 0) j.1 x.1 0, (zo.mk q.items e.2 q.t_ q.entries q.serial))
   else
    (oN k t_.1 q.a_ t_.2.1).bind fun i =>
    (ua q.t_ i.2.1).bind fun l =>
    (xx q.t_ A i.1 (w64 (t_.2.2.1 - 1))).bind fun z =>
    (uj (zo.mk q.items i.2.2 z.2 q.entries q.serial) l.1).bind fun t =>
    some (zL.mk 0 (zf.mk 0 0) l.1 t.1 0, t.2))))
def yt (p : ze) (r : zf) : Option (zB × Int) :=
 (y0 p r).bind fun t_ =>
 (vD t_.1
  ((bif t_.2 != 0 then
   some (zB.mk 0 (zf.mk 0 0), t_.2)
  else
   none))
  (fun i =>
  (mIdx p.l i).bind fun x =>
  (bif t_.2 != 0 then
   some (zB.mk 0 (zf.mk 0 0), t_.2)
  else
   some (x.v_, 0))))
def vr (t_ : zj) (i : zf) : Option (Int × Int) :=
 (yt t_.items i).bind fun e =>
 some (e.1.cell, e.2)
def v8 (t_ : zj) (i : zf) : Option (zf × Int) :=
 (yt t_.items i).bind fun e =>
 some (e.1.heap, e.2)
def tK (a_ : zb) (i : Int) (key : Int) : Option (Bool × zb) :=
 ((zY a_ i 7).bind fun t_ =>
 some (decide (key > t_.1), t_.2)).bind fun s =>
 (bif s.1 then
  some (false, s.2)
 else
  (zz s.2 i 7 key).bind fun e =>
  some (e.1, e.2))
def vT (a_ : zb) (i : Int) : Option (Int × zb) :=
 (zF a_ i 9).bind fun t_ =>
 some (t_.1, t_.2)
def xz : Nat -> Int -> Int -> zb -> Option (zb)
 | 0, _, _, _ => none
 | m + 1, p, k_, m_ =>
  ((bif p != (-1) then
   (xT m_).bind fun j =>
   (bif decide (k_ <= j) then
    (sf m_ p).bind fun e =>
    some (e.1, e.2)
   else
    some (false, m_))
  else
   some (false, m_))).bind fun s2 =>
  (bif s2.1 then
   (zF s2.2 p 0).bind fun i =>
   xz m i.1 (w64 (k_ + 1)) i.2
  else
   some s2.2)
def uL (k : Nat) (a_ : zb) (n : Int) : Option (zb) :=
 (zF a_ n 0).bind fun t_ =>
 (zF t_.2 t_.1 2).bind fun e =>
 ((bif e.1 == n then
  (zz e.2 t_.1 2 (-1)).bind fun j =>
  some j.2
 else
  (zF e.2 t_.1 3).bind fun i =>
  (bif i.1 == n then
   (zz i.2 t_.1 3 (-1)).bind fun l =>
   some l.2
  else
   some i.2))).bind fun s =>
 (zz s n 0 (-1)).bind fun t =>
 (xz k t_.1 0 t.2).bind fun s1 =>
 some s1
def sH (k : Nat) (a_ : zb) (r : Int) (i : Int) : Option (Int × zb) :=
 (vT a_ i).bind fun t_ =>
 ((bif t_.1 == (-1) then
  some (true, t_.2)
 else
  (bif t_.1 == r then
   some (true, t_.2)
  else
   (zF t_.2 t_.1 0).bind fun e =>
   some (e.1 == (-1), e.2)))).bind fun s =>
 (bif s.1 then
  some (r, s.2)
 else
  (uL k s.2 t_.1).bind fun l =>
  (vd k l r t_.1).bind fun j =>
  some (j.1, j.2))
def vg (i : Bool) : Nat -> Int -> Int -> zb -> Option (Int × zb)
 | 0, _, _, _ => none
 | m + 1, n, k_, m_ =>
  ((bif n != (-1) then
   (xT m_).bind fun l =>
   some (decide (k_ <= l))
  else
   some false)).bind fun s1 =>
  (bif s1 then
   (zF m_ n 0).bind fun e =>
   ((bif e.1 == (-1) then
    some (true, e.2)
   else
    (bif !i then
     (vN m e.2 n e.1).bind fun j =>
     some (!j.1, j.2)
    else
     some (false, e.2)))).bind fun s2 =>
   (bif s2.1 then
    some (n, s2.2)
   else
    (sV s2.2 n e.1).bind fun t =>
    vg i m e.1 (w64 (k_ + 1)) t)
  else
   some (n, m_))
def ta (k : Nat) (a_ : zb) (i : Int) (any : Bool) : Option (Int × zb) :=
 (vT a_ i).bind fun t_ =>
 (vg any k t_.1 0 t_.2).bind fun s =>
 some (s.1, s.2)
def uS (k : Nat) (a_ : zb) (r : Int) (i : Int) : Option (Int × zb) :=
 (ta k a_ i false).bind fun t_ =>
 some (r, t_.2)
def rU (k : Nat) (a_ : zb) (r : Int) (i : Int) : Option (Int × zb) :=
 (ta k a_ i false).bind fun t_ =>
 some (r, t_.2)
def gb (a_ : zb) (r : Int) (i : Int) : Option (Int) :=
 none
def oE (a_ : zb) (r : Int) (i : Int) : Option (Int) :=
 none
def pt (k : Nat) (k_ : Int) (a_ : zb) (r : Int) (i : Int) : Option (Int × zb) :=
 (bif k_ == 1 then
  (sH k a_ r i).bind fun t_ =>
  some (t_.1, t_.2)
 else
  (bif k_ == 2 then
   (uS k a_ r i).bind fun e =>
   some (e.1, e.2)
  else
   (bif k_ == 3 then
    (rU k a_ r i).bind fun j =>
    some (j.1, j.2)
   else
    (bif k_ == 4 then
     (gb a_ r i).bind fun l =>
     some (l, a_)
    else
     (bif k_ == 5 then
      (oE a_ r i).bind fun t =>
      some (t, a_)
     else
      some (r, a_))))))
def vL (k : Nat) (q : zo) (e : yk) : Option (zL × zo) :=
 (vr q.t_ e.Item).bind fun t_ =>
 (sS zf.eq e.Item (zi.mk 0 0) q.entries).bind fun x =>
 (bif t_.2 != 0 then
  (vu t_.2).bind fun t =>
  some (t, q)
 else
  (bif decide (e.Key > x.1.Key) then
   (vu 26).bind fun u =>
   some (u, q)
  else
   (v8 q.t_ e.Item).bind fun j =>
   (xh q.t_ j.1).bind fun i =>
   (tK q.a_ t_.1 e.Key).bind fun y =>
   (pt k i.1 y.2 i.2.1 t_.1).bind fun l =>
   (xx q.t_ j.1 l.1 i.2.2.1).bind fun z =>
   some (zL.mk 0 (zf.mk 0 0) (zf.mk 0 0) (zi.mk e.Key x.1.Serial) 0, zo.mk q.items l.2 z.2 (mPut zf.eq e.Item (zi.mk e.Key x.1.Serial) q.entries) q.serial)))
def ru (k : Nat) (a_ : zb) (r : Int) (i : Int) : Option (Int × zb) :=
 (vT a_ i).bind fun t_ =>
 (bif t_.1 == (-1) then
  some (r, t_.2)
 else
  ((bif t_.1 == r then
   some (true, t_.2)
  else
   (zF t_.2 t_.1 0).bind fun e =>
   some (e.1 == (-1), e.2))).bind fun s =>
  (bif s.1 then
   (uF k s.2 t_.1).bind fun j =>
   some (j.1, j.2.2)
  else
   (uL k s.2 t_.1).bind fun u =>
   (uF k u t_.1).bind fun l =>
   (vd k l.2.2 r l.1).bind fun t =>
   some (t.1, t.2)))
def wN (e : Int) (x1 : Int) (l : List Int) : Nat -> Int -> Option ((Int) ⊕ (Unit))
 | 0, _ => none
 | m + 1, x =>
  (bif decide (x < x1) then
   (mIdx l x).bind fun x2 =>
   (bif e == x2 then
    some (.inl x)
   else
    wN e x1 l m (w64 (x + 1)))
  else
   some (.inr ()))
def tC (k : Nat) (s : List Int) (v_ : Int) : Option (Int) :=
 (wN v_ (s.length : Int) s k 0).bind fun s1 =>
 match s1 with
 | .inl e => some e
 | .inr s2 =>
  some (-1)
def wS (k : Nat) (s : List Int) (v_ : Int) : Option (Bool) :=
 (tC k s v_).bind fun t_ =>
 some (decide (t_ >= 0))
def tq (k : Nat) (a_ : zb) (r : Int) (i : Int) : Option (Int × zb) :=
 (vT a_ i).bind fun t_ =>
 (bif t_.1 == (-1) then
  some (r, t_.2)
 else
  (ta k t_.2 i true).bind fun j =>
  (wC k j.2 r).bind fun e =>
  (wS k e.1 j.1).bind fun t =>
  (bif !t then
   some (r, e.2)
  else
   (xK k e.2 e.1 j.1).bind fun l =>
   some (l.1, l.2.2)))
def q8 (k : Nat) (a_ : zb) (r : Int) (i : Int) : Option (Int × zb) :=
 (vT a_ i).bind fun t_ =>
 (bif t_.1 == (-1) then
  some (r, t_.2)
 else
  (ta k t_.2 i true).bind fun j =>
  (wC k j.2 r).bind fun e =>
  (wS k e.1 j.1).bind fun t =>
  (bif !t then
   some (r, e.2)
  else
   (vc k e.2 e.1 j.1).bind fun l =>
   some (l.1, l.2.2)))
def cj (a_ : zb) (r : Int) (i : Int) : Option (Int) :=
 none
def o4 (a_ : zb) (r : Int) (i : Int) : Option (Int) :=
 none
def oR (k : Nat) (k_ : Int) (a_ : zb) (r : Int) (i : Int) : Option (Int × zb) :=
 (bif k_ == 1 then
  (ru k a_ r i).bind fun t_ =>
  some (t_.1, t_.2)
 else
  (bif k_ == 2 then
   (tq k a_ r i).bind fun e =>
   some (e.1, e.2)
  else
   (bif k_ == 3 then
    (q8 k a_ r i).bind fun j =>
    some (j.1, j.2)
   else
    (bif k_ == 4 then
     (cj a_ r i).bind fun l =>
     some (l, a_)
    else
     (bif k_ == 5 then
      (o4 a_ r i).bind fun t =>
      some (t, a_)
     else
      some (r, a_))))))
def ux (k : Nat) (q : zo) (i : zf) : Option (zL × zo) :=
 (vr q.t_ i).bind fun t_ =>
 (bif t_.2 != 0 then
  (vu t_.2).bind fun u =>
  some (u, q)
 else
  (v8 q.t_ i).bind fun j =>
  (xh q.t_ j.1).bind fun e =>
  (oR k e.1 q.a_ e.2.1 t_.1).bind fun l =>
  (xx q.t_ j.1 l.1 (w64 (e.2.2.1 - 1))).bind fun x =>
  (uj (zo.mk q.items l.2 x.2 q.entries q.serial) i).bind fun t =>
  some (zL.mk 0 (zf.mk 0 0) (zf.mk 0 0) t.1 0, t.2))
def yT (x1 : Int) (m_ : ze) : Nat -> (List zf) -> Int -> Option ((List zf))
 | 0, _, _ => none
 | m + 1, out, x =>
  (bif decide (x < x1) then
   ((mIdx m_.l x).bind fun x2 =>
   (bif x2.taken then
    (mApp out ([zf.mk x x2.gen] : List zf)).bind fun l =>
    some l
   else
    some out)).bind fun s1 =>
   yT x1 m_ m s1 (w64 (x + 1))
  else
   some out)
def wh (k : Nat) (p : ze) : Option ((List zf)) :=
 (yT (p.l.length : Int) p k ([] : List zf) 0).bind fun s =>
 some s
def xU (x1 : Int) (m_ : zj) (l : List zf) (v_ : Int) (e : Int) : Nat -> (List zf) -> Int -> Option ((List zf))
 | 0, _, _ => none
 | m + 1, out, x =>
  (bif decide (x < x1) then
   ((mIdx l x).bind fun x2 =>
   (yt m_.items x2).bind fun i =>
   (bif zf.eq i.1.heap (zf.mk v_ e) then
    (mApp out ([x2] : List zf)).bind fun l1 =>
    some l1
   else
    some out)).bind fun s1 =>
   xU x1 m_ l v_ e m s1 (w64 (x + 1))
  else
   some out)
def uw (k : Nat) (t_ : zj) (i : zf) : Option ((List zf)) :=
 (wh k t_.items).bind fun e =>
 (xU (e.length : Int) t_ e i.At i.Gen k ([] : List zf) 0).bind fun s =>
 some s
def xY (p : ze) (r : zf) (v_ : zB) : Option (Int × ze) :=
 (y0 p r).bind fun t_ =>
 (vD t_.1
  (((bif t_.2 == 0 then
   none
  else
   some ())).bind fun s =>
  some (t_.2, p))
  (fun i =>
  (mIdx p.l i).bind fun x =>
  ((bif t_.2 == 0 then
   some (ze.mk p.most (mSet p.l i (zp.mk x.gen x.taken v_)) p.free)
  else
   some p)).bind fun s1 =>
  some (t_.2, s1)))
def xZ (p : zh) (r : zf) : Option (zC × Int × zh) :=
 (y8 p r).bind fun t_ =>
 (vD t_.1
  ((bif t_.2 != 0 then
   some (zC.mk 0 0 0, t_.2, p)
  else
   none))
  (fun i =>
  (mIdx p.l i).bind fun x =>
  (bif t_.2 != 0 then
   some (zC.mk 0 0 0, t_.2, p)
  else
   (mApp p.free ([r.At] : List Int)).bind fun l =>
   some (x.v_, 0, zh.mk p.most (mSet (mSet p.l i (zs.mk x.gen false x.v_)) i (zs.mk x.gen false (zC.mk 0 0 0))) l))))
def xS (x1 : Int) (l : List zf) (v_ : Int) (j : Int) (e : Int) (i : Int) : Nat -> Int -> zj -> Option (zj)
 | 0, _, _ => none
 | m + 1, x, m_ =>
  (bif decide (x < x1) then
   (mIdx l x).bind fun x2 =>
   (yt m_.items x2).bind fun t =>
   (xY m_.items x2 (zB.mk t.1.cell (zf.mk e i))).bind fun u =>
   xS x1 l v_ j e i m (w64 (x + 1)) (zj.mk m_.heaps u.2 m_.at_)
  else
   some m_)
def uu (k : Nat) (t_ : zj) (t : zf) (o : zf) : Option (Int × zj) :=
 (yJ t_.heaps t).bind fun e =>
 (bif e.2 != 0 then
  some (e.2, t_)
 else
  (yJ t_.heaps o).bind fun i =>
  (bif i.2 != 0 then
   some (i.2, t_)
  else
   (bif zf.eq t o then
    some (25, t_)
   else
    (bif e.1.kind != i.1.kind then
     some (24, t_)
    else
     (uw k t_ o).bind fun j =>
     (xS (j.length : Int) j o.At o.Gen t.At t.Gen k 0 t_).bind fun s =>
     (xZ s.heaps o).bind fun l =>
     some (l.2.1, zj.mk l.2.2 s.items s.at_)))))
def sB (k : Nat) (a_ : zb) (r : Int) (s : Int) : Option (Int × zb) :=
 (vd k a_ r s).bind fun t_ =>
 some (t_.1, t_.2)
def uM (k : Nat) (a_ : zb) (r : Int) (s : Int) : Option (Int × zb) :=
 (bif r == s then
  some (r, a_)
 else
  (wC k a_ r).bind fun t_ =>
  (wC k t_.2 s).bind fun e =>
  (mApp t_.1 e.1).bind fun l =>
  (vh k e.2 l).bind fun i =>
  some (i.1, i.2))
def qb (k : Nat) (a_ : zb) (r : Int) (s : Int) : Option (Int × zb) :=
 (bif r == s then
  some (r, a_)
 else
  (wC k a_ r).bind fun t_ =>
  (wC k t_.2 s).bind fun e =>
  (mApp t_.1 e.1).bind fun l =>
  (vh k e.2 l).bind fun i =>
  some (i.1, i.2))
def gn (a_ : zb) (r : Int) (s : Int) : Option (Int) :=
 none
def oI (a_ : zb) (r : Int) (s : Int) : Option (Int) :=
 none
def p3 (k : Nat) (k_ : Int) (a_ : zb) (r : Int) (s : Int) : Option (Int × zb) :=
 (bif k_ == 1 then
  (sB k a_ r s).bind fun t_ =>
  some (t_.1, t_.2)
 else
  (bif k_ == 2 then
   (uM k a_ r s).bind fun e =>
   some (e.1, e.2)
  else
   (bif k_ == 3 then
    (qb k a_ r s).bind fun i =>
    some (i.1, i.2)
   else
    (bif k_ == 4 then
     (gn a_ r s).bind fun j =>
     some (j, a_)
    else
     (bif k_ == 5 then
      (oI a_ r s).bind fun l =>
      some (l, a_)
     else
      some (r, a_))))))
def tf (k : Nat) (q : zo) (l : zf) (o : zf) : Option (zL × zo) :=
 (xh q.t_ l).bind fun t_ =>
 (xh q.t_ o).bind fun i =>
 (uu k q.t_ l o).bind fun e =>
 (bif e.1 != 0 then
  (vu e.1).bind fun t =>
  some (t, zo.mk q.items q.a_ e.2 q.entries q.serial)
 else
  (p3 k t_.1 q.a_ t_.2.1 i.2.1).bind fun j =>
  (xx e.2 l j.1 (w64 (t_.2.2.1 + i.2.2.1))).bind fun u =>
  some (zL.mk 0 (zf.mk 0 0) (zf.mk 0 0) (zi.mk 0 0) (w64 (t_.2.2.1 + i.2.2.1)), zo.mk q.items j.2 u.2 q.entries q.serial))
def ri (q : zo) (e : zf) : Option (zL) :=
 none
def yh (k : Nat) (q : zo) (i : yk) : Option (zL × zo) :=
 (td q.a_).bind fun t_ =>
 (u7 q.a_.m_).bind fun e =>
 (bif i.Op == 1 then
  (um q.t_ i.Kind).bind fun j =>
  some (zL.mk j.2.1 j.1 (zf.mk 0 0) (zi.mk 0 0) 0, zo.mk q.items (zb.mk q.a_.l q.a_.never q.a_.free e) j.2.2 q.entries q.serial)
 else
  (bif i.Op == 2 then
   (uv k (zo.mk q.items (zb.mk q.a_.l q.a_.never q.a_.free e) q.t_ q.entries q.serial) i).bind fun t =>
   some (t.1, t.2)
  else
   (bif i.Op == 3 then
    (vf k (zo.mk q.items (zb.mk q.a_.l q.a_.never q.a_.free e) q.t_ q.entries q.serial) i.Heap false).bind fun u =>
    some (u.1, u.2)
   else
    (bif i.Op == 4 then
     (vf k (zo.mk q.items (zb.mk q.a_.l q.a_.never q.a_.free e) q.t_ q.entries q.serial) i.Heap true).bind fun x =>
     some (x.1, x.2)
    else
     (bif i.Op == 5 then
      (vL k (zo.mk q.items (zb.mk q.a_.l q.a_.never q.a_.free e) q.t_ q.entries q.serial) i).bind fun y =>
      some (y.1, y.2)
     else
      (bif i.Op == 6 then
       (ux k (zo.mk q.items (zb.mk q.a_.l q.a_.never q.a_.free e) q.t_ q.entries q.serial) i.Item).bind fun z =>
       some (z.1, z.2)
      else
       (bif i.Op == 7 then
        (tf k (zo.mk q.items (zb.mk q.a_.l q.a_.never q.a_.free e) q.t_ q.entries q.serial) i.Heap i.Other).bind fun A =>
        some (A.1, A.2)
       else
        (bif i.Op == 8 then
         (xh q.t_ i.Heap).bind fun B =>
         some (zL.mk B.2.2.2 (zf.mk 0 0) (zf.mk 0 0) (zi.mk 0 0) B.2.2.1, zo.mk q.items (zb.mk q.a_.l q.a_.never q.a_.free e) q.t_ q.entries q.serial)
        else
         (bif i.Op == 9 then
          (ri (zo.mk q.items (zb.mk q.a_.l q.a_.never q.a_.free e) q.t_ q.entries q.serial) i.Heap).bind fun D =>
          some (D, zo.mk q.items (zb.mk q.a_.l q.a_.never q.a_.free e) q.t_ q.entries q.serial)
         else
          (vu 12).bind fun F =>
          some (F, zo.mk q.items (zb.mk q.a_.l q.a_.never q.a_.free e) q.t_ q.entries q.serial))))))))))
def sA (k : Nat) (k_ : Int) (most : Int) : Option ((Option za) × Int) :=
 (u6 k_).bind fun t_ =>
 (bif !t_ then
  some ((none : Option za), 24)
 else
  (sD k k_ most).bind fun i =>
  (bif !i.2 then
   some ((none : Option za), 1)
  else
   (gp most).bind fun l =>
   (vD l.1
    ((pM most).bind fun x =>
    (pX).bind fun y =>
    (wM (yk.mk 1 k_ (zf.mk 0 0) (zf.mk 0 0) (zf.mk 0 0) 0)).bind fun z =>
    (wM (yk.mk 1 k_ (zf.mk 0 0) (zf.mk 0 0) (zf.mk 0 0) 0)).bind fun A =>
    none)
    (fun m_ =>
    (pM most).bind fun t =>
    (pX).bind fun u =>
    (yh k m_ (yk.mk 1 k_ (zf.mk 0 0) (zf.mk 0 0) (zf.mk 0 0) 0)).bind fun j =>
    (yh k j.2 (yk.mk 1 k_ (zf.mk 0 0) (zf.mk 0 0) (zf.mk 0 0) 0)).bind fun e =>
    some (some (za.mk k_ most e.2 j.1.Heap e.1.Heap t ([] : List (zf × Int)) u i.1 0 0), 0)))))
def tT (places : Int) : Option (zk) :=
 some (zk.mk (if 0 > (if 65536 < places then 65536 else places) then 0 else (if 65536 < places then 65536 else places)) ([] : List Int) ([] : List Bool) ([] : List Int) ([] : List Int))
def ur (jobs : Int) : Option (zd) :=
 (tT jobs).bind fun t_ =>
 some (zd.mk jobs 0 0 t_ ([] : List zD))
def sX (m_ : zE) : Option (Int) :=
 some m_.steps
def sa (q : zo) : Option (Int) :=
 (td q.a_).bind fun t_ =>
 (sX q.a_.m_).bind fun e =>
 some e
def y5 (e : Int) : Option (zu) :=
 some (zu.mk e (zf.mk 0 0) 0 0 0)
def xP (p : zg) : Option (Int) :=
 some (w64 ((p.l.length : Int) - (p.free.length : Int)))
def ud (t_ : zn) : Option (Int) :=
 (xP t_.p).bind fun e =>
 some e
def w2 (p : zg) : Option (Int) :=
 some p.most
def yu (p : zg) (v_ : zA) : Option (zf × Bool × zg) :=
 ((bif decide (w64 ((p.free.length : Int) - 1) >= 0) then
  (mIdx p.free (w64 ((p.free.length : Int) - 1))).bind fun x =>
  (mCut p.free 0 (w64 ((p.free.length : Int) - 1))).bind fun l =>
  some (.inr (x, zg.mk p.most p.l l))
 else
  (bif decide ((p.l.length : Int) >= p.most) then
   some (.inl (zf.mk 0 0, false, p))
  else
   (mApp p.l ([zq.mk 0 false (zA.mk 0 0 0 (zf.mk 0 0))] : List zq)).bind fun l1 =>
   some (.inr ((p.l.length : Int), zg.mk p.most l1 p.free)))) : Option ((zf × Bool × zg) ⊕ (Int × zg))).bind fun s =>
 match s with
 | .inl e => some e
 | .inr s1 =>
  (mIdx s1.2.l s1.1).bind fun x1 =>
  some (zf.mk s1.1 (w64 (x1.gen + 1)), true, zg.mk s1.2.most (mSet (mSet (mSet s1.2.l s1.1 (zq.mk (w64 (x1.gen + 1)) x1.taken x1.v_)) s1.1 (zq.mk (w64 (x1.gen + 1)) true x1.v_)) s1.1 (zq.mk (w64 (x1.gen + 1)) true v_)) s1.2.free)
def sO (t_ : zn) (j : zA) : Option (zf × Int × zn) :=
 (sS zf.eq j.Item (zf.mk 0 0) t_.by_).bind fun x =>
 (xP t_.p).bind fun i =>
 (w2 t_.p).bind fun l =>
 (bif i == l then
  some (zf.mk 0 0, 13, t_)
 else
  (bif x.2 then
   some (zf.mk 0 0, 1, t_)
  else
   (yu t_.p j).bind fun e =>
   some (e.1, 0, zn.mk ((zn.mk e.2.2 t_.by_).p) (mPut zf.eq j.Item e.1 ((zn.mk e.2.2 t_.by_).by_)))))
def tH (j : zA) : Option (zu) :=
 some (zu.mk 0 (zf.mk 0 0) j.Time j.Data 0)
def xG (k : Nat) (d : za) (l : zy) : Option (zu × za) :=
 (ud d.t_).bind fun t_ =>
 (bif decide (t_ >= d.most) then
  (y5 13).bind fun t =>
  some (t, d)
 else
  (mIdx ([d.heaps0, d.heaps1] : List zf) l.Queue).bind fun x =>
  (yh k d.q (yk.mk 2 0 x (zf.mk 0 0) (zf.mk 0 0) l.Time)).bind fun e =>
  (sO ((za.mk d.kind d.most e.2 d.heaps0 d.heaps1 d.t_ d.when d.clock d.budget d.last d.top).t_) (zA.mk l.Queue l.Time l.Data e.1.Item)).bind fun i =>
  (tH (zA.mk l.Queue l.Time l.Data e.1.Item)).bind fun j =>
  some (zu.mk j.Why i.1 j.Time j.Data j.N, za.mk ((za.mk ((za.mk d.kind d.most e.2 d.heaps0 d.heaps1 d.t_ d.when d.clock d.budget d.last d.top).kind) ((za.mk d.kind d.most e.2 d.heaps0 d.heaps1 d.t_ d.when d.clock d.budget d.last d.top).most) ((za.mk d.kind d.most e.2 d.heaps0 d.heaps1 d.t_ d.when d.clock d.budget d.last d.top).q) ((za.mk d.kind d.most e.2 d.heaps0 d.heaps1 d.t_ d.when d.clock d.budget d.last d.top).heaps0) ((za.mk d.kind d.most e.2 d.heaps0 d.heaps1 d.t_ d.when d.clock d.budget d.last d.top).heaps1) i.2.2 ((za.mk d.kind d.most e.2 d.heaps0 d.heaps1 d.t_ d.when d.clock d.budget d.last d.top).when) ((za.mk d.kind d.most e.2 d.heaps0 d.heaps1 d.t_ d.when d.clock d.budget d.last d.top).clock) ((za.mk d.kind d.most e.2 d.heaps0 d.heaps1 d.t_ d.when d.clock d.budget d.last d.top).budget) ((za.mk d.kind d.most e.2 d.heaps0 d.heaps1 d.t_ d.when d.clock d.budget d.last d.top).last) ((za.mk d.kind d.most e.2 d.heaps0 d.heaps1 d.t_ d.when d.clock d.budget d.last d.top).top)).kind) ((za.mk ((za.mk d.kind d.most e.2 d.heaps0 d.heaps1 d.t_ d.when d.clock d.budget d.last d.top).kind) ((za.mk d.kind d.most e.2 d.heaps0 d.heaps1 d.t_ d.when d.clock d.budget d.last d.top).most) ((za.mk d.kind d.most e.2 d.heaps0 d.heaps1 d.t_ d.when d.clock d.budget d.last d.top).q) ((za.mk d.kind d.most e.2 d.heaps0 d.heaps1 d.t_ d.when d.clock d.budget d.last d.top).heaps0) ((za.mk d.kind d.most e.2 d.heaps0 d.heaps1 d.t_ d.when d.clock d.budget d.last d.top).heaps1) i.2.2 ((za.mk d.kind d.most e.2 d.heaps0 d.heaps1 d.t_ d.when d.clock d.budget d.last d.top).when) ((za.mk d.kind d.most e.2 d.heaps0 d.heaps1 d.t_ d.when d.clock d.budget d.last d.top).clock) ((za.mk d.kind d.most e.2 d.heaps0 d.heaps1 d.t_ d.when d.clock d.budget d.last d.top).budget) ((za.mk d.kind d.most e.2 d.heaps0 d.heaps1 d.t_ d.when d.clock d.budget d.last d.top).last) ((za.mk d.kind d.most e.2 d.heaps0 d.heaps1 d.t_ d.when d.clock d.budget d.last d.top).top)).most) ((za.mk ((za.mk d.kind d.most e.2 d.heaps0 d.heaps1 d.t_ d.when d.clock d.budget d.last d.top).kind) ((za.mk d.kind d.most e.2 d.heaps0 d.heaps1 d.t_ d.when d.clock d.budget d.last d.top).most) ((za.mk d.kind d.most e.2 d.heaps0 d.heaps1 d.t_ d.when d.clock d.budget d.last d.top).q) ((za.mk d.kind d.most e.2 d.heaps0 d.heaps1 d.t_ d.when d.clock d.budget d.last d.top).heaps0) ((za.mk d.kind d.most e.2 d.heaps0 d.heaps1 d.t_ d.when d.clock d.budget d.last d.top).heaps1) i.2.2 ((za.mk d.kind d.most e.2 d.heaps0 d.heaps1 d.t_ d.when d.clock d.budget d.last d.top).when) ((za.mk d.kind d.most e.2 d.heaps0 d.heaps1 d.t_ d.when d.clock d.budget d.last d.top).clock) ((za.mk d.kind d.most e.2 d.heaps0 d.heaps1 d.t_ d.when d.clock d.budget d.last d.top).budget) ((za.mk d.kind d.most e.2 d.heaps0 d.heaps1 d.t_ d.when d.clock d.budget d.last d.top).last) ((za.mk d.kind d.most e.2 d.heaps0 d.heaps1 d.t_ d.when d.clock d.budget d.last d.top).top)).q) ((za.mk ((za.mk d.kind d.most e.2 d.heaps0 d.heaps1 d.t_ d.when d.clock d.budget d.last d.top).kind) ((za.mk d.kind d.most e.2 d.heaps0 d.heaps1 d.t_ d.when d.clock d.budget d.last d.top).most) ((za.mk d.kind d.most e.2 d.heaps0 d.heaps1 d.t_ d.when d.clock d.budget d.last d.top).q) ((za.mk d.kind d.most e.2 d.heaps0 d.heaps1 d.t_ d.when d.clock d.budget d.last d.top).heaps0) ((za.mk d.kind d.most e.2 d.heaps0 d.heaps1 d.t_ d.when d.clock d.budget d.last d.top).heaps1) i.2.2 ((za.mk d.kind d.most e.2 d.heaps0 d.heaps1 d.t_ d.when d.clock d.budget d.last d.top).when) ((za.mk d.kind d.most e.2 d.heaps0 d.heaps1 d.t_ d.when d.clock d.budget d.last d.top).clock) ((za.mk d.kind d.most e.2 d.heaps0 d.heaps1 d.t_ d.when d.clock d.budget d.last d.top).budget) ((za.mk d.kind d.most e.2 d.heaps0 d.heaps1 d.t_ d.when d.clock d.budget d.last d.top).last) ((za.mk d.kind d.most e.2 d.heaps0 d.heaps1 d.t_ d.when d.clock d.budget d.last d.top).top)).heaps0) ((za.mk ((za.mk d.kind d.most e.2 d.heaps0 d.heaps1 d.t_ d.when d.clock d.budget d.last d.top).kind) ((za.mk d.kind d.most e.2 d.heaps0 d.heaps1 d.t_ d.when d.clock d.budget d.last d.top).most) ((za.mk d.kind d.most e.2 d.heaps0 d.heaps1 d.t_ d.when d.clock d.budget d.last d.top).q) ((za.mk d.kind d.most e.2 d.heaps0 d.heaps1 d.t_ d.when d.clock d.budget d.last d.top).heaps0) ((za.mk d.kind d.most e.2 d.heaps0 d.heaps1 d.t_ d.when d.clock d.budget d.last d.top).heaps1) i.2.2 ((za.mk d.kind d.most e.2 d.heaps0 d.heaps1 d.t_ d.when d.clock d.budget d.last d.top).when) ((za.mk d.kind d.most e.2 d.heaps0 d.heaps1 d.t_ d.when d.clock d.budget d.last d.top).clock) ((za.mk d.kind d.most e.2 d.heaps0 d.heaps1 d.t_ d.when d.clock d.budget d.last d.top).budget) ((za.mk d.kind d.most e.2 d.heaps0 d.heaps1 d.t_ d.when d.clock d.budget d.last d.top).last) ((za.mk d.kind d.most e.2 d.heaps0 d.heaps1 d.t_ d.when d.clock d.budget d.last d.top).top)).heaps1) ((za.mk ((za.mk d.kind d.most e.2 d.heaps0 d.heaps1 d.t_ d.when d.clock d.budget d.last d.top).kind) ((za.mk d.kind d.most e.2 d.heaps0 d.heaps1 d.t_ d.when d.clock d.budget d.last d.top).most) ((za.mk d.kind d.most e.2 d.heaps0 d.heaps1 d.t_ d.when d.clock d.budget d.last d.top).q) ((za.mk d.kind d.most e.2 d.heaps0 d.heaps1 d.t_ d.when d.clock d.budget d.last d.top).heaps0) ((za.mk d.kind d.most e.2 d.heaps0 d.heaps1 d.t_ d.when d.clock d.budget d.last d.top).heaps1) i.2.2 ((za.mk d.kind d.most e.2 d.heaps0 d.heaps1 d.t_ d.when d.clock d.budget d.last d.top).when) ((za.mk d.kind d.most e.2 d.heaps0 d.heaps1 d.t_ d.when d.clock d.budget d.last d.top).clock) ((za.mk d.kind d.most e.2 d.heaps0 d.heaps1 d.t_ d.when d.clock d.budget d.last d.top).budget) ((za.mk d.kind d.most e.2 d.heaps0 d.heaps1 d.t_ d.when d.clock d.budget d.last d.top).last) ((za.mk d.kind d.most e.2 d.heaps0 d.heaps1 d.t_ d.when d.clock d.budget d.last d.top).top)).t_) (mPut zf.eq i.1 e.1.Entry.Serial ((za.mk ((za.mk d.kind d.most e.2 d.heaps0 d.heaps1 d.t_ d.when d.clock d.budget d.last d.top).kind) ((za.mk d.kind d.most e.2 d.heaps0 d.heaps1 d.t_ d.when d.clock d.budget d.last d.top).most) ((za.mk d.kind d.most e.2 d.heaps0 d.heaps1 d.t_ d.when d.clock d.budget d.last d.top).q) ((za.mk d.kind d.most e.2 d.heaps0 d.heaps1 d.t_ d.when d.clock d.budget d.last d.top).heaps0) ((za.mk d.kind d.most e.2 d.heaps0 d.heaps1 d.t_ d.when d.clock d.budget d.last d.top).heaps1) i.2.2 ((za.mk d.kind d.most e.2 d.heaps0 d.heaps1 d.t_ d.when d.clock d.budget d.last d.top).when) ((za.mk d.kind d.most e.2 d.heaps0 d.heaps1 d.t_ d.when d.clock d.budget d.last d.top).clock) ((za.mk d.kind d.most e.2 d.heaps0 d.heaps1 d.t_ d.when d.clock d.budget d.last d.top).budget) ((za.mk d.kind d.most e.2 d.heaps0 d.heaps1 d.t_ d.when d.clock d.budget d.last d.top).last) ((za.mk d.kind d.most e.2 d.heaps0 d.heaps1 d.t_ d.when d.clock d.budget d.last d.top).top)).when)) ((za.mk ((za.mk d.kind d.most e.2 d.heaps0 d.heaps1 d.t_ d.when d.clock d.budget d.last d.top).kind) ((za.mk d.kind d.most e.2 d.heaps0 d.heaps1 d.t_ d.when d.clock d.budget d.last d.top).most) ((za.mk d.kind d.most e.2 d.heaps0 d.heaps1 d.t_ d.when d.clock d.budget d.last d.top).q) ((za.mk d.kind d.most e.2 d.heaps0 d.heaps1 d.t_ d.when d.clock d.budget d.last d.top).heaps0) ((za.mk d.kind d.most e.2 d.heaps0 d.heaps1 d.t_ d.when d.clock d.budget d.last d.top).heaps1) i.2.2 ((za.mk d.kind d.most e.2 d.heaps0 d.heaps1 d.t_ d.when d.clock d.budget d.last d.top).when) ((za.mk d.kind d.most e.2 d.heaps0 d.heaps1 d.t_ d.when d.clock d.budget d.last d.top).clock) ((za.mk d.kind d.most e.2 d.heaps0 d.heaps1 d.t_ d.when d.clock d.budget d.last d.top).budget) ((za.mk d.kind d.most e.2 d.heaps0 d.heaps1 d.t_ d.when d.clock d.budget d.last d.top).last) ((za.mk d.kind d.most e.2 d.heaps0 d.heaps1 d.t_ d.when d.clock d.budget d.last d.top).top)).clock) ((za.mk ((za.mk d.kind d.most e.2 d.heaps0 d.heaps1 d.t_ d.when d.clock d.budget d.last d.top).kind) ((za.mk d.kind d.most e.2 d.heaps0 d.heaps1 d.t_ d.when d.clock d.budget d.last d.top).most) ((za.mk d.kind d.most e.2 d.heaps0 d.heaps1 d.t_ d.when d.clock d.budget d.last d.top).q) ((za.mk d.kind d.most e.2 d.heaps0 d.heaps1 d.t_ d.when d.clock d.budget d.last d.top).heaps0) ((za.mk d.kind d.most e.2 d.heaps0 d.heaps1 d.t_ d.when d.clock d.budget d.last d.top).heaps1) i.2.2 ((za.mk d.kind d.most e.2 d.heaps0 d.heaps1 d.t_ d.when d.clock d.budget d.last d.top).when) ((za.mk d.kind d.most e.2 d.heaps0 d.heaps1 d.t_ d.when d.clock d.budget d.last d.top).clock) ((za.mk d.kind d.most e.2 d.heaps0 d.heaps1 d.t_ d.when d.clock d.budget d.last d.top).budget) ((za.mk d.kind d.most e.2 d.heaps0 d.heaps1 d.t_ d.when d.clock d.budget d.last d.top).last) ((za.mk d.kind d.most e.2 d.heaps0 d.heaps1 d.t_ d.when d.clock d.budget d.last d.top).top)).budget) ((za.mk ((za.mk d.kind d.most e.2 d.heaps0 d.heaps1 d.t_ d.when d.clock d.budget d.last d.top).kind) ((za.mk d.kind d.most e.2 d.heaps0 d.heaps1 d.t_ d.when d.clock d.budget d.last d.top).most) ((za.mk d.kind d.most e.2 d.heaps0 d.heaps1 d.t_ d.when d.clock d.budget d.last d.top).q) ((za.mk d.kind d.most e.2 d.heaps0 d.heaps1 d.t_ d.when d.clock d.budget d.last d.top).heaps0) ((za.mk d.kind d.most e.2 d.heaps0 d.heaps1 d.t_ d.when d.clock d.budget d.last d.top).heaps1) i.2.2 ((za.mk d.kind d.most e.2 d.heaps0 d.heaps1 d.t_ d.when d.clock d.budget d.last d.top).when) ((za.mk d.kind d.most e.2 d.heaps0 d.heaps1 d.t_ d.when d.clock d.budget d.last d.top).clock) ((za.mk d.kind d.most e.2 d.heaps0 d.heaps1 d.t_ d.when d.clock d.budget d.last d.top).budget) ((za.mk d.kind d.most e.2 d.heaps0 d.heaps1 d.t_ d.when d.clock d.budget d.last d.top).last) ((za.mk d.kind d.most e.2 d.heaps0 d.heaps1 d.t_ d.when d.clock d.budget d.last d.top).top)).last) ((za.mk ((za.mk d.kind d.most e.2 d.heaps0 d.heaps1 d.t_ d.when d.clock d.budget d.last d.top).kind) ((za.mk d.kind d.most e.2 d.heaps0 d.heaps1 d.t_ d.when d.clock d.budget d.last d.top).most) ((za.mk d.kind d.most e.2 d.heaps0 d.heaps1 d.t_ d.when d.clock d.budget d.last d.top).q) ((za.mk d.kind d.most e.2 d.heaps0 d.heaps1 d.t_ d.when d.clock d.budget d.last d.top).heaps0) ((za.mk d.kind d.most e.2 d.heaps0 d.heaps1 d.t_ d.when d.clock d.budget d.last d.top).heaps1) i.2.2 ((za.mk d.kind d.most e.2 d.heaps0 d.heaps1 d.t_ d.when d.clock d.budget d.last d.top).when) ((za.mk d.kind d.most e.2 d.heaps0 d.heaps1 d.t_ d.when d.clock d.budget d.last d.top).clock) ((za.mk d.kind d.most e.2 d.heaps0 d.heaps1 d.t_ d.when d.clock d.budget d.last d.top).budget) ((za.mk d.kind d.most e.2 d.heaps0 d.heaps1 d.t_ d.when d.clock d.budget d.last d.top).last) ((za.mk d.kind d.most e.2 d.heaps0 d.heaps1 d.t_ d.when d.clock d.budget d.last d.top).top)).top)))
def zR (p : zg) (r : zf) : Option ((Option Int) × Int) :=
 ((bif decide (r.At < 0) then
  some true
 else
  (bif decide (r.At >= (p.l.length : Int)) then
   some true
  else
   (bif decide (r.Gen < 1) then
    some true
   else
    (mIdx p.l r.At).bind fun x1 =>
    some (decide (r.Gen > x1.gen)))))).bind fun s =>
 (bif s then
  some ((none : Option Int), 22)
 else
  (mIdx p.l r.At).bind fun x2 =>
  (bif (decide (r.Gen < x2.gen)) || (!x2.taken) then
   some ((none : Option Int), 23)
  else
   some ((some r.At : Option Int), 0)))
def yv (p : zg) (r : zf) : Option (zA × Int) :=
 (zR p r).bind fun t_ =>
 (vD t_.1
  ((bif t_.2 != 0 then
   some (zA.mk 0 0 0 (zf.mk 0 0), t_.2)
  else
   none))
  (fun i =>
  (mIdx p.l i).bind fun x =>
  (bif t_.2 != 0 then
   some (zA.mk 0 0 0 (zf.mk 0 0), t_.2)
  else
   some (x.v_, 0))))
def xt (t_ : zn) (r : zf) : Option (zA × Int) :=
 (yv t_.p r).bind fun e =>
 some (e.1, e.2)
def xr (p : zg) (r : zf) (v_ : zA) : Option (Int × zg) :=
 (zR p r).bind fun t_ =>
 (vD t_.1
  (((bif t_.2 == 0 then
   none
  else
   some ())).bind fun s =>
  some (t_.2, p))
  (fun i =>
  (mIdx p.l i).bind fun x =>
  ((bif t_.2 == 0 then
   some (zg.mk p.most (mSet p.l i (zq.mk x.gen x.taken v_)) p.free)
  else
   some p)).bind fun s1 =>
  some (t_.2, s1)))
def te (t_ : zn) (r : zf) (j : zA) : Option (Int × zn) :=
 (yv t_.p r).bind fun e =>
 (bif e.2 != 0 then
  some (e.2, t_)
 else
  (sS zf.eq j.Item (zf.mk 0 0) t_.by_).bind fun x =>
  ((bif x.2 then
   some (!(zf.eq x.1 r))
  else
   some false)).bind fun s =>
  (bif s then
   some (1, t_)
  else
   (xr t_.p r j).bind fun i =>
   some (i.1, zn.mk i.2 (mPut zf.eq j.Item r (mDel zf.eq e.1.Item t_.by_)))))
def xL (k : Nat) (d : za) (e : zy) : Option (zu × za) :=
 (xt d.t_ e.Job).bind fun t_ =>
 (bif t_.2 != 0 then
  (y5 t_.2).bind fun i =>
  some (i, d)
 else
  (bif decide (e.Time > t_.1.Time) then
   (y5 26).bind fun j =>
   some (j, d)
  else
   (yh k d.q (yk.mk 5 0 (zf.mk 0 0) (zf.mk 0 0) t_.1.Item e.Time)).bind fun l =>
   (te d.t_ e.Job (zA.mk t_.1.Queue e.Time t_.1.Data t_.1.Item)).bind fun t =>
   (tH (zA.mk t_.1.Queue e.Time t_.1.Data t_.1.Item)).bind fun u =>
   some (u, za.mk d.kind d.most l.2 d.heaps0 d.heaps1 t.2 d.when d.clock d.budget d.last d.top)))
def zV (p : zg) (r : zf) : Option (zA × Int × zg) :=
 (zR p r).bind fun t_ =>
 (vD t_.1
  ((bif t_.2 != 0 then
   some (zA.mk 0 0 0 (zf.mk 0 0), t_.2, p)
  else
   none))
  (fun i =>
  (mIdx p.l i).bind fun x =>
  (bif t_.2 != 0 then
   some (zA.mk 0 0 0 (zf.mk 0 0), t_.2, p)
  else
   (mApp p.free ([r.At] : List Int)).bind fun l =>
   some (x.v_, 0, zg.mk p.most (mSet (mSet p.l i (zq.mk x.gen false x.v_)) i (zq.mk x.gen false (zA.mk 0 0 0 (zf.mk 0 0)))) l))))
def uR (t_ : zn) (r : zf) : Option (zA × Int × zn) :=
 (zV t_.p r).bind fun e =>
 ((bif e.2.1 == 0 then
  some (zn.mk ((zn.mk e.2.2 t_.by_).p) (mDel zf.eq e.1.Item ((zn.mk e.2.2 t_.by_).by_)))
 else
  some (zn.mk e.2.2 t_.by_))).bind fun s =>
 some (e.1, e.2.1, s)
def xd (d : za) (r : zf) : Option (zu × za) :=
 (uR d.t_ r).bind fun t_ =>
 (bif t_.2.1 != 0 then
  (y5 t_.2.1).bind fun e =>
  some (e, za.mk d.kind d.most d.q d.heaps0 d.heaps1 t_.2.2 d.when d.clock d.budget d.last d.top)
 else
  (tH t_.1).bind fun i =>
  some (i, za.mk ((za.mk d.kind d.most d.q d.heaps0 d.heaps1 t_.2.2 d.when d.clock d.budget d.last d.top).kind) ((za.mk d.kind d.most d.q d.heaps0 d.heaps1 t_.2.2 d.when d.clock d.budget d.last d.top).most) ((za.mk d.kind d.most d.q d.heaps0 d.heaps1 t_.2.2 d.when d.clock d.budget d.last d.top).q) ((za.mk d.kind d.most d.q d.heaps0 d.heaps1 t_.2.2 d.when d.clock d.budget d.last d.top).heaps0) ((za.mk d.kind d.most d.q d.heaps0 d.heaps1 t_.2.2 d.when d.clock d.budget d.last d.top).heaps1) ((za.mk d.kind d.most d.q d.heaps0 d.heaps1 t_.2.2 d.when d.clock d.budget d.last d.top).t_) (mDel zf.eq r ((za.mk d.kind d.most d.q d.heaps0 d.heaps1 t_.2.2 d.when d.clock d.budget d.last d.top).when)) ((za.mk d.kind d.most d.q d.heaps0 d.heaps1 t_.2.2 d.when d.clock d.budget d.last d.top).clock) ((za.mk d.kind d.most d.q d.heaps0 d.heaps1 t_.2.2 d.when d.clock d.budget d.last d.top).budget) ((za.mk d.kind d.most d.q d.heaps0 d.heaps1 t_.2.2 d.when d.clock d.budget d.last d.top).last) ((za.mk d.kind d.most d.q d.heaps0 d.heaps1 t_.2.2 d.when d.clock d.budget d.last d.top).top)))
def xO (k : Nat) (d : za) (r : zf) : Option (zu × za) :=
 (xt d.t_ r).bind fun t_ =>
 ((bif t_.2 == 0 then
  (yh k d.q (yk.mk 6 0 (zf.mk 0 0) (zf.mk 0 0) t_.1.Item 0)).bind fun i =>
  some (za.mk d.kind d.most i.2 d.heaps0 d.heaps1 d.t_ d.when d.clock d.budget d.last d.top)
 else
  some d)).bind fun s =>
 (xd s r).bind fun e =>
 some (e.1, e.2)
def sK (e : zM) (by_ : Int) : Option (Int × zM) :=
 (bif decide (by_ < 0) then
  some (1, e)
 else
  (vU e.now by_).bind fun t_ =>
  some (0, zM.mk t_))
def vR (e : zM) : Option (Int) :=
 some e.now
def vS (e : zM) (at_ : Int) : Option (Bool) :=
 some (decide (at_ <= e.now))
def rH (t_ : zn) (item : zf) : Option (zf × Bool) :=
 (sS zf.eq item (zf.mk 0 0) t_.by_).bind fun x =>
 some (x.1, x.2)
def wy (k : Nat) (d : za) (queue : Int) : Option (zu × za) :=
 (mIdx ([d.heaps0, d.heaps1] : List zf) queue).bind fun x =>
 (yh k d.q (yk.mk 3 0 x (zf.mk 0 0) (zf.mk 0 0) 0)).bind fun t_ =>
 ((bif t_.1.Why != 0 then
  some (true, za.mk d.kind d.most t_.2 d.heaps0 d.heaps1 d.t_ d.when d.clock d.budget d.last d.top)
 else
  (vS ((za.mk d.kind d.most t_.2 d.heaps0 d.heaps1 d.t_ d.when d.clock d.budget d.last d.top).clock) t_.1.Entry.Key).bind fun l =>
  some (!l, za.mk ((za.mk d.kind d.most t_.2 d.heaps0 d.heaps1 d.t_ d.when d.clock d.budget d.last d.top).kind) ((za.mk d.kind d.most t_.2 d.heaps0 d.heaps1 d.t_ d.when d.clock d.budget d.last d.top).most) ((za.mk d.kind d.most t_.2 d.heaps0 d.heaps1 d.t_ d.when d.clock d.budget d.last d.top).q) ((za.mk d.kind d.most t_.2 d.heaps0 d.heaps1 d.t_ d.when d.clock d.budget d.last d.top).heaps0) ((za.mk d.kind d.most t_.2 d.heaps0 d.heaps1 d.t_ d.when d.clock d.budget d.last d.top).heaps1) ((za.mk d.kind d.most t_.2 d.heaps0 d.heaps1 d.t_ d.when d.clock d.budget d.last d.top).t_) ((za.mk d.kind d.most t_.2 d.heaps0 d.heaps1 d.t_ d.when d.clock d.budget d.last d.top).when) ((za.mk d.kind d.most t_.2 d.heaps0 d.heaps1 d.t_ d.when d.clock d.budget d.last d.top).clock) ((za.mk d.kind d.most t_.2 d.heaps0 d.heaps1 d.t_ d.when d.clock d.budget d.last d.top).budget) ((za.mk d.kind d.most t_.2 d.heaps0 d.heaps1 d.t_ d.when d.clock d.budget d.last d.top).last) ((za.mk d.kind d.most t_.2 d.heaps0 d.heaps1 d.t_ d.when d.clock d.budget d.last d.top).top)))).bind fun s =>
 (bif s.1 then
  (y5 28).bind fun t =>
  some (t, s.2)
 else
  (yh k s.2.q (yk.mk 4 0 x (zf.mk 0 0) (zf.mk 0 0) 0)).bind fun i =>
  (rH s.2.t_ i.1.Item).bind fun j =>
  (xd (za.mk s.2.kind s.2.most i.2 s.2.heaps0 s.2.heaps1 s.2.t_ s.2.when s.2.clock s.2.budget s.2.last s.2.top) j.1).bind fun e =>
  some (zu.mk e.1.Why j.1 e.1.Time e.1.Data e.1.N, e.2))
def y7 (x1 : Int) (m_ : zg) : Nat -> (List zf) -> Int -> Option ((List zf))
 | 0, _, _ => none
 | m + 1, out, x =>
  (bif decide (x < x1) then
   ((mIdx m_.l x).bind fun x2 =>
   (bif x2.taken then
    (mApp out ([zf.mk x x2.gen] : List zf)).bind fun l =>
    some l
   else
    some out)).bind fun s1 =>
   y7 x1 m_ m s1 (w64 (x + 1))
  else
   some out)
def xq (k : Nat) (p : zg) : Option ((List zf)) :=
 (y7 (p.l.length : Int) p k ([] : List zf) 0).bind fun s =>
 some s
def wB (e : Int) (j : Int) (x1 : Int) (l : List zf) : Nat -> Int -> Int -> zn -> Option (Int × zn)
 | 0, _, _, _ => none
 | m + 1, n, x, m_ =>
  (bif decide (x < x1) then
   ((mIdx l x).bind fun x2 =>
   (yv m_.p x2).bind fun i =>
   (bif i.1.Queue == e then
    (xr m_.p x2 (zA.mk j i.1.Time i.1.Data i.1.Item)).bind fun t =>
    some (w64 (n + 1), zn.mk t.2 m_.by_)
   else
    some (n, m_))).bind fun s1 =>
   wB e j x1 l m s1.1 (w64 (x + 1)) s1.2
  else
   some (n, m_))
def tU (k : Nat) (t_ : zn) (from_ : Int) (to : Int) : Option (Int × zn) :=
 (xq k t_.p).bind fun e =>
 (wB from_ to (e.length : Int) e k 0 0 t_).bind fun s =>
 some (s.1, s.2)
def wi (k : Nat) (d : za) : Option (zu × za) :=
 (yh k d.q (yk.mk 7 0 d.heaps0 d.heaps1 (zf.mk 0 0) 0)).bind fun t_ =>
 (yh k t_.2 (yk.mk 1 d.kind (zf.mk 0 0) (zf.mk 0 0) (zf.mk 0 0) 0)).bind fun e =>
 (tU k d.t_ 1 0).bind fun i =>
 some (zu.mk 0 (zf.mk 0 0) 0 0 i.1, za.mk d.kind d.most e.2 d.heaps0 e.1.Heap i.2 d.when d.clock d.budget d.last d.top)
def xX (e : Int) (x1 : Int) (m_ : zn) (l : List zf) : Nat -> Int -> Int -> Option (Int)
 | 0, _, _ => none
 | m + 1, n, x =>
  (bif decide (x < x1) then
   ((mIdx l x).bind fun x2 =>
   (yv m_.p x2).bind fun i =>
   (bif i.1.Queue == e then
    some (w64 (n + 1))
   else
    some n)).bind fun s1 =>
   xX e x1 m_ l m s1 (w64 (x + 1))
  else
   some n)
def uy (k : Nat) (t_ : zn) (queue : Int) : Option (Int) :=
 (xq k t_.p).bind fun e =>
 (xX queue (e.length : Int) t_ e k 0 0).bind fun s =>
 some s
def wF (k : Nat) (d : za) (e : zy) : Option (zu × za) :=
 (((bif e.Kind == 1 then
  some (e.Kind == 1)
 else
  (bif e.Kind == 5 then
   some (e.Kind == 5)
  else
   (bif e.Kind == 6 then
    some (e.Kind == 6)
   else
    some (e.Kind == 7))))).bind fun s2 =>
 (bif s2 then
  (bif !((decide (e.Queue >= 0)) && (decide (e.Queue < 2))) then
   (y5 1).bind fun t_ =>
   some (.inl (t_, d))
  else
   some (.inr ()))
 else
  some (.inr ())) : Option ((zu × za) ⊕ (Unit))).bind fun s =>
 match s with
 | .inl F => some F
 | .inr s1 =>
  (bif e.Kind == 1 then
   (xG k d e).bind fun j =>
   some (j.1, j.2)
  else
   (bif e.Kind == 2 then
    (xL k d e).bind fun l =>
    some (l.1, l.2)
   else
    (bif e.Kind == 3 then
     (xO k d e.Job).bind fun t =>
     some (t.1, t.2)
    else
     (bif e.Kind == 4 then
      (sK d.clock e.Time).bind fun i =>
      (bif i.1 != 0 then
       (y5 i.1).bind fun A =>
       some (A, za.mk d.kind d.most d.q d.heaps0 d.heaps1 d.t_ d.when i.2 d.budget d.last d.top)
      else
       (vR i.2).bind fun B =>
       some (zu.mk 0 (zf.mk 0 0) B 0 0, za.mk d.kind d.most d.q d.heaps0 d.heaps1 d.t_ d.when i.2 d.budget d.last d.top))
     else
      (bif e.Kind == 5 then
       (wy k d e.Queue).bind fun u =>
       some (u.1, u.2)
      else
       (bif e.Kind == 6 then
        (bif e.Queue == 0 then
         (y5 25).bind fun D =>
         some (D, d)
        else
         (wi k d).bind fun x =>
         some (x.1, x.2))
       else
        (bif e.Kind == 7 then
         (uy k d.t_ e.Queue).bind fun y =>
         some (zu.mk 0 (zf.mk 0 0) 0 0 y, d)
        else
         (y5 12).bind fun z =>
         some (z, d))))))))
def yp (k : Nat) (d : za) (l : zy) : Option (zu × za) :=
 (sa d.q).bind fun t_ =>
 (wF k d l).bind fun e =>
 (sa e.2.q).bind fun i =>
 (bif decide (w64 (i - t_) > e.2.budget) then
  (y5 29).bind fun j =>
  some (j, za.mk e.2.kind e.2.most e.2.q e.2.heaps0 e.2.heaps1 e.2.t_ e.2.when e.2.clock e.2.budget (w64 (i - t_)) (if w64 (i - t_) > e.2.top then w64 (i - t_) else e.2.top))
 else
  some (e.1, za.mk e.2.kind e.2.most e.2.q e.2.heaps0 e.2.heaps1 e.2.t_ e.2.when e.2.clock e.2.budget (w64 (i - t_)) (if w64 (i - t_) > e.2.top then w64 (i - t_) else e.2.top)))
def xf (p : zk) (v_ : Int) : Option (zf × Bool × zk) :=
 ((bif decide ((p.Back.length : Int) > 0) then
  (mIdx p.Back (w64 ((p.Back.length : Int) - 1))).bind fun x =>
  (mCut p.Back 0 (w64 ((p.Back.length : Int) - 1))).bind fun l =>
  some (.inr (x, zk.mk p.Most p.Gens p.In p.V l))
 else
  (bif decide ((p.Gens.length : Int) >= p.Most) then
   some (.inl (zf.mk 0 0, false, p))
  else
   (mApp p.Gens ([0] : List Int)).bind fun l1 =>
   (mApp p.In ([false] : List Bool)).bind fun l2 =>
   (mApp p.V ([0] : List Int)).bind fun e =>
   some (.inr ((p.Gens.length : Int), zk.mk p.Most l1 l2 e p.Back)))) : Option ((zf × Bool × zk) ⊕ (Int × zk))).bind fun s =>
 match s with
 | .inl i => some i
 | .inr s1 =>
  (mIdx s1.2.Gens s1.1).bind fun x1 =>
  (mIdx s1.2.Gens s1.1).bind fun x2 =>
  (mIdx s1.2.In s1.1).bind fun x3 =>
  (mIdx s1.2.V s1.1).bind fun x4 =>
  (mIdx (mSet s1.2.Gens s1.1 (w64 (x1 + 1))) s1.1).bind fun x5 =>
  some (zf.mk s1.1 x5, true, zk.mk s1.2.Most (mSet s1.2.Gens s1.1 (w64 (x1 + 1))) (mSet s1.2.In s1.1 true) (mSet s1.2.V s1.1 v_) s1.2.Back)
def wD (a_ : zi) (b : zi) : Option (Bool) :=
 some ((decide (a_.Key < b.Key)) || ((a_.Key == b.Key) && (decide (a_.Serial < b.Serial))))
def yn (e : Int) (m_ : zd) : Nat -> Int -> Int -> Option (Int)
 | 0, _, _ => none
 | m + 1, k_, i =>
  (bif decide (i < (m_.L.length : Int)) then
   (((mIdx m_.L i).bind fun x2 =>
   (bif x2.Queue == e then
    (bif decide (k_ < 0) then
     some true
    else
     (mIdx m_.L i).bind fun x3 =>
     (mIdx m_.L k_).bind fun x4 =>
     (wD x3.E x4.E).bind fun t_ =>
     some t_)
   else
    some false)).bind fun s2 =>
   (bif s2 then
    some i
   else
    some k_)).bind fun s1 =>
   yn e m_ m s1 (w64 (i + 1))
  else
   some k_)
def xy (k : Nat) (d : zd) (queue : Int) : Option (Int) :=
 (yn queue d k (-1) 0).bind fun s =>
 some s
def wu (p : zk) (r : zf) : Option (Int) :=
 ((bif decide (r.At < 0) then
  some true
 else
  (bif decide (r.At >= (p.Gens.length : Int)) then
   some true
  else
   (bif decide (r.Gen < 1) then
    some true
   else
    (mIdx p.Gens r.At).bind fun x1 =>
    some (decide (r.Gen > x1)))))).bind fun s =>
 (bif s then
  some 22
 else
  ((mIdx p.Gens r.At).bind fun x4 =>
  (bif decide (r.Gen < x4) then
   some true
  else
   (mIdx p.In r.At).bind fun x5 =>
   some (!x5))).bind fun s1 =>
  (bif s1 then
   some 23
  else
   some 0))
def wV (p : zk) (r : zf) : Option (Int × Int × zk) :=
 (wu p r).bind fun t_ =>
 (bif t_ != 0 then
  some (0, t_, p)
 else
  (mIdx p.In r.At).bind fun x =>
  (mApp ([] : List Int) p.Back).bind fun l =>
  (mApp l ([r.At] : List Int)).bind fun l1 =>
  (mIdx ((zk.mk p.Most p.Gens (mSet p.In r.At false) p.V l1).V) r.At).bind fun x1 =>
  some (x1, 0, (zk.mk p.Most p.Gens (mSet p.In r.At false) p.V l1)))
def xe (d : zd) (k_ : Int) : Option (zD × zd) :=
 (mIdx d.L k_).bind fun x =>
 (mCut d.L 0 k_).bind fun l =>
 (mCut d.L (w64 (k_ + 1)) (d.L.length : Int)).bind fun l1 =>
 (mApp ([] : List zD) l).bind fun l2 =>
 (mApp l2 l1).bind fun e =>
 (wV d.Pool x.R).bind fun t_ =>
 some (x, zd.mk d.Most d.Now d.Next t_.2.2 e)
def yy (e : Int) (m_ : zd) : Nat -> Int -> Int -> Option (Int)
 | 0, _, _ => none
 | m + 1, n, i =>
  (bif decide (i < (m_.L.length : Int)) then
   ((mIdx m_.L i).bind fun x =>
   (bif x.Queue == e then
    some (w64 (n + 1))
   else
    some n)).bind fun s1 =>
   yy e m_ m s1 (w64 (i + 1))
  else
   some n)
def xv (k : Nat) (d : zd) (queue : Int) : Option (Int) :=
 (yy queue d k 0 0).bind fun s =>
 some s
def yz : Nat -> Int -> Int -> zd -> Option (Int × zd)
 | 0, _, _, _ => none
 | m + 1, n, i, m_ =>
  (bif decide (i < (m_.L.length : Int)) then
   ((mIdx m_.L i).bind fun x2 =>
   (bif x2.Queue == 1 then
    (mIdx m_.L i).bind fun x3 =>
    some (w64 (n + 1), zd.mk m_.Most m_.Now m_.Next m_.Pool (mSet m_.L i (zD.mk 0 x3.Data x3.E x3.R)))
   else
    some (n, m_))).bind fun s2 =>
   yz m s2.1 (w64 (i + 1)) s2.2
  else
   some (n, m_))
def z8 (k : Nat) (d : zd) (e : zy) : Option (zu × zd) :=
 (bif e.Kind == 1 then
  (xf d.Pool 0).bind fun t_ =>
  (bif !t_.2.1 then
   some (zu.mk 13 (zf.mk 0 0) 0 0 0, zd.mk d.Most d.Now d.Next t_.2.2 d.L)
  else
   (mApp ([] : List zD) d.L).bind fun l =>
   (mApp l ([zD.mk e.Queue e.Data (zi.mk e.Time d.Next) t_.1] : List zD)).bind fun l1 =>
   some (zu.mk 0 t_.1 e.Time e.Data 0, zd.mk ((zd.mk d.Most d.Now d.Next t_.2.2 l1).Most) ((zd.mk d.Most d.Now d.Next t_.2.2 l1).Now) (w64 (((zd.mk d.Most d.Now d.Next t_.2.2 l1).Next) + 1)) ((zd.mk d.Most d.Now d.Next t_.2.2 l1).Pool) ((zd.mk d.Most d.Now d.Next t_.2.2 l1).L)))
 else
  (bif e.Kind == 5 then
   (xy k d e.Queue).bind fun j =>
   ((bif decide (j < 0) then
    some true
   else
    (mIdx d.L j).bind fun x1 =>
    some (decide (x1.E.Key > d.Now)))).bind fun s =>
   (bif s then
    some (zu.mk 28 (zf.mk 0 0) 0 0 0, d)
   else
    (xe d j).bind fun i =>
    some (zu.mk 0 i.1.R i.1.E.Key i.1.Data 0, i.2))
  else
   (bif e.Kind == 6 then
    (bif e.Queue == 0 then
     some (zu.mk 25 (zf.mk 0 0) 0 0 0, d)
    else
     (yz k 0 0 d).bind fun s1 =>
     some (zu.mk 0 (zf.mk 0 0) 0 0 s1.1, s1.2))
   else
    (xv k d e.Queue).bind fun t =>
    some (zu.mk 0 (zf.mk 0 0) 0 0 t, d))))
def yN (v_ : Int) (e : Int) (m_ : zd) : Nat -> Int -> Option ((Int × zd) ⊕ (Unit))
 | 0, _ => none
 | m + 1, i =>
  (bif decide (i < (m_.L.length : Int)) then
   (mIdx m_.L i).bind fun x =>
   (bif zf.eq x.R (zf.mk v_ e) then
    some (.inl (i, m_))
   else
    yN v_ e m_ m (w64 (i + 1)))
  else
   some (.inr ()))
def xM (k : Nat) (d : zd) (r : zf) : Option (Int × zd) :=
 (yN r.At r.Gen d k 0).bind fun s =>
 match s with
 | .inl e => some e
 | .inr s1 =>
  some ((-1), d)
def uJ (a_ : Int) (b : Int) : Option (Int) :=
 (bif (decide (a_ > 0)) && (decide (b > w64 (9223372036854775807 - a_))) then
  some 9223372036854775807
 else
  (bif (decide (a_ < 0)) && (decide (b < w64 ((-9223372036854775808) - a_))) then
   some (-9223372036854775808)
  else
   some (w64 (a_ + b))))
def zK (k : Nat) (d : zd) (i : zy) : Option (zu × zd) :=
 (((bif i.Kind == 1 then
  some (i.Kind == 1)
 else
  (bif i.Kind == 5 then
   some (i.Kind == 5)
  else
   (bif i.Kind == 6 then
    some (i.Kind == 6)
   else
    some (i.Kind == 7))))).bind fun s2 =>
 (bif s2 then
  (bif (i.Queue != 0) && (i.Queue != 1) then
   some (.inl (zu.mk 1 (zf.mk 0 0) 0 0 0, d))
  else
   (z8 k d i).bind fun t_ =>
   some (.inl (t_.1, t_.2)))
 else
  ((bif i.Kind == 2 then
   some (i.Kind == 2)
  else
   some (i.Kind == 3))).bind fun u =>
  (bif u then
   (wu d.Pool i.Job).bind fun l =>
   (bif l != 0 then
    some (.inl (zu.mk l (zf.mk 0 0) 0 0 0, d))
   else
    (xM k d i.Job).bind fun e =>
    (bif i.Kind == 3 then
     (xe e.2 e.1).bind fun j =>
     some (.inl (zu.mk 0 (zf.mk 0 0) j.1.E.Key j.1.Data 0, j.2))
    else
     (mIdx e.2.L e.1).bind fun x =>
     (bif decide (i.Time > x.E.Key) then
      some (.inl (zu.mk 26 (zf.mk 0 0) 0 0 0, e.2))
     else
      (mIdx e.2.L e.1).bind fun x1 =>
      (mIdx (mSet e.2.L e.1 (zD.mk x1.Queue x1.Data (zi.mk i.Time x1.E.Serial) x1.R)) e.1).bind fun x2 =>
      some (.inl (zu.mk 0 (zf.mk 0 0) i.Time x2.Data 0, zd.mk e.2.Most e.2.Now e.2.Next e.2.Pool (mSet e.2.L e.1 (zD.mk x1.Queue x1.Data (zi.mk i.Time x1.E.Serial) x1.R)))))))
  else
   (bif i.Kind == 4 then
    (bif decide (i.Time < 0) then
     some (.inl (zu.mk 1 (zf.mk 0 0) 0 0 0, d))
    else
     (uJ d.Now i.Time).bind fun t =>
     some (.inl (zu.mk 0 (zf.mk 0 0) t 0 0, zd.mk d.Most t d.Next d.Pool d.L)))
   else
    some (.inr ())))) : Option ((zu × zd) ⊕ (Unit))).bind fun s =>
 match s with
 | .inl y => some y
 | .inr s1 =>
  some (zu.mk 12 (zf.mk 0 0) 0 0 0, d)
def xF (d : za) : Option (Int) :=
 some d.last
def xn (d : za) : Option (Int) :=
 some d.budget
def wA (d : za) : Option (Int) :=
 some d.top
def y4 (d : za) : Option (Int) :=
 (vR d.clock).bind fun t_ =>
 some t_
def xJ (d : za) : Option (Int) :=
 (ud d.t_).bind fun t_ =>
 some t_
def ue (k : Nat) (t_ : zn) : Option ((List zf)) :=
 (xq k t_.p).bind fun e =>
 some e
def yZ (e : Int) (x1 : Int) (m_ : za) (l : List zf) : Nat -> Int -> Int -> Option (Int)
 | 0, _, _ => none
 | m + 1, n, x =>
  (bif decide (x < x1) then
   ((mIdx l x).bind fun x2 =>
   (xt m_.t_ x2).bind fun i =>
   ((bif i.1.Queue == e then
    (vS m_.clock i.1.Time).bind fun j =>
    some j
   else
    some false)).bind fun s2 =>
   (bif s2 then
    some (w64 (n + 1))
   else
    some n)).bind fun s1 =>
   yZ e x1 m_ l m s1 (w64 (x + 1))
  else
   some n)
def xj (k : Nat) (d : za) (queue : Int) : Option (Int) :=
 (ue k d.t_).bind fun t_ =>
 (yZ queue (t_.length : Int) d t_ k 0 0).bind fun s =>
 some s
def wR (x : zx) (jobs : List zf) : Option (zy) :=
 (bif (Int.tmod x.Job 16) == 15 then
  some x.Raw
 else
  (yX x.Kind 0 1048576).bind fun t_ =>
  (mIdx ([1, 1, 1, 2, 3, 4, 5, 5, 5, 6, 7] : List Int) (Int.tmod t_ 11)).bind fun x1 =>
  (yX x.Queue 0 1048576).bind fun e =>
  ((bif (Int.tmod x.Data 4) != 0 then
   some (Int.tmod ((zy.mk x1 (Int.tmod e 2) (zf.mk 0 0) x.Time x.Data).Time) 30)
  else
   some ((zy.mk x1 (Int.tmod e 2) (zf.mk 0 0) x.Time x.Data).Time))).bind fun s =>
  ((bif decide ((jobs.length : Int) > 0) then
   (yX x.Job 0 (w64 ((jobs.length : Int) - 1))).bind fun i =>
   (mIdx jobs i).bind fun x2 =>
   some (x2.At, x2.Gen)
  else
   some (((zy.mk x1 (Int.tmod e 2) (zf.mk 0 0) x.Time x.Data).Job).At, ((zy.mk x1 (Int.tmod e 2) (zf.mk 0 0) x.Time x.Data).Job).Gen))).bind fun s1 =>
  some (zy.mk ((zy.mk x1 (Int.tmod e 2) (zf.mk 0 0) x.Time x.Data).Kind) ((zy.mk x1 (Int.tmod e 2) (zf.mk 0 0) x.Time x.Data).Queue) (zf.mk s1.1 s1.2) s ((zy.mk x1 (Int.tmod e 2) (zf.mk 0 0) x.Time x.Data).Data)))
def yI (e : Int) (m_ : zd) : Nat -> Int -> Int -> Option (Int)
 | 0, _, _ => none
 | m + 1, n, i =>
  (bif decide (i < (m_.L.length : Int)) then
   (((mIdx m_.L i).bind fun x2 =>
   (bif x2.Queue == e then
    (mIdx m_.L i).bind fun x3 =>
    some (decide (x3.E.Key <= m_.Now))
   else
    some false)).bind fun s2 =>
   (bif s2 then
    some (w64 (n + 1))
   else
    some n)).bind fun s1 =>
   yI e m_ m s1 (w64 (i + 1))
  else
   some n)
def yV (k : Nat) (d : zd) (queue : Int) : Option (Int) :=
 (yI queue d k 0 0).bind fun s =>
 some s
def z7 (i : Int) (l : Int) (i1 : Int) : Nat -> Int -> (List zi) -> Option ((List zi))
 | 0, _, _ => none
 | m + 1, j, e =>
  ((bif decide (j > i) then
   (mIdx e j).bind fun x1 =>
   (mIdx e (w64 (j - 1))).bind fun x2 =>
   (wc m x1 x2).bind fun t_ =>
   some (decide (t_ < 0))
  else
   some false)).bind fun s2 =>
  (bif s2 then
   (mIdx e (w64 (j - 1))).bind fun x3 =>
   (mIdx e j).bind fun x4 =>
   (mIdx e j).bind fun x5 =>
   (mIdx (mSet e j x3) (w64 (j - 1))).bind fun x6 =>
   z7 i l i1 m (w64 (j - 1)) (mSet (mSet e j x3) (w64 (j - 1)) x4)
  else
   some e)
def zO (e : Int) (j : Int) : Nat -> Int -> (List zi) -> Option ((List zi))
 | 0, _, _ => none
 | m + 1, i, m_ =>
  (bif decide (i < j) then
   (z7 e j i m i m_).bind fun s1 =>
   zO e j m (w64 (i + 1)) s1
  else
   some m_)
def yo (k : Nat) (data : List zi) (a_ : Int) (b : Int) : Option ((List zi)) :=
 (zO a_ b k (w64 (a_ + 1)) data).bind fun s =>
 (uc s.length data.length).bind fun u =>
 some s
def ye (e : Int) (j : Int) (l : Int) : Nat -> Int -> (List zi) -> Option ((List zi))
 | 0, _, _ => none
 | m + 1, i, m_ =>
  (bif decide (i < l) then
   (mIdx m_ (w64 (j + i))).bind fun x =>
   (mIdx m_ (w64 (e + i))).bind fun x1 =>
   (mIdx m_ (w64 (e + i))).bind fun x2 =>
   (mIdx (mSet m_ (w64 (e + i)) x) (w64 (j + i))).bind fun x3 =>
   ye e j l m (w64 (i + 1)) (mSet (mSet m_ (w64 (e + i)) x) (w64 (j + i)) x1)
  else
   some m_)
def yi (k : Nat) (data : List zi) (a_ : Int) (b : Int) (n : Int) : Option ((List zi)) :=
 (ye a_ b n k 0 data).bind fun s =>
 (uc s.length data.length).bind fun u =>
 some s
def yj (e : Int) : Nat -> Int -> Int -> (List zi) -> Option (Int × (List zi))
 | 0, _, _, _ => none
 | m + 1, i, j, l =>
  (bif i != j then
   (bif decide (i > j) then
    (yi m l (w64 (e - i)) e j).bind fun t_ =>
    yj e m (w64 (i - j)) j t_
   else
    (yi m l (w64 (e - i)) (w64 ((w64 (e + j)) - i)) i).bind fun t =>
    yj e m i (w64 (j - i)) t)
  else
   some (i, l))
def yK (k : Nat) (data : List zi) (a_ : Int) (m_ : Int) (b : Int) : Option ((List zi)) :=
 (yj m_ k (w64 (m_ - a_)) (w64 (b - m_)) data).bind fun s =>
 (yi k s.2 (w64 (m_ - s.1)) m_ s.1).bind fun e =>
 (uc e.length data.length).bind fun u =>
 some e
def zQ (e : (List zi) -> Int -> Int -> Int -> Option ((List zi))) (t : Int) (l : List zi) : Nat -> Int -> Int -> Option (Int)
 | 0, _, _ => none
 | m + 1, i, j =>
  (bif decide (i < j) then
   (mIdx l (w64 (Int.fdiv (IntKind.wrap .u64 (w64 (i + j))) (2 ^ (min (Int.toNat 1) 64))))).bind fun x =>
   (mIdx l t).bind fun x1 =>
   (wc m x x1).bind fun t_ =>
   (bif decide (t_ < 0) then
    zQ e t l m (w64 ((w64 (Int.fdiv (IntKind.wrap .u64 (w64 (i + j))) (2 ^ (min (Int.toNat 1) 64)))) + 1)) j
   else
    zQ e t l m i (w64 (Int.fdiv (IntKind.wrap .u64 (w64 (i + j))) (2 ^ (min (Int.toNat 1) 64)))))
  else
   some i)
def z6 (i : (List zi) -> Int -> Int -> Int -> Option ((List zi))) (i1 : Int) : Nat -> Int -> (List zi) -> Option ((List zi))
 | 0, _, _ => none
 | m + 1, k_, e =>
  (bif decide (k_ < w64 (i1 - 1)) then
   (mIdx e (w64 (k_ + 1))).bind fun x2 =>
   (mIdx e k_).bind fun x3 =>
   (mIdx e k_).bind fun x4 =>
   (mIdx (mSet e k_ x2) (w64 (k_ + 1))).bind fun x5 =>
   z6 i i1 m (w64 (k_ + 1)) (mSet (mSet e k_ x2) (w64 (k_ + 1)) x3)
  else
   some e)
def zP (e : (List zi) -> Int -> Int -> Int -> Option ((List zi))) (i : Int) (l1 : List zi) : Nat -> Int -> Int -> Option (Int)
 | 0, _, _ => none
 | m + 1, i2, j =>
  (bif decide (i2 < j) then
   (mIdx l1 i).bind fun x6 =>
   (mIdx l1 (w64 (Int.fdiv (IntKind.wrap .u64 (w64 (i2 + j))) (2 ^ (min (Int.toNat 1) 64))))).bind fun x7 =>
   (wc m x6 x7).bind fun l =>
   (bif !(decide (l < 0)) then
    zP e i l1 m (w64 ((w64 (Int.fdiv (IntKind.wrap .u64 (w64 (i2 + j))) (2 ^ (min (Int.toNat 1) 64)))) + 1)) j
   else
    zP e i l1 m i2 (w64 (Int.fdiv (IntKind.wrap .u64 (w64 (i2 + j))) (2 ^ (min (Int.toNat 1) 64)))))
  else
   some i2)
def zZ (j : (List zi) -> Int -> Int -> Int -> Option ((List zi))) (i3 : Int) : Nat -> Int -> (List zi) -> Option ((List zi))
 | 0, _, _ => none
 | m + 1, e, i =>
  (bif decide (e > i3) then
   (mIdx i (w64 (e - 1))).bind fun x8 =>
   (mIdx i e).bind fun x9 =>
   (mIdx i e).bind fun x10 =>
   (mIdx (mSet i e x8) (w64 (e - 1))).bind fun x11 =>
   zZ j i3 m (w64 (e - 1)) (mSet (mSet i e x8) (w64 (e - 1)) x9)
  else
   some i)
def zX (e : (List zi) -> Int -> Int -> Int -> Option ((List zi))) (i : Int) (j : Int) (l : Int) (t : Int) (n : Int) (p : Int) (l2 : List zi) : Nat -> Int -> Int -> Option (Int)
 | 0, _, _ => none
 | m + 1, start, r =>
  (bif decide (start < r) then
   (mIdx l2 (w64 (p - (w64 (Int.fdiv (IntKind.wrap .u64 (w64 (start + r))) (2 ^ (min (Int.toNat 1) 64))))))).bind fun x12 =>
   (mIdx l2 (w64 (Int.fdiv (IntKind.wrap .u64 (w64 (start + r))) (2 ^ (min (Int.toNat 1) 64))))).bind fun x13 =>
   (wc m x12 x13).bind fun u =>
   (bif !(decide (u < 0)) then
    zX e i j l t n p l2 m (w64 ((w64 (Int.fdiv (IntKind.wrap .u64 (w64 (start + r))) (2 ^ (min (Int.toNat 1) 64)))) + 1)) r
   else
    zX e i j l t n p l2 m start (w64 (Int.fdiv (IntKind.wrap .u64 (w64 (start + r))) (2 ^ (min (Int.toNat 1) 64)))))
  else
   some start)
def zt : Nat -> (List zi) -> Int -> Int -> Int -> Option ((List zi))
 | 0, _, _, _, _ => none
 | k + 1, data, a_, m_, b =>
  (bif (w64 (m_ - a_)) == 1 then
   (zQ (zt k) a_ data k m_ b).bind fun s =>
   (z6 (zt k) s k a_ data).bind fun s1 =>
   (uc s1.length data.length).bind fun u =>
   some s1
  else
   (bif (w64 (b - m_)) == 1 then
    (zP (zt k) m_ data k a_ m_).bind fun s2 =>
    (zZ (zt k) s2 k m_ data).bind fun x =>
    (uc x.length data.length).bind fun A =>
    some x
   else
    ((bif decide (m_ > w64 (Int.fdiv (IntKind.wrap .u64 (w64 (a_ + b))) (2 ^ (min (Int.toNat 1) 64)))) then
     some (w64 ((w64 ((w64 (Int.fdiv (IntKind.wrap .u64 (w64 (a_ + b))) (2 ^ (min (Int.toNat 1) 64)))) + m_)) - b), w64 (Int.fdiv (IntKind.wrap .u64 (w64 (a_ + b))) (2 ^ (min (Int.toNat 1) 64))))
    else
     some (a_, m_))).bind fun y =>
    (zX (zt k) a_ m_ b (w64 (Int.fdiv (IntKind.wrap .u64 (w64 (a_ + b))) (2 ^ (min (Int.toNat 1) 64)))) (w64 ((w64 (Int.fdiv (IntKind.wrap .u64 (w64 (a_ + b))) (2 ^ (min (Int.toNat 1) 64)))) + m_)) (w64 ((w64 ((w64 (Int.fdiv (IntKind.wrap .u64 (w64 (a_ + b))) (2 ^ (min (Int.toNat 1) 64)))) + m_)) - 1)) data k y.1 y.2).bind fun e =>
    ((bif (decide (e < m_)) && (decide (m_ < w64 ((w64 ((w64 (Int.fdiv (IntKind.wrap .u64 (w64 (a_ + b))) (2 ^ (min (Int.toNat 1) 64)))) + m_)) - e))) then
     (yK k data e m_ (w64 ((w64 ((w64 (Int.fdiv (IntKind.wrap .u64 (w64 (a_ + b))) (2 ^ (min (Int.toNat 1) 64)))) + m_)) - e))).bind fun j =>
     some j
    else
     some data)).bind fun z =>
    ((bif (decide (a_ < e)) && (decide (e < w64 (Int.fdiv (IntKind.wrap .u64 (w64 (a_ + b))) (2 ^ (min (Int.toNat 1) 64))))) then
     ((zt k) z a_ e (w64 (Int.fdiv (IntKind.wrap .u64 (w64 (a_ + b))) (2 ^ (min (Int.toNat 1) 64))))).bind fun l =>
     some l
    else
     some z)).bind fun t =>
    (bif (decide (w64 (Int.fdiv (IntKind.wrap .u64 (w64 (a_ + b))) (2 ^ (min (Int.toNat 1) 64))) < w64 ((w64 ((w64 (Int.fdiv (IntKind.wrap .u64 (w64 (a_ + b))) (2 ^ (min (Int.toNat 1) 64)))) + m_)) - e))) && (decide (w64 ((w64 ((w64 (Int.fdiv (IntKind.wrap .u64 (w64 (a_ + b))) (2 ^ (min (Int.toNat 1) 64)))) + m_)) - e) < b)) then
     ((zt k) t (w64 (Int.fdiv (IntKind.wrap .u64 (w64 (a_ + b))) (2 ^ (min (Int.toNat 1) 64)))) (w64 ((w64 ((w64 (Int.fdiv (IntKind.wrap .u64 (w64 (a_ + b))) (2 ^ (min (Int.toNat 1) 64)))) + m_)) - e)) b).bind fun i =>
     (uc i.length data.length).bind fun B =>
     some i
    else
     (uc t.length data.length).bind fun D =>
     some t)))
def yc (e : Int) : Nat -> Int -> Int -> (List zi) -> Option (Int × (List zi))
 | 0, _, _, _ => none
 | m + 1, a_, b, m_ =>
  (bif decide (b <= e) then
   (yo m m_ a_ b).bind fun t_ =>
   yc e m b (w64 (b + 20)) t_
  else
   some (a_, m_))
def yx (u : Int) (e : Int) : Nat -> Int -> Int -> (List zi) -> Option (Int × (List zi))
 | 0, _, _, _ => none
 | m + 1, i, l, j =>
  (bif decide (l <= u) then
   (zt m j i (w64 (i + e)) l).bind fun t =>
   yx u e m l (w64 (l + (w64 (2 * e)))) t
  else
   some (i, j))
def zU (i : Int) : Nat -> Int -> (List zi) -> Option ((List zi))
 | 0, _, _ => none
 | m + 1, e, j =>
  (bif decide (e < i) then
   (yx i e m 0 (w64 (2 * e)) j).bind fun s2 =>
   ((bif decide (w64 (s2.1 + e) < i) then
    (zt m s2.2 s2.1 (w64 (s2.1 + e)) i).bind fun l =>
    some l
   else
    some s2.2)).bind fun t =>
   zU i m (w64 (e * 2)) t
  else
   some j)
def y6 (k : Nat) (data : List zi) (n : Int) : Option ((List zi)) :=
 (yc n k 0 20 data).bind fun s =>
 (yo k s.2 s.1 n).bind fun e =>
 (zU n k 20 e).bind fun s1 =>
 (uc s1.length data.length).bind fun u =>
 some s1
def xD (k : Nat) (x : List zi) : Option ((List zi)) :=
 (y6 k x (x.length : Int)).bind fun t_ =>
 (uc t_.length x.length).bind fun u =>
 some t_
def qm (k : Nat) (l : List zi) : Option ((List zi)) :=
 (lF l).bind fun t_ =>
 (xD k t_).bind fun e =>
 some e
def yW (e : Int) (x1 : Int) (m_ : za) (l : List zf) : Nat -> (List zi) -> Int -> Option ((List zi))
 | 0, _, _ => none
 | m + 1, out, x =>
  (bif decide (x < x1) then
   ((mIdx l x).bind fun x2 =>
   (xt m_.t_ x2).bind fun i =>
   (bif i.1.Queue == e then
    (sS zf.eq x2 (0 : Int) m_.when).bind fun x3 =>
    (mApp out ([zi.mk i.1.Time x3.1] : List zi)).bind fun l1 =>
    some l1
   else
    some out)).bind fun s1 =>
   yW e x1 m_ l m s1 (w64 (x + 1))
  else
   some out)
def yg (k : Nat) (d : za) (queue : Int) : Option ((List zi)) :=
 (ue k d.t_).bind fun t_ =>
 (yW queue (t_.length : Int) d t_ k ([] : List zi) 0).bind fun s =>
 (qm k s).bind fun e =>
 some e
def xV (i1 : Int) (l2 : List zi) (e : List zi) : Nat -> Int -> Option (Int)
 | 0, _ => none
 | m + 1, k_ =>
  ((bif decide (k_ > 0) then
   (mIdx e i1).bind fun x1 =>
   (mIdx l2 (w64 (k_ - 1))).bind fun x2 =>
   (wD x1 x2).bind fun t_ =>
   some t_
  else
   some false)).bind fun s2 =>
  (bif s2 then
   xV i1 l2 e m (w64 (k_ - 1))
  else
   some k_)
def xR (l1 : List zi) : Nat -> (List zi) -> Int -> Option ((List zi))
 | 0, _, _ => none
 | m + 1, out, i =>
  (bif decide (i < (l1.length : Int)) then
   (xV i out l1 m (out.length : Int)).bind fun s1 =>
   (mCut out 0 s1).bind fun e =>
   (mIdx l1 i).bind fun x3 =>
   (mCut out s1 (out.length : Int)).bind fun j =>
   (mApp ([] : List zi) e).bind fun l =>
   (mApp l ([x3] : List zi)).bind fun t =>
   (mApp t j).bind fun u =>
   xR l1 m u (w64 (i + 1))
  else
   some out)
def uo (k : Nat) (l : List zi) : Option ((List zi)) :=
 (xR l k ([] : List zi) 0).bind fun s =>
 some s
def yF (e : Int) (m_ : zd) : Nat -> (List zi) -> Int -> Option ((List zi))
 | 0, _, _ => none
 | m + 1, out, i =>
  (bif decide (i < (m_.L.length : Int)) then
   ((mIdx m_.L i).bind fun x =>
   (bif x.Queue == e then
    (mIdx m_.L i).bind fun x1 =>
    (mApp out ([x1.E] : List zi)).bind fun l =>
    some l
   else
    some out)).bind fun s1 =>
   yF e m_ m s1 (w64 (i + 1))
  else
   some out)
def yA (k : Nat) (d : zd) (queue : Int) : Option ((List zi)) :=
 (yF queue d k ([] : List zi) 0).bind fun s =>
 (uo k s).bind fun t_ =>
 some t_
def yP (l : List zi) (l1 : List zi) : Nat -> Int -> Option ((Bool) ⊕ (Unit))
 | 0, _ => none
 | m + 1, i =>
  (bif decide (i < (l.length : Int)) then
   (mIdx l i).bind fun x =>
   (mIdx l1 i).bind fun x1 =>
   (bif !(zi.eq x x1) then
    some (.inl false)
   else
    yP l l1 m (w64 (i + 1)))
  else
   some (.inr ()))
def yL (k : Nat) (a_ : List zi) (b : List zi) : Option (Bool) :=
 (bif (a_.length : Int) != (b.length : Int) then
  some false
 else
  (yP a_ b k 0).bind fun s =>
  match s with
  | .inl e => some e
  | .inr s1 =>
   some true)
def yG (k : Nat) (k_ : Int) (jobs : Int) : Option ((Option zc)) :=
 (yX k_ 1 3).bind fun t_ =>
 (yX jobs 1 40).bind fun e =>
 (sA k t_ e).bind fun i =>
 (vD i.1
  (some (none : Option zc))
  (fun m_ =>
  (bif i.2 != 0 then
   some (none : Option zc)
  else
   (ur e).bind fun j =>
   some (some (zc.mk m_ j t_ ([] : List zf))))))
def yE (k : Nat) (i : zc) (j : zy) : Option (Bool × zc) :=
 (yp k i.d j).bind fun t_ =>
 (zK k i.m_ j).bind fun e =>
 ((bif !(zu.eq t_.1 e.1) then
  some (true, zc.mk t_.2 e.2 i.k_ i.told)
 else
  (xF ((zc.mk t_.2 e.2 i.k_ i.told).d)).bind fun t =>
  (bif decide (t < 0) then
   some (true, (zc.mk t_.2 e.2 i.k_ i.told))
  else
   (xF ((zc.mk t_.2 e.2 i.k_ i.told).d)).bind fun u =>
   (xn ((zc.mk t_.2 e.2 i.k_ i.told).d)).bind fun x =>
   (bif decide (u > x) then
    some (true, (zc.mk t_.2 e.2 i.k_ i.told))
   else
    (wA ((zc.mk t_.2 e.2 i.k_ i.told).d)).bind fun y =>
    (xn ((zc.mk t_.2 e.2 i.k_ i.told).d)).bind fun z =>
    (bif decide (y > z) then
     some (true, (zc.mk t_.2 e.2 i.k_ i.told))
    else
     (y4 ((zc.mk t_.2 e.2 i.k_ i.told).d)).bind fun A =>
     (bif A != (((zc.mk t_.2 e.2 i.k_ i.told).m_).Now) then
      some (true, zc.mk ((zc.mk t_.2 e.2 i.k_ i.told).d) ((zc.mk t_.2 e.2 i.k_ i.told).m_) ((zc.mk t_.2 e.2 i.k_ i.told).k_) ((zc.mk t_.2 e.2 i.k_ i.told).told))
     else
      (xJ ((zc.mk t_.2 e.2 i.k_ i.told).d)).bind fun B =>
      some (B != ((((zc.mk t_.2 e.2 i.k_ i.told).m_).L).length : Int), zc.mk ((zc.mk t_.2 e.2 i.k_ i.told).d) ((zc.mk t_.2 e.2 i.k_ i.told).m_) ((zc.mk t_.2 e.2 i.k_ i.told).k_) ((zc.mk t_.2 e.2 i.k_ i.told).told)))))))).bind fun s =>
 (bif s.1 then
  some (false, s.2)
 else
  ((bif (j.Kind == 1) && (t_.1.Why == 0) then
   (mApp s.2.told ([t_.1.Job] : List zf)).bind fun l =>
   some (zc.mk s.2.d s.2.m_ s.2.k_ l)
  else
   some s.2)).bind fun s1 =>
  some (true, s1))
def wU (k : Nat)  : Option (Bool) :=
 (yG k 3 4).bind fun t_ =>
 (vD t_
  (some false)
  (fun m_ =>
  ((yE k m_ (zy.mk 1 0 (zf.mk 0 0) 5 9)).bind fun e =>
  (bif !e.1 then
   some (true, e.2)
  else
   (yE k e.2 (zy.mk 5 0 (zf.mk 0 0) 0 0)).bind fun i =>
   (bif !i.1 then
    some (true, i.2)
   else
    (yE k i.2 (zy.mk 4 0 (zf.mk 0 0) 5 0)).bind fun j =>
    some (!j.1, j.2)))).bind fun s =>
  (bif s.1 then
   some false
  else
   (yp k s.2.d (zy.mk 5 0 (zf.mk 0 0) 0 0)).bind fun l =>
   (yp k l.2 (zy.mk 5 0 (zf.mk 0 0) 0 0)).bind fun t =>
   ((bif (s.2.told.length : Int) == 1 then
    (mIdx s.2.told 0).bind fun x1 =>
    (bif zu.eq l.1 (zu.mk 0 x1 5 9 0) then
     (bif t.1.Why == 28 then
      (xJ t.2).bind fun u =>
      some (u == 0)
     else
      some false)
    else
     some false)
   else
    some false)).bind fun s1 =>
   some s1)))
def wI (k : Nat) (e : zc) : Option (Bool) :=
 ((yg k e.d 0).bind fun t_ =>
 (yA k e.m_ 0).bind fun i =>
 (yL k t_ i).bind fun j =>
 (bif !j then
  some true
 else
  (xj k e.d 0).bind fun l =>
  (yV k e.m_ 0).bind fun t =>
  some (l != t))).bind fun s =>
 (bif s then
  some false
 else
  ((yg k e.d 1).bind fun u =>
  (yA k e.m_ 1).bind fun x =>
  (yL k u x).bind fun y =>
  (bif !y then
   some true
  else
   (xj k e.d 1).bind fun z =>
   (yV k e.m_ 1).bind fun A =>
   some (z != A))).bind fun s1 =>
  (bif s1 then
   some false
  else
   some true))
def yO (l1 : List zx) : Nat -> Int -> zc -> Option ((Bool) ⊕ (zc))
 | 0, _, _ => none
 | m + 1, i, e =>
  (bif (decide (i < (l1.length : Int))) && (decide (i < 100)) then
   (mIdx l1 i).bind fun x =>
   (wR x e.told).bind fun l =>
   (yE m e l).bind fun j =>
   (bif !j.1 then
    some (.inl false)
   else
    yO l1 m (w64 (i + 1)) j.2)
  else
   some (.inr e))
def xo (k : Nat) (k_ : Int) (jobs : Int) (l : List zx) : Option (Bool) :=
 (yG k k_ jobs).bind fun t_ =>
 (vD t_
  (some false)
  (fun m_ =>
  (yO l k 0 m_).bind fun s =>
  match s with
  | .inl j => some j
  | .inr s1 =>
   ((wI k s1).bind fun e =>
   (bif e then
    (wU k).bind fun i =>
    some i
   else
    some false)).bind fun s2 =>
   some s2))
def yw (l1 : List zx) : Nat -> Int -> zc -> zc -> zc -> Option ((Bool) ⊕ (zc × zc × zc))
 | 0, _, _, _, _ => none
 | m + 1, i, t, l, e =>
  (bif (decide (i < (l1.length : Int))) && (decide (i < 80)) then
   ((mIdx l1 i).bind fun x =>
   (wR x e.told).bind fun u =>
   (yp m e.d u).bind fun j =>
   ((yp m l.d u).bind fun z =>
   (bif !(zu.eq z.1 j.1) then
    some (true, t, zc.mk z.2 l.m_ l.k_ l.told)
   else
    (yp m t.d u).bind fun y =>
    some (!(zu.eq y.1 j.1), zc.mk y.2 t.m_ t.k_ t.told, zc.mk z.2 l.m_ l.k_ l.told))).bind fun A =>
   (bif A.1 then
    some (.inl false)
   else
    (bif (j.1.Why == 0) && (u.Kind == 1) then
     (mApp ((zc.mk j.2 e.m_ e.k_ e.told).told) ([j.1.Job] : List zf)).bind fun l2 =>
     some (.inr (A.2.1, A.2.2, zc.mk ((zc.mk j.2 e.m_ e.k_ e.told).d) ((zc.mk j.2 e.m_ e.k_ e.told).m_) ((zc.mk j.2 e.m_ e.k_ e.told).k_) l2))
    else
     some (.inr (A.2.1, A.2.2, zc.mk j.2 e.m_ e.k_ e.told)))) : Option ((Bool) ⊕ (zc × zc × zc))).bind fun s2 =>
   match s2 with
   | .inl D => some (.inl D)
   | .inr B =>
    yw l1 m (w64 (i + 1)) B.1 B.2.1 B.2.2
  else
   some (.inr (t, l, e)))
def xp (k : Nat) (jobs : Int) (l : List zx) : Option (Bool) :=
 (yG k 1 jobs).bind fun t_ =>
 (vD t_
  ((yG k 2 jobs).bind fun B =>
  (vD B
   ((yG k 3 jobs).bind fun D =>
   (vD D
    (some false)
    (fun W =>
    some false)))
   (fun X =>
   (yG k 3 jobs).bind fun F =>
   (vD F
    (some false)
    (fun Y =>
    some false)))))
  (fun m_ =>
  (yG k 2 jobs).bind fun I =>
  (vD I
   ((yG k 3 jobs).bind fun J =>
   (vD J
    (some false)
    (fun Z =>
    some false)))
   (fun O =>
   (yG k 3 jobs).bind fun S =>
   (vD S
    (some false)
    (fun U =>
    (yw l k 0 U O m_).bind fun s =>
    match s with
    | .inl r_ => some r_
    | .inr s1 =>
     ((y4 s1.2.2.d).bind fun e =>
     (y4 s1.2.1.d).bind fun i =>
     (bif e == i then
      (yg k s1.2.2.d 0).bind fun j =>
      (yg k s1.1.d 0).bind fun t =>
      (yL k j t).bind fun u =>
      (bif u then
       (yg k s1.2.1.d 1).bind fun x =>
       (yg k s1.1.d 1).bind fun y =>
       (yL k x y).bind fun z =>
       (bif z then
        (wU k).bind fun A =>
        some A
       else
        some false)
      else
       some false)
     else
      some false)).bind fun s5 =>
     some s5))))))
end
end Go.Proofs.YteflmnbkdhneiaaGreat
