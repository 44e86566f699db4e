/-
  The statements DispatchTwins of the program.
  Text 2 of 7: of what the proof needs (a row of the program: no condition is left); put together and made narrow by a program.
-/
import Derived.Below
import Derived.Deep.Slices
import Derived.Deep.Strs
import Derived.Laws.BytesString
import Derived.Laws.Externs
import Derived.Lib.AppendZerosOnto
import Derived.Lib.Overlaps
import Derived.Lib.SmallJoins
import Derived.MapKept
import Derived.Sort.Grow
import Derived.Sort.Row
import Derived.Test.YteflmnbkdhneiaaGreatYc1
set_option linter.unusedVariables false
set_option linter.unusedSimpArgs false
namespace Go.Th
noncomputable section
theorem St.below {w w' : World} {As : List HP} (H : St w As w') (i : Nat) (hi : As[i]? = some (Old w)) : Go.RowKit.Below w.heap.size w w' := by
 have j := H.old i hi;refine ⟨H.os, H.tape, H.output, ?_, j⟩;by_cases hz : w.heap.size = 0
 ·omega
 ·have := j (w.heap.size - 1) (by omega);have e : w.heap[w.heap.size - 1]? = some (w.heap[w.heap.size - 1]'(by omega)) := by simp
  rw [e] at this;have := (Array.getElem?_eq_some_iff.1 this).1;omega
theorem kE {α : Type} {p : Nat -> α -> Prop} : ∀ n : Nat, (∀ i, i < n -> ∃ x, p i x) -> ∃ l : List α, l.length = n /\ ∀ (i : Nat) (x : α), l[i]? = some x -> p i x
 | 0, _ => ⟨[], rfl, fun i x h => by simp at h⟩
 | n + 1, h => by
  obtain ⟨l, hl, hp⟩ := kE n fun i hi => h i (by omega)
  obtain ⟨x, t⟩ := h n (by omega);refine ⟨l ++ [x], by simp [hl], fun i y e => ?_⟩;by_cases hi : i < n
  ·rw [List.getElem?_append_left (by omega)] at e;exact hp i y e
  ·have j := (List.getElem?_eq_some_iff.1 e).1;simp [hl] at j;have s : i = n := by omega
   subst s;rw [List.getElem?_append_right (by omega)] at e;simp [hl] at e;subst e; exact t
section
variable {α H : Type} {en : TypeId × Value -> H} {P : Program} {w : World} {base : Nat} {spare : Nat -> Bool} {held : Bool} {enc : α -> List Value} {sz : Nat}
theorem bq (he : we enc sz) (hs : 0 < sz) {a : Addr} (l : List α) (h : ∀ (j : Nat) (u : Value), (l.flatMap enc)[j]? = some u -> w.cell? (a.add j) = some u) : SlRd (Old w) enc sz (some a) l := by
 intro g B;by_cases hl : l = []
 ·exact .inl hl
 have e := yi he l;have s : 0 < l.length := by cases l with
  | nil => exact absurd rfl hl
  | cons => simp
 have hp : 0 < (l.flatMap enc).length := by rw [e]; exact Nat.mul_pos s hs
 have h0 := h 0 _ (List.getElem?_eq_getElem hp);have e0 : a.add 0 = a := by simp [Addr.add]
 rw [e0] at h0;obtain ⟨b, off, spot⟩ := a;unfold World.cell? at h0;split at h0
 ·rename_i c T fr x;split at h0
  ·cases h0
  ·rename_i y;have z : spot = none := by simpa using y
   subst z;have A : b < w.heap.size := (Array.getElem?_eq_some_iff.1 x).1;refine .inr ⟨b, off, c, T, fr, rfl, by rw [B b A]; exact x, fun i hi => ?_⟩;have t : i < (l.flatMap enc).length := by rw [e]; exact hi
   have D := h i _ (List.getElem?_eq_getElem t);rw [List.getElem?_eq_getElem t, <- D];unfold Addr.add;split
   ·rename_i hz; subst hz; simp [World.cell?, x]
   ·simp [World.cell?, x]
 ·cases h0
theorem dP {t e : TypeId} {fuel : Nat} {cs : List Value} {x : DataW H × List MemPlace} (ht : P.underlying t = some (.slice e)) (U : P.cellsOf e = sz) (he : we enc sz) (hs : 0 < sz)
  (A : ∀ n cs y, DataW.trod en P w base spare held n e cs = some y -> ∃ z : α, cs = enc z) (h : DataW.trod en P w base spare held fuel t cs = some x) :
  ∃ (sb : Option Addr) (len cap : Nat) (l : List α), cs = [.slice sb len cap] /\ l.length = len /\ len <= cap /\ SlRd (Old w) enc sz sb l := by
 rcases Go.Deep.open_slice ht h with ⟨rfl, _⟩ | ⟨a, len, cap, m, n, D, Y, rfl, Z, hl, hm, F, _, W⟩
 ·exact ⟨none, 0, 0, [], rfl, rfl, Nat.le_refl _, fun _ _ => .inl rfl⟩
 ·obtain ⟨l, I, hp⟩ := kE (α := α) (p := fun i z => w.cells? base (a.add (i * sz)) sz = some (enc z)) len fun i hi => by
   obtain ⟨X, h1, h2⟩ := W i (by rw [F]; split <;> omega);obtain ⟨z, rfl⟩ := A _ _ _ h2;rw [U] at h1;exact ⟨z, h1⟩
  refine ⟨some a, len, cap, l, rfl, I, hl, bq he hs l fun j u hu => ?_⟩;have B := (List.getElem?_eq_some_iff.1 hu).1;rw [yi he] at B;have hj : j / sz < l.length := Nat.div_lt_of_lt_mul (by rw [Nat.mul_comm]; exact B);have hq : j % sz < sz := Nat.mod_lt _ hs;have O := uA he l (j / sz) (j % sz) hj hq;have S : j / sz * sz + j % sz = j := by rw [Nat.mul_comm]; exact Nat.div_add_mod j sz
  rw [S, hu] at O;have s := hp (j / sz) l[j / sz] (by simp [hj]);obtain ⟨_, _, J⟩ := World.cells?_some s;have := J (j % sz) (by exact hq);rw [<- O] at this;rw [<- this];congr 1;rw [Go.Deep.add_add, S]
end
end
noncomputable section
theorem iJ (A X R V : List Value) (h : V.length = X.length) : putAt (A ++ (X ++ R)) A.length V = A ++ (V ++ R) := by
 rw [vK _ _ _ (by simp; omega)];rw [List.take_left' rfl, aA];congr 2;have : A.length + V.length = (A ++ X).length := by simp [h]
 rw [this, <- aA, List.drop_left' rfl]
theorem ry (A X R V : List Value) (n : Nat) (hn : n = A.length) (h : V.length = X.length) : putAt (A ++ (X ++ R)) n V = A ++ (V ++ R) := by
 subst hn; exact iJ A X R V h
section
variable {w0 w : World} {As : List HP} {P : Program} {n : Nat} {a : Act} {L : Env} {o : Oper} {T : TypeId}
theorem dL (H : St w0 As w) (i : Nat) {b off : Nat} {cs news : List Value} (hi : As[i]? = some (Blk b T cs)) (h : ∀ (j : Nat) (u : Value), news[j]? = some u -> cs[off + j]? = some u) : Rd w (some ⟨b, off, none⟩) news := by
 refine .inr ⟨_, rfl, fun j u hj => ?_⟩;rw [vi];exact H.cell i hi (h j u hj)
theorem OpTo.mR {b off i l e j sz : Nat} {D : Option Addr} {cs : List Value} (news : List Value) {x y : Operand} {t u : TypeId} {ti : TypeInfo} (I : zV n a L) (H : St w0 (Blk b T cs :: As) w)
  (J : o.op = .call { callee := .builtin .copy, args := #[x, y], argTypes := #[t, u] }) (S : evO L x = some (.slice (some ⟨b, off, none⟩) i l)) (U : evO L y = some (.slice D e j))
  (ht : P.underlying t = some (.slice T)) (hi : P.info? T = some ti) (F : ti.size = sz) (W : Rd w D news) (hl : news.length = Nat.min e i * sz) (h1 : ∀ v ∈ news, v.oneCell' = true) (s : off + news.length <= cs.length) :
  OpTo P o a w fun v w' => (∃ k : Int, v = .int .i64 k) /\ St w0 (Blk b T (putAt cs off news) :: As) w' := by
 obtain ⟨dst, op, type, pos, after, guard⟩ := o;simp only at J;subst J;have O := H.one 0 rfl;have z := run_storeCells_at P b off T news 0 cs.toArray w O (by simpa using s) h1;simp only [Nat.add_zero] at z;rw [vK _ _ _ s];have hf := rq (P := P) (size := ti.size) (m := Nat.min e i) (len := e) (cap := j) W (by rw [hl, F]);have A : (Builtin.copy_ #[t, u] type #[.slice (some ⟨b, off, none⟩) i l, .slice D e j]).run P w = .ok (goInt (Nat.min e i)) (w.setRow b (cs.take off ++ news ++ cs.drop (off + news.length)).toArray) := by
  have B : Sem.run P (storeCells { block := b, off := off } news) w = Result.ok () (w.setRow b (List.take off cs ++ (news ++ List.drop (off + news.length) cs)).toArray) := by simpa using z
  simp [Builtin.copy_, xt P ht, Builtin.lenOf, tr P hi, hf, B]
 refine OpTo.of_run (w' := w.setRow b (cs.take off ++ news ++ cs.drop (off + news.length)).toArray) (v := goInt (Nat.min e i)) ?_ ⟨⟨_, rfl⟩, ?_⟩
 ·simp [execOp, resolve, invoke, builtin, I.eval S, I.eval U, A]
 ·exact H.set (by simp) (by simp) (by simp) (setRow_heap w b _ _ T (0, 0) O) (fun c X => setRow_other w b c _ X)
theorem OpTo.dd {sz k i j : Nat} {sb : Option Addr} (l : List Value) {x y : Operand} {t D : TypeId} {kn : IntKind} {ti : TypeInfo} {z : Value} (hE : zV n a L) (H : St w0 As w)
  (ho : o.op = .call { callee := .builtin .append, args := #[x, y], argTypes := #[t, D] }) (hx : evO L x = some (.slice sb i j)) (hy : evO L y = some (.int .i64 (k : Int)))
  (ht : P.underlying t = some (.slice T)) (F : P.underlying D = some (.int kn)) (hi : P.info? T = some ti) (s : ti.size = sz) (hz : ti.zero = some z) (I : z.cells.size = sz) (hs : 0 < sz)
  (hr : Rd w sb l) (J : l.length = i * sz) (h0 : 0 < k) (hg : j < i + k) (u : i + k <= 1073741824) (O : Nat.ble ti.bytes 131072 = true) :
  OpTo P o a w fun v w' => ∃ (r c : Nat) (Z : List Value), v = .slice (some ⟨r, 0, none⟩) (i + k) c /\ i + k <= c /\ c <= maxLen /\ Z.length = (c - i) * sz /\ St w0 (Blk r T (l ++ Z) :: As) w' := by
 have A := Nat.le_of_ble_eq_true O;obtain ⟨dst, op, type, pos, after, guard⟩ := o;simp only at ho;subst ho;have S : Rd w.drew sb l := by
  rcases hr with h | ⟨xa, h1, h2⟩
  ·exact .inl h
  ·exact .inr ⟨xa, h1, by simpa using h2⟩
 have U := rq (P := P) (size := ti.size) (m := i) (len := i) (cap := j) S (by rw [J, s]);have W : k * ti.bytes <= 281474976710656 := by
  calc k * ti.bytes <= 1073741824 * 131072 := Nat.mul_le_mul (by omega) A
   _ <= 281474976710656 := by decide
 have X : Builtin.nextslicecap (i + k) j * ti.bytes <= 281474976710656 := by
  refine growslice_fits (need := i + k) (old := j) (by omega) ?_
  calc (i + k) * ti.bytes <= 1073741824 * 131072 := Nat.mul_le_mul u A
   _ <= 140737488355328 := by decide
 have B := Go.Lib.run_append_grow_zeros (P := P) w t D type T ti z .i64 kn ht F hi hz sb i j l U k h0 (by rw [s]; exact hs) hg (by omega) W X;have a7 := grownCap_ge w (i + k) j T;have Y := grownCap_le_maxLen w (i + k) j T (by unfold maxLen; omega);refine OpTo.of_run (w' := w.drew.alloc (.cells (l.toArray ++ Builtin.zeroCells z.cells k ++ Builtin.zeroCells z.cells (grownCap w (i + k) j T - (i + k))) T (0, 0))) ?_
  ⟨w.heap.size, grownCap w (i + k) j T, (Builtin.zeroCells z.cells k ++ Builtin.zeroCells z.cells (grownCap w (i + k) j T - (i + k))).toList, rfl, by omega, Y, ?_, ?_⟩
 ·simp [execOp, resolve, invoke, builtin, hE.eval hx, hE.eval hy, B]
 ·simp only [Array.length_toList, Array.size_append, size_zeroCells, I, <- Nat.add_mul];congr 1; omega
 ·have H2 := (H.drew).alloc (.cells (l.toArray ++ Builtin.zeroCells z.cells k ++ Builtin.zeroCells z.cells (grownCap w (i + k) j T - (i + k))) T (0, 0));refine H2.head fun h hh => ?_
  have e : (l ++ (Builtin.zeroCells z.cells k ++ Builtin.zeroCells z.cells (grownCap w (i + k) j T - (i + k))).toList).toArray = l.toArray ++ Builtin.zeroCells z.cells k ++ Builtin.zeroCells z.cells (grownCap w (i + k) j T - (i + k)) := by
   apply Array.ext';simp [aA]
  show h _ = _;rw [e];exact hh
theorem OpTo.jM {g va vo la ca b off lb cb : Nat} {cv cs : Array Value} {Tv Ts : TypeId} {xs : List Operand} {fn : Func} {tS tR e : TypeId} {ti : TypeInfo} (hE : zV n a L) (H : St w0 As w) (i j : Nat)
  (hi : As[i]? = some (One va (.cells cv Tv (0, 0)))) (hj : As[j]? = some (One b (.cells cs Ts (0, 0)))) (hne : va ≠ b) (hcs : cs.size ≠ 0)
  (ho : callParts o.op = some (.func g, xs)) (hxs : qs L xs = some [.slice (some ⟨va, vo, none⟩) la ca, .slice (some ⟨b, off, none⟩) lb cb])
  (hf : P.funcs[g]? = some fn) (hname : (fn.name == "runtime.NumGoroutine") = false) (hb : fn.body.isNone = true) (hn : Extern.findNext fn = none) (he : Extern.find fn = some (Extern.SlicesOverlaps.overlaps #[tS, tS] #[tR]))
  (ht : P.underlying tS = some (.slice e)) (hz : P.info? e = some ti) : OpTo P o a w fun v w' => v = .bool false /\ w' = w := by
 obtain ⟨dst, op, type, pos, after, guard⟩ := o;cases op <;> simp only [callParts] at ho <;> try cases ho
 rename_i c;obtain ⟨callee, args, ats⟩ := c;cases callee <;> simp only at ho <;> try cases ho
 have h1 := H.one i hi;have h2 := H.one j hj;have hov := Go.Lib.run_overlaps_apart (P := P) w tS tR e ht ti.size (tr P hz) ⟨va, vo, none⟩ ⟨b, off, none⟩ la ca lb cb hne Tv Ts cv.size cs.size (by simp [World.shape?, h1]) (by simp [World.shape?, h2]) hcs (by simp [World.frozen?, h1]) (by simp [World.frozen?, h1]);have hcall := run_callFunc_extern hf hname hb hn he #[.slice (some ⟨va, vo, none⟩) la ca, .slice (some ⟨b, off, none⟩) lb cb] w;rw [hov] at hcall;have e2 := oF hE _ _ hxs;have e3 : args.map a.eval = #[.slice (some ⟨va, vo, none⟩) la ca, .slice (some ⟨b, off, none⟩) lb cb] := by
  apply Array.ext';simpa using e2
 refine OpTo.of_run (w' := w) (v := .bool false) ?_ ⟨rfl, rfl⟩;have hfe : a.eval (.func g) = .func (.func g) #[] #[] := rfl;simp [execOp, resolve, Deferred.ofValue, hfe, invoke, e3, hcall, Result.andThen]
end
theorem St.lN {α : Type} {T : TypeId} {enc : α -> List Value} {sz : Nat} {w0 w : World} {As : List HP} {sb : Option Addr} {sc : Nat} {l : List α} (H : St w0 (Sl T enc sz sb sc l :: As) w) (he : we enc sz) (hl : 0 < l.length) :
  ∃ (b off : Nat) (A R : List Value), sb = some ⟨b, off, none⟩ /\ A.length = off /\ l.length <= sc /\ sc <= maxLen /\ (sc - l.length) * sz <= R.length /\ St w0 (Blk b T (A ++ (l.flatMap enc ++ R)) :: As) w := by
 rcases H.mW with ⟨_, rfl, _⟩ | ⟨b, off, cs, rfl, H1, h1, h2, h3, h4⟩
 ·simp at hl
 ·have j := yi he l;have hmul : l.length * sz <= sc * sz := Nat.mul_le_mul_right _ h1;refine ⟨b, off, cs.toList.take off, cs.toList.drop (off + l.length * sz), rfl, by simp; omega, h1, h2, ?_, ?_⟩
  ·simp only [List.length_drop, Array.length_toList, Nat.sub_mul]; omega
  ·refine H1.head fun h hh => ?_
   have e : cs.toList.take off ++ (l.flatMap enc ++ cs.toList.drop (off + l.length * sz)) = cs.toList := by
    have s : (cs.toList.drop off).take (l.length * sz) = l.flatMap enc := by
     apply List.ext_getElem?;intro i;by_cases hi : i < l.length * sz
     ·rw [List.getElem?_take, if_pos hi, List.getElem?_drop, <- h4 i hi]; simp
     ·rw [List.getElem?_eq_none (by simp; omega), List.getElem?_eq_none (by omega)]
    rw [<- s, <- List.drop_drop, List.take_append_drop, List.take_append_drop]
   show h b = _;rw [e];have : h b = some (.cells cs T (0, 0)) := hh;simpa using this
theorem St.ez {α : Type} {T : TypeId} {enc : α -> List Value} {sz : Nat} {w0 w : World} {As : List HP} {b sc : Nat} {l : List α} {A R : List Value} (H : St w0 (Blk b T (A ++ (l.flatMap enc ++ R)) :: As) w) (he : we enc sz) (h1 : l.length <= sc) (h2 : sc <= maxLen) (h3 : (sc - l.length) * sz <= R.length) :
  St w0 (Sl T enc sz (some ⟨b, A.length, none⟩) sc l :: As) w := by
 have e := yi he l;have hmul : l.length * sz <= sc * sz := Nat.mul_le_mul_right _ h1;rw [Nat.sub_mul] at h3;refine H.head fun h hh => .inr ⟨b, A.length, _, rfl, hh, h1, h2, by simp [e]; omega, fun i hi => ?_⟩
 simp only [List.getElem?_toArray];rw [List.getElem?_append_right (by omega), Nat.add_sub_cancel_left, List.getElem?_append_left (by rw [e]; exact hi)]
end
end Go.Th
noncomputable section
namespace Go.Th
end Go.Th
end
namespace Go.Th
noncomputable section
section
variable {w0 w : World} {As : List HP} {P : Program} {n : Nat} {a : Act} {L : Env} {o : Oper} {T : TypeId}
end
end
noncomputable section
@[reducible] def catE : Env -> Env -> Env
 | [], L => L
 | p :: r, L => p :: catE r L
def fW : Env -> List Nat
 | [] => []
 | (t, _) :: r => t :: fW r
def hasK (t : Nat) : Env -> Bool
 | [] => false
 | (u, _) :: r => match Nat.beq t u with
  | true => true
  | false => hasK t r
def q9 (ops : Array Oper) (new L : Env) : List Nat -> Bool
 | [] => true
 | i :: is => match ops[i]? with
  | none => q9 ops new L is
  | some o => match o.dst with
   | none => q9 ops new L is
   | some d => match hasK d new with
    | true => q9 ops new L is
    | false => match hasK d L with
     | true => false
     | false => q9 ops new L is
def segD (P : Program) (n : Nat) (ops : Array Oper) (is : List Nat) (L : Env) (e : List Value) (new : Env) : Option (Env × List Ob) :=
 match q9 ops new L is with
 | false => none
 | true => p4 P n ops is L e (fW new)
theorem jD : ∀ (new L : Env) (t : Nat) (v : Value), look t (catE new L) = some v -> (look t new = some v) \/ (hasK t new = false /\ look t L = some v)
 | [], L, t, v, h => Or.inr ⟨rfl, h⟩
 | (u, x) :: r, L, t, v, h => by
  rw [catE, wB] at h;split at h
  ·subst_vars
   left
   rw [wB, if_pos rfl]; exact h
  ·rename_i e;rcases jD r L t v h with h1 | ⟨h1, h2⟩
   ·left; rw [wB, if_neg e]; exact h1
   ·right
    refine ⟨?_, h2⟩;simp only [hasK];split
    ·rename_i i; exact absurd (Nat.eq_of_beq_eq_true i) e
    ·exact h1
theorem nW : ∀ (L : Env) (t : Nat) (v : Value), look t L = some v -> hasK t L = true
 | [], t, v, h => by cases h
 | (u, x) :: r, t, v, h => by
  simp only [look] at h;simp only [hasK];split at h
  ·rename_i e; first | rfl | rw [e]
  ·rename_i e; first | exact nW r t v h | (rw [e]; exact nW r t v h)
theorem ot {ops : Array Oper} {new L : Env} : ∀ {is : List Nat}, q9 ops new L is = true -> ∀ i ∈ is, ∀ o d, ops[i]? = some o -> o.dst = some d -> hasK d new = true \/ hasK d L = false
 | [], _, i, hi, _, _, _, _ => by cases hi
 | j :: is, h, i, hi, o, d, e, hd => by
  simp only [q9] at h;rcases List.mem_cons.1 hi with rfl | hi
  ·rw [e] at h;simp only [hd] at h;cases h1 : hasK d new
   ·rw [h1] at h;simp only at h;cases h2 : hasK d L
    ·exact Or.inr rfl
    ·rw [h2] at h; cases h
   ·exact Or.inl rfl
  ·have l : q9 ops new L is = true := by
    repeat' split at h
    all_goals first | exact h | cases h
   exact ot l i hi o d e hd
theorem lf {n : Nat} {d : Option Tmp} {v : Value} {L i : Env} {t : Nat} (h : setE n d v L = some i) (hd : d ≠ some t) : look t i = look t L := by
 unfold setE at h;split at h
 ·cases h; rfl
 ·split at h
  ·cases h;rw [wB, if_neg (fun e => hd (by rw [e]))]
  ·cases h
theorem qW {P : Program} {n : Nat} {ops : Array Oper} {t : Nat} : ∀ (is : List Nat) (L : Env) (e : List Value) (l : Env) (obs : List Ob), rX P n ops is L e = some (l, obs) -> (∀ i ∈ is, ∀ o, ops[i]? = some o -> o.dst ≠ some t) -> look t l = look t L
 | [], L, e, l, obs, h, _ => by simp [rX] at h; rw [h.1]
 | i :: is, L, e, l, obs, h, hd => by
  have s : ∀ j ∈ is, ∀ o, ops[j]? = some o -> o.dst ≠ some t := fun j hj => hd j (mC _ hj)
  rw [rX] at h;split at h
  ·cases h
  ·rename_i o y;have u := hd i (List.mem_cons_self ..) o y;split at h
   ·cases h
   ·split at h
    ·rename_i L2 hs;rw [qW is L2 e l obs h s, lf hs u]
    ·cases h
   ·split at h
    ·cases h
    ·split at h
     ·cases h
     ·rename_i L2 hs;split at h
      ·rename_i z x h3;cases h;rw [qW is L2 _ _ _ h3 s, lf hs u]
      ·cases h
theorem zV.cat {n : Nat} {a : Act} {e L new : Env} (h : zV n a e) (hs : Th.sel (fW new) e = some new) (hk : ∀ t, hasK t new = false -> hasK t L = true -> look t e = look t L) : zV n a (catE new L) := by
 have h2 := tW h hs;refine ⟨h.size, h.defers, fun t v hv => ?_⟩;rcases jD new L t v hv with h1 | ⟨h1, h3⟩
 ·exact h2.has t v h1
 ·exact h.has t v (by rw [hk t h1 (nW L t v h3)]; exact h3)
section
variable {P : Program} {f : FuncId} {k : List Item} {a : Act} {w : World} {R : Value -> World -> Prop}
theorem fi {P : Program} {n : Nat} {ops : Array Oper} {is : List Nat} {L new : Env} {j : List Value} {obs : List Ob} (he : segD P n ops is L j new = some (new, obs)) :
  ∃ l, rX P n ops is L j = some (l, obs) /\ ∀ a : Act, zV n a l -> zV n a (catE new L) := by
 unfold segD at he;split at he
 ·cases he
 ·rename_i hd;unfold p4 at he;split at he
  ·cases he
  ·rename_i l u hs;split at he
   ·rename_i x s;cases he;refine ⟨l, hs, fun a ha => ha.cat s fun t h1 h2 => qW is L j l _ hs fun i hi o y e => ?_⟩;rcases ot hd i hi o t y e with h3 | h3
    ·rw [h1] at h3; cases h3
    ·rw [h2] at h3; cases h3
   ·cases he
theorem WR.d {ops : Array Oper} {i n : Nat} {L : Env} (t : zV n a L) (j : Nat) (l : List Value) (new : Env) {obs : List Ob} (u : xu w obs) (hk : ∀ e, zV n e (catE new L) -> WR P f ops j k e w R)
  (hj : (Nat.ble i j && Nat.ble j ops.size) = true := by rfl) (he : segD P n ops (List.range' i (j - i)) L l new = some (new, obs) := by kernel_rfl) : WR P f ops i k a w R := by
 obtain ⟨A, hs, hn⟩ := fi he;simp only [Bool.and_eq_true] at hj;have h1 := Nat.le_of_ble_eq_true hj.1;have h2 := Nat.le_of_ble_eq_true hj.2;unfold WR;have x : List.range' i (ops.size - i) = List.range' i (j - i) ++ List.range' j (ops.size - j) := by
  have y : ops.size - i = (j - i) + (ops.size - j) := by omega
  have z : i + (j - i) = j := by omega
  rw [y, <- List.range'_append_1, z]
 rw [x];exact pT _ _ _ _ _ _ t hs u fun e s => hk e (hn e s)
theorem WR.d0 {ops : Array Oper} {i n : Nat} {L : Env} (l : zV n a L) (j : Nat) (new : Env) (hk : ∀ e, zV n e (catE new L) -> WR P f ops j k e w R)
  (hj : (Nat.ble i j && Nat.ble j ops.size) = true := by rfl) (he : segD P n ops (List.range' i (j - i)) L [] new = some (new, []) := by kernel_rfl) : WR P f ops i k a w R := WR.d l j [] new (obs := []) trivial hk hj he
theorem WR.e {ops : Array Oper} {i n : Nat} {L : Env} (t : zV n a L) (j : List Value) (new : Env) {obs : List Ob} (u : xu w obs) (hk : ∀ l, zV n l (catE new L) -> Runs P f k l w R)
  (hj : Nat.ble i ops.size = true := by rfl) (he : segD P n ops (List.range' i (ops.size - i)) L j new = some (new, obs) := by kernel_rfl) : WR P f ops i k a w R :=
 WR.d t ops.size j new u (fun l s => WR.done (Nat.ble_eq_true_of_le (Nat.le_refl _)) (hk l s)) (by rw [hj]; exact Nat.ble_eq_true_of_le (Nat.le_refl _)) he
theorem WR.e0 {ops : Array Oper} {i n : Nat} {L : Env} (l : zV n a L) (new : Env) (hk : ∀ j, zV n j (catE new L) -> Runs P f k j w R)
  (hj : Nat.ble i ops.size = true := by rfl) (he : segD P n ops (List.range' i (ops.size - i)) L [] new = some (new, []) := by kernel_rfl) : WR P f ops i k a w R := WR.e l [] new (obs := []) trivial hk hj he
theorem Runs.sr {id : Nat} {ops : Array Oper} {y : Code} (h : WR P f ops 0 (.code y :: k) a w R) : Runs P f (.code (.seq (.region id ops false) y) :: k) a w R := Runs.seq (Runs.region h)
theorem WQ.d {ops : Array Oper} {dn : List Nat} {pend : List (Nat × List Ob)} {n : Nat} {L : Env} (s : zV n a L) (is : List Nat) (i : List Value) (new : Env) {obs : List Ob} (t : xu w obs)
  (hk : ∀ j, zV n j (catE new L) -> WQ P f ops (dn ++ is) (segP P n ops is L i pend) k j w R)
  (ht : (Nat.ble (dn.length + is.length) ops.size && mj ops is (vg dn)) = true := by kernel_rfl) (he : segD P n ops is L i new = some (new, obs) := by kernel_rfl) : WQ P f ops dn pend k a w R := by
 obtain ⟨u, hs, hn⟩ := fi he;simp only [Bool.and_eq_true] at ht;have hle := Nat.le_of_ble_eq_true ht.1;have e : ops.size - dn.length = is.length + (ops.size - (dn ++ is).length) := by simp; omega
 unfold WQ;rw [e];intro hs';exact WP.segs hs' _ _ _ _ _ _ _ _ _ _ s (fun x => wX x dn) ht.2 hs t fun j l => hk j (hn j l) hs'
theorem WQ.d0 {ops : Array Oper} {dn : List Nat} {pend : List (Nat × List Ob)} {n : Nat} {L : Env} (i : zV n a L) (is : List Nat) (new : Env)
  (hk : ∀ e, zV n e (catE new L) -> WQ P f ops (dn ++ is) (segP P n ops is L [] pend) k e w R)
  (ht : (Nat.ble (dn.length + is.length) ops.size && mj ops is (vg dn)) = true := by kernel_rfl) (he : segD P n ops is L [] new = some (new, []) := by kernel_rfl) : WQ P f ops dn pend k a w R := WQ.d i is [] new (obs := []) trivial hk ht he
end
end
noncomputable section
section
variable {α H : Type} {en : TypeId × Value -> H} {P : Program} {w : World} {base : Nat} {spare : Nat -> Bool} {held : Bool} {enc : α -> List Value} {sz : Nat}
end
end
noncomputable section
section
variable {K V : Type}
def mGet (eq : K -> K -> Bool) (k : K) : List (K × V) -> Option V
 | [] => none
 | p :: m => bif eq k p.1 then some p.2 else mGet eq k m
def mPut (eq : K -> K -> Bool) (k : K) (v : V) : List (K × V) -> List (K × V)
 | [] => [(k, v)]
 | p :: m => bif eq k p.1 then (k, v) :: m else p :: mPut eq k v m
def mDel (eq : K -> K -> Bool) (k : K) : List (K × V) -> List (K × V)
 | [] => []
 | p :: m => bif eq k p.1 then m else p :: mDel eq k m
def sy (eq : K -> K -> Bool) (k : K) (z : V) (m : List (K × V)) : Option (V × Bool) := some (match mGet eq k m with
 | some v => (v, true)
 | none => (z, false))
def mAt (eq : K -> K -> Bool) (k : K) : List K -> Nat -> Option Nat
 | [], _ => none
 | a :: ks, i => bif eq k a then some i else mAt eq k ks (i + 1)
theorem hK (eq : K -> K -> Bool) (k : K) : ∀ (ks : List K) (i j : Nat), mAt eq k ks i = some j -> i <= j
 | [], i, j, h => by simp [mAt] at h
 | a :: ks, i, j, h => by
  simp only [mAt] at h;cases he : eq k a <;> simp [he] at h
  ·have := hK eq k ks (i + 1) j h; omega
  ·omega
theorem fB (eq : K -> K -> Bool) (k : K) : ∀ (m : List (K × V)) (i : Nat),
  (mAt eq k (m.map (·.1)) i = none /\ mGet eq k m = none /\ (∀ v, mPut eq k v m = m ++ [(k, v)]) /\ mDel eq k m = m) \/
  ∃ j p, mAt eq k (m.map (·.1)) i = some (i + j) /\ m[j]? = some p /\ eq k p.1 = true /\ mGet eq k m = some p.2 /\ (∀ v, mPut eq k v m = m.set j (k, v)) /\ mDel eq k m = m.eraseIdx j
 | [], i => .inl ⟨rfl, rfl, fun _ => rfl, rfl⟩
 | p :: m, i => by
  cases he : eq k p.1
  ·rcases fB eq k m (i + 1) with ⟨h1, h2, h3, h4⟩ | ⟨j, q, h1, h2, h3, h4, e, l⟩
   ·exact .inl ⟨by simp [mAt, he, h1], by simp [mGet, he, h2], fun v => by simp [mPut, he, h3], by simp [mDel, he, h4]⟩
   ·refine .inr ⟨j + 1, q, ?_, by simpa using h2, h3, by simp [mGet, he, h4], fun v => by simp [mPut, he, e], by simp [mDel, he, l]⟩;simp [mAt, he, h1]; omega
  ·exact .inr ⟨0, p, by simp [mAt, he], rfl, he, by simp [mGet, he], fun v => by simp [mPut, he], by simp [mDel, he]⟩
structure sf (P : Program) (kt : TypeId) (ek : K -> Value) (eq : K -> K -> Bool) : Prop where
 check : ∀ (w : World) em k, (Instr.checkKey em 10000 kt (ek k)).run P w = .ok () w
 find : ∀ (w : World) k (es : List MapEntry) (ks : List K), es.map (·.key) = ks.map ek -> (Instr.findKey kt (ek k) es).run P w = .ok ((mAt eq k ks 0).bind fun j => (es[j]?).map fun e => (j, e.val)) w
 stays : ∀ (w : World) k, (Instr.keyThatStays (ek k) (ek k)).run P w = .ok (ek k) w
 same : ∀ a b, eq a b = true -> a = b
end
def kI (a b : Int) : Bool := a == b
theorem nO (k : Int) : ∀ (es : List MapEntry) (ks : List Int) (i : Nat), es.map (·.key) = ks.map vI -> Instr.findNow (.int .i64) (vI k) es i = some ((mAt kI k ks i).bind fun j => (es[j - i]?).map fun e => (j, e.val))
 | [], [], i, _ => by simp [Instr.findNow, mAt]
 | [], _ :: _, i, h => by simp at h
 | _ :: _, [], i, h => by simp at h
 | e :: es, a :: ks, i, h => by
  simp only [pC, List.cons.injEq] at h;have ih := nO k es ks (i + 1) h.2;simp only [Instr.findNow, h.1, vI, Instr.sameNow, if_true, mAt, kI];cases hk : (k == a)
  ·simp only [cF];simp only [vI] at ih;rw [ih];cases hm : mAt kI k ks (i + 1) with
   | none => rfl
   | some j =>
    have hj := hK _ _ _ _ _ hm;have l : j - i = (j - (i + 1)) + 1 := by omega
    simp [l]
  ·simp
theorem sf.int {P : Program} {kt : TypeId} (h : P.underlying kt = some (.int .i64)) : sf P kt vI kI where
 check := fun w em k => Go.MapKept.run_checkKey h (show Go.MapKept.IsKey (.int .i64) (vI k) from rfl) em 9999
 find := fun w k es ks he => Go.MapKept.run_findKey h (by simpa using nO k es ks 0 he)
 stays := fun w k => Go.MapKept.run_keyThatStays (d := .int .i64) (show Go.MapKept.IsKey (.int .i64) (vI k) from rfl)
 same := fun a b h => by simpa [kI] using h
section
variable {K V : Type} {P : Program} {ek : K -> Value} {eq : K -> K -> Bool} {kt : TypeId}
theorem qt (he : ∀ (w : World) a b, (Op.equal kt (ek a) (ek b)).run P w = .ok (eq a b) w) (w : World) (k : K) : ∀ (es : List MapEntry) (ks : List K) (i : Nat), es.map (·.key) = ks.map ek ->
  (Instr.findAsking kt (ek k) es i).run P w = .ok ((mAt eq k ks i).bind fun j => (es[j - i]?).map fun e => (j, e.val)) w
 | [], [], i, _ => by simp [Instr.findAsking, mAt]
 | [], _ :: _, i, h => by simp at h
 | _ :: _, [], i, h => by simp at h
 | e :: es, a :: ks, i, h => by
  simp only [pC, List.cons.injEq] at h;have ih := qt he w k es ks (i + 1) h.2;simp only [Instr.findAsking, Sem.run_bind, h.1, he, Result.andThen_ok, mAt];cases hk : eq k a
  ·simp only [cF, Bool.false_eq_true, if_false, ih];cases hm : mAt eq k ks (i + 1) with
   | none => rfl
   | some j =>
    have hj := hK _ _ _ _ _ hm;have l : j - i = (j - (i + 1)) + 1 := by omega
    simp [l]
  ·simp
theorem sf.struct {fs : Array Field} (h : P.underlying kt = some (.struct fs)) (j : ∀ (w : World) em k, (Instr.checkKey em 10000 kt (ek k)).run P w = .ok () w)
  (he : ∀ (w : World) a b, (Op.equal kt (ek a) (ek b)).run P w = .ok (eq a b) w) (hs : ∀ k, Instr.sameBits 10000 (ek k) (ek k) = true) (hq : ∀ a b, eq a b = true -> a = b) : sf P kt ek eq where
 check := j
 find := fun w k es ks i => by
  have hf := qt he w k es ks 0 i;have l : (Instr.findKey kt (ek k) es).run P w = (Instr.findAsking kt (ek k) es).run P w := by
   cases es with
   | nil => simp [Instr.findKey, xt P h, Instr.findNow, Instr.findAsking]
   | cons e es => simp [Instr.findKey, xt P h, Instr.findNow, Instr.sameNow]
  rw [l];simpa using hf
 stays := fun w k => by simp [Instr.keyThatStays, hs]
 same := hq
theorem rJ {fs : Array Field} {cs : Array Value} (n : Nat) (h : P.underlying kt = some (.struct fs)) (w : World) (em : Bool)
  (hf : ∀ f ∈ fs.toList, f.name ≠ "_" /\ ∃ v, (part f.type cs f.offset).run P w = .ok v w /\ (Instr.checkKey em n f.type v).run P w = .ok () w) : (Instr.checkKey em (n + 1) kt (.agg cs)).run P w = .ok () w := by
 rw [Instr.checkKey];simp only [Sem.run_bind, xt P h, Result.andThen_ok];rw [<- Array.forIn_toList];generalize fs.toList = L at hf;induction L with
 | nil => simp
 | cons f L ih =>
  obtain ⟨hn, v, p1, p2⟩ := hf f (by simp);simp only [List.forIn_cons, Sem.run_bind, hn, ne_eq, not_false_eq_true, if_true, Result.andThen_ok, p1, p2, Sem.run_pure];exact ih fun y hy => hf y (by simp [hy])
theorem sK (n : Nat) (h : P.underlying kt = some (.int .i64)) (w : World) (em : Bool) (x : Int) : (Instr.checkKey em (n + 1) kt (.int .i64 x)).run P w = .ok () w :=
 Go.MapKept.run_checkKey h (show Go.MapKept.IsKey (.int .i64) (.int .i64 x) from rfl) em n
theorem cN {P : Program} {cs : Array Value} {w : World} {em : Bool} {n : Nat} {Ls : List Field} (h : Ls = []) : ∀ f ∈ Ls, f.name ≠ "_" /\ ∃ v, (part f.type cs f.offset).run P w = .ok v w /\ (Instr.checkKey em n f.type v).run P w = .ok () w := by
 subst h; intro f hf; cases hf
theorem gZ {P : Program} {cs : Array Value} {w : World} {em : Bool} {n : Nat} {Ls fs : List Field} {f : Field} {v : Value} (hL : Ls = f :: fs) (hn : (f.name == "_") = false) (p : (part f.type cs f.offset).run P w = .ok v w) (c : (Instr.checkKey em n f.type v).run P w = .ok () w)
  (r : ∀ g ∈ fs, g.name ≠ "_" /\ ∃ v, (part g.type cs g.offset).run P w = .ok v w /\ (Instr.checkKey em n g.type v).run P w = .ok () w) : ∀ g ∈ Ls, g.name ≠ "_" /\ ∃ v, (part g.type cs g.offset).run P w = .ok v w /\ (Instr.checkKey em n g.type v).run P w = .ok () w := by
 subst hL; intro g hg;rcases List.mem_cons.1 hg with rfl | hg
 ·exact ⟨by simpa using hn, v, p, c⟩
 ·exact r g hg
def MpA (r : Nat) (ek : K -> Value) (ev : V -> Value) (m : List (K × V)) : HP := fun h => ∃ x : Array MapEntry × Nat, One r (.map x.1 x.2) h /\ x.1.toList.map (fun e => (e.key, e.val)) = m.map fun p => (ek p.1, ev p.2)
variable {ev : V -> Value} {w w0 : World} {As : List HP} {n r : Nat} {L : Env} {o : Oper} {a : Act} {m : List (K × V)} {k : K}
theorem MpA.keys {es : List MapEntry} {m : List (K × V)} (h : es.map (fun e => (e.key, e.val)) = m.map fun p => (ek p.1, ev p.2)) : es.map (·.key) = (m.map (·.1)).map ek := by
 have := congrArg (List.map Prod.fst) h;simp only [List.map_map] at this;rw [List.map_map];exact this
theorem MpA.get {es : List MapEntry} {m : List (K × V)} (h : es.map (fun e => (e.key, e.val)) = m.map fun p => (ek p.1, ev p.2)) {j : Nat} {p : K × V} (hj : m[j]? = some p) : ∃ e, es[j]? = some e /\ e.key = ek p.1 /\ e.val = ev p.2 := by
 have h2 := congrArg (fun l => l[j]?) h;simp only [List.getElem?_map, hj, Option.map_some] at h2;cases he : es[j]? with
 | none => rw [he] at h2; simp at h2
 | some e => rw [he] at h2; simp at h2; exact ⟨e, rfl, h2.1, h2.2⟩
theorem sf.found (hk : sf P kt ek eq) (w : World) (k : K) {es : List MapEntry} {m : List (K × V)} (h : es.map (fun e => (e.key, e.val)) = m.map fun p => (ek p.1, ev p.2)) :
  ((Instr.findKey kt (ek k) es).run P w = .ok none w /\ mGet eq k m = none /\ (∀ v, mPut eq k v m = m ++ [(k, v)]) /\ mDel eq k m = m) \/
  ∃ j e v, (Instr.findKey kt (ek k) es).run P w = .ok (some (j, ev v)) w /\ es[j]? = some e /\ e.key = ek k /\ mGet eq k m = some v /\ (∀ v, mPut eq k v m = m.set j (k, v)) /\ mDel eq k m = m.eraseIdx j := by
 have hf := hk.find w k es _ (MpA.keys h);rcases fB eq k m 0 with ⟨h1, h2, h3, h4⟩ | ⟨j, p, h1, h2, h3, h4, l, s⟩
 ·left; rw [h1] at hf; exact ⟨hf, h2, h3, h4⟩
 ·right
  obtain ⟨e, i, t, u⟩ := MpA.get h h2;simp only [Nat.zero_add] at h1;rw [h1] at hf;simp only [bS, i, Option.map_some, u] at hf;exact ⟨j, e, p.2, hf, i, by rw [t, hk.same _ _ h3], h4, l, s⟩
theorem OpTo.bD {K V : Type} {w0 w : World} {As : List HP} (ek : K -> Value) (ev : V -> Value) {t : TypeId} (i : zV n a L) (H : St w0 As w) (e : o.op = .makeMap t none) : OpTo P o a w fun v w' => ∃ r : Nat, v = .map (some r) /\ St w0 (MpA r ek ev [] :: As) w' := by
 obtain ⟨dst, op, type, pos, after, guard⟩ := o;simp only at e;subst e;refine OpTo.of_run (w' := { w with heap := w.heap.push (.map #[] 0) }) (v := .map (some w.heap.size)) ?_ ⟨w.heap.size, rfl, ?_⟩
 ·simp [execOp, Instr.makeMap, newObj]
  rfl
 ·exact (H.alloc (.map #[] 0)).head fun h hh => ⟨(#[], 0), hh, by simp⟩
theorem nj {mt s : TypeId} {ti : TypeInfo} {z : V} (H : St w0 As w) (i : Nat) (hi : As[i]? = some (MpA r ek ev m)) (hk : sf P kt ek eq) (ht : P.underlying mt = some (.map kt s)) (hz : P.info? s = some ti) (t : ti.zero = some (ev z)) (ok : Bool) :
  ∀ {g : V × Bool}, sy eq k z m = some g -> (Instr.lookup mt (.map (some r)) (ek k) ok).run P w = .ok (if ok then .tuple #[ev g.1, .bool g.2] else ev g.1) w := by
 intro g l;obtain ⟨h1, hs, x, hh, A⟩ := H.at i hi;have y : w.heap[r]? = some (.map x.1 x.2) := hs _ _ hh;rcases hk.found w k A with ⟨f1, f2, _, _⟩ | ⟨j, e, v, f1, f2, f3, f4, _, _⟩
 ·have u : (zeroValue s).run P w = .ok (ev z) w := by simp [Go.zeroValue, Go.typeInfo, Sem.run, hz, t]
  simp [Instr.lookup, xt P ht, Go.MapKept.run_getObj_map y, hk.check, f1, u, Result.andThen]; simp [sy, f2] at l; subst l; rfl
 ·simp [Instr.lookup, xt P ht, Go.MapKept.run_getObj_map y, hk.check, f1, Result.andThen]; simp [sy, f4] at l; subst l; rfl
theorem OpTo.cB {mt j : TypeId} {ti : TypeInfo} {z : V} {x y : Operand} (i : Nat) (l : zV n a L) (H : St w0 As w) (hi : As[i]? = some (MpA r ek ev m)) (hk : sf P kt ek eq) {g : V × Bool} (hl : sy eq k z m = some g) (s : o.op = .lookup mt x y true)
  (ht : P.underlying mt = some (.map kt j)) (hz : P.info? j = some ti) (e : ti.zero = some (ev z)) (t : evO L x = some (.map (some r))) (u : evO L y = some (ek k)) :
  OpTo P o a w fun v w' => v = .tuple #[ev g.1, .bool g.2] /\ w' = w := by
 obtain ⟨dst, op, type, pos, after, guard⟩ := o;simp only at s;subst s;have hl := nj (k := k) H i hi hk ht hz e true hl;exact OpTo.of_run (w' := w) (by simp [execOp, l.eval t, l.eval u, hl]) ⟨rfl, rfl⟩
theorem OpTo.bV {mt j : TypeId} {ti : TypeInfo} {z : V} {x y : Operand} (i : Nat) (l : zV n a L) (H : St w0 As w) (hi : As[i]? = some (MpA r ek ev m)) (hk : sf P kt ek eq) {g : V × Bool} (hl : sy eq k z m = some g) (s : o.op = .lookup mt x y false)
  (ht : P.underlying mt = some (.map kt j)) (hz : P.info? j = some ti) (e : ti.zero = some (ev z)) (t : evO L x = some (.map (some r))) (u : evO L y = some (ek k)) :
  OpTo P o a w fun v w' => v = ev g.1 /\ w' = w := by
 obtain ⟨dst, op, type, pos, after, guard⟩ := o;simp only at s;subst s;have hl := nj (k := k) H i hi hk ht hz e false hl;exact OpTo.of_run (w' := w) (by simp [execOp, l.eval t, l.eval u, hl]) ⟨rfl, rfl⟩
theorem qi {α β : Type} (f : α -> β) : ∀ (l : List α) (j : Nat), (l.eraseIdx j).map f = (l.map f).eraseIdx j
 | [], _ => rfl
 | _ :: _, 0 => rfl
 | x :: l, j + 1 => by simp [qi f l j]
theorem St.eD (H : St w0 (MpA r ek ev m :: As) w) : ∃ es i, St w0 (One r (.map es i) :: As) w /\ es.toList.map (fun e => (e.key, e.val)) = m.map fun p => (ek p.1, ev p.2) := by
 obtain ⟨x, H⟩ := H.ex;have j := H.fact fun h hh => hh.2
 exact ⟨x.1, x.2, H.head fun h hh => hh.1, j⟩
theorem St.ee {es i : Array MapEntry} {t j : Nat} {l : List (K × V)} (H : St w0 (One r (.map es t) :: As) w) (he : i.toList.map (fun e => (e.key, e.val)) = l.map fun p => (ek p.1, ev p.2)) :
  St w0 (MpA r ek ev l :: As) { w with heap := w.heap.setIfInBounds r (.map i j) } := by
 have s := H.one 0 rfl;have := H.set (w' := { w with heap := w.heap.setIfInBounds r (.map i j) }) (o' := .map i j) rfl rfl rfl (Go.MapKept.heap_set s).1 (Go.MapKept.heap_set s).2;exact this.head fun h hh => ⟨(i, j), hh, he⟩
def qy : Op -> Option (TypeId × Operand × Operand × Operand)
 | .mapUpdate t m k x => some (t, m, k, x)
 | .insert t m k x => some (t, m, k, x)
 | _ => none
theorem OpTo.af {mt D : TypeId} {x y z : Operand} {v : V} (u : zV n a L) (H : St w0 (MpA r ek ev m :: As) w) (hk : sf P kt ek eq) (B : qy o.op = some (mt, x, y, z))
  (ht : P.underlying mt = some (.map kt D)) (F : evO L x = some (.map (some r))) (I : evO L y = some (ek k)) (hz : evO L z = some (ev v)) : OpTo P o a w fun _ w' => St w0 (MpA r ek ev (mPut eq k v m) :: As) w' := by
 obtain ⟨es, A, H1, he⟩ := H.eD;have t := H1.one 0 rfl;have key : ∃ w', (Instr.mapUpdate mt (.map (some r)) (ek k) (ev v)).run P w = .ok () w' /\ St w0 (MpA r ek ev (mPut eq k v m) :: As) w' := by
  rcases hk.found w k he with ⟨f1, f2, f3, _⟩ | ⟨j, e, J, f1, f2, f3, f4, f5, _⟩
  ·refine ⟨{ w with heap := w.heap.setIfInBounds r (.map (es.push { key := ek k, val := ev v, born := A }) (A + 1)) }, ?_, H1.ee ?_⟩
   ·simp [Instr.mapUpdate, xt P ht, Go.MapKept.run_getObj_map t, hk.check, f1, Go.MapKept.run_setObj_map _ t, Result.andThen]
   ·rw [f3]; simp [he]
  ·have hj : es[j]? = some e := by simpa using f2
   refine ⟨{ w with heap := w.heap.setIfInBounds r (.map (es.modify j fun e => { e with key := ek k, val := ev v }) A) }, ?_, H1.ee ?_⟩
   ·simp [Instr.mapUpdate, xt P ht, Go.MapKept.run_getObj_map t, hk.check, f1, hj, f3, hk.stays, Go.MapKept.run_setObj_map _ t, Result.andThen]
   ·rw [f5];apply List.ext_getElem?;intro i;have hi := congrArg (fun l => l[i]?) he;simp only [List.getElem?_map, Array.getElem?_toList] at hi;simp only [List.getElem?_map, Array.getElem?_toList, Array.getElem?_modify, List.getElem?_set];by_cases s : j = i
    ·subst s;have hl : j < m.length := by
      rw [hj] at hi;cases hm : m[j]? with
      | none => rw [hm] at hi; simp at hi
      | some _ => exact (List.getElem?_eq_some_iff.1 hm).1
     simp [hj, hl]
    ·simp [s, hi]
 obtain ⟨w', h1, h2⟩ := key;obtain ⟨dst, op, type, pos, after, guard⟩ := o;cases op <;> simp only [qy] at B <;> try cases B
 all_goals exact OpTo.lZ (w' := w') (by simp [execOp, u.eval F, u.eval I, u.eval hz, h1]) h2
theorem OpTo.av {mt A : TypeId} {x y : Operand} {ats : Array TypeId} (i : zV n a L) (H : St w0 (MpA r ek ev m :: As) w) (hk : sf P kt ek eq) (s : o.op = .call { callee := .builtin .delete, args := #[x, y], argTypes := ats }) (ha : ats[0]? = some mt)
  (ht : P.underlying mt = some (.map kt A)) (t : evO L x = some (.map (some r))) (u : evO L y = some (ek k)) : OpTo P o a w fun v w' => v = .tuple #[] /\ St w0 (MpA r ek ev (mDel eq k m) :: As) w' := by
 obtain ⟨es, z, H1, he⟩ := H.eD;have l := H1.one 0 rfl;obtain ⟨dst, op, type, pos, after, guard⟩ := o;simp only at s;subst s;rcases hk.found w k he with ⟨f1, f2, _, f4⟩ | ⟨j, e, B, f1, f2, f3, f4, _, f6⟩
 ·refine OpTo.of_run (w' := { w with heap := w.heap.setIfInBounds r (.map es z) }) (v := .tuple #[]) ?_ ⟨rfl, H1.ee (by rw [f4]; exact he)⟩;simp [execOp, resolve, invoke, builtin, i.eval t, i.eval u, Builtin.delete_, ha, xt P ht, Go.MapKept.run_getObj_map l, hk.check, f1, Go.MapKept.run_setObj_map _ l, Result.andThen]
 ·refine OpTo.of_run (w' := { w with heap := w.heap.setIfInBounds r (.map (es.eraseIdxIfInBounds j) z) }) (v := .tuple #[]) ?_ ⟨rfl, H1.ee ?_⟩
  ·simp [execOp, resolve, invoke, builtin, i.eval t, i.eval u, Builtin.delete_, ha, xt P ht, Go.MapKept.run_getObj_map l, hk.check, f1, Go.MapKept.run_setObj_map _ l, Result.andThen]
  ·rw [f6];have hj : j < es.size := by
    have := (List.getElem?_eq_some_iff.1 f2).1;simpa using this
   simp only [Array.eraseIdxIfInBounds, hj, dif_pos, Array.toList_eraseIdx, qi, he]
end
section
variable {K V : Type} {P : Program} {ek : K -> Value} {ev : V -> Value} {w w0 : World} {As : List HP} {n r : Nat} {L : Env} {o : Oper} {a : Act} {m : List (K × V)}
end
def elemV (sb : Option Addr) (sz : Nat) : Option Int -> Value
 | none => .pointer none
 | some i => match sb with
  | some ⟨b, off, _⟩ => .pointer (some ⟨b, off + (Int.toNat i) * sz, none⟩)
  | none => .pointer none
theorem oZ {sb : Option Addr} {sz b off : Nat} {i : Int} (h : sb = some ⟨b, off, none⟩) : elemV sb sz (some i) = .pointer (some ⟨b, off + (Int.toNat i) * sz, none⟩) := by subst h; rfl
def optV {α : Type} (q : Nat) : Option α -> Value
 | none => .pointer none
 | some _ => .pointer (some ⟨q, 0, none⟩)
def OptR {α : Type} (f : α -> HP) : Option α -> HP
 | none => fun _ => True
 | some m => f m
theorem St.optN {α : Type} {f : α -> HP} {w0 w : World} {As : List HP} (H : St w0 As w) : St w0 (OptR f none :: As) w :=
 ⟨H.os, H.tape, H.output, fun _ => none, hpOf w, fun _ => .inl rfl, fun _ _ h => by simp at h, Sub.refl _, trivial, H.heap⟩
def oS {α : Type} : Option α -> Unit ⊕ α
 | none => .inl ()
 | some x => .inr x
def vO {α β : Type} (o : Option α) (n : Option β) (s : α -> Option β) : Option β := match oS o with
 | .inl _ => n
 | .inr x => s x
theorem ga {α β : Type} {o : Option α} {n r : Option β} {s : α -> Option β} (e : o = none) (hm : vO o n s = r) : n = r := by subst e; exact hm
theorem gV {α β : Type} {o : Option α} {n r : Option β} {s : α -> Option β} {x : α} (e : o = some x) (hm : vO o n s = r) : s x = r := by subst e; exact hm
theorem cD {α : Type} {l : List α} {i : Int} {x : α} (h : mIdx l i = some x) : l[i.toNat]? = some x := (pz h).2
def Pure (q : Prop) : HP := fun _ => q
theorem St.pure {q : Prop} {w0 w : World} {As : List HP} (H : St w0 (Pure q :: As) w) : q /\ St w0 As w := ⟨H.fact fun _ h => h, H.x0⟩
theorem dJ {α : Type} {l : List α} {i : Int} {x y : α} (h : mIdx l i = some x) : mIdx (mSet l i y) i = some y := by
 obtain ⟨⟨h0, h1⟩, h2⟩ := pz h;have hl : i.toNat < l.length := by omega
 simp [mIdx, mSet, h0, hl]
end
noncomputable section
section
variable {H : Type} {en : TypeId × Value -> H} {P : Program} {w : World} {base : Nat} {spare : Nat -> Bool} {held : Bool}
def qm (P : Program) : Nat -> TypeId -> Bool
 | 0, _ => false
 | d + 1, e => match P.underlying e with
  | some (.int .i64) => P.cellsOf e == 1
  | some (.struct fs) => fs.toList.all (fun f => qm P d f.type) && (List.range (P.cellsOf e)).all (fun j => fs.toList.any fun f => Nat.ble f.offset j && Nat.blt j (f.offset + P.cellsOf f.type))
  | _ => false
theorem iX : ∀ (d : Nat) (e : TypeId), qm P d e = true -> ∀ n cs y, DataW.trod en P w base spare held n e cs = some y -> cs.length = P.cellsOf e /\ ∀ (j : Nat) (u : Value), cs[j]? = some u -> ∃ z : Int, u = Value.int .i64 z
 | 0, e, h, _, _, _, _ => by simp [qm] at h
 | d + 1, e, h, n, cs, y, ht => by
  rw [qm] at h;split at h
  ·rename_i hu;obtain ⟨q, rfl, _⟩ := DataW.trod_int hu ht;refine ⟨by simpa using (beq_iff_eq.1 h).symm, fun j u hj => ⟨q, ?_⟩⟩;cases j with
   | zero => simpa using hj.symm
   | succ j => simp at hj
  ·rename_i fs hu;simp only [Bool.and_eq_true, List.all_eq_true] at h;obtain ⟨h1, h2⟩ := h;obtain ⟨xs, m, _, _, hl, A, B⟩ := DataW.trod_struct hu ht;refine ⟨hl, fun j u hj => ?_⟩;have t : j < P.cellsOf e := by rw [<- hl]; exact (List.getElem?_eq_some_iff.1 hj).1
   have h3 := h2 j (List.mem_range.2 t);obtain ⟨f, hf, h4⟩ := List.any_eq_true.1 h3;simp only [Bool.and_eq_true] at h4;have F := Nat.le_of_ble_eq_true h4.1;have I : j < f.offset + P.cellsOf f.type := by
    have := h4.2;simp only [Nat.blt] at this;exact Nat.le_of_ble_eq_true this
   obtain ⟨i, hi⟩ := List.getElem?_of_mem hf;have l : fs[i]? = some f := by simpa using hi
   have s := B i f l;have x : i < xs.length := by
    have := (Array.getElem?_eq_some_iff.1 l).1;omega
   rw [List.getElem?_eq_getElem x] at s;obtain ⟨_, D⟩ := iX d f.type (h1 f hf) _ _ _ s;refine D (j - f.offset) u ?_;rw [List.getElem?_take, if_pos (by omega), List.getElem?_drop];rw [show f.offset + (j - f.offset) = j by omega];exact hj
  ·cases h
theorem fG {e : TypeId} (k : Nat) (hi : qm P 5 e = true) (t : P.cellsOf e = k) : ∀ n cs y, DataW.trod en P w base spare held n e cs = some y -> ∃ z : List Int, z.length = k /\ cs = z.map fun x => .int .i64 x := fun n cs y h => by
 obtain ⟨hl, s⟩ := iX 5 e hi n cs y h;rw [t] at hl;obtain ⟨z, hz, hp⟩ := kE (α := Int) (p := fun i z => cs[i]? = some (.int .i64 z)) k fun i hi => by
  have j : i < cs.length := by omega
  obtain ⟨q, hq⟩ := s i cs[i] (by simp [j]);exact ⟨q, by rw [List.getElem?_eq_getElem j, hq]⟩
 refine ⟨z, hz, ?_⟩;apply List.ext_getElem?;intro i;by_cases u : i < k
 ·have l : i < z.length := by omega
  rw [hp i z[i] (by simp [l])];simp [l]
 ·rw [List.getElem?_eq_none (by omega), List.getElem?_eq_none (by simp; omega)]
end
end
end Go.Th
noncomputable section
namespace Go.Th
end Go.Th
end
namespace Go.Th
noncomputable section
theorem Rd.take {w : World} {e : Option Addr} {a b : List Value} (h : Rd w e (a ++ b)) : Rd w e a := by
 rcases h with h | ⟨i, h1, h2⟩
 ·left
  exact (List.append_eq_nil_iff.1 h).1
 ·refine .inr ⟨i, h1, fun j u hj => h2 j u ?_⟩;rw [List.getElem?_append_left (List.getElem?_eq_some_iff.1 hj).1];exact hj
section
variable {P : Program} {α : Type} {T : TypeId} {enc : α -> List Value} {sz : Nat} {w0 w : World} {As : List HP}
end
end
end Go.Th
namespace Go.Proofs.YteflmnbkdhneiaaGreat
open Go.Th
noncomputable section
set_option maxRecDepth 10000
set_option maxHeartbeats 4000000
structure zr where
 f0 : Int
 f1 : Int
 f2 : Int
 f3 : Int
 f4 : Int
 f5 : Int
 f6 : Int
 f7 : Int
 f8 : Int
 f9 : Int
 taken : Bool
def zr.enc (x : zr) : List Value := [.int .i64 x.f0, .int .i64 x.f1, .int .i64 x.f2, .int .i64 x.f3, .int .i64 x.f4, .int .i64 x.f5, .int .i64 x.f6, .int .i64 x.f7, .int .i64 x.f8, .int .i64 x.f9, .bool x.taken]
def zr.sN (x : zr) (i : Int) : Option Int :=
 if i = 0 then some x.f0 else if i = 1 then some x.f1 else if i = 2 then some x.f2 else if i = 3 then some x.f3 else if i = 4 then some x.f4 else if i = 5 then some x.f5 else if i = 6 then some x.f6 else if i = 7 then some x.f7 else if i = 8 then some x.f8 else if i = 9 then some x.f9 else none
def zr.rN (x : zr) (i v : Int) : Option zr :=
 if i = 0 then some (zr.mk v x.f1 x.f2 x.f3 x.f4 x.f5 x.f6 x.f7 x.f8 x.f9 x.taken) else if i = 1 then some (zr.mk x.f0 v x.f2 x.f3 x.f4 x.f5 x.f6 x.f7 x.f8 x.f9 x.taken) else if i = 2 then some (zr.mk x.f0 x.f1 v x.f3 x.f4 x.f5 x.f6 x.f7 x.f8 x.f9 x.taken) else if i = 3 then some (zr.mk x.f0 x.f1 x.f2 v x.f4 x.f5 x.f6 x.f7 x.f8 x.f9 x.taken) else if i = 4 then some (zr.mk x.f0 x.f1 x.f2 x.f3 v x.f5 x.f6 x.f7 x.f8 x.f9 x.taken) else if i = 5 then some (zr.mk x.f0 x.f1 x.f2 x.f3 x.f4 v x.f6 x.f7 x.f8 x.f9 x.taken) else if i = 6 then some (zr.mk x.f0 x.f1 x.f2 x.f3 x.f4 x.f5 v x.f7 x.f8 x.f9 x.taken) else if i = 7 then some (zr.mk x.f0 x.f1 x.f2 x.f3 x.f4 x.f5 x.f6 v x.f8 x.f9 x.taken) else if i = 8 then some (zr.mk x.f0 x.f1 x.f2 x.f3 x.f4 x.f5 x.f6 x.f7 v x.f9 x.taken) else if i = 9 then some (zr.mk x.f0 x.f1 x.f2 x.f3 x.f4 x.f5 x.f6 x.f7 x.f8 v x.taken) else none
theorem zr.yK : we zr.enc 11 := ⟨fun _ => rfl, fun x u hu => by simp only [zr.enc, iC, List.not_mem_nil, or_false] at hu; rcases hu with rfl | rfl | rfl | rfl | rfl | rfl | rfl | rfl | rfl | rfl | rfl <;> rfl⟩
structure zC where
 steps : Int
 begun : Int
 most : Int
structure zb where
 l : List zr
 never : Int
 free : List Int
 m_ : zC
structure zA where
 kind : Int
 root : Int
 n : Int
def zA.enc (x : zA) : List Value := [.int .i64 x.kind, .int .i64 x.root, .int .i64 x.n]
theorem zA.yK : we zA.enc 3 := ⟨fun _ => rfl, fun x u hu => by simp only [zA.enc, iC, List.not_mem_nil, or_false] at hu; rcases hu with rfl | rfl | rfl <;> rfl⟩
structure zs where
 gen : Int
 taken : Bool
 v_ : zA
def zs.enc (x : zs) : List Value := [.int .i64 x.gen, .bool x.taken, .int .i64 x.v_.kind, .int .i64 x.v_.root, .int .i64 x.v_.n]
theorem zs.yK : we zs.enc 5 := ⟨fun _ => rfl, fun x u hu => by simp only [zs.enc, iC, List.not_mem_nil, or_false] at hu; rcases hu with rfl | rfl | rfl | rfl | rfl <;> rfl⟩
structure zh where
 most : Int
 l : List zs
 free : List Int
structure zf where
 At : Int
 Gen : Int
def zf.enc (x : zf) : List Value := [.int .i64 x.At, .int .i64 x.Gen]
theorem zf.yK : we zf.enc 2 := ⟨fun _ => rfl, fun x u hu => by simp only [zf.enc, iC, List.not_mem_nil, or_false] at hu; rcases hu with rfl | rfl <;> rfl⟩
structure zy where
 cell : Int
 heap : zf
def zy.enc (x : zy) : List Value := [.int .i64 x.cell, .int .i64 x.heap.At, .int .i64 x.heap.Gen]
theorem zy.yK : we zy.enc 3 := ⟨fun _ => rfl, fun x u hu => by simp only [zy.enc, iC, List.not_mem_nil, or_false] at hu; rcases hu with rfl | rfl | rfl <;> rfl⟩
structure zp where
 gen : Int
 taken : Bool
 v_ : zy
def zp.enc (x : zp) : List Value := [.int .i64 x.gen, .bool x.taken, .int .i64 x.v_.cell, .int .i64 x.v_.heap.At, .int .i64 x.v_.heap.Gen]
theorem zp.yK : we zp.enc 5 := ⟨fun _ => rfl, fun x u hu => by simp only [zp.enc, iC, List.not_mem_nil, or_false] at hu; rcases hu with rfl | rfl | rfl | rfl | rfl <;> rfl⟩
structure ze where
 most : Int
 l : List zp
 free : List Int
structure zi where
 heaps : zh
 items : ze
 at_ : List (Int × zf)
def zf.val (x : zf) : Value := .agg #[.int .i64 x.At, .int .i64 x.Gen]
structure zw where
 Key : Int
 Serial : Int
def zw.enc (x : zw) : List Value := [.int .i64 x.Key, .int .i64 x.Serial]
theorem zw.yK : we zw.enc 2 := ⟨fun _ => rfl, fun x u hu => by simp only [zw.enc, iC, List.not_mem_nil, or_false] at hu; rcases hu with rfl | rfl <;> rfl⟩
structure zn where
 items : Int
 a_ : zb
 t_ : zi
 entries : List (zf × zw)
 serial : Int
def zw.val (x : zw) : Value := .agg #[.int .i64 x.Key, .int .i64 x.Serial]
structure zz where
 Queue : Int
 Time : Int
 Data : Int
 Item : zf
def zz.enc (x : zz) : List Value := [.int .i64 x.Queue, .int .i64 x.Time, .int .i64 x.Data, .int .i64 x.Item.At, .int .i64 x.Item.Gen]
theorem zz.yK : we zz.enc 5 := ⟨fun _ => rfl, fun x u hu => by simp only [zz.enc, iC, List.not_mem_nil, or_false] at hu; rcases hu with rfl | rfl | rfl | rfl | rfl <;> rfl⟩
structure zq where
 gen : Int
 taken : Bool
 v_ : zz
def zq.enc (x : zq) : List Value := [.int .i64 x.gen, .bool x.taken, .int .i64 x.v_.Queue, .int .i64 x.v_.Time, .int .i64 x.v_.Data, .int .i64 x.v_.Item.At, .int .i64 x.v_.Item.Gen]
theorem zq.yK : we zq.enc 7 := ⟨fun _ => rfl, fun x u hu => by simp only [zq.enc, iC, List.not_mem_nil, or_false] at hu; rcases hu with rfl | rfl | rfl | rfl | rfl | rfl | rfl <;> rfl⟩
structure zg where
 most : Int
 l : List zq
 free : List Int
structure zm where
 p : zg
 by_ : List (zf × zf)
structure zJ where
 now : Int
structure za where
 kind : Int
 most : Int
 q : zn
 heaps0 : zf
 heaps1 : zf
 t_ : zm
 when : List (zf × Int)
 clock : zJ
 budget : Int
 last : Int
 top : Int
structure zX where
 Op : Int
 Kind : Int
 Heap : zf
 Other : zf
 Item : zf
 Key : Int
def zX.enc (x : zX) : List Value := [.int .i64 x.Op, .int .i64 x.Kind, .int .i64 x.Heap.At, .int .i64 x.Heap.Gen, .int .i64 x.Other.At, .int .i64 x.Other.Gen, .int .i64 x.Item.At, .int .i64 x.Item.Gen, .int .i64 x.Key]
theorem zX.yK : we zX.enc 9 := ⟨fun _ => rfl, fun x u hu => by simp only [zX.enc, iC, List.not_mem_nil, or_false] at hu; rcases hu with rfl | rfl | rfl | rfl | rfl | rfl | rfl | rfl | rfl <;> rfl⟩
structure zH where
 Why : Int
 Heap : zf
 Item : zf
 Entry : zw
 N : Int
def zH.enc (x : zH) : List Value := [.int .i64 x.Why, .int .i64 x.Heap.At, .int .i64 x.Heap.Gen, .int .i64 x.Item.At, .int .i64 x.Item.Gen, .int .i64 x.Entry.Key, .int .i64 x.Entry.Serial, .int .i64 x.N]
theorem zH.yK : we zH.enc 8 := ⟨fun _ => rfl, fun x u hu => by simp only [zH.enc, iC, List.not_mem_nil, or_false] at hu; rcases hu with rfl | rfl | rfl | rfl | rfl | rfl | rfl | rfl <;> rfl⟩
def zX.val (x : zX) : Value := .agg #[.int .i64 x.Op, .int .i64 x.Kind, .int .i64 x.Heap.At, .int .i64 x.Heap.Gen, .int .i64 x.Other.At, .int .i64 x.Other.Gen, .int .i64 x.Item.At, .int .i64 x.Item.Gen, .int .i64 x.Key]
def zA.val (x : zA) : Value := .agg #[.int .i64 x.kind, .int .i64 x.root, .int .i64 x.n]
structure zk where
 n : Int
 rank : Int
def zk.enc (x : zk) : List Value := [.int .i64 x.n, .int .i64 x.rank]
theorem zk.yK : we zk.enc 2 := ⟨fun _ => rfl, fun x u hu => by simp only [zk.enc, iC, List.not_mem_nil, or_false] at hu; rcases hu with rfl | rfl <;> rfl⟩
def zk.val (x : zk) : Value := .agg #[.int .i64 x.n, .int .i64 x.rank]
def zy.val (x : zy) : Value := .agg #[.int .i64 x.cell, .int .i64 x.heap.At, .int .i64 x.heap.Gen]
def zf.eq (x y : zf) : Bool := (x.At == y.At && (x.Gen == y.Gen && true))
structure zj where
 Most : Int
 Gens : List Int
 In : List Bool
 V : List Int
 Back : List Int
structure zB where
 Queue : Int
 Data : Int
 E : zw
 R : zf
def zB.enc (x : zB) : List Value := [.int .i64 x.Queue, .int .i64 x.Data, .int .i64 x.E.Key, .int .i64 x.E.Serial, .int .i64 x.R.At, .int .i64 x.R.Gen]
theorem zB.yK : we zB.enc 6 := ⟨fun _ => rfl, fun x u hu => by simp only [zB.enc, iC, List.not_mem_nil, or_false] at hu; rcases hu with rfl | rfl | rfl | rfl | rfl | rfl <;> rfl⟩
structure zc where
 Most : Int
 Now : Int
 Next : Int
 Pool : zj
 L : List zB
structure zE where
 d : za
 m_ : zc
 k_ : Int
 told : List zf
structure zt where
 Kind : Int
 Queue : Int
 Job : zf
 Time : Int
 Data : Int
def zt.enc (x : zt) : List Value := [.int .i64 x.Kind, .int .i64 x.Queue, .int .i64 x.Job.At, .int .i64 x.Job.Gen, .int .i64 x.Time, .int .i64 x.Data]
theorem zt.yK : we zt.enc 6 := ⟨fun _ => rfl, fun x u hu => by simp only [zt.enc, iC, List.not_mem_nil, or_false] at hu; rcases hu with rfl | rfl | rfl | rfl | rfl | rfl <;> rfl⟩
structure zo where
 Why : Int
 Job : zf
 Time : Int
 Data : Int
 N : Int
def zo.enc (x : zo) : List Value := [.int .i64 x.Why, .int .i64 x.Job.At, .int .i64 x.Job.Gen, .int .i64 x.Time, .int .i64 x.Data, .int .i64 x.N]
theorem zo.yK : we zo.enc 6 := ⟨fun _ => rfl, fun x u hu => by simp only [zo.enc, iC, List.not_mem_nil, or_false] at hu; rcases hu with rfl | rfl | rfl | rfl | rfl | rfl <;> rfl⟩
def zz.val (x : zz) : Value := .agg #[.int .i64 x.Queue, .int .i64 x.Time, .int .i64 x.Data, .int .i64 x.Item.At, .int .i64 x.Item.Gen]
def zt.val (x : zt) : Value := .agg #[.int .i64 x.Kind, .int .i64 x.Queue, .int .i64 x.Job.At, .int .i64 x.Job.Gen, .int .i64 x.Time, .int .i64 x.Data]
def zo.eq (x y : zo) : Bool := (x.Why == y.Why && (zf.eq x.Job y.Job && (x.Time == y.Time && (x.Data == y.Data && (x.N == y.N && true)))))
structure y6 where
 Command : zt
 Reply : zo
 Now : Int
 Steps : Int
def y6.enc (x : y6) : List Value := [.int .i64 x.Command.Kind, .int .i64 x.Command.Queue, .int .i64 x.Command.Job.At, .int .i64 x.Command.Job.Gen, .int .i64 x.Command.Time, .int .i64 x.Command.Data, .int .i64 x.Reply.Why, .int .i64 x.Reply.Job.At, .int .i64 x.Reply.Job.Gen, .int .i64 x.Reply.Time, .int .i64 x.Reply.Data, .int .i64 x.Reply.N, .int .i64 x.Now, .int .i64 x.Steps]
theorem y6.yK : we y6.enc 14 := ⟨fun _ => rfl, fun x u hu => by simp only [y6.enc, iC, List.not_mem_nil, or_false] at hu; rcases hu with rfl | rfl | rfl | rfl | rfl | rfl | rfl | rfl | rfl | rfl | rfl | rfl | rfl | rfl <;> rfl⟩
structure yu where
 Kind : Int
 Queue : Int
 Job : Int
 Data : Int
 Time : Int
 Raw : zt
def yu.enc (x : yu) : List Value := [.int .i64 x.Kind, .int .i64 x.Queue, .int .i64 x.Job, .int .i64 x.Data, .int .i64 x.Time, .int .i64 x.Raw.Kind, .int .i64 x.Raw.Queue, .int .i64 x.Raw.Job.At, .int .i64 x.Raw.Job.Gen, .int .i64 x.Raw.Time, .int .i64 x.Raw.Data]
theorem yu.yK : we yu.enc 11 := ⟨fun _ => rfl, fun x u hu => by simp only [yu.enc, iC, List.not_mem_nil, or_false] at hu; rcases hu with rfl | rfl | rfl | rfl | rfl | rfl | rfl | rfl | rfl | rfl | rfl <;> rfl⟩
def yu.val (x : yu) : Value := .agg #[.int .i64 x.Kind, .int .i64 x.Queue, .int .i64 x.Job, .int .i64 x.Data, .int .i64 x.Time, .int .i64 x.Raw.Kind, .int .i64 x.Raw.Queue, .int .i64 x.Raw.Job.At, .int .i64 x.Raw.Job.Gen, .int .i64 x.Raw.Time, .int .i64 x.Raw.Data]
def zw.eq (x y : zw) : Bool := (x.Key == y.Key && (x.Serial == y.Serial && true))
structure zd where
 d : za
 m_ : zc
 k_ : Int
 told : List zf
def xe (n : Int) (lo : Int) (hi : Int) : Option (Int) :=
 (bif (decide (n >= lo)) && (decide (n <= hi)) then
  some n
 else
  (mNz (w64 ((w64 (hi - lo)) + 1))).bind fun u =>
  ((bif decide (Int.tmod n (w64 ((w64 (hi - lo)) + 1)) < 0) then
   some (w64 ((w64 ((w64 ((Int.tmod n (w64 ((w64 (hi - lo)) + 1))) + hi)) - lo)) + 1))
  else
   some (Int.tmod n (w64 ((w64 (hi - lo)) + 1))))).bind fun s =>
  some (w64 (lo + s)))
def um (k_ : Int) : Option (Bool) :=
 some ((decide (k_ >= 1)) && (decide (k_ <= 3)))
def bits_Len64 (x : Int) : Option (Int) :=
 ((bif decide (x >= 4294967296) then
  some (Int.fdiv x (2 ^ (min (Int.toNat 32) 64)), 32)
 else
  some (x, 0))).bind fun s =>
 ((bif decide (s.1 >= 65536) then
  some (Int.fdiv s.1 (2 ^ (min (Int.toNat 16) 64)), w64 (s.2 + 16))
 else
  some (s.1, s.2))).bind fun s1 =>
 ((bif decide (s1.1 >= 256) then
  some (Int.fdiv s1.1 (2 ^ (min (Int.toNat 8) 64)), w64 (s1.2 + 8))
 else
  some (s1.1, s1.2))).bind fun s2 =>
 (eQ (ByteArray.mk #[0, 1, 2, 2, 3, 3, 3, 3, 4, 4, 4, 4, 4, 4, 4, 4, 5, 5, 5, 5, 5, 5, 5, 5, 5, 5, 5, 5, 5, 5, 5, 5, 6, 6, 6, 6, 6, 6, 6, 6, 6, 6, 6, 6, 6, 6, 6, 6, 6, 6, 6, 6, 6, 6, 6, 6, 6, 6, 6, 6, 6, 6, 6, 6, 7, 7, 7, 7, 7, 7, 7, 7, 7, 7, 7, 7, 7, 7, 7, 7, 7, 7, 7, 7, 7, 7, 7, 7, 7, 7, 7, 7, 7, 7, 7, 7, 7, 7, 7, 7, 7, 7, 7, 7, 7, 7, 7, 7, 7, 7, 7, 7, 7, 7, 7, 7, 7, 7, 7, 7, 7, 7, 7, 7, 7, 7, 7, 7, 8, 8, 8, 8, 8, 8, 8, 8, 8, 8, 8, 8, 8, 8, 8, 8, 8, 8, 8, 8, 8, 8, 8, 8, 8, 8, 8, 8, 8, 8, 8, 8, 8, 8, 8, 8, 8, 8, 8, 8, 8, 8, 8, 8, 8, 8, 8, 8, 8, 8, 8, 8, 8, 8, 8, 8, 8, 8, 8, 8, 8, 8, 8, 8, 8, 8, 8, 8, 8, 8, 8, 8, 8, 8, 8, 8, 8, 8, 8, 8, 8, 8, 8, 8, 8, 8, 8, 8, 8, 8, 8, 8, 8, 8, 8, 8, 8, 8, 8, 8, 8, 8, 8, 8, 8, 8, 8, 8, 8, 8, 8, 8, 8, 8, 8, 8, 8, 8, 8, 8, 8, 8, 8, 8, 8, 8, 8, 8]) (IntKind.wrap .u8 (s2.1))).bind fun e =>
 some (w64 (s2.2 + (w64 (e))))
def bits_Len (x : Int) : Option (Int) :=
 (bits_Len64 x).bind fun t_ =>
 some t_
def ra (n : Int) : Option (Int) :=
 (bits_Len (IntKind.wrap .u64 ((if n > 0 then n else 0)))).bind fun t_ =>
 some t_
def w5 (a_ : Int) (b : Int) : Option (Int) :=
 (bif (decide (b > 0)) && (decide (a_ > w64 (9223372036854775807 - b))) then
  some 9223372036854775807
 else
  (bif (decide (b < 0)) && (decide (a_ < w64 ((-9223372036854775808) - b))) then
   some (-9223372036854775808)
  else
   some (w64 (a_ + b))))
def wQ (j : Int) (x1 : Int) : Nat -> Int -> Int -> Option (Int)
 | 0, _, _ => none
 | m + 1, e, x =>
  (bif decide (x < x1) then
   (w5 e j).bind fun i =>
   wQ j x1 m i (w64 (x + 1))
  else
   some e)
def rI (k : Nat) (a_ : Int) (b : Int) (n : Int) : Option (Int) :=
 (ra n).bind fun t_ =>
 (wQ b t_ k a_ 0).bind fun s =>
 some s
def tC (k : Nat) (k_ : Int) (items : Int) : Option (Int × Bool) :=
 ((um k_).bind fun t_ =>
 (bif !t_ then
  some true
 else
  (bif decide (items < 1) then
   some true
  else
   some (decide (items > 4096))))).bind fun s =>
 (bif s then
  some (0, false)
 else
  (rI k 2000 1600 (w64 (items + 1))).bind fun e =>
  some (e, true))
def p8  : Option (zC) :=
 some (zC.mk 0 0 0)
def qu (cells : Int) : Option (zb) :=
 (jS (if (if 65536 < cells then 65536 else cells) > 0 then (if 65536 < cells then 65536 else cells) else 0) (zr.mk 0 0 0 0 0 0 0 0 0 0 false)).bind fun l =>
 (p8).bind fun t_ =>
 some (zb.mk l 0 ([] : List Int) t_)
def vM (places : Int) : Option (zh) :=
 some (zh.mk (if (if 65536 < places then 65536 else places) > 0 then (if 65536 < places then 65536 else places) else 0) ([] : List zs) ([] : List Int))
def vk (places : Int) : Option (ze) :=
 some (ze.mk (if (if 65536 < places then 65536 else places) > 0 then (if 65536 < places then 65536 else places) else 0) ([] : List zp) ([] : List Int))
def pP (items : Int) : Option (zi) :=
 (vM 64).bind fun t_ =>
 (vk (if (if 16384 < items then 16384 else items) > 1 then (if 16384 < items then 16384 else items) else 1)).bind fun e =>
 some (zi.mk t_ e ([] : List (Int × zf)))
def js (items : Int) : Option ((Option zn) × Int) :=
 (bif (decide (items < 1)) || (decide (items > 16384)) then
  some ((none : Option zn), 1)
 else
  (qu (w64 (2 * items))).bind fun t_ =>
  (pP items).bind fun e =>
  some (some (zn.mk items t_ e ([] : List (zf × zw)) 0), 0))
def uq (places : Int) : Option (zg) :=
 some (zg.mk (if (if 65536 < places then 65536 else places) > 0 then (if 65536 < places then 65536 else places) else 0) ([] : List zq) ([] : List Int))
def r6 (e : Int) : Option (zm) :=
 (uq (if (if 4096 < e then 4096 else e) > 1 then (if 4096 < e then 4096 else e) else 1)).bind fun t_ =>
 some (zm.mk t_ ([] : List (zf × zf)))
def qF  : Option (zJ) :=
 some (zJ.mk 0)
def xS (e : zX) : Option (zH) :=
 none
def uk (a_ : zb) : Option (Unit) :=
 some ()
def tZ (m_ : zC) : Option (Int) :=
 some (w64 (m_.steps - m_.begun))
def sM (m_ : zC) : Option (Int) :=
 (tZ m_).bind fun t_ =>
 some (if t_ > m_.most then t_ else m_.most)
def uw (m_ : zC) : Option (zC) :=
 (sM m_).bind fun t_ =>
 some (zC.mk m_.steps m_.steps t_)
def ri (k_ : Int) : Option (Bool) :=
 some ((decide (k_ >= 1)) && (decide (k_ <= 5)))
def yx (p : zh) (v_ : zA) : Option (zf × Bool × zh) :=
 ((bif decide (w64 ((p.free.length : Int) - 1) >= 0) then
  (mIdx p.free (w64 ((p.free.length : Int) - 1))).bind fun x =>
  (mCut p.free 0 (w64 ((p.free.length : Int) - 1))).bind fun l =>
  some (.inr (x, zh.mk p.most p.l l))
 else
  (bif decide ((p.l.length : Int) >= p.most) then
   some (.inl (zf.mk 0 0, false, p))
  else
   (mApp p.l ([zs.mk 0 false (zA.mk 0 0 0)] : List zs)).bind fun e =>
   some (.inr ((p.l.length : Int), zh.mk p.most e p.free)))) : Option ((zf × Bool × zh) ⊕ (Int × zh))).bind fun s =>
 match s with
 | .inl i => some i
 | .inr s1 =>
  (mIdx s1.2.l s1.1).bind fun x1 =>
  some (zf.mk s1.1 (w64 (x1.gen + 1)), true, zh.mk s1.2.most (mSet (mSet (mSet s1.2.l s1.1 (zs.mk (w64 (x1.gen + 1)) x1.taken x1.v_)) s1.1 (zs.mk (w64 (x1.gen + 1)) true x1.v_)) s1.1 (zs.mk (w64 (x1.gen + 1)) true v_)) s1.2.free)
def vE (t_ : zi) (k_ : Int) : Option (zf × Int × zi) :=
 (ri k_).bind fun i =>
 (bif !i then
  some (zf.mk 0 0, 24, t_)
 else
  (yx t_.heaps (zA.mk k_ (-1) 0)).bind fun e =>
  (bif !e.2.1 then
   some (zf.mk 0 0, 13, zi.mk e.2.2 t_.items t_.at_)
  else
   some (e.1, 0, zi.mk e.2.2 t_.items t_.at_)))
def yF (p : zh) (r : zf) : Option ((Option Int) × Int) :=
 ((bif decide (r.At < 0) then
  some true
 else
  (bif decide (r.At >= (p.l.length : Int)) then
   some true
  else
   (bif decide (r.Gen < 1) then
    some true
   else
    (mIdx p.l r.At).bind fun x1 =>
    some (decide (r.Gen > x1.gen)))))).bind fun s =>
 (bif s then
  some ((none : Option Int), 22)
 else
  (mIdx p.l r.At).bind fun x2 =>
  (bif (decide (r.Gen < x2.gen)) || (!x2.taken) then
   some ((none : Option Int), 23)
  else
   some ((some r.At : Option Int), 0)))
def yl (p : zh) (r : zf) : Option (zA × Int) :=
 (yF p r).bind fun t_ =>
 (vO t_.1
  ((bif t_.2 != 0 then
   some (zA.mk 0 0 0, t_.2)
  else
   none))
  (fun i =>
  (mIdx p.l i).bind fun x =>
  (bif t_.2 != 0 then
   some (zA.mk 0 0 0, t_.2)
  else
   some (x.v_, 0))))
def yP (t_ : zi) (i : zf) : Option (Int × Int × Int × Int) :=
 (yl t_.heaps i).bind fun e =>
 some (e.1.kind, e.1.root, e.1.n, e.2)
def wO (e : Int) : Option (zH) :=
 some (zH.mk e (zf.mk 0 0) (zf.mk 0 0) (zw.mk 0 0) 0)
def yH (p : ze) : Option (Int) :=
 some (w64 ((p.l.length : Int) - (p.free.length : Int)))
def vf (t_ : zi) : Option (Int) :=
 (yH t_.items).bind fun e =>
 some e
def y3 (m_ : zC) (n : Int) : Option (zC) :=
 (w5 m_.steps (if n > 0 then n else 0)).bind fun t_ =>
 some (zC.mk t_ m_.begun m_.most)
def sE  : Option (zr) :=
 some (zr.mk (-1) (-1) (-1) (-1) 0 0 (-1) 0 0 (-1) true)
def wJ (a_ : zb) : Option (Int × Bool × zb) :=
 (y3 a_.m_ 1).bind fun t_ =>
 ((bif decide (w64 ((a_.free.length : Int) - 1) >= 0) then
  (mIdx a_.free (w64 ((a_.free.length : Int) - 1))).bind fun x =>
  (mCut a_.free 0 (w64 ((a_.free.length : Int) - 1))).bind fun l =>
  some (.inr (x, zb.mk a_.l a_.never l t_))
 else
  (bif decide (a_.never >= (a_.l.length : Int)) then
   some (.inl ((-1), false, zb.mk a_.l a_.never a_.free t_))
  else
   some (.inr (a_.never, zb.mk a_.l (w64 (a_.never + 1)) a_.free t_)))) : Option ((Int × Bool × zb) ⊕ (Int × zb))).bind fun s =>
 match s with
 | .inl i => some i
 | .inr s1 =>
  (sE).bind fun e =>
  (mIdx s1.2.l s1.1).bind fun x1 =>
  some (s1.1, true, zb.mk (mSet s1.2.l s1.1 e) s1.2.never s1.2.free s1.2.m_)
def yc (a_ : zb) (e : Int) : Option (Bool) :=
 ((bif decide (e >= 0) then
  (bif decide (e < (a_.l.length : Int)) then
   (mIdx a_.l e).bind fun x1 =>
   some x1.taken
  else
   some false)
 else
  some false)).bind fun s =>
 some s
def xD (a_ : zb) (e : Int) (field : Int) : Option (Bool) :=
 ((yc a_ e).bind fun t_ =>
 (bif t_ then
  (bif decide (field >= 0) then
   some (decide (field < 10))
  else
   some false)
 else
  some false)).bind fun s =>
 some s
def zx (a_ : zb) (e : Int) (field : Int) (v_ : Int) : Option (Bool × zb) :=
 (y3 a_.m_ 1).bind fun t_ =>
 (xD (zb.mk a_.l a_.never a_.free t_) e field).bind fun i =>
 (bif !i then
  some (false, zb.mk a_.l a_.never a_.free t_)
 else
  (mIdx a_.l e).bind fun x =>
  (mIn field 10).bind fun u =>
  (zr.rN x field v_).bind fun y =>
  some (true, zb.mk (mSet a_.l e y) a_.never a_.free t_))
def pM (a_ : zb) (key : Int) (serial : Int) : Option (Int × Bool × zb) :=
 (wJ a_).bind fun t_ =>
 ((bif t_.2.1 then
  (zx t_.2.2 t_.1 7 key).bind fun e =>
  (zx e.2 t_.1 8 serial).bind fun i =>
  some i.2
 else
  some t_.2.2)).bind fun s =>
 some (t_.1, t_.2.1, s)
def rf (a_ : zb) (n : Int) (i : Int) : Option (zb) :=
 (zx a_ n 6 i).bind fun t_ =>
 (zx t_.2 i 9 n).bind fun e =>
 some e.2
def ru (a_ : zb) (i : Int) : Option (Int × Bool × zb) :=
 (wJ a_).bind fun t_ =>
 ((bif t_.2.1 then
  (rf t_.2.2 t_.1 i).bind fun e =>
  some e
 else
  some t_.2.2)).bind fun s =>
 some (t_.1, t_.2.1, s)
def xq (a_ : zb) : Option (Int) :=
 some (a_.l.length : Int)
def zP (a_ : zb) (i : Int) (field : Int) : Option (Int × zb) :=
 (y3 a_.m_ 1).bind fun t_ =>
 (xD (zb.mk a_.l a_.never a_.free t_) i field).bind fun e =>
 (bif !e then
  some ((-1), zb.mk a_.l a_.never a_.free t_)
 else
  (mIdx a_.l i).bind fun x =>
  (mIn field 10).bind fun u =>
  (zr.sN x field).bind fun v_ =>
  some (v_, zb.mk a_.l a_.never a_.free t_))
def zD (a_ : zb) (e : Int) (field : Int) : Option (Int × zb) :=
 (zP a_ e field).bind fun t_ =>
 ((bif decide (t_.1 < 0) then
  some true
 else
  some (decide (t_.1 >= (t_.2.l.length : Int))))).bind fun s =>
 (bif s then
  some ((-1), t_.2)
 else
  some (t_.1, t_.2))
def tV (a_ : zb) (i : Int) : Option (zw × zb) :=
 (zP a_ i 7).bind fun t_ =>
 (zP t_.2 i 8).bind fun e =>
 some (zw.mk t_.1 e.1, e.2)
def w7 (x : Int) : Option (Bool) :=
 some (x != x)
def wy (x : Int) (y : Int) : Option (Int) :=
 (w7 x).bind fun t_ =>
 (w7 y).bind fun e =>
 (bif t_ then
  (bif e then
   some 0
  else
   some (-1))
 else
  (bif e then
   some 1
  else
   (bif decide (x < y) then
    some (-1)
   else
    (bif decide (x > y) then
     some 1
    else
     some 0))))
def ve (x1 : Int) (l : List Int) : Nat -> Int -> Option ((Int) ⊕ (Unit))
 | 0, _ => none
 | m + 1, x =>
  (bif decide (x < x1) then
   (mIdx l x).bind fun x2 =>
   (bif x2 != 0 then
    some (.inl x2)
   else
    ve x1 l m (w64 (x + 1)))
  else
   some (.inr ()))
def rv (k : Nat) (e : List Int) : Option (Int) :=
 (ve (e.length : Int) e k 0).bind fun s =>
 match s with
 | .inl i => some i
 | .inr s1 =>
  some 0
def uX (k : Nat) (a_ : zw) (b : zw) : Option (Int) :=
 (wy a_.Key b.Key).bind fun t_ =>
 (wy a_.Serial b.Serial).bind fun e =>
 (rv k ([t_, e] : List Int)).bind fun i =>
 some i
def sC (k : Nat) (a_ : zb) (i : Int) (j : Int) : Option (Bool × zb) :=
 (tV a_ i).bind fun t_ =>
 (tV t_.2 j).bind fun e =>
 (uX k t_.1 e.1).bind fun l =>
 some ((decide (l < 0)) || ((l == 0) && (decide (i < j))), e.2)
def w6 (k : Nat) (a_ : zb) (n : Int) (m_ : Int) : Option (Bool × zb) :=
 (zD a_ n 6).bind fun t_ =>
 (zD t_.2 m_ 6).bind fun e =>
 (sC k e.2 t_.1 e.1).bind fun i =>
 some (i.1, i.2)
def uH (a_ : zb) (n : Int) : Option (Int × zb) :=
 (bif n == (-1) then
  some (0, a_)
 else
  (zP a_ n 4).bind fun t_ =>
  some (t_.1, t_.2))
def u2 (a_ : zb) (n : Int) : Option (Bool × zb) :=
 (zD a_ n 2).bind fun t_ =>
 (zD t_.2 n 3).bind fun i =>
 (uH i.2 t_.1).bind fun j =>
 (uH j.2 i.1).bind fun e =>
 ((bif decide (j.1 < e.1) then
  (zx e.2 n 2 i.1).bind fun t =>
  (zx t.2 n 3 t_.1).bind fun u =>
  some (j.1, u.2)
 else
  some (e.1, e.2))).bind fun s =>
 (zP s.2 n 4).bind fun l =>
 (zx l.2 n 4 (w64 (s.1 + 1))).bind fun x =>
 some (l.1 != (w64 (s.1 + 1)), x.2)
def wv : Nat -> Int -> Int -> (List Int) -> zb -> Option (Int × Int × (List Int) × zb)
 | 0, _, _, _, _ => none
 | m + 1, r1, s1, path, m_ =>
  ((bif r1 != (-1) then
   (bif s1 != (-1) then
    (xq m_).bind fun t_ =>
    some (decide ((path.length : Int) <= t_))
   else
    some false)
  else
   some false)).bind fun s =>
  (bif s then
   (w6 m m_ s1 r1).bind fun e =>
   ((bif e.1 then
    some (s1, r1)
   else
    some (r1, s1))).bind fun j =>
   (mApp path ([j.1] : List Int)).bind fun l =>
   (zD e.2 j.1 3).bind fun i =>
   wv m i.1 j.2 l i.2
  else
   some (r1, s1, path, m_))
def xE (i : List Int) : Nat -> Int -> Int -> zb -> Option (Int × zb)
 | 0, _, _, _ => none
 | m + 1, top, k_, e =>
  (bif decide (k_ >= 0) then
   (mIdx i k_).bind fun x =>
   (zx e x 3 top).bind fun j =>
   (mIdx i k_).bind fun x1 =>
   (zx j.2 top 0 x1).bind fun l =>
   (mIdx i k_).bind fun x2 =>
   (u2 l.2 x2).bind fun s =>
   xE i m x2 (w64 (k_ - 1)) s.2
  else
   some (top, e))
def wC (k : Nat) (a_ : zb) (r : Int) (s : Int) : Option (Int × zb) :=
 (bif r == s then
  some (r, a_)
 else
  (wv k r s ([] : List Int) a_).bind fun s2 =>
  (xE s2.2.2.1 k (if s2.2.1 > s2.1 then s2.2.1 else s2.1) (w64 ((s2.2.2.1.length : Int) - 1)) s2.2.2.2).bind fun e =>
  (zx e.2 e.1 0 (-1)).bind fun i =>
  some (e.1, i.2))
def tp (k : Nat) (a_ : zb) (r : Int) (i : Int) : Option (Int × Bool × zb) :=
 (ru a_ i).bind fun t_ =>
 (bif !t_.2.1 then
  some (r, false, t_.2.2)
 else
  (zx t_.2.2 t_.1 4 1).bind fun j =>
  (wC k j.2 r t_.1).bind fun e =>
  some (e.1, true, e.2))
def ux (e : Int) : Nat -> Int -> (List Int) -> zb -> Option ((List Int) × zb)
 | 0, _, _, _ => none
 | m + 1, j, out, m_ =>
  ((yc m_ j).bind fun t_ =>
  (bif t_ then
   (xq m_).bind fun s =>
   some (decide ((out.length : Int) < s))
  else
   some false)).bind fun s1 =>
  (bif s1 then
   (mApp out ([j] : List Int)).bind fun l =>
   (zD m_ j e).bind fun i =>
   ux e m i.1 l i.2
  else
   some (out, m_))
def qg (k : Nat) (a_ : zb) (n : Int) (field : Int) : Option ((List Int) × zb) :=
 (ux field k n ([] : List Int) a_).bind fun s =>
 some (s.1, s.2)
def xK (k : Nat) (a_ : zb) (r : Int) : Option ((List Int) × zb) :=
 (qg k a_ r 3).bind fun t_ =>
 some (t_.1, t_.2)
def vq (x : zk) (y : zk) : Option (Int) :=
 some (if (if 1 < w64 (x.rank - y.rank) then 1 else w64 (x.rank - y.rank)) > (-1) then (if 1 < w64 (x.rank - y.rank) then 1 else w64 (x.rank - y.rank)) else (-1))
def zM (i : Int) (l : Int) (i1 : Int) : Nat -> Int -> (List zk) -> Option ((List zk))
 | 0, _, _ => none
 | m + 1, j, e =>
  ((bif decide (j > i) then
   (mIdx e j).bind fun x1 =>
   (mIdx e (w64 (j - 1))).bind fun x2 =>
   (vq x1 x2).bind fun t_ =>
   some (decide (t_ < 0))
  else
   some false)).bind fun s2 =>
  (bif s2 then
   (mIdx e (w64 (j - 1))).bind fun x3 =>
   (mIdx e j).bind fun x4 =>
   (mIdx e j).bind fun x5 =>
   (mIdx (mSet e j x3) (w64 (j - 1))).bind fun x6 =>
   zM i l i1 m (w64 (j - 1)) (mSet (mSet e j x3) (w64 (j - 1)) x4)
  else
   some e)
def zF (e : Int) (j : Int) : Nat -> Int -> (List zk) -> Option ((List zk))
 | 0, _, _ => none
 | m + 1, i, m_ =>
  (bif decide (i < j) then
   (zM e j i m i m_).bind fun s1 =>
   zF e j m (w64 (i + 1)) s1
  else
   some m_)
def zK (k : Nat) (data : List zk) (a_ : Int) (b : Int) : Option ((List zk)) :=
 (zF a_ b k (w64 (a_ + 1)) data).bind fun s =>
 (qI s.length data.length).bind fun u =>
 some s
def zU (e : Int) : Nat -> Int -> Int -> (List zk) -> Option (Int × (List zk))
 | 0, _, _, _ => none
 | m + 1, a_, b, m_ =>
  (bif decide (b <= e) then
   (zK m m_ a_ b).bind fun t_ =>
   zU e m b (w64 (b + 20)) t_
  else
   some (a_, m_))
def xm (j : Int) (e : Int) (s : List zk) : Nat -> Int -> Int -> Option (Int)
 | 0, _, _ => none
 | m + 1, i, l =>
  (bif decide (l <= j) then
   none
  else
   some i)
def yb (i : Int) (l : List zk) : Nat -> Int -> Option (Unit)
 | 0, _ => none
 | m + 1, e =>
  (bif decide (e < i) then
   (xm i e l m 0 (w64 (2 * e))).bind fun s2 =>
   ((bif decide (w64 (s2 + e) < i) then
    none
   else
    some ())).bind fun j =>
   yb i l m (w64 (e * 2))
  else
   some ())
def yQ (k : Nat) (data : List zk) (n : Int) : Option ((List zk)) :=
 (zU n k 0 20 data).bind fun s =>
 (zK k s.2 s.1 n).bind fun e =>
 (yb n e k 20).bind fun s1 =>
 (qI e.length data.length).bind fun u =>
 some e
def yt (k : Nat) (x : List zk) : Option ((List zk)) :=
 (yQ k x (x.length : Int)).bind fun t_ =>
 (qI t_.length x.length).bind fun u =>
 some t_
def vQ (a_ : zb) (n : Int) (up : Int) : Option (zb) :=
 (zD a_ up 1).bind fun t_ =>
 (zx t_.2 n 3 t_.1).bind fun e =>
 (zx e.2 n 0 up).bind fun i =>
 (zx i.2 up 1 n).bind fun j =>
 some j.2
def uo (k : Nat) (a_ : zb) (n : Int) (m_ : Int) (rank : Int) : Option (Int × zb) :=
 (w6 k a_ m_ n).bind fun t_ =>
 ((bif t_.1 then
  some (m_, n)
 else
  some (n, m_))).bind fun s =>
 (vQ t_.2 s.2 s.1).bind fun e =>
 (zx e s.1 4 (w64 (rank + 1))).bind fun i =>
 some (s.1, i.2)
def vT (e : List Int) : Nat -> Int -> Int -> zb -> Option (Int × zb)
 | 0, _, _, _ => none
 | m + 1, next, k_, m_ =>
  (bif decide (k_ >= 0) then
   (mIdx e k_).bind fun x =>
   (zx m_ x 3 next).bind fun t_ =>
   (mIdx e k_).bind fun x1 =>
   (zx t_.2 x1 0 (-1)).bind fun i =>
   (mIdx e k_).bind fun x2 =>
   vT e m x2 (w64 (k_ - 1)) i.2
  else
   some (next, m_))
def qo (k : Nat) (a_ : zb) (l : List Int) : Option (Int × zb) :=
 (vT l k (-1) (w64 ((l.length : Int) - 1)) a_).bind fun s =>
 some (s.1, s.2)
def wS (x1 : Int) (e : List Int) : Nat -> (List zk) -> Int -> zb -> Option ((List zk) × zb)
 | 0, _, _, _ => none
 | m + 1, wait, x, m_ =>
  (bif decide (x < x1) then
   (mIdx e x).bind fun x2 =>
   (zP m_ x2 4).bind fun t_ =>
   (mApp wait ([zk.mk x2 t_.1] : List zk)).bind fun l2 =>
   wS x1 e m l2 (w64 (x + 1)) t_.2
  else
   some (wait, m_))
def wR (i : List zk) (v_ : Int) (e : Int) (l : List Int) (j : zb) (s : List Int) : Nat -> Int -> Option (Int)
 | 0, _ => none
 | m + 1, k_ =>
  ((bif decide (k_ < (i.length : Int)) then
   (mIdx i k_).bind fun x8 =>
   some (decide (x8.rank < e))
  else
   some false)).bind fun t =>
  (bif t then
   wR i v_ e l j s m (w64 (k_ + 1))
  else
   some k_)
def xP (l : List Int) : Nat -> (List zk) -> (List Int) -> zb -> Option ((List Int) × zb)
 | 0, _, _, _ => none
 | m + 1, e, out, j =>
  (bif decide ((e.length : Int) > 0) then
   (mIdx e 0).bind fun x3 =>
   ((bif (e.length : Int) == 1 then
    some true
   else
    (mIdx e 1).bind fun x5 =>
    some (x5.rank != x3.rank))).bind fun s2 =>
   (bif s2 then
    (mCut e 1 (e.length : Int)).bind fun u =>
    (mApp out ([x3.n] : List Int)).bind fun x =>
    xP l m u x j
   else
    (mIdx e 1).bind fun x6 =>
    (uo m j x3.n x6.n x3.rank).bind fun i =>
    (mCut e 2 (e.length : Int)).bind fun t =>
    (wR t ((zk.mk i.1 (w64 (x3.rank + 1))).n) ((zk.mk i.1 (w64 (x3.rank + 1))).rank) out i.2 l m 0).bind fun y =>
    (rL t y ([(zk.mk i.1 (w64 (x3.rank + 1)))] : List zk)).bind fun s =>
    xP l m s out i.2)
  else
   some (out, j))
def wH (k : Nat) (a_ : zb) (l : List Int) : Option (Int × zb) :=
 (wS (l.length : Int) l k ([] : List zk) 0 a_).bind fun s =>
 (yt k s.1).bind fun i =>
 (xP l k i ([] : List Int) s.2).bind fun s1 =>
 (qo k s1.2 s1.1).bind fun e =>
 some (e.1, e.2)
def uc (k : Nat) (a_ : zb) (r : Int) (i : Int) : Option (Int × Bool × zb) :=
 (ru a_ i).bind fun t_ =>
 (bif !t_.2.1 then
  some (r, false, t_.2.2)
 else
  (xK k t_.2.2 r).bind fun e =>
  (mApp ([t_.1] : List Int) e.1).bind fun l =>
  (wH k e.2 l).bind fun j =>
  some (j.1, true, j.2))
def se (a_ : zb) (n : Int) (m_ : Int) : Option (zb) :=
 (zD a_ n 6).bind fun t_ =>
 (zD t_.2 m_ 6).bind fun e =>
 (rf e.2 n e.1).bind fun i =>
 (rf i m_ t_.1).bind fun j =>
 some j
def uu (k : Nat) (a_ : zb) (r : Int) (n : Int) : Option (Int × zb) :=
 ((bif r != (-1) then
  (zD a_ r 3).bind fun t_ =>
  some (t_.1, t_.2)
 else
  some ((-1), a_))).bind fun s =>
 (zP s.2 r 4).bind fun i =>
 ((bif s.1 == (-1) then
  some (true, i.2)
 else
  (zP i.2 s.1 4).bind fun l =>
  some (l.1 != i.1, l.2))).bind fun s1 =>
 (bif s1.1 then
  (zx s1.2 n 3 r).bind fun x =>
  (zx x.2 n 0 (-1)).bind fun y =>
  some (n, y.2)
 else
  (zD s1.2 s.1 3).bind fun t =>
  (uo k t.2 r s.1 i.1).bind fun e =>
  (w6 k e.2 n e.1).bind fun j =>
  ((bif j.1 then
   (se j.2 n e.1).bind fun z =>
   some z
  else
   some j.2)).bind fun s2 =>
  (vQ s2 n e.1).bind fun A =>
  (zx A e.1 3 t.1).bind fun u =>
  some (e.1, u.2))
def sS (k : Nat) (a_ : zb) (r : Int) (i : Int) : Option (Int × Bool × zb) :=
 (ru a_ i).bind fun t_ =>
 (bif !t_.2.1 then
  some (r, false, t_.2.2)
 else
  (uu k t_.2.2 r t_.1).bind fun e =>
  some (e.1, true, e.2))
def kU (a_ : zb) (r : Int) (i : Int) : Option (Int × Bool) :=
 none
def pf (a_ : zb) (r : Int) (i : Int) : Option (Int × Bool) :=
 none
def qd (k : Nat) (k_ : Int) (a_ : zb) (r : Int) (i : Int) : Option (Int × Bool × zb) :=
 (bif k_ == 1 then
  (tp k a_ r i).bind fun t_ =>
  some (t_.1, t_.2.1, t_.2.2)
 else
  (bif k_ == 2 then
   (uc k a_ r i).bind fun e =>
   some (e.1, e.2.1, e.2.2)
  else
   (bif k_ == 3 then
    (sS k a_ r i).bind fun j =>
    some (j.1, j.2.1, j.2.2)
   else
    (bif k_ == 4 then
     (kU a_ r i).bind fun l =>
     some (l.1, l.2, a_)
    else
     (bif k_ == 5 then
      (pf a_ r i).bind fun s =>
      some (s.1, s.2, a_)
     else
      some (r, false, a_))))))
def xO (p : ze) : Option (Int) :=
 some p.most
def yn (p : ze) (v_ : zy) : Option (zf × Bool × ze) :=
 ((bif decide (w64 ((p.free.length : Int) - 1) >= 0) then
  (mIdx p.free (w64 ((p.free.length : Int) - 1))).bind fun x =>
  (mCut p.free 0 (w64 ((p.free.length : Int) - 1))).bind fun l =>
  some (.inr (x, ze.mk p.most p.l l))
 else
  (bif decide ((p.l.length : Int) >= p.most) then
   some (.inl (zf.mk 0 0, false, p))
  else
   (mApp p.l ([zp.mk 0 false (zy.mk 0 (zf.mk 0 0))] : List zp)).bind fun e =>
   some (.inr ((p.l.length : Int), ze.mk p.most e p.free)))) : Option ((zf × Bool × ze) ⊕ (Int × ze))).bind fun s =>
 match s with
 | .inl i => some i
 | .inr s1 =>
  (mIdx s1.2.l s1.1).bind fun x1 =>
  some (zf.mk s1.1 (w64 (x1.gen + 1)), true, ze.mk s1.2.most (mSet (mSet (mSet s1.2.l s1.1 (zp.mk (w64 (x1.gen + 1)) x1.taken x1.v_)) s1.1 (zp.mk (w64 (x1.gen + 1)) true x1.v_)) s1.1 (zp.mk (w64 (x1.gen + 1)) true v_)) s1.2.free)
def vZ (t_ : zi) (s : zf) (cell : Int) : Option (zf × Int × zi) :=
 (yl t_.heaps s).bind fun i =>
 (bif i.2 != 0 then
  some (zf.mk 0 0, i.2, t_)
 else
  (sy kI cell (zf.mk 0 0) t_.at_).bind fun x =>
  (yH t_.items).bind fun j =>
  (xO t_.items).bind fun l =>
  (bif j == l then
   some (zf.mk 0 0, 13, t_)
  else
   (bif x.2 then
    some (zf.mk 0 0, 1, t_)
   else
    (yn t_.items (zy.mk cell s)).bind fun e =>
    some (e.1, 0, zi.mk ((zi.mk t_.heaps e.2.2 t_.at_).heaps) ((zi.mk t_.heaps e.2.2 t_.at_).items) (mPut kI cell e.1 ((zi.mk t_.heaps e.2.2 t_.at_).at_))))))
def y8 (p : zh) (r : zf) (v_ : zA) : Option (Int × zh) :=
 (yF p r).bind fun t_ =>
 (vO t_.1
  (((bif t_.2 == 0 then
   none
  else
   some ())).bind fun s =>
  some (t_.2, p))
  (fun i =>
  (mIdx p.l i).bind fun x =>
  ((bif t_.2 == 0 then
   some (zh.mk p.most (mSet p.l i (zs.mk x.gen x.taken v_)) p.free)
  else
   some p)).bind fun s1 =>
  some (t_.2, s1)))
def y1 (t_ : zi) (j : zf) (r : Int) (n : Int) : Option (Int × zi) :=
 (yl t_.heaps j).bind fun e =>
 ((bif e.2 == 0 then
  (y8 t_.heaps j (zA.mk e.1.kind r n)).bind fun i =>
  some (zi.mk i.2 t_.items t_.at_)
 else
  some t_)).bind fun s =>
 some (e.2, s)
def vG (k : Nat) (q : zn) (l : zX) : Option (zH × zn) :=
 (yP q.t_ l.Heap).bind fun t_ =>
 (bif t_.2.2.2 != 0 then
  (wO t_.2.2.2).bind fun s =>
  some (s, q)
 else
  (vf q.t_).bind fun t =>
  (bif decide (t >= q.items) then
   (wO 13).bind fun u =>
   some (u, q)
  else
   (pM q.a_ l.Key q.serial).bind fun j =>
   (qd k t_.1 j.2.2 t_.2.1 j.1).bind fun i =>
   (vZ q.t_ l.Heap j.1).bind fun e =>
   (y1 ((zn.mk q.items i.2.2 e.2.2 q.entries q.serial).t_) l.Heap i.1 (w64 (t_.2.2.1 + 1))).bind fun x =>
   some (zH.mk 0 (zf.mk 0 0) e.1 (zw.mk l.Key q.serial) 0, zn.mk ((zn.mk q.items i.2.2 e.2.2 q.entries q.serial).items) ((zn.mk q.items i.2.2 e.2.2 q.entries q.serial).a_) x.2 (mPut zf.eq e.1 (zw.mk l.Key q.serial) ((zn.mk q.items i.2.2 e.2.2 q.entries q.serial).entries)) (w64 (((zn.mk q.items i.2.2 e.2.2 q.entries q.serial).serial) + 1)))))
def sx (a_ : zb) (r : Int) : Option (Int × zb) :=
 (zD a_ r 6).bind fun t_ =>
 some (t_.1, t_.2)
def wj (x1 : Int) (i : List Int) : Nat -> Int -> Int -> zb -> Option (Int × zb)
 | 0, _, _, _ => none
 | m + 1, e, x, m_ =>
  (bif decide (x < x1) then
   ((mIdx i x).bind fun x2 =>
   ((bif e == (-1) then
    some (true, m_)
   else
    (w6 m m_ x2 e).bind fun t_ =>
    some (t_.1, t_.2))).bind fun s2 =>
   (bif s2.1 then
    some (x2, s2.2)
   else
    some (e, s2.2))).bind fun s1 =>
   wj x1 i m s1.1 (w64 (x + 1)) s1.2
  else
   some (e, m_))
def wT (k : Nat) (a_ : zb) (l : List Int) : Option (Int × zb) :=
 (wj (l.length : Int) l k (-1) 0 a_).bind fun s =>
 some (s.1, s.2)
def uK (k : Nat) (a_ : zb) (r : Int) : Option (Int × zb) :=
 (xK k a_ r).bind fun t_ =>
 (wT k t_.2 t_.1).bind fun e =>
 (zD e.2 e.1 6).bind fun i =>
 some (i.1, i.2)
def qv (k : Nat) (a_ : zb) (r : Int) : Option (Int × zb) :=
 (xK k a_ r).bind fun t_ =>
 (wT k t_.2 t_.1).bind fun e =>
 (zD e.2 e.1 6).bind fun i =>
 some (i.1, i.2)
def gp (a_ : zb) (r : Int) : Option (Int) :=
 none
def oG (a_ : zb) (r : Int) : Option (Int) :=
 none
def pt (k : Nat) (k_ : Int) (a_ : zb) (r : Int) : Option (Int × zb) :=
 (bif k_ == 1 then
  (sx a_ r).bind fun t_ =>
  some (t_.1, t_.2)
 else
  (bif k_ == 2 then
   (uK k a_ r).bind fun e =>
   some (e.1, e.2)
  else
   (bif k_ == 3 then
    (qv k a_ r).bind fun i =>
    some (i.1, i.2)
   else
    (bif k_ == 4 then
     (gp a_ r).bind fun j =>
     some (j, a_)
    else
     (bif k_ == 5 then
      (oG a_ r).bind fun l =>
      some (l, a_)
     else
      some ((-1), a_))))))
def vp (t_ : zi) (cell : Int) : Option (zf × Bool) :=
 (sy kI cell (zf.mk 0 0) t_.at_).bind fun x =>
 some (x.1, x.2)
def sV (k : Nat) (a_ : zb) (n : Int) : Option (Int × zb) :=
 (zD a_ n 2).bind fun t_ =>
 (zD t_.2 n 3).bind fun e =>
 (wC k e.2 t_.1 e.1).bind fun i =>
 some (i.1, i.2)
def wN (a_ : zb) (e : Int) : Option (Bool × zb) :=
 (y3 a_.m_ 1).bind fun t_ =>
 (yc (zb.mk a_.l a_.never a_.free t_) e).bind fun i =>
 (bif !i then
  some (false, zb.mk a_.l a_.never a_.free t_)
 else
  (mIdx a_.l e).bind fun x =>
  (mApp a_.free ([e] : List Int)).bind fun l =>
  some (true, zb.mk (mSet a_.l e (zr.mk x.f0 x.f1 x.f2 x.f3 x.f4 x.f5 x.f6 x.f7 x.f8 x.f9 false)) a_.never l t_))
def sm (a_ : zb) (n : Int) : Option (Int × zb) :=
 (zD a_ n 6).bind fun t_ =>
 (zx t_.2 t_.1 9 (-1)).bind fun e =>
 (wN e.2 n).bind fun i =>
 some (t_.1, i.2)
def vN (k : Nat) (a_ : zb) (r : Int) : Option (Int × Int × zb) :=
 ((yc a_ r).bind fun t_ =>
 some (!t_)).bind fun s =>
 (bif s then
  some ((-1), (-1), a_)
 else
  (sV k a_ r).bind fun e =>
  (zx e.2 e.1 0 (-1)).bind fun j =>
  (sm j.2 r).bind fun i =>
  some (e.1, i.1, i.2))
def xY (x : Int) (v_ : Int) : Option (Bool) :=
 some (x == v_)
def zS (x1 : Int) (l : List Int) (e : Int) : Nat -> Int -> Option ((Int) ⊕ (Unit))
 | 0, _ => none
 | m + 1, x =>
  (bif decide (x < x1) then
   (mIdx l x).bind fun x2 =>
   (xY x2 e).bind fun t_ =>
   (bif t_ then
    some (.inl x)
   else
    zS x1 l e m (w64 (x + 1)))
  else
   some (.inr ()))
def xx (k : Nat) (s : List Int) (v_ : Int) : Option (Int) :=
 (zS (s.length : Int) s v_ k 0).bind fun s1 =>
 match s1 with
 | .inl e => some e
 | .inr s2 =>
  some (-1)
def z8 (e : Int) : Nat -> Int -> Int -> (List Int) -> Option (Int × (List Int))
 | 0, _, _, _ => none
 | m + 1, i, j, m_ =>
  (bif decide (j < (m_.length : Int)) then
   ((mIdx m_ j).bind fun x =>
   (xY x e).bind fun l =>
   (bif !l then
    (mIdx m_ i).bind fun x1 =>
    some (w64 (i + 1), mSet m_ i x)
   else
    some (i, m_))).bind fun s2 =>
   z8 e m s2.1 (w64 (j + 1)) s2.2
  else
   some (i, m_))
def yV (k : Nat) (s : List Int) (v_ : Int) : Option ((List Int)) :=
 (xx k s v_).bind fun t_ =>
 (bif t_ == (-1) then
  some s
 else
  (z8 v_ k t_ (w64 (t_ + 1)) s).bind fun s1 =>
  (mCut s1.2 s1.1 (s1.2.length : Int)).bind fun l =>
  (mCut (sL s1.2 s1.1 0) 0 s1.1).bind fun e =>
  some e)
def u1 (k : Nat) (a_ : zb) (n : Int) : Option ((List Int) × zb) :=
 (zD a_ n 1).bind fun t_ =>
 (qg k t_.2 t_.1 3).bind fun e =>
 some (e.1, e.2)
def xg (k : Nat) (a_ : zb) (l : List Int) (n : Int) : Option (Int × Int × zb) :=
 (yV k l n).bind fun t_ =>
 (u1 k a_ n).bind fun e =>
 (mApp t_ e.1).bind fun s =>
 (sm e.2 n).bind fun i =>
 (wH k i.2 s).bind fun j =>
 some (j.1, i.1, j.2)
def uJ (k : Nat) (a_ : zb) (r : Int) : Option (Int × Int × zb) :=
 ((yc a_ r).bind fun t_ =>
 some (!t_)).bind fun s =>
 (bif s then
  some ((-1), (-1), a_)
 else
  (xK k a_ r).bind fun e =>
  (wT k e.2 e.1).bind fun j =>
  (xg k j.2 e.1 j.1).bind fun i =>
  some (i.1, i.2.1, i.2.2))
def vc (x : Int) (v_ : Int) : Option (Bool) :=
 some (x == v_)
def zR (x1 : Int) (l : List Int) (e : Int) : Nat -> Int -> Option ((Int) ⊕ (Unit))
 | 0, _ => none
 | m + 1, x =>
  (bif decide (x < x1) then
   (mIdx l x).bind fun x2 =>
   (vc x2 e).bind fun t_ =>
   (bif t_ then
    some (.inl x)
   else
    zR x1 l e m (w64 (x + 1)))
  else
   some (.inr ()))
def xy (k : Nat) (s : List Int) (v_ : Int) : Option (Int) :=
 (zR (s.length : Int) s v_ k 0).bind fun s1 =>
 match s1 with
 | .inl e => some e
 | .inr s2 =>
  some (-1)
def zZ (e : Int) : Nat -> Int -> Int -> (List Int) -> Option (Int × (List Int))
 | 0, _, _, _ => none
 | m + 1, i, j, m_ =>
  (bif decide (j < (m_.length : Int)) then
   ((mIdx m_ j).bind fun x =>
   (vc x e).bind fun l =>
   (bif !l then
    (mIdx m_ i).bind fun x1 =>
    some (w64 (i + 1), mSet m_ i x)
   else
    some (i, m_))).bind fun s2 =>
   zZ e m s2.1 (w64 (j + 1)) s2.2
  else
   some (i, m_))
def yS (k : Nat) (s : List Int) (v_ : Int) : Option ((List Int)) :=
 (xy k s v_).bind fun t_ =>
 (bif t_ == (-1) then
  some s
 else
  (zZ v_ k t_ (w64 (t_ + 1)) s).bind fun s1 =>
  (mCut s1.2 s1.1 (s1.2.length : Int)).bind fun l =>
  (mCut (sL s1.2 s1.1 0) 0 s1.1).bind fun e =>
  some e)
def xG (x1 : Int) (i : List Int) (v_ : Int) : Nat -> (List Int) -> (List Int) -> Int -> zb -> Option ((List Int) × (List Int) × zb)
 | 0, _, _, _, _ => none
 | m + 1, rest, alone, x, m_ =>
  (bif decide (x < x1) then
   ((mIdx i x).bind fun x2 =>
   (zP m_ x2 4).bind fun e =>
   (bif e.1 == 0 then
    (mApp alone ([x2] : List Int)).bind fun l2 =>
    some (rest, l2, e.2)
   else
    (mApp rest ([x2] : List Int)).bind fun j =>
    some (j, alone, e.2))).bind fun s1 =>
   xG x1 i v_ m s1.1 s1.2.1 (w64 (x + 1)) s1.2.2
  else
   some (rest, alone, m_))
def xF (i : Int) (x4 : Int) (l : List Int) : Nat -> Int -> Int -> zb -> Option (Int × zb)
 | 0, _, _, _ => none
 | m + 1, s, x3, e =>
  (bif decide (x3 < x4) then
   (mIdx l x3).bind fun x5 =>
   (uu m e s x5).bind fun j =>
   xF i x4 l m j.1 (w64 (x3 + 1)) j.2
  else
   some (s, e))
def wD (k : Nat) (a_ : zb) (l : List Int) (n : Int) : Option (Int × Int × zb) :=
 (yS k l n).bind fun t_ =>
 (u1 k a_ n).bind fun e =>
 (xG (e.1.length : Int) e.1 n k t_ ([] : List Int) 0 e.2).bind fun s =>
 (sm s.2.2 n).bind fun i =>
 (wH k i.2 s.1).bind fun j =>
 (xF i.1 (s.2.1.length : Int) s.2.1 k j.1 0 j.2).bind fun s2 =>
 some (s2.1, i.1, s2.2)
def qc (k : Nat) (a_ : zb) (r : Int) : Option (Int × Int × zb) :=
 ((yc a_ r).bind fun t_ =>
 some (!t_)).bind fun s =>
 (bif s then
  some ((-1), (-1), a_)
 else
  (xK k a_ r).bind fun e =>
  (wT k e.2 e.1).bind fun j =>
  (wD k j.2 e.1 j.1).bind fun i =>
  some (i.1, i.2.1, i.2.2))
def iF (a_ : zb) (r : Int) : Option (Int × Int) :=
 none
def oz (a_ : zb) (r : Int) : Option (Int × Int) :=
 none
def pE (k : Nat) (k_ : Int) (a_ : zb) (r : Int) : Option (Int × Int × zb) :=
 (bif k_ == 1 then
  (vN k a_ r).bind fun t_ =>
  some (t_.1, t_.2.1, t_.2.2)
 else
  (bif k_ == 2 then
   (uJ k a_ r).bind fun e =>
   some (e.1, e.2.1, e.2.2)
  else
   (bif k_ == 3 then
    (qc k a_ r).bind fun i =>
    some (i.1, i.2.1, i.2.2)
   else
    (bif k_ == 4 then
     (iF a_ r).bind fun j =>
     some (j.1, j.2, a_)
    else
     (bif k_ == 5 then
      (oz a_ r).bind fun l =>
      some (l.1, l.2, a_)
     else
      some ((-1), (-1), a_))))))
def yC (p : ze) (r : zf) : Option ((Option Int) × Int) :=
 ((bif decide (r.At < 0) then
  some true
 else
  (bif decide (r.At >= (p.l.length : Int)) then
   some true
  else
   (bif decide (r.Gen < 1) then
    some true
   else
    (mIdx p.l r.At).bind fun x1 =>
    some (decide (r.Gen > x1.gen)))))).bind fun s =>
 (bif s then
  some ((none : Option Int), 22)
 else
  (mIdx p.l r.At).bind fun x2 =>
  (bif (decide (r.Gen < x2.gen)) || (!x2.taken) then
   some ((none : Option Int), 23)
  else
   some ((some r.At : Option Int), 0)))
def xi (p : ze) (r : zf) : Option (zy × Int × ze) :=
 (yC p r).bind fun t_ =>
 (vO t_.1
  ((bif t_.2 != 0 then
   some (zy.mk 0 (zf.mk 0 0), t_.2, p)
  else
   none))
  (fun i =>
  (mIdx p.l i).bind fun x =>
  (bif t_.2 != 0 then
   some (zy.mk 0 (zf.mk 0 0), t_.2, p)
  else
   (mApp p.free ([r.At] : List Int)).bind fun l =>
   some (x.v_, 0, ze.mk p.most (mSet (mSet p.l i (zp.mk x.gen false x.v_)) i (zp.mk x.gen false (zy.mk 0 (zf.mk 0 0)))) l))))
def uP (t_ : zi) (i : zf) : Option (Int × Int × zi) :=
 (xi t_.items i).bind fun e =>
 ((bif e.2.1 == 0 then
  some (zi.mk ((zi.mk t_.heaps e.2.2 t_.at_).heaps) ((zi.mk t_.heaps e.2.2 t_.at_).items) (mDel kI e.1.cell ((zi.mk t_.heaps e.2.2 t_.at_).at_)))
 else
  some (zi.mk t_.heaps e.2.2 t_.at_))).bind fun s =>
 some (e.1.cell, e.2.1, s)
def vA (q : zn) (i : zf) : Option (zw × zn) :=
 (uP q.t_ i).bind fun t_ =>
 (wN q.a_ t_.1).bind fun e =>
 (sy zf.eq i (zw.mk 0 0) q.entries).bind fun x =>
 some (x.1, zn.mk q.items e.2 t_.2.2 (mDel zf.eq i q.entries) q.serial)
def wG (k : Nat) (q : zn) (z : zf) (out : Bool) : Option (zH × zn) :=
 (yP q.t_ z).bind fun t_ =>
 (bif t_.2.2.2 != 0 then
  (wO t_.2.2.2).bind fun t =>
  some (t, q)
 else
  (bif t_.2.2.1 == 0 then
   (wO 27).bind fun u =>
   some (u, q)
  else
   (bif !out then
    (pt k t_.1 q.a_ t_.2.1).bind fun e =>
    (vp q.t_ e.1).bind fun j =>
    (sy zf.eq j.1 (zw.mk 0 0) ((zn.mk q.items e.2 q.t_ q.entries q.serial).entries)).bind fun x =>
    some (zH.mk 0 (zf.mk 0 0) j.1 x.1 0, (zn.mk q.items e.2 q.t_ q.entries q.serial))
   else
    (pE k t_.1 q.a_ t_.2.1).bind fun i =>
    (vp q.t_ i.2.1).bind fun l =>
    (y1 q.t_ z i.1 (w64 (t_.2.2.1 - 1))).bind fun y =>
    (vA (zn.mk q.items i.2.2 y.2 q.entries q.serial) l.1).bind fun s =>
    some (zH.mk 0 (zf.mk 0 0) l.1 s.1 0, s.2))))
def yd (p : ze) (r : zf) : Option (zy × Int) :=
 (yC p r).bind fun t_ =>
 (vO t_.1
  ((bif t_.2 != 0 then
   some (zy.mk 0 (zf.mk 0 0), t_.2)
  else
   none))
  (fun i =>
  (mIdx p.l i).bind fun x =>
  (bif t_.2 != 0 then
   some (zy.mk 0 (zf.mk 0 0), t_.2)
  else
   some (x.v_, 0))))
def wL (t_ : zi) (i : zf) : Option (Int × Int) :=
 (yd t_.items i).bind fun e =>
 some (e.1.cell, e.2)
def vv (t_ : zi) (i : zf) : Option (zf × Int) :=
 (yd t_.items i).bind fun e =>
 some (e.1.heap, e.2)
def uY (a_ : zb) (i : Int) (key : Int) : Option (Bool × zb) :=
 ((zP a_ i 7).bind fun t_ =>
 some (decide (key > t_.1), t_.2)).bind fun s =>
 (bif s.1 then
  some (false, s.2)
 else
  (zx s.2 i 7 key).bind fun e =>
  some (e.1, e.2))
def vd (a_ : zb) (i : Int) : Option (Int × zb) :=
 (zD a_ i 9).bind fun t_ =>
 some (t_.1, t_.2)
def y5 : Nat -> Int -> Int -> zb -> Option (zb)
 | 0, _, _, _ => none
 | m + 1, p, k_, m_ =>
  ((bif p != (-1) then
   (xq m_).bind fun j =>
   (bif decide (k_ <= j) then
    (u2 m_ p).bind fun e =>
    some (e.1, e.2)
   else
    some (false, m_))
  else
   some (false, m_))).bind fun s2 =>
  (bif s2.1 then
   (zD s2.2 p 0).bind fun i =>
   y5 m i.1 (w64 (k_ + 1)) i.2
  else
   some s2.2)
def ua (k : Nat) (a_ : zb) (n : Int) : Option (zb) :=
 (zD a_ n 0).bind fun t_ =>
 (zD t_.2 t_.1 2).bind fun e =>
 ((bif e.1 == n then
  (zx e.2 t_.1 2 (-1)).bind fun j =>
  some j.2
 else
  (zD e.2 t_.1 3).bind fun i =>
  (bif i.1 == n then
   (zx i.2 t_.1 3 (-1)).bind fun l =>
   some l.2
  else
   some i.2))).bind fun s =>
 (zx s n 0 (-1)).bind fun t =>
 (y5 k t_.1 0 t.2).bind fun s1 =>
 some s1
def tB (k : Nat) (a_ : zb) (r : Int) (i : Int) : Option (Int × zb) :=
 (vd a_ i).bind fun t_ =>
 ((bif t_.1 == (-1) then
  some (true, t_.2)
 else
  (bif t_.1 == r then
   some (true, t_.2)
  else
   (zD t_.2 t_.1 0).bind fun e =>
   some (e.1 == (-1), e.2)))).bind fun s =>
 (bif s.1 then
  some (r, s.2)
 else
  (ua k s.2 t_.1).bind fun l =>
  (wC k l r t_.1).bind fun j =>
  some (j.1, j.2))
def wF (i : Bool) : Nat -> Int -> Int -> zb -> Option (Int × zb)
 | 0, _, _, _ => none
 | m + 1, n, k_, m_ =>
  ((bif n != (-1) then
   (xq m_).bind fun l =>
   some (decide (k_ <= l))
  else
   some false)).bind fun s1 =>
  (bif s1 then
   (zD m_ n 0).bind fun e =>
   ((bif e.1 == (-1) then
    some (true, e.2)
   else
    (bif !i then
     (w6 m e.2 n e.1).bind fun j =>
     some (!j.1, j.2)
    else
     some (false, e.2)))).bind fun s2 =>
   (bif s2.1 then
    some (n, s2.2)
   else
    (se s2.2 n e.1).bind fun s =>
    wF i m e.1 (w64 (k_ + 1)) s)
  else
   some (n, m_))
def uv (k : Nat) (a_ : zb) (i : Int) (any : Bool) : Option (Int × zb) :=
 (vd a_ i).bind fun t_ =>
 (wF any k t_.1 0 t_.2).bind fun s =>
 some (s.1, s.2)
def vV (k : Nat) (a_ : zb) (r : Int) (i : Int) : Option (Int × zb) :=
 (uv k a_ i false).bind fun t_ =>
 some (r, t_.2)
def s7 (k : Nat) (a_ : zb) (r : Int) (i : Int) : Option (Int × zb) :=
 (uv k a_ i false).bind fun t_ =>
 some (r, t_.2)
def jb (a_ : zb) (r : Int) (i : Int) : Option (Int) :=
 none
def pe (a_ : zb) (r : Int) (i : Int) : Option (Int) :=
 none
def qj (k : Nat) (k_ : Int) (a_ : zb) (r : Int) (i : Int) : Option (Int × zb) :=
 (bif k_ == 1 then
  (tB k a_ r i).bind fun t_ =>
  some (t_.1, t_.2)
 else
  (bif k_ == 2 then
   (vV k a_ r i).bind fun e =>
   some (e.1, e.2)
  else
   (bif k_ == 3 then
    (s7 k a_ r i).bind fun j =>
    some (j.1, j.2)
   else
    (bif k_ == 4 then
     (jb a_ r i).bind fun l =>
     some (l, a_)
    else
     (bif k_ == 5 then
      (pe a_ r i).bind fun s =>
      some (s, a_)
     else
      some (r, a_))))))
def wW (k : Nat) (q : zn) (e : zX) : Option (zH × zn) :=
 (wL q.t_ e.Item).bind fun t_ =>
 (sy zf.eq e.Item (zw.mk 0 0) q.entries).bind fun x =>
 (bif t_.2 != 0 then
  (wO t_.2).bind fun s =>
  some (s, q)
 else
  (bif decide (e.Key > x.1.Key) then
   (wO 26).bind fun t =>
   some (t, q)
  else
   (vv q.t_ e.Item).bind fun j =>
   (yP q.t_ j.1).bind fun i =>
   (uY q.a_ t_.1 e.Key).bind fun u =>
   (qj k i.1 u.2 i.2.1 t_.1).bind fun l =>
   (y1 q.t_ j.1 l.1 i.2.2.1).bind fun y =>
   some (zH.mk 0 (zf.mk 0 0) (zf.mk 0 0) (zw.mk e.Key x.1.Serial) 0, zn.mk q.items l.2 y.2 (mPut zf.eq e.Item (zw.mk e.Key x.1.Serial) q.entries) q.serial)))
def sG (k : Nat) (a_ : zb) (r : Int) (i : Int) : Option (Int × zb) :=
 (vd a_ i).bind fun t_ =>
 (bif t_.1 == (-1) then
  some (r, t_.2)
 else
  ((bif t_.1 == r then
   some (true, t_.2)
  else
   (zD t_.2 t_.1 0).bind fun e =>
   some (e.1 == (-1), e.2))).bind fun s =>
  (bif s.1 then
   (vN k s.2 t_.1).bind fun j =>
   some (j.1, j.2.2)
  else
   (ua k s.2 t_.1).bind fun u =>
   (vN k u t_.1).bind fun l =>
   (wC k l.2.2 r l.1).bind fun t =>
   some (t.1, t.2)))
def xX (e : Int) (x1 : Int) (l : List Int) : Nat -> Int -> Option ((Int) ⊕ (Unit))
 | 0, _ => none
 | m + 1, x =>
  (bif decide (x < x1) then
   (mIdx l x).bind fun x2 =>
   (bif e == x2 then
    some (.inl x)
   else
    xX e x1 l m (w64 (x + 1)))
  else
   some (.inr ()))
def uR (k : Nat) (s : List Int) (v_ : Int) : Option (Int) :=
 (xX v_ (s.length : Int) s k 0).bind fun s1 =>
 match s1 with
 | .inl e => some e
 | .inr s2 =>
  some (-1)
def xV (k : Nat) (s : List Int) (v_ : Int) : Option (Bool) :=
 (uR k s v_).bind fun t_ =>
 some (decide (t_ >= 0))
def uI (k : Nat) (a_ : zb) (r : Int) (i : Int) : Option (Int × zb) :=
 (vd a_ i).bind fun t_ =>
 (bif t_.1 == (-1) then
  some (r, t_.2)
 else
  (uv k t_.2 i true).bind fun j =>
  (xK k j.2 r).bind fun e =>
  (xV k e.1 j.1).bind fun s =>
  (bif !s then
   some (r, e.2)
  else
   (xg k e.2 e.1 j.1).bind fun l =>
   some (l.1, l.2.2)))
def qe (k : Nat) (a_ : zb) (r : Int) (i : Int) : Option (Int × zb) :=
 (vd a_ i).bind fun t_ =>
 (bif t_.1 == (-1) then
  some (r, t_.2)
 else
  (uv k t_.2 i true).bind fun j =>
  (xK k j.2 r).bind fun e =>
  (xV k e.1 j.1).bind fun s =>
  (bif !s then
   some (r, e.2)
  else
   (wD k e.2 e.1 j.1).bind fun l =>
   some (l.1, l.2.2)))
def gK (a_ : zb) (r : Int) (i : Int) : Option (Int) :=
 none
def oy (a_ : zb) (r : Int) (i : Int) : Option (Int) :=
 none
def pJ (k : Nat) (k_ : Int) (a_ : zb) (r : Int) (i : Int) : Option (Int × zb) :=
 (bif k_ == 1 then
  (sG k a_ r i).bind fun t_ =>
  some (t_.1, t_.2)
 else
  (bif k_ == 2 then
   (uI k a_ r i).bind fun e =>
   some (e.1, e.2)
  else
   (bif k_ == 3 then
    (qe k a_ r i).bind fun j =>
    some (j.1, j.2)
   else
    (bif k_ == 4 then
     (gK a_ r i).bind fun l =>
     some (l, a_)
    else
     (bif k_ == 5 then
      (oy a_ r i).bind fun s =>
      some (s, a_)
     else
      some (r, a_))))))
def vC (k : Nat) (q : zn) (i : zf) : Option (zH × zn) :=
 (wL q.t_ i).bind fun t_ =>
 (bif t_.2 != 0 then
  (wO t_.2).bind fun t =>
  some (t, q)
 else
  (vv q.t_ i).bind fun j =>
  (yP q.t_ j.1).bind fun e =>
  (pJ k e.1 q.a_ e.2.1 t_.1).bind fun l =>
  (y1 q.t_ j.1 l.1 (w64 (e.2.2.1 - 1))).bind fun u =>
  (vA (zn.mk q.items l.2 u.2 q.entries q.serial) i).bind fun s =>
  some (zH.mk 0 (zf.mk 0 0) (zf.mk 0 0) s.1 0, s.2))
def yy (x1 : Int) (m_ : ze) : Nat -> (List zf) -> Int -> Option ((List zf))
 | 0, _, _ => none
 | m + 1, out, x =>
  (bif decide (x < x1) then
   ((mIdx m_.l x).bind fun x2 =>
   (bif x2.taken then
    (mApp out ([zf.mk x x2.gen] : List zf)).bind fun l =>
    some l
   else
    some out)).bind fun s1 =>
   yy x1 m_ m s1 (w64 (x + 1))
  else
   some out)
def xz (k : Nat) (p : ze) : Option ((List zf)) :=
 (yy (p.l.length : Int) p k ([] : List zf) 0).bind fun s =>
 some s
def xr (x1 : Int) (m_ : zi) (l : List zf) (v_ : Int) (e : Int) : Nat -> (List zf) -> Int -> Option ((List zf))
 | 0, _, _ => none
 | m + 1, out, x =>
  (bif decide (x < x1) then
   ((mIdx l x).bind fun x2 =>
   (yd m_.items x2).bind fun i =>
   (bif zf.eq i.1.heap (zf.mk v_ e) then
    (mApp out ([x2] : List zf)).bind fun j =>
    some j
   else
    some out)).bind fun s1 =>
   xr x1 m_ l v_ e m s1 (w64 (x + 1))
  else
   some out)
def vF (k : Nat) (t_ : zi) (i : zf) : Option ((List zf)) :=
 (xz k t_.items).bind fun e =>
 (xr (e.length : Int) t_ e i.At i.Gen k ([] : List zf) 0).bind fun s =>
 some s
def xv (p : ze) (r : zf) (v_ : zy) : Option (Int × ze) :=
 (yC p r).bind fun t_ =>
 (vO t_.1
  (((bif t_.2 == 0 then
   none
  else
   some ())).bind fun s =>
  some (t_.2, p))
  (fun i =>
  (mIdx p.l i).bind fun x =>
  ((bif t_.2 == 0 then
   some (ze.mk p.most (mSet p.l i (zp.mk x.gen x.taken v_)) p.free)
  else
   some p)).bind fun s1 =>
  some (t_.2, s1)))
def xB (p : zh) (r : zf) : Option (zA × Int × zh) :=
 (yF p r).bind fun t_ =>
 (vO t_.1
  ((bif t_.2 != 0 then
   some (zA.mk 0 0 0, t_.2, p)
  else
   none))
  (fun i =>
  (mIdx p.l i).bind fun x =>
  (bif t_.2 != 0 then
   some (zA.mk 0 0 0, t_.2, p)
  else
   (mApp p.free ([r.At] : List Int)).bind fun l =>
   some (x.v_, 0, zh.mk p.most (mSet (mSet p.l i (zs.mk x.gen false x.v_)) i (zs.mk x.gen false (zA.mk 0 0 0))) l))))
def xp (x1 : Int) (l : List zf) (v_ : Int) (j : Int) (e : Int) (i : Int) : Nat -> Int -> zi -> Option (zi)
 | 0, _, _ => none
 | m + 1, x, m_ =>
  (bif decide (x < x1) then
   (mIdx l x).bind fun x2 =>
   (yd m_.items x2).bind fun s =>
   (xv m_.items x2 (zy.mk s.1.cell (zf.mk e i))).bind fun t =>
   xp x1 l v_ j e i m (w64 (x + 1)) (zi.mk m_.heaps t.2 m_.at_)
  else
   some m_)
def vH (k : Nat) (t_ : zi) (t : zf) (o : zf) : Option (Int × zi) :=
 (yl t_.heaps t).bind fun e =>
 (bif e.2 != 0 then
  some (e.2, t_)
 else
  (yl t_.heaps o).bind fun i =>
  (bif i.2 != 0 then
   some (i.2, t_)
  else
   (bif zf.eq t o then
    some (25, t_)
   else
    (bif e.1.kind != i.1.kind then
     some (24, t_)
    else
     (vF k t_ o).bind fun j =>
     (xp (j.length : Int) j o.At o.Gen t.At t.Gen k 0 t_).bind fun s =>
     (xB s.heaps o).bind fun l =>
     some (l.2.1, zi.mk l.2.2 s.items s.at_)))))
def tu (k : Nat) (a_ : zb) (r : Int) (s : Int) : Option (Int × zb) :=
 (wC k a_ r s).bind fun t_ =>
 some (t_.1, t_.2)
def ud (k : Nat) (a_ : zb) (r : Int) (s : Int) : Option (Int × zb) :=
 (bif r == s then
  some (r, a_)
 else
  (xK k a_ r).bind fun t_ =>
  (xK k t_.2 s).bind fun e =>
  (mApp t_.1 e.1).bind fun l =>
  (wH k e.2 l).bind fun i =>
  some (i.1, i.2))
def s8 (k : Nat) (a_ : zb) (r : Int) (s : Int) : Option (Int × zb) :=
 (bif r == s then
  some (r, a_)
 else
  (xK k a_ r).bind fun t_ =>
  (xK k t_.2 s).bind fun e =>
  (mApp t_.1 e.1).bind fun l =>
  (wH k e.2 l).bind fun i =>
  some (i.1, i.2))
def jB (a_ : zb) (r : Int) (s : Int) : Option (Int) :=
 none
def pg (a_ : zb) (r : Int) (s : Int) : Option (Int) :=
 none
def qq (k : Nat) (k_ : Int) (a_ : zb) (r : Int) (s : Int) : Option (Int × zb) :=
 (bif k_ == 1 then
  (tu k a_ r s).bind fun t_ =>
  some (t_.1, t_.2)
 else
  (bif k_ == 2 then
   (ud k a_ r s).bind fun e =>
   some (e.1, e.2)
  else
   (bif k_ == 3 then
    (s8 k a_ r s).bind fun i =>
    some (i.1, i.2)
   else
    (bif k_ == 4 then
     (jB a_ r s).bind fun j =>
     some (j, a_)
    else
     (bif k_ == 5 then
      (pg a_ r s).bind fun l =>
      some (l, a_)
     else
      some (r, a_))))))
def uC (k : Nat) (q : zn) (l : zf) (o : zf) : Option (zH × zn) :=
 (yP q.t_ l).bind fun t_ =>
 (yP q.t_ o).bind fun i =>
 (vH k q.t_ l o).bind fun e =>
 (bif e.1 != 0 then
  (wO e.1).bind fun s =>
  some (s, zn.mk q.items q.a_ e.2 q.entries q.serial)
 else
  (qq k t_.1 q.a_ t_.2.1 i.2.1).bind fun j =>
  (y1 e.2 l j.1 (w64 (t_.2.2.1 + i.2.2.1))).bind fun t =>
  some (zH.mk 0 (zf.mk 0 0) (zf.mk 0 0) (zw.mk 0 0) (w64 (t_.2.2.1 + i.2.2.1)), zn.mk q.items j.2 t.2 q.entries q.serial))
def sa (q : zn) (e : zf) : Option (zH) :=
 none
def zW (k : Nat) (q : zn) (i : zX) : Option (zH × zn) :=
 (uk q.a_).bind fun t_ =>
 (uw q.a_.m_).bind fun e =>
 (bif i.Op == 1 then
  (vE q.t_ i.Kind).bind fun j =>
  some (zH.mk j.2.1 j.1 (zf.mk 0 0) (zw.mk 0 0) 0, zn.mk q.items (zb.mk q.a_.l q.a_.never q.a_.free e) j.2.2 q.entries q.serial)
 else
  (bif i.Op == 2 then
   (vG k (zn.mk q.items (zb.mk q.a_.l q.a_.never q.a_.free e) q.t_ q.entries q.serial) i).bind fun s =>
   some (s.1, s.2)
  else
   (bif i.Op == 3 then
    (wG k (zn.mk q.items (zb.mk q.a_.l q.a_.never q.a_.free e) q.t_ q.entries q.serial) i.Heap false).bind fun t =>
    some (t.1, t.2)
   else
    (bif i.Op == 4 then
     (wG k (zn.mk q.items (zb.mk q.a_.l q.a_.never q.a_.free e) q.t_ q.entries q.serial) i.Heap true).bind fun u =>
     some (u.1, u.2)
    else
     (bif i.Op == 5 then
      (wW k (zn.mk q.items (zb.mk q.a_.l q.a_.never q.a_.free e) q.t_ q.entries q.serial) i).bind fun x =>
      some (x.1, x.2)
     else
      (bif i.Op == 6 then
       (vC k (zn.mk q.items (zb.mk q.a_.l q.a_.never q.a_.free e) q.t_ q.entries q.serial) i.Item).bind fun y =>
       some (y.1, y.2)
      else
       (bif i.Op == 7 then
        (uC k (zn.mk q.items (zb.mk q.a_.l q.a_.never q.a_.free e) q.t_ q.entries q.serial) i.Heap i.Other).bind fun z =>
        some (z.1, z.2)
       else
        (bif i.Op == 8 then
         (yP q.t_ i.Heap).bind fun A =>
         some (zH.mk A.2.2.2 (zf.mk 0 0) (zf.mk 0 0) (zw.mk 0 0) A.2.2.1, zn.mk q.items (zb.mk q.a_.l q.a_.never q.a_.free e) q.t_ q.entries q.serial)
        else
         (bif i.Op == 9 then
          (sa (zn.mk q.items (zb.mk q.a_.l q.a_.never q.a_.free e) q.t_ q.entries q.serial) i.Heap).bind fun B =>
          some (B, zn.mk q.items (zb.mk q.a_.l q.a_.never q.a_.free e) q.t_ q.entries q.serial)
         else
          (wO 12).bind fun D =>
          some (D, zn.mk q.items (zb.mk q.a_.l q.a_.never q.a_.free e) q.t_ q.entries q.serial))))))))))
def tE (k : Nat) (k_ : Int) (most : Int) : Option ((Option za) × Int) :=
 (um k_).bind fun t_ =>
 (bif !t_ then
  some ((none : Option za), 24)
 else
  (tC k k_ most).bind fun i =>
  (bif !i.2 then
   some ((none : Option za), 1)
  else
   (js most).bind fun l =>
   (vO l.1
    ((r6 most).bind fun u =>
    (qF).bind fun x =>
    (xS (zX.mk 1 k_ (zf.mk 0 0) (zf.mk 0 0) (zf.mk 0 0) 0)).bind fun y =>
    (xS (zX.mk 1 k_ (zf.mk 0 0) (zf.mk 0 0) (zf.mk 0 0) 0)).bind fun z =>
    none)
    (fun m_ =>
    (r6 most).bind fun s =>
    (qF).bind fun t =>
    (zW k m_ (zX.mk 1 k_ (zf.mk 0 0) (zf.mk 0 0) (zf.mk 0 0) 0)).bind fun j =>
    (zW k j.2 (zX.mk 1 k_ (zf.mk 0 0) (zf.mk 0 0) (zf.mk 0 0) 0)).bind fun e =>
    some (some (za.mk k_ most e.2 j.1.Heap e.1.Heap s ([] : List (zf × Int)) t i.1 0 0), 0)))))
def th (places : Int) : Option (zj) :=
 some (zj.mk (if 0 > (if 65536 < places then 65536 else places) then 0 else (if 65536 < places then 65536 else places)) ([] : List Int) ([] : List Bool) ([] : List Int) ([] : List Int))
def vD (e : Int) : Option (zc) :=
 (th e).bind fun t_ =>
 some (zc.mk e 0 0 t_ ([] : List zB))
def sd (m_ : zC) : Option (Int) :=
 some m_.steps
def ta (q : zn) : Option (Int) :=
 (uk q.a_).bind fun t_ =>
 (sd q.a_.m_).bind fun e =>
 some e
def yE (e : Int) : Option (zo) :=
 some (zo.mk e (zf.mk 0 0) 0 0 0)
def xn (p : zg) : Option (Int) :=
 some (w64 ((p.l.length : Int) - (p.free.length : Int)))
def wP (t_ : zm) : Option (Int) :=
 (xn t_.p).bind fun e =>
 some e
def wq (p : zg) : Option (Int) :=
 some p.most
def ye (p : zg) (v_ : zz) : Option (zf × Bool × zg) :=
 ((bif decide (w64 ((p.free.length : Int) - 1) >= 0) then
  (mIdx p.free (w64 ((p.free.length : Int) - 1))).bind fun x =>
  (mCut p.free 0 (w64 ((p.free.length : Int) - 1))).bind fun l =>
  some (.inr (x, zg.mk p.most p.l l))
 else
  (bif decide ((p.l.length : Int) >= p.most) then
   some (.inl (zf.mk 0 0, false, p))
  else
   (mApp p.l ([zq.mk 0 false (zz.mk 0 0 0 (zf.mk 0 0))] : List zq)).bind fun e =>
   some (.inr ((p.l.length : Int), zg.mk p.most e p.free)))) : Option ((zf × Bool × zg) ⊕ (Int × zg))).bind fun s =>
 match s with
 | .inl i => some i
 | .inr s1 =>
  (mIdx s1.2.l s1.1).bind fun x1 =>
  some (zf.mk s1.1 (w64 (x1.gen + 1)), true, zg.mk s1.2.most (mSet (mSet (mSet s1.2.l s1.1 (zq.mk (w64 (x1.gen + 1)) x1.taken x1.v_)) s1.1 (zq.mk (w64 (x1.gen + 1)) true x1.v_)) s1.1 (zq.mk (w64 (x1.gen + 1)) true v_)) s1.2.free)
def tI (t_ : zm) (j : zz) : Option (zf × Int × zm) :=
 (sy zf.eq j.Item (zf.mk 0 0) t_.by_).bind fun x =>
 (xn t_.p).bind fun i =>
 (wq t_.p).bind fun l =>
 (bif i == l then
  some (zf.mk 0 0, 13, t_)
 else
  (bif x.2 then
   some (zf.mk 0 0, 1, t_)
  else
   (ye t_.p j).bind fun e =>
   some (e.1, 0, zm.mk ((zm.mk e.2.2 t_.by_).p) (mPut zf.eq j.Item e.1 ((zm.mk e.2.2 t_.by_).by_)))))
def uT (j : zz) : Option (zo) :=
 some (zo.mk 0 (zf.mk 0 0) j.Time j.Data 0)
def xb (k : Nat) (d : za) (l : zt) : Option (zo × za) :=
 (wP d.t_).bind fun t_ =>
 (bif decide (t_ >= d.most) then
  (yE 13).bind fun s =>
  some (s, d)
 else
  (mIdx ([d.heaps0, d.heaps1] : List zf) l.Queue).bind fun x =>
  (zW k d.q (zX.mk 2 0 x (zf.mk 0 0) (zf.mk 0 0) l.Time)).bind fun e =>
  (tI ((za.mk d.kind d.most e.2 d.heaps0 d.heaps1 d.t_ d.when d.clock d.budget d.last d.top).t_) (zz.mk l.Queue l.Time l.Data e.1.Item)).bind fun i =>
  (uT (zz.mk l.Queue l.Time l.Data e.1.Item)).bind fun j =>
  some (zo.mk j.Why i.1 j.Time j.Data j.N, za.mk ((za.mk ((za.mk d.kind d.most e.2 d.heaps0 d.heaps1 d.t_ d.when d.clock d.budget d.last d.top).kind) ((za.mk d.kind d.most e.2 d.heaps0 d.heaps1 d.t_ d.when d.clock d.budget d.last d.top).most) ((za.mk d.kind d.most e.2 d.heaps0 d.heaps1 d.t_ d.when d.clock d.budget d.last d.top).q) ((za.mk d.kind d.most e.2 d.heaps0 d.heaps1 d.t_ d.when d.clock d.budget d.last d.top).heaps0) ((za.mk d.kind d.most e.2 d.heaps0 d.heaps1 d.t_ d.when d.clock d.budget d.last d.top).heaps1) i.2.2 ((za.mk d.kind d.most e.2 d.heaps0 d.heaps1 d.t_ d.when d.clock d.budget d.last d.top).when) ((za.mk d.kind d.most e.2 d.heaps0 d.heaps1 d.t_ d.when d.clock d.budget d.last d.top).clock) ((za.mk d.kind d.most e.2 d.heaps0 d.heaps1 d.t_ d.when d.clock d.budget d.last d.top).budget) ((za.mk d.kind d.most e.2 d.heaps0 d.heaps1 d.t_ d.when d.clock d.budget d.last d.top).last) ((za.mk d.kind d.most e.2 d.heaps0 d.heaps1 d.t_ d.when d.clock d.budget d.last d.top).top)).kind) ((za.mk ((za.mk d.kind d.most e.2 d.heaps0 d.heaps1 d.t_ d.when d.clock d.budget d.last d.top).kind) ((za.mk d.kind d.most e.2 d.heaps0 d.heaps1 d.t_ d.when d.clock d.budget d.last d.top).most) ((za.mk d.kind d.most e.2 d.heaps0 d.heaps1 d.t_ d.when d.clock d.budget d.last d.top).q) ((za.mk d.kind d.most e.2 d.heaps0 d.heaps1 d.t_ d.when d.clock d.budget d.last d.top).heaps0) ((za.mk d.kind d.most e.2 d.heaps0 d.heaps1 d.t_ d.when d.clock d.budget d.last d.top).heaps1) i.2.2 ((za.mk d.kind d.most e.2 d.heaps0 d.heaps1 d.t_ d.when d.clock d.budget d.last d.top).when) ((za.mk d.kind d.most e.2 d.heaps0 d.heaps1 d.t_ d.when d.clock d.budget d.last d.top).clock) ((za.mk d.kind d.most e.2 d.heaps0 d.heaps1 d.t_ d.when d.clock d.budget d.last d.top).budget) ((za.mk d.kind d.most e.2 d.heaps0 d.heaps1 d.t_ d.when d.clock d.budget d.last d.top).last) ((za.mk d.kind d.most e.2 d.heaps0 d.heaps1 d.t_ d.when d.clock d.budget d.last d.top).top)).most) ((za.mk ((za.mk d.kind d.most e.2 d.heaps0 d.heaps1 d.t_ d.when d.clock d.budget d.last d.top).kind) ((za.mk d.kind d.most e.2 d.heaps0 d.heaps1 d.t_ d.when d.clock d.budget d.last d.top).most) ((za.mk d.kind d.most e.2 d.heaps0 d.heaps1 d.t_ d.when d.clock d.budget d.last d.top).q) ((za.mk d.kind d.most e.2 d.heaps0 d.heaps1 d.t_ d.when d.clock d.budget d.last d.top).heaps0) ((za.mk d.kind d.most e.2 d.heaps0 d.heaps1 d.t_ d.when d.clock d.budget d.last d.top).heaps1) i.2.2 ((za.mk d.kind d.most e.2 d.heaps0 d.heaps1 d.t_ d.when d.clock d.budget d.last d.top).when) ((za.mk d.kind d.most e.2 d.heaps0 d.heaps1 d.t_ d.when d.clock d.budget d.last d.top).clock) ((za.mk d.kind d.most e.2 d.heaps0 d.heaps1 d.t_ d.when d.clock d.budget d.last d.top).budget) ((za.mk d.kind d.most e.2 d.heaps0 d.heaps1 d.t_ d.when d.clock d.budget d.last d.top).last) ((za.mk d.kind d.most e.2 d.heaps0 d.heaps1 d.t_ d.when d.clock d.budget d.last d.top).top)).q) ((za.mk ((za.mk d.kind d.most e.2 d.heaps0 d.heaps1 d.t_ d.when d.clock d.budget d.last d.top).kind) ((za.mk d.kind d.most e.2 d.heaps0 d.heaps1 d.t_ d.when d.clock d.budget d.last d.top).most) ((za.mk d.kind d.most e.2 d.heaps0 d.heaps1 d.t_ d.when d.clock d.budget d.last d.top).q) ((za.mk d.kind d.most e.2 d.heaps0 d.heaps1 d.t_ d.when d.clock d.budget d.last d.top).heaps0) ((za.mk d.kind d.most e.2 d.heaps0 d.heaps1 d.t_ d.when d.clock d.budget d.last d.top).heaps1) i.2.2 ((za.mk d.kind d.most e.2 d.heaps0 d.heaps1 d.t_ d.when d.clock d.budget d.last d.top).when) ((za.mk d.kind d.most e.2 d.heaps0 d.heaps1 d.t_ d.when d.clock d.budget d.last d.top).clock) ((za.mk d.kind d.most e.2 d.heaps0 d.heaps1 d.t_ d.when d.clock d.budget d.last d.top).budget) ((za.mk d.kind d.most e.2 d.heaps0 d.heaps1 d.t_ d.when d.clock d.budget d.last d.top).last) ((za.mk d.kind d.most e.2 d.heaps0 d.heaps1 d.t_ d.when d.clock d.budget d.last d.top).top)).heaps0) ((za.mk ((za.mk d.kind d.most e.2 d.heaps0 d.heaps1 d.t_ d.when d.clock d.budget d.last d.top).kind) ((za.mk d.kind d.most e.2 d.heaps0 d.heaps1 d.t_ d.when d.clock d.budget d.last d.top).most) ((za.mk d.kind d.most e.2 d.heaps0 d.heaps1 d.t_ d.when d.clock d.budget d.last d.top).q) ((za.mk d.kind d.most e.2 d.heaps0 d.heaps1 d.t_ d.when d.clock d.budget d.last d.top).heaps0) ((za.mk d.kind d.most e.2 d.heaps0 d.heaps1 d.t_ d.when d.clock d.budget d.last d.top).heaps1) i.2.2 ((za.mk d.kind d.most e.2 d.heaps0 d.heaps1 d.t_ d.when d.clock d.budget d.last d.top).when) ((za.mk d.kind d.most e.2 d.heaps0 d.heaps1 d.t_ d.when d.clock d.budget d.last d.top).clock) ((za.mk d.kind d.most e.2 d.heaps0 d.heaps1 d.t_ d.when d.clock d.budget d.last d.top).budget) ((za.mk d.kind d.most e.2 d.heaps0 d.heaps1 d.t_ d.when d.clock d.budget d.last d.top).last) ((za.mk d.kind d.most e.2 d.heaps0 d.heaps1 d.t_ d.when d.clock d.budget d.last d.top).top)).heaps1) ((za.mk ((za.mk d.kind d.most e.2 d.heaps0 d.heaps1 d.t_ d.when d.clock d.budget d.last d.top).kind) ((za.mk d.kind d.most e.2 d.heaps0 d.heaps1 d.t_ d.when d.clock d.budget d.last d.top).most) ((za.mk d.kind d.most e.2 d.heaps0 d.heaps1 d.t_ d.when d.clock d.budget d.last d.top).q) ((za.mk d.kind d.most e.2 d.heaps0 d.heaps1 d.t_ d.when d.clock d.budget d.last d.top).heaps0) ((za.mk d.kind d.most e.2 d.heaps0 d.heaps1 d.t_ d.when d.clock d.budget d.last d.top).heaps1) i.2.2 ((za.mk d.kind d.most e.2 d.heaps0 d.heaps1 d.t_ d.when d.clock d.budget d.last d.top).when) ((za.mk d.kind d.most e.2 d.heaps0 d.heaps1 d.t_ d.when d.clock d.budget d.last d.top).clock) ((za.mk d.kind d.most e.2 d.heaps0 d.heaps1 d.t_ d.when d.clock d.budget d.last d.top).budget) ((za.mk d.kind d.most e.2 d.heaps0 d.heaps1 d.t_ d.when d.clock d.budget d.last d.top).last) ((za.mk d.kind d.most e.2 d.heaps0 d.heaps1 d.t_ d.when d.clock d.budget d.last d.top).top)).t_) (mPut zf.eq i.1 e.1.Entry.Serial ((za.mk ((za.mk d.kind d.most e.2 d.heaps0 d.heaps1 d.t_ d.when d.clock d.budget d.last d.top).kind) ((za.mk d.kind d.most e.2 d.heaps0 d.heaps1 d.t_ d.when d.clock d.budget d.last d.top).most) ((za.mk d.kind d.most e.2 d.heaps0 d.heaps1 d.t_ d.when d.clock d.budget d.last d.top).q) ((za.mk d.kind d.most e.2 d.heaps0 d.heaps1 d.t_ d.when d.clock d.budget d.last d.top).heaps0) ((za.mk d.kind d.most e.2 d.heaps0 d.heaps1 d.t_ d.when d.clock d.budget d.last d.top).heaps1) i.2.2 ((za.mk d.kind d.most e.2 d.heaps0 d.heaps1 d.t_ d.when d.clock d.budget d.last d.top).when) ((za.mk d.kind d.most e.2 d.heaps0 d.heaps1 d.t_ d.when d.clock d.budget d.last d.top).clock) ((za.mk d.kind d.most e.2 d.heaps0 d.heaps1 d.t_ d.when d.clock d.budget d.last d.top).budget) ((za.mk d.kind d.most e.2 d.heaps0 d.heaps1 d.t_ d.when d.clock d.budget d.last d.top).last) ((za.mk d.kind d.most e.2 d.heaps0 d.heaps1 d.t_ d.when d.clock d.budget d.last d.top).top)).when)) ((za.mk ((za.mk d.kind d.most e.2 d.heaps0 d.heaps1 d.t_ d.when d.clock d.budget d.last d.top).kind) ((za.mk d.kind d.most e.2 d.heaps0 d.heaps1 d.t_ d.when d.clock d.budget d.last d.top).most) ((za.mk d.kind d.most e.2 d.heaps0 d.heaps1 d.t_ d.when d.clock d.budget d.last d.top).q) ((za.mk d.kind d.most e.2 d.heaps0 d.heaps1 d.t_ d.when d.clock d.budget d.last d.top).heaps0) ((za.mk d.kind d.most e.2 d.heaps0 d.heaps1 d.t_ d.when d.clock d.budget d.last d.top).heaps1) i.2.2 ((za.mk d.kind d.most e.2 d.heaps0 d.heaps1 d.t_ d.when d.clock d.budget d.last d.top).when) ((za.mk d.kind d.most e.2 d.heaps0 d.heaps1 d.t_ d.when d.clock d.budget d.last d.top).clock) ((za.mk d.kind d.most e.2 d.heaps0 d.heaps1 d.t_ d.when d.clock d.budget d.last d.top).budget) ((za.mk d.kind d.most e.2 d.heaps0 d.heaps1 d.t_ d.when d.clock d.budget d.last d.top).last) ((za.mk d.kind d.most e.2 d.heaps0 d.heaps1 d.t_ d.when d.clock d.budget d.last d.top).top)).clock) ((za.mk ((za.mk d.kind d.most e.2 d.heaps0 d.heaps1 d.t_ d.when d.clock d.budget d.last d.top).kind) ((za.mk d.kind d.most e.2 d.heaps0 d.heaps1 d.t_ d.when d.clock d.budget d.last d.top).most) ((za.mk d.kind d.most e.2 d.heaps0 d.heaps1 d.t_ d.when d.clock d.budget d.last d.top).q) ((za.mk d.kind d.most e.2 d.heaps0 d.heaps1 d.t_ d.when d.clock d.budget d.last d.top).heaps0) ((za.mk d.kind d.most e.2 d.heaps0 d.heaps1 d.t_ d.when d.clock d.budget d.last d.top).heaps1) i.2.2 ((za.mk d.kind d.most e.2 d.heaps0 d.heaps1 d.t_ d.when d.clock d.budget d.last d.top).when) ((za.mk d.kind d.most e.2 d.heaps0 d.heaps1 d.t_ d.when d.clock d.budget d.last d.top).clock) ((za.mk d.kind d.most e.2 d.heaps0 d.heaps1 d.t_ d.when d.clock d.budget d.last d.top).budget) ((za.mk d.kind d.most e.2 d.heaps0 d.heaps1 d.t_ d.when d.clock d.budget d.last d.top).last) ((za.mk d.kind d.most e.2 d.heaps0 d.heaps1 d.t_ d.when d.clock d.budget d.last d.top).top)).budget) ((za.mk ((za.mk d.kind d.most e.2 d.heaps0 d.heaps1 d.t_ d.when d.clock d.budget d.last d.top).kind) ((za.mk d.kind d.most e.2 d.heaps0 d.heaps1 d.t_ d.when d.clock d.budget d.last d.top).most) ((za.mk d.kind d.most e.2 d.heaps0 d.heaps1 d.t_ d.when d.clock d.budget d.last d.top).q) ((za.mk d.kind d.most e.2 d.heaps0 d.heaps1 d.t_ d.when d.clock d.budget d.last d.top).heaps0) ((za.mk d.kind d.most e.2 d.heaps0 d.heaps1 d.t_ d.when d.clock d.budget d.last d.top).heaps1) i.2.2 ((za.mk d.kind d.most e.2 d.heaps0 d.heaps1 d.t_ d.when d.clock d.budget d.last d.top).when) ((za.mk d.kind d.most e.2 d.heaps0 d.heaps1 d.t_ d.when d.clock d.budget d.last d.top).clock) ((za.mk d.kind d.most e.2 d.heaps0 d.heaps1 d.t_ d.when d.clock d.budget d.last d.top).budget) ((za.mk d.kind d.most e.2 d.heaps0 d.heaps1 d.t_ d.when d.clock d.budget d.last d.top).last) ((za.mk d.kind d.most e.2 d.heaps0 d.heaps1 d.t_ d.when d.clock d.budget d.last d.top).top)).last) ((za.mk ((za.mk d.kind d.most e.2 d.heaps0 d.heaps1 d.t_ d.when d.clock d.budget d.last d.top).kind) ((za.mk d.kind d.most e.2 d.heaps0 d.heaps1 d.t_ d.when d.clock d.budget d.last d.top).most) ((za.mk d.kind d.most e.2 d.heaps0 d.heaps1 d.t_ d.when d.clock d.budget d.last d.top).q) ((za.mk d.kind d.most e.2 d.heaps0 d.heaps1 d.t_ d.when d.clock d.budget d.last d.top).heaps0) ((za.mk d.kind d.most e.2 d.heaps0 d.heaps1 d.t_ d.when d.clock d.budget d.last d.top).heaps1) i.2.2 ((za.mk d.kind d.most e.2 d.heaps0 d.heaps1 d.t_ d.when d.clock d.budget d.last d.top).when) ((za.mk d.kind d.most e.2 d.heaps0 d.heaps1 d.t_ d.when d.clock d.budget d.last d.top).clock) ((za.mk d.kind d.most e.2 d.heaps0 d.heaps1 d.t_ d.when d.clock d.budget d.last d.top).budget) ((za.mk d.kind d.most e.2 d.heaps0 d.heaps1 d.t_ d.when d.clock d.budget d.last d.top).last) ((za.mk d.kind d.most e.2 d.heaps0 d.heaps1 d.t_ d.when d.clock d.budget d.last d.top).top)).top)))
def zL (p : zg) (r : zf) : Option ((Option Int) × Int) :=
 ((bif decide (r.At < 0) then
  some true
 else
  (bif decide (r.At >= (p.l.length : Int)) then
   some true
  else
   (bif decide (r.Gen < 1) then
    some true
   else
    (mIdx p.l r.At).bind fun x1 =>
    some (decide (r.Gen > x1.gen)))))).bind fun s =>
 (bif s then
  some ((none : Option Int), 22)
 else
  (mIdx p.l r.At).bind fun x2 =>
  (bif (decide (r.Gen < x2.gen)) || (!x2.taken) then
   some ((none : Option Int), 23)
  else
   some ((some r.At : Option Int), 0)))
def yf (p : zg) (r : zf) : Option (zz × Int) :=
 (zL p r).bind fun t_ =>
 (vO t_.1
  ((bif t_.2 != 0 then
   some (zz.mk 0 0 0 (zf.mk 0 0), t_.2)
  else
   none))
  (fun i =>
  (mIdx p.l i).bind fun x =>
  (bif t_.2 != 0 then
   some (zz.mk 0 0 0 (zf.mk 0 0), t_.2)
  else
   some (x.v_, 0))))
def vu (t_ : zm) (r : zf) : Option (zz × Int) :=
 (yf t_.p r).bind fun e =>
 some (e.1, e.2)
def yZ (p : zg) (r : zf) (v_ : zz) : Option (Int × zg) :=
 (zL p r).bind fun t_ =>
 (vO t_.1
  (((bif t_.2 == 0 then
   none
  else
   some ())).bind fun s =>
  some (t_.2, p))
  (fun i =>
  (mIdx p.l i).bind fun x =>
  ((bif t_.2 == 0 then
   some (zg.mk p.most (mSet p.l i (zq.mk x.gen x.taken v_)) p.free)
  else
   some p)).bind fun s1 =>
  some (t_.2, s1)))
def uB (t_ : zm) (r : zf) (j : zz) : Option (Int × zm) :=
 (yf t_.p r).bind fun e =>
 (bif e.2 != 0 then
  some (e.2, t_)
 else
  (sy zf.eq j.Item (zf.mk 0 0) t_.by_).bind fun x =>
  ((bif x.2 then
   some (!(zf.eq x.1 r))
  else
   some false)).bind fun s =>
  (bif s then
   some (1, t_)
  else
   (yZ t_.p r j).bind fun i =>
   some (i.1, zm.mk i.2 (mPut zf.eq j.Item r (mDel zf.eq e.1.Item t_.by_)))))
def xk (k : Nat) (d : za) (e : zt) : Option (zo × za) :=
 (vu d.t_ e.Job).bind fun t_ =>
 (bif t_.2 != 0 then
  (yE t_.2).bind fun i =>
  some (i, d)
 else
  (bif decide (e.Time > t_.1.Time) then
   (yE 26).bind fun j =>
   some (j, d)
  else
   (zW k d.q (zX.mk 5 0 (zf.mk 0 0) (zf.mk 0 0) t_.1.Item e.Time)).bind fun l =>
   (uB d.t_ e.Job (zz.mk t_.1.Queue e.Time t_.1.Data t_.1.Item)).bind fun s =>
   (uT (zz.mk t_.1.Queue e.Time t_.1.Data t_.1.Item)).bind fun t =>
   some (t, za.mk d.kind d.most l.2 d.heaps0 d.heaps1 s.2 d.when d.clock d.budget d.last d.top)))
def zO (p : zg) (r : zf) : Option (zz × Int × zg) :=
 (zL p r).bind fun t_ =>
 (vO t_.1
  ((bif t_.2 != 0 then
   some (zz.mk 0 0 0 (zf.mk 0 0), t_.2, p)
  else
   none))
  (fun i =>
  (mIdx p.l i).bind fun x =>
  (bif t_.2 != 0 then
   some (zz.mk 0 0 0 (zf.mk 0 0), t_.2, p)
  else
   (mApp p.free ([r.At] : List Int)).bind fun l =>
   some (x.v_, 0, zg.mk p.most (mSet (mSet p.l i (zq.mk x.gen false x.v_)) i (zq.mk x.gen false (zz.mk 0 0 0 (zf.mk 0 0)))) l))))
def ub (t_ : zm) (r : zf) : Option (zz × Int × zm) :=
 (zO t_.p r).bind fun e =>
 ((bif e.2.1 == 0 then
  some (zm.mk ((zm.mk e.2.2 t_.by_).p) (mDel zf.eq e.1.Item ((zm.mk e.2.2 t_.by_).by_)))
 else
  some (zm.mk e.2.2 t_.by_))).bind fun s =>
 some (e.1, e.2.1, s)
def yL (d : za) (r : zf) : Option (zo × za) :=
 (ub d.t_ r).bind fun t_ =>
 (bif t_.2.1 != 0 then
  (yE t_.2.1).bind fun e =>
  some (e, za.mk d.kind d.most d.q d.heaps0 d.heaps1 t_.2.2 d.when d.clock d.budget d.last d.top)
 else
  (uT t_.1).bind fun i =>
  some (i, za.mk ((za.mk d.kind d.most d.q d.heaps0 d.heaps1 t_.2.2 d.when d.clock d.budget d.last d.top).kind) ((za.mk d.kind d.most d.q d.heaps0 d.heaps1 t_.2.2 d.when d.clock d.budget d.last d.top).most) ((za.mk d.kind d.most d.q d.heaps0 d.heaps1 t_.2.2 d.when d.clock d.budget d.last d.top).q) ((za.mk d.kind d.most d.q d.heaps0 d.heaps1 t_.2.2 d.when d.clock d.budget d.last d.top).heaps0) ((za.mk d.kind d.most d.q d.heaps0 d.heaps1 t_.2.2 d.when d.clock d.budget d.last d.top).heaps1) ((za.mk d.kind d.most d.q d.heaps0 d.heaps1 t_.2.2 d.when d.clock d.budget d.last d.top).t_) (mDel zf.eq r ((za.mk d.kind d.most d.q d.heaps0 d.heaps1 t_.2.2 d.when d.clock d.budget d.last d.top).when)) ((za.mk d.kind d.most d.q d.heaps0 d.heaps1 t_.2.2 d.when d.clock d.budget d.last d.top).clock) ((za.mk d.kind d.most d.q d.heaps0 d.heaps1 t_.2.2 d.when d.clock d.budget d.last d.top).budget) ((za.mk d.kind d.most d.q d.heaps0 d.heaps1 t_.2.2 d.when d.clock d.budget d.last d.top).last) ((za.mk d.kind d.most d.q d.heaps0 d.heaps1 t_.2.2 d.when d.clock d.budget d.last d.top).top)))
def xh (k : Nat) (d : za) (r : zf) : Option (zo × za) :=
 (vu d.t_ r).bind fun t_ =>
 ((bif t_.2 == 0 then
  (zW k d.q (zX.mk 6 0 (zf.mk 0 0) (zf.mk 0 0) t_.1.Item 0)).bind fun i =>
  some (za.mk d.kind d.most i.2 d.heaps0 d.heaps1 d.t_ d.when d.clock d.budget d.last d.top)
 else
  some d)).bind fun s =>
 (yL s r).bind fun e =>
 some (e.1, e.2)
def tJ (e : zJ) (by_ : Int) : Option (Int × zJ) :=
 (bif decide (by_ < 0) then
  some (1, e)
 else
  (w5 e.now by_).bind fun t_ =>
  some (0, zJ.mk t_))
def vW (e : zJ) : Option (Int) :=
 some e.now
def u3 (e : zJ) (at_ : Int) : Option (Bool) :=
 some (decide (at_ <= e.now))
def su (t_ : zm) (item : zf) : Option (zf × Bool) :=
 (sy zf.eq item (zf.mk 0 0) t_.by_).bind fun x =>
 some (x.1, x.2)
def xI (k : Nat) (d : za) (queue : Int) : Option (zo × za) :=
 (mIdx ([d.heaps0, d.heaps1] : List zf) queue).bind fun x =>
 (zW k d.q (zX.mk 3 0 x (zf.mk 0 0) (zf.mk 0 0) 0)).bind fun t_ =>
 ((bif t_.1.Why != 0 then
  some (true, za.mk d.kind d.most t_.2 d.heaps0 d.heaps1 d.t_ d.when d.clock d.budget d.last d.top)
 else
  (u3 ((za.mk d.kind d.most t_.2 d.heaps0 d.heaps1 d.t_ d.when d.clock d.budget d.last d.top).clock) t_.1.Entry.Key).bind fun l =>
  some (!l, za.mk ((za.mk d.kind d.most t_.2 d.heaps0 d.heaps1 d.t_ d.when d.clock d.budget d.last d.top).kind) ((za.mk d.kind d.most t_.2 d.heaps0 d.heaps1 d.t_ d.when d.clock d.budget d.last d.top).most) ((za.mk d.kind d.most t_.2 d.heaps0 d.heaps1 d.t_ d.when d.clock d.budget d.last d.top).q) ((za.mk d.kind d.most t_.2 d.heaps0 d.heaps1 d.t_ d.when d.clock d.budget d.last d.top).heaps0) ((za.mk d.kind d.most t_.2 d.heaps0 d.heaps1 d.t_ d.when d.clock d.budget d.last d.top).heaps1) ((za.mk d.kind d.most t_.2 d.heaps0 d.heaps1 d.t_ d.when d.clock d.budget d.last d.top).t_) ((za.mk d.kind d.most t_.2 d.heaps0 d.heaps1 d.t_ d.when d.clock d.budget d.last d.top).when) ((za.mk d.kind d.most t_.2 d.heaps0 d.heaps1 d.t_ d.when d.clock d.budget d.last d.top).clock) ((za.mk d.kind d.most t_.2 d.heaps0 d.heaps1 d.t_ d.when d.clock d.budget d.last d.top).budget) ((za.mk d.kind d.most t_.2 d.heaps0 d.heaps1 d.t_ d.when d.clock d.budget d.last d.top).last) ((za.mk d.kind d.most t_.2 d.heaps0 d.heaps1 d.t_ d.when d.clock d.budget d.last d.top).top)))).bind fun s =>
 (bif s.1 then
  (yE 28).bind fun t =>
  some (t, s.2)
 else
  (zW k s.2.q (zX.mk 4 0 x (zf.mk 0 0) (zf.mk 0 0) 0)).bind fun i =>
  (su s.2.t_ i.1.Item).bind fun j =>
  (yL (za.mk s.2.kind s.2.most i.2 s.2.heaps0 s.2.heaps1 s.2.t_ s.2.when s.2.clock s.2.budget s.2.last s.2.top) j.1).bind fun e =>
  some (zo.mk e.1.Why j.1 e.1.Time e.1.Data e.1.N, e.2))
def yG (x1 : Int) (m_ : zg) : Nat -> (List zf) -> Int -> Option ((List zf))
 | 0, _, _ => none
 | m + 1, out, x =>
  (bif decide (x < x1) then
   ((mIdx m_.l x).bind fun x2 =>
   (bif x2.taken then
    (mApp out ([zf.mk x x2.gen] : List zf)).bind fun l =>
    some l
   else
    some out)).bind fun s1 =>
   yG x1 m_ m s1 (w64 (x + 1))
  else
   some out)
def xl (k : Nat) (p : zg) : Option ((List zf)) :=
 (yG (p.l.length : Int) p k ([] : List zf) 0).bind fun s =>
 some s
def xH (e : Int) (j : Int) (x1 : Int) (l : List zf) : Nat -> Int -> Int -> zm -> Option (Int × zm)
 | 0, _, _, _ => none
 | m + 1, n, x, m_ =>
  (bif decide (x < x1) then
   ((mIdx l x).bind fun x2 =>
   (yf m_.p x2).bind fun i =>
   (bif i.1.Queue == e then
    (yZ m_.p x2 (zz.mk j i.1.Time i.1.Data i.1.Item)).bind fun s =>
    some (w64 (n + 1), zm.mk s.2 m_.by_)
   else
    some (n, m_))).bind fun s1 =>
   xH e j x1 l m s1.1 (w64 (x + 1)) s1.2
  else
   some (n, m_))
def u4 (k : Nat) (t_ : zm) (from_ : Int) (to : Int) : Option (Int × zm) :=
 (xl k t_.p).bind fun e =>
 (xH from_ to (e.length : Int) e k 0 0 t_).bind fun s =>
 some (s.1, s.2)
def xw (k : Nat) (d : za) : Option (zo × za) :=
 (zW k d.q (zX.mk 7 0 d.heaps0 d.heaps1 (zf.mk 0 0) 0)).bind fun t_ =>
 (zW k t_.2 (zX.mk 1 d.kind (zf.mk 0 0) (zf.mk 0 0) (zf.mk 0 0) 0)).bind fun e =>
 (u4 k d.t_ 1 0).bind fun i =>
 some (zo.mk 0 (zf.mk 0 0) 0 0 i.1, za.mk d.kind d.most e.2 d.heaps0 e.1.Heap i.2 d.when d.clock d.budget d.last d.top)
def xo (e : Int) (x1 : Int) (m_ : zm) (l : List zf) : Nat -> Int -> Int -> Option (Int)
 | 0, _, _ => none
 | m + 1, n, x =>
  (bif decide (x < x1) then
   ((mIdx l x).bind fun x2 =>
   (yf m_.p x2).bind fun i =>
   (bif i.1.Queue == e then
    some (w64 (n + 1))
   else
    some n)).bind fun s1 =>
   xo e x1 m_ l m s1 (w64 (x + 1))
  else
   some n)
def vJ (k : Nat) (t_ : zm) (queue : Int) : Option (Int) :=
 (xl k t_.p).bind fun e =>
 (xo queue (e.length : Int) t_ e k 0 0).bind fun s =>
 some s
def xM (k : Nat) (d : za) (e : zt) : Option (zo × za) :=
 (((bif e.Kind == 1 then
  some (e.Kind == 1)
 else
  (bif e.Kind == 5 then
   some (e.Kind == 5)
  else
   (bif e.Kind == 6 then
    some (e.Kind == 6)
   else
    some (e.Kind == 7))))).bind fun s2 =>
 (bif s2 then
  (bif !((decide (e.Queue >= 0)) && (decide (e.Queue < 2))) then
   (yE 1).bind fun t_ =>
   some (.inl (t_, d))
  else
   some (.inr ()))
 else
  some (.inr ())) : Option ((zo × za) ⊕ (Unit))).bind fun s =>
 match s with
 | .inl F => some F
 | .inr s1 =>
  (bif e.Kind == 1 then
   (xb k d e).bind fun j =>
   some (j.1, j.2)
  else
   (bif e.Kind == 2 then
    (xk k d e).bind fun l =>
    some (l.1, l.2)
   else
    (bif e.Kind == 3 then
     (xh k d e.Job).bind fun t =>
     some (t.1, t.2)
    else
     (bif e.Kind == 4 then
      (tJ d.clock e.Time).bind fun i =>
      (bif i.1 != 0 then
       (yE i.1).bind fun A =>
       some (A, za.mk d.kind d.most d.q d.heaps0 d.heaps1 d.t_ d.when i.2 d.budget d.last d.top)
      else
       (vW i.2).bind fun B =>
       some (zo.mk 0 (zf.mk 0 0) B 0 0, za.mk d.kind d.most d.q d.heaps0 d.heaps1 d.t_ d.when i.2 d.budget d.last d.top))
     else
      (bif e.Kind == 5 then
       (xI k d e.Queue).bind fun u =>
       some (u.1, u.2)
      else
       (bif e.Kind == 6 then
        (bif e.Queue == 0 then
         (yE 25).bind fun D =>
         some (D, d)
        else
         (xw k d).bind fun x =>
         some (x.1, x.2))
       else
        (bif e.Kind == 7 then
         (vJ k d.t_ e.Queue).bind fun y =>
         some (zo.mk 0 (zf.mk 0 0) 0 0 y, d)
        else
         (yE 12).bind fun z =>
         some (z, d))))))))
def yk (k : Nat) (d : za) (l : zt) : Option (zo × za) :=
 (ta d.q).bind fun t_ =>
 (xM k d l).bind fun e =>
 (ta e.2.q).bind fun i =>
 (bif decide (w64 (i - t_) > e.2.budget) then
  (yE 29).bind fun j =>
  some (j, za.mk e.2.kind e.2.most e.2.q e.2.heaps0 e.2.heaps1 e.2.t_ e.2.when e.2.clock e.2.budget (w64 (i - t_)) (if w64 (i - t_) > e.2.top then w64 (i - t_) else e.2.top))
 else
  some (e.1, za.mk e.2.kind e.2.most e.2.q e.2.heaps0 e.2.heaps1 e.2.t_ e.2.when e.2.clock e.2.budget (w64 (i - t_)) (if w64 (i - t_) > e.2.top then w64 (i - t_) else e.2.top)))
def yM (p : zj) (v_ : Int) : Option (zf × Bool × zj) :=
 ((bif decide ((p.Back.length : Int) > 0) then
  (mIdx p.Back (w64 ((p.Back.length : Int) - 1))).bind fun x =>
  (mCut p.Back 0 (w64 ((p.Back.length : Int) - 1))).bind fun l =>
  some (.inr (x, zj.mk p.Most p.Gens p.In p.V l))
 else
  (bif decide ((p.Gens.length : Int) >= p.Most) then
   some (.inl (zf.mk 0 0, false, p))
  else
   (mApp p.Gens ([0] : List Int)).bind fun e =>
   (mApp p.In ([false] : List Bool)).bind fun l2 =>
   (mApp p.V ([0] : List Int)).bind fun i =>
   some (.inr ((p.Gens.length : Int), zj.mk p.Most e l2 i p.Back)))) : Option ((zf × Bool × zj) ⊕ (Int × zj))).bind fun s =>
 match s with
 | .inl j => some j
 | .inr s1 =>
  (mIdx s1.2.Gens s1.1).bind fun x1 =>
  (mIdx s1.2.Gens s1.1).bind fun x2 =>
  (mIdx s1.2.In s1.1).bind fun x3 =>
  (mIdx s1.2.V s1.1).bind fun x4 =>
  (mIdx (mSet s1.2.Gens s1.1 (w64 (x1 + 1))) s1.1).bind fun x5 =>
  some (zf.mk s1.1 x5, true, zj.mk s1.2.Most (mSet s1.2.Gens s1.1 (w64 (x1 + 1))) (mSet s1.2.In s1.1 true) (mSet s1.2.V s1.1 v_) s1.2.Back)
def vY (a_ : zw) (b : zw) : Option (Bool) :=
 some ((decide (a_.Key < b.Key)) || ((a_.Key == b.Key) && (decide (a_.Serial < b.Serial))))
def ya (e : Int) (m_ : zc) : Nat -> Int -> Int -> Option (Int)
 | 0, _, _ => none
 | m + 1, k_, i =>
  (bif decide (i < (m_.L.length : Int)) then
   (((mIdx m_.L i).bind fun x2 =>
   (bif x2.Queue == e then
    (bif decide (k_ < 0) then
     some true
    else
     (mIdx m_.L i).bind fun x3 =>
     (mIdx m_.L k_).bind fun x4 =>
     (vY x3.E x4.E).bind fun t_ =>
     some t_)
   else
    some false)).bind fun s2 =>
   (bif s2 then
    some i
   else
    some k_)).bind fun s1 =>
   ya e m_ m s1 (w64 (i + 1))
  else
   some k_)
def y4 (k : Nat) (d : zc) (queue : Int) : Option (Int) :=
 (ya queue d k (-1) 0).bind fun s =>
 some s
def xC (p : zj) (r : zf) : Option (Int) :=
 ((bif decide (r.At < 0) then
  some true
 else
  (bif decide (r.At >= (p.Gens.length : Int)) then
   some true
  else
   (bif decide (r.Gen < 1) then
    some true
   else
    (mIdx p.Gens r.At).bind fun x1 =>
    some (decide (r.Gen > x1)))))).bind fun s =>
 (bif s then
  some 22
 else
  ((mIdx p.Gens r.At).bind fun x4 =>
  (bif decide (r.Gen < x4) then
   some true
  else
   (mIdx p.In r.At).bind fun x5 =>
   some (!x5))).bind fun s1 =>
  (bif s1 then
   some 23
  else
   some 0))
def wm (p : zj) (r : zf) : Option (Int × Int × zj) :=
 (xC p r).bind fun t_ =>
 (bif t_ != 0 then
  some (0, t_, p)
 else
  (mIdx p.In r.At).bind fun x =>
  (mApp ([] : List Int) p.Back).bind fun l =>
  (mApp l ([r.At] : List Int)).bind fun e =>
  (mIdx ((zj.mk p.Most p.Gens (mSet p.In r.At false) p.V e).V) r.At).bind fun x1 =>
  some (x1, 0, (zj.mk p.Most p.Gens (mSet p.In r.At false) p.V e)))
def yN (d : zc) (k_ : Int) : Option (zB × zc) :=
 (mIdx d.L k_).bind fun x =>
 (mCut d.L 0 k_).bind fun l =>
 (mCut d.L (w64 (k_ + 1)) (d.L.length : Int)).bind fun e =>
 (mApp ([] : List zB) l).bind fun l2 =>
 (mApp l2 e).bind fun i =>
 (wm d.Pool x.R).bind fun t_ =>
 some (x, zc.mk d.Most d.Now d.Next t_.2.2 i)
def yh (e : Int) (m_ : zc) : Nat -> Int -> Int -> Option (Int)
 | 0, _, _ => none
 | m + 1, n, i =>
  (bif decide (i < (m_.L.length : Int)) then
   ((mIdx m_.L i).bind fun x =>
   (bif x.Queue == e then
    some (w64 (n + 1))
   else
    some n)).bind fun s1 =>
   yh e m_ m s1 (w64 (i + 1))
  else
   some n)
def y2 (k : Nat) (d : zc) (queue : Int) : Option (Int) :=
 (yh queue d k 0 0).bind fun s =>
 some s
def yg : Nat -> Int -> Int -> zc -> Option (Int × zc)
 | 0, _, _, _ => none
 | m + 1, n, i, m_ =>
  (bif decide (i < (m_.L.length : Int)) then
   ((mIdx m_.L i).bind fun x2 =>
   (bif x2.Queue == 1 then
    (mIdx m_.L i).bind fun x3 =>
    some (w64 (n + 1), zc.mk m_.Most m_.Now m_.Next m_.Pool (mSet m_.L i (zB.mk 0 x3.Data x3.E x3.R)))
   else
    some (n, m_))).bind fun s2 =>
   yg m s2.1 (w64 (i + 1)) s2.2
  else
   some (n, m_))
def zQ (k : Nat) (d : zc) (e : zt) : Option (zo × zc) :=
 (bif e.Kind == 1 then
  (yM d.Pool 0).bind fun t_ =>
  (bif !t_.2.1 then
   some (zo.mk 13 (zf.mk 0 0) 0 0 0, zc.mk d.Most d.Now d.Next t_.2.2 d.L)
  else
   (mApp ([] : List zB) d.L).bind fun l =>
   (mApp l ([zB.mk e.Queue e.Data (zw.mk e.Time d.Next) t_.1] : List zB)).bind fun t =>
   some (zo.mk 0 t_.1 e.Time e.Data 0, zc.mk ((zc.mk d.Most d.Now d.Next t_.2.2 t).Most) ((zc.mk d.Most d.Now d.Next t_.2.2 t).Now) (w64 (((zc.mk d.Most d.Now d.Next t_.2.2 t).Next) + 1)) ((zc.mk d.Most d.Now d.Next t_.2.2 t).Pool) ((zc.mk d.Most d.Now d.Next t_.2.2 t).L)))
 else
  (bif e.Kind == 5 then
   (y4 k d e.Queue).bind fun j =>
   ((bif decide (j < 0) then
    some true
   else
    (mIdx d.L j).bind fun x1 =>
    some (decide (x1.E.Key > d.Now)))).bind fun s =>
   (bif s then
    some (zo.mk 28 (zf.mk 0 0) 0 0 0, d)
   else
    (yN d j).bind fun i =>
    some (zo.mk 0 i.1.R i.1.E.Key i.1.Data 0, i.2))
  else
   (bif e.Kind == 6 then
    (bif e.Queue == 0 then
     some (zo.mk 25 (zf.mk 0 0) 0 0 0, d)
    else
     (yg k 0 0 d).bind fun s1 =>
     some (zo.mk 0 (zf.mk 0 0) 0 0 s1.1, s1.2))
   else
    (y2 k d e.Queue).bind fun u =>
    some (zo.mk 0 (zf.mk 0 0) 0 0 u, d))))
def yp (v_ : Int) (e : Int) (m_ : zc) : Nat -> Int -> Option ((Int × zc) ⊕ (Unit))
 | 0, _ => none
 | m + 1, i =>
  (bif decide (i < (m_.L.length : Int)) then
   (mIdx m_.L i).bind fun x =>
   (bif zf.eq x.R (zf.mk v_ e) then
    some (.inl (i, m_))
   else
    yp v_ e m_ m (w64 (i + 1)))
  else
   some (.inr ()))
def xj (k : Nat) (d : zc) (r : zf) : Option (Int × zc) :=
 (yp r.At r.Gen d k 0).bind fun s =>
 match s with
 | .inl e => some e
 | .inr s1 =>
  some ((-1), d)
def v7 (a_ : Int) (b : Int) : Option (Int) :=
 (bif (decide (a_ > 0)) && (decide (b > w64 (9223372036854775807 - a_))) then
  some 9223372036854775807
 else
  (bif (decide (a_ < 0)) && (decide (b < w64 ((-9223372036854775808) - a_))) then
   some (-9223372036854775808)
  else
   some (w64 (a_ + b))))
def zI (k : Nat) (d : zc) (i : zt) : Option (zo × zc) :=
 (((bif i.Kind == 1 then
  some (i.Kind == 1)
 else
  (bif i.Kind == 5 then
   some (i.Kind == 5)
  else
   (bif i.Kind == 6 then
    some (i.Kind == 6)
   else
    some (i.Kind == 7))))).bind fun s2 =>
 (bif s2 then
  (bif (i.Queue != 0) && (i.Queue != 1) then
   some (.inl (zo.mk 1 (zf.mk 0 0) 0 0 0, d))
  else
   (zQ k d i).bind fun t_ =>
   some (.inl (t_.1, t_.2)))
 else
  ((bif i.Kind == 2 then
   some (i.Kind == 2)
  else
   some (i.Kind == 3))).bind fun u =>
  (bif u then
   (xC d.Pool i.Job).bind fun l =>
   (bif l != 0 then
    some (.inl (zo.mk l (zf.mk 0 0) 0 0 0, d))
   else
    (xj k d i.Job).bind fun e =>
    (bif i.Kind == 3 then
     (yN e.2 e.1).bind fun j =>
     some (.inl (zo.mk 0 (zf.mk 0 0) j.1.E.Key j.1.Data 0, j.2))
    else
     (mIdx e.2.L e.1).bind fun x =>
     (bif decide (i.Time > x.E.Key) then
      some (.inl (zo.mk 26 (zf.mk 0 0) 0 0 0, e.2))
     else
      (mIdx e.2.L e.1).bind fun x1 =>
      (mIdx (mSet e.2.L e.1 (zB.mk x1.Queue x1.Data (zw.mk i.Time x1.E.Serial) x1.R)) e.1).bind fun x2 =>
      some (.inl (zo.mk 0 (zf.mk 0 0) i.Time x2.Data 0, zc.mk e.2.Most e.2.Now e.2.Next e.2.Pool (mSet e.2.L e.1 (zB.mk x1.Queue x1.Data (zw.mk i.Time x1.E.Serial) x1.R)))))))
  else
   (bif i.Kind == 4 then
    (bif decide (i.Time < 0) then
     some (.inl (zo.mk 1 (zf.mk 0 0) 0 0 0, d))
    else
     (v7 d.Now i.Time).bind fun t =>
     some (.inl (zo.mk 0 (zf.mk 0 0) t 0 0, zc.mk d.Most t d.Next d.Pool d.L)))
   else
    some (.inr ())))) : Option ((zo × zc) ⊕ (Unit))).bind fun s =>
 match s with
 | .inl y => some y
 | .inr s1 =>
  some (zo.mk 12 (zf.mk 0 0) 0 0 0, d)
def y9 (d : za) : Option (Int) :=
 some d.last
def yT (d : za) : Option (Int) :=
 some d.budget
def yA (d : za) : Option (Int) :=
 some d.top
def xN (d : za) : Option (Int) :=
 (vW d.clock).bind fun t_ =>
 some t_
def yw (d : za) : Option (Int) :=
 (wP d.t_).bind fun t_ =>
 some t_
def yB (x1 : Int) (e : List zt) : Nat -> (List zo) -> Int -> za -> Option ((List zo) × za)
 | 0, _, _, _ => none
 | m + 1, out, x, m_ =>
  (bif decide (x < x1) then
   (mIdx e x).bind fun x2 =>
   (yk m m_ x2).bind fun t_ =>
   (mApp out ([t_.1] : List zo)).bind fun l2 =>
   yB x1 e m l2 (w64 (x + 1)) t_.2
  else
   some (out, m_))
def xf (k : Nat) (d : za) (l : List zt) : Option ((List zo) × za) :=
 (yB (l.length : Int) l k ([] : List zo) 0 d).bind fun s =>
 some (s.1, s.2)
def yY (k : Nat) (k_ : Int) (e : Int) : Option ((Option zd)) :=
 (xe k_ 1 3).bind fun t_ =>
 (xe e 1 40).bind fun i =>
 (tE k t_ i).bind fun j =>
 (vO j.1
  (some (none : Option zd))
  (fun m_ =>
  (bif j.2 != 0 then
   some (none : Option zd)
  else
   (vD i).bind fun l =>
   some (some (zd.mk m_ l t_ ([] : List zf))))))
def yq (l : List zo) (e : List zo) : Nat -> Int -> Option ((Bool) ⊕ (Unit))
 | 0, _ => none
 | m + 1, i =>
  (bif decide (i < (l.length : Int)) then
   (mIdx l i).bind fun x =>
   (mIdx e i).bind fun x1 =>
   (bif !(zo.eq x x1) then
    some (.inl false)
   else
    yq l e m (w64 (i + 1)))
  else
   some (.inr ()))
def yW (k : Nat) (a_ : List zo) (b : List zo) : Option (Bool) :=
 (bif (a_.length : Int) != (b.length : Int) then
  some false
 else
  (yq a_ b k 0).bind fun s =>
  match s with
  | .inl e => some e
  | .inr s1 =>
   some true)
def yr (k : Nat) (i : zd) (j : zt) : Option (Bool × zd) :=
 (yk k i.d j).bind fun t_ =>
 (zI k i.m_ j).bind fun e =>
 ((bif !(zo.eq t_.1 e.1) then
  some (true, zd.mk t_.2 e.2 i.k_ i.told)
 else
  (y9 ((zd.mk t_.2 e.2 i.k_ i.told).d)).bind fun t =>
  (bif decide (t < 0) then
   some (true, (zd.mk t_.2 e.2 i.k_ i.told))
  else
   (y9 ((zd.mk t_.2 e.2 i.k_ i.told).d)).bind fun u =>
   (yT ((zd.mk t_.2 e.2 i.k_ i.told).d)).bind fun x =>
   (bif decide (u > x) then
    some (true, (zd.mk t_.2 e.2 i.k_ i.told))
   else
    (yA ((zd.mk t_.2 e.2 i.k_ i.told).d)).bind fun y =>
    (yT ((zd.mk t_.2 e.2 i.k_ i.told).d)).bind fun z =>
    (bif decide (y > z) then
     some (true, (zd.mk t_.2 e.2 i.k_ i.told))
    else
     (xN ((zd.mk t_.2 e.2 i.k_ i.told).d)).bind fun A =>
     (bif A != (((zd.mk t_.2 e.2 i.k_ i.told).m_).Now) then
      some (true, zd.mk ((zd.mk t_.2 e.2 i.k_ i.told).d) ((zd.mk t_.2 e.2 i.k_ i.told).m_) ((zd.mk t_.2 e.2 i.k_ i.told).k_) ((zd.mk t_.2 e.2 i.k_ i.told).told))
     else
      (yw ((zd.mk t_.2 e.2 i.k_ i.told).d)).bind fun B =>
      some (B != ((((zd.mk t_.2 e.2 i.k_ i.told).m_).L).length : Int), zd.mk ((zd.mk t_.2 e.2 i.k_ i.told).d) ((zd.mk t_.2 e.2 i.k_ i.told).m_) ((zd.mk t_.2 e.2 i.k_ i.told).k_) ((zd.mk t_.2 e.2 i.k_ i.told).told)))))))).bind fun s =>
 (bif s.1 then
  some (false, s.2)
 else
  ((bif (j.Kind == 1) && (t_.1.Why == 0) then
   (mApp s.2.told ([t_.1.Job] : List zf)).bind fun l =>
   some (zd.mk s.2.d s.2.m_ s.2.k_ l)
  else
   some s.2)).bind fun s1 =>
  some (true, s1))
def wZ (k : Nat)  : Option (Bool) :=
 (yY k 3 4).bind fun t_ =>
 (vO t_
  (some false)
  (fun m_ =>
  ((yr k m_ (zt.mk 1 0 (zf.mk 0 0) 5 9)).bind fun e =>
  (bif !e.1 then
   some (true, e.2)
  else
   (yr k e.2 (zt.mk 5 0 (zf.mk 0 0) 0 0)).bind fun i =>
   (bif !i.1 then
    some (true, i.2)
   else
    (yr k i.2 (zt.mk 4 0 (zf.mk 0 0) 5 0)).bind fun j =>
    some (!j.1, j.2)))).bind fun s =>
  (bif s.1 then
   some false
  else
   (yk k s.2.d (zt.mk 5 0 (zf.mk 0 0) 0 0)).bind fun l =>
   (yk k l.2 (zt.mk 5 0 (zf.mk 0 0) 0 0)).bind fun t =>
   ((bif (s.2.told.length : Int) == 1 then
    (mIdx s.2.told 0).bind fun x1 =>
    (bif zo.eq l.1 (zo.mk 0 x1 5 9 0) then
     (bif t.1.Why == 28 then
      (yw t.2).bind fun u =>
      some (u == 0)
     else
      some false)
    else
     some false)
   else
    some false)).bind fun s1 =>
   some s1)))
def zY (l2 : List zt) (l : zd) (s : List zt) : Nat -> (List zo) -> Int -> zd -> Option ((List zo) × zd)
 | 0, _, _, _ => none
 | m + 1, outs, i, e =>
  (bif decide (i < (l2.length : Int)) then
   (mIdx l2 i).bind fun x =>
   (yk m e.d x).bind fun j =>
   (mApp outs ([j.1] : List zo)).bind fun t =>
   zY l2 l s m t (w64 (i + 1)) (zd.mk j.2 e.m_ e.k_ e.told)
  else
   some (outs, e))
def yU (k : Nat) (k_ : Int) (j : Int) (l : List zt) : Option (Bool) :=
 (yY k k_ j).bind fun t_ =>
 (vO t_
  ((yY k k_ j).bind fun u =>
  (vO u
   (some false)
   (fun F =>
   some false)))
  (fun m_ =>
  (yY k k_ j).bind fun x =>
  (vO x
   (some false)
   (fun e =>
   ((bif decide ((l.length : Int) > 80) then
    (mCut l 0 80).bind fun I =>
    some I
   else
    some l)).bind fun s =>
   (zY s e l k ([] : List zo) 0 m_).bind fun s1 =>
   ((xf k e.d s).bind fun i =>
   (yW k i.1 s1.1).bind fun y =>
   (bif y then
    (yA s1.2.d).bind fun z =>
    (yA i.2).bind fun A =>
    (bif z == A then
     (yw s1.2.d).bind fun B =>
     (yw i.2).bind fun D =>
     (bif B == D then
      (wZ k).bind fun t =>
      some (t, zd.mk i.2 e.m_ e.k_ e.told)
     else
      some (false, zd.mk i.2 e.m_ e.k_ e.told))
    else
     some (false, zd.mk i.2 e.m_ e.k_ e.told))
   else
    some (false, zd.mk i.2 e.m_ e.k_ e.told))).bind fun s2 =>
   some s2.1))))
end
end Go.Proofs.YteflmnbkdhneiaaGreat
