/-
  The statements TraceTwins of the program.
  Text 2 of 7: of what the proof needs (a row of the program: no condition is left); put together and made narrow by a program.
-/
import Derived.Below
import Derived.Deep.Slices
import Derived.Deep.Strs
import Derived.Laws.BytesString
import Derived.Laws.Externs
import Derived.Lib.AppendZerosOnto
import Derived.Lib.Overlaps
import Derived.Lib.SmallJoins
import Derived.MapKept
import Derived.Sort.Grow
import Derived.Sort.Row
import Derived.Test.YtccbfeafebllhaaGreatYa1
set_option linter.unusedVariables false
set_option linter.unusedSimpArgs false
namespace Go.Th
noncomputable section
theorem St.below {w w' : World} {As : List HP} (H : St w As w') (i : Nat) (hi : As[i]? = some (Old w)) : Go.RowKit.Below w.heap.size w w' := by
 have j := H.old i hi;refine ⟨H.os, H.tape, H.output, ?_, j⟩;by_cases hz : w.heap.size = 0
 ·omega
 ·have := j (w.heap.size - 1) (by omega);have e : w.heap[w.heap.size - 1]? = some (w.heap[w.heap.size - 1]'(by omega)) := by simp
  rw [e] at this;have := (Array.getElem?_eq_some_iff.1 this).1;omega
theorem jh {α : Type} {p : Nat -> α -> Prop} : ∀ n : Nat, (∀ i, i < n -> ∃ x, p i x) -> ∃ l : List α, l.length = n /\ ∀ (i : Nat) (x : α), l[i]? = some x -> p i x
 | 0, _ => ⟨[], rfl, fun i x h => by simp at h⟩
 | n + 1, h => by
  obtain ⟨l, hl, hp⟩ := jh n fun i hi => h i (by omega)
  obtain ⟨x, u⟩ := h n (by omega);refine ⟨l ++ [x], by simp [hl], fun i y e => ?_⟩;by_cases hi : i < n
  ·rw [List.getElem?_append_left (by omega)] at e;exact hp i y e
  ·have j := (List.getElem?_eq_some_iff.1 e).1;simp [hl] at j;have t : i = n := by omega
   subst t;rw [List.getElem?_append_right (by omega)] at e;simp [hl] at e;subst e; exact u
section
variable {α H : Type} {en : TypeId × Value -> H} {P : Program} {w : World} {base : Nat} {spare : Nat -> Bool} {held : Bool} {enc : α -> List Value} {sz : Nat}
theorem bm (he : xM enc sz) (hs : 0 < sz) {a : Addr} (l : List α) (h : ∀ (j : Nat) (u : Value), (l.flatMap enc)[j]? = some u -> w.cell? (a.add j) = some u) : SlRd (Old w) enc sz (some a) l := by
 intro g D;by_cases hl : l = []
 ·exact .inl hl
 have e := yn he l;have t : 0 < l.length := by cases l with
  | nil => exact absurd rfl hl
  | cons => simp
 have hp : 0 < (l.flatMap enc).length := by rw [e]; exact Nat.mul_pos t hs
 have h0 := h 0 _ (List.getElem?_eq_getElem hp);have e0 : a.add 0 = a := by simp [Addr.add]
 rw [e0] at h0;obtain ⟨b, off, spot⟩ := a;unfold World.cell? at h0;split at h0
 ·rename_i c T fr y;split at h0
  ·cases h0
  ·rename_i z;have A : spot = none := by simpa using z
   subst A;have B : b < w.heap.size := (Array.getElem?_eq_some_iff.1 y).1;refine .inr ⟨b, off, c, T, fr, rfl, by rw [D b B]; exact y, fun i hi => ?_⟩;have x : i < (l.flatMap enc).length := by rw [e]; exact hi
   have F := h i _ (List.getElem?_eq_getElem x);rw [List.getElem?_eq_getElem x, <- F];unfold Addr.add;split
   ·rename_i hz; subst hz; simp [World.cell?, y]
   ·simp [World.cell?, y]
 ·cases h0
theorem dH {t e : TypeId} {fuel : Nat} {cs : List Value} {x : DataW H × List MemPlace} (ht : P.underlying t = some (.slice e)) (W : P.cellsOf e = sz) (he : xM enc sz) (hs : 0 < sz)
  (B : ∀ n cs y, DataW.trod en P w base spare held n e cs = some y -> ∃ z : α, cs = enc z) (h : DataW.trod en P w base spare held fuel t cs = some x) :
  ∃ (sb : Option Addr) (len cap : Nat) (l : List α), cs = [.slice sb len cap] /\ l.length = len /\ len <= cap /\ SlRd (Old w) enc sz sb l := by
 rcases Go.Deep.open_slice ht h with ⟨rfl, _⟩ | ⟨a, len, cap, m, n, D, Z, rfl, hb, hl, hm, I, _, X⟩
 ·exact ⟨none, 0, 0, [], rfl, rfl, Nat.le_refl _, fun _ _ => .inl rfl⟩
 ·obtain ⟨l, J, hp⟩ := jh (α := α) (p := fun i z => w.cells? base (a.add (i * sz)) sz = some (enc z)) len fun i hi => by
   obtain ⟨Y, h1, h2⟩ := X i (by rw [I]; split <;> omega);obtain ⟨z, rfl⟩ := B _ _ _ h2;rw [W] at h1;exact ⟨z, h1⟩
  refine ⟨some a, len, cap, l, rfl, J, hl, bm he hs l fun j u hu => ?_⟩;have F := (List.getElem?_eq_some_iff.1 hu).1;rw [yn he] at F;have hj : j / sz < l.length := Nat.div_lt_of_lt_mul (by rw [Nat.mul_comm]; exact F);have hq : j % sz < sz := Nat.mod_lt _ hs;have S := uP he l (j / sz) (j % sz) hj hq;have U : j / sz * sz + j % sz = j := by rw [Nat.mul_comm]; exact Nat.div_add_mod j sz
  rw [U, hu] at S;have A := hp (j / sz) l[j / sz] (by simp [hj]);obtain ⟨_, _, O⟩ := World.cells?_some A;have := O (j % sz) (by exact hq);rw [<- S] at this;rw [<- this];congr 1;rw [Go.Deep.add_add, U]
end
end
noncomputable section
theorem gX (A X R V : List Value) (h : V.length = X.length) : putAt (A ++ (X ++ R)) A.length V = A ++ (V ++ R) := by
 rw [vZ _ _ _ (by simp; omega)];rw [List.take_left' rfl, aA];congr 2;have : A.length + V.length = (A ++ X).length := by simp [h]
 rw [this, <- aA, List.drop_left' rfl]
theorem rW (A X R V : List Value) (n : Nat) (hn : n = A.length) (h : V.length = X.length) : putAt (A ++ (X ++ R)) n V = A ++ (V ++ R) := by
 subst hn; exact gX A X R V h
section
variable {w0 w : World} {As : List HP} {P : Program} {n : Nat} {a : Act} {L : Env} {o : Oper} {T : TypeId}
theorem dK (H : St w0 As w) (i : Nat) {b off : Nat} {cs news : List Value} (hi : As[i]? = some (Blk b T cs)) (h : ∀ (j : Nat) (u : Value), news[j]? = some u -> cs[off + j]? = some u) : Rd w (some ⟨b, off, none⟩) news := by
 refine .inr ⟨_, rfl, fun j u hj => ?_⟩;rw [vB];exact H.cell i hi (h j u hj)
theorem OpTo.mY {b off i l e j sz : Nat} {F : Option Addr} {cs : List Value} (news : List Value) {x y : Operand} {t u : TypeId} {ti : TypeInfo} (J : zO n a L) (H : St w0 (Blk b T cs :: As) w)
  (O : o.op = .call { callee := .builtin .copy, args := #[x, y], argTypes := #[t, u] }) (U : evO L x = some (.slice (some ⟨b, off, none⟩) i l)) (W : evO L y = some (.slice F e j))
  (ht : P.underlying t = some (.slice T)) (hi : P.info? T = some ti) (I : ti.size = sz) (X : Rd w F news) (hl : news.length = Nat.min e i * sz) (h1 : ∀ v ∈ news, v.oneCell' = true) (z : off + news.length <= cs.length) :
  OpTo P o a w fun v w' => (∃ k : Int, v = .int .i64 k) /\ St w0 (Blk b T (putAt cs off news) :: As) w' := by
 obtain ⟨dst, op, type, pos, after, guard⟩ := o;simp only at O;subst O;have S := H.one 0 rfl;have A := run_storeCells_at P b off T news 0 cs.toArray w S (by simpa using z) h1;simp only [Nat.add_zero] at A;rw [vZ _ _ _ z];have hf := rZ (P := P) (size := ti.size) (m := Nat.min e i) (len := e) (cap := j) X (by rw [hl, I]);have B : (Builtin.copy_ #[t, u] type #[.slice (some ⟨b, off, none⟩) i l, .slice F e j]).run P w = .ok (goInt (Nat.min e i)) (w.setRow b (cs.take off ++ news ++ cs.drop (off + news.length)).toArray) := by
  have D : Sem.run P (storeCells { block := b, off := off } news) w = Result.ok () (w.setRow b (List.take off cs ++ (news ++ List.drop (off + news.length) cs)).toArray) := by simpa using A
  simp [Builtin.copy_, xm P ht, Builtin.lenOf, tX P hi, hf, D]
 refine OpTo.of_run (w' := w.setRow b (cs.take off ++ news ++ cs.drop (off + news.length)).toArray) (v := goInt (Nat.min e i)) ?_ ⟨⟨_, rfl⟩, ?_⟩
 ·simp [execOp, resolve, invoke, builtin, J.eval U, J.eval W, B]
 ·exact H.set (by simp) (by simp) (by simp) (setRow_heap w b _ _ T (0, 0) S) (fun c Y => setRow_other w b c _ Y)
theorem OpTo.dU {sz k i j : Nat} {sb : Option Addr} (l : List Value) {x y : Operand} {t F : TypeId} {kn : IntKind} {ti : TypeInfo} {z : Value} (hE : zO n a L) (H : St w0 As w)
  (ho : o.op = .call { callee := .builtin .append, args := #[x, y], argTypes := #[t, F] }) (hx : evO L x = some (.slice sb i j)) (hy : evO L y = some (.int .i64 (k : Int)))
  (ht : P.underlying t = some (.slice T)) (I : P.underlying F = some (.int kn)) (hi : P.info? T = some ti) (u : ti.size = sz) (hz : ti.zero = some z) (J : z.cells.size = sz) (hs : 0 < sz)
  (hr : Rd w sb l) (O : l.length = i * sz) (h0 : 0 < k) (hg : j < i + k) (A : i + k <= 1073741824) (S : Nat.ble ti.bytes 131072 = true) :
  OpTo P o a w fun v w' => ∃ (r c : Nat) (Z : List Value), v = .slice (some ⟨r, 0, none⟩) (i + k) c /\ i + k <= c /\ c <= maxLen /\ Z.length = (c - i) * sz /\ St w0 (Blk r T (l ++ Z) :: As) w' := by
 have B := Nat.le_of_ble_eq_true S;obtain ⟨dst, op, type, pos, after, guard⟩ := o;simp only at ho;subst ho;have U : Rd w.drew sb l := by
  rcases hr with h | ⟨xa, h1, h2⟩
  ·exact .inl h
  ·exact .inr ⟨xa, h1, by simpa using h2⟩
 have W := rZ (P := P) (size := ti.size) (m := i) (len := i) (cap := j) U (by rw [O, u]);have X : k * ti.bytes <= 281474976710656 := by
  calc k * ti.bytes <= 1073741824 * 131072 := Nat.mul_le_mul (by omega) B
   _ <= 281474976710656 := by decide
 have Y : Builtin.nextslicecap (i + k) j * ti.bytes <= 281474976710656 := by
  refine growslice_fits (need := i + k) (old := j) (by omega) ?_
  calc (i + k) * ti.bytes <= 1073741824 * 131072 := Nat.mul_le_mul A B
   _ <= 140737488355328 := by decide
 have D := Go.Lib.run_append_grow_zeros (P := P) w t F type T ti z .i64 kn ht I hi hz sb i j l W k h0 (by rw [u]; exact hs) hg (by omega) X Y;have a8 := grownCap_ge w (i + k) j T;have a0 := grownCap_le_maxLen w (i + k) j T (by unfold maxLen; omega);refine OpTo.of_run (w' := w.drew.alloc (.cells (l.toArray ++ Builtin.zeroCells z.cells k ++ Builtin.zeroCells z.cells (grownCap w (i + k) j T - (i + k))) T (0, 0))) ?_
  ⟨w.heap.size, grownCap w (i + k) j T, (Builtin.zeroCells z.cells k ++ Builtin.zeroCells z.cells (grownCap w (i + k) j T - (i + k))).toList, rfl, by omega, a0, ?_, ?_⟩
 ·simp [execOp, resolve, invoke, builtin, hE.eval hx, hE.eval hy, D]
 ·simp only [Array.length_toList, Array.size_append, size_zeroCells, J, <- Nat.add_mul];congr 1; omega
 ·have H2 := (H.drew).alloc (.cells (l.toArray ++ Builtin.zeroCells z.cells k ++ Builtin.zeroCells z.cells (grownCap w (i + k) j T - (i + k))) T (0, 0));refine H2.head fun h hh => ?_
  have e : (l ++ (Builtin.zeroCells z.cells k ++ Builtin.zeroCells z.cells (grownCap w (i + k) j T - (i + k))).toList).toArray = l.toArray ++ Builtin.zeroCells z.cells k ++ Builtin.zeroCells z.cells (grownCap w (i + k) j T - (i + k)) := by
   apply Array.ext';simp [aA]
  show h _ = _;rw [e];exact hh
theorem OpTo.ir {g va vo la ca b off lb cb : Nat} {cv cs : Array Value} {Tv Ts : TypeId} {xs : List Operand} {fn : Func} {tS tR e : TypeId} {ti : TypeInfo} (hE : zO n a L) (H : St w0 As w) (i j : Nat)
  (hi : As[i]? = some (One va (.cells cv Tv (0, 0)))) (hj : As[j]? = some (One b (.cells cs Ts (0, 0)))) (hne : va ≠ b) (hcs : cs.size ≠ 0)
  (ho : callParts o.op = some (.func g, xs)) (hxs : qR L xs = some [.slice (some ⟨va, vo, none⟩) la ca, .slice (some ⟨b, off, none⟩) lb cb])
  (hf : P.funcs[g]? = some fn) (hname : (fn.name == "runtime.NumGoroutine") = false) (hb : fn.body.isNone = true) (hn : Extern.findNext fn = none) (he : Extern.find fn = some (Extern.SlicesOverlaps.overlaps #[tS, tS] #[tR]))
  (ht : P.underlying tS = some (.slice e)) (hz : P.info? e = some ti) : OpTo P o a w fun v w' => v = .bool false /\ w' = w := by
 obtain ⟨dst, op, type, pos, after, guard⟩ := o;cases op <;> simp only [callParts] at ho <;> try cases ho
 rename_i c;obtain ⟨callee, args, ats⟩ := c;cases callee <;> simp only at ho <;> try cases ho
 have h1 := H.one i hi;have h2 := H.one j hj;have hov := Go.Lib.run_overlaps_apart (P := P) w tS tR e ht ti.size (tX P hz) ⟨va, vo, none⟩ ⟨b, off, none⟩ la ca lb cb hne Tv Ts cv.size cs.size (by simp [World.shape?, h1]) (by simp [World.shape?, h2]) hcs (by simp [World.frozen?, h1]) (by simp [World.frozen?, h1]);have hcall := run_callFunc_extern hf hname hb hn he #[.slice (some ⟨va, vo, none⟩) la ca, .slice (some ⟨b, off, none⟩) lb cb] w;rw [hov] at hcall;have e2 := oN hE _ _ hxs;have e3 : args.map a.eval = #[.slice (some ⟨va, vo, none⟩) la ca, .slice (some ⟨b, off, none⟩) lb cb] := by
  apply Array.ext';simpa using e2
 refine OpTo.of_run (w' := w) (v := .bool false) ?_ ⟨rfl, rfl⟩;have hfe : a.eval (.func g) = .func (.func g) #[] #[] := rfl;simp [execOp, resolve, Deferred.ofValue, hfe, invoke, e3, hcall, Result.andThen]
end
theorem St.ja {α : Type} {T : TypeId} {enc : α -> List Value} {sz : Nat} {w0 w : World} {As : List HP} {sb : Option Addr} {sc : Nat} {l : List α} (H : St w0 (Sl T enc sz sb sc l :: As) w) (he : xM enc sz) (hl : 0 < l.length) :
  ∃ (b off : Nat) (A R : List Value), sb = some ⟨b, off, none⟩ /\ A.length = off /\ l.length <= sc /\ sc <= maxLen /\ (sc - l.length) * sz <= R.length /\ St w0 (Blk b T (A ++ (l.flatMap enc ++ R)) :: As) w := by
 rcases H.l9 with ⟨_, rfl, _⟩ | ⟨b, off, cs, rfl, H1, h1, h2, h3, h4⟩
 ·simp at hl
 ·have j := yn he l;have hmul : l.length * sz <= sc * sz := Nat.mul_le_mul_right _ h1;refine ⟨b, off, cs.toList.take off, cs.toList.drop (off + l.length * sz), rfl, by simp; omega, h1, h2, ?_, ?_⟩
  ·simp only [List.length_drop, Array.length_toList, Nat.sub_mul]; omega
  ·refine H1.head fun h hh => ?_
   have e : cs.toList.take off ++ (l.flatMap enc ++ cs.toList.drop (off + l.length * sz)) = cs.toList := by
    have t : (cs.toList.drop off).take (l.length * sz) = l.flatMap enc := by
     apply List.ext_getElem?;intro i;by_cases hi : i < l.length * sz
     ·rw [List.getElem?_take, if_pos hi, List.getElem?_drop, <- h4 i hi]; simp
     ·rw [List.getElem?_eq_none (by simp; omega), List.getElem?_eq_none (by omega)]
    rw [<- t, <- List.drop_drop, List.take_append_drop, List.take_append_drop]
   show h b = _;rw [e];have : h b = some (.cells cs T (0, 0)) := hh;simpa using this
theorem St.dj {α : Type} {T : TypeId} {enc : α -> List Value} {sz : Nat} {w0 w : World} {As : List HP} {b sc : Nat} {l : List α} {A R : List Value} (H : St w0 (Blk b T (A ++ (l.flatMap enc ++ R)) :: As) w) (he : xM enc sz) (h1 : l.length <= sc) (h2 : sc <= maxLen) (h3 : (sc - l.length) * sz <= R.length) :
  St w0 (Sl T enc sz (some ⟨b, A.length, none⟩) sc l :: As) w := by
 have e := yn he l;have hmul : l.length * sz <= sc * sz := Nat.mul_le_mul_right _ h1;rw [Nat.sub_mul] at h3;refine H.head fun h hh => .inr ⟨b, A.length, _, rfl, hh, h1, h2, by simp [e]; omega, fun i hi => ?_⟩
 simp only [List.getElem?_toArray];rw [List.getElem?_append_right (by omega), Nat.add_sub_cancel_left, List.getElem?_append_left (by rw [e]; exact hi)]
end
end Go.Th
noncomputable section
namespace Go.Th
end Go.Th
end
namespace Go.Th
noncomputable section
section
variable {w0 w : World} {As : List HP} {P : Program} {n : Nat} {a : Act} {L : Env} {o : Oper} {T : TypeId}
end
end
noncomputable section
@[reducible] def catE : Env -> Env -> Env
 | [], L => L
 | p :: r, L => p :: catE r L
def fZ : Env -> List Nat
 | [] => []
 | (t, _) :: r => t :: fZ r
def hasK (t : Nat) : Env -> Bool
 | [] => false
 | (u, _) :: r => match Nat.beq t u with
  | true => true
  | false => hasK t r
def oh (ops : Array Oper) (new L : Env) : List Nat -> Bool
 | [] => true
 | i :: is => match ops[i]? with
  | none => oh ops new L is
  | some o => match o.dst with
   | none => oh ops new L is
   | some d => match hasK d new with
    | true => oh ops new L is
    | false => match hasK d L with
     | true => false
     | false => oh ops new L is
def segD (P : Program) (n : Nat) (ops : Array Oper) (is : List Nat) (L : Env) (e : List Value) (new : Env) : Option (Env × List Ob) :=
 match oh ops new L is with
 | false => none
 | true => oU P n ops is L e (fZ new)
theorem jG : ∀ (new L : Env) (t : Nat) (v : Value), look t (catE new L) = some v -> (look t new = some v) \/ (hasK t new = false /\ look t L = some v)
 | [], L, t, v, h => Or.inr ⟨rfl, h⟩
 | (u, x) :: r, L, t, v, h => by
  rw [catE, wN] at h;split at h
  ·subst_vars
   left
   rw [wN, if_pos rfl]; exact h
  ·rename_i e;rcases jG r L t v h with h1 | ⟨h1, h2⟩
   ·left; rw [wN, if_neg e]; exact h1
   ·right
    refine ⟨?_, h2⟩;simp only [hasK];split
    ·rename_i i; exact absurd (Nat.eq_of_beq_eq_true i) e
    ·exact h1
theorem m5 : ∀ (L : Env) (t : Nat) (v : Value), look t L = some v -> hasK t L = true
 | [], t, v, h => by cases h
 | (u, x) :: r, t, v, h => by
  simp only [look] at h;simp only [hasK];split at h
  ·rename_i e; first | rfl | rw [e]
  ·rename_i e; first | exact m5 r t v h | (rw [e]; exact m5 r t v h)
theorem o7 {ops : Array Oper} {new L : Env} : ∀ {is : List Nat}, oh ops new L is = true -> ∀ i ∈ is, ∀ o d, ops[i]? = some o -> o.dst = some d -> hasK d new = true \/ hasK d L = false
 | [], _, i, hi, _, _, _, _ => by cases hi
 | j :: is, h, i, hi, o, d, e, hd => by
  simp only [oh] at h;rcases List.mem_cons.1 hi with rfl | hi
  ·rw [e] at h;simp only [hd] at h;cases h1 : hasK d new
   ·rw [h1] at h;simp only at h;cases h2 : hasK d L
    ·exact Or.inr rfl
    ·rw [h2] at h; cases h
   ·exact Or.inl rfl
  ·have l : oh ops new L is = true := by
    repeat' split at h
    all_goals first | exact h | cases h
   exact o7 l i hi o d e hd
theorem lY {n : Nat} {d : Option Tmp} {v : Value} {L L1 : Env} {t : Nat} (h : setE n d v L = some L1) (hd : d ≠ some t) : look t L1 = look t L := by
 unfold setE at h;split at h
 ·cases h; rfl
 ·split at h
  ·cases h;rw [wN, if_neg (fun e => hd (by rw [e]))]
  ·cases h
theorem pz {P : Program} {n : Nat} {ops : Array Oper} {t : Nat} : ∀ (is : List Nat) (L : Env) (e : List Value) (L1 : Env) (obs : List Ob), qy P n ops is L e = some (L1, obs) -> (∀ i ∈ is, ∀ o, ops[i]? = some o -> o.dst ≠ some t) -> look t L1 = look t L
 | [], L, e, L1, obs, h, _ => by simp [qy] at h; rw [h.1]
 | i :: is, L, e, L1, obs, h, hd => by
  have l : ∀ j ∈ is, ∀ o, ops[j]? = some o -> o.dst ≠ some t := fun j hj => hd j (mC _ hj)
  rw [qy] at h;split at h
  ·cases h
  ·rename_i o y;have u := hd i (List.mem_cons_self ..) o y;split at h
   ·cases h
   ·split at h
    ·rename_i L2 hs;rw [pz is L2 e L1 obs h l, lY hs u]
    ·cases h
   ·split at h
    ·cases h
    ·split at h
     ·cases h
     ·rename_i L2 hs;split at h
      ·rename_i z x h3;cases h;rw [pz is L2 _ _ _ h3 l, lY hs u]
      ·cases h
theorem zO.cat {n : Nat} {a : Act} {L1 L new : Env} (h : zO n a L1) (hs : Th.sel (fZ new) L1 = some new) (hk : ∀ t, hasK t new = false -> hasK t L = true -> look t L1 = look t L) : zO n a (catE new L) := by
 have h2 := sS h hs;refine ⟨h.size, h.defers, fun t v hv => ?_⟩;rcases jG new L t v hv with h1 | ⟨h1, h3⟩
 ·exact h2.has t v h1
 ·exact h.has t v (by rw [hk t h1 (m5 L t v h3)]; exact h3)
section
variable {P : Program} {f : FuncId} {k : List Item} {a : Act} {w : World} {R : Value -> World -> Prop}
theorem gk {P : Program} {n : Nat} {ops : Array Oper} {is : List Nat} {L new : Env} {j : List Value} {obs : List Ob} (he : segD P n ops is L j new = some (new, obs)) :
  ∃ L1, qy P n ops is L j = some (L1, obs) /\ ∀ a : Act, zO n a L1 -> zO n a (catE new L) := by
 unfold segD at he;split at he
 ·cases he
 ·rename_i hd;unfold oU at he;split at he
  ·cases he
  ·rename_i L1 u hs;split at he
   ·rename_i x l;cases he;refine ⟨L1, hs, fun a ha => ha.cat l fun t h1 h2 => pz is L j L1 _ hs fun i hi o y e => ?_⟩;rcases o7 hd i hi o t y e with h3 | h3
    ·rw [h1] at h3; cases h3
    ·rw [h2] at h3; cases h3
   ·cases he
theorem WR.d {ops : Array Oper} {i n : Nat} {L : Env} (t : zO n a L) (j : Nat) (e : List Value) (new : Env) {obs : List Ob} (u : xJ w obs) (hk : ∀ a', zO n a' (catE new L) -> WR P f ops j k a' w R)
  (hj : (Nat.ble i j && Nat.ble j ops.size) = true := by rfl) (he : segD P n ops (List.range' i (j - i)) L e new = some (new, obs) := by kernel_rfl) : WR P f ops i k a w R := by
 obtain ⟨L1, hs, hn⟩ := gk he;simp only [Bool.and_eq_true] at hj;have h1 := Nat.le_of_ble_eq_true hj.1;have h2 := Nat.le_of_ble_eq_true hj.2;unfold WR;have x : List.range' i (ops.size - i) = List.range' i (j - i) ++ List.range' j (ops.size - j) := by
  have y : ops.size - i = (j - i) + (ops.size - j) := by omega
  have z : i + (j - i) = j := by omega
  rw [y, <- List.range'_append_1, z]
 rw [x];exact oI _ _ _ _ _ _ t hs u fun a' l => hk a' (hn a' l)
theorem WR.d0 {ops : Array Oper} {i n : Nat} {L : Env} (e : zO n a L) (j : Nat) (new : Env) (hk : ∀ a', zO n a' (catE new L) -> WR P f ops j k a' w R)
  (hj : (Nat.ble i j && Nat.ble j ops.size) = true := by rfl) (he : segD P n ops (List.range' i (j - i)) L [] new = some (new, []) := by kernel_rfl) : WR P f ops i k a w R := WR.d e j [] new (obs := []) trivial hk hj he
theorem WR.e {ops : Array Oper} {i n : Nat} {L : Env} (t : zO n a L) (j : List Value) (new : Env) {obs : List Ob} (u : xJ w obs) (hk : ∀ a', zO n a' (catE new L) -> Runs P f k a' w R)
  (hj : Nat.ble i ops.size = true := by rfl) (he : segD P n ops (List.range' i (ops.size - i)) L j new = some (new, obs) := by kernel_rfl) : WR P f ops i k a w R :=
 WR.d t ops.size j new u (fun a' l => WR.done (Nat.ble_eq_true_of_le (Nat.le_refl _)) (hk a' l)) (by rw [hj]; exact Nat.ble_eq_true_of_le (Nat.le_refl _)) he
theorem WR.e0 {ops : Array Oper} {i n : Nat} {L : Env} (j : zO n a L) (new : Env) (hk : ∀ a', zO n a' (catE new L) -> Runs P f k a' w R)
  (hj : Nat.ble i ops.size = true := by rfl) (he : segD P n ops (List.range' i (ops.size - i)) L [] new = some (new, []) := by kernel_rfl) : WR P f ops i k a w R := WR.e j [] new (obs := []) trivial hk hj he
theorem Runs.sr {id : Nat} {ops : Array Oper} {y : Code} (h : WR P f ops 0 (.code y :: k) a w R) : Runs P f (.code (.seq (.region id ops false) y) :: k) a w R := Runs.seq (Runs.region h)
theorem WQ.d {ops : Array Oper} {dn : List Nat} {pend : List (Nat × List Ob)} {n : Nat} {L : Env} (l : zO n a L) (is : List Nat) (i : List Value) (new : Env) {obs : List Ob} (t : xJ w obs)
  (hk : ∀ a', zO n a' (catE new L) -> WQ P f ops (dn ++ is) (segP P n ops is L i pend) k a' w R)
  (ht : (Nat.ble (dn.length + is.length) ops.size && ld ops is (vD dn)) = true := by kernel_rfl) (he : segD P n ops is L i new = some (new, obs) := by kernel_rfl) : WQ P f ops dn pend k a w R := by
 obtain ⟨L1, hs, hn⟩ := gk he;simp only [Bool.and_eq_true] at ht;have hle := Nat.le_of_ble_eq_true ht.1;have e : ops.size - dn.length = is.length + (ops.size - (dn ++ is).length) := by simp; omega
 unfold WQ;rw [e];intro hs';exact WP.segs hs' _ _ _ _ _ _ _ _ _ _ l (fun x => vf x dn) ht.2 hs t fun a' j => hk a' (hn a' j) hs'
theorem WQ.d0 {ops : Array Oper} {dn : List Nat} {pend : List (Nat × List Ob)} {n : Nat} {L : Env} (e : zO n a L) (is : List Nat) (new : Env)
  (hk : ∀ a', zO n a' (catE new L) -> WQ P f ops (dn ++ is) (segP P n ops is L [] pend) k a' w R)
  (ht : (Nat.ble (dn.length + is.length) ops.size && ld ops is (vD dn)) = true := by kernel_rfl) (he : segD P n ops is L [] new = some (new, []) := by kernel_rfl) : WQ P f ops dn pend k a w R := WQ.d e is [] new (obs := []) trivial hk ht he
end
end
noncomputable section
section
variable {α H : Type} {en : TypeId × Value -> H} {P : Program} {w : World} {base : Nat} {spare : Nat -> Bool} {held : Bool} {enc : α -> List Value} {sz : Nat}
end
end
noncomputable section
section
variable {K V : Type}
def mGet (eq : K -> K -> Bool) (k : K) : List (K × V) -> Option V
 | [] => none
 | p :: m => bif eq k p.1 then some p.2 else mGet eq k m
def mPut (eq : K -> K -> Bool) (k : K) (v : V) : List (K × V) -> List (K × V)
 | [] => [(k, v)]
 | p :: m => bif eq k p.1 then (k, v) :: m else p :: mPut eq k v m
def mDel (eq : K -> K -> Bool) (k : K) : List (K × V) -> List (K × V)
 | [] => []
 | p :: m => bif eq k p.1 then m else p :: mDel eq k m
def s8 (eq : K -> K -> Bool) (k : K) (z : V) (m : List (K × V)) : Option (V × Bool) := some (match mGet eq k m with
 | some v => (v, true)
 | none => (z, false))
def mAt (eq : K -> K -> Bool) (k : K) : List K -> Nat -> Option Nat
 | [], _ => none
 | a :: ks, i => bif eq k a then some i else mAt eq k ks (i + 1)
theorem fw (eq : K -> K -> Bool) (k : K) : ∀ (ks : List K) (i j : Nat), mAt eq k ks i = some j -> i <= j
 | [], i, j, h => by simp [mAt] at h
 | a :: ks, i, j, h => by
  simp only [mAt] at h;cases he : eq k a <;> simp [he] at h
  ·have := fw eq k ks (i + 1) j h; omega
  ·omega
theorem fq (eq : K -> K -> Bool) (k : K) : ∀ (m : List (K × V)) (i : Nat),
  (mAt eq k (m.map (·.1)) i = none /\ mGet eq k m = none /\ (∀ v, mPut eq k v m = m ++ [(k, v)]) /\ mDel eq k m = m) \/
  ∃ j p, mAt eq k (m.map (·.1)) i = some (i + j) /\ m[j]? = some p /\ eq k p.1 = true /\ mGet eq k m = some p.2 /\ (∀ v, mPut eq k v m = m.set j (k, v)) /\ mDel eq k m = m.eraseIdx j
 | [], i => .inl ⟨rfl, rfl, fun _ => rfl, rfl⟩
 | p :: m, i => by
  cases he : eq k p.1
  ·rcases fq eq k m (i + 1) with ⟨h1, h2, h3, h4⟩ | ⟨j, q, h1, h2, h3, h4, e, l⟩
   ·exact .inl ⟨by simp [mAt, he, h1], by simp [mGet, he, h2], fun v => by simp [mPut, he, h3], by simp [mDel, he, h4]⟩
   ·refine .inr ⟨j + 1, q, ?_, by simpa using h2, h3, by simp [mGet, he, h4], fun v => by simp [mPut, he, e], by simp [mDel, he, l]⟩;simp [mAt, he, h1]; omega
  ·exact .inr ⟨0, p, by simp [mAt, he], rfl, he, by simp [mGet, he], fun v => by simp [mPut, he], by simp [mDel, he]⟩
structure sJ (P : Program) (kt : TypeId) (ek : K -> Value) (eq : K -> K -> Bool) : Prop where
 check : ∀ (w : World) em k, (Instr.checkKey em 10000 kt (ek k)).run P w = .ok () w
 find : ∀ (w : World) k (es : List MapEntry) (ks : List K), es.map (·.key) = ks.map ek -> (Instr.findKey kt (ek k) es).run P w = .ok ((mAt eq k ks 0).bind fun j => (es[j]?).map fun e => (j, e.val)) w
 stays : ∀ (w : World) k, (Instr.keyThatStays (ek k) (ek k)).run P w = .ok (ek k) w
 same : ∀ a b, eq a b = true -> a = b
end
def kI (a b : Int) : Bool := a == b
theorem nM (k : Int) : ∀ (es : List MapEntry) (ks : List Int) (i : Nat), es.map (·.key) = ks.map vI -> Instr.findNow (.int .i64) (vI k) es i = some ((mAt kI k ks i).bind fun j => (es[j - i]?).map fun e => (j, e.val))
 | [], [], i, _ => by simp [Instr.findNow, mAt]
 | [], _ :: _, i, h => by simp at h
 | _ :: _, [], i, h => by simp at h
 | e :: es, a :: ks, i, h => by
  simp only [pC, List.cons.injEq] at h;have ih := nM k es ks (i + 1) h.2;simp only [Instr.findNow, h.1, vI, Instr.sameNow, if_true, mAt, kI];cases hk : (k == a)
  ·simp only [cF];simp only [vI] at ih;rw [ih];cases hm : mAt kI k ks (i + 1) with
   | none => rfl
   | some j =>
    have hj := fw _ _ _ _ _ hm;have l : j - i = (j - (i + 1)) + 1 := by omega
    simp [l]
  ·simp
theorem sJ.int {P : Program} {kt : TypeId} (h : P.underlying kt = some (.int .i64)) : sJ P kt vI kI where
 check := fun w em k => Go.MapKept.run_checkKey h (show Go.MapKept.IsKey (.int .i64) (vI k) from rfl) em 9999
 find := fun w k es ks he => Go.MapKept.run_findKey h (by simpa using nM k es ks 0 he)
 stays := fun w k => Go.MapKept.run_keyThatStays (d := .int .i64) (show Go.MapKept.IsKey (.int .i64) (vI k) from rfl)
 same := fun a b h => by simpa [kI] using h
section
variable {K V : Type} {P : Program} {ek : K -> Value} {eq : K -> K -> Bool} {kt : TypeId}
theorem qN (he : ∀ (w : World) a b, (Op.equal kt (ek a) (ek b)).run P w = .ok (eq a b) w) (w : World) (k : K) : ∀ (es : List MapEntry) (ks : List K) (i : Nat), es.map (·.key) = ks.map ek ->
  (Instr.findAsking kt (ek k) es i).run P w = .ok ((mAt eq k ks i).bind fun j => (es[j - i]?).map fun e => (j, e.val)) w
 | [], [], i, _ => by simp [Instr.findAsking, mAt]
 | [], _ :: _, i, h => by simp at h
 | _ :: _, [], i, h => by simp at h
 | e :: es, a :: ks, i, h => by
  simp only [pC, List.cons.injEq] at h;have ih := qN he w k es ks (i + 1) h.2;simp only [Instr.findAsking, Sem.run_bind, h.1, he, Result.andThen_ok, mAt];cases hk : eq k a
  ·simp only [cF, Bool.false_eq_true, if_false, ih];cases hm : mAt eq k ks (i + 1) with
   | none => rfl
   | some j =>
    have hj := fw _ _ _ _ _ hm;have l : j - i = (j - (i + 1)) + 1 := by omega
    simp [l]
  ·simp
theorem sJ.struct {fs : Array Field} (h : P.underlying kt = some (.struct fs)) (j : ∀ (w : World) em k, (Instr.checkKey em 10000 kt (ek k)).run P w = .ok () w)
  (he : ∀ (w : World) a b, (Op.equal kt (ek a) (ek b)).run P w = .ok (eq a b) w) (hs : ∀ k, Instr.sameBits 10000 (ek k) (ek k) = true) (hq : ∀ a b, eq a b = true -> a = b) : sJ P kt ek eq where
 check := j
 find := fun w k es ks i => by
  have hf := qN he w k es ks 0 i;have l : (Instr.findKey kt (ek k) es).run P w = (Instr.findAsking kt (ek k) es).run P w := by
   cases es with
   | nil => simp [Instr.findKey, xm P h, Instr.findNow, Instr.findAsking]
   | cons e es => simp [Instr.findKey, xm P h, Instr.findNow, Instr.sameNow]
  rw [l];simpa using hf
 stays := fun w k => by simp [Instr.keyThatStays, hs]
 same := hq
theorem qC {fs : Array Field} {cs : Array Value} (n : Nat) (h : P.underlying kt = some (.struct fs)) (w : World) (em : Bool)
  (hf : ∀ f ∈ fs.toList, f.name ≠ "_" /\ ∃ v, (part f.type cs f.offset).run P w = .ok v w /\ (Instr.checkKey em n f.type v).run P w = .ok () w) : (Instr.checkKey em (n + 1) kt (.agg cs)).run P w = .ok () w := by
 rw [Instr.checkKey];simp only [Sem.run_bind, xm P h, Result.andThen_ok];rw [<- Array.forIn_toList];generalize fs.toList = L at hf;induction L with
 | nil => simp
 | cons f L ih =>
  obtain ⟨hn, v, p1, p2⟩ := hf f (by simp);simp only [List.forIn_cons, Sem.run_bind, hn, ne_eq, not_false_eq_true, if_true, Result.andThen_ok, p1, p2, Sem.run_pure];exact ih fun y hy => hf y (by simp [hy])
theorem rr (n : Nat) (h : P.underlying kt = some (.int .i64)) (w : World) (em : Bool) (x : Int) : (Instr.checkKey em (n + 1) kt (.int .i64 x)).run P w = .ok () w :=
 Go.MapKept.run_checkKey h (show Go.MapKept.IsKey (.int .i64) (.int .i64 x) from rfl) em n
theorem bK {P : Program} {cs : Array Value} {w : World} {em : Bool} {n : Nat} {Ls : List Field} (h : Ls = []) : ∀ f ∈ Ls, f.name ≠ "_" /\ ∃ v, (part f.type cs f.offset).run P w = .ok v w /\ (Instr.checkKey em n f.type v).run P w = .ok () w := by
 subst h; intro f hf; cases hf
theorem gr {P : Program} {cs : Array Value} {w : World} {em : Bool} {n : Nat} {Ls fs : List Field} {f : Field} {v : Value} (hL : Ls = f :: fs) (hn : (f.name == "_") = false) (p : (part f.type cs f.offset).run P w = .ok v w) (c : (Instr.checkKey em n f.type v).run P w = .ok () w)
  (r : ∀ g ∈ fs, g.name ≠ "_" /\ ∃ v, (part g.type cs g.offset).run P w = .ok v w /\ (Instr.checkKey em n g.type v).run P w = .ok () w) : ∀ g ∈ Ls, g.name ≠ "_" /\ ∃ v, (part g.type cs g.offset).run P w = .ok v w /\ (Instr.checkKey em n g.type v).run P w = .ok () w := by
 subst hL; intro g hg;rcases List.mem_cons.1 hg with rfl | hg
 ·exact ⟨by simpa using hn, v, p, c⟩
 ·exact r g hg
def MpA (r : Nat) (ek : K -> Value) (ev : V -> Value) (m : List (K × V)) : HP := fun h => ∃ x : Array MapEntry × Nat, One r (.map x.1 x.2) h /\ x.1.toList.map (fun e => (e.key, e.val)) = m.map fun p => (ek p.1, ev p.2)
variable {ev : V -> Value} {w w0 : World} {As : List HP} {n r : Nat} {L : Env} {o : Oper} {a : Act} {m : List (K × V)} {k : K}
theorem MpA.keys {es : List MapEntry} {m : List (K × V)} (h : es.map (fun e => (e.key, e.val)) = m.map fun p => (ek p.1, ev p.2)) : es.map (·.key) = (m.map (·.1)).map ek := by
 have := congrArg (List.map Prod.fst) h;simp only [List.map_map] at this;rw [List.map_map];exact this
theorem MpA.get {es : List MapEntry} {m : List (K × V)} (h : es.map (fun e => (e.key, e.val)) = m.map fun p => (ek p.1, ev p.2)) {j : Nat} {p : K × V} (hj : m[j]? = some p) : ∃ e, es[j]? = some e /\ e.key = ek p.1 /\ e.val = ev p.2 := by
 have h2 := congrArg (fun l => l[j]?) h;simp only [List.getElem?_map, hj, Option.map_some] at h2;cases he : es[j]? with
 | none => rw [he] at h2; simp at h2
 | some e => rw [he] at h2; simp at h2; exact ⟨e, rfl, h2.1, h2.2⟩
theorem sJ.found (hk : sJ P kt ek eq) (w : World) (k : K) {es : List MapEntry} {m : List (K × V)} (h : es.map (fun e => (e.key, e.val)) = m.map fun p => (ek p.1, ev p.2)) :
  ((Instr.findKey kt (ek k) es).run P w = .ok none w /\ mGet eq k m = none /\ (∀ v, mPut eq k v m = m ++ [(k, v)]) /\ mDel eq k m = m) \/
  ∃ j e v, (Instr.findKey kt (ek k) es).run P w = .ok (some (j, ev v)) w /\ es[j]? = some e /\ e.key = ek k /\ mGet eq k m = some v /\ (∀ v, mPut eq k v m = m.set j (k, v)) /\ mDel eq k m = m.eraseIdx j := by
 have hf := hk.find w k es _ (MpA.keys h);rcases fq eq k m 0 with ⟨h1, h2, h3, h4⟩ | ⟨j, p, h1, h2, h3, h4, l, t⟩
 ·left; rw [h1] at hf; exact ⟨hf, h2, h3, h4⟩
 ·right
  obtain ⟨e, i, u, x⟩ := MpA.get h h2;simp only [Nat.zero_add] at h1;rw [h1] at hf;simp only [bS, i, Option.map_some, x] at hf;exact ⟨j, e, p.2, hf, i, by rw [u, hk.same _ _ h3], h4, l, t⟩
theorem OpTo.aU {K V : Type} {w0 w : World} {As : List HP} (ek : K -> Value) (ev : V -> Value) {t : TypeId} (i : zO n a L) (H : St w0 As w) (e : o.op = .makeMap t none) : OpTo P o a w fun v w' => ∃ r : Nat, v = .map (some r) /\ St w0 (MpA r ek ev [] :: As) w' := by
 obtain ⟨dst, op, type, pos, after, guard⟩ := o;simp only at e;subst e;refine OpTo.of_run (w' := { w with heap := w.heap.push (.map #[] 0) }) (v := .map (some w.heap.size)) ?_ ⟨w.heap.size, rfl, ?_⟩
 ·simp [execOp, Instr.makeMap, newObj]
  rfl
 ·exact (H.alloc (.map #[] 0)).head fun h hh => ⟨(#[], 0), hh, by simp⟩
theorem nY {mt t : TypeId} {ti : TypeInfo} {z : V} (H : St w0 As w) (i : Nat) (hi : As[i]? = some (MpA r ek ev m)) (hk : sJ P kt ek eq) (ht : P.underlying mt = some (.map kt t)) (hz : P.info? t = some ti) (u : ti.zero = some (ev z)) (ok : Bool) :
  ∀ {g : V × Bool}, s8 eq k z m = some g -> (Instr.lookup mt (.map (some r)) (ek k) ok).run P w = .ok (if ok then .tuple #[ev g.1, .bool g.2] else ev g.1) w := by
 intro g l;obtain ⟨h1, hs, x, hh, B⟩ := H.at i hi;have A : w.heap[r]? = some (.map x.1 x.2) := hs _ _ hh;rcases hk.found w k B with ⟨f1, f2, _, _⟩ | ⟨j, e, v, f1, f2, f3, f4, _, _⟩
 ·have y : (zeroValue t).run P w = .ok (ev z) w := by simp [Go.zeroValue, Go.typeInfo, Sem.run, hz, u]
  simp [Instr.lookup, xm P ht, Go.MapKept.run_getObj_map A, hk.check, f1, y, Result.andThen]; simp [s8, f2] at l; subst l; rfl
 ·simp [Instr.lookup, xm P ht, Go.MapKept.run_getObj_map A, hk.check, f1, Result.andThen]; simp [s8, f4] at l; subst l; rfl
theorem OpTo.bR {mt j : TypeId} {ti : TypeInfo} {z : V} {x y : Operand} (i : Nat) (l : zO n a L) (H : St w0 As w) (hi : As[i]? = some (MpA r ek ev m)) (hk : sJ P kt ek eq) {g : V × Bool} (hl : s8 eq k z m = some g) (t : o.op = .lookup mt x y true)
  (ht : P.underlying mt = some (.map kt j)) (hz : P.info? j = some ti) (e : ti.zero = some (ev z)) (u : evO L x = some (.map (some r))) (A : evO L y = some (ek k)) :
  OpTo P o a w fun v w' => v = .tuple #[ev g.1, .bool g.2] /\ w' = w := by
 obtain ⟨dst, op, type, pos, after, guard⟩ := o;simp only at t;subst t;have hl := nY (k := k) H i hi hk ht hz e true hl;exact OpTo.of_run (w' := w) (by simp [execOp, l.eval u, l.eval A, hl]) ⟨rfl, rfl⟩
theorem OpTo.aT {mt j : TypeId} {ti : TypeInfo} {z : V} {x y : Operand} (i : Nat) (l : zO n a L) (H : St w0 As w) (hi : As[i]? = some (MpA r ek ev m)) (hk : sJ P kt ek eq) {g : V × Bool} (hl : s8 eq k z m = some g) (t : o.op = .lookup mt x y false)
  (ht : P.underlying mt = some (.map kt j)) (hz : P.info? j = some ti) (e : ti.zero = some (ev z)) (u : evO L x = some (.map (some r))) (A : evO L y = some (ek k)) :
  OpTo P o a w fun v w' => v = ev g.1 /\ w' = w := by
 obtain ⟨dst, op, type, pos, after, guard⟩ := o;simp only at t;subst t;have hl := nY (k := k) H i hi hk ht hz e false hl;exact OpTo.of_run (w' := w) (by simp [execOp, l.eval u, l.eval A, hl]) ⟨rfl, rfl⟩
theorem qS {α β : Type} (f : α -> β) : ∀ (l : List α) (j : Nat), (l.eraseIdx j).map f = (l.map f).eraseIdx j
 | [], _ => rfl
 | _ :: _, 0 => rfl
 | x :: l, j + 1 => by simp [qS f l j]
theorem St.dD (H : St w0 (MpA r ek ev m :: As) w) : ∃ es i, St w0 (One r (.map es i) :: As) w /\ es.toList.map (fun e => (e.key, e.val)) = m.map fun p => (ek p.1, ev p.2) := by
 obtain ⟨x, H⟩ := H.ex;have j := H.fact fun h hh => hh.2
 exact ⟨x.1, x.2, H.head fun h hh => hh.1, j⟩
theorem St.eI {es i : Array MapEntry} {u j : Nat} {l : List (K × V)} (H : St w0 (One r (.map es u) :: As) w) (he : i.toList.map (fun e => (e.key, e.val)) = l.map fun p => (ek p.1, ev p.2)) :
  St w0 (MpA r ek ev l :: As) { w with heap := w.heap.setIfInBounds r (.map i j) } := by
 have t := H.one 0 rfl;have := H.set (w' := { w with heap := w.heap.setIfInBounds r (.map i j) }) (o' := .map i j) rfl rfl rfl (Go.MapKept.heap_set t).1 (Go.MapKept.heap_set t).2;exact this.head fun h hh => ⟨(i, j), hh, he⟩
def qM : Op -> Option (TypeId × Operand × Operand × Operand)
 | .mapUpdate t m k x => some (t, m, k, x)
 | .insert t m k x => some (t, m, k, x)
 | _ => none
theorem OpTo.aq {mt F : TypeId} {x y z : Operand} {v : V} (A : zO n a L) (H : St w0 (MpA r ek ev m :: As) w) (hk : sJ P kt ek eq) (D : qM o.op = some (mt, x, y, z))
  (ht : P.underlying mt = some (.map kt F)) (I : evO L x = some (.map (some r))) (J : evO L y = some (ek k)) (hz : evO L z = some (ev v)) : OpTo P o a w fun _ w' => St w0 (MpA r ek ev (mPut eq k v m) :: As) w' := by
 obtain ⟨es, B, H1, he⟩ := H.dD;have u := H1.one 0 rfl;have key : ∃ w', (Instr.mapUpdate mt (.map (some r)) (ek k) (ev v)).run P w = .ok () w' /\ St w0 (MpA r ek ev (mPut eq k v m) :: As) w' := by
  rcases hk.found w k he with ⟨f1, f2, f3, _⟩ | ⟨j, e, O, f1, f2, f3, f4, f5, _⟩
  ·refine ⟨{ w with heap := w.heap.setIfInBounds r (.map (es.push { key := ek k, val := ev v, born := B }) (B + 1)) }, ?_, H1.eI ?_⟩
   ·simp [Instr.mapUpdate, xm P ht, Go.MapKept.run_getObj_map u, hk.check, f1, Go.MapKept.run_setObj_map _ u, Result.andThen]
   ·rw [f3]; simp [he]
  ·have hj : es[j]? = some e := by simpa using f2
   refine ⟨{ w with heap := w.heap.setIfInBounds r (.map (es.modify j fun e => { e with key := ek k, val := ev v }) B) }, ?_, H1.eI ?_⟩
   ·simp [Instr.mapUpdate, xm P ht, Go.MapKept.run_getObj_map u, hk.check, f1, hj, f3, hk.stays, Go.MapKept.run_setObj_map _ u, Result.andThen]
   ·rw [f5];apply List.ext_getElem?;intro i;have hi := congrArg (fun l => l[i]?) he;simp only [List.getElem?_map, Array.getElem?_toList] at hi;simp only [List.getElem?_map, Array.getElem?_toList, Array.getElem?_modify, List.getElem?_set];by_cases t : j = i
    ·subst t;have hl : j < m.length := by
      rw [hj] at hi;cases hm : m[j]? with
      | none => rw [hm] at hi; simp at hi
      | some _ => exact (List.getElem?_eq_some_iff.1 hm).1
     simp [hj, hl]
    ·simp [t, hi]
 obtain ⟨w', h1, h2⟩ := key;obtain ⟨dst, op, type, pos, after, guard⟩ := o;cases op <;> simp only [qM] at D <;> try cases D
 all_goals exact OpTo.jd (w' := w') (by simp [execOp, A.eval I, A.eval J, A.eval hz, h1]) h2
theorem OpTo.ao {mt B : TypeId} {x y : Operand} {ats : Array TypeId} (i : zO n a L) (H : St w0 (MpA r ek ev m :: As) w) (hk : sJ P kt ek eq) (t : o.op = .call { callee := .builtin .delete, args := #[x, y], argTypes := ats }) (ha : ats[0]? = some mt)
  (ht : P.underlying mt = some (.map kt B)) (u : evO L x = some (.map (some r))) (z : evO L y = some (ek k)) : OpTo P o a w fun v w' => v = .tuple #[] /\ St w0 (MpA r ek ev (mDel eq k m) :: As) w' := by
 obtain ⟨es, A, H1, he⟩ := H.dD;have l := H1.one 0 rfl;obtain ⟨dst, op, type, pos, after, guard⟩ := o;simp only at t;subst t;rcases hk.found w k he with ⟨f1, f2, _, f4⟩ | ⟨j, e, D, f1, f2, f3, f4, _, f6⟩
 ·refine OpTo.of_run (w' := { w with heap := w.heap.setIfInBounds r (.map es A) }) (v := .tuple #[]) ?_ ⟨rfl, H1.eI (by rw [f4]; exact he)⟩;simp [execOp, resolve, invoke, builtin, i.eval u, i.eval z, Builtin.delete_, ha, xm P ht, Go.MapKept.run_getObj_map l, hk.check, f1, Go.MapKept.run_setObj_map _ l, Result.andThen]
 ·refine OpTo.of_run (w' := { w with heap := w.heap.setIfInBounds r (.map (es.eraseIdxIfInBounds j) A) }) (v := .tuple #[]) ?_ ⟨rfl, H1.eI ?_⟩
  ·simp [execOp, resolve, invoke, builtin, i.eval u, i.eval z, Builtin.delete_, ha, xm P ht, Go.MapKept.run_getObj_map l, hk.check, f1, Go.MapKept.run_setObj_map _ l, Result.andThen]
  ·rw [f6];have hj : j < es.size := by
    have := (List.getElem?_eq_some_iff.1 f2).1;simpa using this
   simp only [Array.eraseIdxIfInBounds, hj, dif_pos, Array.toList_eraseIdx, qS, he]
end
section
variable {K V : Type} {P : Program} {ek : K -> Value} {ev : V -> Value} {w w0 : World} {As : List HP} {n r : Nat} {L : Env} {o : Oper} {a : Act} {m : List (K × V)}
end
def elemV (sb : Option Addr) (sz : Nat) : Option Int -> Value
 | none => .pointer none
 | some i => match sb with
  | some ⟨b, off, _⟩ => .pointer (some ⟨b, off + (Int.toNat i) * sz, none⟩)
  | none => .pointer none
theorem nX {sb : Option Addr} {sz b off : Nat} {i : Int} (h : sb = some ⟨b, off, none⟩) : elemV sb sz (some i) = .pointer (some ⟨b, off + (Int.toNat i) * sz, none⟩) := by subst h; rfl
def optV {α : Type} (q : Nat) : Option α -> Value
 | none => .pointer none
 | some _ => .pointer (some ⟨q, 0, none⟩)
def OptR {α : Type} (f : α -> HP) : Option α -> HP
 | none => fun _ => True
 | some m => f m
theorem St.optN {α : Type} {f : α -> HP} {w0 w : World} {As : List HP} (H : St w0 As w) : St w0 (OptR f none :: As) w :=
 ⟨H.os, H.tape, H.output, fun _ => none, hpOf w, fun _ => .inl rfl, fun _ _ h => by simp at h, Sub.refl _, trivial, H.heap⟩
def oS {α : Type} : Option α -> Unit ⊕ α
 | none => .inl ()
 | some x => .inr x
def vO {α β : Type} (o : Option α) (n : Option β) (s : α -> Option β) : Option β := match oS o with
 | .inl _ => n
 | .inr x => s x
theorem mK {α β : Type} {o : Option α} {n r : Option β} {s : α -> Option β} (e : o = none) (hm : vO o n s = r) : n = r := by subst e; exact hm
theorem mI {α β : Type} {o : Option α} {n r : Option β} {s : α -> Option β} {x : α} (e : o = some x) (hm : vO o n s = r) : s x = r := by subst e; exact hm
theorem bg {α : Type} {l : List α} {i : Int} {x : α} (h : mIdx l i = some x) : l[i.toNat]? = some x := (s9 h).2
def Pure (q : Prop) : HP := fun _ => q
theorem St.pure {q : Prop} {w0 w : World} {As : List HP} (H : St w0 (Pure q :: As) w) : q /\ St w0 As w := ⟨H.fact fun _ h => h, H.x0⟩
theorem cP {α : Type} {l : List α} {i : Int} {x y : α} (h : mIdx l i = some x) : mIdx (mSet l i y) i = some y := by
 obtain ⟨⟨h0, h1⟩, h2⟩ := s9 h;have hl : i.toNat < l.length := by omega
 simp [mIdx, mSet, h0, hl]
end
noncomputable section
section
variable {H : Type} {en : TypeId × Value -> H} {P : Program} {w : World} {base : Nat} {spare : Nat -> Bool} {held : Bool}
def pg (P : Program) : Nat -> TypeId -> Bool
 | 0, _ => false
 | d + 1, e => match P.underlying e with
  | some (.int .i64) => P.cellsOf e == 1
  | some (.struct fs) => fs.toList.all (fun f => pg P d f.type) && (List.range (P.cellsOf e)).all (fun j => fs.toList.any fun f => Nat.ble f.offset j && Nat.blt j (f.offset + P.cellsOf f.type))
  | _ => false
theorem fV : ∀ (d : Nat) (e : TypeId), pg P d e = true -> ∀ n cs y, DataW.trod en P w base spare held n e cs = some y -> cs.length = P.cellsOf e /\ ∀ (j : Nat) (u : Value), cs[j]? = some u -> ∃ z : Int, u = Value.int .i64 z
 | 0, e, h, _, _, _, _ => by simp [pg] at h
 | d + 1, e, h, n, cs, y, ht => by
  rw [pg] at h;split at h
  ·rename_i hu;obtain ⟨q, rfl, _⟩ := DataW.trod_int hu ht;refine ⟨by simpa using (beq_iff_eq.1 h).symm, fun j u hj => ⟨q, ?_⟩⟩;cases j with
   | zero => simpa using hj.symm
   | succ j => simp at hj
  ·rename_i fs hu;simp only [Bool.and_eq_true, List.all_eq_true] at h;obtain ⟨h1, h2⟩ := h;obtain ⟨xs, m, _, _, hl, B, D⟩ := DataW.trod_struct hu ht;refine ⟨hl, fun j u hj => ?_⟩;have x : j < P.cellsOf e := by rw [<- hl]; exact (List.getElem?_eq_some_iff.1 hj).1
   have h3 := h2 j (List.mem_range.2 x);obtain ⟨f, hf, h4⟩ := List.any_eq_true.1 h3;simp only [Bool.and_eq_true] at h4;have I := Nat.le_of_ble_eq_true h4.1;have J : j < f.offset + P.cellsOf f.type := by
    have := h4.2;simp only [Nat.blt] at this;exact Nat.le_of_ble_eq_true this
   obtain ⟨i, hi⟩ := List.getElem?_of_mem hf;have l : fs[i]? = some f := by simpa using hi
   have t := D i f l;have A : i < xs.length := by
    have := (Array.getElem?_eq_some_iff.1 l).1;omega
   rw [List.getElem?_eq_getElem A] at t;obtain ⟨_, F⟩ := fV d f.type (h1 f hf) _ _ _ t;refine F (j - f.offset) u ?_;rw [List.getElem?_take, if_pos (by omega), List.getElem?_drop];rw [show f.offset + (j - f.offset) = j by omega];exact hj
  ·cases h
theorem eW {e : TypeId} (k : Nat) (hi : pg P 5 e = true) (u : P.cellsOf e = k) : ∀ n cs y, DataW.trod en P w base spare held n e cs = some y -> ∃ z : List Int, z.length = k /\ cs = z.map fun x => .int .i64 x := fun n cs y h => by
 obtain ⟨hl, t⟩ := fV 5 e hi n cs y h;rw [u] at hl;obtain ⟨z, hz, hp⟩ := jh (α := Int) (p := fun i z => cs[i]? = some (.int .i64 z)) k fun i hi => by
  have j : i < cs.length := by omega
  obtain ⟨q, hq⟩ := t i cs[i] (by simp [j]);exact ⟨q, by rw [List.getElem?_eq_getElem j, hq]⟩
 refine ⟨z, hz, ?_⟩;apply List.ext_getElem?;intro i;by_cases A : i < k
 ·have l : i < z.length := by omega
  rw [hp i z[i] (by simp [l])];simp [l]
 ·rw [List.getElem?_eq_none (by omega), List.getElem?_eq_none (by simp; omega)]
end
end
end Go.Th
noncomputable section
namespace Go.Th
end Go.Th
end
namespace Go.Th
noncomputable section
theorem Rd.take {w : World} {xb : Option Addr} {a b : List Value} (h : Rd w xb (a ++ b)) : Rd w xb a := by
 rcases h with h | ⟨e, h1, h2⟩
 ·left
  exact (List.append_eq_nil_iff.1 h).1
 ·refine .inr ⟨e, h1, fun j u hj => h2 j u ?_⟩;rw [List.getElem?_append_left (List.getElem?_eq_some_iff.1 hj).1];exact hj
section
variable {P : Program} {α : Type} {T : TypeId} {enc : α -> List Value} {sz : Nat} {w0 w : World} {As : List HP}
end
end
end Go.Th
namespace Go.Proofs.YtccbfeafebllhaaGreat
open Go.Th
noncomputable section
set_option maxRecDepth 10000
set_option maxHeartbeats 4000000
structure zc where
 At : Int
 Gen : Int
def zc.enc (x : zc) : List Value := [.int .i64 x.At, .int .i64 x.Gen]
theorem zc.yk : xM zc.enc 2 := ⟨fun _ => rfl, fun x u hu => by simp only [zc.enc, iC, List.not_mem_nil, or_false] at hu; rcases hu with rfl | rfl <;> rfl⟩
structure zt where
 Kind : Int
 Queue : Int
 Job : zc
 Time : Int
 Data : Int
def zt.enc (x : zt) : List Value := [.int .i64 x.Kind, .int .i64 x.Queue, .int .i64 x.Job.At, .int .i64 x.Job.Gen, .int .i64 x.Time, .int .i64 x.Data]
theorem zt.yk : xM zt.enc 6 := ⟨fun _ => rfl, fun x u hu => by simp only [zt.enc, iC, List.not_mem_nil, or_false] at hu; rcases hu with rfl | rfl | rfl | rfl | rfl | rfl <;> rfl⟩
structure zY where
 Kind : Int
 Box : Int
 Command : zt
def zY.enc (x : zY) : List Value := [.int .i64 x.Kind, .int .i64 x.Box, .int .i64 x.Command.Kind, .int .i64 x.Command.Queue, .int .i64 x.Command.Job.At, .int .i64 x.Command.Job.Gen, .int .i64 x.Command.Time, .int .i64 x.Command.Data]
theorem zY.yk : xM zY.enc 8 := ⟨fun _ => rfl, fun x u hu => by simp only [zY.enc, iC, List.not_mem_nil, or_false] at hu; rcases hu with rfl | rfl | rfl | rfl | rfl | rfl | rfl | rfl <;> rfl⟩
structure zu where
 f0 : Int
 f1 : Int
 f2 : Int
 f3 : Int
 f4 : Int
 f5 : Int
 f6 : Int
 f7 : Int
 f8 : Int
 f9 : Int
 taken : Bool
def zu.enc (x : zu) : List Value := [.int .i64 x.f0, .int .i64 x.f1, .int .i64 x.f2, .int .i64 x.f3, .int .i64 x.f4, .int .i64 x.f5, .int .i64 x.f6, .int .i64 x.f7, .int .i64 x.f8, .int .i64 x.f9, .bool x.taken]
def zu.rz (x : zu) (i : Int) : Option Int :=
 if i = 0 then some x.f0 else if i = 1 then some x.f1 else if i = 2 then some x.f2 else if i = 3 then some x.f3 else if i = 4 then some x.f4 else if i = 5 then some x.f5 else if i = 6 then some x.f6 else if i = 7 then some x.f7 else if i = 8 then some x.f8 else if i = 9 then some x.f9 else none
def zu.qv (x : zu) (i v : Int) : Option zu :=
 if i = 0 then some (zu.mk v x.f1 x.f2 x.f3 x.f4 x.f5 x.f6 x.f7 x.f8 x.f9 x.taken) else if i = 1 then some (zu.mk x.f0 v x.f2 x.f3 x.f4 x.f5 x.f6 x.f7 x.f8 x.f9 x.taken) else if i = 2 then some (zu.mk x.f0 x.f1 v x.f3 x.f4 x.f5 x.f6 x.f7 x.f8 x.f9 x.taken) else if i = 3 then some (zu.mk x.f0 x.f1 x.f2 v x.f4 x.f5 x.f6 x.f7 x.f8 x.f9 x.taken) else if i = 4 then some (zu.mk x.f0 x.f1 x.f2 x.f3 v x.f5 x.f6 x.f7 x.f8 x.f9 x.taken) else if i = 5 then some (zu.mk x.f0 x.f1 x.f2 x.f3 x.f4 v x.f6 x.f7 x.f8 x.f9 x.taken) else if i = 6 then some (zu.mk x.f0 x.f1 x.f2 x.f3 x.f4 x.f5 v x.f7 x.f8 x.f9 x.taken) else if i = 7 then some (zu.mk x.f0 x.f1 x.f2 x.f3 x.f4 x.f5 x.f6 v x.f8 x.f9 x.taken) else if i = 8 then some (zu.mk x.f0 x.f1 x.f2 x.f3 x.f4 x.f5 x.f6 x.f7 v x.f9 x.taken) else if i = 9 then some (zu.mk x.f0 x.f1 x.f2 x.f3 x.f4 x.f5 x.f6 x.f7 x.f8 v x.taken) else none
theorem zu.yk : xM zu.enc 11 := ⟨fun _ => rfl, fun x u hu => by simp only [zu.enc, iC, List.not_mem_nil, or_false] at hu; rcases hu with rfl | rfl | rfl | rfl | rfl | rfl | rfl | rfl | rfl | rfl | rfl <;> rfl⟩
structure zE where
 steps : Int
 begun : Int
 most : Int
structure za where
 l : List zu
 never : Int
 free : List Int
 m_ : zE
structure zD where
 kind : Int
 root : Int
 n : Int
def zD.enc (x : zD) : List Value := [.int .i64 x.kind, .int .i64 x.root, .int .i64 x.n]
theorem zD.yk : xM zD.enc 3 := ⟨fun _ => rfl, fun x u hu => by simp only [zD.enc, iC, List.not_mem_nil, or_false] at hu; rcases hu with rfl | rfl | rfl <;> rfl⟩
structure zx where
 gen : Int
 taken : Bool
 v_ : zD
def zx.enc (x : zx) : List Value := [.int .i64 x.gen, .bool x.taken, .int .i64 x.v_.kind, .int .i64 x.v_.root, .int .i64 x.v_.n]
theorem zx.yk : xM zx.enc 5 := ⟨fun _ => rfl, fun x u hu => by simp only [zx.enc, iC, List.not_mem_nil, or_false] at hu; rcases hu with rfl | rfl | rfl | rfl | rfl <;> rfl⟩
structure zf where
 most : Int
 l : List zx
 free : List Int
structure zB where
 cell : Int
 heap : zc
def zB.enc (x : zB) : List Value := [.int .i64 x.cell, .int .i64 x.heap.At, .int .i64 x.heap.Gen]
theorem zB.yk : xM zB.enc 3 := ⟨fun _ => rfl, fun x u hu => by simp only [zB.enc, iC, List.not_mem_nil, or_false] at hu; rcases hu with rfl | rfl | rfl <;> rfl⟩
structure zr where
 gen : Int
 taken : Bool
 v_ : zB
def zr.enc (x : zr) : List Value := [.int .i64 x.gen, .bool x.taken, .int .i64 x.v_.cell, .int .i64 x.v_.heap.At, .int .i64 x.v_.heap.Gen]
theorem zr.yk : xM zr.enc 5 := ⟨fun _ => rfl, fun x u hu => by simp only [zr.enc, iC, List.not_mem_nil, or_false] at hu; rcases hu with rfl | rfl | rfl | rfl | rfl <;> rfl⟩
structure zd where
 most : Int
 l : List zr
 free : List Int
structure zj where
 heaps : zf
 items : zd
 at_ : List (Int × zc)
def zc.val (x : zc) : Value := .agg #[.int .i64 x.At, .int .i64 x.Gen]
structure zF where
 Key : Int
 Serial : Int
def zF.enc (x : zF) : List Value := [.int .i64 x.Key, .int .i64 x.Serial]
theorem zF.yk : xM zF.enc 2 := ⟨fun _ => rfl, fun x u hu => by simp only [zF.enc, iC, List.not_mem_nil, or_false] at hu; rcases hu with rfl | rfl <;> rfl⟩
structure zp where
 items : Int
 a_ : za
 t_ : zj
 entries : List (zc × zF)
 serial : Int
def zF.val (x : zF) : Value := .agg #[.int .i64 x.Key, .int .i64 x.Serial]
structure zC where
 Queue : Int
 Time : Int
 Data : Int
 Item : zc
def zC.enc (x : zC) : List Value := [.int .i64 x.Queue, .int .i64 x.Time, .int .i64 x.Data, .int .i64 x.Item.At, .int .i64 x.Item.Gen]
theorem zC.yk : xM zC.enc 5 := ⟨fun _ => rfl, fun x u hu => by simp only [zC.enc, iC, List.not_mem_nil, or_false] at hu; rcases hu with rfl | rfl | rfl | rfl | rfl <;> rfl⟩
structure zs where
 gen : Int
 taken : Bool
 v_ : zC
def zs.enc (x : zs) : List Value := [.int .i64 x.gen, .bool x.taken, .int .i64 x.v_.Queue, .int .i64 x.v_.Time, .int .i64 x.v_.Data, .int .i64 x.v_.Item.At, .int .i64 x.v_.Item.Gen]
theorem zs.yk : xM zs.enc 7 := ⟨fun _ => rfl, fun x u hu => by simp only [zs.enc, iC, List.not_mem_nil, or_false] at hu; rcases hu with rfl | rfl | rfl | rfl | rfl | rfl | rfl <;> rfl⟩
structure ze where
 most : Int
 l : List zs
 free : List Int
structure zo where
 p : ze
 by_ : List (zc × zc)
structure zM where
 now : Int
structure zb where
 kind : Int
 most : Int
 q : zp
 heaps0 : zc
 heaps1 : zc
 t_ : zo
 when : List (zc × Int)
 clock : zM
 budget : Int
 last : Int
 top : Int
structure ya where
 Op : Int
 Kind : Int
 Heap : zc
 Other : zc
 Item : zc
 Key : Int
def ya.enc (x : ya) : List Value := [.int .i64 x.Op, .int .i64 x.Kind, .int .i64 x.Heap.At, .int .i64 x.Heap.Gen, .int .i64 x.Other.At, .int .i64 x.Other.Gen, .int .i64 x.Item.At, .int .i64 x.Item.Gen, .int .i64 x.Key]
theorem ya.yk : xM ya.enc 9 := ⟨fun _ => rfl, fun x u hu => by simp only [ya.enc, iC, List.not_mem_nil, or_false] at hu; rcases hu with rfl | rfl | rfl | rfl | rfl | rfl | rfl | rfl | rfl <;> rfl⟩
structure zJ where
 Why : Int
 Heap : zc
 Item : zc
 Entry : zF
 N : Int
def zJ.enc (x : zJ) : List Value := [.int .i64 x.Why, .int .i64 x.Heap.At, .int .i64 x.Heap.Gen, .int .i64 x.Item.At, .int .i64 x.Item.Gen, .int .i64 x.Entry.Key, .int .i64 x.Entry.Serial, .int .i64 x.N]
theorem zJ.yk : xM zJ.enc 8 := ⟨fun _ => rfl, fun x u hu => by simp only [zJ.enc, iC, List.not_mem_nil, or_false] at hu; rcases hu with rfl | rfl | rfl | rfl | rfl | rfl | rfl | rfl <;> rfl⟩
def ya.val (x : ya) : Value := .agg #[.int .i64 x.Op, .int .i64 x.Kind, .int .i64 x.Heap.At, .int .i64 x.Heap.Gen, .int .i64 x.Other.At, .int .i64 x.Other.Gen, .int .i64 x.Item.At, .int .i64 x.Item.Gen, .int .i64 x.Key]
def zD.val (x : zD) : Value := .agg #[.int .i64 x.kind, .int .i64 x.root, .int .i64 x.n]
structure zk where
 n : Int
 rank : Int
def zk.enc (x : zk) : List Value := [.int .i64 x.n, .int .i64 x.rank]
theorem zk.yk : xM zk.enc 2 := ⟨fun _ => rfl, fun x u hu => by simp only [zk.enc, iC, List.not_mem_nil, or_false] at hu; rcases hu with rfl | rfl <;> rfl⟩
def zk.val (x : zk) : Value := .agg #[.int .i64 x.n, .int .i64 x.rank]
def zB.val (x : zB) : Value := .agg #[.int .i64 x.cell, .int .i64 x.heap.At, .int .i64 x.heap.Gen]
def zc.eq (x y : zc) : Bool := (x.At == y.At && (x.Gen == y.Gen && true))
structure zg where
 c_ : MCh zt
def zt.val (x : zt) : Value := .agg #[.int .i64 x.Kind, .int .i64 x.Queue, .int .i64 x.Job.At, .int .i64 x.Job.Gen, .int .i64 x.Time, .int .i64 x.Data]
structure zh where
 l : List zg
structure zn where
 d : zb
 desk : zh
structure zm where
 Why : Int
 Job : zc
 Time : Int
 Data : Int
 N : Int
def zm.enc (x : zm) : List Value := [.int .i64 x.Why, .int .i64 x.Job.At, .int .i64 x.Job.Gen, .int .i64 x.Time, .int .i64 x.Data, .int .i64 x.N]
theorem zm.yk : xM zm.enc 6 := ⟨fun _ => rfl, fun x u hu => by simp only [zm.enc, iC, List.not_mem_nil, or_false] at hu; rcases hu with rfl | rfl | rfl | rfl | rfl | rfl <;> rfl⟩
structure zw where
 Command : zt
 Reply : zm
 Now : Int
 Steps : Int
def zw.enc (x : zw) : List Value := [.int .i64 x.Command.Kind, .int .i64 x.Command.Queue, .int .i64 x.Command.Job.At, .int .i64 x.Command.Job.Gen, .int .i64 x.Command.Time, .int .i64 x.Command.Data, .int .i64 x.Reply.Why, .int .i64 x.Reply.Job.At, .int .i64 x.Reply.Job.Gen, .int .i64 x.Reply.Time, .int .i64 x.Reply.Data, .int .i64 x.Reply.N, .int .i64 x.Now, .int .i64 x.Steps]
theorem zw.yk : xM zw.enc 14 := ⟨fun _ => rfl, fun x u hu => by simp only [zw.enc, iC, List.not_mem_nil, or_false] at hu; rcases hu with rfl | rfl | rfl | rfl | rfl | rfl | rfl | rfl | rfl | rfl | rfl | rfl | rfl | rfl <;> rfl⟩
structure zq where
 s : zn
 l : List zw
def zC.val (x : zC) : Value := .agg #[.int .i64 x.Queue, .int .i64 x.Time, .int .i64 x.Data, .int .i64 x.Item.At, .int .i64 x.Item.Gen]
def zm.eq (x y : zm) : Bool := (x.Why == y.Why && (zc.eq x.Job y.Job && (x.Time == y.Time && (x.Data == y.Data && (x.N == y.N && true)))))
def zt.eq (x y : zt) : Bool := (x.Kind == y.Kind && (x.Queue == y.Queue && (zc.eq x.Job y.Job && (x.Time == y.Time && (x.Data == y.Data && true)))))
def zw.eq (x y : zw) : Bool := (zt.eq x.Command y.Command && (zm.eq x.Reply y.Reply && (x.Now == y.Now && (x.Steps == y.Steps && true))))
structure yH where
 Kind : Int
 Queue : Int
 Job : Int
 Data : Int
 Time : Int
 Raw : zt
def yH.enc (x : yH) : List Value := [.int .i64 x.Kind, .int .i64 x.Queue, .int .i64 x.Job, .int .i64 x.Data, .int .i64 x.Time, .int .i64 x.Raw.Kind, .int .i64 x.Raw.Queue, .int .i64 x.Raw.Job.At, .int .i64 x.Raw.Job.Gen, .int .i64 x.Raw.Time, .int .i64 x.Raw.Data]
theorem yH.yk : xM yH.enc 11 := ⟨fun _ => rfl, fun x u hu => by simp only [yH.enc, iC, List.not_mem_nil, or_false] at hu; rcases hu with rfl | rfl | rfl | rfl | rfl | rfl | rfl | rfl | rfl | rfl | rfl <;> rfl⟩
structure yd where
 Kind : Int
 Box : Int
 D : yH
 Raw : zY
def yd.enc (x : yd) : List Value := [.int .i64 x.Kind, .int .i64 x.Box, .int .i64 x.D.Kind, .int .i64 x.D.Queue, .int .i64 x.D.Job, .int .i64 x.D.Data, .int .i64 x.D.Time, .int .i64 x.D.Raw.Kind, .int .i64 x.D.Raw.Queue, .int .i64 x.D.Raw.Job.At, .int .i64 x.D.Raw.Job.Gen, .int .i64 x.D.Raw.Time, .int .i64 x.D.Raw.Data, .int .i64 x.Raw.Kind, .int .i64 x.Raw.Box, .int .i64 x.Raw.Command.Kind, .int .i64 x.Raw.Command.Queue, .int .i64 x.Raw.Command.Job.At, .int .i64 x.Raw.Command.Job.Gen, .int .i64 x.Raw.Command.Time, .int .i64 x.Raw.Command.Data]
theorem yd.yk : xM yd.enc 21 := ⟨fun _ => rfl, fun x u hu => by simp only [yd.enc, iC, List.not_mem_nil, or_false] at hu; rcases hu with rfl | rfl | rfl | rfl | rfl | rfl | rfl | rfl | rfl | rfl | rfl | rfl | rfl | rfl | rfl | rfl | rfl | rfl | rfl | rfl | rfl <;> rfl⟩
def yH.val (x : yH) : Value := .agg #[.int .i64 x.Kind, .int .i64 x.Queue, .int .i64 x.Job, .int .i64 x.Data, .int .i64 x.Time, .int .i64 x.Raw.Kind, .int .i64 x.Raw.Queue, .int .i64 x.Raw.Job.At, .int .i64 x.Raw.Job.Gen, .int .i64 x.Raw.Time, .int .i64 x.Raw.Data]
def yd.val (x : yd) : Value := .agg #[.int .i64 x.Kind, .int .i64 x.Box, .int .i64 x.D.Kind, .int .i64 x.D.Queue, .int .i64 x.D.Job, .int .i64 x.D.Data, .int .i64 x.D.Time, .int .i64 x.D.Raw.Kind, .int .i64 x.D.Raw.Queue, .int .i64 x.D.Raw.Job.At, .int .i64 x.D.Raw.Job.Gen, .int .i64 x.D.Raw.Time, .int .i64 x.D.Raw.Data, .int .i64 x.Raw.Kind, .int .i64 x.Raw.Box, .int .i64 x.Raw.Command.Kind, .int .i64 x.Raw.Command.Queue, .int .i64 x.Raw.Command.Job.At, .int .i64 x.Raw.Command.Job.Gen, .int .i64 x.Raw.Command.Time, .int .i64 x.Raw.Command.Data]
structure zy where
 Most : Int
 Gens : List Int
 In : List Bool
 V : List Int
 Back : List Int
structure zH where
 Queue : Int
 Data : Int
 E : zF
 R : zc
def zH.enc (x : zH) : List Value := [.int .i64 x.Queue, .int .i64 x.Data, .int .i64 x.E.Key, .int .i64 x.E.Serial, .int .i64 x.R.At, .int .i64 x.R.Gen]
theorem zH.yk : xM zH.enc 6 := ⟨fun _ => rfl, fun x u hu => by simp only [zH.enc, iC, List.not_mem_nil, or_false] at hu; rcases hu with rfl | rfl | rfl | rfl | rfl | rfl <;> rfl⟩
structure zi where
 Most : Int
 Now : Int
 Next : Int
 Pool : zy
 L : List zH
def xi (n : Int) (lo : Int) (hi : Int) : Option (Int) :=
 (bif (decide (n >= lo)) && (decide (n <= hi)) then
  some n
 else
  (mNz (w64 ((w64 (hi - lo)) + 1))).bind fun u =>
  ((bif decide (Int.tmod n (w64 ((w64 (hi - lo)) + 1)) < 0) then
   some (w64 ((w64 ((w64 ((Int.tmod n (w64 ((w64 (hi - lo)) + 1))) + hi)) - lo)) + 1))
  else
   some (Int.tmod n (w64 ((w64 (hi - lo)) + 1))))).bind fun s =>
  some (w64 (lo + s)))
def uC (e : Int) : Option (Bool) :=
 some ((decide (e >= 1)) && (decide (e <= 3)))
def bits_Len64 (x : Int) : Option (Int) :=
 ((bif decide (x >= 4294967296) then
  some (Int.fdiv x (2 ^ (min (Int.toNat 32) 64)), 32)
 else
  some (x, 0))).bind fun s =>
 ((bif decide (s.1 >= 65536) then
  some (Int.fdiv s.1 (2 ^ (min (Int.toNat 16) 64)), w64 (s.2 + 16))
 else
  some (s.1, s.2))).bind fun s1 =>
 ((bif decide (s1.1 >= 256) then
  some (Int.fdiv s1.1 (2 ^ (min (Int.toNat 8) 64)), w64 (s1.2 + 8))
 else
  some (s1.1, s1.2))).bind fun s2 =>
 (dV (ByteArray.mk #[0, 1, 2, 2, 3, 3, 3, 3, 4, 4, 4, 4, 4, 4, 4, 4, 5, 5, 5, 5, 5, 5, 5, 5, 5, 5, 5, 5, 5, 5, 5, 5, 6, 6, 6, 6, 6, 6, 6, 6, 6, 6, 6, 6, 6, 6, 6, 6, 6, 6, 6, 6, 6, 6, 6, 6, 6, 6, 6, 6, 6, 6, 6, 6, 7, 7, 7, 7, 7, 7, 7, 7, 7, 7, 7, 7, 7, 7, 7, 7, 7, 7, 7, 7, 7, 7, 7, 7, 7, 7, 7, 7, 7, 7, 7, 7, 7, 7, 7, 7, 7, 7, 7, 7, 7, 7, 7, 7, 7, 7, 7, 7, 7, 7, 7, 7, 7, 7, 7, 7, 7, 7, 7, 7, 7, 7, 7, 7, 8, 8, 8, 8, 8, 8, 8, 8, 8, 8, 8, 8, 8, 8, 8, 8, 8, 8, 8, 8, 8, 8, 8, 8, 8, 8, 8, 8, 8, 8, 8, 8, 8, 8, 8, 8, 8, 8, 8, 8, 8, 8, 8, 8, 8, 8, 8, 8, 8, 8, 8, 8, 8, 8, 8, 8, 8, 8, 8, 8, 8, 8, 8, 8, 8, 8, 8, 8, 8, 8, 8, 8, 8, 8, 8, 8, 8, 8, 8, 8, 8, 8, 8, 8, 8, 8, 8, 8, 8, 8, 8, 8, 8, 8, 8, 8, 8, 8, 8, 8, 8, 8, 8, 8, 8, 8, 8, 8, 8, 8, 8, 8, 8, 8, 8, 8, 8, 8, 8, 8, 8, 8, 8, 8, 8, 8, 8, 8]) (IntKind.wrap .u8 (s2.1))).bind fun c_ =>
 some (w64 (s2.2 + (w64 (c_))))
def bits_Len (x : Int) : Option (Int) :=
 (bits_Len64 x).bind fun t_ =>
 some t_
def r8 (n : Int) : Option (Int) :=
 (bits_Len (IntKind.wrap .u64 ((if n > 0 then n else 0)))).bind fun t_ =>
 some t_
def vq (a_ : Int) (b : Int) : Option (Int) :=
 (bif (decide (b > 0)) && (decide (a_ > w64 (9223372036854775807 - b))) then
  some 9223372036854775807
 else
  (bif (decide (b < 0)) && (decide (a_ < w64 ((-9223372036854775808) - b))) then
   some (-9223372036854775808)
  else
   some (w64 (a_ + b))))
def w5 (j : Int) (x1 : Int) : Nat -> Int -> Int -> Option (Int)
 | 0, _, _ => none
 | m + 1, e, x =>
  (bif decide (x < x1) then
   (vq e j).bind fun i =>
   w5 j x1 m i (w64 (x + 1))
  else
   some e)
def qq (k : Nat) (a_ : Int) (b : Int) (n : Int) : Option (Int) :=
 (r8 n).bind fun t_ =>
 (w5 b t_ k a_ 0).bind fun s =>
 some s
def sd (k : Nat) (i : Int) (items : Int) : Option (Int × Bool) :=
 ((uC i).bind fun t_ =>
 (bif !t_ then
  some true
 else
  (bif decide (items < 1) then
   some true
  else
   some (decide (items > 4096))))).bind fun s =>
 (bif s then
  some (0, false)
 else
  (qq k 2000 1600 (w64 (items + 1))).bind fun e =>
  some (e, true))
def o9  : Option (zE) :=
 some (zE.mk 0 0 0)
def qO (cells : Int) : Option (za) :=
 (iJ (if (if 65536 < cells then 65536 else cells) > 0 then (if 65536 < cells then 65536 else cells) else 0) (zu.mk 0 0 0 0 0 0 0 0 0 0 false)).bind fun l =>
 (o9).bind fun t_ =>
 some (za.mk l 0 ([] : List Int) t_)
def ub (places : Int) : Option (zf) :=
 some (zf.mk (if (if 65536 < places then 65536 else places) > 0 then (if 65536 < places then 65536 else places) else 0) ([] : List zx) ([] : List Int))
def vJ (places : Int) : Option (zd) :=
 some (zd.mk (if (if 65536 < places then 65536 else places) > 0 then (if 65536 < places then 65536 else places) else 0) ([] : List zr) ([] : List Int))
def nB (items : Int) : Option (zj) :=
 (ub 64).bind fun t_ =>
 (vJ (if (if 16384 < items then 16384 else items) > 1 then (if 16384 < items then 16384 else items) else 1)).bind fun e =>
 some (zj.mk t_ e ([] : List (Int × zc)))
def jR (items : Int) : Option ((Option zp) × Int) :=
 (bif (decide (items < 1)) || (decide (items > 16384)) then
  some ((none : Option zp), 1)
 else
  (qO (w64 (2 * items))).bind fun t_ =>
  (nB items).bind fun e =>
  some (some (zp.mk items t_ e ([] : List (zc × zF)) 0), 0))
def uN (places : Int) : Option (ze) :=
 some (ze.mk (if (if 65536 < places then 65536 else places) > 0 then (if 65536 < places then 65536 else places) else 0) ([] : List zs) ([] : List Int))
def qK (e : Int) : Option (zo) :=
 (uN (if (if 4096 < e then 4096 else e) > 1 then (if 4096 < e then 4096 else e) else 1)).bind fun t_ =>
 some (zo.mk t_ ([] : List (zc × zc)))
def qY  : Option (zM) :=
 some (zM.mk 0)
def wk (c_ : ya) : Option (zJ) :=
 none
def uG (a_ : za) : Option (Unit) :=
 some ()
def sP (m_ : zE) : Option (Int) :=
 some (w64 (m_.steps - m_.begun))
def rv (m_ : zE) : Option (Int) :=
 (sP m_).bind fun t_ =>
 some (if t_ > m_.most then t_ else m_.most)
def uJ (m_ : zE) : Option (zE) :=
 (rv m_).bind fun t_ =>
 some (zE.mk m_.steps m_.steps t_)
def r4 (e : Int) : Option (Bool) :=
 some ((decide (e >= 1)) && (decide (e <= 5)))
def yz (p : zf) (v_ : zD) : Option (zc × Bool × zf) :=
 ((bif decide (w64 ((p.free.length : Int) - 1) >= 0) then
  (mIdx p.free (w64 ((p.free.length : Int) - 1))).bind fun x =>
  (mCut p.free 0 (w64 ((p.free.length : Int) - 1))).bind fun l =>
  some (.inr (x, zf.mk p.most p.l l))
 else
  (bif decide ((p.l.length : Int) >= p.most) then
   some (.inl (zc.mk 0 0, false, p))
  else
   (mApp p.l ([zx.mk 0 false (zD.mk 0 0 0)] : List zx)).bind fun l1 =>
   some (.inr ((p.l.length : Int), zf.mk p.most l1 p.free)))) : Option ((zc × Bool × zf) ⊕ (Int × zf))).bind fun s =>
 match s with
 | .inl e => some e
 | .inr s1 =>
  (mIdx s1.2.l s1.1).bind fun x1 =>
  some (zc.mk s1.1 (w64 (x1.gen + 1)), true, zf.mk s1.2.most (mSet (mSet (mSet s1.2.l s1.1 (zx.mk (w64 (x1.gen + 1)) x1.taken x1.v_)) s1.1 (zx.mk (w64 (x1.gen + 1)) true x1.v_)) s1.1 (zx.mk (w64 (x1.gen + 1)) true v_)) s1.2.free)
def vU (t_ : zj) (j : Int) : Option (zc × Int × zj) :=
 (r4 j).bind fun i =>
 (bif !i then
  some (zc.mk 0 0, 24, t_)
 else
  (yz t_.heaps (zD.mk j (-1) 0)).bind fun e =>
  (bif !e.2.1 then
   some (zc.mk 0 0, 13, zj.mk e.2.2 t_.items t_.at_)
  else
   some (e.1, 0, zj.mk e.2.2 t_.items t_.at_)))
def yO (p : zf) (r : zc) : Option ((Option Int) × Int) :=
 ((bif decide (r.At < 0) then
  some true
 else
  (bif decide (r.At >= (p.l.length : Int)) then
   some true
  else
   (bif decide (r.Gen < 1) then
    some true
   else
    (mIdx p.l r.At).bind fun x1 =>
    some (decide (r.Gen > x1.gen)))))).bind fun s =>
 (bif s then
  some ((none : Option Int), 22)
 else
  (mIdx p.l r.At).bind fun x2 =>
  (bif (decide (r.Gen < x2.gen)) || (!x2.taken) then
   some ((none : Option Int), 23)
  else
   some ((some r.At : Option Int), 0)))
def yr (p : zf) (r : zc) : Option (zD × Int) :=
 (yO p r).bind fun t_ =>
 (vO t_.1
  ((bif t_.2 != 0 then
   some (zD.mk 0 0 0, t_.2)
  else
   none))
  (fun i =>
  (mIdx p.l i).bind fun x =>
  (bif t_.2 != 0 then
   some (zD.mk 0 0 0, t_.2)
  else
   some (x.v_, 0))))
def yX (t_ : zj) (i : zc) : Option (Int × Int × Int × Int) :=
 (yr t_.heaps i).bind fun e =>
 some (e.1.kind, e.1.root, e.1.n, e.2)
def w3 (e : Int) : Option (zJ) :=
 some (zJ.mk e (zc.mk 0 0) (zc.mk 0 0) (zF.mk 0 0) 0)
def yM (p : zd) : Option (Int) :=
 some (w64 ((p.l.length : Int) - (p.free.length : Int)))
def vE (t_ : zj) : Option (Int) :=
 (yM t_.items).bind fun e =>
 some e
def y6 (m_ : zE) (n : Int) : Option (zE) :=
 (vq m_.steps (if n > 0 then n else 0)).bind fun t_ =>
 some (zE.mk t_ m_.begun m_.most)
def sW  : Option (zu) :=
 some (zu.mk (-1) (-1) (-1) (-1) 0 0 (-1) 0 0 (-1) true)
def w2 (a_ : za) : Option (Int × Bool × za) :=
 (y6 a_.m_ 1).bind fun t_ =>
 ((bif decide (w64 ((a_.free.length : Int) - 1) >= 0) then
  (mIdx a_.free (w64 ((a_.free.length : Int) - 1))).bind fun x =>
  (mCut a_.free 0 (w64 ((a_.free.length : Int) - 1))).bind fun l =>
  some (.inr (x, za.mk a_.l a_.never l t_))
 else
  (bif decide (a_.never >= (a_.l.length : Int)) then
   some (.inl ((-1), false, za.mk a_.l a_.never a_.free t_))
  else
   some (.inr (a_.never, za.mk a_.l (w64 (a_.never + 1)) a_.free t_)))) : Option ((Int × Bool × za) ⊕ (Int × za))).bind fun s =>
 match s with
 | .inl i => some i
 | .inr s1 =>
  (sW).bind fun e =>
  (mIdx s1.2.l s1.1).bind fun x1 =>
  some (s1.1, true, za.mk (mSet s1.2.l s1.1 e) s1.2.never s1.2.free s1.2.m_)
def yg (a_ : za) (c_ : Int) : Option (Bool) :=
 ((bif decide (c_ >= 0) then
  (bif decide (c_ < (a_.l.length : Int)) then
   (mIdx a_.l c_).bind fun x1 =>
   some x1.taken
  else
   some false)
 else
  some false)).bind fun s =>
 some s
def xN (a_ : za) (c_ : Int) (field : Int) : Option (Bool) :=
 ((yg a_ c_).bind fun t_ =>
 (bif t_ then
  (bif decide (field >= 0) then
   some (decide (field < 10))
  else
   some false)
 else
  some false)).bind fun s =>
 some s
def zA (a_ : za) (c_ : Int) (field : Int) (v_ : Int) : Option (Bool × za) :=
 (y6 a_.m_ 1).bind fun t_ =>
 (xN (za.mk a_.l a_.never a_.free t_) c_ field).bind fun e =>
 (bif !e then
  some (false, za.mk a_.l a_.never a_.free t_)
 else
  (mIdx a_.l c_).bind fun x =>
  (mIn field 10).bind fun u =>
  (zu.qv x field v_).bind fun y =>
  some (true, za.mk (mSet a_.l c_ y) a_.never a_.free t_))
def ot (a_ : za) (key : Int) (serial : Int) : Option (Int × Bool × za) :=
 (w2 a_).bind fun t_ =>
 ((bif t_.2.1 then
  (zA t_.2.2 t_.1 7 key).bind fun e =>
  (zA e.2 t_.1 8 serial).bind fun i =>
  some i.2
 else
  some t_.2.2)).bind fun s =>
 some (t_.1, t_.2.1, s)
def rX (a_ : za) (n : Int) (i : Int) : Option (za) :=
 (zA a_ n 6 i).bind fun t_ =>
 (zA t_.2 i 9 n).bind fun e =>
 some e.2
def rU (a_ : za) (i : Int) : Option (Int × Bool × za) :=
 (w2 a_).bind fun t_ =>
 ((bif t_.2.1 then
  (rX t_.2.2 t_.1 i).bind fun e =>
  some e
 else
  some t_.2.2)).bind fun s =>
 some (t_.1, t_.2.1, s)
def xx (a_ : za) : Option (Int) :=
 some (a_.l.length : Int)
def zS (a_ : za) (c_ : Int) (field : Int) : Option (Int × za) :=
 (y6 a_.m_ 1).bind fun t_ =>
 (xN (za.mk a_.l a_.never a_.free t_) c_ field).bind fun e =>
 (bif !e then
  some ((-1), za.mk a_.l a_.never a_.free t_)
 else
  (mIdx a_.l c_).bind fun x =>
  (mIn field 10).bind fun u =>
  (zu.rz x field).bind fun v_ =>
  some (v_, za.mk a_.l a_.never a_.free t_))
def zG (a_ : za) (c_ : Int) (field : Int) : Option (Int × za) :=
 (zS a_ c_ field).bind fun t_ =>
 ((bif decide (t_.1 < 0) then
  some true
 else
  some (decide (t_.1 >= (t_.2.l.length : Int))))).bind fun s =>
 (bif s then
  some ((-1), t_.2)
 else
  some (t_.1, t_.2))
def sU (a_ : za) (i : Int) : Option (zF × za) :=
 (zS a_ i 7).bind fun t_ =>
 (zS t_.2 i 8).bind fun e =>
 some (zF.mk t_.1 e.1, e.2)
def vv (x : Int) : Option (Bool) :=
 some (x != x)
def wO (x : Int) (y : Int) : Option (Int) :=
 (vv x).bind fun t_ =>
 (vv y).bind fun e =>
 (bif t_ then
  (bif e then
   some 0
  else
   some (-1))
 else
  (bif e then
   some 1
  else
   (bif decide (x < y) then
    some (-1)
   else
    (bif decide (x > y) then
     some 1
    else
     some 0))))
def vF (x1 : Int) (l : List Int) : Nat -> Int -> Option ((Int) ⊕ (Unit))
 | 0, _ => none
 | m + 1, x =>
  (bif decide (x < x1) then
   (mIdx l x).bind fun x2 =>
   (bif x2 != 0 then
    some (.inl x2)
   else
    vF x1 l m (w64 (x + 1)))
  else
   some (.inr ()))
def r9 (k : Nat) (e : List Int) : Option (Int) :=
 (vF (e.length : Int) e k 0).bind fun s =>
 match s with
 | .inl i => some i
 | .inr s1 =>
  some 0
def tn (k : Nat) (a_ : zF) (b : zF) : Option (Int) :=
 (wO a_.Key b.Key).bind fun t_ =>
 (wO a_.Serial b.Serial).bind fun e =>
 (r9 k ([t_, e] : List Int)).bind fun i =>
 some i
def rm (k : Nat) (a_ : za) (i : Int) (j : Int) : Option (Bool × za) :=
 (sU a_ i).bind fun t_ =>
 (sU t_.2 j).bind fun e =>
 (tn k t_.1 e.1).bind fun l =>
 some ((decide (l < 0)) || ((l == 0) && (decide (i < j))), e.2)
def vA (k : Nat) (a_ : za) (n : Int) (m_ : Int) : Option (Bool × za) :=
 (zG a_ n 6).bind fun t_ =>
 (zG t_.2 m_ 6).bind fun e =>
 (rm k e.2 t_.1 e.1).bind fun i =>
 some (i.1, i.2)
def uT (a_ : za) (n : Int) : Option (Int × za) :=
 (bif n == (-1) then
  some (0, a_)
 else
  (zS a_ n 4).bind fun t_ =>
  some (t_.1, t_.2))
def tH (a_ : za) (n : Int) : Option (Bool × za) :=
 (zG a_ n 2).bind fun t_ =>
 (zG t_.2 n 3).bind fun i =>
 (uT i.2 t_.1).bind fun j =>
 (uT j.2 i.1).bind fun e =>
 ((bif decide (j.1 < e.1) then
  (zA e.2 n 2 i.1).bind fun t =>
  (zA t.2 n 3 t_.1).bind fun u =>
  some (j.1, u.2)
 else
  some (e.1, e.2))).bind fun s =>
 (zS s.2 n 4).bind fun l =>
 (zA l.2 n 4 (w64 (s.1 + 1))).bind fun x =>
 some (l.1 != (w64 (s.1 + 1)), x.2)
def wP : Nat -> Int -> Int -> (List Int) -> za -> Option (Int × Int × (List Int) × za)
 | 0, _, _, _, _ => none
 | m + 1, r1, s1, path, m_ =>
  ((bif r1 != (-1) then
   (bif s1 != (-1) then
    (xx m_).bind fun t_ =>
    some (decide ((path.length : Int) <= t_))
   else
    some false)
  else
   some false)).bind fun t =>
  (bif t then
   (vA m m_ s1 r1).bind fun e =>
   ((bif e.1 then
    some (s1, r1)
   else
    some (r1, s1))).bind fun j =>
   (mApp path ([j.1] : List Int)).bind fun l =>
   (zG e.2 j.1 3).bind fun i =>
   wP m i.1 j.2 l i.2
  else
   some (r1, s1, path, m_))
def xP (l1 : List Int) : Nat -> Int -> Int -> za -> Option (Int × za)
 | 0, _, _, _ => none
 | m + 1, top, e, i =>
  (bif decide (e >= 0) then
   (mIdx l1 e).bind fun x =>
   (zA i x 3 top).bind fun j =>
   (mIdx l1 e).bind fun x1 =>
   (zA j.2 top 0 x1).bind fun l =>
   (mIdx l1 e).bind fun x2 =>
   (tH l.2 x2).bind fun t =>
   xP l1 m x2 (w64 (e - 1)) t.2
  else
   some (top, i))
def wR (k : Nat) (a_ : za) (r : Int) (s : Int) : Option (Int × za) :=
 (bif r == s then
  some (r, a_)
 else
  (wP k r s ([] : List Int) a_).bind fun s2 =>
  (xP s2.2.2.1 k (if s2.2.1 > s2.1 then s2.2.1 else s2.1) (w64 ((s2.2.2.1.length : Int) - 1)) s2.2.2.2).bind fun e =>
  (zA e.2 e.1 0 (-1)).bind fun i =>
  some (e.1, i.2))
def tY (k : Nat) (a_ : za) (r : Int) (i : Int) : Option (Int × Bool × za) :=
 (rU a_ i).bind fun t_ =>
 (bif !t_.2.1 then
  some (r, false, t_.2.2)
 else
  (zA t_.2.2 t_.1 4 1).bind fun j =>
  (wR k j.2 r t_.1).bind fun e =>
  some (e.1, true, e.2))
def uI (e : Int) : Nat -> Int -> (List Int) -> za -> Option ((List Int) × za)
 | 0, _, _, _ => none
 | m + 1, j, out, m_ =>
  ((yg m_ j).bind fun t_ =>
  (bif t_ then
   (xx m_).bind fun t =>
   some (decide ((out.length : Int) < t))
  else
   some false)).bind fun s1 =>
  (bif s1 then
   (mApp out ([j] : List Int)).bind fun l =>
   (zG m_ j e).bind fun i =>
   uI e m i.1 l i.2
  else
   some (out, m_))
def q9 (k : Nat) (a_ : za) (n : Int) (field : Int) : Option ((List Int) × za) :=
 (uI field k n ([] : List Int) a_).bind fun s =>
 some (s.1, s.2)
def xT (k : Nat) (a_ : za) (r : Int) : Option ((List Int) × za) :=
 (q9 k a_ r 3).bind fun t_ =>
 some (t_.1, t_.2)
def vS (x : zk) (y : zk) : Option (Int) :=
 some (if (if 1 < w64 (x.rank - y.rank) then 1 else w64 (x.rank - y.rank)) > (-1) then (if 1 < w64 (x.rank - y.rank) then 1 else w64 (x.rank - y.rank)) else (-1))
def zP (i : Int) (l : Int) (i1 : Int) : Nat -> Int -> (List zk) -> Option ((List zk))
 | 0, _, _ => none
 | m + 1, j, e =>
  ((bif decide (j > i) then
   (mIdx e j).bind fun x1 =>
   (mIdx e (w64 (j - 1))).bind fun x2 =>
   (vS x1 x2).bind fun t_ =>
   some (decide (t_ < 0))
  else
   some false)).bind fun s2 =>
  (bif s2 then
   (mIdx e (w64 (j - 1))).bind fun x3 =>
   (mIdx e j).bind fun x4 =>
   (mIdx e j).bind fun x5 =>
   (mIdx (mSet e j x3) (w64 (j - 1))).bind fun x6 =>
   zP i l i1 m (w64 (j - 1)) (mSet (mSet e j x3) (w64 (j - 1)) x4)
  else
   some e)
def zI (e : Int) (j : Int) : Nat -> Int -> (List zk) -> Option ((List zk))
 | 0, _, _ => none
 | m + 1, i, m_ =>
  (bif decide (i < j) then
   (zP e j i m i m_).bind fun s1 =>
   zI e j m (w64 (i + 1)) s1
  else
   some m_)
def zL (k : Nat) (data : List zk) (a_ : Int) (b : Int) : Option ((List zk)) :=
 (zI a_ b k (w64 (a_ + 1)) data).bind fun s =>
 (pM s.length data.length).bind fun u =>
 some s
def zW (e : Int) : Nat -> Int -> Int -> (List zk) -> Option (Int × (List zk))
 | 0, _, _, _ => none
 | m + 1, a_, b, m_ =>
  (bif decide (b <= e) then
   (zL m m_ a_ b).bind fun t_ =>
   zW e m b (w64 (b + 20)) t_
  else
   some (a_, m_))
def xt (j : Int) (e : Int) (l1 : List zk) : Nat -> Int -> Int -> Option (Int)
 | 0, _, _ => none
 | m + 1, i, l =>
  (bif decide (l <= j) then
   none
  else
   some i)
def yf (i : Int) (l : List zk) : Nat -> Int -> Option (Unit)
 | 0, _ => none
 | m + 1, e =>
  (bif decide (e < i) then
   (xt i e l m 0 (w64 (2 * e))).bind fun s2 =>
   ((bif decide (w64 (s2 + e) < i) then
    none
   else
    some ())).bind fun j =>
   yf i l m (w64 (e * 2))
  else
   some ())
def yY (k : Nat) (data : List zk) (n : Int) : Option ((List zk)) :=
 (zW n k 0 20 data).bind fun s =>
 (zL k s.2 s.1 n).bind fun e =>
 (yf n e k 20).bind fun s1 =>
 (pM e.length data.length).bind fun u =>
 some e
def yx (k : Nat) (x : List zk) : Option ((List zk)) :=
 (yY k x (x.length : Int)).bind fun t_ =>
 (pM t_.length x.length).bind fun u =>
 some t_
def ue (a_ : za) (n : Int) (up : Int) : Option (za) :=
 (zG a_ up 1).bind fun t_ =>
 (zA t_.2 n 3 t_.1).bind fun e =>
 (zA e.2 n 0 up).bind fun i =>
 (zA i.2 up 1 n).bind fun j =>
 some j.2
def uO (k : Nat) (a_ : za) (n : Int) (m_ : Int) (rank : Int) : Option (Int × za) :=
 (vA k a_ m_ n).bind fun t_ =>
 ((bif t_.1 then
  some (m_, n)
 else
  some (n, m_))).bind fun s =>
 (ue t_.2 s.2 s.1).bind fun e =>
 (zA e s.1 4 (w64 (rank + 1))).bind fun i =>
 some (s.1, i.2)
def uh (l1 : List Int) : Nat -> Int -> Int -> za -> Option (Int × za)
 | 0, _, _, _ => none
 | m + 1, next, e, m_ =>
  (bif decide (e >= 0) then
   (mIdx l1 e).bind fun x =>
   (zA m_ x 3 next).bind fun t_ =>
   (mIdx l1 e).bind fun x1 =>
   (zA t_.2 x1 0 (-1)).bind fun i =>
   (mIdx l1 e).bind fun x2 =>
   uh l1 m x2 (w64 (e - 1)) i.2
  else
   some (next, m_))
def qP (k : Nat) (a_ : za) (l : List Int) : Option (Int × za) :=
 (uh l k (-1) (w64 ((l.length : Int) - 1)) a_).bind fun s =>
 some (s.1, s.2)
def w4 (x1 : Int) (l1 : List Int) : Nat -> (List zk) -> Int -> za -> Option ((List zk) × za)
 | 0, _, _, _ => none
 | m + 1, wait, x, m_ =>
  (bif decide (x < x1) then
   (mIdx l1 x).bind fun x2 =>
   (zS m_ x2 4).bind fun t_ =>
   (mApp wait ([zk.mk x2 t_.1] : List zk)).bind fun e =>
   w4 x1 l1 m e (w64 (x + 1)) t_.2
  else
   some (wait, m_))
def w6 (j : List zk) (v_ : Int) (e : Int) (t : List Int) (l : za) (u : List Int) : Nat -> Int -> Option (Int)
 | 0, _ => none
 | m + 1, i =>
  ((bif decide (i < (j.length : Int)) then
   (mIdx j i).bind fun x8 =>
   some (decide (x8.rank < e))
  else
   some false)).bind fun x =>
  (bif x then
   w6 j v_ e t l u m (w64 (i + 1))
  else
   some i)
def wj (l : List Int) : Nat -> (List zk) -> (List Int) -> za -> Option ((List Int) × za)
 | 0, _, _, _ => none
 | m + 1, e, out, j =>
  (bif decide ((e.length : Int) > 0) then
   (mIdx e 0).bind fun x3 =>
   ((bif (e.length : Int) == 1 then
    some true
   else
    (mIdx e 1).bind fun x5 =>
    some (x5.rank != x3.rank))).bind fun s2 =>
   (bif s2 then
    (mCut e 1 (e.length : Int)).bind fun x =>
    (mApp out ([x3.n] : List Int)).bind fun y =>
    wj l m x y j
   else
    (mIdx e 1).bind fun x6 =>
    (uO m j x3.n x6.n x3.rank).bind fun i =>
    (mCut e 2 (e.length : Int)).bind fun u =>
    (w6 u ((zk.mk i.1 (w64 (x3.rank + 1))).n) ((zk.mk i.1 (w64 (x3.rank + 1))).rank) out i.2 l m 0).bind fun z =>
    (qD u z ([(zk.mk i.1 (w64 (x3.rank + 1)))] : List zk)).bind fun t =>
    wj l m t out i.2)
  else
   some (out, j))
def wT (k : Nat) (a_ : za) (l : List Int) : Option (Int × za) :=
 (w4 (l.length : Int) l k ([] : List zk) 0 a_).bind fun s =>
 (yx k s.1).bind fun i =>
 (wj l k i ([] : List Int) s.2).bind fun s1 =>
 (qP k s1.2 s1.1).bind fun e =>
 some (e.1, e.2)
def uz (k : Nat) (a_ : za) (r : Int) (i : Int) : Option (Int × Bool × za) :=
 (rU a_ i).bind fun t_ =>
 (bif !t_.2.1 then
  some (r, false, t_.2.2)
 else
  (xT k t_.2.2 r).bind fun e =>
  (mApp ([t_.1] : List Int) e.1).bind fun l =>
  (wT k e.2 l).bind fun j =>
  some (j.1, true, j.2))
def sQ (a_ : za) (n : Int) (m_ : Int) : Option (za) :=
 (zG a_ n 6).bind fun t_ =>
 (zG t_.2 m_ 6).bind fun e =>
 (rX e.2 n e.1).bind fun i =>
 (rX i m_ t_.1).bind fun j =>
 some j
def uF (k : Nat) (a_ : za) (r : Int) (n : Int) : Option (Int × za) :=
 ((bif r != (-1) then
  (zG a_ r 3).bind fun t_ =>
  some (t_.1, t_.2)
 else
  some ((-1), a_))).bind fun s =>
 (zS s.2 r 4).bind fun i =>
 ((bif s.1 == (-1) then
  some (true, i.2)
 else
  (zS i.2 s.1 4).bind fun l =>
  some (l.1 != i.1, l.2))).bind fun s1 =>
 (bif s1.1 then
  (zA s1.2 n 3 r).bind fun x =>
  (zA x.2 n 0 (-1)).bind fun y =>
  some (n, y.2)
 else
  (zG s1.2 s.1 3).bind fun t =>
  (uO k t.2 r s.1 i.1).bind fun e =>
  (vA k e.2 n e.1).bind fun j =>
  ((bif j.1 then
   (sQ j.2 n e.1).bind fun z =>
   some z
  else
   some j.2)).bind fun s2 =>
  (ue s2 n e.1).bind fun A =>
  (zA A e.1 3 t.1).bind fun u =>
  some (e.1, u.2))
def rG (k : Nat) (a_ : za) (r : Int) (i : Int) : Option (Int × Bool × za) :=
 (rU a_ i).bind fun t_ =>
 (bif !t_.2.1 then
  some (r, false, t_.2.2)
 else
  (uF k t_.2.2 r t_.1).bind fun e =>
  some (e.1, true, e.2))
def jQ (a_ : za) (r : Int) (i : Int) : Option (Int × Bool) :=
 none
def oc (a_ : za) (r : Int) (i : Int) : Option (Int × Bool) :=
 none
def pw (k : Nat) (l : Int) (a_ : za) (r : Int) (i : Int) : Option (Int × Bool × za) :=
 (bif l == 1 then
  (tY k a_ r i).bind fun t_ =>
  some (t_.1, t_.2.1, t_.2.2)
 else
  (bif l == 2 then
   (uz k a_ r i).bind fun e =>
   some (e.1, e.2.1, e.2.2)
  else
   (bif l == 3 then
    (rG k a_ r i).bind fun j =>
    some (j.1, j.2.1, j.2.2)
   else
    (bif l == 4 then
     (jQ a_ r i).bind fun t =>
     some (t.1, t.2, a_)
    else
     (bif l == 5 then
      (oc a_ r i).bind fun u =>
      some (u.1, u.2, a_)
     else
      some (r, false, a_))))))
def wg (p : zd) : Option (Int) :=
 some p.most
def yv (p : zd) (v_ : zB) : Option (zc × Bool × zd) :=
 ((bif decide (w64 ((p.free.length : Int) - 1) >= 0) then
  (mIdx p.free (w64 ((p.free.length : Int) - 1))).bind fun x =>
  (mCut p.free 0 (w64 ((p.free.length : Int) - 1))).bind fun l =>
  some (.inr (x, zd.mk p.most p.l l))
 else
  (bif decide ((p.l.length : Int) >= p.most) then
   some (.inl (zc.mk 0 0, false, p))
  else
   (mApp p.l ([zr.mk 0 false (zB.mk 0 (zc.mk 0 0))] : List zr)).bind fun l1 =>
   some (.inr ((p.l.length : Int), zd.mk p.most l1 p.free)))) : Option ((zc × Bool × zd) ⊕ (Int × zd))).bind fun s =>
 match s with
 | .inl e => some e
 | .inr s1 =>
  (mIdx s1.2.l s1.1).bind fun x1 =>
  some (zc.mk s1.1 (w64 (x1.gen + 1)), true, zd.mk s1.2.most (mSet (mSet (mSet s1.2.l s1.1 (zr.mk (w64 (x1.gen + 1)) x1.taken x1.v_)) s1.1 (zr.mk (w64 (x1.gen + 1)) true x1.v_)) s1.1 (zr.mk (w64 (x1.gen + 1)) true v_)) s1.2.free)
def uy (t_ : zj) (t : zc) (cell : Int) : Option (zc × Int × zj) :=
 (yr t_.heaps t).bind fun i =>
 (bif i.2 != 0 then
  some (zc.mk 0 0, i.2, t_)
 else
  (s8 kI cell (zc.mk 0 0) t_.at_).bind fun x =>
  (yM t_.items).bind fun j =>
  (wg t_.items).bind fun l =>
  (bif j == l then
   some (zc.mk 0 0, 13, t_)
  else
   (bif x.2 then
    some (zc.mk 0 0, 1, t_)
   else
    (yv t_.items (zB.mk cell t)).bind fun e =>
    some (e.1, 0, zj.mk ((zj.mk t_.heaps e.2.2 t_.at_).heaps) ((zj.mk t_.heaps e.2.2 t_.at_).items) (mPut kI cell e.1 ((zj.mk t_.heaps e.2.2 t_.at_).at_))))))
def y8 (p : zf) (r : zc) (v_ : zD) : Option (Int × zf) :=
 (yO p r).bind fun t_ =>
 (vO t_.1
  (((bif t_.2 == 0 then
   none
  else
   some ())).bind fun s =>
  some (t_.2, p))
  (fun i =>
  (mIdx p.l i).bind fun x =>
  ((bif t_.2 == 0 then
   some (zf.mk p.most (mSet p.l i (zx.mk x.gen x.taken v_)) p.free)
  else
   some p)).bind fun s1 =>
  some (t_.2, s1)))
def y4 (t_ : zj) (j : zc) (r : Int) (n : Int) : Option (Int × zj) :=
 (yr t_.heaps j).bind fun e =>
 ((bif e.2 == 0 then
  (y8 t_.heaps j (zD.mk e.1.kind r n)).bind fun i =>
  some (zj.mk i.2 t_.items t_.at_)
 else
  some t_)).bind fun s =>
 some (e.2, s)
def vW (k : Nat) (q : zp) (c_ : ya) : Option (zJ × zp) :=
 (yX q.t_ c_.Heap).bind fun t_ =>
 (bif t_.2.2.2 != 0 then
  (w3 t_.2.2.2).bind fun l =>
  some (l, q)
 else
  (vE q.t_).bind fun t =>
  (bif decide (t >= q.items) then
   (w3 13).bind fun u =>
   some (u, q)
  else
   (ot q.a_ c_.Key q.serial).bind fun j =>
   (pw k t_.1 j.2.2 t_.2.1 j.1).bind fun i =>
   (uy q.t_ c_.Heap j.1).bind fun e =>
   (y4 ((zp.mk q.items i.2.2 e.2.2 q.entries q.serial).t_) c_.Heap i.1 (w64 (t_.2.2.1 + 1))).bind fun x =>
   some (zJ.mk 0 (zc.mk 0 0) e.1 (zF.mk c_.Key q.serial) 0, zp.mk ((zp.mk q.items i.2.2 e.2.2 q.entries q.serial).items) ((zp.mk q.items i.2.2 e.2.2 q.entries q.serial).a_) x.2 (mPut zc.eq e.1 (zF.mk c_.Key q.serial) ((zp.mk q.items i.2.2 e.2.2 q.entries q.serial).entries)) (w64 (((zp.mk q.items i.2.2 e.2.2 q.entries q.serial).serial) + 1)))))
def rp (a_ : za) (r : Int) : Option (Int × za) :=
 (zG a_ r 6).bind fun t_ =>
 some (t_.1, t_.2)
def wG (x1 : Int) (l1 : List Int) : Nat -> Int -> Int -> za -> Option (Int × za)
 | 0, _, _, _ => none
 | m + 1, e, x, m_ =>
  (bif decide (x < x1) then
   ((mIdx l1 x).bind fun x2 =>
   ((bif e == (-1) then
    some (true, m_)
   else
    (vA m m_ x2 e).bind fun t_ =>
    some (t_.1, t_.2))).bind fun s2 =>
   (bif s2.1 then
    some (x2, s2.2)
   else
    some (e, s2.2))).bind fun s1 =>
   wG x1 l1 m s1.1 (w64 (x + 1)) s1.2
  else
   some (e, m_))
def w7 (k : Nat) (a_ : za) (l : List Int) : Option (Int × za) :=
 (wG (l.length : Int) l k (-1) 0 a_).bind fun s =>
 some (s.1, s.2)
def uW (k : Nat) (a_ : za) (r : Int) : Option (Int × za) :=
 (xT k a_ r).bind fun t_ =>
 (w7 k t_.2 t_.1).bind fun e =>
 (zG e.2 e.1 6).bind fun i =>
 some (i.1, i.2)
def qG (k : Nat) (a_ : za) (r : Int) : Option (Int × za) :=
 (xT k a_ r).bind fun t_ =>
 (w7 k t_.2 t_.1).bind fun e =>
 (zG e.2 e.1 6).bind fun i =>
 some (i.1, i.2)
def fM (a_ : za) (r : Int) : Option (Int) :=
 none
def oQ (a_ : za) (r : Int) : Option (Int) :=
 none
def ov (k : Nat) (e : Int) (a_ : za) (r : Int) : Option (Int × za) :=
 (bif e == 1 then
  (rp a_ r).bind fun t_ =>
  some (t_.1, t_.2)
 else
  (bif e == 2 then
   (uW k a_ r).bind fun i =>
   some (i.1, i.2)
  else
   (bif e == 3 then
    (qG k a_ r).bind fun j =>
    some (j.1, j.2)
   else
    (bif e == 4 then
     (fM a_ r).bind fun l =>
     some (l, a_)
    else
     (bif e == 5 then
      (oQ a_ r).bind fun t =>
      some (t, a_)
     else
      some ((-1), a_))))))
def vK (t_ : zj) (cell : Int) : Option (zc × Bool) :=
 (s8 kI cell (zc.mk 0 0) t_.at_).bind fun x =>
 some (x.1, x.2)
def rQ (k : Nat) (a_ : za) (n : Int) : Option (Int × za) :=
 (zG a_ n 2).bind fun t_ =>
 (zG t_.2 n 3).bind fun e =>
 (wR k e.2 t_.1 e.1).bind fun i =>
 some (i.1, i.2)
def wY (a_ : za) (c_ : Int) : Option (Bool × za) :=
 (y6 a_.m_ 1).bind fun t_ =>
 (yg (za.mk a_.l a_.never a_.free t_) c_).bind fun e =>
 (bif !e then
  some (false, za.mk a_.l a_.never a_.free t_)
 else
  (mIdx a_.l c_).bind fun x =>
  (mApp a_.free ([c_] : List Int)).bind fun l =>
  some (true, za.mk (mSet a_.l c_ (zu.mk x.f0 x.f1 x.f2 x.f3 x.f4 x.f5 x.f6 x.f7 x.f8 x.f9 false)) a_.never l t_))
def s5 (a_ : za) (n : Int) : Option (Int × za) :=
 (zG a_ n 6).bind fun t_ =>
 (zA t_.2 t_.1 9 (-1)).bind fun e =>
 (wY e.2 n).bind fun i =>
 some (t_.1, i.2)
def uf (k : Nat) (a_ : za) (r : Int) : Option (Int × Int × za) :=
 ((yg a_ r).bind fun t_ =>
 some (!t_)).bind fun s =>
 (bif s then
  some ((-1), (-1), a_)
 else
  (rQ k a_ r).bind fun e =>
  (zA e.2 e.1 0 (-1)).bind fun j =>
  (s5 j.2 r).bind fun i =>
  some (e.1, i.1, i.2))
def wy (x : Int) (v_ : Int) : Option (Bool) :=
 some (x == v_)
def zV (x1 : Int) (l : List Int) (e : Int) : Nat -> Int -> Option ((Int) ⊕ (Unit))
 | 0, _ => none
 | m + 1, x =>
  (bif decide (x < x1) then
   (mIdx l x).bind fun x2 =>
   (wy x2 e).bind fun t_ =>
   (bif t_ then
    some (.inl x)
   else
    zV x1 l e m (w64 (x + 1)))
  else
   some (.inr ()))
def xI (k : Nat) (s : List Int) (v_ : Int) : Option (Int) :=
 (zV (s.length : Int) s v_ k 0).bind fun s1 =>
 match s1 with
 | .inl e => some e
 | .inr s2 =>
  some (-1)
def yb (e : Int) : Nat -> Int -> Int -> (List Int) -> Option (Int × (List Int))
 | 0, _, _, _ => none
 | m + 1, i, j, m_ =>
  (bif decide (j < (m_.length : Int)) then
   ((mIdx m_ j).bind fun x =>
   (wy x e).bind fun l =>
   (bif !l then
    (mIdx m_ i).bind fun x1 =>
    some (w64 (i + 1), mSet m_ i x)
   else
    some (i, m_))).bind fun s2 =>
   yb e m s2.1 (w64 (j + 1)) s2.2
  else
   some (i, m_))
def y2 (k : Nat) (s : List Int) (v_ : Int) : Option ((List Int)) :=
 (xI k s v_).bind fun t_ =>
 (bif t_ == (-1) then
  some s
 else
  (yb v_ k t_ (w64 (t_ + 1)) s).bind fun s1 =>
  (mCut s1.2 s1.1 (s1.2.length : Int)).bind fun l =>
  (mCut (ru s1.2 s1.1 0) 0 s1.1).bind fun l1 =>
  some l1)
def tp (k : Nat) (a_ : za) (n : Int) : Option ((List Int) × za) :=
 (zG a_ n 1).bind fun t_ =>
 (q9 k t_.2 t_.1 3).bind fun e =>
 some (e.1, e.2)
def xl (k : Nat) (a_ : za) (l : List Int) (n : Int) : Option (Int × Int × za) :=
 (y2 k l n).bind fun t_ =>
 (tp k a_ n).bind fun e =>
 (mApp t_ e.1).bind fun l1 =>
 (s5 e.2 n).bind fun i =>
 (wT k i.2 l1).bind fun j =>
 some (j.1, i.1, j.2)
def u2 (k : Nat) (a_ : za) (r : Int) : Option (Int × Int × za) :=
 ((yg a_ r).bind fun t_ =>
 some (!t_)).bind fun s =>
 (bif s then
  some ((-1), (-1), a_)
 else
  (xT k a_ r).bind fun e =>
  (w7 k e.2 e.1).bind fun j =>
  (xl k j.2 e.1 j.1).bind fun i =>
  some (i.1, i.2.1, i.2.2))
def vu (x : Int) (v_ : Int) : Option (Bool) :=
 some (x == v_)
def zU (x1 : Int) (l : List Int) (e : Int) : Nat -> Int -> Option ((Int) ⊕ (Unit))
 | 0, _ => none
 | m + 1, x =>
  (bif decide (x < x1) then
   (mIdx l x).bind fun x2 =>
   (vu x2 e).bind fun t_ =>
   (bif t_ then
    some (.inl x)
   else
    zU x1 l e m (w64 (x + 1)))
  else
   some (.inr ()))
def xC (k : Nat) (s : List Int) (v_ : Int) : Option (Int) :=
 (zU (s.length : Int) s v_ k 0).bind fun s1 =>
 match s1 with
 | .inl e => some e
 | .inr s2 =>
  some (-1)
def yc (e : Int) : Nat -> Int -> Int -> (List Int) -> Option (Int × (List Int))
 | 0, _, _, _ => none
 | m + 1, i, j, m_ =>
  (bif decide (j < (m_.length : Int)) then
   ((mIdx m_ j).bind fun x =>
   (vu x e).bind fun l =>
   (bif !l then
    (mIdx m_ i).bind fun x1 =>
    some (w64 (i + 1), mSet m_ i x)
   else
    some (i, m_))).bind fun s2 =>
   yc e m s2.1 (w64 (j + 1)) s2.2
  else
   some (i, m_))
def y1 (k : Nat) (s : List Int) (v_ : Int) : Option ((List Int)) :=
 (xC k s v_).bind fun t_ =>
 (bif t_ == (-1) then
  some s
 else
  (yc v_ k t_ (w64 (t_ + 1)) s).bind fun s1 =>
  (mCut s1.2 s1.1 (s1.2.length : Int)).bind fun l =>
  (mCut (ru s1.2 s1.1 0) 0 s1.1).bind fun l1 =>
  some l1)
def xL (x1 : Int) (l1 : List Int) (v_ : Int) : Nat -> (List Int) -> (List Int) -> Int -> za -> Option ((List Int) × (List Int) × za)
 | 0, _, _, _, _ => none
 | m + 1, rest, alone, x, m_ =>
  (bif decide (x < x1) then
   ((mIdx l1 x).bind fun x2 =>
   (zS m_ x2 4).bind fun e =>
   (bif e.1 == 0 then
    (mApp alone ([x2] : List Int)).bind fun i =>
    some (rest, i, e.2)
   else
    (mApp rest ([x2] : List Int)).bind fun j =>
    some (j, alone, e.2))).bind fun s1 =>
   xL x1 l1 v_ m s1.1 s1.2.1 (w64 (x + 1)) s1.2.2
  else
   some (rest, alone, m_))
def xO (i : Int) (x4 : Int) (l : List Int) : Nat -> Int -> Int -> za -> Option (Int × za)
 | 0, _, _, _ => none
 | m + 1, t, x3, e =>
  (bif decide (x3 < x4) then
   (mIdx l x3).bind fun x5 =>
   (uF m e t x5).bind fun j =>
   xO i x4 l m j.1 (w64 (x3 + 1)) j.2
  else
   some (t, e))
def wQ (k : Nat) (a_ : za) (l : List Int) (n : Int) : Option (Int × Int × za) :=
 (y1 k l n).bind fun t_ =>
 (tp k a_ n).bind fun e =>
 (xL (e.1.length : Int) e.1 n k t_ ([] : List Int) 0 e.2).bind fun s =>
 (s5 s.2.2 n).bind fun i =>
 (wT k i.2 s.1).bind fun j =>
 (xO i.1 (s.2.1.length : Int) s.2.1 k j.1 0 j.2).bind fun s2 =>
 some (s2.1, i.1, s2.2)
def qV (k : Nat) (a_ : za) (r : Int) : Option (Int × Int × za) :=
 ((yg a_ r).bind fun t_ =>
 some (!t_)).bind fun s =>
 (bif s then
  some ((-1), (-1), a_)
 else
  (xT k a_ r).bind fun e =>
  (w7 k e.2 e.1).bind fun j =>
  (wQ k j.2 e.1 j.1).bind fun i =>
  some (i.1, i.2.1, i.2.2))
def fX (a_ : za) (r : Int) : Option (Int × Int) :=
 none
def oZ (a_ : za) (r : Int) : Option (Int × Int) :=
 none
def oo (k : Nat) (j : Int) (a_ : za) (r : Int) : Option (Int × Int × za) :=
 (bif j == 1 then
  (uf k a_ r).bind fun t_ =>
  some (t_.1, t_.2.1, t_.2.2)
 else
  (bif j == 2 then
   (u2 k a_ r).bind fun e =>
   some (e.1, e.2.1, e.2.2)
  else
   (bif j == 3 then
    (qV k a_ r).bind fun i =>
    some (i.1, i.2.1, i.2.2)
   else
    (bif j == 4 then
     (fX a_ r).bind fun l =>
     some (l.1, l.2, a_)
    else
     (bif j == 5 then
      (oZ a_ r).bind fun t =>
      some (t.1, t.2, a_)
     else
      some ((-1), (-1), a_))))))
def yF (p : zd) (r : zc) : Option ((Option Int) × Int) :=
 ((bif decide (r.At < 0) then
  some true
 else
  (bif decide (r.At >= (p.l.length : Int)) then
   some true
  else
   (bif decide (r.Gen < 1) then
    some true
   else
    (mIdx p.l r.At).bind fun x1 =>
    some (decide (r.Gen > x1.gen)))))).bind fun s =>
 (bif s then
  some ((none : Option Int), 22)
 else
  (mIdx p.l r.At).bind fun x2 =>
  (bif (decide (r.Gen < x2.gen)) || (!x2.taken) then
   some ((none : Option Int), 23)
  else
   some ((some r.At : Option Int), 0)))
def xr (p : zd) (r : zc) : Option (zB × Int × zd) :=
 (yF p r).bind fun t_ =>
 (vO t_.1
  ((bif t_.2 != 0 then
   some (zB.mk 0 (zc.mk 0 0), t_.2, p)
  else
   none))
  (fun i =>
  (mIdx p.l i).bind fun x =>
  (bif t_.2 != 0 then
   some (zB.mk 0 (zc.mk 0 0), t_.2, p)
  else
   (mApp p.free ([r.At] : List Int)).bind fun l =>
   some (x.v_, 0, zd.mk p.most (mSet (mSet p.l i (zr.mk x.gen false x.v_)) i (zr.mk x.gen false (zB.mk 0 (zc.mk 0 0)))) l))))
def tc (t_ : zj) (i : zc) : Option (Int × Int × zj) :=
 (xr t_.items i).bind fun e =>
 ((bif e.2.1 == 0 then
  some (zj.mk ((zj.mk t_.heaps e.2.2 t_.at_).heaps) ((zj.mk t_.heaps e.2.2 t_.at_).items) (mDel kI e.1.cell ((zj.mk t_.heaps e.2.2 t_.at_).at_)))
 else
  some (zj.mk t_.heaps e.2.2 t_.at_))).bind fun s =>
 some (e.1.cell, e.2.1, s)
def vQ (q : zp) (i : zc) : Option (zF × zp) :=
 (tc q.t_ i).bind fun t_ =>
 (wY q.a_ t_.1).bind fun e =>
 (s8 zc.eq i (zF.mk 0 0) q.entries).bind fun x =>
 some (x.1, zp.mk q.items e.2 t_.2.2 (mDel zc.eq i q.entries) q.serial)
def wS (k : Nat) (q : zp) (A : zc) (out : Bool) : Option (zJ × zp) :=
 (yX q.t_ A).bind fun t_ =>
 (bif t_.2.2.2 != 0 then
  (w3 t_.2.2.2).bind fun u =>
  some (u, q)
 else
  (bif t_.2.2.1 == 0 then
   (w3 27).bind fun y =>
   some (y, q)
  else
   (bif !out then
    (ov k t_.1 q.a_ t_.2.1).bind fun e =>
    (vK q.t_ e.1).bind fun j =>
    (s8 zc.eq j.1 (zF.mk 0 0) ((zp.mk q.items e.2 q.t_ q.entries q.serial).entries)).bind fun x =>
    some (zJ.mk 0 (zc.mk 0 0) j.1 x.1 0, (zp.mk q.items e.2 q.t_ q.entries q.serial))
   else
    (oo k t_.1 q.a_ t_.2.1).bind fun i =>
    (vK q.t_ i.2.1).bind fun l =>
    (y4 q.t_ A i.1 (w64 (t_.2.2.1 - 1))).bind fun z =>
    (vQ (zp.mk q.items i.2.2 z.2 q.entries q.serial) l.1).bind fun t =>
    some (zJ.mk 0 (zc.mk 0 0) l.1 t.1 0, t.2))))
def yi (p : zd) (r : zc) : Option (zB × Int) :=
 (yF p r).bind fun t_ =>
 (vO t_.1
  ((bif t_.2 != 0 then
   some (zB.mk 0 (zc.mk 0 0), t_.2)
  else
   none))
  (fun i =>
  (mIdx p.l i).bind fun x =>
  (bif t_.2 != 0 then
   some (zB.mk 0 (zc.mk 0 0), t_.2)
  else
   some (x.v_, 0))))
def wZ (t_ : zj) (i : zc) : Option (Int × Int) :=
 (yi t_.items i).bind fun e =>
 some (e.1.cell, e.2)
def vL (t_ : zj) (i : zc) : Option (zc × Int) :=
 (yi t_.items i).bind fun e =>
 some (e.1.heap, e.2)
def tu (a_ : za) (i : Int) (key : Int) : Option (Bool × za) :=
 ((zS a_ i 7).bind fun t_ =>
 some (decide (key > t_.1), t_.2)).bind fun s =>
 (bif s.1 then
  some (false, s.2)
 else
  (zA s.2 i 7 key).bind fun e =>
  some (e.1, e.2))
def vr (a_ : za) (i : Int) : Option (Int × za) :=
 (zG a_ i 9).bind fun t_ =>
 some (t_.1, t_.2)
def y5 : Nat -> Int -> Int -> za -> Option (za)
 | 0, _, _, _ => none
 | m + 1, p, l, m_ =>
  ((bif p != (-1) then
   (xx m_).bind fun j =>
   (bif decide (l <= j) then
    (tH m_ p).bind fun e =>
    some (e.1, e.2)
   else
    some (false, m_))
  else
   some (false, m_))).bind fun s2 =>
  (bif s2.1 then
   (zG s2.2 p 0).bind fun i =>
   y5 m i.1 (w64 (l + 1)) i.2
  else
   some s2.2)
def uk (k : Nat) (a_ : za) (n : Int) : Option (za) :=
 (zG a_ n 0).bind fun t_ =>
 (zG t_.2 t_.1 2).bind fun e =>
 ((bif e.1 == n then
  (zA e.2 t_.1 2 (-1)).bind fun j =>
  some j.2
 else
  (zG e.2 t_.1 3).bind fun i =>
  (bif i.1 == n then
   (zA i.2 t_.1 3 (-1)).bind fun l =>
   some l.2
  else
   some i.2))).bind fun s =>
 (zA s n 0 (-1)).bind fun t =>
 (y5 k t_.1 0 t.2).bind fun s1 =>
 some s1
def ss (k : Nat) (a_ : za) (r : Int) (i : Int) : Option (Int × za) :=
 (vr a_ i).bind fun t_ =>
 ((bif t_.1 == (-1) then
  some (true, t_.2)
 else
  (bif t_.1 == r then
   some (true, t_.2)
  else
   (zG t_.2 t_.1 0).bind fun e =>
   some (e.1 == (-1), e.2)))).bind fun s =>
 (bif s.1 then
  some (r, s.2)
 else
  (uk k s.2 t_.1).bind fun l =>
  (wR k l r t_.1).bind fun j =>
  some (j.1, j.2))
def wW (i : Bool) : Nat -> Int -> Int -> za -> Option (Int × za)
 | 0, _, _, _ => none
 | m + 1, n, u, m_ =>
  ((bif n != (-1) then
   (xx m_).bind fun l =>
   some (decide (u <= l))
  else
   some false)).bind fun s1 =>
  (bif s1 then
   (zG m_ n 0).bind fun e =>
   ((bif e.1 == (-1) then
    some (true, e.2)
   else
    (bif !i then
     (vA m e.2 n e.1).bind fun j =>
     some (!j.1, j.2)
    else
     some (false, e.2)))).bind fun s2 =>
   (bif s2.1 then
    some (n, s2.2)
   else
    (sQ s2.2 n e.1).bind fun t =>
    wW i m e.1 (w64 (u + 1)) t)
  else
   some (n, m_))
def uL (k : Nat) (a_ : za) (i : Int) (any : Bool) : Option (Int × za) :=
 (vr a_ i).bind fun t_ =>
 (wW any k t_.1 0 t_.2).bind fun s =>
 some (s.1, s.2)
def uu (k : Nat) (a_ : za) (r : Int) (i : Int) : Option (Int × za) :=
 (uL k a_ i false).bind fun t_ =>
 some (r, t_.2)
def rI (k : Nat) (a_ : za) (r : Int) (i : Int) : Option (Int × za) :=
 (uL k a_ i false).bind fun t_ =>
 some (r, t_.2)
def ia (a_ : za) (r : Int) (i : Int) : Option (Int) :=
 none
def og (a_ : za) (r : Int) (i : Int) : Option (Int) :=
 none
def q5 (k : Nat) (e : Int) (a_ : za) (r : Int) (i : Int) : Option (Int × za) :=
 (bif e == 1 then
  (ss k a_ r i).bind fun t_ =>
  some (t_.1, t_.2)
 else
  (bif e == 2 then
   (uu k a_ r i).bind fun j =>
   some (j.1, j.2)
  else
   (bif e == 3 then
    (rI k a_ r i).bind fun l =>
    some (l.1, l.2)
   else
    (bif e == 4 then
     (ia a_ r i).bind fun t =>
     some (t, a_)
    else
     (bif e == 5 then
      (og a_ r i).bind fun u =>
      some (u, a_)
     else
      some (r, a_))))))
def vg (k : Nat) (q : zp) (c_ : ya) : Option (zJ × zp) :=
 (wZ q.t_ c_.Item).bind fun t_ =>
 (s8 zc.eq c_.Item (zF.mk 0 0) q.entries).bind fun x =>
 (bif t_.2 != 0 then
  (w3 t_.2).bind fun l =>
  some (l, q)
 else
  (bif decide (c_.Key > x.1.Key) then
   (w3 26).bind fun t =>
   some (t, q)
  else
   (vL q.t_ c_.Item).bind fun i =>
   (yX q.t_ i.1).bind fun e =>
   (tu q.a_ t_.1 c_.Key).bind fun u =>
   (q5 k e.1 u.2 e.2.1 t_.1).bind fun j =>
   (y4 q.t_ i.1 j.1 e.2.2.1).bind fun y =>
   some (zJ.mk 0 (zc.mk 0 0) (zc.mk 0 0) (zF.mk c_.Key x.1.Serial) 0, zp.mk q.items j.2 y.2 (mPut zc.eq c_.Item (zF.mk c_.Key x.1.Serial) q.entries) q.serial)))
def s6 (k : Nat) (a_ : za) (r : Int) (i : Int) : Option (Int × za) :=
 (vr a_ i).bind fun t_ =>
 (bif t_.1 == (-1) then
  some (r, t_.2)
 else
  ((bif t_.1 == r then
   some (true, t_.2)
  else
   (zG t_.2 t_.1 0).bind fun e =>
   some (e.1 == (-1), e.2))).bind fun s =>
  (bif s.1 then
   (uf k s.2 t_.1).bind fun j =>
   some (j.1, j.2.2)
  else
   (uk k s.2 t_.1).bind fun u =>
   (uf k u t_.1).bind fun l =>
   (wR k l.2.2 r l.1).bind fun t =>
   some (t.1, t.2)))
def wu (e : Int) (x1 : Int) (l : List Int) : Nat -> Int -> Option ((Int) ⊕ (Unit))
 | 0, _ => none
 | m + 1, x =>
  (bif decide (x < x1) then
   (mIdx l x).bind fun x2 =>
   (bif e == x2 then
    some (.inl x)
   else
    wu e x1 l m (w64 (x + 1)))
  else
   some (.inr ()))
def u7 (k : Nat) (s : List Int) (v_ : Int) : Option (Int) :=
 (wu v_ (s.length : Int) s k 0).bind fun s1 =>
 match s1 with
 | .inl e => some e
 | .inr s2 =>
  some (-1)
def wx (k : Nat) (s : List Int) (v_ : Int) : Option (Bool) :=
 (u7 k s v_).bind fun t_ =>
 some (decide (t_ >= 0))
def uY (k : Nat) (a_ : za) (r : Int) (i : Int) : Option (Int × za) :=
 (vr a_ i).bind fun t_ =>
 (bif t_.1 == (-1) then
  some (r, t_.2)
 else
  (uL k t_.2 i true).bind fun j =>
  (xT k j.2 r).bind fun e =>
  (wx k e.1 j.1).bind fun t =>
  (bif !t then
   some (r, e.2)
  else
   (xl k e.2 e.1 j.1).bind fun l =>
   some (l.1, l.2.2)))
def qT (k : Nat) (a_ : za) (r : Int) (i : Int) : Option (Int × za) :=
 (vr a_ i).bind fun t_ =>
 (bif t_.1 == (-1) then
  some (r, t_.2)
 else
  (uL k t_.2 i true).bind fun j =>
  (xT k j.2 r).bind fun e =>
  (wx k e.1 j.1).bind fun t =>
  (bif !t then
   some (r, e.2)
  else
   (wQ k e.2 e.1 j.1).bind fun l =>
   some (l.1, l.2.2)))
def hK (a_ : za) (r : Int) (i : Int) : Option (Int) :=
 none
def oL (a_ : za) (r : Int) (i : Int) : Option (Int) :=
 none
def oq (k : Nat) (e : Int) (a_ : za) (r : Int) (i : Int) : Option (Int × za) :=
 (bif e == 1 then
  (s6 k a_ r i).bind fun t_ =>
  some (t_.1, t_.2)
 else
  (bif e == 2 then
   (uY k a_ r i).bind fun j =>
   some (j.1, j.2)
  else
   (bif e == 3 then
    (qT k a_ r i).bind fun l =>
    some (l.1, l.2)
   else
    (bif e == 4 then
     (hK a_ r i).bind fun t =>
     some (t, a_)
    else
     (bif e == 5 then
      (oL a_ r i).bind fun u =>
      some (u, a_)
     else
      some (r, a_))))))
def vX (k : Nat) (q : zp) (i : zc) : Option (zJ × zp) :=
 (wZ q.t_ i).bind fun t_ =>
 (bif t_.2 != 0 then
  (w3 t_.2).bind fun u =>
  some (u, q)
 else
  (vL q.t_ i).bind fun j =>
  (yX q.t_ j.1).bind fun e =>
  (oq k e.1 q.a_ e.2.1 t_.1).bind fun l =>
  (y4 q.t_ j.1 l.1 (w64 (e.2.2.1 - 1))).bind fun x =>
  (vQ (zp.mk q.items l.2 x.2 q.entries q.serial) i).bind fun t =>
  some (zJ.mk 0 (zc.mk 0 0) (zc.mk 0 0) t.1 0, t.2))
def yA (x1 : Int) (m_ : zd) : Nat -> (List zc) -> Int -> Option ((List zc))
 | 0, _, _ => none
 | m + 1, out, x =>
  (bif decide (x < x1) then
   ((mIdx m_.l x).bind fun x2 =>
   (bif x2.taken then
    (mApp out ([zc.mk x x2.gen] : List zc)).bind fun l =>
    some l
   else
    some out)).bind fun s1 =>
   yA x1 m_ m s1 (w64 (x + 1))
  else
   some out)
def xK (k : Nat) (p : zd) : Option ((List zc)) :=
 (yA (p.l.length : Int) p k ([] : List zc) 0).bind fun s =>
 some s
def xy (x1 : Int) (m_ : zj) (l : List zc) (v_ : Int) (e : Int) : Nat -> (List zc) -> Int -> Option ((List zc))
 | 0, _, _ => none
 | m + 1, out, x =>
  (bif decide (x < x1) then
   ((mIdx l x).bind fun x2 =>
   (yi m_.items x2).bind fun i =>
   (bif zc.eq i.1.heap (zc.mk v_ e) then
    (mApp out ([x2] : List zc)).bind fun l1 =>
    some l1
   else
    some out)).bind fun s1 =>
   xy x1 m_ l v_ e m s1 (w64 (x + 1))
  else
   some out)
def vY (k : Nat) (t_ : zj) (i : zc) : Option ((List zc)) :=
 (xK k t_.items).bind fun e =>
 (xy (e.length : Int) t_ e i.At i.Gen k ([] : List zc) 0).bind fun s =>
 some s
def xG (p : zd) (r : zc) (v_ : zB) : Option (Int × zd) :=
 (yF p r).bind fun t_ =>
 (vO t_.1
  (((bif t_.2 == 0 then
   none
  else
   some ())).bind fun s =>
  some (t_.2, p))
  (fun i =>
  (mIdx p.l i).bind fun x =>
  ((bif t_.2 == 0 then
   some (zd.mk p.most (mSet p.l i (zr.mk x.gen x.taken v_)) p.free)
  else
   some p)).bind fun s1 =>
  some (t_.2, s1)))
def xH (p : zf) (r : zc) : Option (zD × Int × zf) :=
 (yO p r).bind fun t_ =>
 (vO t_.1
  ((bif t_.2 != 0 then
   some (zD.mk 0 0 0, t_.2, p)
  else
   none))
  (fun i =>
  (mIdx p.l i).bind fun x =>
  (bif t_.2 != 0 then
   some (zD.mk 0 0 0, t_.2, p)
  else
   (mApp p.free ([r.At] : List Int)).bind fun l =>
   some (x.v_, 0, zf.mk p.most (mSet (mSet p.l i (zx.mk x.gen false x.v_)) i (zx.mk x.gen false (zD.mk 0 0 0))) l))))
def xA (x1 : Int) (l : List zc) (v_ : Int) (j : Int) (e : Int) (i : Int) : Nat -> Int -> zj -> Option (zj)
 | 0, _, _ => none
 | m + 1, x, m_ =>
  (bif decide (x < x1) then
   (mIdx l x).bind fun x2 =>
   (yi m_.items x2).bind fun t =>
   (xG m_.items x2 (zB.mk t.1.cell (zc.mk e i))).bind fun u =>
   xA x1 l v_ j e i m (w64 (x + 1)) (zj.mk m_.heaps u.2 m_.at_)
  else
   some m_)
def v7 (k : Nat) (t_ : zj) (t : zc) (o : zc) : Option (Int × zj) :=
 (yr t_.heaps t).bind fun e =>
 (bif e.2 != 0 then
  some (e.2, t_)
 else
  (yr t_.heaps o).bind fun i =>
  (bif i.2 != 0 then
   some (i.2, t_)
  else
   (bif zc.eq t o then
    some (25, t_)
   else
    (bif e.1.kind != i.1.kind then
     some (24, t_)
    else
     (vY k t_ o).bind fun j =>
     (xA (j.length : Int) j o.At o.Gen t.At t.Gen k 0 t_).bind fun s =>
     (xH s.heaps o).bind fun l =>
     some (l.2.1, zj.mk l.2.2 s.items s.at_)))))
def su (k : Nat) (a_ : za) (r : Int) (s : Int) : Option (Int × za) :=
 (wR k a_ r s).bind fun t_ =>
 some (t_.1, t_.2)
def ux (k : Nat) (a_ : za) (r : Int) (s : Int) : Option (Int × za) :=
 (bif r == s then
  some (r, a_)
 else
  (xT k a_ r).bind fun t_ =>
  (xT k t_.2 s).bind fun e =>
  (mApp t_.1 e.1).bind fun l =>
  (wT k e.2 l).bind fun i =>
  some (i.1, i.2))
def rO (k : Nat) (a_ : za) (r : Int) (s : Int) : Option (Int × za) :=
 (bif r == s then
  some (r, a_)
 else
  (xT k a_ r).bind fun t_ =>
  (xT k t_.2 s).bind fun e =>
  (mApp t_.1 e.1).bind fun l =>
  (wT k e.2 l).bind fun i =>
  some (i.1, i.2))
def j4 (a_ : za) (r : Int) (s : Int) : Option (Int) :=
 none
def oe (a_ : za) (r : Int) (s : Int) : Option (Int) :=
 none
def pt (k : Nat) (e : Int) (a_ : za) (r : Int) (s : Int) : Option (Int × za) :=
 (bif e == 1 then
  (su k a_ r s).bind fun t_ =>
  some (t_.1, t_.2)
 else
  (bif e == 2 then
   (ux k a_ r s).bind fun i =>
   some (i.1, i.2)
  else
   (bif e == 3 then
    (rO k a_ r s).bind fun j =>
    some (j.1, j.2)
   else
    (bif e == 4 then
     (j4 a_ r s).bind fun l =>
     some (l, a_)
    else
     (bif e == 5 then
      (oe a_ r s).bind fun t =>
      some (t, a_)
     else
      some (r, a_))))))
def uR (k : Nat) (q : zp) (l : zc) (o : zc) : Option (zJ × zp) :=
 (yX q.t_ l).bind fun t_ =>
 (yX q.t_ o).bind fun i =>
 (v7 k q.t_ l o).bind fun e =>
 (bif e.1 != 0 then
  (w3 e.1).bind fun t =>
  some (t, zp.mk q.items q.a_ e.2 q.entries q.serial)
 else
  (pt k t_.1 q.a_ t_.2.1 i.2.1).bind fun j =>
  (y4 e.2 l j.1 (w64 (t_.2.2.1 + i.2.2.1))).bind fun u =>
  some (zJ.mk 0 (zc.mk 0 0) (zc.mk 0 0) (zF.mk 0 0) (w64 (t_.2.2.1 + i.2.2.1)), zp.mk q.items j.2 u.2 q.entries q.serial))
def sR (q : zp) (e : zc) : Option (zJ) :=
 none
def zZ (k : Nat) (q : zp) (c_ : ya) : Option (zJ × zp) :=
 (uG q.a_).bind fun t_ =>
 (uJ q.a_.m_).bind fun e =>
 (bif c_.Op == 1 then
  (vU q.t_ c_.Kind).bind fun i =>
  some (zJ.mk i.2.1 i.1 (zc.mk 0 0) (zF.mk 0 0) 0, zp.mk q.items (za.mk q.a_.l q.a_.never q.a_.free e) i.2.2 q.entries q.serial)
 else
  (bif c_.Op == 2 then
   (vW k (zp.mk q.items (za.mk q.a_.l q.a_.never q.a_.free e) q.t_ q.entries q.serial) c_).bind fun j =>
   some (j.1, j.2)
  else
   (bif c_.Op == 3 then
    (wS k (zp.mk q.items (za.mk q.a_.l q.a_.never q.a_.free e) q.t_ q.entries q.serial) c_.Heap false).bind fun t =>
    some (t.1, t.2)
   else
    (bif c_.Op == 4 then
     (wS k (zp.mk q.items (za.mk q.a_.l q.a_.never q.a_.free e) q.t_ q.entries q.serial) c_.Heap true).bind fun u =>
     some (u.1, u.2)
    else
     (bif c_.Op == 5 then
      (vg k (zp.mk q.items (za.mk q.a_.l q.a_.never q.a_.free e) q.t_ q.entries q.serial) c_).bind fun x =>
      some (x.1, x.2)
     else
      (bif c_.Op == 6 then
       (vX k (zp.mk q.items (za.mk q.a_.l q.a_.never q.a_.free e) q.t_ q.entries q.serial) c_.Item).bind fun y =>
       some (y.1, y.2)
      else
       (bif c_.Op == 7 then
        (uR k (zp.mk q.items (za.mk q.a_.l q.a_.never q.a_.free e) q.t_ q.entries q.serial) c_.Heap c_.Other).bind fun z =>
        some (z.1, z.2)
       else
        (bif c_.Op == 8 then
         (yX q.t_ c_.Heap).bind fun A =>
         some (zJ.mk A.2.2.2 (zc.mk 0 0) (zc.mk 0 0) (zF.mk 0 0) A.2.2.1, zp.mk q.items (za.mk q.a_.l q.a_.never q.a_.free e) q.t_ q.entries q.serial)
        else
         (bif c_.Op == 9 then
          (sR (zp.mk q.items (za.mk q.a_.l q.a_.never q.a_.free e) q.t_ q.entries q.serial) c_.Heap).bind fun B =>
          some (B, zp.mk q.items (za.mk q.a_.l q.a_.never q.a_.free e) q.t_ q.entries q.serial)
         else
          (w3 12).bind fun D =>
          some (D, zp.mk q.items (za.mk q.a_.l q.a_.never q.a_.free e) q.t_ q.entries q.serial))))))))))
def u0 (k : Nat) (i : Int) (most : Int) : Option ((Option zb) × Int) :=
 (uC i).bind fun t_ =>
 (bif !t_ then
  some ((none : Option zb), 24)
 else
  (sd k i most).bind fun j =>
  (bif !j.2 then
   some ((none : Option zb), 1)
  else
   (jR most).bind fun t =>
   (vO t.1
    ((qK most).bind fun y =>
    (qY).bind fun z =>
    (wk (ya.mk 1 i (zc.mk 0 0) (zc.mk 0 0) (zc.mk 0 0) 0)).bind fun A =>
    (wk (ya.mk 1 i (zc.mk 0 0) (zc.mk 0 0) (zc.mk 0 0) 0)).bind fun B =>
    none)
    (fun m_ =>
    (qK most).bind fun u =>
    (qY).bind fun x =>
    (zZ k m_ (ya.mk 1 i (zc.mk 0 0) (zc.mk 0 0) (zc.mk 0 0) 0)).bind fun l =>
    (zZ k l.2 (ya.mk 1 i (zc.mk 0 0) (zc.mk 0 0) (zc.mk 0 0) 0)).bind fun e =>
    some (some (zb.mk i most e.2 l.1.Heap e.1.Heap u ([] : List (zc × Int)) x j.1 0 0), 0)))))
def xj (room : Int) : Option (zg) :=
 (eV zt (if (if 4096 < room then 4096 else room) > 1 then (if 4096 < room then 4096 else room) else 1)).bind fun m_ =>
 some (zg.mk m_)
def yq (e : Int) (x1 : Int) : Nat -> Int -> zh -> Option (zh)
 | 0, _, _ => none
 | m + 1, x, m_ =>
  (bif decide (x < x1) then
   (xj e).bind fun t_ =>
   (mApp m_.l ([t_] : List zg)).bind fun l =>
   yq e x1 m (w64 (x + 1)) (zh.mk l)
  else
   some m_)
def yT (k : Nat) (boxes : Int) (room : Int) : Option (zh) :=
 (yq room (if (if 4 < boxes then 4 else boxes) > 1 then (if 4 < boxes then 4 else boxes) else 1) k 0 (zh.mk ([] : List zg))).bind fun s =>
 some s
def qa (k : Nat) (j : Int) (e : Int) (boxes : Int) (room : Int) : Option ((Option zn) × Int) :=
 (u0 k j e).bind fun t_ =>
 (vO t_.1
  ((bif t_.2 != 0 then
   some ((none : Option zn), t_.2)
  else
   (yT k boxes room).bind fun l =>
   none))
  (fun m_ =>
  (bif t_.2 != 0 then
   some ((none : Option zn), t_.2)
  else
   (yT k boxes room).bind fun i =>
   some (some (zn.mk m_ i), 0))))
def uV (k : Nat) (i : Int) (e : Int) (boxes : Int) (room : Int) : Option ((Option zq) × Int) :=
 (qa k i e boxes room).bind fun t_ =>
 (vO t_.1
  ((bif t_.2 != 0 then
   some ((none : Option zq), t_.2)
  else
   none))
  (fun m_ =>
  (bif t_.2 != 0 then
   some ((none : Option zq), t_.2)
  else
   some (some (zq.mk m_ ([] : List zw)), 0))))
def xB (b : zg) (v_ : zt) : Option (Bool × zg) :=
 (bif MCh.room b.c_ then
  some (true, zg.mk (MCh.push b.c_ v_))
 else
  some (false, b))
def xo (d : zh) (box : Int) (v_ : zt) : Option (Int × zh) :=
 ((bif decide (box < 0) then
  some true
 else
  some (decide (box >= (d.l.length : Int))))).bind fun s =>
 (bif s then
  some (30, d)
 else
  (mIdx d.l box).bind fun x =>
  (xB x v_).bind fun t_ =>
  (bif !t_.1 then
   some (13, zh.mk (mSet d.l box t_.2))
  else
   some (0, zh.mk (mSet d.l box t_.2))))
def ve (s : zn) (box : Int) (c_ : zt) : Option (Int × zn) :=
 (xo s.desk box c_).bind fun t_ =>
 some (t_.1, zn.mk s.d t_.2)
def xF (b : zg) : Option (zt × Bool × zg) :=
 (match MCh.buf b.c_ with
 | [] =>
  some (zt.mk 0 0 (zc.mk 0 0) 0 0, false, b)
 | u :: r1 =>
  some (u, true, zg.mk (MCh.rest b.c_ r1)))
def ye (x1 : Int) : Nat -> Int -> zh -> Option ((zt × Int × Bool × zh) ⊕ (zh))
 | 0, _, _ => none
 | m + 1, x, m_ =>
  (bif decide (x < x1) then
   (mIdx m_.l x).bind fun x2 =>
   (xF x2).bind fun t_ =>
   (bif t_.2.1 then
    some (.inl (t_.1, x, true, zh.mk (mSet m_.l x t_.2.2)))
   else
    ye x1 m (w64 (x + 1)) (zh.mk (mSet m_.l x t_.2.2)))
  else
   some (.inr m_))
def xq (k : Nat) (d : zh) : Option (zt × Int × Bool × zh) :=
 (ye (d.l.length : Int) k 0 d).bind fun s =>
 match s with
 | .inl e => some e
 | .inr s1 =>
  some (zt.mk 0 0 (zc.mk 0 0) 0 0, 0, false, s1)
def sN (m_ : zE) : Option (Int) :=
 some m_.steps
def tJ (q : zp) : Option (Int) :=
 (uG q.a_).bind fun t_ =>
 (sN q.a_.m_).bind fun e =>
 some e
def yL (e : Int) : Option (zm) :=
 some (zm.mk e (zc.mk 0 0) 0 0 0)
def xu (p : ze) : Option (Int) :=
 some (w64 ((p.l.length : Int) - (p.free.length : Int)))
def sB (t_ : zo) : Option (Int) :=
 (xu t_.p).bind fun e =>
 some e
def wH (p : ze) : Option (Int) :=
 some p.most
def yh (p : ze) (v_ : zC) : Option (zc × Bool × ze) :=
 ((bif decide (w64 ((p.free.length : Int) - 1) >= 0) then
  (mIdx p.free (w64 ((p.free.length : Int) - 1))).bind fun x =>
  (mCut p.free 0 (w64 ((p.free.length : Int) - 1))).bind fun l =>
  some (.inr (x, ze.mk p.most p.l l))
 else
  (bif decide ((p.l.length : Int) >= p.most) then
   some (.inl (zc.mk 0 0, false, p))
  else
   (mApp p.l ([zs.mk 0 false (zC.mk 0 0 0 (zc.mk 0 0))] : List zs)).bind fun l1 =>
   some (.inr ((p.l.length : Int), ze.mk p.most l1 p.free)))) : Option ((zc × Bool × ze) ⊕ (Int × ze))).bind fun s =>
 match s with
 | .inl e => some e
 | .inr s1 =>
  (mIdx s1.2.l s1.1).bind fun x1 =>
  some (zc.mk s1.1 (w64 (x1.gen + 1)), true, ze.mk s1.2.most (mSet (mSet (mSet s1.2.l s1.1 (zs.mk (w64 (x1.gen + 1)) x1.taken x1.v_)) s1.1 (zs.mk (w64 (x1.gen + 1)) true x1.v_)) s1.1 (zs.mk (w64 (x1.gen + 1)) true v_)) s1.2.free)
def sE (t_ : zo) (j : zC) : Option (zc × Int × zo) :=
 (s8 zc.eq j.Item (zc.mk 0 0) t_.by_).bind fun x =>
 (xu t_.p).bind fun i =>
 (wH t_.p).bind fun l =>
 (bif i == l then
  some (zc.mk 0 0, 13, t_)
 else
  (bif x.2 then
   some (zc.mk 0 0, 1, t_)
  else
   (yh t_.p j).bind fun e =>
   some (e.1, 0, zo.mk ((zo.mk e.2.2 t_.by_).p) (mPut zc.eq j.Item e.1 ((zo.mk e.2.2 t_.by_).by_)))))
def tm (j : zC) : Option (zm) :=
 some (zm.mk 0 (zc.mk 0 0) j.Time j.Data 0)
def xe (k : Nat) (d : zb) (c_ : zt) : Option (zm × zb) :=
 (sB d.t_).bind fun t_ =>
 (bif decide (t_ >= d.most) then
  (yL 13).bind fun l =>
  some (l, d)
 else
  (mIdx ([d.heaps0, d.heaps1] : List zc) c_.Queue).bind fun x =>
  (zZ k d.q (ya.mk 2 0 x (zc.mk 0 0) (zc.mk 0 0) c_.Time)).bind fun e =>
  (sE ((zb.mk d.kind d.most e.2 d.heaps0 d.heaps1 d.t_ d.when d.clock d.budget d.last d.top).t_) (zC.mk c_.Queue c_.Time c_.Data e.1.Item)).bind fun i =>
  (tm (zC.mk c_.Queue c_.Time c_.Data e.1.Item)).bind fun j =>
  some (zm.mk j.Why i.1 j.Time j.Data j.N, zb.mk ((zb.mk ((zb.mk d.kind d.most e.2 d.heaps0 d.heaps1 d.t_ d.when d.clock d.budget d.last d.top).kind) ((zb.mk d.kind d.most e.2 d.heaps0 d.heaps1 d.t_ d.when d.clock d.budget d.last d.top).most) ((zb.mk d.kind d.most e.2 d.heaps0 d.heaps1 d.t_ d.when d.clock d.budget d.last d.top).q) ((zb.mk d.kind d.most e.2 d.heaps0 d.heaps1 d.t_ d.when d.clock d.budget d.last d.top).heaps0) ((zb.mk d.kind d.most e.2 d.heaps0 d.heaps1 d.t_ d.when d.clock d.budget d.last d.top).heaps1) i.2.2 ((zb.mk d.kind d.most e.2 d.heaps0 d.heaps1 d.t_ d.when d.clock d.budget d.last d.top).when) ((zb.mk d.kind d.most e.2 d.heaps0 d.heaps1 d.t_ d.when d.clock d.budget d.last d.top).clock) ((zb.mk d.kind d.most e.2 d.heaps0 d.heaps1 d.t_ d.when d.clock d.budget d.last d.top).budget) ((zb.mk d.kind d.most e.2 d.heaps0 d.heaps1 d.t_ d.when d.clock d.budget d.last d.top).last) ((zb.mk d.kind d.most e.2 d.heaps0 d.heaps1 d.t_ d.when d.clock d.budget d.last d.top).top)).kind) ((zb.mk ((zb.mk d.kind d.most e.2 d.heaps0 d.heaps1 d.t_ d.when d.clock d.budget d.last d.top).kind) ((zb.mk d.kind d.most e.2 d.heaps0 d.heaps1 d.t_ d.when d.clock d.budget d.last d.top).most) ((zb.mk d.kind d.most e.2 d.heaps0 d.heaps1 d.t_ d.when d.clock d.budget d.last d.top).q) ((zb.mk d.kind d.most e.2 d.heaps0 d.heaps1 d.t_ d.when d.clock d.budget d.last d.top).heaps0) ((zb.mk d.kind d.most e.2 d.heaps0 d.heaps1 d.t_ d.when d.clock d.budget d.last d.top).heaps1) i.2.2 ((zb.mk d.kind d.most e.2 d.heaps0 d.heaps1 d.t_ d.when d.clock d.budget d.last d.top).when) ((zb.mk d.kind d.most e.2 d.heaps0 d.heaps1 d.t_ d.when d.clock d.budget d.last d.top).clock) ((zb.mk d.kind d.most e.2 d.heaps0 d.heaps1 d.t_ d.when d.clock d.budget d.last d.top).budget) ((zb.mk d.kind d.most e.2 d.heaps0 d.heaps1 d.t_ d.when d.clock d.budget d.last d.top).last) ((zb.mk d.kind d.most e.2 d.heaps0 d.heaps1 d.t_ d.when d.clock d.budget d.last d.top).top)).most) ((zb.mk ((zb.mk d.kind d.most e.2 d.heaps0 d.heaps1 d.t_ d.when d.clock d.budget d.last d.top).kind) ((zb.mk d.kind d.most e.2 d.heaps0 d.heaps1 d.t_ d.when d.clock d.budget d.last d.top).most) ((zb.mk d.kind d.most e.2 d.heaps0 d.heaps1 d.t_ d.when d.clock d.budget d.last d.top).q) ((zb.mk d.kind d.most e.2 d.heaps0 d.heaps1 d.t_ d.when d.clock d.budget d.last d.top).heaps0) ((zb.mk d.kind d.most e.2 d.heaps0 d.heaps1 d.t_ d.when d.clock d.budget d.last d.top).heaps1) i.2.2 ((zb.mk d.kind d.most e.2 d.heaps0 d.heaps1 d.t_ d.when d.clock d.budget d.last d.top).when) ((zb.mk d.kind d.most e.2 d.heaps0 d.heaps1 d.t_ d.when d.clock d.budget d.last d.top).clock) ((zb.mk d.kind d.most e.2 d.heaps0 d.heaps1 d.t_ d.when d.clock d.budget d.last d.top).budget) ((zb.mk d.kind d.most e.2 d.heaps0 d.heaps1 d.t_ d.when d.clock d.budget d.last d.top).last) ((zb.mk d.kind d.most e.2 d.heaps0 d.heaps1 d.t_ d.when d.clock d.budget d.last d.top).top)).q) ((zb.mk ((zb.mk d.kind d.most e.2 d.heaps0 d.heaps1 d.t_ d.when d.clock d.budget d.last d.top).kind) ((zb.mk d.kind d.most e.2 d.heaps0 d.heaps1 d.t_ d.when d.clock d.budget d.last d.top).most) ((zb.mk d.kind d.most e.2 d.heaps0 d.heaps1 d.t_ d.when d.clock d.budget d.last d.top).q) ((zb.mk d.kind d.most e.2 d.heaps0 d.heaps1 d.t_ d.when d.clock d.budget d.last d.top).heaps0) ((zb.mk d.kind d.most e.2 d.heaps0 d.heaps1 d.t_ d.when d.clock d.budget d.last d.top).heaps1) i.2.2 ((zb.mk d.kind d.most e.2 d.heaps0 d.heaps1 d.t_ d.when d.clock d.budget d.last d.top).when) ((zb.mk d.kind d.most e.2 d.heaps0 d.heaps1 d.t_ d.when d.clock d.budget d.last d.top).clock) ((zb.mk d.kind d.most e.2 d.heaps0 d.heaps1 d.t_ d.when d.clock d.budget d.last d.top).budget) ((zb.mk d.kind d.most e.2 d.heaps0 d.heaps1 d.t_ d.when d.clock d.budget d.last d.top).last) ((zb.mk d.kind d.most e.2 d.heaps0 d.heaps1 d.t_ d.when d.clock d.budget d.last d.top).top)).heaps0) ((zb.mk ((zb.mk d.kind d.most e.2 d.heaps0 d.heaps1 d.t_ d.when d.clock d.budget d.last d.top).kind) ((zb.mk d.kind d.most e.2 d.heaps0 d.heaps1 d.t_ d.when d.clock d.budget d.last d.top).most) ((zb.mk d.kind d.most e.2 d.heaps0 d.heaps1 d.t_ d.when d.clock d.budget d.last d.top).q) ((zb.mk d.kind d.most e.2 d.heaps0 d.heaps1 d.t_ d.when d.clock d.budget d.last d.top).heaps0) ((zb.mk d.kind d.most e.2 d.heaps0 d.heaps1 d.t_ d.when d.clock d.budget d.last d.top).heaps1) i.2.2 ((zb.mk d.kind d.most e.2 d.heaps0 d.heaps1 d.t_ d.when d.clock d.budget d.last d.top).when) ((zb.mk d.kind d.most e.2 d.heaps0 d.heaps1 d.t_ d.when d.clock d.budget d.last d.top).clock) ((zb.mk d.kind d.most e.2 d.heaps0 d.heaps1 d.t_ d.when d.clock d.budget d.last d.top).budget) ((zb.mk d.kind d.most e.2 d.heaps0 d.heaps1 d.t_ d.when d.clock d.budget d.last d.top).last) ((zb.mk d.kind d.most e.2 d.heaps0 d.heaps1 d.t_ d.when d.clock d.budget d.last d.top).top)).heaps1) ((zb.mk ((zb.mk d.kind d.most e.2 d.heaps0 d.heaps1 d.t_ d.when d.clock d.budget d.last d.top).kind) ((zb.mk d.kind d.most e.2 d.heaps0 d.heaps1 d.t_ d.when d.clock d.budget d.last d.top).most) ((zb.mk d.kind d.most e.2 d.heaps0 d.heaps1 d.t_ d.when d.clock d.budget d.last d.top).q) ((zb.mk d.kind d.most e.2 d.heaps0 d.heaps1 d.t_ d.when d.clock d.budget d.last d.top).heaps0) ((zb.mk d.kind d.most e.2 d.heaps0 d.heaps1 d.t_ d.when d.clock d.budget d.last d.top).heaps1) i.2.2 ((zb.mk d.kind d.most e.2 d.heaps0 d.heaps1 d.t_ d.when d.clock d.budget d.last d.top).when) ((zb.mk d.kind d.most e.2 d.heaps0 d.heaps1 d.t_ d.when d.clock d.budget d.last d.top).clock) ((zb.mk d.kind d.most e.2 d.heaps0 d.heaps1 d.t_ d.when d.clock d.budget d.last d.top).budget) ((zb.mk d.kind d.most e.2 d.heaps0 d.heaps1 d.t_ d.when d.clock d.budget d.last d.top).last) ((zb.mk d.kind d.most e.2 d.heaps0 d.heaps1 d.t_ d.when d.clock d.budget d.last d.top).top)).t_) (mPut zc.eq i.1 e.1.Entry.Serial ((zb.mk ((zb.mk d.kind d.most e.2 d.heaps0 d.heaps1 d.t_ d.when d.clock d.budget d.last d.top).kind) ((zb.mk d.kind d.most e.2 d.heaps0 d.heaps1 d.t_ d.when d.clock d.budget d.last d.top).most) ((zb.mk d.kind d.most e.2 d.heaps0 d.heaps1 d.t_ d.when d.clock d.budget d.last d.top).q) ((zb.mk d.kind d.most e.2 d.heaps0 d.heaps1 d.t_ d.when d.clock d.budget d.last d.top).heaps0) ((zb.mk d.kind d.most e.2 d.heaps0 d.heaps1 d.t_ d.when d.clock d.budget d.last d.top).heaps1) i.2.2 ((zb.mk d.kind d.most e.2 d.heaps0 d.heaps1 d.t_ d.when d.clock d.budget d.last d.top).when) ((zb.mk d.kind d.most e.2 d.heaps0 d.heaps1 d.t_ d.when d.clock d.budget d.last d.top).clock) ((zb.mk d.kind d.most e.2 d.heaps0 d.heaps1 d.t_ d.when d.clock d.budget d.last d.top).budget) ((zb.mk d.kind d.most e.2 d.heaps0 d.heaps1 d.t_ d.when d.clock d.budget d.last d.top).last) ((zb.mk d.kind d.most e.2 d.heaps0 d.heaps1 d.t_ d.when d.clock d.budget d.last d.top).top)).when)) ((zb.mk ((zb.mk d.kind d.most e.2 d.heaps0 d.heaps1 d.t_ d.when d.clock d.budget d.last d.top).kind) ((zb.mk d.kind d.most e.2 d.heaps0 d.heaps1 d.t_ d.when d.clock d.budget d.last d.top).most) ((zb.mk d.kind d.most e.2 d.heaps0 d.heaps1 d.t_ d.when d.clock d.budget d.last d.top).q) ((zb.mk d.kind d.most e.2 d.heaps0 d.heaps1 d.t_ d.when d.clock d.budget d.last d.top).heaps0) ((zb.mk d.kind d.most e.2 d.heaps0 d.heaps1 d.t_ d.when d.clock d.budget d.last d.top).heaps1) i.2.2 ((zb.mk d.kind d.most e.2 d.heaps0 d.heaps1 d.t_ d.when d.clock d.budget d.last d.top).when) ((zb.mk d.kind d.most e.2 d.heaps0 d.heaps1 d.t_ d.when d.clock d.budget d.last d.top).clock) ((zb.mk d.kind d.most e.2 d.heaps0 d.heaps1 d.t_ d.when d.clock d.budget d.last d.top).budget) ((zb.mk d.kind d.most e.2 d.heaps0 d.heaps1 d.t_ d.when d.clock d.budget d.last d.top).last) ((zb.mk d.kind d.most e.2 d.heaps0 d.heaps1 d.t_ d.when d.clock d.budget d.last d.top).top)).clock) ((zb.mk ((zb.mk d.kind d.most e.2 d.heaps0 d.heaps1 d.t_ d.when d.clock d.budget d.last d.top).kind) ((zb.mk d.kind d.most e.2 d.heaps0 d.heaps1 d.t_ d.when d.clock d.budget d.last d.top).most) ((zb.mk d.kind d.most e.2 d.heaps0 d.heaps1 d.t_ d.when d.clock d.budget d.last d.top).q) ((zb.mk d.kind d.most e.2 d.heaps0 d.heaps1 d.t_ d.when d.clock d.budget d.last d.top).heaps0) ((zb.mk d.kind d.most e.2 d.heaps0 d.heaps1 d.t_ d.when d.clock d.budget d.last d.top).heaps1) i.2.2 ((zb.mk d.kind d.most e.2 d.heaps0 d.heaps1 d.t_ d.when d.clock d.budget d.last d.top).when) ((zb.mk d.kind d.most e.2 d.heaps0 d.heaps1 d.t_ d.when d.clock d.budget d.last d.top).clock) ((zb.mk d.kind d.most e.2 d.heaps0 d.heaps1 d.t_ d.when d.clock d.budget d.last d.top).budget) ((zb.mk d.kind d.most e.2 d.heaps0 d.heaps1 d.t_ d.when d.clock d.budget d.last d.top).last) ((zb.mk d.kind d.most e.2 d.heaps0 d.heaps1 d.t_ d.when d.clock d.budget d.last d.top).top)).budget) ((zb.mk ((zb.mk d.kind d.most e.2 d.heaps0 d.heaps1 d.t_ d.when d.clock d.budget d.last d.top).kind) ((zb.mk d.kind d.most e.2 d.heaps0 d.heaps1 d.t_ d.when d.clock d.budget d.last d.top).most) ((zb.mk d.kind d.most e.2 d.heaps0 d.heaps1 d.t_ d.when d.clock d.budget d.last d.top).q) ((zb.mk d.kind d.most e.2 d.heaps0 d.heaps1 d.t_ d.when d.clock d.budget d.last d.top).heaps0) ((zb.mk d.kind d.most e.2 d.heaps0 d.heaps1 d.t_ d.when d.clock d.budget d.last d.top).heaps1) i.2.2 ((zb.mk d.kind d.most e.2 d.heaps0 d.heaps1 d.t_ d.when d.clock d.budget d.last d.top).when) ((zb.mk d.kind d.most e.2 d.heaps0 d.heaps1 d.t_ d.when d.clock d.budget d.last d.top).clock) ((zb.mk d.kind d.most e.2 d.heaps0 d.heaps1 d.t_ d.when d.clock d.budget d.last d.top).budget) ((zb.mk d.kind d.most e.2 d.heaps0 d.heaps1 d.t_ d.when d.clock d.budget d.last d.top).last) ((zb.mk d.kind d.most e.2 d.heaps0 d.heaps1 d.t_ d.when d.clock d.budget d.last d.top).top)).last) ((zb.mk ((zb.mk d.kind d.most e.2 d.heaps0 d.heaps1 d.t_ d.when d.clock d.budget d.last d.top).kind) ((zb.mk d.kind d.most e.2 d.heaps0 d.heaps1 d.t_ d.when d.clock d.budget d.last d.top).most) ((zb.mk d.kind d.most e.2 d.heaps0 d.heaps1 d.t_ d.when d.clock d.budget d.last d.top).q) ((zb.mk d.kind d.most e.2 d.heaps0 d.heaps1 d.t_ d.when d.clock d.budget d.last d.top).heaps0) ((zb.mk d.kind d.most e.2 d.heaps0 d.heaps1 d.t_ d.when d.clock d.budget d.last d.top).heaps1) i.2.2 ((zb.mk d.kind d.most e.2 d.heaps0 d.heaps1 d.t_ d.when d.clock d.budget d.last d.top).when) ((zb.mk d.kind d.most e.2 d.heaps0 d.heaps1 d.t_ d.when d.clock d.budget d.last d.top).clock) ((zb.mk d.kind d.most e.2 d.heaps0 d.heaps1 d.t_ d.when d.clock d.budget d.last d.top).budget) ((zb.mk d.kind d.most e.2 d.heaps0 d.heaps1 d.t_ d.when d.clock d.budget d.last d.top).last) ((zb.mk d.kind d.most e.2 d.heaps0 d.heaps1 d.t_ d.when d.clock d.budget d.last d.top).top)).top)))
def zN (p : ze) (r : zc) : Option ((Option Int) × Int) :=
 ((bif decide (r.At < 0) then
  some true
 else
  (bif decide (r.At >= (p.l.length : Int)) then
   some true
  else
   (bif decide (r.Gen < 1) then
    some true
   else
    (mIdx p.l r.At).bind fun x1 =>
    some (decide (r.Gen > x1.gen)))))).bind fun s =>
 (bif s then
  some ((none : Option Int), 22)
 else
  (mIdx p.l r.At).bind fun x2 =>
  (bif (decide (r.Gen < x2.gen)) || (!x2.taken) then
   some ((none : Option Int), 23)
  else
   some ((some r.At : Option Int), 0)))
def yj (p : ze) (r : zc) : Option (zC × Int) :=
 (zN p r).bind fun t_ =>
 (vO t_.1
  ((bif t_.2 != 0 then
   some (zC.mk 0 0 0 (zc.mk 0 0), t_.2)
  else
   none))
  (fun i =>
  (mIdx p.l i).bind fun x =>
  (bif t_.2 != 0 then
   some (zC.mk 0 0 0 (zc.mk 0 0), t_.2)
  else
   some (x.v_, 0))))
def vP (t_ : zo) (r : zc) : Option (zC × Int) :=
 (yj t_.p r).bind fun e =>
 some (e.1, e.2)
def y3 (p : ze) (r : zc) (v_ : zC) : Option (Int × ze) :=
 (zN p r).bind fun t_ =>
 (vO t_.1
  (((bif t_.2 == 0 then
   none
  else
   some ())).bind fun s =>
  some (t_.2, p))
  (fun i =>
  (mIdx p.l i).bind fun x =>
  ((bif t_.2 == 0 then
   some (ze.mk p.most (mSet p.l i (zs.mk x.gen x.taken v_)) p.free)
  else
   some p)).bind fun s1 =>
  some (t_.2, s1)))
def uS (t_ : zo) (r : zc) (j : zC) : Option (Int × zo) :=
 (yj t_.p r).bind fun e =>
 (bif e.2 != 0 then
  some (e.2, t_)
 else
  (s8 zc.eq j.Item (zc.mk 0 0) t_.by_).bind fun x =>
  ((bif x.2 then
   some (!(zc.eq x.1 r))
  else
   some false)).bind fun s =>
  (bif s then
   some (1, t_)
  else
   (y3 t_.p r j).bind fun i =>
   some (i.1, zo.mk i.2 (mPut zc.eq j.Item r (mDel zc.eq e.1.Item t_.by_)))))
def xn (k : Nat) (d : zb) (c_ : zt) : Option (zm × zb) :=
 (vP d.t_ c_.Job).bind fun t_ =>
 (bif t_.2 != 0 then
  (yL t_.2).bind fun e =>
  some (e, d)
 else
  (bif decide (c_.Time > t_.1.Time) then
   (yL 26).bind fun i =>
   some (i, d)
  else
   (zZ k d.q (ya.mk 5 0 (zc.mk 0 0) (zc.mk 0 0) t_.1.Item c_.Time)).bind fun j =>
   (uS d.t_ c_.Job (zC.mk t_.1.Queue c_.Time t_.1.Data t_.1.Item)).bind fun l =>
   (tm (zC.mk t_.1.Queue c_.Time t_.1.Data t_.1.Item)).bind fun t =>
   some (t, zb.mk d.kind d.most j.2 d.heaps0 d.heaps1 l.2 d.when d.clock d.budget d.last d.top)))
def zQ (p : ze) (r : zc) : Option (zC × Int × ze) :=
 (zN p r).bind fun t_ =>
 (vO t_.1
  ((bif t_.2 != 0 then
   some (zC.mk 0 0 0 (zc.mk 0 0), t_.2, p)
  else
   none))
  (fun i =>
  (mIdx p.l i).bind fun x =>
  (bif t_.2 != 0 then
   some (zC.mk 0 0 0 (zc.mk 0 0), t_.2, p)
  else
   (mApp p.free ([r.At] : List Int)).bind fun l =>
   some (x.v_, 0, ze.mk p.most (mSet (mSet p.l i (zs.mk x.gen false x.v_)) i (zs.mk x.gen false (zC.mk 0 0 0 (zc.mk 0 0)))) l))))
def uv (t_ : zo) (r : zc) : Option (zC × Int × zo) :=
 (zQ t_.p r).bind fun e =>
 ((bif e.2.1 == 0 then
  some (zo.mk ((zo.mk e.2.2 t_.by_).p) (mDel zc.eq e.1.Item ((zo.mk e.2.2 t_.by_).by_)))
 else
  some (zo.mk e.2.2 t_.by_))).bind fun s =>
 some (e.1, e.2.1, s)
def yS (d : zb) (r : zc) : Option (zm × zb) :=
 (uv d.t_ r).bind fun t_ =>
 (bif t_.2.1 != 0 then
  (yL t_.2.1).bind fun e =>
  some (e, zb.mk d.kind d.most d.q d.heaps0 d.heaps1 t_.2.2 d.when d.clock d.budget d.last d.top)
 else
  (tm t_.1).bind fun i =>
  some (i, zb.mk ((zb.mk d.kind d.most d.q d.heaps0 d.heaps1 t_.2.2 d.when d.clock d.budget d.last d.top).kind) ((zb.mk d.kind d.most d.q d.heaps0 d.heaps1 t_.2.2 d.when d.clock d.budget d.last d.top).most) ((zb.mk d.kind d.most d.q d.heaps0 d.heaps1 t_.2.2 d.when d.clock d.budget d.last d.top).q) ((zb.mk d.kind d.most d.q d.heaps0 d.heaps1 t_.2.2 d.when d.clock d.budget d.last d.top).heaps0) ((zb.mk d.kind d.most d.q d.heaps0 d.heaps1 t_.2.2 d.when d.clock d.budget d.last d.top).heaps1) ((zb.mk d.kind d.most d.q d.heaps0 d.heaps1 t_.2.2 d.when d.clock d.budget d.last d.top).t_) (mDel zc.eq r ((zb.mk d.kind d.most d.q d.heaps0 d.heaps1 t_.2.2 d.when d.clock d.budget d.last d.top).when)) ((zb.mk d.kind d.most d.q d.heaps0 d.heaps1 t_.2.2 d.when d.clock d.budget d.last d.top).clock) ((zb.mk d.kind d.most d.q d.heaps0 d.heaps1 t_.2.2 d.when d.clock d.budget d.last d.top).budget) ((zb.mk d.kind d.most d.q d.heaps0 d.heaps1 t_.2.2 d.when d.clock d.budget d.last d.top).last) ((zb.mk d.kind d.most d.q d.heaps0 d.heaps1 t_.2.2 d.when d.clock d.budget d.last d.top).top)))
def xp (k : Nat) (d : zb) (r : zc) : Option (zm × zb) :=
 (vP d.t_ r).bind fun t_ =>
 ((bif t_.2 == 0 then
  (zZ k d.q (ya.mk 6 0 (zc.mk 0 0) (zc.mk 0 0) t_.1.Item 0)).bind fun i =>
  some (zb.mk d.kind d.most i.2 d.heaps0 d.heaps1 d.t_ d.when d.clock d.budget d.last d.top)
 else
  some d)).bind fun s =>
 (yS s r).bind fun e =>
 some (e.1, e.2)
def sv (c_ : zM) (by_ : Int) : Option (Int × zM) :=
 (bif decide (by_ < 0) then
  some (1, c_)
 else
  (vq c_.now by_).bind fun t_ =>
  some (0, zM.mk t_))
def uo (c_ : zM) : Option (Int) :=
 some c_.now
def tP (c_ : zM) (at_ : Int) : Option (Bool) :=
 some (decide (at_ <= c_.now))
def rq (t_ : zo) (item : zc) : Option (zc × Bool) :=
 (s8 zc.eq item (zc.mk 0 0) t_.by_).bind fun x =>
 some (x.1, x.2)
def xS (k : Nat) (d : zb) (queue : Int) : Option (zm × zb) :=
 (mIdx ([d.heaps0, d.heaps1] : List zc) queue).bind fun x =>
 (zZ k d.q (ya.mk 3 0 x (zc.mk 0 0) (zc.mk 0 0) 0)).bind fun t_ =>
 ((bif t_.1.Why != 0 then
  some (true, zb.mk d.kind d.most t_.2 d.heaps0 d.heaps1 d.t_ d.when d.clock d.budget d.last d.top)
 else
  (tP ((zb.mk d.kind d.most t_.2 d.heaps0 d.heaps1 d.t_ d.when d.clock d.budget d.last d.top).clock) t_.1.Entry.Key).bind fun l =>
  some (!l, zb.mk ((zb.mk d.kind d.most t_.2 d.heaps0 d.heaps1 d.t_ d.when d.clock d.budget d.last d.top).kind) ((zb.mk d.kind d.most t_.2 d.heaps0 d.heaps1 d.t_ d.when d.clock d.budget d.last d.top).most) ((zb.mk d.kind d.most t_.2 d.heaps0 d.heaps1 d.t_ d.when d.clock d.budget d.last d.top).q) ((zb.mk d.kind d.most t_.2 d.heaps0 d.heaps1 d.t_ d.when d.clock d.budget d.last d.top).heaps0) ((zb.mk d.kind d.most t_.2 d.heaps0 d.heaps1 d.t_ d.when d.clock d.budget d.last d.top).heaps1) ((zb.mk d.kind d.most t_.2 d.heaps0 d.heaps1 d.t_ d.when d.clock d.budget d.last d.top).t_) ((zb.mk d.kind d.most t_.2 d.heaps0 d.heaps1 d.t_ d.when d.clock d.budget d.last d.top).when) ((zb.mk d.kind d.most t_.2 d.heaps0 d.heaps1 d.t_ d.when d.clock d.budget d.last d.top).clock) ((zb.mk d.kind d.most t_.2 d.heaps0 d.heaps1 d.t_ d.when d.clock d.budget d.last d.top).budget) ((zb.mk d.kind d.most t_.2 d.heaps0 d.heaps1 d.t_ d.when d.clock d.budget d.last d.top).last) ((zb.mk d.kind d.most t_.2 d.heaps0 d.heaps1 d.t_ d.when d.clock d.budget d.last d.top).top)))).bind fun s =>
 (bif s.1 then
  (yL 28).bind fun t =>
  some (t, s.2)
 else
  (zZ k s.2.q (ya.mk 4 0 x (zc.mk 0 0) (zc.mk 0 0) 0)).bind fun i =>
  (rq s.2.t_ i.1.Item).bind fun j =>
  (yS (zb.mk s.2.kind s.2.most i.2 s.2.heaps0 s.2.heaps1 s.2.t_ s.2.when s.2.clock s.2.budget s.2.last s.2.top) j.1).bind fun e =>
  some (zm.mk e.1.Why j.1 e.1.Time e.1.Data e.1.N, e.2))
def yN (x1 : Int) (m_ : ze) : Nat -> (List zc) -> Int -> Option ((List zc))
 | 0, _, _ => none
 | m + 1, out, x =>
  (bif decide (x < x1) then
   ((mIdx m_.l x).bind fun x2 =>
   (bif x2.taken then
    (mApp out ([zc.mk x x2.gen] : List zc)).bind fun l =>
    some l
   else
    some out)).bind fun s1 =>
   yN x1 m_ m s1 (w64 (x + 1))
  else
   some out)
def xv (k : Nat) (p : ze) : Option ((List zc)) :=
 (yN (p.l.length : Int) p k ([] : List zc) 0).bind fun s =>
 some s
def xV (e : Int) (j : Int) (x1 : Int) (l : List zc) : Nat -> Int -> Int -> zo -> Option (Int × zo)
 | 0, _, _, _ => none
 | m + 1, n, x, m_ =>
  (bif decide (x < x1) then
   ((mIdx l x).bind fun x2 =>
   (yj m_.p x2).bind fun i =>
   (bif i.1.Queue == e then
    (y3 m_.p x2 (zC.mk j i.1.Time i.1.Data i.1.Item)).bind fun t =>
    some (w64 (n + 1), zo.mk t.2 m_.by_)
   else
    some (n, m_))).bind fun s1 =>
   xV e j x1 l m s1.1 (w64 (x + 1)) s1.2
  else
   some (n, m_))
def tI (k : Nat) (t_ : zo) (from_ : Int) (to : Int) : Option (Int × zo) :=
 (xv k t_.p).bind fun e =>
 (xV from_ to (e.length : Int) e k 0 0 t_).bind fun s =>
 some (s.1, s.2)
def xE (k : Nat) (d : zb) : Option (zm × zb) :=
 (zZ k d.q (ya.mk 7 0 d.heaps0 d.heaps1 (zc.mk 0 0) 0)).bind fun t_ =>
 (zZ k t_.2 (ya.mk 1 d.kind (zc.mk 0 0) (zc.mk 0 0) (zc.mk 0 0) 0)).bind fun e =>
 (tI k d.t_ 1 0).bind fun i =>
 some (zm.mk 0 (zc.mk 0 0) 0 0 i.1, zb.mk d.kind d.most e.2 d.heaps0 e.1.Heap i.2 d.when d.clock d.budget d.last d.top)
def xw (e : Int) (x1 : Int) (m_ : zo) (l : List zc) : Nat -> Int -> Int -> Option (Int)
 | 0, _, _ => none
 | m + 1, n, x =>
  (bif decide (x < x1) then
   ((mIdx l x).bind fun x2 =>
   (yj m_.p x2).bind fun i =>
   (bif i.1.Queue == e then
    some (w64 (n + 1))
   else
    some n)).bind fun s1 =>
   xw e x1 m_ l m s1 (w64 (x + 1))
  else
   some n)
def v8 (k : Nat) (t_ : zo) (queue : Int) : Option (Int) :=
 (xv k t_.p).bind fun e =>
 (xw queue (e.length : Int) t_ e k 0 0).bind fun s =>
 some s
def we (k : Nat) (d : zb) (c_ : zt) : Option (zm × zb) :=
 (((bif c_.Kind == 1 then
  some (c_.Kind == 1)
 else
  (bif c_.Kind == 5 then
   some (c_.Kind == 5)
  else
   (bif c_.Kind == 6 then
    some (c_.Kind == 6)
   else
    some (c_.Kind == 7))))).bind fun s2 =>
 (bif s2 then
  (bif !((decide (c_.Queue >= 0)) && (decide (c_.Queue < 2))) then
   (yL 1).bind fun t_ =>
   some (.inl (t_, d))
  else
   some (.inr ()))
 else
  some (.inr ())) : Option ((zm × zb) ⊕ (Unit))).bind fun s =>
 match s with
 | .inl D => some D
 | .inr s1 =>
  (bif c_.Kind == 1 then
   (xe k d c_).bind fun i =>
   some (i.1, i.2)
  else
   (bif c_.Kind == 2 then
    (xn k d c_).bind fun j =>
    some (j.1, j.2)
   else
    (bif c_.Kind == 3 then
     (xp k d c_.Job).bind fun l =>
     some (l.1, l.2)
    else
     (bif c_.Kind == 4 then
      (sv d.clock c_.Time).bind fun e =>
      (bif e.1 != 0 then
       (yL e.1).bind fun z =>
       some (z, zb.mk d.kind d.most d.q d.heaps0 d.heaps1 d.t_ d.when e.2 d.budget d.last d.top)
      else
       (uo e.2).bind fun A =>
       some (zm.mk 0 (zc.mk 0 0) A 0 0, zb.mk d.kind d.most d.q d.heaps0 d.heaps1 d.t_ d.when e.2 d.budget d.last d.top))
     else
      (bif c_.Kind == 5 then
       (xS k d c_.Queue).bind fun t =>
       some (t.1, t.2)
      else
       (bif c_.Kind == 6 then
        (bif c_.Queue == 0 then
         (yL 25).bind fun B =>
         some (B, d)
        else
         (xE k d).bind fun u =>
         some (u.1, u.2))
       else
        (bif c_.Kind == 7 then
         (v8 k d.t_ c_.Queue).bind fun x =>
         some (zm.mk 0 (zc.mk 0 0) 0 0 x, d)
        else
         (yL 12).bind fun y =>
         some (y, d))))))))
def yD (k : Nat) (d : zb) (c_ : zt) : Option (zm × zb) :=
 (tJ d.q).bind fun t_ =>
 (we k d c_).bind fun e =>
 (tJ e.2.q).bind fun i =>
 (bif decide (w64 (i - t_) > e.2.budget) then
  (yL 29).bind fun j =>
  some (j, zb.mk e.2.kind e.2.most e.2.q e.2.heaps0 e.2.heaps1 e.2.t_ e.2.when e.2.clock e.2.budget (w64 (i - t_)) (if w64 (i - t_) > e.2.top then w64 (i - t_) else e.2.top))
 else
  some (e.1, zb.mk e.2.kind e.2.most e.2.q e.2.heaps0 e.2.heaps1 e.2.t_ e.2.when e.2.clock e.2.budget (w64 (i - t_)) (if w64 (i - t_) > e.2.top then w64 (i - t_) else e.2.top)))
def wU (k : Nat) (s : zn) : Option (zm × zt × Bool × zn) :=
 (xq k s.desk).bind fun t_ =>
 (bif !t_.2.2.1 then
  some (zm.mk 0 (zc.mk 0 0) 0 0 0, zt.mk 0 0 (zc.mk 0 0) 0 0, false, zn.mk s.d t_.2.2.2)
 else
  (yD k s.d t_.1).bind fun e =>
  some (e.1, t_.1, true, zn.mk e.2 t_.2.2.2))
def xW (s : zn) : Option (Unit) :=
 some ()
def wc (d : zb) : Option (Int) :=
 (uo d.clock).bind fun t_ =>
 some t_
def xU (d : zb) : Option (Int) :=
 some d.last
def wv (b : zq) (c_ : zt) (r : zm) : Option (zm × zq) :=
 (xW b.s).bind fun t_ =>
 (wc b.s.d).bind fun e =>
 (xU b.s.d).bind fun i =>
 (mApp b.l ([zw.mk c_ r e i] : List zw)).bind fun l =>
 some (r, zq.mk b.s l)
def xZ (k : Nat) (s : zn) (c_ : zt) : Option (zm × zn) :=
 (yD k s.d c_).bind fun t_ =>
 some (t_.1, zn.mk t_.2 s.desk)
def yU : Nat -> Int -> Int -> zq -> Option (Int × zq)
 | 0, _, _, _ => none
 | m + 1, n, x, m_ =>
  (bif decide (x < 4097) then
   (xZ m m_.s (zt.mk 5 0 (zc.mk 0 0) 0 0)).bind fun t_ =>
   (wv (zq.mk t_.2 m_.l) (zt.mk 5 0 (zc.mk 0 0) 0 0) t_.1).bind fun e =>
   (bif e.1.Why != 0 then
    some (n, e.2)
   else
    yU m (w64 (n + 1)) (w64 (x + 1)) e.2)
  else
   some (n, m_))
def ua (k : Nat) (b : zq) : Option (Int × zq) :=
 (yU k 0 0 b).bind fun s =>
 some (s.1, s.2)
def xg (k : Nat) (b : zq) (x : zY) : Option (zm × zq) :=
 (bif x.Kind == 1 then
  (ve b.s x.Box x.Command).bind fun t_ =>
  some (zm.mk t_.1 (zc.mk 0 0) 0 0 0, zq.mk t_.2 b.l)
 else
  (bif x.Kind == 2 then
   (wU k b.s).bind fun e =>
   (bif !e.2.2.1 then
    some (zm.mk 27 (zc.mk 0 0) 0 0 0, zq.mk e.2.2.2 b.l)
   else
    (wv (zq.mk e.2.2.2 b.l) e.2.1 e.1).bind fun i =>
    some (i.1, i.2))
  else
   (bif x.Kind == 3 then
    (xZ k b.s x.Command).bind fun j =>
    (wv (zq.mk j.2 b.l) x.Command j.1).bind fun t =>
    some (t.1, t.2)
   else
    (bif x.Kind == 4 then
     (ua k b).bind fun u =>
     some (zm.mk 0 (zc.mk 0 0) 0 0 u.1, u.2)
    else
     some (zm.mk 12 (zc.mk 0 0) 0 0 0, b)))))
def xd (x1 : Int) (l1 : List zY) : Nat -> (List zm) -> Int -> zq -> Option ((List zm) × zq)
 | 0, _, _, _ => none
 | m + 1, out, x, m_ =>
  (bif decide (x < x1) then
   (mIdx l1 x).bind fun x2 =>
   (xg m m_ x2).bind fun t_ =>
   (mApp out ([t_.1] : List zm)).bind fun e =>
   xd x1 l1 m e (w64 (x + 1)) t_.2
  else
   some (out, m_))
def vM (k : Nat) (b : zq) (l : List zY) : Option ((List zm) × zq) :=
 (xd (l.length : Int) l k ([] : List zm) 0 b).bind fun s =>
 some (s.1, s.2)
def yw (l : List zm) (l1 : List zm) : Nat -> Int -> Option ((Bool) ⊕ (Unit))
 | 0, _ => none
 | m + 1, i =>
  (bif decide (i < (l.length : Int)) then
   (mIdx l i).bind fun x =>
   (mIdx l1 i).bind fun x1 =>
   (bif !(zm.eq x x1) then
    some (.inl false)
   else
    yw l l1 m (w64 (i + 1)))
  else
   some (.inr ()))
def y0 (k : Nat) (a_ : List zm) (b : List zm) : Option (Bool) :=
 (bif (a_.length : Int) != (b.length : Int) then
  some false
 else
  (yw a_ b k 0).bind fun s =>
  match s with
  | .inl e => some e
  | .inr s1 =>
   some true)
def xz (b : zq) : Option ((List zw)) :=
 (jX b.l).bind fun t_ =>
 some t_
def yp (l : List zw) (l1 : List zw) : Nat -> Int -> Option ((Bool) ⊕ (Unit))
 | 0, _ => none
 | m + 1, i =>
  (bif decide (i < (l.length : Int)) then
   (mIdx l i).bind fun x =>
   (mIdx l1 i).bind fun x1 =>
   (bif !(zw.eq x x1) then
    some (.inl false)
   else
    yp l l1 m (w64 (i + 1)))
  else
   some (.inr ()))
def yR (k : Nat) (a_ : List zw) (b : List zw) : Option (Bool) :=
 (bif (a_.length : Int) != (b.length : Int) then
  some false
 else
  (yp a_ b k 0).bind fun s =>
  match s with
  | .inl e => some e
  | .inr s1 =>
   some true)
def vh (k : Nat)  : Option (Bool) :=
 (uV k 1 4 1 1).bind fun t_ =>
 (vO t_.1
  (some false)
  (fun m_ =>
  (bif t_.2 != 0 then
   some false
  else
   (xg k m_ (zY.mk 3 0 (zt.mk 1 0 (zc.mk 0 0) 0 5))).bind fun j =>
   (xg k j.2 (zY.mk 4 0 (zt.mk 0 0 (zc.mk 0 0) 0 0))).bind fun l =>
   (xg k l.2 (zY.mk 2 0 (zt.mk 0 0 (zc.mk 0 0) 0 0))).bind fun e =>
   (xz e.2).bind fun i =>
   ((bif j.1.Data == 5 then
    (bif zm.eq l.1 (zm.mk 0 (zc.mk 0 0) 0 0 1) then
     (bif zm.eq e.1 (zm.mk 27 (zc.mk 0 0) 0 0 0) then
      (bif (i.length : Int) == 3 then
       (mIdx i 1).bind fun x =>
       (bif x.Reply.Data == 5 then
        (mIdx i 2).bind fun x1 =>
        (bif x1.Reply.Why == 28 then
         (xg k e.2 (zY.mk 0 0 (zt.mk 0 0 (zc.mk 0 0) 0 0))).bind fun t =>
         some (t.1.Why == 12, t.2)
        else
         some (false, e.2))
       else
        some (false, e.2))
      else
       some (false, e.2))
     else
      some (false, e.2))
    else
     some (false, e.2))
   else
    some (false, e.2))).bind fun s =>
   some s.1)))
def yl (l : List zY) (t : zq) (u : List zY) : Nat -> (List zm) -> Int -> zq -> Option ((List zm) × zq)
 | 0, _, _, _ => none
 | m + 1, outs, i, e =>
  (bif decide (i < (l.length : Int)) then
   (mIdx l i).bind fun x =>
   (xg m e x).bind fun j =>
   (mApp outs ([j.1] : List zm)).bind fun y =>
   yl l t u m y (w64 (i + 1)) j.2
  else
   some (outs, e))
def xh (k : Nat) (z : Int) (l : List zY) : Option (Bool) :=
 (xi z 1 3).bind fun t_ =>
 (uV k t_ 9 3 3).bind fun i =>
 (vO i.1
  ((xi z 1 3).bind fun A =>
  (uV k A 9 3 3).bind fun B =>
  (vO B.1
   (some false)
   (fun J =>
   some false)))
  (fun m_ =>
  (xi z 1 3).bind fun D =>
  (uV k D 9 3 3).bind fun j =>
  (vO j.1
   (some false)
   (fun t =>
   (bif (i.2 != 0) || (j.2 != 0) then
    some false
   else
    ((bif decide ((l.length : Int) > 60) then
     (mCut l 0 60).bind fun l1 =>
     some l1
    else
     some l)).bind fun s =>
    (yl s t l k ([] : List zm) 0 m_).bind fun s1 =>
    ((vM k t s).bind fun e =>
    (y0 k e.1 s1.1).bind fun F =>
    (bif F then
     (xz s1.2).bind fun I =>
     (xz e.2).bind fun u =>
     (yR k I u).bind fun x =>
     (bif x then
      (vh k).bind fun y =>
      some (y, e.2)
     else
      some (false, e.2))
    else
     some (false, e.2))).bind fun s2 =>
    some s2.1)))))
def y9 (p : zy) (v_ : Int) : Option (zc × Bool × zy) :=
 ((bif decide ((p.Back.length : Int) > 0) then
  (mIdx p.Back (w64 ((p.Back.length : Int) - 1))).bind fun x =>
  (mCut p.Back 0 (w64 ((p.Back.length : Int) - 1))).bind fun l =>
  some (.inr (x, zy.mk p.Most p.Gens p.In p.V l))
 else
  (bif decide ((p.Gens.length : Int) >= p.Most) then
   some (.inl (zc.mk 0 0, false, p))
  else
   (mApp p.Gens ([0] : List Int)).bind fun l1 =>
   (mApp p.In ([false] : List Bool)).bind fun e =>
   (mApp p.V ([0] : List Int)).bind fun i =>
   some (.inr ((p.Gens.length : Int), zy.mk p.Most l1 e i p.Back)))) : Option ((zc × Bool × zy) ⊕ (Int × zy))).bind fun s =>
 match s with
 | .inl j => some j
 | .inr s1 =>
  (mIdx s1.2.Gens s1.1).bind fun x1 =>
  (mIdx s1.2.Gens s1.1).bind fun x2 =>
  (mIdx s1.2.In s1.1).bind fun x3 =>
  (mIdx s1.2.V s1.1).bind fun x4 =>
  (mIdx (mSet s1.2.Gens s1.1 (w64 (x1 + 1))) s1.1).bind fun x5 =>
  some (zc.mk s1.1 x5, true, zy.mk s1.2.Most (mSet s1.2.Gens s1.1 (w64 (x1 + 1))) (mSet s1.2.In s1.1 true) (mSet s1.2.V s1.1 v_) s1.2.Back)
def se (a_ : zF) (b : zF) : Option (Bool) :=
 some ((decide (a_.Key < b.Key)) || ((a_.Key == b.Key) && (decide (a_.Serial < b.Serial))))
def ym (e : Int) (m_ : zi) : Nat -> Int -> Int -> Option (Int)
 | 0, _, _ => none
 | m + 1, j, i =>
  (bif decide (i < (m_.L.length : Int)) then
   (((mIdx m_.L i).bind fun x2 =>
   (bif x2.Queue == e then
    (bif decide (j < 0) then
     some true
    else
     (mIdx m_.L i).bind fun x3 =>
     (mIdx m_.L j).bind fun x4 =>
     (se x3.E x4.E).bind fun t_ =>
     some t_)
   else
    some false)).bind fun s2 =>
   (bif s2 then
    some i
   else
    some j)).bind fun s1 =>
   ym e m_ m s1 (w64 (i + 1))
  else
   some j)
def xX (k : Nat) (d : zi) (queue : Int) : Option (Int) :=
 (ym queue d k (-1) 0).bind fun s =>
 some s
def wF (p : zy) (r : zc) : Option (Int) :=
 ((bif decide (r.At < 0) then
  some true
 else
  (bif decide (r.At >= (p.Gens.length : Int)) then
   some true
  else
   (bif decide (r.Gen < 1) then
    some true
   else
    (mIdx p.Gens r.At).bind fun x1 =>
    some (decide (r.Gen > x1)))))).bind fun s =>
 (bif s then
  some 22
 else
  ((mIdx p.Gens r.At).bind fun x4 =>
  (bif decide (r.Gen < x4) then
   some true
  else
   (mIdx p.In r.At).bind fun x5 =>
   some (!x5))).bind fun s1 =>
  (bif s1 then
   some 23
  else
   some 0))
def vj (p : zy) (r : zc) : Option (Int × Int × zy) :=
 (wF p r).bind fun t_ =>
 (bif t_ != 0 then
  some (0, t_, p)
 else
  (mIdx p.In r.At).bind fun x =>
  (mApp ([] : List Int) p.Back).bind fun l =>
  (mApp l ([r.At] : List Int)).bind fun l1 =>
  (mIdx ((zy.mk p.Most p.Gens (mSet p.In r.At false) p.V l1).V) r.At).bind fun x1 =>
  some (x1, 0, (zy.mk p.Most p.Gens (mSet p.In r.At false) p.V l1)))
def xk (d : zi) (e : Int) : Option (zH × zi) :=
 (mIdx d.L e).bind fun x =>
 (mCut d.L 0 e).bind fun l =>
 (mCut d.L (w64 (e + 1)) (d.L.length : Int)).bind fun l1 =>
 (mApp ([] : List zH) l).bind fun i =>
 (mApp i l1).bind fun j =>
 (vj d.Pool x.R).bind fun t_ =>
 some (x, zi.mk d.Most d.Now d.Next t_.2.2 j)
def yB (e : Int) (m_ : zi) : Nat -> Int -> Int -> Option (Int)
 | 0, _, _ => none
 | m + 1, n, i =>
  (bif decide (i < (m_.L.length : Int)) then
   ((mIdx m_.L i).bind fun x =>
   (bif x.Queue == e then
    some (w64 (n + 1))
   else
    some n)).bind fun s1 =>
   yB e m_ m s1 (w64 (i + 1))
  else
   some n)
def xY (k : Nat) (d : zi) (queue : Int) : Option (Int) :=
 (yB queue d k 0 0).bind fun s =>
 some s
def yC : Nat -> Int -> Int -> zi -> Option (Int × zi)
 | 0, _, _, _ => none
 | m + 1, n, i, m_ =>
  (bif decide (i < (m_.L.length : Int)) then
   ((mIdx m_.L i).bind fun x2 =>
   (bif x2.Queue == 1 then
    (mIdx m_.L i).bind fun x3 =>
    some (w64 (n + 1), zi.mk m_.Most m_.Now m_.Next m_.Pool (mSet m_.L i (zH.mk 0 x3.Data x3.E x3.R)))
   else
    some (n, m_))).bind fun s2 =>
   yC m s2.1 (w64 (i + 1)) s2.2
  else
   some (n, m_))
def zX (k : Nat) (d : zi) (c_ : zt) : Option (zm × zi) :=
 (bif c_.Kind == 1 then
  (y9 d.Pool 0).bind fun t_ =>
  (bif !t_.2.1 then
   some (zm.mk 13 (zc.mk 0 0) 0 0 0, zi.mk d.Most d.Now d.Next t_.2.2 d.L)
  else
   (mApp ([] : List zH) d.L).bind fun l =>
   (mApp l ([zH.mk c_.Queue c_.Data (zF.mk c_.Time d.Next) t_.1] : List zH)).bind fun l1 =>
   some (zm.mk 0 t_.1 c_.Time c_.Data 0, zi.mk ((zi.mk d.Most d.Now d.Next t_.2.2 l1).Most) ((zi.mk d.Most d.Now d.Next t_.2.2 l1).Now) (w64 (((zi.mk d.Most d.Now d.Next t_.2.2 l1).Next) + 1)) ((zi.mk d.Most d.Now d.Next t_.2.2 l1).Pool) ((zi.mk d.Most d.Now d.Next t_.2.2 l1).L)))
 else
  (bif c_.Kind == 5 then
   (xX k d c_.Queue).bind fun i =>
   ((bif decide (i < 0) then
    some true
   else
    (mIdx d.L i).bind fun x1 =>
    some (decide (x1.E.Key > d.Now)))).bind fun s =>
   (bif s then
    some (zm.mk 28 (zc.mk 0 0) 0 0 0, d)
   else
    (xk d i).bind fun e =>
    some (zm.mk 0 e.1.R e.1.E.Key e.1.Data 0, e.2))
  else
   (bif c_.Kind == 6 then
    (bif c_.Queue == 0 then
     some (zm.mk 25 (zc.mk 0 0) 0 0 0, d)
    else
     (yC k 0 0 d).bind fun s1 =>
     some (zm.mk 0 (zc.mk 0 0) 0 0 s1.1, s1.2))
   else
    (xY k d c_.Queue).bind fun j =>
    some (zm.mk 0 (zc.mk 0 0) 0 0 j, d))))
def yK (v_ : Int) (e : Int) (m_ : zi) : Nat -> Int -> Option ((Int × zi) ⊕ (Unit))
 | 0, _ => none
 | m + 1, i =>
  (bif decide (i < (m_.L.length : Int)) then
   (mIdx m_.L i).bind fun x =>
   (bif zc.eq x.R (zc.mk v_ e) then
    some (.inl (i, m_))
   else
    yK v_ e m_ m (w64 (i + 1)))
  else
   some (.inr ()))
def wC (k : Nat) (d : zi) (r : zc) : Option (Int × zi) :=
 (yK r.At r.Gen d k 0).bind fun s =>
 match s with
 | .inl e => some e
 | .inr s1 =>
  some ((-1), d)
def tw (a_ : Int) (b : Int) : Option (Int) :=
 (bif (decide (a_ > 0)) && (decide (b > w64 (9223372036854775807 - a_))) then
  some 9223372036854775807
 else
  (bif (decide (a_ < 0)) && (decide (b < w64 ((-9223372036854775808) - a_))) then
   some (-9223372036854775808)
  else
   some (w64 (a_ + b))))
def zR (k : Nat) (d : zi) (c_ : zt) : Option (zm × zi) :=
 (((bif c_.Kind == 1 then
  some (c_.Kind == 1)
 else
  (bif c_.Kind == 5 then
   some (c_.Kind == 5)
  else
   (bif c_.Kind == 6 then
    some (c_.Kind == 6)
   else
    some (c_.Kind == 7))))).bind fun s2 =>
 (bif s2 then
  (bif (c_.Queue != 0) && (c_.Queue != 1) then
   some (.inl (zm.mk 1 (zc.mk 0 0) 0 0 0, d))
  else
   (zX k d c_).bind fun t_ =>
   some (.inl (t_.1, t_.2)))
 else
  ((bif c_.Kind == 2 then
   some (c_.Kind == 2)
  else
   some (c_.Kind == 3))).bind fun t =>
  (bif t then
   (wF d.Pool c_.Job).bind fun j =>
   (bif j != 0 then
    some (.inl (zm.mk j (zc.mk 0 0) 0 0 0, d))
   else
    (wC k d c_.Job).bind fun e =>
    (bif c_.Kind == 3 then
     (xk e.2 e.1).bind fun i =>
     some (.inl (zm.mk 0 (zc.mk 0 0) i.1.E.Key i.1.Data 0, i.2))
    else
     (mIdx e.2.L e.1).bind fun x =>
     (bif decide (c_.Time > x.E.Key) then
      some (.inl (zm.mk 26 (zc.mk 0 0) 0 0 0, e.2))
     else
      (mIdx e.2.L e.1).bind fun x1 =>
      (mIdx (mSet e.2.L e.1 (zH.mk x1.Queue x1.Data (zF.mk c_.Time x1.E.Serial) x1.R)) e.1).bind fun x2 =>
      some (.inl (zm.mk 0 (zc.mk 0 0) c_.Time x2.Data 0, zi.mk e.2.Most e.2.Now e.2.Next e.2.Pool (mSet e.2.L e.1 (zH.mk x1.Queue x1.Data (zF.mk c_.Time x1.E.Serial) x1.R)))))))
  else
   (bif c_.Kind == 4 then
    (bif decide (c_.Time < 0) then
     some (.inl (zm.mk 1 (zc.mk 0 0) 0 0 0, d))
    else
     (tw d.Now c_.Time).bind fun l =>
     some (.inl (zm.mk 0 (zc.mk 0 0) l 0 0, zi.mk d.Most l d.Next d.Pool d.L)))
   else
    some (.inr ())))) : Option ((zm × zi) ⊕ (Unit))).bind fun s =>
 match s with
 | .inl u => some u
 | .inr s1 =>
  some (zm.mk 12 (zc.mk 0 0) 0 0 0, d)
end
end Go.Proofs.YtccbfeafebllhaaGreat
