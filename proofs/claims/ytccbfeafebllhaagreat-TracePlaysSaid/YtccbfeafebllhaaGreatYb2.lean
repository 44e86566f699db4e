/-
  The statements TracePlays of the program.
  Text 2 of 8: of what the proof needs (a row of the program: no condition is left); put together and made narrow by a program.
-/
import Derived.Below
import Derived.Deep.Slices
import Derived.Deep.Strs
import Derived.Laws.BytesString
import Derived.Laws.Externs
import Derived.Lib.AppendZerosOnto
import Derived.Lib.Overlaps
import Derived.Lib.SmallJoins
import Derived.MapKept
import Derived.Sort.Grow
import Derived.Sort.Row
import Derived.Test.YtccbfeafebllhaaGreatYb1
set_option linter.unusedVariables false
set_option linter.unusedSimpArgs false
namespace Go.Th
noncomputable section
theorem St.below {w w' : World} {As : List HP} (H : St w As w') (i : Nat) (hi : As[i]? = some (Old w)) : Go.RowKit.Below w.heap.size w w' := by
 have j := H.old i hi;refine ⟨H.os, H.tape, H.output, ?_, j⟩;by_cases hz : w.heap.size = 0
 ·omega
 ·have := j (w.heap.size - 1) (by omega);have e : w.heap[w.heap.size - 1]? = some (w.heap[w.heap.size - 1]'(by omega)) := by simp
  rw [e] at this;have := (Array.getElem?_eq_some_iff.1 this).1;omega
theorem ij {α : Type} {p : Nat -> α -> Prop} : ∀ n : Nat, (∀ i, i < n -> ∃ x, p i x) -> ∃ l : List α, l.length = n /\ ∀ (i : Nat) (x : α), l[i]? = some x -> p i x
 | 0, _ => ⟨[], rfl, fun i x h => by simp at h⟩
 | n + 1, h => by
  obtain ⟨l, hl, hp⟩ := ij n fun i hi => h i (by omega)
  obtain ⟨x, u⟩ := h n (by omega);refine ⟨l ++ [x], by simp [hl], fun i y e => ?_⟩;by_cases hi : i < n
  ·rw [List.getElem?_append_left (by omega)] at e;exact hp i y e
  ·have j := (List.getElem?_eq_some_iff.1 e).1;simp [hl] at j;have t : i = n := by omega
   subst t;rw [List.getElem?_append_right (by omega)] at e;simp [hl] at e;subst e; exact u
section
variable {α H : Type} {en : TypeId × Value -> H} {P : Program} {w : World} {base : Nat} {spare : Nat -> Bool} {held : Bool} {enc : α -> List Value} {sz : Nat}
theorem AX (he : xX enc sz) (hs : 0 < sz) {a : Addr} (l : List α) (h : ∀ (j : Nat) (u : Value), (l.flatMap enc)[j]? = some u -> w.cell? (a.add j) = some u) : SlRd (Old w) enc sz (some a) l := by
 intro g D;by_cases hl : l = []
 ·exact .inl hl
 have e := yv he l;have t : 0 < l.length := by cases l with
  | nil => exact absurd rfl hl
  | cons => simp
 have hp : 0 < (l.flatMap enc).length := by rw [e]; exact Nat.mul_pos t hs
 have h0 := h 0 _ (List.getElem?_eq_getElem hp);have e0 : a.add 0 = a := by simp [Addr.add]
 rw [e0] at h0;obtain ⟨b, off, spot⟩ := a;unfold World.cell? at h0;split at h0
 ·rename_i c T fr y;split at h0
  ·cases h0
  ·rename_i z;have A : spot = none := by simpa using z
   subst A;have B : b < w.heap.size := (Array.getElem?_eq_some_iff.1 y).1;refine .inr ⟨b, off, c, T, fr, rfl, by rw [D b B]; exact y, fun i hi => ?_⟩;have x : i < (l.flatMap enc).length := by rw [e]; exact hi
   have F := h i _ (List.getElem?_eq_getElem x);rw [List.getElem?_eq_getElem x, <- F];unfold Addr.add;split
   ·rename_i hz; subst hz; simp [World.cell?, y]
   ·simp [World.cell?, y]
 ·cases h0
theorem aF {t e : TypeId} {fuel : Nat} {cs : List Value} {x : DataW H × List MemPlace} (ht : P.underlying t = some (.slice e)) (W : P.cellsOf e = sz) (he : xX enc sz) (hs : 0 < sz)
  (B : ∀ n cs y, DataW.trod en P w base spare held n e cs = some y -> ∃ z : α, cs = enc z) (h : DataW.trod en P w base spare held fuel t cs = some x) :
  ∃ (sb : Option Addr) (len cap : Nat) (l : List α), cs = [.slice sb len cap] /\ l.length = len /\ len <= cap /\ SlRd (Old w) enc sz sb l := by
 rcases Go.Deep.open_slice ht h with ⟨rfl, _⟩ | ⟨a, len, cap, m, n, D, Z, rfl, hb, hl, hm, I, _, X⟩
 ·exact ⟨none, 0, 0, [], rfl, rfl, Nat.le_refl _, fun _ _ => .inl rfl⟩
 ·obtain ⟨l, J, hp⟩ := ij (α := α) (p := fun i z => w.cells? base (a.add (i * sz)) sz = some (enc z)) len fun i hi => by
   obtain ⟨Y, h1, h2⟩ := X i (by rw [I]; split <;> omega);obtain ⟨z, rfl⟩ := B _ _ _ h2;rw [W] at h1;exact ⟨z, h1⟩
  refine ⟨some a, len, cap, l, rfl, J, hl, AX he hs l fun j u hu => ?_⟩;have F := (List.getElem?_eq_some_iff.1 hu).1;rw [yv he] at F;have hj : j / sz < l.length := Nat.div_lt_of_lt_mul (by rw [Nat.mul_comm]; exact F);have hq : j % sz < sz := Nat.mod_lt _ hs;have S := tc he l (j / sz) (j % sz) hj hq;have U : j / sz * sz + j % sz = j := by rw [Nat.mul_comm]; exact Nat.div_add_mod j sz
  rw [U, hu] at S;have A := hp (j / sz) l[j / sz] (by simp [hj]);obtain ⟨_, _, O⟩ := World.cells?_some A;have := O (j % sz) (by exact hq);rw [<- S] at this;rw [<- this];congr 1;rw [Go.Deep.add_add, U]
end
end
noncomputable section
theorem eR (A X R V : List Value) (h : V.length = X.length) : putAt (A ++ (X ++ R)) A.length V = A ++ (V ++ R) := by
 rw [ud _ _ _ (by simp; omega)];rw [List.take_left' rfl, aA];congr 2;have : A.length + V.length = (A ++ X).length := by simp [h]
 rw [this, <- aA, List.drop_left' rfl]
theorem qy (A X R V : List Value) (n : Nat) (hn : n = A.length) (h : V.length = X.length) : putAt (A ++ (X ++ R)) n V = A ++ (V ++ R) := by
 subst hn; exact eR A X R V h
section
variable {w0 w : World} {As : List HP} {P : Program} {n : Nat} {a : Act} {L : Env} {o : Oper} {T : TypeId}
theorem ax (H : St w0 As w) (i : Nat) {b off : Nat} {cs news : List Value} (hi : As[i]? = some (Blk b T cs)) (h : ∀ (j : Nat) (u : Value), news[j]? = some u -> cs[off + j]? = some u) : Rd w (some ⟨b, off, none⟩) news := by
 refine .inr ⟨_, rfl, fun j u hj => ?_⟩;rw [vS];exact H.cell i hi (h j u hj)
theorem OpTo.kD {b off i l e j sz : Nat} {F : Option Addr} {cs : List Value} (news : List Value) {x y : Operand} {t u : TypeId} {ti : TypeInfo} (J : zO n a L) (H : St w0 (Blk b T cs :: As) w)
  (O : o.op = .call { callee := .builtin .copy, args := #[x, y], argTypes := #[t, u] }) (U : evO L x = some (.slice (some ⟨b, off, none⟩) i l)) (W : evO L y = some (.slice F e j))
  (ht : P.underlying t = some (.slice T)) (hi : P.info? T = some ti) (I : ti.size = sz) (hr : Rd w F news) (hl : news.length = Nat.min e i * sz) (h1 : ∀ v ∈ news, v.oneCell' = true) (z : off + news.length <= cs.length) :
  OpTo P o a w fun v w' => (∃ k : Int, v = .int .i64 k) /\ St w0 (Blk b T (putAt cs off news) :: As) w' := by
 obtain ⟨dst, op, type, pos, after, guard⟩ := o;simp only at O;subst O;have S := H.one 0 rfl;have A := run_storeCells_at P b off T news 0 cs.toArray w S (by simpa using z) h1;simp only [Nat.add_zero] at A;rw [ud _ _ _ z];have hf := qv (P := P) (size := ti.size) (m := Nat.min e i) (len := e) (cap := j) hr (by rw [hl, I]);have B : (Builtin.copy_ #[t, u] type #[.slice (some ⟨b, off, none⟩) i l, .slice F e j]).run P w = .ok (goInt (Nat.min e i)) (w.setRow b (cs.take off ++ news ++ cs.drop (off + news.length)).toArray) := by
  have D : Sem.run P (storeCells { block := b, off := off } news) w = Result.ok () (w.setRow b (List.take off cs ++ (news ++ List.drop (off + news.length) cs)).toArray) := by simpa using A
  simp [Builtin.copy_, xx P ht, Builtin.lenOf, sH P hi, hf, D]
 refine OpTo.of_run (w' := w.setRow b (cs.take off ++ news ++ cs.drop (off + news.length)).toArray) (v := goInt (Nat.min e i)) ?_ ⟨⟨_, rfl⟩, ?_⟩
 ·simp [execOp, resolve, invoke, builtin, J.eval U, J.eval W, B]
 ·exact H.set (by simp) (by simp) (by simp) (setRow_heap w b _ _ T (0, 0) S) (fun c X => setRow_other w b c _ X)
theorem OpTo.aC {sz k i j : Nat} {sb : Option Addr} (l : List Value) {x y : Operand} {t F : TypeId} {kn : IntKind} {ti : TypeInfo} {z : Value} (hE : zO n a L) (H : St w0 As w)
  (ho : o.op = .call { callee := .builtin .append, args := #[x, y], argTypes := #[t, F] }) (hx : evO L x = some (.slice sb i j)) (hy : evO L y = some (.int .i64 (k : Int)))
  (ht : P.underlying t = some (.slice T)) (I : P.underlying F = some (.int kn)) (hi : P.info? T = some ti) (u : ti.size = sz) (hz : ti.zero = some z) (J : z.cells.size = sz) (hs : 0 < sz)
  (hr : Rd w sb l) (O : l.length = i * sz) (h0 : 0 < k) (hg : j < i + k) (A : i + k <= 1073741824) (S : Nat.ble ti.bytes 131072 = true) :
  OpTo P o a w fun v w' => ∃ (r c : Nat) (Z : List Value), v = .slice (some ⟨r, 0, none⟩) (i + k) c /\ i + k <= c /\ c <= maxLen /\ Z.length = (c - i) * sz /\ St w0 (Blk r T (l ++ Z) :: As) w' := by
 have B := Nat.le_of_ble_eq_true S;obtain ⟨dst, op, type, pos, after, guard⟩ := o;simp only at ho;subst ho;have U : Rd w.drew sb l := by
  rcases hr with h | ⟨xa, h1, h2⟩
  ·exact .inl h
  ·exact .inr ⟨xa, h1, by simpa using h2⟩
 have W := qv (P := P) (size := ti.size) (m := i) (len := i) (cap := j) U (by rw [O, u]);have X : k * ti.bytes <= 281474976710656 := by
  calc k * ti.bytes <= 1073741824 * 131072 := Nat.mul_le_mul (by omega) B
   _ <= 281474976710656 := by decide
 have Y : Builtin.nextslicecap (i + k) j * ti.bytes <= 281474976710656 := by
  refine growslice_fits (need := i + k) (old := j) (by omega) ?_
  calc (i + k) * ti.bytes <= 1073741824 * 131072 := Nat.mul_le_mul A B
   _ <= 140737488355328 := by decide
 have D := Go.Lib.run_append_grow_zeros (P := P) w t F type T ti z .i64 kn ht I hi hz sb i j l W k h0 (by rw [u]; exact hs) hg (by omega) X Y;have a7 := grownCap_ge w (i + k) j T;have a0 := grownCap_le_maxLen w (i + k) j T (by unfold maxLen; omega);refine OpTo.of_run (w' := w.drew.alloc (.cells (l.toArray ++ Builtin.zeroCells z.cells k ++ Builtin.zeroCells z.cells (grownCap w (i + k) j T - (i + k))) T (0, 0))) ?_
  ⟨w.heap.size, grownCap w (i + k) j T, (Builtin.zeroCells z.cells k ++ Builtin.zeroCells z.cells (grownCap w (i + k) j T - (i + k))).toList, rfl, by omega, a0, ?_, ?_⟩
 ·simp [execOp, resolve, invoke, builtin, hE.eval hx, hE.eval hy, D]
 ·simp only [Array.length_toList, Array.size_append, size_zeroCells, J, <- Nat.add_mul];congr 1; omega
 ·have H2 := (H.drew).alloc (.cells (l.toArray ++ Builtin.zeroCells z.cells k ++ Builtin.zeroCells z.cells (grownCap w (i + k) j T - (i + k))) T (0, 0));refine H2.head fun h hh => ?_
  have e : (l ++ (Builtin.zeroCells z.cells k ++ Builtin.zeroCells z.cells (grownCap w (i + k) j T - (i + k))).toList).toArray = l.toArray ++ Builtin.zeroCells z.cells k ++ Builtin.zeroCells z.cells (grownCap w (i + k) j T - (i + k)) := by
   apply Array.ext';simp [aA]
  show h _ = _;rw [e];exact hh
theorem OpTo.fS {g va vo la ca b off lb cb : Nat} {cv cs : Array Value} {Tv Ts : TypeId} {xs : List Operand} {fn : Func} {tS tR e : TypeId} {ti : TypeInfo} (hE : zO n a L) (H : St w0 As w) (i j : Nat)
  (hi : As[i]? = some (One va (.cells cv Tv (0, 0)))) (hj : As[j]? = some (One b (.cells cs Ts (0, 0)))) (hne : va ≠ b) (hcs : cs.size ≠ 0)
  (ho : callParts o.op = some (.func g, xs)) (hxs : oa L xs = some [.slice (some ⟨va, vo, none⟩) la ca, .slice (some ⟨b, off, none⟩) lb cb])
  (hf : P.funcs[g]? = some fn) (hname : (fn.name == "runtime.NumGoroutine") = false) (hb : fn.body.isNone = true) (hn : Extern.findNext fn = none) (he : Extern.find fn = some (Extern.SlicesOverlaps.overlaps #[tS, tS] #[tR]))
  (ht : P.underlying tS = some (.slice e)) (hz : P.info? e = some ti) : OpTo P o a w fun v w' => v = .bool false /\ w' = w := by
 obtain ⟨dst, op, type, pos, after, guard⟩ := o;cases op <;> simp only [callParts] at ho <;> try cases ho
 rename_i c;obtain ⟨callee, args, ats⟩ := c;cases callee <;> simp only at ho <;> try cases ho
 have h1 := H.one i hi;have h2 := H.one j hj;have hov := Go.Lib.run_overlaps_apart (P := P) w tS tR e ht ti.size (sH P hz) ⟨va, vo, none⟩ ⟨b, off, none⟩ la ca lb cb hne Tv Ts cv.size cs.size (by simp [World.shape?, h1]) (by simp [World.shape?, h2]) hcs (by simp [World.frozen?, h1]) (by simp [World.frozen?, h1]);have hcall := run_callFunc_extern hf hname hb hn he #[.slice (some ⟨va, vo, none⟩) la ca, .slice (some ⟨b, off, none⟩) lb cb] w;rw [hov] at hcall;have e2 := ml hE _ _ hxs;have e3 : args.map a.eval = #[.slice (some ⟨va, vo, none⟩) la ca, .slice (some ⟨b, off, none⟩) lb cb] := by
  apply Array.ext';simpa using e2
 refine OpTo.of_run (w' := w) (v := .bool false) ?_ ⟨rfl, rfl⟩;have hfe : a.eval (.func g) = .func (.func g) #[] #[] := rfl;simp [execOp, resolve, Deferred.ofValue, hfe, invoke, e3, hcall, Result.andThen]
end
theorem St.iM {α : Type} {T : TypeId} {enc : α -> List Value} {sz : Nat} {w0 w : World} {As : List HP} {sb : Option Addr} {sc : Nat} {l : List α} (H : St w0 (Sl T enc sz sb sc l :: As) w) (he : xX enc sz) (hl : 0 < l.length) :
  ∃ (b off : Nat) (A R : List Value), sb = some ⟨b, off, none⟩ /\ A.length = off /\ l.length <= sc /\ sc <= maxLen /\ (sc - l.length) * sz <= R.length /\ St w0 (Blk b T (A ++ (l.flatMap enc ++ R)) :: As) w := by
 rcases H.jI with ⟨_, rfl, _⟩ | ⟨b, off, cs, rfl, H1, h1, h2, h3, h4⟩
 ·simp at hl
 ·have j := yv he l;have hmul : l.length * sz <= sc * sz := Nat.mul_le_mul_right _ h1;refine ⟨b, off, cs.toList.take off, cs.toList.drop (off + l.length * sz), rfl, by simp; omega, h1, h2, ?_, ?_⟩
  ·simp only [List.length_drop, Array.length_toList, Nat.sub_mul]; omega
  ·refine H1.head fun h hh => ?_
   have e : cs.toList.take off ++ (l.flatMap enc ++ cs.toList.drop (off + l.length * sz)) = cs.toList := by
    have t : (cs.toList.drop off).take (l.length * sz) = l.flatMap enc := by
     apply List.ext_getElem?;intro i;by_cases hi : i < l.length * sz
     ·rw [List.getElem?_take, if_pos hi, List.getElem?_drop, <- h4 i hi]; simp
     ·rw [List.getElem?_eq_none (by simp; omega), List.getElem?_eq_none (by omega)]
    rw [<- t, <- List.drop_drop, List.take_append_drop, List.take_append_drop]
   show h b = _;rw [e];have : h b = some (.cells cs T (0, 0)) := hh;simpa using this
theorem St.bT {α : Type} {T : TypeId} {enc : α -> List Value} {sz : Nat} {w0 w : World} {As : List HP} {b sc : Nat} {l : List α} {A R : List Value} (H : St w0 (Blk b T (A ++ (l.flatMap enc ++ R)) :: As) w) (he : xX enc sz) (h1 : l.length <= sc) (h2 : sc <= maxLen) (h3 : (sc - l.length) * sz <= R.length) :
  St w0 (Sl T enc sz (some ⟨b, A.length, none⟩) sc l :: As) w := by
 have e := yv he l;have hmul : l.length * sz <= sc * sz := Nat.mul_le_mul_right _ h1;rw [Nat.sub_mul] at h3;refine H.head fun h hh => .inr ⟨b, A.length, _, rfl, hh, h1, h2, by simp [e]; omega, fun i hi => ?_⟩
 simp only [List.getElem?_toArray];rw [List.getElem?_append_right (by omega), Nat.add_sub_cancel_left, List.getElem?_append_left (by rw [e]; exact hi)]
end
end Go.Th
noncomputable section
namespace Go.Th
end Go.Th
end
namespace Go.Th
noncomputable section
section
variable {w0 w : World} {As : List HP} {P : Program} {n : Nat} {a : Act} {L : Env} {o : Oper} {T : TypeId}
end
end
noncomputable section
@[reducible] def catE : Env -> Env -> Env
 | [], L => L
 | p :: r, L => p :: catE r L
def cQ : Env -> List Nat
 | [] => []
 | (t, _) :: r => t :: cQ r
def hasK (t : Nat) : Env -> Bool
 | [] => false
 | (u, _) :: r => match Nat.beq t u with
  | true => true
  | false => hasK t r
def nm (ops : Array Oper) (new L : Env) : List Nat -> Bool
 | [] => true
 | i :: is => match ops[i]? with
  | none => nm ops new L is
  | some o => match o.dst with
   | none => nm ops new L is
   | some d => match hasK d new with
    | true => nm ops new L is
    | false => match hasK d L with
     | true => false
     | false => nm ops new L is
def segD (P : Program) (n : Nat) (ops : Array Oper) (is : List Nat) (L : Env) (e : List Value) (new : Env) : Option (Env × List Ob) :=
 match nm ops new L is with
 | false => none
 | true => nP P n ops is L e (cQ new)
theorem gg : ∀ (new L : Env) (t : Nat) (v : Value), look t (catE new L) = some v -> (look t new = some v) \/ (hasK t new = false /\ look t L = some v)
 | [], L, t, v, h => Or.inr ⟨rfl, h⟩
 | (u, x) :: r, L, t, v, h => by
  rw [catE, w2] at h;split at h
  ·subst_vars
   left
   rw [w2, if_pos rfl]; exact h
  ·rename_i e;rcases gg r L t v h with h1 | ⟨h1, h2⟩
   ·left; rw [w2, if_neg e]; exact h1
   ·right
    refine ⟨?_, h2⟩;simp only [hasK];split
    ·rename_i i; exact absurd (Nat.eq_of_beq_eq_true i) e
    ·exact h1
theorem kY : ∀ (L : Env) (t : Nat) (v : Value), look t L = some v -> hasK t L = true
 | [], t, v, h => by cases h
 | (u, x) :: r, t, v, h => by
  simp only [look] at h;simp only [hasK];split at h
  ·rename_i e; first | rfl | rw [e]
  ·rename_i e; first | exact kY r t v h | (rw [e]; exact kY r t v h)
theorem nT {ops : Array Oper} {new L : Env} : ∀ {is : List Nat}, nm ops new L is = true -> ∀ i ∈ is, ∀ o d, ops[i]? = some o -> o.dst = some d -> hasK d new = true \/ hasK d L = false
 | [], _, i, hi, _, _, _, _ => by cases hi
 | j :: is, h, i, hi, o, d, e, hd => by
  simp only [nm] at h;rcases List.mem_cons.1 hi with rfl | hi
  ·rw [e] at h;simp only [hd] at h;cases h1 : hasK d new
   ·rw [h1] at h;simp only at h;cases h2 : hasK d L
    ·exact Or.inr rfl
    ·rw [h2] at h; cases h
   ·exact Or.inl rfl
  ·have l : nm ops new L is = true := by
    repeat' split at h
    all_goals first | exact h | cases h
   exact nT l i hi o d e hd
theorem k7 {n : Nat} {d : Option Tmp} {v : Value} {L L1 : Env} {t : Nat} (h : setE n d v L = some L1) (hd : d ≠ some t) : look t L1 = look t L := by
 unfold setE at h;split at h
 ·cases h; rfl
 ·split at h
  ·cases h;rw [w2, if_neg (fun e => hd (by rw [e]))]
  ·cases h
theorem oL {P : Program} {n : Nat} {ops : Array Oper} {t : Nat} : ∀ (is : List Nat) (L : Env) (e : List Value) (L1 : Env) (obs : List Ob), pw P n ops is L e = some (L1, obs) -> (∀ i ∈ is, ∀ o, ops[i]? = some o -> o.dst ≠ some t) -> look t L1 = look t L
 | [], L, e, L1, obs, h, _ => by simp [pw] at h; rw [h.1]
 | i :: is, L, e, L1, obs, h, hd => by
  have l : ∀ j ∈ is, ∀ o, ops[j]? = some o -> o.dst ≠ some t := fun j hj => hd j (mC _ hj)
  rw [pw] at h;split at h
  ·cases h
  ·rename_i o y;have u := hd i (List.mem_cons_self ..) o y;split at h
   ·cases h
   ·split at h
    ·rename_i L2 hs;rw [oL is L2 e L1 obs h l, k7 hs u]
    ·cases h
   ·split at h
    ·cases h
    ·split at h
     ·cases h
     ·rename_i L2 hs;split at h
      ·rename_i z x h3;cases h;rw [oL is L2 _ _ _ h3 l, k7 hs u]
      ·cases h
theorem zO.cat {n : Nat} {a : Act} {L1 L new : Env} (h : zO n a L1) (hs : Th.sel (cQ new) L1 = some new) (hk : ∀ t, hasK t new = false -> hasK t L = true -> look t L1 = look t L) : zO n a (catE new L) := by
 have h2 := sZ h hs;refine ⟨h.size, h.defers, fun t v hv => ?_⟩;rcases gg new L t v hv with h1 | ⟨h1, h3⟩
 ·exact h2.has t v h1
 ·exact h.has t v (by rw [hk t h1 (kY L t v h3)]; exact h3)
section
variable {P : Program} {f : FuncId} {k : List Item} {a : Act} {w : World} {R : Value -> World -> Prop}
theorem dp {P : Program} {n : Nat} {ops : Array Oper} {is : List Nat} {L new : Env} {j : List Value} {obs : List Ob} (he : segD P n ops is L j new = some (new, obs)) :
  ∃ L1, pw P n ops is L j = some (L1, obs) /\ ∀ a : Act, zO n a L1 -> zO n a (catE new L) := by
 unfold segD at he;split at he
 ·cases he
 ·rename_i hd;unfold nP at he;split at he
  ·cases he
  ·rename_i L1 u hs;split at he
   ·rename_i x l;cases he;refine ⟨L1, hs, fun a ha => ha.cat l fun t h1 h2 => oL is L j L1 _ hs fun i hi o y e => ?_⟩;rcases nT hd i hi o t y e with h3 | h3
    ·rw [h1] at h3; cases h3
    ·rw [h2] at h3; cases h3
   ·cases he
theorem WR.d {ops : Array Oper} {i n : Nat} {L : Env} (t : zO n a L) (j : Nat) (e : List Value) (new : Env) {obs : List Ob} (u : xO w obs) (hk : ∀ a', zO n a' (catE new L) -> WR P f ops j k a' w R)
  (hj : (Nat.ble i j && Nat.ble j ops.size) = true := by rfl) (he : segD P n ops (List.range' i (j - i)) L e new = some (new, obs) := by kernel_rfl) : WR P f ops i k a w R := by
 obtain ⟨L1, hs, hn⟩ := dp he;simp only [Bool.and_eq_true] at hj;have h1 := Nat.le_of_ble_eq_true hj.1;have h2 := Nat.le_of_ble_eq_true hj.2;unfold WR;have hr : List.range' i (ops.size - i) = List.range' i (j - i) ++ List.range' j (ops.size - j) := by
  have x : ops.size - i = (j - i) + (ops.size - j) := by omega
  have y : i + (j - i) = j := by omega
  rw [x, <- List.range'_append_1, y]
 rw [hr];exact nW _ _ _ _ _ _ t hs u fun a' l => hk a' (hn a' l)
theorem WR.d0 {ops : Array Oper} {i n : Nat} {L : Env} (e : zO n a L) (j : Nat) (new : Env) (hk : ∀ a', zO n a' (catE new L) -> WR P f ops j k a' w R)
  (hj : (Nat.ble i j && Nat.ble j ops.size) = true := by rfl) (he : segD P n ops (List.range' i (j - i)) L [] new = some (new, []) := by kernel_rfl) : WR P f ops i k a w R := WR.d e j [] new (obs := []) trivial hk hj he
theorem WR.e {ops : Array Oper} {i n : Nat} {L : Env} (t : zO n a L) (j : List Value) (new : Env) {obs : List Ob} (u : xO w obs) (hk : ∀ a', zO n a' (catE new L) -> Runs P f k a' w R)
  (hj : Nat.ble i ops.size = true := by rfl) (he : segD P n ops (List.range' i (ops.size - i)) L j new = some (new, obs) := by kernel_rfl) : WR P f ops i k a w R :=
 WR.d t ops.size j new u (fun a' l => WR.done (Nat.ble_eq_true_of_le (Nat.le_refl _)) (hk a' l)) (by rw [hj]; exact Nat.ble_eq_true_of_le (Nat.le_refl _)) he
theorem WR.e0 {ops : Array Oper} {i n : Nat} {L : Env} (j : zO n a L) (new : Env) (hk : ∀ a', zO n a' (catE new L) -> Runs P f k a' w R)
  (hj : Nat.ble i ops.size = true := by rfl) (he : segD P n ops (List.range' i (ops.size - i)) L [] new = some (new, []) := by kernel_rfl) : WR P f ops i k a w R := WR.e j [] new (obs := []) trivial hk hj he
theorem Runs.sr {id : Nat} {ops : Array Oper} {y : Code} (h : WR P f ops 0 (.code y :: k) a w R) : Runs P f (.code (.seq (.region id ops false) y) :: k) a w R := Runs.seq (Runs.region h)
theorem WQ.d {ops : Array Oper} {dn : List Nat} {pend : List (Nat × List Ob)} {n : Nat} {L : Env} (l : zO n a L) (is : List Nat) (i : List Value) (new : Env) {obs : List Ob} (t : xO w obs)
  (hk : ∀ a', zO n a' (catE new L) -> WQ P f ops (dn ++ is) (segP P n ops is L i pend) k a' w R)
  (ht : (Nat.ble (dn.length + is.length) ops.size && kv ops is (vR dn)) = true := by kernel_rfl) (he : segD P n ops is L i new = some (new, obs) := by kernel_rfl) : WQ P f ops dn pend k a w R := by
 obtain ⟨L1, hs, hn⟩ := dp he;simp only [Bool.and_eq_true] at ht;have hle := Nat.le_of_ble_eq_true ht.1;have e : ops.size - dn.length = is.length + (ops.size - (dn ++ is).length) := by simp; omega
 unfold WQ;rw [e];intro hs';exact WP.segs hs' _ _ _ _ _ _ _ _ _ _ l (fun x => vB x dn) ht.2 hs t fun a' j => hk a' (hn a' j) hs'
theorem WQ.d0 {ops : Array Oper} {dn : List Nat} {pend : List (Nat × List Ob)} {n : Nat} {L : Env} (e : zO n a L) (is : List Nat) (new : Env)
  (hk : ∀ a', zO n a' (catE new L) -> WQ P f ops (dn ++ is) (segP P n ops is L [] pend) k a' w R)
  (ht : (Nat.ble (dn.length + is.length) ops.size && kv ops is (vR dn)) = true := by kernel_rfl) (he : segD P n ops is L [] new = some (new, []) := by kernel_rfl) : WQ P f ops dn pend k a w R := WQ.d e is [] new (obs := []) trivial hk ht he
end
end
noncomputable section
section
variable {α H : Type} {en : TypeId × Value -> H} {P : Program} {w : World} {base : Nat} {spare : Nat -> Bool} {held : Bool} {enc : α -> List Value} {sz : Nat}
end
end
noncomputable section
section
variable {K V : Type}
def mGet (eq : K -> K -> Bool) (k : K) : List (K × V) -> Option V
 | [] => none
 | p :: m => bif eq k p.1 then some p.2 else mGet eq k m
def mPut (eq : K -> K -> Bool) (k : K) (v : V) : List (K × V) -> List (K × V)
 | [] => [(k, v)]
 | p :: m => bif eq k p.1 then (k, v) :: m else p :: mPut eq k v m
def mDel (eq : K -> K -> Bool) (k : K) : List (K × V) -> List (K × V)
 | [] => []
 | p :: m => bif eq k p.1 then m else p :: mDel eq k m
def rC (eq : K -> K -> Bool) (k : K) (z : V) (m : List (K × V)) : Option (V × Bool) := some (match mGet eq k m with
 | some v => (v, true)
 | none => (z, false))
def mAt (eq : K -> K -> Bool) (k : K) : List K -> Nat -> Option Nat
 | [], _ => none
 | a :: ks, i => bif eq k a then some i else mAt eq k ks (i + 1)
theorem dZ (eq : K -> K -> Bool) (k : K) : ∀ (ks : List K) (i j : Nat), mAt eq k ks i = some j -> i <= j
 | [], i, j, h => by simp [mAt] at h
 | a :: ks, i, j, h => by
  simp only [mAt] at h;cases he : eq k a <;> simp [he] at h
  ·have := dZ eq k ks (i + 1) j h; omega
  ·omega
theorem eM (eq : K -> K -> Bool) (k : K) : ∀ (m : List (K × V)) (i : Nat),
  (mAt eq k (m.map (·.1)) i = none /\ mGet eq k m = none /\ (∀ v, mPut eq k v m = m ++ [(k, v)]) /\ mDel eq k m = m) \/
  ∃ j p, mAt eq k (m.map (·.1)) i = some (i + j) /\ m[j]? = some p /\ eq k p.1 = true /\ mGet eq k m = some p.2 /\ (∀ v, mPut eq k v m = m.set j (k, v)) /\ mDel eq k m = m.eraseIdx j
 | [], i => .inl ⟨rfl, rfl, fun _ => rfl, rfl⟩
 | p :: m, i => by
  cases he : eq k p.1
  ·rcases eM eq k m (i + 1) with ⟨h1, h2, h3, h4⟩ | ⟨j, q, h1, h2, h3, h4, e, l⟩
   ·exact .inl ⟨by simp [mAt, he, h1], by simp [mGet, he, h2], fun v => by simp [mPut, he, h3], by simp [mDel, he, h4]⟩
   ·refine .inr ⟨j + 1, q, ?_, by simpa using h2, h3, by simp [mGet, he, h4], fun v => by simp [mPut, he, e], by simp [mDel, he, l]⟩;simp [mAt, he, h1]; omega
  ·exact .inr ⟨0, p, by simp [mAt, he], rfl, he, by simp [mGet, he], fun v => by simp [mPut, he], by simp [mDel, he]⟩
structure rh (P : Program) (kt : TypeId) (ek : K -> Value) (eq : K -> K -> Bool) : Prop where
 check : ∀ (w : World) em k, (Instr.checkKey em 10000 kt (ek k)).run P w = .ok () w
 find : ∀ (w : World) k (es : List MapEntry) (ks : List K), es.map (·.key) = ks.map ek -> (Instr.findKey kt (ek k) es).run P w = .ok ((mAt eq k ks 0).bind fun j => (es[j]?).map fun e => (j, e.val)) w
 stays : ∀ (w : World) k, (Instr.keyThatStays (ek k) (ek k)).run P w = .ok (ek k) w
 same : ∀ a b, eq a b = true -> a = b
end
def kI (a b : Int) : Bool := a == b
theorem lN (k : Int) : ∀ (es : List MapEntry) (ks : List Int) (i : Nat), es.map (·.key) = ks.map vI -> Instr.findNow (.int .i64) (vI k) es i = some ((mAt kI k ks i).bind fun j => (es[j - i]?).map fun e => (j, e.val))
 | [], [], i, _ => by simp [Instr.findNow, mAt]
 | [], _ :: _, i, h => by simp at h
 | _ :: _, [], i, h => by simp at h
 | e :: es, a :: ks, i, h => by
  simp only [pC, List.cons.injEq] at h;have ih := lN k es ks (i + 1) h.2;simp only [Instr.findNow, h.1, vI, Instr.sameNow, if_true, mAt, kI];cases hk : (k == a)
  ·simp only [cF];simp only [vI] at ih;rw [ih];cases hm : mAt kI k ks (i + 1) with
   | none => rfl
   | some j =>
    have hj := dZ _ _ _ _ _ hm;have l : j - i = (j - (i + 1)) + 1 := by omega
    simp [l]
  ·simp
theorem rh.int {P : Program} {kt : TypeId} (h : P.underlying kt = some (.int .i64)) : rh P kt vI kI where
 check := fun w em k => Go.MapKept.run_checkKey h (show Go.MapKept.IsKey (.int .i64) (vI k) from rfl) em 9999
 find := fun w k es ks he => Go.MapKept.run_findKey h (by simpa using lN k es ks 0 he)
 stays := fun w k => Go.MapKept.run_keyThatStays (d := .int .i64) (show Go.MapKept.IsKey (.int .i64) (vI k) from rfl)
 same := fun a b h => by simpa [kI] using h
section
variable {K V : Type} {P : Program} {ek : K -> Value} {eq : K -> K -> Bool} {kt : TypeId}
theorem ot (he : ∀ (w : World) a b, (Op.equal kt (ek a) (ek b)).run P w = .ok (eq a b) w) (w : World) (k : K) : ∀ (es : List MapEntry) (ks : List K) (i : Nat), es.map (·.key) = ks.map ek ->
  (Instr.findAsking kt (ek k) es i).run P w = .ok ((mAt eq k ks i).bind fun j => (es[j - i]?).map fun e => (j, e.val)) w
 | [], [], i, _ => by simp [Instr.findAsking, mAt]
 | [], _ :: _, i, h => by simp at h
 | _ :: _, [], i, h => by simp at h
 | e :: es, a :: ks, i, h => by
  simp only [pC, List.cons.injEq] at h;have ih := ot he w k es ks (i + 1) h.2;simp only [Instr.findAsking, Sem.run_bind, h.1, he, Result.andThen_ok, mAt];cases hk : eq k a
  ·simp only [cF, Bool.false_eq_true, if_false, ih];cases hm : mAt eq k ks (i + 1) with
   | none => rfl
   | some j =>
    have hj := dZ _ _ _ _ _ hm;have l : j - i = (j - (i + 1)) + 1 := by omega
    simp [l]
  ·simp
theorem rh.struct {fs : Array Field} (h : P.underlying kt = some (.struct fs)) (j : ∀ (w : World) em k, (Instr.checkKey em 10000 kt (ek k)).run P w = .ok () w)
  (he : ∀ (w : World) a b, (Op.equal kt (ek a) (ek b)).run P w = .ok (eq a b) w) (hs : ∀ k, Instr.sameBits 10000 (ek k) (ek k) = true) (hq : ∀ a b, eq a b = true -> a = b) : rh P kt ek eq where
 check := j
 find := fun w k es ks i => by
  have hf := ot he w k es ks 0 i;have l : (Instr.findKey kt (ek k) es).run P w = (Instr.findAsking kt (ek k) es).run P w := by
   cases es with
   | nil => simp [Instr.findKey, xx P h, Instr.findNow, Instr.findAsking]
   | cons e es => simp [Instr.findKey, xx P h, Instr.findNow, Instr.sameNow]
  rw [l];simpa using hf
 stays := fun w k => by simp [Instr.keyThatStays, hs]
 same := hq
theorem pe {fs : Array Field} {cs : Array Value} (n : Nat) (h : P.underlying kt = some (.struct fs)) (w : World) (em : Bool)
  (hf : ∀ f ∈ fs.toList, f.name ≠ "_" /\ ∃ v, (part f.type cs f.offset).run P w = .ok v w /\ (Instr.checkKey em n f.type v).run P w = .ok () w) : (Instr.checkKey em (n + 1) kt (.agg cs)).run P w = .ok () w := by
 rw [Instr.checkKey];simp only [Sem.run_bind, xx P h, Result.andThen_ok];rw [<- Array.forIn_toList];generalize fs.toList = L at hf;induction L with
 | nil => simp
 | cons f L ih =>
  obtain ⟨hn, v, p1, p2⟩ := hf f (by simp);simp only [List.forIn_cons, Sem.run_bind, hn, ne_eq, not_false_eq_true, if_true, Result.andThen_ok, p1, p2, Sem.run_pure];exact ih fun y hy => hf y (by simp [hy])
theorem rY (n : Nat) (h : P.underlying kt = some (.int .i64)) (w : World) (em : Bool) (x : Int) : (Instr.checkKey em (n + 1) kt (.int .i64 x)).run P w = .ok () w :=
 Go.MapKept.run_checkKey h (show Go.MapKept.IsKey (.int .i64) (.int .i64 x) from rfl) em n
theorem Bn {P : Program} {cs : Array Value} {w : World} {em : Bool} {n : Nat} {Ls : List Field} (h : Ls = []) : ∀ f ∈ Ls, f.name ≠ "_" /\ ∃ v, (part f.type cs f.offset).run P w = .ok v w /\ (Instr.checkKey em n f.type v).run P w = .ok () w := by
 subst h; intro f hf; cases hf
theorem eZ {P : Program} {cs : Array Value} {w : World} {em : Bool} {n : Nat} {Ls fs : List Field} {f : Field} {v : Value} (hL : Ls = f :: fs) (hn : (f.name == "_") = false) (p : (part f.type cs f.offset).run P w = .ok v w) (c : (Instr.checkKey em n f.type v).run P w = .ok () w)
  (r : ∀ g ∈ fs, g.name ≠ "_" /\ ∃ v, (part g.type cs g.offset).run P w = .ok v w /\ (Instr.checkKey em n g.type v).run P w = .ok () w) : ∀ g ∈ Ls, g.name ≠ "_" /\ ∃ v, (part g.type cs g.offset).run P w = .ok v w /\ (Instr.checkKey em n g.type v).run P w = .ok () w := by
 subst hL; intro g hg;rcases List.mem_cons.1 hg with rfl | hg
 ·exact ⟨by simpa using hn, v, p, c⟩
 ·exact r g hg
def MpA (r : Nat) (ek : K -> Value) (ev : V -> Value) (m : List (K × V)) : HP := fun h => ∃ x : Array MapEntry × Nat, One r (.map x.1 x.2) h /\ x.1.toList.map (fun e => (e.key, e.val)) = m.map fun p => (ek p.1, ev p.2)
variable {ev : V -> Value} {w w0 : World} {As : List HP} {n r : Nat} {L : Env} {o : Oper} {a : Act} {m : List (K × V)} {k : K}
theorem MpA.keys {es : List MapEntry} {m : List (K × V)} (h : es.map (fun e => (e.key, e.val)) = m.map fun p => (ek p.1, ev p.2)) : es.map (·.key) = (m.map (·.1)).map ek := by
 have := congrArg (List.map Prod.fst) h;simp only [List.map_map] at this;rw [List.map_map];exact this
theorem MpA.get {es : List MapEntry} {m : List (K × V)} (h : es.map (fun e => (e.key, e.val)) = m.map fun p => (ek p.1, ev p.2)) {j : Nat} {p : K × V} (hj : m[j]? = some p) : ∃ e, es[j]? = some e /\ e.key = ek p.1 /\ e.val = ev p.2 := by
 have h2 := congrArg (fun l => l[j]?) h;simp only [List.getElem?_map, hj, Option.map_some] at h2;cases he : es[j]? with
 | none => rw [he] at h2; simp at h2
 | some e => rw [he] at h2; simp at h2; exact ⟨e, rfl, h2.1, h2.2⟩
theorem rh.found (hk : rh P kt ek eq) (w : World) (k : K) {es : List MapEntry} {m : List (K × V)} (h : es.map (fun e => (e.key, e.val)) = m.map fun p => (ek p.1, ev p.2)) :
  ((Instr.findKey kt (ek k) es).run P w = .ok none w /\ mGet eq k m = none /\ (∀ v, mPut eq k v m = m ++ [(k, v)]) /\ mDel eq k m = m) \/
  ∃ j e v, (Instr.findKey kt (ek k) es).run P w = .ok (some (j, ev v)) w /\ es[j]? = some e /\ e.key = ek k /\ mGet eq k m = some v /\ (∀ v, mPut eq k v m = m.set j (k, v)) /\ mDel eq k m = m.eraseIdx j := by
 have hf := hk.find w k es _ (MpA.keys h);rcases eM eq k m 0 with ⟨h1, h2, h3, h4⟩ | ⟨j, p, h1, h2, h3, h4, l, t⟩
 ·left; rw [h1] at hf; exact ⟨hf, h2, h3, h4⟩
 ·right
  obtain ⟨e, i, u, x⟩ := MpA.get h h2;simp only [Nat.zero_add] at h1;rw [h1] at hf;simp only [bS, i, Option.map_some, x] at hf;exact ⟨j, e, p.2, hf, i, by rw [u, hk.same _ _ h3], h4, l, t⟩
theorem OpTo.BB {K V : Type} {w0 w : World} {As : List HP} (ek : K -> Value) (ev : V -> Value) {t : TypeId} (i : zO n a L) (H : St w0 As w) (e : o.op = .makeMap t none) : OpTo P o a w fun v w' => ∃ r : Nat, v = .map (some r) /\ St w0 (MpA r ek ev [] :: As) w' := by
 obtain ⟨dst, op, type, pos, after, guard⟩ := o;simp only at e;subst e;refine OpTo.of_run (w' := { w with heap := w.heap.push (.map #[] 0) }) (v := .map (some w.heap.size)) ?_ ⟨w.heap.size, rfl, ?_⟩
 ·simp [execOp, Instr.makeMap, newObj]
  rfl
 ·exact (H.alloc (.map #[] 0)).head fun h hh => ⟨(#[], 0), hh, by simp⟩
theorem ly {mt t : TypeId} {ti : TypeInfo} {z : V} (H : St w0 As w) (i : Nat) (hi : As[i]? = some (MpA r ek ev m)) (hk : rh P kt ek eq) (ht : P.underlying mt = some (.map kt t)) (hz : P.info? t = some ti) (u : ti.zero = some (ev z)) (ok : Bool) :
  ∀ {g : V × Bool}, rC eq k z m = some g -> (Instr.lookup mt (.map (some r)) (ek k) ok).run P w = .ok (if ok then .tuple #[ev g.1, .bool g.2] else ev g.1) w := by
 intro g l;obtain ⟨h1, hs, x, hh, B⟩ := H.at i hi;have A : w.heap[r]? = some (.map x.1 x.2) := hs _ _ hh;rcases hk.found w k B with ⟨f1, f2, _, _⟩ | ⟨j, e, v, f1, f2, f3, f4, _, _⟩
 ·have y : (zeroValue t).run P w = .ok (ev z) w := by simp [Go.zeroValue, Go.typeInfo, Sem.run, hz, u]
  simp [Instr.lookup, xx P ht, Go.MapKept.run_getObj_map A, hk.check, f1, y, Result.andThen]; simp [rC, f2] at l; subst l; rfl
 ·simp [Instr.lookup, xx P ht, Go.MapKept.run_getObj_map A, hk.check, f1, Result.andThen]; simp [rC, f4] at l; subst l; rfl
theorem OpTo.Bf {mt j : TypeId} {ti : TypeInfo} {z : V} {x y : Operand} (i : Nat) (l : zO n a L) (H : St w0 As w) (hi : As[i]? = some (MpA r ek ev m)) (hk : rh P kt ek eq) {g : V × Bool} (hl : rC eq k z m = some g) (t : o.op = .lookup mt x y true)
  (ht : P.underlying mt = some (.map kt j)) (hz : P.info? j = some ti) (e : ti.zero = some (ev z)) (u : evO L x = some (.map (some r))) (A : evO L y = some (ek k)) :
  OpTo P o a w fun v w' => v = .tuple #[ev g.1, .bool g.2] /\ w' = w := by
 obtain ⟨dst, op, type, pos, after, guard⟩ := o;simp only at t;subst t;have hl := ly (k := k) H i hi hk ht hz e true hl;exact OpTo.of_run (w' := w) (by simp [execOp, l.eval u, l.eval A, hl]) ⟨rfl, rfl⟩
theorem OpTo.Bt {mt j : TypeId} {ti : TypeInfo} {z : V} {x y : Operand} (i : Nat) (l : zO n a L) (H : St w0 As w) (hi : As[i]? = some (MpA r ek ev m)) (hk : rh P kt ek eq) {g : V × Bool} (hl : rC eq k z m = some g) (t : o.op = .lookup mt x y false)
  (ht : P.underlying mt = some (.map kt j)) (hz : P.info? j = some ti) (e : ti.zero = some (ev z)) (u : evO L x = some (.map (some r))) (A : evO L y = some (ek k)) :
  OpTo P o a w fun v w' => v = ev g.1 /\ w' = w := by
 obtain ⟨dst, op, type, pos, after, guard⟩ := o;simp only at t;subst t;have hl := ly (k := k) H i hi hk ht hz e false hl;exact OpTo.of_run (w' := w) (by simp [execOp, l.eval u, l.eval A, hl]) ⟨rfl, rfl⟩
theorem oz {α β : Type} (f : α -> β) : ∀ (l : List α) (j : Nat), (l.eraseIdx j).map f = (l.map f).eraseIdx j
 | [], _ => rfl
 | _ :: _, 0 => rfl
 | x :: l, j + 1 => by simp [oz f l j]
theorem St.bL (H : St w0 (MpA r ek ev m :: As) w) : ∃ es i, St w0 (One r (.map es i) :: As) w /\ es.toList.map (fun e => (e.key, e.val)) = m.map fun p => (ek p.1, ev p.2) := by
 obtain ⟨x, H⟩ := H.ex;have j := H.fact fun h hh => hh.2
 exact ⟨x.1, x.2, H.head fun h hh => hh.1, j⟩
theorem St.bb {es i : Array MapEntry} {u j : Nat} {l : List (K × V)} (H : St w0 (One r (.map es u) :: As) w) (he : i.toList.map (fun e => (e.key, e.val)) = l.map fun p => (ek p.1, ev p.2)) :
  St w0 (MpA r ek ev l :: As) { w with heap := w.heap.setIfInBounds r (.map i j) } := by
 have t := H.one 0 rfl;have := H.set (w' := { w with heap := w.heap.setIfInBounds r (.map i j) }) (o' := .map i j) rfl rfl rfl (Go.MapKept.heap_set t).1 (Go.MapKept.heap_set t).2;exact this.head fun h hh => ⟨(i, j), hh, he⟩
def ov : Op -> Option (TypeId × Operand × Operand × Operand)
 | .mapUpdate t m k x => some (t, m, k, x)
 | .insert t m k x => some (t, m, k, x)
 | _ => none
theorem OpTo.BD {mt F : TypeId} {x y z : Operand} {v : V} (A : zO n a L) (H : St w0 (MpA r ek ev m :: As) w) (hk : rh P kt ek eq) (D : ov o.op = some (mt, x, y, z))
  (ht : P.underlying mt = some (.map kt F)) (I : evO L x = some (.map (some r))) (J : evO L y = some (ek k)) (hz : evO L z = some (ev v)) : OpTo P o a w fun _ w' => St w0 (MpA r ek ev (mPut eq k v m) :: As) w' := by
 obtain ⟨es, B, H1, he⟩ := H.bL;have u := H1.one 0 rfl;have key : ∃ w', (Instr.mapUpdate mt (.map (some r)) (ek k) (ev v)).run P w = .ok () w' /\ St w0 (MpA r ek ev (mPut eq k v m) :: As) w' := by
  rcases hk.found w k he with ⟨f1, f2, f3, _⟩ | ⟨j, e, O, f1, f2, f3, f4, f5, _⟩
  ·refine ⟨{ w with heap := w.heap.setIfInBounds r (.map (es.push { key := ek k, val := ev v, born := B }) (B + 1)) }, ?_, H1.bb ?_⟩
   ·simp [Instr.mapUpdate, xx P ht, Go.MapKept.run_getObj_map u, hk.check, f1, Go.MapKept.run_setObj_map _ u, Result.andThen]
   ·rw [f3]; simp [he]
  ·have hj : es[j]? = some e := by simpa using f2
   refine ⟨{ w with heap := w.heap.setIfInBounds r (.map (es.modify j fun e => { e with key := ek k, val := ev v }) B) }, ?_, H1.bb ?_⟩
   ·simp [Instr.mapUpdate, xx P ht, Go.MapKept.run_getObj_map u, hk.check, f1, hj, f3, hk.stays, Go.MapKept.run_setObj_map _ u, Result.andThen]
   ·rw [f5];apply List.ext_getElem?;intro i;have hi := congrArg (fun l => l[i]?) he;simp only [List.getElem?_map, Array.getElem?_toList] at hi;simp only [List.getElem?_map, Array.getElem?_toList, Array.getElem?_modify, List.getElem?_set];by_cases t : j = i
    ·subst t;have hl : j < m.length := by
      rw [hj] at hi;cases hm : m[j]? with
      | none => rw [hm] at hi; simp at hi
      | some _ => exact (List.getElem?_eq_some_iff.1 hm).1
     simp [hj, hl]
    ·simp [t, hi]
 obtain ⟨w', h1, h2⟩ := key;obtain ⟨dst, op, type, pos, after, guard⟩ := o;cases op <;> simp only [ov] at D <;> try cases D
 all_goals exact OpTo.jZ (w' := w') (by simp [execOp, A.eval I, A.eval J, A.eval hz, h1]) h2
theorem OpTo.B7 {mt B : TypeId} {x y : Operand} {ats : Array TypeId} (i : zO n a L) (H : St w0 (MpA r ek ev m :: As) w) (hk : rh P kt ek eq) (t : o.op = .call { callee := .builtin .delete, args := #[x, y], argTypes := ats }) (ha : ats[0]? = some mt)
  (ht : P.underlying mt = some (.map kt B)) (u : evO L x = some (.map (some r))) (z : evO L y = some (ek k)) : OpTo P o a w fun v w' => v = .tuple #[] /\ St w0 (MpA r ek ev (mDel eq k m) :: As) w' := by
 obtain ⟨es, A, H1, he⟩ := H.bL;have l := H1.one 0 rfl;obtain ⟨dst, op, type, pos, after, guard⟩ := o;simp only at t;subst t;rcases hk.found w k he with ⟨f1, f2, _, f4⟩ | ⟨j, e, D, f1, f2, f3, f4, _, f6⟩
 ·refine OpTo.of_run (w' := { w with heap := w.heap.setIfInBounds r (.map es A) }) (v := .tuple #[]) ?_ ⟨rfl, H1.bb (by rw [f4]; exact he)⟩;simp [execOp, resolve, invoke, builtin, i.eval u, i.eval z, Builtin.delete_, ha, xx P ht, Go.MapKept.run_getObj_map l, hk.check, f1, Go.MapKept.run_setObj_map _ l, Result.andThen]
 ·refine OpTo.of_run (w' := { w with heap := w.heap.setIfInBounds r (.map (es.eraseIdxIfInBounds j) A) }) (v := .tuple #[]) ?_ ⟨rfl, H1.bb ?_⟩
  ·simp [execOp, resolve, invoke, builtin, i.eval u, i.eval z, Builtin.delete_, ha, xx P ht, Go.MapKept.run_getObj_map l, hk.check, f1, Go.MapKept.run_setObj_map _ l, Result.andThen]
  ·rw [f6];have hj : j < es.size := by
    have := (List.getElem?_eq_some_iff.1 f2).1;simpa using this
   simp only [Array.eraseIdxIfInBounds, hj, dif_pos, Array.toList_eraseIdx, oz, he]
end
section
variable {K V : Type} {P : Program} {ek : K -> Value} {ev : V -> Value} {w w0 : World} {As : List HP} {n r : Nat} {L : Env} {o : Oper} {a : Act} {m : List (K × V)}
end
def elemV (sb : Option Addr) (sz : Nat) : Option Int -> Value
 | none => .pointer none
 | some i => match sb with
  | some ⟨b, off, _⟩ => .pointer (some ⟨b, off + (Int.toNat i) * sz, none⟩)
  | none => .pointer none
theorem kg {sb : Option Addr} {sz b off : Nat} {i : Int} (h : sb = some ⟨b, off, none⟩) : elemV sb sz (some i) = .pointer (some ⟨b, off + (Int.toNat i) * sz, none⟩) := by subst h; rfl
def optV {α : Type} (q : Nat) : Option α -> Value
 | none => .pointer none
 | some _ => .pointer (some ⟨q, 0, none⟩)
def OptR {α : Type} (f : α -> HP) : Option α -> HP
 | none => fun _ => True
 | some m => f m
theorem St.optN {α : Type} {f : α -> HP} {w0 w : World} {As : List HP} (H : St w0 As w) : St w0 (OptR f none :: As) w :=
 ⟨H.os, H.tape, H.output, fun _ => none, hpOf w, fun _ => .inl rfl, fun _ _ h => by simp at h, Sub.refl _, trivial, H.heap⟩
def oS {α : Type} : Option α -> Unit ⊕ α
 | none => .inl ()
 | some x => .inr x
def uz {α β : Type} (o : Option α) (n : Option β) (s : α -> Option β) : Option β := match oS o with
 | .inl _ => n
 | .inr x => s x
theorem gn {α β : Type} {o : Option α} {n r : Option β} {s : α -> Option β} (e : o = none) (hm : uz o n s = r) : n = r := by subst e; exact hm
theorem fa {α β : Type} {o : Option α} {n r : Option β} {s : α -> Option β} {x : α} (e : o = some x) (hm : uz o n s = r) : s x = r := by subst e; exact hm
theorem AW {α : Type} {l : List α} {i : Int} {x : α} (h : mIdx l i = some x) : l[i.toNat]? = some x := (sC h).2
def Pure (q : Prop) : HP := fun _ => q
theorem St.pure {q : Prop} {w0 w : World} {As : List HP} (H : St w0 (Pure q :: As) w) : q /\ St w0 As w := ⟨H.fact fun _ h => h, H.x0⟩
theorem aX {α : Type} {l : List α} {i : Int} {x y : α} (h : mIdx l i = some x) : mIdx (mSet l i y) i = some y := by
 obtain ⟨⟨h0, h1⟩, h2⟩ := sC h;have hl : i.toNat < l.length := by omega
 simp [mIdx, mSet, h0, hl]
end
noncomputable section
section
variable {H : Type} {en : TypeId × Value -> H} {P : Program} {w : World} {base : Nat} {spare : Nat -> Bool} {held : Bool}
def pZ (P : Program) : Nat -> TypeId -> Bool
 | 0, _ => false
 | d + 1, e => match P.underlying e with
  | some (.int .i64) => P.cellsOf e == 1
  | some (.struct fs) => fs.toList.all (fun f => pZ P d f.type) && (List.range (P.cellsOf e)).all (fun j => fs.toList.any fun f => Nat.ble f.offset j && Nat.blt j (f.offset + P.cellsOf f.type))
  | _ => false
end
end
end Go.Th
noncomputable section
namespace Go.Th
def I64 (x : Int) : Prop := -9223372036854775808 <= x /\ x < 9223372036854775808
theorem Bc {x : Int} (h : (Lit.int .i64 x).wf = true) : I64 x := by
 simp [Lit.wf, IntKind.min, IntKind.max, IntKind.signed, IntKind.bits] at h;exact ⟨h.1, by omega⟩
section
variable {H : Type} {en : TypeId × Value -> H} {P : Program} {w : World} {base : Nat} {spare : Nat -> Bool} {held : Bool}
theorem gV : ∀ (d : Nat) (e : TypeId), pZ P d e = true -> ∀ n cs y, DataW.trod en P w base spare held n e cs = some y -> cs.length = P.cellsOf e /\ ∀ (j : Nat) (u : Value), cs[j]? = some u -> ∃ z : Int, u = Value.int .i64 z /\ I64 z
 | 0, e, h, _, _, _, _ => by simp [pZ] at h
 | d + 1, e, h, n, cs, y, ht => by
  rw [pZ] at h;split at h
  ·rename_i hu;obtain ⟨q, rfl, _, hw⟩ := DataW.trod_int hu ht;refine ⟨by simpa using (beq_iff_eq.1 h).symm, fun j u hj => ⟨q, ?_, Bc hw⟩⟩;cases j with
   | zero => simpa using hj.symm
   | succ j => simp at hj
  ·rename_i fs hu;simp only [Bool.and_eq_true, List.all_eq_true] at h;obtain ⟨h1, h2⟩ := h;obtain ⟨xs, m, _, _, hl, B, D⟩ := DataW.trod_struct hu ht;refine ⟨hl, fun j u hj => ?_⟩;have x : j < P.cellsOf e := by rw [<- hl]; exact (List.getElem?_eq_some_iff.1 hj).1
   have h3 := h2 j (List.mem_range.2 x);obtain ⟨f, hf, h4⟩ := List.any_eq_true.1 h3;simp only [Bool.and_eq_true] at h4;have I := Nat.le_of_ble_eq_true h4.1;have J : j < f.offset + P.cellsOf f.type := by
    have := h4.2;simp only [Nat.blt] at this;exact Nat.le_of_ble_eq_true this
   obtain ⟨i, hi⟩ := List.getElem?_of_mem hf;have l : fs[i]? = some f := by simpa using hi
   have t := D i f l;have A : i < xs.length := by
    have := (Array.getElem?_eq_some_iff.1 l).1;omega
   rw [List.getElem?_eq_getElem A] at t;obtain ⟨_, F⟩ := gV d f.type (h1 f hf) _ _ _ t;refine F (j - f.offset) u ?_;rw [List.getElem?_take, if_pos (by omega), List.getElem?_drop];rw [show f.offset + (j - f.offset) = j by omega];exact hj
  ·cases h
theorem dz {e : TypeId} (k : Nat) (hi : pZ P 5 e = true) (u : P.cellsOf e = k) : ∀ n cs y, DataW.trod en P w base spare held n e cs = some y -> ∃ z : List Int, z.length = k /\ cs = (z.map fun x => .int .i64 x) /\ ∀ x ∈ z, I64 x := fun n cs y h => by
 obtain ⟨hl, t⟩ := gV 5 e hi n cs y h;rw [u] at hl;obtain ⟨z, hz, hp⟩ := ij (α := Int) (p := fun i z => cs[i]? = some (.int .i64 z) /\ I64 z) k fun i hi => by
  have j : i < cs.length := by omega
  obtain ⟨q, hq, hr⟩ := t i cs[i] (by simp [j]);exact ⟨q, by rw [List.getElem?_eq_getElem j, hq], hr⟩
 refine ⟨z, hz, ?_, fun x A => ?_⟩
 ·apply List.ext_getElem?;intro i;by_cases B : i < k
  ·have l : i < z.length := by omega
   rw [(hp i z[i] (by simp [l])).1];simp [l]
  ·rw [List.getElem?_eq_none (by omega), List.getElem?_eq_none (by simp; omega)]
 ·obtain ⟨i, hi⟩ := List.mem_iff_getElem?.1 A;exact (hp i x hi).2
end
theorem SlRd.sub {α : Type} {p : α -> Prop} {X : HP} {enc : α -> List Value} {sz : Nat} {sb : Option Addr} {l : List {z : α // p z}} (h : SlRd X (fun z => enc z.1) sz sb l) : SlRd X enc sz sb (l.map (·.1)) := by
 intro g e;rcases h g e with rfl | ⟨b, off, cs, T, fr, h1, h2, h3⟩
 ·exact .inl rfl
 ·refine .inr ⟨b, off, cs, T, fr, h1, h2, fun i hi => ?_⟩;rw [lM] at hi;rw [h3 i hi];simp [List.flatMap_map]
theorem ao {α : Type} {p : α -> Prop} (l : List {z : α // p z}) : ∀ z ∈ l.map (·.1), p z := fun z hz => by
 obtain ⟨y, _, rfl⟩ := List.mem_map.1 hz;exact y.2
theorem xX.sub {α : Type} {p : α -> Prop} {enc : α -> List Value} {sz : Nat} (h : xX enc sz) : xX (fun z : {z : α // p z} => enc z.1) sz := ⟨fun x => h.len x.1, fun x => h.one x.1⟩
end Go.Th
namespace Go.Th
def js {α : Type} (enc : α -> List Value) (z : α) : Prop := ∀ n : Int, Value.int .i64 n ∈ enc z -> I64 n
theorem cX {l : List Int} {n : Int} (h : Value.int .i64 n ∈ l.map fun x => Value.int .i64 x) : n ∈ l := by
 obtain ⟨x, i, e⟩ := List.mem_map.1 h;cases e;exact i
end Go.Th
namespace Go.Th
section
variable {H : Type} {en : TypeId × Value -> H} {P : Program} {w : World} {base : Nat} {spare : Nat -> Bool} {held : Bool}
end
end Go.Th
end
noncomputable section
namespace Go.Th
end Go.Th
end
namespace Go.Th
noncomputable section
theorem Rd.take {w : World} {xb : Option Addr} {a b : List Value} (h : Rd w xb (a ++ b)) : Rd w xb a := by
 rcases h with h | ⟨e, h1, h2⟩
 ·left
  exact (List.append_eq_nil_iff.1 h).1
 ·refine .inr ⟨e, h1, fun j u hj => h2 j u ?_⟩;rw [List.getElem?_append_left (List.getElem?_eq_some_iff.1 hj).1];exact hj
section
variable {P : Program} {α : Type} {T : TypeId} {enc : α -> List Value} {sz : Nat} {w0 w : World} {As : List HP}
end
end
end Go.Th
namespace Go.Proofs.YtccbfeafebllhaaGreat
open Go.Th
noncomputable section
set_option maxRecDepth 10000
set_option maxHeartbeats 4000000
structure zd where
 At : Int
 Gen : Int
def zd.enc (x : zd) : List Value := [.int .i64 x.At, .int .i64 x.Gen]
theorem zd.zU : xX zd.enc 2 := ⟨fun _ => rfl, fun x u hu => by simp only [zd.enc, iC, List.not_mem_nil, or_false] at hu; rcases hu with rfl | rfl <;> rfl⟩
structure zt where
 Kind : Int
 Queue : Int
 Job : zd
 Time : Int
 Data : Int
def zt.enc (x : zt) : List Value := [.int .i64 x.Kind, .int .i64 x.Queue, .int .i64 x.Job.At, .int .i64 x.Job.Gen, .int .i64 x.Time, .int .i64 x.Data]
theorem zt.zU : xX zt.enc 6 := ⟨fun _ => rfl, fun x u hu => by simp only [zt.enc, iC, List.not_mem_nil, or_false] at hu; rcases hu with rfl | rfl | rfl | rfl | rfl | rfl <;> rfl⟩
structure y2 where
 Kind : Int
 Box : Int
 Command : zt
def y2.enc (x : y2) : List Value := [.int .i64 x.Kind, .int .i64 x.Box, .int .i64 x.Command.Kind, .int .i64 x.Command.Queue, .int .i64 x.Command.Job.At, .int .i64 x.Command.Job.Gen, .int .i64 x.Command.Time, .int .i64 x.Command.Data]
theorem y2.zU : xX y2.enc 8 := ⟨fun _ => rfl, fun x u hu => by simp only [y2.enc, iC, List.not_mem_nil, or_false] at hu; rcases hu with rfl | rfl | rfl | rfl | rfl | rfl | rfl | rfl <;> rfl⟩
structure zy where
 f0 : Int
 f1 : Int
 f2 : Int
 f3 : Int
 f4 : Int
 f5 : Int
 f6 : Int
 f7 : Int
 f8 : Int
 f9 : Int
 taken : Bool
def zy.enc (x : zy) : List Value := [.int .i64 x.f0, .int .i64 x.f1, .int .i64 x.f2, .int .i64 x.f3, .int .i64 x.f4, .int .i64 x.f5, .int .i64 x.f6, .int .i64 x.f7, .int .i64 x.f8, .int .i64 x.f9, .bool x.taken]
def zy.rZ (x : zy) (i : Int) : Option Int :=
 if i = 0 then some x.f0 else if i = 1 then some x.f1 else if i = 2 then some x.f2 else if i = 3 then some x.f3 else if i = 4 then some x.f4 else if i = 5 then some x.f5 else if i = 6 then some x.f6 else if i = 7 then some x.f7 else if i = 8 then some x.f8 else if i = 9 then some x.f9 else none
def zy.ph (x : zy) (i v : Int) : Option zy :=
 if i = 0 then some (zy.mk v x.f1 x.f2 x.f3 x.f4 x.f5 x.f6 x.f7 x.f8 x.f9 x.taken) else if i = 1 then some (zy.mk x.f0 v x.f2 x.f3 x.f4 x.f5 x.f6 x.f7 x.f8 x.f9 x.taken) else if i = 2 then some (zy.mk x.f0 x.f1 v x.f3 x.f4 x.f5 x.f6 x.f7 x.f8 x.f9 x.taken) else if i = 3 then some (zy.mk x.f0 x.f1 x.f2 v x.f4 x.f5 x.f6 x.f7 x.f8 x.f9 x.taken) else if i = 4 then some (zy.mk x.f0 x.f1 x.f2 x.f3 v x.f5 x.f6 x.f7 x.f8 x.f9 x.taken) else if i = 5 then some (zy.mk x.f0 x.f1 x.f2 x.f3 x.f4 v x.f6 x.f7 x.f8 x.f9 x.taken) else if i = 6 then some (zy.mk x.f0 x.f1 x.f2 x.f3 x.f4 x.f5 v x.f7 x.f8 x.f9 x.taken) else if i = 7 then some (zy.mk x.f0 x.f1 x.f2 x.f3 x.f4 x.f5 x.f6 v x.f8 x.f9 x.taken) else if i = 8 then some (zy.mk x.f0 x.f1 x.f2 x.f3 x.f4 x.f5 x.f6 x.f7 v x.f9 x.taken) else if i = 9 then some (zy.mk x.f0 x.f1 x.f2 x.f3 x.f4 x.f5 x.f6 x.f7 x.f8 v x.taken) else none
theorem zy.zU : xX zy.enc 11 := ⟨fun _ => rfl, fun x u hu => by simp only [zy.enc, iC, List.not_mem_nil, or_false] at hu; rcases hu with rfl | rfl | rfl | rfl | rfl | rfl | rfl | rfl | rfl | rfl | rfl <;> rfl⟩
structure zG where
 steps : Int
 begun : Int
 most : Int
structure za where
 l : List zy
 never : Int
 free : List Int
 m_ : zG
structure zE where
 kind : Int
 root : Int
 n : Int
def zE.enc (x : zE) : List Value := [.int .i64 x.kind, .int .i64 x.root, .int .i64 x.n]
theorem zE.zU : xX zE.enc 3 := ⟨fun _ => rfl, fun x u hu => by simp only [zE.enc, iC, List.not_mem_nil, or_false] at hu; rcases hu with rfl | rfl | rfl <;> rfl⟩
structure zz where
 gen : Int
 taken : Bool
 v_ : zE
def zz.enc (x : zz) : List Value := [.int .i64 x.gen, .bool x.taken, .int .i64 x.v_.kind, .int .i64 x.v_.root, .int .i64 x.v_.n]
theorem zz.zU : xX zz.enc 5 := ⟨fun _ => rfl, fun x u hu => by simp only [zz.enc, iC, List.not_mem_nil, or_false] at hu; rcases hu with rfl | rfl | rfl | rfl | rfl <;> rfl⟩
structure zh where
 most : Int
 l : List zz
 free : List Int
structure zC where
 cell : Int
 heap : zd
def zC.enc (x : zC) : List Value := [.int .i64 x.cell, .int .i64 x.heap.At, .int .i64 x.heap.Gen]
theorem zC.zU : xX zC.enc 3 := ⟨fun _ => rfl, fun x u hu => by simp only [zC.enc, iC, List.not_mem_nil, or_false] at hu; rcases hu with rfl | rfl | rfl <;> rfl⟩
structure zu where
 gen : Int
 taken : Bool
 v_ : zC
def zu.enc (x : zu) : List Value := [.int .i64 x.gen, .bool x.taken, .int .i64 x.v_.cell, .int .i64 x.v_.heap.At, .int .i64 x.v_.heap.Gen]
theorem zu.zU : xX zu.enc 5 := ⟨fun _ => rfl, fun x u hu => by simp only [zu.enc, iC, List.not_mem_nil, or_false] at hu; rcases hu with rfl | rfl | rfl | rfl | rfl <;> rfl⟩
structure ze where
 most : Int
 l : List zu
 free : List Int
structure zj where
 heaps : zh
 items : ze
 at_ : List (Int × zd)
def zd.val (x : zd) : Value := .agg #[.int .i64 x.At, .int .i64 x.Gen]
structure zH where
 Key : Int
 Serial : Int
def zH.enc (x : zH) : List Value := [.int .i64 x.Key, .int .i64 x.Serial]
theorem zH.zU : xX zH.enc 2 := ⟨fun _ => rfl, fun x u hu => by simp only [zH.enc, iC, List.not_mem_nil, or_false] at hu; rcases hu with rfl | rfl <;> rfl⟩
structure zs where
 items : Int
 a_ : za
 t_ : zj
 entries : List (zd × zH)
 serial : Int
def zH.val (x : zH) : Value := .agg #[.int .i64 x.Key, .int .i64 x.Serial]
structure zD where
 Queue : Int
 Time : Int
 Data : Int
 Item : zd
def zD.enc (x : zD) : List Value := [.int .i64 x.Queue, .int .i64 x.Time, .int .i64 x.Data, .int .i64 x.Item.At, .int .i64 x.Item.Gen]
theorem zD.zU : xX zD.enc 5 := ⟨fun _ => rfl, fun x u hu => by simp only [zD.enc, iC, List.not_mem_nil, or_false] at hu; rcases hu with rfl | rfl | rfl | rfl | rfl <;> rfl⟩
structure zw where
 gen : Int
 taken : Bool
 v_ : zD
def zw.enc (x : zw) : List Value := [.int .i64 x.gen, .bool x.taken, .int .i64 x.v_.Queue, .int .i64 x.v_.Time, .int .i64 x.v_.Data, .int .i64 x.v_.Item.At, .int .i64 x.v_.Item.Gen]
theorem zw.zU : xX zw.enc 7 := ⟨fun _ => rfl, fun x u hu => by simp only [zw.enc, iC, List.not_mem_nil, or_false] at hu; rcases hu with rfl | rfl | rfl | rfl | rfl | rfl | rfl <;> rfl⟩
structure zg where
 most : Int
 l : List zw
 free : List Int
structure zr where
 p : zg
 by_ : List (zd × zd)
structure zP where
 now : Int
structure zb where
 kind : Int
 most : Int
 q : zs
 heaps0 : zd
 heaps1 : zd
 t_ : zr
 when : List (zd × Int)
 clock : zP
 budget : Int
 last : Int
 top : Int
structure yc where
 Op : Int
 Kind : Int
 Heap : zd
 Other : zd
 Item : zd
 Key : Int
def yc.enc (x : yc) : List Value := [.int .i64 x.Op, .int .i64 x.Kind, .int .i64 x.Heap.At, .int .i64 x.Heap.Gen, .int .i64 x.Other.At, .int .i64 x.Other.Gen, .int .i64 x.Item.At, .int .i64 x.Item.Gen, .int .i64 x.Key]
theorem yc.zU : xX yc.enc 9 := ⟨fun _ => rfl, fun x u hu => by simp only [yc.enc, iC, List.not_mem_nil, or_false] at hu; rcases hu with rfl | rfl | rfl | rfl | rfl | rfl | rfl | rfl | rfl <;> rfl⟩
structure zM where
 Why : Int
 Heap : zd
 Item : zd
 Entry : zH
 N : Int
def zM.enc (x : zM) : List Value := [.int .i64 x.Why, .int .i64 x.Heap.At, .int .i64 x.Heap.Gen, .int .i64 x.Item.At, .int .i64 x.Item.Gen, .int .i64 x.Entry.Key, .int .i64 x.Entry.Serial, .int .i64 x.N]
theorem zM.zU : xX zM.enc 8 := ⟨fun _ => rfl, fun x u hu => by simp only [zM.enc, iC, List.not_mem_nil, or_false] at hu; rcases hu with rfl | rfl | rfl | rfl | rfl | rfl | rfl | rfl <;> rfl⟩
def yc.val (x : yc) : Value := .agg #[.int .i64 x.Op, .int .i64 x.Kind, .int .i64 x.Heap.At, .int .i64 x.Heap.Gen, .int .i64 x.Other.At, .int .i64 x.Other.Gen, .int .i64 x.Item.At, .int .i64 x.Item.Gen, .int .i64 x.Key]
def zE.val (x : zE) : Value := .agg #[.int .i64 x.kind, .int .i64 x.root, .int .i64 x.n]
structure zm where
 n : Int
 rank : Int
def zm.enc (x : zm) : List Value := [.int .i64 x.n, .int .i64 x.rank]
theorem zm.zU : xX zm.enc 2 := ⟨fun _ => rfl, fun x u hu => by simp only [zm.enc, iC, List.not_mem_nil, or_false] at hu; rcases hu with rfl | rfl <;> rfl⟩
def zm.val (x : zm) : Value := .agg #[.int .i64 x.n, .int .i64 x.rank]
def zC.val (x : zC) : Value := .agg #[.int .i64 x.cell, .int .i64 x.heap.At, .int .i64 x.heap.Gen]
def zd.eq (x y : zd) : Bool := (x.At == y.At && (x.Gen == y.Gen && true))
structure zf where
 c_ : MCh zt
def zt.val (x : zt) : Value := .agg #[.int .i64 x.Kind, .int .i64 x.Queue, .int .i64 x.Job.At, .int .i64 x.Job.Gen, .int .i64 x.Time, .int .i64 x.Data]
structure zi where
 l : List zf
structure zp where
 d : zb
 desk : zi
structure zq where
 Why : Int
 Job : zd
 Time : Int
 Data : Int
 N : Int
def zq.enc (x : zq) : List Value := [.int .i64 x.Why, .int .i64 x.Job.At, .int .i64 x.Job.Gen, .int .i64 x.Time, .int .i64 x.Data, .int .i64 x.N]
theorem zq.zU : xX zq.enc 6 := ⟨fun _ => rfl, fun x u hu => by simp only [zq.enc, iC, List.not_mem_nil, or_false] at hu; rcases hu with rfl | rfl | rfl | rfl | rfl | rfl <;> rfl⟩
structure zk where
 Command : zt
 Reply : zq
 Now : Int
 Steps : Int
def zk.enc (x : zk) : List Value := [.int .i64 x.Command.Kind, .int .i64 x.Command.Queue, .int .i64 x.Command.Job.At, .int .i64 x.Command.Job.Gen, .int .i64 x.Command.Time, .int .i64 x.Command.Data, .int .i64 x.Reply.Why, .int .i64 x.Reply.Job.At, .int .i64 x.Reply.Job.Gen, .int .i64 x.Reply.Time, .int .i64 x.Reply.Data, .int .i64 x.Reply.N, .int .i64 x.Now, .int .i64 x.Steps]
theorem zk.zU : xX zk.enc 14 := ⟨fun _ => rfl, fun x u hu => by simp only [zk.enc, iC, List.not_mem_nil, or_false] at hu; rcases hu with rfl | rfl | rfl | rfl | rfl | rfl | rfl | rfl | rfl | rfl | rfl | rfl | rfl | rfl <;> rfl⟩
structure zo where
 s : zp
 l : List zk
def zD.val (x : zD) : Value := .agg #[.int .i64 x.Queue, .int .i64 x.Time, .int .i64 x.Data, .int .i64 x.Item.At, .int .i64 x.Item.Gen]
def zq.eq (x y : zq) : Bool := (x.Why == y.Why && (zd.eq x.Job y.Job && (x.Time == y.Time && (x.Data == y.Data && (x.N == y.N && true)))))
def zt.eq (x y : zt) : Bool := (x.Kind == y.Kind && (x.Queue == y.Queue && (zd.eq x.Job y.Job && (x.Time == y.Time && (x.Data == y.Data && true)))))
def zk.eq (x y : zk) : Bool := (zt.eq x.Command y.Command && (zq.eq x.Reply y.Reply && (x.Now == y.Now && (x.Steps == y.Steps && true))))
structure yp where
 Kind : Int
 Queue : Int
 Job : Int
 Data : Int
 Time : Int
 Raw : zt
def yp.enc (x : yp) : List Value := [.int .i64 x.Kind, .int .i64 x.Queue, .int .i64 x.Job, .int .i64 x.Data, .int .i64 x.Time, .int .i64 x.Raw.Kind, .int .i64 x.Raw.Queue, .int .i64 x.Raw.Job.At, .int .i64 x.Raw.Job.Gen, .int .i64 x.Raw.Time, .int .i64 x.Raw.Data]
theorem yp.zU : xX yp.enc 11 := ⟨fun _ => rfl, fun x u hu => by simp only [yp.enc, iC, List.not_mem_nil, or_false] at hu; rcases hu with rfl | rfl | rfl | rfl | rfl | rfl | rfl | rfl | rfl | rfl | rfl <;> rfl⟩
structure zx where
 Kind : Int
 Box : Int
 D : yp
 Raw : y2
def zx.enc (x : zx) : List Value := [.int .i64 x.Kind, .int .i64 x.Box, .int .i64 x.D.Kind, .int .i64 x.D.Queue, .int .i64 x.D.Job, .int .i64 x.D.Data, .int .i64 x.D.Time, .int .i64 x.D.Raw.Kind, .int .i64 x.D.Raw.Queue, .int .i64 x.D.Raw.Job.At, .int .i64 x.D.Raw.Job.Gen, .int .i64 x.D.Raw.Time, .int .i64 x.D.Raw.Data, .int .i64 x.Raw.Kind, .int .i64 x.Raw.Box, .int .i64 x.Raw.Command.Kind, .int .i64 x.Raw.Command.Queue, .int .i64 x.Raw.Command.Job.At, .int .i64 x.Raw.Command.Job.Gen, .int .i64 x.Raw.Command.Time, .int .i64 x.Raw.Command.Data]
theorem zx.zU : xX zx.enc 21 := ⟨fun _ => rfl, fun x u hu => by simp only [zx.enc, iC, List.not_mem_nil, or_false] at hu; rcases hu with rfl | rfl | rfl | rfl | rfl | rfl | rfl | rfl | rfl | rfl | rfl | rfl | rfl | rfl | rfl | rfl | rfl | rfl | rfl | rfl | rfl <;> rfl⟩
def yp.val (x : yp) : Value := .agg #[.int .i64 x.Kind, .int .i64 x.Queue, .int .i64 x.Job, .int .i64 x.Data, .int .i64 x.Time, .int .i64 x.Raw.Kind, .int .i64 x.Raw.Queue, .int .i64 x.Raw.Job.At, .int .i64 x.Raw.Job.Gen, .int .i64 x.Raw.Time, .int .i64 x.Raw.Data]
def zx.val (x : zx) : Value := .agg #[.int .i64 x.Kind, .int .i64 x.Box, .int .i64 x.D.Kind, .int .i64 x.D.Queue, .int .i64 x.D.Job, .int .i64 x.D.Data, .int .i64 x.D.Time, .int .i64 x.D.Raw.Kind, .int .i64 x.D.Raw.Queue, .int .i64 x.D.Raw.Job.At, .int .i64 x.D.Raw.Job.Gen, .int .i64 x.D.Raw.Time, .int .i64 x.D.Raw.Data, .int .i64 x.Raw.Kind, .int .i64 x.Raw.Box, .int .i64 x.Raw.Command.Kind, .int .i64 x.Raw.Command.Queue, .int .i64 x.Raw.Command.Job.At, .int .i64 x.Raw.Command.Job.Gen, .int .i64 x.Raw.Command.Time, .int .i64 x.Raw.Command.Data]
structure zn where
 Most : Int
 Gens : List Int
 In : List Bool
 V : List Int
 Back : List Int
structure zF where
 Queue : Int
 Data : Int
 E : zH
 R : zd
def zF.enc (x : zF) : List Value := [.int .i64 x.Queue, .int .i64 x.Data, .int .i64 x.E.Key, .int .i64 x.E.Serial, .int .i64 x.R.At, .int .i64 x.R.Gen]
theorem zF.zU : xX zF.enc 6 := ⟨fun _ => rfl, fun x u hu => by simp only [zF.enc, iC, List.not_mem_nil, or_false] at hu; rcases hu with rfl | rfl | rfl | rfl | rfl | rfl <;> rfl⟩
structure zc where
 Most : Int
 Now : Int
 Next : Int
 Pool : zn
 L : List zF
def yM (n : Int) (lo : Int) (hi : Int) : Option (Int) :=
 (bif (decide (n >= lo)) && (decide (n <= hi)) then
  some n
 else
  (mNz (w64 ((w64 (hi - lo)) + 1))).bind fun u =>
  ((bif decide (Int.tmod n (w64 ((w64 (hi - lo)) + 1)) < 0) then
   some (w64 ((w64 ((w64 ((Int.tmod n (w64 ((w64 (hi - lo)) + 1))) + hi)) - lo)) + 1))
  else
   some (Int.tmod n (w64 ((w64 (hi - lo)) + 1))))).bind fun s =>
  some (w64 (lo + s)))
def u7 (e : Int) : Option (Bool) :=
 some ((decide (e >= 1)) && (decide (e <= 3)))
def bits_Len64 (x : Int) : Option (Int) :=
 ((bif decide (x >= 4294967296) then
  some (Int.fdiv x (2 ^ (min (Int.toNat 32) 64)), 32)
 else
  some (x, 0))).bind fun s =>
 ((bif decide (s.1 >= 65536) then
  some (Int.fdiv s.1 (2 ^ (min (Int.toNat 16) 64)), w64 (s.2 + 16))
 else
  some (s.1, s.2))).bind fun s1 =>
 ((bif decide (s1.1 >= 256) then
  some (Int.fdiv s1.1 (2 ^ (min (Int.toNat 8) 64)), w64 (s1.2 + 8))
 else
  some (s1.1, s1.2))).bind fun s2 =>
 (ay (ByteArray.mk #[0, 1, 2, 2, 3, 3, 3, 3, 4, 4, 4, 4, 4, 4, 4, 4, 5, 5, 5, 5, 5, 5, 5, 5, 5, 5, 5, 5, 5, 5, 5, 5, 6, 6, 6, 6, 6, 6, 6, 6, 6, 6, 6, 6, 6, 6, 6, 6, 6, 6, 6, 6, 6, 6, 6, 6, 6, 6, 6, 6, 6, 6, 6, 6, 7, 7, 7, 7, 7, 7, 7, 7, 7, 7, 7, 7, 7, 7, 7, 7, 7, 7, 7, 7, 7, 7, 7, 7, 7, 7, 7, 7, 7, 7, 7, 7, 7, 7, 7, 7, 7, 7, 7, 7, 7, 7, 7, 7, 7, 7, 7, 7, 7, 7, 7, 7, 7, 7, 7, 7, 7, 7, 7, 7, 7, 7, 7, 7, 8, 8, 8, 8, 8, 8, 8, 8, 8, 8, 8, 8, 8, 8, 8, 8, 8, 8, 8, 8, 8, 8, 8, 8, 8, 8, 8, 8, 8, 8, 8, 8, 8, 8, 8, 8, 8, 8, 8, 8, 8, 8, 8, 8, 8, 8, 8, 8, 8, 8, 8, 8, 8, 8, 8, 8, 8, 8, 8, 8, 8, 8, 8, 8, 8, 8, 8, 8, 8, 8, 8, 8, 8, 8, 8, 8, 8, 8, 8, 8, 8, 8, 8, 8, 8, 8, 8, 8, 8, 8, 8, 8, 8, 8, 8, 8, 8, 8, 8, 8, 8, 8, 8, 8, 8, 8, 8, 8, 8, 8, 8, 8, 8, 8, 8, 8, 8, 8, 8, 8, 8, 8, 8, 8, 8, 8, 8, 8]) (IntKind.wrap .u8 (s2.1))).bind fun c_ =>
 some (w64 (s2.2 + (w64 (c_))))
def bits_Len (x : Int) : Option (Int) :=
 (bits_Len64 x).bind fun t_ =>
 some t_
def qz (n : Int) : Option (Int) :=
 (bits_Len (IntKind.wrap .u64 ((if n > 0 then n else 0)))).bind fun t_ =>
 some t_
def vM (a_ : Int) (b : Int) : Option (Int) :=
 (bif (decide (b > 0)) && (decide (a_ > w64 (9223372036854775807 - b))) then
  some 9223372036854775807
 else
  (bif (decide (b < 0)) && (decide (a_ < w64 ((-9223372036854775808) - b))) then
   some (-9223372036854775808)
  else
   some (w64 (a_ + b))))
def vu (j : Int) (x1 : Int) : Nat -> Int -> Int -> Option (Int)
 | 0, _, _ => none
 | m + 1, e, x =>
  (bif decide (x < x1) then
   (vM e j).bind fun i =>
   vu j x1 m i (w64 (x + 1))
  else
   some e)
def px (k : Nat) (a_ : Int) (b : Int) (n : Int) : Option (Int) :=
 (qz n).bind fun t_ =>
 (vu b t_ k a_ 0).bind fun s =>
 some s
def sE (k : Nat) (i : Int) (items : Int) : Option (Int × Bool) :=
 ((u7 i).bind fun t_ =>
 (bif !t_ then
  some true
 else
  (bif decide (items < 1) then
   some true
  else
   some (decide (items > 4096))))).bind fun s =>
 (bif s then
  some (0, false)
 else
  (px k 2000 1600 (w64 (items + 1))).bind fun e =>
  some (e, true))
def mw  : Option (zG) :=
 some (zG.mk 0 0 0)
def pS (cells : Int) : Option (za) :=
 (fQ (if (if 65536 < cells then 65536 else cells) > 0 then (if 65536 < cells then 65536 else cells) else 0) (zy.mk 0 0 0 0 0 0 0 0 0 0 false)).bind fun l =>
 (mw).bind fun t_ =>
 some (za.mk l 0 ([] : List Int) t_)
def uq (places : Int) : Option (zh) :=
 some (zh.mk (if (if 65536 < places then 65536 else places) > 0 then (if 65536 < places then 65536 else places) else 0) ([] : List zz) ([] : List Int))
def vX (places : Int) : Option (ze) :=
 some (ze.mk (if (if 65536 < places then 65536 else places) > 0 then (if 65536 < places then 65536 else places) else 0) ([] : List zu) ([] : List Int))
def ma (items : Int) : Option (zj) :=
 (uq 64).bind fun t_ =>
 (vX (if (if 16384 < items then 16384 else items) > 1 then (if 16384 < items then 16384 else items) else 1)).bind fun e =>
 some (zj.mk t_ e ([] : List (Int × zd)))
def gv (items : Int) : Option ((Option zs) × Int) :=
 (bif (decide (items < 1)) || (decide (items > 16384)) then
  some ((none : Option zs), 1)
 else
  (pS (w64 (2 * items))).bind fun t_ =>
  (ma items).bind fun e =>
  some (some (zs.mk items t_ e ([] : List (zd × zH)) 0), 0))
def u3 (places : Int) : Option (zg) :=
 some (zg.mk (if (if 65536 < places then 65536 else places) > 0 then (if 65536 < places then 65536 else places) else 0) ([] : List zw) ([] : List Int))
def ox (e : Int) : Option (zr) :=
 (u3 (if (if 4096 < e then 4096 else e) > 1 then (if 4096 < e then 4096 else e) else 1)).bind fun t_ =>
 some (zr.mk t_ ([] : List (zd × zd)))
def pM  : Option (zP) :=
 some (zP.mk 0)
def wC (c_ : yc) : Option (zM) :=
 none
def uY (a_ : za) : Option (Unit) :=
 some ()
def rp (m_ : zG) : Option (Int) :=
 some (w64 (m_.steps - m_.begun))
def rX (m_ : zG) : Option (Int) :=
 (rp m_).bind fun t_ =>
 some (if t_ > m_.most then t_ else m_.most)
def uV (m_ : zG) : Option (zG) :=
 (rX m_).bind fun t_ =>
 some (zG.mk m_.steps m_.steps t_)
def qJ (e : Int) : Option (Bool) :=
 some ((decide (e >= 1)) && (decide (e <= 5)))
def yH (p : zh) (v_ : zE) : Option (zd × Bool × zh) :=
 ((bif decide (w64 ((p.free.length : Int) - 1) >= 0) then
  (mIdx p.free (w64 ((p.free.length : Int) - 1))).bind fun x =>
  (mCut p.free 0 (w64 ((p.free.length : Int) - 1))).bind fun l =>
  some (.inr (x, zh.mk p.most p.l l))
 else
  (bif decide ((p.l.length : Int) >= p.most) then
   some (.inl (zd.mk 0 0, false, p))
  else
   (mApp p.l ([zz.mk 0 false (zE.mk 0 0 0)] : List zz)).bind fun e =>
   some (.inr ((p.l.length : Int), zh.mk p.most e p.free)))) : Option ((zd × Bool × zh) ⊕ (Int × zh))).bind fun s =>
 match s with
 | .inl i => some i
 | .inr s1 =>
  (mIdx s1.2.l s1.1).bind fun x1 =>
  some (zd.mk s1.1 (w64 (x1.gen + 1)), true, zh.mk s1.2.most (mSet (mSet (mSet s1.2.l s1.1 (zz.mk (w64 (x1.gen + 1)) x1.taken x1.v_)) s1.1 (zz.mk (w64 (x1.gen + 1)) true x1.v_)) s1.1 (zz.mk (w64 (x1.gen + 1)) true v_)) s1.2.free)
def ue (t_ : zj) (j : Int) : Option (zd × Int × zj) :=
 (qJ j).bind fun i =>
 (bif !i then
  some (zd.mk 0 0, 24, t_)
 else
  (yH t_.heaps (zE.mk j (-1) 0)).bind fun e =>
  (bif !e.2.1 then
   some (zd.mk 0 0, 13, zj.mk e.2.2 t_.items t_.at_)
  else
   some (e.1, 0, zj.mk e.2.2 t_.items t_.at_)))
def yS (p : zh) (r : zd) : Option ((Option Int) × Int) :=
 ((bif decide (r.At < 0) then
  some true
 else
  (bif decide (r.At >= (p.l.length : Int)) then
   some true
  else
   (bif decide (r.Gen < 1) then
    some true
   else
    (mIdx p.l r.At).bind fun x1 =>
    some (decide (r.Gen > x1.gen)))))).bind fun s =>
 (bif s then
  some ((none : Option Int), 22)
 else
  (mIdx p.l r.At).bind fun x2 =>
  (bif (decide (r.Gen < x2.gen)) || (!x2.taken) then
   some ((none : Option Int), 23)
  else
   some ((some r.At : Option Int), 0)))
def yA (p : zh) (r : zd) : Option (zE × Int) :=
 (yS p r).bind fun t_ =>
 (uz t_.1
  ((bif t_.2 != 0 then
   some (zE.mk 0 0 0, t_.2)
  else
   none))
  (fun i =>
  (mIdx p.l i).bind fun x =>
  (bif t_.2 != 0 then
   some (zE.mk 0 0 0, t_.2)
  else
   some (x.v_, 0))))
def y7 (t_ : zj) (i : zd) : Option (Int × Int × Int × Int) :=
 (yA t_.heaps i).bind fun e =>
 some (e.1.kind, e.1.root, e.1.n, e.2)
def vq (e : Int) : Option (zM) :=
 some (zM.mk e (zd.mk 0 0) (zd.mk 0 0) (zH.mk 0 0) 0)
def yW (p : ze) : Option (Int) :=
 some (w64 ((p.l.length : Int) - (p.free.length : Int)))
def vU (t_ : zj) : Option (Int) :=
 (yW t_.items).bind fun e =>
 some e
def xp (m_ : zG) (n : Int) : Option (zG) :=
 (vM m_.steps (if n > 0 then n else 0)).bind fun t_ =>
 some (zG.mk t_ m_.begun m_.most)
def rB  : Option (zy) :=
 some (zy.mk (-1) (-1) (-1) (-1) 0 0 (-1) 0 0 (-1) true)
def vh (a_ : za) : Option (Int × Bool × za) :=
 (xp a_.m_ 1).bind fun t_ =>
 ((bif decide (w64 ((a_.free.length : Int) - 1) >= 0) then
  (mIdx a_.free (w64 ((a_.free.length : Int) - 1))).bind fun x =>
  (mCut a_.free 0 (w64 ((a_.free.length : Int) - 1))).bind fun l =>
  some (.inr (x, za.mk a_.l a_.never l t_))
 else
  (bif decide (a_.never >= (a_.l.length : Int)) then
   some (.inl ((-1), false, za.mk a_.l a_.never a_.free t_))
  else
   some (.inr (a_.never, za.mk a_.l (w64 (a_.never + 1)) a_.free t_)))) : Option ((Int × Bool × za) ⊕ (Int × za))).bind fun s =>
 match s with
 | .inl i => some i
 | .inr s1 =>
  (rB).bind fun e =>
  (mIdx s1.2.l s1.1).bind fun x1 =>
  some (s1.1, true, za.mk (mSet s1.2.l s1.1 e) s1.2.never s1.2.free s1.2.m_)
def ym (a_ : za) (c_ : Int) : Option (Bool) :=
 ((bif decide (c_ >= 0) then
  (bif decide (c_ < (a_.l.length : Int)) then
   (mIdx a_.l c_).bind fun x1 =>
   some x1.taken
  else
   some false)
 else
  some false)).bind fun s =>
 some s
def xZ (a_ : za) (c_ : Int) (field : Int) : Option (Bool) :=
 ((ym a_ c_).bind fun t_ =>
 (bif t_ then
  (bif decide (field >= 0) then
   some (decide (field < 10))
  else
   some false)
 else
  some false)).bind fun s =>
 some s
def zB (a_ : za) (c_ : Int) (field : Int) (v_ : Int) : Option (Bool × za) :=
 (xp a_.m_ 1).bind fun t_ =>
 (xZ (za.mk a_.l a_.never a_.free t_) c_ field).bind fun e =>
 (bif !e then
  some (false, za.mk a_.l a_.never a_.free t_)
 else
  (mIdx a_.l c_).bind fun x =>
  (mIn field 10).bind fun u =>
  (zy.ph x field v_).bind fun y =>
  some (true, za.mk (mSet a_.l c_ y) a_.never a_.free t_))
def nF (a_ : za) (key : Int) (serial : Int) : Option (Int × Bool × za) :=
 (vh a_).bind fun t_ =>
 ((bif t_.2.1 then
  (zB t_.2.2 t_.1 7 key).bind fun e =>
  (zB e.2 t_.1 8 serial).bind fun i =>
  some i.2
 else
  some t_.2.2)).bind fun s =>
 some (t_.1, t_.2.1, s)
def qC (a_ : za) (n : Int) (i : Int) : Option (za) :=
 (zB a_ n 6 i).bind fun t_ =>
 (zB t_.2 i 9 n).bind fun e =>
 some e.2
def qB (a_ : za) (i : Int) : Option (Int × Bool × za) :=
 (vh a_).bind fun t_ =>
 ((bif t_.2.1 then
  (qC t_.2.2 t_.1 i).bind fun e =>
  some e
 else
  some t_.2.2)).bind fun s =>
 some (t_.1, t_.2.1, s)
def xK (a_ : za) : Option (Int) :=
 some (a_.l.length : Int)
def zW (a_ : za) (c_ : Int) (field : Int) : Option (Int × za) :=
 (xp a_.m_ 1).bind fun t_ =>
 (xZ (za.mk a_.l a_.never a_.free t_) c_ field).bind fun e =>
 (bif !e then
  some ((-1), za.mk a_.l a_.never a_.free t_)
 else
  (mIdx a_.l c_).bind fun x =>
  (mIn field 10).bind fun u =>
  (zy.rZ x field).bind fun v_ =>
  some (v_, za.mk a_.l a_.never a_.free t_))
def zI (a_ : za) (c_ : Int) (field : Int) : Option (Int × za) :=
 (zW a_ c_ field).bind fun t_ =>
 ((bif decide (t_.1 < 0) then
  some true
 else
  some (decide (t_.1 >= (t_.2.l.length : Int))))).bind fun s =>
 (bif s then
  some ((-1), t_.2)
 else
  some (t_.1, t_.2))
def rl (a_ : za) (i : Int) : Option (zH × za) :=
 (zW a_ i 7).bind fun t_ =>
 (zW t_.2 i 8).bind fun e =>
 some (zH.mk t_.1 e.1, e.2)
def vK (x : Int) : Option (Bool) :=
 some (x != x)
def w5 (x : Int) (y : Int) : Option (Int) :=
 (vK x).bind fun t_ =>
 (vK y).bind fun e =>
 (bif t_ then
  (bif e then
   some 0
  else
   some (-1))
 else
  (bif e then
   some 1
  else
   (bif decide (x < y) then
    some (-1)
   else
    (bif decide (x > y) then
     some 1
    else
     some 0))))
def vQ (x1 : Int) (l : List Int) : Nat -> Int -> Option ((Int) ⊕ (Unit))
 | 0, _ => none
 | m + 1, x =>
  (bif decide (x < x1) then
   (mIdx l x).bind fun x2 =>
   (bif x2 != 0 then
    some (.inl x2)
   else
    vQ x1 l m (w64 (x + 1)))
  else
   some (.inr ()))
def qH (k : Nat) (e : List Int) : Option (Int) :=
 (vQ (e.length : Int) e k 0).bind fun s =>
 match s with
 | .inl i => some i
 | .inr s1 =>
  some 0
def tE (k : Nat) (a_ : zH) (b : zH) : Option (Int) :=
 (w5 a_.Key b.Key).bind fun t_ =>
 (w5 a_.Serial b.Serial).bind fun e =>
 (qH k ([t_, e] : List Int)).bind fun i =>
 some i
def rN (k : Nat) (a_ : za) (i : Int) (j : Int) : Option (Bool × za) :=
 (rl a_ i).bind fun t_ =>
 (rl t_.2 j).bind fun e =>
 (tE k t_.1 e.1).bind fun l =>
 some ((decide (l < 0)) || ((l == 0) && (decide (i < j))), e.2)
def vL (k : Nat) (a_ : za) (n : Int) (m_ : Int) : Option (Bool × za) :=
 (zI a_ n 6).bind fun t_ =>
 (zI t_.2 m_ 6).bind fun e =>
 (rN k e.2 t_.1 e.1).bind fun i =>
 some (i.1, i.2)
def th (a_ : za) (n : Int) : Option (Int × za) :=
 (bif n == (-1) then
  some (0, a_)
 else
  (zW a_ n 4).bind fun t_ =>
  some (t_.1, t_.2))
def tV (a_ : za) (n : Int) : Option (Bool × za) :=
 (zI a_ n 2).bind fun t_ =>
 (zI t_.2 n 3).bind fun i =>
 (th i.2 t_.1).bind fun j =>
 (th j.2 i.1).bind fun e =>
 ((bif decide (j.1 < e.1) then
  (zB e.2 n 2 i.1).bind fun t =>
  (zB t.2 n 3 t_.1).bind fun u =>
  some (j.1, u.2)
 else
  some (e.1, e.2))).bind fun s =>
 (zW s.2 n 4).bind fun l =>
 (zB l.2 n 4 (w64 (s.1 + 1))).bind fun x =>
 some (l.1 != (w64 (s.1 + 1)), x.2)
def w4 : Nat -> Int -> Int -> (List Int) -> za -> Option (Int × Int × (List Int) × za)
 | 0, _, _, _, _ => none
 | m + 1, r1, s1, path, m_ =>
  ((bif r1 != (-1) then
   (bif s1 != (-1) then
    (xK m_).bind fun t_ =>
    some (decide ((path.length : Int) <= t_))
   else
    some false)
  else
   some false)).bind fun t =>
  (bif t then
   (vL m m_ s1 r1).bind fun e =>
   ((bif e.1 then
    some (s1, r1)
   else
    some (r1, s1))).bind fun j =>
   (mApp path ([j.1] : List Int)).bind fun l =>
   (zI e.2 j.1 3).bind fun i =>
   w4 m i.1 j.2 l i.2
  else
   some (r1, s1, path, m_))
def xW (j : List Int) : Nat -> Int -> Int -> za -> Option (Int × za)
 | 0, _, _, _ => none
 | m + 1, top, e, i =>
  (bif decide (e >= 0) then
   (mIdx j e).bind fun x =>
   (zB i x 3 top).bind fun l =>
   (mIdx j e).bind fun x1 =>
   (zB l.2 top 0 x1).bind fun t =>
   (mIdx j e).bind fun x2 =>
   (tV t.2 x2).bind fun u =>
   xW j m x2 (w64 (e - 1)) u.2
  else
   some (top, i))
def w7 (k : Nat) (a_ : za) (r : Int) (s : Int) : Option (Int × za) :=
 (bif r == s then
  some (r, a_)
 else
  (w4 k r s ([] : List Int) a_).bind fun s2 =>
  (xW s2.2.2.1 k (if s2.2.1 > s2.1 then s2.2.1 else s2.1) (w64 ((s2.2.2.1.length : Int) - 1)) s2.2.2.2).bind fun e =>
  (zB e.2 e.1 0 (-1)).bind fun i =>
  some (e.1, i.2))
def sG (k : Nat) (a_ : za) (r : Int) (i : Int) : Option (Int × Bool × za) :=
 (qB a_ i).bind fun t_ =>
 (bif !t_.2.1 then
  some (r, false, t_.2.2)
 else
  (zB t_.2.2 t_.1 4 1).bind fun j =>
  (w7 k j.2 r t_.1).bind fun e =>
  some (e.1, true, e.2))
def uX (e : Int) : Nat -> Int -> (List Int) -> za -> Option ((List Int) × za)
 | 0, _, _, _ => none
 | m + 1, j, out, m_ =>
  ((ym m_ j).bind fun t_ =>
  (bif t_ then
   (xK m_).bind fun t =>
   some (decide ((out.length : Int) < t))
  else
   some false)).bind fun s1 =>
  (bif s1 then
   (mApp out ([j] : List Int)).bind fun l =>
   (zI m_ j e).bind fun i =>
   uX e m i.1 l i.2
  else
   some (out, m_))
def pz (k : Nat) (a_ : za) (n : Int) (field : Int) : Option ((List Int) × za) :=
 (uX field k n ([] : List Int) a_).bind fun s =>
 some (s.1, s.2)
def wk (k : Nat) (a_ : za) (r : Int) : Option ((List Int) × za) :=
 (pz k a_ r 3).bind fun t_ =>
 some (t_.1, t_.2)
def uc (x : zm) (y : zm) : Option (Int) :=
 some (if (if 1 < w64 (x.rank - y.rank) then 1 else w64 (x.rank - y.rank)) > (-1) then (if 1 < w64 (x.rank - y.rank) then 1 else w64 (x.rank - y.rank)) else (-1))
def zT (i : Int) (l : Int) (i1 : Int) : Nat -> Int -> (List zm) -> Option ((List zm))
 | 0, _, _ => none
 | m + 1, j, e =>
  ((bif decide (j > i) then
   (mIdx e j).bind fun x1 =>
   (mIdx e (w64 (j - 1))).bind fun x2 =>
   (uc x1 x2).bind fun t_ =>
   some (decide (t_ < 0))
  else
   some false)).bind fun s2 =>
  (bif s2 then
   (mIdx e (w64 (j - 1))).bind fun x3 =>
   (mIdx e j).bind fun x4 =>
   (mIdx e j).bind fun x5 =>
   (mIdx (mSet e j x3) (w64 (j - 1))).bind fun x6 =>
   zT i l i1 m (w64 (j - 1)) (mSet (mSet e j x3) (w64 (j - 1)) x4)
  else
   some e)
def zK (e : Int) (j : Int) : Nat -> Int -> (List zm) -> Option ((List zm))
 | 0, _, _ => none
 | m + 1, i, m_ =>
  (bif decide (i < j) then
   (zT e j i m i m_).bind fun s1 =>
   zK e j m (w64 (i + 1)) s1
  else
   some m_)
def zQ (k : Nat) (data : List zm) (a_ : Int) (b : Int) : Option ((List zm)) :=
 (zK a_ b k (w64 (a_ + 1)) data).bind fun s =>
 (oU s.length data.length).bind fun u =>
 some s
def ya (e : Int) : Nat -> Int -> Int -> (List zm) -> Option (Int × (List zm))
 | 0, _, _, _ => none
 | m + 1, a_, b, m_ =>
  (bif decide (b <= e) then
   (zQ m m_ a_ b).bind fun t_ =>
   ya e m b (w64 (b + 20)) t_
  else
   some (a_, m_))
def xH (j : Int) (e : Int) (t : List zm) : Nat -> Int -> Int -> Option (Int)
 | 0, _, _ => none
 | m + 1, i, l =>
  (bif decide (l <= j) then
   none
  else
   some i)
def yk (i : Int) (l : List zm) : Nat -> Int -> Option (Unit)
 | 0, _ => none
 | m + 1, e =>
  (bif decide (e < i) then
   (xH i e l m 0 (w64 (2 * e))).bind fun s2 =>
   ((bif decide (w64 (s2 + e) < i) then
    none
   else
    some ())).bind fun j =>
   yk i l m (w64 (e * 2))
  else
   some ())
def y8 (k : Nat) (data : List zm) (n : Int) : Option ((List zm)) :=
 (ya n k 0 20 data).bind fun s =>
 (zQ k s.2 s.1 n).bind fun e =>
 (yk n e k 20).bind fun s1 =>
 (oU e.length data.length).bind fun u =>
 some e
def yG (k : Nat) (x : List zm) : Option ((List zm)) :=
 (y8 k x (x.length : Int)).bind fun t_ =>
 (oU t_.length x.length).bind fun u =>
 some t_
def ur (a_ : za) (n : Int) (up : Int) : Option (za) :=
 (zI a_ up 1).bind fun t_ =>
 (zB t_.2 n 3 t_.1).bind fun e =>
 (zB e.2 n 0 up).bind fun i =>
 (zB i.2 up 1 n).bind fun j =>
 some j.2
def uU (k : Nat) (a_ : za) (n : Int) (m_ : Int) (rank : Int) : Option (Int × za) :=
 (vL k a_ m_ n).bind fun t_ =>
 ((bif t_.1 then
  some (m_, n)
 else
  some (n, m_))).bind fun s =>
 (ur t_.2 s.2 s.1).bind fun e =>
 (zB e s.1 4 (w64 (rank + 1))).bind fun i =>
 some (s.1, i.2)
def ux (i : List Int) : Nat -> Int -> Int -> za -> Option (Int × za)
 | 0, _, _, _ => none
 | m + 1, next, e, m_ =>
  (bif decide (e >= 0) then
   (mIdx i e).bind fun x =>
   (zB m_ x 3 next).bind fun t_ =>
   (mIdx i e).bind fun x1 =>
   (zB t_.2 x1 0 (-1)).bind fun j =>
   (mIdx i e).bind fun x2 =>
   ux i m x2 (w64 (e - 1)) j.2
  else
   some (next, m_))
def pY (k : Nat) (a_ : za) (l : List Int) : Option (Int × za) :=
 (ux l k (-1) (w64 ((l.length : Int) - 1)) a_).bind fun s =>
 some (s.1, s.2)
def vr (x1 : Int) (e : List Int) : Nat -> (List zm) -> Int -> za -> Option ((List zm) × za)
 | 0, _, _, _ => none
 | m + 1, wait, x, m_ =>
  (bif decide (x < x1) then
   (mIdx e x).bind fun x2 =>
   (zW m_ x2 4).bind fun t_ =>
   (mApp wait ([zm.mk x2 t_.1] : List zm)).bind fun l2 =>
   vr x1 e m l2 (w64 (x + 1)) t_.2
  else
   some (wait, m_))
def vp (j : List zm) (v_ : Int) (e : Int) (t : List Int) (l : za) (u : List Int) : Nat -> Int -> Option (Int)
 | 0, _ => none
 | m + 1, i =>
  ((bif decide (i < (j.length : Int)) then
   (mIdx j i).bind fun x8 =>
   some (decide (x8.rank < e))
  else
   some false)).bind fun x =>
  (bif x then
   vp j v_ e t l u m (w64 (i + 1))
  else
   some i)
def wy (l : List Int) : Nat -> (List zm) -> (List Int) -> za -> Option ((List Int) × za)
 | 0, _, _, _ => none
 | m + 1, e, out, j =>
  (bif decide ((e.length : Int) > 0) then
   (mIdx e 0).bind fun x3 =>
   ((bif (e.length : Int) == 1 then
    some true
   else
    (mIdx e 1).bind fun x5 =>
    some (x5.rank != x3.rank))).bind fun s2 =>
   (bif s2 then
    (mCut e 1 (e.length : Int)).bind fun x =>
    (mApp out ([x3.n] : List Int)).bind fun y =>
    wy l m x y j
   else
    (mIdx e 1).bind fun x6 =>
    (uU m j x3.n x6.n x3.rank).bind fun i =>
    (mCut e 2 (e.length : Int)).bind fun u =>
    (vp u ((zm.mk i.1 (w64 (x3.rank + 1))).n) ((zm.mk i.1 (w64 (x3.rank + 1))).rank) out i.2 l m 0).bind fun z =>
    (qV u z ([(zm.mk i.1 (w64 (x3.rank + 1)))] : List zm)).bind fun t =>
    wy l m t out i.2)
  else
   some (out, j))
def vd (k : Nat) (a_ : za) (l : List Int) : Option (Int × za) :=
 (vr (l.length : Int) l k ([] : List zm) 0 a_).bind fun s =>
 (yG k s.1).bind fun i =>
 (wy l k i ([] : List Int) s.2).bind fun s1 =>
 (pY k s1.2 s1.1).bind fun e =>
 some (e.1, e.2)
def uG (k : Nat) (a_ : za) (r : Int) (i : Int) : Option (Int × Bool × za) :=
 (qB a_ i).bind fun t_ =>
 (bif !t_.2.1 then
  some (r, false, t_.2.2)
 else
  (wk k t_.2.2 r).bind fun e =>
  (mApp ([t_.1] : List Int) e.1).bind fun l =>
  (vd k e.2 l).bind fun j =>
  some (j.1, true, j.2))
def rv (a_ : za) (n : Int) (m_ : Int) : Option (za) :=
 (zI a_ n 6).bind fun t_ =>
 (zI t_.2 m_ 6).bind fun e =>
 (qC e.2 n e.1).bind fun i =>
 (qC i m_ t_.1).bind fun j =>
 some j
def uW (k : Nat) (a_ : za) (r : Int) (n : Int) : Option (Int × za) :=
 ((bif r != (-1) then
  (zI a_ r 3).bind fun t_ =>
  some (t_.1, t_.2)
 else
  some ((-1), a_))).bind fun s =>
 (zW s.2 r 4).bind fun i =>
 ((bif s.1 == (-1) then
  some (true, i.2)
 else
  (zW i.2 s.1 4).bind fun l =>
  some (l.1 != i.1, l.2))).bind fun s1 =>
 (bif s1.1 then
  (zB s1.2 n 3 r).bind fun x =>
  (zB x.2 n 0 (-1)).bind fun y =>
  some (n, y.2)
 else
  (zI s1.2 s.1 3).bind fun t =>
  (uU k t.2 r s.1 i.1).bind fun e =>
  (vL k e.2 n e.1).bind fun j =>
  ((bif j.1 then
   (rv j.2 n e.1).bind fun z =>
   some z
  else
   some j.2)).bind fun s2 =>
  (ur s2 n e.1).bind fun A =>
  (zB A e.1 3 t.1).bind fun u =>
  some (e.1, u.2))
def qj (k : Nat) (a_ : za) (r : Int) (i : Int) : Option (Int × Bool × za) :=
 (qB a_ i).bind fun t_ =>
 (bif !t_.2.1 then
  some (r, false, t_.2.2)
 else
  (uW k t_.2.2 r t_.1).bind fun e =>
  some (e.1, true, e.2))
def fh (a_ : za) (r : Int) (i : Int) : Option (Int × Bool) :=
 none
def nj (a_ : za) (r : Int) (i : Int) : Option (Int × Bool) :=
 none
def oC (k : Nat) (l : Int) (a_ : za) (r : Int) (i : Int) : Option (Int × Bool × za) :=
 (bif l == 1 then
  (sG k a_ r i).bind fun t_ =>
  some (t_.1, t_.2.1, t_.2.2)
 else
  (bif l == 2 then
   (uG k a_ r i).bind fun e =>
   some (e.1, e.2.1, e.2.2)
  else
   (bif l == 3 then
    (qj k a_ r i).bind fun j =>
    some (j.1, j.2.1, j.2.2)
   else
    (bif l == 4 then
     (fh a_ r i).bind fun t =>
     some (t.1, t.2, a_)
    else
     (bif l == 5 then
      (nj a_ r i).bind fun u =>
      some (u.1, u.2, a_)
     else
      some (r, false, a_))))))
def wq (p : ze) : Option (Int) :=
 some p.most
def yC (p : ze) (v_ : zC) : Option (zd × Bool × ze) :=
 ((bif decide (w64 ((p.free.length : Int) - 1) >= 0) then
  (mIdx p.free (w64 ((p.free.length : Int) - 1))).bind fun x =>
  (mCut p.free 0 (w64 ((p.free.length : Int) - 1))).bind fun l =>
  some (.inr (x, ze.mk p.most p.l l))
 else
  (bif decide ((p.l.length : Int) >= p.most) then
   some (.inl (zd.mk 0 0, false, p))
  else
   (mApp p.l ([zu.mk 0 false (zC.mk 0 (zd.mk 0 0))] : List zu)).bind fun e =>
   some (.inr ((p.l.length : Int), ze.mk p.most e p.free)))) : Option ((zd × Bool × ze) ⊕ (Int × ze))).bind fun s =>
 match s with
 | .inl i => some i
 | .inr s1 =>
  (mIdx s1.2.l s1.1).bind fun x1 =>
  some (zd.mk s1.1 (w64 (x1.gen + 1)), true, ze.mk s1.2.most (mSet (mSet (mSet s1.2.l s1.1 (zu.mk (w64 (x1.gen + 1)) x1.taken x1.v_)) s1.1 (zu.mk (w64 (x1.gen + 1)) true x1.v_)) s1.1 (zu.mk (w64 (x1.gen + 1)) true v_)) s1.2.free)
def uL (t_ : zj) (t : zd) (cell : Int) : Option (zd × Int × zj) :=
 (yA t_.heaps t).bind fun i =>
 (bif i.2 != 0 then
  some (zd.mk 0 0, i.2, t_)
 else
  (rC kI cell (zd.mk 0 0) t_.at_).bind fun x =>
  (yW t_.items).bind fun j =>
  (wq t_.items).bind fun l =>
  (bif j == l then
   some (zd.mk 0 0, 13, t_)
  else
   (bif x.2 then
    some (zd.mk 0 0, 1, t_)
   else
    (yC t_.items (zC.mk cell t)).bind fun e =>
    some (e.1, 0, zj.mk ((zj.mk t_.heaps e.2.2 t_.at_).heaps) ((zj.mk t_.heaps e.2.2 t_.at_).items) (mPut kI cell e.1 ((zj.mk t_.heaps e.2.2 t_.at_).at_))))))
def xu (p : zh) (r : zd) (v_ : zE) : Option (Int × zh) :=
 (yS p r).bind fun t_ =>
 (uz t_.1
  (((bif t_.2 == 0 then
   none
  else
   some ())).bind fun s =>
  some (t_.2, p))
  (fun i =>
  (mIdx p.l i).bind fun x =>
  ((bif t_.2 == 0 then
   some (zh.mk p.most (mSet p.l i (zz.mk x.gen x.taken v_)) p.free)
  else
   some p)).bind fun s1 =>
  some (t_.2, s1)))
def xm (t_ : zj) (j : zd) (r : Int) (n : Int) : Option (Int × zj) :=
 (yA t_.heaps j).bind fun e =>
 ((bif e.2 == 0 then
  (xu t_.heaps j (zE.mk e.1.kind r n)).bind fun i =>
  some (zj.mk i.2 t_.items t_.at_)
 else
  some t_)).bind fun s =>
 some (e.2, s)
def ui (k : Nat) (q : zs) (c_ : yc) : Option (zM × zs) :=
 (y7 q.t_ c_.Heap).bind fun t_ =>
 (bif t_.2.2.2 != 0 then
  (vq t_.2.2.2).bind fun l =>
  some (l, q)
 else
  (vU q.t_).bind fun t =>
  (bif decide (t >= q.items) then
   (vq 13).bind fun u =>
   some (u, q)
  else
   (nF q.a_ c_.Key q.serial).bind fun j =>
   (oC k t_.1 j.2.2 t_.2.1 j.1).bind fun i =>
   (uL q.t_ c_.Heap j.1).bind fun e =>
   (xm ((zs.mk q.items i.2.2 e.2.2 q.entries q.serial).t_) c_.Heap i.1 (w64 (t_.2.2.1 + 1))).bind fun x =>
   some (zM.mk 0 (zd.mk 0 0) e.1 (zH.mk c_.Key q.serial) 0, zs.mk ((zs.mk q.items i.2.2 e.2.2 q.entries q.serial).items) ((zs.mk q.items i.2.2 e.2.2 q.entries q.serial).a_) x.2 (mPut zd.eq e.1 (zH.mk c_.Key q.serial) ((zs.mk q.items i.2.2 e.2.2 q.entries q.serial).entries)) (w64 (((zs.mk q.items i.2.2 e.2.2 q.entries q.serial).serial) + 1)))))
def rV (a_ : za) (r : Int) : Option (Int × za) :=
 (zI a_ r 6).bind fun t_ =>
 some (t_.1, t_.2)
def wO (x1 : Int) (i : List Int) : Nat -> Int -> Int -> za -> Option (Int × za)
 | 0, _, _, _ => none
 | m + 1, e, x, m_ =>
  (bif decide (x < x1) then
   ((mIdx i x).bind fun x2 =>
   ((bif e == (-1) then
    some (true, m_)
   else
    (vL m m_ x2 e).bind fun t_ =>
    some (t_.1, t_.2))).bind fun s2 =>
   (bif s2.1 then
    some (x2, s2.2)
   else
    some (e, s2.2))).bind fun s1 =>
   wO x1 i m s1.1 (w64 (x + 1)) s1.2
  else
   some (e, m_))
def vn (k : Nat) (a_ : za) (l : List Int) : Option (Int × za) :=
 (wO (l.length : Int) l k (-1) 0 a_).bind fun s =>
 some (s.1, s.2)
def tn (k : Nat) (a_ : za) (r : Int) : Option (Int × za) :=
 (wk k a_ r).bind fun t_ =>
 (vn k t_.2 t_.1).bind fun e =>
 (zI e.2 e.1 6).bind fun i =>
 some (i.1, i.2)
def ow (k : Nat) (a_ : za) (r : Int) : Option (Int × za) :=
 (wk k a_ r).bind fun t_ =>
 (vn k t_.2 t_.1).bind fun e =>
 (zI e.2 e.1 6).bind fun i =>
 some (i.1, i.2)
def dU (a_ : za) (r : Int) : Option (Int) :=
 none
def mz (a_ : za) (r : Int) : Option (Int) :=
 none
def nD (k : Nat) (e : Int) (a_ : za) (r : Int) : Option (Int × za) :=
 (bif e == 1 then
  (rV a_ r).bind fun t_ =>
  some (t_.1, t_.2)
 else
  (bif e == 2 then
   (tn k a_ r).bind fun i =>
   some (i.1, i.2)
  else
   (bif e == 3 then
    (ow k a_ r).bind fun j =>
    some (j.1, j.2)
   else
    (bif e == 4 then
     (dU a_ r).bind fun l =>
     some (l, a_)
    else
     (bif e == 5 then
      (mz a_ r).bind fun t =>
      some (t, a_)
     else
      some ((-1), a_))))))
def ub (t_ : zj) (cell : Int) : Option (zd × Bool) :=
 (rC kI cell (zd.mk 0 0) t_.at_).bind fun x =>
 some (x.1, x.2)
def qg (k : Nat) (a_ : za) (n : Int) : Option (Int × za) :=
 (zI a_ n 2).bind fun t_ =>
 (zI t_.2 n 3).bind fun e =>
 (w7 k e.2 t_.1 e.1).bind fun i =>
 some (i.1, i.2)
def vi (a_ : za) (c_ : Int) : Option (Bool × za) :=
 (xp a_.m_ 1).bind fun t_ =>
 (ym (za.mk a_.l a_.never a_.free t_) c_).bind fun e =>
 (bif !e then
  some (false, za.mk a_.l a_.never a_.free t_)
 else
  (mIdx a_.l c_).bind fun x =>
  (mApp a_.free ([c_] : List Int)).bind fun l =>
  some (true, za.mk (mSet a_.l c_ (zy.mk x.f0 x.f1 x.f2 x.f3 x.f4 x.f5 x.f6 x.f7 x.f8 x.f9 false)) a_.never l t_))
def rG (a_ : za) (n : Int) : Option (Int × za) :=
 (zI a_ n 6).bind fun t_ =>
 (zB t_.2 t_.1 9 (-1)).bind fun e =>
 (vi e.2 n).bind fun i =>
 some (t_.1, i.2)
def uu (k : Nat) (a_ : za) (r : Int) : Option (Int × Int × za) :=
 ((ym a_ r).bind fun t_ =>
 some (!t_)).bind fun s =>
 (bif s then
  some ((-1), (-1), a_)
 else
  (qg k a_ r).bind fun e =>
  (zB e.2 e.1 0 (-1)).bind fun j =>
  (rG j.2 r).bind fun i =>
  some (e.1, i.1, i.2))
def wG (x : Int) (v_ : Int) : Option (Bool) :=
 some (x == v_)
def zY (x1 : Int) (l : List Int) (e : Int) : Nat -> Int -> Option ((Int) ⊕ (Unit))
 | 0, _ => none
 | m + 1, x =>
  (bif decide (x < x1) then
   (mIdx l x).bind fun x2 =>
   (wG x2 e).bind fun t_ =>
   (bif t_ then
    some (.inl x)
   else
    zY x1 l e m (w64 (x + 1)))
  else
   some (.inr ()))
def xQ (k : Nat) (s : List Int) (v_ : Int) : Option (Int) :=
 (zY (s.length : Int) s v_ k 0).bind fun s1 =>
 match s1 with
 | .inl e => some e
 | .inr s2 =>
  some (-1)
def yf (e : Int) : Nat -> Int -> Int -> (List Int) -> Option (Int × (List Int))
 | 0, _, _, _ => none
 | m + 1, i, j, m_ =>
  (bif decide (j < (m_.length : Int)) then
   ((mIdx m_ j).bind fun x =>
   (wG x e).bind fun l =>
   (bif !l then
    (mIdx m_ i).bind fun x1 =>
    some (w64 (i + 1), mSet m_ i x)
   else
    some (i, m_))).bind fun s2 =>
   yf e m s2.1 (w64 (j + 1)) s2.2
  else
   some (i, m_))
def xg (k : Nat) (s : List Int) (v_ : Int) : Option ((List Int)) :=
 (xQ k s v_).bind fun t_ =>
 (bif t_ == (-1) then
  some s
 else
  (yf v_ k t_ (w64 (t_ + 1)) s).bind fun s1 =>
  (mCut s1.2 s1.1 (s1.2.length : Int)).bind fun l =>
  (mCut (rW s1.2 s1.1 0) 0 s1.1).bind fun e =>
  some e)
def tP (k : Nat) (a_ : za) (n : Int) : Option ((List Int) × za) :=
 (zI a_ n 1).bind fun t_ =>
 (pz k t_.2 t_.1 3).bind fun e =>
 some (e.1, e.2)
def xB (k : Nat) (a_ : za) (l : List Int) (n : Int) : Option (Int × Int × za) :=
 (xg k l n).bind fun t_ =>
 (tP k a_ n).bind fun e =>
 (mApp t_ e.1).bind fun t =>
 (rG e.2 n).bind fun i =>
 (vd k i.2 t).bind fun j =>
 some (j.1, i.1, j.2)
def te (k : Nat) (a_ : za) (r : Int) : Option (Int × Int × za) :=
 ((ym a_ r).bind fun t_ =>
 some (!t_)).bind fun s =>
 (bif s then
  some ((-1), (-1), a_)
 else
  (wk k a_ r).bind fun e =>
  (vn k e.2 e.1).bind fun j =>
  (xB k j.2 e.1 j.1).bind fun i =>
  some (i.1, i.2.1, i.2.2))
def vN (x : Int) (v_ : Int) : Option (Bool) :=
 some (x == v_)
def zZ (x1 : Int) (l : List Int) (e : Int) : Nat -> Int -> Option ((Int) ⊕ (Unit))
 | 0, _ => none
 | m + 1, x =>
  (bif decide (x < x1) then
   (mIdx l x).bind fun x2 =>
   (vN x2 e).bind fun t_ =>
   (bif t_ then
    some (.inl x)
   else
    zZ x1 l e m (w64 (x + 1)))
  else
   some (.inr ()))
def xU (k : Nat) (s : List Int) (v_ : Int) : Option (Int) :=
 (zZ (s.length : Int) s v_ k 0).bind fun s1 =>
 match s1 with
 | .inl e => some e
 | .inr s2 =>
  some (-1)
def yg (e : Int) : Nat -> Int -> Int -> (List Int) -> Option (Int × (List Int))
 | 0, _, _, _ => none
 | m + 1, i, j, m_ =>
  (bif decide (j < (m_.length : Int)) then
   ((mIdx m_ j).bind fun x =>
   (vN x e).bind fun l =>
   (bif !l then
    (mIdx m_ i).bind fun x1 =>
    some (w64 (i + 1), mSet m_ i x)
   else
    some (i, m_))).bind fun s2 =>
   yg e m s2.1 (w64 (j + 1)) s2.2
  else
   some (i, m_))
def xh (k : Nat) (s : List Int) (v_ : Int) : Option ((List Int)) :=
 (xU k s v_).bind fun t_ =>
 (bif t_ == (-1) then
  some s
 else
  (yg v_ k t_ (w64 (t_ + 1)) s).bind fun s1 =>
  (mCut s1.2 s1.1 (s1.2.length : Int)).bind fun l =>
  (mCut (rW s1.2 s1.1 0) 0 s1.1).bind fun e =>
  some e)
def we (x1 : Int) (i : List Int) (v_ : Int) : Nat -> (List Int) -> (List Int) -> Int -> za -> Option ((List Int) × (List Int) × za)
 | 0, _, _, _, _ => none
 | m + 1, rest, alone, x, m_ =>
  (bif decide (x < x1) then
   ((mIdx i x).bind fun x2 =>
   (zW m_ x2 4).bind fun e =>
   (bif e.1 == 0 then
    (mApp alone ([x2] : List Int)).bind fun l2 =>
    some (rest, l2, e.2)
   else
    (mApp rest ([x2] : List Int)).bind fun j =>
    some (j, alone, e.2))).bind fun s1 =>
   we x1 i v_ m s1.1 s1.2.1 (w64 (x + 1)) s1.2.2
  else
   some (rest, alone, m_))
def xY (i : Int) (x4 : Int) (l : List Int) : Nat -> Int -> Int -> za -> Option (Int × za)
 | 0, _, _, _ => none
 | m + 1, t, x3, e =>
  (bif decide (x3 < x4) then
   (mIdx l x3).bind fun x5 =>
   (uW m e t x5).bind fun j =>
   xY i x4 l m j.1 (w64 (x3 + 1)) j.2
  else
   some (t, e))
def w6 (k : Nat) (a_ : za) (l : List Int) (n : Int) : Option (Int × Int × za) :=
 (xh k l n).bind fun t_ =>
 (tP k a_ n).bind fun e =>
 (we (e.1.length : Int) e.1 n k t_ ([] : List Int) 0 e.2).bind fun s =>
 (rG s.2.2 n).bind fun i =>
 (vd k i.2 s.1).bind fun j =>
 (xY i.1 (s.2.1.length : Int) s.2.1 k j.1 0 j.2).bind fun s2 =>
 some (s2.1, i.1, s2.2)
def oc (k : Nat) (a_ : za) (r : Int) : Option (Int × Int × za) :=
 ((ym a_ r).bind fun t_ =>
 some (!t_)).bind fun s =>
 (bif s then
  some ((-1), (-1), a_)
 else
  (wk k a_ r).bind fun e =>
  (vn k e.2 e.1).bind fun j =>
  (w6 k j.2 e.1 j.1).bind fun i =>
  some (i.1, i.2.1, i.2.2))
def cw (a_ : za) (r : Int) : Option (Int × Int) :=
 none
def mO (a_ : za) (r : Int) : Option (Int × Int) :=
 none
def nz (k : Nat) (j : Int) (a_ : za) (r : Int) : Option (Int × Int × za) :=
 (bif j == 1 then
  (uu k a_ r).bind fun t_ =>
  some (t_.1, t_.2.1, t_.2.2)
 else
  (bif j == 2 then
   (te k a_ r).bind fun e =>
   some (e.1, e.2.1, e.2.2)
  else
   (bif j == 3 then
    (oc k a_ r).bind fun i =>
    some (i.1, i.2.1, i.2.2)
   else
    (bif j == 4 then
     (cw a_ r).bind fun l =>
     some (l.1, l.2, a_)
    else
     (bif j == 5 then
      (mO a_ r).bind fun t =>
      some (t.1, t.2, a_)
     else
      some ((-1), (-1), a_))))))
def yP (p : ze) (r : zd) : Option ((Option Int) × Int) :=
 ((bif decide (r.At < 0) then
  some true
 else
  (bif decide (r.At >= (p.l.length : Int)) then
   some true
  else
   (bif decide (r.Gen < 1) then
    some true
   else
    (mIdx p.l r.At).bind fun x1 =>
    some (decide (r.Gen > x1.gen)))))).bind fun s =>
 (bif s then
  some ((none : Option Int), 22)
 else
  (mIdx p.l r.At).bind fun x2 =>
  (bif (decide (r.Gen < x2.gen)) || (!x2.taken) then
   some ((none : Option Int), 23)
  else
   some ((some r.At : Option Int), 0)))
def xF (p : ze) (r : zd) : Option (zC × Int × ze) :=
 (yP p r).bind fun t_ =>
 (uz t_.1
  ((bif t_.2 != 0 then
   some (zC.mk 0 (zd.mk 0 0), t_.2, p)
  else
   none))
  (fun i =>
  (mIdx p.l i).bind fun x =>
  (bif t_.2 != 0 then
   some (zC.mk 0 (zd.mk 0 0), t_.2, p)
  else
   (mApp p.free ([r.At] : List Int)).bind fun l =>
   some (x.v_, 0, ze.mk p.most (mSet (mSet p.l i (zu.mk x.gen false x.v_)) i (zu.mk x.gen false (zC.mk 0 (zd.mk 0 0)))) l))))
def tA (t_ : zj) (i : zd) : Option (Int × Int × zj) :=
 (xF t_.items i).bind fun e =>
 ((bif e.2.1 == 0 then
  some (zj.mk ((zj.mk t_.heaps e.2.2 t_.at_).heaps) ((zj.mk t_.heaps e.2.2 t_.at_).items) (mDel kI e.1.cell ((zj.mk t_.heaps e.2.2 t_.at_).at_)))
 else
  some (zj.mk t_.heaps e.2.2 t_.at_))).bind fun s =>
 some (e.1.cell, e.2.1, s)
def v7 (q : zs) (i : zd) : Option (zH × zs) :=
 (tA q.t_ i).bind fun t_ =>
 (vi q.a_ t_.1).bind fun e =>
 (rC zd.eq i (zH.mk 0 0) q.entries).bind fun x =>
 some (x.1, zs.mk q.items e.2 t_.2.2 (mDel zd.eq i q.entries) q.serial)
def w8 (k : Nat) (q : zs) (A : zd) (out : Bool) : Option (zM × zs) :=
 (y7 q.t_ A).bind fun t_ =>
 (bif t_.2.2.2 != 0 then
  (vq t_.2.2.2).bind fun u =>
  some (u, q)
 else
  (bif t_.2.2.1 == 0 then
   (vq 27).bind fun y =>
   some (y, q)
  else
   (bif !out then
    (nD k t_.1 q.a_ t_.2.1).bind fun e =>
    (ub q.t_ e.1).bind fun j =>
    (rC zd.eq j.1 (zH.mk 0 0) ((zs.mk q.items e.2 q.t_ q.entries q.serial).entries)).bind fun x =>
    some (zM.mk 0 (zd.mk 0 0) j.1 x.1 0, (zs.mk q.items e.2 q.t_ q.entries q.serial))
   else
    (nz k t_.1 q.a_ t_.2.1).bind fun i =>
    (ub q.t_ i.2.1).bind fun l =>
    (xm q.t_ A i.1 (w64 (t_.2.2.1 - 1))).bind fun z =>
    (v7 (zs.mk q.items i.2.2 z.2 q.entries q.serial) l.1).bind fun t =>
    some (zM.mk 0 (zd.mk 0 0) l.1 t.1 0, t.2))))
def yn (p : ze) (r : zd) : Option (zC × Int) :=
 (yP p r).bind fun t_ =>
 (uz t_.1
  ((bif t_.2 != 0 then
   some (zC.mk 0 (zd.mk 0 0), t_.2)
  else
   none))
  (fun i =>
  (mIdx p.l i).bind fun x =>
  (bif t_.2 != 0 then
   some (zC.mk 0 (zd.mk 0 0), t_.2)
  else
   some (x.v_, 0))))
def vj (t_ : zj) (i : zd) : Option (Int × Int) :=
 (yn t_.items i).bind fun e =>
 some (e.1.cell, e.2)
def vY (t_ : zj) (i : zd) : Option (zd × Int) :=
 (yn t_.items i).bind fun e =>
 some (e.1.heap, e.2)
def tM (a_ : za) (i : Int) (key : Int) : Option (Bool × za) :=
 ((zW a_ i 7).bind fun t_ =>
 some (decide (key > t_.1), t_.2)).bind fun s =>
 (bif s.1 then
  some (false, s.2)
 else
  (zB s.2 i 7 key).bind fun e =>
  some (e.1, e.2))
def vJ (a_ : za) (i : Int) : Option (Int × za) :=
 (zI a_ i 9).bind fun t_ =>
 some (t_.1, t_.2)
def xo : Nat -> Int -> Int -> za -> Option (za)
 | 0, _, _, _ => none
 | m + 1, p, l, m_ =>
  ((bif p != (-1) then
   (xK m_).bind fun j =>
   (bif decide (l <= j) then
    (tV m_ p).bind fun e =>
    some (e.1, e.2)
   else
    some (false, m_))
  else
   some (false, m_))).bind fun s2 =>
  (bif s2.1 then
   (zI s2.2 p 0).bind fun i =>
   xo m i.1 (w64 (l + 1)) i.2
  else
   some s2.2)
def uF (k : Nat) (a_ : za) (n : Int) : Option (za) :=
 (zI a_ n 0).bind fun t_ =>
 (zI t_.2 t_.1 2).bind fun e =>
 ((bif e.1 == n then
  (zB e.2 t_.1 2 (-1)).bind fun j =>
  some j.2
 else
  (zI e.2 t_.1 3).bind fun i =>
  (bif i.1 == n then
   (zB i.2 t_.1 3 (-1)).bind fun l =>
   some l.2
  else
   some i.2))).bind fun s =>
 (zB s n 0 (-1)).bind fun t =>
 (xo k t_.1 0 t.2).bind fun s1 =>
 some s1
def sB (k : Nat) (a_ : za) (r : Int) (i : Int) : Option (Int × za) :=
 (vJ a_ i).bind fun t_ =>
 ((bif t_.1 == (-1) then
  some (true, t_.2)
 else
  (bif t_.1 == r then
   some (true, t_.2)
  else
   (zI t_.2 t_.1 0).bind fun e =>
   some (e.1 == (-1), e.2)))).bind fun s =>
 (bif s.1 then
  some (r, s.2)
 else
  (uF k s.2 t_.1).bind fun l =>
  (w7 k l r t_.1).bind fun j =>
  some (j.1, j.2))
def vc (i : Bool) : Nat -> Int -> Int -> za -> Option (Int × za)
 | 0, _, _, _ => none
 | m + 1, n, u, m_ =>
  ((bif n != (-1) then
   (xK m_).bind fun l =>
   some (decide (u <= l))
  else
   some false)).bind fun s1 =>
  (bif s1 then
   (zI m_ n 0).bind fun e =>
   ((bif e.1 == (-1) then
    some (true, e.2)
   else
    (bif !i then
     (vL m e.2 n e.1).bind fun j =>
     some (!j.1, j.2)
    else
     some (false, e.2)))).bind fun s2 =>
   (bif s2.1 then
    some (n, s2.2)
   else
    (rv s2.2 n e.1).bind fun t =>
    vc i m e.1 (w64 (u + 1)) t)
  else
   some (n, m_))
def uZ (k : Nat) (a_ : za) (i : Int) (any : Bool) : Option (Int × za) :=
 (vJ a_ i).bind fun t_ =>
 (vc any k t_.1 0 t_.2).bind fun s =>
 some (s.1, s.2)
def uE (k : Nat) (a_ : za) (r : Int) (i : Int) : Option (Int × za) :=
 (uZ k a_ i false).bind fun t_ =>
 some (r, t_.2)
def qp (k : Nat) (a_ : za) (r : Int) (i : Int) : Option (Int × za) :=
 (uZ k a_ i false).bind fun t_ =>
 some (r, t_.2)
def gq (a_ : za) (r : Int) (i : Int) : Option (Int) :=
 none
def nt (a_ : za) (r : Int) (i : Int) : Option (Int) :=
 none
def ou (k : Nat) (e : Int) (a_ : za) (r : Int) (i : Int) : Option (Int × za) :=
 (bif e == 1 then
  (sB k a_ r i).bind fun t_ =>
  some (t_.1, t_.2)
 else
  (bif e == 2 then
   (uE k a_ r i).bind fun j =>
   some (j.1, j.2)
  else
   (bif e == 3 then
    (qp k a_ r i).bind fun l =>
    some (l.1, l.2)
   else
    (bif e == 4 then
     (gq a_ r i).bind fun t =>
     some (t, a_)
    else
     (bif e == 5 then
      (nt a_ r i).bind fun u =>
      some (u, a_)
     else
      some (r, a_))))))
def vE (k : Nat) (q : zs) (c_ : yc) : Option (zM × zs) :=
 (vj q.t_ c_.Item).bind fun t_ =>
 (rC zd.eq c_.Item (zH.mk 0 0) q.entries).bind fun x =>
 (bif t_.2 != 0 then
  (vq t_.2).bind fun l =>
  some (l, q)
 else
  (bif decide (c_.Key > x.1.Key) then
   (vq 26).bind fun t =>
   some (t, q)
  else
   (vY q.t_ c_.Item).bind fun i =>
   (y7 q.t_ i.1).bind fun e =>
   (tM q.a_ t_.1 c_.Key).bind fun u =>
   (ou k e.1 u.2 e.2.1 t_.1).bind fun j =>
   (xm q.t_ i.1 j.1 e.2.2.1).bind fun y =>
   some (zM.mk 0 (zd.mk 0 0) (zd.mk 0 0) (zH.mk c_.Key x.1.Serial) 0, zs.mk q.items j.2 y.2 (mPut zd.eq c_.Item (zH.mk c_.Key x.1.Serial) q.entries) q.serial)))
def rT (k : Nat) (a_ : za) (r : Int) (i : Int) : Option (Int × za) :=
 (vJ a_ i).bind fun t_ =>
 (bif t_.1 == (-1) then
  some (r, t_.2)
 else
  ((bif t_.1 == r then
   some (true, t_.2)
  else
   (zI t_.2 t_.1 0).bind fun e =>
   some (e.1 == (-1), e.2))).bind fun s =>
  (bif s.1 then
   (uu k s.2 t_.1).bind fun j =>
   some (j.1, j.2.2)
  else
   (uF k s.2 t_.1).bind fun u =>
   (uu k u t_.1).bind fun l =>
   (w7 k l.2.2 r l.1).bind fun t =>
   some (t.1, t.2)))
def wJ (e : Int) (x1 : Int) (l : List Int) : Nat -> Int -> Option ((Int) ⊕ (Unit))
 | 0, _ => none
 | m + 1, x =>
  (bif decide (x < x1) then
   (mIdx l x).bind fun x2 =>
   (bif e == x2 then
    some (.inl x)
   else
    wJ e x1 l m (w64 (x + 1)))
  else
   some (.inr ()))
def tv (k : Nat) (s : List Int) (v_ : Int) : Option (Int) :=
 (wJ v_ (s.length : Int) s k 0).bind fun s1 =>
 match s1 with
 | .inl e => some e
 | .inr s2 =>
  some (-1)
def wF (k : Nat) (s : List Int) (v_ : Int) : Option (Bool) :=
 (tv k s v_).bind fun t_ =>
 some (decide (t_ >= 0))
def tf (k : Nat) (a_ : za) (r : Int) (i : Int) : Option (Int × za) :=
 (vJ a_ i).bind fun t_ =>
 (bif t_.1 == (-1) then
  some (r, t_.2)
 else
  (uZ k t_.2 i true).bind fun j =>
  (wk k j.2 r).bind fun e =>
  (wF k e.1 j.1).bind fun t =>
  (bif !t then
   some (r, e.2)
  else
   (xB k e.2 e.1 j.1).bind fun l =>
   some (l.1, l.2.2)))
def pF (k : Nat) (a_ : za) (r : Int) (i : Int) : Option (Int × za) :=
 (vJ a_ i).bind fun t_ =>
 (bif t_.1 == (-1) then
  some (r, t_.2)
 else
  (uZ k t_.2 i true).bind fun j =>
  (wk k j.2 r).bind fun e =>
  (wF k e.1 j.1).bind fun t =>
  (bif !t then
   some (r, e.2)
  else
   (w6 k e.2 e.1 j.1).bind fun l =>
   some (l.1, l.2.2)))
def cz (a_ : za) (r : Int) (i : Int) : Option (Int) :=
 none
def nJ (a_ : za) (r : Int) (i : Int) : Option (Int) :=
 none
def nG (k : Nat) (e : Int) (a_ : za) (r : Int) (i : Int) : Option (Int × za) :=
 (bif e == 1 then
  (rT k a_ r i).bind fun t_ =>
  some (t_.1, t_.2)
 else
  (bif e == 2 then
   (tf k a_ r i).bind fun j =>
   some (j.1, j.2)
  else
   (bif e == 3 then
    (pF k a_ r i).bind fun l =>
    some (l.1, l.2)
   else
    (bif e == 4 then
     (cz a_ r i).bind fun t =>
     some (t, a_)
    else
     (bif e == 5 then
      (nJ a_ r i).bind fun u =>
      some (u, a_)
     else
      some (r, a_))))))
def ug (k : Nat) (q : zs) (i : zd) : Option (zM × zs) :=
 (vj q.t_ i).bind fun t_ =>
 (bif t_.2 != 0 then
  (vq t_.2).bind fun u =>
  some (u, q)
 else
  (vY q.t_ i).bind fun j =>
  (y7 q.t_ j.1).bind fun e =>
  (nG k e.1 q.a_ e.2.1 t_.1).bind fun l =>
  (xm q.t_ j.1 l.1 (w64 (e.2.2.1 - 1))).bind fun x =>
  (v7 (zs.mk q.items l.2 x.2 q.entries q.serial) i).bind fun t =>
  some (zM.mk 0 (zd.mk 0 0) (zd.mk 0 0) t.1 0, t.2))
def yI (x1 : Int) (m_ : ze) : Nat -> (List zd) -> Int -> Option ((List zd))
 | 0, _, _ => none
 | m + 1, out, x =>
  (bif decide (x < x1) then
   ((mIdx m_.l x).bind fun x2 =>
   (bif x2.taken then
    (mApp out ([zd.mk x x2.gen] : List zd)).bind fun l =>
    some l
   else
    some out)).bind fun s1 =>
   yI x1 m_ m s1 (w64 (x + 1))
  else
   some out)
def xS (k : Nat) (p : ze) : Option ((List zd)) :=
 (yI (p.l.length : Int) p k ([] : List zd) 0).bind fun s =>
 some s
def xM (x1 : Int) (m_ : zj) (l : List zd) (v_ : Int) (e : Int) : Nat -> (List zd) -> Int -> Option ((List zd))
 | 0, _, _ => none
 | m + 1, out, x =>
  (bif decide (x < x1) then
   ((mIdx l x).bind fun x2 =>
   (yn m_.items x2).bind fun i =>
   (bif zd.eq i.1.heap (zd.mk v_ e) then
    (mApp out ([x2] : List zd)).bind fun j =>
    some j
   else
    some out)).bind fun s1 =>
   xM x1 m_ l v_ e m s1 (w64 (x + 1))
  else
   some out)
def um (k : Nat) (t_ : zj) (i : zd) : Option ((List zd)) :=
 (xS k t_.items).bind fun e =>
 (xM (e.length : Int) t_ e i.At i.Gen k ([] : List zd) 0).bind fun s =>
 some s
def xP (p : ze) (r : zd) (v_ : zC) : Option (Int × ze) :=
 (yP p r).bind fun t_ =>
 (uz t_.1
  (((bif t_.2 == 0 then
   none
  else
   some ())).bind fun s =>
  some (t_.2, p))
  (fun i =>
  (mIdx p.l i).bind fun x =>
  ((bif t_.2 == 0 then
   some (ze.mk p.most (mSet p.l i (zu.mk x.gen x.taken v_)) p.free)
  else
   some p)).bind fun s1 =>
  some (t_.2, s1)))
def xV (p : zh) (r : zd) : Option (zE × Int × zh) :=
 (yS p r).bind fun t_ =>
 (uz t_.1
  ((bif t_.2 != 0 then
   some (zE.mk 0 0 0, t_.2, p)
  else
   none))
  (fun i =>
  (mIdx p.l i).bind fun x =>
  (bif t_.2 != 0 then
   some (zE.mk 0 0 0, t_.2, p)
  else
   (mApp p.free ([r.At] : List Int)).bind fun l =>
   some (x.v_, 0, zh.mk p.most (mSet (mSet p.l i (zz.mk x.gen false x.v_)) i (zz.mk x.gen false (zE.mk 0 0 0))) l))))
def xL (x1 : Int) (l : List zd) (v_ : Int) (j : Int) (e : Int) (i : Int) : Nat -> Int -> zj -> Option (zj)
 | 0, _, _ => none
 | m + 1, x, m_ =>
  (bif decide (x < x1) then
   (mIdx l x).bind fun x2 =>
   (yn m_.items x2).bind fun t =>
   (xP m_.items x2 (zC.mk t.1.cell (zd.mk e i))).bind fun u =>
   xL x1 l v_ j e i m (w64 (x + 1)) (zj.mk m_.heaps u.2 m_.at_)
  else
   some m_)
def uh (k : Nat) (t_ : zj) (t : zd) (o : zd) : Option (Int × zj) :=
 (yA t_.heaps t).bind fun e =>
 (bif e.2 != 0 then
  some (e.2, t_)
 else
  (yA t_.heaps o).bind fun i =>
  (bif i.2 != 0 then
   some (i.2, t_)
  else
   (bif zd.eq t o then
    some (25, t_)
   else
    (bif e.1.kind != i.1.kind then
     some (24, t_)
    else
     (um k t_ o).bind fun j =>
     (xL (j.length : Int) j o.At o.Gen t.At t.Gen k 0 t_).bind fun s =>
     (xV s.heaps o).bind fun l =>
     some (l.2.1, zj.mk l.2.2 s.items s.at_)))))
def sK (k : Nat) (a_ : za) (r : Int) (s : Int) : Option (Int × za) :=
 (w7 k a_ r s).bind fun t_ =>
 some (t_.1, t_.2)
def uM (k : Nat) (a_ : za) (r : Int) (s : Int) : Option (Int × za) :=
 (bif r == s then
  some (r, a_)
 else
  (wk k a_ r).bind fun t_ =>
  (wk k t_.2 s).bind fun e =>
  (mApp t_.1 e.1).bind fun l =>
  (vd k e.2 l).bind fun i =>
  some (i.1, i.2))
def qe (k : Nat) (a_ : za) (r : Int) (s : Int) : Option (Int × za) :=
 (bif r == s then
  some (r, a_)
 else
  (wk k a_ r).bind fun t_ =>
  (wk k t_.2 s).bind fun e =>
  (mApp t_.1 e.1).bind fun l =>
  (vd k e.2 l).bind fun i =>
  some (i.1, i.2))
def gJ (a_ : za) (r : Int) (s : Int) : Option (Int) :=
 none
def nr (a_ : za) (r : Int) (s : Int) : Option (Int) :=
 none
def oD (k : Nat) (e : Int) (a_ : za) (r : Int) (s : Int) : Option (Int × za) :=
 (bif e == 1 then
  (sK k a_ r s).bind fun t_ =>
  some (t_.1, t_.2)
 else
  (bif e == 2 then
   (uM k a_ r s).bind fun i =>
   some (i.1, i.2)
  else
   (bif e == 3 then
    (qe k a_ r s).bind fun j =>
    some (j.1, j.2)
   else
    (bif e == 4 then
     (gJ a_ r s).bind fun l =>
     some (l, a_)
    else
     (bif e == 5 then
      (nr a_ r s).bind fun t =>
      some (t, a_)
     else
      some (r, a_))))))
def td (k : Nat) (q : zs) (l : zd) (o : zd) : Option (zM × zs) :=
 (y7 q.t_ l).bind fun t_ =>
 (y7 q.t_ o).bind fun i =>
 (uh k q.t_ l o).bind fun e =>
 (bif e.1 != 0 then
  (vq e.1).bind fun t =>
  some (t, zs.mk q.items q.a_ e.2 q.entries q.serial)
 else
  (oD k t_.1 q.a_ t_.2.1 i.2.1).bind fun j =>
  (xm e.2 l j.1 (w64 (t_.2.2.1 + i.2.2.1))).bind fun u =>
  some (zM.mk 0 (zd.mk 0 0) (zd.mk 0 0) (zH.mk 0 0) (w64 (t_.2.2.1 + i.2.2.1)), zs.mk q.items j.2 u.2 q.entries q.serial))
def ra (q : zs) (e : zd) : Option (zM) :=
 none
def yb (k : Nat) (q : zs) (c_ : yc) : Option (zM × zs) :=
 (uY q.a_).bind fun t_ =>
 (uV q.a_.m_).bind fun e =>
 (bif c_.Op == 1 then
  (ue q.t_ c_.Kind).bind fun i =>
  some (zM.mk i.2.1 i.1 (zd.mk 0 0) (zH.mk 0 0) 0, zs.mk q.items (za.mk q.a_.l q.a_.never q.a_.free e) i.2.2 q.entries q.serial)
 else
  (bif c_.Op == 2 then
   (ui k (zs.mk q.items (za.mk q.a_.l q.a_.never q.a_.free e) q.t_ q.entries q.serial) c_).bind fun j =>
   some (j.1, j.2)
  else
   (bif c_.Op == 3 then
    (w8 k (zs.mk q.items (za.mk q.a_.l q.a_.never q.a_.free e) q.t_ q.entries q.serial) c_.Heap false).bind fun t =>
    some (t.1, t.2)
   else
    (bif c_.Op == 4 then
     (w8 k (zs.mk q.items (za.mk q.a_.l q.a_.never q.a_.free e) q.t_ q.entries q.serial) c_.Heap true).bind fun u =>
     some (u.1, u.2)
    else
     (bif c_.Op == 5 then
      (vE k (zs.mk q.items (za.mk q.a_.l q.a_.never q.a_.free e) q.t_ q.entries q.serial) c_).bind fun x =>
      some (x.1, x.2)
     else
      (bif c_.Op == 6 then
       (ug k (zs.mk q.items (za.mk q.a_.l q.a_.never q.a_.free e) q.t_ q.entries q.serial) c_.Item).bind fun y =>
       some (y.1, y.2)
      else
       (bif c_.Op == 7 then
        (td k (zs.mk q.items (za.mk q.a_.l q.a_.never q.a_.free e) q.t_ q.entries q.serial) c_.Heap c_.Other).bind fun z =>
        some (z.1, z.2)
       else
        (bif c_.Op == 8 then
         (y7 q.t_ c_.Heap).bind fun A =>
         some (zM.mk A.2.2.2 (zd.mk 0 0) (zd.mk 0 0) (zH.mk 0 0) A.2.2.1, zs.mk q.items (za.mk q.a_.l q.a_.never q.a_.free e) q.t_ q.entries q.serial)
        else
         (bif c_.Op == 9 then
          (ra (zs.mk q.items (za.mk q.a_.l q.a_.never q.a_.free e) q.t_ q.entries q.serial) c_.Heap).bind fun B =>
          some (B, zs.mk q.items (za.mk q.a_.l q.a_.never q.a_.free e) q.t_ q.entries q.serial)
         else
          (vq 12).bind fun D =>
          some (D, zs.mk q.items (za.mk q.a_.l q.a_.never q.a_.free e) q.t_ q.entries q.serial))))))))))
def tg (k : Nat) (i : Int) (most : Int) : Option ((Option zb) × Int) :=
 (u7 i).bind fun t_ =>
 (bif !t_ then
  some ((none : Option zb), 24)
 else
  (sE k i most).bind fun j =>
  (bif !j.2 then
   some ((none : Option zb), 1)
  else
   (gv most).bind fun t =>
   (uz t.1
    ((ox most).bind fun y =>
    (pM).bind fun z =>
    (wC (yc.mk 1 i (zd.mk 0 0) (zd.mk 0 0) (zd.mk 0 0) 0)).bind fun A =>
    (wC (yc.mk 1 i (zd.mk 0 0) (zd.mk 0 0) (zd.mk 0 0) 0)).bind fun B =>
    none)
    (fun m_ =>
    (ox most).bind fun u =>
    (pM).bind fun x =>
    (yb k m_ (yc.mk 1 i (zd.mk 0 0) (zd.mk 0 0) (zd.mk 0 0) 0)).bind fun l =>
    (yb k l.2 (yc.mk 1 i (zd.mk 0 0) (zd.mk 0 0) (zd.mk 0 0) 0)).bind fun e =>
    some (some (zb.mk i most e.2 l.1.Heap e.1.Heap u ([] : List (zd × Int)) x j.1 0 0), 0)))))
def xA (room : Int) : Option (zf) :=
 (cO zt (if (if 4096 < room then 4096 else room) > 1 then (if 4096 < room then 4096 else room) else 1)).bind fun m_ =>
 some (zf.mk m_)
def yy (e : Int) (x1 : Int) : Nat -> Int -> zi -> Option (zi)
 | 0, _, _ => none
 | m + 1, x, m_ =>
  (bif decide (x < x1) then
   (xA e).bind fun t_ =>
   (mApp m_.l ([t_] : List zf)).bind fun l =>
   yy e x1 m (w64 (x + 1)) (zi.mk l)
  else
   some m_)
def yY (k : Nat) (boxes : Int) (room : Int) : Option (zi) :=
 (yy room (if (if 4 < boxes then 4 else boxes) > 1 then (if 4 < boxes then 4 else boxes) else 1) k 0 (zi.mk ([] : List zf))).bind fun s =>
 some s
def qw (k : Nat) (j : Int) (e : Int) (boxes : Int) (room : Int) : Option ((Option zp) × Int) :=
 (tg k j e).bind fun t_ =>
 (uz t_.1
  ((bif t_.2 != 0 then
   some ((none : Option zp), t_.2)
  else
   (yY k boxes room).bind fun l =>
   none))
  (fun m_ =>
  (bif t_.2 != 0 then
   some ((none : Option zp), t_.2)
  else
   (yY k boxes room).bind fun i =>
   some (some (zp.mk m_ i), 0))))
def rm (k : Nat) (i : Int) (e : Int) (boxes : Int) (room : Int) : Option ((Option zo) × Int) :=
 (qw k i e boxes room).bind fun t_ =>
 (uz t_.1
  ((bif t_.2 != 0 then
   some ((none : Option zo), t_.2)
  else
   none))
  (fun m_ =>
  (bif t_.2 != 0 then
   some ((none : Option zo), t_.2)
  else
   some (some (zo.mk m_ ([] : List zk)), 0))))
def xk (b : zf) (v_ : zt) : Option (Bool × zf) :=
 (bif MCh.room b.c_ then
  some (true, zf.mk (MCh.push b.c_ v_))
 else
  some (false, b))
def xf (d : zi) (box : Int) (v_ : zt) : Option (Int × zi) :=
 ((bif decide (box < 0) then
  some true
 else
  some (decide (box >= (d.l.length : Int))))).bind fun s =>
 (bif s then
  some (30, d)
 else
  (mIdx d.l box).bind fun x =>
  (xk x v_).bind fun t_ =>
  (bif !t_.1 then
   some (13, zi.mk (mSet d.l box t_.2))
  else
   some (0, zi.mk (mSet d.l box t_.2))))
def wP (s : zp) (box : Int) (c_ : zt) : Option (Int × zp) :=
 (xf s.desk box c_).bind fun t_ =>
 some (t_.1, zp.mk s.d t_.2)
def yT (b : zf) : Option (zt × Bool × zf) :=
 (match MCh.buf b.c_ with
 | [] =>
  some (zt.mk 0 0 (zd.mk 0 0) 0 0, false, b)
 | u :: r1 =>
  some (u, true, zf.mk (MCh.rest b.c_ r1)))
def zJ (x1 : Int) : Nat -> Int -> zi -> Option ((zt × Int × Bool × zi) ⊕ (zi))
 | 0, _, _ => none
 | m + 1, x, m_ =>
  (bif decide (x < x1) then
   (mIdx m_.l x).bind fun x2 =>
   (yT x2).bind fun t_ =>
   (bif t_.2.1 then
    some (.inl (t_.1, x, true, zi.mk (mSet m_.l x t_.2.2)))
   else
    zJ x1 m (w64 (x + 1)) (zi.mk (mSet m_.l x t_.2.2)))
  else
   some (.inr m_))
def xe (k : Nat) (d : zi) : Option (zt × Int × Bool × zi) :=
 (zJ (d.l.length : Int) k 0 d).bind fun s =>
 match s with
 | .inl e => some e
 | .inr s1 =>
  some (zt.mk 0 0 (zd.mk 0 0) 0 0, 0, false, s1)
def ry (m_ : zG) : Option (Int) :=
 some m_.steps
def sg (q : zs) : Option (Int) :=
 (uY q.a_).bind fun t_ =>
 (ry q.a_.m_).bind fun e =>
 some e
def yR (e : Int) : Option (zq) :=
 some (zq.mk e (zd.mk 0 0) 0 0 0)
def xI (p : zg) : Option (Int) :=
 some (w64 ((p.l.length : Int) - (p.free.length : Int)))
def sS (t_ : zr) : Option (Int) :=
 (xI t_.p).bind fun e =>
 some e
def wS (p : zg) : Option (Int) :=
 some p.most
def yo (p : zg) (v_ : zD) : Option (zd × Bool × zg) :=
 ((bif decide (w64 ((p.free.length : Int) - 1) >= 0) then
  (mIdx p.free (w64 ((p.free.length : Int) - 1))).bind fun x =>
  (mCut p.free 0 (w64 ((p.free.length : Int) - 1))).bind fun l =>
  some (.inr (x, zg.mk p.most p.l l))
 else
  (bif decide ((p.l.length : Int) >= p.most) then
   some (.inl (zd.mk 0 0, false, p))
  else
   (mApp p.l ([zw.mk 0 false (zD.mk 0 0 0 (zd.mk 0 0))] : List zw)).bind fun e =>
   some (.inr ((p.l.length : Int), zg.mk p.most e p.free)))) : Option ((zd × Bool × zg) ⊕ (Int × zg))).bind fun s =>
 match s with
 | .inl i => some i
 | .inr s1 =>
  (mIdx s1.2.l s1.1).bind fun x1 =>
  some (zd.mk s1.1 (w64 (x1.gen + 1)), true, zg.mk s1.2.most (mSet (mSet (mSet s1.2.l s1.1 (zw.mk (w64 (x1.gen + 1)) x1.taken x1.v_)) s1.1 (zw.mk (w64 (x1.gen + 1)) true x1.v_)) s1.1 (zw.mk (w64 (x1.gen + 1)) true v_)) s1.2.free)
def sN (t_ : zr) (j : zD) : Option (zd × Int × zr) :=
 (rC zd.eq j.Item (zd.mk 0 0) t_.by_).bind fun x =>
 (xI t_.p).bind fun i =>
 (wS t_.p).bind fun l =>
 (bif i == l then
  some (zd.mk 0 0, 13, t_)
 else
  (bif x.2 then
   some (zd.mk 0 0, 1, t_)
  else
   (yo t_.p j).bind fun e =>
   some (e.1, 0, zr.mk ((zr.mk e.2.2 t_.by_).p) (mPut zd.eq j.Item e.1 ((zr.mk e.2.2 t_.by_).by_)))))
def tH (j : zD) : Option (zq) :=
 some (zq.mk 0 (zd.mk 0 0) j.Time j.Data 0)
def xv (k : Nat) (d : zb) (c_ : zt) : Option (zq × zb) :=
 (sS d.t_).bind fun t_ =>
 (bif decide (t_ >= d.most) then
  (yR 13).bind fun l =>
  some (l, d)
 else
  (mIdx ([d.heaps0, d.heaps1] : List zd) c_.Queue).bind fun x =>
  (yb k d.q (yc.mk 2 0 x (zd.mk 0 0) (zd.mk 0 0) c_.Time)).bind fun e =>
  (sN ((zb.mk d.kind d.most e.2 d.heaps0 d.heaps1 d.t_ d.when d.clock d.budget d.last d.top).t_) (zD.mk c_.Queue c_.Time c_.Data e.1.Item)).bind fun i =>
  (tH (zD.mk c_.Queue c_.Time c_.Data e.1.Item)).bind fun j =>
  some (zq.mk j.Why i.1 j.Time j.Data j.N, zb.mk ((zb.mk ((zb.mk d.kind d.most e.2 d.heaps0 d.heaps1 d.t_ d.when d.clock d.budget d.last d.top).kind) ((zb.mk d.kind d.most e.2 d.heaps0 d.heaps1 d.t_ d.when d.clock d.budget d.last d.top).most) ((zb.mk d.kind d.most e.2 d.heaps0 d.heaps1 d.t_ d.when d.clock d.budget d.last d.top).q) ((zb.mk d.kind d.most e.2 d.heaps0 d.heaps1 d.t_ d.when d.clock d.budget d.last d.top).heaps0) ((zb.mk d.kind d.most e.2 d.heaps0 d.heaps1 d.t_ d.when d.clock d.budget d.last d.top).heaps1) i.2.2 ((zb.mk d.kind d.most e.2 d.heaps0 d.heaps1 d.t_ d.when d.clock d.budget d.last d.top).when) ((zb.mk d.kind d.most e.2 d.heaps0 d.heaps1 d.t_ d.when d.clock d.budget d.last d.top).clock) ((zb.mk d.kind d.most e.2 d.heaps0 d.heaps1 d.t_ d.when d.clock d.budget d.last d.top).budget) ((zb.mk d.kind d.most e.2 d.heaps0 d.heaps1 d.t_ d.when d.clock d.budget d.last d.top).last) ((zb.mk d.kind d.most e.2 d.heaps0 d.heaps1 d.t_ d.when d.clock d.budget d.last d.top).top)).kind) ((zb.mk ((zb.mk d.kind d.most e.2 d.heaps0 d.heaps1 d.t_ d.when d.clock d.budget d.last d.top).kind) ((zb.mk d.kind d.most e.2 d.heaps0 d.heaps1 d.t_ d.when d.clock d.budget d.last d.top).most) ((zb.mk d.kind d.most e.2 d.heaps0 d.heaps1 d.t_ d.when d.clock d.budget d.last d.top).q) ((zb.mk d.kind d.most e.2 d.heaps0 d.heaps1 d.t_ d.when d.clock d.budget d.last d.top).heaps0) ((zb.mk d.kind d.most e.2 d.heaps0 d.heaps1 d.t_ d.when d.clock d.budget d.last d.top).heaps1) i.2.2 ((zb.mk d.kind d.most e.2 d.heaps0 d.heaps1 d.t_ d.when d.clock d.budget d.last d.top).when) ((zb.mk d.kind d.most e.2 d.heaps0 d.heaps1 d.t_ d.when d.clock d.budget d.last d.top).clock) ((zb.mk d.kind d.most e.2 d.heaps0 d.heaps1 d.t_ d.when d.clock d.budget d.last d.top).budget) ((zb.mk d.kind d.most e.2 d.heaps0 d.heaps1 d.t_ d.when d.clock d.budget d.last d.top).last) ((zb.mk d.kind d.most e.2 d.heaps0 d.heaps1 d.t_ d.when d.clock d.budget d.last d.top).top)).most) ((zb.mk ((zb.mk d.kind d.most e.2 d.heaps0 d.heaps1 d.t_ d.when d.clock d.budget d.last d.top).kind) ((zb.mk d.kind d.most e.2 d.heaps0 d.heaps1 d.t_ d.when d.clock d.budget d.last d.top).most) ((zb.mk d.kind d.most e.2 d.heaps0 d.heaps1 d.t_ d.when d.clock d.budget d.last d.top).q) ((zb.mk d.kind d.most e.2 d.heaps0 d.heaps1 d.t_ d.when d.clock d.budget d.last d.top).heaps0) ((zb.mk d.kind d.most e.2 d.heaps0 d.heaps1 d.t_ d.when d.clock d.budget d.last d.top).heaps1) i.2.2 ((zb.mk d.kind d.most e.2 d.heaps0 d.heaps1 d.t_ d.when d.clock d.budget d.last d.top).when) ((zb.mk d.kind d.most e.2 d.heaps0 d.heaps1 d.t_ d.when d.clock d.budget d.last d.top).clock) ((zb.mk d.kind d.most e.2 d.heaps0 d.heaps1 d.t_ d.when d.clock d.budget d.last d.top).budget) ((zb.mk d.kind d.most e.2 d.heaps0 d.heaps1 d.t_ d.when d.clock d.budget d.last d.top).last) ((zb.mk d.kind d.most e.2 d.heaps0 d.heaps1 d.t_ d.when d.clock d.budget d.last d.top).top)).q) ((zb.mk ((zb.mk d.kind d.most e.2 d.heaps0 d.heaps1 d.t_ d.when d.clock d.budget d.last d.top).kind) ((zb.mk d.kind d.most e.2 d.heaps0 d.heaps1 d.t_ d.when d.clock d.budget d.last d.top).most) ((zb.mk d.kind d.most e.2 d.heaps0 d.heaps1 d.t_ d.when d.clock d.budget d.last d.top).q) ((zb.mk d.kind d.most e.2 d.heaps0 d.heaps1 d.t_ d.when d.clock d.budget d.last d.top).heaps0) ((zb.mk d.kind d.most e.2 d.heaps0 d.heaps1 d.t_ d.when d.clock d.budget d.last d.top).heaps1) i.2.2 ((zb.mk d.kind d.most e.2 d.heaps0 d.heaps1 d.t_ d.when d.clock d.budget d.last d.top).when) ((zb.mk d.kind d.most e.2 d.heaps0 d.heaps1 d.t_ d.when d.clock d.budget d.last d.top).clock) ((zb.mk d.kind d.most e.2 d.heaps0 d.heaps1 d.t_ d.when d.clock d.budget d.last d.top).budget) ((zb.mk d.kind d.most e.2 d.heaps0 d.heaps1 d.t_ d.when d.clock d.budget d.last d.top).last) ((zb.mk d.kind d.most e.2 d.heaps0 d.heaps1 d.t_ d.when d.clock d.budget d.last d.top).top)).heaps0) ((zb.mk ((zb.mk d.kind d.most e.2 d.heaps0 d.heaps1 d.t_ d.when d.clock d.budget d.last d.top).kind) ((zb.mk d.kind d.most e.2 d.heaps0 d.heaps1 d.t_ d.when d.clock d.budget d.last d.top).most) ((zb.mk d.kind d.most e.2 d.heaps0 d.heaps1 d.t_ d.when d.clock d.budget d.last d.top).q) ((zb.mk d.kind d.most e.2 d.heaps0 d.heaps1 d.t_ d.when d.clock d.budget d.last d.top).heaps0) ((zb.mk d.kind d.most e.2 d.heaps0 d.heaps1 d.t_ d.when d.clock d.budget d.last d.top).heaps1) i.2.2 ((zb.mk d.kind d.most e.2 d.heaps0 d.heaps1 d.t_ d.when d.clock d.budget d.last d.top).when) ((zb.mk d.kind d.most e.2 d.heaps0 d.heaps1 d.t_ d.when d.clock d.budget d.last d.top).clock) ((zb.mk d.kind d.most e.2 d.heaps0 d.heaps1 d.t_ d.when d.clock d.budget d.last d.top).budget) ((zb.mk d.kind d.most e.2 d.heaps0 d.heaps1 d.t_ d.when d.clock d.budget d.last d.top).last) ((zb.mk d.kind d.most e.2 d.heaps0 d.heaps1 d.t_ d.when d.clock d.budget d.last d.top).top)).heaps1) ((zb.mk ((zb.mk d.kind d.most e.2 d.heaps0 d.heaps1 d.t_ d.when d.clock d.budget d.last d.top).kind) ((zb.mk d.kind d.most e.2 d.heaps0 d.heaps1 d.t_ d.when d.clock d.budget d.last d.top).most) ((zb.mk d.kind d.most e.2 d.heaps0 d.heaps1 d.t_ d.when d.clock d.budget d.last d.top).q) ((zb.mk d.kind d.most e.2 d.heaps0 d.heaps1 d.t_ d.when d.clock d.budget d.last d.top).heaps0) ((zb.mk d.kind d.most e.2 d.heaps0 d.heaps1 d.t_ d.when d.clock d.budget d.last d.top).heaps1) i.2.2 ((zb.mk d.kind d.most e.2 d.heaps0 d.heaps1 d.t_ d.when d.clock d.budget d.last d.top).when) ((zb.mk d.kind d.most e.2 d.heaps0 d.heaps1 d.t_ d.when d.clock d.budget d.last d.top).clock) ((zb.mk d.kind d.most e.2 d.heaps0 d.heaps1 d.t_ d.when d.clock d.budget d.last d.top).budget) ((zb.mk d.kind d.most e.2 d.heaps0 d.heaps1 d.t_ d.when d.clock d.budget d.last d.top).last) ((zb.mk d.kind d.most e.2 d.heaps0 d.heaps1 d.t_ d.when d.clock d.budget d.last d.top).top)).t_) (mPut zd.eq i.1 e.1.Entry.Serial ((zb.mk ((zb.mk d.kind d.most e.2 d.heaps0 d.heaps1 d.t_ d.when d.clock d.budget d.last d.top).kind) ((zb.mk d.kind d.most e.2 d.heaps0 d.heaps1 d.t_ d.when d.clock d.budget d.last d.top).most) ((zb.mk d.kind d.most e.2 d.heaps0 d.heaps1 d.t_ d.when d.clock d.budget d.last d.top).q) ((zb.mk d.kind d.most e.2 d.heaps0 d.heaps1 d.t_ d.when d.clock d.budget d.last d.top).heaps0) ((zb.mk d.kind d.most e.2 d.heaps0 d.heaps1 d.t_ d.when d.clock d.budget d.last d.top).heaps1) i.2.2 ((zb.mk d.kind d.most e.2 d.heaps0 d.heaps1 d.t_ d.when d.clock d.budget d.last d.top).when) ((zb.mk d.kind d.most e.2 d.heaps0 d.heaps1 d.t_ d.when d.clock d.budget d.last d.top).clock) ((zb.mk d.kind d.most e.2 d.heaps0 d.heaps1 d.t_ d.when d.clock d.budget d.last d.top).budget) ((zb.mk d.kind d.most e.2 d.heaps0 d.heaps1 d.t_ d.when d.clock d.budget d.last d.top).last) ((zb.mk d.kind d.most e.2 d.heaps0 d.heaps1 d.t_ d.when d.clock d.budget d.last d.top).top)).when)) ((zb.mk ((zb.mk d.kind d.most e.2 d.heaps0 d.heaps1 d.t_ d.when d.clock d.budget d.last d.top).kind) ((zb.mk d.kind d.most e.2 d.heaps0 d.heaps1 d.t_ d.when d.clock d.budget d.last d.top).most) ((zb.mk d.kind d.most e.2 d.heaps0 d.heaps1 d.t_ d.when d.clock d.budget d.last d.top).q) ((zb.mk d.kind d.most e.2 d.heaps0 d.heaps1 d.t_ d.when d.clock d.budget d.last d.top).heaps0) ((zb.mk d.kind d.most e.2 d.heaps0 d.heaps1 d.t_ d.when d.clock d.budget d.last d.top).heaps1) i.2.2 ((zb.mk d.kind d.most e.2 d.heaps0 d.heaps1 d.t_ d.when d.clock d.budget d.last d.top).when) ((zb.mk d.kind d.most e.2 d.heaps0 d.heaps1 d.t_ d.when d.clock d.budget d.last d.top).clock) ((zb.mk d.kind d.most e.2 d.heaps0 d.heaps1 d.t_ d.when d.clock d.budget d.last d.top).budget) ((zb.mk d.kind d.most e.2 d.heaps0 d.heaps1 d.t_ d.when d.clock d.budget d.last d.top).last) ((zb.mk d.kind d.most e.2 d.heaps0 d.heaps1 d.t_ d.when d.clock d.budget d.last d.top).top)).clock) ((zb.mk ((zb.mk d.kind d.most e.2 d.heaps0 d.heaps1 d.t_ d.when d.clock d.budget d.last d.top).kind) ((zb.mk d.kind d.most e.2 d.heaps0 d.heaps1 d.t_ d.when d.clock d.budget d.last d.top).most) ((zb.mk d.kind d.most e.2 d.heaps0 d.heaps1 d.t_ d.when d.clock d.budget d.last d.top).q) ((zb.mk d.kind d.most e.2 d.heaps0 d.heaps1 d.t_ d.when d.clock d.budget d.last d.top).heaps0) ((zb.mk d.kind d.most e.2 d.heaps0 d.heaps1 d.t_ d.when d.clock d.budget d.last d.top).heaps1) i.2.2 ((zb.mk d.kind d.most e.2 d.heaps0 d.heaps1 d.t_ d.when d.clock d.budget d.last d.top).when) ((zb.mk d.kind d.most e.2 d.heaps0 d.heaps1 d.t_ d.when d.clock d.budget d.last d.top).clock) ((zb.mk d.kind d.most e.2 d.heaps0 d.heaps1 d.t_ d.when d.clock d.budget d.last d.top).budget) ((zb.mk d.kind d.most e.2 d.heaps0 d.heaps1 d.t_ d.when d.clock d.budget d.last d.top).last) ((zb.mk d.kind d.most e.2 d.heaps0 d.heaps1 d.t_ d.when d.clock d.budget d.last d.top).top)).budget) ((zb.mk ((zb.mk d.kind d.most e.2 d.heaps0 d.heaps1 d.t_ d.when d.clock d.budget d.last d.top).kind) ((zb.mk d.kind d.most e.2 d.heaps0 d.heaps1 d.t_ d.when d.clock d.budget d.last d.top).most) ((zb.mk d.kind d.most e.2 d.heaps0 d.heaps1 d.t_ d.when d.clock d.budget d.last d.top).q) ((zb.mk d.kind d.most e.2 d.heaps0 d.heaps1 d.t_ d.when d.clock d.budget d.last d.top).heaps0) ((zb.mk d.kind d.most e.2 d.heaps0 d.heaps1 d.t_ d.when d.clock d.budget d.last d.top).heaps1) i.2.2 ((zb.mk d.kind d.most e.2 d.heaps0 d.heaps1 d.t_ d.when d.clock d.budget d.last d.top).when) ((zb.mk d.kind d.most e.2 d.heaps0 d.heaps1 d.t_ d.when d.clock d.budget d.last d.top).clock) ((zb.mk d.kind d.most e.2 d.heaps0 d.heaps1 d.t_ d.when d.clock d.budget d.last d.top).budget) ((zb.mk d.kind d.most e.2 d.heaps0 d.heaps1 d.t_ d.when d.clock d.budget d.last d.top).last) ((zb.mk d.kind d.most e.2 d.heaps0 d.heaps1 d.t_ d.when d.clock d.budget d.last d.top).top)).last) ((zb.mk ((zb.mk d.kind d.most e.2 d.heaps0 d.heaps1 d.t_ d.when d.clock d.budget d.last d.top).kind) ((zb.mk d.kind d.most e.2 d.heaps0 d.heaps1 d.t_ d.when d.clock d.budget d.last d.top).most) ((zb.mk d.kind d.most e.2 d.heaps0 d.heaps1 d.t_ d.when d.clock d.budget d.last d.top).q) ((zb.mk d.kind d.most e.2 d.heaps0 d.heaps1 d.t_ d.when d.clock d.budget d.last d.top).heaps0) ((zb.mk d.kind d.most e.2 d.heaps0 d.heaps1 d.t_ d.when d.clock d.budget d.last d.top).heaps1) i.2.2 ((zb.mk d.kind d.most e.2 d.heaps0 d.heaps1 d.t_ d.when d.clock d.budget d.last d.top).when) ((zb.mk d.kind d.most e.2 d.heaps0 d.heaps1 d.t_ d.when d.clock d.budget d.last d.top).clock) ((zb.mk d.kind d.most e.2 d.heaps0 d.heaps1 d.t_ d.when d.clock d.budget d.last d.top).budget) ((zb.mk d.kind d.most e.2 d.heaps0 d.heaps1 d.t_ d.when d.clock d.budget d.last d.top).last) ((zb.mk d.kind d.most e.2 d.heaps0 d.heaps1 d.t_ d.when d.clock d.budget d.last d.top).top)).top)))
def zS (p : zg) (r : zd) : Option ((Option Int) × Int) :=
 ((bif decide (r.At < 0) then
  some true
 else
  (bif decide (r.At >= (p.l.length : Int)) then
   some true
  else
   (bif decide (r.Gen < 1) then
    some true
   else
    (mIdx p.l r.At).bind fun x1 =>
    some (decide (r.Gen > x1.gen)))))).bind fun s =>
 (bif s then
  some ((none : Option Int), 22)
 else
  (mIdx p.l r.At).bind fun x2 =>
  (bif (decide (r.Gen < x2.gen)) || (!x2.taken) then
   some ((none : Option Int), 23)
  else
   some ((some r.At : Option Int), 0)))
def yq (p : zg) (r : zd) : Option (zD × Int) :=
 (zS p r).bind fun t_ =>
 (uz t_.1
  ((bif t_.2 != 0 then
   some (zD.mk 0 0 0 (zd.mk 0 0), t_.2)
  else
   none))
  (fun i =>
  (mIdx p.l i).bind fun x =>
  (bif t_.2 != 0 then
   some (zD.mk 0 0 0 (zd.mk 0 0), t_.2)
  else
   some (x.v_, 0))))
def wx (t_ : zr) (r : zd) : Option (zD × Int) :=
 (yq t_.p r).bind fun e =>
 some (e.1, e.2)
def xj (p : zg) (r : zd) (v_ : zD) : Option (Int × zg) :=
 (zS p r).bind fun t_ =>
 (uz t_.1
  (((bif t_.2 == 0 then
   none
  else
   some ())).bind fun s =>
  some (t_.2, p))
  (fun i =>
  (mIdx p.l i).bind fun x =>
  ((bif t_.2 == 0 then
   some (zg.mk p.most (mSet p.l i (zw.mk x.gen x.taken v_)) p.free)
  else
   some p)).bind fun s1 =>
  some (t_.2, s1)))
def u9 (t_ : zr) (r : zd) (j : zD) : Option (Int × zr) :=
 (yq t_.p r).bind fun e =>
 (bif e.2 != 0 then
  some (e.2, t_)
 else
  (rC zd.eq j.Item (zd.mk 0 0) t_.by_).bind fun x =>
  ((bif x.2 then
   some (!(zd.eq x.1 r))
  else
   some false)).bind fun s =>
  (bif s then
   some (1, t_)
  else
   (xj t_.p r j).bind fun i =>
   some (i.1, zr.mk i.2 (mPut zd.eq j.Item r (mDel zd.eq e.1.Item t_.by_)))))
def xE (k : Nat) (d : zb) (c_ : zt) : Option (zq × zb) :=
 (wx d.t_ c_.Job).bind fun t_ =>
 (bif t_.2 != 0 then
  (yR t_.2).bind fun e =>
  some (e, d)
 else
  (bif decide (c_.Time > t_.1.Time) then
   (yR 26).bind fun i =>
   some (i, d)
  else
   (yb k d.q (yc.mk 5 0 (zd.mk 0 0) (zd.mk 0 0) t_.1.Item c_.Time)).bind fun j =>
   (u9 d.t_ c_.Job (zD.mk t_.1.Queue c_.Time t_.1.Data t_.1.Item)).bind fun l =>
   (tH (zD.mk t_.1.Queue c_.Time t_.1.Data t_.1.Item)).bind fun t =>
   some (t, zb.mk d.kind d.most j.2 d.heaps0 d.heaps1 l.2 d.when d.clock d.budget d.last d.top)))
def zV (p : zg) (r : zd) : Option (zD × Int × zg) :=
 (zS p r).bind fun t_ =>
 (uz t_.1
  ((bif t_.2 != 0 then
   some (zD.mk 0 0 0 (zd.mk 0 0), t_.2, p)
  else
   none))
  (fun i =>
  (mIdx p.l i).bind fun x =>
  (bif t_.2 != 0 then
   some (zD.mk 0 0 0 (zd.mk 0 0), t_.2, p)
  else
   (mApp p.free ([r.At] : List Int)).bind fun l =>
   some (x.v_, 0, zg.mk p.most (mSet (mSet p.l i (zw.mk x.gen false x.v_)) i (zw.mk x.gen false (zD.mk 0 0 0 (zd.mk 0 0)))) l))))
def uJ (t_ : zr) (r : zd) : Option (zD × Int × zr) :=
 (zV t_.p r).bind fun e =>
 ((bif e.2.1 == 0 then
  some (zr.mk ((zr.mk e.2.2 t_.by_).p) (mDel zd.eq e.1.Item ((zr.mk e.2.2 t_.by_).by_)))
 else
  some (zr.mk e.2.2 t_.by_))).bind fun s =>
 some (e.1, e.2.1, s)
def yZ (d : zb) (r : zd) : Option (zq × zb) :=
 (uJ d.t_ r).bind fun t_ =>
 (bif t_.2.1 != 0 then
  (yR t_.2.1).bind fun e =>
  some (e, zb.mk d.kind d.most d.q d.heaps0 d.heaps1 t_.2.2 d.when d.clock d.budget d.last d.top)
 else
  (tH t_.1).bind fun i =>
  some (i, zb.mk ((zb.mk d.kind d.most d.q d.heaps0 d.heaps1 t_.2.2 d.when d.clock d.budget d.last d.top).kind) ((zb.mk d.kind d.most d.q d.heaps0 d.heaps1 t_.2.2 d.when d.clock d.budget d.last d.top).most) ((zb.mk d.kind d.most d.q d.heaps0 d.heaps1 t_.2.2 d.when d.clock d.budget d.last d.top).q) ((zb.mk d.kind d.most d.q d.heaps0 d.heaps1 t_.2.2 d.when d.clock d.budget d.last d.top).heaps0) ((zb.mk d.kind d.most d.q d.heaps0 d.heaps1 t_.2.2 d.when d.clock d.budget d.last d.top).heaps1) ((zb.mk d.kind d.most d.q d.heaps0 d.heaps1 t_.2.2 d.when d.clock d.budget d.last d.top).t_) (mDel zd.eq r ((zb.mk d.kind d.most d.q d.heaps0 d.heaps1 t_.2.2 d.when d.clock d.budget d.last d.top).when)) ((zb.mk d.kind d.most d.q d.heaps0 d.heaps1 t_.2.2 d.when d.clock d.budget d.last d.top).clock) ((zb.mk d.kind d.most d.q d.heaps0 d.heaps1 t_.2.2 d.when d.clock d.budget d.last d.top).budget) ((zb.mk d.kind d.most d.q d.heaps0 d.heaps1 t_.2.2 d.when d.clock d.budget d.last d.top).last) ((zb.mk d.kind d.most d.q d.heaps0 d.heaps1 t_.2.2 d.when d.clock d.budget d.last d.top).top)))
def xD (k : Nat) (d : zb) (r : zd) : Option (zq × zb) :=
 (wx d.t_ r).bind fun t_ =>
 ((bif t_.2 == 0 then
  (yb k d.q (yc.mk 6 0 (zd.mk 0 0) (zd.mk 0 0) t_.1.Item 0)).bind fun i =>
  some (zb.mk d.kind d.most i.2 d.heaps0 d.heaps1 d.t_ d.when d.clock d.budget d.last d.top)
 else
  some d)).bind fun s =>
 (yZ s r).bind fun e =>
 some (e.1, e.2)
def sU (c_ : zP) (by_ : Int) : Option (Int × zP) :=
 (bif decide (by_ < 0) then
  some (1, c_)
 else
  (vM c_.now by_).bind fun t_ =>
  some (0, zP.mk t_))
def uB (c_ : zP) : Option (Int) :=
 some c_.now
def vO (c_ : zP) (at_ : Int) : Option (Bool) :=
 some (decide (at_ <= c_.now))
def rP (t_ : zr) (item : zd) : Option (zd × Bool) :=
 (rC zd.eq item (zd.mk 0 0) t_.by_).bind fun x =>
 some (x.1, x.2)
def wo (k : Nat) (d : zb) (queue : Int) : Option (zq × zb) :=
 (mIdx ([d.heaps0, d.heaps1] : List zd) queue).bind fun x =>
 (yb k d.q (yc.mk 3 0 x (zd.mk 0 0) (zd.mk 0 0) 0)).bind fun t_ =>
 ((bif t_.1.Why != 0 then
  some (true, zb.mk d.kind d.most t_.2 d.heaps0 d.heaps1 d.t_ d.when d.clock d.budget d.last d.top)
 else
  (vO ((zb.mk d.kind d.most t_.2 d.heaps0 d.heaps1 d.t_ d.when d.clock d.budget d.last d.top).clock) t_.1.Entry.Key).bind fun l =>
  some (!l, zb.mk ((zb.mk d.kind d.most t_.2 d.heaps0 d.heaps1 d.t_ d.when d.clock d.budget d.last d.top).kind) ((zb.mk d.kind d.most t_.2 d.heaps0 d.heaps1 d.t_ d.when d.clock d.budget d.last d.top).most) ((zb.mk d.kind d.most t_.2 d.heaps0 d.heaps1 d.t_ d.when d.clock d.budget d.last d.top).q) ((zb.mk d.kind d.most t_.2 d.heaps0 d.heaps1 d.t_ d.when d.clock d.budget d.last d.top).heaps0) ((zb.mk d.kind d.most t_.2 d.heaps0 d.heaps1 d.t_ d.when d.clock d.budget d.last d.top).heaps1) ((zb.mk d.kind d.most t_.2 d.heaps0 d.heaps1 d.t_ d.when d.clock d.budget d.last d.top).t_) ((zb.mk d.kind d.most t_.2 d.heaps0 d.heaps1 d.t_ d.when d.clock d.budget d.last d.top).when) ((zb.mk d.kind d.most t_.2 d.heaps0 d.heaps1 d.t_ d.when d.clock d.budget d.last d.top).clock) ((zb.mk d.kind d.most t_.2 d.heaps0 d.heaps1 d.t_ d.when d.clock d.budget d.last d.top).budget) ((zb.mk d.kind d.most t_.2 d.heaps0 d.heaps1 d.t_ d.when d.clock d.budget d.last d.top).last) ((zb.mk d.kind d.most t_.2 d.heaps0 d.heaps1 d.t_ d.when d.clock d.budget d.last d.top).top)))).bind fun s =>
 (bif s.1 then
  (yR 28).bind fun t =>
  some (t, s.2)
 else
  (yb k s.2.q (yc.mk 4 0 x (zd.mk 0 0) (zd.mk 0 0) 0)).bind fun i =>
  (rP s.2.t_ i.1.Item).bind fun j =>
  (yZ (zb.mk s.2.kind s.2.most i.2 s.2.heaps0 s.2.heaps1 s.2.t_ s.2.when s.2.clock s.2.budget s.2.last s.2.top) j.1).bind fun e =>
  some (zq.mk e.1.Why j.1 e.1.Time e.1.Data e.1.N, e.2))
def yV (x1 : Int) (m_ : zg) : Nat -> (List zd) -> Int -> Option ((List zd))
 | 0, _, _ => none
 | m + 1, out, x =>
  (bif decide (x < x1) then
   ((mIdx m_.l x).bind fun x2 =>
   (bif x2.taken then
    (mApp out ([zd.mk x x2.gen] : List zd)).bind fun l =>
    some l
   else
    some out)).bind fun s1 =>
   yV x1 m_ m s1 (w64 (x + 1))
  else
   some out)
def xi (k : Nat) (p : zg) : Option ((List zd)) :=
 (yV (p.l.length : Int) p k ([] : List zd) 0).bind fun s =>
 some s
def wg (e : Int) (j : Int) (x1 : Int) (l : List zd) : Nat -> Int -> Int -> zr -> Option (Int × zr)
 | 0, _, _, _ => none
 | m + 1, n, x, m_ =>
  (bif decide (x < x1) then
   ((mIdx l x).bind fun x2 =>
   (yq m_.p x2).bind fun i =>
   (bif i.1.Queue == e then
    (xj m_.p x2 (zD.mk j i.1.Time i.1.Data i.1.Item)).bind fun t =>
    some (w64 (n + 1), zr.mk t.2 m_.by_)
   else
    some (n, m_))).bind fun s1 =>
   wg e j x1 l m s1.1 (w64 (x + 1)) s1.2
  else
   some (n, m_))
def tZ (k : Nat) (t_ : zr) (from_ : Int) (to : Int) : Option (Int × zr) :=
 (xi k t_.p).bind fun e =>
 (wg from_ to (e.length : Int) e k 0 0 t_).bind fun s =>
 some (s.1, s.2)
def xT (k : Nat) (d : zb) : Option (zq × zb) :=
 (yb k d.q (yc.mk 7 0 d.heaps0 d.heaps1 (zd.mk 0 0) 0)).bind fun t_ =>
 (yb k t_.2 (yc.mk 1 d.kind (zd.mk 0 0) (zd.mk 0 0) (zd.mk 0 0) 0)).bind fun e =>
 (tZ k d.t_ 1 0).bind fun i =>
 some (zq.mk 0 (zd.mk 0 0) 0 0 i.1, zb.mk d.kind d.most e.2 d.heaps0 e.1.Heap i.2 d.when d.clock d.budget d.last d.top)
def xJ (e : Int) (x1 : Int) (m_ : zr) (l : List zd) : Nat -> Int -> Int -> Option (Int)
 | 0, _, _ => none
 | m + 1, n, x =>
  (bif decide (x < x1) then
   ((mIdx l x).bind fun x2 =>
   (yq m_.p x2).bind fun i =>
   (bif i.1.Queue == e then
    some (w64 (n + 1))
   else
    some n)).bind fun s1 =>
   xJ e x1 m_ l m s1 (w64 (x + 1))
  else
   some n)
def uk (k : Nat) (t_ : zr) (queue : Int) : Option (Int) :=
 (xi k t_.p).bind fun e =>
 (xJ queue (e.length : Int) t_ e k 0 0).bind fun s =>
 some s
def wv (k : Nat) (d : zb) (c_ : zt) : Option (zq × zb) :=
 (((bif c_.Kind == 1 then
  some (c_.Kind == 1)
 else
  (bif c_.Kind == 5 then
   some (c_.Kind == 5)
  else
   (bif c_.Kind == 6 then
    some (c_.Kind == 6)
   else
    some (c_.Kind == 7))))).bind fun s2 =>
 (bif s2 then
  (bif !((decide (c_.Queue >= 0)) && (decide (c_.Queue < 2))) then
   (yR 1).bind fun t_ =>
   some (.inl (t_, d))
  else
   some (.inr ()))
 else
  some (.inr ())) : Option ((zq × zb) ⊕ (Unit))).bind fun s =>
 match s with
 | .inl D => some D
 | .inr s1 =>
  (bif c_.Kind == 1 then
   (xv k d c_).bind fun i =>
   some (i.1, i.2)
  else
   (bif c_.Kind == 2 then
    (xE k d c_).bind fun j =>
    some (j.1, j.2)
   else
    (bif c_.Kind == 3 then
     (xD k d c_.Job).bind fun l =>
     some (l.1, l.2)
    else
     (bif c_.Kind == 4 then
      (sU d.clock c_.Time).bind fun e =>
      (bif e.1 != 0 then
       (yR e.1).bind fun z =>
       some (z, zb.mk d.kind d.most d.q d.heaps0 d.heaps1 d.t_ d.when e.2 d.budget d.last d.top)
      else
       (uB e.2).bind fun A =>
       some (zq.mk 0 (zd.mk 0 0) A 0 0, zb.mk d.kind d.most d.q d.heaps0 d.heaps1 d.t_ d.when e.2 d.budget d.last d.top))
     else
      (bif c_.Kind == 5 then
       (wo k d c_.Queue).bind fun t =>
       some (t.1, t.2)
      else
       (bif c_.Kind == 6 then
        (bif c_.Queue == 0 then
         (yR 25).bind fun B =>
         some (B, d)
        else
         (xT k d).bind fun u =>
         some (u.1, u.2))
       else
        (bif c_.Kind == 7 then
         (uk k d.t_ c_.Queue).bind fun x =>
         some (zq.mk 0 (zd.mk 0 0) 0 0 x, d)
        else
         (yR 12).bind fun y =>
         some (y, d))))))))
def yL (k : Nat) (d : zb) (c_ : zt) : Option (zq × zb) :=
 (sg d.q).bind fun t_ =>
 (wv k d c_).bind fun e =>
 (sg e.2.q).bind fun i =>
 (bif decide (w64 (i - t_) > e.2.budget) then
  (yR 29).bind fun j =>
  some (j, zb.mk e.2.kind e.2.most e.2.q e.2.heaps0 e.2.heaps1 e.2.t_ e.2.when e.2.clock e.2.budget (w64 (i - t_)) (if w64 (i - t_) > e.2.top then w64 (i - t_) else e.2.top))
 else
  some (e.1, zb.mk e.2.kind e.2.most e.2.q e.2.heaps0 e.2.heaps1 e.2.t_ e.2.when e.2.clock e.2.budget (w64 (i - t_)) (if w64 (i - t_) > e.2.top then w64 (i - t_) else e.2.top)))
def wI (k : Nat) (s : zp) : Option (zq × zt × Bool × zp) :=
 (xe k s.desk).bind fun t_ =>
 (bif !t_.2.2.1 then
  some (zq.mk 0 (zd.mk 0 0) 0 0 0, zt.mk 0 0 (zd.mk 0 0) 0 0, false, zp.mk s.d t_.2.2.2)
 else
  (yL k s.d t_.1).bind fun e =>
  some (e.1, t_.1, true, zp.mk e.2 t_.2.2.2))
def yB (s : zp) : Option (Unit) :=
 some ()
def wu (d : zb) : Option (Int) :=
 (uB d.clock).bind fun t_ =>
 some t_
def wi (d : zb) : Option (Int) :=
 some d.last
def wD (b : zo) (c_ : zt) (r : zq) : Option (zq × zo) :=
 (yB b.s).bind fun t_ =>
 (wu b.s.d).bind fun e =>
 (wi b.s.d).bind fun i =>
 (mApp b.l ([zk.mk c_ r e i] : List zk)).bind fun l =>
 some (r, zo.mk b.s l)
def xC (k : Nat) (s : zp) (c_ : zt) : Option (zq × zp) :=
 (yL k s.d c_).bind fun t_ =>
 some (t_.1, zp.mk t_.2 s.desk)
def y6 : Nat -> Int -> Int -> zo -> Option (Int × zo)
 | 0, _, _, _ => none
 | m + 1, n, x, m_ =>
  (bif decide (x < 4097) then
   (xC m m_.s (zt.mk 5 0 (zd.mk 0 0) 0 0)).bind fun t_ =>
   (wD (zo.mk t_.2 m_.l) (zt.mk 5 0 (zd.mk 0 0) 0 0) t_.1).bind fun e =>
   (bif e.1.Why != 0 then
    some (n, e.2)
   else
    y6 m (w64 (n + 1)) (w64 (x + 1)) e.2)
  else
   some (n, m_))
def vf (k : Nat) (b : zo) : Option (Int × zo) :=
 (y6 k 0 0 b).bind fun s =>
 some (s.1, s.2)
def xl (k : Nat) (b : zo) (x : y2) : Option (zq × zo) :=
 (bif x.Kind == 1 then
  (wP b.s x.Box x.Command).bind fun t_ =>
  some (zq.mk t_.1 (zd.mk 0 0) 0 0 0, zo.mk t_.2 b.l)
 else
  (bif x.Kind == 2 then
   (wI k b.s).bind fun e =>
   (bif !e.2.2.1 then
    some (zq.mk 27 (zd.mk 0 0) 0 0 0, zo.mk e.2.2.2 b.l)
   else
    (wD (zo.mk e.2.2.2 b.l) e.2.1 e.1).bind fun i =>
    some (i.1, i.2))
  else
   (bif x.Kind == 3 then
    (xC k b.s x.Command).bind fun j =>
    (wD (zo.mk j.2 b.l) x.Command j.1).bind fun t =>
    some (t.1, t.2)
   else
    (bif x.Kind == 4 then
     (vf k b).bind fun u =>
     some (zq.mk 0 (zd.mk 0 0) 0 0 u.1, u.2)
    else
     some (zq.mk 12 (zd.mk 0 0) 0 0 0, b)))))
def yU (b : zo) : Option ((List zk)) :=
 (jG b.l).bind fun t_ =>
 some t_
def vF (k : Nat)  : Option (Bool) :=
 (rm k 1 4 1 1).bind fun t_ =>
 (uz t_.1
  (some false)
  (fun m_ =>
  (bif t_.2 != 0 then
   some false
  else
   (xl k m_ (y2.mk 3 0 (zt.mk 1 0 (zd.mk 0 0) 0 5))).bind fun j =>
   (xl k j.2 (y2.mk 4 0 (zt.mk 0 0 (zd.mk 0 0) 0 0))).bind fun l =>
   (xl k l.2 (y2.mk 2 0 (zt.mk 0 0 (zd.mk 0 0) 0 0))).bind fun e =>
   (yU e.2).bind fun i =>
   ((bif j.1.Data == 5 then
    (bif zq.eq l.1 (zq.mk 0 (zd.mk 0 0) 0 0 1) then
     (bif zq.eq e.1 (zq.mk 27 (zd.mk 0 0) 0 0 0) then
      (bif (i.length : Int) == 3 then
       (mIdx i 1).bind fun x =>
       (bif x.Reply.Data == 5 then
        (mIdx i 2).bind fun x1 =>
        (bif x1.Reply.Why == 28 then
         (xl k e.2 (y2.mk 0 0 (zt.mk 0 0 (zd.mk 0 0) 0 0))).bind fun t =>
         some (t.1.Why == 12, t.2)
        else
         some (false, e.2))
       else
        some (false, e.2))
      else
       some (false, e.2))
     else
      some (false, e.2))
    else
     some (false, e.2))
   else
    some (false, e.2))).bind fun s =>
   some s.1)))
def yx (b : zo) : Option (Unit) :=
 some ()
def ve (x : yp) (i : List zd) : Option (zt) :=
 (bif (Int.tmod x.Job 16) == 15 then
  some x.Raw
 else
  (yM x.Kind 0 1048576).bind fun t_ =>
  (mIdx ([1, 1, 1, 2, 3, 4, 5, 5, 5, 6, 7] : List Int) (Int.tmod t_ 11)).bind fun x1 =>
  (yM x.Queue 0 1048576).bind fun e =>
  ((bif (Int.tmod x.Data 4) != 0 then
   some (Int.tmod ((zt.mk x1 (Int.tmod e 2) (zd.mk 0 0) x.Time x.Data).Time) 30)
  else
   some ((zt.mk x1 (Int.tmod e 2) (zd.mk 0 0) x.Time x.Data).Time))).bind fun s =>
  ((bif decide ((i.length : Int) > 0) then
   (yM x.Job 0 (w64 ((i.length : Int) - 1))).bind fun j =>
   (mIdx i j).bind fun x2 =>
   some (x2.At, x2.Gen)
  else
   some (((zt.mk x1 (Int.tmod e 2) (zd.mk 0 0) x.Time x.Data).Job).At, ((zt.mk x1 (Int.tmod e 2) (zd.mk 0 0) x.Time x.Data).Job).Gen))).bind fun s1 =>
  some (zt.mk ((zt.mk x1 (Int.tmod e 2) (zd.mk 0 0) x.Time x.Data).Kind) ((zt.mk x1 (Int.tmod e 2) (zd.mk 0 0) x.Time x.Data).Queue) (zd.mk s1.1 s1.2) s ((zt.mk x1 (Int.tmod e 2) (zd.mk 0 0) x.Time x.Data).Data)))
def vg (x : zx) (told : List zd) : Option (y2) :=
 (ve x.D told).bind fun t_ =>
 (((bif x.Kind == 0 then
  some (x.Kind == 0)
 else
  some (x.Kind == 1))).bind fun s2 =>
 (bif s2 then
  (yM x.Box 0 2).bind fun e =>
  some (.inl (y2.mk 1 e t_))
 else
  ((bif x.Kind == 2 then
   some (x.Kind == 2)
  else
   some (x.Kind == 3))).bind fun i =>
  (bif i then
   some (.inl (y2.mk 2 0 (zt.mk 0 0 (zd.mk 0 0) 0 0)))
  else
   (bif x.Kind == 8 then
    some (.inl (y2.mk 4 0 (zt.mk 0 0 (zd.mk 0 0) 0 0)))
   else
    (bif x.Kind == 9 then
     some (.inl x.Raw)
    else
     some (.inr ()))))) : Option ((y2) ⊕ (Unit))).bind fun s =>
 match s with
 | .inl j => some j
 | .inr s1 =>
  some (y2.mk 3 0 t_)
def wh (b : zf) : Option (Int) :=
 some (b.c_.buf.length : Int)
def yl (x1 : Int) (m_ : zi) : Nat -> Int -> Int -> Option (Int)
 | 0, _, _ => none
 | m + 1, n, x =>
  (bif decide (x < x1) then
   (mIdx m_.l x).bind fun x2 =>
   (wh x2).bind fun t_ =>
   yl x1 m_ m (w64 (n + t_)) (w64 (x + 1))
  else
   some n)
def xR (k : Nat) (d : zi) : Option (Int) :=
 (yl (d.l.length : Int) d k 0 0).bind fun s =>
 some s
def y5 (k : Nat) (s : zp) : Option (Int) :=
 (xR k s.desk).bind fun t_ =>
 some t_
def sW (k : Nat) (t_ : zr) : Option ((List zd)) :=
 (xi k t_.p).bind fun e =>
 some e
def yO (e : Int) (x1 : Int) (m_ : zb) (l : List zd) : Nat -> Int -> Int -> Option (Int)
 | 0, _, _ => none
 | m + 1, n, x =>
  (bif decide (x < x1) then
   ((mIdx l x).bind fun x2 =>
   (wx m_.t_ x2).bind fun i =>
   ((bif i.1.Queue == e then
    (vO m_.clock i.1.Time).bind fun j =>
    some j
   else
    some false)).bind fun s2 =>
   (bif s2 then
    some (w64 (n + 1))
   else
    some n)).bind fun s1 =>
   yO e x1 m_ l m s1 (w64 (x + 1))
  else
   some n)
def y9 (k : Nat) (d : zb) (queue : Int) : Option (Int) :=
 (sW k d.t_).bind fun t_ =>
 (yO queue (t_.length : Int) d t_ k 0 0).bind fun s =>
 some s
def tT (places : Int) : Option (zn) :=
 some (zn.mk (if 0 > (if 65536 < places then 65536 else places) then 0 else (if 65536 < places then 65536 else places)) ([] : List Int) ([] : List Bool) ([] : List Int) ([] : List Int))
def uf (e : Int) : Option (zc) :=
 (tT e).bind fun t_ =>
 some (zc.mk e 0 0 t_ ([] : List zF))
def y1 (p : zn) (v_ : Int) : Option (zd × Bool × zn) :=
 ((bif decide ((p.Back.length : Int) > 0) then
  (mIdx p.Back (w64 ((p.Back.length : Int) - 1))).bind fun x =>
  (mCut p.Back 0 (w64 ((p.Back.length : Int) - 1))).bind fun l =>
  some (.inr (x, zn.mk p.Most p.Gens p.In p.V l))
 else
  (bif decide ((p.Gens.length : Int) >= p.Most) then
   some (.inl (zd.mk 0 0, false, p))
  else
   (mApp p.Gens ([0] : List Int)).bind fun e =>
   (mApp p.In ([false] : List Bool)).bind fun l2 =>
   (mApp p.V ([0] : List Int)).bind fun i =>
   some (.inr ((p.Gens.length : Int), zn.mk p.Most e l2 i p.Back)))) : Option ((zd × Bool × zn) ⊕ (Int × zn))).bind fun s =>
 match s with
 | .inl j => some j
 | .inr s1 =>
  (mIdx s1.2.Gens s1.1).bind fun x1 =>
  (mIdx s1.2.Gens s1.1).bind fun x2 =>
  (mIdx s1.2.In s1.1).bind fun x3 =>
  (mIdx s1.2.V s1.1).bind fun x4 =>
  (mIdx (mSet s1.2.Gens s1.1 (w64 (x1 + 1))) s1.1).bind fun x5 =>
  some (zd.mk s1.1 x5, true, zn.mk s1.2.Most (mSet s1.2.Gens s1.1 (w64 (x1 + 1))) (mSet s1.2.In s1.1 true) (mSet s1.2.V s1.1 v_) s1.2.Back)
def uD (a_ : zH) (b : zH) : Option (Bool) :=
 some ((decide (a_.Key < b.Key)) || ((a_.Key == b.Key) && (decide (a_.Serial < b.Serial))))
def yh (e : Int) (m_ : zc) : Nat -> Int -> Int -> Option (Int)
 | 0, _, _ => none
 | m + 1, j, i =>
  (bif decide (i < (m_.L.length : Int)) then
   (((mIdx m_.L i).bind fun x2 =>
   (bif x2.Queue == e then
    (bif decide (j < 0) then
     some true
    else
     (mIdx m_.L i).bind fun x3 =>
     (mIdx m_.L j).bind fun x4 =>
     (uD x3.E x4.E).bind fun t_ =>
     some t_)
   else
    some false)).bind fun s2 =>
   (bif s2 then
    some i
   else
    some j)).bind fun s1 =>
   yh e m_ m s1 (w64 (i + 1))
  else
   some j)
def xq (k : Nat) (d : zc) (queue : Int) : Option (Int) :=
 (yh queue d k (-1) 0).bind fun s =>
 some s
def wc (p : zn) (r : zd) : Option (Int) :=
 ((bif decide (r.At < 0) then
  some true
 else
  (bif decide (r.At >= (p.Gens.length : Int)) then
   some true
  else
   (bif decide (r.Gen < 1) then
    some true
   else
    (mIdx p.Gens r.At).bind fun x1 =>
    some (decide (r.Gen > x1)))))).bind fun s =>
 (bif s then
  some 22
 else
  ((mIdx p.Gens r.At).bind fun x4 =>
  (bif decide (r.Gen < x4) then
   some true
  else
   (mIdx p.In r.At).bind fun x5 =>
   some (!x5))).bind fun s1 =>
  (bif s1 then
   some 23
  else
   some 0))
def wM (p : zn) (r : zd) : Option (Int × Int × zn) :=
 (wc p r).bind fun t_ =>
 (bif t_ != 0 then
  some (0, t_, p)
 else
  (mIdx p.In r.At).bind fun x =>
  (mApp ([] : List Int) p.Back).bind fun l =>
  (mApp l ([r.At] : List Int)).bind fun e =>
  (mIdx ((zn.mk p.Most p.Gens (mSet p.In r.At false) p.V e).V) r.At).bind fun x1 =>
  some (x1, 0, (zn.mk p.Most p.Gens (mSet p.In r.At false) p.V e)))
def y0 (d : zc) (e : Int) : Option (zF × zc) :=
 (mIdx d.L e).bind fun x =>
 (mCut d.L 0 e).bind fun l =>
 (mCut d.L (w64 (e + 1)) (d.L.length : Int)).bind fun i =>
 (mApp ([] : List zF) l).bind fun l2 =>
 (mApp l2 i).bind fun j =>
 (wM d.Pool x.R).bind fun t_ =>
 some (x, zc.mk d.Most d.Now d.Next t_.2.2 j)
def yt (e : Int) (m_ : zc) : Nat -> Int -> Int -> Option (Int)
 | 0, _, _ => none
 | m + 1, n, i =>
  (bif decide (i < (m_.L.length : Int)) then
   ((mIdx m_.L i).bind fun x =>
   (bif x.Queue == e then
    some (w64 (n + 1))
   else
    some n)).bind fun s1 =>
   yt e m_ m s1 (w64 (i + 1))
  else
   some n)
def xn (k : Nat) (d : zc) (queue : Int) : Option (Int) :=
 (yt queue d k 0 0).bind fun s =>
 some s
def yu : Nat -> Int -> Int -> zc -> Option (Int × zc)
 | 0, _, _, _ => none
 | m + 1, n, i, m_ =>
  (bif decide (i < (m_.L.length : Int)) then
   ((mIdx m_.L i).bind fun x2 =>
   (bif x2.Queue == 1 then
    (mIdx m_.L i).bind fun x3 =>
    some (w64 (n + 1), zc.mk m_.Most m_.Now m_.Next m_.Pool (mSet m_.L i (zF.mk 0 x3.Data x3.E x3.R)))
   else
    some (n, m_))).bind fun s2 =>
   yu m s2.1 (w64 (i + 1)) s2.2
  else
   some (n, m_))
def zX (k : Nat) (d : zc) (c_ : zt) : Option (zq × zc) :=
 (bif c_.Kind == 1 then
  (y1 d.Pool 0).bind fun t_ =>
  (bif !t_.2.1 then
   some (zq.mk 13 (zd.mk 0 0) 0 0 0, zc.mk d.Most d.Now d.Next t_.2.2 d.L)
  else
   (mApp ([] : List zF) d.L).bind fun l =>
   (mApp l ([zF.mk c_.Queue c_.Data (zH.mk c_.Time d.Next) t_.1] : List zF)).bind fun j =>
   some (zq.mk 0 t_.1 c_.Time c_.Data 0, zc.mk ((zc.mk d.Most d.Now d.Next t_.2.2 j).Most) ((zc.mk d.Most d.Now d.Next t_.2.2 j).Now) (w64 (((zc.mk d.Most d.Now d.Next t_.2.2 j).Next) + 1)) ((zc.mk d.Most d.Now d.Next t_.2.2 j).Pool) ((zc.mk d.Most d.Now d.Next t_.2.2 j).L)))
 else
  (bif c_.Kind == 5 then
   (xq k d c_.Queue).bind fun i =>
   ((bif decide (i < 0) then
    some true
   else
    (mIdx d.L i).bind fun x1 =>
    some (decide (x1.E.Key > d.Now)))).bind fun s =>
   (bif s then
    some (zq.mk 28 (zd.mk 0 0) 0 0 0, d)
   else
    (y0 d i).bind fun e =>
    some (zq.mk 0 e.1.R e.1.E.Key e.1.Data 0, e.2))
  else
   (bif c_.Kind == 6 then
    (bif c_.Queue == 0 then
     some (zq.mk 25 (zd.mk 0 0) 0 0 0, d)
    else
     (yu k 0 0 d).bind fun s1 =>
     some (zq.mk 0 (zd.mk 0 0) 0 0 s1.1, s1.2))
   else
    (xn k d c_.Queue).bind fun t =>
    some (zq.mk 0 (zd.mk 0 0) 0 0 t, d))))
def yE (v_ : Int) (e : Int) (m_ : zc) : Nat -> Int -> Option ((Int × zc) ⊕ (Unit))
 | 0, _ => none
 | m + 1, i =>
  (bif decide (i < (m_.L.length : Int)) then
   (mIdx m_.L i).bind fun x =>
   (bif zd.eq x.R (zd.mk v_ e) then
    some (.inl (i, m_))
   else
    yE v_ e m_ m (w64 (i + 1)))
  else
   some (.inr ()))
def xG (k : Nat) (d : zc) (r : zd) : Option (Int × zc) :=
 (yE r.At r.Gen d k 0).bind fun s =>
 match s with
 | .inl e => some e
 | .inr s1 =>
  some ((-1), d)
def uC (a_ : Int) (b : Int) : Option (Int) :=
 (bif (decide (a_ > 0)) && (decide (b > w64 (9223372036854775807 - a_))) then
  some 9223372036854775807
 else
  (bif (decide (a_ < 0)) && (decide (b < w64 ((-9223372036854775808) - a_))) then
   some (-9223372036854775808)
  else
   some (w64 (a_ + b))))
def zN (k : Nat) (d : zc) (c_ : zt) : Option (zq × zc) :=
 (((bif c_.Kind == 1 then
  some (c_.Kind == 1)
 else
  (bif c_.Kind == 5 then
   some (c_.Kind == 5)
  else
   (bif c_.Kind == 6 then
    some (c_.Kind == 6)
   else
    some (c_.Kind == 7))))).bind fun s2 =>
 (bif s2 then
  (bif (c_.Queue != 0) && (c_.Queue != 1) then
   some (.inl (zq.mk 1 (zd.mk 0 0) 0 0 0, d))
  else
   (zX k d c_).bind fun t_ =>
   some (.inl (t_.1, t_.2)))
 else
  ((bif c_.Kind == 2 then
   some (c_.Kind == 2)
  else
   some (c_.Kind == 3))).bind fun t =>
  (bif t then
   (wc d.Pool c_.Job).bind fun j =>
   (bif j != 0 then
    some (.inl (zq.mk j (zd.mk 0 0) 0 0 0, d))
   else
    (xG k d c_.Job).bind fun e =>
    (bif c_.Kind == 3 then
     (y0 e.2 e.1).bind fun i =>
     some (.inl (zq.mk 0 (zd.mk 0 0) i.1.E.Key i.1.Data 0, i.2))
    else
     (mIdx e.2.L e.1).bind fun x =>
     (bif decide (c_.Time > x.E.Key) then
      some (.inl (zq.mk 26 (zd.mk 0 0) 0 0 0, e.2))
     else
      (mIdx e.2.L e.1).bind fun x1 =>
      (mIdx (mSet e.2.L e.1 (zF.mk x1.Queue x1.Data (zH.mk c_.Time x1.E.Serial) x1.R)) e.1).bind fun x2 =>
      some (.inl (zq.mk 0 (zd.mk 0 0) c_.Time x2.Data 0, zc.mk e.2.Most e.2.Now e.2.Next e.2.Pool (mSet e.2.L e.1 (zF.mk x1.Queue x1.Data (zH.mk c_.Time x1.E.Serial) x1.R)))))))
  else
   (bif c_.Kind == 4 then
    (bif decide (c_.Time < 0) then
     some (.inl (zq.mk 1 (zd.mk 0 0) 0 0 0, d))
    else
     (uC d.Now c_.Time).bind fun l =>
     some (.inl (zq.mk 0 (zd.mk 0 0) l 0 0, zc.mk d.Most l d.Next d.Pool d.L)))
   else
    some (.inr ())))) : Option ((zq × zc) ⊕ (Unit))).bind fun s =>
 match s with
 | .inl u => some u
 | .inr s1 =>
  some (zq.mk 12 (zd.mk 0 0) 0 0 0, d)
def xt (j : List zk) : Nat -> Int -> zc -> Option ((Bool) ⊕ (zc))
 | 0, _, _ => none
 | m + 1, i, m_ =>
  (bif decide (i < (j.length : Int)) then
   ((mIdx j i).bind fun x1 =>
   (mIdx j i).bind fun x2 =>
   (zN m m_ x1.Command).bind fun e =>
   (bif !(zq.eq e.1 x2.Reply) then
    some (true, e.2)
   else
    (mIdx j i).bind fun x3 =>
    (bif e.2.Now != x3.Now then
     some (true, e.2)
    else
     (mIdx j i).bind fun x4 =>
     some (decide (x4.Steps < 0), e.2)))).bind fun s2 =>
   (bif s2.1 then
    some (.inl false)
   else
    xt j m (w64 (i + 1)) s2.2)
  else
   some (.inr m_))
def wN (k : Nat) (e : Int) (l : List zk) : Option (Bool) :=
 (uf e).bind fun t_ =>
 (xt l k 0 t_).bind fun s =>
 match s with
 | .inl i => some i
 | .inr s1 =>
  some true
def yi (u : Int) (i1 : Int) (l2 : List zk) (j : zo) (x : List zx) : Nat -> (List zd) -> Int -> Option ((List zd))
 | 0, _, _ => none
 | m + 1, e, i =>
  (bif decide (i < (l2.length : Int)) then
   (((mIdx l2 i).bind fun x8 =>
   (bif x8.Command.Kind == 1 then
    (mIdx l2 i).bind fun x9 =>
    some (x9.Reply.Why == 0)
   else
    some false)).bind fun l =>
   (bif l then
    (mIdx l2 i).bind fun x10 =>
    (mApp e ([x10.Reply.Job] : List zd)).bind fun y =>
    some y
   else
    some e)).bind fun t =>
   yi u i1 l2 j x m t (w64 (i + 1))
  else
   some e)
def yj (n : Int) (I : List zx) : Nat -> (List zd) -> Int -> zo -> Option ((Bool) ⊕ (zo))
 | 0, _, _, _ => none
 | m + 1, told, i, t =>
  (bif (decide (i < (I.length : Int))) && (decide (i < 60)) then
   ((mIdx I i).bind fun x =>
   (vg x told).bind fun u =>
   (yU t).bind fun l =>
   (yx t).bind fun a4 =>
   (y5 m t.s).bind fun y =>
   (yx t).bind fun W =>
   (yB t.s).bind fun X =>
   (y9 m t.s.d 0).bind fun z =>
   (xl m t u).bind fun e =>
   (yU e.2).bind fun j =>
   ((bif u.Kind == 1 then
    ((bif (w64 ((j.length : Int) - (l.length : Int))) != 0 then
     some true
    else
     (bif !(zq.eq e.1 (zq.mk e.1.Why (zd.mk 0 0) 0 0 0)) then
      some true
     else
      (yx e.2).bind fun Y =>
      (y5 m e.2.s).bind fun A =>
      some (!((e.1.Why == 0) == (A == (w64 (y + 1)))))))).bind fun s7 =>
    (bif s7 then
     some (.inl false)
    else
     some (.inr ()))
   else
    (bif u.Kind == 2 then
     ((bif y == 0 then
      (bif (w64 ((j.length : Int) - (l.length : Int))) != 0 then
       some true
      else
       (bif !(zq.eq e.1 (zq.mk 27 (zd.mk 0 0) 0 0 0)) then
        some true
       else
        (bif decide (y > 0) then
         (bif (w64 ((j.length : Int) - (l.length : Int))) != 1 then
          some true
         else
          (mIdx j (l.length : Int)).bind fun x1 =>
          (bif !(zq.eq x1.Reply e.1) then
           some true
          else
           (yx e.2).bind fun Z =>
           (y5 m e.2.s).bind fun B =>
           some (B != (w64 (y - 1)))))
        else
         some false)))
     else
      (bif decide (y > 0) then
       (bif (w64 ((j.length : Int) - (l.length : Int))) != 1 then
        some true
       else
        (mIdx j (l.length : Int)).bind fun x2 =>
        (bif !(zq.eq x2.Reply e.1) then
         some true
        else
         (yx e.2).bind fun a0 =>
         (y5 m e.2.s).bind fun D =>
         some (D != (w64 (y - 1)))))
      else
       some false))).bind fun s8 =>
     (bif s8 then
      some (.inl false)
     else
      some (.inr ()))
    else
     (bif u.Kind == 3 then
      ((bif (w64 ((j.length : Int) - (l.length : Int))) != 1 then
       some true
      else
       (mIdx j (l.length : Int)).bind fun x4 =>
       (bif !(zq.eq x4.Reply e.1) then
        some true
       else
        (mIdx j (l.length : Int)).bind fun x5 =>
        some (!(zt.eq x5.Command u.Command))))).bind fun s9 =>
      (bif s9 then
       some (.inl false)
      else
       some (.inr ()))
     else
      (bif u.Kind == 4 then
       ((bif !(zq.eq e.1 (zq.mk 0 (zd.mk 0 0) 0 0 z)) then
        some true
       else
        (bif (w64 ((j.length : Int) - (l.length : Int))) != (w64 (z + 1)) then
         some true
        else
         (yx e.2).bind fun a1 =>
         (yB e.2.s).bind fun a2 =>
         (y9 m e.2.s.d 0).bind fun F =>
         some (F != 0)))).bind fun J =>
       (bif J then
        some (.inl false)
       else
        some (.inr ()))
      else
       ((bif !(zq.eq e.1 (zq.mk 12 (zd.mk 0 0) 0 0 0)) then
        some true
       else
        some ((w64 ((j.length : Int) - (l.length : Int))) != 0))).bind fun O =>
       (bif O then
        some (.inl false)
       else
        some (.inr ())))))) : Option ((Bool) ⊕ (Unit))).bind fun s5 =>
   match s5 with
   | .inl S => some (.inl S)
   | .inr s6 =>
    (yi n i j e.2 I m told (l.length : Int)).bind fun U =>
    some (.inr (U, e.2)) : Option ((Bool) ⊕ ((List zd) × zo))).bind fun s3 =>
   match s3 with
   | .inl S => some (.inl S)
   | .inr s4 =>
    yj n I m s4.1 (w64 (i + 1)) s4.2
  else
   some (.inr t))
def xy (k : Nat) (z : Int) (e : Int) (l : List zx) : Option (Bool) :=
 (yM e 1 20).bind fun t_ =>
 (yM z 1 3).bind fun x =>
 (rm k x t_ 3 5).bind fun i =>
 (uz i.1
  (some false)
  (fun m_ =>
  ((bif i.2 != 0 then
   some true
  else
   (yx m_).bind fun A =>
   (yx m_).bind fun B =>
   (yB m_.s).bind fun D =>
   some false)).bind fun s =>
  (bif s then
   some false
  else
   (yj t_ l k ([] : List zd) 0 m_).bind fun s1 =>
   match s1 with
   | .inl F => some F
   | .inr s2 =>
    ((yU s2).bind fun j =>
    (wN k t_ j).bind fun t =>
    (bif t then
     (vF k).bind fun u =>
     some u
    else
     some false)).bind fun y =>
    some y)))
end
end Go.Proofs.YtccbfeafebllhaaGreat
