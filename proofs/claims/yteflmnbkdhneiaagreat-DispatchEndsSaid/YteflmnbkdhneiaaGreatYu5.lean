/-
  The statements DispatchMerges, DispatchEnds of the program.
  Text 5 of 8: of what the proof needs (a row of the program: no condition is left); put together and made narrow by a program.
-/
import Derived.Test.YteflmnbkdhneiaaGreatYu4
set_option linter.unusedVariables false
set_option linter.unusedSimpArgs false
namespace Go.Th
noncomputable section
section
variable {E : Ev} {P : Program}
structure HpOk (w0 : World) (F : List HP) (st : Kn E) (w : World) : Prop where
 hp : St w0 (dens st.As ++ F) w
 fs : dZ F st
theorem KnOk.hk {n : Nat} {w0 w : World} {F : List HP} {st : Kn E} {a : Act} (h : KnOk n w0 F st a w) : HpOk w0 F st w := ⟨h.hp, h.fs⟩
def kH (c : Nat) {c' : Nat} (l : List (E.el c').α) : Option (List (E.el c).α) :=
 match Nat.decEq c' c with
 | isTrue h => some (h ▸ l)
 | isFalse _ => none
def dG (D : ElD) : Nat -> List Value -> Option (List D.α)
 | 0, _ => some []
 | n + 1, cs => match D.dec (cs.take D.sz), dG D n (cs.drop D.sz) with
  | some x, some r => some (x :: r)
  | _, _ => none
def oX : Op -> Option (Builtin × List Operand × List TypeId)
 | .call { callee := .builtin b, args, argTypes } => some (b, args.toList, argTypes.toList)
 | _ => none
theorem nc {op : Op} {b : Builtin} {l : List Operand} {e : List TypeId} (h : oX op = some (b, l, e)) : op = .call { callee := .builtin b, args := l.toArray, argTypes := e.toArray } := by
 unfold oX at h;split at h
 ·cases h; simp
 ·cases h
structure EqD (P : Program) : Type 1 where
 α : Type
 t : TypeId
 val : α -> Array Value
 dec : Value -> Option α
 eq : α -> α -> Bool
 ok : ∀ x y, lL P t (val x) (val y) (eq x y)
inductive ASrc
 | K (q : Nat)
 | R (q : Nat)
 | O (q : Nat)
 | W (v q : Nat)
def ASrc.keys : List ASrc -> List Nat
 | [] => []
 | .K q :: r => q :: keys r
 | _ :: r => keys r
def qG (rd : List (Nat × RdV E)) (rest : List (Nat × Atom E)) : List ASrc -> List (Atom E) -> Option (List (Atom E) × List (RdV E))
 | [], _ => some ([], [])
 | .K _ :: r, a :: ats => match qG rd rest r ats with
  | some (x, y) => some (a :: x, y)
  | none => none
 | .K _ :: _, [] => none
 | .R q :: r, ats => match getK q rd with
  | some v => match qG rd rest r ats with
   | some (x, y) => some (.sl v.c 0 v.sb v.sc v.l :: x, v :: y)
   | none => none
  | none => none
 | .O q :: r, ats => match getK q rest with
  | some (.sl c T sb sc l) => match qG rd rest r ats with
   | some (x, y) => some (.sl c T sb sc l :: x, ⟨c, sb, sc, l⟩ :: y)
   | none => none
  | _ => none
 | .W _ _ :: _, _ => none
def zipK {α : Type} : List Nat -> List α -> Option (List (Nat × α))
 | [], [] => some []
 | k :: ks, x :: xs => match zipK ks xs with
  | some r => some ((k, x) :: r)
  | none => none
 | _, _ => none
theorem iO {α : Type} : ∀ {ks : List Nat} {xs : List α} {r : List (Nat × α)}, zipK ks xs = some r -> r.map (·.2) = xs
 | [], [], r, h => by simp [zipK] at h; subst h; rfl
 | k :: ks, x :: xs, r, h => by
  simp only [zipK] at h;split at h
  ·rename_i r' hr; cases h; simp [iO hr]
  ·cases h
 | [], _ :: _, r, h => by simp [zipK] at h
 | _ :: _, [], r, h => by simp [zipK] at h
inductive Stp (E : Ev) (P : Program) : Type 1
 | seg (c : Nat) (l : List Src)
 | new (q : Nat) (l : List Src)
 | sto (q : Nat)
 | call (C : SCon E P) (l : List ASrc) (out : List Nat)
 | idx (rdr : Bool) (q : Nat) (x : Operand) (e : Nat)
 | gd (k : Nat) (x : Operand) (j : Nat)
 | idk (rdr : Bool) (q : Nat) (x : Operand) (e : Nat)
 | rlc (e q off : Nat)
 | rls (e t : Nat)
 | nil (q c : Nat) (T : TypeId)
 | bld (q c : Nat) (T : TypeId)
 | app (q : Nat) (s : ASrc)
 | sset (q e j : Nat)
 | mk (q c : Nat) (T : TypeId)
 | eqs (D : EqD P)
 | mnew (q c : Nat)
 | mget (q c : Nat) (kt : TypeId) (hk : s5 P kt (E.mp c).ek (E.mp c).eq) (z : (E.mp c).V)
 | mput (q c : Nat) (kt : TypeId) (hk : s5 P kt (E.mp c).ek (E.mp c).eq)
 | mdel (q c : Nat) (kt : TypeId) (hk : s5 P kt (E.mp c).ek (E.mp c).eq)
 | cut (rdr : Bool) (q : Nat) (lo hi : Option Operand) (v : Nat)
 | own (v q : Nat)
 | el (t e : Nat)
 | same (q m : Nat)
 | rlp (t q : Nat)
 | rlq (b off q : Nat)
 | pix (q off n c : Nat) (x : Operand) (e : Nat)
def gS (c : Nat) {c' : Nat} (l : List ((E.mp c').K × (E.mp c').V)) : Option (List ((E.mp c).K × (E.mp c).V)) :=
 match Nat.decEq c' c with
 | isTrue h => some (h ▸ l)
 | isFalse _ => none
def gG (rd : List (Nat × RdV E)) (vw : List (Nat × Mi E)) (rest : List (Nat × Atom E)) : ASrc -> Option (RdV E × List (Atom E × Atom E))
 | .K _ => none
 | .R q => match getK q rd with
  | some r => some (r, [])
  | none => none
 | .O q => match getK q rest with
  | some (.sl c T sb sc l) => some (⟨c, sb, sc, l⟩, [])
  | _ => none
 | .W v q => match getK v vw, getK q rest with
  | some (.cut u), some (.sl c T sb sc l) => some (⟨u.c, u.sb', u.sc', u.r⟩, [(.sl c T sb sc l, .sl u.c T u.sb u.sc u.l)])
  | _, _ => none
def vwO (o : Option (Option Int)) (l : List (Nat × Mi E)) : List (Nat × Mi E) := match o with
 | some x => (77, .opt x) :: l
 | none => l
theorem A0 {o : Option (Option Int)} {l : List (Nat × Mi E)} (h : ∀ p ∈ l, p.2.holds) : ∀ p ∈ vwO o l, p.2.holds := by
 cases o with
 | none => exact h
 | some x =>
  intro p hp;cases hp with
  | head => trivial
  | tail _ hm => exact h p hm
def fxP : List Prop -> List (Nat × Prop) -> List (Nat × Prop)
 | [], l => l
 | p :: r, l => (78, p) :: fxP r l
theorem bo {l : List (Nat × Prop)} (h : ∀ p ∈ l, p.2) : ∀ {fx : List Prop}, (∀ p ∈ fx, p) -> ∀ p ∈ fxP fx l, p.2
 | [], _ => h
 | q :: r, hf => fun p hp => by
  cases hp with
  | head => exact hf q (List.mem_cons_self ..)
  | tail _ hm => exact bo h (fun x e => hf x (mC _ e)) p hm
def outK {R : Type} (out : List Nat) (l : List (Atom E)) (K : List (Nat × Atom E) -> VC R) : VC R := match zipK out l with
 | some new => K new
 | none => .fail
theorem aC {R : Type} {out : List Nat} {l : List (Atom E)} {K : List (Nat × Atom E) -> VC R} {Φ : R -> Prop} (h : (outK out l K).ok Φ) : ∃ new, new.map (·.2) = l /\ (K new).ok Φ := by
 unfold outK at h;split at h
 ·rename_i new hz; exact ⟨new, iO hz, h⟩
 ·exact (VC.zx h).elim
def hQ (L : Env) (x : Operand) : Option (Nat × List Value) := match x with
 | .func g => some (g, [])
 | y => match evO L y with
  | some (.func (.func g) ⟨[]⟩ ⟨cs⟩) => some (g, cs)
  | _ => none
def actO {R : Type} (o : Oper) (st : Kn E) (s : Stp E P) (K : Value -> Kn E -> VC R) : VC R :=
 match s with
 | .new q l => match (!rF o.op && lZ st.L o.op.operands.toList), srcs st l with
  | true, some (Y, obs, eqs) => .frN fun r => match sI P (execOp (rho st.L) o) Y r with
   | some (.cells cs T (0, 0), .value v, S) => .req S obs (.req (eqs.map (·.1)) (eqs.map (·.2)) (K v ⟨st.L, (q, .blk r T cs.toList) :: st.As, st.rd, st.ef, st.pr, st.vw⟩))
   | _ => .fail
  | _, _ => .fail
 | .sto q => match v8 o.op, ox q st.As with
  | some (t, x, y), some (.blk b' T cs, rest) => match evO st.L x, evO st.L y, P.info? t with
   | some (.pointer (some ⟨b, off, none⟩)), some v, some ti => match Nat.beq ti.size v.cells.size, p5 v.cells.toList, Nat.ble (off + v.cells.size) cs.length with
    | true, true, true => .req b b' (K undef ⟨st.L, (q, .blk b' T (putAt cs off v.cells.toList)) :: rest, st.rd, st.ef, st.pr, st.vw⟩)
    | _, _, _ => .fail
   | _, _, _ => .fail
  | _, _ => .fail
 | .call C l out => match callParts o.op, kY (ASrc.keys l) st.As with
  | some (x, xs), some (ats, rest) => match hQ st.L x, qY st.L xs, qG st.rd rest l ats with
   | some (g, cs), some vs, some (ps, rds) => match C.C.rd (vs ++ cs) ps with
    | some i => .req (vs ++ cs, ats, rds, g) (C.C.args i, C.C.ats i, C.C.rds i, C.C.fid) (.bind (C.C.model i) fun t => frNs C.C.nN fun J => frAs C.C.nA fun O => match C.C.br with
     | false => outK out (C.C.post i t J O) fun new => K (C.C.val i t J O) ⟨st.L, new ++ rest, st.rd, st.ef, fxP (C.C.fx i t) st.pr, vwO (C.C.opt i t) st.vw⟩
     | true => .cs (oS (C.C.om i t)) (fun _ => outK (out.drop C.C.nf) (C.C.post i t J O) fun new => K (C.C.val i t J O) ⟨st.L, new ++ rest, st.rd, st.ef, fxP (C.C.fx i t) st.pr, vwO (C.C.opt i t) st.vw⟩) fun m =>
       outK out (C.C.post1 i t m J O) fun new => K (C.C.val1 i t m J O) ⟨st.L, new ++ rest, st.rd, st.ef, fxP (C.C.fx i t) st.pr, vwO (C.C.opt i t) st.vw⟩)
    | none => .fail
   | _, _, _ => .fail
  | _, _ => .fail
 | .bld q c T => match (!rF o.op && lZ st.L o.op.operands.toList) with
  | true => .frN fun r => match sI P (execOp (rho st.L) o) [] r with
   | some (.cells cs T' (0, 0), .value (.slice (some a) m I), []) => match dG (E.el c) m cs.toList, Nat.ble m 1000000 with
    | some xs, true => .req (cs.toList, a, m, I, T') (xs.flatMap (E.el c).enc, ⟨r, 0, none⟩, xs.length, xs.length, T) (K (.slice (some ⟨r, 0, none⟩) xs.length xs.length) ⟨st.L, (q, .sl c T (some ⟨r, 0, none⟩) xs.length xs) :: st.As, st.rd, st.ef, st.pr, st.vw⟩)
    | _, _ => .fail
   | _ => .fail
  | false => .fail
 | .app q s => match oX o.op, ox q st.As with
  | some (.append, [x, y], [t, u]), some (.sl c T sb sc l, rest) => match gG st.rd st.vw ((q, .sl c T sb sc l) :: rest) s, P.underlying t, P.underlying u, P.info? T, evO st.L x, evO st.L y with
   | some (⟨c', sb', sc', l'⟩, eqs), some (.slice T'), some (.slice d), some ti, some B, some A => match kH c l', ti.zero, Nat.ble ti.bytes 131072 with
    | some l'', some z, true => .req (B, A, T', ti.size, z.cells.size) (.slice sb l.length sc, .slice sb' l''.length sc', T, (E.el c).sz, (E.el c).sz) (.req (eqs.map (·.1)) (eqs.map (·.2)) (.bind (mApp l l'') fun r => .frA fun U => .frN fun W =>
      K (.slice U r.length W) ⟨st.L, (q, .sl c T U W r) :: rest, st.rd, st.ef, st.pr, st.vw⟩))
    | _, _, _ => .fail
   | _, _, _, _, _, _ => .fail
  | _, _ => .fail
 | .sset q e j => match v8 o.op, ox q st.As, getK e st.ef with
  | some (t, x, y), some (.sl c T sb sc l, rest), some ⟨rdr, c', sb', l', i, x0, b, off⟩ => match evO st.L x, evO st.L y, P.info? t, Nat.decEq c' c with
   | some B, some v, some ti, isTrue h => match p5 v.cells.toList, Nat.ble (j + v.cells.size) (E.el c).sz, (E.el c).dec (putAt ((E.el c).enc (h ▸ x0)) j v.cells.toList) with
    | true, true, some x1 => .req (B, ti.size, (h ▸ l' : List (E.el c).α), sb', (E.el c).enc x1) (.pointer (some ⟨b, off + i.toNat * (E.el c).sz + j, none⟩), v.cells.size, l, sb, putAt ((E.el c).enc (h ▸ x0)) j v.cells.toList)
      (K undef ⟨st.L, (q, .sl c T sb sc (mSet l i x1)) :: rest, st.rd, (e, ⟨false, c, sb, mSet l i x1, i, x1, b, off⟩) :: (e + 100000, ⟨rdr, c', sb', l', i, x0, b, off⟩) :: st.ef, st.pr, st.vw⟩)
    | _, _, _ => .fail
   | _, _, _, _ => .fail
  | _, _, _ => .fail
 | .mk q c T => match o.op with
  | .makeSlice t x y => match P.underlying t, P.info? T, evO st.L x, evO st.L y with
   | some (.slice T'), some ti, some (.int .i64 m), some A => match ti.zero, Nat.ble ti.bytes 131072 with
    | some X, true => match (E.el c).dec X.cells.toList with
     | some z => .req (T', ti.size, X.cells.toList, y) (T, (E.el c).sz, (E.el c).enc z, x) (.bind (gD m z) fun l => .frN fun r => K (.slice (some ⟨r, 0, none⟩) l.length l.length) ⟨st.L, (q, .sl c T (some ⟨r, 0, none⟩) l.length l) :: st.As, st.rd, st.ef, st.pr, st.vw⟩)
     | none => .fail
    | _, _ => .fail
   | _, _, _, _ => .fail
  | _ => .fail
 | .eqs D => match o.op with
  | .binOp .eql t x y _ => match evO st.L x, evO st.L y, P.eqGuardType P.depth t with
   | some B, some A, false => match D.dec B, D.dec A with
    | some a, some b => .req (t, B, A) (D.t, .agg (D.val a), .agg (D.val b)) (K (.bool (D.eq a b)) st)
    | _, _ => .fail
   | _, _, _ => .fail
  | .binOp .neq t x y _ => match evO st.L x, evO st.L y, P.eqGuardType P.depth t with
   | some B, some A, false => match D.dec B, D.dec A with
    | some a, some b => .req (t, B, A) (D.t, .agg (D.val a), .agg (D.val b)) (K (.bool (!(D.eq a b))) st)
    | _, _ => .fail
   | _, _, _ => .fail
  | _ => .fail
 | .mnew q c => match o.op with
  | .makeMap t none => .frN fun r => K (.map (some r)) ⟨st.L, (q, .mp c r []) :: st.As, st.rd, st.ef, st.pr, st.vw⟩
  | _ => .fail
 | .mget q c kt hk z => match getK q st.As with
  | some (.mp c' r m) => match gS c m with
   | some I => match o.op with
    | .lookup mt x y two => match P.underlying mt, evO st.L x, evO st.L y with
     | some (.map F Z), some B, some A => match P.info? Z, (E.mp c).dk A with
      | some ti, some k => match ti.zero with
       | some X => .req (F, B, A, X, Atom.mp (E := E) c' r m) (kt, .map (some r), (E.mp c).ek k, (E.mp c).ev z, .mp c r I) (.bind (rr (E.mp c).eq k z I) fun g => K (match two with
        | true => .tuple #[(E.mp c).ev g.1, .bool g.2]
        | false => (E.mp c).ev g.1) st)
       | none => .fail
      | _, _ => .fail
     | _, _, _ => .fail
    | _ => .fail
   | none => .fail
  | _ => .fail
 | .mput q c kt hk => match ox q st.As, ph o.op with
  | some (.mp c' r m, rest), some (mt, x, y, z) => match gS c m, P.underlying mt, evO st.L x, evO st.L y, evO st.L z with
   | some I, some (.map F Z), some B, some A, some vz => match (E.mp c).dk A, (E.mp c).dv vz with
    | some k, some v => .req (F, B, A, vz, Atom.mp (E := E) c' r m) (kt, .map (some r), (E.mp c).ek k, (E.mp c).ev v, .mp c r I) (K undef ⟨st.L, (q, .mp c r (mPut (E.mp c).eq k v I)) :: rest, st.rd, st.ef, st.pr, st.vw⟩)
    | _, _ => .fail
   | _, _, _, _, _ => .fail
  | _, _ => .fail
 | .mdel q c kt hk => match ox q st.As, oX o.op with
  | some (.mp c' r m, rest), some (.delete, [x, y], mt :: ts) => match gS c m, P.underlying mt, evO st.L x, evO st.L y with
   | some I, some (.map F Z), some B, some A => match (E.mp c).dk A with
    | some k => .req (F, B, A, Atom.mp (E := E) c' r m) (kt, .map (some r), (E.mp c).ek k, .mp c r I) (K (.tuple #[]) ⟨st.L, (q, .mp c r (mDel (E.mp c).eq k I)) :: rest, st.rd, st.ef, st.pr, st.vw⟩)
    | none => .fail
   | _, _, _, _ => .fail
  | _, _ => .fail
 | _ => .fail
theorem RdV.mono {F G : List HP} {r : RdV E} (h : ∀ X ∈ F, X ∈ G) (hr : r.holds F) : r.holds G := by
 obtain ⟨X, hX, h1⟩ := hr;exact ⟨X, h X hX, h1⟩
theorem sJ {F : List HP} {rd : List (Nat × RdV E)} {rest : List (Nat × Atom E)} (e : ∀ p ∈ rd, p.2.holds F) : ∀ {l : List ASrc} {ats ps : List (Atom E)} {rds : List (RdV E)},
  qG rd rest l ats = some (ps, rds) -> ∀ r ∈ rds, r.holds (dens rest ++ F)
 | [], ats, ps, rds, h => by simp [qG] at h; obtain ⟨_, rfl⟩ := h; simp
 | .K _ :: r, [], ps, rds, h => by simp [qG] at h
 | .K _ :: r, a :: ats, ps, rds, h => by
  simp only [qG] at h;split at h
  ·rename_i x y i; cases h; exact sJ e i
  ·cases h
 | .R q :: r, ats, ps, rds, h => by
  simp only [qG] at h;split at h
  ·rename_i v hv;split at h
   ·rename_i x y i;cases h;intro z hz;cases hz with
    | head =>
     obtain ⟨j, hj⟩ := wA hv;exact RdV.mono (fun X hX => List.mem_append_right _ hX) (e _ hj)
    | tail _ hm => exact sJ e i z hm
   ·cases h
  ·cases h
 | .O q :: r, ats, ps, rds, h => by
  simp only [qG] at h;split at h
  ·rename_i c T sb sc l hq;split at h
   ·rename_i x y i;cases h;intro z hz;cases hz with
    | head =>
     refine ⟨_, mL F (uO hq), uF _ _ _ _ _ _, ?_⟩;rintro h (⟨_, hl, _⟩ | ⟨b, off, cs, _, _, t, _⟩)
     ·show l.length <= sc;rw [show l = [] from hl]; simp
     ·exact t
    | tail _ hm => exact sJ e i z hm
   ·cases h
  ·cases h
theorem OpTo.A8 {n : Nat} {a : Act} {L : Env} {w w0 : World} {As : List HP} {o : Oper} {b off : Nat} {T t : TypeId} {cs : List Value} {x y : Operand} {v : Value} {ti : TypeInfo} (i : yg n a L) (H : St w0 (Blk b T cs :: As) w)
  (j : v8 o.op = some (t, x, y)) (z : evO L x = some (.pointer (some ⟨b, off, none⟩))) (A : evO L y = some v) (hi : P.info? t = some ti) (hs : ti.size = v.cells.size) (h1 : p5 v.cells.toList = true)
  (e : off + v.cells.size <= cs.length) : OpTo P o a w fun u w' => u = undef /\ St w0 (Blk b T (putAt cs off v.cells.toList) :: As) w' := by
 obtain ⟨dst, op, type, pos, after, guard⟩ := o;cases op <;> simp only [v8] at j <;> try cases j
 have l := H.one 0 rfl;refine OpTo.jD (w' := w.setRow b (putAt cs off v.cells.toList).toArray) ?_ ⟨rfl, ?_⟩
 ·simp [execOp, i.eval z, i.eval A, oJ l hi hs h1 e]
 ·exact H.set (by simp) (by simp) (by simp) (setRow_heap w b _ _ T (0, 0) l) (fun c B => setRow_other w b c _ B)
theorem OpTo.B2 {o : Oper} {a : Act} {w : World} {e : Value -> World -> Prop} {z : TypeId × Operand × Operand} (h : OpTo P o a w e) (i : v8 o.op = some z) : OpTo P o a w fun v w' => v = undef /\ e v w' := by
 obtain ⟨dst, op, type, pos, after, guard⟩ := o;cases op <;> simp only [v8] at i <;> try cases i
 rename_i t x y;unfold OpTo at *
 simp only [execOp, Sem.run_bind, Sem.run_pure] at *
 cases hr : (Instr.storeAt t (a.eval x) (a.eval y)).run P w with
 | ok u w' => rw [hr] at h; simp [Result.andThen] at h ⊢; exact h
 | halt x w' => rw [hr] at h; simp [Result.andThen] at h
theorem OpTo.putU {o : Oper} {a : Act} {w : World} {e : Value -> World -> Prop} {z : TypeId × Operand × Operand × Operand} (h : OpTo P o a w e) (i : ph o.op = some z) : OpTo P o a w fun v w' => v = undef /\ e v w' := by
 obtain ⟨dst, op, type, pos, after, guard⟩ := o;cases op <;> simp only [ph] at i <;> try cases i
 all_goals
  rename_i t x y z;unfold OpTo at *
  simp only [execOp, Sem.run_bind, Sem.run_pure] at *
  cases hr : (Instr.mapUpdate t (a.eval x) (a.eval y) (a.eval z)).run P w with
  | ok u w' => rw [hr] at h; simp [Result.andThen] at h ⊢; exact h
  | halt x w' => rw [hr] at h; simp [Result.andThen] at h
theorem j7 {F : List HP} {rd : List (Nat × RdV E)} {vw : List (Nat × Mi E)} {rest : List (Nat × Atom E)} {s : ASrc} {r : RdV E} {eqs : List (Atom E × Atom E)} (e : ∀ p ∈ rd, p.2.holds F) (i : ∀ p ∈ vw, p.2.holds) (h : gG rd vw rest s = some (r, eqs)) (he : ∀ p ∈ eqs, p.1 = p.2) :
  ∃ X, X ∈ dens rest ++ F /\ SlRd X (E.el r.c).enc (E.el r.c).sz r.sb r.l := by
 cases s with
 | K q => simp [gG] at h
 | R q =>
  simp only [gG] at h;split at h
  ·rename_i r' hr;cases h;obtain ⟨j, hj⟩ := wA hr;obtain ⟨X, hX, h1, _⟩ := e _ hj;exact ⟨X, List.mem_append_right _ hX, h1⟩
  ·cases h
 | W v q =>
  simp only [gG] at h;split at h
  ·rename_i u c T sb sc l hu hq;cases h;obtain ⟨j, hj⟩ := wA hu;obtain ⟨h1, h2, h3, h4⟩ := i _ hj;have t := he _ (List.mem_singleton.2 rfl);simp only at t;have hm := uO hq;rw [t] at hm;exact ⟨_, mL F hm, (uF T (E.el u.c).enc (E.el u.c).sz u.sb u.sc u.l).cut' (E.el u.c).ok h1 h4 h2⟩
  ·cases h
 | O q =>
  simp only [gG] at h;split at h
  ·rename_i c T sb sc l hq;cases h;exact ⟨_, mL F (uO hq), uF _ _ _ _ _ _⟩
  ·cases h
theorem cq {c c' : Nat} {l : List (E.el c').α} {l' : List (E.el c).α} (h : kH c l = some l') : ∃ e : c' = c, l' = e ▸ l := by
 unfold kH at h;split at h
 ·rename_i e _; cases h; exact ⟨e, rfl⟩
 ·cases h
theorem kx {c c' : Nat} {l : List ((E.mp c').K × (E.mp c').V)} {l' : List ((E.mp c).K × (E.mp c).V)} (h : gS c l = some l') : ∃ e : c' = c, l' = e ▸ l := by
 unfold gS at h;split at h
 ·rename_i e _; cases h; exact ⟨e, rfl⟩
 ·cases h
theorem mz {R : Type} {n : Nat} {w0 w : World} {F : List HP} {st : Kn E} {a : Act} {Φ : R -> Prop} {o : Oper} {s : Stp E P} {K : Value -> Kn E -> VC R} (A : KnOk n w0 F st a w) (h : (actO o st s K).ok Φ) :
  OpTo P o a w fun v w' => ∃ J, J.L = st.L /\ HpOk w0 F J w' /\ (K v J).ok Φ := by
 cases s with
 | seg c l => exact (VC.zx h).elim
 | idx rdr q x e => exact (VC.zx h).elim
 | gd k x j => exact (VC.zx h).elim
 | idk rdr q x e => exact (VC.zx h).elim
 | rlc e q off => exact (VC.zx h).elim
 | rls e t => exact (VC.zx h).elim
 | nil q c T => exact (VC.zx h).elim
 | cut rdr q lo hi v => exact (VC.zx h).elim
 | own v q => exact (VC.zx h).elim
 | el t e => exact (VC.zx h).elim
 | same q m => exact (VC.zx h).elim
 | rlp t q => exact (VC.zx h).elim
 | rlq b off q => exact (VC.zx h).elim
 | pix q off n c x e => exact (VC.zx h).elim
 | bld q c T =>
  simp only [actO] at h;split at h
  ·rename_i Z;have h3 := h w.heap.size;dsimp only at h3;split at h3
   ·rename_i cs T' ad m m' a2;split at h3
    ·rename_i xs c4 hm;obtain ⟨e, U⟩ := h3;simp only [Prod.mk.injEq] at e;obtain ⟨S, rfl, rfl, rfl, rfl⟩ := e;simp only [Bool.and_eq_true, Bool.not_eq_true'] at Z;have c5 := Nat.le_of_ble_eq_true hm;have c6 : cs.size = xs.length * (E.el c).sz := by rw [<- Array.length_toList, S, yD (E.el c).ok]
     refine OpTo.of_run (w' := { w with heap := w.heap.push (.cells cs T' (0, 0)) }) (v := .slice (some ⟨w.heap.size, 0, none⟩) xs.length xs.length) ?_ ⟨⟨st.L, (q, .sl c T' (some ⟨w.heap.size, 0, none⟩) xs.length xs) :: st.As, st.rd, st.ef, st.pr, st.vw⟩, rfl, ⟨?_, A.fs.1, A.fs.2, A.fs.3, A.fs.4⟩, U⟩
     ·rw [kg A.env Z.1 Z.2];exact qa P w _ _ _ _ _ a2 trivial
     ·have H2 := A.hp.alloc (.cells cs T' (0, 0));have H3 := St.slOf (enc := (E.el c).enc) (sz := (E.el c).sz) (l := xs) (sc := xs.length) H2 (E.el c).ok (Nat.le_refl _) (by unfold maxLen; omega) (by omega) fun i hi => by rw [<- S]; simp
      exact H3
    ·exact (VC.zx h3).elim
   ·exact (VC.zx h3).elim
  ·exact (VC.zx h).elim
 | app q s =>
  simp only [actO] at h;split at h
  ·rename_i x y t u c T sb sc l rest h1 h2;split at h
   ·rename_i c' sb' sc' l' eqs T' d ti vx vy g1 g2 g3 g4 g5 g6;split at h
    ·rename_i l'' z k1 k2 k3;obtain ⟨e, b3, r, hr, I⟩ := h;simp only [Prod.mk.injEq] at e;obtain ⟨rfl, rfl, rfl, e4, e5⟩ := e;obtain ⟨W, rfl⟩ := cq k1;subst W;have H : St w0 (Sl T' (E.el c').enc (E.el c').sz sb sc l :: (dens rest ++ F)) w := A.hp.perm ((uH h2).append_right F);obtain ⟨X, hX, hS⟩ := j7 A.fs.rd A.fs.vw g1 (mD b3);obtain ⟨j, hj⟩ := H.mem hX;have b4 := hS.all (E.el c').ok H j hj;refine (OpTo.qW hr A.env H (E.el c').ok (nc h1) g5 g6 g2 g3 g4 e4 k2 e5 rfl b4 k3).mono ?_;rintro v w' ⟨a4, a5, rfl, B⟩;exact ⟨⟨st.L, (q, .sl c' T' a4 a5 r) :: rest, st.rd, st.ef, st.pr, st.vw⟩, rfl, ⟨B, A.fs.1, A.fs.2, A.fs.3, A.fs.4⟩, I a4 a5⟩
    ·exact (VC.zx h).elim
   ·exact (VC.zx h).elim
  ·exact (VC.zx h).elim
 | sset q e j =>
  simp only [actO] at h;split at h
  ·rename_i t x y c T sb sc l rest rdr c' sb' l' i x0 b off h1 h2 h3;split at h
   ·rename_i vx v ti W g1 g2 g3 g4;split at h
    ·rename_i x1 k1 k2 k3;subst W;obtain ⟨e, I⟩ := h;simp only [Prod.mk.injEq] at e;obtain ⟨rfl, Y, rfl, rfl, e5⟩ := e;obtain ⟨j', hj⟩ := wA h3;obtain ⟨f1, f2, _⟩ := A.fs.2 _ hj;have H : St w0 (Sl T (E.el c').enc (E.el c').sz sb' sc l' :: (dens rest ++ F)) w := A.hp.perm ((uH h2).append_right F);refine (OpTo.B2 (OpTo.kf (q := j) (x' := x1) A.env H (E.el c').ok h1 f1 f2 g1 g2 g3 Y k1 (Nat.le_of_ble_eq_true k2) e5) h1).mono ?_;rintro v w' ⟨rfl, B⟩;refine ⟨⟨st.L, (q, .sl c' T sb' sc (mSet l' i x1)) :: rest, st.rd, (e, ⟨false, c', sb', mSet l' i x1, i, x1, b, off⟩) :: (e + 100000, ⟨rdr, c', sb', l', i, x0, b, off⟩) :: st.ef, st.pr, st.vw⟩, rfl, ⟨B, A.fs.1, fun p hp => ?_, A.fs.3, A.fs.4⟩, I⟩;cases hp with
     | head => exact ⟨f1, Ag f2, fun h => by cases h⟩
     | tail _ hm =>
      cases hm with
      | head =>
       have h9 := A.fs.2 _ hj;exact h9
      | tail _ hm => exact A.fs.2 p hm
    ·exact (VC.zx h).elim
   ·exact (VC.zx h).elim
  ·exact (VC.zx h).elim
 | mk q c T =>
  simp only [actO] at h;split at h
  ·rename_i t x y O;split at h
   ·rename_i T' ti m vy g1 g2 g3 g4;split at h
    ·rename_i zv k1 k2;split at h
     ·rename_i z kz;obtain ⟨e, l, hl, I⟩ := h;simp only [Prod.mk.injEq] at e;obtain ⟨rfl, Y, e3, rfl⟩ := e;refine (OpTo.make hl A.env A.hp (E.el c).ok O g3 g1 g2 Y k1 e3 k2).mono ?_;rintro v w' ⟨r, rfl, B⟩;exact ⟨⟨st.L, (q, .sl c T' (some ⟨r, 0, none⟩) l.length l) :: st.As, st.rd, st.ef, st.pr, st.vw⟩, rfl, ⟨B, A.fs.1, A.fs.2, A.fs.3, A.fs.4⟩, I r⟩
     ·exact (VC.zx h).elim
    ·exact (VC.zx h).elim
   ·exact (VC.zx h).elim
  ·exact (VC.zx h).elim
 | eqs D =>
  simp only [actO] at h;split at h
  ·rename_i t x y u O;split at h
   ·rename_i vx vy g1 g2 g3;split at h
    ·rename_i p q k1 k2;obtain ⟨e, I⟩ := h;simp only [Prod.mk.injEq] at e;obtain ⟨rfl, rfl, rfl⟩ := e;refine (OpTo.eqS A.env O g1 g2 g3 (D.ok p q)).mono ?_;rintro v w' ⟨rfl, rfl⟩;exact ⟨st, rfl, A.hk, I⟩
    ·exact (VC.zx h).elim
   ·exact (VC.zx h).elim
  ·rename_i t x y u O;split at h
   ·rename_i vx vy g1 g2 g3;split at h
    ·rename_i p q k1 k2;obtain ⟨e, I⟩ := h;simp only [Prod.mk.injEq] at e;obtain ⟨rfl, rfl, rfl⟩ := e;refine (OpTo.neS A.env O g1 g2 g3 (D.ok p q)).mono ?_;rintro v w' ⟨rfl, rfl⟩;exact ⟨st, rfl, A.hk, I⟩
    ·exact (VC.zx h).elim
   ·exact (VC.zx h).elim
  ·exact (VC.zx h).elim
 | mnew q c =>
  simp only [actO] at h;split at h
  ·rename_i t O;refine (OpTo.B5 (E.mp c).ek (E.mp c).ev A.env A.hp O).mono ?_;rintro v w' ⟨r, rfl, B⟩;exact ⟨⟨st.L, (q, .mp c r []) :: st.As, st.rd, st.ef, st.pr, st.vw⟩, rfl, ⟨B, A.fs.1, A.fs.2, A.fs.3, A.fs.4⟩, h r⟩
  ·exact (VC.zx h).elim
 | mget q c kt hk z =>
  simp only [actO] at h;split at h
  ·rename_i c' r m hq;split at h
   ·rename_i m' hm;split at h
    ·rename_i mt x y two O;split at h
     ·rename_i a7 vt vx vy g1 g2 g3;split at h
      ·rename_i ti k k1 k2;split at h
       ·rename_i zv kz;obtain ⟨W, rfl⟩ := kx hm;subst W;obtain ⟨e, g, hg, I⟩ := h;simp only [Prod.mk.injEq] at e;obtain ⟨rfl, rfl, rfl, rfl, _⟩ := e;obtain ⟨j, hj⟩ := A.hp.mem (mL F (uO hq));cases two with
        | true =>
         refine (OpTo.AW j A.env A.hp hj hk hg O g1 k1 kz g2 g3).mono ?_;rintro v w' ⟨rfl, rfl⟩;exact ⟨st, rfl, A.hk, I⟩
        | false =>
         refine (OpTo.B9 j A.env A.hp hj hk hg O g1 k1 kz g2 g3).mono ?_;rintro v w' ⟨rfl, rfl⟩;exact ⟨st, rfl, A.hk, I⟩
       ·exact (VC.zx h).elim
      ·exact (VC.zx h).elim
     ·exact (VC.zx h).elim
    ·exact (VC.zx h).elim
   ·exact (VC.zx h).elim
  ·exact (VC.zx h).elim
 | mput q c kt hk =>
  simp only [actO] at h;split at h
  ·rename_i c' r m rest mt x y z h1 h2;split at h
   ·rename_i m' a7 vt vx vy vz hm g1 g2 g3 g4;split at h
    ·rename_i k v k1 k2;obtain ⟨W, rfl⟩ := kx hm;subst W;obtain ⟨e, I⟩ := h;simp only [Prod.mk.injEq] at e;obtain ⟨rfl, rfl, rfl, rfl, _⟩ := e;have H : St w0 (MpA r (E.mp c').ek (E.mp c').ev m :: (dens rest ++ F)) w := A.hp.perm ((uH h1).append_right F);refine (OpTo.putU (OpTo.BH A.env H hk h2 g1 g2 g3 g4) h2).mono ?_;rintro v' w' ⟨rfl, B⟩;exact ⟨⟨st.L, (q, .mp c' r (mPut (E.mp c').eq k v m)) :: rest, st.rd, st.ef, st.pr, st.vw⟩, rfl, ⟨B, A.fs.1, A.fs.2, A.fs.3, A.fs.4⟩, I⟩
    ·exact (VC.zx h).elim
   ·exact (VC.zx h).elim
  ·exact (VC.zx h).elim
 | mdel q c kt hk =>
  simp only [actO] at h;split at h
  ·rename_i c' r m rest x y mt ts h1 h2;split at h
   ·rename_i m' a7 vt vx vy hm g1 g2 g3;split at h
    ·rename_i k k1;obtain ⟨W, rfl⟩ := kx hm;subst W;obtain ⟨e, I⟩ := h;simp only [Prod.mk.injEq] at e;obtain ⟨rfl, rfl, rfl, _⟩ := e;have H : St w0 (MpA r (E.mp c').ek (E.mp c').ev m :: (dens rest ++ F)) w := A.hp.perm ((uH h1).append_right F);refine (OpTo.Bn A.env H hk (nc h2) (by simp) g1 g2 g3).mono ?_;rintro v' w' ⟨rfl, B⟩;exact ⟨⟨st.L, (q, .mp c' r (mDel (E.mp c').eq k m)) :: rest, st.rd, st.ef, st.pr, st.vw⟩, rfl, ⟨B, A.fs.1, A.fs.2, A.fs.3, A.fs.4⟩, I⟩
    ·exact (VC.zx h).elim
   ·exact (VC.zx h).elim
  ·exact (VC.zx h).elim
 | new q l =>
  simp only [actO] at h;split at h
  ·rename_i d3 obs eqs h1 h2;have h3 := h w.heap.size;dsimp only at h3;split at h3
   ·rename_i cs T v c3 h4;obtain ⟨I, h6, U⟩ := h3;subst I;simp only [Bool.and_eq_true, Bool.not_eq_true'] at h1;refine OpTo.of_run (w' := { w with heap := w.heap.push (.cells cs T (0, 0)) }) (v := v) ?_ ⟨⟨st.L, (q, .blk w.heap.size T cs.toList) :: st.As, st.rd, st.ef, st.pr, st.vw⟩, rfl, ⟨?_, A.fs.1, A.fs.2, A.fs.3, A.fs.4⟩, U⟩
    ·rw [kg A.env h1.1 h1.2];exact qa P w _ _ _ _ _ h4 (tT A h2 (mD h6))
    ·have := A.hp.alloc (.cells cs T (0, 0));simpa [dens, Atom.den] using this
   ·exact (VC.zx h3).elim
  ·exact (VC.zx h).elim
 | sto q =>
  simp only [actO] at h;split at h
  ·rename_i t x y b' T cs rest h1 h2;split at h
   ·rename_i b off v ti hx hy hi;split at h
    ·rename_i S Y e3;obtain ⟨rfl, U⟩ := h;have H : St w0 (Blk b T cs :: (dens rest ++ F)) w := A.hp.perm ((uH h2).append_right F);refine (OpTo.A8 A.env H h1 hx hy hi (Nat.eq_of_beq_eq_true S) Y (Nat.le_of_ble_eq_true e3)).mono ?_;rintro _ w' ⟨rfl, B⟩;exact ⟨⟨st.L, (q, .blk b T (putAt cs off v.cells.toList)) :: rest, st.rd, st.ef, st.pr, st.vw⟩, rfl, ⟨B, A.fs.1, A.fs.2, A.fs.3, A.fs.4⟩, U⟩
    ·exact (VC.zx h).elim
   ·exact (VC.zx h).elim
  ·exact (VC.zx h).elim
 | call C l out =>
  simp only [actO] at h;split at h
  ·rename_i x xs ats rest h1 h2;split at h
   ·rename_i g cs vs ps rds S Y e3;split at h
    ·rename_i i hi;obtain ⟨e4, t, ht, I⟩ := h;simp only [Prod.mk.injEq] at e4;obtain ⟨e5, rfl, rfl, rfl⟩ := e4;have fn : ∀ {Rv : Value -> World -> Prop}, xC P C.C.fid (C.C.args i).toArray w Rv -> OpTo P o a w Rv := by
      intro Rv hc;rw [<- e5] at hc;unfold hQ at S;split at S
      ·simp only [Option.some.injEq, Prod.mk.injEq] at S;obtain ⟨e6, rfl⟩ := S;subst e6;rw [aN] at hc;exact OpTo.fn A.env h1 Y C.ent hc
      ·split at S
       ·rename_i hx;simp only [Option.some.injEq, Prod.mk.injEq] at S;obtain ⟨e6, rfl⟩ := S;subst e6;exact OpTo.fv A.env h1 hx Y C.ent hc
       ·cases S
     have H : St w0 ((C.C.ats i).map Atom.den ++ (dens rest ++ F)) w := by
      have := A.hp.perm ((ou h2).append_right F)
      rwa [aA] at this
     refine fn ((C.snd i t ht w0 w (dens rest ++ F) (sJ A.fs.rd e3) H).mono ?_);rintro v w' ⟨ns, aS, hn, ha, rfl, B, b9⟩;rw [<- hn] at I;have h6 := oq _ _ I;rw [<- ha] at h6;have U := og _ _ h6;have fin : ∀ (v : Value) (l : List (Atom E)) (out : List Nat), St w0 (l.map Atom.den ++ (dens rest ++ F)) w' -> (outK out l fun new => K v ⟨st.L, new ++ rest, st.rd, st.ef, fxP (C.C.fx i t) st.pr, vwO (C.C.opt i t) st.vw⟩).ok Φ -> ∃ J, J.L = st.L /\ HpOk w0 F J w' /\ (K v J).ok Φ := by
      intro v l out Hl hk;obtain ⟨new, hz, h8⟩ := aC hk;refine ⟨⟨st.L, new ++ rest, st.rd, st.ef, fxP (C.C.fx i t) st.pr, vwO (C.C.opt i t) st.vw⟩, rfl, ⟨?_, A.fs.1, A.fs.2, bo A.fs.3 b9, A0 A.fs.4⟩, h8⟩;simp only [dens, List.map_append, hz, aA];exact Hl
     unfold Con.valA;unfold Con.jB at B;split at U
     ·rename_i hb;rw [hb] at B; try rw [hb]
      exact fin _ _ _ B U
     ·rename_i hb;rw [hb] at B; try rw [hb]
      cases O : C.C.om i t with
      | none =>
       rw [O] at B;exact fin _ _ _ B (U.1 () (by rw [O]; rfl))
      | some m =>
       rw [O] at B;exact fin _ _ _ B (U.2 m (by rw [O]; rfl))
    ·exact (VC.zx h).elim
   ·exact (VC.zx h).elim
  ·exact (VC.zx h).elim
end
end
noncomputable section
section
variable {E : Ev} {P : Program}
theorem HpOk.kn {n : Nat} {w0 w : World} {F : List HP} {st : Kn E} {a : Act} {L : Env} (h : HpOk w0 F st w) (e : yg n a L) : KnOk n w0 F ⟨L, st.As, st.rd, st.ef, st.pr, st.vw⟩ a w := ⟨e, h.hp, h.fs.1, h.fs.2, h.fs.3, h.fs.4⟩
def idxC {R : Type} (st : Kn E) (c : Nat) (sb : Option Addr) (l : List (E.el c).α) (rdr : Bool) (x : Operand) (e : Nat) (K : Kn E -> VC R) : VC R :=
 match evO st.L x with
 | some (.int _ i) => .bind (mIdx l i) fun y => .frN fun b => .frN fun o => K ⟨st.L, st.As, st.rd, (e, ⟨rdr, c, sb, l, i, y, b, o⟩) :: st.ef, st.pr, st.vw⟩
 | _ => .fail
def idkC {R : Type} (st : Kn E) (c : Nat) (sb : Option Addr) (l : List (E.el c).α) (rdr : Bool) (x : Operand) (e : Nat) (K : Kn E -> VC R) : VC R :=
 match evO st.L x with
 | some (.int _ i) => match mIdx l i with
  | some y => .frN fun b => .frN fun o => K ⟨st.L, st.As, st.rd, (e, ⟨rdr, c, sb, l, i, y, b, o⟩) :: st.ef, st.pr, st.vw⟩
  | none => .fail
 | _ => .fail
def idkS {R : Type} (st : Kn E) (rdr : Bool) (q : Nat) (x : Operand) (e : Nat) (K : Kn E -> VC R) : VC R :=
 match rdr with
 | true => match getK q st.rd with
  | some r => idkC st r.c r.sb r.l true x e K
  | none => .fail
 | false => match getK q st.As with
  | some (.sl c T sb sc l) => idkC st c sb l false x e K
  | _ => .fail
def idxS {R : Type} (st : Kn E) (rdr : Bool) (q : Nat) (x : Operand) (e : Nat) (K : Kn E -> VC R) : VC R :=
 match rdr with
 | true => match getK q st.rd with
  | some r => idxC st r.c r.sb r.l true x e K
  | none => .fail
 | false => match getK q st.As with
  | some (.sl c T sb sc l) => idxC st c sb l false x e K
  | _ => .fail
def rlN {R : Type} (st : Kn E) (e : Nat) (K : Nat -> Nat -> VC R) : VC R :=
 match getK e st.ef, getK (e + 100000) st.ef with
 | some f, some g => match kH f.c g.l with
  | some l => .req f.l (mSet l g.i f.x) (K l.length f.l.length)
  | none => .fail
 | _, _ => .fail
theorem kU {R : Type} {st : Kn E} {e : Nat} {K : Nat -> Nat -> VC R} {Φ : R -> Prop} (h : (rlN st e K).ok Φ) : ∃ n, (K n n).ok Φ := by
 unfold rlN at h;split at h
 ·split at h
  ·obtain ⟨h1, h2⟩ := h;rw [h1, oU] at h2;exact ⟨_, h2⟩
  ·exact (VC.zx h).elim
 ·exact (VC.zx h).elim
def rlcC {R : Type} (st : Kn E) (e q off : Nat) (K : Kn E -> VC R) : VC R := rlN st e fun n i => match ox q st.As with
 | some (.blk b T cs, rest) => match cs[off]? with
  | some (.slice sb m sc) => .req m n (K ⟨st.L, (q, .blk b T (cs.set off (.slice sb i sc))) :: rest, st.rd, st.ef, st.pr, st.vw⟩)
  | _ => .fail
 | _ => .fail
def rlsC {R : Type} (st : Kn E) (e t : Nat) (K : Kn E -> VC R) : VC R := rlN st e fun n i => match look t st.L with
 | some (.slice sb m sc) => .req m n (K ⟨(t, .slice sb i sc) :: st.L, st.As, st.rd, st.ef, st.pr, st.vw⟩)
 | _ => .fail
def opI (L : Env) : Option Operand -> Option (Option Int)
 | none => some none
 | some x => match evO L x with
  | some (.int _ i) => some (some i)
  | _ => none
def cutC {R : Type} (st : Kn E) (c : Nat) (sb : Option Addr) (sc : Nat) (l : List (E.el c).α) (lo hi : Option Int) (K : VwV E -> VC R) : VC R :=
 .bind (mCut l (loI lo) (hiI l.length hi)) fun r => .frA fun sb' => .frN fun sc' => K ⟨c, sb, sc, l, lo, hi, sb', sc', r⟩
def cutS {R : Type} (st : Kn E) (rdr : Bool) (q : Nat) (lo hi : Option Operand) (v : Nat) (K : Kn E -> VC R) : VC R :=
 match opI st.L lo, opI st.L hi with
 | some lo, some hi => match rdr with
  | true => match getK q st.rd with
   | some r => cutC st r.c r.sb r.sc r.l lo hi fun u => K ⟨st.L, st.As, (v, ⟨u.c, u.sb', u.sc', u.r⟩) :: st.rd, st.ef, st.pr, (v, .cut u) :: st.vw⟩
   | none => .fail
  | false => match getK q st.As with
   | some (.sl c T sb sc l) => cutC st c sb sc l lo hi fun u => K ⟨st.L, st.As, st.rd, st.ef, st.pr, (v, .cut u) :: st.vw⟩
   | _ => .fail
 | _, _ => .fail
def ownS {R : Type} (st : Kn E) (v q : Nat) (K : Kn E -> VC R) : VC R :=
 match getK v st.vw, ox q st.As with
 | some (.cut u), some (.sl c T sb sc l, rest) => .req (Atom.sl (E := E) c T sb sc l) (.sl u.c T u.sb u.sc u.l) (K ⟨st.L, (q, .sl u.c T u.sb' u.sc' u.r) :: rest, st.rd, st.ef, st.pr, st.vw⟩)
 | _, _ => .fail
def Ak {R : Type} (st : Kn E) (q m : Nat) (K : Kn E -> VC R) : VC R :=
 match getK q st.As with
 | some (.sl c T sb sc l) => .bind (uo l.length m) fun _ => K ⟨st.L, st.As, st.rd, st.ef, (79, l.length = m) :: st.pr, st.vw⟩
 | _ => .fail
def rlpS {R : Type} (st : Kn E) (t q : Nat) (K : Kn E -> VC R) : VC R :=
 match getK q st.As, getK 78 st.pr, look t st.L with
 | some (.sl c T sb sc l), some p, some (.slice sb' n sc') => .req p (l.length = n) (K ⟨(t, .slice sb' l.length sc') :: st.L, st.As, st.rd, st.ef, st.pr, st.vw⟩)
 | _, _, _ => .fail
def rlqS {R : Type} (st : Kn E) (b off q : Nat) (K : Kn E -> VC R) : VC R :=
 match getK q st.As, getK 78 st.pr, ox b st.As with
 | some (.sl c T sb sc l), some p, some (.blk r T' cs, rest) => match cs[off]? with
  | some (.slice sb' n sc') => .req p (l.length = n) (K ⟨st.L, (b, .blk r T' (cs.set off (.slice sb' l.length sc'))) :: rest, st.rd, st.ef, st.pr, st.vw⟩)
  | _ => .fail
 | _, _, _ => .fail
def pixS {R : Type} (st : Kn E) (q off n c : Nat) (x : Operand) (e : Nat) (K : Kn E -> VC R) : VC R :=
 match getK q st.As, evO st.L x with
 | some (.blk b T cs), some (.int _ i) => match dG (E.el c) n (cs.drop off) with
  | some xs => .bind (mIdx xs i) fun y => K ⟨st.L, st.As, st.rd, (e, ⟨false, c, some ⟨b, off, none⟩, xs, i, y, b, off⟩) :: st.ef, (e, 0 <= i /\ i < ((xs.length : Nat) : Int)) :: st.pr, st.vw⟩
  | none => .fail
 | _, _ => .fail
theorem fm {R : Type} {t : Nat} {w0 w : World} {F : List HP} {st : Kn E} {a : Act} {Φ : R -> Prop} {q off n c : Nat} {x : Operand} {e : Nat} {K : Kn E -> VC R} (j : KnOk t w0 F st a w) (h : (pixS st q off n c x e K).ok Φ) : ∃ l, KnOk t w0 F l a w /\ (K l).ok Φ := by
 unfold pixS at h;split at h
 ·rename_i b T cs k i h1 h2;split at h
  ·rename_i xs z;obtain ⟨y, u, h3⟩ := h;refine ⟨⟨st.L, st.As, st.rd, (e, ⟨false, c, some ⟨b, off, none⟩, xs, i, y, b, off⟩) :: st.ef, (e, 0 <= i /\ i < ((xs.length : Nat) : Int)) :: st.pr, st.vw⟩, ⟨j.env, j.hp, j.fs.1, ?_, ?_, j.fs.4⟩, h3⟩
   ·intro p hp;cases hp with
    | head => exact ⟨rfl, u, fun h => by cases h⟩
    | tail _ hm => exact j.fs.2 p hm
   ·intro p hp;cases hp with
    | head => exact j3 u
    | tail _ hm => exact j.fs.3 p hm
  ·exact (VC.zx h).elim
 ·exact (VC.zx h).elim
def elS {R : Type} (st : Kn E) (t e : Nat) (K : Kn E -> VC R) : VC R :=
 match getK e st.ef, look t st.L with
 | some f, some V => .req V (.pointer (some ⟨f.b, f.o + f.i.toNat * (E.el f.c).sz, none⟩)) (K ⟨(t, elemV f.sb (E.el f.c).sz (some f.i)) :: st.L, st.As, st.rd, (99999, f) :: st.ef, st.pr, st.vw⟩)
 | _, _ => .fail
def ghost {R : Type} (st : Kn E) (s : Stp E P) (K : Kn E -> VC R) : VC R :=
 match s with
 | .idx rdr q x e => idxS st rdr q x e K
 | .gd k x j => match evO st.L x with
  | some (.int _ v) => match k with
   | 0 => .bind (mNz v) fun _ => K ⟨st.L, st.As, st.rd, st.ef, (j, v ≠ 0) :: st.pr, st.vw⟩
   | 1 => .bind (mNn v) fun _ => K ⟨st.L, st.As, st.rd, st.ef, (j, 0 <= v) :: st.pr, st.vw⟩
   | m + 2 => .bind (mIn v m) fun _ => K ⟨st.L, st.As, st.rd, st.ef, (j, 0 <= v /\ v < ((m : Nat) : Int)) :: st.pr, st.vw⟩
  | _ => .fail
 | .idk rdr q x e => idkS st rdr q x e K
 | .nil q c T => K ⟨st.L, (q, .sl c T none 0 []) :: st.As, st.rd, st.ef, st.pr, st.vw⟩
 | .rlc e q off => rlcC st e q off K
 | .rls e t => rlsC st e t K
 | .cut rdr q lo hi v => cutS st rdr q lo hi v K
 | .own v q => ownS st v q K
 | .el t e => elS st t e K
 | .same q m => Ak st q m K
 | .rlp t q => rlpS st t q K
 | .rlq b off q => rlqS st b off q K
 | .pix q off n c x e => pixS st q off n c x e K
 | _ => .fail
def cG (n : Nat) : Option Tmp -> Bool
 | none => true
 | some d => Nat.blt d n
def putE (d : Option Tmp) (v : Value) (L : Env) : Env := match d with
 | none => L
 | some d => (d, v) :: L
def ak {R : Type} (n : Nat) (ops : Array Oper) (i : Nat) (st : Kn E) (s : Stp E P) (K : Nat -> Kn E -> VC R) : VC R :=
 match s with
 | .seg c l => match Nat.ble (i + c) ops.size, srcs st l with
  | true, some (z, obs, eqs) => match qN P n ops (List.range' i c) st.L z with
   | some (L', y) => .req y obs (.req (eqs.map (·.1)) (eqs.map (·.2)) (K (i + c) ⟨L', st.As, st.rd, st.ef, st.pr, st.vw⟩))
   | none => .fail
  | _, _ => .fail
 | .idx rdr q x e => ghost (P := P) st (.idx rdr q x e) fun u => K i u
 | .gd k x j => ghost (P := P) st (.gd k x j) fun u => K i u
 | .idk rdr q x e => ghost (P := P) st (.idk rdr q x e) fun u => K i u
 | .nil q c T => ghost (P := P) st (.nil q c T) fun u => K i u
 | .rlc e q off => ghost (P := P) st (.rlc e q off) fun u => K i u
 | .rls e t => ghost (P := P) st (.rls e t) fun u => K i u
 | .cut rdr q lo hi v => ghost (P := P) st (.cut rdr q lo hi v) fun u => K i u
 | .own v q => ghost (P := P) st (.own v q) fun u => K i u
 | .el t e => ghost (P := P) st (.el t e) fun u => K i u
 | .same q m => ghost (P := P) st (.same q m) fun u => K i u
 | .rlp t q => ghost (P := P) st (.rlp t q) fun u => K i u
 | .rlq b off q => ghost (P := P) st (.rlq b off q) fun u => K i u
 | .pix q off m c x e => ghost (P := P) st (.pix q off m c x e) fun u => K i u
 | s => match ops[i]? with
  | none => .fail
  | some o => match uC ops st.L o with
   | some true => match cG n o.dst with
    | true => actO o st s fun v u => K (i + 1) ⟨putE o.dst v st.L, u.As, u.rd, u.ef, u.pr, u.vw⟩
    | false => .fail
   | _ => .fail
theorem mq {R : Type} {n : Nat} {w0 w : World} {F : List HP} {st : Kn E} {a : Act} {Φ : R -> Prop} {c : Nat} {sb : Option Addr} {l : List (E.el c).α} {rdr : Bool} {x : Operand} {e : Nat} {K : Kn E -> VC R} {X : HP} (t : KnOk n w0 F st a w)
  (hX : SlRd X (E.el c).enc (E.el c).sz sb l) (hm : X ∈ dens st.As ++ F) (hr : rdr = true -> X ∈ F) (h : (idxC st c sb l rdr x e K).ok Φ) : ∃ u, KnOk n w0 F u a w /\ (K u).ok Φ := by
 unfold idxC at h;split at h
 ·rename_i k i A;obtain ⟨y, z, h1⟩ := h;obtain ⟨j, hj⟩ := t.hp.mem hm;obtain ⟨b, o, hs, _⟩ := hX.base (E.el c).ok t.hp j hj z;refine ⟨⟨st.L, st.As, st.rd, (e, ⟨rdr, c, sb, l, i, y, b, o⟩) :: st.ef, st.pr, st.vw⟩, ⟨t.env, t.hp, t.fs.1, ?_, t.fs.3, t.fs.4⟩, h1 b o⟩;intro p hp;cases hp with
  | head => exact ⟨hs, z, fun h => ⟨X, hr h, hX⟩⟩
  | tail _ hm => exact t.fs.2 p hm
 ·exact (VC.zx h).elim
theorem fw {R : Type} {n : Nat} {w0 w : World} {F : List HP} {st : Kn E} {a : Act} {Φ : R -> Prop} {rdr : Bool} {q : Nat} {x : Operand} {e : Nat} {K : Kn E -> VC R} (t : KnOk n w0 F st a w)
  (h : (idxS st rdr q x e K).ok Φ) : ∃ i, KnOk n w0 F i a w /\ (K i).ok Φ := by
 unfold idxS at h;split at h
 ·split at h
  ·rename_i r hr;obtain ⟨j, hj⟩ := wA hr;obtain ⟨X, hX, h1, _⟩ := t.fs.1 _ hj;exact mq t h1 (List.mem_append_right _ hX) (fun _ => hX) h
  ·exact (VC.zx h).elim
 ·split at h
  ·rename_i c T sb sc l hq;exact mq t (uF T (E.el c).enc (E.el c).sz sb sc l) (mL F (uO hq)) (fun h => by cases h) h
  ·exact (VC.zx h).elim
theorem m7 {R : Type} {n : Nat} {w0 w : World} {F : List HP} {st : Kn E} {a : Act} {Φ : R -> Prop} {c : Nat} {sb : Option Addr} {l : List (E.el c).α} {rdr : Bool} {x : Operand} {e : Nat} {K : Kn E -> VC R} {X : HP} (t : KnOk n w0 F st a w)
  (hX : SlRd X (E.el c).enc (E.el c).sz sb l) (hm : X ∈ dens st.As ++ F) (hr : rdr = true -> X ∈ F) (h : (idkC st c sb l rdr x e K).ok Φ) : ∃ u, KnOk n w0 F u a w /\ (K u).ok Φ := by
 unfold idkC at h;split at h
 ·rename_i k i A;split at h
  ·rename_i y z;obtain ⟨j, hj⟩ := t.hp.mem hm;obtain ⟨b, o, hs, _⟩ := hX.base (E.el c).ok t.hp j hj z;refine ⟨⟨st.L, st.As, st.rd, (e, ⟨rdr, c, sb, l, i, y, b, o⟩) :: st.ef, st.pr, st.vw⟩, ⟨t.env, t.hp, t.fs.1, ?_, t.fs.3, t.fs.4⟩, h b o⟩;intro p hp;cases hp with
   | head => exact ⟨hs, z, fun h => ⟨X, hr h, hX⟩⟩
   | tail _ hm => exact t.fs.2 p hm
  ·exact (VC.zx h).elim
 ·exact (VC.zx h).elim
theorem gr {R : Type} {n : Nat} {w0 w : World} {F : List HP} {st : Kn E} {a : Act} {Φ : R -> Prop} {rdr : Bool} {q : Nat} {x : Operand} {e : Nat} {K : Kn E -> VC R} (t : KnOk n w0 F st a w)
  (h : (idkS st rdr q x e K).ok Φ) : ∃ i, KnOk n w0 F i a w /\ (K i).ok Φ := by
 unfold idkS at h;split at h
 ·split at h
  ·rename_i r hr;obtain ⟨j, hj⟩ := wA hr;obtain ⟨X, hX, h1, _⟩ := t.fs.1 _ hj;exact m7 t h1 (List.mem_append_right _ hX) (fun _ => hX) h
  ·exact (VC.zx h).elim
 ·split at h
  ·rename_i c T sb sc l hq;exact m7 t (uF T (E.el c).enc (E.el c).sz sb sc l) (mL F (uO hq)) (fun h => by cases h) h
  ·exact (VC.zx h).elim
theorem gM {R : Type} {n : Nat} {w0 w : World} {F : List HP} {st : Kn E} {a : Act} {Φ : R -> Prop} {e q off : Nat} {K : Kn E -> VC R} (i : KnOk n w0 F st a w) (h : (rlcC st e q off K).ok Φ) : ∃ l, KnOk n w0 F l a w /\ (K l).ok Φ := by
 obtain ⟨m, h⟩ := kU h;split at h
 ·rename_i b T cs rest hq;split at h
  ·rename_i sb t sc u;obtain ⟨rfl, h2⟩ := h;have x : cs.set off (.slice sb t sc) = cs := by
    apply List.ext_getElem?;intro j;rw [List.getElem?_set];split
    ·subst_vars
     split
     ·exact u.symm
     ·rename_i h3;simp only [List.getElem?_eq_none (Nat.le_of_not_lt h3)]
    ·rfl
   rw [x] at h2;refine ⟨⟨st.L, (q, .blk b T cs) :: rest, st.rd, st.ef, st.pr, st.vw⟩, ⟨i.env, ?_, i.fs.1, i.fs.2, i.fs.3, i.fs.4⟩, h2⟩;exact i.hp.perm ((uH hq).append_right F)
  ·exact (VC.zx h).elim
 ·exact (VC.zx h).elim
theorem gH {R : Type} {n : Nat} {w0 w : World} {F : List HP} {st : Kn E} {a : Act} {Φ : R -> Prop} {e t : Nat} {K : Kn E -> VC R} (i : KnOk n w0 F st a w) (h : (rlsC st e t K).ok Φ) : ∃ j, KnOk n w0 F j a w /\ (K j).ok Φ := by
 obtain ⟨m, h⟩ := kU h;split at h
 ·rename_i sb l sc x;obtain ⟨rfl, h2⟩ := h;refine ⟨⟨(t, .slice sb l sc) :: st.L, st.As, st.rd, st.ef, st.pr, st.vw⟩, ⟨⟨i.env.size, i.env.defers, fun u v hv => ?_⟩, i.hp, i.fs.1, i.fs.2, i.fs.3, i.fs.4⟩, h2⟩;rw [w9] at hv;split at hv
  ·subst_vars; cases hv; exact i.env.has _ _ x
  ·exact i.env.has _ _ hv
 ·exact (VC.zx h).elim
theorem mT {R : Type} {st : Kn E} {c : Nat} {sb : Option Addr} {sc : Nat} {l : List (E.el c).α} {lo hi : Option Int} {K : VwV E -> VC R} {Φ : R -> Prop} (e : l.length <= sc) (h : (cutC st c sb sc l lo hi K).ok Φ) :
  ∃ u : VwV E, u.holds /\ (∀ X, SlRd X (E.el c).enc (E.el c).sz sb l -> SlRd X (E.el u.c).enc (E.el u.c).sz u.sb' u.r) /\ u.r.length <= u.sc' /\ (K u).ok Φ := by
 obtain ⟨r, hr, h⟩ := h;have h2 := h (yO sb sc (loI lo).toNat (E.el c).sz) (sc - (loI lo).toNat);exact ⟨_, ⟨hr, rfl, rfl, e⟩, fun X hX => hX.cut' (E.el c).ok hr e rfl, cV hr e rfl, h2⟩
theorem gF {R : Type} {n : Nat} {w0 w : World} {F : List HP} {st : Kn E} {a : Act} {Φ : R -> Prop} {rdr : Bool} {q : Nat} {lo hi : Option Operand} {v : Nat} {K : Kn E -> VC R} (e : KnOk n w0 F st a w) (h : (cutS st rdr q lo hi v K).ok Φ) : ∃ i, KnOk n w0 F i a w /\ (K i).ok Φ := by
 unfold cutS at h;split at h
 ·rename_i A B _ _;split at h
  ·split at h
   ·rename_i r hr;obtain ⟨j, hj⟩ := wA hr;obtain ⟨X, hX, h1, h2⟩ := e.fs.1 _ hj;obtain ⟨s1, s2, hs⟩ := List.append_of_mem (List.mem_append_right (dens st.As) hX);have t : r.l.length <= r.sc := by
     have y := e.hp;rw [hs] at y;exact St.fact (y.perm List.perm_middle) h2
    obtain ⟨u, h3, h4, z, x⟩ := mT t h;refine ⟨⟨st.L, st.As, (v, ⟨u.c, u.sb', u.sc', u.r⟩) :: st.rd, st.ef, st.pr, (v, .cut u) :: st.vw⟩, ⟨e.env, e.hp, ?_, e.fs.2, e.fs.3, ?_⟩, x⟩
    ·intro p hp;cases hp with
     | head => exact ⟨X, hX, h4 X h1, fun _ _ => z⟩
     | tail _ hm => exact e.fs.1 p hm
    ·intro p hp;cases hp with
     | head => exact h3
     | tail _ hm => exact e.fs.4 p hm
   ·exact (VC.zx h).elim
  ·split at h
   ·rename_i c T sb sc l hq;obtain ⟨j, hj⟩ := e.hp.mem (mL F (uO hq));have t : l.length <= sc := (e.hp.ma j hj).1;obtain ⟨u, h3, h4, z, x⟩ := mT t h;refine ⟨⟨st.L, st.As, st.rd, st.ef, st.pr, (v, .cut u) :: st.vw⟩, ⟨e.env, e.hp, e.fs.1, e.fs.2, e.fs.3, ?_⟩, x⟩;intro p hp;cases hp with
    | head => exact h3
    | tail _ hm => exact e.fs.4 p hm
   ·exact (VC.zx h).elim
 ·exact (VC.zx h).elim
theorem fy {R : Type} {n : Nat} {w0 w : World} {F : List HP} {st : Kn E} {a : Act} {Φ : R -> Prop} {v q : Nat} {K : Kn E -> VC R} (i : KnOk n w0 F st a w) (h : (ownS st v q K).ok Φ) : ∃ t, KnOk n w0 F t a w /\ (K t).ok Φ := by
 unfold ownS at h;split at h
 ·rename_i u c T sb sc l rest h1 h2;obtain ⟨e, h3⟩ := h;obtain ⟨j, hj⟩ := wA h1;obtain ⟨g1, g2, g3, g4⟩ : u.holds := i.fs.4 _ hj;have H := i.hp.perm ((uH h2).append_right F);rw [e] at H;have H : St w0 (Sl T (E.el u.c).enc (E.el u.c).sz u.sb u.sc u.l :: (dens rest ++ F)) w := H;exact ⟨⟨st.L, (q, .sl u.c T u.sb' u.sc' u.r) :: rest, st.rd, st.ef, st.pr, st.vw⟩, ⟨i.env, H.dp (E.el u.c).ok g1 g2 g3, i.fs.1, i.fs.2, i.fs.3, i.fs.4⟩, h3⟩
 ·exact (VC.zx h).elim
theorem fB {R : Type} {n : Nat} {w0 w : World} {F : List HP} {st : Kn E} {a : Act} {Φ : R -> Prop} {t e : Nat} {K : Kn E -> VC R} (l : KnOk n w0 F st a w) (h : (elS st t e K).ok Φ) : ∃ x, KnOk n w0 F x a w /\ (K x).ok Φ := by
 unfold elS at h;split at h
 ·rename_i f V h1 h2;obtain ⟨rfl, h3⟩ := h;obtain ⟨j, hj⟩ := wA h1;have hf := l.fs.2 _ hj;refine ⟨⟨(t, elemV f.sb (E.el f.c).sz (some f.i)) :: st.L, st.As, st.rd, (99999, f) :: st.ef, st.pr, st.vw⟩, ⟨⟨l.env.size, l.env.defers, fun u v hv => ?_⟩, l.hp, l.fs.1, ?_, l.fs.3, l.fs.4⟩, h3⟩
  ·rw [w9] at hv;split at hv
   ·subst_vars
    cases hv;rw [ly hf.1];exact l.env.has _ _ h2
   ·exact l.env.has _ _ hv
  ·intro p hp;cases hp with
   | head => exact hf
   | tail _ hm => exact l.fs.2 p hm
 ·exact (VC.zx h).elim
theorem jE {R : Type} {n : Nat} {w0 w : World} {F : List HP} {st : Kn E} {a : Act} {Φ : R -> Prop} {q m : Nat} {K : Kn E -> VC R} (e : KnOk n w0 F st a w) (h : (Ak st q m K).ok Φ) : ∃ i, KnOk n w0 F i a w /\ (K i).ok Φ := by
 unfold Ak at h;split at h
 ·rename_i c T sb sc l hq;obtain ⟨u, hu, h2⟩ := h;refine ⟨⟨st.L, st.As, st.rd, st.ef, (79, l.length = m) :: st.pr, st.vw⟩, ⟨e.env, e.hp, e.fs.1, e.fs.2, fun p hp => ?_, e.fs.4⟩, h2⟩;cases hp with
  | head => exact dK hu
  | tail _ hm => exact e.fs.3 p hm
 ·exact (VC.zx h).elim
theorem gK {R : Type} {n : Nat} {w0 w : World} {F : List HP} {st : Kn E} {a : Act} {Φ : R -> Prop} {t q : Nat} {K : Kn E -> VC R} (i : KnOk n w0 F st a w) (h : (rlpS st t q K).ok Φ) : ∃ x, KnOk n w0 F x a w /\ (K x).ok Φ := by
 unfold rlpS at h;split at h
 ·rename_i c T sb sc l p sb' m sc' h1 h2 h3;obtain ⟨e, h4⟩ := h;obtain ⟨j, hj⟩ := wA h2;have hp : p := i.fs.3 _ hj;rw [e] at hp;refine ⟨⟨(t, .slice sb' l.length sc') :: st.L, st.As, st.rd, st.ef, st.pr, st.vw⟩, ⟨⟨i.env.size, i.env.defers, fun u v hv => ?_⟩, i.hp, i.fs.1, i.fs.2, i.fs.3, i.fs.4⟩, h4⟩;rw [w9] at hv;split at hv
  ·subst_vars; cases hv; exact i.env.has _ _ h3
  ·exact i.env.has _ _ hv
 ·exact (VC.zx h).elim
theorem fj {R : Type} {n : Nat} {w0 w : World} {F : List HP} {st : Kn E} {a : Act} {Φ : R -> Prop} {b off q : Nat} {K : Kn E -> VC R} (t : KnOk n w0 F st a w) (h : (rlqS st b off q K).ok Φ) : ∃ u, KnOk n w0 F u a w /\ (K u).ok Φ := by
 unfold rlqS at h;split at h
 ·rename_i c T sb sc l p r T' cs rest h1 h2 h3;split at h
  ·rename_i sb' m sc' x;obtain ⟨e, h4⟩ := h;obtain ⟨j, hj⟩ := wA h2;have hp : p := t.fs.3 _ hj;rw [e] at hp;have y : cs.set off (.slice sb' l.length sc') = cs := by
    apply List.ext_getElem?;intro i;rw [List.getElem?_set];split
    ·subst_vars
     split
     ·exact x.symm
     ·rename_i z; rw [List.getElem?_eq_none (Nat.le_of_not_lt z)]
    ·rfl
   rw [y] at h4;exact ⟨⟨st.L, (b, .blk r T' cs) :: rest, st.rd, st.ef, st.pr, st.vw⟩, ⟨t.env, t.hp.perm ((uH h3).append_right F), t.fs.1, t.fs.2, t.fs.3, t.fs.4⟩, h4⟩
  ·exact (VC.zx h).elim
 ·exact (VC.zx h).elim
theorem xE {R : Type} {n : Nat} {w0 w : World} {F : List HP} {st : Kn E} {a : Act} {Φ : R -> Prop} {s : Stp E P} {K : Kn E -> VC R} (i : KnOk n w0 F st a w)
  (h : (ghost st s K).ok Φ) : ∃ l, KnOk n w0 F l a w /\ (K l).ok Φ := by
 cases s
 case idx rdr q x e => exact fw i h
 case idk rdr q x e => exact gr i h
 case rlc e q off => exact gM i h
 case rls e t => exact gH i h
 case cut rdr q lo hi v => exact gF i h
 case own v q => exact fy i h
 case el t e => exact fB i h
 case same q m => exact jE i h
 case rlp t q => exact gK i h
 case rlq b off q => exact fj i h
 case pix q off m c x e => exact fm i h
 case nil q c T => exact ⟨⟨st.L, (q, .sl c T none 0 []) :: st.As, st.rd, st.ef, st.pr, st.vw⟩, ⟨i.env, St.bU T (E.el c).enc (E.el c).sz i.hp, i.fs.1, i.fs.2, i.fs.3, i.fs.4⟩, h⟩
 case gd k x j =>
  simp only [ghost] at h;split at h
  ·rename_i y v hv;split at h
   ·obtain ⟨u, hu, h2⟩ := h;refine ⟨⟨st.L, st.As, st.rd, st.ef, (j, v ≠ 0) :: st.pr, st.vw⟩, ⟨i.env, i.hp, i.fs.1, i.fs.2, fun p hp => ?_, i.fs.4⟩, h2⟩;cases hp with
    | head => exact af hu
    | tail _ hm => exact i.fs.3 p hm
   ·obtain ⟨u, hu, h2⟩ := h;refine ⟨⟨st.L, st.As, st.rd, st.ef, (j, 0 <= v) :: st.pr, st.vw⟩, ⟨i.env, i.hp, i.fs.1, i.fs.2, fun p hp => ?_, i.fs.4⟩, h2⟩;cases hp with
    | head => exact ao hu
    | tail _ hm => exact i.fs.3 p hm
   ·rename_i m;obtain ⟨u, hu, h2⟩ := h;refine ⟨⟨st.L, st.As, st.rd, st.ef, (j, 0 <= v /\ v < ((m : Nat) : Int)) :: st.pr, st.vw⟩, ⟨i.env, i.hp, i.fs.1, i.fs.2, fun p hp => ?_, i.fs.4⟩, h2⟩;cases hp with
    | head => exact kq hu
    | tail _ hm => exact i.fs.3 p hm
  ·exact (VC.zx h).elim
 all_goals exact (VC.zx h).elim
theorem ic {R : Type} {f : FuncId} {n : Nat} {w0 w : World} {F : List HP} {st : Kn E} {a : Act} {Φ : R -> Prop} {ops : Array Oper} {i : Nat} {s : Stp E P} {K : Nat -> Kn E -> VC R} {k : List Item} {Q : Value -> World -> Prop}
  (y : KnOk n w0 F st a w) (h : (ak n ops i st s K).ok Φ) (hk : ∀ O u A w', KnOk n w0 F u A w' -> (K O u).ok Φ -> WR P f ops O k A w' Q) : WR P f ops i k a w Q := by
 have act : ∀ s : Stp E P, ((match ops[i]? with
  | none => .fail
  | some o => match uC ops st.L o with
   | some true => match cG n o.dst with
    | true => actO o st s fun v u => K (i + 1) ⟨putE o.dst v st.L, u.As, u.rd, u.ef, u.pr, u.vw⟩
    | false => .fail
   | _ => .fail : VC R)).ok Φ -> WR P f ops i k a w Q := by
  intro s h;split at h
  ·exact (VC.zx h).elim
  ·rename_i o S;split at h
   ·rename_i hw;split at h
    ·rename_i hn;have U := mz y h;cases hd : o.dst with
     | none =>
      refine WR.eff0 y.env S hd hw U ?_;rintro v w' ⟨u, X, B, h2⟩ A I;rw [hd] at h2;exact hk _ _ _ _ (B.kn I) h2
     | some d =>
      rw [hd] at hn;refine WR.eff y.env S hd hn hw U ?_;rintro v w' ⟨u, X, B, h2⟩ A I;rw [hd] at h2;exact hk _ _ _ _ (B.kn I) h2
    ·exact (VC.zx h).elim
   ·exact (VC.zx h).elim
 cases s with
 | seg c l =>
  simp only [ak] at h;split at h
  ·rename_i Y obs eqs h1 h2;split at h
   ·rename_i L' W h3;obtain ⟨rfl, h4, Z⟩ := h;have hj := Nat.le_of_ble_eq_true h1;unfold WR;have hr : List.range' i (ops.size - i) = List.range' i c ++ List.range' (i + c) (ops.size - (i + c)) := by
     have e1 : ops.size - i = c + (ops.size - (i + c)) := by omega
     rw [e1, <- List.range'_append_1]
    rw [hr];refine nD _ _ _ _ _ _ y.env h3 (tT y h2 (mD h4)) fun A J => ?_
    exact hk _ ⟨L', st.As, st.rd, st.ef, st.pr, st.vw⟩ _ _ ⟨J, y.hp, y.fs.1, y.fs.2, y.fs.3, y.fs.4⟩ Z
   ·exact (VC.zx h).elim
  ·exact (VC.zx h).elim
 | idx rdr q x e =>
  obtain ⟨u, h1, h2⟩ := xE (P := P) (s := .idx rdr q x e) (K := fun u => K i u) y h;exact hk _ _ _ _ h1 h2
 | idk rdr q x e =>
  obtain ⟨u, h1, h2⟩ := xE (P := P) (s := .idk rdr q x e) (K := fun u => K i u) y h;exact hk _ _ _ _ h1 h2
 | nil q c T =>
  obtain ⟨u, h1, h2⟩ := xE (P := P) (s := .nil q c T) (K := fun u => K i u) y h;exact hk _ _ _ _ h1 h2
 | rlc e q off =>
  obtain ⟨u, h1, h2⟩ := xE (P := P) (s := .rlc e q off) (K := fun u => K i u) y h;exact hk _ _ _ _ h1 h2
 | rls e t =>
  obtain ⟨u, h1, h2⟩ := xE (P := P) (s := .rls e t) (K := fun u => K i u) y h;exact hk _ _ _ _ h1 h2
 | cut rdr q lo hi v =>
  obtain ⟨u, h1, h2⟩ := xE (P := P) (s := .cut rdr q lo hi v) (K := fun u => K i u) y h;exact hk _ _ _ _ h1 h2
 | own v q =>
  obtain ⟨u, h1, h2⟩ := xE (P := P) (s := .own v q) (K := fun u => K i u) y h;exact hk _ _ _ _ h1 h2
 | el t e =>
  obtain ⟨u, h1, h2⟩ := xE (P := P) (s := .el t e) (K := fun u => K i u) y h;exact hk _ _ _ _ h1 h2
 | same q m =>
  obtain ⟨u, h1, h2⟩ := xE (P := P) (s := .same q m) (K := fun u => K i u) y h;exact hk _ _ _ _ h1 h2
 | rlp t q =>
  obtain ⟨u, h1, h2⟩ := xE (P := P) (s := .rlp t q) (K := fun u => K i u) y h;exact hk _ _ _ _ h1 h2
 | rlq b off q =>
  obtain ⟨u, h1, h2⟩ := xE (P := P) (s := .rlq b off q) (K := fun u => K i u) y h;exact hk _ _ _ _ h1 h2
 | pix q off m c x e =>
  obtain ⟨u, h1, h2⟩ := xE (P := P) (s := .pix q off m c x e) (K := fun u => K i u) y h;exact hk _ _ _ _ h1 h2
 | gd c x j =>
  obtain ⟨u, h1, h2⟩ := xE (P := P) (s := .gd c x j) (K := fun u => K i u) y h;exact hk _ _ _ _ h1 h2
 | new q l => exact act _ h
 | sto q => exact act _ h
 | call C l out => exact act _ h
 | bld q c T => exact act _ h
 | app q s => exact act _ h
 | sset q e j => exact act _ h
 | mk q c T => exact act _ h
 | eqs D => exact act _ h
 | mnew q c => exact act _ h
 | mget q c kt hk z => exact act _ h
 | mput q c kt hk => exact act _ h
 | mdel q c kt hk => exact act _ h
inductive Md
 | run (t : List Item)
 | reg (ops : Array Oper) (i : Nat) (k : List Item)
 | drw (ops : Array Oper) (dn : List Nat) (pend : List (Nat × List Ob)) (k : List Item)
def Md.Runs (P : Program) (f : FuncId) (base : List Item) (a : Act) (w : World) (Q : Value -> World -> Prop) : Md -> Prop
 | .run t => Th.Runs P f (t ++ base) a w Q
 | .reg ops i k => WR P f ops i (k ++ base) a w Q
 | .drw ops dn pend k => WQ P f ops dn pend (k ++ base) a w Q
def norm : Nat -> List Item -> Option Md
 | 0, _ => none
 | g + 1, t => match t with
  | .code (.seq x y) :: k => norm g (.code x :: .code y :: k)
  | .code .skip :: k => norm g k
  | .code (.label _) :: k => norm g k
  | .code (.exit id) :: k => match exitTo id k with
   | some e => norm g e
   | none => none
  | .code (.region _ ops false) :: k => match Nat.beq ops.size 0 with
   | true => norm g k
   | false => some (.reg ops 0 k)
  | .inBlock _ :: k => norm g k
  | t => some (.run t)
theorem oB {base : List Item} : ∀ {id : Nat} {k e : List Item}, exitTo id k = some e -> exitTo id (k ++ base) = some (e ++ base)
 | id, [], e, h => by simp [exitTo] at h
 | id, x :: k, e, h => by
  cases x
  case inBlock j =>
   simp only [exitTo, List.cons_append] at h ⊢;split at h
   ·rename_i hj; cases h; rw [if_pos hj]
   ·rename_i hj; rw [if_neg hj]; exact oB h
  all_goals
   simp only [exitTo, List.cons_append] at h ⊢;exact oB h
theorem y4 {f : FuncId} {a : Act} {w : World} {Q : Value -> World -> Prop} {base : List Item} : ∀ (g : Nat) {t : List Item} {md : Md}, norm g t = some md -> md.Runs P f base a w Q -> Th.Runs P f (t ++ base) a w Q
 | 0, t, md, h, _ => by simp [norm] at h
 | g + 1, t, md, h, hr => by
  unfold norm at h;split at h
  ·exact .seq (y4 g h hr)
  ·exact .skip (y4 g h hr)
  ·exact .label (y4 g h hr)
  ·split at h
   ·rename_i i hk;exact .exit (oB hk) (y4 g h hr)
   ·cases h
  ·split at h
   ·rename_i h0;have e := Nat.eq_of_beq_eq_true h0;exact .region (WR.done (by rw [e]; rfl) (y4 g h hr))
   ·cases h; exact .region hr
  ·exact .inBlock (y4 g h hr)
  ·cases h; exact hr
def aK {R : Type} (n : Nat) (ops : Array Oper) (dn : List Nat) (pend : List (Nat × List Ob)) (st : Kn E) (is : List Nat) (l : List Src) (K : List Nat -> List (Nat × List Ob) -> Kn E -> VC R) : VC R :=
 match (Nat.ble (dn.length + is.length) ops.size && kC ops is (ua dn)), srcs st l with
 | true, some (e, obs, eqs) => match qN P n ops is st.L e with
  | some (L', i) => .req i obs (.req (eqs.map (·.1)) (eqs.map (·.2)) (K (dn ++ is) (segP P n ops is st.L e pend) ⟨L', st.As, st.rd, st.ef, st.pr, st.vw⟩))
  | none => .fail
 | _, _ => .fail
def kS {R : Type} (n : Nat) (ops : Array Oper) (dn : List Nat) (pend : List (Nat × List Ob)) (st : Kn E) (j : Nat) (x : Stp E P) (l : List Src) (K : List Nat -> List (Nat × List Ob) -> Kn E -> VC R) : VC R :=
 match ops[j]? with
 | some o => match uC ops st.L o, cG n o.dst with
  | some true, true => actO o st x fun v e => match srcs ⟨putE o.dst v st.L, e.As, e.rd, e.ef, e.pr, e.vw⟩ l with
   | some (_, obs, eqs) => .req (si ops j pend) obs (.req (eqs.map (·.1)) (eqs.map (·.2)) (K (dn ++ [j]) (qO ops j pend) ⟨putE o.dst v st.L, e.As, e.rd, e.ef, e.pr, e.vw⟩))
   | none => .fail
  | _, _ => .fail
 | none => .fail
def bW {R : Type} (n : Nat) (ops : Array Oper) (dn : List Nat) (pend : List (Nat × List Ob)) (st : Kn E) (j : Nat) (x : Stp E P) (l : List Src) (K : List Nat -> List (Nat × List Ob) -> Kn E -> VC R) : VC R :=
 match (Nat.blt dn.length ops.size && eqL (vN (ua dn) 0 ops.toList) [j]) with
 | true => kS n ops dn pend st j x l K
 | false => .fail
theorem jW {R : Type} {f : FuncId} {n : Nat} {w0 w : World} {F : List HP} {st : Kn E} {a : Act} {Φ : R -> Prop} {ops : Array Oper} {dn : List Nat} {pend : List (Nat × List Ob)} {is : List Nat} {l : List Src} {K : List Nat -> List (Nat × List Ob) -> Kn E -> VC R} {k : List Item} {Q : Value -> World -> Prop}
  (j : KnOk n w0 F st a w) (h : (aK (P := P) n ops dn pend st is l K).ok Φ) (hk : ∀ t i u y, KnOk n w0 F u y w -> (K t i u).ok Φ -> WQ P f ops t i k y w Q) : WQ P f ops dn pend k a w Q := by
 unfold aK at h;split at h
 ·rename_i B obs eqs h1 h2;split at h
  ·rename_i L' A h3;obtain ⟨rfl, h4, D⟩ := h;rw [Bool.and_eq_true] at h1;have hle := Nat.le_of_ble_eq_true h1.1;have e : ops.size - dn.length = is.length + (ops.size - (dn ++ is).length) := by simp; omega
   intro hs';show WP P f ops (ops.size - dn.length) dn pend k a w Q;rw [e];exact WP.segs hs' _ _ _ _ _ _ _ _ _ _ j.env (fun x => vM x dn) h1.2 h3 (tT j h2 (mD h4)) fun y z => hk _ _ ⟨L', st.As, st.rd, st.ef, st.pr, st.vw⟩ _ ⟨z, j.hp, j.fs.1, j.fs.2, j.fs.3, j.fs.4⟩ D hs'
  ·exact (VC.zx h).elim
 ·exact (VC.zx h).elim
theorem u6 {R : Type} {f : FuncId} {n : Nat} {w0 w : World} {F : List HP} {st : Kn E} {a : Act} {Φ : R -> Prop} {ops : Array Oper} {dn : List Nat} {pend : List (Nat × List Ob)} {j : Nat} {x : Stp E P} {l : List Src} {K : List Nat -> List (Nat × List Ob) -> Kn E -> VC R} {k : List Item} {Q : Value -> World -> Prop}
  (y : KnOk n w0 F st a w) (h : (kS n ops dn pend st j x l K).ok Φ) (hk : ∀ z i e t w', KnOk n w0 F e t w' -> (K z i e).ok Φ -> WQ P f ops z i k t w' Q) : AQ P f ops dn pend k a w Q j := by
 unfold kS at h;split at h
 ·rename_i o D;split at h
  ·rename_i hw hn;have I := mz y h;have fin : ∀ (v : Value) (w' : World) (e : Kn E) (t : Act), HpOk w0 F e w' -> yg n t (putE o.dst v st.L) -> ((match srcs ⟨putE o.dst v st.L, e.As, e.rd, e.ef, e.pr, e.vw⟩ l with
     | some (_, obs, eqs) => .req (si ops j pend) obs (.req (eqs.map (·.1)) (eqs.map (·.2)) (K (dn ++ [j]) (qO ops j pend) ⟨putE o.dst v st.L, e.As, e.rd, e.ef, e.pr, e.vw⟩))
     | none => .fail : VC R)).ok Φ -> wc w' (si ops j pend) /\ WQ P f ops (dn ++ [j]) (qO ops j pend) k t w' Q := by
    intro v w' e t u A h2;split at h2
    ·rename_i J obs eqs h3;obtain ⟨h4, O, S⟩ := h2;have B := u.kn A;rw [h4];exact ⟨tT B h3 (mD O), hk _ _ _ _ _ B S⟩
    ·exact (VC.zx h2).elim
   cases hd : o.dst with
   | none =>
    refine AQ.eff0 y.env D hd hw rfl I ?_;rintro v w' ⟨e, U, u, h2⟩;rw [hd] at fin;rw [hd] at h2;exact ⟨(fin v w' e a u y.env h2).1, fun t A => (fin v w' e t u A h2).2⟩
   | some d =>
    rw [hd] at hn;refine AQ.eff y.env D hd hn hw rfl I ?_;rintro v w' ⟨e, U, u, h2⟩;rw [hd] at fin;rw [hd] at h2;exact ⟨(fin v w' e (a.put (some d) v) u (y.env.put _ _ (by simpa [cG, Nat.blt_eq] using hn)) h2).1, fun t A => (fin v w' e t u A h2).2⟩
  ·exact (VC.zx h).elim
 ·exact (VC.zx h).elim
theorem ij {R : Type} {f : FuncId} {n : Nat} {w0 w : World} {F : List HP} {st : Kn E} {a : Act} {Φ : R -> Prop} {ops : Array Oper} {dn : List Nat} {pend : List (Nat × List Ob)} {j : Nat} {x : Stp E P} {l : List Src} {K : List Nat -> List (Nat × List Ob) -> Kn E -> VC R} {k : List Item} {Q : Value -> World -> Prop}
  (z : KnOk n w0 F st a w) (h : (bW n ops dn pend st j x l K).ok Φ) (hk : ∀ i e t u w', KnOk n w0 F t u w' -> (K i e t).ok Φ -> WQ P f ops i e k u w' Q) : WQ P f ops dn pend k a w Q := by
 unfold bW at h;split at h
 ·rename_i h1;refine WQ.acts [j] h1 (by simp) fun x y => ?_
  simp only [List.mem_singleton] at y;subst y;exact u6 z h hk
 ·exact (VC.zx h).elim
end
end
noncomputable section
theorem St.aL {w0 w : World} {As : List HP} : ∀ {Bs : List HP}, St w0 (Bs ++ As) w -> St w0 As w
 | [], H => H
 | B :: Bs, H => St.aL (Bs := Bs) (St.drop (by simpa using H))
section
variable {E : Ev} {P : Program}
def lR {α : Type} : List Nat -> List (Nat × α) -> Option (List α)
 | [], _ => some []
 | k :: ks, L => match getK k L, lR ks L with
  | some x, some r => some (x :: r)
  | _, _ => none
def kys {α : Type} : List (Nat × α) -> List Nat
 | [] => []
 | (k, _) :: r => k :: kys r
def reqS {R : Type} (L : Env) (As : List (Nat × Atom E)) (st : Kn E) (K : VC R) : VC R :=
 match sel (cP L) st.L, kY (kys As) st.As with
 | some L', some (ats, _) => .req L' L (.req ats (As.map (·.2)) K)
 | _, _ => .fail
theorem tg {R : Type} {n : Nat} {w0 w : World} {F : List HP} {st : Kn E} {a : Act} {Φ : R -> Prop} {L : Env} {As : List (Nat × Atom E)} {K : VC R} (e : KnOk n w0 F st a w) (h : (reqS L As st K).ok Φ) :
  yg n a L /\ St w0 (dens As ++ F) w /\ K.ok Φ := by
 unfold reqS at h;split at h
 ·rename_i L' ats rest h1 h2;obtain ⟨rfl, rfl, h3⟩ := h;refine ⟨sW e.env h1, ?_, h3⟩;have H := e.hp.perm ((ou h2).append_right F);rw [aA] at H;have i := H.perm (show ((As.map (·.2)).map Atom.den ++ (dens rest ++ F)).Perm (dens rest ++ ((As.map (·.2)).map Atom.den ++ F)) by
   rw [<- aA, <- aA];exact List.Perm.append_right F List.perm_append_comm)
  exact i.aL
 ·exact (VC.zx h).elim
structure BCon (E : Ev) (R0 : Type) : Type 1 where
 code : Code
 X : Type
 V : Type
 T : Type
 W : Type
 cls : W -> R0 ⊕ T
 g : X -> V -> Option W
 rds : X -> List (Nat × RdV E)
 pL : X -> V -> List Nat -> List (Option Addr) -> Env
 pA : X -> V -> List Nat -> List (Option Addr) -> List (Nat × Atom E)
 mN : Nat
 mA : Nat
 qL : X -> T -> List Nat -> List (Option Addr) -> Env
 qA : X -> T -> List Nat -> List (Option Addr) -> List (Nat × Atom E)
def BCon.Sound {R0 : Type} (B : BCon E R0) (P : Program) (f : FuncId) (n : Nat) (retF : Kn E -> VC R0) : Prop := ∀ (Q : Value -> World -> Prop) (w0 : World) (F : List HP) (x : B.X) (v : B.V) (t : B.W) (y : List Nat) (z : List (Option Addr)) (a : Act) (w : World) (base : List Item), B.g x v = some t ->
 KnOk n w0 F ⟨B.pL x v y z, B.pA x v y z, B.rds x, [], [], []⟩ a w ->
 (∀ u, B.cls t = .inr u -> ∀ e i j w', e.length = B.mN -> i.length = B.mA -> yg n j (B.qL x u e i) -> St w0 (dens (B.qA x u e i) ++ F) w' -> Runs P f base j w' Q) ->
 (∀ r, B.cls t = .inl r -> ∀ l j w' A, KnOk n w0 F l j w' -> (retF l).ok (· = r) -> Runs P f (.code .ret :: A) j w' Q) ->
 Runs P f (.code B.code :: base) a w Q
structure B0 (E : Ev) (P : Program) (f : FuncId) (n : Nat) (R0 : Type) (retF : Kn E -> VC R0) : Type 1 where
 B : BCon E R0
 snd : B.Sound P f n retF
inductive Ct (E : Ev) (P : Program) (f : FuncId) (n : Nat) (R0 : Type) (retF : Kn E -> VC R0) : Type 1
 | leaf
 | s (x : Stp E P) (k : Ct E P f n R0 retF)
 | drw (k : Ct E P f n R0 retF)
 | rk (l : List (Nat × Nat)) (k : Ct E P f n R0 retF)
 | q (is : List Nat) (l : List Src) (k : Ct E P f n R0 retF)
 | a (j : Nat) (x : Stp E P) (l : List Src) (k : Ct E P f n R0 retF)
 | cond (x y : Ct E P f n R0 retF)
 | sN (x : Ct E P f n R0 retF)
 | uK (x : Ct E P f n R0 retF)
 | split (t : Nat) (x y : Ct E P f n R0 retF)
 | join (T : Type) (nN nA : Nat) (get : Kn E -> Option (T × List Nat × List (Option Addr))) (J : Kn E -> T -> List Nat -> List (Option Addr) -> Env × List (Nat × Atom E)) (x k : Ct E P f n R0 retF)
 | joinR (T : Type) (nN nA : Nat) (get : Kn E -> Option (T × List Nat × List (Option Addr))) (J : Kn E -> T -> List Nat -> List (Option Addr) -> Env × List (Nat × Atom E)) (x k : Ct E P f n R0 retF)
 | loop (B : B0 E P f n R0 retF) (get : Kn E -> Option (B.B.X × B.B.V × List Nat × List (Option Addr))) (k : Ct E P f n R0 retF)
 | blk (k : Ct E P f n R0 retF)
 | unr (k : Ct E P f n R0 retF)
 | alt2 (i : Nat) (x : Stp E P) (l : List Src) (c : Ct E P f n R0 retF) (j : Nat) (y : Stp E P) (l' : List Src) (c' : Ct E P f n R0 retF)
 | alt3 (i : Nat) (x : Stp E P) (l : List Src) (c : Ct E P f n R0 retF) (j : Nat) (y : Stp E P) (l' : List Src) (c' : Ct E P f n R0 retF) (m : Nat) (z : Stp E P) (l'' : List Src) (c'' : Ct E P f n R0 retF)
 | jg (T : Type) (nN nA : Nat) (get : Kn E -> Option (T × List Nat × List (Option Addr))) (J : Kn E -> T -> List Nat -> List (Option Addr) -> Env × List (Nat × Atom E)) (x k : Ct E P f n R0 retF)
 | pj (t : Nat) (T : Type) (M : Mx T) (get : Kn E -> Option T) (J : Kn E -> T -> Env × List (Nat × Atom E)) (x y k : Ct E P f n R0 retF)
 | eo (t j q e : Nat) (x y : Ct E P f n R0 retF)
 | np (t j : Nat) (x y : Ct E P f n R0 retF)
 | ret
 | back
 | dead
abbrev Ct.g {E : Ev} {P : Program} {f : FuncId} {n : Nat} {R0 : Type} {retF : Kn E -> VC R0} (a : Nat) (k : Ct E P f n R0 retF) : Ct E P f n R0 retF := .s (.seg a []) k
def rb (b : Nat) (l : List Nat) : List (Nat × Nat) := l.zipIdx.map (fun p => (p.1, b + p.2)) ++ l.zipIdx.map (fun p => (b + p.2, b + p.2 + 90000))
def ren (l : List (Nat × Nat)) (k : Nat) : Nat := match getK k l with
 | some j => j
 | none => k
def renK (l : List (Nat × Nat)) : List (Nat × Atom E) -> List (Nat × Atom E)
 | [] => []
 | (k, a) :: r => (ren l k, a) :: renK l r
theorem jc (l : List (Nat × Nat)) : ∀ As : List (Nat × Atom E), dens (renK l As) = dens As
 | [] => rfl
 | (k, a) :: r => by
  have := jc l r;simp only [dens, renK, pC] at this ⊢;rw [this]
def nx {R : Type} (m : Option Md) (k : Md -> VC R) : VC R := match m with
 | some md => k md
 | none => .fail
def Md.cut : Md -> Option (Md × List Item)
 | .run (x :: k) => some (.run [x], k)
 | .run [] => none
 | .reg ops i k => some (.reg ops i [], k)
 | .drw ops dn pend k => some (.drw ops dn pend [], k)
def onD {R : Type} (ops : Array Oper) (dn : List Nat) (pend : List (Nat × List Ob)) (k : List Item) (K : Md -> VC R) : VC R :=
 match Nat.ble ops.size dn.length with
 | true => match eqL (vN (ua dn) 0 ops.toList) [] with
  | true => nx (norm 1000 k) K
  | false => .fail
 | false => K (.drw ops dn pend k)
def cE (j : Nat) (V : Value) : Option Value := match Nat.beq j 999 with
 | true => some V
 | false => match V with
  | .tuple vs => vs.toList[j]?
  | _ => none
def setV (j : Nat) (V : Value) (x : Value) : Value := match Nat.beq j 999 with
 | true => x
 | false => match V with
  | .tuple vs => .tuple (vs.toList.set j x).toArray
  | _ => V
theorem je {j : Nat} {V x : Value} (h : cE j V = some x) : setV j V x = V := by
 unfold cE at h;unfold setV;split at h
 ·simp at h; exact h.symm
 ·split at h
  ·rename_i vs;show Value.tuple _ = _;have : vs.toList.set j x = vs.toList := by
    apply List.ext_getElem?;intro i;rw [List.getElem?_set];split
    ·subst_vars
     split
     ·exact h.symm
     ·rename_i h3; rw [List.getElem?_eq_none (Nat.le_of_not_lt h3)]
    ·rfl
   rw [this]
  ·cases h
def eoC {R : Type} (st : Kn E) (t j q e : Nat) (X Y : Kn E -> VC R) : VC R :=
 match getK 77 st.vw, look t st.L, getK q st.As with
 | some (.opt o), some V, some (.sl c T sb sc l) => match cE j V with
  | some v => .req v (elemV sb (E.el c).sz o) (.cs (oS o) (fun _ => X ⟨(t, setV j V (.pointer none)) :: st.L, st.As, st.rd, st.ef, st.pr, st.vw⟩) fun i =>
    .bind (mIdx l i) fun x => .frN fun b => .frN fun off => Y ⟨(t, setV j V (.pointer (some ⟨b, off + i.toNat * (E.el c).sz, none⟩))) :: st.L, st.As, st.rd, (e, ⟨false, c, sb, l, i, x, b, off⟩) :: st.ef, st.pr, st.vw⟩)
  | none => .fail
 | _, _, _ => .fail
theorem yg.same {n : Nat} {a : Act} {L : Env} {t : Nat} {V : Value} (e : yg n a L) (h : look t L = some V) : yg n a ((t, V) :: L) := by
 refine ⟨e.size, e.defers, fun u v hv => ?_⟩;rw [w9] at hv;split at hv
 ·subst_vars; cases hv; exact e.has _ _ h
 ·exact e.has _ _ hv
theorem dU {R : Type} {n : Nat} {w0 w : World} {F : List HP} {st : Kn E} {a : Act} {Φ : R -> Prop} {t j q e : Nat} {X Y : Kn E -> VC R} (u : KnOk n w0 F st a w) (h : (eoC st t j q e X Y).ok Φ) : ∃ y, KnOk n w0 F y a w /\ ((X y).ok Φ \/ (Y y).ok Φ) := by
 unfold eoC at h;split at h
 ·rename_i o V c T sb sc l h1 h2 h3;split at h
  ·rename_i v hv;obtain ⟨rfl, h4, A⟩ := h;cases o with
   | none =>
    refine ⟨⟨(t, setV j V (.pointer none)) :: st.L, st.As, st.rd, st.ef, st.pr, st.vw⟩, ⟨u.env.same (V := setV j V (.pointer none)) ?_, u.hp, u.fs.1, u.fs.2, u.fs.3, u.fs.4⟩, .inl (h4 () rfl)⟩;rw [h2]; exact congrArg some (je hv).symm
   | some i =>
    obtain ⟨x, z, B⟩ := A i rfl;obtain ⟨D, hj⟩ := u.hp.mem (mL F (uO h3));obtain ⟨b, off, hs, _⟩ := (uF T (E.el c).enc (E.el c).sz sb sc l).base (E.el c).ok u.hp D hj z;rw [ly hs] at hv;refine ⟨⟨(t, setV j V (.pointer (some ⟨b, off + i.toNat * (E.el c).sz, none⟩))) :: st.L, st.As, st.rd, (e, ⟨false, c, sb, l, i, x, b, off⟩) :: st.ef, st.pr, st.vw⟩, ⟨u.env.same (V := setV j V (.pointer (some ⟨b, off + i.toNat * (E.el c).sz, none⟩))) ?_, u.hp, u.fs.1, ?_, u.fs.3, u.fs.4⟩, .inr (B b off)⟩
    ·rw [h2]; exact congrArg some (je hv).symm
    ·intro p hp;cases hp with
     | head => exact ⟨hs, z, fun h => by cases h⟩
     | tail _ hm => exact u.fs.2 p hm
  ·exact (VC.zx h).elim
 ·exact (VC.zx h).elim
def az {R : Type} (u v : VC R) : VC R := .both u v v.mod
def exec {f : FuncId} {n : Nat} {R0 : Type} {retF : Kn E -> VC R0} : {R : Type} -> Ct E P f n R0 retF -> Md -> Kn E -> (R0 -> VC R) -> (Kn E -> VC R) -> (Code -> Nat -> Kn E -> VC R) -> VC R
 | _, .leaf, md, st, F, A, D => match md with
  | .run [] => A st
  | _ => .fail
 | _, .s x c, md, st, F, A, D => match md with
  | .reg ops i k => ak n ops i st x fun i' I => match Nat.ble ops.size i' with
   | true => nx (norm 1000 k) fun O => exec c O I F A D
   | false => exec c (.reg ops i' k) I F A D
  | .drw ops dn pend k => ghost st x fun I => exec c (.drw ops dn pend k) I F A D
  | .run t => ghost st x fun I => exec c (.run t) I F A D
 | _, .dead, md, st, F, A, D => .fail
 | _, .rk l c, md, st, F, A, D => exec c md ⟨st.L, renK l st.As, st.rd, st.ef, st.pr, st.vw⟩ F A D
 | _, .drw c, md, st, F, A, D => match md with
  | .run (.code (.region _ ops true) :: k) => match sv ops with
   | true => exec c (.drw ops [] [] k) st F A D
   | false => .fail
  | _ => .fail
 | _, .q is l c, md, st, F, A, D => match md with
  | .drw ops dn pend k => aK (P := P) n ops dn pend st is l fun U S I => onD ops U S k fun O => exec c O I F A D
  | _ => .fail
 | _, .a j x l c, md, st, F, A, D => match md with
  | .drw ops dn pend k => bW n ops dn pend st j x l fun U S I => onD ops U S k fun O => exec c O I F A D
  | _ => .fail
 | _, .cond x y, md, st, F, A, D => match md with
  | .run (.code (.cond c u v) :: k) => match evO st.L c with
   | some (.bool b) => .ite b (nx (norm 1000 (.code u :: k)) fun O => exec x O st F A D) (nx (norm 1000 (.code v :: k)) fun O => exec y O st F A D)
   | _ => .fail
  | _ => .fail
 | _, .sN x, md, st, F, A, D => match md with
  | .run (.code (.cond c u v) :: k) => match evO st.L c with
   | some (.bool true) => nx (norm 1000 (.code u :: k)) fun O => exec x O st F A D
   | _ => .fail
  | _ => .fail
 | _, .uK x, md, st, F, A, D => match md with
  | .run (.code (.cond c u v) :: k) => match evO st.L c with
   | some (.bool false) => nx (norm 1000 (.code v :: k)) fun O => exec x O st F A D
   | _ => .fail
  | _ => .fail
 | _, .split t x y, md, st, F, A, D => match look t st.L with
  | some (.bool b) => .ite b (exec x md ⟨(t, .bool true) :: st.L, st.As, st.rd, st.ef, st.pr, st.vw⟩ F A D) (exec y md ⟨(t, .bool false) :: st.L, st.As, st.rd, st.ef, st.pr, st.vw⟩ F A D)
  | _ => .fail
 | _, .join T nN nA get J x k, md, st, F, A, D => match md.cut with
  | some (Y, rest) => .join (exec x Y st (fun _ => .fail) (fun I => match get I with
    | some (s, W, X) => match Nat.beq W.length nN, Nat.beq X.length nA with
     | true, true => reqS (J st s W X).1 (J st s W X).2 I (.ret (some s))
     | _, _ => .fail
    | none => .fail) (fun _ _ _ => .fail)) fun s => frNs nN fun W => frAs nA fun X => nx (norm 1000 rest) fun O => exec k O ⟨(J st s W X).1, (J st s W X).2, st.rd, st.ef, st.pr, st.vw⟩ F A D
  | none => .fail
 | _, .joinR T nN nA get J x k, md, st, F, A, D => match md.cut with
  | some (Y, rest) => .join (exec x Y st (fun r => .ret (some (.inl r))) (fun I => match get I with
    | some (s, W, X) => match Nat.beq W.length nN, Nat.beq X.length nA with
     | true, true => reqS (J st s W X).1 (J st s W X).2 I (.ret (some (Sum.inr s)))
     | _, _ => .fail
    | none => .fail) (fun _ _ _ => .fail)) fun s => .cs s F fun s => frNs nN fun W => frAs nA fun X => nx (norm 1000 rest) fun O => exec k O ⟨(J st s W X).1, (J st s W X).2, st.rd, st.ef, st.pr, st.vw⟩ F A D
  | none => .fail
 | _, .loop B get k, md, st, F, A, D => match md with
  | .run (.code c :: rest) => match get st with
   | some (x, v, W, X) => match lR (kys (B.B.rds x)) st.rd with
    | some rs => .req c B.B.code (.req rs ((B.B.rds x).map (·.2)) (reqS (B.B.pL x v W X) (B.B.pA x v W X) st (.bind (B.B.g x v) fun t => .cs (B.B.cls t) F fun u => frNs B.B.mN fun Z => frAs B.B.mA fun a0 =>
     nx (norm 1000 rest) fun O => exec k O ⟨B.B.qL x u Z a0, B.B.qA x u Z a0, st.rd, st.ef, st.pr, st.vw⟩ F A D)))
    | none => .fail
   | none => .fail
  | _ => .fail
 | _, .blk c, md, st, F, A, D => match md with
  | .run (.code (.block id b) :: k) => nx (norm 1000 (.code b :: .inBlock id :: k)) fun O => exec c O st F A D
  | _ => .fail
 | _, .unr c, md, st, F, A, D => match md with
  | .run (.code (.block id (.loop b)) :: k) => nx (norm 1000 (.code b :: .inLoop b :: .inBlock id :: k)) fun O => exec c O st F A D
  | .run (.inLoop b :: k) => nx (norm 1000 (.code b :: .inLoop b :: k)) fun O => exec c O st F A D
  | _ => .fail
 | _, .alt2 i x l c j y l' c', md, st, F, A, D => match md with
  | .drw ops dn pend k => match Nat.blt dn.length ops.size && eqL (vN (ua dn) 0 ops.toList) [i, j] with
   | true => az (kS n ops dn pend st i x l fun U S I => onD ops U S k fun O => exec c O I F A D) (kS n ops dn pend st j y l' fun U S I => onD ops U S k fun O => exec c' O I F A D)
   | false => .fail
  | _ => .fail
 | _, .alt3 i x l c j y l' c' m z l'' c'', md, st, F, A, D => match md with
  | .drw ops dn pend k => match Nat.blt dn.length ops.size && eqL (vN (ua dn) 0 ops.toList) [i, j, m] with
   | true => az (kS n ops dn pend st i x l fun U S I => onD ops U S k fun O => exec c O I F A D) (az (kS n ops dn pend st j y l' fun U S I => onD ops U S k fun O => exec c' O I F A D) (kS n ops dn pend st m z l'' fun U S I => onD ops U S k fun O => exec c'' O I F A D))
   | false => .fail
  | _ => .fail
 | _, .jg T nN nA get J x k, md, st, F, A, D => match md.cut with
  | some (Y, rest) => .grj (exec x Y st (fun _ => .fail) (fun I => match get I with
    | some (s, W, X) => match Nat.beq W.length nN, Nat.beq X.length nA with
     | true, true => reqS (J st s W X).1 (J st s W X).2 I (.ret (some s))
     | _, _ => .fail
    | none => .fail) (fun _ _ _ => .fail)) fun s => frNs nN fun W => frAs nA fun X => nx (norm 1000 rest) fun O => exec k O ⟨(J st s W X).1, (J st s W X).2, st.rd, st.ef, st.pr, st.vw⟩ F A D
  | none => .fail
 | _, .pj t T M get J x y k, md, st, F, A, D => match md.cut, look t st.L with
  | some (Y, rest), some (.bool b) => .sel M b (exec x Y ⟨(t, .bool true) :: st.L, st.As, st.rd, st.ef, st.pr, st.vw⟩ (fun _ => .fail) (fun I => match get I with
    | some s => reqS (J st s).1 (J st s).2 I (.ret (some s))
    | none => .fail) (fun _ _ _ => .fail)) (exec y Y ⟨(t, .bool false) :: st.L, st.As, st.rd, st.ef, st.pr, st.vw⟩ (fun _ => .fail) (fun I => match get I with
    | some s => reqS (J st s).1 (J st s).2 I (.ret (some s))
    | none => .fail) (fun _ _ _ => .fail)) fun s => nx (norm 1000 rest) fun O => exec k O ⟨(J st s).1, (J st s).2, st.rd, st.ef, st.pr, st.vw⟩ F A D
  | _, _ => .fail
 | _, .eo t j q e x y, md, st, F, A, D => eoC st t j q e (fun I => exec x md I F A D) fun I => exec y md I F A D
 | _, .np t j x y, md, st, F, A, D => match look t st.L with
  | some V => match cE j V with
   | some (.pointer none) => exec x md st F A D
   | some (.pointer (some _)) => exec y md st F A D
   | _ => .fail
  | none => .fail
 | _, .ret, md, st, F, A, D => match md with
  | .run (.code .ret :: _) => .join (retF st) F
  | _ => .fail
 | _, .back, md, st, F, A, D => match md with
  | .run [.inLoop c, .inBlock id] => D c id st
  | _ => .fail
theorem k0 {α : Type} : ∀ {ks : List Nat} {L : List (Nat × α)} {xs : List α}, lR ks L = some xs -> ∀ x ∈ xs, ∃ j, (j, x) ∈ L
 | [], L, xs, h, x, e => by simp [lR] at h; subst h; cases e
 | k :: ks, L, xs, h, x, e => by
  simp only [lR] at h;split at h
  ·rename_i y r h1 h2;cases h;cases e with
   | head => exact wA h1
   | tail _ hm => exact k0 h2 x hm
  ·cases h
theorem qD {R : Type} {m : Option Md} {k : Md -> VC R} {Φ : R -> Prop} (h : (nx m k).ok Φ) : ∃ md, m = some md /\ (k md).ok Φ := by
 unfold nx at h;split at h
 ·exact ⟨_, rfl, h⟩
 ·exact (VC.zx h).elim
end
end
noncomputable section
section
variable {E : Ev} {P : Program} {f : FuncId} {n : Nat} {R0 : Type} {retF : Kn E -> VC R0}
theorem pt {t : Nat} {b : Bool} {L : Env} {n : Nat} {a : Act} (e : yg n a L) (h : look t L = some (.bool b)) : yg n a ((t, .bool b) :: L) := by
 refine ⟨e.size, e.defers, fun u v hv => ?_⟩;rw [w9] at hv;split at hv
 ·subst_vars; cases hv; exact e.has _ _ h
 ·exact e.has _ _ hv
theorem dZ.kn {w0 w : World} {F : List HP} {st : Kn E} {a : Act} {L : Env} {As : List (Nat × Atom E)} (h : dZ F st) (e : yg n a L) (i : St w0 (dens As ++ F) w) : KnOk n w0 F ⟨L, As, st.rd, st.ef, st.pr, st.vw⟩ a w := ⟨e, i, h.1, h.2, h.3, h.4⟩
theorem Md.qe {md e : Md} {rest base : List Item} {a : Act} {w : World} {Q : Value -> World -> Prop} (h : md.cut = some (e, rest)) (hr : e.Runs P f (rest ++ base) a w Q) : md.Runs P f base a w Q := by
 cases md with
 | run t =>
  cases t with
  | nil => cases h
  | cons x t =>
   simp only [Md.cut, Option.some.injEq, Prod.mk.injEq] at h;obtain ⟨rfl, rfl⟩ := h;exact hr
 | reg ops i k =>
  simp only [Md.cut, Option.some.injEq, Prod.mk.injEq] at h;obtain ⟨rfl, rfl⟩ := h;exact hr
 | drw ops dn pend k =>
  simp only [Md.cut, Option.some.injEq, Prod.mk.injEq] at h;obtain ⟨rfl, rfl⟩ := h;exact hr
theorem tY {R : Type} {ops : Array Oper} {dn : List Nat} {pend : List (Nat × List Ob)} {k base : List Item} {K : Md -> VC R} {Φ : R -> Prop} {a : Act} {w : World} {Q : Value -> World -> Prop} (h : (onD ops dn pend k K).ok Φ)
  (hk : ∀ md, (K md).ok Φ -> md.Runs P f base a w Q) : WQ P f ops dn pend (k ++ base) a w Q := by
 unfold onD at h;split at h
 ·split at h
  ·rename_i h1;obtain ⟨md, hm, h2⟩ := qD h;exact WQ.done h1 (y4 1000 hm (hk md h2))
  ·exact (VC.zx h).elim
 ·exact hk _ h
theorem ld (c1 : P.follows .mixedOrders = true) {w0 : World} {F : List HP} {Q : Value -> World -> Prop} {Tg : R0 -> Prop} (b2 : ∀ st a w k, KnOk n w0 F st a w -> (retF st).ok Tg -> Runs P f (.code .ret :: k) a w Q) :
  ∀ (ct : Ct E P f n R0 retF) {R : Type} (md : Md) (base : List Item) (st : Kn E) (I : R0 -> VC R) (A : Kn E -> VC R) (D : Code -> Nat -> Kn E -> VC R) (Φ : R -> Prop) (a : Act) (w : World), KnOk n w0 F st a w ->
   (exec ct md st I A D).ok Φ -> (∀ r, (I r).ok Φ -> Tg r) -> (∀ S a' w', KnOk n w0 F S a' w' -> (A S).ok Φ -> Runs P f base a' w' Q) ->
   (∀ c id S a' w', KnOk n w0 F S a' w' -> (D c id S).ok Φ -> Runs P f (.inLoop c :: .inBlock id :: base) a' w' Q) -> md.Runs P f base a w Q := by
 intro ct;induction ct with
 | leaf =>
  intro R md base st I A D Φ a w O h hV X Y;simp only [exec] at h;split at h
  ·exact X _ _ _ O h
  ·exact (VC.zx h).elim
 | s x c ih =>
  intro R md base st I A D Φ a w O h hV X Y;simp only [exec] at h;split at h
  ·rename_i ops i k;refine ic O h fun i' S a' w' U h' => ?_
   split at h'
   ·rename_i hi;obtain ⟨W, hm, h2⟩ := qD h';exact WR.done hi (y4 1000 hm (ih _ _ _ _ _ _ _ _ _ U h2 hV X Y))
   ·exact ih (.reg ops i' k) base S I A D Φ a' w' U h' hV X Y
  ·rename_i ops dn pend k;obtain ⟨S, U, h'⟩ := xE O h;exact ih (.drw ops dn pend k) base S I A D Φ a w U h' hV X Y
  ·rename_i t;obtain ⟨S, U, h'⟩ := xE O h;exact ih (.run t) base S I A D Φ a w U h' hV X Y
 | dead =>
  intro R md base st I A D Φ a w O h hV X Y;simp only [exec] at h;exact (VC.zx h).elim
 | rk l c ih =>
  intro R md base st I A D Φ a w O h hV X Y;simp only [exec] at h;exact ih md base ⟨st.L, renK l st.As, st.rd, st.ef, st.pr, st.vw⟩ I A D Φ a w ⟨O.env, by rw [jc]; exact O.hp, O.fs.1, O.fs.2, O.fs.3, O.fs.4⟩ h hV X Y
 | drw c ih =>
  intro R md base st I A D Φ a w O h hV X Y;simp only [exec] at h;split at h
  ·rename_i id ops k;split at h
   ·rename_i hr;exact Runs.drawn c1 hr (ih (.drw ops [] [] k) base st I A D Φ a _ ⟨O.env, O.hp.drew, O.fs.1, O.fs.2, O.fs.3, O.fs.4⟩ h hV X Y)
   ·exact (VC.zx h).elim
  ·exact (VC.zx h).elim
 | q is l c ih =>
  intro R md base st I A D Φ a w O h hV X Y;simp only [exec] at h;split at h
  ·refine jW O h fun a8 a1 S a' U h' => ?_
   exact tY h' fun W h2 => ih W base S I A D Φ a' w U h2 hV X Y
  ·exact (VC.zx h).elim
 | a j x l c ih =>
  intro R md base st I A D Φ a w O h hV X Y;simp only [exec] at h;split at h
  ·refine ij O h fun a8 a1 S a' w' U h' => ?_
   exact tY h' fun W h2 => ih W base S I A D Φ a' w' U h2 hV X Y
  ·exact (VC.zx h).elim
 | cond x y Z a3 =>
  intro R md base st I A D Φ a w O h hV X Y;simp only [exec] at h;split at h
  ·rename_i c u v k;split at h
   ·rename_i b hc;refine Runs.cond O.env hc (fun hb => ?_) (fun hb => ?_)
    ·obtain ⟨W, hm, h2⟩ := qD (h.1 hb);exact y4 1000 hm (Z _ _ _ _ _ _ _ _ _ O h2 hV X Y)
    ·obtain ⟨W, hm, h2⟩ := qD (h.2 hb);exact y4 1000 hm (a3 _ _ _ _ _ _ _ _ _ O h2 hV X Y)
   ·exact (VC.zx h).elim
  ·exact (VC.zx h).elim
 | sN x Z =>
  intro R md base st I A D Φ a w O h hV X Y;simp only [exec] at h;split at h
  ·rename_i c u v k;split at h
   ·rename_i hc;obtain ⟨W, hm, h2⟩ := qD h;exact Runs.sN O.env hc (y4 1000 hm (Z _ _ _ _ _ _ _ _ _ O h2 hV X Y))
   ·exact (VC.zx h).elim
  ·exact (VC.zx h).elim
 | uK x Z =>
  intro R md base st I A D Φ a w O h hV X Y;simp only [exec] at h;split at h
  ·rename_i c u v k;split at h
   ·rename_i hc;obtain ⟨W, hm, h2⟩ := qD h;exact Runs.uK O.env hc (y4 1000 hm (Z _ _ _ _ _ _ _ _ _ O h2 hV X Y))
   ·exact (VC.zx h).elim
  ·exact (VC.zx h).elim
 | split t x y Z a3 =>
  intro R md base st I A D Φ a w O h hV X Y;simp only [exec] at h;split at h
  ·rename_i b hb;cases b with
   | true => exact Z _ _ _ _ _ _ _ _ _ (O.fs.kn (pt O.env hb) O.hp) (h.1 rfl) hV X Y
   | false => exact a3 _ _ _ _ _ _ _ _ _ (O.fs.kn (pt O.env hb) O.hp) (h.2 rfl) hV X Y
  ·exact (VC.zx h).elim
 | join T nN nA get J x k Z a5 =>
  intro R md base st I A D Φ a w O h hV X Y;simp only [exec] at h;split at h
  ·rename_i b3 rest hc;refine Md.qe hc (Z _ _ _ _ _ _ _ _ _ O h (fun r hr => (VC.zx hr).elim) (fun S a' w' U hl => ?_) (fun c id S a' w' _ hb => (VC.zx hb).elim));split at hl
   ·rename_i s ns aS hg;split at hl
    ·rename_i h1 h2;obtain ⟨h3, h4, y, hy, h5⟩ := tg U hl;cases hy;rw [<- Nat.eq_of_beq_eq_true h1] at h5;have h6 := oq _ _ h5;rw [<- Nat.eq_of_beq_eq_true h2] at h6;obtain ⟨W, hm, h8⟩ := qD (og _ _ h6);exact y4 1000 hm (a5 _ _ _ _ _ _ _ _ _ (O.fs.kn h3 h4) h8 hV X Y)
    ·exact (VC.zx hl).elim
   ·exact (VC.zx hl).elim
  ·exact (VC.zx h).elim
 | joinR T nN nA get J x k Z a5 =>
  intro R md base st I A D Φ a w O h hV X Y;simp only [exec] at h;split at h
  ·rename_i b3 rest hc;refine Md.qe hc (Z _ _ _ _ _ _ _ _ _ O h (fun r hr => ?_) (fun S a' w' U hl => ?_) (fun c id S a' w' _ hb => (VC.zx hb).elim))
   ·obtain ⟨y, hy, h2⟩ := hr;cases hy;exact hV r (h2.1 r rfl)
   ·split at hl
    ·rename_i s ns aS hg;split at hl
     ·rename_i h1 h2;obtain ⟨h3, h4, y, hy, h5⟩ := tg U hl;cases hy;have h5 := h5.2 s rfl;rw [<- Nat.eq_of_beq_eq_true h1] at h5;have h6 := oq _ _ h5;rw [<- Nat.eq_of_beq_eq_true h2] at h6;obtain ⟨W, hm, h8⟩ := qD (og _ _ h6);exact y4 1000 hm (a5 _ _ _ _ _ _ _ _ _ (O.fs.kn h3 h4) h8 hV X Y)
     ·exact (VC.zx hl).elim
    ·exact (VC.zx hl).elim
  ·exact (VC.zx h).elim
 | loop B get k a5 =>
  intro R md base st I A D Φ a w O h hV X Y;simp only [exec] at h;split at h
  ·rename_i c rest;split at h
   ·rename_i x v ns aS hg;split at h
    ·rename_i rs c3;obtain ⟨rfl, h2, h3⟩ := h;obtain ⟨h4, h5, t, ht, h6⟩ := tg O h3;refine B.snd Q w0 F x v t ns aS a w (rest ++ base) ht ⟨h4, h5, ?_, by simp, by simp, by simp⟩ ?_ ?_
     ·intro p hp;have h7 : p.2 ∈ rs := by rw [h2]; exact List.mem_map_of_mem hp
      obtain ⟨j, hj⟩ := k0 c3 _ h7;have := O.fs.1 (j, p.2) hj;exact this
     ·intro u hu c7 c8 a' w' hn ha hE hH;have b6 := h6.2 u hu;rw [<- hn] at b6;have h7 := oq _ _ b6;rw [<- ha] at h7;obtain ⟨W, hm, h8⟩ := qD (og _ _ h7);exact y4 1000 hm (a5 _ _ _ _ _ _ _ _ _ (O.fs.kn hE hH) h8 hV X Y)
     ·intro r hr S a' w' k' U c4;have e := hV r (h6.1 r hr);exact b2 _ _ _ _ U (VC.mono _ (fun r' h => by subst h; exact e) c4)
    ·exact (VC.zx h).elim
   ·exact (VC.zx h).elim
  ·exact (VC.zx h).elim
 | blk c ih =>
  intro R md base st I A D Φ a w O h hV X Y;simp only [exec] at h;split at h
  ·obtain ⟨W, hm, h2⟩ := qD h;exact Runs.block (y4 1000 hm (ih _ _ _ _ _ _ _ _ _ O h2 hV X Y))
  ·exact (VC.zx h).elim
 | unr c ih =>
  intro R md base st I A D Φ a w O h hV X Y;simp only [exec] at h;split at h
  ·obtain ⟨W, hm, h2⟩ := qD h;exact Runs.block (Runs.bm (y4 1000 hm (ih _ _ _ _ _ _ _ _ _ O h2 hV X Y)))
  ·obtain ⟨W, hm, h2⟩ := qD h;exact Runs.inLoop (y4 1000 hm (ih _ _ _ _ _ _ _ _ _ O h2 hV X Y))
  ·exact (VC.zx h).elim
 | alt2 i x l c j y l' c' b4 b5 =>
  intro R md base st I A D Φ a w O h hV X Y;simp only [exec] at h;split at h
  ·split at h
   ·rename_i hr;refine WQ.act2 i j hr ?_ ?_
    ·refine u6 O h.1 fun a8 a1 S a' w' U h' => ?_
     exact tY h' fun W h2 => b4 W base S I A D Φ a' w' U h2 hV X Y
    ·refine u6 O (h.2 rfl) fun a8 a1 S a' w' U h' => ?_
     exact tY h' fun W h2 => b5 W base S I A D Φ a' w' U h2 hV X Y
   ·exact (VC.zx h).elim
  ·exact (VC.zx h).elim
 | alt3 i x l c j y l' c' m z l'' c'' b4 b5 c5 =>
  intro R md base st I A D Φ a w O h hV X Y;simp only [exec] at h;split at h
  ·split at h
   ·rename_i hr;refine WQ.act3 i j m hr ?_ ?_ ?_
    ·refine u6 O h.1 fun a8 a1 S a' w' U h' => ?_
     exact tY h' fun W h2 => b4 W base S I A D Φ a' w' U h2 hV X Y
    ·refine u6 O ((h.2 rfl).1) fun a8 a1 S a' w' U h' => ?_
     exact tY h' fun W h2 => b5 W base S I A D Φ a' w' U h2 hV X Y
    ·refine u6 O ((h.2 rfl).2 rfl) fun a8 a1 S a' w' U h' => ?_
     exact tY h' fun W h2 => c5 W base S I A D Φ a' w' U h2 hV X Y
   ·exact (VC.zx h).elim
  ·exact (VC.zx h).elim
 | jg T nN nA get J x k Z a5 =>
  intro R md base st I A D Φ a w O h hV X Y;simp only [exec] at h;split at h
  ·rename_i b3 rest hc;refine Md.qe hc (Z _ _ _ _ _ _ _ _ _ O h (fun r hr => (VC.zx hr).elim) (fun S a' w' U hl => ?_) (fun c id S a' w' _ hb => (VC.zx hb).elim));split at hl
   ·rename_i s ns aS hg;split at hl
    ·rename_i h1 h2;obtain ⟨h3, h4, y, hy, h5⟩ := tg U hl;cases hy;rw [<- Nat.eq_of_beq_eq_true h1] at h5;have h6 := oq _ _ h5;rw [<- Nat.eq_of_beq_eq_true h2] at h6;obtain ⟨W, hm, h8⟩ := qD (og _ _ h6);exact y4 1000 hm (a5 _ _ _ _ _ _ _ _ _ (O.fs.kn h3 h4) h8 hV X Y)
    ·exact (VC.zx hl).elim
   ·exact (VC.zx hl).elim
  ·exact (VC.zx h).elim
 | pj t T M get J x y k Z a3 a5 =>
  intro R md base st I A D Φ a w O h hV X Y;simp only [exec] at h;split at h
  ·rename_i b3 rest b hc hb;have fin : ∀ (S : Kn E) (a' : Act) (w' : World), KnOk n w0 F S a' w' -> ((match get S with
     | some s => reqS (J st s).1 (J st s).2 S (.ret (some s))
     | none => .fail : VC T)).ok (fun s => (nx (norm 1000 rest) fun W => exec k W ⟨(J st s).1, (J st s).2, st.rd, st.ef, st.pr, st.vw⟩ I A D).ok Φ) -> Runs P f (rest ++ base) a' w' Q := by
    intro S a' w' U hl;split at hl
    ·rename_i s hg;obtain ⟨h3, h4, y, hy, h5⟩ := tg U hl;cases hy;obtain ⟨W, hm, h8⟩ := qD h5;exact y4 1000 hm (a5 _ _ _ _ _ _ _ _ _ (O.fs.kn h3 h4) h8 hV X Y)
    ·exact (VC.zx hl).elim
   cases b with
   | true => exact Md.qe hc (Z _ _ _ _ _ _ _ _ _ (O.fs.kn (pt O.env hb) O.hp) (h.1 rfl) (fun r hr => (VC.zx hr).elim) fin (fun c id S a' w' _ hb => (VC.zx hb).elim))
   | false => exact Md.qe hc (a3 _ _ _ _ _ _ _ _ _ (O.fs.kn (pt O.env hb) O.hp) (h.2 rfl) (fun r hr => (VC.zx hr).elim) fin (fun c id S a' w' _ hb => (VC.zx hb).elim))
  ·exact (VC.zx h).elim
 | eo t j q e x y Z a3 =>
  intro R md base st I A D Φ a w O h hV X Y;simp only [exec] at h;obtain ⟨S, U, h' | h'⟩ := dU O h
  ·exact Z _ _ _ _ _ _ _ _ _ U h' hV X Y
  ·exact a3 _ _ _ _ _ _ _ _ _ U h' hV X Y
 | np t j x y Z a3 =>
  intro R md base st I A D Φ a w O h hV X Y;simp only [exec] at h;split at h
  ·split at h
   ·exact Z _ _ _ _ _ _ _ _ _ O h hV X Y
   ·exact a3 _ _ _ _ _ _ _ _ _ O h hV X Y
   ·exact (VC.zx h).elim
  ·exact (VC.zx h).elim
 | ret =>
  intro R md base st I A D Φ a w O h hV X Y;simp only [exec] at h;split at h
  ·exact b2 _ _ _ _ O (VC.mono _ hV h)
  ·exact (VC.zx h).elim
 | back =>
  intro R md base st I A D Φ a w O h hV X Y;simp only [exec] at h;split at h
  ·exact Y _ _ _ _ _ O h
  ·exact (VC.zx h).elim
def zipN {α : Type} : Nat -> List α -> List (Nat × α)
 | _, [] => []
 | i, x :: r => (i, x) :: zipN (i + 1) r
theorem lS {α : Type} : ∀ (i : Nat) (l : List α), (zipN i l).map (·.2) = l
 | _, [] => rfl
 | i, x :: r => by simp [zipN, lS (i + 1) r]
def fx79 : List (Nat × Prop) -> List Prop
 | [] => []
 | (k, p) :: r => match Nat.beq k 79 with
  | true => p :: fx79 r
  | false => fx79 r
theorem dN : ∀ {l : List (Nat × Prop)}, (∀ p ∈ l, p.2) -> ∀ p ∈ fx79 l, p
 | [], _, p, hp => by cases hp
 | (k, q) :: r, h, p, hp => by
  have ih := dN (l := r) fun x e => h x (mC _ e)
  unfold fx79 at hp;split at hp
  ·cases hp with
   | head => exact h (k, q) (List.mem_cons_self ..)
   | tail _ hm => exact ih p hm
  ·exact ih p hp
def retC (P : Program) (C : Con E) (rs : List ResultVar) (src : List Src) (keys : List Nat) (out : Kn E -> Option (C.T × List Nat × List (Option Addr))) (i : C.I) (st : Kn E) : VC C.T :=
 match out st with
 | some (t, j, l) => match Nat.beq j.length C.nN, Nat.beq l.length C.nA, srcs st src, kY (C.BA i t keys) st.As with
  | true, true, some (u, obs, eqs), some (ats, _) => match qH P st.L rs u with
   | some (vs, e) => .req e obs (.req (eqs.map (·.1)) (eqs.map (·.2)) (.req (tx vs) (C.valA i t j l) (.req ats (C.jB i t j l) (.req (C.fx i t) (fx79 st.pr) (.ret (some t))))))
   | none => .fail
  | _, _, _, _ => .fail
 | none => .fail
def st0 (C : Con E) (i : C.I) : Kn E := ⟨oo 0 (C.args i), zipN 0 (C.ats i), zipN 0 (C.rds i), [], [], []⟩
def vcF {P : Program} {n : Nat} (C : Con E) (c : Code) (rs : List ResultVar) (src : List Src) (keys : List Nat) (out : Kn E -> Option (C.T × List Nat × List (Option Addr))) (i : C.I) (e : Ct E P C.fid n C.T (retC P C rs src keys out i)) : VC C.T :=
 nx (norm 1000 [.code c]) fun md => exec e md (st0 C i) (fun t => .ret (some t)) (fun st => match rs with
  | [] => .join (retC P C rs src keys out i st) fun t => .ret (some t)
  | _ => .fail) fun _ _ _ => .fail
theorem mX {C : Con E} {rs : List ResultVar} {src : List Src} {keys : List Nat} {out : Kn E -> Option (C.T × List Nat × List (Option Addr))} {i : C.I} {st : Kn E} {n : Nat} {w0 w : World} {F : List HP} {a : Act} {t : C.T}
  (u : KnOk n w0 F st a w) (h : (retC P C rs src keys out i st).ok (· = t)) : ∃ e obs vs j l, wc w obs /\ qH P st.L rs e = some (vs, obs) /\ j.length = C.nN /\ l.length = C.nA /\ tx vs = C.valA i t j l /\ St w0 ((C.jB i t j l).map Atom.den ++ F) w /\ ∀ p ∈ C.fx i t, p := by
 unfold retC at h;split at h
 ·rename_i z j l X;split at h
  ·rename_i e obs eqs ats rest h1 h2 h3 h4;split at h
   ·rename_i vs A B;obtain ⟨rfl, D, J, O, x, y, S, U⟩ := h;cases S;subst U;refine ⟨e, _, vs, j, l, tT u h3 (mD D), B, Nat.eq_of_beq_eq_true h1, Nat.eq_of_beq_eq_true h2, J, ?_, by rw [x]; exact dN u.fs.3⟩;have H := u.hp.perm ((ou h4).append_right F);rw [aA, O] at H;have W := H.perm (show ((C.jB i z j l).map Atom.den ++ (dens rest ++ F)).Perm (dens rest ++ ((C.jB i z j l).map Atom.den ++ F)) by
     rw [<- aA, <- aA];exact List.Perm.append_right F List.perm_append_comm)
    exact W.aL
   ·exact (VC.zx h).elim
  ·exact (VC.zx h).elim
 ·exact (VC.zx h).elim
theorem iU (J : P.follows .mixedOrders = true) (C : Con E) {fn : Func} {c : Code} {n : Nat} {rs : List ResultVar} (src : List Src) (keys : List Nat) (out : Kn E -> Option (C.T × List Nat × List (Option Addr))) (D : ∀ i, Ct E P C.fid n C.T (retC P C rs src keys out i))
  (hf : P.funcs[C.fid]? = some fn) (O : fn.body = some c) (hn : fn.ntmps = n) (hr : fn.results = rs.toArray) (hl : ∀ i, Nat.ble (C.args i).length n = true)
  (h1 : ∀ i, vcF C c rs src keys out i (D i) = (vcF C c rs src keys out i (D i)).rfx) (h2 : ∀ i s, (vcF C c rs src keys out i (D i)).mod s = C.model i) : C.Sound P := by
 intro i t hm w0 w F S H;refine enter hf O hn (hl i) fun a hE => ?_
 have U := VC.good _ (· = t) (h1 i) fun s => ⟨t, (h2 i s).trans hm, rfl⟩
 obtain ⟨md, W, h3⟩ := qD U;have I : KnOk n w0 F (st0 C i) a w := by
  refine ⟨hE, ?_, ?_, by simp [st0], by simp [st0], by simp [st0]⟩
  ·simpa [st0, dens, lS] using H
  ·intro p hp;refine S p.2 ?_;have : p.2 ∈ (zipN 0 (C.rds i)).map (·.2) := List.mem_map_of_mem hp
   rwa [lS] at this
 have := y4 (P := P) (f := C.fid) (a := a) (w := w) (base := []) (Q := fun v w' => ∃ j l, j.length = C.nN /\ l.length = C.nA /\ v = C.valA i t j l /\ St w0 ((C.jB i t j l).map Atom.den ++ F) w' /\ ∀ p ∈ C.fx i t, p) 1000 W
  (ld J (Tg := (· = t)) (fun st a w k I h => by
    obtain ⟨A, obs, vs, j, l, ho, hv, u, x, X, Y, z⟩ := mX I h;exact Runs.retO I.env hf hr A hv ho ⟨j, l, u, x, X, Y, z⟩) (D i) md [] (st0 C i) _ _ _ _ a w I h3 (fun r hr => by obtain ⟨y, Z, h⟩ := hr; cases Z; exact h) (fun a0 a' w' B hl => by
    split at hl
    ·obtain ⟨A, obs, vs, j, l, ho, hv, u, x, X, Y, z⟩ := mX B (VC.mono _ (fun r hr => by obtain ⟨y, Z, h⟩ := hr; cases Z; exact h) hl);have e : vs = [] := by
      simp only [qH, Option.some.injEq, Prod.mk.injEq] at hv;exact hv.1.symm
     subst e;exact Runs.fin B.env hf hr (vs := []) rfl ⟨j, l, u, x, X, Y, z⟩
    ·exact (VC.zx hl).elim) (fun c id a0 a' w' _ O => (VC.zx O).elim))
 simpa using this
theorem fsn (j : P.follows .mixedOrders = true) (C : Con E) {fn : Func} {c : Code} {n : Nat} {rs : List ResultVar} (src : List Src) (keys : List Nat) (out : Kn E -> Option (C.T × List Nat × List (Option Addr))) (e : ∀ i, Ct E P C.fid n C.T (retC P C rs src keys out i))
  (hf : P.funcs[C.fid]? = some fn) (l : fn.body = some c := by rfl) (hn : fn.ntmps = n := by rfl) (hr : fn.results = rs.toArray := by kernel_rfl) (hl : ∀ i, Nat.ble (C.args i).length n = true := by intro _; rfl)
  (h1 : ∀ i, vcF C c rs src keys out i (e i) = (vcF C c rs src keys out i (e i)).rfx := by intro i; kernel_rfl) (h2 : ∀ i s, (vcF C c rs src keys out i (e i)).mod s = C.model i := by intro i s; kernel_rfl) : C.Sound P := iU j C src keys out e hf l hn hr hl h1 h2
def vcL {P : Program} {f : FuncId} {n : Nat} {R0 : Type} {retF : Kn E -> VC R0} (B : BCon E R0) (body : Code) (id : Nat) (G : Nat -> B.X -> B.V -> Option B.W) (inl : R0 -> Option B.W) (inr : B.T -> B.W) (get : Kn E -> Option (B.V × List Nat × List (Option Addr))) (j : Kn E -> Option (B.T × List Nat × List (Option Addr)))
  (A : Ct E P f n R0 retF) (m : Nat) (x : B.X) (v : B.V) (y : List Nat) (z : List (Option Addr)) : VC B.W :=
 nx (norm 1000 [.code body, .inLoop body, .inBlock id]) fun md => exec A md ⟨B.pL x v y z, B.pA x v y z, B.rds x, [], [], []⟩ (fun r => .ret (inl r)) (fun st => match j st with
  | some (u, e, i) => match Nat.beq e.length B.mN, Nat.beq i.length B.mA with
   | true, true => reqS (B.qL x u e i) (B.qA x u e i) st (.ret (some (inr u)))
   | _, _ => .fail
  | none => .fail) fun c l st => .req (c, l) (body, id) (match get st with
   | some (t, e, i) => reqS (B.pL x t e i) (B.pA x t e i) st (.ret (G m x t))
   | none => .fail)
theorem VC.wU : ∀ {R : Type} (v : VC R), v.ok (fun _ => False) -> False
 | _, .ret o, h => by obtain ⟨_, _, h⟩ := h; exact h
 | _, .bind m k, h => by obtain ⟨x, _, h⟩ := h; exact VC.wU (k x) h
 | _, .ite c x y, h => by
  cases i : c with
  | true => exact VC.wU x (h.1 i)
  | false => exact VC.wU y (h.2 i)
 | _, .frN k, h => VC.wU (k 0) (h 0)
 | _, .frA k, h => VC.wU (k none) (h none)
 | _, .req a b k, h => VC.wU k h.2
 | _, .join x k, h => VC.wU x (VC.mono x (fun y e => VC.wU (k y) e) h)
 | _, .cs z x y, h => by
  cases z with
  | inl a => exact VC.wU (x a) (h.1 a rfl)
  | inr b => exact VC.wU (y b) (h.2 b rfl)
 | _, .both u v vm, h => VC.wU u h.1
 | _, .grj x k, h => VC.wU x (VC.mono x (fun y e => VC.wU (k y) e) h)
 | _, .sel M b x y k, h => by
  cases b with
  | true => exact VC.wU x (VC.mono x (fun y e => VC.wU (k y) e) (h.1 rfl))
  | false => exact VC.wU y (VC.mono y (fun y e => VC.wU (k y) e) (h.2 rfl))
def BCon.at {R0 : Type} (B : BCon E R0) (G : Nat -> B.X -> B.V -> Option B.W) (k : Nat) : BCon E R0 := { B with g := G k }
theorem fa (a0 : P.follows .mixedOrders = true) (B : BCon E R0) {body : Code} {id : Nat} (G : Nat -> B.X -> B.V -> Option B.W) (inl : R0 -> Option B.W) (inr : B.T -> B.W) (get : Kn E -> Option (B.V × List Nat × List (Option Addr))) (l : Kn E -> Option (B.T × List Nat × List (Option Addr)))
  (Z : Nat -> Ct E P f n R0 retF) (hc : B.code = .block id (.loop body)) (h0 : ∀ x v, G 0 x v = none) (hl : ∀ r y, inl r = some y -> B.cls y = .inl r) (hi : ∀ u, B.cls (inr u) = .inr u)
  (h1 : ∀ m x v i j, vcL B body id G inl inr get l (Z m) m x v i j = (vcL B body id G inl inr get l (Z m) m x v i j).rfx) (h2 : ∀ m x v i j s, (vcL B body id G inl inr get l (Z m) m x v i j).mod s = G (m + 1) x v) :
  ∀ k, (B.at G k).Sound P f n retF := by
 intro k Q w0 F x v t i j a w base S A D U;have key : ∀ (m : Nat) (v : B.V) (i : List Nat) (j : List (Option Addr)) (a : Act) (w : World), G m x v = some t -> KnOk n w0 F ⟨B.pL x v i j, B.pA x v i j, B.rds x, [], [], []⟩ a w -> Runs P f (.code body :: .inLoop body :: .inBlock id :: base) a w Q := by
  intro m;induction m with
  | zero => intro v i j a w S _; exact absurd ((h0 x v).symm.trans S) (by simp)
  | succ m ih =>
   intro v i j a w S A;have a1 := VC.good _ (· = t) (h1 m x v i j) fun s => ⟨t, (h2 m x v i j s).trans S, rfl⟩
   obtain ⟨md, a2, h3⟩ := qD a1;refine y4 (t := [.code body, .inLoop body, .inBlock id]) (base := base) 1000 a2 (ld a0 (Tg := fun r => B.cls t = .inl r) ?_ (Z m) md base _ _ _ _ _ a w A h3 ?_ ?_ ?_)
   ·intro st a w k A h;cases ht : B.cls t with
    | inl r => exact U r ht _ _ _ _ A (VC.mono _ (fun r' h => by rw [ht] at h; cases h; rfl) h)
    | inr u => exact (VC.wU _ (VC.mono _ (fun r' h => by rw [ht] at h; cases h) h)).elim
   ·rintro r ⟨y, Y, rfl⟩;exact hl r y Y
   ·intro a3 a' w' I z;split at z
    ·rename_i u J O ho;split at z
     ·rename_i e1 e2;obtain ⟨h4, h5, y, Y, h6⟩ := tg I z;cases Y;subst h6;exact D u (hi u) J O a' w' (Nat.eq_of_beq_eq_true e1) (Nat.eq_of_beq_eq_true e2) h4 h5
     ·exact (VC.zx z).elim
    ·exact (VC.zx z).elim
   ·intro c b0 a3 a' w' I hb;obtain ⟨e, h4⟩ := hb;simp only [Prod.mk.injEq] at e;obtain ⟨rfl, rfl⟩ := e;split at h4
    ·rename_i v' J O b3;obtain ⟨h5, h6, y, Y, h7⟩ := tg I h4;subst h7;exact Runs.inLoop (ih v' J O a' w' Y ⟨h5, h6, A.fs.1, A.fs.2, A.fs.3, A.fs.4⟩)
    ·exact (VC.zx h4).elim
 show Runs P f (.code B.code :: base) a w Q;rw [hc];exact Runs.block (Runs.bm (key k v i j a w S A))
theorem lsn (t : P.follows .mixedOrders = true) (B : BCon E R0) {body : Code} {id : Nat} (G : Nat -> B.X -> B.V -> Option B.W) (inl : R0 -> Option B.W) (inr : B.T -> B.W) (get : Kn E -> Option (B.V × List Nat × List (Option Addr))) (e : Kn E -> Option (B.T × List Nat × List (Option Addr)))
  (i : Nat -> Ct E P f n R0 retF) (k : Nat) (z : B.code = .block id (.loop body) := by kernel_rfl) (h0 : ∀ x v, G 0 x v = none := by intro _ _; rfl) (hl : ∀ r y, inl r = some y -> B.cls y = .inl r := by intro r y h; cases h; try rfl) (hi : ∀ u, B.cls (inr u) = .inr u := by intro u; rfl)
  (h1 : ∀ m x v j l, vcL B body id G inl inr get e (i m) m x v j l = (vcL B body id G inl inr get e (i m) m x v j l).rfx := by intro m x v A D; kernel_rfl) (h2 : ∀ m x v j l s, (vcL B body id G inl inr get e (i m) m x v j l).mod s = G (m + 1) x v := by intro m x v A D s; kernel_rfl) :
  (B.at G k).Sound P f n retF := fa t B G inl inr get e i z h0 hl hi h1 h2 k
theorem wD (C : Con E) (h : ∀ i, C.model i = none) : C.Sound P := fun i t hm => by rw [h i] at hm; cases hm
end
end
noncomputable section
section
variable {E : Ev}
structure OD (E : Ev) : Type 1 where
 A : Type
 M : Type
 flat : Nat -> A -> M -> List (Atom E)
 rd : List (Atom E) -> Option (A × M × List (Atom E))
def rS (c : Nat) (e : List (Atom E)) : Option ((Option Addr × Nat × List (E.el c).α) × List (Atom E)) := match e with
 | .sl _ _ sb sc l :: r => match kH c l with
  | some l' => some ((sb, sc, l'), r)
  | none => none
 | _ => none
def rM (c : Nat) (e : List (Atom E)) : Option ((Nat × List ((E.mp c).K × (E.mp c).V)) × List (Atom E)) := match e with
 | .mp _ b m :: r => match gS c m with
  | some i => some ((b, i), r)
  | none => none
 | _ => none
structure PK (E : Ev) : Type 1 where
 T : Type
 rd : Value -> List (Atom E) -> Option (T × List (Atom E))
 arg : T -> Value
 ats : T -> List (Atom E)
 rds : T -> List (RdV E)
def pI (k : IntKind) : PK E := ⟨Int, fun v e => match v with
 | .int _ x => some (x, e)
 | _ => none, fun x => .int k x, fun _ => [], fun _ => []⟩
def pB : PK E := ⟨Bool, fun v e => match v with
 | .bool x => some (x, e)
 | _ => none, fun x => .bool x, fun _ => [], fun _ => []⟩
def pV {α : Type} (dec : Value -> Option α) (val : α -> Value) : PK E := ⟨α, fun v e => match dec v with
 | some x => some (x, e)
 | none => none, val, fun _ => [], fun _ => []⟩
def pK (v : Value) : PK E := ⟨Unit, fun _ e => some ((), e), fun _ => v, fun _ => [], fun _ => []⟩
def pO (D : OD E) : PK E := ⟨Nat × D.A × D.M, fun v e => match v with
 | .pointer (some ⟨p, _, _⟩) => match D.rd e with
  | some (a, m, r) => some ((p, a, m), r)
  | none => none
 | _ => none, fun x => .pointer (some ⟨x.1, 0, none⟩), fun x => D.flat x.1 x.2.1 x.2.2, fun _ => []⟩
def pR (c : Nat) : PK E := ⟨Option Addr × Nat × List (E.el c).α, fun v e => match e with
 | .sl c' _ sb sc l :: r => match kH c l with
  | some l' => some ((sb, sc, l'), r)
  | none => none
 | _ => none, fun x => .slice x.1 x.2.2.length x.2.1, fun _ => [], fun x => [⟨c, x.1, x.2.1, x.2.2⟩]⟩
def pW (c : Nat) (T : TypeId) : PK E := ⟨Option Addr × Nat × List (E.el c).α, fun v e => match e with
 | .sl c' _ sb sc l :: r => match kH c l with
  | some l' => some ((sb, sc, l'), r)
  | none => none
 | _ => none, fun x => .slice x.1 x.2.2.length x.2.1, fun x => [.sl c T x.1 x.2.1 x.2.2], fun _ => []⟩
def Ins : List (PK E) -> Type
 | [] => Unit
 | p :: ps => p.T × Ins ps
def dE : (ps : List (PK E)) -> List Value -> List (Atom E) -> Option (Ins ps)
 | [], _, _ => some ()
 | p :: ps, v :: vs, e => match p.rd v e with
  | some (x, r) => match dE ps vs r with
   | some xs => some (x, xs)
   | none => none
  | none => none
 | _ :: _, [], _ => none
def k6 : (ps : List (PK E)) -> Ins ps -> List Value
 | [], _ => []
 | p :: ps, x => p.arg x.1 :: k6 ps x.2
def kK : (ps : List (PK E)) -> Ins ps -> List (Atom E)
 | [], _ => []
 | p :: ps, x => p.ats x.1 ++ kK ps x.2
def k5 : (ps : List (PK E)) -> Ins ps -> List (RdV E)
 | [], _ => []
 | p :: ps, x => p.rds x.1 ++ k5 ps x.2
@[reducible] def zJ (fid : Nat) (ps : List (PK E)) {T : Type} (model : Ins ps -> Option T) (nN nA : Nat) (val : Ins ps -> T -> List Nat -> List (Option Addr) -> Value) (post : Ins ps -> T -> List Nat -> List (Option Addr) -> List (Atom E)) : Con E :=
 ⟨fid, Ins ps, T, dE ps, k6 ps, kK ps, k5 ps, model, nN, nA, val, post, fun _ _ => none, fun _ _ => [], false, Unit, fun _ _ => none, 0, fun _ _ _ _ _ => .tuple #[], fun _ _ _ _ _ => []⟩
@[reducible] def eN (fid : Nat) (ps : List (PK E)) {T : Type} (model : Ins ps -> Option T) (nN nA : Nat) (val : Ins ps -> T -> List Nat -> List (Option Addr) -> Value) (post : Ins ps -> T -> List Nat -> List (Option Addr) -> List (Atom E)) (opt : Ins ps -> T -> Option Int) : Con E :=
 ⟨fid, Ins ps, T, dE ps, k6 ps, kK ps, k5 ps, model, nN, nA, val, post, fun i t => some (opt i t), fun _ _ => [], false, Unit, fun _ _ => none, 0, fun _ _ _ _ _ => .tuple #[], fun _ _ _ _ _ => []⟩
@[reducible] def pY (fid : Nat) (ps : List (PK E)) {T : Type} (model : Ins ps -> Option T) (nN nA : Nat) (val : Ins ps -> T -> List Nat -> List (Option Addr) -> Value) (post : Ins ps -> T -> List Nat -> List (Option Addr) -> List (Atom E)) (fx : Ins ps -> T -> List Prop) : Con E :=
 ⟨fid, Ins ps, T, dE ps, k6 ps, kK ps, k5 ps, model, nN, nA, val, post, fun _ _ => none, fx, false, Unit, fun _ _ => none, 0, fun _ _ _ _ _ => .tuple #[], fun _ _ _ _ _ => []⟩
@[reducible] def dH (fid : Nat) (ps : List (PK E)) {T M : Type} (model : Ins ps -> Option T) (nN nA : Nat) (val : Ins ps -> T -> List Nat -> List (Option Addr) -> Value) (post : Ins ps -> T -> List Nat -> List (Option Addr) -> List (Atom E)) (om : Ins ps -> T -> Option M) (nf : Nat)
  (val1 : Ins ps -> T -> M -> List Nat -> List (Option Addr) -> Value) (post1 : Ins ps -> T -> M -> List Nat -> List (Option Addr) -> List (Atom E)) : Con E :=
 ⟨fid, Ins ps, T, dE ps, k6 ps, kK ps, k5 ps, model, nN, nA, val, post, fun _ _ => none, fun _ _ => [], true, M, om, nf, val1, post1⟩
abbrev Gt (E : Ev) (T : Type) := Kn E -> Option T
def gI (t : Nat) : Gt E Int := fun st => match look t st.L with
 | some (.int _ x) => some x
 | _ => none
def gB (t : Nat) : Gt E Bool := fun st => match look t st.L with
 | some (.bool x) => some x
 | _ => none
def gO (D : OD E) (ks : List Nat) : Gt E D.M := fun st => match lR ks st.As with
 | some e => match D.rd e with
  | some (_, m, _) => some m
  | none => none
 | none => none
def gL (c : Nat) (q : Nat) : Gt E (List (E.el c).α) := fun st => match getK q st.As with
 | some (.sl _ _ _ _ l) => kH c l
 | _ => none
def g2 {A B : Type} (a : Gt E A) (b : Gt E B) : Gt E (A × B) := fun st => match a st, b st with
 | some x, some y => some (x, y)
 | _, _ => none
def gU : Gt E Unit := fun _ => some ()
abbrev Nx (E : Ev) := Kn E -> Option (List Nat × List (Option Addr))
def nA (D : OD E) (ks : List Nat) (f : D.A -> List Nat × List (Option Addr)) : Nx E := fun st => match lR ks st.As with
 | some e => match D.rd e with
  | some (i, _, _) => some (f i)
  | none => none
 | none => none
def nxs : List (Nx E) -> Nx E
 | [], _ => some ([], [])
 | x :: r, st => match x st, nxs r st with
  | some (a, b), some (c, d) => some (a ++ c, b ++ d)
  | _, _ => none
def gj {T : Type} (a : Gt E T) (l : List (Nx E)) : Kn E -> Option (T × List Nat × List (Option Addr)) := fun st => match a st, nxs l st with
 | some x, some (e, i) => some (x, e, i)
 | _, _ => none
def gl {X V : Type} (x : Gt E X) (v : Gt E V) (l : List (Nx E)) : Kn E -> Option (X × V × List Nat × List (Option Addr)) := fun st => match x st, v st, nxs l st with
 | some x, some v, some (e, i) => some (x, v, e, i)
 | _, _, _ => none
def gt {T : Type} (a : Gt E T) : Kn E -> Option (T × List Nat × List (Option Addr)) := fun st => match a st with
 | some x => some (x, [], [])
 | none => none
abbrev nn (l : List Nat) (i : Nat) : Nat := l.getD i 0
abbrev na (l : List (Option Addr)) (i : Nat) : Option Addr := l.getD i none
def zipL {α : Type} : List Nat -> List α -> List (Nat × α)
 | k :: ks, x :: xs => (k, x) :: zipL ks xs
 | _, _ => []
def kp (ks : List Nat) (st : Kn E) : Env := match sel ks st.L with
 | some L => L
 | none => []
def ka (ks : List Nat) (st : Kn E) : List (Nat × Atom E) := match ks with
 | [] => []
 | k :: r => match getK k st.As with
  | some a => (k, a) :: ka r st
  | none => ka r st
def gP (k : Nat) : Gt E Nat := fun st => match getK k st.As with
 | some (.blk b _ _) => some b
 | some (.mp _ b _) => some b
 | _ => none
def gA (D : OD E) (ks : List Nat) : Gt E D.A := fun st => match lR ks st.As with
 | some e => match D.rd e with
  | some (a, _, _) => some a
  | none => none
 | none => none
def gC {α : Type} (k off n : Nat) (dec : List Value -> Option α) : Gt E α := fun st => match getK k st.As with
 | some (.blk _ _ cs) => dec ((cs.drop off).take n)
 | _ => none
def gh (k : Nat) : Gt E (Option Addr × Nat) := fun st => match getK k st.As with
 | some (.sl _ _ sb sc _) => some (sb, sc)
 | _ => none
def nPk (k : Nat) : Nx E := fun st => match getK k st.As with
 | some (.blk b _ _) => some ([b], [])
 | some (.mp _ b _) => some ([b], [])
 | _ => none
def nSk (k : Nat) : Nx E := fun st => match getK k st.As with
 | some (.sl _ _ sb sc _) => some ([sc], [sb])
 | _ => none
def gOo (D : OD E) (ks : List Nat) (t : Nat) : Gt E (Option D.M) := fun st => match look t st.L with
 | some (.pointer none) => some none
 | some (.pointer (some _)) => match gO D ks st with
  | some m => some (some m)
  | none => none
 | _ => none
def nPo (k : Nat) : Nx E := fun st => match getK k st.As with
 | some (.blk b _ _) => some ([b], [])
 | _ => some ([0], [])
def nAo (D : OD E) (ks : List Nat) (f : D.A -> List Nat × List (Option Addr)) (n m : Nat) : Nx E := fun st => match lR ks st.As with
 | some e => match D.rd e with
  | some (i, _, _) => some (f i)
  | none => none
 | none => some (List.replicate n 0, List.replicate m none)
def gE : Gt E (Option Int) := fun st => match getK 99999 st.ef with
 | some f => some (some f.i)
 | none => some none
def dI : List Value -> Option Int
 | [.int _ x] => some x
 | _ => none
def dB : List Value -> Option Bool
 | [.bool x] => some x
 | _ => none
def dvI : Value -> Option Int
 | .int _ x => some x
 | _ => none
def nav : List Nat -> Code -> Code
 | [], c => c
 | 0 :: r, .seq x _ => nav r x
 | _ :: r, .seq _ y => nav r y
 | 0 :: r, .cond _ x _ => nav r x
 | _ :: r, .cond _ _ y => nav r y
 | _ :: r, .block _ x => nav r x
 | _ :: r, .loop x => nav r x
 | _ :: _, c => c
def rsOf (P : Program) (f : Nat) : List ResultVar := match P.funcs[f]? with
 | some fn => fn.results.toList
 | none => []
def ya (P : Program) (f : Nat) : Code := match P.funcs[f]? with
 | some fn => match fn.body with
  | some c => c
  | none => .skip
 | none => .skip
end
def fsk {E : Ev} {P : Program} (j : P.follows .mixedOrders = true) (C : Con E) {fn : Func} {c : Code} (n : Nat) (src : List Src) (keys : List Nat) (out : Kn E -> Option (C.T × List Nat × List (Option Addr))) (e : ∀ i, Ct E P C.fid n C.T (retC P C (rsOf P C.fid) src keys out i))
  (hf : P.funcs[C.fid]? = some fn) (he : ∀ args w, (callFunc C.fid args).run P w = .ok (.enter C.fid args) w) (l : fn.body = some c := by rfl) (hn : fn.ntmps = n := by rfl) (hr : fn.results = (rsOf P C.fid).toArray := by kernel_rfl) (hl : ∀ i, Nat.ble (C.args i).length n = true := by intro _; rfl)
  (h1 : ∀ i, vcF C c (rsOf P C.fid) src keys out i (e i) = (vcF C c (rsOf P C.fid) src keys out i (e i)).rfx := by intro i; kernel_rfl) (h2 : ∀ i s, (vcF C c (rsOf P C.fid) src keys out i (e i)).mod s = C.model i := by intro i s; kernel_rfl) : SCon E P := ⟨C, iU j C src keys out e hf l hn hr hl h1 h2, he⟩
end
noncomputable section
section
variable {E : Ev}
theorem oT {w0 w : World} {Y : HP} {L A1 As : List HP} (h : ∀ As, St w0 (Y :: As) w ↔ St w0 (L ++ As) w) : St w0 (A1 ++ (Y :: As)) w ↔ St w0 (A1 ++ (L ++ As)) w := by
 constructor
 ·intro H;have H1 := (h (A1 ++ As)).1 (H.perm (List.perm_middle));refine H1.perm ?_;rw [<- aA, <- aA];exact List.Perm.append_right As List.perm_append_comm
 ·intro H;have H1 := (h (A1 ++ As)).2 (H.perm (by
   rw [<- aA, <- aA];exact List.Perm.append_right As List.perm_append_comm))
  exact H1.perm List.perm_middle.symm
theorem fs0 {w0 w : World} {Y : HP} {L As : List HP} (h : ∀ As, St w0 (Y :: As) w ↔ St w0 (L ++ As) w) : St w0 (Y :: As) w ↔ St w0 (L ++ As) w := h As
theorem fs1 {w0 w : World} {A Y : HP} {L As : List HP} (h : ∀ As, St w0 (Y :: As) w ↔ St w0 (L ++ As) w) : St w0 (A :: Y :: As) w ↔ St w0 (A :: (L ++ As)) w := oT (A1 := [A]) h
theorem fs2 {w0 w : World} {A B Y : HP} {L As : List HP} (h : ∀ As, St w0 (Y :: As) w ↔ St w0 (L ++ As) w) : St w0 (A :: B :: Y :: As) w ↔ St w0 (A :: B :: (L ++ As)) w := oT (A1 := [A, B]) h
theorem fs3 {w0 w : World} {A B C Y : HP} {L As : List HP} (h : ∀ As, St w0 (Y :: As) w ↔ St w0 (L ++ As) w) : St w0 (A :: B :: C :: Y :: As) w ↔ St w0 (A :: B :: C :: (L ++ As)) w := oT (A1 := [A, B, C]) h
theorem fs4 {w0 w : World} {A B C D Y : HP} {L As : List HP} (h : ∀ As, St w0 (Y :: As) w ↔ St w0 (L ++ As) w) : St w0 (A :: B :: C :: D :: Y :: As) w ↔ St w0 (A :: B :: C :: D :: (L ++ As)) w := oT (A1 := [A, B, C, D]) h
theorem rdH (c : Nat) {F : List HP} {X : HP} {sb : Option Addr} {sc : Nat} {l : List (E.el c).α} (hm : X ∈ F) (e : SlRd X (E.el c).enc (E.el c).sz sb l) (hC : l.length <= sc) : RdV.holds (E := E) F ⟨c, sb, sc, l⟩ := ⟨X, hm, e, fun _ _ => hC⟩
theorem rd0 {F : List HP} : ∀ r ∈ ([] : List (RdV E)), r.holds F := fun r h => by cases h
theorem rdc {F : List HP} {r : RdV E} {L : List (RdV E)} (h : r.holds F) (e : ∀ r ∈ L, r.holds F) : ∀ x ∈ r :: L, x.holds F := fun x i => by
 cases i with
 | head => exact h
 | tail _ h => exact e _ h
theorem Ah {F : List HP} {X : HP} (hX : X ∈ F) : ∃ e, ∀ (w0 w : World) (A : List HP), St w0 (A ++ F) w ↔ St w0 (X :: (A ++ e)) w := by
 obtain ⟨s, t, rfl⟩ := List.append_of_mem hX;refine ⟨s ++ t, fun w0 w A => ?_⟩;have hp : (A ++ (s ++ X :: t)).Perm (X :: (A ++ (s ++ t))) := by
  rw [<- aA, <- aA];exact List.perm_middle
 exact ⟨fun H => H.perm hp, fun H => H.perm hp.symm⟩
theorem AB {w0 w : World} {X : HP} {As : List HP} {n m : Nat} (H : St w0 (X :: As) w) (h : ∀ g, X g -> n <= m) : n <= m := H.fact h
theorem lsS {α : Type} {l : List α} {n : Nat} (h : l.length = n + 1) : ∃ a r, l = a :: r /\ r.length = n := by
 match l, h with
 | a :: r, h => exact ⟨a, r, rfl, by simpa using h⟩
theorem ls0 {α : Type} {l : List α} (h : l.length = 0) : l = [] := List.length_eq_zero_iff.1 h
end
end
end Go.Th
