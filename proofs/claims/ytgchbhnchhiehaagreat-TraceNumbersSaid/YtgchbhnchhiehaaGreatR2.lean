/-
  The engine by certificates, part 2: steps of a region.
-/
import Derived.Test.YtgchbhnchhiehaaGreatR1
set_option linter.unusedVariables false
set_option linter.unusedSimpArgs false
namespace Go.Th
section
variable {E : Ev} {P : Program}

structure HpOk (w0 : World) (F : List HP) (st : Kn E) (w : World) : Prop where
  hp : St w0 (dens st.As ++ F) w
  fs : Facts F st
theorem KnOk.hk {n : Nat} {w0 w : World} {F : List HP} {st : Kn E} {a : Act} (h : KnOk n w0 F st a w) : HpOk w0 F st w := ⟨h.hp, h.fs⟩

def castE (c : Nat) {c' : Nat} (l : List (E.el c').α) : Option (List (E.el c).α) :=
  match Nat.decEq c' c with
  | isTrue h => some (h ▸ l)
  | isFalse _ => none
def decAll (D : ElD) : Nat → List Value → Option (List D.α)
  | 0, _ => some []
  | n + 1, cs => match D.dec (cs.take D.sz), decAll D n (cs.drop D.sz) with
    | some x, some r => some (x :: r)
    | _, _ => none
def bltParts : Op → Option (Builtin × List Operand × List TypeId)
  | .call { callee := .builtin b, args, argTypes } => some (b, args.toList, argTypes.toList)
  | _ => none
theorem bltParts_eq {op : Op} {b : Builtin} {l : List Operand} {ts : List TypeId} (h : bltParts op = some (b, l, ts)) : op = .call { callee := .builtin b, args := l.toArray, argTypes := ts.toArray } := by
  unfold bltParts at h
  split at h
  · cases h; simp
  · cases h
/-- What '==' of two values of a struct comes to. -/
structure EqD (P : Program) : Type 1 where
  α : Type
  t : TypeId
  val : α → Array Value
  dec : Value → Option α
  eq : α → α → Bool
  ok : ∀ x y, EqRuns P t (val x) (val y) (eq x y)

inductive ASrc
  | K (q : Nat)
  | R (q : Nat)
  | O (q : Nat)
  | W (v q : Nat)
def ASrc.keys : List ASrc → List Nat
  | [] => []
  | .K q :: r => q :: keys r
  | _ :: r => keys r
def gather (rd : List (Nat × RdV E)) (rest : List (Nat × Atom E)) : List ASrc → List (Atom E) → Option (List (Atom E) × List (RdV E))
  | [], _ => some ([], [])
  | .K _ :: r, a :: ats => match gather rd rest r ats with
    | some (x, y) => some (a :: x, y)
    | none => none
  | .K _ :: _, [] => none
  | .R q :: r, ats => match getK q rd with
    | some v => match gather rd rest r ats with
      | some (x, y) => some (.sl v.c 0 v.sb v.sc v.l :: x, v :: y)
      | none => none
    | none => none
  | .O q :: r, ats => match getK q rest with
    | some (.sl c T sb sc l) => match gather rd rest r ats with
      | some (x, y) => some (.sl c T sb sc l :: x, ⟨c, sb, sc, l⟩ :: y)
      | none => none
    | _ => none
  | .W _ _ :: _, _ => none
def zipK {α : Type} : List Nat → List α → Option (List (Nat × α))
  | [], [] => some []
  | k :: ks, x :: xs => match zipK ks xs with
    | some r => some ((k, x) :: r)
    | none => none
  | _, _ => none
theorem zipK_snd {α : Type} : ∀ {ks : List Nat} {xs : List α} {r : List (Nat × α)}, zipK ks xs = some r → r.map (·.2) = xs
  | [], [], r, h => by simp [zipK] at h; subst h; rfl
  | k :: ks, x :: xs, r, h => by
    simp only [zipK] at h
    split at h
    · rename_i r' hr; cases h; simp [zipK_snd hr]
    · cases h
  | [], _ :: _, r, h => by simp [zipK] at h
  | _ :: _, [], r, h => by simp [zipK] at h

inductive Stp (E : Ev) (P : Program) : Type 1
  | seg (c : Nat) (l : List Src)
  | new (q : Nat) (l : List Src)
  | sto (q : Nat)
  | call (C : SCon E P) (l : List ASrc) (out : List Nat)
  | idx (rdr : Bool) (q : Nat) (x : Operand) (e : Nat)
  | gd (k : Nat) (x : Operand) (j : Nat)
  | idk (rdr : Bool) (q : Nat) (x : Operand) (e : Nat)
  | rlc (e q off : Nat)
  | rls (e t : Nat)
  | nil (q c : Nat) (T : TypeId)
  | bld (q c : Nat) (T : TypeId)
  | app (q : Nat) (s : ASrc)
  | sset (q e j : Nat)
  | mk (q c : Nat) (T : TypeId)
  | eqs (D : EqD P)
  | mnew (q c : Nat)
  | mget (q c : Nat) (kt : TypeId) (hk : KeyOk P kt (E.mp c).ek (E.mp c).eq) (z : (E.mp c).V)
  | mput (q c : Nat) (kt : TypeId) (hk : KeyOk P kt (E.mp c).ek (E.mp c).eq)
  | mdel (q c : Nat) (kt : TypeId) (hk : KeyOk P kt (E.mp c).ek (E.mp c).eq)
  | cut (rdr : Bool) (q : Nat) (lo hi : Option Operand) (v : Nat)
  | own (v q : Nat)
  | el (t e : Nat)
  | same (q m : Nat)
  | rlp (t q : Nat)
  | rlq (b off q : Nat)
  | pix (q off n c : Nat) (x : Operand) (e : Nat)

def castM (c : Nat) {c' : Nat} (l : List ((E.mp c').K × (E.mp c').V)) : Option (List ((E.mp c).K × (E.mp c).V)) :=
  match Nat.decEq c' c with
  | isTrue h => some (h ▸ l)
  | isFalse _ => none
/-- A slice that is read. -/
def srcOf (rd : List (Nat × RdV E)) (vw : List (Nat × Mi E)) (rest : List (Nat × Atom E)) : ASrc → Option (RdV E × List (Atom E × Atom E))
  | .K _ => none
  | .R q => match getK q rd with
    | some r => some (r, [])
    | none => none
  | .O q => match getK q rest with
    | some (.sl c T sb sc l) => some (⟨c, sb, sc, l⟩, [])
    | _ => none
  | .W v q => match getK v vw, getK q rest with
    | some (.cut u), some (.sl c T sb sc l) => some (⟨u.c, u.sb', u.sc', u.r⟩, [(.sl c T sb sc l, .sl u.c T u.sb u.sc u.l)])
    | _, _ => none
/-- A part of a slice is read, and the slice changes: both stand for themselves. -/
def vwO (o : Option (Option Int)) (l : List (Nat × Mi E)) : List (Nat × Mi E) := match o with
  | some x => (77, .opt x) :: l
  | none => l
theorem vwO_ok {o : Option (Option Int)} {l : List (Nat × Mi E)} (h : ∀ p ∈ l, p.2.holds) : ∀ p ∈ vwO o l, p.2.holds := by
  cases o with
  | none => exact h
  | some x =>
    intro p hp
    cases hp with
    | head => trivial
    | tail _ hm => exact h p hm
def fxP : List Prop → List (Nat × Prop) → List (Nat × Prop)
  | [], l => l
  | p :: r, l => (78, p) :: fxP r l
theorem fxP_ok {l : List (Nat × Prop)} (h : ∀ p ∈ l, p.2) : ∀ {fx : List Prop}, (∀ p ∈ fx, p) → ∀ p ∈ fxP fx l, p.2
  | [], _ => h
  | q :: r, hf => fun p hp => by
    cases hp with
    | head => exact hf q (List.mem_cons_self ..)
    | tail _ hm => exact fxP_ok h (fun x hx => hf x (List.mem_cons_of_mem _ hx)) p hm
def outK {R : Type} (out : List Nat) (l : List (Atom E)) (K : List (Nat × Atom E) → VC R) : VC R := match zipK out l with
  | some new => K new
  | none => .fail
theorem outK_ok {R : Type} {out : List Nat} {l : List (Atom E)} {K : List (Nat × Atom E) → VC R} {Φ : R → Prop} (h : (outK out l K).ok Φ) : ∃ new, new.map (·.2) = l ∧ (K new).ok Φ := by
  unfold outK at h
  split at h
  · rename_i new hz; exact ⟨new, zipK_snd hz, h⟩
  · exact (VC.fail_ok h).elim
/-- Who is called, with what captured. -/
def calleeOf (L : Env) (x : Operand) : Option (Nat × List Value) := match x with
  | .func g => some (g, [])
  | y => match evO L y with
    | some (.func (.func g) ⟨[]⟩ ⟨cs⟩) => some (g, cs)
    | _ => none
def tagN (b : Nat) : Value := .pointer (some ⟨b, 0, none⟩)
def actO {R : Type} (o : Oper) (st : Kn E) (s : Stp E P) (K : Value → Kn E → VC R) : VC R :=
  match s with
  | .new q l => match (!isSelect o.op && okAll st.L o.op.operands.toList), srcs st l with
    | true, some (orc, obs, eqs) => .frN fun r => match runNew P (execOp (rho st.L) o) orc r with
      | some (.cells cs T (0, 0), .value v, obs') => .req obs' obs (.req (eqs.map (·.1)) (eqs.map (·.2)) (K v ⟨st.L, (q, .blk r T cs.toList) :: st.As, st.rd, st.ef, st.pr, st.vw⟩))
      | _ => .fail
    | _, _ => .fail
  | .sto q => match storeParts o.op, pick1 q st.As with
    | some (t, x, y), some (.blk b' T cs, rest) => match evO st.L x, evO st.L y, P.info? t with
      | some (.pointer (some ⟨b, off, none⟩)), some v, some ti => match Nat.beq ti.size v.cells.size, allOne v.cells.toList, Nat.ble (off + v.cells.size) cs.length with
        | true, true, true => .req b b' (K undef ⟨st.L, (q, .blk b' T (putAt cs off v.cells.toList)) :: rest, st.rd, st.ef, st.pr, st.vw⟩)
        | _, _, _ => .fail
      | _, _, _ => .fail
    | _, _ => .fail
  | .call C l out => match callParts o.op, picks (ASrc.keys l) st.As with
    | some (x, xs), some (ats, rest) => match calleeOf st.L x, evList st.L xs, gather st.rd rest l ats with
      | some (g, cs), some vs, some (ps, rds) => match C.C.rd (vs ++ cs) ps with
        | some i => .req (vs ++ cs, ats, rds, g) (C.C.args i, C.C.ats i, C.C.rds i, C.C.fid) (.bind (C.C.model i) fun t => frNs C.C.nN fun ns => frAs C.C.nA fun as => match C.C.br with
          | false => outK out (C.C.post i t ns as) fun new => K (C.C.val i t ns as) ⟨st.L, new ++ rest, st.rd, st.ef, fxP (C.C.fx i t) st.pr, vwO (C.C.opt i t) st.vw⟩
          | true => .cs (oS (C.C.om i t)) (fun _ => outK (out.drop C.C.nf) (C.C.post i t ns as) fun new => K (C.C.val i t ns as) ⟨st.L, new ++ rest, st.rd, st.ef, fxP (C.C.fx i t) st.pr, vwO (C.C.opt i t) st.vw⟩) fun m =>
              outK out (C.C.post1 i t m ns as) fun new => K (C.C.val1 i t m ns as) ⟨st.L, new ++ rest, st.rd, st.ef, fxP (C.C.fx i t) st.pr, vwO (C.C.opt i t) st.vw⟩)
        | none => .fail
      | _, _, _ => .fail
    | _, _ => .fail
  | .bld q c T => match (!isSelect o.op && okAll st.L o.op.operands.toList) with
    | true => .frN fun r => match runNew P (execOp (rho st.L) o) [] r with
      | some (.cells cs T' (0, 0), .value (.slice (some a) m m'), []) => match decAll (E.el c) m cs.toList, Nat.ble m 1000000 with
        | some xs, true => .req (cs.toList, a, m, m', T') (xs.flatMap (E.el c).enc, ⟨r, 0, none⟩, xs.length, xs.length, T) (K (.slice (some ⟨r, 0, none⟩) xs.length xs.length) ⟨st.L, (q, .sl c T (some ⟨r, 0, none⟩) xs.length xs) :: st.As, st.rd, st.ef, st.pr, st.vw⟩)
        | _, _ => .fail
      | _ => .fail
    | false => .fail
  | .app q s => match bltParts o.op, pick1 q st.As with
    | some (.append, [x, y], [t, u]), some (.sl c T sb sc l, rest) => match srcOf st.rd st.vw ((q, .sl c T sb sc l) :: rest) s, P.underlying t, P.underlying u, P.info? T, evO st.L x, evO st.L y with
      | some (⟨c', sb', sc', l'⟩, eqs), some (.slice T'), some (.slice d), some ti, some vx, some vy => match castE c l', ti.zero, Nat.ble ti.bytes 131072 with
        | some l'', some z, true => .req (vx, vy, T', ti.size, z.cells.size) (.slice sb l.length sc, .slice sb' l''.length sc', T, (E.el c).sz, (E.el c).sz) (.req (eqs.map (·.1)) (eqs.map (·.2)) (.bind (mApp l l'') fun r => .frA fun sb2 => .frN fun sc2 =>
            K (.slice sb2 r.length sc2) ⟨st.L, (q, .sl c T sb2 sc2 r) :: rest, st.rd, st.ef, st.pr, st.vw⟩))
        | _, _, _ => .fail
      | _, _, _, _, _, _ => .fail
    | _, _ => .fail
  | .sset q e j => match storeParts o.op, pick1 q st.As, getK e st.ef with
    | some (t, x, y), some (.sl c T sb sc l, rest), some ⟨rdr, c', sb', l', i, x0, b, off⟩ => match evO st.L x, evO st.L y, P.info? t, Nat.decEq c' c with
      | some vx, some v, some ti, isTrue h => match allOne v.cells.toList, Nat.ble (j + v.cells.size) (E.el c).sz, (E.el c).dec (putAt ((E.el c).enc (h ▸ x0)) j v.cells.toList) with
        | true, true, some x1 => .req (vx, ti.size, (h ▸ l' : List (E.el c).α), sb', (E.el c).enc x1) (.pointer (some ⟨b, off + i.toNat * (E.el c).sz + j, none⟩), v.cells.size, l, sb, putAt ((E.el c).enc (h ▸ x0)) j v.cells.toList)
            (K undef ⟨st.L, (q, .sl c T sb sc (mSet l i x1)) :: rest, st.rd, (e, ⟨false, c, sb, mSet l i x1, i, x1, b, off⟩) :: (e + 100000, ⟨rdr, c', sb', l', i, x0, b, off⟩) :: st.ef, st.pr, st.vw⟩)
        | _, _, _ => .fail
      | _, _, _, _ => .fail
    | _, _, _ => .fail
  | .mk q c T => match o.op with
    | .makeSlice t x y => match P.underlying t, P.info? T, evO st.L x, evO st.L y with
      | some (.slice T'), some ti, some (.int .i64 m), some vy => match ti.zero, Nat.ble ti.bytes 131072 with
        | some zv, true => match (E.el c).dec zv.cells.toList with
          | some z => .req (T', ti.size, zv.cells.toList, y) (T, (E.el c).sz, (E.el c).enc z, x) (.bind (mMake m z) fun l => .frN fun r => K (.slice (some ⟨r, 0, none⟩) l.length l.length) ⟨st.L, (q, .sl c T (some ⟨r, 0, none⟩) l.length l) :: st.As, st.rd, st.ef, st.pr, st.vw⟩)
          | none => .fail
        | _, _ => .fail
      | _, _, _, _ => .fail
    | _ => .fail
  | .eqs D => match o.op with
    | .binOp .eql t x y _ => match evO st.L x, evO st.L y, P.eqGuardType P.depth t with
      | some vx, some vy, false => match D.dec vx, D.dec vy with
        | some a, some b => .req (t, vx, vy) (D.t, .agg (D.val a), .agg (D.val b)) (K (.bool (D.eq a b)) st)
        | _, _ => .fail
      | _, _, _ => .fail
    | .binOp .neq t x y _ => match evO st.L x, evO st.L y, P.eqGuardType P.depth t with
      | some vx, some vy, false => match D.dec vx, D.dec vy with
        | some a, some b => .req (t, vx, vy) (D.t, .agg (D.val a), .agg (D.val b)) (K (.bool (!(D.eq a b))) st)
        | _, _ => .fail
      | _, _, _ => .fail
    | _ => .fail
  | .mnew q c => match o.op with
    | .makeMap t none => .frN fun r => K (.map (some r)) ⟨st.L, (q, .mp c r []) :: st.As, st.rd, st.ef, st.pr, st.vw⟩
    | _ => .fail
  | .mget q c kt hk z => match getK q st.As with
    | some (.mp c' r m) => match castM c m with
      | some m' => match o.op with
        | .lookup mt x y two => match P.underlying mt, evO st.L x, evO st.L y with
          | some (.map kt' vt), some vx, some vy => match P.info? vt, (E.mp c).dk vy with
            | some ti, some k => match ti.zero with
              | some zv => .req (kt', vx, vy, zv, Atom.mp (E := E) c' r m) (kt, .map (some r), (E.mp c).ek k, (E.mp c).ev z, .mp c r m') (.bind (mLook (E.mp c).eq k z m') fun g => K (match two with
                | true => .tuple #[(E.mp c).ev g.1, .bool g.2]
                | false => (E.mp c).ev g.1) st)
              | none => .fail
            | _, _ => .fail
          | _, _, _ => .fail
        | _ => .fail
      | none => .fail
    | _ => .fail
  | .mput q c kt hk => match pick1 q st.As, putParts o.op with
    | some (.mp c' r m, rest), some (mt, x, y, z) => match castM c m, P.underlying mt, evO st.L x, evO st.L y, evO st.L z with
      | some m', some (.map kt' vt), some vx, some vy, some vz => match (E.mp c).dk vy, (E.mp c).dv vz with
        | some k, some v => .req (kt', vx, vy, vz, Atom.mp (E := E) c' r m) (kt, .map (some r), (E.mp c).ek k, (E.mp c).ev v, .mp c r m') (K undef ⟨st.L, (q, .mp c r (mPut (E.mp c).eq k v m')) :: rest, st.rd, st.ef, st.pr, st.vw⟩)
        | _, _ => .fail
      | _, _, _, _, _ => .fail
    | _, _ => .fail
  | .mdel q c kt hk => match pick1 q st.As, bltParts o.op with
    | some (.mp c' r m, rest), some (.delete, [x, y], mt :: ts) => match castM c m, P.underlying mt, evO st.L x, evO st.L y with
      | some m', some (.map kt' vt), some vx, some vy => match (E.mp c).dk vy with
        | some k => .req (kt', vx, vy, Atom.mp (E := E) c' r m) (kt, .map (some r), (E.mp c).ek k, .mp c r m') (K (.tuple #[]) ⟨st.L, (q, .mp c r (mDel (E.mp c).eq k m')) :: rest, st.rd, st.ef, st.pr, st.vw⟩)
        | none => .fail
      | _, _, _, _ => .fail
    | _, _ => .fail
  | _ => .fail

theorem RdV.mono {F G : List HP} {r : RdV E} (h : ∀ X ∈ F, X ∈ G) (hr : r.holds F) : r.holds G := by
  obtain ⟨X, hX, h1⟩ := hr
  exact ⟨X, h X hX, h1⟩
theorem gather_sound {F : List HP} {rd : List (Nat × RdV E)} {rest : List (Nat × Atom E)} (hrd : ∀ p ∈ rd, p.2.holds F) : ∀ {l : List ASrc} {ats ps : List (Atom E)} {rds : List (RdV E)},
    gather rd rest l ats = some (ps, rds) → ∀ r ∈ rds, r.holds (dens rest ++ F)
  | [], ats, ps, rds, h => by simp [gather] at h; obtain ⟨_, rfl⟩ := h; simp
  | .K _ :: r, [], ps, rds, h => by simp [gather] at h
  | .K _ :: r, a :: ats, ps, rds, h => by
    simp only [gather] at h
    split at h
    · rename_i x y hg; cases h; exact gather_sound hrd hg
    · cases h
  | .R q :: r, ats, ps, rds, h => by
    simp only [gather] at h
    split at h
    · rename_i v hv
      split at h
      · rename_i x y hg
        cases h
        intro z hz
        cases hz with
        | head =>
          obtain ⟨j, hj⟩ := getK_mem hv
          exact RdV.mono (fun X hX => List.mem_append_right _ hX) (hrd _ hj)
        | tail _ hm => exact gather_sound hrd hg z hm
      · cases h
    · cases h
  | .O q :: r, ats, ps, rds, h => by
    simp only [gather] at h
    split at h
    · rename_i c T sb sc l hq
      split at h
      · rename_i x y hg
        cases h
        intro z hz
        cases hz with
        | head =>
          refine ⟨_, List.mem_append_left F (dens_get hq), sl_rd _ _ _ _ _ _, ?_⟩
          rintro h (⟨_, hl, _⟩ | ⟨b, off, cs, _, _, hb, _⟩)
          · show l.length ≤ sc
            rw [show l = [] from hl]; simp
          · exact hb
        | tail _ hm => exact gather_sound hrd hg z hm
      · cases h
    · cases h

theorem OpTo.storeU {n : Nat} {a : Act} {L : Env} {w w0 : World} {As : List HP} {o : Oper} {b off : Nat} {T t : TypeId} {cs : List Value} {x y : Operand} {v : Value} {ti : TypeInfo} (hE : EnvOk n a L) (H : St w0 (Blk b T cs :: As) w)
    (ho : storeParts o.op = some (t, x, y)) (hx : evO L x = some (.pointer (some ⟨b, off, none⟩))) (hy : evO L y = some v) (hi : P.info? t = some ti) (hs : ti.size = v.cells.size) (h1 : allOne v.cells.toList = true)
    (hfit : off + v.cells.size ≤ cs.length) : OpTo P o a w fun u w' => u = undef ∧ St w0 (Blk b T (putAt cs off v.cells.toList) :: As) w' := by
  obtain ⟨dst, op, type, pos, after, guard⟩ := o
  cases op <;> simp only [storeParts] at ho <;> try cases ho
  have hb := H.one 0 rfl
  refine OpTo.of_skip (w' := w.setRow b (putAt cs off v.cells.toList).toArray) ?_ ⟨rfl, ?_⟩
  · simp [execOp, hE.eval hx, hE.eval hy, run_store_at hb hi hs h1 hfit]
  · exact H.set (by simp) (by simp) (by simp) (setRow_heap w b _ _ T (0, 0) hb) (fun c hc => setRow_other w b c _ hc)

theorem OpTo.skipU {o : Oper} {a : Act} {w : World} {Rv : Value → World → Prop} {z : TypeId × Operand × Operand} (h : OpTo P o a w Rv) (ho : storeParts o.op = some z) : OpTo P o a w fun v w' => v = undef ∧ Rv v w' := by
  obtain ⟨dst, op, type, pos, after, guard⟩ := o
  cases op <;> simp only [storeParts] at ho <;> try cases ho
  rename_i t x y
  unfold OpTo at *
  simp only [execOp, Sem.run_bind, Sem.run_pure] at *
  cases hr : (Instr.storeAt t (a.eval x) (a.eval y)).run P w with
  | ok u w' => rw [hr] at h; simp [Result.andThen] at h ⊢; exact h
  | halt x w' => rw [hr] at h; simp [Result.andThen] at h
theorem OpTo.putU {o : Oper} {a : Act} {w : World} {Rv : Value → World → Prop} {z : TypeId × Operand × Operand × Operand} (h : OpTo P o a w Rv) (ho : putParts o.op = some z) : OpTo P o a w fun v w' => v = undef ∧ Rv v w' := by
  obtain ⟨dst, op, type, pos, after, guard⟩ := o
  cases op <;> simp only [putParts] at ho <;> try cases ho
  all_goals
    rename_i t x y z
    unfold OpTo at *
    simp only [execOp, Sem.run_bind, Sem.run_pure] at *
    cases hr : (Instr.mapUpdate t (a.eval x) (a.eval y) (a.eval z)).run P w with
    | ok u w' => rw [hr] at h; simp [Result.andThen] at h ⊢; exact h
    | halt x w' => rw [hr] at h; simp [Result.andThen] at h
theorem srcOf_sound {F : List HP} {rd : List (Nat × RdV E)} {vw : List (Nat × Mi E)} {rest : List (Nat × Atom E)} {s : ASrc} {r : RdV E} {eqs : List (Atom E × Atom E)} (hrd : ∀ p ∈ rd, p.2.holds F) (hvw : ∀ p ∈ vw, p.2.holds) (h : srcOf rd vw rest s = some (r, eqs)) (he : ∀ p ∈ eqs, p.1 = p.2) :
    ∃ X, X ∈ dens rest ++ F ∧ SlRd X (E.el r.c).enc (E.el r.c).sz r.sb r.l := by
  cases s with
  | K q => simp [srcOf] at h
  | R q =>
    simp only [srcOf] at h
    split at h
    · rename_i r' hr
      cases h
      obtain ⟨j, hj⟩ := getK_mem hr
      obtain ⟨X, hX, h1, _⟩ := hrd _ hj
      exact ⟨X, List.mem_append_right _ hX, h1⟩
    · cases h
  | W v q =>
    simp only [srcOf] at h
    split at h
    · rename_i u c T sb sc l hu hq
      cases h
      obtain ⟨j, hj⟩ := getK_mem hu
      obtain ⟨h1, h2, h3, h4⟩ := hvw _ hj
      have e1 := he _ (List.mem_singleton.2 rfl)
      simp only at e1
      have hm := dens_get hq
      rw [e1] at hm
      exact ⟨_, List.mem_append_left F hm, (sl_rd T (E.el u.c).enc (E.el u.c).sz u.sb u.sc u.l).cut' (E.el u.c).ok h1 h4 h2⟩
    · cases h
  | O q =>
    simp only [srcOf] at h
    split at h
    · rename_i c T sb sc l hq
      cases h
      exact ⟨_, List.mem_append_left F (dens_get hq), sl_rd _ _ _ _ _ _⟩
    · cases h
theorem castE_eq {c c' : Nat} {l : List (E.el c').α} {l' : List (E.el c).α} (h : castE c l = some l') : ∃ e : c' = c, l' = e ▸ l := by
  unfold castE at h
  split at h
  · rename_i e _; cases h; exact ⟨e, rfl⟩
  · cases h
theorem castM_eq {c c' : Nat} {l : List ((E.mp c').K × (E.mp c').V)} {l' : List ((E.mp c).K × (E.mp c).V)} (h : castM c l = some l') : ∃ e : c' = c, l' = e ▸ l := by
  unfold castM at h
  split at h
  · rename_i e _; cases h; exact ⟨e, rfl⟩
  · cases h

theorem actO_sound {R : Type} {n : Nat} {w0 w : World} {F : List HP} {st : Kn E} {a : Act} {Φ : R → Prop} {o : Oper} {s : Stp E P} {K : Value → Kn E → VC R} (hI : KnOk n w0 F st a w) (h : (actO o st s K).ok Φ) :
    OpTo P o a w fun v w' => ∃ st', st'.L = st.L ∧ HpOk w0 F st' w' ∧ (K v st').ok Φ := by
  cases s with
  | seg c l => exact (VC.fail_ok h).elim
  | idx rdr q x e => exact (VC.fail_ok h).elim
  | gd k x j => exact (VC.fail_ok h).elim
  | idk rdr q x e => exact (VC.fail_ok h).elim
  | rlc e q off => exact (VC.fail_ok h).elim
  | rls e t => exact (VC.fail_ok h).elim
  | nil q c T => exact (VC.fail_ok h).elim
  | cut rdr q lo hi v => exact (VC.fail_ok h).elim
  | own v q => exact (VC.fail_ok h).elim
  | el t e => exact (VC.fail_ok h).elim
  | same q m => exact (VC.fail_ok h).elim
  | rlp t q => exact (VC.fail_ok h).elim
  | rlq b off q => exact (VC.fail_ok h).elim
  | pix q off n c x e => exact (VC.fail_ok h).elim
  | bld q c T =>
    simp only [actO] at h
    split at h
    · rename_i hok
      have h3 := h w.heap.size
      dsimp only at h3
      split at h3
      · rename_i cs T' ad m m' hrun
        split at h3
        · rename_i xs hxs hm
          obtain ⟨e, h7⟩ := h3
          simp only [Prod.mk.injEq] at e
          obtain ⟨e1, rfl, rfl, rfl, rfl⟩ := e
          simp only [Bool.and_eq_true, Bool.not_eq_true'] at hok
          have hmm := Nat.le_of_ble_eq_true hm
          have hsz : cs.size = xs.length * (E.el c).sz := by rw [← Array.length_toList, e1, flat_length (E.el c).ok]
          refine OpTo.of_run (w' := { w with heap := w.heap.push (.cells cs T' (0, 0)) }) (v := .slice (some ⟨w.heap.size, 0, none⟩) xs.length xs.length) ?_ ⟨⟨st.L, (q, .sl c T' (some ⟨w.heap.size, 0, none⟩) xs.length xs) :: st.As, st.rd, st.ef, st.pr, st.vw⟩, rfl, ⟨?_, hI.fs.1, hI.fs.2, hI.fs.3, hI.fs.4⟩, h7⟩
          · rw [exec_eq hI.env hok.1 hok.2]
            exact runNew_sound P w _ _ _ _ _ hrun trivial
          · have H2 := hI.hp.alloc (.cells cs T' (0, 0))
            have H3 := St.slOf (enc := (E.el c).enc) (sz := (E.el c).sz) (l := xs) (sc := xs.length) H2 (E.el c).ok (Nat.le_refl _) (by unfold maxLen; omega) (by omega) fun i hi => by rw [← e1]; simp
            exact H3
        · exact (VC.fail_ok h3).elim
      · exact (VC.fail_ok h3).elim
    · exact (VC.fail_ok h).elim
  | app q s =>
    simp only [actO] at h
    split at h
    · rename_i x y t u c T sb sc l rest h1 h2
      split at h
      · rename_i c' sb' sc' l' eqs T' d ti vx vy g1 g2 g3 g4 g5 g6
        split at h
        · rename_i l'' z k1 k2 k3
          obtain ⟨e, eq2, r, hr, h5⟩ := h
          simp only [Prod.mk.injEq] at e
          obtain ⟨rfl, rfl, rfl, e4, e5⟩ := e
          obtain ⟨ec, rfl⟩ := castE_eq k1
          subst ec
          have H : St w0 (Sl T' (E.el c').enc (E.el c').sz sb sc l :: (dens rest ++ F)) w := hI.hp.perm ((dens_pick1 h2).append_right F)
          obtain ⟨X, hX, hS⟩ := srcOf_sound hI.fs.rd hI.fs.vw g1 (eqs_of eq2)
          obtain ⟨j, hj⟩ := H.mem hX
          have hrd := hS.all (E.el c').ok H j hj
          refine (OpTo.appendM hr hI.env H (E.el c').ok (bltParts_eq h1) g5 g6 g2 g3 g4 e4 k2 e5 rfl hrd k3).mono ?_
          rintro v w' ⟨sb2, sc2, rfl, H'⟩
          exact ⟨⟨st.L, (q, .sl c' T' sb2 sc2 r) :: rest, st.rd, st.ef, st.pr, st.vw⟩, rfl, ⟨H', hI.fs.1, hI.fs.2, hI.fs.3, hI.fs.4⟩, h5 sb2 sc2⟩
        · exact (VC.fail_ok h).elim
      · exact (VC.fail_ok h).elim
    · exact (VC.fail_ok h).elim
  | sset q e j =>
    simp only [actO] at h
    split at h
    · rename_i t x y c T sb sc l rest rdr c' sb' l' i x0 b off h1 h2 h3
      split at h
      · rename_i vx v ti ec g1 g2 g3 g4
        split at h
        · rename_i x1 k1 k2 k3
          subst ec
          obtain ⟨e, h5⟩ := h
          simp only [Prod.mk.injEq] at e
          obtain ⟨rfl, e2, rfl, rfl, e5⟩ := e
          obtain ⟨j', hj⟩ := getK_mem h3
          obtain ⟨f1, f2, _⟩ := hI.fs.2 _ hj
          have H : St w0 (Sl T (E.el c').enc (E.el c').sz sb' sc l' :: (dens rest ++ F)) w := hI.hp.perm ((dens_pick1 h2).append_right F)
          refine (OpTo.skipU (OpTo.storeSl (q := j) (x' := x1) hI.env H (E.el c').ok h1 f1 f2 g1 g2 g3 e2 k1 (Nat.le_of_ble_eq_true k2) e5) h1).mono ?_
          rintro v w' ⟨rfl, H'⟩
          refine ⟨⟨st.L, (q, .sl c' T sb' sc (mSet l' i x1)) :: rest, st.rd, (e, ⟨false, c', sb', mSet l' i x1, i, x1, b, off⟩) :: (e + 100000, ⟨rdr, c', sb', l', i, x0, b, off⟩) :: st.ef, st.pr, st.vw⟩, rfl, ⟨H', hI.fs.1, fun p hp => ?_, hI.fs.3, hI.fs.4⟩, h5⟩
          cases hp with
          | head => exact ⟨f1, mSet_at f2, fun h => by cases h⟩
          | tail _ hm =>
            cases hm with
            | head =>
              have h9 := hI.fs.2 _ hj
              exact h9
            | tail _ hm => exact hI.fs.2 p hm
        · exact (VC.fail_ok h).elim
      · exact (VC.fail_ok h).elim
    · exact (VC.fail_ok h).elim
  | mk q c T =>
    simp only [actO] at h
    split at h
    · rename_i t x y ho
      split at h
      · rename_i T' ti m vy g1 g2 g3 g4
        split at h
        · rename_i zv k1 k2
          split at h
          · rename_i z kz
            obtain ⟨e, l, hl, h5⟩ := h
            simp only [Prod.mk.injEq] at e
            obtain ⟨rfl, e2, e3, rfl⟩ := e
            refine (OpTo.make hl hI.env hI.hp (E.el c).ok ho g3 g1 g2 e2 k1 e3 k2).mono ?_
            rintro v w' ⟨r, rfl, H'⟩
            exact ⟨⟨st.L, (q, .sl c T' (some ⟨r, 0, none⟩) l.length l) :: st.As, st.rd, st.ef, st.pr, st.vw⟩, rfl, ⟨H', hI.fs.1, hI.fs.2, hI.fs.3, hI.fs.4⟩, h5 r⟩
          · exact (VC.fail_ok h).elim
        · exact (VC.fail_ok h).elim
      · exact (VC.fail_ok h).elim
    · exact (VC.fail_ok h).elim
  | eqs D =>
    simp only [actO] at h
    split at h
    · rename_i t x y u ho
      split at h
      · rename_i vx vy g1 g2 g3
        split at h
        · rename_i p q k1 k2
          obtain ⟨e, h5⟩ := h
          simp only [Prod.mk.injEq] at e
          obtain ⟨rfl, rfl, rfl⟩ := e
          refine (OpTo.eqS hI.env ho g1 g2 g3 (D.ok p q)).mono ?_
          rintro v w' ⟨rfl, rfl⟩
          exact ⟨st, rfl, hI.hk, h5⟩
        · exact (VC.fail_ok h).elim
      · exact (VC.fail_ok h).elim
    · rename_i t x y u ho
      split at h
      · rename_i vx vy g1 g2 g3
        split at h
        · rename_i p q k1 k2
          obtain ⟨e, h5⟩ := h
          simp only [Prod.mk.injEq] at e
          obtain ⟨rfl, rfl, rfl⟩ := e
          refine (OpTo.neS hI.env ho g1 g2 g3 (D.ok p q)).mono ?_
          rintro v w' ⟨rfl, rfl⟩
          exact ⟨st, rfl, hI.hk, h5⟩
        · exact (VC.fail_ok h).elim
      · exact (VC.fail_ok h).elim
    · exact (VC.fail_ok h).elim
  | mnew q c =>
    simp only [actO] at h
    split at h
    · rename_i t ho
      refine (OpTo.mpNew (E.mp c).ek (E.mp c).ev hI.env hI.hp ho).mono ?_
      rintro v w' ⟨r, rfl, H'⟩
      exact ⟨⟨st.L, (q, .mp c r []) :: st.As, st.rd, st.ef, st.pr, st.vw⟩, rfl, ⟨H', hI.fs.1, hI.fs.2, hI.fs.3, hI.fs.4⟩, h r⟩
    · exact (VC.fail_ok h).elim
  | mget q c kt hk z =>
    simp only [actO] at h
    split at h
    · rename_i c' r m hq
      split at h
      · rename_i m' hm
        split at h
        · rename_i mt x y two ho
          split at h
          · rename_i kt' vt vx vy g1 g2 g3
            split at h
            · rename_i ti k k1 k2
              split at h
              · rename_i zv kz
                obtain ⟨ec, rfl⟩ := castM_eq hm
                subst ec
                obtain ⟨e, g, hg, h5⟩ := h
                simp only [Prod.mk.injEq] at e
                obtain ⟨rfl, rfl, rfl, rfl, _⟩ := e
                obtain ⟨j, hj⟩ := hI.hp.mem (List.mem_append_left F (dens_get hq))
                cases two with
                | true =>
                  refine (OpTo.mpGet2 j hI.env hI.hp hj hk hg ho g1 k1 kz g2 g3).mono ?_
                  rintro v w' ⟨rfl, rfl⟩
                  exact ⟨st, rfl, hI.hk, h5⟩
                | false =>
                  refine (OpTo.mpGet j hI.env hI.hp hj hk hg ho g1 k1 kz g2 g3).mono ?_
                  rintro v w' ⟨rfl, rfl⟩
                  exact ⟨st, rfl, hI.hk, h5⟩
              · exact (VC.fail_ok h).elim
            · exact (VC.fail_ok h).elim
          · exact (VC.fail_ok h).elim
        · exact (VC.fail_ok h).elim
      · exact (VC.fail_ok h).elim
    · exact (VC.fail_ok h).elim
  | mput q c kt hk =>
    simp only [actO] at h
    split at h
    · rename_i c' r m rest mt x y z h1 h2
      split at h
      · rename_i m' kt' vt vx vy vz hm g1 g2 g3 g4
        split at h
        · rename_i k v k1 k2
          obtain ⟨ec, rfl⟩ := castM_eq hm
          subst ec
          obtain ⟨e, h5⟩ := h
          simp only [Prod.mk.injEq] at e
          obtain ⟨rfl, rfl, rfl, rfl, _⟩ := e
          have H : St w0 (MpA r (E.mp c').ek (E.mp c').ev m :: (dens rest ++ F)) w := hI.hp.perm ((dens_pick1 h1).append_right F)
          refine (OpTo.putU (OpTo.mpPut hI.env H hk h2 g1 g2 g3 g4) h2).mono ?_
          rintro v' w' ⟨rfl, H'⟩
          exact ⟨⟨st.L, (q, .mp c' r (mPut (E.mp c').eq k v m)) :: rest, st.rd, st.ef, st.pr, st.vw⟩, rfl, ⟨H', hI.fs.1, hI.fs.2, hI.fs.3, hI.fs.4⟩, h5⟩
        · exact (VC.fail_ok h).elim
      · exact (VC.fail_ok h).elim
    · exact (VC.fail_ok h).elim
  | mdel q c kt hk =>
    simp only [actO] at h
    split at h
    · rename_i c' r m rest x y mt ts h1 h2
      split at h
      · rename_i m' kt' vt vx vy hm g1 g2 g3
        split at h
        · rename_i k k1
          obtain ⟨ec, rfl⟩ := castM_eq hm
          subst ec
          obtain ⟨e, h5⟩ := h
          simp only [Prod.mk.injEq] at e
          obtain ⟨rfl, rfl, rfl, _⟩ := e
          have H : St w0 (MpA r (E.mp c').ek (E.mp c').ev m :: (dens rest ++ F)) w := hI.hp.perm ((dens_pick1 h1).append_right F)
          refine (OpTo.mpDel hI.env H hk (bltParts_eq h2) (by simp) g1 g2 g3).mono ?_
          rintro v' w' ⟨rfl, H'⟩
          exact ⟨⟨st.L, (q, .mp c' r (mDel (E.mp c').eq k m)) :: rest, st.rd, st.ef, st.pr, st.vw⟩, rfl, ⟨H', hI.fs.1, hI.fs.2, hI.fs.3, hI.fs.4⟩, h5⟩
        · exact (VC.fail_ok h).elim
      · exact (VC.fail_ok h).elim
    · exact (VC.fail_ok h).elim
  | new q l =>
    simp only [actO] at h
    split at h
    · rename_i orc obs eqs h1 h2
      have h3 := h w.heap.size
      dsimp only at h3
      split at h3
      · rename_i cs T v obs' h4
        obtain ⟨h5, h6, h7⟩ := h3
        subst h5
        simp only [Bool.and_eq_true, Bool.not_eq_true'] at h1
        refine OpTo.of_run (w' := { w with heap := w.heap.push (.cells cs T (0, 0)) }) (v := v) ?_ ⟨⟨st.L, (q, .blk w.heap.size T cs.toList) :: st.As, st.rd, st.ef, st.pr, st.vw⟩, rfl, ⟨?_, hI.fs.1, hI.fs.2, hI.fs.3, hI.fs.4⟩, h7⟩
        · rw [exec_eq hI.env h1.1 h1.2]
          exact runNew_sound P w _ _ _ _ _ h4 (srcs_sound hI h2 (eqs_of h6))
        · have := hI.hp.alloc (.cells cs T (0, 0))
          simpa [dens, Atom.den] using this
      · exact (VC.fail_ok h3).elim
    · exact (VC.fail_ok h).elim
  | sto q =>
    simp only [actO] at h
    split at h
    · rename_i t x y b' T cs rest h1 h2
      split at h
      · rename_i b off v ti hx hy hi
        split at h
        · rename_i e1 e2 e3
          obtain ⟨rfl, h7⟩ := h
          have H : St w0 (Blk b T cs :: (dens rest ++ F)) w := hI.hp.perm ((dens_pick1 h2).append_right F)
          refine (OpTo.storeU hI.env H h1 hx hy hi (Nat.eq_of_beq_eq_true e1) e2 (Nat.le_of_ble_eq_true e3)).mono ?_
          rintro _ w' ⟨rfl, H'⟩
          exact ⟨⟨st.L, (q, .blk b T (putAt cs off v.cells.toList)) :: rest, st.rd, st.ef, st.pr, st.vw⟩, rfl, ⟨H', hI.fs.1, hI.fs.2, hI.fs.3, hI.fs.4⟩, h7⟩
        · exact (VC.fail_ok h).elim
      · exact (VC.fail_ok h).elim
    · exact (VC.fail_ok h).elim
  | call C l out =>
    simp only [actO] at h
    split at h
    · rename_i x xs ats rest h1 h2
      split at h
      · rename_i g cs vs ps rds e1 e2 e3
        split at h
        · rename_i i hi
          obtain ⟨e4, t, ht, h5⟩ := h
          simp only [Prod.mk.injEq] at e4
          obtain ⟨e5, rfl, rfl, rfl⟩ := e4
          have fn : ∀ {Rv : Value → World → Prop}, CallsR P C.C.fid (C.C.args i).toArray w Rv → OpTo P o a w Rv := by
            intro Rv hc
            rw [← e5] at hc
            unfold calleeOf at e1
            split at e1
            · simp only [Option.some.injEq, Prod.mk.injEq] at e1
              obtain ⟨e6, rfl⟩ := e1
              subst e6
              rw [List.append_nil] at hc
              exact OpTo.fn hI.env h1 e2 C.ent hc
            · split at e1
              · rename_i hx
                simp only [Option.some.injEq, Prod.mk.injEq] at e1
                obtain ⟨e6, rfl⟩ := e1
                subst e6
                exact OpTo.fv hI.env h1 hx e2 C.ent hc
              · cases e1
          have H : St w0 ((C.C.ats i).map Atom.den ++ (dens rest ++ F)) w := by
            have := hI.hp.perm ((dens_picks h2).append_right F)
            rwa [List.append_assoc] at this
          refine fn ((C.snd i t ht w0 w (dens rest ++ F) (gather_sound hI.fs.rd e3) H).mono ?_)
          rintro v w' ⟨ns, as, hn, ha, rfl, H', hfx⟩
          rw [← hn] at h5
          have h6 := frNs_ok _ _ h5
          rw [← ha] at h6
          have h7 := frAs_ok _ _ h6
          have fin : ∀ (v : Value) (l : List (Atom E)) (out : List Nat), St w0 (l.map Atom.den ++ (dens rest ++ F)) w' → (outK out l fun new => K v ⟨st.L, new ++ rest, st.rd, st.ef, fxP (C.C.fx i t) st.pr, vwO (C.C.opt i t) st.vw⟩).ok Φ → ∃ st', st'.L = st.L ∧ HpOk w0 F st' w' ∧ (K v st').ok Φ := by
            intro v l out Hl hk
            obtain ⟨new, hz, h8⟩ := outK_ok hk
            refine ⟨⟨st.L, new ++ rest, st.rd, st.ef, fxP (C.C.fx i t) st.pr, vwO (C.C.opt i t) st.vw⟩, rfl, ⟨?_, hI.fs.1, hI.fs.2, fxP_ok hI.fs.3 hfx, vwO_ok hI.fs.4⟩, h8⟩
            simp only [dens, List.map_append, hz, List.append_assoc]
            exact Hl
          unfold Con.valA
          unfold Con.postA at H'
          split at h7
          · rename_i hb
            rw [hb] at H' ⊢
            exact fin _ _ _ H' h7
          · rename_i hb
            rw [hb] at H' ⊢
            cases ho : C.C.om i t with
            | none =>
              rw [ho] at H'
              exact fin _ _ _ H' (h7.1 () (by rw [ho]; rfl))
            | some m =>
              rw [ho] at H'
              exact fin _ _ _ H' (h7.2 m (by rw [ho]; rfl))
        · exact (VC.fail_ok h).elim
      · exact (VC.fail_ok h).elim
    · exact (VC.fail_ok h).elim
end
end Go.Th
