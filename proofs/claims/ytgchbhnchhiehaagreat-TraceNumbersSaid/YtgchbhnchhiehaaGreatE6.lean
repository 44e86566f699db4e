/-
  The engine, part 6: channels by what they hold; slices of what lies elsewhere (of objects, of slices).
-/
import Derived.Test.YtgchbhnchhiehaaGreatE5
set_option linter.unusedVariables false
set_option linter.unusedSimpArgs false
namespace Go.Th

/-! Channels. -/
structure MCh (α : Type) where
  cap : Nat
  buf : List α
def vI (x : Int) : Value := .int .i64 x
def vB (x : Bool) : Value := .bool x
def vS (x : ByteArray) : Value := .string x
def ChM {α : Type} (c : Nat) (ev : α → Value) (m : MCh α) : HP := Ch c m.cap (m.buf.map ev)
def mChan (α : Type) (n : Int) : Option (MCh α) := if 0 ≤ n ∧ n ≤ 1073741824 then some ⟨n.toNat, []⟩ else none
def MCh.room {α : Type} (m : MCh α) : Bool := decide (m.buf.length < m.cap)
def MCh.push {α : Type} (m : MCh α) (x : α) : MCh α := ⟨m.cap, m.buf ++ [x]⟩
def MCh.rest {α : Type} (m : MCh α) (b : List α) : MCh α := ⟨m.cap, b⟩

section
variable {α : Type} {ev : α → Value} {P : Program} {f : FuncId} {k : List Item} {a : Act} {w w0 : World} {R : Value → World → Prop} {ops : Array Oper} {As : List HP} {n d c : Nat} {L : Env} {o : Oper} {m : MCh α}

theorem OpTo.makeCh {t e : TypeId} {dir : ChanDir} {x : Operand} {n1 : Int} {ti : TypeInfo} (ev : α → Value) (hl : mChan α n1 = some m) (hE : EnvOk n a L) (H : St w0 As w) (ho : o.op = .makeChan t x) (hx : evO L x = some (.int .i64 n1))
    (ht : P.underlying t = some (.chan dir e)) (hi : P.info? e = some ti) (hb : Nat.ble ti.bytes 131072 = true) :
    OpTo P o a w fun v w' => ∃ r : Nat, v = .chan (some r) ∧ St w0 (ChM r ev m :: As) w' := by
  unfold mChan at hl
  split at hl
  · rename_i hn
    cases hl
    obtain ⟨h0, h1⟩ := hn
    have hbb := Nat.le_of_ble_eq_true hb
    obtain ⟨dst, op, type, pos, after, guard⟩ := o
    simp only at ho
    subst ho
    obtain ⟨q, rfl⟩ := Int.eq_ofNat_of_zero_le h0
    have hq : q ≤ 1073741824 := by omega
    have hbk : ti.bytes * q ≤ 281474976710656 - 112 := by
      calc ti.bytes * q ≤ 131072 * 1073741824 := Nat.mul_le_mul hbb hq
        _ ≤ 281474976710656 - 112 := by decide
    have e1 : ¬ ((q : Int) < 0) := by omega
    have e2 : ¬ ((q : Int) > IntKind.i64.max) := by
      have : IntKind.i64.max = 9223372036854775807 := rfl
      rw [this]; omega
    have e3 : ¬ ((281474976710544 : Int) < (ti.bytes : Int) * (q : Int)) := by
      rw [← Int.natCast_mul]; omega
    have hrun : (Instr.makeChan t (.int .i64 (q : Int))).run P w = .ok (.chan (some w.heap.size)) { w with heap := w.heap.push (.chan q #[] false 0 0 false) } := by
      have e4 : IntKind.i64.max < (q : Int) ↔ False := iff_false_intro e2
      simp [Instr.makeChan, run_und P ht, asInt, asIntOf, typeInfo, hi, e4, e3, newObj]
      rw [if_neg (by omega)]
      rfl
    refine OpTo.of_run (w' := { w with heap := w.heap.push (.chan q #[] false 0 0 false) }) (v := .chan (some w.heap.size)) ?_ ⟨w.heap.size, rfl, ?_⟩
    · simp [execOp, hE.eval hx, hrun]
    · have H2 := H.alloc (.chan q #[] false 0 0 false)
      exact H2.head fun h hh => ⟨(0, 0), by simpa using hh⟩
  · cases hl

theorem Runs.selSendT {id : Nat} {x y : Operand} {e : TypeId} {u : α} {ti : TypeInfo} {z : Value} (hE : EnvOk n a L) (H : St w0 (ChM c ev m :: As) w) (hi0 : ops[0]? = some o) (hd : o.dst = some d) (hn : Nat.blt d n = true) (hg : o.guard = none)
    (ho : o.op = .select #[{ chan := x, send := some y, elem := e }] false) (hx : evO L x = some (.chan (some c))) (hy : evO L y = some (ev u)) (hi : P.info? e = some ti) (hz : ti.zero = some z) (hroom : m.room = true)
    (hk : ∀ a' w', EnvOk n a' ((d, .tuple #[goInt 0, .bool false]) :: L) → St w0 (ChM c ev (m.push u) :: As) w' → WR P f ops 1 k a' w' R) : Runs P f (.code (.region id ops false) :: k) a w R :=
  Runs.selSendRoom hE H hi0 hd hn hg ho hx hy hi hz (by simpa [MCh.room] using hroom) fun a' w' hE' H' => hk a' w' hE' (by simpa [ChM, MCh.push] using H')
theorem Runs.selSendF {id : Nat} {x y : Operand} {e : TypeId} {u : α} {ti : TypeInfo} {z : Value} (hE : EnvOk n a L) (H : St w0 (ChM c ev m :: As) w) (hi0 : ops[0]? = some o) (hd : o.dst = some d) (hn : Nat.blt d n = true) (hg : o.guard = none)
    (ho : o.op = .select #[{ chan := x, send := some y, elem := e }] false) (hx : evO L x = some (.chan (some c))) (hy : evO L y = some (ev u)) (hi : P.info? e = some ti) (hz : ti.zero = some z) (hroom : m.room = false)
    (hk : ∀ a', EnvOk n a' ((d, .tuple #[goInt (-1), .bool false]) :: L) → WR P f ops 1 k a' w R) : Runs P f (.code (.region id ops false) :: k) a w R :=
  Runs.selSendFull hE H hi0 hd hn hg ho hx hy hi hz (by simpa [MCh.room] using hroom) hk
theorem Runs.selRecvT {id : Nat} {x : Operand} {e : TypeId} {u : α} {b : List α} {ti : TypeInfo} {z : Value} (hb : m.buf = u :: b) (hE : EnvOk n a L) (H : St w0 (ChM c ev m :: As) w) (hi0 : ops[0]? = some o) (hd : o.dst = some d) (hn : Nat.blt d n = true) (hg : o.guard = none)
    (ho : o.op = .select #[{ chan := x, send := none, elem := e }] false) (hx : evO L x = some (.chan (some c))) (hi : P.info? e = some ti) (hz : ti.zero = some z)
    (hk : ∀ a' w', EnvOk n a' ((d, .tuple #[goInt 0, .bool true, ev u]) :: L) → St w0 (ChM c ev (m.rest b) :: As) w' → WR P f ops 1 k a' w' R) : Runs P f (.code (.region id ops false) :: k) a w R :=
  have H' : St w0 (Ch c m.cap (ev u :: b.map ev) :: As) w := by simpa [ChM, hb] using H
  Runs.selRecvSome hE H' hi0 hd hn hg ho hx hi hz fun a' w' hE' H' => hk a' w' hE' H'
theorem Runs.selRecvF {id : Nat} {x : Operand} {e : TypeId} {ti : TypeInfo} {z : Value} (hb : m.buf = []) (hE : EnvOk n a L) (H : St w0 (ChM c ev m :: As) w) (hi0 : ops[0]? = some o) (hd : o.dst = some d) (hn : Nat.blt d n = true) (hg : o.guard = none)
    (ho : o.op = .select #[{ chan := x, send := none, elem := e }] false) (hx : evO L x = some (.chan (some c))) (hi : P.info? e = some ti) (hz : ti.zero = some z)
    (hk : ∀ a', EnvOk n a' ((d, .tuple #[goInt (-1), .bool false, z]) :: L) → WR P f ops 1 k a' w R) : Runs P f (.code (.region id ops false) :: k) a w R :=
  Runs.selRecvNone hE (by simpa [ChM, hb] using H) hi0 hd hn hg ho hx hi hz hk
theorem OpTo.lenChM {x : Operand} {t e : TypeId} {dir : ChanDir} (i : Nat) (hE : EnvOk n a L) (H : St w0 As w) (hi : As[i]? = some (ChM c ev m)) (ho : o.op = .call { callee := .builtin .len, args := #[x], argTypes := #[t] }) (ht : P.underlying t = some (.chan dir e)) (hx : evO L x = some (.chan (some c))) :
    OpTo P o a w fun v w' => v = .int .i64 (m.buf.length : Int) ∧ w' = w := by
  refine (OpTo.lenCh i hE H hi ho ht hx).mono ?_
  rintro v w' ⟨rfl, rfl⟩
  exact ⟨by simp, rfl⟩
end

/-! Slices of what lies elsewhere. -/
section
variable {G α : Type} {T : TypeId} {enc : G → List Value} {R : G → α → HP} {w0 w : World} {As : List HP}
def Objs (R : G → α → HP) : List G → List α → List HP
  | g :: gs, x :: xs => R g x :: Objs R gs xs
  | _, _ => []
def SlX (T : TypeId) (enc : G → List Value) (R : G → α → HP) (sb : Option Addr) (sc : Nat) (l : List α) : HP := fun h =>
  ∃ gs : List G, gs.length = l.length ∧ sepL (Sl T enc 1 sb sc gs :: Objs R gs l) h
def But (R : G → α → HP) (gs : List G) (l : List α) (i : Int) : HP := sepL (Objs R (gs.eraseIdx i.toNat) (l.eraseIdx i.toNat))

theorem objs_perm : ∀ (gs : List G) (l : List α) (i : Nat) (g : G) (x : α), gs[i]? = some g → l[i]? = some x → (Objs R gs l).Perm (R g x :: Objs R (gs.eraseIdx i) (l.eraseIdx i))
  | [], l, i, g, x, h, _ => by simp at h
  | g' :: gs, [], i, g, x, _, h => by simp at h
  | g' :: gs, x' :: l, 0, g, x, h, h2 => by simp at h h2; subst h; subst h2; simp [Objs]
  | g' :: gs, x' :: l, i + 1, g, x, h, h2 => by
    simp only [Objs, List.eraseIdx_cons_succ]
    exact ((objs_perm gs l i g x (by simpa using h) (by simpa using h2)).cons (R g' x')).trans (List.Perm.swap _ _ _)
theorem St.unex {A : G → HP} (g : G) (H : St w0 (A g :: As) w) : St w0 ((fun h => ∃ g, A g h) :: As) w := H.head fun h hh => ⟨g, hh⟩
theorem St.slxOpen {sb : Option Addr} {sc : Nat} {l : List α} (H : St w0 (SlX T enc R sb sc l :: As) w) : ∃ gs : List G, gs.length = l.length ∧ St w0 (Sl T enc 1 sb sc gs :: (Objs R gs l ++ As)) w := by
  obtain ⟨gs, H⟩ := H.ex
  have hl := H.fact (q := gs.length = l.length) fun h hh => hh.1
  exact ⟨gs, hl, (H.head fun h hh => hh.2).flat⟩
theorem St.slxShut {sb : Option Addr} {sc : Nat} (gs : List G) (l : List α) (hl : gs.length = l.length) (H : St w0 (Sl T enc 1 sb sc gs :: (Objs R gs l ++ As)) w) : St w0 (SlX T enc R sb sc l :: As) w :=
  (St.group (Sl T enc 1 sb sc gs :: Objs R gs l) H).head fun h hh => ⟨gs, hl, hh⟩
theorem St.slxTake {sb : Option Addr} {sc : Nat} {l : List α} {i : Int} {x : α} (H : St w0 (SlX T enc R sb sc l :: As) w) (e : mIdx l i = some x) :
    ∃ (gs : List G) (g : G), gs.length = l.length ∧ mIdx gs i = some g ∧ St w0 (R g x :: Sl T enc 1 sb sc gs :: But R gs l i :: As) w := by
  obtain ⟨gs, hl, H⟩ := H.slxOpen
  obtain ⟨⟨h0, h1⟩, h2⟩ := idx_spec e
  have hlt : i.toNat < gs.length := by rw [hl]; exact (List.getElem?_eq_some_iff.1 h2).1
  refine ⟨gs, gs[i.toNat], hl, by simp [mIdx, h0, hlt], ?_⟩
  have hp := objs_perm (R := R) gs l i.toNat gs[i.toNat] x (by simp [hlt]) h2
  have H2 := H.perm ((hp.append_right As).cons _)
  have H3 : St w0 (Objs R (gs.eraseIdx i.toNat) (l.eraseIdx i.toNat) ++ (R gs[i.toNat] x :: Sl T enc 1 sb sc gs :: As)) w := by
    refine H2.perm ?_
    exact (List.Perm.swap _ _ _).trans (List.perm_append_comm_assoc [R gs[i.toNat] x, Sl T enc 1 sb sc gs] _ As)
  exact ((St.group _ H3).t2).t2
theorem St.slxPut {sb : Option Addr} {sc : Nat} {gs : List G} {l : List α} {i : Int} {x x' : α} {g g' : G} (H : St w0 (R g' x' :: Sl T enc 1 sb sc gs :: But R gs l i :: As) w) (e : mIdx l i = some x) (hl : gs.length = l.length) (hg : mIdx gs i = some g) (he : enc g' = enc g) :
    St w0 (SlX T enc R sb sc (mSet l i x') :: As) w := by
  obtain ⟨⟨h0, h1⟩, h2⟩ := idx_spec e
  obtain ⟨_, h3⟩ := idx_spec hg
  have hlt : i.toNat < gs.length := by rw [hl]; exact (List.getElem?_eq_some_iff.1 h2).1
  have hfl : (gs.set i.toNat g').flatMap enc = gs.flatMap enc := by
    have : ∀ (gs : List G) (j : Nat), gs[j]? = some g → (gs.set j g').flatMap enc = gs.flatMap enc := by
      intro gs
      induction gs with
      | nil => intro j; simp
      | cons a gs ih =>
        intro j hj
        cases j with
        | zero => simp at hj; subst hj; simp [he]
        | succ j => simp at hj; simp [ih j hj]
    exact this gs i.toNat h3
  have hsl : Sl T enc 1 sb sc gs = Sl T enc 1 sb sc (gs.set i.toNat g') := by
    funext h
    simp only [Sl, hfl, List.length_set]
    have : (gs = []) = (gs.set i.toNat g' = []) := by
      rw [← List.length_eq_zero_iff, ← List.length_eq_zero_iff, List.length_set]
    rw [this]
  have hbut : But R gs l i = sepL (Objs R ((gs.set i.toNat g').eraseIdx i.toNat) ((l.set i.toNat x').eraseIdx i.toNat)) := by
    unfold But
    rw [List.eraseIdx_set_eq, List.eraseIdx_set_eq]
  rw [hsl, hbut] at H
  have H2 := H.t2.flat
  have hp := objs_perm (R := R) (gs.set i.toNat g') (l.set i.toNat x') i.toNat g' x' (by simp [hlt]) (by rw [List.getElem?_set_self (by omega)])
  refine St.slxShut (gs.set i.toNat g') (l.set i.toNat x') (by simp [hl]) (H2.perm ?_)
  refine List.Perm.trans ?_ ((hp.symm.append_right As).cons _)
  refine List.Perm.trans (List.perm_append_comm_assoc _ [R g' x', Sl T enc 1 sb sc (gs.set i.toNat g')] As) ?_
  exact List.Perm.swap _ _ _
theorem mSet_self {l : List α} {i : Int} {x : α} (e : mIdx l i = some x) : mSet l i x = l := by
  obtain ⟨⟨h0, h1⟩, h2⟩ := idx_spec e
  obtain ⟨h3, h4⟩ := List.getElem?_eq_some_iff.1 h2
  unfold mSet
  rw [← h4, List.set_getElem_self]
theorem St.slxPut0 {sb : Option Addr} {sc : Nat} {gs : List G} {l : List α} {i : Int} {x : α} {g g' : G} (H : St w0 (R g' x :: Sl T enc 1 sb sc gs :: But R gs l i :: As) w) (e : mIdx l i = some x) (hl : gs.length = l.length) (hg : mIdx gs i = some g) (he : enc g' = enc g) :
    St w0 (SlX T enc R sb sc l :: As) w := by
  have := H.slxPut e hl hg he
  rwa [mSet_self e] at this
/-- The element is another one. -/
theorem St.slxPutN {sb : Option Addr} {sc : Nat} {gs : List G} {l : List α} {i : Int} {x x' : α} {g g' : G} (H : St w0 (R g' x' :: Sl T enc 1 sb sc (mSet gs i g') :: But R gs l i :: As) w) (e : mIdx l i = some x) (hl : gs.length = l.length) (hg : mIdx gs i = some g) :
    St w0 (SlX T enc R sb sc (mSet l i x') :: As) w := by
  obtain ⟨⟨h0, h1⟩, h2⟩ := idx_spec e
  have hlt : i.toNat < gs.length := by rw [hl]; exact (List.getElem?_eq_some_iff.1 h2).1
  have hbut : But R gs l i = But R (mSet gs i g') (mSet l i x) i := by
    unfold But mSet
    rw [List.eraseIdx_set_eq, List.eraseIdx_set_eq]
  rw [hbut] at H
  have := H.slxPut (l := mSet l i x) (x := x) (g := g') (i := i) (by simp only [mIdx, mSet, h0, if_pos]; exact List.getElem?_set_self (List.getElem?_eq_some_iff.1 h2).1) (by simp [mSet, hl]) (by simp [mIdx, mSet, h0, hlt]) rfl
  have e2 : mSet (mSet l i x) i x' = mSet l i x' := by simp [mSet]
  rwa [e2] at this
theorem St.slxNil (T : TypeId) (enc : G → List Value) (R : G → α → HP) (H : St w0 As w) : St w0 (SlX T enc R none 0 [] :: As) w :=
  St.slxShut [] [] rfl (by simpa [Objs] using H.slNil T enc 1)
theorem St.slxOf {sb : Option Addr} {sc : Nat} (gs : List G) (l : List α) (hl : gs.length = l.length) {Bs : List HP} (H : St w0 (Sl T enc 1 sb sc gs :: Bs) w) (hB : Bs = Objs R gs l ++ As) : St w0 (SlX T enc R sb sc l :: As) w := by
  subst hB
  exact St.slxShut gs l hl H
theorem objs_append : ∀ (gs hs : List G) (l m : List α), gs.length = l.length → Objs R (gs ++ hs) (l ++ m) = Objs R gs l ++ Objs R hs m
  | [], hs, [], m, _ => by simp [Objs]
  | g :: gs, hs, x :: l, m, h => by simp only [List.cons_append, Objs]; rw [objs_append gs hs l m (by simpa using h)]
  | [], hs, x :: l, m, h => by simp at h
  | g :: gs, hs, [], m, h => by simp at h
theorem OpTo.appendX {P : Program} {n : Nat} {a : Act} {L : Env} {o : Oper} {x y : Operand} {t u : TypeId} {d : TypeId} {ti : TypeInfo} {sb xb : Option Addr} {sc xc : Nat} {l ys r : List α} (hr : mApp l ys = some r) (hE : EnvOk n a L) (H : St w0 (SlX T enc R sb sc l :: SlX T enc R xb xc ys :: As) w) (he : EncOk enc 1)
    (ho : o.op = .call { callee := .builtin .append, args := #[x, y], argTypes := #[t, u] }) (hx : evO L x = some (.slice sb l.length sc)) (hy : evO L y = some (.slice xb ys.length xc))
    (ht : P.underlying t = some (.slice T)) (hu : P.underlying u = some (.slice d)) (hi : P.info? T = some ti) (hsz : ti.size = 1) {z : Value} (hz : ti.zero = some z) (hzs : z.cells.size = 1) (hb : Nat.ble ti.bytes 131072 = true) :
    OpTo P o a w fun v w' => ∃ sb' sc', v = .slice sb' r.length sc' ∧ St w0 (SlX T enc R sb' sc' r :: As) w' := by
  obtain ⟨rfl, hle⟩ := app_spec hr
  obtain ⟨gs, hl, H⟩ := H.slxOpen
  have H1 : St w0 (SlX T enc R xb xc ys :: Sl T enc 1 sb sc gs :: (Objs R gs l ++ As)) w := H.perm (List.perm_middle (l₁ := Sl T enc 1 sb sc gs :: Objs R gs l))
  obtain ⟨hs, hl2, H2⟩ := H1.slxOpen
  have H3 : St w0 (Sl T enc 1 sb sc gs :: Sl T enc 1 xb xc hs :: (Objs R hs ys ++ (Objs R gs l ++ As))) w := by
    refine H2.perm ?_
    exact (List.Perm.cons _ (List.perm_middle (l₁ := Objs R hs ys))).trans (List.Perm.swap _ _ _)
  have hrd := SlRd.all (sl_rd T enc 1 xb xc hs) he H3 1 rfl
  have := OpTo.appendM (P := P) (o := o) (r := gs ++ hs) (ys := hs) (m := ys.length) (xb := xb) (xc := xc) (by unfold mApp; rw [if_pos (by omega)]) hE H3 he ho (by rw [hl]; exact hx) hy ht hu hi hsz hz hzs hl2.symm hrd hb
  refine this.mono ?_
  rintro v w' ⟨sb', sc', rfl, H4⟩
  refine ⟨sb', sc', by simp [hl, hl2], ?_⟩
  refine St.slxShut (gs ++ hs) (l ++ ys) (by simp [hl, hl2]) ?_
  rw [objs_append gs hs l ys hl]
  have H5 := H4.t1.drop
  refine H5.perm (List.Perm.cons _ ?_)
  rw [List.append_assoc]
  exact List.perm_append_comm_assoc _ _ _
end

/-! Slices of slices. -/
def ecH (g : Option Addr × Nat × Nat) : List Value := [.slice g.1 g.2.1 g.2.2]
theorem ecH_ok : EncOk ecH 1 := ⟨fun _ => rfl, fun x u hu => by simp [ecH] at hu; subst hu; rfl⟩
def RS {α : Type} (T : TypeId) (enc : α → List Value) (sz : Nat) (g : Option Addr × Nat × Nat) (x : List α) : HP := fun h => g.2.1 = x.length ∧ Sl T enc sz g.1 g.2.2 x h
section
variable {α : Type} {T T' : TypeId} {enc : α → List Value} {sz : Nat} {w0 w : World} {As : List HP}
theorem St.rsOpen {g : Option Addr × Nat × Nat} {x : List α} (H : St w0 (RS T enc sz g x :: As) w) : ∃ b c, g = (b, x.length, c) ∧ St w0 (Sl T enc sz b c x :: As) w := by
  have hl := H.fact (q := g.2.1 = x.length) fun h hh => hh.1
  exact ⟨g.1, g.2.2, by rw [← hl], H.head fun h hh => hh.2⟩
theorem St.rsShut {b : Option Addr} {c : Nat} {x : List α} (H : St w0 (Sl T enc sz b c x :: As) w) : St w0 (RS T enc sz (b, x.length, c) x :: As) w := H.head fun h hh => ⟨rfl, hh⟩
theorem St.sxTake {sb : Option Addr} {sc : Nat} {l : List (List α)} {i : Int} {x : List α} (H : St w0 (SlX T' ecH (RS T enc sz) sb sc l :: As) w) (e : mIdx l i = some x) :
    ∃ (gs : List (Option Addr × Nat × Nat)) (b : Option Addr) (c : Nat), gs.length = l.length ∧ mIdx gs i = some (b, x.length, c) ∧ St w0 (Sl T enc sz b c x :: Sl T' ecH 1 sb sc gs :: But (RS T enc sz) gs l i :: As) w := by
  obtain ⟨gs, g, hl, hg, H⟩ := H.slxTake e
  obtain ⟨b, c, rfl, H2⟩ := H.rsOpen
  exact ⟨gs, b, c, hl, hg, H2⟩
theorem St.sxPut {sb : Option Addr} {sc : Nat} {gs : List (Option Addr × Nat × Nat)} {l : List (List α)} {i : Int} {x x' : List α} {b : Option Addr} {c : Nat} (H : St w0 (Sl T enc sz b c x' :: Sl T' ecH 1 sb sc gs :: But (RS T enc sz) gs l i :: As) w) (e : mIdx l i = some x) (hl : gs.length = l.length) (hg : mIdx gs i = some (b, x'.length, c)) :
    St w0 (SlX T' ecH (RS T enc sz) sb sc (mSet l i x') :: As) w := H.rsShut.slxPut e hl hg rfl
theorem St.sxPut0 {sb : Option Addr} {sc : Nat} {gs : List (Option Addr × Nat × Nat)} {l : List (List α)} {i : Int} {x : List α} {b : Option Addr} {c : Nat} (H : St w0 (Sl T enc sz b c x :: Sl T' ecH 1 sb sc gs :: But (RS T enc sz) gs l i :: As) w) (e : mIdx l i = some x) (hl : gs.length = l.length) (hg : mIdx gs i = some (b, x.length, c)) :
    St w0 (SlX T' ecH (RS T enc sz) sb sc l :: As) w := H.rsShut.slxPut0 e hl hg rfl
theorem St.sxPutN {sb : Option Addr} {sc : Nat} {gs : List (Option Addr × Nat × Nat)} {l : List (List α)} {i : Int} {x x' : List α} {b b0 : Option Addr} {c c0 : Nat} {n0 : Nat} (H : St w0 (Sl T enc sz b c x' :: Sl T' ecH 1 sb sc (mSet gs i (b, x'.length, c)) :: But (RS T enc sz) gs l i :: As) w) (e : mIdx l i = some x) (hl : gs.length = l.length) (hg : mIdx gs i = some (b0, n0, c0)) :
    St w0 (SlX T' ecH (RS T enc sz) sb sc (mSet l i x') :: As) w := H.rsShut.slxPutN e hl hg
theorem objs_nil (T : TypeId) (enc : α → List Value) (sz : Nat) (H : St w0 As w) : ∀ n : Nat, St w0 (Objs (RS T enc sz) (List.replicate n (none, 0, 0)) (List.replicate n []) ++ As) w
  | 0 => by simpa [Objs] using H
  | n + 1 => by
    have := (objs_nil T enc sz H n).slNil T enc sz
    simpa [List.replicate_succ, Objs] using this.rsShut
theorem OpTo.makeX {P : Program} {n : Nat} {a : Act} {L : Env} {o : Oper} {t : TypeId} {x : Operand} {m : Int} {l : List (List α)} {ti : TypeInfo} {zv : Value} (hl : mMake m ([] : List α) = some l) (hE : EnvOk n a L) (H : St w0 As w) (ho : o.op = .makeSlice t x x) (hx : evO L x = some (.int .i64 m))
    (ht : P.underlying t = some (.slice T')) (hi : P.info? T' = some ti) (hs : ti.size = 1) (hz : ti.zero = some zv) (hc : zv.cells.toList = [.slice none 0 0]) (hb : Nat.ble ti.bytes 131072 = true) :
    OpTo P o a w fun v w' => ∃ r : Nat, v = .slice (some ⟨r, 0, none⟩) l.length l.length ∧ St w0 (SlX T' ecH (RS T enc sz) (some ⟨r, 0, none⟩) l.length l :: As) w' := by
  obtain ⟨h0, rfl⟩ := make_spec hl
  have := OpTo.make (P := P) (o := o) (z := ((none, 0, 0) : Option Addr × Nat × Nat)) (l := List.replicate m.toNat (none, 0, 0)) (by unfold mMake; rw [if_pos h0]) hE H ecH_ok ho hx ht hi hs hz hc hb
  refine this.mono ?_
  rintro v w' ⟨r, rfl, H2⟩
  refine ⟨r, by simp, ?_⟩
  refine St.slxShut (List.replicate m.toNat (none, 0, 0)) (List.replicate m.toNat []) (by simp) ?_
  have H3 := objs_nil T enc sz H2 m.toNat
  simp only [List.length_replicate] at H3 ⊢
  exact H3.perm (List.perm_middle)
end
end Go.Th
