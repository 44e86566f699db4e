/-
  The engine by certificates, part 3: code by certificates.
-/
import Derived.Test.YtgchbhnchhiehaaGreatR2
set_option linter.unusedVariables false
set_option linter.unusedSimpArgs false
namespace Go.Th
section
variable {E : Ev} {P : Program}

theorem HpOk.kn {n : Nat} {w0 w : World} {F : List HP} {st : Kn E} {a : Act} {L : Env} (h : HpOk w0 F st w) (hE : EnvOk n a L) : KnOk n w0 F ⟨L, st.As, st.rd, st.ef, st.pr, st.vw⟩ a w := ⟨hE, h.hp, h.fs.1, h.fs.2, h.fs.3, h.fs.4⟩

/-! A step of a region whose order is fixed. -/
def idxC {R : Type} (st : Kn E) (c : Nat) (sb : Option Addr) (l : List (E.el c).α) (rdr : Bool) (x : Operand) (e : Nat) (K : Kn E → VC R) : VC R :=
  match evO st.L x with
  | some (.int _ i) => .bind (mIdx l i) fun y => .frN fun b => .frN fun o => K ⟨st.L, st.As, st.rd, (e, ⟨rdr, c, sb, l, i, y, b, o⟩) :: st.ef, st.pr, st.vw⟩
  | _ => .fail
def idkC {R : Type} (st : Kn E) (c : Nat) (sb : Option Addr) (l : List (E.el c).α) (rdr : Bool) (x : Operand) (e : Nat) (K : Kn E → VC R) : VC R :=
  match evO st.L x with
  | some (.int _ i) => match mIdx l i with
    | some y => .frN fun b => .frN fun o => K ⟨st.L, st.As, st.rd, (e, ⟨rdr, c, sb, l, i, y, b, o⟩) :: st.ef, st.pr, st.vw⟩
    | none => .fail
  | _ => .fail
def idkS {R : Type} (st : Kn E) (rdr : Bool) (q : Nat) (x : Operand) (e : Nat) (K : Kn E → VC R) : VC R :=
  match rdr with
  | true => match getK q st.rd with
    | some r => idkC st r.c r.sb r.l true x e K
    | none => .fail
  | false => match getK q st.As with
    | some (.sl c T sb sc l) => idkC st c sb l false x e K
    | _ => .fail
def idxS {R : Type} (st : Kn E) (rdr : Bool) (q : Nat) (x : Operand) (e : Nat) (K : Kn E → VC R) : VC R :=
  match rdr with
  | true => match getK q st.rd with
    | some r => idxC st r.c r.sb r.l true x e K
    | none => .fail
  | false => match getK q st.As with
    | some (.sl c T sb sc l) => idxC st c sb l false x e K
    | _ => .fail
/-- The length of a slice that was stored to, told anew. -/
def rlN {R : Type} (st : Kn E) (e : Nat) (K : Nat → Nat → VC R) : VC R :=
  match getK e st.ef, getK (e + 100000) st.ef with
  | some f, some g => match castE f.c g.l with
    | some l => .req f.l (mSet l g.i f.x) (K l.length f.l.length)
    | none => .fail
  | _, _ => .fail
theorem rlN_sound {R : Type} {st : Kn E} {e : Nat} {K : Nat → Nat → VC R} {Φ : R → Prop} (h : (rlN st e K).ok Φ) : ∃ n, (K n n).ok Φ := by
  unfold rlN at h
  split at h
  · split at h
    · obtain ⟨h1, h2⟩ := h
      rw [h1, mSet_len] at h2
      exact ⟨_, h2⟩
    · exact (VC.fail_ok h).elim
  · exact (VC.fail_ok h).elim
def rlcC {R : Type} (st : Kn E) (e q off : Nat) (K : Kn E → VC R) : VC R := rlN st e fun n n' => match pick1 q st.As with
  | some (.blk b T cs, rest) => match cs[off]? with
    | some (.slice sb m sc) => .req m n (K ⟨st.L, (q, .blk b T (cs.set off (.slice sb n' sc))) :: rest, st.rd, st.ef, st.pr, st.vw⟩)
    | _ => .fail
  | _ => .fail
def rlsC {R : Type} (st : Kn E) (e t : Nat) (K : Kn E → VC R) : VC R := rlN st e fun n n' => match look t st.L with
  | some (.slice sb m sc) => .req m n (K ⟨(t, .slice sb n' sc) :: st.L, st.As, st.rd, st.ef, st.pr, st.vw⟩)
  | _ => .fail
/-- An operand's number, where it is given. -/
def opI (L : Env) : Option Operand → Option (Option Int)
  | none => some none
  | some x => match evO L x with
    | some (.int _ i) => some (some i)
    | _ => none
/-- A part of a slice. -/
def cutC {R : Type} (st : Kn E) (c : Nat) (sb : Option Addr) (sc : Nat) (l : List (E.el c).α) (lo hi : Option Int) (K : VwV E → VC R) : VC R :=
  .bind (mCut l (loI lo) (hiI l.length hi)) fun r => .frA fun sb' => .frN fun sc' => K ⟨c, sb, sc, l, lo, hi, sb', sc', r⟩
def cutS {R : Type} (st : Kn E) (rdr : Bool) (q : Nat) (lo hi : Option Operand) (v : Nat) (K : Kn E → VC R) : VC R :=
  match opI st.L lo, opI st.L hi with
  | some lo, some hi => match rdr with
    | true => match getK q st.rd with
      | some r => cutC st r.c r.sb r.sc r.l lo hi fun u => K ⟨st.L, st.As, (v, ⟨u.c, u.sb', u.sc', u.r⟩) :: st.rd, st.ef, st.pr, (v, .cut u) :: st.vw⟩
      | none => .fail
    | false => match getK q st.As with
      | some (.sl c T sb sc l) => cutC st c sb sc l lo hi fun u => K ⟨st.L, st.As, st.rd, st.ef, st.pr, (v, .cut u) :: st.vw⟩
      | _ => .fail
  | _, _ => .fail
def ownS {R : Type} (st : Kn E) (v q : Nat) (K : Kn E → VC R) : VC R :=
  match getK v st.vw, pick1 q st.As with
  | some (.cut u), some (.sl c T sb sc l, rest) => .req (Atom.sl (E := E) c T sb sc l) (.sl u.c T u.sb u.sc u.l) (K ⟨st.L, (q, .sl u.c T u.sb' u.sc' u.r) :: rest, st.rd, st.ef, st.pr, st.vw⟩)
  | _, _ => .fail
def sameS {R : Type} (st : Kn E) (q m : Nat) (K : Kn E → VC R) : VC R :=
  match getK q st.As with
  | some (.sl c T sb sc l) => .bind (mSame l.length m) fun _ => K ⟨st.L, st.As, st.rd, st.ef, (79, l.length = m) :: st.pr, st.vw⟩
  | _ => .fail
/-- The length of a slice that was changed in place. -/
def rlpS {R : Type} (st : Kn E) (t q : Nat) (K : Kn E → VC R) : VC R :=
  match getK q st.As, getK 78 st.pr, look t st.L with
  | some (.sl c T sb sc l), some p, some (.slice sb' n sc') => .req p (l.length = n) (K ⟨(t, .slice sb' l.length sc') :: st.L, st.As, st.rd, st.ef, st.pr, st.vw⟩)
  | _, _, _ => .fail
def rlqS {R : Type} (st : Kn E) (b off q : Nat) (K : Kn E → VC R) : VC R :=
  match getK q st.As, getK 78 st.pr, pick1 b st.As with
  | some (.sl c T sb sc l), some p, some (.blk r T' cs, rest) => match cs[off]? with
    | some (.slice sb' n sc') => .req p (l.length = n) (K ⟨st.L, (b, .blk r T' (cs.set off (.slice sb' l.length sc'))) :: rest, st.rd, st.ef, st.pr, st.vw⟩)
    | _ => .fail
  | _, _, _ => .fail
/-- An element of an array in a block. -/
def pixS {R : Type} (st : Kn E) (q off n c : Nat) (x : Operand) (e : Nat) (K : Kn E → VC R) : VC R :=
  match getK q st.As, evO st.L x with
  | some (.blk b T cs), some (.int _ i) => match decAll (E.el c) n (cs.drop off) with
    | some xs => .bind (mIdx xs i) fun y => K ⟨st.L, st.As, st.rd, (e, ⟨false, c, some ⟨b, off, none⟩, xs, i, y, b, off⟩) :: st.ef, (e, 0 ≤ i ∧ i < ((xs.length : Nat) : Int)) :: st.pr, st.vw⟩
    | none => .fail
  | _, _ => .fail
theorem pixS_sound {R : Type} {n' : Nat} {w0 w : World} {F : List HP} {st : Kn E} {a : Act} {Φ : R → Prop} {q off n c : Nat} {x : Operand} {e : Nat} {K : Kn E → VC R} (hI : KnOk n' w0 F st a w) (h : (pixS st q off n c x e K).ok Φ) : ∃ st', KnOk n' w0 F st' a w ∧ (K st').ok Φ := by
  unfold pixS at h
  split at h
  · rename_i b T cs k i h1 h2
    split at h
    · rename_i xs hxs
      obtain ⟨y, hy, h3⟩ := h
      refine ⟨⟨st.L, st.As, st.rd, (e, ⟨false, c, some ⟨b, off, none⟩, xs, i, y, b, off⟩) :: st.ef, (e, 0 ≤ i ∧ i < ((xs.length : Nat) : Int)) :: st.pr, st.vw⟩, ⟨hI.env, hI.hp, hI.fs.1, ?_, ?_, hI.fs.4⟩, h3⟩
      · intro p hp
        cases hp with
        | head => exact ⟨rfl, hy, fun h => by cases h⟩
        | tail _ hm => exact hI.fs.2 p hm
      · intro p hp
        cases hp with
        | head => exact idx_len hy
        | tail _ hm => exact hI.fs.3 p hm
    · exact (VC.fail_ok h).elim
  · exact (VC.fail_ok h).elim
def elS {R : Type} (st : Kn E) (t e : Nat) (K : Kn E → VC R) : VC R :=
  match getK e st.ef, look t st.L with
  | some f, some V => .req V (.pointer (some ⟨f.b, f.o + f.i.toNat * (E.el f.c).sz, none⟩)) (K ⟨(t, elemV f.sb (E.el f.c).sz (some f.i)) :: st.L, st.As, st.rd, (99999, f) :: st.ef, st.pr, st.vw⟩)
  | _, _ => .fail
/-- Steps that stand for no operation: an element is looked up; a number is what it must be. -/
def ghost {R : Type} (st : Kn E) (s : Stp E P) (K : Kn E → VC R) : VC R :=
  match s with
  | .idx rdr q x e => idxS st rdr q x e K
  | .gd k x j => match evO st.L x with
    | some (.int _ v) => match k with
      | 0 => .bind (mNz v) fun _ => K ⟨st.L, st.As, st.rd, st.ef, (j, v ≠ 0) :: st.pr, st.vw⟩
      | 1 => .bind (mNn v) fun _ => K ⟨st.L, st.As, st.rd, st.ef, (j, 0 ≤ v) :: st.pr, st.vw⟩
      | m + 2 => .bind (mIn v m) fun _ => K ⟨st.L, st.As, st.rd, st.ef, (j, 0 ≤ v ∧ v < ((m : Nat) : Int)) :: st.pr, st.vw⟩
    | _ => .fail
  | .idk rdr q x e => idkS st rdr q x e K
  | .nil q c T => K ⟨st.L, (q, .sl c T none 0 []) :: st.As, st.rd, st.ef, st.pr, st.vw⟩
  | .rlc e q off => rlcC st e q off K
  | .rls e t => rlsC st e t K
  | .cut rdr q lo hi v => cutS st rdr q lo hi v K
  | .own v q => ownS st v q K
  | .el t e => elS st t e K
  | .same q m => sameS st q m K
  | .rlp t q => rlpS st t q K
  | .rlq b off q => rlqS st b off q K
  | .pix q off n c x e => pixS st q off n c x e K
  | _ => .fail
def dstOk (n : Nat) : Option Tmp → Bool
  | none => true
  | some d => Nat.blt d n
def putE (d : Option Tmp) (v : Value) (L : Env) : Env := match d with
  | none => L
  | some d => (d, v) :: L
def stepW {R : Type} (n : Nat) (ops : Array Oper) (i : Nat) (st : Kn E) (s : Stp E P) (K : Nat → Kn E → VC R) : VC R :=
  match s with
  | .seg c l => match Nat.ble (i + c) ops.size, srcs st l with
    | true, some (orc, obs, eqs) => match evSeg P n ops (List.range' i c) st.L orc with
      | some (L', obs') => .req obs' obs (.req (eqs.map (·.1)) (eqs.map (·.2)) (K (i + c) ⟨L', st.As, st.rd, st.ef, st.pr, st.vw⟩))
      | none => .fail
    | _, _ => .fail
  | .idx rdr q x e => ghost (P := P) st (.idx rdr q x e) fun st' => K i st'
  | .gd k x j => ghost (P := P) st (.gd k x j) fun st' => K i st'
  | .idk rdr q x e => ghost (P := P) st (.idk rdr q x e) fun st' => K i st'
  | .nil q c T => ghost (P := P) st (.nil q c T) fun st' => K i st'
  | .rlc e q off => ghost (P := P) st (.rlc e q off) fun st' => K i st'
  | .rls e t => ghost (P := P) st (.rls e t) fun st' => K i st'
  | .cut rdr q lo hi v => ghost (P := P) st (.cut rdr q lo hi v) fun st' => K i st'
  | .own v q => ghost (P := P) st (.own v q) fun st' => K i st'
  | .el t e => ghost (P := P) st (.el t e) fun st' => K i st'
  | .same q m => ghost (P := P) st (.same q m) fun st' => K i st'
  | .rlp t q => ghost (P := P) st (.rlp t q) fun st' => K i st'
  | .rlq b off q => ghost (P := P) st (.rlq b off q) fun st' => K i st'
  | .pix q off m c x e => ghost (P := P) st (.pix q off m c x e) fun st' => K i st'
  | s => match ops[i]? with
    | none => .fail
    | some o => match wantedL ops st.L o with
      | some true => match dstOk n o.dst with
        | true => actO o st s fun v st' => K (i + 1) ⟨putE o.dst v st.L, st'.As, st'.rd, st'.ef, st'.pr, st'.vw⟩
        | false => .fail
      | _ => .fail

theorem idxC_sound {R : Type} {n : Nat} {w0 w : World} {F : List HP} {st : Kn E} {a : Act} {Φ : R → Prop} {c : Nat} {sb : Option Addr} {l : List (E.el c).α} {rdr : Bool} {x : Operand} {e : Nat} {K : Kn E → VC R} {X : HP} (hI : KnOk n w0 F st a w)
    (hX : SlRd X (E.el c).enc (E.el c).sz sb l) (hm : X ∈ dens st.As ++ F) (hr : rdr = true → X ∈ F) (h : (idxC st c sb l rdr x e K).ok Φ) : ∃ st', KnOk n w0 F st' a w ∧ (K st').ok Φ := by
  unfold idxC at h
  split at h
  · rename_i k i hx
    obtain ⟨y, hy, h1⟩ := h
    obtain ⟨j, hj⟩ := hI.hp.mem hm
    obtain ⟨b, o, hs, _⟩ := hX.base (E.el c).ok hI.hp j hj hy
    refine ⟨⟨st.L, st.As, st.rd, (e, ⟨rdr, c, sb, l, i, y, b, o⟩) :: st.ef, st.pr, st.vw⟩, ⟨hI.env, hI.hp, hI.fs.1, ?_, hI.fs.3, hI.fs.4⟩, h1 b o⟩
    intro p hp
    cases hp with
    | head => exact ⟨hs, hy, fun h => ⟨X, hr h, hX⟩⟩
    | tail _ hm => exact hI.fs.2 p hm
  · exact (VC.fail_ok h).elim
theorem idxS_sound {R : Type} {n : Nat} {w0 w : World} {F : List HP} {st : Kn E} {a : Act} {Φ : R → Prop} {rdr : Bool} {q : Nat} {x : Operand} {e : Nat} {K : Kn E → VC R} (hI : KnOk n w0 F st a w)
    (h : (idxS st rdr q x e K).ok Φ) : ∃ st', KnOk n w0 F st' a w ∧ (K st').ok Φ := by
  unfold idxS at h
  split at h
  · split at h
    · rename_i r hr
      obtain ⟨j, hj⟩ := getK_mem hr
      obtain ⟨X, hX, h1, _⟩ := hI.fs.1 _ hj
      exact idxC_sound hI h1 (List.mem_append_right _ hX) (fun _ => hX) h
    · exact (VC.fail_ok h).elim
  · split at h
    · rename_i c T sb sc l hq
      exact idxC_sound hI (sl_rd T (E.el c).enc (E.el c).sz sb sc l) (List.mem_append_left F (dens_get hq)) (fun h => by cases h) h
    · exact (VC.fail_ok h).elim

theorem idkC_sound {R : Type} {n : Nat} {w0 w : World} {F : List HP} {st : Kn E} {a : Act} {Φ : R → Prop} {c : Nat} {sb : Option Addr} {l : List (E.el c).α} {rdr : Bool} {x : Operand} {e : Nat} {K : Kn E → VC R} {X : HP} (hI : KnOk n w0 F st a w)
    (hX : SlRd X (E.el c).enc (E.el c).sz sb l) (hm : X ∈ dens st.As ++ F) (hr : rdr = true → X ∈ F) (h : (idkC st c sb l rdr x e K).ok Φ) : ∃ st', KnOk n w0 F st' a w ∧ (K st').ok Φ := by
  unfold idkC at h
  split at h
  · rename_i k i hx
    split at h
    · rename_i y hy
      obtain ⟨j, hj⟩ := hI.hp.mem hm
      obtain ⟨b, o, hs, _⟩ := hX.base (E.el c).ok hI.hp j hj hy
      refine ⟨⟨st.L, st.As, st.rd, (e, ⟨rdr, c, sb, l, i, y, b, o⟩) :: st.ef, st.pr, st.vw⟩, ⟨hI.env, hI.hp, hI.fs.1, ?_, hI.fs.3, hI.fs.4⟩, h b o⟩
      intro p hp
      cases hp with
      | head => exact ⟨hs, hy, fun h => ⟨X, hr h, hX⟩⟩
      | tail _ hm => exact hI.fs.2 p hm
    · exact (VC.fail_ok h).elim
  · exact (VC.fail_ok h).elim
theorem idkS_sound {R : Type} {n : Nat} {w0 w : World} {F : List HP} {st : Kn E} {a : Act} {Φ : R → Prop} {rdr : Bool} {q : Nat} {x : Operand} {e : Nat} {K : Kn E → VC R} (hI : KnOk n w0 F st a w)
    (h : (idkS st rdr q x e K).ok Φ) : ∃ st', KnOk n w0 F st' a w ∧ (K st').ok Φ := by
  unfold idkS at h
  split at h
  · split at h
    · rename_i r hr
      obtain ⟨j, hj⟩ := getK_mem hr
      obtain ⟨X, hX, h1, _⟩ := hI.fs.1 _ hj
      exact idkC_sound hI h1 (List.mem_append_right _ hX) (fun _ => hX) h
    · exact (VC.fail_ok h).elim
  · split at h
    · rename_i c T sb sc l hq
      exact idkC_sound hI (sl_rd T (E.el c).enc (E.el c).sz sb sc l) (List.mem_append_left F (dens_get hq)) (fun h => by cases h) h
    · exact (VC.fail_ok h).elim
theorem rlcC_sound {R : Type} {n : Nat} {w0 w : World} {F : List HP} {st : Kn E} {a : Act} {Φ : R → Prop} {e q off : Nat} {K : Kn E → VC R} (hI : KnOk n w0 F st a w) (h : (rlcC st e q off K).ok Φ) : ∃ st', KnOk n w0 F st' a w ∧ (K st').ok Φ := by
  obtain ⟨m, h⟩ := rlN_sound h
  split at h
  · rename_i b T cs rest hq
    split at h
    · rename_i sb m' sc hc
      obtain ⟨rfl, h2⟩ := h
      have e1 : cs.set off (.slice sb m' sc) = cs := by
        apply List.ext_getElem?
        intro j
        rw [List.getElem?_set]
        split
        · subst_vars
          split
          · exact hc.symm
          · rename_i h3
            simp only [List.getElem?_eq_none (Nat.le_of_not_lt h3)]
        · rfl
      rw [e1] at h2
      refine ⟨⟨st.L, (q, .blk b T cs) :: rest, st.rd, st.ef, st.pr, st.vw⟩, ⟨hI.env, ?_, hI.fs.1, hI.fs.2, hI.fs.3, hI.fs.4⟩, h2⟩
      exact hI.hp.perm ((dens_pick1 hq).append_right F)
    · exact (VC.fail_ok h).elim
  · exact (VC.fail_ok h).elim
theorem rlsC_sound {R : Type} {n : Nat} {w0 w : World} {F : List HP} {st : Kn E} {a : Act} {Φ : R → Prop} {e t : Nat} {K : Kn E → VC R} (hI : KnOk n w0 F st a w) (h : (rlsC st e t K).ok Φ) : ∃ st', KnOk n w0 F st' a w ∧ (K st').ok Φ := by
  obtain ⟨m, h⟩ := rlN_sound h
  split at h
  · rename_i sb m' sc hc
    obtain ⟨rfl, h2⟩ := h
    refine ⟨⟨(t, .slice sb m' sc) :: st.L, st.As, st.rd, st.ef, st.pr, st.vw⟩, ⟨⟨hI.env.size, hI.env.defers, fun u v hv => ?_⟩, hI.hp, hI.fs.1, hI.fs.2, hI.fs.3, hI.fs.4⟩, h2⟩
    rw [look_cons] at hv
    split at hv
    · subst_vars; cases hv; exact hI.env.has _ _ hc
    · exact hI.env.has _ _ hv
  · exact (VC.fail_ok h).elim
theorem cutC_sound {R : Type} {st : Kn E} {c : Nat} {sb : Option Addr} {sc : Nat} {l : List (E.el c).α} {lo hi : Option Int} {K : VwV E → VC R} {Φ : R → Prop} (hc : l.length ≤ sc) (h : (cutC st c sb sc l lo hi K).ok Φ) :
    ∃ u : VwV E, u.holds ∧ (∀ X, SlRd X (E.el c).enc (E.el c).sz sb l → SlRd X (E.el u.c).enc (E.el u.c).sz u.sb' u.r) ∧ u.r.length ≤ u.sc' ∧ (K u).ok Φ := by
  obtain ⟨r, hr, h⟩ := h
  have h2 := h (rebase sb sc (loI lo).toNat (E.el c).sz) (sc - (loI lo).toNat)
  exact ⟨_, ⟨hr, rfl, rfl, hc⟩, fun X hX => hX.cut' (E.el c).ok hr hc rfl, cut_cap2 hr hc rfl, h2⟩
theorem cutS_sound {R : Type} {n : Nat} {w0 w : World} {F : List HP} {st : Kn E} {a : Act} {Φ : R → Prop} {rdr : Bool} {q : Nat} {lo hi : Option Operand} {v : Nat} {K : Kn E → VC R} (hI : KnOk n w0 F st a w) (h : (cutS st rdr q lo hi v K).ok Φ) : ∃ st', KnOk n w0 F st' a w ∧ (K st').ok Φ := by
  unfold cutS at h
  split at h
  · rename_i lo' hi' _ _
    split at h
    · split at h
      · rename_i r hr
        obtain ⟨j, hj⟩ := getK_mem hr
        obtain ⟨X, hX, h1, h2⟩ := hI.fs.1 _ hj
        obtain ⟨s1, s2, hs⟩ := List.append_of_mem (List.mem_append_right (dens st.As) hX)
        have hc : r.l.length ≤ r.sc := by
          have H2 := hI.hp
          rw [hs] at H2
          exact St.fact (H2.perm List.perm_middle) h2
        obtain ⟨u, h3, h4, h5, h6⟩ := cutC_sound hc h
        refine ⟨⟨st.L, st.As, (v, ⟨u.c, u.sb', u.sc', u.r⟩) :: st.rd, st.ef, st.pr, (v, .cut u) :: st.vw⟩, ⟨hI.env, hI.hp, ?_, hI.fs.2, hI.fs.3, ?_⟩, h6⟩
        · intro p hp
          cases hp with
          | head => exact ⟨X, hX, h4 X h1, fun _ _ => h5⟩
          | tail _ hm => exact hI.fs.1 p hm
        · intro p hp
          cases hp with
          | head => exact h3
          | tail _ hm => exact hI.fs.4 p hm
      · exact (VC.fail_ok h).elim
    · split at h
      · rename_i c T sb sc l hq
        obtain ⟨j, hj⟩ := hI.hp.mem (List.mem_append_left F (dens_get hq))
        have hc : l.length ≤ sc := (hI.hp.slCap j hj).1
        obtain ⟨u, h3, h4, h5, h6⟩ := cutC_sound hc h
        refine ⟨⟨st.L, st.As, st.rd, st.ef, st.pr, (v, .cut u) :: st.vw⟩, ⟨hI.env, hI.hp, hI.fs.1, hI.fs.2, hI.fs.3, ?_⟩, h6⟩
        intro p hp
        cases hp with
        | head => exact h3
        | tail _ hm => exact hI.fs.4 p hm
      · exact (VC.fail_ok h).elim
  · exact (VC.fail_ok h).elim
theorem ownS_sound {R : Type} {n : Nat} {w0 w : World} {F : List HP} {st : Kn E} {a : Act} {Φ : R → Prop} {v q : Nat} {K : Kn E → VC R} (hI : KnOk n w0 F st a w) (h : (ownS st v q K).ok Φ) : ∃ st', KnOk n w0 F st' a w ∧ (K st').ok Φ := by
  unfold ownS at h
  split at h
  · rename_i u c T sb sc l rest h1 h2
    obtain ⟨e, h3⟩ := h
    obtain ⟨j, hj⟩ := getK_mem h1
    obtain ⟨g1, g2, g3, g4⟩ : u.holds := hI.fs.4 _ hj
    have H := hI.hp.perm ((dens_pick1 h2).append_right F)
    rw [e] at H
    have H : St w0 (Sl T (E.el u.c).enc (E.el u.c).sz u.sb u.sc u.l :: (dens rest ++ F)) w := H
    exact ⟨⟨st.L, (q, .sl u.c T u.sb' u.sc' u.r) :: rest, st.rd, st.ef, st.pr, st.vw⟩, ⟨hI.env, H.slCut' (E.el u.c).ok g1 g2 g3, hI.fs.1, hI.fs.2, hI.fs.3, hI.fs.4⟩, h3⟩
  · exact (VC.fail_ok h).elim
theorem elS_sound {R : Type} {n : Nat} {w0 w : World} {F : List HP} {st : Kn E} {a : Act} {Φ : R → Prop} {t e : Nat} {K : Kn E → VC R} (hI : KnOk n w0 F st a w) (h : (elS st t e K).ok Φ) : ∃ st', KnOk n w0 F st' a w ∧ (K st').ok Φ := by
  unfold elS at h
  split at h
  · rename_i f V h1 h2
    obtain ⟨rfl, h3⟩ := h
    obtain ⟨j, hj⟩ := getK_mem h1
    have hf := hI.fs.2 _ hj
    refine ⟨⟨(t, elemV f.sb (E.el f.c).sz (some f.i)) :: st.L, st.As, st.rd, (99999, f) :: st.ef, st.pr, st.vw⟩, ⟨⟨hI.env.size, hI.env.defers, fun u v hv => ?_⟩, hI.hp, hI.fs.1, ?_, hI.fs.3, hI.fs.4⟩, h3⟩
    · rw [look_cons] at hv
      split at hv
      · subst_vars
        cases hv
        rw [elemV_some hf.1]
        exact hI.env.has _ _ h2
      · exact hI.env.has _ _ hv
    · intro p hp
      cases hp with
      | head => exact hf
      | tail _ hm => exact hI.fs.2 p hm
  · exact (VC.fail_ok h).elim
theorem sameS_sound {R : Type} {n : Nat} {w0 w : World} {F : List HP} {st : Kn E} {a : Act} {Φ : R → Prop} {q m : Nat} {K : Kn E → VC R} (hI : KnOk n w0 F st a w) (h : (sameS st q m K).ok Φ) : ∃ st', KnOk n w0 F st' a w ∧ (K st').ok Φ := by
  unfold sameS at h
  split at h
  · rename_i c T sb sc l hq
    obtain ⟨u, hu, h2⟩ := h
    refine ⟨⟨st.L, st.As, st.rd, st.ef, (79, l.length = m) :: st.pr, st.vw⟩, ⟨hI.env, hI.hp, hI.fs.1, hI.fs.2, fun p hp => ?_, hI.fs.4⟩, h2⟩
    cases hp with
    | head => exact same_spec hu
    | tail _ hm => exact hI.fs.3 p hm
  · exact (VC.fail_ok h).elim
theorem rlpS_sound {R : Type} {n : Nat} {w0 w : World} {F : List HP} {st : Kn E} {a : Act} {Φ : R → Prop} {t q : Nat} {K : Kn E → VC R} (hI : KnOk n w0 F st a w) (h : (rlpS st t q K).ok Φ) : ∃ st', KnOk n w0 F st' a w ∧ (K st').ok Φ := by
  unfold rlpS at h
  split at h
  · rename_i c T sb sc l p sb' m sc' h1 h2 h3
    obtain ⟨e, h4⟩ := h
    obtain ⟨j, hj⟩ := getK_mem h2
    have hp : p := hI.fs.3 _ hj
    rw [e] at hp
    refine ⟨⟨(t, .slice sb' l.length sc') :: st.L, st.As, st.rd, st.ef, st.pr, st.vw⟩, ⟨⟨hI.env.size, hI.env.defers, fun u v hv => ?_⟩, hI.hp, hI.fs.1, hI.fs.2, hI.fs.3, hI.fs.4⟩, h4⟩
    rw [look_cons] at hv
    split at hv
    · subst_vars; cases hv; exact hI.env.has _ _ h3
    · exact hI.env.has _ _ hv
  · exact (VC.fail_ok h).elim
theorem rlqS_sound {R : Type} {n : Nat} {w0 w : World} {F : List HP} {st : Kn E} {a : Act} {Φ : R → Prop} {b off q : Nat} {K : Kn E → VC R} (hI : KnOk n w0 F st a w) (h : (rlqS st b off q K).ok Φ) : ∃ st', KnOk n w0 F st' a w ∧ (K st').ok Φ := by
  unfold rlqS at h
  split at h
  · rename_i c T sb sc l p r T' cs rest h1 h2 h3
    split at h
    · rename_i sb' m sc' hc
      obtain ⟨e, h4⟩ := h
      obtain ⟨j, hj⟩ := getK_mem h2
      have hp : p := hI.fs.3 _ hj
      rw [e] at hp
      have e1 : cs.set off (.slice sb' l.length sc') = cs := by
        apply List.ext_getElem?
        intro i
        rw [List.getElem?_set]
        split
        · subst_vars
          split
          · exact hc.symm
          · rename_i h5; rw [List.getElem?_eq_none (Nat.le_of_not_lt h5)]
        · rfl
      rw [e1] at h4
      exact ⟨⟨st.L, (b, .blk r T' cs) :: rest, st.rd, st.ef, st.pr, st.vw⟩, ⟨hI.env, hI.hp.perm ((dens_pick1 h3).append_right F), hI.fs.1, hI.fs.2, hI.fs.3, hI.fs.4⟩, h4⟩
    · exact (VC.fail_ok h).elim
  · exact (VC.fail_ok h).elim
theorem ghost_sound {R : Type} {n : Nat} {w0 w : World} {F : List HP} {st : Kn E} {a : Act} {Φ : R → Prop} {s : Stp E P} {K : Kn E → VC R} (hI : KnOk n w0 F st a w)
    (h : (ghost st s K).ok Φ) : ∃ st', KnOk n w0 F st' a w ∧ (K st').ok Φ := by
  cases s
  case idx rdr q x e => exact idxS_sound hI h
  case idk rdr q x e => exact idkS_sound hI h
  case rlc e q off => exact rlcC_sound hI h
  case rls e t => exact rlsC_sound hI h
  case cut rdr q lo hi v => exact cutS_sound hI h
  case own v q => exact ownS_sound hI h
  case el t e => exact elS_sound hI h
  case same q m => exact sameS_sound hI h
  case rlp t q => exact rlpS_sound hI h
  case rlq b off q => exact rlqS_sound hI h
  case pix q off m c x e => exact pixS_sound hI h
  case nil q c T => exact ⟨⟨st.L, (q, .sl c T none 0 []) :: st.As, st.rd, st.ef, st.pr, st.vw⟩, ⟨hI.env, St.slNil T (E.el c).enc (E.el c).sz hI.hp, hI.fs.1, hI.fs.2, hI.fs.3, hI.fs.4⟩, h⟩
  case gd k x j =>
    simp only [ghost] at h
    split at h
    · rename_i kk v hv
      split at h
      · obtain ⟨u, hu, h2⟩ := h
        refine ⟨⟨st.L, st.As, st.rd, st.ef, (j, v ≠ 0) :: st.pr, st.vw⟩, ⟨hI.env, hI.hp, hI.fs.1, hI.fs.2, fun p hp => ?_, hI.fs.4⟩, h2⟩
        cases hp with
        | head => exact nz_spec hu
        | tail _ hm => exact hI.fs.3 p hm
      · obtain ⟨u, hu, h2⟩ := h
        refine ⟨⟨st.L, st.As, st.rd, st.ef, (j, 0 ≤ v) :: st.pr, st.vw⟩, ⟨hI.env, hI.hp, hI.fs.1, hI.fs.2, fun p hp => ?_, hI.fs.4⟩, h2⟩
        cases hp with
        | head => exact nn_spec hu
        | tail _ hm => exact hI.fs.3 p hm
      · rename_i m
        obtain ⟨u, hu, h2⟩ := h
        refine ⟨⟨st.L, st.As, st.rd, st.ef, (j, 0 ≤ v ∧ v < ((m : Nat) : Int)) :: st.pr, st.vw⟩, ⟨hI.env, hI.hp, hI.fs.1, hI.fs.2, fun p hp => ?_, hI.fs.4⟩, h2⟩
        cases hp with
        | head => exact in_spec hu
        | tail _ hm => exact hI.fs.3 p hm
    · exact (VC.fail_ok h).elim
  all_goals exact (VC.fail_ok h).elim
theorem stepW_sound {R : Type} {f : FuncId} {n : Nat} {w0 w : World} {F : List HP} {st : Kn E} {a : Act} {Φ : R → Prop} {ops : Array Oper} {i : Nat} {s : Stp E P} {K : Nat → Kn E → VC R} {k : List Item} {Q : Value → World → Prop}
    (hI : KnOk n w0 F st a w) (h : (stepW n ops i st s K).ok Φ) (hk : ∀ i' st' a' w', KnOk n w0 F st' a' w' → (K i' st').ok Φ → WR P f ops i' k a' w' Q) : WR P f ops i k a w Q := by
  have act : ∀ s : Stp E P, ((match ops[i]? with
    | none => .fail
    | some o => match wantedL ops st.L o with
      | some true => match dstOk n o.dst with
        | true => actO o st s fun v st' => K (i + 1) ⟨putE o.dst v st.L, st'.As, st'.rd, st'.ef, st'.pr, st'.vw⟩
        | false => .fail
      | _ => .fail : VC R)).ok Φ → WR P f ops i k a w Q := by
    intro s h
    split at h
    · exact (VC.fail_ok h).elim
    · rename_i o ho
      split at h
      · rename_i hw
        split at h
        · rename_i hn
          have hO := actO_sound hI h
          cases hd : o.dst with
          | none =>
            refine WR.eff0 hI.env ho hd hw hO ?_
            rintro v w' ⟨st', hL, hH, h2⟩ a' hE
            rw [hd] at h2
            exact hk _ _ _ _ (hH.kn hE) h2
          | some d =>
            rw [hd] at hn
            refine WR.eff hI.env ho hd hn hw hO ?_
            rintro v w' ⟨st', hL, hH, h2⟩ a' hE
            rw [hd] at h2
            exact hk _ _ _ _ (hH.kn hE) h2
        · exact (VC.fail_ok h).elim
      · exact (VC.fail_ok h).elim
  cases s with
  | seg c l =>
    simp only [stepW] at h
    split at h
    · rename_i orc obs eqs h1 h2
      split at h
      · rename_i L' obs' h3
        obtain ⟨rfl, h4, h5⟩ := h
        have hj := Nat.le_of_ble_eq_true h1
        unfold WR
        have hr : List.range' i (ops.size - i) = List.range' i c ++ List.range' (i + c) (ops.size - (i + c)) := by
          have e1 : ops.size - i = c + (ops.size - (i + c)) := by omega
          rw [e1, ← List.range'_append_1]
        rw [hr]
        refine evSeg_ops _ _ _ _ _ _ hI.env h3 (srcs_sound hI h2 (eqs_of h4)) fun a' ha' => ?_
        exact hk _ ⟨L', st.As, st.rd, st.ef, st.pr, st.vw⟩ _ _ ⟨ha', hI.hp, hI.fs.1, hI.fs.2, hI.fs.3, hI.fs.4⟩ h5
      · exact (VC.fail_ok h).elim
    · exact (VC.fail_ok h).elim
  | idx rdr q x e =>
    obtain ⟨st', h1, h2⟩ := ghost_sound (P := P) (s := .idx rdr q x e) (K := fun st' => K i st') hI h
    exact hk _ _ _ _ h1 h2
  | idk rdr q x e =>
    obtain ⟨st', h1, h2⟩ := ghost_sound (P := P) (s := .idk rdr q x e) (K := fun st' => K i st') hI h
    exact hk _ _ _ _ h1 h2
  | nil q c T =>
    obtain ⟨st', h1, h2⟩ := ghost_sound (P := P) (s := .nil q c T) (K := fun st' => K i st') hI h
    exact hk _ _ _ _ h1 h2
  | rlc e q off =>
    obtain ⟨st', h1, h2⟩ := ghost_sound (P := P) (s := .rlc e q off) (K := fun st' => K i st') hI h
    exact hk _ _ _ _ h1 h2
  | rls e t =>
    obtain ⟨st', h1, h2⟩ := ghost_sound (P := P) (s := .rls e t) (K := fun st' => K i st') hI h
    exact hk _ _ _ _ h1 h2
  | cut rdr q lo hi v =>
    obtain ⟨st', h1, h2⟩ := ghost_sound (P := P) (s := .cut rdr q lo hi v) (K := fun st' => K i st') hI h
    exact hk _ _ _ _ h1 h2
  | own v q =>
    obtain ⟨st', h1, h2⟩ := ghost_sound (P := P) (s := .own v q) (K := fun st' => K i st') hI h
    exact hk _ _ _ _ h1 h2
  | el t e =>
    obtain ⟨st', h1, h2⟩ := ghost_sound (P := P) (s := .el t e) (K := fun st' => K i st') hI h
    exact hk _ _ _ _ h1 h2
  | same q m =>
    obtain ⟨st', h1, h2⟩ := ghost_sound (P := P) (s := .same q m) (K := fun st' => K i st') hI h
    exact hk _ _ _ _ h1 h2
  | rlp t q =>
    obtain ⟨st', h1, h2⟩ := ghost_sound (P := P) (s := .rlp t q) (K := fun st' => K i st') hI h
    exact hk _ _ _ _ h1 h2
  | rlq b off q =>
    obtain ⟨st', h1, h2⟩ := ghost_sound (P := P) (s := .rlq b off q) (K := fun st' => K i st') hI h
    exact hk _ _ _ _ h1 h2
  | pix q off m c x e =>
    obtain ⟨st', h1, h2⟩ := ghost_sound (P := P) (s := .pix q off m c x e) (K := fun st' => K i st') hI h
    exact hk _ _ _ _ h1 h2
  | gd c x j =>
    obtain ⟨st', h1, h2⟩ := ghost_sound (P := P) (s := .gd c x j) (K := fun st' => K i st') hI h
    exact hk _ _ _ _ h1 h2
  | new q l => exact act _ h
  | sto q => exact act _ h
  | call C l out => exact act _ h
  | bld q c T => exact act _ h
  | app q s => exact act _ h
  | sset q e j => exact act _ h
  | mk q c T => exact act _ h
  | eqs D => exact act _ h
  | mnew q c => exact act _ h
  | mget q c kt hk z => exact act _ h
  | mput q c kt hk => exact act _ h
  | mdel q c kt hk => exact act _ h

/-! Where a run stands, as far as it is told; what comes behind is not told. -/
inductive Md
  | run (t : List Item)
  | reg (ops : Array Oper) (i : Nat) (k : List Item)
  | drw (ops : Array Oper) (dn : List Nat) (pend : List (Nat × List Ob)) (k : List Item)
def Md.Runs (P : Program) (f : FuncId) (base : List Item) (a : Act) (w : World) (Q : Value → World → Prop) : Md → Prop
  | .run t => Th.Runs P f (t ++ base) a w Q
  | .reg ops i k => WR P f ops i (k ++ base) a w Q
  | .drw ops dn pend k => WQ P f ops dn pend (k ++ base) a w Q
def norm : Nat → List Item → Option Md
  | 0, _ => none
  | g + 1, t => match t with
    | .code (.seq x y) :: k => norm g (.code x :: .code y :: k)
    | .code .skip :: k => norm g k
    | .code (.label _) :: k => norm g k
    | .code (.exit id) :: k => match exitTo id k with
      | some k' => norm g k'
      | none => none
    | .code (.region _ ops false) :: k => match Nat.beq ops.size 0 with
      | true => norm g k
      | false => some (.reg ops 0 k)
    | .inBlock _ :: k => norm g k
    | t => some (.run t)
theorem exitTo_app {base : List Item} : ∀ {id : Nat} {k k' : List Item}, exitTo id k = some k' → exitTo id (k ++ base) = some (k' ++ base)
  | id, [], k', h => by simp [exitTo] at h
  | id, x :: k, k', h => by
    cases x
    case inBlock j =>
      simp only [exitTo, List.cons_append] at h ⊢
      split at h
      · rename_i hj; cases h; rw [if_pos hj]
      · rename_i hj; rw [if_neg hj]; exact exitTo_app h
    all_goals
      simp only [exitTo, List.cons_append] at h ⊢
      exact exitTo_app h
theorem norm_sound {f : FuncId} {a : Act} {w : World} {Q : Value → World → Prop} {base : List Item} : ∀ (g : Nat) {t : List Item} {md : Md}, norm g t = some md → md.Runs P f base a w Q → Th.Runs P f (t ++ base) a w Q
  | 0, t, md, h, _ => by simp [norm] at h
  | g + 1, t, md, h, hr => by
    unfold norm at h
    split at h
    · exact .seq (norm_sound g h hr)
    · exact .skip (norm_sound g h hr)
    · exact .label (norm_sound g h hr)
    · split at h
      · rename_i k' hk
        exact .exit (exitTo_app hk) (norm_sound g h hr)
      · cases h
    · split at h
      · rename_i h0
        have e := Nat.eq_of_beq_eq_true h0
        exact .region (WR.done (by rw [e]; rfl) (norm_sound g h hr))
      · cases h; exact .region hr
    · exact .inBlock (norm_sound g h hr)
    · cases h; exact hr

/-! A region whose order is drawn, as far as one alone may act at a time. -/
def stepD {R : Type} (n : Nat) (ops : Array Oper) (dn : List Nat) (pend : List (Nat × List Ob)) (st : Kn E) (is : List Nat) (l : List Src) (K : List Nat → List (Nat × List Ob) → Kn E → VC R) : VC R :=
  match (Nat.ble (dn.length + is.length) ops.size && takeM ops is (maskL dn)), srcs st l with
  | true, some (orc, obs, eqs) => match evSeg P n ops is st.L orc with
    | some (L', obs') => .req obs' obs (.req (eqs.map (·.1)) (eqs.map (·.2)) (K (dn ++ is) (segP P n ops is st.L orc pend) ⟨L', st.As, st.rd, st.ef, st.pr, st.vw⟩))
    | none => .fail
  | _, _ => .fail
def stepQ {R : Type} (n : Nat) (ops : Array Oper) (dn : List Nat) (pend : List (Nat × List Ob)) (st : Kn E) (j : Nat) (x : Stp E P) (l : List Src) (K : List Nat → List (Nat × List Ob) → Kn E → VC R) : VC R :=
  match ops[j]? with
  | some o => match wantedL ops st.L o, dstOk n o.dst with
    | some true, true => actO o st x fun v st' => match srcs ⟨putE o.dst v st.L, st'.As, st'.rd, st'.ef, st'.pr, st'.vw⟩ l with
      | some (_, obs, eqs) => .req (needOb ops j pend) obs (.req (eqs.map (·.1)) (eqs.map (·.2)) (K (dn ++ [j]) (keepP ops j pend) ⟨putE o.dst v st.L, st'.As, st'.rd, st'.ef, st'.pr, st'.vw⟩))
      | none => .fail
    | _, _ => .fail
  | none => .fail
def stepA {R : Type} (n : Nat) (ops : Array Oper) (dn : List Nat) (pend : List (Nat × List Ob)) (st : Kn E) (j : Nat) (x : Stp E P) (l : List Src) (K : List Nat → List (Nat × List Ob) → Kn E → VC R) : VC R :=
  match (Nat.blt dn.length ops.size && eqL (readyM (maskL dn) 0 ops.toList) [j]) with
  | true => stepQ n ops dn pend st j x l K
  | false => .fail
theorem stepD_sound {R : Type} {f : FuncId} {n : Nat} {w0 w : World} {F : List HP} {st : Kn E} {a : Act} {Φ : R → Prop} {ops : Array Oper} {dn : List Nat} {pend : List (Nat × List Ob)} {is : List Nat} {l : List Src} {K : List Nat → List (Nat × List Ob) → Kn E → VC R} {k : List Item} {Q : Value → World → Prop}
    (hI : KnOk n w0 F st a w) (h : (stepD (P := P) n ops dn pend st is l K).ok Φ) (hk : ∀ dn' pend' st' a', KnOk n w0 F st' a' w → (K dn' pend' st').ok Φ → WQ P f ops dn' pend' k a' w Q) : WQ P f ops dn pend k a w Q := by
  unfold stepD at h
  split at h
  · rename_i orc obs eqs h1 h2
    split at h
    · rename_i L' obs' h3
      obtain ⟨rfl, h4, h5⟩ := h
      rw [Bool.and_eq_true] at h1
      have hle := Nat.le_of_ble_eq_true h1.1
      have e : ops.size - dn.length = is.length + (ops.size - (dn ++ is).length) := by simp; omega
      intro hs'
      show WP P f ops (ops.size - dn.length) dn pend k a w Q
      rw [e]
      exact WP.segs hs' _ _ _ _ _ _ _ _ _ _ hI.env (fun x => maskL_tb x dn) h1.2 h3 (srcs_sound hI h2 (eqs_of h4)) fun a' ha' => hk _ _ ⟨L', st.As, st.rd, st.ef, st.pr, st.vw⟩ _ ⟨ha', hI.hp, hI.fs.1, hI.fs.2, hI.fs.3, hI.fs.4⟩ h5 hs'
    · exact (VC.fail_ok h).elim
  · exact (VC.fail_ok h).elim
theorem stepQ_sound {R : Type} {f : FuncId} {n : Nat} {w0 w : World} {F : List HP} {st : Kn E} {a : Act} {Φ : R → Prop} {ops : Array Oper} {dn : List Nat} {pend : List (Nat × List Ob)} {j : Nat} {x : Stp E P} {l : List Src} {K : List Nat → List (Nat × List Ob) → Kn E → VC R} {k : List Item} {Q : Value → World → Prop}
    (hI : KnOk n w0 F st a w) (h : (stepQ n ops dn pend st j x l K).ok Φ) (hk : ∀ dn' pend' st' a' w', KnOk n w0 F st' a' w' → (K dn' pend' st').ok Φ → WQ P f ops dn' pend' k a' w' Q) : AQ P f ops dn pend k a w Q j := by
  unfold stepQ at h
  split at h
  · rename_i o ho
    split at h
    · rename_i hw hn
      have hO := actO_sound hI h
      have fin : ∀ (v : Value) (w' : World) (st' : Kn E) (a' : Act), HpOk w0 F st' w' → EnvOk n a' (putE o.dst v st.L) → ((match srcs ⟨putE o.dst v st.L, st'.As, st'.rd, st'.ef, st'.pr, st'.vw⟩ l with
          | some (_, obs, eqs) => .req (needOb ops j pend) obs (.req (eqs.map (·.1)) (eqs.map (·.2)) (K (dn ++ [j]) (keepP ops j pend) ⟨putE o.dst v st.L, st'.As, st'.rd, st'.ef, st'.pr, st'.vw⟩))
          | none => .fail : VC R)).ok Φ → AllOb w' (needOb ops j pend) ∧ WQ P f ops (dn ++ [j]) (keepP ops j pend) k a' w' Q := by
        intro v w' st' a' hH hE h2
        split at h2
        · rename_i orc obs eqs h3
          obtain ⟨h4, h5, h6⟩ := h2
          have hI' := hH.kn hE
          rw [h4]
          exact ⟨srcs_sound hI' h3 (eqs_of h5), hk _ _ _ _ _ hI' h6⟩
        · exact (VC.fail_ok h2).elim
      cases hd : o.dst with
      | none =>
        refine AQ.eff0 hI.env ho hd hw rfl hO ?_
        rintro v w' ⟨st', hL, hH, h2⟩
        rw [hd] at fin
        rw [hd] at h2
        exact ⟨(fin v w' st' a hH hI.env h2).1, fun a' hE => (fin v w' st' a' hH hE h2).2⟩
      | some d =>
        rw [hd] at hn
        refine AQ.eff hI.env ho hd hn hw rfl hO ?_
        rintro v w' ⟨st', hL, hH, h2⟩
        rw [hd] at fin
        rw [hd] at h2
        exact ⟨(fin v w' st' (a.put (some d) v) hH (hI.env.put _ _ (by simpa [dstOk, Nat.blt_eq] using hn)) h2).1, fun a' hE => (fin v w' st' a' hH hE h2).2⟩
    · exact (VC.fail_ok h).elim
  · exact (VC.fail_ok h).elim
theorem stepA_sound {R : Type} {f : FuncId} {n : Nat} {w0 w : World} {F : List HP} {st : Kn E} {a : Act} {Φ : R → Prop} {ops : Array Oper} {dn : List Nat} {pend : List (Nat × List Ob)} {j : Nat} {x : Stp E P} {l : List Src} {K : List Nat → List (Nat × List Ob) → Kn E → VC R} {k : List Item} {Q : Value → World → Prop}
    (hI : KnOk n w0 F st a w) (h : (stepA n ops dn pend st j x l K).ok Φ) (hk : ∀ dn' pend' st' a' w', KnOk n w0 F st' a' w' → (K dn' pend' st').ok Φ → WQ P f ops dn' pend' k a' w' Q) : WQ P f ops dn pend k a w Q := by
  unfold stepA at h
  split at h
  · rename_i h1
    refine WQ.acts [j] h1 (by simp) fun x hx => ?_
    simp only [List.mem_singleton] at hx
    subst hx
    exact stepQ_sound hI h hk
  · exact (VC.fail_ok h).elim
end
end Go.Th
