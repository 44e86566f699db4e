/-
  The engine by certificates, part 4: certificates of code, and what they show.
-/
import Derived.Test.YtgchbhnchhiehaaGreatR3
set_option linter.unusedVariables false
set_option linter.unusedSimpArgs false
namespace Go.Th

theorem St.dropL {w0 w : World} {As : List HP} : ∀ {Bs : List HP}, St w0 (Bs ++ As) w → St w0 As w
  | [], H => H
  | B :: Bs, H => St.dropL (Bs := Bs) (St.drop (by simpa using H))
section
variable {E : Ev} {P : Program}

/-- One state's known things ask those of another. -/
def getKs {α : Type} : List Nat → List (Nat × α) → Option (List α)
  | [], _ => some []
  | k :: ks, L => match getK k L, getKs ks L with
    | some x, some r => some (x :: r)
    | _, _ => none
def kys {α : Type} : List (Nat × α) → List Nat
  | [] => []
  | (k, _) :: r => k :: kys r
def reqS {R : Type} (L : Env) (As : List (Nat × Atom E)) (st : Kn E) (K : VC R) : VC R :=
  match sel (keysE L) st.L, picks (kys As) st.As with
  | some L', some (ats, _) => .req L' L (.req ats (As.map (·.2)) K)
  | _, _ => .fail
theorem reqS_sound {R : Type} {n : Nat} {w0 w : World} {F : List HP} {st : Kn E} {a : Act} {Φ : R → Prop} {L : Env} {As : List (Nat × Atom E)} {K : VC R} (hI : KnOk n w0 F st a w) (h : (reqS L As st K).ok Φ) :
    EnvOk n a L ∧ St w0 (dens As ++ F) w ∧ K.ok Φ := by
  unfold reqS at h
  split at h
  · rename_i L' ats rest h1 h2
    obtain ⟨rfl, rfl, h3⟩ := h
    refine ⟨sel_sound hI.env h1, ?_, h3⟩
    have H := hI.hp.perm ((dens_picks h2).append_right F)
    rw [List.append_assoc] at H
    have H2 := H.perm (show ((As.map (·.2)).map Atom.den ++ (dens rest ++ F)).Perm (dens rest ++ ((As.map (·.2)).map Atom.den ++ F)) by
      rw [← List.append_assoc, ← List.append_assoc]
      exact List.Perm.append_right F List.perm_append_comm)
    exact H2.dropL
  · exact (VC.fail_ok h).elim

/-! A loop as a contract: x does not change, v does; ns and as name what is not told. -/
structure BCon (E : Ev) (R0 : Type) : Type 1 where
  code : Code
  X : Type
  V : Type
  T : Type
  W : Type
  cls : W → R0 ⊕ T
  g : X → V → Option W
  rds : X → List (Nat × RdV E)
  pL : X → V → List Nat → List (Option Addr) → Env
  pA : X → V → List Nat → List (Option Addr) → List (Nat × Atom E)
  mN : Nat
  mA : Nat
  qL : X → T → List Nat → List (Option Addr) → Env
  qA : X → T → List Nat → List (Option Addr) → List (Nat × Atom E)
def BCon.Sound {R0 : Type} (B : BCon E R0) (P : Program) (f : FuncId) (n : Nat) (retF : Kn E → VC R0) : Prop := ∀ (Q : Value → World → Prop) (w0 : World) (F : List HP) (x : B.X) (v : B.V) (t : B.W) (ns : List Nat) (as : List (Option Addr)) (a : Act) (w : World) (base : List Item), B.g x v = some t →
  KnOk n w0 F ⟨B.pL x v ns as, B.pA x v ns as, B.rds x, [], [], []⟩ a w →
  (∀ u, B.cls t = .inr u → ∀ ns' as' a' w', ns'.length = B.mN → as'.length = B.mA → EnvOk n a' (B.qL x u ns' as') → St w0 (dens (B.qA x u ns' as') ++ F) w' → Runs P f base a' w' Q) →
  (∀ r, B.cls t = .inl r → ∀ st' a' w' k', KnOk n w0 F st' a' w' → (retF st').ok (· = r) → Runs P f (.code .ret :: k') a' w' Q) →
  Runs P f (.code B.code :: base) a w Q
structure SBCon (E : Ev) (P : Program) (f : FuncId) (n : Nat) (R0 : Type) (retF : Kn E → VC R0) : Type 1 where
  B : BCon E R0
  snd : B.Sound P f n retF

inductive Ct (E : Ev) (P : Program) (f : FuncId) (n : Nat) (R0 : Type) (retF : Kn E → VC R0) : Type 1
  | leaf
  | s (x : Stp E P) (k : Ct E P f n R0 retF)
  | drw (k : Ct E P f n R0 retF)
  | rk (l : List (Nat × Nat)) (k : Ct E P f n R0 retF)
  | q (is : List Nat) (l : List Src) (k : Ct E P f n R0 retF)
  | a (j : Nat) (x : Stp E P) (l : List Src) (k : Ct E P f n R0 retF)
  | cond (x y : Ct E P f n R0 retF)
  | condT (x : Ct E P f n R0 retF)
  | condF (x : Ct E P f n R0 retF)
  | split (t : Nat) (x y : Ct E P f n R0 retF)
  | join (T : Type) (nN nA : Nat) (get : Kn E → Option (T × List Nat × List (Option Addr))) (J : Kn E → T → List Nat → List (Option Addr) → Env × List (Nat × Atom E)) (x k : Ct E P f n R0 retF)
  | joinR (T : Type) (nN nA : Nat) (get : Kn E → Option (T × List Nat × List (Option Addr))) (J : Kn E → T → List Nat → List (Option Addr) → Env × List (Nat × Atom E)) (x k : Ct E P f n R0 retF)
  | loop (B : SBCon E P f n R0 retF) (get : Kn E → Option (B.B.X × B.B.V × List Nat × List (Option Addr))) (k : Ct E P f n R0 retF)
  | blk (k : Ct E P f n R0 retF)
  | unr (k : Ct E P f n R0 retF)
  | alt2 (i : Nat) (x : Stp E P) (l : List Src) (c : Ct E P f n R0 retF) (j : Nat) (y : Stp E P) (l' : List Src) (c' : Ct E P f n R0 retF)
  | alt3 (i : Nat) (x : Stp E P) (l : List Src) (c : Ct E P f n R0 retF) (j : Nat) (y : Stp E P) (l' : List Src) (c' : Ct E P f n R0 retF) (m : Nat) (z : Stp E P) (l'' : List Src) (c'' : Ct E P f n R0 retF)
  | jg (T : Type) (nN nA : Nat) (get : Kn E → Option (T × List Nat × List (Option Addr))) (J : Kn E → T → List Nat → List (Option Addr) → Env × List (Nat × Atom E)) (x k : Ct E P f n R0 retF)
  | pj (t : Nat) (T : Type) (M : Mx T) (get : Kn E → Option T) (J : Kn E → T → Env × List (Nat × Atom E)) (x y k : Ct E P f n R0 retF)
  | eo (t j q e : Nat) (x y : Ct E P f n R0 retF)
  | np (t j : Nat) (x y : Ct E P f n R0 retF)
  | ret
  | back
  | dead

def ren (l : List (Nat × Nat)) (k : Nat) : Nat := match getK k l with
  | some j => j
  | none => k
def renK (l : List (Nat × Nat)) : List (Nat × Atom E) → List (Nat × Atom E)
  | [] => []
  | (k, a) :: r => (ren l k, a) :: renK l r
theorem renK_dens (l : List (Nat × Nat)) : ∀ As : List (Nat × Atom E), dens (renK l As) = dens As
  | [] => rfl
  | (k, a) :: r => by
    have := renK_dens l r
    simp only [dens, renK, List.map_cons] at this ⊢
    rw [this]
def nx {R : Type} (m : Option Md) (k : Md → VC R) : VC R := match m with
  | some md => k md
  | none => .fail
/-- What is joined, and what comes behind it. -/
def Md.cut : Md → Option (Md × List Item)
  | .run (x :: k) => some (.run [x], k)
  | .run [] => none
  | .reg ops i k => some (.reg ops i [], k)
  | .drw ops dn pend k => some (.drw ops dn pend [], k)
/-- On in a region whose order is drawn, or behind it. -/
def onD {R : Type} (ops : Array Oper) (dn : List Nat) (pend : List (Nat × List Ob)) (k : List Item) (K : Md → VC R) : VC R :=
  match Nat.ble ops.size dn.length with
  | true => match eqL (readyM (maskL dn) 0 ops.toList) [] with
    | true => nx (norm 1000 k) K
    | false => .fail
  | false => K (.drw ops dn pend k)
/-- A value, or a part of a tuple. -/
def compV (j : Nat) (V : Value) : Option Value := match Nat.beq j 999 with
  | true => some V
  | false => match V with
    | .tuple vs => vs.toList[j]?
    | _ => none
def setV (j : Nat) (V : Value) (x : Value) : Value := match Nat.beq j 999 with
  | true => x
  | false => match V with
    | .tuple vs => .tuple (vs.toList.set j x).toArray
    | _ => V
theorem setV_self {j : Nat} {V x : Value} (h : compV j V = some x) : setV j V x = V := by
  unfold compV at h
  unfold setV
  split at h
  · simp at h; exact h.symm
  · split at h
    · rename_i vs
      show Value.tuple _ = _
      have : vs.toList.set j x = vs.toList := by
        apply List.ext_getElem?
        intro i
        rw [List.getElem?_set]
        split
        · subst_vars
          split
          · exact h.symm
          · rename_i h3; rw [List.getElem?_eq_none (Nat.le_of_not_lt h3)]
        · rfl
      rw [this]
    · cases h
def eoC {R : Type} (st : Kn E) (t j q e : Nat) (X Y : Kn E → VC R) : VC R :=
  match getK 77 st.vw, look t st.L, getK q st.As with
  | some (.opt o), some V, some (.sl c T sb sc l) => match compV j V with
    | some v => .req v (elemV sb (E.el c).sz o) (.cs (oS o) (fun _ => X ⟨(t, setV j V (.pointer none)) :: st.L, st.As, st.rd, st.ef, st.pr, st.vw⟩) fun i =>
        .bind (mIdx l i) fun x => .frN fun b => .frN fun off => Y ⟨(t, setV j V (.pointer (some ⟨b, off + i.toNat * (E.el c).sz, none⟩))) :: st.L, st.As, st.rd, (e, ⟨false, c, sb, l, i, x, b, off⟩) :: st.ef, st.pr, st.vw⟩)
    | none => .fail
  | _, _, _ => .fail
theorem EnvOk.same {n : Nat} {a : Act} {L : Env} {t : Nat} {V : Value} (hE : EnvOk n a L) (h : look t L = some V) : EnvOk n a ((t, V) :: L) := by
  refine ⟨hE.size, hE.defers, fun u v hv => ?_⟩
  rw [look_cons] at hv
  split at hv
  · subst_vars; cases hv; exact hE.has _ _ h
  · exact hE.has _ _ hv
theorem eoC_sound {R : Type} {n : Nat} {w0 w : World} {F : List HP} {st : Kn E} {a : Act} {Φ : R → Prop} {t j q e : Nat} {X Y : Kn E → VC R} (hI : KnOk n w0 F st a w) (h : (eoC st t j q e X Y).ok Φ) : ∃ st', KnOk n w0 F st' a w ∧ ((X st').ok Φ ∨ (Y st').ok Φ) := by
  unfold eoC at h
  split at h
  · rename_i o V c T sb sc l h1 h2 h3
    split at h
    · rename_i v hv
      obtain ⟨rfl, h4, h5⟩ := h
      cases o with
      | none =>
        refine ⟨⟨(t, setV j V (.pointer none)) :: st.L, st.As, st.rd, st.ef, st.pr, st.vw⟩, ⟨hI.env.same (V := setV j V (.pointer none)) ?_, hI.hp, hI.fs.1, hI.fs.2, hI.fs.3, hI.fs.4⟩, .inl (h4 () rfl)⟩
        rw [h2]; exact congrArg some (setV_self hv).symm
      | some i =>
        obtain ⟨x, hx, h6⟩ := h5 i rfl
        obtain ⟨jj, hj⟩ := hI.hp.mem (List.mem_append_left F (dens_get h3))
        obtain ⟨b, off, hs, _⟩ := (sl_rd T (E.el c).enc (E.el c).sz sb sc l).base (E.el c).ok hI.hp jj hj hx
        rw [elemV_some hs] at hv
        refine ⟨⟨(t, setV j V (.pointer (some ⟨b, off + i.toNat * (E.el c).sz, none⟩))) :: st.L, st.As, st.rd, (e, ⟨false, c, sb, l, i, x, b, off⟩) :: st.ef, st.pr, st.vw⟩, ⟨hI.env.same (V := setV j V (.pointer (some ⟨b, off + i.toNat * (E.el c).sz, none⟩))) ?_, hI.hp, hI.fs.1, ?_, hI.fs.3, hI.fs.4⟩, .inr (h6 b off)⟩
        · rw [h2]; exact congrArg some (setV_self hv).symm
        · intro p hp
          cases hp with
          | head => exact ⟨hs, hx, fun h => by cases h⟩
          | tail _ hm => exact hI.fs.2 p hm
    · exact (VC.fail_ok h).elim
  · exact (VC.fail_ok h).elim
def bothV {R : Type} (u v : VC R) : VC R := .both u v v.mod
def exec {f : FuncId} {n : Nat} {R0 : Type} {retF : Kn E → VC R0} : {R : Type} → Ct E P f n R0 retF → Md → Kn E → (R0 → VC R) → (Kn E → VC R) → (Code → Nat → Kn E → VC R) → VC R
  | _, .leaf, md, st, retV, leafK, backK => match md with
    | .run [] => leafK st
    | _ => .fail
  | _, .s x c, md, st, retV, leafK, backK => match md with
    | .reg ops i k => stepW n ops i st x fun i' st' => match Nat.ble ops.size i' with
      | true => nx (norm 1000 k) fun md' => exec c md' st' retV leafK backK
      | false => exec c (.reg ops i' k) st' retV leafK backK
    | .drw ops dn pend k => ghost st x fun st' => exec c (.drw ops dn pend k) st' retV leafK backK
    | .run t => ghost st x fun st' => exec c (.run t) st' retV leafK backK
  | _, .dead, md, st, retV, leafK, backK => .fail
  | _, .rk l c, md, st, retV, leafK, backK => exec c md ⟨st.L, renK l st.As, st.rd, st.ef, st.pr, st.vw⟩ retV leafK backK
  | _, .drw c, md, st, retV, leafK, backK => match md with
    | .run (.code (.region _ ops true) :: k) => match regOk ops with
      | true => exec c (.drw ops [] [] k) st retV leafK backK
      | false => .fail
    | _ => .fail
  | _, .q is l c, md, st, retV, leafK, backK => match md with
    | .drw ops dn pend k => stepD (P := P) n ops dn pend st is l fun dn' pend' st' => onD ops dn' pend' k fun md' => exec c md' st' retV leafK backK
    | _ => .fail
  | _, .a j x l c, md, st, retV, leafK, backK => match md with
    | .drw ops dn pend k => stepA n ops dn pend st j x l fun dn' pend' st' => onD ops dn' pend' k fun md' => exec c md' st' retV leafK backK
    | _ => .fail
  | _, .cond x y, md, st, retV, leafK, backK => match md with
    | .run (.code (.cond c u v) :: k) => match evO st.L c with
      | some (.bool b) => .ite b (nx (norm 1000 (.code u :: k)) fun md' => exec x md' st retV leafK backK) (nx (norm 1000 (.code v :: k)) fun md' => exec y md' st retV leafK backK)
      | _ => .fail
    | _ => .fail
  | _, .condT x, md, st, retV, leafK, backK => match md with
    | .run (.code (.cond c u v) :: k) => match evO st.L c with
      | some (.bool true) => nx (norm 1000 (.code u :: k)) fun md' => exec x md' st retV leafK backK
      | _ => .fail
    | _ => .fail
  | _, .condF x, md, st, retV, leafK, backK => match md with
    | .run (.code (.cond c u v) :: k) => match evO st.L c with
      | some (.bool false) => nx (norm 1000 (.code v :: k)) fun md' => exec x md' st retV leafK backK
      | _ => .fail
    | _ => .fail
  | _, .split t x y, md, st, retV, leafK, backK => match look t st.L with
    | some (.bool b) => .ite b (exec x md ⟨(t, .bool true) :: st.L, st.As, st.rd, st.ef, st.pr, st.vw⟩ retV leafK backK) (exec y md ⟨(t, .bool false) :: st.L, st.As, st.rd, st.ef, st.pr, st.vw⟩ retV leafK backK)
    | _ => .fail
  | _, .join T nN nA get J x k, md, st, retV, leafK, backK => match md.cut with
    | some (md1, rest) => .join (exec x md1 st (fun _ => .fail) (fun st' => match get st' with
        | some (s, ns, as) => match Nat.beq ns.length nN, Nat.beq as.length nA with
          | true, true => reqS (J st s ns as).1 (J st s ns as).2 st' (.ret (some s))
          | _, _ => .fail
        | none => .fail) (fun _ _ _ => .fail)) fun s => frNs nN fun ns => frAs nA fun as => nx (norm 1000 rest) fun md' => exec k md' ⟨(J st s ns as).1, (J st s ns as).2, st.rd, st.ef, st.pr, st.vw⟩ retV leafK backK
    | none => .fail
  | _, .joinR T nN nA get J x k, md, st, retV, leafK, backK => match md.cut with
    | some (md1, rest) => .join (exec x md1 st (fun r => .ret (some (.inl r))) (fun st' => match get st' with
        | some (s, ns, as) => match Nat.beq ns.length nN, Nat.beq as.length nA with
          | true, true => reqS (J st s ns as).1 (J st s ns as).2 st' (.ret (some (Sum.inr s)))
          | _, _ => .fail
        | none => .fail) (fun _ _ _ => .fail)) fun s => .cs s retV fun s => frNs nN fun ns => frAs nA fun as => nx (norm 1000 rest) fun md' => exec k md' ⟨(J st s ns as).1, (J st s ns as).2, st.rd, st.ef, st.pr, st.vw⟩ retV leafK backK
    | none => .fail
  | _, .loop B get k, md, st, retV, leafK, backK => match md with
    | .run (.code c :: rest) => match get st with
      | some (x, v, ns, as) => match getKs (kys (B.B.rds x)) st.rd with
        | some rs => .req c B.B.code (.req rs ((B.B.rds x).map (·.2)) (reqS (B.B.pL x v ns as) (B.B.pA x v ns as) st (.bind (B.B.g x v) fun t => .cs (B.B.cls t) retV fun u => frNs B.B.mN fun ns' => frAs B.B.mA fun as' =>
          nx (norm 1000 rest) fun md' => exec k md' ⟨B.B.qL x u ns' as', B.B.qA x u ns' as', st.rd, st.ef, st.pr, st.vw⟩ retV leafK backK)))
        | none => .fail
      | none => .fail
    | _ => .fail
  | _, .blk c, md, st, retV, leafK, backK => match md with
    | .run (.code (.block id b) :: k) => nx (norm 1000 (.code b :: .inBlock id :: k)) fun md' => exec c md' st retV leafK backK
    | _ => .fail
  | _, .unr c, md, st, retV, leafK, backK => match md with
    | .run (.code (.block id (.loop b)) :: k) => nx (norm 1000 (.code b :: .inLoop b :: .inBlock id :: k)) fun md' => exec c md' st retV leafK backK
    | .run (.inLoop b :: k) => nx (norm 1000 (.code b :: .inLoop b :: k)) fun md' => exec c md' st retV leafK backK
    | _ => .fail
  | _, .alt2 i x l c j y l' c', md, st, retV, leafK, backK => match md with
    | .drw ops dn pend k => match Nat.blt dn.length ops.size && eqL (readyM (maskL dn) 0 ops.toList) [i, j] with
      | true => bothV (stepQ n ops dn pend st i x l fun dn' pend' st' => onD ops dn' pend' k fun md' => exec c md' st' retV leafK backK) (stepQ n ops dn pend st j y l' fun dn' pend' st' => onD ops dn' pend' k fun md' => exec c' md' st' retV leafK backK)
      | false => .fail
    | _ => .fail
  | _, .alt3 i x l c j y l' c' m z l'' c'', md, st, retV, leafK, backK => match md with
    | .drw ops dn pend k => match Nat.blt dn.length ops.size && eqL (readyM (maskL dn) 0 ops.toList) [i, j, m] with
      | true => bothV (stepQ n ops dn pend st i x l fun dn' pend' st' => onD ops dn' pend' k fun md' => exec c md' st' retV leafK backK) (bothV (stepQ n ops dn pend st j y l' fun dn' pend' st' => onD ops dn' pend' k fun md' => exec c' md' st' retV leafK backK) (stepQ n ops dn pend st m z l'' fun dn' pend' st' => onD ops dn' pend' k fun md' => exec c'' md' st' retV leafK backK))
      | false => .fail
    | _ => .fail
  | _, .jg T nN nA get J x k, md, st, retV, leafK, backK => match md.cut with
    | some (md1, rest) => .grj (exec x md1 st (fun _ => .fail) (fun st' => match get st' with
        | some (s, ns, as) => match Nat.beq ns.length nN, Nat.beq as.length nA with
          | true, true => reqS (J st s ns as).1 (J st s ns as).2 st' (.ret (some s))
          | _, _ => .fail
        | none => .fail) (fun _ _ _ => .fail)) fun s => frNs nN fun ns => frAs nA fun as => nx (norm 1000 rest) fun md' => exec k md' ⟨(J st s ns as).1, (J st s ns as).2, st.rd, st.ef, st.pr, st.vw⟩ retV leafK backK
    | none => .fail
  | _, .pj t T M get J x y k, md, st, retV, leafK, backK => match md.cut, look t st.L with
    | some (md1, rest), some (.bool b) => .sel M b (exec x md1 ⟨(t, .bool true) :: st.L, st.As, st.rd, st.ef, st.pr, st.vw⟩ (fun _ => .fail) (fun st' => match get st' with
        | some s => reqS (J st s).1 (J st s).2 st' (.ret (some s))
        | none => .fail) (fun _ _ _ => .fail)) (exec y md1 ⟨(t, .bool false) :: st.L, st.As, st.rd, st.ef, st.pr, st.vw⟩ (fun _ => .fail) (fun st' => match get st' with
        | some s => reqS (J st s).1 (J st s).2 st' (.ret (some s))
        | none => .fail) (fun _ _ _ => .fail)) fun s => nx (norm 1000 rest) fun md' => exec k md' ⟨(J st s).1, (J st s).2, st.rd, st.ef, st.pr, st.vw⟩ retV leafK backK
    | _, _ => .fail
  | _, .eo t j q e x y, md, st, retV, leafK, backK => eoC st t j q e (fun st' => exec x md st' retV leafK backK) fun st' => exec y md st' retV leafK backK
  | _, .np t j x y, md, st, retV, leafK, backK => match look t st.L with
    | some V => match compV j V with
      | some (.pointer none) => exec x md st retV leafK backK
      | some (.pointer (some _)) => exec y md st retV leafK backK
      | _ => .fail
    | none => .fail
  | _, .ret, md, st, retV, leafK, backK => match md with
    | .run (.code .ret :: _) => .join (retF st) retV
    | _ => .fail
  | _, .back, md, st, retV, leafK, backK => match md with
    | .run [.inLoop c, .inBlock id] => backK c id st
    | _ => .fail

theorem getKs_mem {α : Type} : ∀ {ks : List Nat} {L : List (Nat × α)} {xs : List α}, getKs ks L = some xs → ∀ x ∈ xs, ∃ j, (j, x) ∈ L
  | [], L, xs, h, x, hx => by simp [getKs] at h; subst h; cases hx
  | k :: ks, L, xs, h, x, hx => by
    simp only [getKs] at h
    split at h
    · rename_i y r h1 h2
      cases h
      cases hx with
      | head => exact getK_mem h1
      | tail _ hm => exact getKs_mem h2 x hm
    · cases h
theorem nx_ok {R : Type} {m : Option Md} {k : Md → VC R} {Φ : R → Prop} (h : (nx m k).ok Φ) : ∃ md, m = some md ∧ (k md).ok Φ := by
  unfold nx at h
  split at h
  · exact ⟨_, rfl, h⟩
  · exact (VC.fail_ok h).elim
end
end Go.Th
