/-
  The statements TracePlays of the program.
  Text 5 of 8: of what the proof needs (a row of the program: no condition is left); put together and made narrow by a program.
-/
import Derived.Shelf.Slices.In.SortNone
import Derived.Shelf.Sort.Plain
import Derived.Test.YtccbfeafebllhaaGreatProg
import Derived.Test.YtccbfeafebllhaaGreatYb4
set_option linter.unusedVariables false
set_option linter.unusedSimpArgs false
namespace Go.Th
noncomputable section
theorem St.aR {w0 w : World} {As : List HP} : ∀ {Bs : List HP}, St w0 (Bs ++ As) w -> St w0 As w
 | [], H => H
 | B :: Bs, H => St.aR (Bs := Bs) (St.drop (by simpa using H))
section
variable {E : Ev} {P : Program}
def kO {α : Type} : List Nat -> List (Nat × α) -> Option (List α)
 | [], _ => some []
 | k :: ks, L => match getK k L, kO ks L with
  | some x, some r => some (x :: r)
  | _, _ => none
def kys {α : Type} : List (Nat × α) -> List Nat
 | [] => []
 | (k, _) :: r => k :: kys r
def reqS {R : Type} (L : Env) (As : List (Nat × Atom E)) (st : Kn E) (K : VC R) : VC R :=
 match sel (cQ L) st.L, jy (kys As) st.As with
 | some L', some (ats, _) => .req L' L (.req ats (As.map (·.2)) K)
 | _, _ => .fail
theorem uS {R : Type} {n : Nat} {w0 w : World} {F : List HP} {st : Kn E} {a : Act} {Φ : R -> Prop} {L : Env} {As : List (Nat × Atom E)} {K : VC R} (e : KnOk n w0 F st a w) (h : (reqS L As st K).ok Φ) :
  zO n a L /\ St w0 (dens As ++ F) w /\ K.ok Φ := by
 unfold reqS at h;split at h
 ·rename_i L' ats rest h1 h2;obtain ⟨rfl, rfl, h3⟩ := h;refine ⟨sZ e.env h1, ?_, h3⟩;have H := e.hp.perm ((oM h2).append_right F);rw [aA] at H;have i := H.perm (show ((As.map (·.2)).map Atom.den ++ (dens rest ++ F)).Perm (dens rest ++ ((As.map (·.2)).map Atom.den ++ F)) by
   rw [<- aA, <- aA];exact List.Perm.append_right F List.perm_append_comm)
  exact i.aR
 ·exact (VC.zA h).elim
structure BCon (E : Ev) (R0 : Type) : Type 1 where
 code : Code
 X : Type
 V : Type
 T : Type
 W : Type
 cls : W -> R0 ⊕ T
 g : X -> V -> Option W
 rds : X -> List (Nat × RdV E)
 pL : X -> V -> List Nat -> List (Option Addr) -> Env
 pA : X -> V -> List Nat -> List (Option Addr) -> List (Nat × Atom E)
 mN : Nat
 mA : Nat
 qL : X -> T -> List Nat -> List (Option Addr) -> Env
 qA : X -> T -> List Nat -> List (Option Addr) -> List (Nat × Atom E)
def BCon.Sound {R0 : Type} (B : BCon E R0) (P : Program) (f : FuncId) (n : Nat) (retF : Kn E -> VC R0) : Prop := ∀ (Q : Value -> World -> Prop) (w0 : World) (F : List HP) (x : B.X) (v : B.V) (t : B.W) (l : List Nat) (y : List (Option Addr)) (a : Act) (w : World) (base : List Item), B.g x v = some t ->
 KnOk n w0 F ⟨B.pL x v l y, B.pA x v l y, B.rds x, [], [], []⟩ a w ->
 (∀ u, B.cls t = .inr u -> ∀ e i a' w', e.length = B.mN -> i.length = B.mA -> zO n a' (B.qL x u e i) -> St w0 (dens (B.qA x u e i) ++ F) w' -> Runs P f base a' w' Q) ->
 (∀ r, B.cls t = .inl r -> ∀ j a' w' z, KnOk n w0 F j a' w' -> (retF j).ok (· = r) -> Runs P f (.code .ret :: z) a' w' Q) ->
 Runs P f (.code B.code :: base) a w Q
structure B8 (E : Ev) (P : Program) (f : FuncId) (n : Nat) (R0 : Type) (retF : Kn E -> VC R0) : Type 1 where
 B : BCon E R0
 snd : B.Sound P f n retF
inductive Ct (E : Ev) (P : Program) (f : FuncId) (n : Nat) (R0 : Type) (retF : Kn E -> VC R0) : Type 1
 | leaf
 | s (x : Stp E P) (k : Ct E P f n R0 retF)
 | drw (k : Ct E P f n R0 retF)
 | rk (l : List (Nat × Nat)) (k : Ct E P f n R0 retF)
 | q (is : List Nat) (l : List Src) (k : Ct E P f n R0 retF)
 | a (j : Nat) (x : Stp E P) (l : List Src) (k : Ct E P f n R0 retF)
 | cond (x y : Ct E P f n R0 retF)
 | sR (x : Ct E P f n R0 retF)
 | uA (x : Ct E P f n R0 retF)
 | split (t : Nat) (x y : Ct E P f n R0 retF)
 | join (T : Type) (nN nA : Nat) (get : Kn E -> Option (T × List Nat × List (Option Addr))) (J : Kn E -> T -> List Nat -> List (Option Addr) -> Env × List (Nat × Atom E)) (x k : Ct E P f n R0 retF)
 | joinR (T : Type) (nN nA : Nat) (get : Kn E -> Option (T × List Nat × List (Option Addr))) (J : Kn E -> T -> List Nat -> List (Option Addr) -> Env × List (Nat × Atom E)) (x k : Ct E P f n R0 retF)
 | loop (B : B8 E P f n R0 retF) (get : Kn E -> Option (B.B.X × B.B.V × List Nat × List (Option Addr))) (k : Ct E P f n R0 retF)
 | blk (k : Ct E P f n R0 retF)
 | unr (k : Ct E P f n R0 retF)
 | alt2 (i : Nat) (x : Stp E P) (l : List Src) (c : Ct E P f n R0 retF) (j : Nat) (y : Stp E P) (l' : List Src) (c' : Ct E P f n R0 retF)
 | alt3 (i : Nat) (x : Stp E P) (l : List Src) (c : Ct E P f n R0 retF) (j : Nat) (y : Stp E P) (l' : List Src) (c' : Ct E P f n R0 retF) (m : Nat) (z : Stp E P) (l'' : List Src) (c'' : Ct E P f n R0 retF)
 | jg (T : Type) (nN nA : Nat) (get : Kn E -> Option (T × List Nat × List (Option Addr))) (J : Kn E -> T -> List Nat -> List (Option Addr) -> Env × List (Nat × Atom E)) (x k : Ct E P f n R0 retF)
 | pj (t : Nat) (T : Type) (M : Mx T) (get : Kn E -> Option T) (J : Kn E -> T -> Env × List (Nat × Atom E)) (x y k : Ct E P f n R0 retF)
 | eo (t j q e : Nat) (x y : Ct E P f n R0 retF)
 | np (t j : Nat) (x y : Ct E P f n R0 retF)
 | ret
 | back
 | dead
abbrev Ct.g {E : Ev} {P : Program} {f : FuncId} {n : Nat} {R0 : Type} {retF : Kn E -> VC R0} (a : Nat) (k : Ct E P f n R0 retF) : Ct E P f n R0 retF := .s (.seg a []) k
def rb (b : Nat) (l : List Nat) : List (Nat × Nat) := l.zipIdx.map (fun p => (p.1, b + p.2)) ++ l.zipIdx.map (fun p => (b + p.2, b + p.2 + 90000))
def ren (l : List (Nat × Nat)) (k : Nat) : Nat := match getK k l with
 | some j => j
 | none => k
def renK (l : List (Nat × Nat)) : List (Nat × Atom E) -> List (Nat × Atom E)
 | [] => []
 | (k, a) :: r => (ren l k, a) :: renK l r
theorem jM (l : List (Nat × Nat)) : ∀ As : List (Nat × Atom E), dens (renK l As) = dens As
 | [] => rfl
 | (k, a) :: r => by
  have := jM l r;simp only [dens, renK, pC] at this ⊢;rw [this]
def nx {R : Type} (m : Option Md) (k : Md -> VC R) : VC R := match m with
 | some md => k md
 | none => .fail
def Md.cut : Md -> Option (Md × List Item)
 | .run (x :: k) => some (.run [x], k)
 | .run [] => none
 | .reg ops i k => some (.reg ops i [], k)
 | .drw ops dn pend k => some (.drw ops dn pend [], k)
def onD {R : Type} (ops : Array Oper) (dn : List Nat) (pend : List (Nat × List Ob)) (k : List Item) (K : Md -> VC R) : VC R :=
 match Nat.ble ops.size dn.length with
 | true => match eqL (vC (vR dn) 0 ops.toList) [] with
  | true => nx (norm 1000 k) K
  | false => .fail
 | false => K (.drw ops dn pend k)
def cM (j : Nat) (V : Value) : Option Value := match Nat.beq j 999 with
 | true => some V
 | false => match V with
  | .tuple vs => vs.toList[j]?
  | _ => none
def setV (j : Nat) (V : Value) (x : Value) : Value := match Nat.beq j 999 with
 | true => x
 | false => match V with
  | .tuple vs => .tuple (vs.toList.set j x).toArray
  | _ => V
theorem jL {j : Nat} {V x : Value} (h : cM j V = some x) : setV j V x = V := by
 unfold cM at h;unfold setV;split at h
 ·simp at h; exact h.symm
 ·split at h
  ·rename_i vs;show Value.tuple _ = _;have : vs.toList.set j x = vs.toList := by
    apply List.ext_getElem?;intro i;rw [List.getElem?_set];split
    ·subst_vars
     split
     ·exact h.symm
     ·rename_i h3; rw [List.getElem?_eq_none (Nat.le_of_not_lt h3)]
    ·rfl
   rw [this]
  ·cases h
def eoC {R : Type} (st : Kn E) (t j q e : Nat) (X Y : Kn E -> VC R) : VC R :=
 match getK 77 st.vw, look t st.L, getK q st.As with
 | some (.opt o), some V, some (.sl c T sb sc l) => match cM j V with
  | some v => .req v (elemV sb (E.el c).sz o) (.cs (oS o) (fun _ => X ⟨(t, setV j V (.pointer none)) :: st.L, st.As, st.rd, st.ef, st.pr, st.vw⟩) fun i =>
    .bind (mIdx l i) fun x => .frN fun b => .frN fun off => Y ⟨(t, setV j V (.pointer (some ⟨b, off + i.toNat * (E.el c).sz, none⟩))) :: st.L, st.As, st.rd, (e, ⟨false, c, sb, l, i, x, b, off⟩) :: st.ef, st.pr, st.vw⟩)
  | none => .fail
 | _, _, _ => .fail
theorem zO.same {n : Nat} {a : Act} {L : Env} {t : Nat} {V : Value} (e : zO n a L) (h : look t L = some V) : zO n a ((t, V) :: L) := by
 refine ⟨e.size, e.defers, fun u v hv => ?_⟩;rw [w2] at hv;split at hv
 ·subst_vars; cases hv; exact e.has _ _ h
 ·exact e.has _ _ hv
theorem dQ {R : Type} {n : Nat} {w0 w : World} {F : List HP} {st : Kn E} {a : Act} {Φ : R -> Prop} {t j q e : Nat} {X Y : Kn E -> VC R} (u : KnOk n w0 F st a w) (h : (eoC st t j q e X Y).ok Φ) : ∃ y, KnOk n w0 F y a w /\ ((X y).ok Φ \/ (Y y).ok Φ) := by
 unfold eoC at h;split at h
 ·rename_i o V c T sb sc l h1 h2 h3;split at h
  ·rename_i v hv;obtain ⟨rfl, h4, A⟩ := h;cases o with
   | none =>
    refine ⟨⟨(t, setV j V (.pointer none)) :: st.L, st.As, st.rd, st.ef, st.pr, st.vw⟩, ⟨u.env.same (V := setV j V (.pointer none)) ?_, u.hp, u.fs.1, u.fs.2, u.fs.3, u.fs.4⟩, .inl (h4 () rfl)⟩;rw [h2]; exact congrArg some (jL hv).symm
   | some i =>
    obtain ⟨x, z, B⟩ := A i rfl;obtain ⟨D, hj⟩ := u.hp.mem (mL F (uN h3));obtain ⟨b, off, hs, _⟩ := (yN T (E.el c).enc (E.el c).sz sb sc l).base (E.el c).ok u.hp D hj z;rw [kg hs] at hv;refine ⟨⟨(t, setV j V (.pointer (some ⟨b, off + i.toNat * (E.el c).sz, none⟩))) :: st.L, st.As, st.rd, (e, ⟨false, c, sb, l, i, x, b, off⟩) :: st.ef, st.pr, st.vw⟩, ⟨u.env.same (V := setV j V (.pointer (some ⟨b, off + i.toNat * (E.el c).sz, none⟩))) ?_, u.hp, u.fs.1, ?_, u.fs.3, u.fs.4⟩, .inr (B b off)⟩
    ·rw [h2]; exact congrArg some (jL hv).symm
    ·intro p hp;cases hp with
     | head => exact ⟨hs, z, fun h => by cases h⟩
     | tail _ hm => exact u.fs.2 p hm
  ·exact (VC.zA h).elim
 ·exact (VC.zA h).elim
def av {R : Type} (u v : VC R) : VC R := .both u v v.mod
def exec {f : FuncId} {n : Nat} {R0 : Type} {retF : Kn E -> VC R0} : {R : Type} -> Ct E P f n R0 retF -> Md -> Kn E -> (R0 -> VC R) -> (Kn E -> VC R) -> (Code -> Nat -> Kn E -> VC R) -> VC R
 | _, .leaf, md, st, F, A, D => match md with
  | .run [] => A st
  | _ => .fail
 | _, .s x c, md, st, F, A, D => match md with
  | .reg ops i k => ab n ops i st x fun i' I => match Nat.ble ops.size i' with
   | true => nx (norm 1000 k) fun O => exec c O I F A D
   | false => exec c (.reg ops i' k) I F A D
  | .drw ops dn pend k => ghost st x fun I => exec c (.drw ops dn pend k) I F A D
  | .run t => ghost st x fun I => exec c (.run t) I F A D
 | _, .dead, md, st, F, A, D => .fail
 | _, .rk l c, md, st, F, A, D => exec c md ⟨st.L, renK l st.As, st.rd, st.ef, st.pr, st.vw⟩ F A D
 | _, .drw c, md, st, F, A, D => match md with
  | .run (.code (.region _ ops true) :: k) => match su ops with
   | true => exec c (.drw ops [] [] k) st F A D
   | false => .fail
  | _ => .fail
 | _, .q is l c, md, st, F, A, D => match md with
  | .drw ops dn pend k => aY (P := P) n ops dn pend st is l fun U S I => onD ops U S k fun O => exec c O I F A D
  | _ => .fail
 | _, .a j x l c, md, st, F, A, D => match md with
  | .drw ops dn pend k => bY n ops dn pend st j x l fun U S I => onD ops U S k fun O => exec c O I F A D
  | _ => .fail
 | _, .cond x y, md, st, F, A, D => match md with
  | .run (.code (.cond c u v) :: k) => match evO st.L c with
   | some (.bool b) => .ite b (nx (norm 1000 (.code u :: k)) fun O => exec x O st F A D) (nx (norm 1000 (.code v :: k)) fun O => exec y O st F A D)
   | _ => .fail
  | _ => .fail
 | _, .sR x, md, st, F, A, D => match md with
  | .run (.code (.cond c u v) :: k) => match evO st.L c with
   | some (.bool true) => nx (norm 1000 (.code u :: k)) fun O => exec x O st F A D
   | _ => .fail
  | _ => .fail
 | _, .uA x, md, st, F, A, D => match md with
  | .run (.code (.cond c u v) :: k) => match evO st.L c with
   | some (.bool false) => nx (norm 1000 (.code v :: k)) fun O => exec x O st F A D
   | _ => .fail
  | _ => .fail
 | _, .split t x y, md, st, F, A, D => match look t st.L with
  | some (.bool b) => .ite b (exec x md ⟨(t, .bool true) :: st.L, st.As, st.rd, st.ef, st.pr, st.vw⟩ F A D) (exec y md ⟨(t, .bool false) :: st.L, st.As, st.rd, st.ef, st.pr, st.vw⟩ F A D)
  | _ => .fail
 | _, .join T nN nA get J x k, md, st, F, A, D => match md.cut with
  | some (Y, rest) => .join (exec x Y st (fun _ => .fail) (fun I => match get I with
    | some (s, W, X) => match Nat.beq W.length nN, Nat.beq X.length nA with
     | true, true => reqS (J st s W X).1 (J st s W X).2 I (.ret (some s))
     | _, _ => .fail
    | none => .fail) (fun _ _ _ => .fail)) fun s => frNs nN fun W => frAs nA fun X => nx (norm 1000 rest) fun O => exec k O ⟨(J st s W X).1, (J st s W X).2, st.rd, st.ef, st.pr, st.vw⟩ F A D
  | none => .fail
 | _, .joinR T nN nA get J x k, md, st, F, A, D => match md.cut with
  | some (Y, rest) => .join (exec x Y st (fun r => .ret (some (.inl r))) (fun I => match get I with
    | some (s, W, X) => match Nat.beq W.length nN, Nat.beq X.length nA with
     | true, true => reqS (J st s W X).1 (J st s W X).2 I (.ret (some (Sum.inr s)))
     | _, _ => .fail
    | none => .fail) (fun _ _ _ => .fail)) fun s => .cs s F fun s => frNs nN fun W => frAs nA fun X => nx (norm 1000 rest) fun O => exec k O ⟨(J st s W X).1, (J st s W X).2, st.rd, st.ef, st.pr, st.vw⟩ F A D
  | none => .fail
 | _, .loop B get k, md, st, F, A, D => match md with
  | .run (.code c :: rest) => match get st with
   | some (x, v, W, X) => match kO (kys (B.B.rds x)) st.rd with
    | some rs => .req c B.B.code (.req rs ((B.B.rds x).map (·.2)) (reqS (B.B.pL x v W X) (B.B.pA x v W X) st (.bind (B.B.g x v) fun t => .cs (B.B.cls t) F fun u => frNs B.B.mN fun Z => frAs B.B.mA fun a0 =>
     nx (norm 1000 rest) fun O => exec k O ⟨B.B.qL x u Z a0, B.B.qA x u Z a0, st.rd, st.ef, st.pr, st.vw⟩ F A D)))
    | none => .fail
   | none => .fail
  | _ => .fail
 | _, .blk c, md, st, F, A, D => match md with
  | .run (.code (.block id b) :: k) => nx (norm 1000 (.code b :: .inBlock id :: k)) fun O => exec c O st F A D
  | _ => .fail
 | _, .unr c, md, st, F, A, D => match md with
  | .run (.code (.block id (.loop b)) :: k) => nx (norm 1000 (.code b :: .inLoop b :: .inBlock id :: k)) fun O => exec c O st F A D
  | .run (.inLoop b :: k) => nx (norm 1000 (.code b :: .inLoop b :: k)) fun O => exec c O st F A D
  | _ => .fail
 | _, .alt2 i x l c j y l' c', md, st, F, A, D => match md with
  | .drw ops dn pend k => match Nat.blt dn.length ops.size && eqL (vC (vR dn) 0 ops.toList) [i, j] with
   | true => av (ji n ops dn pend st i x l fun U S I => onD ops U S k fun O => exec c O I F A D) (ji n ops dn pend st j y l' fun U S I => onD ops U S k fun O => exec c' O I F A D)
   | false => .fail
  | _ => .fail
 | _, .alt3 i x l c j y l' c' m z l'' c'', md, st, F, A, D => match md with
  | .drw ops dn pend k => match Nat.blt dn.length ops.size && eqL (vC (vR dn) 0 ops.toList) [i, j, m] with
   | true => av (ji n ops dn pend st i x l fun U S I => onD ops U S k fun O => exec c O I F A D) (av (ji n ops dn pend st j y l' fun U S I => onD ops U S k fun O => exec c' O I F A D) (ji n ops dn pend st m z l'' fun U S I => onD ops U S k fun O => exec c'' O I F A D))
   | false => .fail
  | _ => .fail
 | _, .jg T nN nA get J x k, md, st, F, A, D => match md.cut with
  | some (Y, rest) => .grj (exec x Y st (fun _ => .fail) (fun I => match get I with
    | some (s, W, X) => match Nat.beq W.length nN, Nat.beq X.length nA with
     | true, true => reqS (J st s W X).1 (J st s W X).2 I (.ret (some s))
     | _, _ => .fail
    | none => .fail) (fun _ _ _ => .fail)) fun s => frNs nN fun W => frAs nA fun X => nx (norm 1000 rest) fun O => exec k O ⟨(J st s W X).1, (J st s W X).2, st.rd, st.ef, st.pr, st.vw⟩ F A D
  | none => .fail
 | _, .pj t T M get J x y k, md, st, F, A, D => match md.cut, look t st.L with
  | some (Y, rest), some (.bool b) => .sel M b (exec x Y ⟨(t, .bool true) :: st.L, st.As, st.rd, st.ef, st.pr, st.vw⟩ (fun _ => .fail) (fun I => match get I with
    | some s => reqS (J st s).1 (J st s).2 I (.ret (some s))
    | none => .fail) (fun _ _ _ => .fail)) (exec y Y ⟨(t, .bool false) :: st.L, st.As, st.rd, st.ef, st.pr, st.vw⟩ (fun _ => .fail) (fun I => match get I with
    | some s => reqS (J st s).1 (J st s).2 I (.ret (some s))
    | none => .fail) (fun _ _ _ => .fail)) fun s => nx (norm 1000 rest) fun O => exec k O ⟨(J st s).1, (J st s).2, st.rd, st.ef, st.pr, st.vw⟩ F A D
  | _, _ => .fail
 | _, .eo t j q e x y, md, st, F, A, D => eoC st t j q e (fun I => exec x md I F A D) fun I => exec y md I F A D
 | _, .np t j x y, md, st, F, A, D => match look t st.L with
  | some V => match cM j V with
   | some (.pointer none) => exec x md st F A D
   | some (.pointer (some _)) => exec y md st F A D
   | _ => .fail
  | none => .fail
 | _, .ret, md, st, F, A, D => match md with
  | .run (.code .ret :: _) => .join (retF st) F
  | _ => .fail
 | _, .back, md, st, F, A, D => match md with
  | .run [.inLoop c, .inBlock id] => D c id st
  | _ => .fail
theorem jR {α : Type} : ∀ {ks : List Nat} {L : List (Nat × α)} {xs : List α}, kO ks L = some xs -> ∀ x ∈ xs, ∃ j, (j, x) ∈ L
 | [], L, xs, h, x, e => by simp [kO] at h; subst h; cases e
 | k :: ks, L, xs, h, x, e => by
  simp only [kO] at h;split at h
  ·rename_i y r h1 h2;cases h;cases e with
   | head => exact wm h1
   | tail _ hm => exact jR h2 x hm
  ·cases h
theorem qM {R : Type} {m : Option Md} {k : Md -> VC R} {Φ : R -> Prop} (h : (nx m k).ok Φ) : ∃ md, m = some md /\ (k md).ok Φ := by
 unfold nx at h;split at h
 ·exact ⟨_, rfl, h⟩
 ·exact (VC.zA h).elim
end
end
noncomputable section
section
variable {E : Ev} {P : Program} {f : FuncId} {n : Nat} {R0 : Type} {retF : Kn E -> VC R0}
theorem oq {t : Nat} {b : Bool} {L : Env} {n : Nat} {a : Act} (e : zO n a L) (h : look t L = some (.bool b)) : zO n a ((t, .bool b) :: L) := by
 refine ⟨e.size, e.defers, fun u v hv => ?_⟩;rw [w2] at hv;split at hv
 ·subst_vars; cases hv; exact e.has _ _ h
 ·exact e.has _ _ hv
theorem bm.kn {w0 w : World} {F : List HP} {st : Kn E} {a : Act} {L : Env} {As : List (Nat × Atom E)} (h : bm F st) (e : zO n a L) (i : St w0 (dens As ++ F) w) : KnOk n w0 F ⟨L, As, st.rd, st.ef, st.pr, st.vw⟩ a w := ⟨e, i, h.1, h.2, h.3, h.4⟩
theorem Md.qf {md e : Md} {rest base : List Item} {a : Act} {w : World} {Q : Value -> World -> Prop} (h : md.cut = some (e, rest)) (hr : e.Runs P f (rest ++ base) a w Q) : md.Runs P f base a w Q := by
 cases md with
 | run t =>
  cases t with
  | nil => cases h
  | cons x t =>
   simp only [Md.cut, Option.some.injEq, Prod.mk.injEq] at h;obtain ⟨rfl, rfl⟩ := h;exact hr
 | reg ops i k =>
  simp only [Md.cut, Option.some.injEq, Prod.mk.injEq] at h;obtain ⟨rfl, rfl⟩ := h;exact hr
 | drw ops dn pend k =>
  simp only [Md.cut, Option.some.injEq, Prod.mk.injEq] at h;obtain ⟨rfl, rfl⟩ := h;exact hr
theorem sf {R : Type} {ops : Array Oper} {dn : List Nat} {pend : List (Nat × List Ob)} {k base : List Item} {K : Md -> VC R} {Φ : R -> Prop} {a : Act} {w : World} {Q : Value -> World -> Prop} (h : (onD ops dn pend k K).ok Φ)
  (hk : ∀ md, (K md).ok Φ -> md.Runs P f base a w Q) : WQ P f ops dn pend (k ++ base) a w Q := by
 unfold onD at h;split at h
 ·split at h
  ·rename_i h1;obtain ⟨md, hm, h2⟩ := qM h;exact WQ.done h1 (yQ 1000 hm (hk md h2))
  ·exact (VC.zA h).elim
 ·exact hk _ h
theorem lq (c0 : P.follows .mixedOrders = true) {w0 : World} {F : List HP} {Q : Value -> World -> Prop} {Tg : R0 -> Prop} (b1 : ∀ st a w k, KnOk n w0 F st a w -> (retF st).ok Tg -> Runs P f (.code .ret :: k) a w Q) :
  ∀ (ct : Ct E P f n R0 retF) {R : Type} (md : Md) (base : List Item) (st : Kn E) (I : R0 -> VC R) (A : Kn E -> VC R) (D : Code -> Nat -> Kn E -> VC R) (Φ : R -> Prop) (a : Act) (w : World), KnOk n w0 F st a w ->
   (exec ct md st I A D).ok Φ -> (∀ r, (I r).ok Φ -> Tg r) -> (∀ S a' w', KnOk n w0 F S a' w' -> (A S).ok Φ -> Runs P f base a' w' Q) ->
   (∀ c id S a' w', KnOk n w0 F S a' w' -> (D c id S).ok Φ -> Runs P f (.inLoop c :: .inBlock id :: base) a' w' Q) -> md.Runs P f base a w Q := by
 intro ct;induction ct with
 | leaf =>
  intro R md base st I A D Φ a w O h hV X Y;simp only [exec] at h;split at h
  ·exact X _ _ _ O h
  ·exact (VC.zA h).elim
 | s x c ih =>
  intro R md base st I A D Φ a w O h hV X Y;simp only [exec] at h;split at h
  ·rename_i ops i k;refine jV O h fun i' S a' w' U h' => ?_
   split at h'
   ·rename_i hi;obtain ⟨W, hm, h2⟩ := qM h';exact WR.done hi (yQ 1000 hm (ih _ _ _ _ _ _ _ _ _ U h2 hV X Y))
   ·exact ih (.reg ops i' k) base S I A D Φ a' w' U h' hV X Y
  ·rename_i ops dn pend k;obtain ⟨S, U, h'⟩ := xr O h;exact ih (.drw ops dn pend k) base S I A D Φ a w U h' hV X Y
  ·rename_i t;obtain ⟨S, U, h'⟩ := xr O h;exact ih (.run t) base S I A D Φ a w U h' hV X Y
 | dead =>
  intro R md base st I A D Φ a w O h hV X Y;simp only [exec] at h;exact (VC.zA h).elim
 | rk l c ih =>
  intro R md base st I A D Φ a w O h hV X Y;simp only [exec] at h;exact ih md base ⟨st.L, renK l st.As, st.rd, st.ef, st.pr, st.vw⟩ I A D Φ a w ⟨O.env, by rw [jM]; exact O.hp, O.fs.1, O.fs.2, O.fs.3, O.fs.4⟩ h hV X Y
 | drw c ih =>
  intro R md base st I A D Φ a w O h hV X Y;simp only [exec] at h;split at h
  ·rename_i id ops k;split at h
   ·rename_i hr;exact Runs.drawn c0 hr (ih (.drw ops [] [] k) base st I A D Φ a _ ⟨O.env, O.hp.drew, O.fs.1, O.fs.2, O.fs.3, O.fs.4⟩ h hV X Y)
   ·exact (VC.zA h).elim
  ·exact (VC.zA h).elim
 | q is l c ih =>
  intro R md base st I A D Φ a w O h hV X Y;simp only [exec] at h;split at h
  ·refine hP O h fun a7 a0 S a' U h' => ?_
   exact sf h' fun W h2 => ih W base S I A D Φ a' w U h2 hV X Y
  ·exact (VC.zA h).elim
 | a j x l c ih =>
  intro R md base st I A D Φ a w O h hV X Y;simp only [exec] at h;split at h
  ·refine iI O h fun a7 a0 S a' w' U h' => ?_
   exact sf h' fun W h2 => ih W base S I A D Φ a' w' U h2 hV X Y
  ·exact (VC.zA h).elim
 | cond x y Z a2 =>
  intro R md base st I A D Φ a w O h hV X Y;simp only [exec] at h;split at h
  ·rename_i c u v k;split at h
   ·rename_i b hc;refine Runs.cond O.env hc (fun hb => ?_) (fun hb => ?_)
    ·obtain ⟨W, hm, h2⟩ := qM (h.1 hb);exact yQ 1000 hm (Z _ _ _ _ _ _ _ _ _ O h2 hV X Y)
    ·obtain ⟨W, hm, h2⟩ := qM (h.2 hb);exact yQ 1000 hm (a2 _ _ _ _ _ _ _ _ _ O h2 hV X Y)
   ·exact (VC.zA h).elim
  ·exact (VC.zA h).elim
 | sR x Z =>
  intro R md base st I A D Φ a w O h hV X Y;simp only [exec] at h;split at h
  ·rename_i c u v k;split at h
   ·rename_i hc;obtain ⟨W, hm, h2⟩ := qM h;exact Runs.sR O.env hc (yQ 1000 hm (Z _ _ _ _ _ _ _ _ _ O h2 hV X Y))
   ·exact (VC.zA h).elim
  ·exact (VC.zA h).elim
 | uA x Z =>
  intro R md base st I A D Φ a w O h hV X Y;simp only [exec] at h;split at h
  ·rename_i c u v k;split at h
   ·rename_i hc;obtain ⟨W, hm, h2⟩ := qM h;exact Runs.uA O.env hc (yQ 1000 hm (Z _ _ _ _ _ _ _ _ _ O h2 hV X Y))
   ·exact (VC.zA h).elim
  ·exact (VC.zA h).elim
 | split t x y Z a2 =>
  intro R md base st I A D Φ a w O h hV X Y;simp only [exec] at h;split at h
  ·rename_i b hb;cases b with
   | true => exact Z _ _ _ _ _ _ _ _ _ (O.fs.kn (oq O.env hb) O.hp) (h.1 rfl) hV X Y
   | false => exact a2 _ _ _ _ _ _ _ _ _ (O.fs.kn (oq O.env hb) O.hp) (h.2 rfl) hV X Y
  ·exact (VC.zA h).elim
 | join T nN nA get J x k Z a4 =>
  intro R md base st I A D Φ a w O h hV X Y;simp only [exec] at h;split at h
  ·rename_i b2 rest hc;refine Md.qf hc (Z _ _ _ _ _ _ _ _ _ O h (fun r hr => (VC.zA hr).elim) (fun S a' w' U hl => ?_) (fun c id S a' w' _ hb => (VC.zA hb).elim));split at hl
   ·rename_i s ns aS hg;split at hl
    ·rename_i h1 h2;obtain ⟨h3, h4, y, hy, h5⟩ := uS U hl;cases hy;rw [<- Nat.eq_of_beq_eq_true h1] at h5;have h6 := oK _ _ h5;rw [<- Nat.eq_of_beq_eq_true h2] at h6;obtain ⟨W, hm, h8⟩ := qM (oR _ _ h6);exact yQ 1000 hm (a4 _ _ _ _ _ _ _ _ _ (O.fs.kn h3 h4) h8 hV X Y)
    ·exact (VC.zA hl).elim
   ·exact (VC.zA hl).elim
  ·exact (VC.zA h).elim
 | joinR T nN nA get J x k Z a4 =>
  intro R md base st I A D Φ a w O h hV X Y;simp only [exec] at h;split at h
  ·rename_i b2 rest hc;refine Md.qf hc (Z _ _ _ _ _ _ _ _ _ O h (fun r hr => ?_) (fun S a' w' U hl => ?_) (fun c id S a' w' _ hb => (VC.zA hb).elim))
   ·obtain ⟨y, hy, h2⟩ := hr;cases hy;exact hV r (h2.1 r rfl)
   ·split at hl
    ·rename_i s ns aS hg;split at hl
     ·rename_i h1 h2;obtain ⟨h3, h4, y, hy, h5⟩ := uS U hl;cases hy;have h5 := h5.2 s rfl;rw [<- Nat.eq_of_beq_eq_true h1] at h5;have h6 := oK _ _ h5;rw [<- Nat.eq_of_beq_eq_true h2] at h6;obtain ⟨W, hm, h8⟩ := qM (oR _ _ h6);exact yQ 1000 hm (a4 _ _ _ _ _ _ _ _ _ (O.fs.kn h3 h4) h8 hV X Y)
     ·exact (VC.zA hl).elim
    ·exact (VC.zA hl).elim
  ·exact (VC.zA h).elim
 | loop B get k a4 =>
  intro R md base st I A D Φ a w O h hV X Y;simp only [exec] at h;split at h
  ·rename_i c rest;split at h
   ·rename_i x v ns aS hg;split at h
    ·rename_i rs c2;obtain ⟨rfl, h2, h3⟩ := h;obtain ⟨h4, h5, t, ht, h6⟩ := uS O h3;refine B.snd Q w0 F x v t ns aS a w (rest ++ base) ht ⟨h4, h5, ?_, by simp, by simp, by simp⟩ ?_ ?_
     ·intro p hp;have h7 : p.2 ∈ rs := by rw [h2]; exact List.mem_map_of_mem hp
      obtain ⟨j, hj⟩ := jR c2 _ h7;have := O.fs.1 (j, p.2) hj;exact this
     ·intro u hu c6 c7 a' w' hn ha hE hH;have b5 := h6.2 u hu;rw [<- hn] at b5;have h7 := oK _ _ b5;rw [<- ha] at h7;obtain ⟨W, hm, h8⟩ := qM (oR _ _ h7);exact yQ 1000 hm (a4 _ _ _ _ _ _ _ _ _ (O.fs.kn hE hH) h8 hV X Y)
     ·intro r hr S a' w' k' U c3;have e := hV r (h6.1 r hr);exact b1 _ _ _ _ U (VC.mono _ (fun r' h => by subst h; exact e) c3)
    ·exact (VC.zA h).elim
   ·exact (VC.zA h).elim
  ·exact (VC.zA h).elim
 | blk c ih =>
  intro R md base st I A D Φ a w O h hV X Y;simp only [exec] at h;split at h
  ·obtain ⟨W, hm, h2⟩ := qM h;exact Runs.block (yQ 1000 hm (ih _ _ _ _ _ _ _ _ _ O h2 hV X Y))
  ·exact (VC.zA h).elim
 | unr c ih =>
  intro R md base st I A D Φ a w O h hV X Y;simp only [exec] at h;split at h
  ·obtain ⟨W, hm, h2⟩ := qM h;exact Runs.block (Runs.bM (yQ 1000 hm (ih _ _ _ _ _ _ _ _ _ O h2 hV X Y)))
  ·obtain ⟨W, hm, h2⟩ := qM h;exact Runs.inLoop (yQ 1000 hm (ih _ _ _ _ _ _ _ _ _ O h2 hV X Y))
  ·exact (VC.zA h).elim
 | alt2 i x l c j y l' c' b3 b4 =>
  intro R md base st I A D Φ a w O h hV X Y;simp only [exec] at h;split at h
  ·split at h
   ·rename_i hr;refine WQ.act2 i j hr ?_ ?_
    ·refine u6 O h.1 fun a7 a0 S a' w' U h' => ?_
     exact sf h' fun W h2 => b3 W base S I A D Φ a' w' U h2 hV X Y
    ·refine u6 O (h.2 rfl) fun a7 a0 S a' w' U h' => ?_
     exact sf h' fun W h2 => b4 W base S I A D Φ a' w' U h2 hV X Y
   ·exact (VC.zA h).elim
  ·exact (VC.zA h).elim
 | alt3 i x l c j y l' c' m z l'' c'' b3 b4 c4 =>
  intro R md base st I A D Φ a w O h hV X Y;simp only [exec] at h;split at h
  ·split at h
   ·rename_i hr;refine WQ.act3 i j m hr ?_ ?_ ?_
    ·refine u6 O h.1 fun a7 a0 S a' w' U h' => ?_
     exact sf h' fun W h2 => b3 W base S I A D Φ a' w' U h2 hV X Y
    ·refine u6 O ((h.2 rfl).1) fun a7 a0 S a' w' U h' => ?_
     exact sf h' fun W h2 => b4 W base S I A D Φ a' w' U h2 hV X Y
    ·refine u6 O ((h.2 rfl).2 rfl) fun a7 a0 S a' w' U h' => ?_
     exact sf h' fun W h2 => c4 W base S I A D Φ a' w' U h2 hV X Y
   ·exact (VC.zA h).elim
  ·exact (VC.zA h).elim
 | jg T nN nA get J x k Z a4 =>
  intro R md base st I A D Φ a w O h hV X Y;simp only [exec] at h;split at h
  ·rename_i b2 rest hc;refine Md.qf hc (Z _ _ _ _ _ _ _ _ _ O h (fun r hr => (VC.zA hr).elim) (fun S a' w' U hl => ?_) (fun c id S a' w' _ hb => (VC.zA hb).elim));split at hl
   ·rename_i s ns aS hg;split at hl
    ·rename_i h1 h2;obtain ⟨h3, h4, y, hy, h5⟩ := uS U hl;cases hy;rw [<- Nat.eq_of_beq_eq_true h1] at h5;have h6 := oK _ _ h5;rw [<- Nat.eq_of_beq_eq_true h2] at h6;obtain ⟨W, hm, h8⟩ := qM (oR _ _ h6);exact yQ 1000 hm (a4 _ _ _ _ _ _ _ _ _ (O.fs.kn h3 h4) h8 hV X Y)
    ·exact (VC.zA hl).elim
   ·exact (VC.zA hl).elim
  ·exact (VC.zA h).elim
 | pj t T M get J x y k Z a2 a4 =>
  intro R md base st I A D Φ a w O h hV X Y;simp only [exec] at h;split at h
  ·rename_i b2 rest b hc hb;have fin : ∀ (S : Kn E) (a' : Act) (w' : World), KnOk n w0 F S a' w' -> ((match get S with
     | some s => reqS (J st s).1 (J st s).2 S (.ret (some s))
     | none => .fail : VC T)).ok (fun s => (nx (norm 1000 rest) fun W => exec k W ⟨(J st s).1, (J st s).2, st.rd, st.ef, st.pr, st.vw⟩ I A D).ok Φ) -> Runs P f (rest ++ base) a' w' Q := by
    intro S a' w' U hl;split at hl
    ·rename_i s hg;obtain ⟨h3, h4, y, hy, h5⟩ := uS U hl;cases hy;obtain ⟨W, hm, h8⟩ := qM h5;exact yQ 1000 hm (a4 _ _ _ _ _ _ _ _ _ (O.fs.kn h3 h4) h8 hV X Y)
    ·exact (VC.zA hl).elim
   cases b with
   | true => exact Md.qf hc (Z _ _ _ _ _ _ _ _ _ (O.fs.kn (oq O.env hb) O.hp) (h.1 rfl) (fun r hr => (VC.zA hr).elim) fin (fun c id S a' w' _ hb => (VC.zA hb).elim))
   | false => exact Md.qf hc (a2 _ _ _ _ _ _ _ _ _ (O.fs.kn (oq O.env hb) O.hp) (h.2 rfl) (fun r hr => (VC.zA hr).elim) fin (fun c id S a' w' _ hb => (VC.zA hb).elim))
  ·exact (VC.zA h).elim
 | eo t j q e x y Z a2 =>
  intro R md base st I A D Φ a w O h hV X Y;simp only [exec] at h;obtain ⟨S, U, h' | h'⟩ := dQ O h
  ·exact Z _ _ _ _ _ _ _ _ _ U h' hV X Y
  ·exact a2 _ _ _ _ _ _ _ _ _ U h' hV X Y
 | np t j x y Z a2 =>
  intro R md base st I A D Φ a w O h hV X Y;simp only [exec] at h;split at h
  ·split at h
   ·exact Z _ _ _ _ _ _ _ _ _ O h hV X Y
   ·exact a2 _ _ _ _ _ _ _ _ _ O h hV X Y
   ·exact (VC.zA h).elim
  ·exact (VC.zA h).elim
 | ret =>
  intro R md base st I A D Φ a w O h hV X Y;simp only [exec] at h;split at h
  ·exact b1 _ _ _ _ O (VC.mono _ hV h)
  ·exact (VC.zA h).elim
 | back =>
  intro R md base st I A D Φ a w O h hV X Y;simp only [exec] at h;split at h
  ·exact Y _ _ _ _ _ O h
  ·exact (VC.zA h).elim
def zipN {α : Type} : Nat -> List α -> List (Nat × α)
 | _, [] => []
 | i, x :: r => (i, x) :: zipN (i + 1) r
theorem kW {α : Type} : ∀ (i : Nat) (l : List α), (zipN i l).map (·.2) = l
 | _, [] => rfl
 | i, x :: r => by simp [zipN, kW (i + 1) r]
def fx79 : List (Nat × Prop) -> List Prop
 | [] => []
 | (k, p) :: r => match Nat.beq k 79 with
  | true => p :: fx79 r
  | false => fx79 r
theorem eu : ∀ {l : List (Nat × Prop)}, (∀ p ∈ l, p.2) -> ∀ p ∈ fx79 l, p
 | [], _, p, hp => by cases hp
 | (k, q) :: r, h, p, hp => by
  have ih := eu (l := r) fun x e => h x (mC _ e)
  unfold fx79 at hp;split at hp
  ·cases hp with
   | head => exact h (k, q) (List.mem_cons_self ..)
   | tail _ hm => exact ih p hm
  ·exact ih p hp
def retC (P : Program) (C : Con E) (rs : List ResultVar) (src : List Src) (keys : List Nat) (out : Kn E -> Option (C.T × List Nat × List (Option Addr))) (i : C.I) (st : Kn E) : VC C.T :=
 match out st with
 | some (t, j, l) => match Nat.beq j.length C.nN, Nat.beq l.length C.nA, srcs st src, jy (C.BQ i t keys) st.As with
  | true, true, some (u, obs, eqs), some (ats, _) => match qS P st.L rs u with
   | some (vs, e) => .req e obs (.req (eqs.map (·.1)) (eqs.map (·.2)) (.req (tr vs) (C.valA i t j l) (.req ats (C.ic i t j l) (.req (C.fx i t) (fx79 st.pr) (.ret (some t))))))
   | none => .fail
  | _, _, _, _ => .fail
 | none => .fail
def st0 (C : Con E) (i : C.I) : Kn E := ⟨oH 0 (C.args i), zipN 0 (C.ats i), zipN 0 (C.rds i), [], [], []⟩
def vcF {P : Program} {n : Nat} (C : Con E) (c : Code) (rs : List ResultVar) (src : List Src) (keys : List Nat) (out : Kn E -> Option (C.T × List Nat × List (Option Addr))) (i : C.I) (e : Ct E P C.fid n C.T (retC P C rs src keys out i)) : VC C.T :=
 nx (norm 1000 [.code c]) fun md => exec e md (st0 C i) (fun t => .ret (some t)) (fun st => match rs with
  | [] => .join (retC P C rs src keys out i st) fun t => .ret (some t)
  | _ => .fail) fun _ _ _ => .fail
theorem m0 {C : Con E} {rs : List ResultVar} {src : List Src} {keys : List Nat} {out : Kn E -> Option (C.T × List Nat × List (Option Addr))} {i : C.I} {st : Kn E} {n : Nat} {w0 w : World} {F : List HP} {a : Act} {t : C.T}
  (u : KnOk n w0 F st a w) (h : (retC P C rs src keys out i st).ok (· = t)) : ∃ e obs vs j l, xO w obs /\ qS P st.L rs e = some (vs, obs) /\ j.length = C.nN /\ l.length = C.nA /\ tr vs = C.valA i t j l /\ St w0 ((C.ic i t j l).map Atom.den ++ F) w /\ ∀ p ∈ C.fx i t, p := by
 unfold retC at h;split at h
 ·rename_i z j l X;split at h
  ·rename_i e obs eqs ats rest h1 h2 h3 h4;split at h
   ·rename_i vs A B;obtain ⟨rfl, D, J, O, x, y, S, U⟩ := h;cases S;subst U;refine ⟨e, _, vs, j, l, tL u h3 (lJ D), B, Nat.eq_of_beq_eq_true h1, Nat.eq_of_beq_eq_true h2, J, ?_, by rw [x]; exact eu u.fs.3⟩;have H := u.hp.perm ((oM h4).append_right F);rw [aA, O] at H;have W := H.perm (show ((C.ic i z j l).map Atom.den ++ (dens rest ++ F)).Perm (dens rest ++ ((C.ic i z j l).map Atom.den ++ F)) by
     rw [<- aA, <- aA];exact List.Perm.append_right F List.perm_append_comm)
    exact W.aR
   ·exact (VC.zA h).elim
  ·exact (VC.zA h).elim
 ·exact (VC.zA h).elim
theorem gk (J : P.follows .mixedOrders = true) (C : Con E) {fn : Func} {c : Code} {n : Nat} {rs : List ResultVar} (src : List Src) (keys : List Nat) (out : Kn E -> Option (C.T × List Nat × List (Option Addr))) (D : ∀ i, Ct E P C.fid n C.T (retC P C rs src keys out i))
  (hf : P.funcs[C.fid]? = some fn) (O : fn.body = some c) (hn : fn.ntmps = n) (hr : fn.results = rs.toArray) (hl : ∀ i, Nat.ble (C.args i).length n = true)
  (h1 : ∀ i, vcF C c rs src keys out i (D i) = (vcF C c rs src keys out i (D i)).rfx) (h2 : ∀ i s, (vcF C c rs src keys out i (D i)).mod s = C.model i) : C.Sound P := by
 intro i t hm w0 w F S H;refine enter hf O hn (hl i) fun a hE => ?_
 have U := VC.good _ (· = t) (h1 i) fun s => ⟨t, (h2 i s).trans hm, rfl⟩
 obtain ⟨md, W, h3⟩ := qM U;have I : KnOk n w0 F (st0 C i) a w := by
  refine ⟨hE, ?_, ?_, by simp [st0], by simp [st0], by simp [st0]⟩
  ·simpa [st0, dens, kW] using H
  ·intro p hp;refine S p.2 ?_;have : p.2 ∈ (zipN 0 (C.rds i)).map (·.2) := List.mem_map_of_mem hp
   rwa [kW] at this
 have := yQ (P := P) (f := C.fid) (a := a) (w := w) (base := []) (Q := fun v w' => ∃ j l, j.length = C.nN /\ l.length = C.nA /\ v = C.valA i t j l /\ St w0 ((C.ic i t j l).map Atom.den ++ F) w' /\ ∀ p ∈ C.fx i t, p) 1000 W
  (lq J (Tg := (· = t)) (fun st a w k I h => by
    obtain ⟨A, obs, vs, j, l, ho, hv, u, x, X, Y, z⟩ := m0 I h;exact Runs.retO I.env hf hr A hv ho ⟨j, l, u, x, X, Y, z⟩) (D i) md [] (st0 C i) _ _ _ _ a w I h3 (fun r hr => by obtain ⟨y, Z, h⟩ := hr; cases Z; exact h) (fun a0 a' w' B hl => by
    split at hl
    ·obtain ⟨A, obs, vs, j, l, ho, hv, u, x, X, Y, z⟩ := m0 B (VC.mono _ (fun r hr => by obtain ⟨y, Z, h⟩ := hr; cases Z; exact h) hl);have e : vs = [] := by
      simp only [qS, Option.some.injEq, Prod.mk.injEq] at hv;exact hv.1.symm
     subst e;exact Runs.fin B.env hf hr (vs := []) rfl ⟨j, l, u, x, X, Y, z⟩
    ·exact (VC.zA hl).elim) (fun c id a0 a' w' _ O => (VC.zA O).elim))
 simpa using this
theorem fsn (j : P.follows .mixedOrders = true) (C : Con E) {fn : Func} {c : Code} {n : Nat} {rs : List ResultVar} (src : List Src) (keys : List Nat) (out : Kn E -> Option (C.T × List Nat × List (Option Addr))) (e : ∀ i, Ct E P C.fid n C.T (retC P C rs src keys out i))
  (hf : P.funcs[C.fid]? = some fn) (l : fn.body = some c := by rfl) (hn : fn.ntmps = n := by rfl) (hr : fn.results = rs.toArray := by kernel_rfl) (hl : ∀ i, Nat.ble (C.args i).length n = true := by intro _; rfl)
  (h1 : ∀ i, vcF C c rs src keys out i (e i) = (vcF C c rs src keys out i (e i)).rfx := by intro i; kernel_rfl) (h2 : ∀ i s, (vcF C c rs src keys out i (e i)).mod s = C.model i := by intro i s; kernel_rfl) : C.Sound P := gk j C src keys out e hf l hn hr hl h1 h2
def vcL {P : Program} {f : FuncId} {n : Nat} {R0 : Type} {retF : Kn E -> VC R0} (B : BCon E R0) (body : Code) (id : Nat) (G : Nat -> B.X -> B.V -> Option B.W) (inl : R0 -> Option B.W) (inr : B.T -> B.W) (get : Kn E -> Option (B.V × List Nat × List (Option Addr))) (j : Kn E -> Option (B.T × List Nat × List (Option Addr)))
  (A : Ct E P f n R0 retF) (m : Nat) (x : B.X) (v : B.V) (y : List Nat) (z : List (Option Addr)) : VC B.W :=
 nx (norm 1000 [.code body, .inLoop body, .inBlock id]) fun md => exec A md ⟨B.pL x v y z, B.pA x v y z, B.rds x, [], [], []⟩ (fun r => .ret (inl r)) (fun st => match j st with
  | some (u, e, i) => match Nat.beq e.length B.mN, Nat.beq i.length B.mA with
   | true, true => reqS (B.qL x u e i) (B.qA x u e i) st (.ret (some (inr u)))
   | _, _ => .fail
  | none => .fail) fun c l st => .req (c, l) (body, id) (match get st with
   | some (t, e, i) => reqS (B.pL x t e i) (B.pA x t e i) st (.ret (G m x t))
   | none => .fail)
theorem VC.wL : ∀ {R : Type} (v : VC R), v.ok (fun _ => False) -> False
 | _, .ret o, h => by obtain ⟨_, _, h⟩ := h; exact h
 | _, .bind m k, h => by obtain ⟨x, _, h⟩ := h; exact VC.wL (k x) h
 | _, .ite c x y, h => by
  cases i : c with
  | true => exact VC.wL x (h.1 i)
  | false => exact VC.wL y (h.2 i)
 | _, .frN k, h => VC.wL (k 0) (h 0)
 | _, .frA k, h => VC.wL (k none) (h none)
 | _, .req a b k, h => VC.wL k h.2
 | _, .join x k, h => VC.wL x (VC.mono x (fun y e => VC.wL (k y) e) h)
 | _, .cs z x y, h => by
  cases z with
  | inl a => exact VC.wL (x a) (h.1 a rfl)
  | inr b => exact VC.wL (y b) (h.2 b rfl)
 | _, .both u v vm, h => VC.wL u h.1
 | _, .grj x k, h => VC.wL x (VC.mono x (fun y e => VC.wL (k y) e) h)
 | _, .sel M b x y k, h => by
  cases b with
  | true => exact VC.wL x (VC.mono x (fun y e => VC.wL (k y) e) (h.1 rfl))
  | false => exact VC.wL y (VC.mono y (fun y e => VC.wL (k y) e) (h.2 rfl))
def BCon.at {R0 : Type} (B : BCon E R0) (G : Nat -> B.X -> B.V -> Option B.W) (k : Nat) : BCon E R0 := { B with g := G k }
theorem fZ (a0 : P.follows .mixedOrders = true) (B : BCon E R0) {body : Code} {id : Nat} (G : Nat -> B.X -> B.V -> Option B.W) (inl : R0 -> Option B.W) (inr : B.T -> B.W) (get : Kn E -> Option (B.V × List Nat × List (Option Addr))) (l : Kn E -> Option (B.T × List Nat × List (Option Addr)))
  (Z : Nat -> Ct E P f n R0 retF) (hc : B.code = .block id (.loop body)) (h0 : ∀ x v, G 0 x v = none) (hl : ∀ r y, inl r = some y -> B.cls y = .inl r) (hi : ∀ u, B.cls (inr u) = .inr u)
  (h1 : ∀ m x v i j, vcL B body id G inl inr get l (Z m) m x v i j = (vcL B body id G inl inr get l (Z m) m x v i j).rfx) (h2 : ∀ m x v i j s, (vcL B body id G inl inr get l (Z m) m x v i j).mod s = G (m + 1) x v) :
  ∀ k, (B.at G k).Sound P f n retF := by
 intro k Q w0 F x v t i j a w base S A D U;have key : ∀ (m : Nat) (v : B.V) (i : List Nat) (j : List (Option Addr)) (a : Act) (w : World), G m x v = some t -> KnOk n w0 F ⟨B.pL x v i j, B.pA x v i j, B.rds x, [], [], []⟩ a w -> Runs P f (.code body :: .inLoop body :: .inBlock id :: base) a w Q := by
  intro m;induction m with
  | zero => intro v i j a w S _; exact absurd ((h0 x v).symm.trans S) (by simp)
  | succ m ih =>
   intro v i j a w S A;have a1 := VC.good _ (· = t) (h1 m x v i j) fun s => ⟨t, (h2 m x v i j s).trans S, rfl⟩
   obtain ⟨md, a2, h3⟩ := qM a1;refine yQ (t := [.code body, .inLoop body, .inBlock id]) (base := base) 1000 a2 (lq a0 (Tg := fun r => B.cls t = .inl r) ?_ (Z m) md base _ _ _ _ _ a w A h3 ?_ ?_ ?_)
   ·intro st a w k A h;cases ht : B.cls t with
    | inl r => exact U r ht _ _ _ _ A (VC.mono _ (fun r' h => by rw [ht] at h; cases h; rfl) h)
    | inr u => exact (VC.wL _ (VC.mono _ (fun r' h => by rw [ht] at h; cases h) h)).elim
   ·rintro r ⟨y, Y, rfl⟩;exact hl r y Y
   ·intro a3 a' w' I z;split at z
    ·rename_i u J O ho;split at z
     ·rename_i e1 e2;obtain ⟨h4, h5, y, Y, h6⟩ := uS I z;cases Y;subst h6;exact D u (hi u) J O a' w' (Nat.eq_of_beq_eq_true e1) (Nat.eq_of_beq_eq_true e2) h4 h5
     ·exact (VC.zA z).elim
    ·exact (VC.zA z).elim
   ·intro c a9 a3 a' w' I hb;obtain ⟨e, h4⟩ := hb;simp only [Prod.mk.injEq] at e;obtain ⟨rfl, rfl⟩ := e;split at h4
    ·rename_i v' J O b2;obtain ⟨h5, h6, y, Y, h7⟩ := uS I h4;subst h7;exact Runs.inLoop (ih v' J O a' w' Y ⟨h5, h6, A.fs.1, A.fs.2, A.fs.3, A.fs.4⟩)
    ·exact (VC.zA h4).elim
 show Runs P f (.code B.code :: base) a w Q;rw [hc];exact Runs.block (Runs.bM (key k v i j a w S A))
theorem lsn (t : P.follows .mixedOrders = true) (B : BCon E R0) {body : Code} {id : Nat} (G : Nat -> B.X -> B.V -> Option B.W) (inl : R0 -> Option B.W) (inr : B.T -> B.W) (get : Kn E -> Option (B.V × List Nat × List (Option Addr))) (e : Kn E -> Option (B.T × List Nat × List (Option Addr)))
  (i : Nat -> Ct E P f n R0 retF) (k : Nat) (z : B.code = .block id (.loop body) := by kernel_rfl) (h0 : ∀ x v, G 0 x v = none := by intro _ _; rfl) (hl : ∀ r y, inl r = some y -> B.cls y = .inl r := by intro r y h; cases h; try rfl) (hi : ∀ u, B.cls (inr u) = .inr u := by intro u; rfl)
  (h1 : ∀ m x v j l, vcL B body id G inl inr get e (i m) m x v j l = (vcL B body id G inl inr get e (i m) m x v j l).rfx := by intro m x v A D; kernel_rfl) (h2 : ∀ m x v j l s, (vcL B body id G inl inr get e (i m) m x v j l).mod s = G (m + 1) x v := by intro m x v A D s; kernel_rfl) :
  (B.at G k).Sound P f n retF := fZ t B G inl inr get e i z h0 hl hi h1 h2 k
theorem wB (C : Con E) (h : ∀ i, C.model i = none) : C.Sound P := fun i t hm => by rw [h i] at hm; cases hm
end
end
noncomputable section
section
variable {E : Ev}
structure OD (E : Ev) : Type 1 where
 A : Type
 M : Type
 flat : Nat -> A -> M -> List (Atom E)
 rd : List (Atom E) -> Option (A × M × List (Atom E))
def rS (c : Nat) (e : List (Atom E)) : Option ((Option Addr × Nat × List (E.el c).α) × List (Atom E)) := match e with
 | .sl _ _ sb sc l :: r => match jx c l with
  | some l' => some ((sb, sc, l'), r)
  | none => none
 | _ => none
def rM (c : Nat) (e : List (Atom E)) : Option ((Nat × List ((E.mp c).K × (E.mp c).V)) × List (Atom E)) := match e with
 | .mp _ b m :: r => match fA c m with
  | some i => some ((b, i), r)
  | none => none
 | _ => none
structure PK (E : Ev) : Type 1 where
 T : Type
 rd : Value -> List (Atom E) -> Option (T × List (Atom E))
 arg : T -> Value
 ats : T -> List (Atom E)
 rds : T -> List (RdV E)
def pI (k : IntKind) : PK E := ⟨Int, fun v e => match v with
 | .int _ x => some (x, e)
 | _ => none, fun x => .int k x, fun _ => [], fun _ => []⟩
def pB : PK E := ⟨Bool, fun v e => match v with
 | .bool x => some (x, e)
 | _ => none, fun x => .bool x, fun _ => [], fun _ => []⟩
def pV {α : Type} (dec : Value -> Option α) (val : α -> Value) : PK E := ⟨α, fun v e => match dec v with
 | some x => some (x, e)
 | none => none, val, fun _ => [], fun _ => []⟩
def pK (v : Value) : PK E := ⟨Unit, fun _ e => some ((), e), fun _ => v, fun _ => [], fun _ => []⟩
def pO (D : OD E) : PK E := ⟨Nat × D.A × D.M, fun v e => match v with
 | .pointer (some ⟨p, _, _⟩) => match D.rd e with
  | some (a, m, r) => some ((p, a, m), r)
  | none => none
 | _ => none, fun x => .pointer (some ⟨x.1, 0, none⟩), fun x => D.flat x.1 x.2.1 x.2.2, fun _ => []⟩
def pR (c : Nat) : PK E := ⟨Option Addr × Nat × List (E.el c).α, fun v e => match e with
 | .sl c' _ sb sc l :: r => match jx c l with
  | some l' => some ((sb, sc, l'), r)
  | none => none
 | _ => none, fun x => .slice x.1 x.2.2.length x.2.1, fun _ => [], fun x => [⟨c, x.1, x.2.1, x.2.2⟩]⟩
def pW (c : Nat) (T : TypeId) : PK E := ⟨Option Addr × Nat × List (E.el c).α, fun v e => match e with
 | .sl c' _ sb sc l :: r => match jx c l with
  | some l' => some ((sb, sc, l'), r)
  | none => none
 | _ => none, fun x => .slice x.1 x.2.2.length x.2.1, fun x => [.sl c T x.1 x.2.1 x.2.2], fun _ => []⟩
def Ins : List (PK E) -> Type
 | [] => Unit
 | p :: ps => p.T × Ins ps
def cr : (ps : List (PK E)) -> List Value -> List (Atom E) -> Option (Ins ps)
 | [], _, _ => some ()
 | p :: ps, v :: vs, e => match p.rd v e with
  | some (x, r) => match cr ps vs r with
   | some xs => some (x, xs)
   | none => none
  | none => none
 | _ :: _, [], _ => none
def jv : (ps : List (PK E)) -> Ins ps -> List Value
 | [], _ => []
 | p :: ps, x => p.arg x.1 :: jv ps x.2
def jn : (ps : List (PK E)) -> Ins ps -> List (Atom E)
 | [], _ => []
 | p :: ps, x => p.ats x.1 ++ jn ps x.2
def jN : (ps : List (PK E)) -> Ins ps -> List (RdV E)
 | [], _ => []
 | p :: ps, x => p.rds x.1 ++ jN ps x.2
@[reducible] def zL (fid : Nat) (ps : List (PK E)) {T : Type} (model : Ins ps -> Option T) (nN nA : Nat) (val : Ins ps -> T -> List Nat -> List (Option Addr) -> Value) (post : Ins ps -> T -> List Nat -> List (Option Addr) -> List (Atom E)) : Con E :=
 ⟨fid, Ins ps, T, cr ps, jv ps, jn ps, jN ps, model, nN, nA, val, post, fun _ _ => none, fun _ _ => [], false, Unit, fun _ _ => none, 0, fun _ _ _ _ _ => .tuple #[], fun _ _ _ _ _ => []⟩
@[reducible] def cj (fid : Nat) (ps : List (PK E)) {T : Type} (model : Ins ps -> Option T) (nN nA : Nat) (val : Ins ps -> T -> List Nat -> List (Option Addr) -> Value) (post : Ins ps -> T -> List Nat -> List (Option Addr) -> List (Atom E)) (opt : Ins ps -> T -> Option Int) : Con E :=
 ⟨fid, Ins ps, T, cr ps, jv ps, jn ps, jN ps, model, nN, nA, val, post, fun i t => some (opt i t), fun _ _ => [], false, Unit, fun _ _ => none, 0, fun _ _ _ _ _ => .tuple #[], fun _ _ _ _ _ => []⟩
@[reducible] def dM (fid : Nat) (ps : List (PK E)) {T : Type} (model : Ins ps -> Option T) (nN nA : Nat) (val : Ins ps -> T -> List Nat -> List (Option Addr) -> Value) (post : Ins ps -> T -> List Nat -> List (Option Addr) -> List (Atom E)) (fx : Ins ps -> T -> List Prop) : Con E :=
 ⟨fid, Ins ps, T, cr ps, jv ps, jn ps, jN ps, model, nN, nA, val, post, fun _ _ => none, fx, false, Unit, fun _ _ => none, 0, fun _ _ _ _ _ => .tuple #[], fun _ _ _ _ _ => []⟩
@[reducible] def bP (fid : Nat) (ps : List (PK E)) {T M : Type} (model : Ins ps -> Option T) (nN nA : Nat) (val : Ins ps -> T -> List Nat -> List (Option Addr) -> Value) (post : Ins ps -> T -> List Nat -> List (Option Addr) -> List (Atom E)) (om : Ins ps -> T -> Option M) (nf : Nat)
  (val1 : Ins ps -> T -> M -> List Nat -> List (Option Addr) -> Value) (post1 : Ins ps -> T -> M -> List Nat -> List (Option Addr) -> List (Atom E)) : Con E :=
 ⟨fid, Ins ps, T, cr ps, jv ps, jn ps, jN ps, model, nN, nA, val, post, fun _ _ => none, fun _ _ => [], true, M, om, nf, val1, post1⟩
abbrev Gt (E : Ev) (T : Type) := Kn E -> Option T
def gI (t : Nat) : Gt E Int := fun st => match look t st.L with
 | some (.int _ x) => some x
 | _ => none
def gB (t : Nat) : Gt E Bool := fun st => match look t st.L with
 | some (.bool x) => some x
 | _ => none
def gO (D : OD E) (ks : List Nat) : Gt E D.M := fun st => match kO ks st.As with
 | some e => match D.rd e with
  | some (_, m, _) => some m
  | none => none
 | none => none
def gL (c : Nat) (q : Nat) : Gt E (List (E.el c).α) := fun st => match getK q st.As with
 | some (.sl _ _ _ _ l) => jx c l
 | _ => none
def g2 {A B : Type} (a : Gt E A) (b : Gt E B) : Gt E (A × B) := fun st => match a st, b st with
 | some x, some y => some (x, y)
 | _, _ => none
def gU : Gt E Unit := fun _ => some ()
abbrev Nx (E : Ev) := Kn E -> Option (List Nat × List (Option Addr))
def nA (D : OD E) (ks : List Nat) (f : D.A -> List Nat × List (Option Addr)) : Nx E := fun st => match kO ks st.As with
 | some e => match D.rd e with
  | some (i, _, _) => some (f i)
  | none => none
 | none => none
def nxs : List (Nx E) -> Nx E
 | [], _ => some ([], [])
 | x :: r, st => match x st, nxs r st with
  | some (a, b), some (c, d) => some (a ++ c, b ++ d)
  | _, _ => none
def gj {T : Type} (a : Gt E T) (l : List (Nx E)) : Kn E -> Option (T × List Nat × List (Option Addr)) := fun st => match a st, nxs l st with
 | some x, some (e, i) => some (x, e, i)
 | _, _ => none
def gl {X V : Type} (x : Gt E X) (v : Gt E V) (l : List (Nx E)) : Kn E -> Option (X × V × List Nat × List (Option Addr)) := fun st => match x st, v st, nxs l st with
 | some x, some v, some (e, i) => some (x, v, e, i)
 | _, _, _ => none
def gt {T : Type} (a : Gt E T) : Kn E -> Option (T × List Nat × List (Option Addr)) := fun st => match a st with
 | some x => some (x, [], [])
 | none => none
abbrev nn (l : List Nat) (i : Nat) : Nat := l.getD i 0
abbrev na (l : List (Option Addr)) (i : Nat) : Option Addr := l.getD i none
def zipL {α : Type} : List Nat -> List α -> List (Nat × α)
 | k :: ks, x :: xs => (k, x) :: zipL ks xs
 | _, _ => []
def kp (ks : List Nat) (st : Kn E) : Env := match sel ks st.L with
 | some L => L
 | none => []
def ka (ks : List Nat) (st : Kn E) : List (Nat × Atom E) := match ks with
 | [] => []
 | k :: r => match getK k st.As with
  | some a => (k, a) :: ka r st
  | none => ka r st
def gP (k : Nat) : Gt E Nat := fun st => match getK k st.As with
 | some (.blk b _ _) => some b
 | some (.mp _ b _) => some b
 | _ => none
def gA (D : OD E) (ks : List Nat) : Gt E D.A := fun st => match kO ks st.As with
 | some e => match D.rd e with
  | some (a, _, _) => some a
  | none => none
 | none => none
def gC {α : Type} (k off n : Nat) (dec : List Value -> Option α) : Gt E α := fun st => match getK k st.As with
 | some (.blk _ _ cs) => dec ((cs.drop off).take n)
 | _ => none
def gh (k : Nat) : Gt E (Option Addr × Nat) := fun st => match getK k st.As with
 | some (.sl _ _ sb sc _) => some (sb, sc)
 | _ => none
def nPk (k : Nat) : Nx E := fun st => match getK k st.As with
 | some (.blk b _ _) => some ([b], [])
 | some (.mp _ b _) => some ([b], [])
 | _ => none
def nSk (k : Nat) : Nx E := fun st => match getK k st.As with
 | some (.sl _ _ sb sc _) => some ([sc], [sb])
 | _ => none
def gOo (D : OD E) (ks : List Nat) (t : Nat) : Gt E (Option D.M) := fun st => match look t st.L with
 | some (.pointer none) => some none
 | some (.pointer (some _)) => match gO D ks st with
  | some m => some (some m)
  | none => none
 | _ => none
def nPo (k : Nat) : Nx E := fun st => match getK k st.As with
 | some (.blk b _ _) => some ([b], [])
 | _ => some ([0], [])
def nAo (D : OD E) (ks : List Nat) (f : D.A -> List Nat × List (Option Addr)) (n m : Nat) : Nx E := fun st => match kO ks st.As with
 | some e => match D.rd e with
  | some (i, _, _) => some (f i)
  | none => none
 | none => some (List.replicate n 0, List.replicate m none)
def gE : Gt E (Option Int) := fun st => match getK 99999 st.ef with
 | some f => some (some f.i)
 | none => some none
def dI : List Value -> Option Int
 | [.int _ x] => some x
 | _ => none
def dB : List Value -> Option Bool
 | [.bool x] => some x
 | _ => none
def dvI : Value -> Option Int
 | .int _ x => some x
 | _ => none
def nav : List Nat -> Code -> Code
 | [], c => c
 | 0 :: r, .seq x _ => nav r x
 | _ :: r, .seq _ y => nav r y
 | 0 :: r, .cond _ x _ => nav r x
 | _ :: r, .cond _ _ y => nav r y
 | _ :: r, .block _ x => nav r x
 | _ :: r, .loop x => nav r x
 | _ :: _, c => c
def rsOf (P : Program) (f : Nat) : List ResultVar := match P.funcs[f]? with
 | some fn => fn.results.toList
 | none => []
def yD (P : Program) (f : Nat) : Code := match P.funcs[f]? with
 | some fn => match fn.body with
  | some c => c
  | none => .skip
 | none => .skip
end
def fsk {E : Ev} {P : Program} (j : P.follows .mixedOrders = true) (C : Con E) {fn : Func} {c : Code} (n : Nat) (src : List Src) (keys : List Nat) (out : Kn E -> Option (C.T × List Nat × List (Option Addr))) (e : ∀ i, Ct E P C.fid n C.T (retC P C (rsOf P C.fid) src keys out i))
  (hf : P.funcs[C.fid]? = some fn) (he : ∀ args w, (callFunc C.fid args).run P w = .ok (.enter C.fid args) w) (l : fn.body = some c := by rfl) (hn : fn.ntmps = n := by rfl) (hr : fn.results = (rsOf P C.fid).toArray := by kernel_rfl) (hl : ∀ i, Nat.ble (C.args i).length n = true := by intro _; rfl)
  (h1 : ∀ i, vcF C c (rsOf P C.fid) src keys out i (e i) = (vcF C c (rsOf P C.fid) src keys out i (e i)).rfx := by intro i; kernel_rfl) (h2 : ∀ i s, (vcF C c (rsOf P C.fid) src keys out i (e i)).mod s = C.model i := by intro i s; kernel_rfl) : SCon E P := ⟨C, gk j C src keys out e hf l hn hr hl h1 h2, he⟩
end
noncomputable section
section
variable {E : Ev}
theorem nv {w0 w : World} {Y : HP} {L A1 As : List HP} (h : ∀ As, St w0 (Y :: As) w ↔ St w0 (L ++ As) w) : St w0 (A1 ++ (Y :: As)) w ↔ St w0 (A1 ++ (L ++ As)) w := by
 constructor
 ·intro H;have H1 := (h (A1 ++ As)).1 (H.perm (List.perm_middle));refine H1.perm ?_;rw [<- aA, <- aA];exact List.Perm.append_right As List.perm_append_comm
 ·intro H;have H1 := (h (A1 ++ As)).2 (H.perm (by
   rw [<- aA, <- aA];exact List.Perm.append_right As List.perm_append_comm))
  exact H1.perm List.perm_middle.symm
theorem fs0 {w0 w : World} {Y : HP} {L As : List HP} (h : ∀ As, St w0 (Y :: As) w ↔ St w0 (L ++ As) w) : St w0 (Y :: As) w ↔ St w0 (L ++ As) w := h As
theorem fs1 {w0 w : World} {A Y : HP} {L As : List HP} (h : ∀ As, St w0 (Y :: As) w ↔ St w0 (L ++ As) w) : St w0 (A :: Y :: As) w ↔ St w0 (A :: (L ++ As)) w := nv (A1 := [A]) h
theorem fs2 {w0 w : World} {A B Y : HP} {L As : List HP} (h : ∀ As, St w0 (Y :: As) w ↔ St w0 (L ++ As) w) : St w0 (A :: B :: Y :: As) w ↔ St w0 (A :: B :: (L ++ As)) w := nv (A1 := [A, B]) h
theorem fs3 {w0 w : World} {A B C Y : HP} {L As : List HP} (h : ∀ As, St w0 (Y :: As) w ↔ St w0 (L ++ As) w) : St w0 (A :: B :: C :: Y :: As) w ↔ St w0 (A :: B :: C :: (L ++ As)) w := nv (A1 := [A, B, C]) h
theorem fs4 {w0 w : World} {A B C D Y : HP} {L As : List HP} (h : ∀ As, St w0 (Y :: As) w ↔ St w0 (L ++ As) w) : St w0 (A :: B :: C :: D :: Y :: As) w ↔ St w0 (A :: B :: C :: D :: (L ++ As)) w := nv (A1 := [A, B, C, D]) h
theorem rdH (c : Nat) {F : List HP} {X : HP} {sb : Option Addr} {sc : Nat} {l : List (E.el c).α} (hm : X ∈ F) (e : SlRd X (E.el c).enc (E.el c).sz sb l) (hC : l.length <= sc) : RdV.holds (E := E) F ⟨c, sb, sc, l⟩ := ⟨X, hm, e, fun _ _ => hC⟩
theorem rd0 {F : List HP} : ∀ r ∈ ([] : List (RdV E)), r.holds F := fun r h => by cases h
theorem rdc {F : List HP} {r : RdV E} {L : List (RdV E)} (h : r.holds F) (e : ∀ r ∈ L, r.holds F) : ∀ x ∈ r :: L, x.holds F := fun x i => by
 cases i with
 | head => exact h
 | tail _ h => exact e _ h
theorem lsS {α : Type} {l : List α} {n : Nat} (h : l.length = n + 1) : ∃ a r, l = a :: r /\ r.length = n := by
 match l, h with
 | a :: r, h => exact ⟨a, r, rfl, by simpa using h⟩
theorem ls0 {α : Type} {l : List α} (h : l.length = 0) : l = [] := List.length_eq_zero_iff.1 h
end
end
end Go.Th
namespace Go.Proofs
open Go.Shelf
noncomputable section
open Go.Sort Go.RowKit in
open Go.RowKit Go.Sort in
end
end Go.Proofs
noncomputable section
abbrev Go.Value.i (x : Int) : Go.Value := .int .i64 x
namespace Go.Th
abbrev ks_4 : List ASrc := [.K 0, .K 1, .K 2, .K 3, .K 4]
abbrev mD : List ASrc := [.K 0, .K 1, .K 2, .K 3, .K 4, .K 5, .K 6, .K 7, .K 8, .K 9, .K 10, .K 11, .K 12, .K 13]
abbrev jt : List ASrc := [.K 0, .K 1, .K 2, .K 3, .K 4, .K 5, .K 6, .K 7, .K 8, .K 9, .K 10, .K 11, .K 12, .K 13, .K 14, .K 15, .K 16, .K 17, .K 18, .K 19, .K 20, .K 21]
abbrev ks_6 : List ASrc := [.K 0, .K 1, .K 2, .K 3, .K 4, .K 5, .K 6]
end Go.Th
set_option maxRecDepth 10000
set_option maxHeartbeats 4000000
namespace Go.Proofs.YtccbfeafebllhaaGreat
open Go.Th
abbrev pG := Tryz.prog
theorem mixed : pG.follows .mixedOrders = true := by kernel_rfl
theorem zy.fp {x : zy} {i v : Int} (h : zy.rZ x i = some v) : (zy.enc x)[i.toNat * 1]? = some (.i v) := by
  by_cases h0 : i = 0
  · subst h0; simp [zy.rZ] at h; subst h; rfl
  by_cases h1 : i = 1
  · subst h1; simp [zy.rZ] at h; subst h; rfl
  by_cases h2 : i = 2
  · subst h2; simp [zy.rZ] at h; subst h; rfl
  by_cases h3 : i = 3
  · subst h3; simp [zy.rZ] at h; subst h; rfl
  by_cases h4 : i = 4
  · subst h4; simp [zy.rZ] at h; subst h; rfl
  by_cases e : i = 5
  · subst e; simp [zy.rZ] at h; subst h; rfl
  by_cases j : i = 6
  · subst j; simp [zy.rZ] at h; subst h; rfl
  by_cases l : i = 7
  · subst l; simp [zy.rZ] at h; subst h; rfl
  by_cases t : i = 8
  · subst t; simp [zy.rZ] at h; subst h; rfl
  by_cases u : i = 9
  · subst u; simp [zy.rZ] at h; subst h; rfl
  · simp [zy.rZ, h0, h1, h2, h3, h4, e, j, l, t, u] at h
theorem zy.fH {x y : zy} {i v : Int} (h : zy.ph x i v = some y) : zy.enc y = putAt (zy.enc x) (i.toNat * 1) [.i v] := by
  by_cases h0 : i = 0
  · subst h0; simp [zy.ph] at h; subst h; rfl
  by_cases h1 : i = 1
  · subst h1; simp [zy.ph] at h; subst h; rfl
  by_cases h2 : i = 2
  · subst h2; simp [zy.ph] at h; subst h; rfl
  by_cases h3 : i = 3
  · subst h3; simp [zy.ph] at h; subst h; rfl
  by_cases h4 : i = 4
  · subst h4; simp [zy.ph] at h; subst h; rfl
  by_cases e : i = 5
  · subst e; simp [zy.ph] at h; subst h; rfl
  by_cases j : i = 6
  · subst j; simp [zy.ph] at h; subst h; rfl
  by_cases l : i = 7
  · subst l; simp [zy.ph] at h; subst h; rfl
  by_cases t : i = 8
  · subst t; simp [zy.ph] at h; subst h; rfl
  by_cases u : i = 9
  · subst u; simp [zy.ph] at h; subst h; rfl
  · simp [zy.ph, h0, h1, h2, h3, h4, e, j, l, t, u] at h
theorem zd.nX (w : World) (d : Nat) (x y : zd) : (Op.equalIn (d + 2) 30 (.agg #[.i x.At, .i x.Gen]) (.agg #[.i y.At, .i y.Gen])).run pG w = .ok (zd.eq x y) w :=
  kF (d + 1) rfl (by kernel_rfl) (wT (a := .i x.At) (b := .i y.At) rfl rfl (by kernel_rfl) (by kernel_rfl) (run_equalIn_int w _ _ _ _ _ _ rfl) (wT (a := .i x.Gen) (b := .i y.Gen) rfl rfl (by kernel_rfl) (by kernel_rfl) (run_equalIn_int w _ _ _ _ _ _ rfl) (kU rfl)))
theorem zd.uQ (x y : zd) : my pG 30 #[.i x.At, .i x.Gen] #[.i y.At, .i y.Gen] (zd.eq x y) := fun w => zd.nX w 9998 x y
theorem zd.uw : rh pG 30 zd.val zd.eq :=
  rh.struct (fs := pG.fieldsOf 30) rfl (fun w em x => pe 9999 (fs := pG.fieldsOf 30) rfl w em (eZ (v := .i x.At) rfl rfl (by kernel_rfl) (rY 9998 rfl _ _ _) (eZ (v := .i x.Gen) rfl rfl (by kernel_rfl) (rY 9998 rfl _ _ _) (Bn rfl)))) (fun w x y => zd.uQ x y w) (fun x => by simp [zd.val, Instr.sameBits]) (fun x y h => by cases x; cases y; simpa [zd.eq] using h)
theorem zq.nX (w : World) (d : Nat) (x y : zq) : (Op.equalIn (d + 3) 32 (.agg #[.i x.Why, .i x.Job.At, .i x.Job.Gen, .i x.Time, .i x.Data, .i x.N]) (.agg #[.i y.Why, .i y.Job.At, .i y.Job.Gen, .i y.Time, .i y.Data, .i y.N])).run pG w = .ok (zq.eq x y) w :=
  kF (d + 2) rfl (by kernel_rfl) (wT (a := .i x.Why) (b := .i y.Why) rfl rfl (by kernel_rfl) (by kernel_rfl) (run_equalIn_int w _ _ _ _ _ _ rfl) (wT (a := .agg #[.i x.Job.At, .i x.Job.Gen]) (b := .agg #[.i y.Job.At, .i y.Job.Gen]) rfl rfl (by kernel_rfl) (by kernel_rfl) (zd.nX w d x.Job y.Job) (wT (a := .i x.Time) (b := .i y.Time) rfl rfl (by kernel_rfl) (by kernel_rfl) (run_equalIn_int w _ _ _ _ _ _ rfl) (wT (a := .i x.Data) (b := .i y.Data) rfl rfl (by kernel_rfl) (by kernel_rfl) (run_equalIn_int w _ _ _ _ _ _ rfl) (wT (a := .i x.N) (b := .i y.N) rfl rfl (by kernel_rfl) (by kernel_rfl) (run_equalIn_int w _ _ _ _ _ _ rfl) (kU rfl))))))
theorem zq.uQ (x y : zq) : my pG 32 #[.i x.Why, .i x.Job.At, .i x.Job.Gen, .i x.Time, .i x.Data, .i x.N] #[.i y.Why, .i y.Job.At, .i y.Job.Gen, .i y.Time, .i y.Data, .i y.N] (zq.eq x y) := fun w => zq.nX w 9997 x y
theorem zt.nX (w : World) (d : Nat) (x y : zt) : (Op.equalIn (d + 3) 35 (.agg #[.i x.Kind, .i x.Queue, .i x.Job.At, .i x.Job.Gen, .i x.Time, .i x.Data]) (.agg #[.i y.Kind, .i y.Queue, .i y.Job.At, .i y.Job.Gen, .i y.Time, .i y.Data])).run pG w = .ok (zt.eq x y) w :=
  kF (d + 2) rfl (by kernel_rfl) (wT (a := .i x.Kind) (b := .i y.Kind) rfl rfl (by kernel_rfl) (by kernel_rfl) (run_equalIn_int w _ _ _ _ _ _ rfl) (wT (a := .i x.Queue) (b := .i y.Queue) rfl rfl (by kernel_rfl) (by kernel_rfl) (run_equalIn_int w _ _ _ _ _ _ rfl) (wT (a := .agg #[.i x.Job.At, .i x.Job.Gen]) (b := .agg #[.i y.Job.At, .i y.Job.Gen]) rfl rfl (by kernel_rfl) (by kernel_rfl) (zd.nX w d x.Job y.Job) (wT (a := .i x.Time) (b := .i y.Time) rfl rfl (by kernel_rfl) (by kernel_rfl) (run_equalIn_int w _ _ _ _ _ _ rfl) (wT (a := .i x.Data) (b := .i y.Data) rfl rfl (by kernel_rfl) (by kernel_rfl) (run_equalIn_int w _ _ _ _ _ _ rfl) (kU rfl))))))
theorem zt.uQ (x y : zt) : my pG 35 #[.i x.Kind, .i x.Queue, .i x.Job.At, .i x.Job.Gen, .i x.Time, .i x.Data] #[.i y.Kind, .i y.Queue, .i y.Job.At, .i y.Job.Gen, .i y.Time, .i y.Data] (zt.eq x y) := fun w => zt.nX w 9997 x y
theorem zk.nX (w : World) (d : Nat) (x y : zk) : (Op.equalIn (d + 4) 42 (.agg #[.i x.Command.Kind, .i x.Command.Queue, .i x.Command.Job.At, .i x.Command.Job.Gen, .i x.Command.Time, .i x.Command.Data, .i x.Reply.Why, .i x.Reply.Job.At, .i x.Reply.Job.Gen, .i x.Reply.Time, .i x.Reply.Data, .i x.Reply.N, .i x.Now, .i x.Steps]) (.agg #[.i y.Command.Kind, .i y.Command.Queue, .i y.Command.Job.At, .i y.Command.Job.Gen, .i y.Command.Time, .i y.Command.Data, .i y.Reply.Why, .i y.Reply.Job.At, .i y.Reply.Job.Gen, .i y.Reply.Time, .i y.Reply.Data, .i y.Reply.N, .i y.Now, .i y.Steps])).run pG w = .ok (zk.eq x y) w :=
  kF (d + 3) rfl (by kernel_rfl) (wT (a := .agg #[.i x.Command.Kind, .i x.Command.Queue, .i x.Command.Job.At, .i x.Command.Job.Gen, .i x.Command.Time, .i x.Command.Data]) (b := .agg #[.i y.Command.Kind, .i y.Command.Queue, .i y.Command.Job.At, .i y.Command.Job.Gen, .i y.Command.Time, .i y.Command.Data]) rfl rfl (by kernel_rfl) (by kernel_rfl) (zt.nX w d x.Command y.Command) (wT (a := .agg #[.i x.Reply.Why, .i x.Reply.Job.At, .i x.Reply.Job.Gen, .i x.Reply.Time, .i x.Reply.Data, .i x.Reply.N]) (b := .agg #[.i y.Reply.Why, .i y.Reply.Job.At, .i y.Reply.Job.Gen, .i y.Reply.Time, .i y.Reply.Data, .i y.Reply.N]) rfl rfl (by kernel_rfl) (by kernel_rfl) (zq.nX w d x.Reply y.Reply) (wT (a := .i x.Now) (b := .i y.Now) rfl rfl (by kernel_rfl) (by kernel_rfl) (run_equalIn_int w _ _ _ _ _ _ rfl) (wT (a := .i x.Steps) (b := .i y.Steps) rfl rfl (by kernel_rfl) (by kernel_rfl) (run_equalIn_int w _ _ _ _ _ _ rfl) (kU rfl)))))
theorem zk.uQ (x y : zk) : my pG 42 #[.i x.Command.Kind, .i x.Command.Queue, .i x.Command.Job.At, .i x.Command.Job.Gen, .i x.Command.Time, .i x.Command.Data, .i x.Reply.Why, .i x.Reply.Job.At, .i x.Reply.Job.Gen, .i x.Reply.Time, .i x.Reply.Data, .i x.Reply.N, .i x.Now, .i x.Steps] #[.i y.Command.Kind, .i y.Command.Queue, .i y.Command.Job.At, .i y.Command.Job.Gen, .i y.Command.Time, .i y.Command.Data, .i y.Reply.Why, .i y.Reply.Job.At, .i y.Reply.Job.Gen, .i y.Reply.Time, .i y.Reply.Data, .i y.Reply.N, .i y.Now, .i y.Steps] (zk.eq x y) := fun w => zk.nX w 9996 x y
structure za.A where
  l_b : Option Addr
  l_c : Nat
  free_b : Option Addr
  free_c : Nat
  m__p : Nat
instance : Inhabited za.A := ⟨za.A.mk default default default default default⟩
structure zh.A where
  l_b : Option Addr
  l_c : Nat
  free_b : Option Addr
  free_c : Nat
instance : Inhabited zh.A := ⟨zh.A.mk default default default default⟩
structure ze.A where
  l_b : Option Addr
  l_c : Nat
  free_b : Option Addr
  free_c : Nat
instance : Inhabited ze.A := ⟨ze.A.mk default default default default⟩
structure zj.A where
  heaps_p : Nat
  heaps_a : zh.A
  items_p : Nat
  items_a : ze.A
  at__p : Nat
instance : Inhabited zj.A := ⟨zj.A.mk default default default default default⟩
structure zs.A where
  a__p : Nat
  a__a : za.A
  t__p : Nat
  t__a : zj.A
  entries_p : Nat
instance : Inhabited zs.A := ⟨zs.A.mk default default default default default⟩
structure zg.A where
  l_b : Option Addr
  l_c : Nat
  free_b : Option Addr
  free_c : Nat
instance : Inhabited zg.A := ⟨zg.A.mk default default default default⟩
structure zr.A where
  p_p : Nat
  p_a : zg.A
  by__p : Nat
instance : Inhabited zr.A := ⟨zr.A.mk default default default⟩
structure zb.A where
  q_p : Nat
  q_a : zs.A
  t__p : Nat
  t__a : zr.A
  when_p : Nat
  clock_p : Nat
instance : Inhabited zb.A := ⟨zb.A.mk default default default default default default⟩
structure zf.A where
  c__p : Nat
instance : Inhabited zf.A := ⟨zf.A.mk default⟩
structure zi.A where
  l_b : Option Addr
  l_c : Nat
instance : Inhabited zi.A := ⟨zi.A.mk default default⟩
structure zp.A where
  d_p : Nat
  d_a : zb.A
  desk_p : Nat
  desk_a : zi.A
instance : Inhabited zp.A := ⟨zp.A.mk default default default default⟩
structure zo.A where
  s_p : Nat
  s_a : zp.A
  l_b : Option Addr
  l_c : Nat
instance : Inhabited zo.A := ⟨zo.A.mk default default default default⟩
structure zn.A where
  Gens_b : Option Addr
  Gens_c : Nat
  In_b : Option Addr
  In_c : Nat
  V_b : Option Addr
  V_c : Nat
  Back_b : Option Addr
  Back_c : Nat
instance : Inhabited zn.A := ⟨zn.A.mk default default default default default default default default⟩
structure zc.A where
  Pool_p : Nat
  Pool_a : zn.A
  L_b : Option Addr
  L_c : Nat
instance : Inhabited zc.A := ⟨zc.A.mk default default default default⟩
def zG.R (p : Nat) (m : zG) : HP := sepL [Blk p 196 [.i m.steps, .i m.begun, .i m.most]]
theorem zG.open {w0 w : World} {As : List HP} {p : Nat} {m : zG} (H : St w0 (zG.R p m :: As) w) : St w0 (Blk p 196 [.i m.steps, .i m.begun, .i m.most] :: As) w := St.flat H
theorem zG.shut {w0 w : World} {As : List HP} {p : Nat} (m : zG) (H : St w0 (Blk p 196 [.i m.steps, .i m.begun, .i m.most] :: As) w) : St w0 (zG.R p m :: As) w := St.group [Blk p 196 [.i m.steps, .i m.begun, .i m.most]] H
def za.R (p : Nat) (e : za.A) (m : za) : HP := sepL [Blk p 183 [.slice e.l_b m.l.length e.l_c, .i m.never, .slice e.free_b m.free.length e.free_c, .pointer (some ⟨e.m__p, 0, none⟩)], Sl 257 zy.enc 11 e.l_b e.l_c m.l, Sl 3 ecI 1 e.free_b e.free_c m.free, zG.R e.m__p m.m_]
theorem za.open {w0 w : World} {As : List HP} {p : Nat} {e : za.A} {m : za} (H : St w0 (za.R p e m :: As) w) : St w0 (Blk p 183 [.slice e.l_b m.l.length e.l_c, .i m.never, .slice e.free_b m.free.length e.free_c, .pointer (some ⟨e.m__p, 0, none⟩)] :: Sl 257 zy.enc 11 e.l_b e.l_c m.l :: Sl 3 ecI 1 e.free_b e.free_c m.free :: zG.R e.m__p m.m_ :: As) w := St.flat H
theorem za.shut {w0 w : World} {As : List HP} {p : Nat} (e : za.A) (m : za) (H : St w0 (Blk p 183 [.slice e.l_b m.l.length e.l_c, .i m.never, .slice e.free_b m.free.length e.free_c, .pointer (some ⟨e.m__p, 0, none⟩)] :: Sl 257 zy.enc 11 e.l_b e.l_c m.l :: Sl 3 ecI 1 e.free_b e.free_c m.free :: zG.R e.m__p m.m_ :: As) w) : St w0 (za.R p e m :: As) w := St.group [Blk p 183 [.slice e.l_b m.l.length e.l_c, .i m.never, .slice e.free_b m.free.length e.free_c, .pointer (some ⟨e.m__p, 0, none⟩)], Sl 257 zy.enc 11 e.l_b e.l_c m.l, Sl 3 ecI 1 e.free_b e.free_c m.free, zG.R e.m__p m.m_] H
def zh.R (p : Nat) (e : zh.A) (m : zh) : HP := sepL [Blk p 227 [.i m.most, .slice e.l_b m.l.length e.l_c, .slice e.free_b m.free.length e.free_c], Sl 232 zz.enc 5 e.l_b e.l_c m.l, Sl 3 ecI 1 e.free_b e.free_c m.free]
theorem zh.open {w0 w : World} {As : List HP} {p : Nat} {e : zh.A} {m : zh} (H : St w0 (zh.R p e m :: As) w) : St w0 (Blk p 227 [.i m.most, .slice e.l_b m.l.length e.l_c, .slice e.free_b m.free.length e.free_c] :: Sl 232 zz.enc 5 e.l_b e.l_c m.l :: Sl 3 ecI 1 e.free_b e.free_c m.free :: As) w := St.flat H
theorem zh.shut {w0 w : World} {As : List HP} {p : Nat} (e : zh.A) (m : zh) (H : St w0 (Blk p 227 [.i m.most, .slice e.l_b m.l.length e.l_c, .slice e.free_b m.free.length e.free_c] :: Sl 232 zz.enc 5 e.l_b e.l_c m.l :: Sl 3 ecI 1 e.free_b e.free_c m.free :: As) w) : St w0 (zh.R p e m :: As) w := St.group [Blk p 227 [.i m.most, .slice e.l_b m.l.length e.l_c, .slice e.free_b m.free.length e.free_c], Sl 232 zz.enc 5 e.l_b e.l_c m.l, Sl 3 ecI 1 e.free_b e.free_c m.free] H
def ze.R (p : Nat) (e : ze.A) (m : ze) : HP := sepL [Blk p 230 [.i m.most, .slice e.l_b m.l.length e.l_c, .slice e.free_b m.free.length e.free_c], Sl 265 zu.enc 5 e.l_b e.l_c m.l, Sl 3 ecI 1 e.free_b e.free_c m.free]
theorem ze.open {w0 w : World} {As : List HP} {p : Nat} {e : ze.A} {m : ze} (H : St w0 (ze.R p e m :: As) w) : St w0 (Blk p 230 [.i m.most, .slice e.l_b m.l.length e.l_c, .slice e.free_b m.free.length e.free_c] :: Sl 265 zu.enc 5 e.l_b e.l_c m.l :: Sl 3 ecI 1 e.free_b e.free_c m.free :: As) w := St.flat H
theorem ze.shut {w0 w : World} {As : List HP} {p : Nat} (e : ze.A) (m : ze) (H : St w0 (Blk p 230 [.i m.most, .slice e.l_b m.l.length e.l_c, .slice e.free_b m.free.length e.free_c] :: Sl 265 zu.enc 5 e.l_b e.l_c m.l :: Sl 3 ecI 1 e.free_b e.free_c m.free :: As) w) : St w0 (ze.R p e m :: As) w := St.group [Blk p 230 [.i m.most, .slice e.l_b m.l.length e.l_c, .slice e.free_b m.free.length e.free_c], Sl 265 zu.enc 5 e.l_b e.l_c m.l, Sl 3 ecI 1 e.free_b e.free_c m.free] H
def zj.R (p : Nat) (e : zj.A) (m : zj) : HP := sepL [Blk p 194 [.pointer (some ⟨e.heaps_p, 0, none⟩), .pointer (some ⟨e.items_p, 0, none⟩), .map (some e.at__p)], zh.R e.heaps_p e.heaps_a m.heaps, ze.R e.items_p e.items_a m.items, MpA e.at__p vI zd.val m.at_]
theorem zj.open {w0 w : World} {As : List HP} {p : Nat} {e : zj.A} {m : zj} (H : St w0 (zj.R p e m :: As) w) : St w0 (Blk p 194 [.pointer (some ⟨e.heaps_p, 0, none⟩), .pointer (some ⟨e.items_p, 0, none⟩), .map (some e.at__p)] :: zh.R e.heaps_p e.heaps_a m.heaps :: ze.R e.items_p e.items_a m.items :: MpA e.at__p vI zd.val m.at_ :: As) w := St.flat H
theorem zj.shut {w0 w : World} {As : List HP} {p : Nat} (e : zj.A) (m : zj) (H : St w0 (Blk p 194 [.pointer (some ⟨e.heaps_p, 0, none⟩), .pointer (some ⟨e.items_p, 0, none⟩), .map (some e.at__p)] :: zh.R e.heaps_p e.heaps_a m.heaps :: ze.R e.items_p e.items_a m.items :: MpA e.at__p vI zd.val m.at_ :: As) w) : St w0 (zj.R p e m :: As) w := St.group [Blk p 194 [.pointer (some ⟨e.heaps_p, 0, none⟩), .pointer (some ⟨e.items_p, 0, none⟩), .map (some e.at__p)], zh.R e.heaps_p e.heaps_a m.heaps, ze.R e.items_p e.items_a m.items, MpA e.at__p vI zd.val m.at_] H
def zs.R (p : Nat) (e : zs.A) (m : zs) : HP := sepL [Blk p 164 [.i m.items, .pointer (some ⟨e.a__p, 0, none⟩), .pointer (some ⟨e.t__p, 0, none⟩), .map (some e.entries_p), .i m.serial], za.R e.a__p e.a__a m.a_, zj.R e.t__p e.t__a m.t_, MpA e.entries_p zd.val zH.val m.entries]
theorem zs.open {w0 w : World} {As : List HP} {p : Nat} {e : zs.A} {m : zs} (H : St w0 (zs.R p e m :: As) w) : St w0 (Blk p 164 [.i m.items, .pointer (some ⟨e.a__p, 0, none⟩), .pointer (some ⟨e.t__p, 0, none⟩), .map (some e.entries_p), .i m.serial] :: za.R e.a__p e.a__a m.a_ :: zj.R e.t__p e.t__a m.t_ :: MpA e.entries_p zd.val zH.val m.entries :: As) w := St.flat H
theorem zs.shut {w0 w : World} {As : List HP} {p : Nat} (e : zs.A) (m : zs) (H : St w0 (Blk p 164 [.i m.items, .pointer (some ⟨e.a__p, 0, none⟩), .pointer (some ⟨e.t__p, 0, none⟩), .map (some e.entries_p), .i m.serial] :: za.R e.a__p e.a__a m.a_ :: zj.R e.t__p e.t__a m.t_ :: MpA e.entries_p zd.val zH.val m.entries :: As) w) : St w0 (zs.R p e m :: As) w := St.group [Blk p 164 [.i m.items, .pointer (some ⟨e.a__p, 0, none⟩), .pointer (some ⟨e.t__p, 0, none⟩), .map (some e.entries_p), .i m.serial], za.R e.a__p e.a__a m.a_, zj.R e.t__p e.t__a m.t_, MpA e.entries_p zd.val zH.val m.entries] H
def zg.R (p : Nat) (e : zg.A) (m : zg) : HP := sepL [Blk p 143 [.i m.most, .slice e.l_b m.l.length e.l_c, .slice e.free_b m.free.length e.free_c], Sl 145 zw.enc 7 e.l_b e.l_c m.l, Sl 3 ecI 1 e.free_b e.free_c m.free]
theorem zg.open {w0 w : World} {As : List HP} {p : Nat} {e : zg.A} {m : zg} (H : St w0 (zg.R p e m :: As) w) : St w0 (Blk p 143 [.i m.most, .slice e.l_b m.l.length e.l_c, .slice e.free_b m.free.length e.free_c] :: Sl 145 zw.enc 7 e.l_b e.l_c m.l :: Sl 3 ecI 1 e.free_b e.free_c m.free :: As) w := St.flat H
theorem zg.shut {w0 w : World} {As : List HP} {p : Nat} (e : zg.A) (m : zg) (H : St w0 (Blk p 143 [.i m.most, .slice e.l_b m.l.length e.l_c, .slice e.free_b m.free.length e.free_c] :: Sl 145 zw.enc 7 e.l_b e.l_c m.l :: Sl 3 ecI 1 e.free_b e.free_c m.free :: As) w) : St w0 (zg.R p e m :: As) w := St.group [Blk p 143 [.i m.most, .slice e.l_b m.l.length e.l_c, .slice e.free_b m.free.length e.free_c], Sl 145 zw.enc 7 e.l_b e.l_c m.l, Sl 3 ecI 1 e.free_b e.free_c m.free] H
def zr.R (p : Nat) (e : zr.A) (m : zr) : HP := sepL [Blk p 109 [.pointer (some ⟨e.p_p, 0, none⟩), .map (some e.by__p)], zg.R e.p_p e.p_a m.p, MpA e.by__p zd.val zd.val m.by_]
theorem zr.open {w0 w : World} {As : List HP} {p : Nat} {e : zr.A} {m : zr} (H : St w0 (zr.R p e m :: As) w) : St w0 (Blk p 109 [.pointer (some ⟨e.p_p, 0, none⟩), .map (some e.by__p)] :: zg.R e.p_p e.p_a m.p :: MpA e.by__p zd.val zd.val m.by_ :: As) w := St.flat H
theorem zr.shut {w0 w : World} {As : List HP} {p : Nat} (e : zr.A) (m : zr) (H : St w0 (Blk p 109 [.pointer (some ⟨e.p_p, 0, none⟩), .map (some e.by__p)] :: zg.R e.p_p e.p_a m.p :: MpA e.by__p zd.val zd.val m.by_ :: As) w) : St w0 (zr.R p e m :: As) w := St.group [Blk p 109 [.pointer (some ⟨e.p_p, 0, none⟩), .map (some e.by__p)], zg.R e.p_p e.p_a m.p, MpA e.by__p zd.val zd.val m.by_] H
def zP.R (p : Nat) (m : zP) : HP := sepL [Blk p 111 [.i m.now]]
theorem zP.open {w0 w : World} {As : List HP} {p : Nat} {m : zP} (H : St w0 (zP.R p m :: As) w) : St w0 (Blk p 111 [.i m.now] :: As) w := St.flat H
theorem zP.shut {w0 w : World} {As : List HP} {p : Nat} (m : zP) (H : St w0 (Blk p 111 [.i m.now] :: As) w) : St w0 (zP.R p m :: As) w := St.group [Blk p 111 [.i m.now]] H
def zb.R (p : Nat) (e : zb.A) (m : zb) : HP := sepL [Blk p 82 [.i m.kind, .i m.most, .pointer (some ⟨e.q_p, 0, none⟩), .i m.heaps0.At, .i m.heaps0.Gen, .i m.heaps1.At, .i m.heaps1.Gen, .pointer (some ⟨e.t__p, 0, none⟩), .map (some e.when_p), .pointer (some ⟨e.clock_p, 0, none⟩), .i m.budget, .i m.last, .i m.top], zs.R e.q_p e.q_a m.q, zr.R e.t__p e.t__a m.t_, MpA e.when_p zd.val vI m.when, zP.R e.clock_p m.clock]
theorem zb.open {w0 w : World} {As : List HP} {p : Nat} {e : zb.A} {m : zb} (H : St w0 (zb.R p e m :: As) w) : St w0 (Blk p 82 [.i m.kind, .i m.most, .pointer (some ⟨e.q_p, 0, none⟩), .i m.heaps0.At, .i m.heaps0.Gen, .i m.heaps1.At, .i m.heaps1.Gen, .pointer (some ⟨e.t__p, 0, none⟩), .map (some e.when_p), .pointer (some ⟨e.clock_p, 0, none⟩), .i m.budget, .i m.last, .i m.top] :: zs.R e.q_p e.q_a m.q :: zr.R e.t__p e.t__a m.t_ :: MpA e.when_p zd.val vI m.when :: zP.R e.clock_p m.clock :: As) w := St.flat H
theorem zb.shut {w0 w : World} {As : List HP} {p : Nat} (e : zb.A) (m : zb) (H : St w0 (Blk p 82 [.i m.kind, .i m.most, .pointer (some ⟨e.q_p, 0, none⟩), .i m.heaps0.At, .i m.heaps0.Gen, .i m.heaps1.At, .i m.heaps1.Gen, .pointer (some ⟨e.t__p, 0, none⟩), .map (some e.when_p), .pointer (some ⟨e.clock_p, 0, none⟩), .i m.budget, .i m.last, .i m.top] :: zs.R e.q_p e.q_a m.q :: zr.R e.t__p e.t__a m.t_ :: MpA e.when_p zd.val vI m.when :: zP.R e.clock_p m.clock :: As) w) : St w0 (zb.R p e m :: As) w := St.group [Blk p 82 [.i m.kind, .i m.most, .pointer (some ⟨e.q_p, 0, none⟩), .i m.heaps0.At, .i m.heaps0.Gen, .i m.heaps1.At, .i m.heaps1.Gen, .pointer (some ⟨e.t__p, 0, none⟩), .map (some e.when_p), .pointer (some ⟨e.clock_p, 0, none⟩), .i m.budget, .i m.last, .i m.top], zs.R e.q_p e.q_a m.q, zr.R e.t__p e.t__a m.t_, MpA e.when_p zd.val vI m.when, zP.R e.clock_p m.clock] H
def zf.R (p : Nat) (e : zf.A) (m : zf) : HP := sepL [Blk p 140 [.chan (some e.c__p)], ChM e.c__p zt.val m.c_]
theorem zf.open {w0 w : World} {As : List HP} {p : Nat} {e : zf.A} {m : zf} (H : St w0 (zf.R p e m :: As) w) : St w0 (Blk p 140 [.chan (some e.c__p)] :: ChM e.c__p zt.val m.c_ :: As) w := St.flat H
theorem zf.shut {w0 w : World} {As : List HP} {p : Nat} (e : zf.A) (m : zf) (H : St w0 (Blk p 140 [.chan (some e.c__p)] :: ChM e.c__p zt.val m.c_ :: As) w) : St w0 (zf.R p e m :: As) w := St.group [Blk p 140 [.chan (some e.c__p)], ChM e.c__p zt.val m.c_] H
def zf.encX (g : Nat × zf.A) : List Value := [.pointer (some ⟨g.1, 0, none⟩)]
def zf.RX (g : Nat × zf.A) (x : zf) : HP := zf.R g.1 g.2 x
theorem zf.qq : xX zf.encX 1 := ⟨fun _ => rfl, fun x u hu => by simp [zf.encX] at hu; subst hu; rfl⟩
def zi.R (p : Nat) (e : zi.A) (m : zi) : HP := sepL [Blk p 104 [.slice e.l_b m.l.length e.l_c], SlX 105 zf.encX zf.RX e.l_b e.l_c m.l]
theorem zi.open {w0 w : World} {As : List HP} {p : Nat} {e : zi.A} {m : zi} (H : St w0 (zi.R p e m :: As) w) : St w0 (Blk p 104 [.slice e.l_b m.l.length e.l_c] :: SlX 105 zf.encX zf.RX e.l_b e.l_c m.l :: As) w := St.flat H
theorem zi.shut {w0 w : World} {As : List HP} {p : Nat} (e : zi.A) (m : zi) (H : St w0 (Blk p 104 [.slice e.l_b m.l.length e.l_c] :: SlX 105 zf.encX zf.RX e.l_b e.l_c m.l :: As) w) : St w0 (zi.R p e m :: As) w := St.group [Blk p 104 [.slice e.l_b m.l.length e.l_c], SlX 105 zf.encX zf.RX e.l_b e.l_c m.l] H
def zp.R (p : Nat) (e : zp.A) (m : zp) : HP := sepL [Blk p 74 [.pointer (some ⟨e.d_p, 0, none⟩), .pointer (some ⟨e.desk_p, 0, none⟩)], zb.R e.d_p e.d_a m.d, zi.R e.desk_p e.desk_a m.desk]
theorem zp.open {w0 w : World} {As : List HP} {p : Nat} {e : zp.A} {m : zp} (H : St w0 (zp.R p e m :: As) w) : St w0 (Blk p 74 [.pointer (some ⟨e.d_p, 0, none⟩), .pointer (some ⟨e.desk_p, 0, none⟩)] :: zb.R e.d_p e.d_a m.d :: zi.R e.desk_p e.desk_a m.desk :: As) w := St.flat H
theorem zp.shut {w0 w : World} {As : List HP} {p : Nat} (e : zp.A) (m : zp) (H : St w0 (Blk p 74 [.pointer (some ⟨e.d_p, 0, none⟩), .pointer (some ⟨e.desk_p, 0, none⟩)] :: zb.R e.d_p e.d_a m.d :: zi.R e.desk_p e.desk_a m.desk :: As) w) : St w0 (zp.R p e m :: As) w := St.group [Blk p 74 [.pointer (some ⟨e.d_p, 0, none⟩), .pointer (some ⟨e.desk_p, 0, none⟩)], zb.R e.d_p e.d_a m.d, zi.R e.desk_p e.desk_a m.desk] H
def zo.R (p : Nat) (e : zo.A) (m : zo) : HP := sepL [Blk p 65 [.pointer (some ⟨e.s_p, 0, none⟩), .slice e.l_b m.l.length e.l_c], zp.R e.s_p e.s_a m.s, Sl 42 zk.enc 14 e.l_b e.l_c m.l]
theorem zo.open {w0 w : World} {As : List HP} {p : Nat} {e : zo.A} {m : zo} (H : St w0 (zo.R p e m :: As) w) : St w0 (Blk p 65 [.pointer (some ⟨e.s_p, 0, none⟩), .slice e.l_b m.l.length e.l_c] :: zp.R e.s_p e.s_a m.s :: Sl 42 zk.enc 14 e.l_b e.l_c m.l :: As) w := St.flat H
theorem zo.shut {w0 w : World} {As : List HP} {p : Nat} (e : zo.A) (m : zo) (H : St w0 (Blk p 65 [.pointer (some ⟨e.s_p, 0, none⟩), .slice e.l_b m.l.length e.l_c] :: zp.R e.s_p e.s_a m.s :: Sl 42 zk.enc 14 e.l_b e.l_c m.l :: As) w) : St w0 (zo.R p e m :: As) w := St.group [Blk p 65 [.pointer (some ⟨e.s_p, 0, none⟩), .slice e.l_b m.l.length e.l_c], zp.R e.s_p e.s_a m.s, Sl 42 zk.enc 14 e.l_b e.l_c m.l] H
def zn.R (p : Nat) (e : zn.A) (m : zn) : HP := sepL [Blk p 152 [.i m.Most, .slice e.Gens_b m.Gens.length e.Gens_c, .slice e.In_b m.In.length e.In_c, .slice e.V_b m.V.length e.V_c, .slice e.Back_b m.Back.length e.Back_c], Sl 3 ecI 1 e.Gens_b e.Gens_c m.Gens, Sl 4 ecB 1 e.In_b e.In_c m.In, Sl 2 ecI 1 e.V_b e.V_c m.V, Sl 3 ecI 1 e.Back_b e.Back_c m.Back]
theorem zn.open {w0 w : World} {As : List HP} {p : Nat} {e : zn.A} {m : zn} (H : St w0 (zn.R p e m :: As) w) : St w0 (Blk p 152 [.i m.Most, .slice e.Gens_b m.Gens.length e.Gens_c, .slice e.In_b m.In.length e.In_c, .slice e.V_b m.V.length e.V_c, .slice e.Back_b m.Back.length e.Back_c] :: Sl 3 ecI 1 e.Gens_b e.Gens_c m.Gens :: Sl 4 ecB 1 e.In_b e.In_c m.In :: Sl 2 ecI 1 e.V_b e.V_c m.V :: Sl 3 ecI 1 e.Back_b e.Back_c m.Back :: As) w := St.flat H
theorem zn.shut {w0 w : World} {As : List HP} {p : Nat} (e : zn.A) (m : zn) (H : St w0 (Blk p 152 [.i m.Most, .slice e.Gens_b m.Gens.length e.Gens_c, .slice e.In_b m.In.length e.In_c, .slice e.V_b m.V.length e.V_c, .slice e.Back_b m.Back.length e.Back_c] :: Sl 3 ecI 1 e.Gens_b e.Gens_c m.Gens :: Sl 4 ecB 1 e.In_b e.In_c m.In :: Sl 2 ecI 1 e.V_b e.V_c m.V :: Sl 3 ecI 1 e.Back_b e.Back_c m.Back :: As) w) : St w0 (zn.R p e m :: As) w := St.group [Blk p 152 [.i m.Most, .slice e.Gens_b m.Gens.length e.Gens_c, .slice e.In_b m.In.length e.In_c, .slice e.V_b m.V.length e.V_c, .slice e.Back_b m.Back.length e.Back_c], Sl 3 ecI 1 e.Gens_b e.Gens_c m.Gens, Sl 4 ecB 1 e.In_b e.In_c m.In, Sl 2 ecI 1 e.V_b e.V_c m.V, Sl 3 ecI 1 e.Back_b e.Back_c m.Back] H
def zc.R (p : Nat) (e : zc.A) (m : zc) : HP := sepL [Blk p 94 [.i m.Most, .i m.Now, .i m.Next, .pointer (some ⟨e.Pool_p, 0, none⟩), .slice e.L_b m.L.length e.L_c], zn.R e.Pool_p e.Pool_a m.Pool, Sl 118 zF.enc 6 e.L_b e.L_c m.L]
theorem zc.open {w0 w : World} {As : List HP} {p : Nat} {e : zc.A} {m : zc} (H : St w0 (zc.R p e m :: As) w) : St w0 (Blk p 94 [.i m.Most, .i m.Now, .i m.Next, .pointer (some ⟨e.Pool_p, 0, none⟩), .slice e.L_b m.L.length e.L_c] :: zn.R e.Pool_p e.Pool_a m.Pool :: Sl 118 zF.enc 6 e.L_b e.L_c m.L :: As) w := St.flat H
theorem zc.shut {w0 w : World} {As : List HP} {p : Nat} (e : zc.A) (m : zc) (H : St w0 (Blk p 94 [.i m.Most, .i m.Now, .i m.Next, .pointer (some ⟨e.Pool_p, 0, none⟩), .slice e.L_b m.L.length e.L_c] :: zn.R e.Pool_p e.Pool_a m.Pool :: Sl 118 zF.enc 6 e.L_b e.L_c m.L :: As) w) : St w0 (zc.R p e m :: As) w := St.group [Blk p 94 [.i m.Most, .i m.Now, .i m.Next, .pointer (some ⟨e.Pool_p, 0, none⟩), .slice e.L_b m.L.length e.L_c], zn.R e.Pool_p e.Pool_a m.Pool, Sl 118 zF.enc 6 e.L_b e.L_c m.L] H
def yc.dec (l : List Value) : Option yc := match l with
  | [.int _ x1, .int _ x2, .int _ x3, .int _ x4, .int _ x5, .int _ x6, .int _ x7, .int _ x8, .int _ x9] => some (yc.mk x1 x2 (zd.mk x3 x4) (zd.mk x5 x6) (zd.mk x7 x8) x9)
  | _ => none
def yc.dv (v : Value) : Option yc := match v with
  | .agg cs => yc.dec cs.toList
  | _ => none
def zd.dec (l : List Value) : Option zd := match l with
  | [.int _ x1, .int _ x2] => some (zd.mk x1 x2)
  | _ => none
def zd.dv (v : Value) : Option zd := match v with
  | .agg cs => zd.dec cs.toList
  | _ => none
def zE.dec (l : List Value) : Option zE := match l with
  | [.int _ x1, .int _ x2, .int _ x3] => some (zE.mk x1 x2 x3)
  | _ => none
def zE.dv (v : Value) : Option zE := match v with
  | .agg cs => zE.dec cs.toList
  | _ => none
def zM.dec (l : List Value) : Option zM := match l with
  | [.int _ x1, .int _ x2, .int _ x3, .int _ x4, .int _ x5, .int _ x6, .int _ x7, .int _ x8] => some (zM.mk x1 (zd.mk x2 x3) (zd.mk x4 x5) (zH.mk x6 x7) x8)
  | _ => none
def zM.dv (v : Value) : Option zM := match v with
  | .agg cs => zM.dec cs.toList
  | _ => none
def zy.dec (l : List Value) : Option zy := match l with
  | [.int _ x1, .int _ x2, .int _ x3, .int _ x4, .int _ x5, .int _ x6, .int _ x7, .int _ x8, .int _ x9, .int _ x10, .bool x11] => some (zy.mk x1 x2 x3 x4 x5 x6 x7 x8 x9 x10 x11)
  | _ => none
def zy.dv (v : Value) : Option zy := match v with
  | .agg cs => zy.dec cs.toList
  | _ => none
def zH.dec (l : List Value) : Option zH := match l with
  | [.int _ x1, .int _ x2] => some (zH.mk x1 x2)
  | _ => none
def zH.dv (v : Value) : Option zH := match v with
  | .agg cs => zH.dec cs.toList
  | _ => none
def zm.dec (l : List Value) : Option zm := match l with
  | [.int _ x1, .int _ x2] => some (zm.mk x1 x2)
  | _ => none
def zm.dv (v : Value) : Option zm := match v with
  | .agg cs => zm.dec cs.toList
  | _ => none
def zC.dec (l : List Value) : Option zC := match l with
  | [.int _ x1, .int _ x2, .int _ x3] => some (zC.mk x1 (zd.mk x2 x3))
  | _ => none
def zC.dv (v : Value) : Option zC := match v with
  | .agg cs => zC.dec cs.toList
  | _ => none
def zq.dec (l : List Value) : Option zq := match l with
  | [.int _ x1, .int _ x2, .int _ x3, .int _ x4, .int _ x5, .int _ x6] => some (zq.mk x1 (zd.mk x2 x3) x4 x5 x6)
  | _ => none
def zq.dv (v : Value) : Option zq := match v with
  | .agg cs => zq.dec cs.toList
  | _ => none
def zD.dec (l : List Value) : Option zD := match l with
  | [.int _ x1, .int _ x2, .int _ x3, .int _ x4, .int _ x5] => some (zD.mk x1 x2 x3 (zd.mk x4 x5))
  | _ => none
def zD.dv (v : Value) : Option zD := match v with
  | .agg cs => zD.dec cs.toList
  | _ => none
def zt.dec (l : List Value) : Option zt := match l with
  | [.int _ x1, .int _ x2, .int _ x3, .int _ x4, .int _ x5, .int _ x6] => some (zt.mk x1 x2 (zd.mk x3 x4) x5 x6)
  | _ => none
def zt.dv (v : Value) : Option zt := match v with
  | .agg cs => zt.dec cs.toList
  | _ => none
def zk.dec (l : List Value) : Option zk := match l with
  | [.int _ x1, .int _ x2, .int _ x3, .int _ x4, .int _ x5, .int _ x6, .int _ x7, .int _ x8, .int _ x9, .int _ x10, .int _ x11, .int _ x12, .int _ x13, .int _ x14] => some (zk.mk (zt.mk x1 x2 (zd.mk x3 x4) x5 x6) (zq.mk x7 (zd.mk x8 x9) x10 x11 x12) x13 x14)
  | _ => none
def zk.dv (v : Value) : Option zk := match v with
  | .agg cs => zk.dec cs.toList
  | _ => none
def yp.dec (l : List Value) : Option yp := match l with
  | [.int _ x1, .int _ x2, .int _ x3, .int _ x4, .int _ x5, .int _ x6, .int _ x7, .int _ x8, .int _ x9, .int _ x10, .int _ x11] => some (yp.mk x1 x2 x3 x4 x5 (zt.mk x6 x7 (zd.mk x8 x9) x10 x11))
  | _ => none
def yp.dv (v : Value) : Option yp := match v with
  | .agg cs => yp.dec cs.toList
  | _ => none
def y2.dec (l : List Value) : Option y2 := match l with
  | [.int _ x1, .int _ x2, .int _ x3, .int _ x4, .int _ x5, .int _ x6, .int _ x7, .int _ x8] => some (y2.mk x1 x2 (zt.mk x3 x4 (zd.mk x5 x6) x7 x8))
  | _ => none
def y2.dv (v : Value) : Option y2 := match v with
  | .agg cs => y2.dec cs.toList
  | _ => none
def zx.dec (l : List Value) : Option zx := match l with
  | [.int _ x1, .int _ x2, .int _ x3, .int _ x4, .int _ x5, .int _ x6, .int _ x7, .int _ x8, .int _ x9, .int _ x10, .int _ x11, .int _ x12, .int _ x13, .int _ x14, .int _ x15, .int _ x16, .int _ x17, .int _ x18, .int _ x19, .int _ x20, .int _ e] => some (zx.mk x1 x2 (yp.mk x3 x4 x5 x6 x7 (zt.mk x8 x9 (zd.mk x10 x11) x12 x13)) (y2.mk x14 x15 (zt.mk x16 x17 (zd.mk x18 x19) x20 e)))
  | _ => none
def zx.dv (v : Value) : Option zx := match v with
  | .agg cs => zx.dec cs.toList
  | _ => none
def zF.dec (l : List Value) : Option zF := match l with
  | [.int _ x1, .int _ x2, .int _ x3, .int _ x4, .int _ x5, .int _ x6] => some (zF.mk x1 x2 (zH.mk x3 x4) (zd.mk x5 x6))
  | _ => none
def zF.dv (v : Value) : Option zF := match v with
  | .agg cs => zF.dec cs.toList
  | _ => none
def zz.dec (l : List Value) : Option zz := match l with
  | [.int _ x1, .bool x2, .int _ x3, .int _ x4, .int _ x5] => some (zz.mk x1 x2 (zE.mk x3 x4 x5))
  | _ => none
def zz.dv (v : Value) : Option zz := match v with
  | .agg cs => zz.dec cs.toList
  | _ => none
def zu.dec (l : List Value) : Option zu := match l with
  | [.int _ x1, .bool x2, .int _ x3, .int _ x4, .int _ x5] => some (zu.mk x1 x2 (zC.mk x3 (zd.mk x4 x5)))
  | _ => none
def zu.dv (v : Value) : Option zu := match v with
  | .agg cs => zu.dec cs.toList
  | _ => none
def zw.dec (l : List Value) : Option zw := match l with
  | [.int _ x1, .bool x2, .int _ x3, .int _ x4, .int _ x5, .int _ x6, .int _ x7] => some (zw.mk x1 x2 (zD.mk x3 x4 x5 (zd.mk x6 x7)))
  | _ => none
def zw.dv (v : Value) : Option zw := match v with
  | .agg cs => zw.dec cs.toList
  | _ => none
def elV : Nat -> ElD
  | 0 => ⟨zy, zy.enc, 11, zy.zU, zy.dec⟩
  | 1 => ⟨Int, ecI, 1, wE, dI⟩
  | 2 => ⟨zz, zz.enc, 5, zz.zU, zz.dec⟩
  | 3 => ⟨zu, zu.enc, 5, zu.zU, zu.dec⟩
  | 4 => ⟨zw, zw.enc, 7, zw.zU, zw.dec⟩
  | 5 => ⟨zm, zm.enc, 2, zm.zU, zm.dec⟩
  | 6 => ⟨zd, zd.enc, 2, zd.zU, zd.dec⟩
  | 7 => ⟨zk, zk.enc, 14, zk.zU, zk.dec⟩
  | 8 => ⟨zq, zq.enc, 6, zq.zU, zq.dec⟩
  | 9 => ⟨Bool, ecB, 1, Bm, dB⟩
  | 10 => ⟨Int, ecI, 1, wE, dI⟩
  | 11 => ⟨zF, zF.enc, 6, zF.zU, zF.dec⟩
  | 12 => ⟨y2, y2.enc, 8, y2.zU, y2.dec⟩
  | 13 => ⟨zx, zx.enc, 21, zx.zU, zx.dec⟩
  | _ => ⟨Int, ecI, 1, wE, dI⟩
def mpV : Nat -> MpD
  | 0 => ⟨Int, zd, vI, zd.val, dvI, zd.dv, kI⟩
  | 1 => ⟨zd, zH, zd.val, zH.val, zd.dv, zH.dv, zd.eq⟩
  | 2 => ⟨zd, zd, zd.val, zd.val, zd.dv, zd.dv, zd.eq⟩
  | 3 => ⟨zd, Int, zd.val, vI, zd.dv, dvI, zd.eq⟩
  | _ => ⟨Int, Int, vI, vI, dvI, dvI, kI⟩
def El : Ev := ⟨elV, mpV⟩
def zd.eqD : EqD pG := ⟨zd, 30, fun x => #[.i x.At, .i x.Gen], zd.dv, zd.eq, zd.uQ⟩
def zq.eqD : EqD pG := ⟨zq, 32, fun x => #[.i x.Why, .i x.Job.At, .i x.Job.Gen, .i x.Time, .i x.Data, .i x.N], zq.dv, zq.eq, zq.uQ⟩
def zk.eqD : EqD pG := ⟨zk, 42, fun x => #[.i x.Command.Kind, .i x.Command.Queue, .i x.Command.Job.At, .i x.Command.Job.Gen, .i x.Command.Time, .i x.Command.Data, .i x.Reply.Why, .i x.Reply.Job.At, .i x.Reply.Job.Gen, .i x.Reply.Time, .i x.Reply.Data, .i x.Reply.N, .i x.Now, .i x.Steps], zk.dv, zk.eq, zk.uQ⟩
def zt.eqD : EqD pG := ⟨zt, 35, fun x => #[.i x.Kind, .i x.Queue, .i x.Job.At, .i x.Job.Gen, .i x.Time, .i x.Data], zt.dv, zt.eq, zt.uQ⟩
def zG.D : OD El := ⟨Unit, zG, fun p e m => [.blk p 196 [.i m.steps, .i m.begun, .i m.most]], fun l => match l with
  | .blk _ _ [.int _ x1, .int _ x2, .int _ x3] :: r => some ((), zG.mk x1 x2 x3, r)
  | _ => none⟩
def za.D : OD El := ⟨za.A, za, fun p e m => [.blk p 183 [.slice e.l_b m.l.length e.l_c, .i m.never, .slice e.free_b m.free.length e.free_c, .pointer (some ⟨e.m__p, 0, none⟩)]] ++ [.sl 0 257 e.l_b e.l_c m.l] ++ [.sl 1 3 e.free_b e.free_c m.free] ++ zG.D.flat e.m__p () m.m_, fun l => match l with
  | .blk _ _ [_, .int _ x2, _, .pointer (some ⟨x5, _, _⟩)] :: r => (rS 0 r).bind fun (x1, x6) => (rS 1 x6).bind fun (x3, x7) => (zG.D.rd x7).bind fun (t, j, x8) => some (za.A.mk x1.1 x1.2.1 x3.1 x3.2.1 x5, za.mk x1.2.2 x2 x3.2.2 j, x8)
  | _ => none⟩
def zh.D : OD El := ⟨zh.A, zh, fun p e m => [.blk p 227 [.i m.most, .slice e.l_b m.l.length e.l_c, .slice e.free_b m.free.length e.free_c]] ++ [.sl 2 232 e.l_b e.l_c m.l] ++ [.sl 1 3 e.free_b e.free_c m.free], fun l => match l with
  | .blk _ _ [.int _ x1, _, _] :: r => (rS 2 r).bind fun (x2, x4) => (rS 1 x4).bind fun (x3, x5) => some (zh.A.mk x2.1 x2.2.1 x3.1 x3.2.1, zh.mk x1 x2.2.2 x3.2.2, x5)
  | _ => none⟩
def ze.D : OD El := ⟨ze.A, ze, fun p e m => [.blk p 230 [.i m.most, .slice e.l_b m.l.length e.l_c, .slice e.free_b m.free.length e.free_c]] ++ [.sl 3 265 e.l_b e.l_c m.l] ++ [.sl 1 3 e.free_b e.free_c m.free], fun l => match l with
  | .blk _ _ [.int _ x1, _, _] :: r => (rS 3 r).bind fun (x2, x4) => (rS 1 x4).bind fun (x3, x5) => some (ze.A.mk x2.1 x2.2.1 x3.1 x3.2.1, ze.mk x1 x2.2.2 x3.2.2, x5)
  | _ => none⟩
def zj.D : OD El := ⟨zj.A, zj, fun p e m => [.blk p 194 [.pointer (some ⟨e.heaps_p, 0, none⟩), .pointer (some ⟨e.items_p, 0, none⟩), .map (some e.at__p)]] ++ zh.D.flat e.heaps_p e.heaps_a m.heaps ++ ze.D.flat e.items_p e.items_a m.items ++ [.mp 0 e.at__p m.at_], fun l => match l with
  | .blk _ _ [.pointer (some ⟨x2, _, _⟩), .pointer (some ⟨x4, _, _⟩), _] :: r => (zh.D.rd r).bind fun (x11, x12, x6) => (ze.D.rd x6).bind fun (i, j, x7) => (rM 0 x7).bind fun (x5, x8) => some (zj.A.mk x2 x11 x4 i x5.1, zj.mk x12 j x5.2, x8)
  | _ => none⟩
def zs.D : OD El := ⟨zs.A, zs, fun p e m => [.blk p 164 [.i m.items, .pointer (some ⟨e.a__p, 0, none⟩), .pointer (some ⟨e.t__p, 0, none⟩), .map (some e.entries_p), .i m.serial]] ++ za.D.flat e.a__p e.a__a m.a_ ++ zj.D.flat e.t__p e.t__a m.t_ ++ [.mp 1 e.entries_p m.entries], fun l => match l with
  | .blk _ _ [.int _ x1, .pointer (some ⟨x3, _, _⟩), .pointer (some ⟨x5, _, _⟩), _, .int _ x7] :: r => (za.D.rd r).bind fun (j, t, x8) => (zj.D.rd x8).bind fun (u, x, x9) => (rM 1 x9).bind fun (x6, x10) => some (zs.A.mk x3 j x5 u x6.1, zs.mk x1 t x x6.2 x7, x10)
  | _ => none⟩
def zg.D : OD El := ⟨zg.A, zg, fun p e m => [.blk p 143 [.i m.most, .slice e.l_b m.l.length e.l_c, .slice e.free_b m.free.length e.free_c]] ++ [.sl 4 145 e.l_b e.l_c m.l] ++ [.sl 1 3 e.free_b e.free_c m.free], fun l => match l with
  | .blk _ _ [.int _ x1, _, _] :: r => (rS 4 r).bind fun (x2, x4) => (rS 1 x4).bind fun (x3, x5) => some (zg.A.mk x2.1 x2.2.1 x3.1 x3.2.1, zg.mk x1 x2.2.2 x3.2.2, x5)
  | _ => none⟩
def zr.D : OD El := ⟨zr.A, zr, fun p e m => [.blk p 109 [.pointer (some ⟨e.p_p, 0, none⟩), .map (some e.by__p)]] ++ zg.D.flat e.p_p e.p_a m.p ++ [.mp 2 e.by__p m.by_], fun l => match l with
  | .blk _ _ [.pointer (some ⟨x2, _, _⟩), _] :: r => (zg.D.rd r).bind fun (x11, x12, x4) => (rM 2 x4).bind fun (x3, x5) => some (zr.A.mk x2 x11 x3.1, zr.mk x12 x3.2, x5)
  | _ => none⟩
def zP.D : OD El := ⟨Unit, zP, fun p e m => [.blk p 111 [.i m.now]], fun l => match l with
  | .blk _ _ [.int _ x1] :: r => some ((), zP.mk x1, r)
  | _ => none⟩
def zb.D : OD El := ⟨zb.A, zb, fun p e m => [.blk p 82 [.i m.kind, .i m.most, .pointer (some ⟨e.q_p, 0, none⟩), .i m.heaps0.At, .i m.heaps0.Gen, .i m.heaps1.At, .i m.heaps1.Gen, .pointer (some ⟨e.t__p, 0, none⟩), .map (some e.when_p), .pointer (some ⟨e.clock_p, 0, none⟩), .i m.budget, .i m.last, .i m.top]] ++ zs.D.flat e.q_p e.q_a m.q ++ zr.D.flat e.t__p e.t__a m.t_ ++ [.mp 3 e.when_p m.when] ++ zP.D.flat e.clock_p () m.clock, fun l => match l with
  | .blk _ _ [.int _ x1, .int _ x2, .pointer (some ⟨x4, _, _⟩), .int _ x5, .int _ x6, .int _ x7, .int _ x8, .pointer (some ⟨x10, _, _⟩), _, .pointer (some ⟨x13, _, _⟩), .int _ x14, .int _ x15, .int _ x16] :: r => (zs.D.rd r).bind fun (t, u, x17) => (zr.D.rd x17).bind fun (x, y, x18) => (rM 3 x18).bind fun (x11, x19) => (zP.D.rd x19).bind fun (z, j, x20) => some (zb.A.mk x4 t x10 x x11.1 x13, zb.mk x1 x2 u (zd.mk x5 x6) (zd.mk x7 x8) y x11.2 j x14 x15 x16, x20)
  | _ => none⟩
def zn.D : OD El := ⟨zn.A, zn, fun p e m => [.blk p 152 [.i m.Most, .slice e.Gens_b m.Gens.length e.Gens_c, .slice e.In_b m.In.length e.In_c, .slice e.V_b m.V.length e.V_c, .slice e.Back_b m.Back.length e.Back_c]] ++ [.sl 1 3 e.Gens_b e.Gens_c m.Gens] ++ [.sl 9 4 e.In_b e.In_c m.In] ++ [.sl 10 2 e.V_b e.V_c m.V] ++ [.sl 1 3 e.Back_b e.Back_c m.Back], fun l => match l with
  | .blk _ _ [.int _ x1, _, _, _, _] :: r => (rS 1 r).bind fun (x2, x6) => (rS 9 x6).bind fun (x3, x7) => (rS 10 x7).bind fun (x4, x8) => (rS 1 x8).bind fun (x5, x9) => some (zn.A.mk x2.1 x2.2.1 x3.1 x3.2.1 x4.1 x4.2.1 x5.1 x5.2.1, zn.mk x1 x2.2.2 x3.2.2 x4.2.2 x5.2.2, x9)
  | _ => none⟩
def zc.D : OD El := ⟨zc.A, zc, fun p e m => [.blk p 94 [.i m.Most, .i m.Now, .i m.Next, .pointer (some ⟨e.Pool_p, 0, none⟩), .slice e.L_b m.L.length e.L_c]] ++ zn.D.flat e.Pool_p e.Pool_a m.Pool ++ [.sl 11 118 e.L_b e.L_c m.L], fun l => match l with
  | .blk _ _ [.int _ x1, .int _ x2, .int _ x3, .pointer (some ⟨x5, _, _⟩), _] :: r => (zn.D.rd r).bind fun (j, t, x7) => (rS 11 x7).bind fun (x6, x8) => some (zc.A.mk x5 j x6.1 x6.2.1, zc.mk x1 x2 x3 t x6.2.2, x8)
  | _ => none⟩
theorem zG.D_st {w0 w : World} {As : List HP} {p : Nat} {m : zG} : St w0 (zG.R p m :: As) w ↔ St w0 ((zG.D.flat p () m).map Atom.den ++ As) w := by
  refine Iff.trans ⟨fun H => zG.open H, fun H => zG.shut m H⟩ ?_;exact Iff.rfl
theorem za.D_st {w0 w : World} {As : List HP} {p : Nat} {e : za.A} {m : za} : St w0 (za.R p e m :: As) w ↔ St w0 ((za.D.flat p e m).map Atom.den ++ As) w := by
  refine Iff.trans ⟨fun H => za.open H, fun H => za.shut e m H⟩ ?_;refine Iff.trans (fs3 fun As => zG.D_st) ?_;exact Iff.rfl
theorem zh.D_st {w0 w : World} {As : List HP} {p : Nat} {e : zh.A} {m : zh} : St w0 (zh.R p e m :: As) w ↔ St w0 ((zh.D.flat p e m).map Atom.den ++ As) w := by
  refine Iff.trans ⟨fun H => zh.open H, fun H => zh.shut e m H⟩ ?_;exact Iff.rfl
theorem ze.D_st {w0 w : World} {As : List HP} {p : Nat} {e : ze.A} {m : ze} : St w0 (ze.R p e m :: As) w ↔ St w0 ((ze.D.flat p e m).map Atom.den ++ As) w := by
  refine Iff.trans ⟨fun H => ze.open H, fun H => ze.shut e m H⟩ ?_;exact Iff.rfl
theorem zj.D_st {w0 w : World} {As : List HP} {p : Nat} {e : zj.A} {m : zj} : St w0 (zj.R p e m :: As) w ↔ St w0 ((zj.D.flat p e m).map Atom.den ++ As) w := by
  refine Iff.trans ⟨fun H => zj.open H, fun H => zj.shut e m H⟩ ?_;refine Iff.trans (fs2 fun As => ze.D_st) ?_;refine Iff.trans (fs1 fun As => zh.D_st) ?_;exact Iff.rfl
theorem zs.D_st {w0 w : World} {As : List HP} {p : Nat} {e : zs.A} {m : zs} : St w0 (zs.R p e m :: As) w ↔ St w0 ((zs.D.flat p e m).map Atom.den ++ As) w := by
  refine Iff.trans ⟨fun H => zs.open H, fun H => zs.shut e m H⟩ ?_;refine Iff.trans (fs2 fun As => zj.D_st) ?_;refine Iff.trans (fs1 fun As => za.D_st) ?_;exact Iff.rfl
theorem zg.D_st {w0 w : World} {As : List HP} {p : Nat} {e : zg.A} {m : zg} : St w0 (zg.R p e m :: As) w ↔ St w0 ((zg.D.flat p e m).map Atom.den ++ As) w := by
  refine Iff.trans ⟨fun H => zg.open H, fun H => zg.shut e m H⟩ ?_;exact Iff.rfl
theorem zr.D_st {w0 w : World} {As : List HP} {p : Nat} {e : zr.A} {m : zr} : St w0 (zr.R p e m :: As) w ↔ St w0 ((zr.D.flat p e m).map Atom.den ++ As) w := by
  refine Iff.trans ⟨fun H => zr.open H, fun H => zr.shut e m H⟩ ?_;refine Iff.trans (fs1 fun As => zg.D_st) ?_;exact Iff.rfl
theorem zP.D_st {w0 w : World} {As : List HP} {p : Nat} {m : zP} : St w0 (zP.R p m :: As) w ↔ St w0 ((zP.D.flat p () m).map Atom.den ++ As) w := by
  refine Iff.trans ⟨fun H => zP.open H, fun H => zP.shut m H⟩ ?_;exact Iff.rfl
theorem zb.D_st {w0 w : World} {As : List HP} {p : Nat} {e : zb.A} {m : zb} : St w0 (zb.R p e m :: As) w ↔ St w0 ((zb.D.flat p e m).map Atom.den ++ As) w := by
  refine Iff.trans ⟨fun H => zb.open H, fun H => zb.shut e m H⟩ ?_;refine Iff.trans (fs4 fun As => zP.D_st) ?_;refine Iff.trans (fs2 fun As => zr.D_st) ?_;refine Iff.trans (fs1 fun As => zs.D_st) ?_;exact Iff.rfl
theorem zn.D_st {w0 w : World} {As : List HP} {p : Nat} {e : zn.A} {m : zn} : St w0 (zn.R p e m :: As) w ↔ St w0 ((zn.D.flat p e m).map Atom.den ++ As) w := by
  refine Iff.trans ⟨fun H => zn.open H, fun H => zn.shut e m H⟩ ?_;exact Iff.rfl
theorem zc.D_st {w0 w : World} {As : List HP} {p : Nat} {e : zc.A} {m : zc} : St w0 (zc.R p e m :: As) w ↔ St w0 ((zc.D.flat p e m).map Atom.den ++ As) w := by
  refine Iff.trans ⟨fun H => zc.open H, fun H => zc.shut e m H⟩ ?_;refine Iff.trans (fs1 fun As => zn.D_st) ?_;exact Iff.rfl
abbrev C6p : List (PK El) := [pI .i64, pI .i64, pI .i64]
def C6 : Con El := zL 6 C6p (fun e => yM e.1 e.2.1 e.2.2.1) 0 0 (fun e t j l => .i t) (fun e t j l => [])
theorem S6 : (C6).Sound pG :=
  fsn mixed (C6) (n := 33) (rs := rsOf pG 6) [] [] (gj (gI 6) []) (fun i => (.g 1 (.g 4 (.pj 10 (Bool) mB (gB 14) (fun st j => ([(14, .bool j)] ++ kp [0, 1, 2] st, ka [] st)) (.g 4 .leaf) (.g 4 .leaf) (.cond (.g 2 .ret) (.g 5 (.s (.gd 0 (.tmp 20) 0) (.s (.seg 2 [.Q 0]) (.g 2 (.join (Int) 0 0 (gj (gI 0) []) (fun e j l t => ([(0, .i j)] ++ kp [1] e, ka [] e)) (.cond (.g 7 .leaf) .leaf) (.g 4 .ret))))))))))) Tryz.func6
def K6 : SCon El pG := ⟨C6, S6, Tryz.call6⟩
theorem tm {w0 w : World} {As : List HP} {n : Int} {lo : Int} {hi : Int} {t : Int}  (hm : yM n lo hi = some t) (H : St w0 (As) w) :
    yz pG 6 #[.i n, .i lo, .i hi] w fun v w' => v = .i t /\ St w0 (As) w' := by
  refine (S6 (n, lo, hi, ()) t hm w0 w (As) rd0 H).mono ?_;rintro v w' ⟨l, e, hn, ha, hv, H, j⟩;obtain rfl := ls0 hn;obtain rfl := ls0 ha;refine ⟨hv, ?_⟩;exact H
abbrev C49p : List (PK El) := [pI .i64]
def C49 : Con El := zL 49 C49p (fun e => u7 e.1) 0 0 (fun e t i j => .bool t) (fun e t i j => [])
theorem S49 : (C49).Sound pG :=
  fsn mixed (C49) (n := 9) (rs := rsOf pG 49) [] [] (gj (gB 2) []) (fun i => (.g 1 (.g 3 (.pj 5 (Bool) mB (gB 2) (fun st e => ([(2, .bool e)] ++ kp [] st, ka [] st)) (.g 4 .leaf) (.g 4 .leaf) .ret)))) Tryz.func49
def K49 : SCon El pG := ⟨C49, S49, Tryz.call49⟩
theorem kL {w0 w : World} {As : List HP} {x : Int} {t : Int}  (hm : bits_Len64 x = some t) (H : St w0 (As) w) :
    yz pG 183 #[.int .u64 x] w fun v w' => v = .i t /\ St w0 (As) w' := by
 rw [bits_Len64] at hm;refine enter (args := [.int .u64 x]) Tryz.func183 rfl rfl rfl fun a j => ?_
 refine Runs.sr ?_;refine WR.seg j 1 [] [0, 2] (Lo := [(0, .int .u64 x), (2, .i 0)]) (obs := []) rfl (by kernel_rfl) trivial fun a j => ?_
 refine WR.done rfl ?_;refine Runs.seq ?_;refine Runs.sr ?_;refine WR.e0 j [(4, .bool (decide (x >= 4294967296)))] fun a j => ?_
 obtain ⟨s, es, hm⟩ := bind_some hm;refine Runs.join (fun a w => zO 25 a [(0, .int .u64 s.1), (2, .i s.2)] /\ St w0 (As) w) (fun hk => ?_) ?_
 ·replace hm := es; clear es;refine Runs.cond j rfl (fun c => ?_) (fun c => ?_)
  ·replace hm := ye c hm;refine Runs.sr ?_;refine WR.e j [] [(0, .int .u64 (Int.fdiv x (2 ^ (min (Int.toNat 32) 64))))] (obs := [.p (0 <= (32 : Int))]) ⟨(by show _ <= _; decide), trivial⟩ fun a j => ?_
   refine Runs.region ?_;refine WR.e0 j [(2, .i 32)] fun a j => ?_
   cases hm;exact hk _ _ ⟨j.sel [0, 2] (by kernel_rfl), H⟩
  ·replace hm := yd c hm;refine Runs.skip ?_;cases hm;exact hk _ _ ⟨j.sel [0, 2] (by kernel_rfl), H⟩
 rintro a w ⟨j, H⟩;refine Runs.seq ?_;refine Runs.sr ?_;refine WR.seg j 2 [] [0, 2, 8] (Lo := [(0, .int .u64 s.1), (2, .i s.2), (8, .bool (decide (s.1 >= 65536)))]) (obs := []) rfl (by kernel_rfl) trivial fun a j => ?_
 refine WR.done rfl ?_;obtain ⟨s1, l, hm⟩ := bind_some hm;refine Runs.join (fun a w => zO 25 a [(0, .int .u64 s1.1), (2, .i s1.2)] /\ St w0 (As) w) (fun hk => ?_) ?_
 ·replace hm := l; clear l;refine Runs.cond j rfl (fun c => ?_) (fun c => ?_)
  ·replace hm := ye c hm;refine Runs.sr ?_;refine WR.e j [] [(0, .int .u64 (Int.fdiv s.1 (2 ^ (min (Int.toNat 16) 64))))] (obs := [.p (0 <= (16 : Int))]) ⟨(by show _ <= _; decide), trivial⟩ fun a j => ?_
   refine Runs.region ?_;refine WR.e0 j [(2, .i (w64 (s.2 + 16)))] fun a j => ?_
   cases hm;exact hk _ _ ⟨j.sel [0, 2] (by kernel_rfl), H⟩
  ·replace hm := yd c hm;refine Runs.skip ?_;cases hm;exact hk _ _ ⟨j.sel [0, 2] (by kernel_rfl), H⟩
 rintro a w ⟨j, H⟩;refine Runs.seq ?_;refine Runs.sr ?_;refine WR.seg j 2 [] [0, 2, 14] (Lo := [(0, .int .u64 s1.1), (2, .i s1.2), (14, .bool (decide (s1.1 >= 256)))]) (obs := []) rfl (by kernel_rfl) trivial fun a j => ?_
 refine WR.done rfl ?_;obtain ⟨s2, y, hm⟩ := bind_some hm;refine Runs.join (fun a w => zO 25 a [(0, .int .u64 s2.1), (2, .i s2.2)] /\ St w0 (As) w) (fun hk => ?_) ?_
 ·replace hm := y; clear y;refine Runs.cond j rfl (fun c => ?_) (fun c => ?_)
  ·replace hm := ye c hm;refine Runs.sr ?_;refine WR.e j [] [(0, .int .u64 (Int.fdiv s1.1 (2 ^ (min (Int.toNat 8) 64))))] (obs := [.p (0 <= (8 : Int))]) ⟨(by show _ <= _; decide), trivial⟩ fun a j => ?_
   refine Runs.region ?_;refine WR.e0 j [(2, .i (w64 (s1.2 + 8)))] fun a j => ?_
   cases hm;exact hk _ _ ⟨j.sel [0, 2] (by kernel_rfl), H⟩
  ·replace hm := yd c hm;refine Runs.skip ?_;cases hm;exact hk _ _ ⟨j.sel [0, 2] (by kernel_rfl), H⟩
 rintro a w ⟨j, H⟩;refine Runs.sr ?_;obtain ⟨c_, z, hm⟩ := bind_some hm;refine WR.seg j 7 [.int .u8 c_] [2] (Lo := [(2, .i (w64 (s2.2 + (w64 (c_)))))]) (obs := [.p (0 <= (IntKind.wrap .u8 (s2.1)) /\ ∃ u, (ByteArray.mk #[0, 1, 2, 2, 3, 3, 3, 3, 4, 4, 4, 4, 4, 4, 4, 4, 5, 5, 5, 5, 5, 5, 5, 5, 5, 5, 5, 5, 5, 5, 5, 5, 6, 6, 6, 6, 6, 6, 6, 6, 6, 6, 6, 6, 6, 6, 6, 6, 6, 6, 6, 6, 6, 6, 6, 6, 6, 6, 6, 6, 6, 6, 6, 6, 7, 7, 7, 7, 7, 7, 7, 7, 7, 7, 7, 7, 7, 7, 7, 7, 7, 7, 7, 7, 7, 7, 7, 7, 7, 7, 7, 7, 7, 7, 7, 7, 7, 7, 7, 7, 7, 7, 7, 7, 7, 7, 7, 7, 7, 7, 7, 7, 7, 7, 7, 7, 7, 7, 7, 7, 7, 7, 7, 7, 7, 7, 7, 7, 8, 8, 8, 8, 8, 8, 8, 8, 8, 8, 8, 8, 8, 8, 8, 8, 8, 8, 8, 8, 8, 8, 8, 8, 8, 8, 8, 8, 8, 8, 8, 8, 8, 8, 8, 8, 8, 8, 8, 8, 8, 8, 8, 8, 8, 8, 8, 8, 8, 8, 8, 8, 8, 8, 8, 8, 8, 8, 8, 8, 8, 8, 8, 8, 8, 8, 8, 8, 8, 8, 8, 8, 8, 8, 8, 8, 8, 8, 8, 8, 8, 8, 8, 8, 8, 8, 8, 8, 8, 8, 8, 8, 8, 8, 8, 8, 8, 8, 8, 8, 8, 8, 8, 8, 8, 8, 8, 8, 8, 8, 8, 8, 8, 8, 8, 8, 8, 8, 8, 8, 8, 8, 8, 8, 8, 8, 8, 8])[Int.toNat (IntKind.wrap .u8 (s2.1))]? = some u /\ c_ = (u.toNat : Int))]) rfl (by kernel_rfl) ⟨dP z, trivial⟩ fun a j => ?_
 refine WR.done rfl ?_;refine Runs.ret j Tryz.func183 rfl rfl ?_;cases hm;exact ⟨rfl, H⟩
abbrev Aq : List (PK El) := [pI .u64]
def C183 : Con El := zL 183 Aq (fun e => bits_Len64 e.1) 0 0 (fun e t j l => .i t) (fun e t j l => [])
theorem S183 : (C183).Sound pG := fun e t hm w0 w F hr H => by
  obtain ⟨x0, _⟩ := e;have i : St w0 (F) w := by
    exact H
  refine (kL (show bits_Len64 x0 = some t from hm) i).mono ?_;rintro v w' ⟨hv, H⟩;refine ⟨[], [], rfl, rfl, hv, ?_, fun _ h => by cases h⟩;exact H
def K183 : SCon El pG := ⟨C183, S183, Tryz.call183⟩
def C126 : Con El := zL 126 Aq (fun e => bits_Len e.1) 0 0 (fun e t j l => .i t) (fun e t j l => [])
theorem S126 : (C126).Sound pG :=
  fsn mixed (C126) (n := 8) (rs := rsOf pG 126) [] [] (gj (gI 2) []) (fun i => (.g 1 (.uA (.g 1 (.s (.call K183 [] []) (.g 1 .ret)))))) Tryz.func126
def K126 : SCon El pG := ⟨C126, S126, Tryz.call126⟩
def C91 : Con El := zL 91 C49p (fun e => qz e.1) 0 0 (fun e t j l => .i t) (fun e t j l => [])
theorem S91 : (C91).Sound pG :=
  fsn mixed (C91) (n := 7) (rs := rsOf pG 91) [] [] (gj (gI 2) []) (fun i => (.g 1 (.g 3 (.s (.call K126 [] []) (.g 1 .ret))))) Tryz.func91
def K91 : SCon El pG := ⟨C91, S91, Tryz.call91⟩
abbrev C92p : List (PK El) := [pI .i64, pI .i64]
def C92 : Con El := zL 92 C92p (fun e => vM e.1 e.2.1) 0 0 (fun e t j l => .i t) (fun e t j l => [])
theorem S92 : (C92).Sound pG :=
  fsn mixed (C92) (n := 26) (rs := rsOf pG 92) [] [] (gj (gI 4) []) (fun i => (.g 1 (.blk (.g 3 (.pj 8 (Bool) mB (gB 5) (fun st e => ([(5, .bool e)] ++ kp [0, 1] st, ka [] st)) (.g 6 .leaf) (.g 6 .leaf) (.cond (.g 1 .ret) (.g 3 (.pj 17 (Bool) mB (gB 14) (fun st e => ([(14, .bool e)] ++ kp [0, 1] st, ka [] st)) (.g 6 .leaf) (.g 6 .leaf) (.cond (.g 1 .ret) (.g 4 .ret)))))))))) Tryz.func92
def K92 : SCon El pG := ⟨C92, S92, Tryz.call92⟩
def C67 (k : Nat) : Con El := zL 67 C6p (fun e => px k e.1 e.2.1 e.2.2.1) 0 0 (fun e t j l => .i t) (fun e t j l => [])
abbrev C67r (k : Nat) (i : Ins C6p) : Kn El -> VC (C67 k).T := retC pG (C67 k) (rsOf pG 67) [] [] (gj (gI 6) []) i
def fm (x : Ins C6p) : BCon El (Int) := ⟨nav [1, 0, 1] (yD pG 67), Int, Int × Int, Int, Int, fun u => .inr u, fun _ _ => none, fun l => [], fun l v_ e j => [(0, .i v_.1), (1, .i x.2.1), (8, .i (l)), (9, .i v_.2)], fun l v_ e j => [], 0, 0, fun l t e j => [(0, .i t)], fun l t e j => []⟩
def dG (k : Nat) (e : Ins C6p) : Nat -> (fm e).X -> (fm e).V -> Option (fm e).W := fun m_ (i : Int) (v_ : Int × Int) => vu e.2.1 (i) m_ v_.1 v_.2
theorem AY (k : Nat) (i : Ins C6p) (m : Nat) : ((fm i).at (dG k i) m).Sound pG 67 16 (C67r k i) :=
  lsn mixed (fm i) (id := 0) (body := nav [1, 0, 1, 0, 0] (yD pG 67)) (dG k i) (fun _ => none) (fun u => u) (gj (g2 (gI 0) (gI 9)) []) (gj (gI 0) []) (fun m => (.g 1 (.cond (.blk (.g 2 (.s (.call K92 [] []) (.g 1 (.g 2 .back))))) .leaf))) m
theorem S67 (k : Nat) : (C67 k).Sound pG :=
  fsn mixed (C67 k) (n := 16) (rs := rsOf pG 67) [] [] (gj (gI 6) []) (fun i => (.g 1 (.g 1 (.s (.call K91 [] []) (.g 1 (.loop ⟨(fm i).at (dG k i) k, AY k i k⟩ (gl (gI 8) (g2 (gI 0) (gI 9)) []) (.g 2 .ret))))))) Tryz.func67
def K67 (k : Nat) : SCon El pG := ⟨C67 k, S67 k, Tryz.call67⟩
def C50 (k : Nat) : Con El := zL 50 C92p (fun e => sE k e.1 e.2.1) 0 0 (fun e t j l => .tuple #[.i t.1, .bool t.2]) (fun e t j l => [])
theorem S50 (k : Nat) : (C50 k).Sound pG :=
  fsn mixed (C50 k) (n := 20) (rs := rsOf pG 50) [] [] (gj (g2 (gI 4) (gB 5)) []) (fun i => (.g 2 (.join (Bool) 0 0 (gj (gB 16) []) (fun e j l t => ([(16, .bool j)] ++ kp [1] e, ka [] e)) (.g 1 (.s (.call K49 [] []) (.g 2 (.split 9 (.g 7 .leaf) (.g 4 (.split 13 (.g 3 .leaf) (.g 3 .leaf))))))) (.cond (.g 2 .ret) (.g 2 (.s (.call (K67 k) [] []) (.g 2 .ret))))))) Tryz.func50
def K50 (k : Nat) : SCon El pG := ⟨C50 k, S50 k, Tryz.call50⟩
abbrev C93p : List (PK El) := []
def C93 : Con El := zL 93 C93p (fun j => mw) 1 0 (fun j t e i => .pointer (some ⟨(nn e 0), 0, none⟩)) (fun j t e i => zG.D.flat (nn e 0) () t)
theorem S93 : (C93).Sound pG :=
  fsn mixed (C93) (n := 3) (rs := rsOf pG 93) [] [1000] (gj (gO zG.D [1000]) [nPk 1000]) (fun i => (.g 1 (.g 1 (.s (.new 0 []) (.g 1 (.rk (rb 1000 [0]) .ret)))))) Tryz.func93
def K93 : SCon El pG := ⟨C93, S93, Tryz.call93⟩
def C68 : Con El := zL 68 C49p (fun j => pS j.1) 4 2 (fun j t e i => .pointer (some ⟨(nn e 0), 0, none⟩)) (fun j t e i => za.D.flat (nn e 0) (za.A.mk (na i 0) (nn e 1) (na i 1) (nn e 2) (nn e 3)) t)
theorem S68 : (C68).Sound pG :=
  fsn mixed (C68) (n := 10) (rs := rsOf pG 68) [] [1000, 1001, 1002, 1003] (gj (gO za.D [1000, 1001, 1002, 1003]) [nPk 1000, nA za.D [1000, 1001, 1002, 1003] (fun e => ([e.l_c, e.free_c, e.m__p], [e.l_b, e.free_b]))]) (fun i => (.g 1 (.jg (za) 4 2 (gj (gO za.D [8, 9, 10, 11]) [nPk 8, nA za.D [8, 9, 10, 11] (fun e => ([e.l_c, e.free_c, e.m__p], [e.l_b, e.free_b]))]) (fun l u j t => ([(2, .pointer (some ⟨(nn j 0), 0, none⟩))] ++ kp [] l, ka [] l ++ zipL [8, 9, 10, 11] (za.D.flat (nn j 0) (za.A.mk (na t 0) (nn j 1) (na t 1) (nn j 2) (nn j 3)) u))) (.drw (.q [0, 1, 2] [] (.alt2 3 (.mk 12 0 257) [] (.a 4 (.call K93 [] [13]) [] (.q [5] [] (.a 6 (.new 14 []) [] (.q [7] [] (.s (.nil 15 1 3) (.rk (rb 8 [14, 12, 15, 13]) .leaf)))))) 4 (.call K93 [] [16]) [] (.a 3 (.mk 17 0 257) [] (.q [5] [] (.a 6 (.new 18 []) [] (.q [7] [] (.s (.nil 19 1 3) (.rk (rb 8 [18, 17, 19, 16]) .leaf))))))))) (.rk (rb 1000 [8, 9, 10, 11]) .ret)))) Tryz.func68
def K68 : SCon El pG := ⟨C68, S68, Tryz.call68⟩
def C94 : Con El := zL 94 C49p (fun j => uq j.1) 3 2 (fun j t e i => .pointer (some ⟨(nn e 0), 0, none⟩)) (fun j t e i => zh.D.flat (nn e 0) (zh.A.mk (na i 0) (nn e 1) (na i 1) (nn e 2)) t)
theorem S94 : (C94).Sound pG :=
  fsn mixed (C94) (n := 8) (rs := rsOf pG 94) [] [1000, 1001, 1002] (gj (gO zh.D [1000, 1001, 1002]) [nPk 1000, nA zh.D [1000, 1001, 1002] (fun e => ([e.l_c, e.free_c], [e.l_b, e.free_b]))]) (fun i => (.g 1 (.g 4 (.s (.new 0 []) (.g 1 (.s (.nil 1 2 232) (.s (.nil 2 1 3) (.rk (rb 1000 [0, 1, 2]) .ret)))))))) Tryz.func94
def K94 : SCon El pG := ⟨C94, S94, Tryz.call94⟩
def C95 : Con El := zL 95 C49p (fun j => vX j.1) 3 2 (fun j t e i => .pointer (some ⟨(nn e 0), 0, none⟩)) (fun j t e i => ze.D.flat (nn e 0) (ze.A.mk (na i 0) (nn e 1) (na i 1) (nn e 2)) t)
theorem S95 : (C95).Sound pG :=
  fsn mixed (C95) (n := 8) (rs := rsOf pG 95) [] [1000, 1001, 1002] (gj (gO ze.D [1000, 1001, 1002]) [nPk 1000, nA ze.D [1000, 1001, 1002] (fun e => ([e.l_c, e.free_c], [e.l_b, e.free_b]))]) (fun i => (.g 1 (.g 4 (.s (.new 0 []) (.g 1 (.s (.nil 1 3 265) (.s (.nil 2 1 3) (.rk (rb 1000 [0, 1, 2]) .ret)))))))) Tryz.func95
def K95 : SCon El pG := ⟨C95, S95, Tryz.call95⟩
def C69 : Con El := zL 69 C49p (fun j => ma j.1) 8 4 (fun j t e i => .pointer (some ⟨(nn e 0), 0, none⟩)) (fun j t e i => zj.D.flat (nn e 0) (zj.A.mk (nn e 1) (zh.A.mk (na i 0) (nn e 2) (na i 1) (nn e 3)) (nn e 4) (ze.A.mk (na i 2) (nn e 5) (na i 3) (nn e 6)) (nn e 7)) t)
theorem S69 : (C69).Sound pG :=
  fsn mixed (C69) (n := 11) (rs := rsOf pG 69) [] [1000, 1001, 1002, 1003, 1004, 1005, 1006, 1007] (gj (gO zj.D [1000, 1001, 1002, 1003, 1004, 1005, 1006, 1007]) [nPk 1000, nA zj.D [1000, 1001, 1002, 1003, 1004, 1005, 1006, 1007] (fun e => ([e.heaps_p, e.heaps_a.l_c, e.heaps_a.free_c, e.items_p, e.items_a.l_c, e.items_a.free_c, e.at__p], [e.heaps_a.l_b, e.heaps_a.free_b, e.items_a.l_b, e.items_a.free_b]))]) (fun i => (.g 1 (.s (.call K94 [] [0, 1, 2]) (.g 3 (.s (.call K95 [] [3, 4, 5]) (.s (.mnew 6 0) (.g 1 (.s (.new 7 []) (.g 1 (.rk (rb 1000 [7, 0, 1, 2, 3, 4, 5, 6]) .ret)))))))))) Tryz.func69
def K69 : SCon El pG := ⟨C69, S69, Tryz.call69⟩
def C51 : Con El := bP 51 C49p (fun l => gv l.1) 14 6 (fun l t e j => .tuple #[.pointer none, .i t.2]) (fun l t e j => []) (fun l t => t.1) 14 (fun l t m_ e j => .tuple #[.pointer (some ⟨(nn e 0), 0, none⟩), .i t.2]) (fun l t m_ e j => zs.D.flat (nn e 0) (zs.A.mk (nn e 1) (za.A.mk (na j 0) (nn e 2) (na j 1) (nn e 3) (nn e 4)) (nn e 5) (zj.A.mk (nn e 6) (zh.A.mk (na j 2) (nn e 7) (na j 3) (nn e 8)) (nn e 9) (ze.A.mk (na j 4) (nn e 10) (na j 5) (nn e 11)) (nn e 12)) (nn e 13)) m_)
theorem S51 : (C51).Sound pG :=
  fsn mixed (C51) (n := 19) (rs := rsOf pG 51) [] [1000, 1001, 1002, 1003, 1004, 1005, 1006, 1007, 1008, 1009, 1010, 1011, 1012, 1013] (gj (g2 (gOo zs.D [1000, 1001, 1002, 1003, 1004, 1005, 1006, 1007, 1008, 1009, 1010, 1011, 1012, 1013] 2) (gI 3)) [nPo 1000, nAo zs.D [1000, 1001, 1002, 1003, 1004, 1005, 1006, 1007, 1008, 1009, 1010, 1011, 1012, 1013] (fun e => ([e.a__p, e.a__a.l_c, e.a__a.free_c, e.a__a.m__p, e.t__p, e.t__a.heaps_p, e.t__a.heaps_a.l_c, e.t__a.heaps_a.free_c, e.t__a.items_p, e.t__a.items_a.l_c, e.t__a.items_a.free_c, e.t__a.at__p, e.entries_p], [e.a__a.l_b, e.a__a.free_b, e.t__a.heaps_a.l_b, e.t__a.heaps_a.free_b, e.t__a.items_a.l_b, e.t__a.items_a.free_b])) 13 6]) (fun i => (.g 2 (.g 3 (.pj 6 (Bool) mB (gB 9) (fun st j => ([(9, .bool j)] ++ kp [0] st, ka [] st)) (.g 3 .leaf) (.g 3 .leaf) (.cond (.g 2 .ret) (.g 3 (.s (.call K68 [] [0, 1, 2, 3]) (.g 1 (.s (.call K69 [] [4, 5, 6, 7, 8, 9, 10, 11]) (.s (.mnew 12 1) (.g 1 (.s (.new 13 []) (.g 2 (.rk (rb 1000 [13, 0, 1, 2, 3, 4, 5, 6, 7, 8, 9, 10, 11, 12]) .ret)))))))))))))) Tryz.func51
def K51 : SCon El pG := ⟨C51, S51, Tryz.call51⟩
def C70 : Con El := zL 70 C49p (fun j => u3 j.1) 3 2 (fun j t e i => .pointer (some ⟨(nn e 0), 0, none⟩)) (fun j t e i => zg.D.flat (nn e 0) (zg.A.mk (na i 0) (nn e 1) (na i 1) (nn e 2)) t)
theorem S70 : (C70).Sound pG :=
  fsn mixed (C70) (n := 8) (rs := rsOf pG 70) [] [1000, 1001, 1002] (gj (gO zg.D [1000, 1001, 1002]) [nPk 1000, nA zg.D [1000, 1001, 1002] (fun e => ([e.l_c, e.free_c], [e.l_b, e.free_b]))]) (fun i => (.g 1 (.g 4 (.s (.new 0 []) (.g 1 (.s (.nil 1 4 145) (.s (.nil 2 1 3) (.rk (rb 1000 [0, 1, 2]) .ret)))))))) Tryz.func70
def K70 : SCon El pG := ⟨C70, S70, Tryz.call70⟩
def C52 : Con El := zL 52 C49p (fun j => ox j.1) 5 2 (fun j t e i => .pointer (some ⟨(nn e 0), 0, none⟩)) (fun j t e i => zr.D.flat (nn e 0) (zr.A.mk (nn e 1) (zg.A.mk (na i 0) (nn e 2) (na i 1) (nn e 3)) (nn e 4)) t)
theorem S52 : (C52).Sound pG :=
  fsn mixed (C52) (n := 10) (rs := rsOf pG 52) [] [1000, 1001, 1002, 1003, 1004] (gj (gO zr.D [1000, 1001, 1002, 1003, 1004]) [nPk 1000, nA zr.D [1000, 1001, 1002, 1003, 1004] (fun e => ([e.p_p, e.p_a.l_c, e.p_a.free_c, e.by__p], [e.p_a.l_b, e.p_a.free_b]))]) (fun i => (.g 1 (.g 3 (.s (.call K70 [] [0, 1, 2]) (.s (.mnew 3 2) (.g 1 (.s (.new 4 []) (.g 1 (.rk (rb 1000 [4, 0, 1, 2, 3]) .ret))))))))) Tryz.func52
def K52 : SCon El pG := ⟨C52, S52, Tryz.call52⟩
def C53 : Con El := zL 53 C93p (fun j => pM) 1 0 (fun j t e i => .pointer (some ⟨(nn e 0), 0, none⟩)) (fun j t e i => zP.D.flat (nn e 0) () t)
theorem S53 : (C53).Sound pG :=
  fsn mixed (C53) (n := 3) (rs := rsOf pG 53) [] [1000] (gj (gO zP.D [1000]) [nPk 1000]) (fun i => (.g 1 (.g 1 (.s (.new 0 []) (.g 1 (.rk (rb 1000 [0]) .ret)))))) Tryz.func53
def K53 : SCon El pG := ⟨C53, S53, Tryz.call53⟩
theorem qO {w0 w : World} {As : List HP} {c_ : yc} {t : zM}  (hm : wC c_ = some t) (H : St w0 (As) w) :
    yz pG 54 #[.pointer none, .agg #[.i c_.Op, .i c_.Kind, .i c_.Heap.At, .i c_.Heap.Gen, .i c_.Other.At, .i c_.Other.Gen, .i c_.Item.At, .i c_.Item.Gen, .i c_.Key]] w fun v w' => v = .agg #[.i t.Why, .i t.Heap.At, .i t.Heap.Gen, .i t.Item.At, .i t.Item.Gen, .i t.Entry.Key, .i t.Entry.Serial, .i t.N] /\ St w0 (As) w' := by
 rw [wC] at hm;refine enter (args := [.pointer none, .agg #[.i c_.Op, .i c_.Kind, .i c_.Heap.At, .i c_.Heap.Gen, .i c_.Other.At, .i c_.Other.Gen, .i c_.Item.At, .i c_.Item.Gen, .i c_.Key]]) Tryz.func54 rfl rfl rfl fun a e => ?_
 refine Runs.sr ?_;refine WR.eff e rfl rfl rfl rfl (OpTo.new e H [] (.cells #[.i c_.Op, .i c_.Kind, .i c_.Heap.At, .i c_.Heap.Gen, .i c_.Other.At, .i c_.Other.Gen, .i c_.Item.At, .i c_.Item.Gen, .i c_.Key] 132 (0, 0)) (fun r => .pointer (some ⟨r, 0, none⟩)) (obs := []) rfl (fun _ => by kernel_rfl) trivial) ?_;rintro _ w ⟨r, rfl, H⟩ a e;refine WR.eff e rfl rfl rfl rfl (OpTo.new e H [] (.cells #[.i 0, .i 0, .i 0, .i 0, .i 0, .i 0, .i 0, .i 0] 129 (0, 0)) (fun r => .pointer (some ⟨r, 0, none⟩)) (obs := []) rfl (fun _ => by kernel_rfl) trivial) ?_;rintro _ w ⟨r1, rfl, H⟩ a e;refine WR.done rfl ?_;refine Runs.sr ?_;cases hm
abbrev C54p : List (PK El) := [pK (.pointer none), pV yc.dv yc.val]
def C54 : Con El := zL 54 C54p (fun e => wC e.2.1) 0 0 (fun e t j l => .agg #[.i t.Why, .i t.Heap.At, .i t.Heap.Gen, .i t.Item.At, .i t.Item.Gen, .i t.Entry.Key, .i t.Entry.Serial, .i t.N]) (fun e t j l => [])
theorem S54 : (C54).Sound pG := fun e t hm w0 w F hr H => by
  obtain ⟨_, x1, _⟩ := e;have i : St w0 (F) w := by
    exact H
  refine (qO (show wC x1 = some t from hm) i).mono ?_;rintro v w' ⟨hv, H⟩;refine ⟨[], [], rfl, rfl, hv, ?_, fun _ h => by cases h⟩;exact H
def K54 : SCon El pG := ⟨C54, S54, Tryz.call54⟩
abbrev C71p : List (PK El) := [pO za.D]
def C71 : Con El := zL 71 C71p (fun e => uY e.1.2.2) 0 0 (fun e t i j => .pointer (some ⟨e.1.2.1.m__p, 0, none⟩)) (fun e t i j => za.D.flat e.1.1 e.1.2.1 e.1.2.2)
theorem S71 : (C71).Sound pG :=
  fsn mixed (C71) (n := 7) (rs := rsOf pG 71) [] [0, 1, 2, 3] (gj gU []) (fun i => (.g 1 (.s (.seg 5 [.C 0 3]) .ret))) Tryz.func71
def K71 : SCon El pG := ⟨C71, S71, Tryz.call71⟩
abbrev bw : List (PK El) := [pO zG.D]
def C127 : Con El := zL 127 bw (fun e => rp e.1.2.2) 0 0 (fun e t j l => .i t) (fun e t j l => zG.D.flat e.1.1 e.1.2.1 e.1.2.2)
theorem S127 : (C127).Sound pG :=
  fsn mixed (C127) (n := 12) (rs := rsOf pG 127) [] [0] (gj (gI 2) []) (fun i => (.g 1 (.drw (.q [0, 1, 2, 3, 4, 5, 6, 7, 8, 9] [.C 0 0, .C 0 1] .ret)))) Tryz.func127
def K127 : SCon El pG := ⟨C127, S127, Tryz.call127⟩
def C96 : Con El := zL 96 bw (fun e => rX e.1.2.2) 0 0 (fun e t j l => .i t) (fun e t j l => zG.D.flat e.1.1 e.1.2.1 e.1.2.2)
theorem S96 : (C96).Sound pG :=
  fsn mixed (C96) (n := 10) (rs := rsOf pG 96) [] [0] (gj (gI 2) []) (fun i => (.g 1 (.drw (.q [0, 1, 2, 3, 4] [.C 0 2] (.a 5 (.call K127 [.K 0] [0]) [.C 0 2] (.q [6, 7] [] .ret)))))) Tryz.func96
def K96 : SCon El pG := ⟨C96, S96, Tryz.call96⟩
def C72 : Con El := zL 72 bw (fun e => uV e.1.2.2) 0 0 (fun e t i j => .tuple #[]) (fun e t i j => zG.D.flat e.1.1 e.1.2.1 t)
theorem S72 : (C72).Sound pG :=
  fsn mixed (C72) (n := 14) (rs := rsOf pG 72) [] [0] (gj (gO zG.D [0]) []) (fun i => (.drw (.q [0, 1, 2, 4, 5, 6, 7] [.C 0 0] (.a 3 (.call K96 [.K 0] [0]) [.C 0 0] (.q [8, 9] [] (.a 10 (.sto 0) [] (.q [11, 12] [] (.a 13 (.sto 0) [] .leaf)))))))) Tryz.func72
def K72 : SCon El pG := ⟨C72, S72, Tryz.call72⟩
def C97 : Con El := zL 97 C49p (fun e => qJ e.1) 0 0 (fun e t i j => .bool t) (fun e t i j => [])
theorem S97 : (C97).Sound pG :=
  fsn mixed (C97) (n := 9) (rs := rsOf pG 97) [] [] (gj (gB 2) []) (fun i => (.g 1 (.g 3 (.pj 5 (Bool) mB (gB 2) (fun st e => ([(2, .bool e)] ++ kp [] st, ka [] st)) (.g 4 .leaf) (.g 4 .leaf) .ret)))) Tryz.func97
def K97 : SCon El pG := ⟨C97, S97, Tryz.call97⟩
abbrev C98p : List (PK El) := [pO zh.D, pV zE.dv zE.val]
def C98 : Con El := zL 98 C98p (fun l => yH l.1.2.2 l.2.1) 2 2 (fun l t e j => .tuple #[.agg #[.i t.1.At, .i t.1.Gen], .bool t.2.1]) (fun l t e j => zh.D.flat l.1.1 (zh.A.mk (na j 0) (nn e 0) (na j 1) (nn e 1)) t.2.2)
abbrev nq_0 : Nx El := nA zh.D [0, 1, 2] (fun e => ([e.l_c, e.free_c], [e.l_b, e.free_b]))
theorem S98 : (C98).Sound pG :=
  fsn mixed (C98) (n := 81) (rs := rsOf pG 98) [.C 2000 0, .C 2000 1] [0, 1, 2] (gj (g2 (gC 2000 0 2 zd.dec) (g2 (gB 5) (gO zh.D [0, 1, 2]))) [nq_0]) (fun i => (.s (.new 3 []) (.s (.new 4 []) (.g 1 (.s (.seg 6 [.C 0 1]) (.s (.seg 7 [.C 0 2]) (.g 2 (.joinR (Int × zh) 2 2 (gj (g2 (gI 6) (gO zh.D [0, 1, 2])) [nq_0]) (fun e t j l => match (gP 0) e with | some u => ([(6, .i t.1)] ++ kp [0, 3, 4] e, ka [4, 3] e ++ zipL [0, 1, 2] (zh.D.flat (u) (zh.A.mk (na l 0) (nn j 0) (na l 1) (nn j 1)) t.2)) | none => ([], [])) (.cond (.s (.seg 5 [.C 0 2]) (.s (.idx false 2 (.tmp 26) 2) (.s (.seg 3 [.A 2, .X 2 2 0]) (.s (.seg 6 [.C 0 2]) (.s (.cut false 2 none (some (.tmp 34)) 1003) (.s (.seg 3 [.W 1003]) (.s (.sto 0) (.s (.own 1003 2) .leaf)))))))) (.s (.seg 6 [.C 0 0]) (.cond (.g 1 (.s (.sto 4) (.g 1 (.rk (rb 2000 [4]) .ret)))) (.s (.seg 6 [.C 0 1]) (.s (.bld 6 2 232) (.s (.app 1 (.O 6)) (.g 2 (.s (.sto 0) .leaf)))))))) (.s (.seg 5 [.C 0 1]) (.s (.idx false 1 (.tmp 59) 4) (.s (.seg 2 [.A 4]) (.s (.seg 7 [.X 4 1 0]) (.s (.sset 1 4 0) (.s (.rlc 4 0 1) (.drw (.q [0, 1, 2, 3, 4] [.C 3 0, .C 3 1, .C 3 2] (.a 5 (.sset 1 4 1) [.C 3 0, .C 3 1, .C 3 2] (.s (.rlc 4 0 1) (.q [6, 7] [] (.a 8 (.sset 1 4 2) [] (.s (.rlc 4 0 1) (.s (.seg 6 [.X 4 1 0]) (.s (.sto 4) (.g 1 (.rk (rb 2000 [4]) .ret))))))))))))))))))))))))) Tryz.func98
def K98 : SCon El pG := ⟨C98, S98, Tryz.call98⟩
abbrev C73p : List (PK El) := [pO zj.D, pI .i64]
def C73 : Con El := zL 73 C73p (fun e => ue e.1.2.2 e.2.1) 2 2 (fun e t j l => .tuple #[.agg #[.i t.1.At, .i t.1.Gen], .i t.2.1]) (fun e t j l => zj.D.flat e.1.1 (zj.A.mk e.1.2.1.heaps_p (zh.A.mk (na l 0) (nn j 0) (na l 1) (nn j 1)) e.1.2.1.items_p e.1.2.1.items_a e.1.2.1.at__p) t.2.2)
abbrev nq_1 : Nx El := nA zj.D rg_7 (fun e => ([e.heaps_a.l_c, e.heaps_a.free_c], [e.heaps_a.l_b, e.heaps_a.free_b]))
theorem S73 : (C73).Sound pG :=
  fsn mixed (C73) (n := 26) (rs := rsOf pG 73) [.C 2000 0, .C 2000 1] rg_7 (gj (g2 (gC 2000 0 2 zd.dec) (g2 (gI 5) (gO zj.D rg_7))) [nq_1]) (fun i => (.s (.new 8 []) (.g 1 (.g 1 (.s (.call K97 [] []) (.g 1 (.cond (.g 1 (.s (.sto 8) (.g 1 (.rk (rb 2000 [8]) .ret)))) (.s (.seg 6 [.C 0 0]) (.s (.call K98 [.K 1, .K 2, .K 3] [1, 2, 3]) (.g 3 (.s (.new 9 []) (.s (.sto 9) (.g 1 (.g 2 (.cond (.g 1 (.s (.sto 8) (.g 1 (.rk (rb 2000 [8]) .ret)))) (.s (.seg 1 [.C 9 0, .C 9 1]) (.s (.sto 8) (.g 1 (.rk (rb 2000 [8]) .ret))))))))))))))))))) Tryz.func73
def K73 : SCon El pG := ⟨C73, S73, Tryz.call73⟩
abbrev az : List (PK El) := [pO zh.D, pV zd.dv zd.val]
def C170 : Con El := cj 170 az (fun e => yS e.1.2.2 e.2.1) 0 0 (fun e t j l => .tuple #[elemV e.1.2.1.l_b 5 t.1, .i t.2]) (fun e t j l => zh.D.flat e.1.1 e.1.2.1 e.1.2.2) (fun e t => t.1)
theorem S170 : (C170).Sound pG :=
  fsn mixed (C170) (n := 61) (rs := rsOf pG 170) [] [0, 1, 2] (gj (g2 gE (gI 5)) []) (fun i => (.s (.new 3 []) (.g 2 (.join (Bool) 0 0 (gj (gB 38) []) (fun e j l t => ([(38, .bool j)] ++ kp [0, 3] e, ka [3, 0, 1, 2] e)) (.drw (.q [0, 1, 2, 3] [.C 3 0] (.split 10 (.q [4, 5, 6, 7, 8, 9, 10, 11, 12, 13, 14, 15, 16, 17, 18, 19, 20, 21, 22, 23, 24, 25, 26, 27, 28, 29, 30, 31] [] .leaf) (.q [4, 5, 6, 7, 8, 9, 10, 11, 12, 13] [.C 3 0, .C 0 1] (.split 20 (.q [14, 15, 16, 17, 18, 19, 20, 21, 22, 23, 24, 25, 26, 27, 28, 29, 30, 31] [] .leaf) (.q [14, 15, 16, 17, 18] [.C 3 1] (.split 25 (.q [19, 20, 21, 22, 23, 24, 25, 26, 27, 28, 29, 30, 31] [] .leaf) (.q [19, 20, 21, 22, 23, 24, 25, 26] [.C 3 1, .C 0 1, .C 3 0] (.s (.idx false 1 (.tmp 33) 2) (.q [27, 28, 29, 30, 31] [.A 2, .X 2 1 0] .leaf)))))))))) (.cond (.g 2 .ret) (.drw (.q [0, 1, 2, 3, 4, 5] [.C 0 1, .C 3 0] (.s (.idx false 1 (.tmp 44) 4) (.q [6, 7] [.A 4] (.drw (.q rg_7 [.C 3 1, .X 4 1 0] (.pj 53 (Bool) mB (gB 59) (fun st j => ([(59, .bool j)] ++ kp [6] st, ka [0, 1, 2, 3] st)) (.q [8, 9, 10, 11, 12, 13] [] .leaf) (.q [8, 9, 10, 11, 12, 13] [.X 4 1 1] .leaf) (.cond (.g 2 .ret) (.g 3 (.s (.el 4 4) .ret))))))))))))))) Tryz.func170
def K170 : SCon El pG := ⟨C170, S170, Tryz.call170⟩
def C115 : Con El := zL 115 az (fun e => yA e.1.2.2 e.2.1) 0 0 (fun e t j l => .tuple #[.agg #[.i t.1.kind, .i t.1.root, .i t.1.n], .i t.2]) (fun e t j l => zh.D.flat e.1.1 e.1.2.1 e.1.2.2)
theorem S115 : (C115).Sound pG :=
  fsn mixed (C115) (n := 23) (rs := rsOf pG 115) [.C 2000 0, .C 2000 1, .C 2000 2] [0, 1, 2] (gj (g2 (gC 2000 0 3 zE.dec) (gI 5)) []) (fun i => (.s (.new 3 []) (.s (.new 4 []) (.g 1 (.s (.seg 2 [.C 3 0, .C 3 1]) (.s (.call K170 [.K 0, .K 1, .K 2] [0, 1, 2]) (.eo 12 0 1 0 (.g 5 (.g 2 (.cond (.s (.new 5 []) (.s (.seg 2 [.C 5 0, .C 5 1, .C 5 2]) (.s (.sto 4) (.g 1 (.rk (rb 2000 [4]) .ret))))) .dead))) (.g 5 (.g 2 (.cond (.s (.new 6 []) (.s (.seg 2 [.C 6 0, .C 6 1, .C 6 2]) (.s (.sto 4) (.g 1 (.rk (rb 2000 [4]) .ret))))) (.s (.seg 4 [.X 0 1 2, .X 0 1 3, .X 0 1 4]) (.s (.sto 4) (.g 1 (.rk (rb 2000 [4]) .ret)))))))))))))) Tryz.func115
def K115 : SCon El pG := ⟨C115, S115, Tryz.call115⟩
abbrev C79p : List (PK El) := [pO zj.D, pV zd.dv zd.val]
def C79 : Con El := zL 79 C79p (fun e => y7 e.1.2.2 e.2.1) 0 0 (fun e t j l => .tuple #[.i t.1, .i t.2.1, .i t.2.2.1, .i t.2.2.2]) (fun e t j l => zj.D.flat e.1.1 e.1.2.1 e.1.2.2)
theorem S79 : (C79).Sound pG :=
  fsn mixed (C79) (n := 26) (rs := rsOf pG 79) [] rg_7 (gj (g2 (gI 4) (g2 (gI 5) (g2 (gI 6) (gI 7)))) []) (fun i => (.s (.new 8 []) (.g 4 (.jg (zE × Int) 1 0 (gj (g2 (gC 11 0 3 zE.dec) (gI 9)) [nPk 11]) (fun e l j t => ([(8, .pointer (some ⟨(nn j 0), 0, none⟩)), (9, .i l.2)] ++ kp [] e, ka rg_7 e ++ zipL [11] [.blk (nn j 0) 187 [.i l.1.kind, .i l.1.root, .i l.1.n]])) (.drw (.q [0, 1, 2, 3, 4] [.C 0 0, .C 8 0, .C 8 1] (.alt2 5 (.call K115 [.K 1, .K 2, .K 3] [1, 2, 3]) [] (.q [6, 7, 8] [] (.a 9 (.new 12 []) [] (.a 10 (.sto 12) [] (.q [11] [] (.rk (rb 11 [12]) .leaf))))) 9 (.new 13 []) [.C 8 0, .C 8 1, .C 0 0] (.a 5 (.call K115 [.K 1, .K 2, .K 3] [1, 2, 3]) [] (.q [6, 7, 8] [] (.a 10 (.sto 13) [] (.q [11] [] (.rk (rb 11 [13]) .leaf)))))))) (.drw (.q [0, 1, 2, 3, 4, 5, 6, 7, 8, 9, 10] [.C 11 0, .C 11 1, .C 11 2] .ret)))))) Tryz.func79
def K79 : SCon El pG := ⟨C79, S79, Tryz.call79⟩
def C81 : Con El := zL 81 C49p (fun e => vq e.1) 0 0 (fun e t j l => .agg #[.i t.Why, .i t.Heap.At, .i t.Heap.Gen, .i t.Item.At, .i t.Item.Gen, .i t.Entry.Key, .i t.Entry.Serial, .i t.N]) (fun e t j l => [])
theorem S81 : (C81).Sound pG :=
  fsn mixed (C81) (n := 5) (rs := rsOf pG 81) [.C 2000 0, .C 2000 1, .C 2000 2, .C 2000 3, .C 2000 4, .C 2000 5, .C 2000 6, .C 2000 7] [] (gj (gC 2000 0 8 zM.dec) []) (fun i => (.s (.new 0 []) (.g 2 (.s (.sto 0) (.rk (rb 2000 [0]) .ret))))) Tryz.func81
def K81 : SCon El pG := ⟨C81, S81, Tryz.call81⟩
abbrev iV : List (PK El) := [pO ze.D]
def C128 : Con El := zL 128 iV (fun e => yW e.1.2.2) 0 0 (fun e t j l => .i t) (fun e t j l => ze.D.flat e.1.1 e.1.2.1 e.1.2.2)
theorem S128 : (C128).Sound pG :=
  fsn mixed (C128) (n := 14) (rs := rsOf pG 128) [] [0, 1, 2] (gj (gI 2) []) (fun i => (.g 1 (.drw (.q rg_11 [.C 0 1, .C 0 2] .ret)))) Tryz.func128
def K128 : SCon El pG := ⟨C128, S128, Tryz.call128⟩
abbrev C99p : List (PK El) := [pO zj.D]
def C99 : Con El := zL 99 C99p (fun e => vU e.1.2.2) 0 0 (fun e t j l => .i t) (fun e t j l => zj.D.flat e.1.1 e.1.2.1 e.1.2.2)
theorem S99 : (C99).Sound pG :=
  fsn mixed (C99) (n := 8) (rs := rsOf pG 99) [] rg_7 (gj (gI 2) []) (fun i => (.g 1 (.s (.seg 4 [.C 0 1]) (.s (.call K128 [.K 4, .K 5, .K 6] [4, 5, 6]) (.g 1 .ret))))) Tryz.func99
def K99 : SCon El pG := ⟨C99, S99, Tryz.call99⟩
abbrev BZ : List (PK El) := [pO zG.D, pI .i64]
def C184 : Con El := zL 184 BZ (fun e => xp e.1.2.2 e.2.1) 0 0 (fun e t i j => .tuple #[]) (fun e t i j => zG.D.flat e.1.1 e.1.2.1 t)
theorem S184 : (C184).Sound pG :=
  fsn mixed (C184) (n := 14) (rs := rsOf pG 184) [] [0] (gj (gO zG.D [0]) []) (fun i => (.s (.seg 7 [.C 0 0]) (.s (.call K92 [] []) (.g 2 (.s (.sto 0) .leaf))))) Tryz.func184
def K184 : SCon El pG := ⟨C184, S184, Tryz.call184⟩
theorem sd {w0 w : World} {As : List HP} {e : Nat} {m_ : zG} {n : Int} {t : zG}  (hm : xp m_ n = some t) (H : St w0 (zG.R e m_ :: As) w) :
    yz pG 184 #[.pointer (some ⟨e, 0, none⟩), .i n] w fun v w' => v = .tuple #[] /\ St w0 (zG.R e t :: As) w' := by
  replace H := (fs0 fun As => zG.D_st).1 H;refine (S184 ((e, (), m_), n, ()) t hm w0 w (As) rd0 H).mono ?_;rintro v w' ⟨u, j, hn, ha, hv, H, l⟩;obtain rfl := ls0 hn;obtain rfl := ls0 ha;refine ⟨hv, ?_⟩;refine (fs0 fun As => zG.D_st).2 ?_;exact H
def C185 : Con El := zL 185 C93p (fun l => rB) 0 0 (fun l t e j => .agg #[.i t.f0, .i t.f1, .i t.f2, .i t.f3, .i t.f4, .i t.f5, .i t.f6, .i t.f7, .i t.f8, .i t.f9, .bool t.taken]) (fun l t e j => [])
theorem S185 : (C185).Sound pG :=
  fsn mixed (C185) (n := 16) (rs := rsOf pG 185) [.C 2000 0, .C 2000 1, .C 2000 2, .C 2000 3, .C 2000 4, .C 2000 5, .C 2000 6, .C 2000 7, .C 2000 8, .C 2000 9, .C 2000 10] [] (gj (gC 2000 0 11 zy.dec) []) (fun i => (.s (.new 0 []) (.g 1 (.s (.new 1 []) (.s (.sto 1) (.s (.bld 2 1 3) (.g 2 (.unr (.g 1 (.sR (.blk (.s (.idk false 2 (.tmp 7) 0) (.s (.seg 3 [.A 0, .X 0 2 0]) (.g 2 (.s (.gd 12 (.tmp 11) 0) (.s (.seg 1 [.Q 0]) (.s (.sto 1) (.g 2 (.unr (.g 1 (.sR (.blk (.s (.idk false 2 (.tmp 7) 1) (.s (.seg 3 [.A 1, .X 1 2 0]) (.g 2 (.s (.gd 12 (.tmp 11) 1) (.s (.seg 1 [.Q 1]) (.s (.sto 1) (.g 2 (.unr (.g 1 (.sR (.blk (.s (.idk false 2 (.tmp 7) 2) (.s (.seg 3 [.A 2, .X 2 2 0]) (.g 2 (.s (.gd 12 (.tmp 11) 2) (.s (.seg 1 [.Q 2]) (.s (.sto 1) (.g 2 (.unr (.g 1 (.sR (.blk (.s (.idk false 2 (.tmp 7) 3) (.s (.seg 3 [.A 3, .X 3 2 0]) (.g 2 (.s (.gd 12 (.tmp 11) 3) (.s (.seg 1 [.Q 3]) (.s (.sto 1) (.g 2 (.unr (.g 1 (.sR (.blk (.s (.idk false 2 (.tmp 7) 4) (.s (.seg 3 [.A 4, .X 4 2 0]) (.g 2 (.s (.gd 12 (.tmp 11) 4) (.s (.seg 1 [.Q 4]) (.s (.sto 1) (.g 2 (.unr (.g 1 (.sR (.blk (.s (.idk false 2 (.tmp 7) 5) (.s (.seg 3 [.A 5, .X 5 2 0]) (.g 2 (.s (.gd 12 (.tmp 11) 5) (.s (.seg 1 [.Q 5]) (.s (.sto 1) (.g 2 (.unr (.g 1 (.uA (.s (.seg 1 [.C 1 0, .C 1 1, .C 1 2, .C 1 3, .C 1 4, .C 1 5, .C 1 6, .C 1 7, .C 1 8, .C 1 9, .C 1 10]) (.s (.sto 0) (.rk (rb 2000 [0]) .ret))))))))))))))))))))))))))))))))))))))))))))))))))))))))))))))))))))))))))))))) Tryz.func185
def K185 : SCon El pG := ⟨C185, S185, Tryz.call185⟩
def C129 : Con El := zL 129 C71p (fun e => vh e.1.2.2) 1 1 (fun e t j l => .tuple #[.i t.1, .bool t.2.1]) (fun e t j l => za.D.flat e.1.1 (za.A.mk e.1.2.1.l_b e.1.2.1.l_c (na l 0) (nn j 0) e.1.2.1.m__p) t.2.2)
abbrev nq_2 : Nx El := nA za.D [0, 1, 2, 3] (fun e => ([e.free_c], [e.free_b]))
theorem S129 : (C129).Sound pG :=
  fsn mixed (C129) (n := 61) (rs := rsOf pG 129) [] [0, 1, 2, 3] (gj (g2 (gI 2) (g2 (gB 3) (gO za.D [0, 1, 2, 3]))) [nq_2]) (fun i => (.g 2 (.s (.seg 4 [.C 0 3]) (.s (.call K184 [.K 3] [3]) (.s (.seg 5 [.C 0 1]) (.s (.seg 7 [.C 0 2]) (.g 2 (.joinR (Int × za) 1 1 (gj (g2 (gI 4) (gO za.D [0, 1, 2, 3])) [nq_2]) (fun e u l t => match (g2 (gP 0) (gA za.D [0, 1, 2, 3])) e with | some j => ([(4, .i u.1)] ++ kp [0] e, ka [] e ++ zipL [0, 1, 2, 3] (za.D.flat (j.1) (za.A.mk (j.2.l_b) (j.2.l_c) (na t 0) (nn l 0) (j.2.m__p)) u.2)) | none => ([], [])) (.cond (.s (.seg 5 [.C 0 2]) (.s (.idx false 2 (.tmp 27) 2) (.s (.seg 3 [.A 2, .X 2 2 0]) (.s (.seg 6 [.C 0 2]) (.s (.cut false 2 none (some (.tmp 35)) 1003) (.s (.seg 3 [.W 1003]) (.s (.sto 0) (.s (.own 1003 2) .leaf)))))))) (.s (.seg 7 [.C 0 0]) (.cond (.g 2 .ret) (.s (.seg 7 [.C 0 1]) (.s (.sto 0) .leaf))))) (.drw (.q [0, 1, 2, 3, 4] [.C 0 0] (.a 5 (.call K185 [] []) [.C 0 0] (.s (.idx false 1 (.tmp 57) 5) (.q [6] [.A 5] (.a 7 (.sset 1 5 0) [] (.s (.rlc 5 0 0) (.g 3 .ret)))))))))))))))) Tryz.func129
def K129 : SCon El pG := ⟨C129, S129, Tryz.call129⟩
abbrev tp : List (PK El) := [pO za.D, pI .i64]
def C198 : Con El := zL 198 tp (fun e => ym e.1.2.2 e.2.1) 0 0 (fun e t i j => .bool t) (fun e t i j => za.D.flat e.1.1 e.1.2.1 e.1.2.2)
theorem S198 : (C198).Sound pG :=
  fsn mixed (C198) (n := 26) (rs := rsOf pG 198) [] [0, 1, 2, 3] (gj (gB 4) []) (fun i => (.g 1 (.join (Bool) 0 0 (gj (gB 4) []) (fun e j l t => ([(4, .bool j)] ++ kp [] e, ka [0, 1, 2, 3] e)) (.g 3 (.split 7 (.s (.seg 9 [.C 0 0]) (.split 16 (.s (.seg 5 [.C 0 0]) (.s (.idx false 1 (.tmp 21) 2) (.s (.seg 5 [.A 2, .X 2 1 10]) .leaf))) (.g 10 .leaf))) (.g 19 .leaf))) .ret))) Tryz.func198
def K198 : SCon El pG := ⟨C198, S198, Tryz.call198⟩
abbrev wQ : List (PK El) := [pO za.D, pI .i64, pI .i64]
def C186 : Con El := zL 186 wQ (fun e => xZ e.1.2.2 e.2.1 e.2.2.1) 0 0 (fun e t i j => .bool t) (fun e t i j => za.D.flat e.1.1 e.1.2.1 e.1.2.2)
theorem S186 : (C186).Sound pG :=
  fsn mixed (C186) (n := 18) (rs := rsOf pG 186) [] [0, 1, 2, 3] (gj (gB 6) []) (fun i => (.g 1 (.join (Bool) 0 0 (gj (gB 6) []) (fun e j l t => ([(6, .bool j)] ++ kp [] e, ka [0, 1, 2, 3] e)) (.g 2 (.s (.call K198 [.K 0, .K 1, .K 2, .K 3] [0, 1, 2, 3]) (.g 1 (.split 10 (.g 4 (.split 14 (.g 4 .leaf) (.g 4 .leaf))) (.g 8 .leaf))))) .ret))) Tryz.func186
theorem sy {w0 w : World} {As : List HP} {j : Nat} {e : za.A} {a_ : za} {c_ : Int} {field : Int} {t : Bool}  (hm : xZ a_ c_ field = some t) (H : St w0 (za.R j e a_ :: As) w) :
    yz pG 186 #[.pointer (some ⟨j, 0, none⟩), .i c_, .i field] w fun v w' => v = .bool t /\ St w0 (za.R j e a_ :: As) w' := by
  replace H := (fs0 fun As => za.D_st).1 H;refine (S186 ((j, e, a_), c_, field, ()) t hm w0 w (As) rd0 H).mono ?_;rintro v w' ⟨x, l, hn, ha, hv, H, u⟩;obtain rfl := ls0 hn;obtain rfl := ls0 ha;refine ⟨hv, ?_⟩;refine (fs0 fun As => za.D_st).2 ?_;exact H
theorem pJ {w0 w : World} {As : List HP} {j : Nat} {e : za.A} {a_ : za} {c_ : Int} {field : Int} {v_ : Int} {t : Bool × za}  (hm : zB a_ c_ field v_ = some t) (H : St w0 (za.R j e a_ :: As) w) :
    yz pG 130 #[.pointer (some ⟨j, 0, none⟩), .i c_, .i field, .i v_] w fun v w' => v = .bool t.1 /\ St w0 (za.R j e t.2 :: As) w' := by
 rw [zB] at hm;refine enter (args := [.pointer (some ⟨j, 0, none⟩), .i c_, .i field, .i v_]) Tryz.func130 rfl rfl rfl fun a z => ?_
 refine Runs.sr ?_;refine WR.seg z 1 [] [0, 1, 2, 3] (Lo := [(0, .pointer (some ⟨j, 0, none⟩)), (1, .i c_), (2, .i field), (3, .i v_)]) (obs := []) rfl (by kernel_rfl) trivial fun a z => ?_
 refine WR.done rfl ?_;refine Runs.sr ?_;replace H := za.open H;refine WR.d z 4 [.pointer (some ⟨e.m__p, 0, none⟩)] [(12, .pointer (some ⟨e.m__p, 0, none⟩))] (obs := [.cell ⟨j, 3, none⟩ (.pointer (some ⟨e.m__p, 0, none⟩))]) ⟨H.cell 0 rfl rfl, trivial⟩ fun a z => ?_
 obtain ⟨t_, D, hm⟩ := bind_some hm;refine WR.eff z rfl rfl rfl rfl (OpTo.fn z rfl rfl Tryz.call184 (sd D H.t3)) ?_;rintro _ w ⟨rfl, H⟩ a z;refine WR.done rfl ?_;refine Runs.seq ?_;refine Runs.sr ?_;refine WR.d0 z 3 [(14, .pointer (some ⟨j, 0, none⟩)), (15, .i c_), (16, .i field)] fun a z => ?_
 replace H := za.shut e (za.mk a_.l a_.never a_.free t_) H.t3.t3.t3;obtain ⟨F, B, hm⟩ := bind_some hm;refine WR.eff z rfl rfl rfl rfl (OpTo.fn z rfl rfl Tryz.call186 (sy B H)) ?_;rintro _ w ⟨rfl, H⟩ a z;refine WR.e0 z [(18, .bool (!F))] fun a z => ?_
 refine Runs.cond z rfl (fun c => ?_) (fun c => ?_)
 ·replace hm := ye c hm;refine Runs.sr ?_;refine WR.e0 z [(8, .bool false)] fun a z => ?_
  refine Runs.ret z Tryz.func130 rfl rfl ?_;cases hm;exact ⟨rfl, H⟩
 ·replace hm := yd c hm;refine Runs.skip ?_;refine Runs.sr ?_;replace H := za.open H
  try dsimp only at H
  obtain ⟨x, ex, hm⟩ := bind_some hm;obtain ⟨b, o, hs, J⟩ := SlRd.base (yN 257 zy.enc 11 _ _ _) zy.zU H 1 rfl ex;obtain ⟨u, I, hm⟩ := bind_some hm;refine WR.d z 10 [.slice e.l_b a_.l.length e.l_c, .pointer (some ⟨b, o, none⟩)] [(25, .i v_), (28, .pointer (some ⟨b, o + (Int.toNat c_) * 11 + (Int.toNat field) * 1, none⟩))] (obs := [.cell ⟨j, 0, none⟩ (.slice e.l_b a_.l.length e.l_c), .p ((e.l_b : Option Addr) = some ⟨b, o, none⟩), .p (0 <= (c_ : Int) /\ (c_ : Int) < ((a_.l.length : Nat) : Int)), .p (0 <= (field : Int) /\ (field : Int) < ((10 : Nat) : Int))]) ⟨H.cell 0 rfl rfl, hs, J, kR I, trivial⟩ fun a z => ?_
  obtain ⟨y, O, hm⟩ := bind_some hm;refine WR.eff0 z rfl rfl rfl (OpTo.kV (q := (Int.toNat field) * 1) (x' := y) z H.t1 zy.zU rfl hs ex rfl rfl rfl rfl rfl (by have := kR I; show (Int.toNat field) * 1 + 1 <= 11; omega) (zy.fH O)) ?_;rintro _ w H a z;rw [<- tJ a_.l c_ y] at H;refine WR.done rfl ?_;refine Runs.sr ?_;refine WR.e0 z [(8, .bool true)] fun a z => ?_
  replace H := za.shut e (za.mk (mSet a_.l c_ y) a_.never a_.free t_) H.t3.t3.t2.t3;refine Runs.ret z Tryz.func130 rfl rfl ?_;cases hm;exact ⟨rfl, H⟩
abbrev Az : List (PK El) := [pO za.D, pI .i64, pI .i64, pI .i64]
def C130 : Con El := zL 130 Az (fun e => zB e.1.2.2 e.2.1 e.2.2.1 e.2.2.2.1) 0 0 (fun e t i j => .bool t.1) (fun e t i j => za.D.flat e.1.1 e.1.2.1 t.2)
theorem S130 : (C130).Sound pG := fun e t hm w0 w F hr H => by
  obtain ⟨⟨p0, i, x0⟩, x1, x2, x3, _⟩ := e;have j : St w0 (za.R p0 i x0 :: F) w := by
    refine (fs0 fun As => za.D_st).2 ?_;exact H
  refine (pJ (show zB x0 x1 x2 x3 = some t from hm) j).mono ?_;rintro v w' ⟨hv, H⟩;refine ⟨[], [], rfl, rfl, hv, ?_, fun _ h => by cases h⟩;replace H := (fs0 fun As => za.D_st).1 H;exact H
def K130 : SCon El pG := ⟨C130, S130, Tryz.call130⟩
def C100 : Con El := zL 100 wQ (fun e => nF e.1.2.2 e.2.1 e.2.2.1) 1 1 (fun e t j l => .tuple #[.i t.1, .bool t.2.1]) (fun e t j l => za.D.flat e.1.1 (za.A.mk e.1.2.1.l_b e.1.2.1.l_c (na l 0) (nn j 0) e.1.2.1.m__p) t.2.2)
theorem S100 : (C100).Sound pG :=
  fsn mixed (C100) (n := 28) (rs := rsOf pG 100) [] [0, 1, 2, 3] (gj (g2 (gI 6) (g2 (gB 7) (gO za.D [0, 1, 2, 3]))) [nq_2]) (fun i => (.g 2 (.g 2 (.uA (.g 1 (.s (.call K129 [.K 0, .K 1, .K 2, .K 3] [0, 1, 2, 3]) (.g 5 (.g 1 (.join (za) 0 0 (gj (gO za.D [0, 1, 2, 3]) []) (fun e l t u => match (g2 (gP 0) (gA za.D [0, 1, 2, 3])) e with | some j => ([] ++ kp [8, 9] e, ka [] e ++ zipL [0, 1, 2, 3] (za.D.flat (j.1) (za.A.mk (j.2.l_b) (j.2.l_c) (j.2.free_b) (j.2.free_c) (j.2.m__p)) l)) | none => ([], [])) (.cond (.g 3 (.s (.call K130 [.K 0, .K 1, .K 2, .K 3] [0, 1, 2, 3]) (.g 3 (.s (.call K130 [.K 0, .K 1, .K 2, .K 3] [0, 1, 2, 3]) .leaf)))) .leaf) (.g 4 .ret)))))))))) Tryz.func100
def K100 : SCon El pG := ⟨C100, S100, Tryz.call100⟩
def C221 : Con El := zL 221 wQ (fun e => qC e.1.2.2 e.2.1 e.2.2.1) 0 0 (fun e t i j => .tuple #[]) (fun e t i j => za.D.flat e.1.1 e.1.2.1 t)
theorem S221 : (C221).Sound pG :=
  fsn mixed (C221) (n := 16) (rs := rsOf pG 221) [] [0, 1, 2, 3] (gj (gO za.D [0, 1, 2, 3]) []) (fun i => (.g 2 (.sR (.g 3 (.s (.call K130 [.K 0, .K 1, .K 2, .K 3] [0, 1, 2, 3]) (.g 3 (.s (.call K130 [.K 0, .K 1, .K 2, .K 3] [0, 1, 2, 3]) .leaf))))))) Tryz.func221
def K221 : SCon El pG := ⟨C221, S221, Tryz.call221⟩
def C187 : Con El := zL 187 tp (fun e => qB e.1.2.2 e.2.1) 1 1 (fun e t j l => .tuple #[.i t.1, .bool t.2.1]) (fun e t j l => za.D.flat e.1.1 (za.A.mk e.1.2.1.l_b e.1.2.1.l_c (na l 0) (nn j 0) e.1.2.1.m__p) t.2.2)
theorem S187 : (C187).Sound pG :=
  fsn mixed (C187) (n := 20) (rs := rsOf pG 187) [] [0, 1, 2, 3] (gj (g2 (gI 4) (g2 (gB 5) (gO za.D [0, 1, 2, 3]))) [nq_2]) (fun i => (.g 2 (.g 1 (.s (.call K129 [.K 0, .K 1, .K 2, .K 3] [0, 1, 2, 3]) (.g 5 (.g 1 (.join (za) 0 0 (gj (gO za.D [0, 1, 2, 3]) []) (fun e l t u => match (g2 (gP 0) (gA za.D [0, 1, 2, 3])) e with | some j => ([] ++ kp [6, 7] e, ka [] e ++ zipL [0, 1, 2, 3] (za.D.flat (j.1) (za.A.mk (j.2.l_b) (j.2.l_c) (j.2.free_b) (j.2.free_c) (j.2.m__p)) l)) | none => ([], [])) (.cond (.g 3 (.s (.call K221 [.K 0, .K 1, .K 2, .K 3] [0, 1, 2, 3]) .leaf)) .leaf) (.g 4 .ret)))))))) Tryz.func187
def K187 : SCon El pG := ⟨C187, S187, Tryz.call187⟩
def C222 : Con El := zL 222 C71p (fun e => xK e.1.2.2) 0 0 (fun e t j l => .i t) (fun e t j l => za.D.flat e.1.1 e.1.2.1 e.1.2.2)
theorem S222 : (C222).Sound pG :=
  fsn mixed (C222) (n := 8) (rs := rsOf pG 222) [] [0, 1, 2, 3] (gj (gI 2) []) (fun i => (.g 1 (.s (.seg 6 [.C 0 0]) .ret))) Tryz.func222
def K222 : SCon El pG := ⟨C222, S222, Tryz.call222⟩
theorem sJ {w0 w : World} {As : List HP} {y : Nat} {j : za.A} {a_ : za} {c_ : Int} {field : Int} {t : Int × za}  (hm : zW a_ c_ field = some t) (H : St w0 (za.R y j a_ :: As) w) :
    yz pG 152 #[.pointer (some ⟨y, 0, none⟩), .i c_, .i field] w fun v w' => v = .i t.1 /\ St w0 (za.R y j t.2 :: As) w' := by
 rw [zW] at hm;refine enter (args := [.pointer (some ⟨y, 0, none⟩), .i c_, .i field]) Tryz.func152 rfl rfl rfl fun a z => ?_
 refine Runs.sr ?_;refine WR.seg z 1 [] [0, 1, 2] (Lo := [(0, .pointer (some ⟨y, 0, none⟩)), (1, .i c_), (2, .i field)]) (obs := []) rfl (by kernel_rfl) trivial fun a z => ?_
 refine WR.done rfl ?_;refine Runs.sr ?_;replace H := za.open H;refine WR.d z 4 [.pointer (some ⟨j.m__p, 0, none⟩)] [(10, .pointer (some ⟨j.m__p, 0, none⟩))] (obs := [.cell ⟨y, 3, none⟩ (.pointer (some ⟨j.m__p, 0, none⟩))]) ⟨H.cell 0 rfl rfl, trivial⟩ fun a z => ?_
 obtain ⟨t_, D, hm⟩ := bind_some hm;refine WR.eff z rfl rfl rfl rfl (OpTo.fn z rfl rfl Tryz.call184 (sd D H.t3)) ?_;rintro _ w ⟨rfl, H⟩ a z;refine WR.done rfl ?_;refine Runs.seq ?_;refine Runs.sr ?_;refine WR.d0 z 3 [(12, .pointer (some ⟨y, 0, none⟩)), (13, .i c_), (14, .i field)] fun a z => ?_
 replace H := za.shut j (za.mk a_.l a_.never a_.free t_) H.t3.t3.t3;obtain ⟨F, B, hm⟩ := bind_some hm;refine WR.eff z rfl rfl rfl rfl (OpTo.fn z rfl rfl Tryz.call186 (sy B H)) ?_;rintro _ w ⟨rfl, H⟩ a z;refine WR.e0 z [(16, .bool (!F))] fun a z => ?_
 refine Runs.cond z rfl (fun c => ?_) (fun c => ?_)
 ·replace hm := ye c hm;refine Runs.sr ?_;refine WR.e0 z [(6, .i (-1))] fun a z => ?_
  refine Runs.ret z Tryz.func152 rfl rfl ?_;cases hm;exact ⟨rfl, H⟩
 ·replace hm := yd c hm;refine Runs.skip ?_;refine Runs.sr ?_;replace H := za.open H
  try dsimp only at H
  obtain ⟨x, ex, hm⟩ := bind_some hm;obtain ⟨b, o, hs, J⟩ := SlRd.base (yN 257 zy.enc 11 _ _ _) zy.zU H 1 rfl ex;obtain ⟨u, O, hm⟩ := bind_some hm;obtain ⟨v_, I, hm⟩ := bind_some hm;refine WR.e z [.slice j.l_b a_.l.length j.l_c, .pointer (some ⟨b, o, none⟩), .i v_] [(6, .i v_)] (obs := [.cell ⟨y, 0, none⟩ (.slice j.l_b a_.l.length j.l_c), .p ((j.l_b : Option Addr) = some ⟨b, o, none⟩), .p (0 <= (c_ : Int) /\ (c_ : Int) < ((a_.l.length : Nat) : Int)), .p (0 <= (field : Int) /\ (field : Int) < ((10 : Nat) : Int)), .cell ⟨b, o + (Int.toNat c_) * 11 + (Int.toNat field) * 1, none⟩ (.i v_)]) ⟨H.cell 0 rfl rfl, hs, J, kR O, SlRd.cells (yN 257 zy.enc 11 _ _ _) zy.zU H 1 rfl hs ex ((Int.toNat field) * 1) _ (zy.fp I), trivial⟩ fun a z => ?_
  replace H := za.shut j (za.mk a_.l a_.never a_.free t_) H.t3.t3.t3.t3;refine Runs.ret z Tryz.func152 rfl rfl ?_;cases hm;exact ⟨rfl, H⟩
def C152 : Con El := zL 152 wQ (fun e => zW e.1.2.2 e.2.1 e.2.2.1) 0 0 (fun e t j l => .i t.1) (fun e t j l => za.D.flat e.1.1 e.1.2.1 t.2)
theorem S152 : (C152).Sound pG := fun e t hm w0 w F hr H => by
  obtain ⟨⟨p0, i, x0⟩, x1, x2, _⟩ := e;have j : St w0 (za.R p0 i x0 :: F) w := by
    refine (fs0 fun As => za.D_st).2 ?_;exact H
  refine (sJ (show zW x0 x1 x2 = some t from hm) j).mono ?_;rintro v w' ⟨hv, H⟩;refine ⟨[], [], rfl, rfl, hv, ?_, fun _ h => by cases h⟩;replace H := (fs0 fun As => za.D_st).1 H;exact H
def K152 : SCon El pG := ⟨C152, S152, Tryz.call152⟩
def C196 : Con El := zL 196 wQ (fun e => zI e.1.2.2 e.2.1 e.2.2.1) 0 0 (fun e t j l => .i t.1) (fun e t j l => za.D.flat e.1.1 e.1.2.1 t.2)
theorem S196 : (C196).Sound pG :=
  fsn mixed (C196) (n := 24) (rs := rsOf pG 196) [] [0, 1, 2, 3] (gj (g2 (gI 6) (gO za.D [0, 1, 2, 3])) []) (fun i => (.g 1 (.g 3 (.s (.call K152 [.K 0, .K 1, .K 2, .K 3] [0, 1, 2, 3]) (.g 1 (.join (Bool) 0 0 (gj (gB 22) []) (fun e j l t => ([(22, .bool j)] ++ kp [7] e, ka [0, 1, 2, 3] e)) (.g 3 (.split 14 (.g 8 .leaf) (.s (.seg 8 [.C 0 0]) .leaf))) (.cond (.g 1 .ret) (.g 2 .ret)))))))) Tryz.func196
def K196 : SCon El pG := ⟨C196, S196, Tryz.call196⟩
def C262 : Con El := zL 262 tp (fun e => rl e.1.2.2 e.2.1) 0 0 (fun e t j l => .agg #[.i t.1.Key, .i t.1.Serial]) (fun e t j l => za.D.flat e.1.1 e.1.2.1 t.2)
theorem S262 : (C262).Sound pG :=
  fsn mixed (C262) (n := 15) (rs := rsOf pG 262) [.C 2000 0, .C 2000 1] [0, 1, 2, 3] (gj (g2 (gC 2000 0 2 zH.dec) (gO za.D [0, 1, 2, 3])) []) (fun i => (.s (.new 4 []) (.g 2 (.uA (.g 2 (.s (.call K152 [.K 0, .K 1, .K 2, .K 3] [0, 1, 2, 3]) (.g 2 (.s (.call K152 [.K 0, .K 1, .K 2, .K 3] [0, 1, 2, 3]) (.g 1 (.s (.sto 4) (.rk (rb 2000 [4]) .ret))))))))))) Tryz.func262
def K262 : SCon El pG := ⟨C262, S262, Tryz.call262⟩
def C273 : Con El := zL 273 C49p (fun e => vK e.1) 0 0 (fun e t i j => .bool t) (fun e t i j => [])
theorem S273 : (C273).Sound pG :=
  fsn mixed (C273) (n := 6) (rs := rsOf pG 273) [] [] (gj (gB 2) []) (fun i => (.g 1 (.g 4 .ret))) Tryz.func273
def K273 : SCon El pG := ⟨C273, S273, Tryz.call273⟩
def C269 : Con El := zL 269 C92p (fun e => w5 e.1 e.2.1) 0 0 (fun e t j l => .i t) (fun e t j l => [])
theorem S269 : (C269).Sound pG :=
  fsn mixed (C269) (n := 20) (rs := rsOf pG 269) [] [] (gj (gI 4) []) (fun i => (.g 1 (.g 1 (.s (.call K273 [] []) (.g 1 (.g 1 (.s (.call K273 [] []) (.g 1 (.g 1 (.cond (.g 1 (.cond (.g 1 .ret) (.g 1 .ret))) (.g 1 (.cond (.g 1 .ret) (.g 3 (.cond (.g 1 .ret) (.g 3 (.cond (.g 1 .ret) (.g 1 .ret))))))))))))))))) Tryz.func269
def K269 : SCon El pG := ⟨C269, S269, Tryz.call269⟩
abbrev dV : List (PK El) := [pR 1]
def C268 (k : Nat) : Con El := zL 268 dV (fun e => qH k e.1.2.2) 0 0 (fun e t j l => .i t) (fun e t j l => [])
abbrev BU (k : Nat) (i : Ins dV) : Kn El -> VC (C268 k).T := retC pG (C268 k) (rsOf pG 268) [] [] (gj (gI 2) []) i
def lK (l : Ins dV) : BCon El (Int) := ⟨nav [1, 1, 0, 1] (yD pG 268), Int, Int, Unit, (Int) ⊕ (Unit), fun r => r, fun _ _ => none, fun t => [(0, ⟨1, l.1.1, l.1.2.1, l.1.2.2⟩)], fun t v_ e j => [(3, .i 0), (6, .slice l.1.1 l.1.2.2.length l.1.2.1), (7, .i (t)), (8, .i v_)], fun t v_ e j => [], 0, 0, fun t u e j => [(3, .i 0)], fun t u e j => []⟩
def iw (k : Nat) (e : Ins dV) : Nat -> (lK e).X -> (lK e).V -> Option (lK e).W := fun m_ (i : Int) (v_ : Int) => vQ (i) e.1.2.2 m_ v_
theorem Ah (k : Nat) (i : Ins dV) (m : Nat) : ((lK i).at (iw k i) m).Sound pG 268 18 (BU k i) :=
  lsn mixed (lK i) (id := 0) (body := nav [1, 1, 0, 1, 0, 0] (yD pG 268)) (iw k i) (fun r => some (.inl r)) (fun u => .inr u) (gj (gI 8) []) (gj gU []) (fun m => (.g 1 (.cond (.blk (.s (.idx true 0 (.tmp 8) 2) (.s (.seg 3 [.A 2, .R 2 0]) (.g 3 (.cond (.g 2 .ret) (.g 2 .back)))))) .leaf))) m
theorem S268 (k : Nat) : (C268 k).Sound pG :=
  fsn mixed (C268 k) (n := 18) (rs := rsOf pG 268) [] [] (gj (gI 2) []) (fun i => (.g 1 (.g 1 (.g 3 (.loop ⟨(lK i).at (iw k i) k, Ah k i k⟩ (gl (gI 7) (gI 8) []) (.g 2 .ret)))))) Tryz.func268
def K268 (k : Nat) : SCon El pG := ⟨C268 k, S268 k, Tryz.call268⟩
abbrev A8 : List (PK El) := [pV zH.dv zH.val, pV zH.dv zH.val]
def C261 (k : Nat) : Con El := zL 261 A8 (fun e => tE k e.1 e.2.1) 0 0 (fun e t j l => .i t) (fun e t j l => [])
theorem S261 (k : Nat) : (C261 k).Sound pG :=
  fsn mixed (C261 k) (n := 17) (rs := rsOf pG 261) [] [] (gj (gI 4) []) (fun i => (.s (.new 0 []) (.s (.new 1 []) (.g 1 (.drw (.q [0, 1, 2, 3, 5, 6, 7, 8] [.C 0 0, .C 1 0, .C 0 1, .C 1 1] (.a 4 (.call K269 [] []) [.C 1 1, .C 0 1] (.a 9 (.call K269 [] []) [] (.a 10 (.bld 3 1 3) [] (.a 11 (.call (K268 k) [.O 3] []) [] (.q [12] [] .ret))))))))))) Tryz.func261
def K261 (k : Nat) : SCon El pG := ⟨C261 k, S261 k, Tryz.call261⟩
def C242 (k : Nat) : Con El := zL 242 wQ (fun e => rN k e.1.2.2 e.2.1 e.2.2.1) 0 0 (fun e t i j => .bool t.1) (fun e t i j => za.D.flat e.1.1 e.1.2.1 t.2)
theorem S242 (k : Nat) : (C242 k).Sound pG :=
  fsn mixed (C242 k) (n := 26) (rs := rsOf pG 242) [] [0, 1, 2, 3] (gj (g2 (gB 6) (gO za.D [0, 1, 2, 3])) []) (fun i => (.g 1 (.g 2 (.s (.call K262 [.K 0, .K 1, .K 2, .K 3] [0, 1, 2, 3]) (.g 2 (.s (.call K262 [.K 0, .K 1, .K 2, .K 3] [0, 1, 2, 3]) (.s (.call (K261 k) [] []) (.g 1 (.g 3 (.pj 17 (Bool) mB (gB 6) (fun st e => ([(6, .bool e)] ++ kp [] st, ka [0, 1, 2, 3] st)) (.g 9 .leaf) (.g 3 (.pj 20 (Bool) mB (gB 6) (fun st e => ([(6, .bool e)] ++ kp [] st, ka [0, 1, 2, 3] st)) (.g 6 .leaf) (.g 6 .leaf) .leaf)) .ret)))))))))) Tryz.func242
def K242 (k : Nat) : SCon El pG := ⟨C242 k, S242 k, Tryz.call242⟩
def C210 (k : Nat) : Con El := zL 210 wQ (fun e => vL k e.1.2.2 e.2.1 e.2.2.1) 0 0 (fun e t i j => .bool t.1) (fun e t i j => za.D.flat e.1.1 e.1.2.1 t.2)
theorem S210 (k : Nat) : (C210 k).Sound pG :=
  fsn mixed (C210 k) (n := 15) (rs := rsOf pG 210) [] [0, 1, 2, 3] (gj (g2 (gB 6) (gO za.D [0, 1, 2, 3])) []) (fun i => (.g 1 (.g 3 (.s (.call K196 [.K 0, .K 1, .K 2, .K 3] [0, 1, 2, 3]) (.g 2 (.s (.call K196 [.K 0, .K 1, .K 2, .K 3] [0, 1, 2, 3]) (.s (.call (K242 k) [.K 0, .K 1, .K 2, .K 3] [0, 1, 2, 3]) (.g 1 .ret)))))))) Tryz.func210
def K210 (k : Nat) : SCon El pG := ⟨C210 k, S210 k, Tryz.call210⟩
def C252 : Con El := zL 252 tp (fun e => th e.1.2.2 e.2.1) 0 0 (fun e t j l => .i t.1) (fun e t j l => za.D.flat e.1.1 e.1.2.1 t.2)
theorem S252 : (C252).Sound pG :=
  fsn mixed (C252) (n := 10) (rs := rsOf pG 252) [] [0, 1, 2, 3] (gj (g2 (gI 4) (gO za.D [0, 1, 2, 3])) []) (fun i => (.g 1 (.g 2 (.cond (.g 1 .ret) (.g 2 (.s (.call K152 [.K 0, .K 1, .K 2, .K 3] [0, 1, 2, 3]) (.g 1 .ret))))))) Tryz.func252
def K252 : SCon El pG := ⟨C252, S252, Tryz.call252⟩
def C223 : Con El := zL 223 tp (fun e => tV e.1.2.2 e.2.1) 0 0 (fun e t i j => .bool t.1) (fun e t i j => za.D.flat e.1.1 e.1.2.1 t.2)
theorem S223 : (C223).Sound pG :=
  fsn mixed (C223) (n := 46) (rs := rsOf pG 223) [] [0, 1, 2, 3] (gj (g2 (gB 4) (gO za.D [0, 1, 2, 3])) []) (fun i => (.g 1 (.g 2 (.s (.call K196 [.K 0, .K 1, .K 2, .K 3] [0, 1, 2, 3]) (.g 2 (.s (.call K196 [.K 0, .K 1, .K 2, .K 3] [0, 1, 2, 3]) (.g 2 (.g 2 (.s (.call K252 [.K 0, .K 1, .K 2, .K 3] [0, 1, 2, 3]) (.g 2 (.s (.call K252 [.K 0, .K 1, .K 2, .K 3] [0, 1, 2, 3]) (.g 2 (.g 3 (.join (Int × za) 0 0 (gj (g2 (gI 8) (gO za.D [0, 1, 2, 3])) []) (fun e j t u => match (g2 (gP 0) (gA za.D [0, 1, 2, 3])) e with | some l => ([(8, .i j.1)] ++ kp [0, 1] e, ka [] e ++ zipL [0, 1, 2, 3] (za.D.flat (l.1) (l.2) j.2)) | none => ([], [])) (.cond (.g 3 (.s (.call K130 [.K 0, .K 1, .K 2, .K 3] [0, 1, 2, 3]) (.g 3 (.s (.call K130 [.K 0, .K 1, .K 2, .K 3] [0, 1, 2, 3]) (.g 2 .leaf))))) .leaf) (.g 2 (.s (.call K152 [.K 0, .K 1, .K 2, .K 3] [0, 1, 2, 3]) (.g 1 (.g 4 (.s (.call K130 [.K 0, .K 1, .K 2, .K 3] [0, 1, 2, 3]) (.g 5 .ret)))))))))))))))))))) Tryz.func223
def K223 : SCon El pG := ⟨C223, S223, Tryz.call223⟩
def C188 (k : Nat) : Con El := zL 188 wQ (fun e => w7 k e.1.2.2 e.2.1 e.2.2.1) 0 0 (fun e t j l => .i t.1) (fun e t j l => za.D.flat e.1.1 e.1.2.1 t.2)
abbrev AG (k : Nat) (i : Ins wQ) : Kn El -> VC (C188 k).T := retC pG (C188 k) (rsOf pG 188) [] [0, 1, 2, 3] (gj (g2 (gI 6) (gO za.D [0, 1, 2, 3])) []) i
def m7 (l : Ins wQ) : BCon El (Int × za) := ⟨nav [1, 1, 1, 0] (yD pG 188), Unit, Int × Int × (List Int) × za, Int × Int × (List Int) × za, Int × Int × (List Int) × za, fun u => .inr u, fun _ _ => none, fun x => [], fun x v_ e j => [(0, .pointer (some ⟨l.1.1, 0, none⟩)), (1, .i v_.1), (2, .i v_.2.1), (7, .slice (na j 0) v_.2.2.1.length (nn e 0))], fun x v_ e j => zipL [9] [.sl 1 3 (na j 0) (nn e 0) v_.2.2.1] ++ zipL [0, 1, 2, 3] (za.D.flat l.1.1 l.1.2.1 v_.2.2.2), 1, 1, fun x t e j => [(0, .pointer (some ⟨l.1.1, 0, none⟩)), (1, .i t.1), (2, .i t.2.1), (7, .slice (na j 0) t.2.2.1.length (nn e 0))], fun x t e j => zipL [8] [.sl 1 3 (na j 0) (nn e 0) t.2.2.1] ++ zipL [0, 1, 2, 3] (za.D.flat l.1.1 l.1.2.1 t.2.2.2)⟩
def iu (k : Nat) (e : Ins wQ) : Nat -> (m7 e).X -> (m7 e).V -> Option (m7 e).W := fun m_ (i : Unit) (v_ : Int × Int × (List Int) × za) => w4 m_ v_.1 v_.2.1 v_.2.2.1 v_.2.2.2
theorem Ak (k : Nat) (i : Ins wQ) (m : Nat) : ((m7 i).at (iu k i) m).Sound pG 188 75 (AG k i) :=
  lsn mixed (m7 i) (id := 0) (body := nav [1, 1, 1, 0, 0, 0] (yD pG 188)) (iu k i) (fun _ => none) (fun u => u) (gj (g2 (gI 1) (g2 (gI 2) (g2 (gL 1 9) (gO za.D [0, 1, 2, 3])))) [nSk 9]) (gj (g2 (gI 1) (g2 (gI 2) (g2 (gL 1 8) (gO za.D [0, 1, 2, 3])))) [nSk 8]) (fun m => (.join (Bool) 0 0 (gj (gB 26) []) (fun e j l t => ([(26, .bool j)] ++ kp [0, 1, 2, 7] e, ka [9, 0, 1, 2, 3] e)) (.g 3 (.split 16 (.g 4 (.split 20 (.g 3 (.s (.call K222 [.K 0, .K 1, .K 2, .K 3] [0, 1, 2, 3]) (.g 2 .leaf))) (.g 6 .leaf))) (.g 10 .leaf))) (.cond (.blk (.g 3 (.s (.call (K210 m) [.K 0, .K 1, .K 2, .K 3] [0, 1, 2, 3]) (.join (Int × Int) 0 0 (gj (g2 (gI 1) (gI 2)) []) (fun e j l t => ([(1, .i j.1), (2, .i j.2)] ++ kp [0, 7] e, ka [0, 1, 2, 3, 9] e)) (.cond (.g 4 .leaf) .leaf) (.g 2 (.s (.bld 11 1 3) (.s (.app 9 (.O 11)) (.g 1 (.g 2 (.s (.call K196 [.K 0, .K 1, .K 2, .K 3] [0, 1, 2, 3]) (.g 1 .back))))))))))) (.rk (rb 8 [9]) .leaf)))) m
def lB (t : Ins wQ) : BCon El (Int × za) := ⟨nav [1, 1, 1, 1, 1, 0, 1] (yD pG 188), (List Int) × (Option Addr × Nat), Int × Int × za, Int × za, Int × za, fun u => .inr u, fun _ _ => none, fun e => [], fun e v_ j l => [(0, .pointer (some ⟨t.1.1, 0, none⟩)), (7, .slice (e.2.1) (e.1).length (e.2.2)), (8, .i v_.1), (9, .i v_.2.1)], fun e v_ j l => zipL [8] [.sl 1 3 (e.2.1) (e.2.2) (e.1)] ++ zipL [0, 1, 2, 3] (za.D.flat t.1.1 t.1.2.1 v_.2.2), 0, 0, fun e x j l => [(0, .pointer (some ⟨t.1.1, 0, none⟩)), (8, .i x.1)], fun e x j l => zipL [0, 1, 2, 3] (za.D.flat t.1.1 t.1.2.1 x.2)⟩
def iB (k : Nat) (e : Ins wQ) : Nat -> (lB e).X -> (lB e).V -> Option (lB e).W := fun m_ (i : (List Int) × (Option Addr × Nat)) (v_ : Int × Int × za) => xW (i.1) m_ v_.1 v_.2.1 v_.2.2
theorem aG (k : Nat) (i : Ins wQ) (m : Nat) : ((lB i).at (iB k i) m).Sound pG 188 75 (AG k i) :=
  lsn mixed (lB i) (id := 2) (body := nav [1, 1, 1, 1, 1, 0, 1, 0, 0] (yD pG 188)) (iB k i) (fun _ => none) (fun u => u) (gj (g2 (gI 8) (g2 (gI 9) (gO za.D [0, 1, 2, 3]))) []) (gj (g2 (gI 8) (gO za.D [0, 1, 2, 3])) []) (fun m => (.g 2 (.cond (.blk (.g 3 (.s (.idx false 8 (.tmp 52) 6) (.s (.seg 3 [.A 6, .X 6 8 0]) (.s (.call K130 [.K 0, .K 1, .K 2, .K 3] [0, 1, 2, 3]) (.g 4 (.s (.idx false 8 (.tmp 60) 7) (.s (.seg 2 [.A 7, .X 7 8 0]) (.s (.call K130 [.K 0, .K 1, .K 2, .K 3] [0, 1, 2, 3]) (.g 2 (.s (.idx false 8 (.tmp 65) 8) (.s (.seg 3 [.A 8, .X 8 8 0]) (.g 2 (.s (.call K223 [.K 0, .K 1, .K 2, .K 3] [0, 1, 2, 3]) (.g 3 .back))))))))))))))) .leaf))) m
theorem S188 (k : Nat) : (C188 k).Sound pG :=
  fsn mixed (C188 k) (n := 75) (rs := rsOf pG 188) [] [0, 1, 2, 3] (gj (g2 (gI 6) (gO za.D [0, 1, 2, 3])) []) (fun i => (.g 1 (.g 3 (.cond (.g 2 .ret) (.g 1 (.s (.nil 10 1 3) (.rk (rb 9 [10]) (.loop ⟨(m7 i).at (iu k i) k, Ak k i k⟩ (gl gU (g2 (gI 1) (g2 (gI 2) (g2 (gL 1 9) (gO za.D [0, 1, 2, 3])))) [nSk 9]) (.g 4 (.g 4 (.loop ⟨(lB i).at (iB k i) k, aG k i k⟩ (gl (g2 (gL 1 8) (gh 8)) (g2 (gI 8) (g2 (gI 9) (gO za.D [0, 1, 2, 3]))) []) (.g 2 (.s (.call K130 [.K 0, .K 1, .K 2, .K 3] [0, 1, 2, 3]) (.g 2 .ret)))))))))))))) Tryz.func188
def K188 (k : Nat) : SCon El pG := ⟨C188 k, S188 k, Tryz.call188⟩
def C131 (k : Nat) : Con El := zL 131 wQ (fun e => sG k e.1.2.2 e.2.1 e.2.2.1) 1 1 (fun e t j l => .tuple #[.i t.1, .bool t.2.1]) (fun e t j l => za.D.flat e.1.1 (za.A.mk e.1.2.1.l_b e.1.2.1.l_c (na l 0) (nn j 0) e.1.2.1.m__p) t.2.2)
theorem S131 (k : Nat) : (C131 k).Sound pG :=
  fsn mixed (C131 k) (n := 28) (rs := rsOf pG 131) [] [0, 1, 2, 3] (gj (g2 (gI 6) (g2 (gB 7) (gO za.D [0, 1, 2, 3]))) [nq_2]) (fun i => (.g 2 (.g 2 (.uA (.g 2 (.s (.call K187 [.K 0, .K 1, .K 2, .K 3] [0, 1, 2, 3]) (.g 5 (.g 2 (.cond (.g 3 .ret) (.g 2 (.s (.call K130 [.K 0, .K 1, .K 2, .K 3] [0, 1, 2, 3]) (.g 3 (.s (.call (K188 k) [.K 0, .K 1, .K 2, .K 3] [0, 1, 2, 3]) (.g 2 .ret)))))))))))))) Tryz.func131
def K131 (k : Nat) : SCon El pG := ⟨C131 k, S131 k, Tryz.call131⟩
def C229 (k : Nat) : Con El := zL 229 wQ (fun e => pz k e.1.2.2 e.2.1 e.2.2.1) 1 1 (fun e t i j => .slice (na j 0) t.1.length (nn i 0)) (fun e t i j => [.sl 1 3 (na j 0) (nn i 0) t.1] ++ za.D.flat e.1.1 e.1.2.1 t.2)
abbrev BJ (k : Nat) (i : Ins wQ) : Kn El -> VC (C229 k).T := retC pG (C229 k) (rsOf pG 229) [] [1000, 0, 1, 2, 3] (gj (g2 (gL 1 1000) (gO za.D [0, 1, 2, 3])) [nSk 1000]) i
def lF (l : Ins wQ) : BCon El ((List Int) × za) := ⟨nav [1, 1, 0] (yD pG 229), Unit, Int × (List Int) × za, (List Int) × za, (List Int) × za, fun u => .inr u, fun _ _ => none, fun t => [], fun t v_ e j => [(0, .pointer (some ⟨l.1.1, 0, none⟩)), (1, .i v_.1), (2, .i l.2.2.1), (7, .slice (na j 0) v_.2.1.length (nn e 0))], fun t v_ e j => zipL [9] [.sl 1 3 (na j 0) (nn e 0) v_.2.1] ++ zipL [0, 1, 2, 3] (za.D.flat l.1.1 l.1.2.1 v_.2.2), 1, 1, fun t x e j => [(7, .slice (na j 0) x.1.length (nn e 0))], fun t x e j => zipL [8] [.sl 1 3 (na j 0) (nn e 0) x.1] ++ zipL [0, 1, 2, 3] (za.D.flat l.1.1 l.1.2.1 x.2)⟩
def iN (k : Nat) (e : Ins wQ) : Nat -> (lF e).X -> (lF e).V -> Option (lF e).W := fun m_ (i : Unit) (v_ : Int × (List Int) × za) => uX e.2.2.1 m_ v_.1 v_.2.1 v_.2.2
theorem aa (k : Nat) (i : Ins wQ) (m : Nat) : ((lF i).at (iN k i) m).Sound pG 229 27 (BJ k i) :=
  lsn mixed (lF i) (id := 0) (body := nav [1, 1, 0, 0, 0] (yD pG 229)) (iN k i) (fun _ => none) (fun u => u) (gj (g2 (gI 1) (g2 (gL 1 9) (gO za.D [0, 1, 2, 3]))) [nSk 9]) (gj (g2 (gL 1 8) (gO za.D [0, 1, 2, 3])) [nSk 8]) (fun m => (.join (Bool) 0 0 (gj (gB 17) []) (fun e j l t => ([(17, .bool j)] ++ kp [0, 1, 2, 7] e, ka [9, 0, 1, 2, 3] e)) (.g 2 (.s (.call K198 [.K 0, .K 1, .K 2, .K 3] [0, 1, 2, 3]) (.g 1 (.split 11 (.g 3 (.s (.call K222 [.K 0, .K 1, .K 2, .K 3] [0, 1, 2, 3]) (.g 2 .leaf))) (.g 6 .leaf))))) (.cond (.blk (.g 2 (.s (.bld 11 1 3) (.s (.app 9 (.O 11)) (.g 1 (.g 3 (.s (.call K196 [.K 0, .K 1, .K 2, .K 3] [0, 1, 2, 3]) (.g 1 .back)))))))) (.rk (rb 8 [9]) .leaf)))) m
theorem S229 (k : Nat) : (C229 k).Sound pG :=
  fsn mixed (C229 k) (n := 27) (rs := rsOf pG 229) [] [1000, 0, 1, 2, 3] (gj (g2 (gL 1 1000) (gO za.D [0, 1, 2, 3])) [nSk 1000]) (fun i => (.g 1 (.g 1 (.s (.nil 10 1 3) (.rk (rb 9 [10]) (.loop ⟨(lF i).at (iN k i) k, aa k i k⟩ (gl gU (g2 (gI 1) (g2 (gL 1 9) (gO za.D [0, 1, 2, 3]))) [nSk 9]) (.g 2 (.rk (rb 1000 [8]) .ret)))))))) Tryz.func229
def K229 (k : Nat) : SCon El pG := ⟨C229 k, S229 k, Tryz.call229⟩
def C190 (k : Nat) : Con El := zL 190 tp (fun j => wk k j.1.2.2 j.2.1) 1 1 (fun j t e i => .slice (na i 0) t.1.length (nn e 0)) (fun j t e i => [.sl 1 3 (na i 0) (nn e 0) t.1] ++ za.D.flat j.1.1 j.1.2.1 t.2)
theorem S190 (k : Nat) : (C190 k).Sound pG :=
  fsn mixed (C190 k) (n := 8) (rs := rsOf pG 190) [] [1000, 0, 1, 2, 3] (gj (g2 (gL 1 1000) (gO za.D [0, 1, 2, 3])) [nSk 1000]) (fun i => (.g 1 (.g 2 (.s (.call (K229 k) [.K 0, .K 1, .K 2, .K 3] [4, 0, 1, 2, 3]) (.g 1 (.rk (rb 1000 [4]) .ret)))))) Tryz.func190
def K190 (k : Nat) : SCon El pG := ⟨C190 k, S190 k, Tryz.call190⟩
abbrev BW : List (PK El) := [pV zm.dv zm.val, pV zm.dv zm.val]
def C225 : Con El := zL 225 BW (fun e => uc e.1 e.2.1) 0 0 (fun e t j l => .i t) (fun e t j l => [])
theorem S225 : (C225).Sound pG :=
  fsn mixed (C225) (n := 12) (rs := rsOf pG 225) [] [] (gj (gI 4) []) (fun i => (.s (.new 0 []) (.s (.new 1 []) (.g 1 (.s (.seg 8 [.C 0 1, .C 1 1]) .ret))))) Tryz.func225
def K225 : SCon El pG := ⟨C225, S225, Tryz.call225⟩
abbrev jD : List (PK El) := [pW 5 277, pI .i64, pI .i64, pK (.func (.func 225) #[] #[])]
def C265 (k : Nat) : Con El := dM 265 jD (fun e => zQ k e.1.2.2 e.2.1 e.2.2.1) 0 0 (fun e t i j => .tuple #[]) (fun e t i j => [.sl 5 277 e.1.1 e.1.2.1 t]) (fun e t => [t.length = e.1.2.2.length])
abbrev A3 (k : Nat) (i : Ins jD) : Kn El -> VC (C265 k).T := retC pG (C265 k) (rsOf pG 265) [] [5000] (gj (gL 5 5000) []) i
def lr (e : Ins jD) : BCon El ((List zm)) := ⟨nav [1, 0, 0, 1, 0, 0, 1] (yD pG 265), Int, Int × (List zm), (List zm), (List zm), fun u => .inr u, fun _ _ => none, fun t => [], fun t v_ j l => [(0, .slice e.1.1 v_.2.length e.1.2.1), (1, .i e.2.1), (2, .i e.2.2.1), (3, .func (.func 225) #[] #[]), (8, .i (t)), (9, .i v_.1)], fun t v_ j l => zipL [0] [.sl 5 277 e.1.1 e.1.2.1 v_.2], 0, 0, fun t x j l => [(0, .slice e.1.1 x.length e.1.2.1), (1, .i e.2.1), (2, .i e.2.2.1), (3, .func (.func 225) #[] #[]), (8, .i (t))], fun t x j l => zipL [0] [.sl 5 277 e.1.1 e.1.2.1 x]⟩
def jU (k : Nat) (e : Ins jD) : Nat -> (lr e).X -> (lr e).V -> Option (lr e).W := fun m_ (i : Int) (v_ : Int × (List zm)) => zT e.2.1 e.2.2.1 (i) m_ v_.1 v_.2
theorem aZ (k : Nat) (i : Ins jD) (m : Nat) : ((lr i).at (jU k i) m).Sound pG 265 53 (A3 k i) :=
  lsn mixed (lr i) (id := 2) (body := nav [1, 0, 0, 1, 0, 0, 1, 0, 0] (yD pG 265)) (jU k i) (fun _ => none) (fun u => u) (gj (g2 (gI 9) (gL 5 0)) []) (gj (gL 5 0) []) (fun m => (.join (Bool) 0 0 (gj (gB 34) []) (fun e j l t => ([(34, .bool j)] ++ kp [0, 1, 2, 3, 8, 9] e, ka [0] e)) (.drw (.q [0, 1, 2, 3] [] (.split 21 (.q [4, 5, 6] [] (.s (.idx false 0 (.tmp 24) 107) (.q [7, 8, 9, 10, 11] [.A 107, .X 107 0 0, .X 107 0 1] (.s (.idx false 0 (.tmp 29) 108) (.q [12, 13] [.A 108, .X 108 0 0, .X 108 0 1] (.a 14 (.call K225 [] []) [] (.q [15, 16] [] .leaf))))))) (.q [4, 5, 6, 7, 8, 9, 10, 11, 12, 13, 14, 15, 16] [] .leaf)))) (.cond (.blk (.drw (.q rg_7 [] (.s (.idx false 0 (.tmp 44) 113) (.q [8, 9, 10, 11] [.A 113, .X 113 0 0, .X 113 0 1] (.s (.idx false 0 (.tmp 48) 114) (.q [12, 13] [.A 114, .X 114 0 0, .X 114 0 1] (.s (.idx false 0 (.tmp 38) 115) (.q [14] [.A 115] (.a 15 (.sset 0 115 0) [] (.s (.rls 115 0) (.s (.rls 115 39) (.s (.idx false 0 (.tmp 41) 116) (.q [16] [.A 116] (.a 17 (.sset 0 116 0) [] (.s (.rls 116 0) (.g 3 .back))))))))))))))))) .leaf))) m
def lE (e : Ins jD) : BCon El ((List zm)) := ⟨nav [1] (yD pG 265), Unit, Int × (List zm), (List zm), (List zm), fun u => .inr u, fun _ _ => none, fun t => [], fun t v_ j l => [(0, .slice e.1.1 v_.2.length e.1.2.1), (1, .i e.2.1), (2, .i e.2.2.1), (3, .func (.func 225) #[] #[]), (8, .i v_.1)], fun t v_ j l => zipL [0] [.sl 5 277 e.1.1 e.1.2.1 v_.2], 0, 0, fun t x j l => [], fun t x j l => zipL [0] [.sl 5 277 e.1.1 e.1.2.1 x]⟩
def hO (k : Nat) (e : Ins jD) : Nat -> (lE e).X -> (lE e).V -> Option (lE e).W := fun m_ (i : Unit) (v_ : Int × (List zm)) => zK e.2.1 e.2.2.1 m_ v_.1 v_.2
theorem aB (k : Nat) (i : Ins jD) (m : Nat) : ((lE i).at (hO k i) m).Sound pG 265 53 (A3 k i) :=
  lsn mixed (lE i) (id := 0) (body := nav [1, 0, 0] (yD pG 265)) (hO k i) (fun _ => none) (fun u => u) (gj (g2 (gI 8) (gL 5 0)) []) (gj (gL 5 0) []) (fun m => (.g 3 (.cond (.blk (.g 2 (.loop ⟨(lr i).at (jU k i) m, aZ k i m⟩ (gl (gI 8) (g2 (gI 9) (gL 5 0)) []) (.g 3 .back)))) .leaf))) m
theorem S265 (k : Nat) : (C265 k).Sound pG :=
  fsn mixed (C265 k) (n := 53) (rs := rsOf pG 265) [] [5000] (gj (gL 5 5000) []) (fun i => (.g 3 (.loop ⟨(lE i).at (hO k i) k, aB k i k⟩ (gl gU (g2 (gI 8) (gL 5 0)) []) (.s (.same 0 (i.1.2.2.length)) (.rk (rb 5000 [0]) .leaf))))) Tryz.func265
def K265 (k : Nat) : SCon El pG := ⟨C265 k, S265 k, Tryz.call265⟩
abbrev mP : List (PK El) := [pW 5 277, pI .i64, pK (.func (.func 225) #[] #[])]
def C253 (k : Nat) : Con El := dM 253 mP (fun e => y8 k e.1.2.2 e.2.1) 0 0 (fun e t i j => .tuple #[]) (fun e t i j => [.sl 5 277 e.1.1 e.1.2.1 t]) (fun e t => [t.length = e.1.2.2.length])
abbrev aq (k : Nat) (i : Ins mP) : Kn El -> VC (C253 k).T := retC pG (C253 k) (rsOf pG 253) [] [5000] (gj (gL 5 5000) []) i
def l7 (e : Ins mP) : BCon El ((List zm)) := ⟨nav [1, 1, 0] (yD pG 253), Unit, Int × Int × (List zm), Int × (List zm), Int × (List zm), fun u => .inr u, fun _ _ => none, fun t => [], fun t v_ j l => [(0, .slice e.1.1 v_.2.2.length e.1.2.1), (1, .i e.2.1), (2, .func (.func 225) #[] #[]), (6, .i 20), (7, .i v_.1), (8, .i v_.2.1)], fun t v_ j l => zipL [0] [.sl 5 277 e.1.1 e.1.2.1 v_.2.2], 0, 0, fun t x j l => [(0, .slice e.1.1 x.2.length e.1.2.1), (1, .i e.2.1), (2, .func (.func 225) #[] #[]), (6, .i 20), (7, .i x.1)], fun t x j l => zipL [0] [.sl 5 277 e.1.1 e.1.2.1 x.2]⟩
def iq (k : Nat) (e : Ins mP) : Nat -> (l7 e).X -> (l7 e).V -> Option (l7 e).W := fun m_ (i : Unit) (v_ : Int × Int × (List zm)) => ya e.2.1 m_ v_.1 v_.2.1 v_.2.2
theorem aK (k : Nat) (i : Ins mP) (m : Nat) : ((l7 i).at (iq k i) m).Sound pG 253 63 (aq k i) :=
  lsn mixed (l7 i) (id := 0) (body := nav [1, 1, 0, 0, 0] (yD pG 253)) (iq k i) (fun _ => none) (fun u => u) (gj (g2 (gI 7) (g2 (gI 8) (gL 5 0))) []) (gj (g2 (gI 7) (gL 5 0)) []) (fun m => (.g 3 (.cond (.blk (.g 4 (.s (.call (K265 m) [.K 0] [0]) (.s (.rlp 0 0) (.s (.rlp 14 0) (.g 2 (.g 4 .back))))))) .leaf))) m
def ll (e : Ins mP) : BCon El ((List zm)) := ⟨nav [1, 1, 1, 1, 0, 0, 1, 0, 1, 0] (yD pG 253), (List zm) × Int, Int × Int, Int, Int, fun u => .inr u, fun _ _ => none, fun j => [], fun j v_ l t => [(0, .slice e.1.1 (j.1).length e.1.2.1), (1, .i e.2.1), (2, .func (.func 225) #[] #[]), (6, .i (j.2)), (7, .i v_.1), (8, .i v_.2)], fun j v_ l t => zipL [0] [.sl 5 277 e.1.1 e.1.2.1 (j.1)], 0, 0, fun j x l t => [(0, .slice e.1.1 (j.1).length e.1.2.1), (1, .i e.2.1), (2, .func (.func 225) #[] #[]), (6, .i (j.2)), (7, .i x)], fun j x l t => zipL [0] [.sl 5 277 e.1.1 e.1.2.1 (j.1)]⟩
def iX (k : Nat) (e : Ins mP) : Nat -> (ll e).X -> (ll e).V -> Option (ll e).W := fun m_ (i : (List zm) × Int) (v_ : Int × Int) => xH e.2.1 (i.2) (i.1) m_ v_.1 v_.2
theorem Ac (k : Nat) (i : Ins mP) (m : Nat) : ((ll i).at (iX k i) m).Sound pG 253 63 (aq k i) :=
  lsn mixed (ll i) (id := 4) (body := nav [1, 1, 1, 1, 0, 0, 1, 0, 1, 0, 0, 0] (yD pG 253)) (iX k i) (fun _ => none) (fun u => u) (gj (g2 (gI 7) (gI 8)) []) (gj (gI 7) []) (fun m => (.g 3 (.cond (.blk .dead) .leaf))) m
def lv (e : Ins mP) : BCon El ((List zm)) := ⟨nav [1, 1, 1, 1] (yD pG 253), (List zm), Int, Unit, Unit, fun u => .inr u, fun _ _ => none, fun j => [], fun j v_ l t => [(0, .slice e.1.1 (j).length e.1.2.1), (1, .i e.2.1), (2, .func (.func 225) #[] #[]), (6, .i v_)], fun j v_ l t => zipL [0] [.sl 5 277 e.1.1 e.1.2.1 (j)], 0, 0, fun j x l t => [], fun j x l t => zipL [0] [.sl 5 277 e.1.1 e.1.2.1 (j)]⟩
def hQ (k : Nat) (e : Ins mP) : Nat -> (lv e).X -> (lv e).V -> Option (lv e).W := fun m_ (i : (List zm)) (v_ : Int) => yk e.2.1 (i) m_ v_
theorem Ab (k : Nat) (i : Ins mP) (m : Nat) : ((lv i).at (hQ k i) m).Sound pG 253 63 (aq k i) :=
  lsn mixed (lv i) (id := 2) (body := nav [1, 1, 1, 1, 0, 0] (yD pG 253)) (hQ k i) (fun _ => none) (fun u => u) (gj (gI 6) []) (gj gU []) (fun m => (.g 3 (.cond (.blk (.g 4 (.loop ⟨(ll i).at (iX k i) m, Ac k i m⟩ (gl (g2 (gL 5 0) (gI 6)) (g2 (gI 7) (gI 8)) []) (.g 4 (.g 3 (.join (Unit) 0 0 (gj gU []) (fun e t j l => ([] ++ kp [0, 1, 2, 6] e, ka [0] e)) (.cond .dead .leaf) (.g 3 .back))))))) .leaf))) m
theorem S253 (k : Nat) : (C253 k).Sound pG :=
  fsn mixed (C253 k) (n := 63) (rs := rsOf pG 253) [] [5000] (gj (gL 5 5000) []) (fun i => (.g 1 (.g 3 (.loop ⟨(l7 i).at (iq k i) k, aK k i k⟩ (gl gU (g2 (gI 7) (g2 (gI 8) (gL 5 0))) []) (.g 4 (.s (.call (K265 k) [.K 0] [0]) (.s (.rlp 0 0) (.s (.rlp 23 0) (.loop ⟨(lv i).at (hQ k i) k, Ab k i k⟩ (gl (gL 5 0) (gI 6) []) (.s (.same 0 (i.1.2.2.length)) (.rk (rb 5000 [0]) .leaf))))))))))) Tryz.func253
def K253 (k : Nat) : SCon El pG := ⟨C253 k, S253 k, Tryz.call253⟩
abbrev B1 : List (PK El) := [pW 5 277, pK (.func (.func 225) #[] #[])]
def C224 (k : Nat) : Con El := dM 224 B1 (fun e => yG k e.1.2.2) 0 0 (fun e t i j => .tuple #[]) (fun e t i j => [.sl 5 277 e.1.1 e.1.2.1 t]) (fun e t => [t.length = e.1.2.2.length])
theorem S224 (k : Nat) : (C224 k).Sound pG :=
  fsn mixed (C224 k) (n := 9) (rs := rsOf pG 224) [] [5000] (gj (gL 5 5000) []) (fun i => (.g 4 (.s (.call (K253 k) [.K 0] [0]) (.s (.rlp 4 0) (.s (.same 0 (i.1.2.2.length)) (.rk (rb 5000 [0]) .leaf)))))) Tryz.func224
def K224 (k : Nat) : SCon El pG := ⟨C224 k, S224 k, Tryz.call224⟩
def C231 : Con El := zL 231 wQ (fun e => ur e.1.2.2 e.2.1 e.2.2.1) 0 0 (fun e t i j => .tuple #[]) (fun e t i j => za.D.flat e.1.1 e.1.2.1 t)
theorem S231 : (C231).Sound pG :=
  fsn mixed (C231) (n := 20) (rs := rsOf pG 231) [] [0, 1, 2, 3] (gj (gO za.D [0, 1, 2, 3]) []) (fun i => (.g 4 (.s (.call K196 [.K 0, .K 1, .K 2, .K 3] [0, 1, 2, 3]) (.s (.call K130 [.K 0, .K 1, .K 2, .K 3] [0, 1, 2, 3]) (.g 3 (.s (.call K130 [.K 0, .K 1, .K 2, .K 3] [0, 1, 2, 3]) (.g 3 (.s (.call K130 [.K 0, .K 1, .K 2, .K 3] [0, 1, 2, 3]) .leaf)))))))) Tryz.func231
def K231 : SCon El pG := ⟨C231, S231, Tryz.call231⟩
def C226 (k : Nat) : Con El := zL 226 Az (fun e => uU k e.1.2.2 e.2.1 e.2.2.1 e.2.2.2.1) 0 0 (fun e t j l => .i t.1) (fun e t j l => za.D.flat e.1.1 e.1.2.1 t.2)
theorem S226 (k : Nat) : (C226 k).Sound pG :=
  fsn mixed (C226 k) (n := 25) (rs := rsOf pG 226) [] [0, 1, 2, 3] (gj (g2 (gI 8) (gO za.D [0, 1, 2, 3])) []) (fun i => (.g 1 (.g 3 (.s (.call (K210 k) [.K 0, .K 1, .K 2, .K 3] [0, 1, 2, 3]) (.join (Int × Int) 0 0 (gj (g2 (gI 1) (gI 2)) []) (fun e j l t => ([(1, .i j.1), (2, .i j.2)] ++ kp [0, 3] e, ka [0, 1, 2, 3] e)) (.cond (.g 4 .leaf) .leaf) (.g 3 (.s (.call K231 [.K 0, .K 1, .K 2, .K 3] [0, 1, 2, 3]) (.g 4 (.s (.call K130 [.K 0, .K 1, .K 2, .K 3] [0, 1, 2, 3]) (.g 2 .ret)))))))))) Tryz.func226
def K226 (k : Nat) : SCon El pG := ⟨C226 k, S226 k, Tryz.call226⟩
theorem tB {w0 w : World} {As : List HP} {x : Option Addr} {l : Nat} {s : List zm} {i : Int} {B : Option Addr} {z : Nat} {v : List zm} {t : List zm} (hm : qV s i v = some t) (H : St w0 (Sl 277 zm.enc 2 x l s :: Sl 277 zm.enc 2 B z v :: As) w) :
    yz pG 227 #[.slice x s.length l, .i i, .slice B v.length z] w fun u w' => ∃ (b4 : Option Addr) (b5 : Nat), u = .slice b4 t.length b5 /\ St w0 (Sl 277 zm.enc 2 b4 b5 t :: As) w' := by
  unfold qV at hm;split at hm
  · rename_i hI;cases hm;obtain ⟨h0, h1, d1⟩ := hI;obtain ⟨q, rfl⟩ := Int.eq_ofNat_of_zero_le h0;have hq : q <= s.length := by omega
    have he := zm.zU;have hcs := (H.oQ 0 rfl)
    have f2 := (H.oQ 1 rfl)
    refine enter (args := [.slice x s.length l, .i (q : Int), .slice B v.length z]) Tryz.func227 rfl rfl rfl fun a y => ?_
    refine Runs.seq ?_;refine Runs.region ?_;refine WR.seg y 1 [] [0, 1, 2] (Lo := [(0, .slice x s.length l), (1, .i (q : Int)), (2, .slice B v.length z)]) (obs := []) rfl (by kernel_rfl) trivial fun a y => ?_
    refine WR.done rfl ?_;refine Runs.seq ?_;refine Runs.region ?_;refine WR.seg y 3 [.slice (yF x l q 2) (s.length - q) (l - q)] [0, 1, 2] (Lo := [(0, .slice x s.length l), (1, .i (q : Int)), (2, .slice B v.length z)])
      (obs := [.p (yF x l q 2 = yF x l q 2), .p (s.length - q = s.length - q), .p (l - q = l - q), .p (0 <= (q : Int) /\ (q : Int) <= (s.length : Int))]) rfl (by kernel_rfl) ⟨rfl, rfl, rfl, ⟨h0, h1⟩, trivial⟩ fun a y => ?_
    refine WR.done rfl ?_;refine Runs.seq ?_;refine Runs.region ?_;refine WR.seg y 3 [] [0, 1, 2, 7] (Lo := [(0, .slice x s.length l), (1, .i (q : Int)), (2, .slice B v.length z), (7, .i (v.length : Int))]) (obs := []) rfl (by kernel_rfl) trivial fun a y => ?_
    refine WR.done rfl ?_;refine Runs.seq ?_;refine Runs.seq ?_;refine Runs.region ?_;refine WR.seg y 2 [] [0, 1, 2, 7, 16] (Lo := [(0, .slice x s.length l), (1, .i (q : Int)), (2, .slice B v.length z), (7, .i (v.length : Int)), (16, .bool ((v.length : Int) == 0))]) (obs := []) rfl (by kernel_rfl) trivial fun a y => ?_
    refine WR.done rfl ?_;refine Runs.cond y rfl (fun c => ?_) (fun c => ?_)
    · have hv : v = [] := List.eq_nil_of_length_eq_zero (by simpa using c);refine Runs.seq ?_;refine Runs.region ?_;refine WR.seg y 2 [] [6] (Lo := [(6, .slice x s.length l)]) (obs := []) rfl (by kernel_rfl) trivial fun a y => ?_
      refine WR.done rfl ?_;refine Runs.ret y Tryz.func227 rfl rfl ?_;subst hv;have e : s.take q ++ ([] ++ s.drop q) = s := by simp
      simp only [tN];rw [e];exact ⟨_, _, rfl, H.x1⟩
    · have d2 : 0 < v.length := by have := c; simp at this; exact List.length_pos_iff.2 this
      refine Runs.skip ?_;refine Runs.seq ?_;refine Runs.region ?_;refine WR.seg y 3 [] [0, 1, 2, 7, 8] (Lo := [(0, .slice x s.length l), (1, .i (q : Int)), (2, .slice B v.length z), (7, .i (v.length : Int)), (8, .i (s.length : Int))]) (obs := []) rfl (by kernel_rfl) trivial fun a y => ?_
      refine WR.done rfl ?_;refine Runs.seq ?_;refine Runs.seq ?_;refine Runs.region ?_;refine WR.seg y 3 [] [0, 1, 2, 7, 8, 22] (Lo := [(0, .slice x s.length l), (1, .i (q : Int)), (2, .slice B v.length z), (7, .i (v.length : Int)), (8, .i (s.length : Int)), (22, .bool ((q : Int) == (s.length : Int)))]) (obs := []) rfl (by kernel_rfl) trivial fun a y => ?_
      refine WR.done rfl ?_;refine Runs.cond y rfl (fun c2 => ?_) (fun c2 => ?_)
      · have b6 : q = s.length := by have := c2; simp at this; omega
        refine Runs.seq ?_;refine Runs.region ?_;refine WR.seg y 2 [] [23, 24] (Lo := [(23, .slice x s.length l), (24, .slice B v.length z)]) (obs := []) rfl (by kernel_rfl) trivial fun a y => ?_
        have b7 : mApp s v = some (s ++ v) := by unfold mApp; rw [if_pos d1]
        refine WR.eff y rfl rfl rfl rfl (OpTo.rI b7 y H he rfl rfl rfl rfl rfl rfl rfl rfl rfl rfl (SlRd.all (yN 277 zm.enc 2 B z v) he H 1 rfl) rfl) ?_;rintro _ w ⟨sb, sc, rfl, H⟩ a y;refine WR.seg y 4 [] [6] (Lo := [(6, .slice sb (s ++ v).length sc)]) (obs := []) rfl (by kernel_rfl) trivial fun a y => ?_
        refine WR.done rfl ?_;refine Runs.ret y Tryz.func227 rfl rfl ?_;subst b6;have e : s.take s.length ++ (v ++ s.drop s.length) = s ++ v := by simp
        simp only [tN];rw [e];exact ⟨_, _, rfl, H.x1⟩
      · have b6 : q < s.length := by have := c2; simp at this; omega
        have W : w64 ((s.length : Int) + (v.length : Int)) = ((s.length + v.length : Nat) : Int) := by unfold w64; rw [ob (by omega) (by omega)]; omega
        have F : w64 ((q : Int) + (v.length : Int)) = ((q + v.length : Nat) : Int) := by unfold w64; rw [ob (by omega) (by omega)]; omega
        have d4 : w64 (((s.length + v.length : Nat) : Int) - (q : Int)) = ((s.length + v.length - q : Nat) : Int) := by unfold w64; rw [ob (by omega) (by omega)]; omega
        have a4 := yv he s;have J := yv he v;have D := yv he (s.take q);have O := yv he (s.drop q);have a2 : s.flatMap zm.enc = (s.take q).flatMap zm.enc ++ (s.drop q).flatMap zm.enc := by rw [<- List.flatMap_append, List.take_append_drop]
        simp only [List.length_take, List.length_drop] at D O;rw [Nat.min_eq_left hq] at D;refine Runs.skip ?_;refine Runs.seq ?_;refine Runs.seq ?_;refine Runs.region ?_;refine WR.seg y 6 [] [0, 1, 2, 7, 8, 31] (Lo := [(0, .slice x s.length l), (1, .i (q : Int)), (2, .slice B v.length z), (7, .i (v.length : Int)), (8, .i (s.length : Int)), (31, .bool (decide (w64 ((s.length : Int) + (v.length : Int)) > (l : Int))))]) (obs := []) rfl (by kernel_rfl) trivial fun a y => ?_
        refine WR.done rfl ?_;refine Runs.cond y rfl (fun c3 => ?_) (fun c3 => ?_)
        · have f3 : l < s.length + v.length := by have := c3; rw [W] at this; simp only [decide_eq_true_eq] at this; omega
          refine Runs.seq ?_;refine Runs.region ?_;refine WR.seg y 8 [.slice (yF x l 0 2) q l] [0, 1, 2, 7, 34, 39] (Lo := [(0, .slice x s.length l), (1, .i (q : Int)), (2, .slice B v.length z), (7, .i (v.length : Int)), (34, .slice (yF x l 0 2) q l), (39, .i (w64 (w64 ((s.length : Int) + (v.length : Int)) - (q : Int))))])
            (obs := [.p (yF x l 0 2 = yF x l 0 2), .p (q - 0 = q), .p (l - 0 = l), .p (0 <= (q : Int) /\ (q : Int) <= (l : Int))]) rfl (by kernel_rfl) ⟨rfl, rfl, rfl, ⟨h0, by omega⟩, trivial⟩ fun a y => ?_
          rw [W, d4] at y;have d6 : yF x l 0 2 = x := by
            unfold yF;split
            · rfl
            · cases x <;> simp [Addr.add]
          rw [d6] at y;have b8 : Rd w x ((s.take q).flatMap zm.enc) := by
            rcases SlRd.all (yN 277 zm.enc 2 x l s) he H 0 rfl with h | ⟨xa, h1, h2⟩
            · exfalso;have f5 : s.length * 2 = 0 := by rw [<- a4, h]; rfl
              omega
            · exact .inr ⟨xa, h1, fun j u hj => h2 j u (by rw [a2]; exact List.getElem?_append_left (List.getElem?_eq_some_iff.1 hj).1 ▸ hj)⟩
          refine WR.eff y rfl rfl rfl rfl (OpTo.aC (sz := 2) ((s.take q).flatMap zm.enc) y H rfl rfl rfl rfl rfl rfl rfl rfl rfl (by decide) b8 (by rw [D]) (by omega) (by omega) (by omega) rfl) ?_;rintro _ w ⟨r, I, Z, rfl, b9, d7, hZ, H⟩ a y;have hlen : q + (s.length + v.length - q) = s.length + v.length := by omega
          rw [hlen] at y b9;refine WR.seg y 10 [] [0, 1, 2, 7, 9] (Lo := [(0, .slice x s.length l), (1, .i (q : Int)), (2, .slice B v.length z), (7, .i (v.length : Int)), (9, .slice (some ⟨r, 0, none⟩) (s.length + v.length) I)]) (obs := []) rfl (by kernel_rfl) trivial fun a y => ?_
          refine WR.done rfl ?_;obtain ⟨Z1, Z2, Z3, e0, a5, a6⟩ : ∃ Z1 Z2 Z3 : List Value, Z = Z1 ++ (Z2 ++ Z3) /\ Z1.length = v.length * 2 /\ Z2.length = (s.length - q) * 2 := by
            refine ⟨Z.take (v.length * 2), (Z.drop (v.length * 2)).take ((s.length - q) * 2), (Z.drop (v.length * 2)).drop ((s.length - q) * 2), by rw [List.take_append_drop, List.take_append_drop], ?_, ?_⟩ <;> simp only [List.length_take, List.length_drop, hZ] <;> omega
          subst e0;refine Runs.seq ?_;refine Runs.region ?_;refine WR.seg y 4 [.slice (some ⟨r, 0 + q * 2, none⟩) (s.length + v.length - q) (I - q)] [0, 1, 2, 7, 9, 43, 44] (Lo := [(0, .slice x s.length l), (1, .i (q : Int)), (2, .slice B v.length z), (7, .i (v.length : Int)), (9, .slice (some ⟨r, 0, none⟩) (s.length + v.length) I), (43, .slice (some ⟨r, 0 + q * 2, none⟩) (s.length + v.length - q) (I - q)), (44, .slice B v.length z)])
            (obs := [.p (yF (some ⟨r, 0, none⟩) I q 2 = some ⟨r, 0 + q * 2, none⟩), .p (s.length + v.length - q = s.length + v.length - q), .p (I - q = I - q), .p (0 <= (q : Int) /\ (q : Int) <= ((s.length + v.length : Nat) : Int))]) rfl (by kernel_rfl) ⟨(by show _ = _; unfold yF; rw [if_neg (by omega)]; simp [vS]), rfl, rfl, ⟨h0, by omega⟩, trivial⟩ fun a y => ?_
          refine WR.eff y rfl rfl rfl rfl (OpTo.kD (sz := 2) (v.flatMap zm.enc) y H rfl rfl rfl rfl rfl rfl (SlRd.all (yN 277 zm.enc 2 B z v) he H 2 rfl) (by rw [J]; congr 1; simp only [Nat.min_def]; split <;> omega) (qD he v) (by simp only [lA, D, J, a5]; omega)) ?_;rintro _ w ⟨⟨kk, rfl⟩, H⟩ a y;rw [qy _ _ _ _ _ (by rw [D]; omega) (by rw [J, a5])] at H;refine WR.done rfl ?_;replace y := y.sel [0, 1, 2, 7, 9] (Lo := [(0, .slice x s.length l), (1, .i (q : Int)), (2, .slice B v.length z), (7, .i (v.length : Int)), (9, .slice (some ⟨r, 0, none⟩) (s.length + v.length) I)]) (by kernel_rfl);refine Runs.seq ?_;refine Runs.drawn mixed (by kernel_rfl) ?_;replace H := H.drew;obtain ⟨b, off, A, R, rfl, hA, _, _, hR, H2⟩ := (H.t1).iM he (by omega);have c1 : yF (some ⟨b, off, none⟩ : Option Addr) l q 2 = some ⟨b, off + q * 2, none⟩ := by unfold yF; rw [if_neg (by omega)]; simp [vS]
          refine WQ.seg y rg_7 [.slice (some ⟨r, 0 + (q + v.length) * 2, none⟩) (s.length - q) (I - (q + v.length)), .slice (some ⟨b, off + q * 2, none⟩) (s.length - q) (l - q)] [9, 50, 53] (Lo := [(9, .slice (some ⟨r, 0, none⟩) (s.length + v.length) I), (50, .slice (some ⟨r, 0 + (q + v.length) * 2, none⟩) (s.length - q) (I - (q + v.length))), (53, .slice (some ⟨b, off + q * 2, none⟩) (s.length - q) (l - q))])
            (obs := [.p (yF (some ⟨r, 0, none⟩) I (Int.toNat (w64 ((q : Int) + (v.length : Int)))) 2 = some ⟨r, 0 + (q + v.length) * 2, none⟩), .p (s.length + v.length - Int.toNat (w64 ((q : Int) + (v.length : Int))) = s.length - q), .p (I - Int.toNat (w64 ((q : Int) + (v.length : Int))) = I - (q + v.length)), .p (0 <= w64 ((q : Int) + (v.length : Int)) /\ w64 ((q : Int) + (v.length : Int)) <= ((s.length + v.length : Nat) : Int)),
              .p (yF (some ⟨b, off, none⟩) l q 2 = some ⟨b, off + q * 2, none⟩), .p (s.length - q = s.length - q), .p (l - q = l - q), .p (0 <= (q : Int) /\ (q : Int) <= (s.length : Int))]) (by kernel_rfl) (by kernel_rfl)
            ⟨(by show _ = _; rw [F, tN]; unfold yF; rw [if_neg (by omega)]; simp [vS]), (by show _ - _ = _; rw [F, tN]; omega), (by show _ - _ = _; rw [F, tN]), (by show _ /\ _; rw [F]; constructor <;> omega), c1, rfl, rfl, ⟨h0, h1⟩, trivial⟩ fun a y => ?_
          have X : Rd { w with drawn := w.drawn + 1 } (some ⟨b, off + q * 2, none⟩) ((s.drop q).flatMap zm.enc) := ax (H2) 0 rfl (off := off + q * 2) fun j u hj => by
            rw [a2, aA, <- aA A, List.getElem?_append_right (by simp only [lA, hA, D]; omega)];simp only [lA, hA, D];rw [List.getElem?_append_left (by have := (List.getElem?_eq_some_iff.1 hj).1; omega)];rw [<- hj]; congr 1; omega
          refine WQ.eff (j := 8) (obs := []) y (by kernel_rfl) rfl rfl rfl rfl (by kernel_rfl) (OpTo.kD (sz := 2) ((s.drop q).flatMap zm.enc) y H2.t1 rfl rfl rfl rfl rfl rfl X (by rw [O]; congr 1; simp only [Nat.min_def]; split <;> omega) (qD he _) (by simp only [lA, D, J, a6, O, Nat.add_mul]; omega)) ?_;rintro _ w ⟨⟨e1, rfl⟩, H⟩;refine ⟨trivial, fun a y => ?_⟩;refine WQ.done (by kernel_rfl) ?_;rw [<- aA, qy _ _ _ _ _ (by simp only [lA, D, J, Nat.add_mul]; omega) (by rw [O, a6])] at H;refine Runs.seq ?_;refine Runs.region ?_;refine WR.seg y 2 [] [6] (Lo := [(6, .slice (some ⟨r, 0, none⟩) (s.length + v.length) I)]) (obs := []) rfl (by kernel_rfl) trivial fun a y => ?_
          refine WR.done rfl ?_;refine Runs.ret y Tryz.func227 rfl rfl ?_;simp only [tN];have U : (s.take q ++ (v ++ s.drop q)).length = s.length + v.length := by simp; omega
          have Y : (s.take q).flatMap zm.enc ++ v.flatMap zm.enc ++ ((s.drop q).flatMap zm.enc ++ Z3) = [] ++ ((s.take q ++ (v ++ s.drop q)).flatMap zm.enc ++ Z3) := by simp [aA]
          rw [Y] at H;have e2 : (I - (s.take q ++ (v ++ s.drop q)).length) * 2 <= Z3.length := by
            simp only [lA, a5, a6] at hZ;rw [U]; omega
          have H3 := St.bT H he (sc := I) (by rw [U]; exact b9) d7 e2;exact ⟨some ⟨r, 0, none⟩, I, by rw [U]; rfl, H3.x1.x1⟩
        · have a7 : s.length + v.length <= l := by have := c3; rw [W] at this; simp only [decide_eq_false_iff_not] at this; omega
          obtain ⟨b, off, A, R, rfl, hA, _, c4, hR, H1⟩ := H.iM he (by omega);obtain ⟨R1, R2, e3, a8⟩ : ∃ R1 R2 : List Value, R = R1 ++ R2 /\ R1.length = v.length * 2 := by
            have : v.length * 2 <= (l - s.length) * 2 := Nat.mul_le_mul_right _ (by omega);exact ⟨R.take (v.length * 2), R.drop (v.length * 2), by rw [List.take_append_drop], by simp only [List.length_take]; omega⟩
          subst e3;have S : ∀ k : Nat, k < l -> yF (some ⟨b, off, none⟩ : Option Addr) l k 2 = some ⟨b, off + k * 2, none⟩ := fun k hk => by unfold yF; rw [if_neg (by omega)]; simp [vS]
          have c5 : yF (some ⟨b, off, none⟩ : Option Addr) l 0 2 = some ⟨b, off, none⟩ := by rw [S 0 (by omega)]; simp
          refine Runs.skip ?_;refine Runs.seq ?_;refine Runs.region ?_;refine WR.seg y 6 [.slice (some ⟨b, off, none⟩) (s.length + v.length) l] [0, 1, 2, 7] (Lo := [(0, .slice (some ⟨b, off, none⟩) (s.length + v.length) l), (1, .i (q : Int)), (2, .slice B v.length z), (7, .i (v.length : Int))])
            (obs := [.p (yF (some ⟨b, off, none⟩) l 0 2 = some ⟨b, off, none⟩), .p (Int.toNat (w64 ((s.length : Int) + (v.length : Int))) - 0 = s.length + v.length), .p (l - 0 = l), .p (0 <= w64 ((s.length : Int) + (v.length : Int)) /\ w64 ((s.length : Int) + (v.length : Int)) <= (l : Int))]) rfl (by kernel_rfl)
            ⟨c5, (by show _ - 0 = _; rw [W, tN]; rfl), rfl, (by show _ /\ _; rw [W]; constructor <;> omega), trivial⟩ fun a y => ?_
          refine WR.done rfl ?_;obtain ⟨vb, vo, Av, Rv, rfl, e4, _, _, f6, Hv⟩ := (H1.t1).iM he d2;have e5 : vb ≠ b := by
            obtain ⟨g1, g2, gd, s1, s2, e6, g3, g4, f7, s3, s4, e7, _⟩ := Hv.heap;intro h;subst h;rcases gd vb with e | e
            · have : g1 vb = _ := e6;rw [this] at e; cases e
            · have : g3 vb = _ := e7;have := s3 _ _ this;rw [e] at this; cases this
          refine Runs.seq ?_;refine Runs.seq ?_;refine Runs.region ?_;refine WR.seg y 6 [.slice (yF (some ⟨b, off, none⟩) l (q + v.length) 2) (s.length - q) (l - (q + v.length))] [0, 1, 2, 7, 61, 66] (Lo := [(0, .slice (some ⟨b, off, none⟩) (s.length + v.length) l), (1, .i (q : Int)), (2, .slice (some ⟨vb, vo, none⟩) v.length z), (7, .i (v.length : Int)), (61, .slice (some ⟨vb, vo, none⟩) v.length z), (66, .slice (yF (some ⟨b, off, none⟩) l (q + v.length) 2) (s.length - q) (l - (q + v.length)))])
            (obs := [.p (yF (some ⟨b, off, none⟩) l (Int.toNat (w64 ((q : Int) + (v.length : Int)))) 2 = yF (some ⟨b, off, none⟩) l (q + v.length) 2), .p (s.length + v.length - Int.toNat (w64 ((q : Int) + (v.length : Int))) = s.length - q), .p (l - Int.toNat (w64 ((q : Int) + (v.length : Int))) = l - (q + v.length)), .p (0 <= w64 ((q : Int) + (v.length : Int)) /\ w64 ((q : Int) + (v.length : Int)) <= ((s.length + v.length : Nat) : Int))]) rfl (by kernel_rfl)
            ⟨(by show _ = _; rw [F, tN]), (by show _ - _ = _; rw [F, tN]; omega), (by show _ - _ = _; rw [F, tN]), (by show _ /\ _; rw [F]; constructor <;> omega), trivial⟩ fun a y => ?_
          rw [S (q + v.length) (by omega)] at y;refine WR.eff y rfl rfl rfl rfl (OpTo.fS (tS := 275) (tR := 4) (e := 277) y Hv 0 1 rfl rfl e5 (by simp only [List.size_toArray, lA, a4]; omega) rfl rfl (fn := Tryz.f254) (by kernel_rfl) (by kernel_rfl) (by kernel_rfl) (by kernel_rfl) (by kernel_rfl) rfl rfl) ?_;rintro _ w ⟨rfl, ew⟩ a y;subst ew;refine WR.seg y 8 [] [0, 1, 2, 7, 68] (Lo := [(0, .slice (some ⟨b, off, none⟩) (s.length + v.length) l), (1, .i (q : Int)), (2, .slice (some ⟨vb, vo, none⟩) v.length z), (7, .i (v.length : Int)), (68, .bool true)]) (obs := []) rfl (by kernel_rfl) trivial fun a y => ?_
          refine WR.done rfl ?_;refine Runs.sR y rfl ?_;refine Runs.seq ?_;refine Runs.drawn mixed (by kernel_rfl) ?_;replace Hv := Hv.drew;refine WQ.seg y rg_7 [.slice (some ⟨b, off + (q + v.length) * 2, none⟩) (s.length - q) (l - (q + v.length)), .slice (some ⟨b, off + q * 2, none⟩) (s.length + v.length - q) (l - q)] [0, 1, 2, 73, 76] (Lo := [(0, .slice (some ⟨b, off, none⟩) (s.length + v.length) l), (1, .i (q : Int)), (2, .slice (some ⟨vb, vo, none⟩) v.length z), (73, .slice (some ⟨b, off + (q + v.length) * 2, none⟩) (s.length - q) (l - (q + v.length))), (76, .slice (some ⟨b, off + q * 2, none⟩) (s.length + v.length - q) (l - q))])
            (obs := [.p (yF (some ⟨b, off, none⟩) l (Int.toNat (w64 ((q : Int) + (v.length : Int)))) 2 = some ⟨b, off + (q + v.length) * 2, none⟩), .p (s.length + v.length - Int.toNat (w64 ((q : Int) + (v.length : Int))) = s.length - q), .p (l - Int.toNat (w64 ((q : Int) + (v.length : Int))) = l - (q + v.length)), .p (0 <= w64 ((q : Int) + (v.length : Int)) /\ w64 ((q : Int) + (v.length : Int)) <= ((s.length + v.length : Nat) : Int)),
              .p (yF (some ⟨b, off, none⟩) l q 2 = some ⟨b, off + q * 2, none⟩), .p (s.length + v.length - q = s.length + v.length - q), .p (l - q = l - q), .p (0 <= (q : Int) /\ (q : Int) <= ((s.length + v.length : Nat) : Int))]) (by kernel_rfl) (by kernel_rfl)
            ⟨(by show _ = _; rw [F, tN]; exact S _ (by omega)), (by show _ - _ = _; rw [F, tN]; omega), (by show _ - _ = _; rw [F, tN]), (by show _ /\ _; rw [F]; constructor <;> omega), S q (by omega), rfl, rfl, ⟨h0, by omega⟩, trivial⟩ fun a y => ?_
          have X : Rd { w with drawn := w.drawn + 1 } (some ⟨b, off + q * 2, none⟩) ((s.drop q).flatMap zm.enc) := ax Hv 1 rfl (off := off + q * 2) fun j u hj => by
            rw [a2, aA, <- aA A, List.getElem?_append_right (by simp only [lA, hA, D]; omega)];simp only [lA, hA, D];rw [List.getElem?_append_left (by have := (List.getElem?_eq_some_iff.1 hj).1; omega)];rw [<- hj]; congr 1; omega
          refine WQ.eff (j := 8) (obs := []) y (by kernel_rfl) rfl rfl rfl rfl (by kernel_rfl) (OpTo.kD (sz := 2) ((s.drop q).flatMap zm.enc) y Hv.t1 rfl rfl rfl rfl rfl rfl X (by rw [O]; congr 1; simp only [Nat.min_def]; split <;> omega) (qD he _) (by simp only [lA, hA, a4, a8, O, Nat.add_mul]; rw [Nat.sub_mul]; have : q * 2 <= s.length * 2 := Nat.mul_le_mul_right _ hq; omega)) ?_;rintro _ w ⟨⟨e1, rfl⟩, H⟩;refine ⟨trivial, fun a y => ?_⟩;refine WQ.done (by kernel_rfl) ?_;obtain ⟨X1, X2, hX, a9, hX2⟩ : ∃ X1 X2 : List Value, (s.drop q).flatMap zm.enc ++ R1 = X1 ++ X2 /\ X1.length = v.length * 2 /\ X2.length = (s.length - q) * 2 := by
            refine ⟨((s.drop q).flatMap zm.enc ++ R1).take (v.length * 2), ((s.drop q).flatMap zm.enc ++ R1).drop (v.length * 2), by rw [List.take_append_drop], ?_, ?_⟩ <;> simp only [List.length_take, List.length_drop, lA, O, a8] <;> omega
          have c6 : A ++ (s.flatMap zm.enc ++ (R1 ++ R2)) = (A ++ ((s.take q).flatMap zm.enc ++ X1)) ++ (X2 ++ R2) := by
            rw [a2]
            calc A ++ (((s.take q).flatMap zm.enc ++ (s.drop q).flatMap zm.enc) ++ (R1 ++ R2)) = A ++ ((s.take q).flatMap zm.enc ++ (((s.drop q).flatMap zm.enc ++ R1) ++ R2)) := by simp [aA]
              _ = _ := by rw [hX]; simp [aA]
          rw [c6, qy _ _ _ _ _ (by simp only [lA, hA, D, a9, Nat.add_mul, Nat.add_assoc]) (by rw [O, hX2])] at H;have b0 : (A ++ ((s.take q).flatMap zm.enc ++ X1)) ++ ((s.drop q).flatMap zm.enc ++ R2) = (A ++ (s.take q).flatMap zm.enc) ++ (X1 ++ ((s.drop q).flatMap zm.enc ++ R2)) := by simp [aA]
          rw [b0] at H;refine Runs.seq ?_;refine Runs.region ?_;refine WR.seg y 4 [.slice (some ⟨b, off + q * 2, none⟩) (s.length + v.length - q) (l - q)] [0, 80, 81] (Lo := [(0, .slice (some ⟨b, off, none⟩) (s.length + v.length) l), (80, .slice (some ⟨b, off + q * 2, none⟩) (s.length + v.length - q) (l - q)), (81, .slice (some ⟨vb, vo, none⟩) v.length z)])
            (obs := [.p (yF (some ⟨b, off, none⟩) l q 2 = some ⟨b, off + q * 2, none⟩), .p (s.length + v.length - q = s.length + v.length - q), .p (l - q = l - q), .p (0 <= (q : Int) /\ (q : Int) <= ((s.length + v.length : Nat) : Int))]) rfl (by kernel_rfl) ⟨S q (by omega), rfl, rfl, ⟨h0, by omega⟩, trivial⟩ fun a y => ?_
          have c7 : Rd w (some ⟨vb, vo, none⟩) (v.flatMap zm.enc) := ax H 1 rfl fun j u hj => by
            rw [List.getElem?_append_right (by omega), e4, Nat.add_sub_cancel_left, List.getElem?_append_left (List.getElem?_eq_some_iff.1 hj).1];exact hj
          refine WR.eff y rfl rfl rfl rfl (OpTo.kD (sz := 2) (v.flatMap zm.enc) y H rfl rfl rfl rfl rfl rfl c7 (by rw [J]; congr 1; simp only [Nat.min_def]; split <;> omega) (qD he v) (by simp only [lA, hA, D, a9, J]; omega)) ?_;rintro _ w ⟨⟨g0, rfl⟩, H⟩ a y;rw [qy _ _ _ _ _ (by simp only [lA, hA, D]) (by rw [J, a9])] at H;refine WR.done rfl ?_;refine Runs.seq ?_;refine Runs.region ?_;refine WR.seg y 2 [] [6] (Lo := [(6, .slice (some ⟨b, off, none⟩) (s.length + v.length) l)]) (obs := []) rfl (by kernel_rfl) trivial fun a y => ?_
          refine WR.done rfl ?_;refine Runs.ret y Tryz.func227 rfl rfl ?_;simp only [tN];have U : (s.take q ++ (v ++ s.drop q)).length = s.length + v.length := by simp; omega
          have Y : (A ++ (s.take q).flatMap zm.enc) ++ (v.flatMap zm.enc ++ ((s.drop q).flatMap zm.enc ++ R2)) = A ++ ((s.take q ++ (v ++ s.drop q)).flatMap zm.enc ++ R2) := by simp [aA]
          rw [Y] at H;have hR2 : (l - (s.take q ++ (v ++ s.drop q)).length) * 2 <= R2.length := by
            simp only [lA, a8] at hR;rw [U]; omega
          have H3 := St.bT H he (sc := l) (by rw [U]; exact a7) c4 hR2;rw [hA] at H3;exact ⟨some ⟨b, off, none⟩, l, by rw [U]; rfl, H3.x1⟩
  · cases hm
abbrev Bx : List (PK El) := [pW 5 277, pI .i64, pW 5 277]
def C227 : Con El := zL 227 Bx (fun j => qV j.1.2.2 j.2.1 j.2.2.1.2.2) 1 1 (fun j t e i => .slice (na i 0) t.length (nn e 0)) (fun j t e i => [.sl 5 277 (na i 0) (nn e 0) t])
theorem S227 : (C227).Sound pG := fun e t hm w0 w F hr H => by
  obtain ⟨⟨b0, i, x0⟩, x1, ⟨j, l, x2⟩, _⟩ := e;have u : St w0 (Sl 277 zm.enc 2 b0 i x0 :: Sl 277 zm.enc 2 j l x2 :: F) w := by
    exact H
  refine (tB (show qV x0 x1 x2 = some t from hm) u).mono ?_;rintro v w' ⟨e0, x, hv, H⟩;refine ⟨[x], [e0], rfl, rfl, hv, ?_, fun _ h => by cases h⟩;exact H
def K227 : SCon El pG := ⟨C227, S227, Tryz.call227⟩
abbrev sO : List (PK El) := [pO za.D, pR 1]
def C228 (k : Nat) : Con El := zL 228 sO (fun e => pY k e.1.2.2 e.2.1.2.2) 0 0 (fun e t j l => .i t.1) (fun e t j l => za.D.flat e.1.1 e.1.2.1 t.2)
abbrev Cb (k : Nat) (i : Ins sO) : Kn El -> VC (C228 k).T := retC pG (C228 k) (rsOf pG 228) [] [0, 1, 2, 3] (gj (g2 (gI 4) (gO za.D [0, 1, 2, 3])) []) i
def lT (e : Ins sO) : BCon El (Int × za) := ⟨nav [1, 1, 0, 1] (yD pG 228), Unit, Int × Int × za, Int × za, Int × za, fun u => .inr u, fun _ _ => none, fun t => [(0, ⟨1, e.2.1.1, e.2.1.2.1, e.2.1.2.2⟩)], fun t v_ j l => [(0, .pointer (some ⟨e.1.1, 0, none⟩)), (1, .slice e.2.1.1 e.2.1.2.2.length e.2.1.2.1), (5, .i v_.1), (6, .i v_.2.1)], fun t v_ j l => zipL [0, 1, 2, 3] (za.D.flat e.1.1 e.1.2.1 v_.2.2), 0, 0, fun t x j l => [(5, .i x.1)], fun t x j l => zipL [0, 1, 2, 3] (za.D.flat e.1.1 e.1.2.1 x.2)⟩
def iF (k : Nat) (e : Ins sO) : Nat -> (lT e).X -> (lT e).V -> Option (lT e).W := fun m_ (i : Unit) (v_ : Int × Int × za) => ux e.2.1.2.2 m_ v_.1 v_.2.1 v_.2.2
theorem bZ (k : Nat) (i : Ins sO) (m : Nat) : ((lT i).at (iF k i) m).Sound pG 228 32 (Cb k i) :=
  lsn mixed (lT i) (id := 0) (body := nav [1, 1, 0, 1, 0, 0] (yD pG 228)) (iF k i) (fun _ => none) (fun u => u) (gj (g2 (gI 5) (g2 (gI 6) (gO za.D [0, 1, 2, 3]))) []) (gj (g2 (gI 5) (gO za.D [0, 1, 2, 3])) []) (fun m => (.g 2 (.cond (.blk (.g 3 (.s (.idx true 0 (.tmp 16) 6) (.s (.seg 3 [.A 6, .R 6 0]) (.s (.call K130 [.K 0, .K 1, .K 2, .K 3] [0, 1, 2, 3]) (.g 3 (.s (.idx true 0 (.tmp 23) 7) (.s (.seg 2 [.A 7, .R 7 0]) (.s (.call K130 [.K 0, .K 1, .K 2, .K 3] [0, 1, 2, 3]) (.g 2 (.s (.idx true 0 (.tmp 28) 8) (.s (.seg 3 [.A 8, .R 8 0]) (.g 3 .back))))))))))))) .leaf))) m
theorem S228 (k : Nat) : (C228 k).Sound pG :=
  fsn mixed (C228 k) (n := 32) (rs := rsOf pG 228) [] [0, 1, 2, 3] (gj (g2 (gI 4) (gO za.D [0, 1, 2, 3])) []) (fun i => (.g 1 (.g 1 (.g 4 (.loop ⟨(lT i).at (iF k i) k, bZ k i k⟩ (gl gU (g2 (gI 5) (g2 (gI 6) (gO za.D [0, 1, 2, 3]))) []) (.g 2 .ret)))))) Tryz.func228
def K228 (k : Nat) : SCon El pG := ⟨C228 k, S228 k, Tryz.call228⟩
def C189 (k : Nat) : Con El := zL 189 sO (fun e => vd k e.1.2.2 e.2.1.2.2) 0 0 (fun e t j l => .i t.1) (fun e t j l => za.D.flat e.1.1 e.1.2.1 t.2)
abbrev Aj (k : Nat) (i : Ins sO) : Kn El -> VC (C189 k).T := retC pG (C189 k) (rsOf pG 189) [] [0, 1, 2, 3] (gj (g2 (gI 4) (gO za.D [0, 1, 2, 3])) []) i
def lY (l : Ins sO) : BCon El (Int × za) := ⟨nav [1, 1, 0, 1] (yD pG 189), Int, (List zm) × Int × za, (List zm) × za, (List zm) × za, fun u => .inr u, fun _ _ => none, fun t => [(0, ⟨1, l.2.1.1, l.2.1.2.1, l.2.1.2.2⟩)], fun t v_ e j => [(0, .pointer (some ⟨l.1.1, 0, none⟩)), (5, .slice (na j 0) v_.1.length (nn e 0)), (12, .slice l.2.1.1 l.2.1.2.2.length l.2.1.2.1), (13, .i (t)), (14, .i v_.2.1)], fun t v_ e j => zipL [9] [.sl 5 277 (na j 0) (nn e 0) v_.1] ++ zipL [0, 1, 2, 3] (za.D.flat l.1.1 l.1.2.1 v_.2.2), 1, 1, fun t x e j => [(0, .pointer (some ⟨l.1.1, 0, none⟩)), (5, .slice (na j 0) x.1.length (nn e 0))], fun t x e j => zipL [8] [.sl 5 277 (na j 0) (nn e 0) x.1] ++ zipL [0, 1, 2, 3] (za.D.flat l.1.1 l.1.2.1 x.2)⟩
def iZ (k : Nat) (e : Ins sO) : Nat -> (lY e).X -> (lY e).V -> Option (lY e).W := fun m_ (i : Int) (v_ : (List zm) × Int × za) => vr (i) e.2.1.2.2 m_ v_.1 v_.2.1 v_.2.2
theorem ag (k : Nat) (i : Ins sO) (m : Nat) : ((lY i).at (iZ k i) m).Sound pG 189 94 (Aj k i) :=
  lsn mixed (lY i) (id := 0) (body := nav [1, 1, 0, 1, 0, 0] (yD pG 189)) (iZ k i) (fun _ => none) (fun u => u) (gj (g2 (gL 5 9) (g2 (gI 14) (gO za.D [0, 1, 2, 3]))) [nSk 9]) (gj (g2 (gL 5 8) (gO za.D [0, 1, 2, 3])) [nSk 8]) (fun m => (.g 1 (.cond (.blk (.s (.idx true 0 (.tmp 14) 2) (.s (.seg 3 [.A 2, .R 2 0]) (.g 4 (.s (.call K152 [.K 0, .K 1, .K 2, .K 3] [0, 1, 2, 3]) (.g 1 (.s (.bld 11 5 277) (.s (.app 9 (.O 11)) (.g 1 (.g 2 .back)))))))))) (.rk (rb 8 [9]) .leaf)))) m
def lh (j : Ins sO) : BCon El (Int × za) := ⟨nav [1, 1, 1, 1, 1, 0, 0, 0, 1, 0, 1, 1, 1, 1, 1, 0] (yD pG 189), (List zm) × (Option Addr × Nat) × Nat × Int × Int × (List Int) × (Option Addr × Nat) × za, Int, Int, Int, fun u => .inr u, fun _ _ => none, fun e => [(0, ⟨1, j.2.1.1, j.2.1.2.1, j.2.1.2.2⟩)], fun e v_ l t => [(0, .pointer (some ⟨j.1.1, 0, none⟩)), (5, .slice (e.2.1.1) (e.1).length (e.2.1.2)), (8, .slice (e.2.2.2.2.2.2.1.1) (e.2.2.2.2.2.1).length (e.2.2.2.2.2.2.1.2)), (10, .pointer (some ⟨e.2.2.1, 0, none⟩)), (11, .i v_)], fun e v_ l t => zipL [36] [.sl 5 277 (e.2.1.1) (e.2.1.2) (e.1)] ++ zipL [44] [.blk (e.2.2.1) 277 [.i (e.2.2.2.1), .i (e.2.2.2.2.1)]] ++ zipL [37] [.sl 1 3 (e.2.2.2.2.2.2.1.1) (e.2.2.2.2.2.2.1.2) (e.2.2.2.2.2.1)] ++ zipL [0, 1, 2, 3] (za.D.flat j.1.1 j.1.2.1 (e.2.2.2.2.2.2.2)), 0, 0, fun e x l t => [(0, .pointer (some ⟨j.1.1, 0, none⟩)), (5, .slice (e.2.1.1) (e.1).length (e.2.1.2)), (8, .slice (e.2.2.2.2.2.2.1.1) (e.2.2.2.2.2.1).length (e.2.2.2.2.2.2.1.2)), (10, .pointer (some ⟨e.2.2.1, 0, none⟩)), (11, .i x)], fun e x l t => zipL [36] [.sl 5 277 (e.2.1.1) (e.2.1.2) (e.1)] ++ zipL [44] [.blk (e.2.2.1) 277 [.i (e.2.2.2.1), .i (e.2.2.2.2.1)]] ++ zipL [37] [.sl 1 3 (e.2.2.2.2.2.2.1.1) (e.2.2.2.2.2.2.1.2) (e.2.2.2.2.2.1)] ++ zipL [0, 1, 2, 3] (za.D.flat j.1.1 j.1.2.1 (e.2.2.2.2.2.2.2))⟩
def ig (k : Nat) (i : Ins sO) : Nat -> (lh i).X -> (lh i).V -> Option (lh i).W := fun m_ (e : (List zm) × (Option Addr × Nat) × Nat × Int × Int × (List Int) × (Option Addr × Nat) × za) (v_ : Int) => vp (e.1) (e.2.2.2.1) (e.2.2.2.2.1) (e.2.2.2.2.2.1) (e.2.2.2.2.2.2.2) i.2.1.2.2 m_ v_
theorem aT (k : Nat) (i : Ins sO) (m : Nat) : ((lh i).at (ig k i) m).Sound pG 189 94 (Aj k i) :=
  lsn mixed (lh i) (id := 4) (body := nav [1, 1, 1, 1, 1, 0, 0, 0, 1, 0, 1, 1, 1, 1, 1, 0, 0, 0] (yD pG 189)) (ig k i) (fun _ => none) (fun u => u) (gj (gI 11) []) (gj (gI 11) []) (fun m => (.join (Bool) 0 0 (gj (gB 83) []) (fun e j l t => ([(83, .bool j)] ++ kp [0, 5, 8, 10, 11] e, ka [36, 44, 37, 0, 1, 2, 3] e)) (.drw (.q [0, 1, 2, 3, 4] [] (.split 74 (.q [5, 6] [] (.s (.idx false 36 (.tmp 76) 60) (.q [7, 8, 9, 10, 11, 12, 13] [.A 60, .X 60 36 1, .C 44 1] .leaf))) (.q [5, 6, 7, 8, 9, 10, 11, 12, 13] [] .leaf)))) (.cond (.blk (.g 3 .back)) .leaf))) m
def l8 (j : Ins sO) : BCon El (Int × za) := ⟨nav [1, 1, 1, 1, 1, 0] (yD pG 189), Unit, (List zm) × (List Int) × za, (List Int) × za, (List Int) × za, fun u => .inr u, fun _ _ => none, fun l => [(0, ⟨1, j.2.1.1, j.2.1.2.1, j.2.1.2.2⟩)], fun l v_ e i => [(0, .pointer (some ⟨j.1.1, 0, none⟩)), (5, .slice (na i 0) v_.1.length (nn e 0)), (8, .slice (na i 1) v_.2.1.length (nn e 1))], fun l v_ e i => zipL [36] [.sl 5 277 (na i 0) (nn e 0) v_.1] ++ zipL [37] [.sl 1 3 (na i 1) (nn e 1) v_.2.1] ++ zipL [0, 1, 2, 3] (za.D.flat j.1.1 j.1.2.1 v_.2.2), 1, 1, fun l t e i => [(0, .pointer (some ⟨j.1.1, 0, none⟩)), (8, .slice (na i 0) t.1.length (nn e 0))], fun l t e i => zipL [35] [.sl 1 3 (na i 0) (nn e 0) t.1] ++ zipL [0, 1, 2, 3] (za.D.flat j.1.1 j.1.2.1 t.2)⟩
def hK (k : Nat) (e : Ins sO) : Nat -> (l8 e).X -> (l8 e).V -> Option (l8 e).W := fun m_ (i : Unit) (v_ : (List zm) × (List Int) × za) => wy e.2.1.2.2 m_ v_.1 v_.2.1 v_.2.2
theorem ah (k : Nat) (i : Ins sO) (m : Nat) : ((l8 i).at (hK k i) m).Sound pG 189 94 (Aj k i) :=
  lsn mixed (l8 i) (id := 2) (body := nav [1, 1, 1, 1, 1, 0, 0, 0] (yD pG 189)) (hK k i) (fun _ => none) (fun u => u) (gj (g2 (gL 5 36) (g2 (gL 1 37) (gO za.D [0, 1, 2, 3]))) [nSk 36, nSk 37]) (gj (g2 (gL 1 35) (gO za.D [0, 1, 2, 3])) [nSk 35]) (fun m => (.g 3 (.cond (.blk (.g 1 (.s (.idx false 36 (.const (.i 0)) 42) (.s (.seg 2 [.A 42, .X 42 36 0, .X 42 36 1]) (.s (.new 39 []) (.s (.sto 39) (.join (Bool) 0 0 (gj (gB 46) []) (fun e l j t => ([(46, .bool l)] ++ kp [0, 5, 8, 9] e, ka [39, 36, 37, 0, 1, 2, 3] e)) (.drw (.q [0, 1, 2, 3] [] (.split 38 (.q [4, 5, 6, 7, 8, 9, 10, 11] [] .leaf) (.q [4] [] (.s (.idx false 36 (.const (.i 1)) 45) (.q [5, 6, 7, 8, 9, 10, 11] [.A 45, .X 45 36 1, .C 39 1] .leaf)))))) (.cond (.drw (.q [0, 1, 2, 5] [.C 39 0] (.s (.cut false 36 (some (.const (.i 1))) none 1047) (.q [6] [.W 1047] (.a 3 (.bld 41 1 3) [.W 1047] (.a 4 (.app 37 (.O 41)) [.W 1047] (.q [7, 8] [] (.s (.own 1047 36) .back)))))))) (.jg (zm × za) 1 0 (gj (g2 (gC 44 0 2 zm.dec) (gO za.D [0, 1, 2, 3])) [nPk 44]) (fun e l j t => match (g2 (gP 0) (gA za.D [0, 1, 2, 3])) e with | some x => ([(10, .pointer (some ⟨(nn j 0), 0, none⟩))] ++ kp [0, 5, 8] e, ka [36, 37] e ++ zipL [44] [.blk (nn j 0) 277 [.i l.1.n, .i l.1.rank]] ++ zipL [0, 1, 2, 3] (za.D.flat (x.1) (x.2) l.2)) | none => ([], [])) (.drw (.q [0, 1, 2, 3] [.C 39 0] (.s (.idx false 36 (.const (.i 1)) 50) (.q [4, 5, 6, 7, 8, 10, 11, 12] [.A 50, .X 50 36 0, .C 39 1, .C 39 1] (.alt2 9 (.call (K226 m) [.K 0, .K 1, .K 2, .K 3] [0, 1, 2, 3]) [.C 39 1] (.q [13] [] (.a 14 (.new 45 []) [.C 39 1] (.a 15 (.sto 45) [] (.rk (rb 44 [45]) .leaf)))) 14 (.new 46 []) [.C 39 1, .C 39 1, .X 50 36 0, .A 50, .C 39 0] (.a 9 (.call (K226 m) [.K 0, .K 1, .K 2, .K 3] [0, 1, 2, 3]) [.C 39 1] (.q [13] [] (.a 15 (.sto 46) [] (.rk (rb 44 [46]) .leaf))))))))) (.g 1 (.s (.cut false 36 (some (.const (.i 2))) none 1051) (.s (.seg 2 [.W 1051]) (.g 1 (.s (.own 1051 36) (.loop ⟨(lh i).at (ig k i) m, aT k i m⟩ (gl (g2 (gL 5 36) (g2 (gh 36) (g2 (gP 44) (g2 (gC 44 0 1 dI) (g2 (gC 44 1 1 dI) (g2 (gL 1 37) (g2 (gh 37) (gO za.D [0, 1, 2, 3])))))))) (gI 11) []) (.s (.seg 3 [.C 44 0, .C 44 1]) (.s (.bld 47 5 277) (.s (.call K227 [.K 36, .K 47] [48]) (.g 1 (.rk (rb 36 [48]) .back)))))))))))))))))))) (.rk (rb 35 [37]) .leaf)))) m
theorem S189 (k : Nat) : (C189 k).Sound pG :=
  fsn mixed (C189 k) (n := 94) (rs := rsOf pG 189) [] [0, 1, 2, 3] (gj (g2 (gI 4) (gO za.D [0, 1, 2, 3])) []) (fun i => (.g 1 (.g 1 (.g 3 (.s (.nil 10 5 277) (.rk (rb 9 [10]) (.loop ⟨(lY i).at (iZ k i) k, ag k i k⟩ (gl (gI 13) (g2 (gL 5 9) (g2 (gI 14) (gO za.D [0, 1, 2, 3]))) [nSk 9]) (.g 1 (.s (.call (K224 k) [.K 8] [8]) (.s (.rlp 5 8) (.s (.rlp 27 8) (.g 1 (.s (.nil 38 1 3) (.rk (rb 36 [8, 38]) (.loop ⟨(l8 i).at (hK k i) k, ah k i k⟩ (gl gU (g2 (gL 5 36) (g2 (gL 1 37) (gO za.D [0, 1, 2, 3]))) [nSk 36, nSk 37]) (.g 2 (.s (.call (K228 k) [.K 0, .K 1, .K 2, .K 3, .O 35] [0, 1, 2, 3]) (.g 1 .ret)))))))))))))))))) Tryz.func189
def K189 (k : Nat) : SCon El pG := ⟨C189 k, S189 k, Tryz.call189⟩
theorem qT {w0 w : World} {As : List HP} {k : Nat} {j : Nat} {e : za.A} {a_ : za} {u : Option Addr} {x : Nat} {l : List Int} {X_l : HP} {t : Int × za} (hX_l : SlRd X_l ecI 1 u l) (hC_l : l.length <= x) (hm : vd k a_ l = some t) (H : St w0 (za.R j e a_ :: X_l :: As) w) :
    yz pG 189 #[.pointer (some ⟨j, 0, none⟩), .slice u l.length x] w fun v w' => v = .i t.1 /\ St w0 (za.R j e t.2 :: X_l :: As) w' := by
  replace H := H.t1.t1;replace H := (fs0 fun As => za.D_st).1 H;refine (S189 k ((j, e, a_), (u, x, l), ()) t hm w0 w (X_l :: As) (rdc (rdH 1 (.head _) hX_l hC_l) rd0) H).mono ?_;rintro v w' ⟨B, y, hn, ha, hv, H, z⟩;obtain rfl := ls0 hn;obtain rfl := ls0 ha;refine ⟨hv, ?_⟩;refine (fs0 fun As => za.D_st).2 ?_;exact H
def C132 (k : Nat) : Con El := zL 132 wQ (fun e => uG k e.1.2.2 e.2.1 e.2.2.1) 1 1 (fun e t j l => .tuple #[.i t.1, .bool t.2.1]) (fun e t j l => za.D.flat e.1.1 (za.A.mk e.1.2.1.l_b e.1.2.1.l_c (na l 0) (nn j 0) e.1.2.1.m__p) t.2.2)
theorem S132 (k : Nat) : (C132 k).Sound pG :=
  fsn mixed (C132 k) (n := 29) (rs := rsOf pG 132) [] [0, 1, 2, 3] (gj (g2 (gI 6) (g2 (gB 7) (gO za.D [0, 1, 2, 3]))) [nq_2]) (fun i => (.g 2 (.g 2 (.uA (.g 2 (.s (.call K187 [.K 0, .K 1, .K 2, .K 3] [0, 1, 2, 3]) (.g 5 (.g 2 (.cond (.g 3 .ret) (.g 2 (.s (.bld 4 1 3) (.g 2 (.s (.call (K190 k) [.K 0, .K 1, .K 2, .K 3] [5, 0, 1, 2, 3]) (.s (.app 4 (.O 5)) (.s (.call (K189 k) [.K 0, .K 1, .K 2, .K 3, .O 4] [0, 1, 2, 3]) (.g 2 .ret)))))))))))))))) Tryz.func132
def K132 (k : Nat) : SCon El pG := ⟨C132 k, S132 k, Tryz.call132⟩
def C230 : Con El := zL 230 wQ (fun e => rv e.1.2.2 e.2.1 e.2.2.1) 0 0 (fun e t i j => .tuple #[]) (fun e t i j => za.D.flat e.1.1 e.1.2.1 t)
theorem S230 : (C230).Sound pG :=
  fsn mixed (C230) (n := 24) (rs := rsOf pG 230) [] [0, 1, 2, 3] (gj (gO za.D [0, 1, 2, 3]) []) (fun i => (.g 2 (.uA (.g 2 (.s (.call K196 [.K 0, .K 1, .K 2, .K 3] [0, 1, 2, 3]) (.g 2 (.s (.call K196 [.K 0, .K 1, .K 2, .K 3] [0, 1, 2, 3]) (.g 2 (.g 3 (.s (.call K221 [.K 0, .K 1, .K 2, .K 3] [0, 1, 2, 3]) (.g 3 (.s (.call K221 [.K 0, .K 1, .K 2, .K 3] [0, 1, 2, 3]) .leaf)))))))))))) Tryz.func230
def K230 : SCon El pG := ⟨C230, S230, Tryz.call230⟩
def C191 (k : Nat) : Con El := zL 191 wQ (fun e => uW k e.1.2.2 e.2.1 e.2.2.1) 0 0 (fun e t j l => .i t.1) (fun e t j l => za.D.flat e.1.1 e.1.2.1 t.2)
theorem S191 (k : Nat) : (C191 k).Sound pG :=
  fsn mixed (C191 k) (n := 61) (rs := rsOf pG 191) [] [0, 1, 2, 3] (gj (g2 (gI 6) (gO za.D [0, 1, 2, 3])) []) (fun i => (.g 1 (.g 1 (.g 2 (.join (Int × za) 0 0 (gj (g2 (gI 7) (gO za.D [0, 1, 2, 3])) []) (fun e l t u => match (g2 (gP 0) (gA za.D [0, 1, 2, 3])) e with | some j => ([(7, .i l.1)] ++ kp [0, 1, 2] e, ka [] e ++ zipL [0, 1, 2, 3] (za.D.flat (j.1) (j.2) l.2)) | none => ([], [])) (.cond (.g 2 (.s (.call K196 [.K 0, .K 1, .K 2, .K 3] [0, 1, 2, 3]) (.g 1 .leaf))) .leaf) (.g 2 (.s (.call K152 [.K 0, .K 1, .K 2, .K 3] [0, 1, 2, 3]) (.g 1 (.join (Bool × za) 0 0 (gj (g2 (gB 27) (gO za.D [0, 1, 2, 3])) []) (fun e l t u => match (g2 (gP 0) (gA za.D [0, 1, 2, 3])) e with | some j => ([(27, .bool l.1)] ++ kp [0, 1, 2, 7, 8] e, ka [] e ++ zipL [0, 1, 2, 3] (za.D.flat (j.1) (j.2) l.2)) | none => ([], [])) (.g 3 (.split 21 (.g 6 .leaf) (.g 2 (.s (.call K152 [.K 0, .K 1, .K 2, .K 3] [0, 1, 2, 3]) (.g 3 .leaf))))) (.cond (.g 3 (.s (.call K130 [.K 0, .K 1, .K 2, .K 3] [0, 1, 2, 3]) (.g 2 (.s (.call K130 [.K 0, .K 1, .K 2, .K 3] [0, 1, 2, 3]) (.g 2 .ret))))) (.g 2 (.s (.call K196 [.K 0, .K 1, .K 2, .K 3] [0, 1, 2, 3]) (.g 1 (.g 4 (.s (.call (K226 k) [.K 0, .K 1, .K 2, .K 3] [0, 1, 2, 3]) (.g 1 (.g 3 (.s (.call (K210 k) [.K 0, .K 1, .K 2, .K 3] [0, 1, 2, 3]) (.join (za) 0 0 (gj (gO za.D [0, 1, 2, 3]) []) (fun e l t u => match (g2 (gP 0) (gA za.D [0, 1, 2, 3])) e with | some j => ([] ++ kp [0, 2, 9, 10] e, ka [] e ++ zipL [0, 1, 2, 3] (za.D.flat (j.1) (j.2) l)) | none => ([], [])) (.cond (.g 3 (.s (.call K230 [.K 0, .K 1, .K 2, .K 3] [0, 1, 2, 3]) .leaf)) .leaf) (.g 3 (.s (.call K231 [.K 0, .K 1, .K 2, .K 3] [0, 1, 2, 3]) (.g 3 (.s (.call K130 [.K 0, .K 1, .K 2, .K 3] [0, 1, 2, 3]) (.g 2 .ret)))))))))))))))))))))))) Tryz.func191
def K191 (k : Nat) : SCon El pG := ⟨C191 k, S191 k, Tryz.call191⟩
theorem mV {w0 w : World} {As : List HP} {k : Nat} {j : Nat} {e : za.A} {a_ : za} {r : Int} {n : Int} {t : Int × za}  (hm : uW k a_ r n = some t) (H : St w0 (za.R j e a_ :: As) w) :
    yz pG 191 #[.pointer (some ⟨j, 0, none⟩), .i r, .i n] w fun v w' => v = .i t.1 /\ St w0 (za.R j e t.2 :: As) w' := by
  replace H := (fs0 fun As => za.D_st).1 H;refine (S191 k ((j, e, a_), r, n, ()) t hm w0 w (As) rd0 H).mono ?_;rintro v w' ⟨x, l, hn, ha, hv, H, u⟩;obtain rfl := ls0 hn;obtain rfl := ls0 ha;refine ⟨hv, ?_⟩;refine (fs0 fun As => za.D_st).2 ?_;exact H
def C133 (k : Nat) : Con El := zL 133 wQ (fun e => qj k e.1.2.2 e.2.1 e.2.2.1) 1 1 (fun e t j l => .tuple #[.i t.1, .bool t.2.1]) (fun e t j l => za.D.flat e.1.1 (za.A.mk e.1.2.1.l_b e.1.2.1.l_c (na l 0) (nn j 0) e.1.2.1.m__p) t.2.2)
theorem S133 (k : Nat) : (C133 k).Sound pG :=
  fsn mixed (C133 k) (n := 25) (rs := rsOf pG 133) [] [0, 1, 2, 3] (gj (g2 (gI 6) (g2 (gB 7) (gO za.D [0, 1, 2, 3]))) [nq_2]) (fun i => (.g 2 (.g 2 (.uA (.g 2 (.s (.call K187 [.K 0, .K 1, .K 2, .K 3] [0, 1, 2, 3]) (.g 5 (.g 2 (.cond (.g 3 .ret) (.g 3 (.s (.call (K191 k) [.K 0, .K 1, .K 2, .K 3] [0, 1, 2, 3]) (.g 2 .ret)))))))))))) Tryz.func133
def K133 (k : Nat) : SCon El pG := ⟨C133 k, S133 k, Tryz.call133⟩
def C134 : Con El := zL 134 wQ (fun e => fh e.1.2.2 e.2.1 e.2.2.1) 0 0 (fun e t j l => .tuple #[.i t.1, .bool t.2]) (fun e t j l => za.D.flat e.1.1 e.1.2.1 e.1.2.2)
theorem S134 : (C134).Sound pG := wB _ fun _ => rfl
def K134 : SCon El pG := ⟨C134, S134, Tryz.call134⟩
def C135 : Con El := zL 135 wQ (fun e => nj e.1.2.2 e.2.1 e.2.2.1) 0 0 (fun e t j l => .tuple #[.i t.1, .bool t.2]) (fun e t j l => za.D.flat e.1.1 e.1.2.1 e.1.2.2)
theorem S135 : (C135).Sound pG := wB _ fun _ => rfl
def K135 : SCon El pG := ⟨C135, S135, Tryz.call135⟩
abbrev cR : List (PK El) := [pI .i64, pO za.D, pI .i64, pI .i64]
def C101 (k : Nat) : Con El := zL 101 cR (fun e => oC k e.1 e.2.1.2.2 e.2.2.1 e.2.2.2.1) 1 1 (fun e t j l => .tuple #[.i t.1, .bool t.2.1]) (fun e t j l => za.D.flat e.2.1.1 (za.A.mk e.2.1.2.1.l_b e.2.1.2.1.l_c (na l 0) (nn j 0) e.2.1.2.1.m__p) t.2.2)
theorem S101 (k : Nat) : (C101 k).Sound pG :=
  fsn mixed (C101 k) (n := 52) (rs := rsOf pG 101) [] [0, 1, 2, 3] (gj (g2 (gI 8) (g2 (gB 9) (gO za.D [0, 1, 2, 3]))) [nq_2]) (fun i => (.g 2 (.g 1 (.blk (.g 2 (.cond (.g 3 (.s (.call (K131 k) [.K 0, .K 1, .K 2, .K 3] [0, 1, 2, 3]) (.g 4 .ret))) (.g 2 (.cond (.g 3 (.s (.call (K132 k) [.K 0, .K 1, .K 2, .K 3] [0, 1, 2, 3]) (.g 4 .ret))) (.g 2 (.cond (.g 3 (.s (.call (K133 k) [.K 0, .K 1, .K 2, .K 3] [0, 1, 2, 3]) (.g 4 .ret))) (.g 2 (.cond (.g 3 (.s (.call K134 [.K 0, .K 1, .K 2, .K 3] [0, 1, 2, 3]) (.g 4 .ret))) (.g 2 (.cond (.g 3 (.s (.call K135 [.K 0, .K 1, .K 2, .K 3] [0, 1, 2, 3]) (.g 4 .ret))) (.g 3 .ret))))))))))))))) Tryz.func101
def K101 (k : Nat) : SCon El pG := ⟨C101 k, S101 k, Tryz.call101⟩
def C136 : Con El := zL 136 iV (fun e => wq e.1.2.2) 0 0 (fun e t j l => .i t) (fun e t j l => ze.D.flat e.1.1 e.1.2.1 e.1.2.2)
theorem S136 : (C136).Sound pG :=
  fsn mixed (C136) (n := 7) (rs := rsOf pG 136) [] [0, 1, 2] (gj (gI 2) []) (fun i => (.g 1 (.s (.seg 5 [.C 0 0]) .ret))) Tryz.func136
def K136 : SCon El pG := ⟨C136, S136, Tryz.call136⟩
abbrev BV : List (PK El) := [pO ze.D, pV zC.dv zC.val]
def C137 : Con El := zL 137 BV (fun l => yC l.1.2.2 l.2.1) 2 2 (fun l t e j => .tuple #[.agg #[.i t.1.At, .i t.1.Gen], .bool t.2.1]) (fun l t e j => ze.D.flat l.1.1 (ze.A.mk (na j 0) (nn e 0) (na j 1) (nn e 1)) t.2.2)
abbrev nq_3 : Nx El := nA ze.D [0, 1, 2] (fun e => ([e.l_c, e.free_c], [e.l_b, e.free_b]))
theorem S137 : (C137).Sound pG :=
  fsn mixed (C137) (n := 81) (rs := rsOf pG 137) [.C 2000 0, .C 2000 1] [0, 1, 2] (gj (g2 (gC 2000 0 2 zd.dec) (g2 (gB 5) (gO ze.D [0, 1, 2]))) [nq_3]) (fun i => (.s (.new 3 []) (.s (.new 4 []) (.g 1 (.s (.seg 6 [.C 0 1]) (.s (.seg 7 [.C 0 2]) (.g 2 (.joinR (Int × ze) 2 2 (gj (g2 (gI 6) (gO ze.D [0, 1, 2])) [nq_3]) (fun e t j l => match (gP 0) e with | some u => ([(6, .i t.1)] ++ kp [0, 3, 4] e, ka [4, 3] e ++ zipL [0, 1, 2] (ze.D.flat (u) (ze.A.mk (na l 0) (nn j 0) (na l 1) (nn j 1)) t.2)) | none => ([], [])) (.cond (.s (.seg 5 [.C 0 2]) (.s (.idx false 2 (.tmp 26) 2) (.s (.seg 3 [.A 2, .X 2 2 0]) (.s (.seg 6 [.C 0 2]) (.s (.cut false 2 none (some (.tmp 34)) 1003) (.s (.seg 3 [.W 1003]) (.s (.sto 0) (.s (.own 1003 2) .leaf)))))))) (.s (.seg 6 [.C 0 0]) (.cond (.g 1 (.s (.sto 4) (.g 1 (.rk (rb 2000 [4]) .ret)))) (.s (.seg 6 [.C 0 1]) (.s (.bld 6 3 265) (.s (.app 1 (.O 6)) (.g 2 (.s (.sto 0) .leaf)))))))) (.s (.seg 5 [.C 0 1]) (.s (.idx false 1 (.tmp 59) 4) (.s (.seg 2 [.A 4]) (.s (.seg 7 [.X 4 1 0]) (.s (.sset 1 4 0) (.s (.rlc 4 0 1) (.drw (.q [0, 1, 2, 3, 4] [.C 3 0, .C 3 1, .C 3 2] (.a 5 (.sset 1 4 1) [.C 3 0, .C 3 1, .C 3 2] (.s (.rlc 4 0 1) (.q [6, 7] [] (.a 8 (.sset 1 4 2) [] (.s (.rlc 4 0 1) (.s (.seg 6 [.X 4 1 0]) (.s (.sto 4) (.g 1 (.rk (rb 2000 [4]) .ret))))))))))))))))))))))))) Tryz.func137
def K137 : SCon El pG := ⟨C137, S137, Tryz.call137⟩
abbrev BC : List (PK El) := [pO zj.D, pV zd.dv zd.val, pI .i64]
def C102 : Con El := zL 102 BC (fun e => uL e.1.2.2 e.2.1 e.2.2.1) 2 2 (fun e t j l => .tuple #[.agg #[.i t.1.At, .i t.1.Gen], .i t.2.1]) (fun e t j l => zj.D.flat e.1.1 (zj.A.mk e.1.2.1.heaps_p e.1.2.1.heaps_a e.1.2.1.items_p (ze.A.mk (na l 0) (nn j 0) (na l 1) (nn j 1)) e.1.2.1.at__p) t.2.2)
abbrev nq_4 : Nx El := nA zj.D rg_7 (fun e => ([e.items_a.l_c, e.items_a.free_c], [e.items_a.l_b, e.items_a.free_b]))
theorem S102 : (C102).Sound pG :=
  fsn mixed (C102) (n := 70) (rs := rsOf pG 102) [.C 2000 0, .C 2000 1] rg_7 (gj (g2 (gC 2000 0 2 zd.dec) (g2 (gI 7) (gO zj.D rg_7))) [nq_4]) (fun i => (.s (.new 8 []) (.s (.new 9 []) (.g 1 (.jg (Int) 0 0 (gj (gI 9) []) (fun e t j l => ([(9, .i t)] ++ kp [0, 2, 4, 6] e, ka [9, 8, 0, 1, 2, 3, 4, 5, 6, 7] e)) (.drw (.q [0, 1, 2, 3, 4] [.C 0 0, .C 8 0, .C 8 1] (.alt2 5 (.call K115 [.K 1, .K 2, .K 3] [1, 2, 3]) [] (.q [6, 7, 8] [] (.a 9 (.new 11 []) [] (.a 10 (.sto 11) [] (.q [11] [] .leaf)))) 9 (.new 12 []) [.C 8 0, .C 8 1, .C 0 0] (.a 5 (.call K115 [.K 1, .K 2, .K 3] [1, 2, 3]) [] (.q [6, 7, 8] [] (.a 10 (.sto 12) [] (.q [11] [] .leaf))))))) (.g 2 (.cond (.g 2 (.s (.sto 9) (.g 1 (.rk (rb 2000 [9]) .ret)))) (.s (.seg 5 [.C 0 2]) (.s (.mget 7 0 3 (rh.int rfl) (zd.mk 0 0)) (.g 3 (.s (.new 13 []) (.s (.sto 13) (.g 1 (.blk (.drw (.q [0, 1, 2, 3, 5, 6, 7, 8] [.C 0 1, .C 0 1] (.a 4 (.call K128 [.K 4, .K 5, .K 6] [4, 5, 6]) [.C 0 1] (.a 9 (.call K136 [.K 4, .K 5, .K 6] [4, 5, 6]) [] (.q [10, 11] [] (.cond (.g 1 (.s (.sto 9) (.g 1 (.rk (rb 2000 [9]) .ret)))) (.g 2 (.cond (.g 1 (.s (.sto 9) (.g 1 (.rk (rb 2000 [9]) .ret)))) (.jg (zd × zj) 3 2 (gj (g2 (gC 16 0 2 zd.dec) (gO zj.D rg_7)) [nPk 16, nq_4]) (fun e t j l => match (g2 (gP 0) (gA zj.D rg_7)) e with | some u => ([(12, .pointer (some ⟨(nn j 0), 0, none⟩))] ++ kp [0, 2, 6] e, ka [9] e ++ zipL [16] [.blk (nn j 0) 30 [.i t.1.At, .i t.1.Gen]] ++ zipL rg_7 (zj.D.flat (u.1) (zj.A.mk (u.2.heaps_p) (u.2.heaps_a) (u.2.items_p) (ze.A.mk (na l 0) (nn j 1) (na l 1) (nn j 2)) (u.2.at__p)) t.2)) | none => ([], [])) (.drw (.q rg_6 [.C 0 1, .C 8 0, .C 8 1] (.alt2 7 (.call K137 [.K 4, .K 5, .K 6] [4, 5, 6]) [] (.q [8, 9, 10] [] (.a 11 (.new 17 []) [] (.a 12 (.sto 17) [] (.q [13] [] (.rk (rb 16 [17]) .leaf))))) 11 (.new 18 []) [.C 8 0, .C 8 1, .C 0 1] (.a 7 (.call K137 [.K 4, .K 5, .K 6] [4, 5, 6]) [] (.q [8, 9, 10] [] (.a 12 (.sto 18) [] (.q [13] [] (.rk (rb 16 [18]) .leaf)))))))) (.drw (.q [0, 1, 2, 3, 4, 5] [.C 0 2, .C 16 0, .C 16 1] (.a 6 (.mput 7 0 3 (rh.int rfl)) [] (.s (.seg 1 [.C 16 0, .C 16 1]) (.s (.sto 9) (.g 1 (.rk (rb 2000 [9]) .ret)))))))))))))))))))))))))))))) Tryz.func102
def K102 : SCon El pG := ⟨C102, S102, Tryz.call102⟩
abbrev BS : List (PK El) := [pO zh.D, pV zd.dv zd.val, pV zE.dv zE.val]
def C138 : Con El := zL 138 BS (fun e => xu e.1.2.2 e.2.1 e.2.2.1) 0 0 (fun e t j l => .i t.1) (fun e t j l => zh.D.flat e.1.1 e.1.2.1 t.2)
theorem S138 : (C138).Sound pG :=
  fsn mixed (C138) (n := 22) (rs := rsOf pG 138) [] [0, 1, 2] (gj (g2 (gI 6) (gO zh.D [0, 1, 2])) []) (fun i => (.s (.new 3 []) (.s (.new 4 []) (.g 1 (.s (.seg 2 [.C 3 0, .C 3 1]) (.s (.call K170 [.K 0, .K 1, .K 2] [0, 1, 2]) (.eo 12 0 1 0 (.g 5 (.g 2 (.join (Unit) 0 0 (gj gU []) (fun e t j l => ([] ++ kp [8] e, ka [0, 1, 2] e)) (.cond .dead .leaf) (.g 2 .ret)))) (.g 5 (.g 2 (.join (zh) 0 0 (gj (gO zh.D [0, 1, 2]) []) (fun e t j l => match (g2 (gP 0) (gA zh.D [0, 1, 2])) e with | some u => ([] ++ kp [8] e, ka [] e ++ zipL [0, 1, 2] (zh.D.flat (u.1) (u.2) t)) | none => ([], [])) (.cond (.s (.seg 4 [.C 4 0, .C 4 1, .C 4 2]) (.s (.sset 1 0 2) (.s (.rlc 0 0 1) .leaf))) .leaf) (.g 2 .ret))))))))))) Tryz.func138
def K138 : SCon El pG := ⟨C138, S138, Tryz.call138⟩
abbrev B5 : List (PK El) := [pO zj.D, pV zd.dv zd.val, pI .i64, pI .i64]
def C103 : Con El := zL 103 B5 (fun e => xm e.1.2.2 e.2.1 e.2.2.1 e.2.2.2.1) 0 0 (fun e t j l => .i t.1) (fun e t j l => zj.D.flat e.1.1 e.1.2.1 t.2)
theorem S103 : (C103).Sound pG :=
  fsn mixed (C103) (n := 34) (rs := rsOf pG 103) [] rg_7 (gj (g2 (gI 8) (gO zj.D rg_7)) []) (fun i => (.s (.new 8 []) (.g 1 (.jg (zE × Int) 1 0 (gj (g2 (gC 11 0 3 zE.dec) (gI 10)) [nPk 11]) (fun e l j t => ([(9, .pointer (some ⟨(nn j 0), 0, none⟩)), (10, .i l.2)] ++ kp [0, 2, 3, 5] e, ka [8, 0, 1, 2, 3, 4, 5, 6, 7] e ++ zipL [11] [.blk (nn j 0) 187 [.i l.1.kind, .i l.1.root, .i l.1.n]])) (.drw (.q [0, 1, 2, 3, 4] [.C 0 0, .C 8 0, .C 8 1] (.alt2 5 (.call K115 [.K 1, .K 2, .K 3] [1, 2, 3]) [] (.q [6, 7, 8] [] (.a 9 (.new 12 []) [] (.a 10 (.sto 12) [] (.q [11] [] (.rk (rb 11 [12]) .leaf))))) 9 (.new 13 []) [.C 8 0, .C 8 1, .C 0 0] (.a 5 (.call K115 [.K 1, .K 2, .K 3] [1, 2, 3]) [] (.q [6, 7, 8] [] (.a 10 (.sto 13) [] (.q [11] [] (.rk (rb 11 [13]) .leaf)))))))) (.g 2 (.join (zj) 0 0 (gj (gO zj.D rg_7) []) (fun e l j t => match (g2 (gP 0) (gA zj.D rg_7)) e with | some u => ([] ++ kp [10] e, ka [] e ++ zipL rg_7 (zj.D.flat (u.1) (u.2) l)) | none => ([], [])) (.cond (.g 3 (.s (.sto 11) (.g 1 (.s (.sto 11) (.drw (.q [0, 1, 2, 3, 4, 5] [.C 0 0, .C 8 0, .C 8 1, .C 11 0, .C 11 1, .C 11 2] (.a 6 (.call K138 [.K 1, .K 2, .K 3] [1, 2, 3]) [] .leaf))))))) .leaf) (.g 2 .ret))))))) Tryz.func103
def K103 : SCon El pG := ⟨C103, S103, Tryz.call103⟩
abbrev C74p : List (PK El) := [pO zs.D, pV yc.dv yc.val]
def C74 (k : Nat) : Con El := zL 74 C74p (fun l => ui k l.1.2.2 l.2.1) 10 6 (fun l t e j => .agg #[.i t.1.Why, .i t.1.Heap.At, .i t.1.Heap.Gen, .i t.1.Item.At, .i t.1.Item.Gen, .i t.1.Entry.Key, .i t.1.Entry.Serial, .i t.1.N]) (fun l t e j => zs.D.flat l.1.1 (zs.A.mk l.1.2.1.a__p (za.A.mk (na j 0) (nn e 0) (na j 1) (nn e 1) (nn e 2)) l.1.2.1.t__p (zj.A.mk (nn e 3) (zh.A.mk (na j 2) (nn e 4) (na j 3) (nn e 5)) (nn e 6) (ze.A.mk (na j 4) (nn e 7) (na j 5) (nn e 8)) (nn e 9)) l.1.2.1.entries_p) t.2)
abbrev nq_5 : Nx El := nA zs.D rg_13 (fun e => ([e.a__a.l_c, e.a__a.free_c, e.a__a.m__p, e.t__a.heaps_p, e.t__a.heaps_a.l_c, e.t__a.heaps_a.free_c, e.t__a.items_p, e.t__a.items_a.l_c, e.t__a.items_a.free_c, e.t__a.at__p], [e.a__a.l_b, e.a__a.free_b, e.t__a.heaps_a.l_b, e.t__a.heaps_a.free_b, e.t__a.items_a.l_b, e.t__a.items_a.free_b]))
abbrev nq_6 : Nx El := nA zs.D rg_13 (fun e => ([e.t__a.heaps_p, e.t__a.heaps_a.l_c, e.t__a.heaps_a.free_c, e.t__a.items_p, e.t__a.items_a.l_c, e.t__a.items_a.free_c, e.t__a.at__p], [e.t__a.heaps_a.l_b, e.t__a.heaps_a.free_b, e.t__a.items_a.l_b, e.t__a.items_a.free_b]))
theorem S74 (k : Nat) : (C74 k).Sound pG :=
  fsn mixed (C74 k) (n := 110) (rs := rsOf pG 74) [.C 2000 0, .C 2000 1, .C 2000 2, .C 2000 3, .C 2000 4, .C 2000 5, .C 2000 6, .C 2000 7] rg_13 (gj (g2 (gC 2000 0 8 zM.dec) (gO zs.D rg_13)) [nq_5]) (fun i => (.s (.new 14 []) (.s (.new 15 []) (.drw (.q [0, 1, 2, 3, 4, 5] [.C 0 2, .C 14 2, .C 14 3] (.a 6 (.call K79 [.K 5, .K 6, .K 7, .K 8, .K 9, .K 10, .K 11, .K 12] [5, 6, 7, 8, 9, 10, 11, 12]) [] (.q [7, 8, 9, 10, 11, 12, 13, 14, 15] [] (.blk (.g 3 (.cond (.g 1 (.s (.call K81 [] []) (.s (.sto 15) (.rk (rb 2000 [15]) .ret)))) (.drw (.q [0, 1, 2, 3, 5, 6, 7, 8] [.C 0 2, .C 0 0] (.a 4 (.call K99 [.K 5, .K 6, .K 7, .K 8, .K 9, .K 10, .K 11, .K 12] [5, 6, 7, 8, 9, 10, 11, 12]) [.C 0 0] (.q [9, 10] [] (.cond (.s (.call K81 [] []) (.s (.sto 15) (.rk (rb 2000 [15]) .ret))) (.drw (.q rg_6 [.C 14 8, .C 0 4] (.a 7 (.new 17 []) [.C 0 4, .C 14 8] (.a 8 (.sto 17) [] (.drw (.q rg_7 [.C 0 1, .C 17 0, .C 17 1] (.a 8 (.call K100 [.K 1, .K 2, .K 3, .K 4] [1, 2, 3, 4]) [] (.q [9, 10, 11, 12, 13] [] (.s (.seg 7 [.C 0 1]) (.s (.call (K101 k) [.K 1, .K 2, .K 3, .K 4] [1, 2, 3, 4]) (.g 4 (.jg (zd × zs) 8 4 (gj (g2 (gC 20 0 2 zd.dec) (gO zs.D rg_13)) [nPk 20, nq_6]) (fun l u e j => match (g2 (gP 0) (gA zs.D rg_13)) l with | some t => ([(12, .pointer (some ⟨(nn e 0), 0, none⟩))] ++ kp [0, 3, 4, 6, 7, 9] l, ka [17, 15, 14] l ++ zipL [20] [.blk (nn e 0) 30 [.i u.1.At, .i u.1.Gen]] ++ zipL rg_13 (zs.D.flat (t.1) (zs.A.mk (t.2.a__p) (t.2.a__a) (t.2.t__p) (zj.A.mk (nn e 1) (zh.A.mk (na j 0) (nn e 2) (na j 1) (nn e 3)) (nn e 4) (ze.A.mk (na j 2) (nn e 5) (na j 3) (nn e 6)) (nn e 7)) (t.2.entries_p)) u.2)) | none => ([], [])) (.drw (.q rg_6 [.C 0 2, .C 14 2, .C 14 3] (.alt2 7 (.call K102 [.K 5, .K 6, .K 7, .K 8, .K 9, .K 10, .K 11, .K 12] [5, 6, 7, 8, 9, 10, 11, 12]) [] (.q [8, 9, 10] [] (.a 11 (.new 21 []) [] (.a 12 (.sto 21) [] (.q [13] [] (.rk (rb 20 [21]) .leaf))))) 11 (.new 22 []) [.C 14 2, .C 14 3, .C 0 2] (.a 7 (.call K102 [.K 5, .K 6, .K 7, .K 8, .K 9, .K 10, .K 11, .K 12] [5, 6, 7, 8, 9, 10, 11, 12]) [] (.q [8, 9, 10] [] (.a 12 (.sto 22) [] (.q [13] [] (.rk (rb 20 [22]) .leaf)))))))) (.drw (.q rg_8 [.C 0 2, .C 14 2, .C 14 3] (.a 9 (.call K103 [.K 5, .K 6, .K 7, .K 8, .K 9, .K 10, .K 11, .K 12] [5, 6, 7, 8, 9, 10, 11, 12]) [] (.drw (.q [0, 1, 2, 3, 4, 5] [.C 0 3, .C 20 0, .C 20 1, .C 17 0, .C 17 1] (.a 6 (.mput 13 1 30 zd.uw) [] (.s (.seg 7 [.C 0 4]) (.s (.sto 0) (.s (.seg 3 [.C 20 0, .C 20 1, .C 17 0, .C 17 1]) (.s (.sto 15) (.rk (rb 2000 [15]) .ret)))))))))))))))))))))))))))))))))))))) Tryz.func74
def K74 (k : Nat) : SCon El pG := ⟨C74 k, S74 k, Tryz.call74⟩
def C139 : Con El := zL 139 tp (fun e => rV e.1.2.2 e.2.1) 0 0 (fun e t j l => .i t.1) (fun e t j l => za.D.flat e.1.1 e.1.2.1 t.2)
theorem S139 : (C139).Sound pG :=
  fsn mixed (C139) (n := 10) (rs := rsOf pG 139) [] [0, 1, 2, 3] (gj (g2 (gI 4) (gO za.D [0, 1, 2, 3])) []) (fun i => (.g 1 (.g 2 (.uA (.g 2 (.s (.call K196 [.K 0, .K 1, .K 2, .K 3] [0, 1, 2, 3]) (.g 1 .ret))))))) Tryz.func139
def K139 : SCon El pG := ⟨C139, S139, Tryz.call139⟩
def C197 (k : Nat) : Con El := zL 197 sO (fun e => vn k e.1.2.2 e.2.1.2.2) 0 0 (fun e t j l => .i t.1) (fun e t j l => za.D.flat e.1.1 e.1.2.1 t.2)
abbrev B0 (k : Nat) (i : Ins sO) : Kn El -> VC (C197 k).T := retC pG (C197 k) (rsOf pG 197) [] [0, 1, 2, 3] (gj (g2 (gI 4) (gO za.D [0, 1, 2, 3])) []) i
def kf (e : Ins sO) : BCon El (Int × za) := ⟨nav [1, 1, 0, 1] (yD pG 197), Int, Int × Int × za, Int × za, Int × za, fun u => .inr u, fun _ _ => none, fun t => [(0, ⟨1, e.2.1.1, e.2.1.2.1, e.2.1.2.2⟩)], fun t v_ j l => [(0, .pointer (some ⟨e.1.1, 0, none⟩)), (5, .i v_.1), (8, .slice e.2.1.1 e.2.1.2.2.length e.2.1.2.1), (9, .i (t)), (10, .i v_.2.1)], fun t v_ j l => zipL [0, 1, 2, 3] (za.D.flat e.1.1 e.1.2.1 v_.2.2), 0, 0, fun t x j l => [(5, .i x.1)], fun t x j l => zipL [0, 1, 2, 3] (za.D.flat e.1.1 e.1.2.1 x.2)⟩
def ib (k : Nat) (e : Ins sO) : Nat -> (kf e).X -> (kf e).V -> Option (kf e).W := fun m_ (i : Int) (v_ : Int × Int × za) => wO (i) e.2.1.2.2 m_ v_.1 v_.2.1 v_.2.2
theorem Ad (k : Nat) (i : Ins sO) (m : Nat) : ((kf i).at (ib k i) m).Sound pG 197 25 (B0 k i) :=
  lsn mixed (kf i) (id := 0) (body := nav [1, 1, 0, 1, 0, 0] (yD pG 197)) (ib k i) (fun _ => none) (fun u => u) (gj (g2 (gI 5) (g2 (gI 10) (gO za.D [0, 1, 2, 3]))) []) (gj (g2 (gI 5) (gO za.D [0, 1, 2, 3])) []) (fun m => (.g 1 (.cond (.join (Int × za) 0 0 (gj (g2 (gI 5) (gO za.D [0, 1, 2, 3])) []) (fun e j t x => match (g2 (gP 0) (gA za.D [0, 1, 2, 3])) e with | some l => ([(5, .i j.1)] ++ kp [0, 8, 9, 10] e, ka [] e ++ zipL [0, 1, 2, 3] (za.D.flat (l.1) (l.2) j.2)) | none => ([], [])) (.blk (.s (.idx true 0 (.tmp 10) 5) (.s (.seg 3 [.A 5, .R 5 0]) (.join (Bool × za) 0 0 (gj (g2 (gB 21) (gO za.D [0, 1, 2, 3])) []) (fun e j t x => match (g2 (gP 0) (gA za.D [0, 1, 2, 3])) e with | some l => ([(21, .bool j.1)] ++ kp [0, 5, 7, 8, 9, 10] e, ka [] e ++ zipL [0, 1, 2, 3] (za.D.flat (l.1) (l.2) j.2)) | none => ([], [])) (.g 3 (.split 16 (.g 5 .leaf) (.g 3 (.s (.call (K210 m) [.K 0, .K 1, .K 2, .K 3] [0, 1, 2, 3]) (.g 1 .leaf))))) (.cond (.g 2 .leaf) .leaf))))) (.g 2 .back)) .leaf))) m
theorem S197 (k : Nat) : (C197 k).Sound pG :=
  fsn mixed (C197 k) (n := 25) (rs := rsOf pG 197) [] [0, 1, 2, 3] (gj (g2 (gI 4) (gO za.D [0, 1, 2, 3])) []) (fun i => (.g 1 (.g 1 (.g 3 (.loop ⟨(kf i).at (ib k i) k, Ad k i k⟩ (gl (gI 9) (g2 (gI 5) (g2 (gI 10) (gO za.D [0, 1, 2, 3]))) []) (.g 2 .ret)))))) Tryz.func197
def K197 (k : Nat) : SCon El pG := ⟨C197 k, S197 k, Tryz.call197⟩
def C140 (k : Nat) : Con El := zL 140 tp (fun e => tn k e.1.2.2 e.2.1) 0 0 (fun e t j l => .i t.1) (fun e t j l => za.D.flat e.1.1 e.1.2.1 t.2)
theorem S140 (k : Nat) : (C140 k).Sound pG :=
  fsn mixed (C140 k) (n := 14) (rs := rsOf pG 140) [] [0, 1, 2, 3] (gj (g2 (gI 4) (gO za.D [0, 1, 2, 3])) []) (fun i => (.g 1 (.g 2 (.uA (.g 4 (.s (.call (K190 k) [.K 0, .K 1, .K 2, .K 3] [4, 0, 1, 2, 3]) (.s (.call (K197 k) [.K 0, .K 1, .K 2, .K 3, .O 4] [0, 1, 2, 3]) (.s (.call K196 [.K 0, .K 1, .K 2, .K 3] [0, 1, 2, 3]) (.g 1 .ret))))))))) Tryz.func140
def K140 (k : Nat) : SCon El pG := ⟨C140 k, S140 k, Tryz.call140⟩
def C141 (k : Nat) : Con El := zL 141 tp (fun e => ow k e.1.2.2 e.2.1) 0 0 (fun e t j l => .i t.1) (fun e t j l => za.D.flat e.1.1 e.1.2.1 t.2)
theorem S141 (k : Nat) : (C141 k).Sound pG :=
  fsn mixed (C141 k) (n := 14) (rs := rsOf pG 141) [] [0, 1, 2, 3] (gj (g2 (gI 4) (gO za.D [0, 1, 2, 3])) []) (fun i => (.g 1 (.g 2 (.uA (.g 4 (.s (.call (K190 k) [.K 0, .K 1, .K 2, .K 3] [4, 0, 1, 2, 3]) (.s (.call (K197 k) [.K 0, .K 1, .K 2, .K 3, .O 4] [0, 1, 2, 3]) (.s (.call K196 [.K 0, .K 1, .K 2, .K 3] [0, 1, 2, 3]) (.g 1 .ret))))))))) Tryz.func141
def K141 (k : Nat) : SCon El pG := ⟨C141 k, S141 k, Tryz.call141⟩
def C142 : Con El := zL 142 tp (fun e => dU e.1.2.2 e.2.1) 0 0 (fun e t j l => .i t) (fun e t j l => za.D.flat e.1.1 e.1.2.1 e.1.2.2)
theorem S142 : (C142).Sound pG := wB _ fun _ => rfl
def K142 : SCon El pG := ⟨C142, S142, Tryz.call142⟩
def C143 : Con El := zL 143 tp (fun e => mz e.1.2.2 e.2.1) 0 0 (fun e t j l => .i t) (fun e t j l => za.D.flat e.1.1 e.1.2.1 e.1.2.2)
theorem S143 : (C143).Sound pG := wB _ fun _ => rfl
def K143 : SCon El pG := ⟨C143, S143, Tryz.call143⟩
abbrev AP : List (PK El) := [pI .i64, pO za.D, pI .i64]
def C105 (k : Nat) : Con El := zL 105 AP (fun e => nD k e.1 e.2.1.2.2 e.2.2.1) 0 0 (fun e t j l => .i t.1) (fun e t j l => za.D.flat e.2.1.1 e.2.1.2.1 t.2)
theorem S105 (k : Nat) : (C105 k).Sound pG :=
  fsn mixed (C105 k) (n := 33) (rs := rsOf pG 105) [] [0, 1, 2, 3] (gj (g2 (gI 6) (gO za.D [0, 1, 2, 3])) []) (fun i => (.g 1 (.g 1 (.blk (.g 2 (.cond (.g 2 (.s (.call K139 [.K 0, .K 1, .K 2, .K 3] [0, 1, 2, 3]) (.g 1 .ret))) (.g 2 (.cond (.g 2 (.s (.call (K140 k) [.K 0, .K 1, .K 2, .K 3] [0, 1, 2, 3]) (.g 1 .ret))) (.g 2 (.cond (.g 2 (.s (.call (K141 k) [.K 0, .K 1, .K 2, .K 3] [0, 1, 2, 3]) (.g 1 .ret))) (.g 2 (.cond (.g 2 (.s (.call K142 [.K 0, .K 1, .K 2, .K 3] [0, 1, 2, 3]) (.g 1 .ret))) (.g 2 (.cond (.g 2 (.s (.call K143 [.K 0, .K 1, .K 2, .K 3] [0, 1, 2, 3]) (.g 1 .ret))) (.g 1 .ret))))))))))))))) Tryz.func105
def K105 (k : Nat) : SCon El pG := ⟨C105 k, S105 k, Tryz.call105⟩
def C104 : Con El := zL 104 C73p (fun e => ub e.1.2.2 e.2.1) 0 0 (fun e t j l => .tuple #[.agg #[.i t.1.At, .i t.1.Gen], .bool t.2]) (fun e t j l => zj.D.flat e.1.1 e.1.2.1 e.1.2.2)
theorem S104 : (C104).Sound pG :=
  fsn mixed (C104) (n := 19) (rs := rsOf pG 104) [.C 2000 0, .C 2000 1] rg_7 (gj (g2 (gC 2000 0 2 zd.dec) (gB 5)) []) (fun i => (.s (.new 8 []) (.g 1 (.s (.seg 5 [.C 0 2]) (.s (.mget 7 0 3 (rh.int rfl) (zd.mk 0 0)) (.g 3 (.s (.new 9 []) (.s (.sto 9) (.g 1 (.s (.seg 2 [.C 9 0, .C 9 1]) (.s (.sto 8) (.g 1 (.rk (rb 2000 [8]) .ret))))))))))))) Tryz.func104
def K104 : SCon El pG := ⟨C104, S104, Tryz.call104⟩
def C199 (k : Nat) : Con El := zL 199 tp (fun e => qg k e.1.2.2 e.2.1) 0 0 (fun e t j l => .i t.1) (fun e t j l => za.D.flat e.1.1 e.1.2.1 t.2)
theorem S199 (k : Nat) : (C199 k).Sound pG :=
  fsn mixed (C199 k) (n := 13) (rs := rsOf pG 199) [] [0, 1, 2, 3] (gj (g2 (gI 4) (gO za.D [0, 1, 2, 3])) []) (fun i => (.g 1 (.g 3 (.s (.call K196 [.K 0, .K 1, .K 2, .K 3] [0, 1, 2, 3]) (.g 2 (.s (.call K196 [.K 0, .K 1, .K 2, .K 3] [0, 1, 2, 3]) (.s (.call (K188 k) [.K 0, .K 1, .K 2, .K 3] [0, 1, 2, 3]) (.g 1 .ret)))))))) Tryz.func199
def K199 (k : Nat) : SCon El pG := ⟨C199 k, S199 k, Tryz.call199⟩
def C150 : Con El := zL 150 tp (fun e => vi e.1.2.2 e.2.1) 1 1 (fun e t i j => .bool t.1) (fun e t i j => za.D.flat e.1.1 (za.A.mk e.1.2.1.l_b e.1.2.1.l_c (na j 0) (nn i 0) e.1.2.1.m__p) t.2)
theorem S150 : (C150).Sound pG :=
  fsn mixed (C150) (n := 31) (rs := rsOf pG 150) [] [0, 1, 2, 3] (gj (g2 (gB 4) (gO za.D [0, 1, 2, 3])) [nq_2]) (fun i => (.g 1 (.s (.seg 4 [.C 0 3]) (.s (.call K184 [.K 3] [3]) (.g 2 (.s (.call K198 [.K 0, .K 1, .K 2, .K 3] [0, 1, 2, 3]) (.g 1 (.cond (.g 1 .ret) (.s (.seg 5 [.C 0 0]) (.s (.idx false 1 (.tmp 18) 0) (.s (.seg 2 [.A 0]) (.s (.sset 1 0 10) (.s (.rlc 0 0 0) (.s (.seg 6 [.C 0 2]) (.s (.bld 4 1 3) (.s (.app 2 (.O 4)) (.g 2 (.s (.sto 0) (.g 1 .ret))))))))))))))))))) Tryz.func150
def K150 : SCon El pG := ⟨C150, S150, Tryz.call150⟩
def C200 : Con El := zL 200 tp (fun e => rG e.1.2.2 e.2.1) 1 1 (fun e t j l => .i t.1) (fun e t j l => za.D.flat e.1.1 (za.A.mk e.1.2.1.l_b e.1.2.1.l_c (na l 0) (nn j 0) e.1.2.1.m__p) t.2)
theorem S200 : (C200).Sound pG :=
  fsn mixed (C200) (n := 16) (rs := rsOf pG 200) [] [0, 1, 2, 3] (gj (g2 (gI 4) (gO za.D [0, 1, 2, 3])) [nq_2]) (fun i => (.g 1 (.g 2 (.s (.call K196 [.K 0, .K 1, .K 2, .K 3] [0, 1, 2, 3]) (.g 1 (.g 2 (.s (.call K130 [.K 0, .K 1, .K 2, .K 3] [0, 1, 2, 3]) (.g 2 (.s (.call K150 [.K 0, .K 1, .K 2, .K 3] [0, 1, 2, 3]) (.g 2 .ret)))))))))) Tryz.func200
def K200 : SCon El pG := ⟨C200, S200, Tryz.call200⟩
theorem nU {w0 w : World} {As : List HP} {u : Nat} {e : za.A} {a_ : za} {n : Int} {t : Int × za}  (hm : rG a_ n = some t) (H : St w0 (za.R u e a_ :: As) w) :
    yz pG 200 #[.pointer (some ⟨u, 0, none⟩), .i n] w fun v w' => ∃ (j : Option Addr), ∃ (l : Nat), v = .i t.1 /\ St w0 (za.R u (za.A.mk e.l_b e.l_c j l e.m__p) t.2 :: As) w' := by
  replace H := (fs0 fun As => za.D_st).1 H;refine (S200 ((u, e, a_), n, ()) t hm w0 w (As) rd0 H).mono ?_;rintro v w' ⟨J, z, hn, ha, hv, H, B⟩;obtain ⟨D, F, rfl, x⟩ := lsS hn;obtain rfl := ls0 x;obtain ⟨a0, I, rfl, y⟩ := lsS ha;obtain rfl := ls0 y;refine ⟨a0, D, hv, ?_⟩;refine (fs0 fun As => za.D_st).2 ?_;exact H
def C144 (k : Nat) : Con El := zL 144 tp (fun e => uu k e.1.2.2 e.2.1) 1 1 (fun e t j l => .tuple #[.i t.1, .i t.2.1]) (fun e t j l => za.D.flat e.1.1 (za.A.mk e.1.2.1.l_b e.1.2.1.l_c (na l 0) (nn j 0) e.1.2.1.m__p) t.2.2)
theorem S144 (k : Nat) : (C144 k).Sound pG :=
  fsn mixed (C144 k) (n := 25) (rs := rsOf pG 144) [] [0, 1, 2, 3] (gj (g2 (gI 4) (g2 (gI 5) (gO za.D [0, 1, 2, 3]))) [nq_2]) (fun i => (.g 2 (.join (Bool) 0 0 (gj (gB 14) []) (fun e j l t => ([(14, .bool j)] ++ kp [0, 1] e, ka [0, 1, 2, 3] e)) (.g 5 (.s (.call K198 [.K 0, .K 1, .K 2, .K 3] [0, 1, 2, 3]) (.g 2 .leaf))) (.cond (.g 2 .ret) (.g 2 (.s (.call (K199 k) [.K 0, .K 1, .K 2, .K 3] [0, 1, 2, 3]) (.g 1 (.g 2 (.s (.call K130 [.K 0, .K 1, .K 2, .K 3] [0, 1, 2, 3]) (.g 3 (.s (.call K200 [.K 0, .K 1, .K 2, .K 3] [0, 1, 2, 3]) (.g 2 .ret)))))))))))) Tryz.func144
def K144 (k : Nat) : SCon El pG := ⟨C144 k, S144 k, Tryz.call144⟩
theorem uP {w0 w : World} {As : List HP} {x : Int} {v_ : Int} {r : Nat} {t : Bool}  (hm : wG x v_ = some t) (H : St w0 (Blk r 3 [.i v_] :: As) w) :
    yz pG 234 #[.i x, .pointer (some ⟨r, 0, none⟩)] w fun v w' => v = .bool t /\ St w0 (Blk r 3 [.i v_] :: As) w' := by
 rw [wG] at hm;refine enter (args := [.i x, .pointer (some ⟨r, 0, none⟩)]) Tryz.func234 rfl rfl rfl fun a j => ?_
 refine Runs.sr ?_;refine WR.seg j 1 [] [0, 1] (Lo := [(0, .i x), (1, .pointer (some ⟨r, 0, none⟩))]) (obs := []) rfl (by kernel_rfl) trivial fun a j => ?_
 refine WR.done rfl ?_;refine Runs.sr ?_;refine WR.e j [.i v_] [(3, .bool (x == v_))] (obs := [.cell ⟨r, 0, none⟩ (.i v_)]) ⟨H.cell 0 rfl rfl, trivial⟩ fun a j => ?_
 refine Runs.ret j Tryz.func234 rfl rfl ?_;cases hm;exact ⟨rfl, H⟩
theorem tG {w0 w : World} {As : List HP} {k : Nat} {j : Option Addr} {l : Nat} {s : List Int} {u : HP} {v_ : Int} {r : Nat} {t : Int} (hX_s : SlRd u ecI 1 j s) (hC_s : s.length <= l) (hm : xQ k s v_ = some t) (H : St w0 (u :: Blk r 3 [.i v_] :: As) w) :
    yz pG 256 #[.slice j s.length l, .func (.func 234) #[] #[.pointer (some ⟨r, 0, none⟩)]] w fun v w' => v = .i t /\ St w0 (u :: Blk r 3 [.i v_] :: As) w' := by
 rw [xQ] at hm;refine enter (args := [.slice j s.length l, .func (.func 234) #[] #[.pointer (some ⟨r, 0, none⟩)]]) Tryz.func256 rfl rfl rfl fun a e => ?_
 refine Runs.sr ?_;refine WR.seg e 1 [] [0, 1] (Lo := [(0, .slice j s.length l), (1, .func (.func 234) #[] #[.pointer (some ⟨r, 0, none⟩)])]) (obs := []) rfl (by kernel_rfl) trivial fun a e => ?_
 refine WR.done rfl ?_;refine Runs.seq ?_;refine Runs.sr ?_;refine WR.e0 e [(7, .i (s.length : Int)), (8, .i 0)] fun a e => ?_
 obtain ⟨s1, y, A⟩ := bind_some hm;refine Runs.join (fun a w => ∃ s2, s1 = Sum.inr s2 /\ zO 19 a [] /\ St w0 (u :: Blk r 3 [.i v_] :: As) w) (fun hk => ?_) ?_
 ·replace hm := y; clear y;refine Runs.block ?_;refine Runs.loop (fun m a w => ∃ (x : Int), zO 19 a [(0, .slice j s.length l), (1, .func (.func 234) #[] #[.pointer (some ⟨r, 0, none⟩)]), (7, .i (s.length : Int)), (8, .i x)] /\ St w0 (u :: Blk r 3 [.i v_] :: As) w /\ zY (s.length : Int) s v_ m x = some s1) k ⟨0, e.sel [0, 1, 7, 8] (by kernel_rfl), H.t1.t1, hm⟩ ?_;rintro m ih a w ⟨x, e, H, hm⟩;cases m with
  | zero => simp [zY] at hm
  | succ m =>
   rw [zY] at hm;refine Runs.sr ?_;refine WR.seg e 1 [] [0, 1, 7, 8, 9] (Lo := [(0, .slice j s.length l), (1, .func (.func 234) #[] #[.pointer (some ⟨r, 0, none⟩)]), (7, .i (s.length : Int)), (8, .i x), (9, .bool (decide (x < (s.length : Int))))]) (obs := []) rfl (by kernel_rfl) trivial fun a e => ?_
   refine WR.done rfl ?_;refine Runs.seq ?_;refine Runs.cond e rfl (fun c => ?_) (fun c => ?_)
   ·replace hm := ye c hm;refine Runs.skip ?_;refine Runs.seq ?_;refine Runs.block ?_;refine Runs.sr ?_;refine WR.e0 e [(5, .i x)] fun a e => ?_
    refine Runs.sr ?_;obtain ⟨x2, z, hm⟩ := bind_some hm;obtain ⟨b, o, hs, D⟩ := SlRd.base hX_s wE H 0 rfl z;refine WR.d e 5 [.pointer (some ⟨b, o, none⟩), .i x2] [(11, .func (.func 234) #[] #[.pointer (some ⟨r, 0, none⟩)]), (15, .i x2)] (obs := [.p ((j : Option Addr) = some ⟨b, o, none⟩), .p (0 <= (x : Int) /\ (x : Int) < ((s.length : Nat) : Int)), .cell ⟨b, o + (Int.toNat x) * 1, none⟩ (.i x2)]) ⟨hs, D, SlRd.cells hX_s wE H 0 rfl hs z 0 _ rfl, trivial⟩ fun a e => ?_
    obtain ⟨t_, B, hm⟩ := bind_some hm;refine WR.eff e rfl rfl rfl rfl (OpTo.fv e rfl rfl rfl Tryz.call234 (uP B H.t1)) ?_;rintro _ w ⟨rfl, H⟩ a e;refine WR.done rfl ?_;refine Runs.cond e rfl (fun c => ?_) (fun c => ?_)
    ·replace hm := ye c hm;refine Runs.sr ?_;refine WR.e0 e [(4, .i x)] fun a e => ?_
     refine Runs.ret e Tryz.func256 rfl rfl ?_;cases hm;dsimp only at A; cases A;exact ⟨rfl, H.t1⟩
    ·replace hm := yd c hm;refine Runs.skip ?_;refine Runs.inBlock ?_;refine Runs.region ?_;refine WR.e0 e [(8, .i (w64 (x + 1)))] fun a e => ?_
     exact ih m (Nat.lt_succ_self m) _ _ ⟨w64 (x + 1), e.sel [0, 1, 7, 8] (by kernel_rfl), H.t1, hm⟩
   ·replace hm := yd c hm;refine Runs.exit rfl ?_;cases hm;exact hk _ _ ⟨_, rfl, e.sel [] (by kernel_rfl), H.t1.t1⟩
 rintro a w ⟨s2, rfl, e, H⟩;replace hm := A; dsimp only at hm;refine Runs.sr ?_;refine WR.seg e 1 [] [4] (Lo := [(4, .i (-1))]) (obs := []) rfl (by kernel_rfl) trivial fun a e => ?_
 refine WR.done rfl ?_;refine Runs.ret e Tryz.func256 rfl rfl ?_;cases hm;exact ⟨rfl, H.t1.t1⟩
theorem tu {w0 w : World} {As : List HP} {k : Nat} {y : Option Addr} {u : Nat} {s : List Int} {v_ : Int} {r : Nat} {t : (List Int)}  (hm : xg k s v_ = some t) (H : St w0 (Sl 3 ecI 1 y u s :: Blk r 3 [.i v_] :: As) w) :
    yz pG 233 #[.slice y s.length u, .func (.func 234) #[] #[.pointer (some ⟨r, 0, none⟩)]] w fun v w' => ∃ (I : Option Addr), ∃ (J : Nat), v = .slice I t.length J /\ St w0 (Sl 3 ecI 1 I J t :: Blk r 3 [.i v_] :: As) w' := by
 rw [xg] at hm;refine enter (args := [.slice y s.length u, .func (.func 234) #[] #[.pointer (some ⟨r, 0, none⟩)]]) Tryz.func233 rfl rfl rfl fun a A => ?_
 refine Runs.sr ?_;refine WR.seg A 1 [] [0, 1] (Lo := [(0, .slice y s.length u), (1, .func (.func 234) #[] #[.pointer (some ⟨r, 0, none⟩)])]) (obs := []) rfl (by kernel_rfl) trivial fun a A => ?_
 refine WR.done rfl ?_;refine Runs.sr ?_;refine WR.d0 A 2 [(8, .slice y s.length u), (9, .func (.func 234) #[] #[.pointer (some ⟨r, 0, none⟩)])] fun a A => ?_
 obtain ⟨t_, Y, hm⟩ := bind_some hm;replace H := H.t1.t1;refine WR.eff A rfl rfl rfl rfl (OpTo.fn A rfl rfl Tryz.call256 (tG (hX_s := (yN 3 ecI 1 _ _ _)) (hC_s := (H.oQ 0 rfl).1) Y H)) ?_;rintro _ w ⟨rfl, H⟩ a A;refine WR.e0 A [(5, .i t_)] fun a A => ?_
 refine Runs.seq ?_;refine Runs.sr ?_;refine WR.e0 A [(12, .bool (t_ == (-1)))] fun a A => ?_
 refine Runs.cond A rfl (fun c => ?_) (fun c => ?_)
 ·replace hm := ye c hm;refine Runs.sr ?_;refine WR.e0 A [(4, .slice y s.length u)] fun a A => ?_
  refine Runs.ret A Tryz.func233 rfl rfl ?_;cases hm;exact ⟨y, u, rfl, H.t1.t1⟩
 ·replace hm := yd c hm;refine Runs.skip ?_;refine Runs.seq ?_;refine Runs.sr ?_;refine WR.e0 A [(6, .i (w64 (t_ + 1)))] fun a A => ?_
  obtain ⟨s1, O, hm⟩ := bind_some hm;refine Runs.join (fun a w => zO 42 a [(0, .slice y s1.2.length u), (5, .i s1.1)] /\ St w0 (Sl 3 ecI 1 y u s1.2 :: Blk r 3 [.i v_] :: As) w) (fun hk => ?_) ?_
  ·replace hm := O; clear O;refine Runs.block ?_;refine Runs.loop (fun m a w => ∃ (i : Int), ∃ (j : Int), ∃ (m_ : List Int), zO 42 a [(0, .slice y m_.length u), (1, .func (.func 234) #[] #[.pointer (some ⟨r, 0, none⟩)]), (5, .i i), (6, .i j)] /\ St w0 (Sl 3 ecI 1 y u m_ :: Blk r 3 [.i v_] :: As) w /\ yf v_ m i j m_ = some s1) k ⟨t_, w64 (t_ + 1), s, A.sel [0, 1, 5, 6] (by kernel_rfl), H.t1.t1, hm⟩ ?_;rintro m ih a w ⟨i, j, m_, A, H, hm⟩;cases m with
   | zero => simp [yf] at hm
   | succ m =>
    rw [yf] at hm;refine Runs.seq ?_;refine Runs.sr ?_;refine WR.seg A 4 [] [0, 1, 5, 6, 19] (Lo := [(0, .slice y m_.length u), (1, .func (.func 234) #[] #[.pointer (some ⟨r, 0, none⟩)]), (5, .i i), (6, .i j), (19, .bool (decide (j < (m_.length : Int))))]) (obs := []) rfl (by kernel_rfl) trivial fun a A => ?_
    refine WR.done rfl ?_;refine Runs.cond A rfl (fun c => ?_) (fun c => ?_)
    ·replace hm := ye c hm;refine Runs.skip ?_;refine Runs.seq ?_;obtain ⟨s2, S, hm⟩ := bind_some hm;refine Runs.join (fun a w => zO 42 a [(0, .slice y s2.2.length u), (1, .func (.func 234) #[] #[.pointer (some ⟨r, 0, none⟩)]), (5, .i s2.1), (6, .i j)] /\ St w0 (Sl 3 ecI 1 y u s2.2 :: Blk r 3 [.i v_] :: As) w) (fun hk => ?_) ?_
     ·replace hm := S; clear S;refine Runs.block ?_;refine Runs.sr ?_;obtain ⟨x, ex, hm⟩ := bind_some hm;obtain ⟨b, o, hs, hb⟩ := SlRd.base (yN 3 ecI 1 _ _ _) wE H 0 rfl ex;refine WR.e A [.pointer (some ⟨b, o, none⟩), .i x] [(7, .i x)] (obs := [.p ((y : Option Addr) = some ⟨b, o, none⟩), .p (0 <= (j : Int) /\ (j : Int) < ((m_.length : Nat) : Int)), .cell ⟨b, o + (Int.toNat j) * 1, none⟩ (.i x)]) ⟨hs, hb, SlRd.cells (yN 3 ecI 1 _ _ _) wE H 0 rfl hs ex 0 _ rfl, trivial⟩ fun a A => ?_
      refine Runs.sr ?_;refine WR.d0 A 2 [(26, .func (.func 234) #[] #[.pointer (some ⟨r, 0, none⟩)]), (27, .i x)] fun a A => ?_
      obtain ⟨Z, U, hm⟩ := bind_some hm;refine WR.eff A rfl rfl rfl rfl (OpTo.fv A rfl rfl rfl Tryz.call234 (uP U H.t1)) ?_;rintro _ w ⟨rfl, H⟩ a A;refine WR.e0 A [(29, .bool (!Z))] fun a A => ?_
      refine Runs.cond A rfl (fun c => ?_) (fun c => ?_)
      ·replace hm := ye c hm;refine Runs.sr ?_;obtain ⟨x1, W, hm⟩ := bind_some hm;obtain ⟨b1, o1, X, a2⟩ := SlRd.base (yN 3 ecI 1 _ _ _) wE H 1 rfl W;refine WR.d A 4 [.pointer (some ⟨b1, o1, none⟩)] [(32, .i x), (33, .pointer (some ⟨b1, o1 + (Int.toNat i) * 1, none⟩))] (obs := [.p ((y : Option Addr) = some ⟨b1, o1, none⟩), .p (0 <= (i : Int) /\ (i : Int) < ((m_.length : Nat) : Int))]) ⟨X, a2, trivial⟩ fun a A => ?_
       refine WR.eff0 A rfl rfl rfl (OpTo.kV (q := 0) (x' := x) A H.t1 wE rfl X W rfl rfl rfl rfl rfl (Nat.le_of_ble_eq_true rfl) rfl) ?_;rintro _ w H a A
       try rw [<- tJ m_ i x] at A
       refine WR.done rfl ?_;refine Runs.region ?_;refine WR.seg A 3 [] [0, 1, 5, 6] (Lo := [(0, .slice y ((mSet m_ i x).length) u), (1, .func (.func 234) #[] #[.pointer (some ⟨r, 0, none⟩)]), (5, .i (w64 (i + 1))), (6, .i j)]) (obs := []) rfl (by kernel_rfl) trivial fun a A => ?_
       refine WR.done rfl ?_;refine Runs.inBlock ?_;cases hm;exact hk _ _ ⟨A.sel [0, 1, 5, 6] (by kernel_rfl), H.t1.t1⟩
      ·replace hm := yd c hm;refine Runs.skip ?_;refine Runs.inBlock ?_;cases hm;exact hk _ _ ⟨A.sel [0, 1, 5, 6] (by kernel_rfl), H.t1⟩
     rintro a w ⟨A, H⟩;refine Runs.region ?_;refine WR.seg A 3 [] [0, 1, 5, 6] (Lo := [(0, .slice y s2.2.length u), (1, .func (.func 234) #[] #[.pointer (some ⟨r, 0, none⟩)]), (5, .i s2.1), (6, .i (w64 (j + 1)))]) (obs := []) rfl (by kernel_rfl) trivial fun a A => ?_
     refine WR.done rfl ?_;exact ih m (Nat.lt_succ_self m) _ _ ⟨s2.1, w64 (j + 1), s2.2, A.sel [0, 1, 5, 6] (by kernel_rfl), H.t1.t1, hm⟩
    ·replace hm := yd c hm;refine Runs.exit rfl ?_;cases hm;exact hk _ _ ⟨A.sel [0, 5] (by kernel_rfl), H.t1.t1⟩
  rintro a w ⟨A, H⟩;refine Runs.sr ?_;obtain ⟨l, el, hm⟩ := bind_some hm;obtain ⟨sb, q⟩ : ∃ z, yF y u (Int.toNat s1.1) 1 = z := ⟨_, rfl⟩
  obtain ⟨sc, q1⟩ : ∃ z, u - (Int.toNat s1.1) = z := ⟨_, rfl⟩
  refine WR.seg A 3 [.slice sb l.length sc] [0, 5, 38] (Lo := [(0, .slice y s1.2.length u), (5, .i s1.1), (38, .slice sb l.length sc)]) (obs := [.p (yF y u (Int.toNat s1.1) 1 = sb), .p (s1.2.length - (Int.toNat s1.1) = l.length), .p (u - (Int.toNat s1.1) = sc), .p (0 <= (s1.1 : Int) /\ (s1.1 : Int) <= ((s1.2.length : Nat) : Int))]) rfl (by kernel_rfl) ⟨q, qZ el, q1, kB el, trivial⟩ fun a A => ?_
  refine WR.eff0 A rfl rfl rfl (OpTo.eI (z := 0) A H wE el q q1 rfl rfl rfl rfl rfl rfl) ?_;rintro _ w ⟨_, H⟩ a A
  try rw [<- oJ (z := 0) el] at A
  refine WR.done rfl ?_;refine Runs.sr ?_;obtain ⟨l1, F, hm⟩ := bind_some hm;obtain ⟨B, q2⟩ : ∃ z, yF y u (Int.toNat 0) 1 = z := ⟨_, rfl⟩
  obtain ⟨D, q3⟩ : ∃ z, u - (Int.toNat 0) = z := ⟨_, rfl⟩
  refine WR.seg A 4 [.slice B l1.length D] [4] (Lo := [(4, .slice B l1.length D)]) (obs := [.p (yF y u 0 1 = B), .p ((Int.toNat s1.1) - 0 = l1.length), .p (u - 0 = D), .p (0 <= (s1.1 : Int) /\ (s1.1 : Int) <= ((u : Nat) : Int))]) rfl (by kernel_rfl) ⟨q2, qZ F, q3, iH F (H.oQ 0 rfl).1, trivial⟩ fun a A => ?_
  refine WR.done rfl ?_;replace H := H.eH wE F q2 q3;refine Runs.ret A Tryz.func233 rfl rfl ?_;cases hm;exact ⟨B, D, rfl, H.t1.t1⟩
def C235 (k : Nat) : Con El := zL 235 tp (fun j => tP k j.1.2.2 j.2.1) 1 1 (fun j t e i => .slice (na i 0) t.1.length (nn e 0)) (fun j t e i => [.sl 1 3 (na i 0) (nn e 0) t.1] ++ za.D.flat j.1.1 j.1.2.1 t.2)
theorem S235 (k : Nat) : (C235 k).Sound pG :=
  fsn mixed (C235 k) (n := 10) (rs := rsOf pG 235) [] [1000, 0, 1, 2, 3] (gj (g2 (gL 1 1000) (gO za.D [0, 1, 2, 3])) [nSk 1000]) (fun i => (.g 1 (.g 3 (.s (.call K196 [.K 0, .K 1, .K 2, .K 3] [0, 1, 2, 3]) (.s (.call (K229 k) [.K 0, .K 1, .K 2, .K 3] [4, 0, 1, 2, 3]) (.g 1 (.rk (rb 1000 [4]) .ret))))))) Tryz.func235
theorem pN {w0 w : World} {As : List HP} {k : Nat} {j : Nat} {e : za.A} {a_ : za} {n : Int} {t : (List Int) × za}  (hm : tP k a_ n = some t) (H : St w0 (za.R j e a_ :: As) w) :
    yz pG 235 #[.pointer (some ⟨j, 0, none⟩), .i n] w fun v w' => ∃ (l : Option Addr), ∃ (u : Nat), v = .slice l t.1.length u /\ St w0 (Sl 3 ecI 1 l u t.1 :: za.R j e t.2 :: As) w' := by
  replace H := (fs0 fun As => za.D_st).1 H;refine (S235 k ((j, e, a_), n, ()) t hm w0 w (As) rd0 H).mono ?_;rintro v w' ⟨J, z, hn, ha, hv, H, B⟩;obtain ⟨D, F, rfl, x⟩ := lsS hn;obtain rfl := ls0 x;obtain ⟨a0, I, rfl, y⟩ := lsS ha;obtain rfl := ls0 y;refine ⟨a0, D, hv, ?_⟩;refine (fs1 fun As => za.D_st).2 ?_;exact H
theorem pg {w0 w : World} {As : List HP} {k : Nat} {j : Nat} {u : za.A} {a_ : za} {B : Option Addr} {D : Nat} {l : List Int} {n : Int} {t : Int × Int × za}  (hm : xB k a_ l n = some t) (H : St w0 (za.R j u a_ :: Sl 3 ecI 1 B D l :: As) w) :
    yz pG 201 #[.pointer (some ⟨j, 0, none⟩), .slice B l.length D, .i n] w fun v w' => ∃ (x : Option Addr), ∃ (y : Nat), v = .tuple #[.i t.1, .i t.2.1] /\ St w0 (za.R j (za.A.mk u.l_b u.l_c x y u.m__p) t.2.2 :: As) w' := by
 rw [xB] at hm;refine enter (args := [.pointer (some ⟨j, 0, none⟩), .slice B l.length D, .i n]) Tryz.func201 rfl rfl rfl fun a e => ?_
 refine Runs.sr ?_;refine WR.eff e rfl rfl rfl rfl (OpTo.new e H [] (.cells #[.i n] 3 (0, 0)) (fun r => .pointer (some ⟨r, 0, none⟩)) (obs := []) rfl (fun _ => by kernel_rfl) trivial) ?_;rintro _ w ⟨r, rfl, H⟩ a e;refine WR.seg e 3 [] [0, 1, 5] (Lo := [(0, .pointer (some ⟨j, 0, none⟩)), (1, .slice B l.length D), (5, .pointer (some ⟨r, 0, none⟩))]) (obs := []) rfl (by kernel_rfl) trivial fun a e => ?_
 refine WR.done rfl ?_;refine Runs.sr ?_;refine WR.d0 e 2 [(10, .slice B l.length D), (11, .func (.func 234) #[] #[.pointer (some ⟨r, 0, none⟩)])] fun a e => ?_
 obtain ⟨t_, W, hm⟩ := bind_some hm;refine WR.eff e rfl rfl rfl rfl (OpTo.fn e rfl rfl Tryz.call233 (tu W H.t2)) ?_;rintro _ w ⟨sb, sc, rfl, H⟩ a e;refine WR.e0 e [(8, .slice sb t_.length sc)] fun a e => ?_
 refine Runs.sr ?_;refine WR.d e 3 [.i n] [(13, .slice sb t_.length sc), (14, .pointer (some ⟨j, 0, none⟩)), (15, .i n)] (obs := [.cell ⟨r, 0, none⟩ (.i n)]) ⟨H.cell 1 rfl rfl, trivial⟩ fun a e => ?_
 obtain ⟨a0, F, hm⟩ := bind_some hm;refine WR.eff e rfl rfl rfl rfl (OpTo.fn e rfl rfl Tryz.call235 (pN F H.t2)) ?_;rintro _ w ⟨a1, a2, rfl, H⟩ a e;obtain ⟨Z, X, hm⟩ := bind_some hm;replace H := H.t2;refine WR.eff e rfl rfl rfl rfl (OpTo.rI X e H wE rfl rfl rfl rfl rfl rfl rfl rfl rfl rfl (SlRd.all (yN 3 ecI 1 _ _ _) wE H 1 rfl) rfl) ?_;rintro _ w ⟨I, J, rfl, H⟩ a e;refine WR.e0 e [(8, .slice I Z.length J)] fun a e => ?_
 refine Runs.sr ?_;refine WR.d e 2 [.i n] [(18, .pointer (some ⟨j, 0, none⟩)), (19, .i n)] (obs := [.cell ⟨r, 0, none⟩ (.i n)]) ⟨H.cell 3 rfl rfl, trivial⟩ fun a e => ?_
 obtain ⟨O, S, hm⟩ := bind_some hm;refine WR.eff e rfl rfl rfl rfl (OpTo.fn e rfl rfl Tryz.call200 (nU S H.t2)) ?_;rintro _ w ⟨z, z1, rfl, H⟩ a e;refine WR.e0 e [(9, .i O.1)] fun a e => ?_
 refine Runs.sr ?_;refine WR.d0 e 2 [(21, .pointer (some ⟨j, 0, none⟩)), (22, .slice I Z.length J)] fun a e => ?_
 obtain ⟨Y, U, hm⟩ := bind_some hm;replace H := H.t1.t1;refine WR.eff e rfl rfl rfl rfl (OpTo.fn e rfl rfl Tryz.call189 (qT (hX_l := (yN 3 ecI 1 _ _ _)) (hC_l := (H.oQ 1 rfl).1) U H)) ?_;rintro _ w ⟨rfl, H⟩ a e;refine WR.e0 e [(6, .i Y.1), (7, .i O.1)] fun a e => ?_
 refine Runs.ret e Tryz.func201 rfl rfl ?_;cases hm;exact ⟨z, z1, rfl, H.x3.x2.x1⟩
abbrev Be : List (PK El) := [pO za.D, pW 1 3, pI .i64]
def C201 (k : Nat) : Con El := zL 201 Be (fun e => xB k e.1.2.2 e.2.1.2.2 e.2.2.1) 1 1 (fun e t j l => .tuple #[.i t.1, .i t.2.1]) (fun e t j l => za.D.flat e.1.1 (za.A.mk e.1.2.1.l_b e.1.2.1.l_c (na l 0) (nn j 0) e.1.2.1.m__p) t.2.2)
theorem S201 (k : Nat) : (C201 k).Sound pG := fun e t hm w0 w F hr H => by
  obtain ⟨⟨p0, i, x0⟩, ⟨j, l, x1⟩, x2, _⟩ := e;have u : St w0 (za.R p0 i x0 :: Sl 3 ecI 1 j l x1 :: F) w := by
    refine (fs0 fun As => za.D_st).2 ?_;exact H
  refine (pg (show xB k x0 x1 x2 = some t from hm) u).mono ?_;rintro v w' ⟨e0, x, hv, H⟩;refine ⟨[x], [e0], rfl, rfl, hv, ?_, fun _ h => by cases h⟩;replace H := (fs0 fun As => za.D_st).1 H;exact H
def K201 (k : Nat) : SCon El pG := ⟨C201 k, S201 k, Tryz.call201⟩
def C145 (k : Nat) : Con El := zL 145 tp (fun e => te k e.1.2.2 e.2.1) 1 1 (fun e t j l => .tuple #[.i t.1, .i t.2.1]) (fun e t j l => za.D.flat e.1.1 (za.A.mk e.1.2.1.l_b e.1.2.1.l_c (na l 0) (nn j 0) e.1.2.1.m__p) t.2.2)
theorem S145 (k : Nat) : (C145 k).Sound pG :=
  fsn mixed (C145 k) (n := 26) (rs := rsOf pG 145) [] [0, 1, 2, 3] (gj (g2 (gI 4) (g2 (gI 5) (gO za.D [0, 1, 2, 3]))) [nq_2]) (fun i => (.g 2 (.join (Bool) 0 0 (gj (gB 14) []) (fun e j l t => ([(14, .bool j)] ++ kp [0, 1] e, ka [0, 1, 2, 3] e)) (.g 5 (.s (.call K198 [.K 0, .K 1, .K 2, .K 3] [0, 1, 2, 3]) (.g 2 .leaf))) (.cond (.g 2 .ret) (.g 2 (.s (.call (K190 k) [.K 0, .K 1, .K 2, .K 3] [4, 0, 1, 2, 3]) (.g 1 (.g 4 (.s (.call (K197 k) [.K 0, .K 1, .K 2, .K 3, .O 4] [0, 1, 2, 3]) (.s (.call (K201 k) ks_4 [0, 1, 2, 3]) (.g 4 .ret))))))))))) Tryz.func145
def K145 (k : Nat) : SCon El pG := ⟨C145 k, S145 k, Tryz.call145⟩
theorem sF {w0 w : World} {As : List HP} {x : Int} {v_ : Int} {r : Nat} {t : Bool}  (hm : vN x v_ = some t) (H : St w0 (Blk r 3 [.i v_] :: As) w) :
    yz pG 236 #[.i x, .pointer (some ⟨r, 0, none⟩)] w fun v w' => v = .bool t /\ St w0 (Blk r 3 [.i v_] :: As) w' := by
 rw [vN] at hm;refine enter (args := [.i x, .pointer (some ⟨r, 0, none⟩)]) Tryz.func236 rfl rfl rfl fun a j => ?_
 refine Runs.sr ?_;refine WR.seg j 1 [] [0, 1] (Lo := [(0, .i x), (1, .pointer (some ⟨r, 0, none⟩))]) (obs := []) rfl (by kernel_rfl) trivial fun a j => ?_
 refine WR.done rfl ?_;refine Runs.sr ?_;refine WR.e j [.i v_] [(3, .bool (x == v_))] (obs := [.cell ⟨r, 0, none⟩ (.i v_)]) ⟨H.cell 0 rfl rfl, trivial⟩ fun a j => ?_
 refine Runs.ret j Tryz.func236 rfl rfl ?_;cases hm;exact ⟨rfl, H⟩
theorem tD {w0 w : World} {As : List HP} {k : Nat} {j : Option Addr} {l : Nat} {s : List Int} {u : HP} {v_ : Int} {r : Nat} {t : Int} (hX_s : SlRd u ecI 1 j s) (hC_s : s.length <= l) (hm : xU k s v_ = some t) (H : St w0 (u :: Blk r 3 [.i v_] :: As) w) :
    yz pG 256 #[.slice j s.length l, .func (.func 236) #[] #[.pointer (some ⟨r, 0, none⟩)]] w fun v w' => v = .i t /\ St w0 (u :: Blk r 3 [.i v_] :: As) w' := by
 rw [xU] at hm;refine enter (args := [.slice j s.length l, .func (.func 236) #[] #[.pointer (some ⟨r, 0, none⟩)]]) Tryz.func256 rfl rfl rfl fun a e => ?_
 refine Runs.sr ?_;refine WR.seg e 1 [] [0, 1] (Lo := [(0, .slice j s.length l), (1, .func (.func 236) #[] #[.pointer (some ⟨r, 0, none⟩)])]) (obs := []) rfl (by kernel_rfl) trivial fun a e => ?_
 refine WR.done rfl ?_;refine Runs.seq ?_;refine Runs.sr ?_;refine WR.e0 e [(7, .i (s.length : Int)), (8, .i 0)] fun a e => ?_
 obtain ⟨s1, y, A⟩ := bind_some hm;refine Runs.join (fun a w => ∃ s2, s1 = Sum.inr s2 /\ zO 19 a [] /\ St w0 (u :: Blk r 3 [.i v_] :: As) w) (fun hk => ?_) ?_
 ·replace hm := y; clear y;refine Runs.block ?_;refine Runs.loop (fun m a w => ∃ (x : Int), zO 19 a [(0, .slice j s.length l), (1, .func (.func 236) #[] #[.pointer (some ⟨r, 0, none⟩)]), (7, .i (s.length : Int)), (8, .i x)] /\ St w0 (u :: Blk r 3 [.i v_] :: As) w /\ zZ (s.length : Int) s v_ m x = some s1) k ⟨0, e.sel [0, 1, 7, 8] (by kernel_rfl), H.t1.t1, hm⟩ ?_;rintro m ih a w ⟨x, e, H, hm⟩;cases m with
  | zero => simp [zZ] at hm
  | succ m =>
   rw [zZ] at hm;refine Runs.sr ?_;refine WR.seg e 1 [] [0, 1, 7, 8, 9] (Lo := [(0, .slice j s.length l), (1, .func (.func 236) #[] #[.pointer (some ⟨r, 0, none⟩)]), (7, .i (s.length : Int)), (8, .i x), (9, .bool (decide (x < (s.length : Int))))]) (obs := []) rfl (by kernel_rfl) trivial fun a e => ?_
   refine WR.done rfl ?_;refine Runs.seq ?_;refine Runs.cond e rfl (fun c => ?_) (fun c => ?_)
   ·replace hm := ye c hm;refine Runs.skip ?_;refine Runs.seq ?_;refine Runs.block ?_;refine Runs.sr ?_;refine WR.e0 e [(5, .i x)] fun a e => ?_
    refine Runs.sr ?_;obtain ⟨x2, z, hm⟩ := bind_some hm;obtain ⟨b, o, hs, D⟩ := SlRd.base hX_s wE H 0 rfl z;refine WR.d e 5 [.pointer (some ⟨b, o, none⟩), .i x2] [(11, .func (.func 236) #[] #[.pointer (some ⟨r, 0, none⟩)]), (15, .i x2)] (obs := [.p ((j : Option Addr) = some ⟨b, o, none⟩), .p (0 <= (x : Int) /\ (x : Int) < ((s.length : Nat) : Int)), .cell ⟨b, o + (Int.toNat x) * 1, none⟩ (.i x2)]) ⟨hs, D, SlRd.cells hX_s wE H 0 rfl hs z 0 _ rfl, trivial⟩ fun a e => ?_
    obtain ⟨t_, B, hm⟩ := bind_some hm;refine WR.eff e rfl rfl rfl rfl (OpTo.fv e rfl rfl rfl Tryz.call236 (sF B H.t1)) ?_;rintro _ w ⟨rfl, H⟩ a e;refine WR.done rfl ?_;refine Runs.cond e rfl (fun c => ?_) (fun c => ?_)
    ·replace hm := ye c hm;refine Runs.sr ?_;refine WR.e0 e [(4, .i x)] fun a e => ?_
     refine Runs.ret e Tryz.func256 rfl rfl ?_;cases hm;dsimp only at A; cases A;exact ⟨rfl, H.t1⟩
    ·replace hm := yd c hm;refine Runs.skip ?_;refine Runs.inBlock ?_;refine Runs.region ?_;refine WR.e0 e [(8, .i (w64 (x + 1)))] fun a e => ?_
     exact ih m (Nat.lt_succ_self m) _ _ ⟨w64 (x + 1), e.sel [0, 1, 7, 8] (by kernel_rfl), H.t1, hm⟩
   ·replace hm := yd c hm;refine Runs.exit rfl ?_;cases hm;exact hk _ _ ⟨_, rfl, e.sel [] (by kernel_rfl), H.t1.t1⟩
 rintro a w ⟨s2, rfl, e, H⟩;replace hm := A; dsimp only at hm;refine Runs.sr ?_;refine WR.seg e 1 [] [4] (Lo := [(4, .i (-1))]) (obs := []) rfl (by kernel_rfl) trivial fun a e => ?_
 refine WR.done rfl ?_;refine Runs.ret e Tryz.func256 rfl rfl ?_;cases hm;exact ⟨rfl, H.t1.t1⟩
theorem tz {w0 w : World} {As : List HP} {k : Nat} {y : Option Addr} {u : Nat} {s : List Int} {v_ : Int} {r : Nat} {t : (List Int)}  (hm : xh k s v_ = some t) (H : St w0 (Sl 3 ecI 1 y u s :: Blk r 3 [.i v_] :: As) w) :
    yz pG 233 #[.slice y s.length u, .func (.func 236) #[] #[.pointer (some ⟨r, 0, none⟩)]] w fun v w' => ∃ (I : Option Addr), ∃ (J : Nat), v = .slice I t.length J /\ St w0 (Sl 3 ecI 1 I J t :: Blk r 3 [.i v_] :: As) w' := by
 rw [xh] at hm;refine enter (args := [.slice y s.length u, .func (.func 236) #[] #[.pointer (some ⟨r, 0, none⟩)]]) Tryz.func233 rfl rfl rfl fun a A => ?_
 refine Runs.sr ?_;refine WR.seg A 1 [] [0, 1] (Lo := [(0, .slice y s.length u), (1, .func (.func 236) #[] #[.pointer (some ⟨r, 0, none⟩)])]) (obs := []) rfl (by kernel_rfl) trivial fun a A => ?_
 refine WR.done rfl ?_;refine Runs.sr ?_;refine WR.d0 A 2 [(8, .slice y s.length u), (9, .func (.func 236) #[] #[.pointer (some ⟨r, 0, none⟩)])] fun a A => ?_
 obtain ⟨t_, Y, hm⟩ := bind_some hm;replace H := H.t1.t1;refine WR.eff A rfl rfl rfl rfl (OpTo.fn A rfl rfl Tryz.call256 (tD (hX_s := (yN 3 ecI 1 _ _ _)) (hC_s := (H.oQ 0 rfl).1) Y H)) ?_;rintro _ w ⟨rfl, H⟩ a A;refine WR.e0 A [(5, .i t_)] fun a A => ?_
 refine Runs.seq ?_;refine Runs.sr ?_;refine WR.e0 A [(12, .bool (t_ == (-1)))] fun a A => ?_
 refine Runs.cond A rfl (fun c => ?_) (fun c => ?_)
 ·replace hm := ye c hm;refine Runs.sr ?_;refine WR.e0 A [(4, .slice y s.length u)] fun a A => ?_
  refine Runs.ret A Tryz.func233 rfl rfl ?_;cases hm;exact ⟨y, u, rfl, H.t1.t1⟩
 ·replace hm := yd c hm;refine Runs.skip ?_;refine Runs.seq ?_;refine Runs.sr ?_;refine WR.e0 A [(6, .i (w64 (t_ + 1)))] fun a A => ?_
  obtain ⟨s1, O, hm⟩ := bind_some hm;refine Runs.join (fun a w => zO 42 a [(0, .slice y s1.2.length u), (5, .i s1.1)] /\ St w0 (Sl 3 ecI 1 y u s1.2 :: Blk r 3 [.i v_] :: As) w) (fun hk => ?_) ?_
  ·replace hm := O; clear O;refine Runs.block ?_;refine Runs.loop (fun m a w => ∃ (i : Int), ∃ (j : Int), ∃ (m_ : List Int), zO 42 a [(0, .slice y m_.length u), (1, .func (.func 236) #[] #[.pointer (some ⟨r, 0, none⟩)]), (5, .i i), (6, .i j)] /\ St w0 (Sl 3 ecI 1 y u m_ :: Blk r 3 [.i v_] :: As) w /\ yg v_ m i j m_ = some s1) k ⟨t_, w64 (t_ + 1), s, A.sel [0, 1, 5, 6] (by kernel_rfl), H.t1.t1, hm⟩ ?_;rintro m ih a w ⟨i, j, m_, A, H, hm⟩;cases m with
   | zero => simp [yg] at hm
   | succ m =>
    rw [yg] at hm;refine Runs.seq ?_;refine Runs.sr ?_;refine WR.seg A 4 [] [0, 1, 5, 6, 19] (Lo := [(0, .slice y m_.length u), (1, .func (.func 236) #[] #[.pointer (some ⟨r, 0, none⟩)]), (5, .i i), (6, .i j), (19, .bool (decide (j < (m_.length : Int))))]) (obs := []) rfl (by kernel_rfl) trivial fun a A => ?_
    refine WR.done rfl ?_;refine Runs.cond A rfl (fun c => ?_) (fun c => ?_)
    ·replace hm := ye c hm;refine Runs.skip ?_;refine Runs.seq ?_;obtain ⟨s2, S, hm⟩ := bind_some hm;refine Runs.join (fun a w => zO 42 a [(0, .slice y s2.2.length u), (1, .func (.func 236) #[] #[.pointer (some ⟨r, 0, none⟩)]), (5, .i s2.1), (6, .i j)] /\ St w0 (Sl 3 ecI 1 y u s2.2 :: Blk r 3 [.i v_] :: As) w) (fun hk => ?_) ?_
     ·replace hm := S; clear S;refine Runs.block ?_;refine Runs.sr ?_;obtain ⟨x, ex, hm⟩ := bind_some hm;obtain ⟨b, o, hs, hb⟩ := SlRd.base (yN 3 ecI 1 _ _ _) wE H 0 rfl ex;refine WR.e A [.pointer (some ⟨b, o, none⟩), .i x] [(7, .i x)] (obs := [.p ((y : Option Addr) = some ⟨b, o, none⟩), .p (0 <= (j : Int) /\ (j : Int) < ((m_.length : Nat) : Int)), .cell ⟨b, o + (Int.toNat j) * 1, none⟩ (.i x)]) ⟨hs, hb, SlRd.cells (yN 3 ecI 1 _ _ _) wE H 0 rfl hs ex 0 _ rfl, trivial⟩ fun a A => ?_
      refine Runs.sr ?_;refine WR.d0 A 2 [(26, .func (.func 236) #[] #[.pointer (some ⟨r, 0, none⟩)]), (27, .i x)] fun a A => ?_
      obtain ⟨Z, U, hm⟩ := bind_some hm;refine WR.eff A rfl rfl rfl rfl (OpTo.fv A rfl rfl rfl Tryz.call236 (sF U H.t1)) ?_;rintro _ w ⟨rfl, H⟩ a A;refine WR.e0 A [(29, .bool (!Z))] fun a A => ?_
      refine Runs.cond A rfl (fun c => ?_) (fun c => ?_)
      ·replace hm := ye c hm;refine Runs.sr ?_;obtain ⟨x1, W, hm⟩ := bind_some hm;obtain ⟨b1, o1, X, a2⟩ := SlRd.base (yN 3 ecI 1 _ _ _) wE H 1 rfl W;refine WR.d A 4 [.pointer (some ⟨b1, o1, none⟩)] [(32, .i x), (33, .pointer (some ⟨b1, o1 + (Int.toNat i) * 1, none⟩))] (obs := [.p ((y : Option Addr) = some ⟨b1, o1, none⟩), .p (0 <= (i : Int) /\ (i : Int) < ((m_.length : Nat) : Int))]) ⟨X, a2, trivial⟩ fun a A => ?_
       refine WR.eff0 A rfl rfl rfl (OpTo.kV (q := 0) (x' := x) A H.t1 wE rfl X W rfl rfl rfl rfl rfl (Nat.le_of_ble_eq_true rfl) rfl) ?_;rintro _ w H a A
       try rw [<- tJ m_ i x] at A
       refine WR.done rfl ?_;refine Runs.region ?_;refine WR.seg A 3 [] [0, 1, 5, 6] (Lo := [(0, .slice y ((mSet m_ i x).length) u), (1, .func (.func 236) #[] #[.pointer (some ⟨r, 0, none⟩)]), (5, .i (w64 (i + 1))), (6, .i j)]) (obs := []) rfl (by kernel_rfl) trivial fun a A => ?_
       refine WR.done rfl ?_;refine Runs.inBlock ?_;cases hm;exact hk _ _ ⟨A.sel [0, 1, 5, 6] (by kernel_rfl), H.t1.t1⟩
      ·replace hm := yd c hm;refine Runs.skip ?_;refine Runs.inBlock ?_;cases hm;exact hk _ _ ⟨A.sel [0, 1, 5, 6] (by kernel_rfl), H.t1⟩
     rintro a w ⟨A, H⟩;refine Runs.region ?_;refine WR.seg A 3 [] [0, 1, 5, 6] (Lo := [(0, .slice y s2.2.length u), (1, .func (.func 236) #[] #[.pointer (some ⟨r, 0, none⟩)]), (5, .i s2.1), (6, .i (w64 (j + 1)))]) (obs := []) rfl (by kernel_rfl) trivial fun a A => ?_
     refine WR.done rfl ?_;exact ih m (Nat.lt_succ_self m) _ _ ⟨s2.1, w64 (j + 1), s2.2, A.sel [0, 1, 5, 6] (by kernel_rfl), H.t1.t1, hm⟩
    ·replace hm := yd c hm;refine Runs.exit rfl ?_;cases hm;exact hk _ _ ⟨A.sel [0, 5] (by kernel_rfl), H.t1.t1⟩
  rintro a w ⟨A, H⟩;refine Runs.sr ?_;obtain ⟨l, el, hm⟩ := bind_some hm;obtain ⟨sb, q⟩ : ∃ z, yF y u (Int.toNat s1.1) 1 = z := ⟨_, rfl⟩
  obtain ⟨sc, q1⟩ : ∃ z, u - (Int.toNat s1.1) = z := ⟨_, rfl⟩
  refine WR.seg A 3 [.slice sb l.length sc] [0, 5, 38] (Lo := [(0, .slice y s1.2.length u), (5, .i s1.1), (38, .slice sb l.length sc)]) (obs := [.p (yF y u (Int.toNat s1.1) 1 = sb), .p (s1.2.length - (Int.toNat s1.1) = l.length), .p (u - (Int.toNat s1.1) = sc), .p (0 <= (s1.1 : Int) /\ (s1.1 : Int) <= ((s1.2.length : Nat) : Int))]) rfl (by kernel_rfl) ⟨q, qZ el, q1, kB el, trivial⟩ fun a A => ?_
  refine WR.eff0 A rfl rfl rfl (OpTo.eI (z := 0) A H wE el q q1 rfl rfl rfl rfl rfl rfl) ?_;rintro _ w ⟨_, H⟩ a A
  try rw [<- oJ (z := 0) el] at A
  refine WR.done rfl ?_;refine Runs.sr ?_;obtain ⟨l1, F, hm⟩ := bind_some hm;obtain ⟨B, q2⟩ : ∃ z, yF y u (Int.toNat 0) 1 = z := ⟨_, rfl⟩
  obtain ⟨D, q3⟩ : ∃ z, u - (Int.toNat 0) = z := ⟨_, rfl⟩
  refine WR.seg A 4 [.slice B l1.length D] [4] (Lo := [(4, .slice B l1.length D)]) (obs := [.p (yF y u 0 1 = B), .p ((Int.toNat s1.1) - 0 = l1.length), .p (u - 0 = D), .p (0 <= (s1.1 : Int) /\ (s1.1 : Int) <= ((u : Nat) : Int))]) rfl (by kernel_rfl) ⟨q2, qZ F, q3, iH F (H.oQ 0 rfl).1, trivial⟩ fun a A => ?_
  refine WR.done rfl ?_;replace H := H.eH wE F q2 q3;refine Runs.ret A Tryz.func233 rfl rfl ?_;cases hm;exact ⟨B, D, rfl, H.t1.t1⟩
end Go.Proofs.YtccbfeafebllhaaGreat
end
