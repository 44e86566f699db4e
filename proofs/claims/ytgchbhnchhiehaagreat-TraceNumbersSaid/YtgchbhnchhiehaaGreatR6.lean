/-
  The engine by certificates, part 6: contracts put together of kinds of parameters; readers of a known state.
-/
import Derived.Test.YtgchbhnchhiehaaGreatR5
set_option linter.unusedVariables false
set_option linter.unusedSimpArgs false
namespace Go.Th
section
variable {E : Ev}

/-- An object: its addresses A, what it holds M; its parts, laid flat, and how they are read. -/
structure OD (E : Ev) : Type 1 where
  A : Type
  M : Type
  flat : Nat → A → M → List (Atom E)
  rd : List (Atom E) → Option (A × M × List (Atom E))

def rS (c : Nat) (as : List (Atom E)) : Option ((Option Addr × Nat × List (E.el c).α) × List (Atom E)) := match as with
  | .sl _ _ sb sc l :: r => match castE c l with
    | some l' => some ((sb, sc, l'), r)
    | none => none
  | _ => none
def rM (c : Nat) (as : List (Atom E)) : Option ((Nat × List ((E.mp c).K × (E.mp c).V)) × List (Atom E)) := match as with
  | .mp _ b m :: r => match castM c m with
    | some m' => some ((b, m'), r)
    | none => none
  | _ => none
structure PK (E : Ev) : Type 1 where
  T : Type
  rd : Value → List (Atom E) → Option (T × List (Atom E))
  arg : T → Value
  ats : T → List (Atom E)
  rds : T → List (RdV E)
def pI (k : IntKind) : PK E := ⟨Int, fun v as => match v with
  | .int _ x => some (x, as)
  | _ => none, fun x => .int k x, fun _ => [], fun _ => []⟩
def pB : PK E := ⟨Bool, fun v as => match v with
  | .bool x => some (x, as)
  | _ => none, fun x => .bool x, fun _ => [], fun _ => []⟩
def pS : PK E := ⟨ByteArray, fun v as => match v with
  | .string x => some (x, as)
  | _ => none, fun x => .string x, fun _ => [], fun _ => []⟩
def pV {α : Type} (dec : Value → Option α) (val : α → Value) : PK E := ⟨α, fun v as => match dec v with
  | some x => some (x, as)
  | none => none, val, fun _ => [], fun _ => []⟩
def pK (v : Value) : PK E := ⟨Unit, fun _ as => some ((), as), fun _ => v, fun _ => [], fun _ => []⟩
def pO (D : OD E) : PK E := ⟨Nat × D.A × D.M, fun v as => match v with
  | .pointer (some ⟨p, _, _⟩) => match D.rd as with
    | some (a, m, r) => some ((p, a, m), r)
    | none => none
  | _ => none, fun x => .pointer (some ⟨x.1, 0, none⟩), fun x => D.flat x.1 x.2.1 x.2.2, fun _ => []⟩
def pR (c : Nat) : PK E := ⟨Option Addr × Nat × List (E.el c).α, fun v as => match as with
  | .sl c' _ sb sc l :: r => match castE c l with
    | some l' => some ((sb, sc, l'), r)
    | none => none
  | _ => none, fun x => .slice x.1 x.2.2.length x.2.1, fun _ => [], fun x => [⟨c, x.1, x.2.1, x.2.2⟩]⟩
def pW (c : Nat) (T : TypeId) : PK E := ⟨Option Addr × Nat × List (E.el c).α, fun v as => match as with
  | .sl c' _ sb sc l :: r => match castE c l with
    | some l' => some ((sb, sc, l'), r)
    | none => none
  | _ => none, fun x => .slice x.1 x.2.2.length x.2.1, fun x => [.sl c T x.1 x.2.1 x.2.2], fun _ => []⟩

def Ins : List (PK E) → Type
  | [] => Unit
  | p :: ps => p.T × Ins ps
def rdAll : (ps : List (PK E)) → List Value → List (Atom E) → Option (Ins ps)
  | [], _, _ => some ()
  | p :: ps, v :: vs, as => match p.rd v as with
    | some (x, r) => match rdAll ps vs r with
      | some xs => some (x, xs)
      | none => none
    | none => none
  | _ :: _, [], _ => none
def argAll : (ps : List (PK E)) → Ins ps → List Value
  | [], _ => []
  | p :: ps, x => p.arg x.1 :: argAll ps x.2
def atsAll : (ps : List (PK E)) → Ins ps → List (Atom E)
  | [], _ => []
  | p :: ps, x => p.ats x.1 ++ atsAll ps x.2
def rdsAll : (ps : List (PK E)) → Ins ps → List (RdV E)
  | [], _ => []
  | p :: ps, x => p.rds x.1 ++ rdsAll ps x.2
@[reducible] def mkCon (fid : Nat) (ps : List (PK E)) {T : Type} (model : Ins ps → Option T) (nN nA : Nat) (val : Ins ps → T → List Nat → List (Option Addr) → Value) (post : Ins ps → T → List Nat → List (Option Addr) → List (Atom E)) : Con E :=
  ⟨fid, Ins ps, T, rdAll ps, argAll ps, atsAll ps, rdsAll ps, model, nN, nA, val, post, fun _ _ => none, fun _ _ => [], false, Unit, fun _ _ => none, 0, fun _ _ _ _ _ => .tuple #[], fun _ _ _ _ _ => []⟩
@[reducible] def mkConO (fid : Nat) (ps : List (PK E)) {T : Type} (model : Ins ps → Option T) (nN nA : Nat) (val : Ins ps → T → List Nat → List (Option Addr) → Value) (post : Ins ps → T → List Nat → List (Option Addr) → List (Atom E)) (opt : Ins ps → T → Option Int) : Con E :=
  ⟨fid, Ins ps, T, rdAll ps, argAll ps, atsAll ps, rdsAll ps, model, nN, nA, val, post, fun i t => some (opt i t), fun _ _ => [], false, Unit, fun _ _ => none, 0, fun _ _ _ _ _ => .tuple #[], fun _ _ _ _ _ => []⟩
@[reducible] def mkConM (fid : Nat) (ps : List (PK E)) {T : Type} (model : Ins ps → Option T) (nN nA : Nat) (val : Ins ps → T → List Nat → List (Option Addr) → Value) (post : Ins ps → T → List Nat → List (Option Addr) → List (Atom E)) (fx : Ins ps → T → List Prop) : Con E :=
  ⟨fid, Ins ps, T, rdAll ps, argAll ps, atsAll ps, rdsAll ps, model, nN, nA, val, post, fun _ _ => none, fx, false, Unit, fun _ _ => none, 0, fun _ _ _ _ _ => .tuple #[], fun _ _ _ _ _ => []⟩
@[reducible] def mkConB (fid : Nat) (ps : List (PK E)) {T M : Type} (model : Ins ps → Option T) (nN nA : Nat) (val : Ins ps → T → List Nat → List (Option Addr) → Value) (post : Ins ps → T → List Nat → List (Option Addr) → List (Atom E)) (om : Ins ps → T → Option M) (nf : Nat)
    (val1 : Ins ps → T → M → List Nat → List (Option Addr) → Value) (post1 : Ins ps → T → M → List Nat → List (Option Addr) → List (Atom E)) : Con E :=
  ⟨fid, Ins ps, T, rdAll ps, argAll ps, atsAll ps, rdsAll ps, model, nN, nA, val, post, fun _ _ => none, fun _ _ => [], true, M, om, nf, val1, post1⟩

/-! Readers of a known state. -/
abbrev Gt (E : Ev) (T : Type) := Kn E → Option T
def gI (t : Nat) : Gt E Int := fun st => match look t st.L with
  | some (.int _ x) => some x
  | _ => none
def gB (t : Nat) : Gt E Bool := fun st => match look t st.L with
  | some (.bool x) => some x
  | _ => none
def gV {α : Type} (dec : Value → Option α) (t : Nat) : Gt E α := fun st => match look t st.L with
  | some v => dec v
  | _ => none
/-- The numbers of a struct's value. -/
def gO (D : OD E) (ks : List Nat) : Gt E D.M := fun st => match getKs ks st.As with
  | some as => match D.rd as with
    | some (_, m, _) => some m
    | none => none
  | none => none
def gL (c : Nat) (q : Nat) : Gt E (List (E.el c).α) := fun st => match getK q st.As with
  | some (.sl _ _ _ _ l) => castE c l
  | _ => none
def g2 {A B : Type} (a : Gt E A) (b : Gt E B) : Gt E (A × B) := fun st => match a st, b st with
  | some x, some y => some (x, y)
  | _, _ => none
def gU : Gt E Unit := fun _ => some ()
def gS (t : Nat) : Gt E ByteArray := fun st => match look t st.L with
  | some (.string x) => some x
  | _ => none
/-- Names: of a pointer's block, of a slice's header (both in a slot), of an object's parts. -/
abbrev Nx (E : Ev) := Kn E → Option (List Nat × List (Option Addr))
def nP (t : Nat) : Nx E := fun st => match look t st.L with
  | some (.pointer (some ⟨b, _, _⟩)) => some ([b], [])
  | _ => none
def nS (t : Nat) : Nx E := fun st => match look t st.L with
  | some (.slice sb _ sc) => some ([sc], [sb])
  | _ => none
def nA (D : OD E) (ks : List Nat) (f : D.A → List Nat × List (Option Addr)) : Nx E := fun st => match getKs ks st.As with
  | some as => match D.rd as with
    | some (al, _, _) => some (f al)
    | none => none
  | none => none
def nxs : List (Nx E) → Nx E
  | [], _ => some ([], [])
  | x :: r, st => match x st, nxs r st with
    | some (a, b), some (c, d) => some (a ++ c, b ++ d)
    | _, _ => none
def gj {T : Type} (a : Gt E T) (l : List (Nx E)) : Kn E → Option (T × List Nat × List (Option Addr)) := fun st => match a st, nxs l st with
  | some x, some (ns, as) => some (x, ns, as)
  | _, _ => none
def gl {X V : Type} (x : Gt E X) (v : Gt E V) (l : List (Nx E)) : Kn E → Option (X × V × List Nat × List (Option Addr)) := fun st => match x st, v st, nxs l st with
  | some x, some v, some (ns, as) => some (x, v, ns, as)
  | _, _, _ => none
def gt {T : Type} (a : Gt E T) : Kn E → Option (T × List Nat × List (Option Addr)) := fun st => match a st with
  | some x => some (x, [], [])
  | none => none
abbrev nn (l : List Nat) (i : Nat) : Nat := l.getD i 0
abbrev na (l : List (Option Addr)) (i : Nat) : Option Addr := l.getD i none
def zipL {α : Type} : List Nat → List α → List (Nat × α)
  | k :: ks, x :: xs => (k, x) :: zipL ks xs
  | _, _ => []
/-- An object that is another, at the same place. -/
def jO (D : OD E) (ks : List Nat) (st : Kn E) (f : Nat → D.A → List (Atom E)) : List (Nat × Atom E) := match getKs ks st.As with
  | some (.blk p T cs :: r) => match D.rd (.blk p T cs :: r) with
    | some (al, _, _) => zipL ks (f p al)
    | none => []
  | _ => []
def jS (c q : Nat) (st : Kn E) (l : List (E.el c).α) : List (Nat × Atom E) := match getK q st.As with
  | some (.sl _ T sb sc _) => [(q, .sl c T sb sc l)]
  | _ => []
def jM (c q : Nat) (st : Kn E) (m : List ((E.mp c).K × (E.mp c).V)) : List (Nat × Atom E) := match getK q st.As with
  | some (.mp _ r _) => [(q, .mp c r m)]
  | _ => []
def gM (c q : Nat) : Gt E (List ((E.mp c).K × (E.mp c).V)) := fun st => match getK q st.As with
  | some (.mp _ _ m) => castM c m
  | _ => none
/-- What stays known. -/
def kp (ks : List Nat) (st : Kn E) : Env := match sel ks st.L with
  | some L => L
  | none => []
def ka (ks : List Nat) (st : Kn E) : List (Nat × Atom E) := match ks with
  | [] => []
  | k :: r => match getK k st.As with
    | some a => (k, a) :: ka r st
    | none => ka r st
/-- Numbers of the blocks and the addresses. -/
def gP (k : Nat) : Gt E Nat := fun st => match getK k st.As with
  | some (.blk b _ _) => some b
  | some (.mp _ b _) => some b
  | _ => none
def gA (D : OD E) (ks : List Nat) : Gt E D.A := fun st => match getKs ks st.As with
  | some as => match D.rd as with
    | some (a, _, _) => some a
    | none => none
  | none => none
def gC {α : Type} (k off n : Nat) (dec : List Value → Option α) : Gt E α := fun st => match getK k st.As with
  | some (.blk _ _ cs) => dec ((cs.drop off).take n)
  | _ => none
def gh (k : Nat) : Gt E (Option Addr × Nat) := fun st => match getK k st.As with
  | some (.sl _ _ sb sc _) => some (sb, sc)
  | _ => none
def gr (c k : Nat) : Gt E (Option Addr × Nat × List (E.el c).α) := fun st => match getK k st.rd with
  | some r => match castE c r.l with
    | some l => some (r.sb, r.sc, l)
    | none => none
  | none => none
def nPk (k : Nat) : Nx E := fun st => match getK k st.As with
  | some (.blk b _ _) => some ([b], [])
  | some (.mp _ b _) => some ([b], [])
  | _ => none
def nSk (k : Nat) : Nx E := fun st => match getK k st.As with
  | some (.sl _ _ sb sc _) => some ([sc], [sb])
  | _ => none
/-- An object that may be nil. -/
def gOo (D : OD E) (ks : List Nat) (t : Nat) : Gt E (Option D.M) := fun st => match look t st.L with
  | some (.pointer none) => some none
  | some (.pointer (some _)) => match gO D ks st with
    | some m => some (some m)
    | none => none
  | _ => none
def nPo (k : Nat) : Nx E := fun st => match getK k st.As with
  | some (.blk b _ _) => some ([b], [])
  | _ => some ([0], [])
def nAo (D : OD E) (ks : List Nat) (f : D.A → List Nat × List (Option Addr)) (n m : Nat) : Nx E := fun st => match getKs ks st.As with
  | some as => match D.rd as with
    | some (al, _, _) => some (f al)
    | none => none
  | none => some (List.replicate n 0, List.replicate m none)
/-- Which element was told (a ghost's word). -/
def gE : Gt E (Option Int) := fun st => match getK 99999 st.ef with
  | some f => some (some f.i)
  | none => some none
def dI : List Value → Option Int
  | [.int _ x] => some x
  | _ => none
def dB : List Value → Option Bool
  | [.bool x] => some x
  | _ => none
def dS : List Value → Option ByteArray
  | [.string x] => some x
  | _ => none
def dvI : Value → Option Int
  | .int _ x => some x
  | _ => none
def dvB : Value → Option Bool
  | .bool x => some x
  | _ => none
def dvS : Value → Option ByteArray
  | .string x => some x
  | _ => none
/-- A part of the code. -/
def nav : List Nat → Code → Code
  | [], c => c
  | 0 :: r, .seq x _ => nav r x
  | _ :: r, .seq _ y => nav r y
  | 0 :: r, .cond _ x _ => nav r x
  | _ :: r, .cond _ _ y => nav r y
  | _ :: r, .block _ x => nav r x
  | _ :: r, .loop x => nav r x
  | _ :: _, c => c
def rsOf (P : Program) (f : Nat) : List ResultVar := match P.funcs[f]? with
  | some fn => fn.results.toList
  | none => []
def bodyOf (P : Program) (f : Nat) : Code := match P.funcs[f]? with
  | some fn => match fn.body with
    | some c => c
    | none => .skip
  | none => .skip
end
end Go.Th
