/-
  The statements TopTimes of the program.
  Text 5 of 8: of what the proof needs (a row of the program: no condition is left); put together and made narrow by a program.
-/
import Derived.Shelf.Slices.In.SortNone
import Derived.Shelf.Sort.Plain
import Derived.Test.YtojpmaakhdmhmaaGreatProg
import Derived.Test.YtojpmaakhdmhmaaGreatYw4
set_option linter.unusedVariables false
set_option linter.unusedSimpArgs false
namespace Go.Th
noncomputable section
section
variable {E : Ev} {P : Program}
theorem HpOk.kn {n : Nat} {w0 w : World} {F : List HP} {st : Kn E} {a : Act} {L : Env} (h : HpOk w0 F st w) (e : yc n a L) : KnOk n w0 F ⟨L,st.As,st.rd,st.ef,st.pr,st.vw⟩ a w := ⟨e,h.hp,h.fs.1,h.fs.2,h.fs.3,h.fs.4⟩
def idxC {R : Type} (st : Kn E) (c : Nat) (sb : Option Addr) (l : List (E.el c).α) (rdr : Bool) (x : Operand) (e : Nat) (K : Kn E -> VC R) : VC R :=
 match evO st.L x with
 | some (.int _ i) => .bind (mIdx l i) fun y => .frN fun b => .frN fun o => K ⟨st.L,st.As,st.rd,(e,⟨rdr,c,sb,l,i,y,b,o⟩) :: st.ef,st.pr,st.vw⟩
 | _ => .fail
def idkC {R : Type} (st : Kn E) (c : Nat) (sb : Option Addr) (l : List (E.el c).α) (rdr : Bool) (x : Operand) (e : Nat) (K : Kn E -> VC R) : VC R :=
 match evO st.L x with
 | some (.int _ i) => match mIdx l i with
  | some y => .frN fun b => .frN fun o => K ⟨st.L,st.As,st.rd,(e,⟨rdr,c,sb,l,i,y,b,o⟩) :: st.ef,st.pr,st.vw⟩
  | none => .fail
 | _ => .fail
def idkS {R : Type} (st : Kn E) (rdr : Bool) (q : Nat) (x : Operand) (e : Nat) (K : Kn E -> VC R) : VC R :=
 match rdr with
 | true => match getK q st.rd with
  | some r => idkC st r.c r.sb r.l true x e K
  | none => .fail
 | false => match getK q st.As with
  | some (.sl c T sb sc l) => idkC st c sb l false x e K
  | _ => .fail
def idxS {R : Type} (st : Kn E) (rdr : Bool) (q : Nat) (x : Operand) (e : Nat) (K : Kn E -> VC R) : VC R :=
 match rdr with
 | true => match getK q st.rd with
  | some r => idxC st r.c r.sb r.l true x e K
  | none => .fail
 | false => match getK q st.As with
  | some (.sl c T sb sc l) => idxC st c sb l false x e K
  | _ => .fail
def rlN {R : Type} (st : Kn E) (e : Nat) (K : Nat -> Nat -> VC R) : VC R :=
 match getK e st.ef,getK (e + 100000) st.ef with
 | some f,some g => match l6 f.c g.l with
  | some l => .req f.l (mSet l g.i f.x) (K l.length f.l.length)
  | none => .fail
 | _,_ => .fail
theorem kB {R : Type} {st : Kn E} {e : Nat} {K : Nat -> Nat -> VC R} {Φ : R -> Prop} (h : (rlN st e K).ok Φ) : ∃ n,(K n n).ok Φ := by
 unfold rlN at h;split at h
 ·split at h
  ·obtain ⟨h1,h2⟩ := h;rw [h1,oE] at h2;exact ⟨_,h2⟩
  ·exact (VC.zw h).elim
 ·exact (VC.zw h).elim
def rlcC {R : Type} (st : Kn E) (e q off : Nat) (K : Kn E -> VC R) : VC R := rlN st e fun n i => match p7 q st.As with
 | some (.blk b T cs,rest) => match cs[off]? with
  | some (.slice sb m sc) => .req m n (K ⟨st.L,(q,.blk b T (cs.set off (.slice sb i sc))) :: rest,st.rd,st.ef,st.pr,st.vw⟩)
  | _ => .fail
 | _ => .fail
def rlsC {R : Type} (st : Kn E) (e t : Nat) (K : Kn E -> VC R) : VC R := rlN st e fun n i => match look t st.L with
 | some (.slice sb m sc) => .req m n (K ⟨(t,.slice sb i sc) :: st.L,st.As,st.rd,st.ef,st.pr,st.vw⟩)
 | _ => .fail
def opI (L : Env) : Option Operand -> Option (Option Int)
 | none => some none
 | some x => match evO L x with
  | some (.int _ i) => some (some i)
  | _ => none
def cutC {R : Type} (st : Kn E) (c : Nat) (sb : Option Addr) (sc : Nat) (l : List (E.el c).α) (lo hi : Option Int) (K : VwV E -> VC R) : VC R :=
 .bind (mCut l (loI lo) (hiI l.length hi)) fun r => .frA fun sb' => .frN fun sc' => K ⟨c,sb,sc,l,lo,hi,sb',sc',r⟩
def cutS {R : Type} (st : Kn E) (rdr : Bool) (q : Nat) (lo hi : Option Operand) (v : Nat) (K : Kn E -> VC R) : VC R :=
 match opI st.L lo,opI st.L hi with
 | some lo,some hi => match rdr with
  | true => match getK q st.rd with
   | some r => cutC st r.c r.sb r.sc r.l lo hi fun u => K ⟨st.L,st.As,(v,⟨u.c,u.sb',u.sc',u.r⟩) :: st.rd,st.ef,st.pr,(v,.cut u) :: st.vw⟩
   | none => .fail
  | false => match getK q st.As with
   | some (.sl c T sb sc l) => cutC st c sb sc l lo hi fun u => K ⟨st.L,st.As,st.rd,st.ef,st.pr,(v,.cut u) :: st.vw⟩
   | _ => .fail
 | _,_ => .fail
def ownS {R : Type} (st : Kn E) (v q : Nat) (K : Kn E -> VC R) : VC R :=
 match getK v st.vw,p7 q st.As with
 | some (.cut u),some (.sl c T sb sc l,rest) => .req (Atom.sl (E := E) c T sb sc l) (.sl u.c T u.sb u.sc u.l) (K ⟨st.L,(q,.sl u.c T u.sb' u.sc' u.r) :: rest,st.rd,st.ef,st.pr,st.vw⟩)
 | _,_ => .fail
def bQ {R : Type} (st : Kn E) (q m : Nat) (K : Kn E -> VC R) : VC R :=
 match getK q st.As with
 | some (.sl c T sb sc l) => .bind (uo l.length m) fun _ => K ⟨st.L,st.As,st.rd,st.ef,(79,l.length = m) :: st.pr,st.vw⟩
 | _ => .fail
def rlpS {R : Type} (st : Kn E) (t q : Nat) (K : Kn E -> VC R) : VC R :=
 match getK q st.As,getK 78 st.pr,look t st.L with
 | some (.sl c T sb sc l),some p,some (.slice sb' n sc') => .req p (l.length = n) (K ⟨(t,.slice sb' l.length sc') :: st.L,st.As,st.rd,st.ef,st.pr,st.vw⟩)
 | _,_,_ => .fail
def rlqS {R : Type} (st : Kn E) (b off q : Nat) (K : Kn E -> VC R) : VC R :=
 match getK q st.As,getK 78 st.pr,p7 b st.As with
 | some (.sl c T sb sc l),some p,some (.blk r T' cs,rest) => match cs[off]? with
  | some (.slice sb' n sc') => .req p (l.length = n) (K ⟨st.L,(b,.blk r T' (cs.set off (.slice sb' l.length sc'))) :: rest,st.rd,st.ef,st.pr,st.vw⟩)
  | _ => .fail
 | _,_,_ => .fail
def pixS {R : Type} (st : Kn E) (q off n c : Nat) (x : Operand) (e : Nat) (K : Kn E -> VC R) : VC R :=
 match getK q st.As,evO st.L x with
 | some (.blk b T cs),some (.int _ i) => match fp (E.el c) n (cs.drop off) with
  | some xs => .bind (mIdx xs i) fun y => K ⟨st.L,st.As,st.rd,(e,⟨false,c,some ⟨b,off,none⟩,xs,i,y,b,off⟩) :: st.ef,(e,0 <= i /\ i < ((xs.length : Nat) : Int)) :: st.pr,st.vw⟩
  | none => .fail
 | _,_ => .fail
theorem gb {R : Type} {u : Nat} {w0 w : World} {F : List HP} {st : Kn E} {a : Act} {Φ : R -> Prop} {q off n c : Nat} {x : Operand} {e : Nat} {K : Kn E -> VC R} (j : KnOk u w0 F st a w) (h : (pixS st q off n c x e K).ok Φ) : ∃ l,KnOk u w0 F l a w /\ (K l).ok Φ := by
 unfold pixS at h;split at h
 ·rename_i b T cs k i h1 h2;split at h
  ·rename_i xs z;obtain ⟨y,t,h3⟩ := h;refine ⟨⟨st.L,st.As,st.rd,(e,⟨false,c,some ⟨b,off,none⟩,xs,i,y,b,off⟩) :: st.ef,(e,0 <= i /\ i < ((xs.length : Nat) : Int)) :: st.pr,st.vw⟩,⟨j.env,j.hp,j.fs.1,?_,?_,j.fs.4⟩,h3⟩
   ·intro p hp;cases hp with
    | head => exact ⟨rfl,t,fun h => by cases h⟩
    | tail _ hm => exact j.fs.2 p hm
   ·intro p hp;cases hp with
    | head => exact ju t
    | tail _ hm => exact j.fs.3 p hm
  ·exact (VC.zw h).elim
 ·exact (VC.zw h).elim
def elS {R : Type} (st : Kn E) (t e : Nat) (K : Kn E -> VC R) : VC R :=
 match getK e st.ef,look t st.L with
 | some f,some V => .req V (.pointer (some ⟨f.b,f.o + f.i.toNat * (E.el f.c).sz,none⟩)) (K ⟨(t,elemV f.sb (E.el f.c).sz (some f.i)) :: st.L,st.As,st.rd,(99999,f) :: st.ef,st.pr,st.vw⟩)
 | _,_ => .fail
def ghost {R : Type} (st : Kn E) (s : Stp E P) (K : Kn E -> VC R) : VC R :=
 match s with
 | .idx rdr q x e => idxS st rdr q x e K
 | .gd k x j => match evO st.L x with
  | some (.int _ v) => match k with
   | 0 => .bind (mNz v) fun _ => K ⟨st.L,st.As,st.rd,st.ef,(j,v ≠ 0) :: st.pr,st.vw⟩
   | 1 => .bind (mNn v) fun _ => K ⟨st.L,st.As,st.rd,st.ef,(j,0 <= v) :: st.pr,st.vw⟩
   | m + 2 => .bind (mIn v m) fun _ => K ⟨st.L,st.As,st.rd,st.ef,(j,0 <= v /\ v < ((m : Nat) : Int)) :: st.pr,st.vw⟩
  | _ => .fail
 | .idk rdr q x e => idkS st rdr q x e K
 | .nil q c T => K ⟨st.L,(q,.sl c T none 0 []) :: st.As,st.rd,st.ef,st.pr,st.vw⟩
 | .rlc e q off => rlcC st e q off K
 | .rls e t => rlsC st e t K
 | .cut rdr q lo hi v => cutS st rdr q lo hi v K
 | .own v q => ownS st v q K
 | .el t e => elS st t e K
 | .same q m => bQ st q m K
 | .rlp t q => rlpS st t q K
 | .rlq b off q => rlqS st b off q K
 | .pix q off n c x e => pixS st q off n c x e K
 | _ => .fail
def dp (n : Nat) : Option Tmp -> Bool
 | none => true
 | some d => Nat.blt d n
def putE (d : Option Tmp) (v : Value) (L : Env) : Env := match d with
 | none => L
 | some d => (d,v) :: L
def bW {R : Type} (n : Nat) (ops : Array Oper) (i : Nat) (st : Kn E) (s : Stp E P) (K : Nat -> Kn E -> VC R) : VC R :=
 match s with
 | .seg c l => match Nat.ble (i + c) ops.size,srcs st l with
  | true,some (z,obs,eqs) => match qt P n ops (List.range' i c) st.L z with
   | some (L',y) => .req y obs (.req (eqs.map (·.1)) (eqs.map (·.2)) (K (i + c) ⟨L',st.As,st.rd,st.ef,st.pr,st.vw⟩))
   | none => .fail
  | _,_ => .fail
 | .idx rdr q x e => ghost (P := P) st (.idx rdr q x e) fun u => K i u
 | .gd k x j => ghost (P := P) st (.gd k x j) fun u => K i u
 | .idk rdr q x e => ghost (P := P) st (.idk rdr q x e) fun u => K i u
 | .nil q c T => ghost (P := P) st (.nil q c T) fun u => K i u
 | .rlc e q off => ghost (P := P) st (.rlc e q off) fun u => K i u
 | .rls e t => ghost (P := P) st (.rls e t) fun u => K i u
 | .cut rdr q lo hi v => ghost (P := P) st (.cut rdr q lo hi v) fun u => K i u
 | .own v q => ghost (P := P) st (.own v q) fun u => K i u
 | .el t e => ghost (P := P) st (.el t e) fun u => K i u
 | .same q m => ghost (P := P) st (.same q m) fun u => K i u
 | .rlp t q => ghost (P := P) st (.rlp t q) fun u => K i u
 | .rlq b off q => ghost (P := P) st (.rlq b off q) fun u => K i u
 | .pix q off m c x e => ghost (P := P) st (.pix q off m c x e) fun u => K i u
 | s => match ops[i]? with
  | none => .fail
  | some o => match uh ops st.L o with
   | some true => match dp n o.dst with
    | true => actO o st s fun v u => K (i + 1) ⟨putE o.dst v st.L,u.As,u.rd,u.ef,u.pr,u.vw⟩
    | false => .fail
   | _ => .fail
theorem mM {R : Type} {n : Nat} {w0 w : World} {F : List HP} {st : Kn E} {a : Act} {Φ : R -> Prop} {c : Nat} {sb : Option Addr} {l : List (E.el c).α} {rdr : Bool} {x : Operand} {e : Nat} {K : Kn E -> VC R} {X : HP} (t : KnOk n w0 F st a w)
  (hX : SlRd X (E.el c).enc (E.el c).sz sb l) (hm : X ∈ dens st.As ++ F) (A : rdr = true -> X ∈ F) (h : (idxC st c sb l rdr x e K).ok Φ) : ∃ u,KnOk n w0 F u a w /\ (K u).ok Φ := by
 unfold idxC at h;split at h
 ·rename_i k i B;obtain ⟨y,z,h1⟩ := h;obtain ⟨j,hj⟩ := t.hp.mem hm;obtain ⟨b,o,hs,_⟩ := hX.base (E.el c).ok t.hp j hj z;refine ⟨⟨st.L,st.As,st.rd,(e,⟨rdr,c,sb,l,i,y,b,o⟩) :: st.ef,st.pr,st.vw⟩,⟨t.env,t.hp,t.fs.1,?_,t.fs.3,t.fs.4⟩,h1 b o⟩;intro p hp;cases hp with
  | head => exact ⟨hs,z,fun h => ⟨X,A h,hX⟩⟩
  | tail _ hm => exact t.fs.2 p hm
 ·exact (VC.zw h).elim
theorem hG {R : Type} {n : Nat} {w0 w : World} {F : List HP} {st : Kn E} {a : Act} {Φ : R -> Prop} {rdr : Bool} {q : Nat} {x : Operand} {e : Nat} {K : Kn E -> VC R} (t : KnOk n w0 F st a w)
  (h : (idxS st rdr q x e K).ok Φ) : ∃ i,KnOk n w0 F i a w /\ (K i).ok Φ := by
 unfold idxS at h;split at h
 ·split at h
  ·rename_i r u;obtain ⟨j,hj⟩ := xX u;obtain ⟨X,hX,h1,_⟩ := t.fs.1 _ hj;exact mM t h1 (List.mem_append_right _ hX) (fun _ => hX) h
  ·exact (VC.zw h).elim
 ·split at h
  ·rename_i c T sb sc l hq;exact mM t (w1 T (E.el c).enc (E.el c).sz sb sc l) (mL F (uA hq)) (fun h => by cases h) h
  ·exact (VC.zw h).elim
theorem mK {R : Type} {n : Nat} {w0 w : World} {F : List HP} {st : Kn E} {a : Act} {Φ : R -> Prop} {c : Nat} {sb : Option Addr} {l : List (E.el c).α} {rdr : Bool} {x : Operand} {e : Nat} {K : Kn E -> VC R} {X : HP} (t : KnOk n w0 F st a w)
  (hX : SlRd X (E.el c).enc (E.el c).sz sb l) (hm : X ∈ dens st.As ++ F) (A : rdr = true -> X ∈ F) (h : (idkC st c sb l rdr x e K).ok Φ) : ∃ u,KnOk n w0 F u a w /\ (K u).ok Φ := by
 unfold idkC at h;split at h
 ·rename_i k i B;split at h
  ·rename_i y z;obtain ⟨j,hj⟩ := t.hp.mem hm;obtain ⟨b,o,hs,_⟩ := hX.base (E.el c).ok t.hp j hj z;refine ⟨⟨st.L,st.As,st.rd,(e,⟨rdr,c,sb,l,i,y,b,o⟩) :: st.ef,st.pr,st.vw⟩,⟨t.env,t.hp,t.fs.1,?_,t.fs.3,t.fs.4⟩,h b o⟩;intro p hp;cases hp with
   | head => exact ⟨hs,z,fun h => ⟨X,A h,hX⟩⟩
   | tail _ hm => exact t.fs.2 p hm
  ·exact (VC.zw h).elim
 ·exact (VC.zw h).elim
theorem hF {R : Type} {n : Nat} {w0 w : World} {F : List HP} {st : Kn E} {a : Act} {Φ : R -> Prop} {rdr : Bool} {q : Nat} {x : Operand} {e : Nat} {K : Kn E -> VC R} (t : KnOk n w0 F st a w)
  (h : (idkS st rdr q x e K).ok Φ) : ∃ i,KnOk n w0 F i a w /\ (K i).ok Φ := by
 unfold idkS at h;split at h
 ·split at h
  ·rename_i r u;obtain ⟨j,hj⟩ := xX u;obtain ⟨X,hX,h1,_⟩ := t.fs.1 _ hj;exact mK t h1 (List.mem_append_right _ hX) (fun _ => hX) h
  ·exact (VC.zw h).elim
 ·split at h
  ·rename_i c T sb sc l hq;exact mK t (w1 T (E.el c).enc (E.el c).sz sb sc l) (mL F (uA hq)) (fun h => by cases h) h
  ·exact (VC.zw h).elim
theorem gg {R : Type} {n : Nat} {w0 w : World} {F : List HP} {st : Kn E} {a : Act} {Φ : R -> Prop} {e q off : Nat} {K : Kn E -> VC R} (i : KnOk n w0 F st a w) (h : (rlcC st e q off K).ok Φ) : ∃ l,KnOk n w0 F l a w /\ (K l).ok Φ := by
 obtain ⟨m,h⟩ := kB h;split at h
 ·rename_i b T cs rest hq;split at h
  ·rename_i sb x sc u;obtain ⟨rfl,h2⟩ := h;have t : cs.set off (.slice sb x sc) = cs := by
    apply List.ext_getElem?;intro j;rw [List.getElem?_set];split
    ·subst_vars
     split
     ·exact u.symm
     ·rename_i h3;simp only [List.getElem?_eq_none (Nat.le_of_not_lt h3)]
    ·rfl
   rw [t] at h2;refine ⟨⟨st.L,(q,.blk b T cs) :: rest,st.rd,st.ef,st.pr,st.vw⟩,⟨i.env,?_,i.fs.1,i.fs.2,i.fs.3,i.fs.4⟩,h2⟩;exact i.hp.perm ((ui hq).append_right F)
  ·exact (VC.zw h).elim
 ·exact (VC.zw h).elim
theorem gm {R : Type} {n : Nat} {w0 w : World} {F : List HP} {st : Kn E} {a : Act} {Φ : R -> Prop} {e t : Nat} {K : Kn E -> VC R} (i : KnOk n w0 F st a w) (h : (rlsC st e t K).ok Φ) : ∃ j,KnOk n w0 F j a w /\ (K j).ok Φ := by
 obtain ⟨m,h⟩ := kB h;split at h
 ·rename_i sb x sc l;obtain ⟨rfl,h2⟩ := h;refine ⟨⟨(t,.slice sb x sc) :: st.L,st.As,st.rd,st.ef,st.pr,st.vw⟩,⟨⟨i.env.size,i.env.defers,fun u v hv => ?_⟩,i.hp,i.fs.1,i.fs.2,i.fs.3,i.fs.4⟩,h2⟩;rw [wT] at hv;split at hv
  ·subst_vars; cases hv; exact i.env.has _ _ l
  ·exact i.env.has _ _ hv
 ·exact (VC.zw h).elim
theorem mw {R : Type} {st : Kn E} {c : Nat} {sb : Option Addr} {sc : Nat} {l : List (E.el c).α} {lo hi : Option Int} {K : VwV E -> VC R} {Φ : R -> Prop} (e : l.length <= sc) (h : (cutC st c sb sc l lo hi K).ok Φ) :
  ∃ u : VwV E,u.holds /\ (∀ X,SlRd X (E.el c).enc (E.el c).sz sb l -> SlRd X (E.el u.c).enc (E.el u.c).sz u.sb' u.r) /\ u.r.length <= u.sc' /\ (K u).ok Φ := by
 obtain ⟨r,i,h⟩ := h;have h2 := h (yA sb sc (loI lo).toNat (E.el c).sz) (sc - (loI lo).toNat);exact ⟨_,⟨i,rfl,rfl,e⟩,fun X hX => hX.cut' (E.el c).ok i e rfl,df i e rfl,h2⟩
theorem iU {R : Type} {n : Nat} {w0 w : World} {F : List HP} {st : Kn E} {a : Act} {Φ : R -> Prop} {rdr : Bool} {q : Nat} {lo hi : Option Operand} {v : Nat} {K : Kn E -> VC R} (e : KnOk n w0 F st a w) (h : (cutS st rdr q lo hi v K).ok Φ) : ∃ i,KnOk n w0 F i a w /\ (K i).ok Φ := by
 unfold cutS at h;split at h
 ·rename_i D A _ _;split at h
  ·split at h
   ·rename_i r B;obtain ⟨j,hj⟩ := xX B;obtain ⟨X,hX,h1,h2⟩ := e.fs.1 _ hj;obtain ⟨s1,s2,hs⟩ := List.append_of_mem (List.mem_append_right (dens st.As) hX);have x : r.l.length <= r.sc := by
     have y := e.hp;rw [hs] at y;exact St.fact (y.perm List.perm_middle) h2
    obtain ⟨u,h3,h4,z,t⟩ := mw x h;refine ⟨⟨st.L,st.As,(v,⟨u.c,u.sb',u.sc',u.r⟩) :: st.rd,st.ef,st.pr,(v,.cut u) :: st.vw⟩,⟨e.env,e.hp,?_,e.fs.2,e.fs.3,?_⟩,t⟩
    ·intro p hp;cases hp with
     | head => exact ⟨X,hX,h4 X h1,fun _ _ => z⟩
     | tail _ hm => exact e.fs.1 p hm
    ·intro p hp;cases hp with
     | head => exact h3
     | tail _ hm => exact e.fs.4 p hm
   ·exact (VC.zw h).elim
  ·split at h
   ·rename_i c T sb sc l hq;obtain ⟨j,hj⟩ := e.hp.mem (mL F (uA hq));have x : l.length <= sc := (e.hp.oe j hj).1;obtain ⟨u,h3,h4,z,t⟩ := mw x h;refine ⟨⟨st.L,st.As,st.rd,st.ef,st.pr,(v,.cut u) :: st.vw⟩,⟨e.env,e.hp,e.fs.1,e.fs.2,e.fs.3,?_⟩,t⟩;intro p hp;cases hp with
    | head => exact h3
    | tail _ hm => exact e.fs.4 p hm
   ·exact (VC.zw h).elim
 ·exact (VC.zw h).elim
theorem hY {R : Type} {n : Nat} {w0 w : World} {F : List HP} {st : Kn E} {a : Act} {Φ : R -> Prop} {v q : Nat} {K : Kn E -> VC R} (i : KnOk n w0 F st a w) (h : (ownS st v q K).ok Φ) : ∃ t,KnOk n w0 F t a w /\ (K t).ok Φ := by
 unfold ownS at h;split at h
 ·rename_i u c T sb sc l rest h1 h2;obtain ⟨e,h3⟩ := h;obtain ⟨j,hj⟩ := xX h1;obtain ⟨g1,g2,g3,g4⟩ : u.holds := i.fs.4 _ hj;have H := i.hp.perm ((ui h2).append_right F);rw [e] at H;have H : St w0 (Sl T (E.el u.c).enc (E.el u.c).sz u.sb u.sc u.l :: (dens rest ++ F)) w := H;exact ⟨⟨st.L,(q,.sl u.c T u.sb' u.sc' u.r) :: rest,st.rd,st.ef,st.pr,st.vw⟩,⟨i.env,H.eM (E.el u.c).ok g1 g2 g3,i.fs.1,i.fs.2,i.fs.3,i.fs.4⟩,h3⟩
 ·exact (VC.zw h).elim
theorem fA {R : Type} {n : Nat} {w0 w : World} {F : List HP} {st : Kn E} {a : Act} {Φ : R -> Prop} {t e : Nat} {K : Kn E -> VC R} (l : KnOk n w0 F st a w) (h : (elS st t e K).ok Φ) : ∃ x,KnOk n w0 F x a w /\ (K x).ok Φ := by
 unfold elS at h;split at h
 ·rename_i f V h1 h2;obtain ⟨rfl,h3⟩ := h;obtain ⟨j,hj⟩ := xX h1;have hf := l.fs.2 _ hj;refine ⟨⟨(t,elemV f.sb (E.el f.c).sz (some f.i)) :: st.L,st.As,st.rd,(99999,f) :: st.ef,st.pr,st.vw⟩,⟨⟨l.env.size,l.env.defers,fun u v hv => ?_⟩,l.hp,l.fs.1,?_,l.fs.3,l.fs.4⟩,h3⟩
  ·rw [wT] at hv;split at hv
   ·subst_vars
    cases hv;rw [my hf.1];exact l.env.has _ _ h2
   ·exact l.env.has _ _ hv
  ·intro p hp;cases hp with
   | head => exact hf
   | tail _ hm => exact l.fs.2 p hm
 ·exact (VC.zw h).elim
theorem jG {R : Type} {n : Nat} {w0 w : World} {F : List HP} {st : Kn E} {a : Act} {Φ : R -> Prop} {q m : Nat} {K : Kn E -> VC R} (e : KnOk n w0 F st a w) (h : (bQ st q m K).ok Φ) : ∃ i,KnOk n w0 F i a w /\ (K i).ok Φ := by
 unfold bQ at h;split at h
 ·rename_i c T sb sc l hq;obtain ⟨u,hu,h2⟩ := h;refine ⟨⟨st.L,st.As,st.rd,st.ef,(79,l.length = m) :: st.pr,st.vw⟩,⟨e.env,e.hp,e.fs.1,e.fs.2,fun p hp => ?_,e.fs.4⟩,h2⟩;cases hp with
  | head => exact eE hu
  | tail _ hm => exact e.fs.3 p hm
 ·exact (VC.zw h).elim
theorem gi {R : Type} {n : Nat} {w0 w : World} {F : List HP} {st : Kn E} {a : Act} {Φ : R -> Prop} {t q : Nat} {K : Kn E -> VC R} (i : KnOk n w0 F st a w) (h : (rlpS st t q K).ok Φ) : ∃ x,KnOk n w0 F x a w /\ (K x).ok Φ := by
 unfold rlpS at h;split at h
 ·rename_i c T sb sc l p sb' m sc' h1 h2 h3;obtain ⟨e,h4⟩ := h;obtain ⟨j,hj⟩ := xX h2;have hp : p := i.fs.3 _ hj;rw [e] at hp;refine ⟨⟨(t,.slice sb' l.length sc') :: st.L,st.As,st.rd,st.ef,st.pr,st.vw⟩,⟨⟨i.env.size,i.env.defers,fun u v hv => ?_⟩,i.hp,i.fs.1,i.fs.2,i.fs.3,i.fs.4⟩,h4⟩;rw [wT] at hv;split at hv
  ·subst_vars; cases hv; exact i.env.has _ _ h3
  ·exact i.env.has _ _ hv
 ·exact (VC.zw h).elim
theorem gk {R : Type} {n : Nat} {w0 w : World} {F : List HP} {st : Kn E} {a : Act} {Φ : R -> Prop} {b off q : Nat} {K : Kn E -> VC R} (t : KnOk n w0 F st a w) (h : (rlqS st b off q K).ok Φ) : ∃ u,KnOk n w0 F u a w /\ (K u).ok Φ := by
 unfold rlqS at h;split at h
 ·rename_i c T sb sc l p r T' cs rest h1 h2 h3;split at h
  ·rename_i sb' m sc' z;obtain ⟨e,h4⟩ := h;obtain ⟨j,hj⟩ := xX h2;have hp : p := t.fs.3 _ hj;rw [e] at hp;have x : cs.set off (.slice sb' l.length sc') = cs := by
    apply List.ext_getElem?;intro i;rw [List.getElem?_set];split
    ·subst_vars
     split
     ·exact z.symm
     ·rename_i y; rw [List.getElem?_eq_none (Nat.le_of_not_lt y)]
    ·rfl
   rw [x] at h4;exact ⟨⟨st.L,(b,.blk r T' cs) :: rest,st.rd,st.ef,st.pr,st.vw⟩,⟨t.env,t.hp.perm ((ui h3).append_right F),t.fs.1,t.fs.2,t.fs.3,t.fs.4⟩,h4⟩
  ·exact (VC.zw h).elim
 ·exact (VC.zw h).elim
theorem xk {R : Type} {n : Nat} {w0 w : World} {F : List HP} {st : Kn E} {a : Act} {Φ : R -> Prop} {s : Stp E P} {K : Kn E -> VC R} (i : KnOk n w0 F st a w)
  (h : (ghost st s K).ok Φ) : ∃ l,KnOk n w0 F l a w /\ (K l).ok Φ := by
 cases s
 case idx rdr q x e => exact hG i h
 case idk rdr q x e => exact hF i h
 case rlc e q off => exact gg i h
 case rls e t => exact gm i h
 case cut rdr q lo hi v => exact iU i h
 case own v q => exact hY i h
 case el t e => exact fA i h
 case same q m => exact jG i h
 case rlp t q => exact gi i h
 case rlq b off q => exact gk i h
 case pix q off m c x e => exact gb i h
 case nil q c T => exact ⟨⟨st.L,(q,.sl c T none 0 []) :: st.As,st.rd,st.ef,st.pr,st.vw⟩,⟨i.env,St.bT T (E.el c).enc (E.el c).sz i.hp,i.fs.1,i.fs.2,i.fs.3,i.fs.4⟩,h⟩
 case gd k x j =>
  simp only [ghost] at h;split at h
  ·rename_i y v hv;split at h
   ·obtain ⟨u,hu,h2⟩ := h;refine ⟨⟨st.L,st.As,st.rd,st.ef,(j,v ≠ 0) :: st.pr,st.vw⟩,⟨i.env,i.hp,i.fs.1,i.fs.2,fun p hp => ?_,i.fs.4⟩,h2⟩;cases hp with
    | head => exact bK hu
    | tail _ hm => exact i.fs.3 p hm
   ·obtain ⟨u,hu,h2⟩ := h;refine ⟨⟨st.L,st.As,st.rd,st.ef,(j,0 <= v) :: st.pr,st.vw⟩,⟨i.env,i.hp,i.fs.1,i.fs.2,fun p hp => ?_,i.fs.4⟩,h2⟩;cases hp with
    | head => exact bH hu
    | tail _ hm => exact i.fs.3 p hm
   ·rename_i m;obtain ⟨u,hu,h2⟩ := h;refine ⟨⟨st.L,st.As,st.rd,st.ef,(j,0 <= v /\ v < ((m : Nat) : Int)) :: st.pr,st.vw⟩,⟨i.env,i.hp,i.fs.1,i.fs.2,fun p hp => ?_,i.fs.4⟩,h2⟩;cases hp with
    | head => exact lp hu
    | tail _ hm => exact i.fs.3 p hm
  ·exact (VC.zw h).elim
 all_goals exact (VC.zw h).elim
theorem jL {R : Type} {f : FuncId} {n : Nat} {w0 w : World} {F : List HP} {st : Kn E} {a : Act} {Φ : R -> Prop} {ops : Array Oper} {i : Nat} {s : Stp E P} {K : Nat -> Kn E -> VC R} {k : List Item} {Q : Value -> World -> Prop}
  (y : KnOk n w0 F st a w) (h : (bW n ops i st s K).ok Φ) (hk : ∀ U u A w',KnOk n w0 F u A w' -> (K U u).ok Φ -> WR P f ops U k A w' Q) : WR P f ops i k a w Q := by
 have act : ∀ s : Stp E P,((match ops[i]? with
  | none => .fail
  | some o => match uh ops st.L o with
   | some true => match dp n o.dst with
    | true => actO o st s fun v u => K (i + 1) ⟨putE o.dst v st.L,u.As,u.rd,u.ef,u.pr,u.vw⟩
    | false => .fail
   | _ => .fail : VC R)).ok Φ -> WR P f ops i k a w Q := by
  intro s h;split at h
  ·exact (VC.zw h).elim
  ·rename_i o S;split at h
   ·rename_i hw;split at h
    ·rename_i hn;have O := mh y h;cases hd : o.dst with
     | none =>
      refine WR.eff0 y.env S hd hw O ?_;rintro v w' ⟨u,Z,I,h2⟩ A B;rw [hd] at h2;exact hk _ _ _ _ (I.kn B) h2
     | some d =>
      rw [hd] at hn;refine WR.eff y.env S hd hn hw O ?_;rintro v w' ⟨u,Z,I,h2⟩ A B;rw [hd] at h2;exact hk _ _ _ _ (I.kn B) h2
    ·exact (VC.zw h).elim
   ·exact (VC.zw h).elim
 cases s with
 | seg c l =>
  simp only [bW] at h;split at h
  ·rename_i a1 obs eqs h1 h2;split at h
   ·rename_i L' W h3;obtain ⟨rfl,h4,Y⟩ := h;have hj := Nat.le_of_ble_eq_true h1;unfold WR;have hr : List.range' i (ops.size - i) = List.range' i c ++ List.range' (i + c) (ops.size - (i + c)) := by
     have X : ops.size - i = c + (ops.size - (i + c)) := by omega
     rw [X,<- List.range'_append_1]
    rw [hr];refine oP _ _ _ _ _ _ y.env h3 (tv y h2 (mE h4)) fun A J => ?_
    exact hk _ ⟨L',st.As,st.rd,st.ef,st.pr,st.vw⟩ _ _ ⟨J,y.hp,y.fs.1,y.fs.2,y.fs.3,y.fs.4⟩ Y
   ·exact (VC.zw h).elim
  ·exact (VC.zw h).elim
 | idx rdr q x e =>
  obtain ⟨u,h1,h2⟩ := xk (P := P) (s := .idx rdr q x e) (K := fun u => K i u) y h;exact hk _ _ _ _ h1 h2
 | idk rdr q x e =>
  obtain ⟨u,h1,h2⟩ := xk (P := P) (s := .idk rdr q x e) (K := fun u => K i u) y h;exact hk _ _ _ _ h1 h2
 | nil q c T =>
  obtain ⟨u,h1,h2⟩ := xk (P := P) (s := .nil q c T) (K := fun u => K i u) y h;exact hk _ _ _ _ h1 h2
 | rlc e q off =>
  obtain ⟨u,h1,h2⟩ := xk (P := P) (s := .rlc e q off) (K := fun u => K i u) y h;exact hk _ _ _ _ h1 h2
 | rls e t =>
  obtain ⟨u,h1,h2⟩ := xk (P := P) (s := .rls e t) (K := fun u => K i u) y h;exact hk _ _ _ _ h1 h2
 | cut rdr q lo hi v =>
  obtain ⟨u,h1,h2⟩ := xk (P := P) (s := .cut rdr q lo hi v) (K := fun u => K i u) y h;exact hk _ _ _ _ h1 h2
 | own v q =>
  obtain ⟨u,h1,h2⟩ := xk (P := P) (s := .own v q) (K := fun u => K i u) y h;exact hk _ _ _ _ h1 h2
 | el t e =>
  obtain ⟨u,h1,h2⟩ := xk (P := P) (s := .el t e) (K := fun u => K i u) y h;exact hk _ _ _ _ h1 h2
 | same q m =>
  obtain ⟨u,h1,h2⟩ := xk (P := P) (s := .same q m) (K := fun u => K i u) y h;exact hk _ _ _ _ h1 h2
 | rlp t q =>
  obtain ⟨u,h1,h2⟩ := xk (P := P) (s := .rlp t q) (K := fun u => K i u) y h;exact hk _ _ _ _ h1 h2
 | rlq b off q =>
  obtain ⟨u,h1,h2⟩ := xk (P := P) (s := .rlq b off q) (K := fun u => K i u) y h;exact hk _ _ _ _ h1 h2
 | pix q off m c x e =>
  obtain ⟨u,h1,h2⟩ := xk (P := P) (s := .pix q off m c x e) (K := fun u => K i u) y h;exact hk _ _ _ _ h1 h2
 | gd c x j =>
  obtain ⟨u,h1,h2⟩ := xk (P := P) (s := .gd c x j) (K := fun u => K i u) y h;exact hk _ _ _ _ h1 h2
 | new q l => exact act _ h
 | sto q => exact act _ h
 | call C l out => exact act _ h
 | bld q c T => exact act _ h
 | app q s => exact act _ h
 | sset q e j => exact act _ h
 | mk q c T => exact act _ h
 | eqs D => exact act _ h
 | mnew q c => exact act _ h
 | mget q c kt hk z => exact act _ h
 | mput q c kt hk => exact act _ h
 | mdel q c kt hk => exact act _ h
inductive Md
 | run (t : List Item)
 | reg (ops : Array Oper) (i : Nat) (k : List Item)
 | drw (ops : Array Oper) (dn : List Nat) (pend : List (Nat × List Ob)) (k : List Item)
def Md.Runs (P : Program) (f : FuncId) (base : List Item) (a : Act) (w : World) (Q : Value -> World -> Prop) : Md -> Prop
 | .run t => Th.Runs P f (t ++ base) a w Q
 | .reg ops i k => WR P f ops i (k ++ base) a w Q
 | .drw ops dn pend k => WQ P f ops dn pend (k ++ base) a w Q
def norm : Nat -> List Item -> Option Md
 | 0,_ => none
 | g + 1,t => match t with
  | .code (.seq x y) :: k => norm g (.code x :: .code y :: k)
  | .code .skip :: k => norm g k
  | .code (.label _) :: k => norm g k
  | .code (.exit id) :: k => match exitTo id k with
   | some e => norm g e
   | none => none
  | .code (.region _ ops false) :: k => match Nat.beq ops.size 0 with
   | true => norm g k
   | false => some (.reg ops 0 k)
  | .inBlock _ :: k => norm g k
  | t => some (.run t)
theorem pT {base : List Item} : ∀ {id : Nat} {k e : List Item},exitTo id k = some e -> exitTo id (k ++ base) = some (e ++ base)
 | id,[],e,h => by simp [exitTo] at h
 | id,x :: k,e,h => by
  cases x
  case inBlock j =>
   simp only [exitTo,List.cons_append] at h ⊢;split at h
   ·rename_i hj; cases h; rw [if_pos hj]
   ·rename_i hj; rw [if_neg hj]; exact pT h
  all_goals
   simp only [exitTo,List.cons_append] at h ⊢;exact pT h
theorem yL {f : FuncId} {a : Act} {w : World} {Q : Value -> World -> Prop} {base : List Item} : ∀ (g : Nat) {t : List Item} {md : Md},norm g t = some md -> md.Runs P f base a w Q -> Th.Runs P f (t ++ base) a w Q
 | 0,t,md,h,_ => by simp [norm] at h
 | g + 1,t,md,h,i => by
  unfold norm at h;split at h
  ·exact .seq (yL g h i)
  ·exact .skip (yL g h i)
  ·exact .label (yL g h i)
  ·split at h
   ·rename_i j hk;exact .exit (pT hk) (yL g h i)
   ·cases h
  ·split at h
   ·rename_i h0;have e := Nat.eq_of_beq_eq_true h0;exact .region (WR.done (by rw [e]; rfl) (yL g h i))
   ·cases h; exact .region i
  ·exact .inBlock (yL g h i)
  ·cases h; exact i
def bV {R : Type} (n : Nat) (ops : Array Oper) (dn : List Nat) (pend : List (Nat × List Ob)) (st : Kn E) (is : List Nat) (l : List Src) (K : List Nat -> List (Nat × List Ob) -> Kn E -> VC R) : VC R :=
 match (Nat.ble (dn.length + is.length) ops.size && lQ ops is (vG dn)),srcs st l with
 | true,some (i,obs,eqs) => match qt P n ops is st.L i with
  | some (L',e) => .req e obs (.req (eqs.map (·.1)) (eqs.map (·.2)) (K (dn ++ is) (segP P n ops is st.L i pend) ⟨L',st.As,st.rd,st.ef,st.pr,st.vw⟩))
  | none => .fail
 | _,_ => .fail
def kG {R : Type} (n : Nat) (ops : Array Oper) (dn : List Nat) (pend : List (Nat × List Ob)) (st : Kn E) (j : Nat) (x : Stp E P) (l : List Src) (K : List Nat -> List (Nat × List Ob) -> Kn E -> VC R) : VC R :=
 match ops[j]? with
 | some o => match uh ops st.L o,dp n o.dst with
  | some true,true => actO o st x fun v e => match srcs ⟨putE o.dst v st.L,e.As,e.rd,e.ef,e.pr,e.vw⟩ l with
   | some (_,obs,eqs) => .req (tI ops j pend) obs (.req (eqs.map (·.1)) (eqs.map (·.2)) (K (dn ++ [j]) (qv ops j pend) ⟨putE o.dst v st.L,e.As,e.rd,e.ef,e.pr,e.vw⟩))
   | none => .fail
  | _,_ => .fail
 | none => .fail
def bU {R : Type} (n : Nat) (ops : Array Oper) (dn : List Nat) (pend : List (Nat × List Ob)) (st : Kn E) (j : Nat) (x : Stp E P) (l : List Src) (K : List Nat -> List (Nat × List Ob) -> Kn E -> VC R) : VC R :=
 match (Nat.blt dn.length ops.size && eqL (vp (vG dn) 0 ops.toList) [j]) with
 | true => kG n ops dn pend st j x l K
 | false => .fail
theorem jK {R : Type} {f : FuncId} {n : Nat} {w0 w : World} {F : List HP} {st : Kn E} {a : Act} {Φ : R -> Prop} {ops : Array Oper} {dn : List Nat} {pend : List (Nat × List Ob)} {is : List Nat} {l : List Src} {K : List Nat -> List (Nat × List Ob) -> Kn E -> VC R} {k : List Item} {Q : Value -> World -> Prop}
  (j : KnOk n w0 F st a w) (h : (bV (P := P) n ops dn pend st is l K).ok Φ) (hk : ∀ t i u y,KnOk n w0 F u y w -> (K t i u).ok Φ -> WQ P f ops t i k y w Q) : WQ P f ops dn pend k a w Q := by
 unfold bV at h;split at h
 ·rename_i D obs eqs h1 h2;split at h
  ·rename_i L' A h3;obtain ⟨rfl,h4,B⟩ := h;rw [Bool.and_eq_true] at h1;have hle := Nat.le_of_ble_eq_true h1.1;have e : ops.size - dn.length = is.length + (ops.size - (dn ++ is).length) := by simp; omega
   intro hs';show WP P f ops (ops.size - dn.length) dn pend k a w Q;rw [e];exact WP.segs hs' _ _ _ _ _ _ _ _ _ _ j.env (fun x => vk x dn) h1.2 h3 (tv j h2 (mE h4)) fun y z => hk _ _ ⟨L',st.As,st.rd,st.ef,st.pr,st.vw⟩ _ ⟨z,j.hp,j.fs.1,j.fs.2,j.fs.3,j.fs.4⟩ B hs'
  ·exact (VC.zw h).elim
 ·exact (VC.zw h).elim
theorem uP {R : Type} {f : FuncId} {n : Nat} {w0 w : World} {F : List HP} {st : Kn E} {a : Act} {Φ : R -> Prop} {ops : Array Oper} {dn : List Nat} {pend : List (Nat × List Ob)} {j : Nat} {x : Stp E P} {l : List Src} {K : List Nat -> List (Nat × List Ob) -> Kn E -> VC R} {k : List Item} {Q : Value -> World -> Prop}
  (A : KnOk n w0 F st a w) (h : (kG n ops dn pend st j x l K).ok Φ) (hk : ∀ y i e t w',KnOk n w0 F e t w' -> (K y i e).ok Φ -> WQ P f ops y i k t w' Q) : AQ P f ops dn pend k a w Q j := by
 unfold kG at h;split at h
 ·rename_i o I;split at h
  ·rename_i hw hn;have D := mh A h;have fin : ∀ (v : Value) (w' : World) (e : Kn E) (t : Act),HpOk w0 F e w' -> yc n t (putE o.dst v st.L) -> ((match srcs ⟨putE o.dst v st.L,e.As,e.rd,e.ef,e.pr,e.vw⟩ l with
     | some (_,obs,eqs) => .req (tI ops j pend) obs (.req (eqs.map (·.1)) (eqs.map (·.2)) (K (dn ++ [j]) (qv ops j pend) ⟨putE o.dst v st.L,e.As,e.rd,e.ef,e.pr,e.vw⟩))
     | none => .fail : VC R)).ok Φ -> xJ w' (tI ops j pend) /\ WQ P f ops (dn ++ [j]) (qv ops j pend) k t w' Q := by
    intro v w' e t u z h2;split at h2
    ·rename_i U obs eqs h3;obtain ⟨h4,J,O⟩ := h2;have B := u.kn z;rw [h4];exact ⟨tv B h3 (mE J),hk _ _ _ _ _ B O⟩
    ·exact (VC.zw h2).elim
   cases hd : o.dst with
   | none =>
    refine AQ.eff0 A.env I hd hw rfl D ?_;rintro v w' ⟨e,S,u,h2⟩;rw [hd] at fin;rw [hd] at h2;exact ⟨(fin v w' e a u A.env h2).1,fun t z => (fin v w' e t u z h2).2⟩
   | some d =>
    rw [hd] at hn;refine AQ.eff A.env I hd hn hw rfl D ?_;rintro v w' ⟨e,S,u,h2⟩;rw [hd] at fin;rw [hd] at h2;exact ⟨(fin v w' e (a.put (some d) v) u (A.env.put _ _ (by simpa [dp,Nat.blt_eq] using hn)) h2).1,fun t z => (fin v w' e t u z h2).2⟩
  ·exact (VC.zw h).elim
 ·exact (VC.zw h).elim
theorem jJ {R : Type} {f : FuncId} {n : Nat} {w0 w : World} {F : List HP} {st : Kn E} {a : Act} {Φ : R -> Prop} {ops : Array Oper} {dn : List Nat} {pend : List (Nat × List Ob)} {j : Nat} {x : Stp E P} {l : List Src} {K : List Nat -> List (Nat × List Ob) -> Kn E -> VC R} {k : List Item} {Q : Value -> World -> Prop}
  (z : KnOk n w0 F st a w) (h : (bU n ops dn pend st j x l K).ok Φ) (hk : ∀ i e t u w',KnOk n w0 F t u w' -> (K i e t).ok Φ -> WQ P f ops i e k u w' Q) : WQ P f ops dn pend k a w Q := by
 unfold bU at h;split at h
 ·rename_i h1;refine WQ.acts [j] h1 (by simp) fun x y => ?_
  simp only [List.mem_singleton] at y;subst y;exact uP z h hk
 ·exact (VC.zw h).elim
end
end
noncomputable section
theorem St.bz {w0 w : World} {As : List HP} : ∀ {Bs : List HP},St w0 (Bs ++ As) w -> St w0 As w
 | [],H => H
 | B :: Bs,H => St.bz (Bs := Bs) (St.drop (by simpa using H))
section
variable {E : Ev} {P : Program}
def ll {α : Type} : List Nat -> List (Nat × α) -> Option (List α)
 | [],_ => some []
 | k :: ks,L => match getK k L,ll ks L with
  | some x,some r => some (x :: r)
  | _,_ => none
def kys {α : Type} : List (Nat × α) -> List Nat
 | [] => []
 | (k,_) :: r => k :: kys r
def reqS {R : Type} (L : Env) (As : List (Nat × Atom E)) (st : Kn E) (K : VC R) : VC R :=
 match sel (dx L) st.L,ko (kys As) st.As with
 | some L',some (ats,_) => .req L' L (.req ats (As.map (·.2)) K)
 | _,_ => .fail
theorem uN {R : Type} {n : Nat} {w0 w : World} {F : List HP} {st : Kn E} {a : Act} {Φ : R -> Prop} {L : Env} {As : List (Nat × Atom E)} {K : VC R} (e : KnOk n w0 F st a w) (h : (reqS L As st K).ok Φ) :
  yc n a L /\ St w0 (dens As ++ F) w /\ K.ok Φ := by
 unfold reqS at h;split at h
 ·rename_i L' ats rest h1 h2;obtain ⟨rfl,rfl,h3⟩ := h;refine ⟨sU e.env h1,?_,h3⟩;have H := e.hp.perm ((pM h2).append_right F);rw [aA] at H;have i := H.perm (show ((As.map (·.2)).map Atom.den ++ (dens rest ++ F)).Perm (dens rest ++ ((As.map (·.2)).map Atom.den ++ F)) by
   rw [<- aA,<- aA];exact List.Perm.append_right F List.perm_append_comm)
  exact i.bz
 ·exact (VC.zw h).elim
structure BCon (E : Ev) (R0 : Type) : Type 1 where
 code : Code
 X : Type
 V : Type
 T : Type
 W : Type
 cls : W -> R0 ⊕ T
 g : X -> V -> Option W
 rds : X -> List (Nat × RdV E)
 pL : X -> V -> List Nat -> List (Option Addr) -> Env
 pA : X -> V -> List Nat -> List (Option Addr) -> List (Nat × Atom E)
 mN : Nat
 mA : Nat
 qL : X -> T -> List Nat -> List (Option Addr) -> Env
 qA : X -> T -> List Nat -> List (Option Addr) -> List (Nat × Atom E)
def BCon.Sound {R0 : Type} (B : BCon E R0) (P : Program) (f : FuncId) (n : Nat) (retF : Kn E -> VC R0) : Prop := ∀ (Q : Value -> World -> Prop) (w0 : World) (F : List HP) (x : B.X) (v : B.V) (t : B.W) (z : List Nat) (y : List (Option Addr)) (a : Act) (w : World) (base : List Item),B.g x v = some t ->
 KnOk n w0 F ⟨B.pL x v z y,B.pA x v z y,B.rds x,[],[],[]⟩ a w ->
 (∀ u,B.cls t = .inr u -> ∀ i e j w',i.length = B.mN -> e.length = B.mA -> yc n j (B.qL x u i e) -> St w0 (dens (B.qA x u i e) ++ F) w' -> Runs P f base j w' Q) ->
 (∀ r,B.cls t = .inl r -> ∀ l j w' A,KnOk n w0 F l j w' -> (retF l).ok (· = r) -> Runs P f (.code .ret :: A) j w' Q) ->
 Runs P f (.code B.code :: base) a w Q
structure AX (E : Ev) (P : Program) (f : FuncId) (n : Nat) (R0 : Type) (retF : Kn E -> VC R0) : Type 1 where
 B : BCon E R0
 snd : B.Sound P f n retF
inductive Ct (E : Ev) (P : Program) (f : FuncId) (n : Nat) (R0 : Type) (retF : Kn E -> VC R0) : Type 1
 | leaf
 | s (x : Stp E P) (k : Ct E P f n R0 retF)
 | drw (k : Ct E P f n R0 retF)
 | rk (l : List (Nat × Nat)) (k : Ct E P f n R0 retF)
 | q (is : List Nat) (l : List Src) (k : Ct E P f n R0 retF)
 | a (j : Nat) (x : Stp E P) (l : List Src) (k : Ct E P f n R0 retF)
 | cond (x y : Ct E P f n R0 retF)
 | s0 (x : Ct E P f n R0 retF)
 | uw (x : Ct E P f n R0 retF)
 | split (t : Nat) (x y : Ct E P f n R0 retF)
 | join (T : Type) (nN nA : Nat) (get : Kn E -> Option (T × List Nat × List (Option Addr))) (J : Kn E -> T -> List Nat -> List (Option Addr) -> Env × List (Nat × Atom E)) (x k : Ct E P f n R0 retF)
 | joinR (T : Type) (nN nA : Nat) (get : Kn E -> Option (T × List Nat × List (Option Addr))) (J : Kn E -> T -> List Nat -> List (Option Addr) -> Env × List (Nat × Atom E)) (x k : Ct E P f n R0 retF)
 | loop (B : AX E P f n R0 retF) (get : Kn E -> Option (B.B.X × B.B.V × List Nat × List (Option Addr))) (k : Ct E P f n R0 retF)
 | blk (k : Ct E P f n R0 retF)
 | unr (k : Ct E P f n R0 retF)
 | alt2 (i : Nat) (x : Stp E P) (l : List Src) (c : Ct E P f n R0 retF) (j : Nat) (y : Stp E P) (l' : List Src) (c' : Ct E P f n R0 retF)
 | alt3 (i : Nat) (x : Stp E P) (l : List Src) (c : Ct E P f n R0 retF) (j : Nat) (y : Stp E P) (l' : List Src) (c' : Ct E P f n R0 retF) (m : Nat) (z : Stp E P) (l'' : List Src) (c'' : Ct E P f n R0 retF)
 | jg (T : Type) (nN nA : Nat) (get : Kn E -> Option (T × List Nat × List (Option Addr))) (J : Kn E -> T -> List Nat -> List (Option Addr) -> Env × List (Nat × Atom E)) (x k : Ct E P f n R0 retF)
 | pj (t : Nat) (T : Type) (M : Mx T) (get : Kn E -> Option T) (J : Kn E -> T -> Env × List (Nat × Atom E)) (x y k : Ct E P f n R0 retF)
 | eo (t j q e : Nat) (x y : Ct E P f n R0 retF)
 | np (t j : Nat) (x y : Ct E P f n R0 retF)
 | ret
 | back
 | dead
abbrev Ct.g {E : Ev} {P : Program} {f : FuncId} {n : Nat} {R0 : Type} {retF : Kn E -> VC R0} (a : Nat) (k : Ct E P f n R0 retF) : Ct E P f n R0 retF := .s (.seg a []) k
def rb (b : Nat) (l : List Nat) : List (Nat × Nat) := l.zipIdx.map (fun p => (p.1,b + p.2)) ++ l.zipIdx.map (fun p => (b + p.2,b + p.2 + 90000))
def ren (l : List (Nat × Nat)) (k : Nat) : Nat := match getK k l with
 | some j => j
 | none => k
def renK (l : List (Nat × Nat)) : List (Nat × Atom E) -> List (Nat × Atom E)
 | [] => []
 | (k,a) :: r => (ren l k,a) :: renK l r
theorem ky (l : List (Nat × Nat)) : ∀ As : List (Nat × Atom E),dens (renK l As) = dens As
 | [] => rfl
 | (k,a) :: r => by
  have := ky l r;simp only [dens,renK,pC] at this ⊢;rw [this]
def nx {R : Type} (m : Option Md) (k : Md -> VC R) : VC R := match m with
 | some md => k md
 | none => .fail
def Md.cut : Md -> Option (Md × List Item)
 | .run (x :: k) => some (.run [x],k)
 | .run [] => none
 | .reg ops i k => some (.reg ops i [],k)
 | .drw ops dn pend k => some (.drw ops dn pend [],k)
def onD {R : Type} (ops : Array Oper) (dn : List Nat) (pend : List (Nat × List Ob)) (k : List Item) (K : Md -> VC R) : VC R :=
 match Nat.ble ops.size dn.length with
 | true => match eqL (vp (vG dn) 0 ops.toList) [] with
  | true => nx (norm 1000 k) K
  | false => .fail
 | false => K (.drw ops dn pend k)
def de (j : Nat) (V : Value) : Option Value := match Nat.beq j 999 with
 | true => some V
 | false => match V with
  | .tuple vs => vs.toList[j]?
  | _ => none
def setV (j : Nat) (V : Value) (x : Value) : Value := match Nat.beq j 999 with
 | true => x
 | false => match V with
  | .tuple vs => .tuple (vs.toList.set j x).toArray
  | _ => V
theorem kD {j : Nat} {V x : Value} (h : de j V = some x) : setV j V x = V := by
 unfold de at h;unfold setV;split at h
 ·simp at h; exact h.symm
 ·split at h
  ·rename_i vs;show Value.tuple _ = _;have : vs.toList.set j x = vs.toList := by
    apply List.ext_getElem?;intro i;rw [List.getElem?_set];split
    ·subst_vars
     split
     ·exact h.symm
     ·rename_i h3; rw [List.getElem?_eq_none (Nat.le_of_not_lt h3)]
    ·rfl
   rw [this]
  ·cases h
def eoC {R : Type} (st : Kn E) (t j q e : Nat) (X Y : Kn E -> VC R) : VC R :=
 match getK 77 st.vw,look t st.L,getK q st.As with
 | some (.opt o),some V,some (.sl c T sb sc l) => match de j V with
  | some v => .req v (elemV sb (E.el c).sz o) (.cs (oS o) (fun _ => X ⟨(t,setV j V (.pointer none)) :: st.L,st.As,st.rd,st.ef,st.pr,st.vw⟩) fun i =>
    .bind (mIdx l i) fun x => .frN fun b => .frN fun off => Y ⟨(t,setV j V (.pointer (some ⟨b,off + i.toNat * (E.el c).sz,none⟩))) :: st.L,st.As,st.rd,(e,⟨false,c,sb,l,i,x,b,off⟩) :: st.ef,st.pr,st.vw⟩)
  | none => .fail
 | _,_,_ => .fail
theorem yc.same {n : Nat} {a : Act} {L : Env} {t : Nat} {V : Value} (e : yc n a L) (h : look t L = some V) : yc n a ((t,V) :: L) := by
 refine ⟨e.size,e.defers,fun u v hv => ?_⟩;rw [wT] at hv;split at hv
 ·subst_vars; cases hv; exact e.has _ _ h
 ·exact e.has _ _ hv
theorem fB {R : Type} {n : Nat} {w0 w : World} {F : List HP} {st : Kn E} {a : Act} {Φ : R -> Prop} {t j q e : Nat} {X Y : Kn E -> VC R} (u : KnOk n w0 F st a w) (h : (eoC st t j q e X Y).ok Φ) : ∃ y,KnOk n w0 F y a w /\ ((X y).ok Φ \/ (Y y).ok Φ) := by
 unfold eoC at h;split at h
 ·rename_i o V c T sb sc l h1 h2 h3;split at h
  ·rename_i v hv;obtain ⟨rfl,h4,A⟩ := h;cases o with
   | none =>
    refine ⟨⟨(t,setV j V (.pointer none)) :: st.L,st.As,st.rd,st.ef,st.pr,st.vw⟩,⟨u.env.same (V := setV j V (.pointer none)) ?_,u.hp,u.fs.1,u.fs.2,u.fs.3,u.fs.4⟩,.inl (h4 () rfl)⟩;rw [h2]; exact congrArg some (kD hv).symm
   | some i =>
    obtain ⟨x,z,B⟩ := A i rfl;obtain ⟨D,hj⟩ := u.hp.mem (mL F (uA h3));obtain ⟨b,off,hs,_⟩ := (w1 T (E.el c).enc (E.el c).sz sb sc l).base (E.el c).ok u.hp D hj z;rw [my hs] at hv;refine ⟨⟨(t,setV j V (.pointer (some ⟨b,off + i.toNat * (E.el c).sz,none⟩))) :: st.L,st.As,st.rd,(e,⟨false,c,sb,l,i,x,b,off⟩) :: st.ef,st.pr,st.vw⟩,⟨u.env.same (V := setV j V (.pointer (some ⟨b,off + i.toNat * (E.el c).sz,none⟩))) ?_,u.hp,u.fs.1,?_,u.fs.3,u.fs.4⟩,.inr (B b off)⟩
    ·rw [h2]; exact congrArg some (kD hv).symm
    ·intro p hp;cases hp with
     | head => exact ⟨hs,z,fun h => by cases h⟩
     | tail _ hm => exact u.fs.2 p hm
  ·exact (VC.zw h).elim
 ·exact (VC.zw h).elim
def bx {R : Type} (u v : VC R) : VC R := .both u v v.mod
def exec {f : FuncId} {n : Nat} {R0 : Type} {retF : Kn E -> VC R0} : {R : Type} -> Ct E P f n R0 retF -> Md -> Kn E -> (R0 -> VC R) -> (Kn E -> VC R) -> (Code -> Nat -> Kn E -> VC R) -> VC R
 | _,.leaf,md,st,F,D,A => match md with
  | .run [] => D st
  | _ => .fail
 | _,.s x c,md,st,F,D,A => match md with
  | .reg ops i k => bW n ops i st x fun i' O => match Nat.ble ops.size i' with
   | true => nx (norm 1000 k) fun I => exec c I O F D A
   | false => exec c (.reg ops i' k) O F D A
  | .drw ops dn pend k => ghost st x fun O => exec c (.drw ops dn pend k) O F D A
  | .run t => ghost st x fun O => exec c (.run t) O F D A
 | _,.dead,md,st,F,D,A => .fail
 | _,.rk l c,md,st,F,D,A => exec c md ⟨st.L,renK l st.As,st.rd,st.ef,st.pr,st.vw⟩ F D A
 | _,.drw c,md,st,F,D,A => match md with
  | .run (.code (.region _ ops true) :: k) => match tP ops with
   | true => exec c (.drw ops [] [] k) st F D A
   | false => .fail
  | _ => .fail
 | _,.q is l c,md,st,F,D,A => match md with
  | .drw ops dn pend k => bV (P := P) n ops dn pend st is l fun U S O => onD ops U S k fun I => exec c I O F D A
  | _ => .fail
 | _,.a j x l c,md,st,F,D,A => match md with
  | .drw ops dn pend k => bU n ops dn pend st j x l fun U S O => onD ops U S k fun I => exec c I O F D A
  | _ => .fail
 | _,.cond x y,md,st,F,D,A => match md with
  | .run (.code (.cond c u v) :: k) => match evO st.L c with
   | some (.bool b) => .ite b (nx (norm 1000 (.code u :: k)) fun I => exec x I st F D A) (nx (norm 1000 (.code v :: k)) fun I => exec y I st F D A)
   | _ => .fail
  | _ => .fail
 | _,.s0 x,md,st,F,D,A => match md with
  | .run (.code (.cond c u v) :: k) => match evO st.L c with
   | some (.bool true) => nx (norm 1000 (.code u :: k)) fun I => exec x I st F D A
   | _ => .fail
  | _ => .fail
 | _,.uw x,md,st,F,D,A => match md with
  | .run (.code (.cond c u v) :: k) => match evO st.L c with
   | some (.bool false) => nx (norm 1000 (.code v :: k)) fun I => exec x I st F D A
   | _ => .fail
  | _ => .fail
 | _,.split t x y,md,st,F,D,A => match look t st.L with
  | some (.bool b) => .ite b (exec x md ⟨(t,.bool true) :: st.L,st.As,st.rd,st.ef,st.pr,st.vw⟩ F D A) (exec y md ⟨(t,.bool false) :: st.L,st.As,st.rd,st.ef,st.pr,st.vw⟩ F D A)
  | _ => .fail
 | _,.join T nN nA get J x k,md,st,F,D,A => match md.cut with
  | some (Y,rest) => .join (exec x Y st (fun _ => .fail) (fun O => match get O with
    | some (s,X,W) => match Nat.beq X.length nN,Nat.beq W.length nA with
     | true,true => reqS (J st s X W).1 (J st s X W).2 O (.ret (some s))
     | _,_ => .fail
    | none => .fail) (fun _ _ _ => .fail)) fun s => frNs nN fun X => frAs nA fun W => nx (norm 1000 rest) fun I => exec k I ⟨(J st s X W).1,(J st s X W).2,st.rd,st.ef,st.pr,st.vw⟩ F D A
  | none => .fail
 | _,.joinR T nN nA get J x k,md,st,F,D,A => match md.cut with
  | some (Y,rest) => .join (exec x Y st (fun r => .ret (some (.inl r))) (fun O => match get O with
    | some (s,X,W) => match Nat.beq X.length nN,Nat.beq W.length nA with
     | true,true => reqS (J st s X W).1 (J st s X W).2 O (.ret (some (Sum.inr s)))
     | _,_ => .fail
    | none => .fail) (fun _ _ _ => .fail)) fun s => .cs s F fun s => frNs nN fun X => frAs nA fun W => nx (norm 1000 rest) fun I => exec k I ⟨(J st s X W).1,(J st s X W).2,st.rd,st.ef,st.pr,st.vw⟩ F D A
  | none => .fail
 | _,.loop B get k,md,st,F,D,A => match md with
  | .run (.code c :: rest) => match get st with
   | some (x,v,X,W) => match ll (kys (B.B.rds x)) st.rd with
    | some rs => .req c B.B.code (.req rs ((B.B.rds x).map (·.2)) (reqS (B.B.pL x v X W) (B.B.pA x v X W) st (.bind (B.B.g x v) fun t => .cs (B.B.cls t) F fun u => frNs B.B.mN fun a0 => frAs B.B.mA fun Z =>
     nx (norm 1000 rest) fun I => exec k I ⟨B.B.qL x u a0 Z,B.B.qA x u a0 Z,st.rd,st.ef,st.pr,st.vw⟩ F D A)))
    | none => .fail
   | none => .fail
  | _ => .fail
 | _,.blk c,md,st,F,D,A => match md with
  | .run (.code (.block id b) :: k) => nx (norm 1000 (.code b :: .inBlock id :: k)) fun I => exec c I st F D A
  | _ => .fail
 | _,.unr c,md,st,F,D,A => match md with
  | .run (.code (.block id (.loop b)) :: k) => nx (norm 1000 (.code b :: .inLoop b :: .inBlock id :: k)) fun I => exec c I st F D A
  | .run (.inLoop b :: k) => nx (norm 1000 (.code b :: .inLoop b :: k)) fun I => exec c I st F D A
  | _ => .fail
 | _,.alt2 i x l c j y l' c',md,st,F,D,A => match md with
  | .drw ops dn pend k => match Nat.blt dn.length ops.size && eqL (vp (vG dn) 0 ops.toList) [i,j] with
   | true => bx (kG n ops dn pend st i x l fun U S O => onD ops U S k fun I => exec c I O F D A) (kG n ops dn pend st j y l' fun U S O => onD ops U S k fun I => exec c' I O F D A)
   | false => .fail
  | _ => .fail
 | _,.alt3 i x l c j y l' c' m z l'' c'',md,st,F,D,A => match md with
  | .drw ops dn pend k => match Nat.blt dn.length ops.size && eqL (vp (vG dn) 0 ops.toList) [i,j,m] with
   | true => bx (kG n ops dn pend st i x l fun U S O => onD ops U S k fun I => exec c I O F D A) (bx (kG n ops dn pend st j y l' fun U S O => onD ops U S k fun I => exec c' I O F D A) (kG n ops dn pend st m z l'' fun U S O => onD ops U S k fun I => exec c'' I O F D A))
   | false => .fail
  | _ => .fail
 | _,.jg T nN nA get J x k,md,st,F,D,A => match md.cut with
  | some (Y,rest) => .grj (exec x Y st (fun _ => .fail) (fun O => match get O with
    | some (s,X,W) => match Nat.beq X.length nN,Nat.beq W.length nA with
     | true,true => reqS (J st s X W).1 (J st s X W).2 O (.ret (some s))
     | _,_ => .fail
    | none => .fail) (fun _ _ _ => .fail)) fun s => frNs nN fun X => frAs nA fun W => nx (norm 1000 rest) fun I => exec k I ⟨(J st s X W).1,(J st s X W).2,st.rd,st.ef,st.pr,st.vw⟩ F D A
  | none => .fail
 | _,.pj t T M get J x y k,md,st,F,D,A => match md.cut,look t st.L with
  | some (Y,rest),some (.bool b) => .sel M b (exec x Y ⟨(t,.bool true) :: st.L,st.As,st.rd,st.ef,st.pr,st.vw⟩ (fun _ => .fail) (fun O => match get O with
    | some s => reqS (J st s).1 (J st s).2 O (.ret (some s))
    | none => .fail) (fun _ _ _ => .fail)) (exec y Y ⟨(t,.bool false) :: st.L,st.As,st.rd,st.ef,st.pr,st.vw⟩ (fun _ => .fail) (fun O => match get O with
    | some s => reqS (J st s).1 (J st s).2 O (.ret (some s))
    | none => .fail) (fun _ _ _ => .fail)) fun s => nx (norm 1000 rest) fun I => exec k I ⟨(J st s).1,(J st s).2,st.rd,st.ef,st.pr,st.vw⟩ F D A
  | _,_ => .fail
 | _,.eo t j q e x y,md,st,F,D,A => eoC st t j q e (fun O => exec x md O F D A) fun O => exec y md O F D A
 | _,.np t j x y,md,st,F,D,A => match look t st.L with
  | some V => match de j V with
   | some (.pointer none) => exec x md st F D A
   | some (.pointer (some _)) => exec y md st F D A
   | _ => .fail
  | none => .fail
 | _,.ret,md,st,F,D,A => match md with
  | .run (.code .ret :: _) => .join (retF st) F
  | _ => .fail
 | _,.back,md,st,F,D,A => match md with
  | .run [.inLoop c,.inBlock id] => A c id st
  | _ => .fail
theorem kf {α : Type} : ∀ {ks : List Nat} {L : List (Nat × α)} {xs : List α},ll ks L = some xs -> ∀ x ∈ xs,∃ j,(j,x) ∈ L
 | [],L,xs,h,x,e => by simp [ll] at h; subst h; cases e
 | k :: ks,L,xs,h,x,e => by
  simp only [ll] at h;split at h
  ·rename_i y r h1 h2;cases h;cases e with
   | head => exact xX h1
   | tail _ hm => exact kf h2 x hm
  ·cases h
theorem qi {R : Type} {m : Option Md} {k : Md -> VC R} {Φ : R -> Prop} (h : (nx m k).ok Φ) : ∃ md,m = some md /\ (k md).ok Φ := by
 unfold nx at h;split at h
 ·exact ⟨_,rfl,h⟩
 ·exact (VC.zw h).elim
end
end
noncomputable section
section
variable {E : Ev} {P : Program} {f : FuncId} {n : Nat} {R0 : Type} {retF : Kn E -> VC R0}
theorem q7 {t : Nat} {b : Bool} {L : Env} {n : Nat} {a : Act} (e : yc n a L) (h : look t L = some (.bool b)) : yc n a ((t,.bool b) :: L) := by
 refine ⟨e.size,e.defers,fun u v hv => ?_⟩;rw [wT] at hv;split at hv
 ·subst_vars; cases hv; exact e.has _ _ h
 ·exact e.has _ _ hv
theorem eZ.kn {w0 w : World} {F : List HP} {st : Kn E} {a : Act} {L : Env} {As : List (Nat × Atom E)} (h : eZ F st) (e : yc n a L) (i : St w0 (dens As ++ F) w) : KnOk n w0 F ⟨L,As,st.rd,st.ef,st.pr,st.vw⟩ a w := ⟨e,i,h.1,h.2,h.3,h.4⟩
theorem Md.rG {md e : Md} {rest base : List Item} {a : Act} {w : World} {Q : Value -> World -> Prop} (h : md.cut = some (e,rest)) (j : e.Runs P f (rest ++ base) a w Q) : md.Runs P f base a w Q := by
 cases md with
 | run t =>
  cases t with
  | nil => cases h
  | cons x t =>
   simp only [Md.cut,Option.some.injEq,Prod.mk.injEq] at h;obtain ⟨rfl,rfl⟩ := h;exact j
 | reg ops i k =>
  simp only [Md.cut,Option.some.injEq,Prod.mk.injEq] at h;obtain ⟨rfl,rfl⟩ := h;exact j
 | drw ops dn pend k =>
  simp only [Md.cut,Option.some.injEq,Prod.mk.injEq] at h;obtain ⟨rfl,rfl⟩ := h;exact j
theorem tJ {R : Type} {ops : Array Oper} {dn : List Nat} {pend : List (Nat × List Ob)} {k base : List Item} {K : Md -> VC R} {Φ : R -> Prop} {a : Act} {w : World} {Q : Value -> World -> Prop} (h : (onD ops dn pend k K).ok Φ)
  (hk : ∀ md,(K md).ok Φ -> md.Runs P f base a w Q) : WQ P f ops dn pend (k ++ base) a w Q := by
 unfold onD at h;split at h
 ·split at h
  ·rename_i h1;obtain ⟨md,hm,h2⟩ := qi h;exact WQ.done h1 (yL 1000 hm (hk md h2))
  ·exact (VC.zw h).elim
 ·exact hk _ h
theorem mG (c3 : P.follows .mixedOrders = true) {w0 : World} {F : List HP} {Q : Value -> World -> Prop} {Tg : R0 -> Prop} (b3 : ∀ st a w k,KnOk n w0 F st a w -> (retF st).ok Tg -> Runs P f (.code .ret :: k) a w Q) :
  ∀ (ct : Ct E P f n R0 retF) {R : Type} (md : Md) (base : List Item) (st : Kn E) (I : R0 -> VC R) (D : Kn E -> VC R) (A : Code -> Nat -> Kn E -> VC R) (Φ : R -> Prop) (a : Act) (w : World),KnOk n w0 F st a w ->
   (exec ct md st I D A).ok Φ -> (∀ r,(I r).ok Φ -> Tg r) -> (∀ S a' w',KnOk n w0 F S a' w' -> (D S).ok Φ -> Runs P f base a' w' Q) ->
   (∀ c id S a' w',KnOk n w0 F S a' w' -> (A c id S).ok Φ -> Runs P f (.inLoop c :: .inBlock id :: base) a' w' Q) -> md.Runs P f base a w Q := by
 intro ct;induction ct with
 | leaf =>
  intro R md base st I D A Φ a w O h hV Y X;simp only [exec] at h;split at h
  ·exact Y _ _ _ O h
  ·exact (VC.zw h).elim
 | s x c ih =>
  intro R md base st I D A Φ a w O h hV Y X;simp only [exec] at h;split at h
  ·rename_i ops i k;refine jL O h fun i' S a' w' U h' => ?_
   split at h'
   ·rename_i hi;obtain ⟨W,hm,h2⟩ := qi h';exact WR.done hi (yL 1000 hm (ih _ _ _ _ _ _ _ _ _ U h2 hV Y X))
   ·exact ih (.reg ops i' k) base S I D A Φ a' w' U h' hV Y X
  ·rename_i ops dn pend k;obtain ⟨S,U,h'⟩ := xk O h;exact ih (.drw ops dn pend k) base S I D A Φ a w U h' hV Y X
  ·rename_i t;obtain ⟨S,U,h'⟩ := xk O h;exact ih (.run t) base S I D A Φ a w U h' hV Y X
 | dead =>
  intro R md base st I D A Φ a w O h hV Y X;simp only [exec] at h;exact (VC.zw h).elim
 | rk l c ih =>
  intro R md base st I D A Φ a w O h hV Y X;simp only [exec] at h;exact ih md base ⟨st.L,renK l st.As,st.rd,st.ef,st.pr,st.vw⟩ I D A Φ a w ⟨O.env,by rw [ky]; exact O.hp,O.fs.1,O.fs.2,O.fs.3,O.fs.4⟩ h hV Y X
 | drw c ih =>
  intro R md base st I D A Φ a w O h hV Y X;simp only [exec] at h;split at h
  ·rename_i id ops k;split at h
   ·rename_i hr;exact Runs.drawn c3 hr (ih (.drw ops [] [] k) base st I D A Φ a _ ⟨O.env,O.hp.drew,O.fs.1,O.fs.2,O.fs.3,O.fs.4⟩ h hV Y X)
   ·exact (VC.zw h).elim
  ·exact (VC.zw h).elim
 | q is l c ih =>
  intro R md base st I D A Φ a w O h hV Y X;simp only [exec] at h;split at h
  ·refine jK O h fun a9 a1 S a' U h' => ?_
   exact tJ h' fun W h2 => ih W base S I D A Φ a' w U h2 hV Y X
  ·exact (VC.zw h).elim
 | a j x l c ih =>
  intro R md base st I D A Φ a w O h hV Y X;simp only [exec] at h;split at h
  ·refine jJ O h fun a9 a1 S a' w' U h' => ?_
   exact tJ h' fun W h2 => ih W base S I D A Φ a' w' U h2 hV Y X
  ·exact (VC.zw h).elim
 | cond x y Z a5 =>
  intro R md base st I D A Φ a w O h hV Y X;simp only [exec] at h;split at h
  ·rename_i c u v k;split at h
   ·rename_i b hc;refine Runs.cond O.env hc (fun hb => ?_) (fun hb => ?_)
    ·obtain ⟨W,hm,h2⟩ := qi (h.1 hb);exact yL 1000 hm (Z _ _ _ _ _ _ _ _ _ O h2 hV Y X)
    ·obtain ⟨W,hm,h2⟩ := qi (h.2 hb);exact yL 1000 hm (a5 _ _ _ _ _ _ _ _ _ O h2 hV Y X)
   ·exact (VC.zw h).elim
  ·exact (VC.zw h).elim
 | s0 x Z =>
  intro R md base st I D A Φ a w O h hV Y X;simp only [exec] at h;split at h
  ·rename_i c u v k;split at h
   ·rename_i hc;obtain ⟨W,hm,h2⟩ := qi h;exact Runs.s0 O.env hc (yL 1000 hm (Z _ _ _ _ _ _ _ _ _ O h2 hV Y X))
   ·exact (VC.zw h).elim
  ·exact (VC.zw h).elim
 | uw x Z =>
  intro R md base st I D A Φ a w O h hV Y X;simp only [exec] at h;split at h
  ·rename_i c u v k;split at h
   ·rename_i hc;obtain ⟨W,hm,h2⟩ := qi h;exact Runs.uw O.env hc (yL 1000 hm (Z _ _ _ _ _ _ _ _ _ O h2 hV Y X))
   ·exact (VC.zw h).elim
  ·exact (VC.zw h).elim
 | split t x y Z a5 =>
  intro R md base st I D A Φ a w O h hV Y X;simp only [exec] at h;split at h
  ·rename_i b hb;cases b with
   | true => exact Z _ _ _ _ _ _ _ _ _ (O.fs.kn (q7 O.env hb) O.hp) (h.1 rfl) hV Y X
   | false => exact a5 _ _ _ _ _ _ _ _ _ (O.fs.kn (q7 O.env hb) O.hp) (h.2 rfl) hV Y X
  ·exact (VC.zw h).elim
 | join T nN nA get J x k Z a4 =>
  intro R md base st I D A Φ a w O h hV Y X;simp only [exec] at h;split at h
  ·rename_i b6 rest hc;refine Md.rG hc (Z _ _ _ _ _ _ _ _ _ O h (fun r hr => (VC.zw hr).elim) (fun S a' w' U hl => ?_) (fun c id S a' w' _ hb => (VC.zw hb).elim));split at hl
   ·rename_i s ns aS hg;split at hl
    ·rename_i h1 h2;obtain ⟨h3,h4,y,hy,h5⟩ := uN U hl;cases hy;rw [<- Nat.eq_of_beq_eq_true h1] at h5;have h6 := pX _ _ h5;rw [<- Nat.eq_of_beq_eq_true h2] at h6;obtain ⟨W,hm,h8⟩ := qi (pU _ _ h6);exact yL 1000 hm (a4 _ _ _ _ _ _ _ _ _ (O.fs.kn h3 h4) h8 hV Y X)
    ·exact (VC.zw hl).elim
   ·exact (VC.zw hl).elim
  ·exact (VC.zw h).elim
 | joinR T nN nA get J x k Z a4 =>
  intro R md base st I D A Φ a w O h hV Y X;simp only [exec] at h;split at h
  ·rename_i b6 rest hc;refine Md.rG hc (Z _ _ _ _ _ _ _ _ _ O h (fun r hr => ?_) (fun S a' w' U hl => ?_) (fun c id S a' w' _ hb => (VC.zw hb).elim))
   ·obtain ⟨y,hy,h2⟩ := hr;cases hy;exact hV r (h2.1 r rfl)
   ·split at hl
    ·rename_i s ns aS hg;split at hl
     ·rename_i h1 h2;obtain ⟨h3,h4,y,hy,h5⟩ := uN U hl;cases hy;have h5 := h5.2 s rfl;rw [<- Nat.eq_of_beq_eq_true h1] at h5;have h6 := pX _ _ h5;rw [<- Nat.eq_of_beq_eq_true h2] at h6;obtain ⟨W,hm,h8⟩ := qi (pU _ _ h6);exact yL 1000 hm (a4 _ _ _ _ _ _ _ _ _ (O.fs.kn h3 h4) h8 hV Y X)
     ·exact (VC.zw hl).elim
    ·exact (VC.zw hl).elim
  ·exact (VC.zw h).elim
 | loop B get k a4 =>
  intro R md base st I D A Φ a w O h hV Y X;simp only [exec] at h;split at h
  ·rename_i c rest;split at h
   ·rename_i x v ns aS hg;split at h
    ·rename_i rs c5;obtain ⟨rfl,h2,h3⟩ := h;obtain ⟨h4,h5,t,ht,h6⟩ := uN O h3;refine B.snd Q w0 F x v t ns aS a w (rest ++ base) ht ⟨h4,h5,?_,by simp,by simp,by simp⟩ ?_ ?_
     ·intro p hp;have h7 : p.2 ∈ rs := by rw [h2]; exact List.mem_map_of_mem hp
      obtain ⟨j,hj⟩ := kf c5 _ h7;have := O.fs.1 (j,p.2) hj;exact this
     ·intro u hu d1 c7 a' w' hn ha hE hH;have b7 := h6.2 u hu;rw [<- hn] at b7;have h7 := pX _ _ b7;rw [<- ha] at h7;obtain ⟨W,hm,h8⟩ := qi (pU _ _ h7);exact yL 1000 hm (a4 _ _ _ _ _ _ _ _ _ (O.fs.kn hE hH) h8 hV Y X)
     ·intro r hr S a' w' k' U c4;have e := hV r (h6.1 r hr);exact b3 _ _ _ _ U (VC.mono _ (fun r' h => by subst h; exact e) c4)
    ·exact (VC.zw h).elim
   ·exact (VC.zw h).elim
  ·exact (VC.zw h).elim
 | blk c ih =>
  intro R md base st I D A Φ a w O h hV Y X;simp only [exec] at h;split at h
  ·obtain ⟨W,hm,h2⟩ := qi h;exact Runs.block (yL 1000 hm (ih _ _ _ _ _ _ _ _ _ O h2 hV Y X))
  ·exact (VC.zw h).elim
 | unr c ih =>
  intro R md base st I D A Φ a w O h hV Y X;simp only [exec] at h;split at h
  ·obtain ⟨W,hm,h2⟩ := qi h;exact Runs.block (Runs.cy (yL 1000 hm (ih _ _ _ _ _ _ _ _ _ O h2 hV Y X)))
  ·obtain ⟨W,hm,h2⟩ := qi h;exact Runs.inLoop (yL 1000 hm (ih _ _ _ _ _ _ _ _ _ O h2 hV Y X))
  ·exact (VC.zw h).elim
 | alt2 i x l c j y l' c' b4 b5 =>
  intro R md base st I D A Φ a w O h hV Y X;simp only [exec] at h;split at h
  ·split at h
   ·rename_i hr;refine WQ.act2 i j hr ?_ ?_
    ·refine uP O h.1 fun a9 a1 S a' w' U h' => ?_
     exact tJ h' fun W h2 => b4 W base S I D A Φ a' w' U h2 hV Y X
    ·refine uP O (h.2 rfl) fun a9 a1 S a' w' U h' => ?_
     exact tJ h' fun W h2 => b5 W base S I D A Φ a' w' U h2 hV Y X
   ·exact (VC.zw h).elim
  ·exact (VC.zw h).elim
 | alt3 i x l c j y l' c' m z l'' c'' b4 b5 c6 =>
  intro R md base st I D A Φ a w O h hV Y X;simp only [exec] at h;split at h
  ·split at h
   ·rename_i hr;refine WQ.act3 i j m hr ?_ ?_ ?_
    ·refine uP O h.1 fun a9 a1 S a' w' U h' => ?_
     exact tJ h' fun W h2 => b4 W base S I D A Φ a' w' U h2 hV Y X
    ·refine uP O ((h.2 rfl).1) fun a9 a1 S a' w' U h' => ?_
     exact tJ h' fun W h2 => b5 W base S I D A Φ a' w' U h2 hV Y X
    ·refine uP O ((h.2 rfl).2 rfl) fun a9 a1 S a' w' U h' => ?_
     exact tJ h' fun W h2 => c6 W base S I D A Φ a' w' U h2 hV Y X
   ·exact (VC.zw h).elim
  ·exact (VC.zw h).elim
 | jg T nN nA get J x k Z a4 =>
  intro R md base st I D A Φ a w O h hV Y X;simp only [exec] at h;split at h
  ·rename_i b6 rest hc;refine Md.rG hc (Z _ _ _ _ _ _ _ _ _ O h (fun r hr => (VC.zw hr).elim) (fun S a' w' U hl => ?_) (fun c id S a' w' _ hb => (VC.zw hb).elim));split at hl
   ·rename_i s ns aS hg;split at hl
    ·rename_i h1 h2;obtain ⟨h3,h4,y,hy,h5⟩ := uN U hl;cases hy;rw [<- Nat.eq_of_beq_eq_true h1] at h5;have h6 := pX _ _ h5;rw [<- Nat.eq_of_beq_eq_true h2] at h6;obtain ⟨W,hm,h8⟩ := qi (pU _ _ h6);exact yL 1000 hm (a4 _ _ _ _ _ _ _ _ _ (O.fs.kn h3 h4) h8 hV Y X)
    ·exact (VC.zw hl).elim
   ·exact (VC.zw hl).elim
  ·exact (VC.zw h).elim
 | pj t T M get J x y k Z a5 a4 =>
  intro R md base st I D A Φ a w O h hV Y X;simp only [exec] at h;split at h
  ·rename_i b6 rest b hc hb;have fin : ∀ (S : Kn E) (a' : Act) (w' : World),KnOk n w0 F S a' w' -> ((match get S with
     | some s => reqS (J st s).1 (J st s).2 S (.ret (some s))
     | none => .fail : VC T)).ok (fun s => (nx (norm 1000 rest) fun W => exec k W ⟨(J st s).1,(J st s).2,st.rd,st.ef,st.pr,st.vw⟩ I D A).ok Φ) -> Runs P f (rest ++ base) a' w' Q := by
    intro S a' w' U hl;split at hl
    ·rename_i s hg;obtain ⟨h3,h4,y,hy,h5⟩ := uN U hl;cases hy;obtain ⟨W,hm,h8⟩ := qi h5;exact yL 1000 hm (a4 _ _ _ _ _ _ _ _ _ (O.fs.kn h3 h4) h8 hV Y X)
    ·exact (VC.zw hl).elim
   cases b with
   | true => exact Md.rG hc (Z _ _ _ _ _ _ _ _ _ (O.fs.kn (q7 O.env hb) O.hp) (h.1 rfl) (fun r hr => (VC.zw hr).elim) fin (fun c id S a' w' _ hb => (VC.zw hb).elim))
   | false => exact Md.rG hc (a5 _ _ _ _ _ _ _ _ _ (O.fs.kn (q7 O.env hb) O.hp) (h.2 rfl) (fun r hr => (VC.zw hr).elim) fin (fun c id S a' w' _ hb => (VC.zw hb).elim))
  ·exact (VC.zw h).elim
 | eo t j q e x y Z a5 =>
  intro R md base st I D A Φ a w O h hV Y X;simp only [exec] at h;obtain ⟨S,U,h' | h'⟩ := fB O h
  ·exact Z _ _ _ _ _ _ _ _ _ U h' hV Y X
  ·exact a5 _ _ _ _ _ _ _ _ _ U h' hV Y X
 | np t j x y Z a5 =>
  intro R md base st I D A Φ a w O h hV Y X;simp only [exec] at h;split at h
  ·split at h
   ·exact Z _ _ _ _ _ _ _ _ _ O h hV Y X
   ·exact a5 _ _ _ _ _ _ _ _ _ O h hV Y X
   ·exact (VC.zw h).elim
  ·exact (VC.zw h).elim
 | ret =>
  intro R md base st I D A Φ a w O h hV Y X;simp only [exec] at h;split at h
  ·exact b3 _ _ _ _ O (VC.mono _ hV h)
  ·exact (VC.zw h).elim
 | back =>
  intro R md base st I D A Φ a w O h hV Y X;simp only [exec] at h;split at h
  ·exact X _ _ _ _ _ O h
  ·exact (VC.zw h).elim
def zipN {α : Type} : Nat -> List α -> List (Nat × α)
 | _,[] => []
 | i,x :: r => (i,x) :: zipN (i + 1) r
theorem lR {α : Type} : ∀ (i : Nat) (l : List α),(zipN i l).map (·.2) = l
 | _,[] => rfl
 | i,x :: r => by simp [zipN,lR (i + 1) r]
def fx79 : List (Nat × Prop) -> List Prop
 | [] => []
 | (k,p) :: r => match Nat.beq k 79 with
  | true => p :: fx79 r
  | false => fx79 r
theorem fI : ∀ {l : List (Nat × Prop)},(∀ p ∈ l,p.2) -> ∀ p ∈ fx79 l,p
 | [],_,p,hp => by cases hp
 | (k,q) :: r,h,p,hp => by
  have ih := fI (l := r) fun x e => h x (mC _ e)
  unfold fx79 at hp;split at hp
  ·cases hp with
   | head => exact h (k,q) (List.mem_cons_self ..)
   | tail _ hm => exact ih p hm
  ·exact ih p hp
def retC (P : Program) (C : Con E) (rs : List ResultVar) (src : List Src) (keys : List Nat) (out : Kn E -> Option (C.T × List Nat × List (Option Addr))) (i : C.I) (st : Kn E) : VC C.T :=
 match out st with
 | some (t,l,j) => match Nat.beq l.length C.nN,Nat.beq j.length C.nA,srcs st src,ko (C.A9 i t keys) st.As with
  | true,true,some (u,obs,eqs),some (ats,_) => match ql P st.L rs u with
   | some (vs,e) => .req e obs (.req (eqs.map (·.1)) (eqs.map (·.2)) (.req (u6 vs) (C.valA i t l j) (.req ats (C.jD i t l j) (.req (C.fx i t) (fx79 st.pr) (.ret (some t))))))
   | none => .fail
  | _,_,_,_ => .fail
 | none => .fail
def st0 (C : Con E) (i : C.I) : Kn E := ⟨pP 0 (C.args i),zipN 0 (C.ats i),zipN 0 (C.rds i),[],[],[]⟩
def vcF {P : Program} {n : Nat} (C : Con E) (c : Code) (rs : List ResultVar) (src : List Src) (keys : List Nat) (out : Kn E -> Option (C.T × List Nat × List (Option Addr))) (i : C.I) (e : Ct E P C.fid n C.T (retC P C rs src keys out i)) : VC C.T :=
 nx (norm 1000 [.code c]) fun md => exec e md (st0 C i) (fun t => .ret (some t)) (fun st => match rs with
  | [] => .join (retC P C rs src keys out i st) fun t => .ret (some t)
  | _ => .fail) fun _ _ _ => .fail
theorem mU {C : Con E} {rs : List ResultVar} {src : List Src} {keys : List Nat} {out : Kn E -> Option (C.T × List Nat × List (Option Addr))} {i : C.I} {st : Kn E} {n : Nat} {w0 w : World} {F : List HP} {a : Act} {t : C.T}
  (x : KnOk n w0 F st a w) (h : (retC P C rs src keys out i st).ok (· = t)) : ∃ l obs vs j e,xJ w obs /\ ql P st.L rs l = some (vs,obs) /\ j.length = C.nN /\ e.length = C.nA /\ u6 vs = C.valA i t j e /\ St w0 ((C.jD i t j e).map Atom.den ++ F) w /\ ∀ p ∈ C.fx i t,p := by
 unfold retC at h;split at h
 ·rename_i A j e X;split at h
  ·rename_i l obs eqs ats rest h1 h2 h3 h4;split at h
   ·rename_i vs z D;obtain ⟨rfl,J,O,S,u,y,W,U⟩ := h;cases W;subst U;refine ⟨l,_,vs,j,e,tv x h3 (mE J),D,Nat.eq_of_beq_eq_true h1,Nat.eq_of_beq_eq_true h2,O,?_,by rw [u]; exact fI x.fs.3⟩;have H := x.hp.perm ((pM h4).append_right F);rw [aA,S] at H;have B := H.perm (show ((C.jD i A j e).map Atom.den ++ (dens rest ++ F)).Perm (dens rest ++ ((C.jD i A j e).map Atom.den ++ F)) by
     rw [<- aA,<- aA];exact List.Perm.append_right F List.perm_append_comm)
    exact B.bz
   ·exact (VC.zw h).elim
  ·exact (VC.zw h).elim
 ·exact (VC.zw h).elim
theorem j2 (X : P.follows .mixedOrders = true) (C : Con E) {fn : Func} {c : Code} {n : Nat} {rs : List ResultVar} (src : List Src) (keys : List Nat) (out : Kn E -> Option (C.T × List Nat × List (Option Addr))) (I : ∀ i,Ct E P C.fid n C.T (retC P C rs src keys out i))
  (hf : P.funcs[C.fid]? = some fn) (U : fn.body = some c) (hn : fn.ntmps = n) (A : fn.results = rs.toArray) (hl : ∀ i,Nat.ble (C.args i).length n = true)
  (h1 : ∀ i,vcF C c rs src keys out i (I i) = (vcF C c rs src keys out i (I i)).rfx) (h2 : ∀ i s,(vcF C c rs src keys out i (I i)).mod s = C.model i) : C.Sound P := by
 intro i t hm w0 w F Z H;refine enter hf U hn (hl i) fun a hE => ?_
 have Y := VC.good _ (· = t) (h1 i) fun s => ⟨t,(h2 i s).trans hm,rfl⟩
 obtain ⟨md,W,h3⟩ := qi Y;have J : KnOk n w0 F (st0 C i) a w := by
  refine ⟨hE,?_,?_,by simp [st0],by simp [st0],by simp [st0]⟩
  ·simpa [st0,dens,lR] using H
  ·intro p hp;refine Z p.2 ?_;have : p.2 ∈ (zipN 0 (C.rds i)).map (·.2) := List.mem_map_of_mem hp
   rwa [lR] at this
 have := yL (P := P) (f := C.fid) (a := a) (w := w) (base := []) (Q := fun v w' => ∃ z j,z.length = C.nN /\ j.length = C.nA /\ v = C.valA i t z j /\ St w0 ((C.jD i t z j).map Atom.den ++ F) w' /\ ∀ p ∈ C.fx i t,p) 1000 W
  (mG X (Tg := (· = t)) (fun st a w k J h => by
    obtain ⟨D,obs,vs,z,j,ho,hv,x,l,O,S,u⟩ := mU J h;exact Runs.retO J.env hf A D hv ho ⟨z,j,x,l,O,S,u⟩) (I i) md [] (st0 C i) _ _ _ _ a w J h3 (fun r A => by obtain ⟨y,hy,h⟩ := A; cases hy; exact h) (fun a1 a' w' B hl => by
    split at hl
    ·obtain ⟨D,obs,vs,z,j,ho,hv,x,l,O,S,u⟩ := mU B (VC.mono _ (fun r A => by obtain ⟨y,hy,h⟩ := A; cases hy; exact h) hl);have e : vs = [] := by
      simp only [ql,Option.some.injEq,Prod.mk.injEq] at hv;exact hv.1.symm
     subst e;exact Runs.fin B.env hf A (vs := []) rfl ⟨z,j,x,l,O,S,u⟩
    ·exact (VC.zw hl).elim) (fun c id a1 a' w' _ U => (VC.zw U).elim))
 simpa using this
theorem fsn (j : P.follows .mixedOrders = true) (C : Con E) {fn : Func} {c : Code} {n : Nat} {rs : List ResultVar} (src : List Src) (keys : List Nat) (out : Kn E -> Option (C.T × List Nat × List (Option Addr))) (e : ∀ i,Ct E P C.fid n C.T (retC P C rs src keys out i))
  (hf : P.funcs[C.fid]? = some fn) (l : fn.body = some c := by rfl) (hn : fn.ntmps = n := by rfl) (t : fn.results = rs.toArray := by kernel_rfl) (hl : ∀ i,Nat.ble (C.args i).length n = true := by intro _; rfl)
  (h1 : ∀ i,vcF C c rs src keys out i (e i) = (vcF C c rs src keys out i (e i)).rfx := by intro i; kernel_rfl) (h2 : ∀ i s,(vcF C c rs src keys out i (e i)).mod s = C.model i := by intro i s; kernel_rfl) : C.Sound P := j2 j C src keys out e hf l hn t hl h1 h2
def vcL {P : Program} {f : FuncId} {n : Nat} {R0 : Type} {retF : Kn E -> VC R0} (B : BCon E R0) (body : Code) (id : Nat) (G : Nat -> B.X -> B.V -> Option B.W) (inl : R0 -> Option B.W) (inr : B.T -> B.W) (get : Kn E -> Option (B.V × List Nat × List (Option Addr))) (j : Kn E -> Option (B.T × List Nat × List (Option Addr)))
  (A : Ct E P f n R0 retF) (m : Nat) (x : B.X) (v : B.V) (z : List Nat) (y : List (Option Addr)) : VC B.W :=
 nx (norm 1000 [.code body,.inLoop body,.inBlock id]) fun md => exec A md ⟨B.pL x v z y,B.pA x v z y,B.rds x,[],[],[]⟩ (fun r => .ret (inl r)) (fun st => match j st with
  | some (u,i,e) => match Nat.beq i.length B.mN,Nat.beq e.length B.mA with
   | true,true => reqS (B.qL x u i e) (B.qA x u i e) st (.ret (some (inr u)))
   | _,_ => .fail
  | none => .fail) fun c l st => .req (c,l) (body,id) (match get st with
   | some (t,i,e) => reqS (B.pL x t i e) (B.pA x t i e) st (.ret (G m x t))
   | none => .fail)
theorem VC.wE : ∀ {R : Type} (v : VC R),v.ok (fun _ => False) -> False
 | _,.ret o,h => by obtain ⟨_,_,h⟩ := h; exact h
 | _,.bind m k,h => by obtain ⟨x,_,h⟩ := h; exact VC.wE (k x) h
 | _,.ite c x y,h => by
  cases i : c with
  | true => exact VC.wE x (h.1 i)
  | false => exact VC.wE y (h.2 i)
 | _,.frN k,h => VC.wE (k 0) (h 0)
 | _,.frA k,h => VC.wE (k none) (h none)
 | _,.req a b k,h => VC.wE k h.2
 | _,.join x k,h => VC.wE x (VC.mono x (fun y e => VC.wE (k y) e) h)
 | _,.cs z x y,h => by
  cases z with
  | inl a => exact VC.wE (x a) (h.1 a rfl)
  | inr b => exact VC.wE (y b) (h.2 b rfl)
 | _,.both u v vm,h => VC.wE u h.1
 | _,.grj x k,h => VC.wE x (VC.mono x (fun y e => VC.wE (k y) e) h)
 | _,.sel M b x y k,h => by
  cases b with
  | true => exact VC.wE x (VC.mono x (fun y e => VC.wE (k y) e) (h.1 rfl))
  | false => exact VC.wE y (VC.mono y (fun y e => VC.wE (k y) e) (h.2 rfl))
def BCon.at {R0 : Type} (B : BCon E R0) (G : Nat -> B.X -> B.V -> Option B.W) (k : Nat) : BCon E R0 := { B with g := G k }
theorem hK (a4 : P.follows .mixedOrders = true) (B : BCon E R0) {body : Code} {id : Nat} (G : Nat -> B.X -> B.V -> Option B.W) (inl : R0 -> Option B.W) (inr : B.T -> B.W) (get : Kn E -> Option (B.V × List Nat × List (Option Addr))) (l : Kn E -> Option (B.T × List Nat × List (Option Addr)))
  (Z : Nat -> Ct E P f n R0 retF) (hc : B.code = .block id (.loop body)) (h0 : ∀ x v,G 0 x v = none) (hl : ∀ r y,inl r = some y -> B.cls y = .inl r) (hi : ∀ u,B.cls (inr u) = .inr u)
  (h1 : ∀ m x v j i,vcL B body id G inl inr get l (Z m) m x v j i = (vcL B body id G inl inr get l (Z m) m x v j i).rfx) (h2 : ∀ m x v j i s,(vcL B body id G inl inr get l (Z m) m x v j i).mod s = G (m + 1) x v) :
  ∀ k,(B.at G k).Sound P f n retF := by
 intro k Q w0 F x v t j i a w base S A J U;have key : ∀ (m : Nat) (v : B.V) (j : List Nat) (i : List (Option Addr)) (a : Act) (w : World),G m x v = some t -> KnOk n w0 F ⟨B.pL x v j i,B.pA x v j i,B.rds x,[],[],[]⟩ a w -> Runs P f (.code body :: .inLoop body :: .inBlock id :: base) a w Q := by
  intro m;induction m with
  | zero => intro v j i a w S _; exact absurd ((h0 x v).symm.trans S) (by simp)
  | succ m ih =>
   intro v j i a w S A;have a5 := VC.good _ (· = t) (h1 m x v j i) fun s => ⟨t,(h2 m x v j i s).trans S,rfl⟩
   obtain ⟨md,a3,h3⟩ := qi a5;refine yL (t := [.code body,.inLoop body,.inBlock id]) (base := base) 1000 a3 (mG a4 (Tg := fun r => B.cls t = .inl r) ?_ (Z m) md base _ _ _ _ _ a w A h3 ?_ ?_ ?_)
   ·intro st a w k A h;cases ht : B.cls t with
    | inl r => exact U r ht _ _ _ _ A (VC.mono _ (fun r' h => by rw [ht] at h; cases h; rfl) h)
    | inr u => exact (VC.wE _ (VC.mono _ (fun r' h => by rw [ht] at h; cases h) h)).elim
   ·rintro r ⟨y,Y,rfl⟩;exact hl r y Y
   ·intro a6 a' w' I z;split at z
    ·rename_i u O D ho;split at z
     ·rename_i e1 e2;obtain ⟨h4,h5,y,Y,h6⟩ := uN I z;cases Y;subst h6;exact J u (hi u) O D a' w' (Nat.eq_of_beq_eq_true e1) (Nat.eq_of_beq_eq_true e2) h4 h5
     ·exact (VC.zw z).elim
    ·exact (VC.zw z).elim
   ·intro c b3 a6 a' w' I hb;obtain ⟨e,h4⟩ := hb;simp only [Prod.mk.injEq] at e;obtain ⟨rfl,rfl⟩ := e;split at h4
    ·rename_i v' O D b2;obtain ⟨h5,h6,y,Y,h7⟩ := uN I h4;subst h7;exact Runs.inLoop (ih v' O D a' w' Y ⟨h5,h6,A.fs.1,A.fs.2,A.fs.3,A.fs.4⟩)
    ·exact (VC.zw h4).elim
 show Runs P f (.code B.code :: base) a w Q;rw [hc];exact Runs.block (Runs.cy (key k v j i a w S A))
theorem lsn (t : P.follows .mixedOrders = true) (B : BCon E R0) {body : Code} {id : Nat} (G : Nat -> B.X -> B.V -> Option B.W) (inl : R0 -> Option B.W) (inr : B.T -> B.W) (get : Kn E -> Option (B.V × List Nat × List (Option Addr))) (e : Kn E -> Option (B.T × List Nat × List (Option Addr)))
  (j : Nat -> Ct E P f n R0 retF) (k : Nat) (z : B.code = .block id (.loop body) := by kernel_rfl) (h0 : ∀ x v,G 0 x v = none := by intro _ _; rfl) (hl : ∀ r y,inl r = some y -> B.cls y = .inl r := by intro r y h; cases h; try rfl) (hi : ∀ u,B.cls (inr u) = .inr u := by intro u; rfl)
  (h1 : ∀ m x v l i,vcL B body id G inl inr get e (j m) m x v l i = (vcL B body id G inl inr get e (j m) m x v l i).rfx := by intro m x v A D; kernel_rfl) (h2 : ∀ m x v l i s,(vcL B body id G inl inr get e (j m) m x v l i).mod s = G (m + 1) x v := by intro m x v A D s; kernel_rfl) :
  (B.at G k).Sound P f n retF := hK t B G inl inr get e j z h0 hl hi h1 h2 k
theorem xZ (C : Con E) (h : ∀ i,C.model i = none) : C.Sound P := fun i t hm => by rw [h i] at hm; cases hm
end
end
noncomputable section
section
variable {E : Ev}
structure OD (E : Ev) : Type 1 where
 A : Type
 M : Type
 flat : Nat -> A -> M -> List (Atom E)
 rd : List (Atom E) -> Option (A × M × List (Atom E))
def rS (c : Nat) (e : List (Atom E)) : Option ((Option Addr × Nat × List (E.el c).α) × List (Atom E)) := match e with
 | .sl _ _ sb sc l :: r => match l6 c l with
  | some l' => some ((sb,sc,l'),r)
  | none => none
 | _ => none
def rM (c : Nat) (e : List (Atom E)) : Option ((Nat × List ((E.mp c).K × (E.mp c).V)) × List (Atom E)) := match e with
 | .mp _ b m :: r => match iT c m with
  | some i => some ((b,i),r)
  | none => none
 | _ => none
structure PK (E : Ev) : Type 1 where
 T : Type
 rd : Value -> List (Atom E) -> Option (T × List (Atom E))
 arg : T -> Value
 ats : T -> List (Atom E)
 rds : T -> List (RdV E)
def pI (k : IntKind) : PK E := ⟨Int,fun v e => match v with
 | .int _ x => some (x,e)
 | _ => none,fun x => .int k x,fun _ => [],fun _ => []⟩
def pB : PK E := ⟨Bool,fun v e => match v with
 | .bool x => some (x,e)
 | _ => none,fun x => .bool x,fun _ => [],fun _ => []⟩
def pV {α : Type} (dec : Value -> Option α) (val : α -> Value) : PK E := ⟨α,fun v e => match dec v with
 | some x => some (x,e)
 | none => none,val,fun _ => [],fun _ => []⟩
def pK (v : Value) : PK E := ⟨Unit,fun _ e => some ((),e),fun _ => v,fun _ => [],fun _ => []⟩
def pO (D : OD E) : PK E := ⟨Nat × D.A × D.M,fun v e => match v with
 | .pointer (some ⟨p,_,_⟩) => match D.rd e with
  | some (a,m,r) => some ((p,a,m),r)
  | none => none
 | _ => none,fun x => .pointer (some ⟨x.1,0,none⟩),fun x => D.flat x.1 x.2.1 x.2.2,fun _ => []⟩
def pR (c : Nat) : PK E := ⟨Option Addr × Nat × List (E.el c).α,fun v e => match e with
 | .sl c' _ sb sc l :: r => match l6 c l with
  | some l' => some ((sb,sc,l'),r)
  | none => none
 | _ => none,fun x => .slice x.1 x.2.2.length x.2.1,fun _ => [],fun x => [⟨c,x.1,x.2.1,x.2.2⟩]⟩
def pW (c : Nat) (T : TypeId) : PK E := ⟨Option Addr × Nat × List (E.el c).α,fun v e => match e with
 | .sl c' _ sb sc l :: r => match l6 c l with
  | some l' => some ((sb,sc,l'),r)
  | none => none
 | _ => none,fun x => .slice x.1 x.2.2.length x.2.1,fun x => [.sl c T x.1 x.2.1 x.2.2],fun _ => []⟩
def Ins : List (PK E) -> Type
 | [] => Unit
 | p :: ps => p.T × Ins ps
def er : (ps : List (PK E)) -> List Value -> List (Atom E) -> Option (Ins ps)
 | [],_,_ => some ()
 | p :: ps,v :: vs,e => match p.rd v e with
  | some (x,r) => match er ps vs r with
   | some xs => some (x,xs)
   | none => none
  | none => none
 | _ :: _,[],_ => none
def lW : (ps : List (PK E)) -> Ins ps -> List Value
 | [],_ => []
 | p :: ps,x => p.arg x.1 :: lW ps x.2
def lZ : (ps : List (PK E)) -> Ins ps -> List (Atom E)
 | [],_ => []
 | p :: ps,x => p.ats x.1 ++ lZ ps x.2
def kv : (ps : List (PK E)) -> Ins ps -> List (RdV E)
 | [],_ => []
 | p :: ps,x => p.rds x.1 ++ kv ps x.2
@[reducible] def zH (fid : Nat) (ps : List (PK E)) {T : Type} (model : Ins ps -> Option T) (nN nA : Nat) (val : Ins ps -> T -> List Nat -> List (Option Addr) -> Value) (post : Ins ps -> T -> List Nat -> List (Option Addr) -> List (Atom E)) : Con E :=
 ⟨fid,Ins ps,T,er ps,lW ps,lZ ps,kv ps,model,nN,nA,val,post,fun _ _ => none,fun _ _ => [],false,Unit,fun _ _ => none,0,fun _ _ _ _ _ => .tuple #[],fun _ _ _ _ _ => []⟩
@[reducible] def fV (fid : Nat) (ps : List (PK E)) {T : Type} (model : Ins ps -> Option T) (nN nA : Nat) (val : Ins ps -> T -> List Nat -> List (Option Addr) -> Value) (post : Ins ps -> T -> List Nat -> List (Option Addr) -> List (Atom E)) (opt : Ins ps -> T -> Option Int) : Con E :=
 ⟨fid,Ins ps,T,er ps,lW ps,lZ ps,kv ps,model,nN,nA,val,post,fun i t => some (opt i t),fun _ _ => [],false,Unit,fun _ _ => none,0,fun _ _ _ _ _ => .tuple #[],fun _ _ _ _ _ => []⟩
@[reducible] def pd (fid : Nat) (ps : List (PK E)) {T : Type} (model : Ins ps -> Option T) (nN nA : Nat) (val : Ins ps -> T -> List Nat -> List (Option Addr) -> Value) (post : Ins ps -> T -> List Nat -> List (Option Addr) -> List (Atom E)) (fx : Ins ps -> T -> List Prop) : Con E :=
 ⟨fid,Ins ps,T,er ps,lW ps,lZ ps,kv ps,model,nN,nA,val,post,fun _ _ => none,fx,false,Unit,fun _ _ => none,0,fun _ _ _ _ _ => .tuple #[],fun _ _ _ _ _ => []⟩
@[reducible] def cf (fid : Nat) (ps : List (PK E)) {T M : Type} (model : Ins ps -> Option T) (nN nA : Nat) (val : Ins ps -> T -> List Nat -> List (Option Addr) -> Value) (post : Ins ps -> T -> List Nat -> List (Option Addr) -> List (Atom E)) (om : Ins ps -> T -> Option M) (nf : Nat)
  (val1 : Ins ps -> T -> M -> List Nat -> List (Option Addr) -> Value) (post1 : Ins ps -> T -> M -> List Nat -> List (Option Addr) -> List (Atom E)) : Con E :=
 ⟨fid,Ins ps,T,er ps,lW ps,lZ ps,kv ps,model,nN,nA,val,post,fun _ _ => none,fun _ _ => [],true,M,om,nf,val1,post1⟩
abbrev Gt (E : Ev) (T : Type) := Kn E -> Option T
def gI (t : Nat) : Gt E Int := fun st => match look t st.L with
 | some (.int _ x) => some x
 | _ => none
def gB (t : Nat) : Gt E Bool := fun st => match look t st.L with
 | some (.bool x) => some x
 | _ => none
def gO (D : OD E) (ks : List Nat) : Gt E D.M := fun st => match ll ks st.As with
 | some e => match D.rd e with
  | some (_,m,_) => some m
  | none => none
 | none => none
def gL (c : Nat) (q : Nat) : Gt E (List (E.el c).α) := fun st => match getK q st.As with
 | some (.sl _ _ _ _ l) => l6 c l
 | _ => none
def g2 {A B : Type} (a : Gt E A) (b : Gt E B) : Gt E (A × B) := fun st => match a st,b st with
 | some x,some y => some (x,y)
 | _,_ => none
def gU : Gt E Unit := fun _ => some ()
abbrev Nx (E : Ev) := Kn E -> Option (List Nat × List (Option Addr))
def nA (D : OD E) (ks : List Nat) (f : D.A -> List Nat × List (Option Addr)) : Nx E := fun st => match ll ks st.As with
 | some e => match D.rd e with
  | some (i,_,_) => some (f i)
  | none => none
 | none => none
def nxs : List (Nx E) -> Nx E
 | [],_ => some ([],[])
 | x :: r,st => match x st,nxs r st with
  | some (a,b),some (c,d) => some (a ++ c,b ++ d)
  | _,_ => none
def gj {T : Type} (a : Gt E T) (l : List (Nx E)) : Kn E -> Option (T × List Nat × List (Option Addr)) := fun st => match a st,nxs l st with
 | some x,some (i,e) => some (x,i,e)
 | _,_ => none
def gl {X V : Type} (x : Gt E X) (v : Gt E V) (l : List (Nx E)) : Kn E -> Option (X × V × List Nat × List (Option Addr)) := fun st => match x st,v st,nxs l st with
 | some x,some v,some (i,e) => some (x,v,i,e)
 | _,_,_ => none
def gt {T : Type} (a : Gt E T) : Kn E -> Option (T × List Nat × List (Option Addr)) := fun st => match a st with
 | some x => some (x,[],[])
 | none => none
abbrev nn (l : List Nat) (i : Nat) : Nat := l.getD i 0
abbrev na (l : List (Option Addr)) (i : Nat) : Option Addr := l.getD i none
def zipL {α : Type} : List Nat -> List α -> List (Nat × α)
 | k :: ks,x :: xs => (k,x) :: zipL ks xs
 | _,_ => []
def kp (ks : List Nat) (st : Kn E) : Env := match sel ks st.L with
 | some L => L
 | none => []
def ka (ks : List Nat) (st : Kn E) : List (Nat × Atom E) := match ks with
 | [] => []
 | k :: r => match getK k st.As with
  | some a => (k,a) :: ka r st
  | none => ka r st
def gP (k : Nat) : Gt E Nat := fun st => match getK k st.As with
 | some (.blk b _ _) => some b
 | some (.mp _ b _) => some b
 | _ => none
def gA (D : OD E) (ks : List Nat) : Gt E D.A := fun st => match ll ks st.As with
 | some e => match D.rd e with
  | some (a,_,_) => some a
  | none => none
 | none => none
def gC {α : Type} (k off n : Nat) (dec : List Value -> Option α) : Gt E α := fun st => match getK k st.As with
 | some (.blk _ _ cs) => dec ((cs.drop off).take n)
 | _ => none
def gh (k : Nat) : Gt E (Option Addr × Nat) := fun st => match getK k st.As with
 | some (.sl _ _ sb sc _) => some (sb,sc)
 | _ => none
def nPk (k : Nat) : Nx E := fun st => match getK k st.As with
 | some (.blk b _ _) => some ([b],[])
 | some (.mp _ b _) => some ([b],[])
 | _ => none
def nSk (k : Nat) : Nx E := fun st => match getK k st.As with
 | some (.sl _ _ sb sc _) => some ([sc],[sb])
 | _ => none
def gOo (D : OD E) (ks : List Nat) (t : Nat) : Gt E (Option D.M) := fun st => match look t st.L with
 | some (.pointer none) => some none
 | some (.pointer (some _)) => match gO D ks st with
  | some m => some (some m)
  | none => none
 | _ => none
def nPo (k : Nat) : Nx E := fun st => match getK k st.As with
 | some (.blk b _ _) => some ([b],[])
 | _ => some ([0],[])
def nAo (D : OD E) (ks : List Nat) (f : D.A -> List Nat × List (Option Addr)) (n m : Nat) : Nx E := fun st => match ll ks st.As with
 | some e => match D.rd e with
  | some (i,_,_) => some (f i)
  | none => none
 | none => some (List.replicate n 0,List.replicate m none)
def gE : Gt E (Option Int) := fun st => match getK 99999 st.ef with
 | some f => some (some f.i)
 | none => some none
def dI : List Value -> Option Int
 | [.int _ x] => some x
 | _ => none
def dB : List Value -> Option Bool
 | [.bool x] => some x
 | _ => none
def dvI : Value -> Option Int
 | .int _ x => some x
 | _ => none
def nav : List Nat -> Code -> Code
 | [],c => c
 | 0 :: r,.seq x _ => nav r x
 | _ :: r,.seq _ y => nav r y
 | 0 :: r,.cond _ x _ => nav r x
 | _ :: r,.cond _ _ y => nav r y
 | _ :: r,.block _ x => nav r x
 | _ :: r,.loop x => nav r x
 | _ :: _,c => c
def rsOf (P : Program) (f : Nat) : List ResultVar := match P.funcs[f]? with
 | some fn => fn.results.toList
 | none => []
def z6 (P : Program) (f : Nat) : Code := match P.funcs[f]? with
 | some fn => match fn.body with
  | some c => c
  | none => .skip
 | none => .skip
end
def fsk {E : Ev} {P : Program} (j : P.follows .mixedOrders = true) (C : Con E) {fn : Func} {c : Code} (n : Nat) (src : List Src) (keys : List Nat) (out : Kn E -> Option (C.T × List Nat × List (Option Addr))) (e : ∀ i,Ct E P C.fid n C.T (retC P C (rsOf P C.fid) src keys out i))
  (hf : P.funcs[C.fid]? = some fn) (he : ∀ args w,(callFunc C.fid args).run P w = .ok (.enter C.fid args) w) (l : fn.body = some c := by rfl) (hn : fn.ntmps = n := by rfl) (t : fn.results = (rsOf P C.fid).toArray := by kernel_rfl) (hl : ∀ i,Nat.ble (C.args i).length n = true := by intro _; rfl)
  (h1 : ∀ i,vcF C c (rsOf P C.fid) src keys out i (e i) = (vcF C c (rsOf P C.fid) src keys out i (e i)).rfx := by intro i; kernel_rfl) (h2 : ∀ i s,(vcF C c (rsOf P C.fid) src keys out i (e i)).mod s = C.model i := by intro i s; kernel_rfl) : SCon E P := ⟨C,j2 j C src keys out e hf l hn t hl h1 h2,he⟩
end
noncomputable section
section
variable {E : Ev}
theorem ox {w0 w : World} {Y : HP} {L A1 As : List HP} (h : ∀ As,St w0 (Y :: As) w ↔ St w0 (L ++ As) w) : St w0 (A1 ++ (Y :: As)) w ↔ St w0 (A1 ++ (L ++ As)) w := by
 constructor
 ·intro H;have H1 := (h (A1 ++ As)).1 (H.perm (List.perm_middle));refine H1.perm ?_;rw [<- aA,<- aA];exact List.Perm.append_right As List.perm_append_comm
 ·intro H;have H1 := (h (A1 ++ As)).2 (H.perm (by
   rw [<- aA,<- aA];exact List.Perm.append_right As List.perm_append_comm))
  exact H1.perm List.perm_middle.symm
theorem fs0 {w0 w : World} {Y : HP} {L As : List HP} (h : ∀ As,St w0 (Y :: As) w ↔ St w0 (L ++ As) w) : St w0 (Y :: As) w ↔ St w0 (L ++ As) w := h As
theorem fs1 {w0 w : World} {A Y : HP} {L As : List HP} (h : ∀ As,St w0 (Y :: As) w ↔ St w0 (L ++ As) w) : St w0 (A :: Y :: As) w ↔ St w0 (A :: (L ++ As)) w := ox (A1 := [A]) h
theorem fs2 {w0 w : World} {A B Y : HP} {L As : List HP} (h : ∀ As,St w0 (Y :: As) w ↔ St w0 (L ++ As) w) : St w0 (A :: B :: Y :: As) w ↔ St w0 (A :: B :: (L ++ As)) w := ox (A1 := [A,B]) h
theorem fs3 {w0 w : World} {A B C Y : HP} {L As : List HP} (h : ∀ As,St w0 (Y :: As) w ↔ St w0 (L ++ As) w) : St w0 (A :: B :: C :: Y :: As) w ↔ St w0 (A :: B :: C :: (L ++ As)) w := ox (A1 := [A,B,C]) h
theorem fs4 {w0 w : World} {A B C D Y : HP} {L As : List HP} (h : ∀ As,St w0 (Y :: As) w ↔ St w0 (L ++ As) w) : St w0 (A :: B :: C :: D :: Y :: As) w ↔ St w0 (A :: B :: C :: D :: (L ++ As)) w := ox (A1 := [A,B,C,D]) h
theorem rdH (c : Nat) {F : List HP} {X : HP} {sb : Option Addr} {sc : Nat} {l : List (E.el c).α} (hm : X ∈ F) (e : SlRd X (E.el c).enc (E.el c).sz sb l) (hC : l.length <= sc) : RdV.holds (E := E) F ⟨c,sb,sc,l⟩ := ⟨X,hm,e,fun _ _ => hC⟩
theorem rd0 {F : List HP} : ∀ r ∈ ([] : List (RdV E)),r.holds F := fun r h => by cases h
theorem rdc {F : List HP} {r : RdV E} {L : List (RdV E)} (h : r.holds F) (e : ∀ r ∈ L,r.holds F) : ∀ x ∈ r :: L,x.holds F := fun x i => by
 cases i with
 | head => exact h
 | tail _ h => exact e _ h
theorem bN {F : List HP} {X : HP} (hX : X ∈ F) : ∃ e,∀ (w0 w : World) (A : List HP),St w0 (A ++ F) w ↔ St w0 (X :: (A ++ e)) w := by
 obtain ⟨s,t,rfl⟩ := List.append_of_mem hX;refine ⟨s ++ t,fun w0 w A => ?_⟩;have hp : (A ++ (s ++ X :: t)).Perm (X :: (A ++ (s ++ t))) := by
  rw [<- aA,<- aA];exact List.perm_middle
 exact ⟨fun H => H.perm hp,fun H => H.perm hp.symm⟩
theorem aY {w0 w : World} {X : HP} {As : List HP} {n m : Nat} (H : St w0 (X :: As) w) (h : ∀ g,X g -> n <= m) : n <= m := H.fact h
theorem lsS {α : Type} {l : List α} {n : Nat} (h : l.length = n + 1) : ∃ a r,l = a :: r /\ r.length = n := by
 match l,h with
 | a :: r,h => exact ⟨a,r,rfl,by simpa using h⟩
theorem ls0 {α : Type} {l : List α} (h : l.length = 0) : l = [] := List.length_eq_zero_iff.1 h
end
end
end Go.Th
namespace Go.Proofs
open Go.Shelf
noncomputable section
open Go.Sort Go.RowKit in
open Go.RowKit Go.Sort in
end
end Go.Proofs
