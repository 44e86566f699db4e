/-
  The statements DispatchTwins of the program.
  Text 5 of 7: of what the proof needs (a row of the program: no condition is left); put together and made narrow by a program.
-/
import Derived.Shelf.Slices.In.SortNone
import Derived.Shelf.Sort.Plain
import Derived.Test.YteflmnbkdhneiaaGreatProg
import Derived.Test.YteflmnbkdhneiaaGreatYc4
set_option linter.unusedVariables false
set_option linter.unusedSimpArgs false
namespace Go.Th
noncomputable section
section
variable {E : Ev} {P : Program} {f : FuncId} {n : Nat} {R0 : Type} {retF : Kn E -> VC R0}
theorem rY {t : Nat} {b : Bool} {L : Env} {n : Nat} {a : Act} (e : zV n a L) (h : look t L = some (.bool b)) : zV n a ((t, .bool b) :: L) := by
 refine ⟨e.size, e.defers, fun u v hv => ?_⟩;rw [wB] at hv;split at hv
 ·subst_vars; cases hv; exact e.has _ _ h
 ·exact e.has _ _ hv
theorem fQ.kn {w0 w : World} {F : List HP} {st : Kn E} {a : Act} {L : Env} {As : List (Nat × Atom E)} (h : fQ F st) (e : zV n a L) (i : St w0 (dens As ++ F) w) : KnOk n w0 F ⟨L, As, st.rd, st.ef, st.pr, st.vw⟩ a w := ⟨e, i, h.1, h.2, h.3, h.4⟩
theorem Md.sY {md e : Md} {rest base : List Item} {a : Act} {w : World} {Q : Value -> World -> Prop} (h : md.cut = some (e, rest)) (j : e.Runs P f (rest ++ base) a w Q) : md.Runs P f base a w Q := by
 cases md with
 | run t =>
  cases t with
  | nil => cases h
  | cons x t =>
   simp only [Md.cut, Option.some.injEq, Prod.mk.injEq] at h;obtain ⟨rfl, rfl⟩ := h;exact j
 | reg ops i k =>
  simp only [Md.cut, Option.some.injEq, Prod.mk.injEq] at h;obtain ⟨rfl, rfl⟩ := h;exact j
 | drw ops dn pend k =>
  simp only [Md.cut, Option.some.injEq, Prod.mk.injEq] at h;obtain ⟨rfl, rfl⟩ := h;exact j
theorem te {R : Type} {ops : Array Oper} {dn : List Nat} {pend : List (Nat × List Ob)} {k base : List Item} {K : Md -> VC R} {Φ : R -> Prop} {a : Act} {w : World} {Q : Value -> World -> Prop} (h : (onD ops dn pend k K).ok Φ)
  (hk : ∀ md, (K md).ok Φ -> md.Runs P f base a w Q) : WQ P f ops dn pend (k ++ base) a w Q := by
 unfold onD at h;split at h
 ·split at h
  ·rename_i h1;obtain ⟨md, hm, h2⟩ := rA h;exact WQ.done h1 (yD 1000 hm (hk md h2))
  ·exact (VC.zu h).elim
 ·exact hk _ h
theorem nz (c2 : P.follows .mixedOrders = true) {w0 : World} {F : List HP} {Q : Value -> World -> Prop} {Tg : R0 -> Prop} (b3 : ∀ st a w k, KnOk n w0 F st a w -> (retF st).ok Tg -> Runs P f (.code .ret :: k) a w Q) :
  ∀ (ct : Ct E P f n R0 retF) {R : Type} (md : Md) (base : List Item) (st : Kn E) (I : R0 -> VC R) (A : Kn E -> VC R) (D : Code -> Nat -> Kn E -> VC R) (Φ : R -> Prop) (a : Act) (w : World), KnOk n w0 F st a w ->
   (exec ct md st I A D).ok Φ -> (∀ r, (I r).ok Φ -> Tg r) -> (∀ S a' w', KnOk n w0 F S a' w' -> (A S).ok Φ -> Runs P f base a' w' Q) ->
   (∀ c id S a' w', KnOk n w0 F S a' w' -> (D c id S).ok Φ -> Runs P f (.inLoop c :: .inBlock id :: base) a' w' Q) -> md.Runs P f base a w Q := by
 intro ct;induction ct with
 | leaf =>
  intro R md base st I A D Φ a w O h hV X Y;simp only [exec] at h;split at h
  ·exact X _ _ _ O h
  ·exact (VC.zu h).elim
 | s x c ih =>
  intro R md base st I A D Φ a w O h hV X Y;simp only [exec] at h;split at h
  ·rename_i ops i k;refine lO O h fun i' S a' w' U h' => ?_
   split at h'
   ·rename_i hi;obtain ⟨W, hm, h2⟩ := rA h';exact WR.done hi (yD 1000 hm (ih _ _ _ _ _ _ _ _ _ U h2 hV X Y))
   ·exact ih (.reg ops i' k) base S I A D Φ a' w' U h' hV X Y
  ·rename_i ops dn pend k;obtain ⟨S, U, h'⟩ := y7 O h;exact ih (.drw ops dn pend k) base S I A D Φ a w U h' hV X Y
  ·rename_i t;obtain ⟨S, U, h'⟩ := y7 O h;exact ih (.run t) base S I A D Φ a w U h' hV X Y
 | dead =>
  intro R md base st I A D Φ a w O h hV X Y;simp only [exec] at h;exact (VC.zu h).elim
 | rk l c ih =>
  intro R md base st I A D Φ a w O h hV X Y;simp only [exec] at h;exact ih md base ⟨st.L, renK l st.As, st.rd, st.ef, st.pr, st.vw⟩ I A D Φ a w ⟨O.env, by rw [lG]; exact O.hp, O.fs.1, O.fs.2, O.fs.3, O.fs.4⟩ h hV X Y
 | drw c ih =>
  intro R md base st I A D Φ a w O h hV X Y;simp only [exec] at h;split at h
  ·rename_i id ops k;split at h
   ·rename_i hr;exact Runs.drawn c2 hr (ih (.drw ops [] [] k) base st I A D Φ a _ ⟨O.env, O.hp.drew, O.fs.1, O.fs.2, O.fs.3, O.fs.4⟩ h hV X Y)
   ·exact (VC.zu h).elim
  ·exact (VC.zu h).elim
 | q is l c ih =>
  intro R md base st I A D Φ a w O h hV X Y;simp only [exec] at h;split at h
  ·refine lV O h fun a9 a1 S a' U h' => ?_
   exact te h' fun W h2 => ih W base S I A D Φ a' w U h2 hV X Y
  ·exact (VC.zu h).elim
 | a j x l c ih =>
  intro R md base st I A D Φ a w O h hV X Y;simp only [exec] at h;split at h
  ·refine lL O h fun a9 a1 S a' w' U h' => ?_
   exact te h' fun W h2 => ih W base S I A D Φ a' w' U h2 hV X Y
  ·exact (VC.zu h).elim
 | cond x y Z a3 =>
  intro R md base st I A D Φ a w O h hV X Y;simp only [exec] at h;split at h
  ·rename_i c u v k;split at h
   ·rename_i b hc;refine Runs.cond O.env hc (fun hb => ?_) (fun hb => ?_)
    ·obtain ⟨W, hm, h2⟩ := rA (h.1 hb);exact yD 1000 hm (Z _ _ _ _ _ _ _ _ _ O h2 hV X Y)
    ·obtain ⟨W, hm, h2⟩ := rA (h.2 hb);exact yD 1000 hm (a3 _ _ _ _ _ _ _ _ _ O h2 hV X Y)
   ·exact (VC.zu h).elim
  ·exact (VC.zu h).elim
 | tG x Z =>
  intro R md base st I A D Φ a w O h hV X Y;simp only [exec] at h;split at h
  ·rename_i c u v k;split at h
   ·rename_i hc;obtain ⟨W, hm, h2⟩ := rA h;exact Runs.tG O.env hc (yD 1000 hm (Z _ _ _ _ _ _ _ _ _ O h2 hV X Y))
   ·exact (VC.zu h).elim
  ·exact (VC.zu h).elim
 | uf x Z =>
  intro R md base st I A D Φ a w O h hV X Y;simp only [exec] at h;split at h
  ·rename_i c u v k;split at h
   ·rename_i hc;obtain ⟨W, hm, h2⟩ := rA h;exact Runs.uf O.env hc (yD 1000 hm (Z _ _ _ _ _ _ _ _ _ O h2 hV X Y))
   ·exact (VC.zu h).elim
  ·exact (VC.zu h).elim
 | split t x y Z a3 =>
  intro R md base st I A D Φ a w O h hV X Y;simp only [exec] at h;split at h
  ·rename_i b hb;cases b with
   | true => exact Z _ _ _ _ _ _ _ _ _ (O.fs.kn (rY O.env hb) O.hp) (h.1 rfl) hV X Y
   | false => exact a3 _ _ _ _ _ _ _ _ _ (O.fs.kn (rY O.env hb) O.hp) (h.2 rfl) hV X Y
  ·exact (VC.zu h).elim
 | join T nN nA get J x k Z a5 =>
  intro R md base st I A D Φ a w O h hV X Y;simp only [exec] at h;split at h
  ·rename_i b4 rest hc;refine Md.sY hc (Z _ _ _ _ _ _ _ _ _ O h (fun r hr => (VC.zu hr).elim) (fun S a' w' U hl => ?_) (fun c id S a' w' _ hb => (VC.zu hb).elim));split at hl
   ·rename_i s ns aS hg;split at hl
    ·rename_i h1 h2;obtain ⟨h3, h4, y, hy, h5⟩ := ur U hl;cases hy;rw [<- Nat.eq_of_beq_eq_true h1] at h5;have h6 := qQ _ _ h5;rw [<- Nat.eq_of_beq_eq_true h2] at h6;obtain ⟨W, hm, h8⟩ := rA (qS _ _ h6);exact yD 1000 hm (a5 _ _ _ _ _ _ _ _ _ (O.fs.kn h3 h4) h8 hV X Y)
    ·exact (VC.zu hl).elim
   ·exact (VC.zu hl).elim
  ·exact (VC.zu h).elim
 | joinR T nN nA get J x k Z a5 =>
  intro R md base st I A D Φ a w O h hV X Y;simp only [exec] at h;split at h
  ·rename_i b4 rest hc;refine Md.sY hc (Z _ _ _ _ _ _ _ _ _ O h (fun r hr => ?_) (fun S a' w' U hl => ?_) (fun c id S a' w' _ hb => (VC.zu hb).elim))
   ·obtain ⟨y, hy, h2⟩ := hr;cases hy;exact hV r (h2.1 r rfl)
   ·split at hl
    ·rename_i s ns aS hg;split at hl
     ·rename_i h1 h2;obtain ⟨h3, h4, y, hy, h5⟩ := ur U hl;cases hy;have h5 := h5.2 s rfl;rw [<- Nat.eq_of_beq_eq_true h1] at h5;have h6 := qQ _ _ h5;rw [<- Nat.eq_of_beq_eq_true h2] at h6;obtain ⟨W, hm, h8⟩ := rA (qS _ _ h6);exact yD 1000 hm (a5 _ _ _ _ _ _ _ _ _ (O.fs.kn h3 h4) h8 hV X Y)
     ·exact (VC.zu hl).elim
    ·exact (VC.zu hl).elim
  ·exact (VC.zu h).elim
 | loop B get k a5 =>
  intro R md base st I A D Φ a w O h hV X Y;simp only [exec] at h;split at h
  ·rename_i c rest;split at h
   ·rename_i x v ns aS hg;split at h
    ·rename_i rs c4;obtain ⟨rfl, h2, h3⟩ := h;obtain ⟨h4, h5, t, ht, h6⟩ := ur O h3;refine B.snd Q w0 F x v t ns aS a w (rest ++ base) ht ⟨h4, h5, ?_, by simp, by simp, by simp⟩ ?_ ?_
     ·intro p hp;have h7 : p.2 ∈ rs := by rw [h2]; exact List.mem_map_of_mem hp
      obtain ⟨j, hj⟩ := lH c4 _ h7;have := O.fs.1 (j, p.2) hj;exact this
     ·intro u hu c8 c9 a' w' hn ha hE hH;have b7 := h6.2 u hu;rw [<- hn] at b7;have h7 := qQ _ _ b7;rw [<- ha] at h7;obtain ⟨W, hm, h8⟩ := rA (qS _ _ h7);exact yD 1000 hm (a5 _ _ _ _ _ _ _ _ _ (O.fs.kn hE hH) h8 hV X Y)
     ·intro r hr S a' w' k' U c5;have e := hV r (h6.1 r hr);exact b3 _ _ _ _ U (VC.mono _ (fun r' h => by subst h; exact e) c5)
    ·exact (VC.zu h).elim
   ·exact (VC.zu h).elim
  ·exact (VC.zu h).elim
 | blk c ih =>
  intro R md base st I A D Φ a w O h hV X Y;simp only [exec] at h;split at h
  ·obtain ⟨W, hm, h2⟩ := rA h;exact Runs.block (yD 1000 hm (ih _ _ _ _ _ _ _ _ _ O h2 hV X Y))
  ·exact (VC.zu h).elim
 | unr c ih =>
  intro R md base st I A D Φ a w O h hV X Y;simp only [exec] at h;split at h
  ·obtain ⟨W, hm, h2⟩ := rA h;exact Runs.block (Runs.eB (yD 1000 hm (ih _ _ _ _ _ _ _ _ _ O h2 hV X Y)))
  ·obtain ⟨W, hm, h2⟩ := rA h;exact Runs.inLoop (yD 1000 hm (ih _ _ _ _ _ _ _ _ _ O h2 hV X Y))
  ·exact (VC.zu h).elim
 | alt2 i x l c j y l' c' b5 b6 =>
  intro R md base st I A D Φ a w O h hV X Y;simp only [exec] at h;split at h
  ·split at h
   ·rename_i hr;refine WQ.act2 i j hr ?_ ?_
    ·refine ui O h.1 fun a9 a1 S a' w' U h' => ?_
     exact te h' fun W h2 => b5 W base S I A D Φ a' w' U h2 hV X Y
    ·refine ui O (h.2 rfl) fun a9 a1 S a' w' U h' => ?_
     exact te h' fun W h2 => b6 W base S I A D Φ a' w' U h2 hV X Y
   ·exact (VC.zu h).elim
  ·exact (VC.zu h).elim
 | alt3 i x l c j y l' c' m z l'' c'' b5 b6 c6 =>
  intro R md base st I A D Φ a w O h hV X Y;simp only [exec] at h;split at h
  ·split at h
   ·rename_i hr;refine WQ.act3 i j m hr ?_ ?_ ?_
    ·refine ui O h.1 fun a9 a1 S a' w' U h' => ?_
     exact te h' fun W h2 => b5 W base S I A D Φ a' w' U h2 hV X Y
    ·refine ui O ((h.2 rfl).1) fun a9 a1 S a' w' U h' => ?_
     exact te h' fun W h2 => b6 W base S I A D Φ a' w' U h2 hV X Y
    ·refine ui O ((h.2 rfl).2 rfl) fun a9 a1 S a' w' U h' => ?_
     exact te h' fun W h2 => c6 W base S I A D Φ a' w' U h2 hV X Y
   ·exact (VC.zu h).elim
  ·exact (VC.zu h).elim
 | jg T nN nA get J x k Z a5 =>
  intro R md base st I A D Φ a w O h hV X Y;simp only [exec] at h;split at h
  ·rename_i b4 rest hc;refine Md.sY hc (Z _ _ _ _ _ _ _ _ _ O h (fun r hr => (VC.zu hr).elim) (fun S a' w' U hl => ?_) (fun c id S a' w' _ hb => (VC.zu hb).elim));split at hl
   ·rename_i s ns aS hg;split at hl
    ·rename_i h1 h2;obtain ⟨h3, h4, y, hy, h5⟩ := ur U hl;cases hy;rw [<- Nat.eq_of_beq_eq_true h1] at h5;have h6 := qQ _ _ h5;rw [<- Nat.eq_of_beq_eq_true h2] at h6;obtain ⟨W, hm, h8⟩ := rA (qS _ _ h6);exact yD 1000 hm (a5 _ _ _ _ _ _ _ _ _ (O.fs.kn h3 h4) h8 hV X Y)
    ·exact (VC.zu hl).elim
   ·exact (VC.zu hl).elim
  ·exact (VC.zu h).elim
 | pj t T M get J x y k Z a3 a5 =>
  intro R md base st I A D Φ a w O h hV X Y;simp only [exec] at h;split at h
  ·rename_i b4 rest b hc hb;have fin : ∀ (S : Kn E) (a' : Act) (w' : World), KnOk n w0 F S a' w' -> ((match get S with
     | some s => reqS (J st s).1 (J st s).2 S (.ret (some s))
     | none => .fail : VC T)).ok (fun s => (nx (norm 1000 rest) fun W => exec k W ⟨(J st s).1, (J st s).2, st.rd, st.ef, st.pr, st.vw⟩ I A D).ok Φ) -> Runs P f (rest ++ base) a' w' Q := by
    intro S a' w' U hl;split at hl
    ·rename_i s hg;obtain ⟨h3, h4, y, hy, h5⟩ := ur U hl;cases hy;obtain ⟨W, hm, h8⟩ := rA h5;exact yD 1000 hm (a5 _ _ _ _ _ _ _ _ _ (O.fs.kn h3 h4) h8 hV X Y)
    ·exact (VC.zu hl).elim
   cases b with
   | true => exact Md.sY hc (Z _ _ _ _ _ _ _ _ _ (O.fs.kn (rY O.env hb) O.hp) (h.1 rfl) (fun r hr => (VC.zu hr).elim) fin (fun c id S a' w' _ hb => (VC.zu hb).elim))
   | false => exact Md.sY hc (a3 _ _ _ _ _ _ _ _ _ (O.fs.kn (rY O.env hb) O.hp) (h.2 rfl) (fun r hr => (VC.zu hr).elim) fin (fun c id S a' w' _ hb => (VC.zu hb).elim))
  ·exact (VC.zu h).elim
 | eo t j q e x y Z a3 =>
  intro R md base st I A D Φ a w O h hV X Y;simp only [exec] at h;obtain ⟨S, U, h' | h'⟩ := gu O h
  ·exact Z _ _ _ _ _ _ _ _ _ U h' hV X Y
  ·exact a3 _ _ _ _ _ _ _ _ _ U h' hV X Y
 | np t j x y Z a3 =>
  intro R md base st I A D Φ a w O h hV X Y;simp only [exec] at h;split at h
  ·split at h
   ·exact Z _ _ _ _ _ _ _ _ _ O h hV X Y
   ·exact a3 _ _ _ _ _ _ _ _ _ O h hV X Y
   ·exact (VC.zu h).elim
  ·exact (VC.zu h).elim
 | ret =>
  intro R md base st I A D Φ a w O h hV X Y;simp only [exec] at h;split at h
  ·exact b3 _ _ _ _ O (VC.mono _ hV h)
  ·exact (VC.zu h).elim
 | back =>
  intro R md base st I A D Φ a w O h hV X Y;simp only [exec] at h;split at h
  ·exact Y _ _ _ _ _ O h
  ·exact (VC.zu h).elim
def zipN {α : Type} : Nat -> List α -> List (Nat × α)
 | _, [] => []
 | i, x :: r => (i, x) :: zipN (i + 1) r
theorem mK {α : Type} : ∀ (i : Nat) (l : List α), (zipN i l).map (·.2) = l
 | _, [] => rfl
 | i, x :: r => by simp [zipN, mK (i + 1) r]
def fx79 : List (Nat × Prop) -> List Prop
 | [] => []
 | (k, p) :: r => match Nat.beq k 79 with
  | true => p :: fx79 r
  | false => fx79 r
theorem iD : ∀ {l : List (Nat × Prop)}, (∀ p ∈ l, p.2) -> ∀ p ∈ fx79 l, p
 | [], _, p, hp => by cases hp
 | (k, q) :: r, h, p, hp => by
  have ih := iD (l := r) fun x e => h x (mC _ e)
  unfold fx79 at hp;split at hp
  ·cases hp with
   | head => exact h (k, q) (List.mem_cons_self ..)
   | tail _ hm => exact ih p hm
  ·exact ih p hp
def retC (P : Program) (C : Con E) (rs : List ResultVar) (src : List Src) (keys : List Nat) (out : Kn E -> Option (C.T × List Nat × List (Option Addr))) (i : C.I) (st : Kn E) : VC C.T :=
 match out st with
 | some (t, j, l) => match Nat.beq j.length C.nN, Nat.beq l.length C.nA, srcs st src, m1 (C.bO i t keys) st.As with
  | true, true, some (s, obs, eqs), some (ats, _) => match rG P st.L rs s with
   | some (vs, e) => .req e obs (.req (eqs.map (·.1)) (eqs.map (·.2)) (.req (uE vs) (C.valA i t j l) (.req ats (C.kK i t j l) (.req (C.fx i t) (fx79 st.pr) (.ret (some t))))))
   | none => .fail
  | _, _, _, _ => .fail
 | none => .fail
def st0 (C : Con E) (i : C.I) : Kn E := ⟨qZ 0 (C.args i), zipN 0 (C.ats i), zipN 0 (C.rds i), [], [], []⟩
def vcF {P : Program} {n : Nat} (C : Con E) (c : Code) (rs : List ResultVar) (src : List Src) (keys : List Nat) (out : Kn E -> Option (C.T × List Nat × List (Option Addr))) (i : C.I) (e : Ct E P C.fid n C.T (retC P C rs src keys out i)) : VC C.T :=
 nx (norm 1000 [.code c]) fun md => exec e md (st0 C i) (fun t => .ret (some t)) (fun st => match rs with
  | [] => .join (retC P C rs src keys out i st) fun t => .ret (some t)
  | _ => .fail) fun _ _ _ => .fail
theorem nH {C : Con E} {rs : List ResultVar} {src : List Src} {keys : List Nat} {out : Kn E -> Option (C.T × List Nat × List (Option Addr))} {i : C.I} {st : Kn E} {n : Nat} {w0 w : World} {F : List HP} {a : Act} {t : C.T}
  (s : KnOk n w0 F st a w) (h : (retC P C rs src keys out i st).ok (· = t)) : ∃ e obs vs j l, xu w obs /\ rG P st.L rs e = some (vs, obs) /\ j.length = C.nN /\ l.length = C.nA /\ uE vs = C.valA i t j l /\ St w0 ((C.kK i t j l).map Atom.den ++ F) w /\ ∀ p ∈ C.fx i t, p := by
 unfold retC at h;split at h
 ·rename_i x j l W;split at h
  ·rename_i e obs eqs ats rest h1 h2 h3 h4;split at h
   ·rename_i vs z A;obtain ⟨rfl, B, D, J, u, y, O, S⟩ := h;cases O;subst S;refine ⟨e, _, vs, j, l, u0 s h3 (nm B), A, Nat.eq_of_beq_eq_true h1, Nat.eq_of_beq_eq_true h2, D, ?_, by rw [u]; exact iD s.fs.3⟩;have H := s.hp.perm ((qG h4).append_right F);rw [aA, J] at H;have U := H.perm (show ((C.kK i x j l).map Atom.den ++ (dens rest ++ F)).Perm (dens rest ++ ((C.kK i x j l).map Atom.den ++ F)) by
     rw [<- aA, <- aA];exact List.Perm.append_right F List.perm_append_comm)
    exact U.dM
   ·exact (VC.zu h).elim
  ·exact (VC.zu h).elim
 ·exact (VC.zu h).elim
theorem jA (O : P.follows .mixedOrders = true) (C : Con E) {fn : Func} {c : Code} {n : Nat} {rs : List ResultVar} (src : List Src) (keys : List Nat) (out : Kn E -> Option (C.T × List Nat × List (Option Addr))) (I : ∀ i, Ct E P C.fid n C.T (retC P C rs src keys out i))
  (hf : P.funcs[C.fid]? = some fn) (S : fn.body = some c) (hn : fn.ntmps = n) (A : fn.results = rs.toArray) (hl : ∀ i, Nat.ble (C.args i).length n = true)
  (h1 : ∀ i, vcF C c rs src keys out i (I i) = (vcF C c rs src keys out i (I i)).rfx) (h2 : ∀ i s, (vcF C c rs src keys out i (I i)).mod s = C.model i) : C.Sound P := by
 intro i t hm w0 w F U H;refine enter hf S hn (hl i) fun a hE => ?_
 have W := VC.good _ (· = t) (h1 i) fun s => ⟨t, (h2 i s).trans hm, rfl⟩
 obtain ⟨md, X, h3⟩ := rA W;have J : KnOk n w0 F (st0 C i) a w := by
  refine ⟨hE, ?_, ?_, by simp [st0], by simp [st0], by simp [st0]⟩
  ·simpa [st0, dens, mK] using H
  ·intro p hp;refine U p.2 ?_;have : p.2 ∈ (zipN 0 (C.rds i)).map (·.2) := List.mem_map_of_mem hp
   rwa [mK] at this
 have := yD (P := P) (f := C.fid) (a := a) (w := w) (base := []) (Q := fun v w' => ∃ j l, j.length = C.nN /\ l.length = C.nA /\ v = C.valA i t j l /\ St w0 ((C.kK i t j l).map Atom.den ++ F) w' /\ ∀ p ∈ C.fx i t, p) 1000 X
  (nz O (Tg := (· = t)) (fun st a w k J h => by
    obtain ⟨B, obs, vs, j, l, ho, hv, u, x, Y, Z, z⟩ := nH J h;exact Runs.retO J.env hf A B hv ho ⟨j, l, u, x, Y, Z, z⟩) (I i) md [] (st0 C i) _ _ _ _ a w J h3 (fun r A => by obtain ⟨y, hy, h⟩ := A; cases hy; exact h) (fun a1 a' w' D hl => by
    split at hl
    ·obtain ⟨B, obs, vs, j, l, ho, hv, u, x, Y, Z, z⟩ := nH D (VC.mono _ (fun r A => by obtain ⟨y, hy, h⟩ := A; cases hy; exact h) hl);have e : vs = [] := by
      simp only [rG, Option.some.injEq, Prod.mk.injEq] at hv;exact hv.1.symm
     subst e;exact Runs.fin D.env hf A (vs := []) rfl ⟨j, l, u, x, Y, Z, z⟩
    ·exact (VC.zu hl).elim) (fun c id a1 a' w' _ S => (VC.zu S).elim))
 simpa using this
theorem fsn (j : P.follows .mixedOrders = true) (C : Con E) {fn : Func} {c : Code} {n : Nat} {rs : List ResultVar} (src : List Src) (keys : List Nat) (out : Kn E -> Option (C.T × List Nat × List (Option Addr))) (e : ∀ i, Ct E P C.fid n C.T (retC P C rs src keys out i))
  (hf : P.funcs[C.fid]? = some fn) (l : fn.body = some c := by rfl) (hn : fn.ntmps = n := by rfl) (t : fn.results = rs.toArray := by kernel_rfl) (hl : ∀ i, Nat.ble (C.args i).length n = true := by intro _; rfl)
  (h1 : ∀ i, vcF C c rs src keys out i (e i) = (vcF C c rs src keys out i (e i)).rfx := by intro i; kernel_rfl) (h2 : ∀ i s, (vcF C c rs src keys out i (e i)).mod s = C.model i := by intro i s; kernel_rfl) : C.Sound P := jA j C src keys out e hf l hn t hl h1 h2
def vcL {P : Program} {f : FuncId} {n : Nat} {R0 : Type} {retF : Kn E -> VC R0} (B : BCon E R0) (body : Code) (id : Nat) (G : Nat -> B.X -> B.V -> Option B.W) (inl : R0 -> Option B.W) (inr : B.T -> B.W) (get : Kn E -> Option (B.V × List Nat × List (Option Addr))) (j : Kn E -> Option (B.T × List Nat × List (Option Addr)))
  (z : Ct E P f n R0 retF) (m : Nat) (x : B.X) (v : B.V) (t : List Nat) (y : List (Option Addr)) : VC B.W :=
 nx (norm 1000 [.code body, .inLoop body, .inBlock id]) fun md => exec z md ⟨B.pL x v t y, B.pA x v t y, B.rds x, [], [], []⟩ (fun r => .ret (inl r)) (fun st => match j st with
  | some (u, e, i) => match Nat.beq e.length B.mN, Nat.beq i.length B.mA with
   | true, true => reqS (B.qL x u e i) (B.qA x u e i) st (.ret (some (inr u)))
   | _, _ => .fail
  | none => .fail) fun c l st => .req (c, l) (body, id) (match get st with
   | some (s, e, i) => reqS (B.pL x s e i) (B.pA x s e i) st (.ret (G m x s))
   | none => .fail)
theorem VC.wc : ∀ {R : Type} (v : VC R), v.ok (fun _ => False) -> False
 | _, .ret o, h => by obtain ⟨_, _, h⟩ := h; exact h
 | _, .bind m k, h => by obtain ⟨x, _, h⟩ := h; exact VC.wc (k x) h
 | _, .ite c x y, h => by
  cases i : c with
  | true => exact VC.wc x (h.1 i)
  | false => exact VC.wc y (h.2 i)
 | _, .frN k, h => VC.wc (k 0) (h 0)
 | _, .frA k, h => VC.wc (k none) (h none)
 | _, .req a b k, h => VC.wc k h.2
 | _, .join x k, h => VC.wc x (VC.mono x (fun y e => VC.wc (k y) e) h)
 | _, .cs z x y, h => by
  cases z with
  | inl a => exact VC.wc (x a) (h.1 a rfl)
  | inr b => exact VC.wc (y b) (h.2 b rfl)
 | _, .both u v vm, h => VC.wc u h.1
 | _, .grj x k, h => VC.wc x (VC.mono x (fun y e => VC.wc (k y) e) h)
 | _, .sel M b x y k, h => by
  cases b with
  | true => exact VC.wc x (VC.mono x (fun y e => VC.wc (k y) e) (h.1 rfl))
  | false => exact VC.wc y (VC.mono y (fun y e => VC.wc (k y) e) (h.2 rfl))
def BCon.at {R0 : Type} (B : BCon E R0) (G : Nat -> B.X -> B.V -> Option B.W) (k : Nat) : BCon E R0 := { B with g := G k }
theorem jV (a0 : P.follows .mixedOrders = true) (B : BCon E R0) {body : Code} {id : Nat} (G : Nat -> B.X -> B.V -> Option B.W) (inl : R0 -> Option B.W) (inr : B.T -> B.W) (get : Kn E -> Option (B.V × List Nat × List (Option Addr))) (l : Kn E -> Option (B.T × List Nat × List (Option Addr)))
  (Z : Nat -> Ct E P f n R0 retF) (hc : B.code = .block id (.loop body)) (h0 : ∀ x v, G 0 x v = none) (hl : ∀ r y, inl r = some y -> B.cls y = .inl r) (hi : ∀ u, B.cls (inr u) = .inr u)
  (h1 : ∀ m x v i j, vcL B body id G inl inr get l (Z m) m x v i j = (vcL B body id G inl inr get l (Z m) m x v i j).rfx) (h2 : ∀ m x v i j s, (vcL B body id G inl inr get l (Z m) m x v i j).mod s = G (m + 1) x v) :
  ∀ k, (B.at G k).Sound P f n retF := by
 intro k Q w0 F x v t i j a w base S A D U;have key : ∀ (m : Nat) (v : B.V) (i : List Nat) (j : List (Option Addr)) (a : Act) (w : World), G m x v = some t -> KnOk n w0 F ⟨B.pL x v i j, B.pA x v i j, B.rds x, [], [], []⟩ a w -> Runs P f (.code body :: .inLoop body :: .inBlock id :: base) a w Q := by
  intro m;induction m with
  | zero => intro v i j a w S _; exact absurd ((h0 x v).symm.trans S) (by simp)
  | succ m ih =>
   intro v i j a w S A;have a1 := VC.good _ (· = t) (h1 m x v i j) fun s => ⟨t, (h2 m x v i j s).trans S, rfl⟩
   obtain ⟨md, a2, h3⟩ := rA a1;refine yD (t := [.code body, .inLoop body, .inBlock id]) (base := base) 1000 a2 (nz a0 (Tg := fun r => B.cls t = .inl r) ?_ (Z m) md base _ _ _ _ _ a w A h3 ?_ ?_ ?_)
   ·intro st a w k A h;cases ht : B.cls t with
    | inl r => exact U r ht _ _ _ _ A (VC.mono _ (fun r' h => by rw [ht] at h; cases h; rfl) h)
    | inr u => exact (VC.wc _ (VC.mono _ (fun r' h => by rw [ht] at h; cases h) h)).elim
   ·rintro r ⟨y, Y, rfl⟩;exact hl r y Y
   ·intro a3 a' w' I z;split at z
    ·rename_i u J O ho;split at z
     ·rename_i e1 e2;obtain ⟨h4, h5, y, Y, h6⟩ := ur I z;cases Y;subst h6;exact D u (hi u) J O a' w' (Nat.eq_of_beq_eq_true e1) (Nat.eq_of_beq_eq_true e2) h4 h5
     ·exact (VC.zu z).elim
    ·exact (VC.zu z).elim
   ·intro c b0 a3 a' w' I hb;obtain ⟨e, h4⟩ := hb;simp only [Prod.mk.injEq] at e;obtain ⟨rfl, rfl⟩ := e;split at h4
    ·rename_i v' J O b3;obtain ⟨h5, h6, y, Y, h7⟩ := ur I h4;subst h7;exact Runs.inLoop (ih v' J O a' w' Y ⟨h5, h6, A.fs.1, A.fs.2, A.fs.3, A.fs.4⟩)
    ·exact (VC.zu h4).elim
 show Runs P f (.code B.code :: base) a w Q;rw [hc];exact Runs.block (Runs.eB (key k v i j a w S A))
theorem lsn (t : P.follows .mixedOrders = true) (B : BCon E R0) {body : Code} {id : Nat} (G : Nat -> B.X -> B.V -> Option B.W) (inl : R0 -> Option B.W) (inr : B.T -> B.W) (get : Kn E -> Option (B.V × List Nat × List (Option Addr))) (e : Kn E -> Option (B.T × List Nat × List (Option Addr)))
  (i : Nat -> Ct E P f n R0 retF) (k : Nat) (z : B.code = .block id (.loop body) := by kernel_rfl) (h0 : ∀ x v, G 0 x v = none := by intro _ _; rfl) (hl : ∀ r y, inl r = some y -> B.cls y = .inl r := by intro r y h; cases h; try rfl) (hi : ∀ u, B.cls (inr u) = .inr u := by intro u; rfl)
  (h1 : ∀ m x v j l, vcL B body id G inl inr get e (i m) m x v j l = (vcL B body id G inl inr get e (i m) m x v j l).rfx := by intro m x v A D; kernel_rfl) (h2 : ∀ m x v j l s, (vcL B body id G inl inr get e (i m) m x v j l).mod s = G (m + 1) x v := by intro m x v A D s; kernel_rfl) :
  (B.at G k).Sound P f n retF := jV t B G inl inr get e i z h0 hl hi h1 h2 k
theorem xT (C : Con E) (h : ∀ i, C.model i = none) : C.Sound P := fun i t hm => by rw [h i] at hm; cases hm
end
end
noncomputable section
section
variable {E : Ev}
structure OD (E : Ev) : Type 1 where
 A : Type
 M : Type
 flat : Nat -> A -> M -> List (Atom E)
 rd : List (Atom E) -> Option (A × M × List (Atom E))
def rS (c : Nat) (e : List (Atom E)) : Option ((Option Addr × Nat × List (E.el c).α) × List (Atom E)) := match e with
 | .sl _ _ sb sc l :: r => match m9 c l with
  | some l' => some ((sb, sc, l'), r)
  | none => none
 | _ => none
def rM (c : Nat) (e : List (Atom E)) : Option ((Nat × List ((E.mp c).K × (E.mp c).V)) × List (Atom E)) := match e with
 | .mp _ b m :: r => match jG c m with
  | some i => some ((b, i), r)
  | none => none
 | _ => none
structure PK (E : Ev) : Type 1 where
 T : Type
 rd : Value -> List (Atom E) -> Option (T × List (Atom E))
 arg : T -> Value
 ats : T -> List (Atom E)
 rds : T -> List (RdV E)
def pI (k : IntKind) : PK E := ⟨Int, fun v e => match v with
 | .int _ x => some (x, e)
 | _ => none, fun x => .int k x, fun _ => [], fun _ => []⟩
def pB : PK E := ⟨Bool, fun v e => match v with
 | .bool x => some (x, e)
 | _ => none, fun x => .bool x, fun _ => [], fun _ => []⟩
def pV {α : Type} (dec : Value -> Option α) (val : α -> Value) : PK E := ⟨α, fun v e => match dec v with
 | some x => some (x, e)
 | none => none, val, fun _ => [], fun _ => []⟩
def pK (v : Value) : PK E := ⟨Unit, fun _ e => some ((), e), fun _ => v, fun _ => [], fun _ => []⟩
def pO (D : OD E) : PK E := ⟨Nat × D.A × D.M, fun v e => match v with
 | .pointer (some ⟨p, _, _⟩) => match D.rd e with
  | some (a, m, r) => some ((p, a, m), r)
  | none => none
 | _ => none, fun x => .pointer (some ⟨x.1, 0, none⟩), fun x => D.flat x.1 x.2.1 x.2.2, fun _ => []⟩
def pR (c : Nat) : PK E := ⟨Option Addr × Nat × List (E.el c).α, fun v e => match e with
 | .sl c' _ sb sc l :: r => match m9 c l with
  | some l' => some ((sb, sc, l'), r)
  | none => none
 | _ => none, fun x => .slice x.1 x.2.2.length x.2.1, fun _ => [], fun x => [⟨c, x.1, x.2.1, x.2.2⟩]⟩
def pW (c : Nat) (T : TypeId) : PK E := ⟨Option Addr × Nat × List (E.el c).α, fun v e => match e with
 | .sl c' _ sb sc l :: r => match m9 c l with
  | some l' => some ((sb, sc, l'), r)
  | none => none
 | _ => none, fun x => .slice x.1 x.2.2.length x.2.1, fun x => [.sl c T x.1 x.2.1 x.2.2], fun _ => []⟩
def Ins : List (PK E) -> Type
 | [] => Unit
 | p :: ps => p.T × Ins ps
def iH : (ps : List (PK E)) -> List Value -> List (Atom E) -> Option (Ins ps)
 | [], _, _ => some ()
 | p :: ps, v :: vs, e => match p.rd v e with
  | some (x, r) => match iH ps vs r with
   | some xs => some (x, xs)
   | none => none
  | none => none
 | _ :: _, [], _ => none
def m7 : (ps : List (PK E)) -> Ins ps -> List Value
 | [], _ => []
 | p :: ps, x => p.arg x.1 :: m7 ps x.2
def lq : (ps : List (PK E)) -> Ins ps -> List (Atom E)
 | [], _ => []
 | p :: ps, x => p.ats x.1 ++ lq ps x.2
def mX : (ps : List (PK E)) -> Ins ps -> List (RdV E)
 | [], _ => []
 | p :: ps, x => p.rds x.1 ++ mX ps x.2
@[reducible] def zG (fid : Nat) (ps : List (PK E)) {T : Type} (model : Ins ps -> Option T) (nN nA : Nat) (val : Ins ps -> T -> List Nat -> List (Option Addr) -> Value) (post : Ins ps -> T -> List Nat -> List (Option Addr) -> List (Atom E)) : Con E :=
 ⟨fid, Ins ps, T, iH ps, m7 ps, lq ps, mX ps, model, nN, nA, val, post, fun _ _ => none, fun _ _ => [], false, Unit, fun _ _ => none, 0, fun _ _ _ _ _ => .tuple #[], fun _ _ _ _ _ => []⟩
@[reducible] def fj (fid : Nat) (ps : List (PK E)) {T : Type} (model : Ins ps -> Option T) (nN nA : Nat) (val : Ins ps -> T -> List Nat -> List (Option Addr) -> Value) (post : Ins ps -> T -> List Nat -> List (Option Addr) -> List (Atom E)) (opt : Ins ps -> T -> Option Int) : Con E :=
 ⟨fid, Ins ps, T, iH ps, m7 ps, lq ps, mX ps, model, nN, nA, val, post, fun i t => some (opt i t), fun _ _ => [], false, Unit, fun _ _ => none, 0, fun _ _ _ _ _ => .tuple #[], fun _ _ _ _ _ => []⟩
@[reducible] def gJ (fid : Nat) (ps : List (PK E)) {T : Type} (model : Ins ps -> Option T) (nN nA : Nat) (val : Ins ps -> T -> List Nat -> List (Option Addr) -> Value) (post : Ins ps -> T -> List Nat -> List (Option Addr) -> List (Atom E)) (fx : Ins ps -> T -> List Prop) : Con E :=
 ⟨fid, Ins ps, T, iH ps, m7 ps, lq ps, mX ps, model, nN, nA, val, post, fun _ _ => none, fx, false, Unit, fun _ _ => none, 0, fun _ _ _ _ _ => .tuple #[], fun _ _ _ _ _ => []⟩
@[reducible] def gX (fid : Nat) (ps : List (PK E)) {T M : Type} (model : Ins ps -> Option T) (nN nA : Nat) (val : Ins ps -> T -> List Nat -> List (Option Addr) -> Value) (post : Ins ps -> T -> List Nat -> List (Option Addr) -> List (Atom E)) (om : Ins ps -> T -> Option M) (nf : Nat)
  (val1 : Ins ps -> T -> M -> List Nat -> List (Option Addr) -> Value) (post1 : Ins ps -> T -> M -> List Nat -> List (Option Addr) -> List (Atom E)) : Con E :=
 ⟨fid, Ins ps, T, iH ps, m7 ps, lq ps, mX ps, model, nN, nA, val, post, fun _ _ => none, fun _ _ => [], true, M, om, nf, val1, post1⟩
abbrev Gt (E : Ev) (T : Type) := Kn E -> Option T
def gI (t : Nat) : Gt E Int := fun st => match look t st.L with
 | some (.int _ x) => some x
 | _ => none
def gB (t : Nat) : Gt E Bool := fun st => match look t st.L with
 | some (.bool x) => some x
 | _ => none
def gO (D : OD E) (ks : List Nat) : Gt E D.M := fun st => match mh ks st.As with
 | some e => match D.rd e with
  | some (_, m, _) => some m
  | none => none
 | none => none
def gL (c : Nat) (q : Nat) : Gt E (List (E.el c).α) := fun st => match getK q st.As with
 | some (.sl _ _ _ _ l) => m9 c l
 | _ => none
def g2 {A B : Type} (a : Gt E A) (b : Gt E B) : Gt E (A × B) := fun st => match a st, b st with
 | some x, some y => some (x, y)
 | _, _ => none
def gU : Gt E Unit := fun _ => some ()
abbrev Nx (E : Ev) := Kn E -> Option (List Nat × List (Option Addr))
def nA (D : OD E) (ks : List Nat) (f : D.A -> List Nat × List (Option Addr)) : Nx E := fun st => match mh ks st.As with
 | some e => match D.rd e with
  | some (i, _, _) => some (f i)
  | none => none
 | none => none
def nxs : List (Nx E) -> Nx E
 | [], _ => some ([], [])
 | x :: r, st => match x st, nxs r st with
  | some (a, b), some (c, d) => some (a ++ c, b ++ d)
  | _, _ => none
def gj {T : Type} (a : Gt E T) (l : List (Nx E)) : Kn E -> Option (T × List Nat × List (Option Addr)) := fun st => match a st, nxs l st with
 | some x, some (e, i) => some (x, e, i)
 | _, _ => none
def gl {X V : Type} (x : Gt E X) (v : Gt E V) (l : List (Nx E)) : Kn E -> Option (X × V × List Nat × List (Option Addr)) := fun st => match x st, v st, nxs l st with
 | some x, some v, some (e, i) => some (x, v, e, i)
 | _, _, _ => none
def gt {T : Type} (a : Gt E T) : Kn E -> Option (T × List Nat × List (Option Addr)) := fun st => match a st with
 | some x => some (x, [], [])
 | none => none
abbrev nn (l : List Nat) (i : Nat) : Nat := l.getD i 0
abbrev na (l : List (Option Addr)) (i : Nat) : Option Addr := l.getD i none
def zipL {α : Type} : List Nat -> List α -> List (Nat × α)
 | k :: ks, x :: xs => (k, x) :: zipL ks xs
 | _, _ => []
def kp (ks : List Nat) (st : Kn E) : Env := match sel ks st.L with
 | some L => L
 | none => []
def ka (ks : List Nat) (st : Kn E) : List (Nat × Atom E) := match ks with
 | [] => []
 | k :: r => match getK k st.As with
  | some a => (k, a) :: ka r st
  | none => ka r st
def gP (k : Nat) : Gt E Nat := fun st => match getK k st.As with
 | some (.blk b _ _) => some b
 | some (.mp _ b _) => some b
 | _ => none
def gA (D : OD E) (ks : List Nat) : Gt E D.A := fun st => match mh ks st.As with
 | some e => match D.rd e with
  | some (a, _, _) => some a
  | none => none
 | none => none
def gC {α : Type} (k off n : Nat) (dec : List Value -> Option α) : Gt E α := fun st => match getK k st.As with
 | some (.blk _ _ cs) => dec ((cs.drop off).take n)
 | _ => none
def gh (k : Nat) : Gt E (Option Addr × Nat) := fun st => match getK k st.As with
 | some (.sl _ _ sb sc _) => some (sb, sc)
 | _ => none
def nPk (k : Nat) : Nx E := fun st => match getK k st.As with
 | some (.blk b _ _) => some ([b], [])
 | some (.mp _ b _) => some ([b], [])
 | _ => none
def nSk (k : Nat) : Nx E := fun st => match getK k st.As with
 | some (.sl _ _ sb sc _) => some ([sc], [sb])
 | _ => none
def gOo (D : OD E) (ks : List Nat) (t : Nat) : Gt E (Option D.M) := fun st => match look t st.L with
 | some (.pointer none) => some none
 | some (.pointer (some _)) => match gO D ks st with
  | some m => some (some m)
  | none => none
 | _ => none
def nPo (k : Nat) : Nx E := fun st => match getK k st.As with
 | some (.blk b _ _) => some ([b], [])
 | _ => some ([0], [])
def nAo (D : OD E) (ks : List Nat) (f : D.A -> List Nat × List (Option Addr)) (n m : Nat) : Nx E := fun st => match mh ks st.As with
 | some e => match D.rd e with
  | some (i, _, _) => some (f i)
  | none => none
 | none => some (List.replicate n 0, List.replicate m none)
def gE : Gt E (Option Int) := fun st => match getK 99999 st.ef with
 | some f => some (some f.i)
 | none => some none
def dI : List Value -> Option Int
 | [.int _ x] => some x
 | _ => none
def dB : List Value -> Option Bool
 | [.bool x] => some x
 | _ => none
def dvI : Value -> Option Int
 | .int _ x => some x
 | _ => none
def nav : List Nat -> Code -> Code
 | [], c => c
 | 0 :: r, .seq x _ => nav r x
 | _ :: r, .seq _ y => nav r y
 | 0 :: r, .cond _ x _ => nav r x
 | _ :: r, .cond _ _ y => nav r y
 | _ :: r, .block _ x => nav r x
 | _ :: r, .loop x => nav r x
 | _ :: _, c => c
def rsOf (P : Program) (f : Nat) : List ResultVar := match P.funcs[f]? with
 | some fn => fn.results.toList
 | none => []
def yo (P : Program) (f : Nat) : Code := match P.funcs[f]? with
 | some fn => match fn.body with
  | some c => c
  | none => .skip
 | none => .skip
end
def fsk {E : Ev} {P : Program} (j : P.follows .mixedOrders = true) (C : Con E) {fn : Func} {c : Code} (n : Nat) (src : List Src) (keys : List Nat) (out : Kn E -> Option (C.T × List Nat × List (Option Addr))) (e : ∀ i, Ct E P C.fid n C.T (retC P C (rsOf P C.fid) src keys out i))
  (hf : P.funcs[C.fid]? = some fn) (he : ∀ args w, (callFunc C.fid args).run P w = .ok (.enter C.fid args) w) (l : fn.body = some c := by rfl) (hn : fn.ntmps = n := by rfl) (t : fn.results = (rsOf P C.fid).toArray := by kernel_rfl) (hl : ∀ i, Nat.ble (C.args i).length n = true := by intro _; rfl)
  (h1 : ∀ i, vcF C c (rsOf P C.fid) src keys out i (e i) = (vcF C c (rsOf P C.fid) src keys out i (e i)).rfx := by intro i; kernel_rfl) (h2 : ∀ i s, (vcF C c (rsOf P C.fid) src keys out i (e i)).mod s = C.model i := by intro i s; kernel_rfl) : SCon E P := ⟨C, jA j C src keys out e hf l hn t hl h1 h2, he⟩
end
noncomputable section
section
variable {E : Ev}
theorem px {w0 w : World} {Y : HP} {L A1 As : List HP} (h : ∀ As, St w0 (Y :: As) w ↔ St w0 (L ++ As) w) : St w0 (A1 ++ (Y :: As)) w ↔ St w0 (A1 ++ (L ++ As)) w := by
 constructor
 ·intro H;have H1 := (h (A1 ++ As)).1 (H.perm (List.perm_middle));refine H1.perm ?_;rw [<- aA, <- aA];exact List.Perm.append_right As List.perm_append_comm
 ·intro H;have H1 := (h (A1 ++ As)).2 (H.perm (by
   rw [<- aA, <- aA];exact List.Perm.append_right As List.perm_append_comm))
  exact H1.perm List.perm_middle.symm
theorem fs0 {w0 w : World} {Y : HP} {L As : List HP} (h : ∀ As, St w0 (Y :: As) w ↔ St w0 (L ++ As) w) : St w0 (Y :: As) w ↔ St w0 (L ++ As) w := h As
theorem fs1 {w0 w : World} {A Y : HP} {L As : List HP} (h : ∀ As, St w0 (Y :: As) w ↔ St w0 (L ++ As) w) : St w0 (A :: Y :: As) w ↔ St w0 (A :: (L ++ As)) w := px (A1 := [A]) h
theorem fs2 {w0 w : World} {A B Y : HP} {L As : List HP} (h : ∀ As, St w0 (Y :: As) w ↔ St w0 (L ++ As) w) : St w0 (A :: B :: Y :: As) w ↔ St w0 (A :: B :: (L ++ As)) w := px (A1 := [A, B]) h
theorem fs3 {w0 w : World} {A B C Y : HP} {L As : List HP} (h : ∀ As, St w0 (Y :: As) w ↔ St w0 (L ++ As) w) : St w0 (A :: B :: C :: Y :: As) w ↔ St w0 (A :: B :: C :: (L ++ As)) w := px (A1 := [A, B, C]) h
theorem fs4 {w0 w : World} {A B C D Y : HP} {L As : List HP} (h : ∀ As, St w0 (Y :: As) w ↔ St w0 (L ++ As) w) : St w0 (A :: B :: C :: D :: Y :: As) w ↔ St w0 (A :: B :: C :: D :: (L ++ As)) w := px (A1 := [A, B, C, D]) h
theorem rdH (c : Nat) {F : List HP} {X : HP} {sb : Option Addr} {sc : Nat} {l : List (E.el c).α} (hm : X ∈ F) (e : SlRd X (E.el c).enc (E.el c).sz sb l) (hC : l.length <= sc) : RdV.holds (E := E) F ⟨c, sb, sc, l⟩ := ⟨X, hm, e, fun _ _ => hC⟩
theorem rd0 {F : List HP} : ∀ r ∈ ([] : List (RdV E)), r.holds F := fun r h => by cases h
theorem rdc {F : List HP} {r : RdV E} {L : List (RdV E)} (h : r.holds F) (e : ∀ r ∈ L, r.holds F) : ∀ x ∈ r :: L, x.holds F := fun x i => by
 cases i with
 | head => exact h
 | tail _ h => exact e _ h
theorem lsS {α : Type} {l : List α} {n : Nat} (h : l.length = n + 1) : ∃ a r, l = a :: r /\ r.length = n := by
 match l, h with
 | a :: r, h => exact ⟨a, r, rfl, by simpa using h⟩
theorem ls0 {α : Type} {l : List α} (h : l.length = 0) : l = [] := List.length_eq_zero_iff.1 h
end
end
end Go.Th
namespace Go.Proofs
open Go.Shelf
noncomputable section
open Go.Sort Go.RowKit in
open Go.RowKit Go.Sort in
end
end Go.Proofs
noncomputable section
abbrev Go.Value.i (x : Int) : Go.Value := .int .i64 x
namespace Go.Th
abbrev ks_4 : List ASrc := [.K 0, .K 1, .K 2, .K 3, .K 4]
abbrev ox : List ASrc := [.K 0, .K 1, .K 2, .K 3, .K 4, .K 5, .K 6, .K 7, .K 8, .K 9, .K 10, .K 11, .K 12, .K 13]
abbrev mH : List ASrc := [.K 0, .K 1, .K 2, .K 3, .K 4, .K 5, .K 6, .K 7, .K 8, .K 9, .K 10, .K 11, .K 12, .K 13, .K 14, .K 15, .K 16, .K 17, .K 18, .K 19, .K 20, .K 21]
abbrev ks_6 : List ASrc := [.K 0, .K 1, .K 2, .K 3, .K 4, .K 5, .K 6]
abbrev eY : List ASrc := [.K 0, .K 1, .K 2, .K 3, .K 4, .K 5, .K 6, .K 7, .K 8, .K 9, .K 10, .K 11, .K 12, .K 13, .K 14, .K 15, .K 16, .K 17, .K 18, .K 19, .K 20, .K 21, .K 22, .K 23, .K 24, .K 25, .K 26, .K 27, .K 28, .K 29, .K 30]
end Go.Th
set_option maxRecDepth 10000
set_option maxHeartbeats 4000000
namespace Go.Proofs.YteflmnbkdhneiaaGreat
open Go.Th
abbrev pG := Tryz.prog
theorem mixed : pG.follows .mixedOrders = true := by kernel_rfl
theorem zr.jN {x : zr} {i v : Int} (h : zr.sN x i = some v) : (zr.enc x)[i.toNat * 1]? = some (.i v) := by
  by_cases h0 : i = 0
  · subst h0; simp [zr.sN] at h; subst h; rfl
  by_cases h1 : i = 1
  · subst h1; simp [zr.sN] at h; subst h; rfl
  by_cases h2 : i = 2
  · subst h2; simp [zr.sN] at h; subst h; rfl
  by_cases h3 : i = 3
  · subst h3; simp [zr.sN] at h; subst h; rfl
  by_cases h4 : i = 4
  · subst h4; simp [zr.sN] at h; subst h; rfl
  by_cases e : i = 5
  · subst e; simp [zr.sN] at h; subst h; rfl
  by_cases j : i = 6
  · subst j; simp [zr.sN] at h; subst h; rfl
  by_cases l : i = 7
  · subst l; simp [zr.sN] at h; subst h; rfl
  by_cases s : i = 8
  · subst s; simp [zr.sN] at h; subst h; rfl
  by_cases t : i = 9
  · subst t; simp [zr.sN] at h; subst h; rfl
  · simp [zr.sN, h0, h1, h2, h3, h4, e, j, l, s, t] at h
theorem zr.j3 {x y : zr} {i v : Int} (h : zr.rN x i v = some y) : zr.enc y = putAt (zr.enc x) (i.toNat * 1) [.i v] := by
  by_cases h0 : i = 0
  · subst h0; simp [zr.rN] at h; subst h; rfl
  by_cases h1 : i = 1
  · subst h1; simp [zr.rN] at h; subst h; rfl
  by_cases h2 : i = 2
  · subst h2; simp [zr.rN] at h; subst h; rfl
  by_cases h3 : i = 3
  · subst h3; simp [zr.rN] at h; subst h; rfl
  by_cases h4 : i = 4
  · subst h4; simp [zr.rN] at h; subst h; rfl
  by_cases e : i = 5
  · subst e; simp [zr.rN] at h; subst h; rfl
  by_cases j : i = 6
  · subst j; simp [zr.rN] at h; subst h; rfl
  by_cases l : i = 7
  · subst l; simp [zr.rN] at h; subst h; rfl
  by_cases s : i = 8
  · subst s; simp [zr.rN] at h; subst h; rfl
  by_cases t : i = 9
  · subst t; simp [zr.rN] at h; subst h; rfl
  · simp [zr.rN, h0, h1, h2, h3, h4, e, j, l, s, t] at h
theorem zf.jO (w : World) (d : Nat) (x y : zf) : (Op.equalIn (d + 2) 28 (.agg #[.i x.At, .i x.Gen]) (.agg #[.i y.At, .i y.Gen])).run pG w = .ok (zf.eq x y) w :=
  ky (d + 1) rfl (by kernel_rfl) (uS (a := .i x.At) (b := .i y.At) rfl rfl (by kernel_rfl) (by kernel_rfl) (run_equalIn_int w _ _ _ _ _ _ rfl) (uS (a := .i x.Gen) (b := .i y.Gen) rfl rfl (by kernel_rfl) (by kernel_rfl) (run_equalIn_int w _ _ _ _ _ _ rfl) (lT rfl)))
theorem zf.p3 (x y : zf) : nD pG 28 #[.i x.At, .i x.Gen] #[.i y.At, .i y.Gen] (zf.eq x y) := fun w => zf.jO w 9998 x y
theorem zf.vS : sf pG 28 zf.val zf.eq :=
  sf.struct (fs := pG.fieldsOf 28) rfl (fun w em x => rJ 9999 (fs := pG.fieldsOf 28) rfl w em (gZ (v := .i x.At) rfl rfl (by kernel_rfl) (sK 9998 rfl _ _ _) (gZ (v := .i x.Gen) rfl rfl (by kernel_rfl) (sK 9998 rfl _ _ _) (cN rfl)))) (fun w x y => zf.p3 x y w) (fun x => by simp [zf.val, Instr.sameBits]) (fun x y h => by cases x; cases y; simpa [zf.eq] using h)
theorem zo.jO (w : World) (d : Nat) (x y : zo) : (Op.equalIn (d + 3) 30 (.agg #[.i x.Why, .i x.Job.At, .i x.Job.Gen, .i x.Time, .i x.Data, .i x.N]) (.agg #[.i y.Why, .i y.Job.At, .i y.Job.Gen, .i y.Time, .i y.Data, .i y.N])).run pG w = .ok (zo.eq x y) w :=
  ky (d + 2) rfl (by kernel_rfl) (uS (a := .i x.Why) (b := .i y.Why) rfl rfl (by kernel_rfl) (by kernel_rfl) (run_equalIn_int w _ _ _ _ _ _ rfl) (uS (a := .agg #[.i x.Job.At, .i x.Job.Gen]) (b := .agg #[.i y.Job.At, .i y.Job.Gen]) rfl rfl (by kernel_rfl) (by kernel_rfl) (zf.jO w d x.Job y.Job) (uS (a := .i x.Time) (b := .i y.Time) rfl rfl (by kernel_rfl) (by kernel_rfl) (run_equalIn_int w _ _ _ _ _ _ rfl) (uS (a := .i x.Data) (b := .i y.Data) rfl rfl (by kernel_rfl) (by kernel_rfl) (run_equalIn_int w _ _ _ _ _ _ rfl) (uS (a := .i x.N) (b := .i y.N) rfl rfl (by kernel_rfl) (by kernel_rfl) (run_equalIn_int w _ _ _ _ _ _ rfl) (lT rfl))))))
theorem zo.p3 (x y : zo) : nD pG 30 #[.i x.Why, .i x.Job.At, .i x.Job.Gen, .i x.Time, .i x.Data, .i x.N] #[.i y.Why, .i y.Job.At, .i y.Job.Gen, .i y.Time, .i y.Data, .i y.N] (zo.eq x y) := fun w => zo.jO w 9997 x y
theorem zw.jO (w : World) (d : Nat) (x y : zw) : (Op.equalIn (d + 2) 57 (.agg #[.i x.Key, .i x.Serial]) (.agg #[.i y.Key, .i y.Serial])).run pG w = .ok (zw.eq x y) w :=
  ky (d + 1) rfl (by kernel_rfl) (uS (a := .i x.Key) (b := .i y.Key) rfl rfl (by kernel_rfl) (by kernel_rfl) (run_equalIn_int w _ _ _ _ _ _ rfl) (uS (a := .i x.Serial) (b := .i y.Serial) rfl rfl (by kernel_rfl) (by kernel_rfl) (run_equalIn_int w _ _ _ _ _ _ rfl) (lT rfl)))
theorem zw.p3 (x y : zw) : nD pG 57 #[.i x.Key, .i x.Serial] #[.i y.Key, .i y.Serial] (zw.eq x y) := fun w => zw.jO w 9998 x y
structure zb.A where
  l_b : Option Addr
  l_c : Nat
  free_b : Option Addr
  free_c : Nat
  m__p : Nat
instance : Inhabited zb.A := ⟨zb.A.mk default default default default default⟩
structure zh.A where
  l_b : Option Addr
  l_c : Nat
  free_b : Option Addr
  free_c : Nat
instance : Inhabited zh.A := ⟨zh.A.mk default default default default⟩
structure ze.A where
  l_b : Option Addr
  l_c : Nat
  free_b : Option Addr
  free_c : Nat
instance : Inhabited ze.A := ⟨ze.A.mk default default default default⟩
structure zi.A where
  heaps_p : Nat
  heaps_a : zh.A
  items_p : Nat
  items_a : ze.A
  at__p : Nat
instance : Inhabited zi.A := ⟨zi.A.mk default default default default default⟩
structure zn.A where
  a__p : Nat
  a__a : zb.A
  t__p : Nat
  t__a : zi.A
  entries_p : Nat
instance : Inhabited zn.A := ⟨zn.A.mk default default default default default⟩
structure zg.A where
  l_b : Option Addr
  l_c : Nat
  free_b : Option Addr
  free_c : Nat
instance : Inhabited zg.A := ⟨zg.A.mk default default default default⟩
structure zm.A where
  p_p : Nat
  p_a : zg.A
  by__p : Nat
instance : Inhabited zm.A := ⟨zm.A.mk default default default⟩
structure za.A where
  q_p : Nat
  q_a : zn.A
  t__p : Nat
  t__a : zm.A
  when_p : Nat
  clock_p : Nat
instance : Inhabited za.A := ⟨za.A.mk default default default default default default⟩
structure zj.A where
  Gens_b : Option Addr
  Gens_c : Nat
  In_b : Option Addr
  In_c : Nat
  V_b : Option Addr
  V_c : Nat
  Back_b : Option Addr
  Back_c : Nat
instance : Inhabited zj.A := ⟨zj.A.mk default default default default default default default default⟩
structure zc.A where
  Pool_p : Nat
  Pool_a : zj.A
  L_b : Option Addr
  L_c : Nat
instance : Inhabited zc.A := ⟨zc.A.mk default default default default⟩
structure zE.A where
  d_p : Nat
  d_a : za.A
  m__p : Nat
  m__a : zc.A
  told_b : Option Addr
  told_c : Nat
instance : Inhabited zE.A := ⟨zE.A.mk default default default default default default⟩
structure zd.A where
  d_p : Nat
  d_a : za.A
  m__p : Nat
  m__a : zc.A
  told_b : Option Addr
  told_c : Nat
instance : Inhabited zd.A := ⟨zd.A.mk default default default default default default⟩
def zC.R (p : Nat) (m : zC) : HP := sepL [Blk p 162 [.i m.steps, .i m.begun, .i m.most]]
theorem zC.open {w0 w : World} {As : List HP} {p : Nat} {m : zC} (H : St w0 (zC.R p m :: As) w) : St w0 (Blk p 162 [.i m.steps, .i m.begun, .i m.most] :: As) w := St.flat H
theorem zC.shut {w0 w : World} {As : List HP} {p : Nat} (m : zC) (H : St w0 (Blk p 162 [.i m.steps, .i m.begun, .i m.most] :: As) w) : St w0 (zC.R p m :: As) w := St.group [Blk p 162 [.i m.steps, .i m.begun, .i m.most]] H
def zb.R (p : Nat) (e : zb.A) (m : zb) : HP := sepL [Blk p 160 [.slice e.l_b m.l.length e.l_c, .i m.never, .slice e.free_b m.free.length e.free_c, .pointer (some ⟨e.m__p, 0, none⟩)], Sl 247 zr.enc 11 e.l_b e.l_c m.l, Sl 3 ecI 1 e.free_b e.free_c m.free, zC.R e.m__p m.m_]
theorem zb.open {w0 w : World} {As : List HP} {p : Nat} {e : zb.A} {m : zb} (H : St w0 (zb.R p e m :: As) w) : St w0 (Blk p 160 [.slice e.l_b m.l.length e.l_c, .i m.never, .slice e.free_b m.free.length e.free_c, .pointer (some ⟨e.m__p, 0, none⟩)] :: Sl 247 zr.enc 11 e.l_b e.l_c m.l :: Sl 3 ecI 1 e.free_b e.free_c m.free :: zC.R e.m__p m.m_ :: As) w := St.flat H
theorem zb.shut {w0 w : World} {As : List HP} {p : Nat} (e : zb.A) (m : zb) (H : St w0 (Blk p 160 [.slice e.l_b m.l.length e.l_c, .i m.never, .slice e.free_b m.free.length e.free_c, .pointer (some ⟨e.m__p, 0, none⟩)] :: Sl 247 zr.enc 11 e.l_b e.l_c m.l :: Sl 3 ecI 1 e.free_b e.free_c m.free :: zC.R e.m__p m.m_ :: As) w) : St w0 (zb.R p e m :: As) w := St.group [Blk p 160 [.slice e.l_b m.l.length e.l_c, .i m.never, .slice e.free_b m.free.length e.free_c, .pointer (some ⟨e.m__p, 0, none⟩)], Sl 247 zr.enc 11 e.l_b e.l_c m.l, Sl 3 ecI 1 e.free_b e.free_c m.free, zC.R e.m__p m.m_] H
def zh.R (p : Nat) (e : zh.A) (m : zh) : HP := sepL [Blk p 218 [.i m.most, .slice e.l_b m.l.length e.l_c, .slice e.free_b m.free.length e.free_c], Sl 223 zs.enc 5 e.l_b e.l_c m.l, Sl 3 ecI 1 e.free_b e.free_c m.free]
theorem zh.open {w0 w : World} {As : List HP} {p : Nat} {e : zh.A} {m : zh} (H : St w0 (zh.R p e m :: As) w) : St w0 (Blk p 218 [.i m.most, .slice e.l_b m.l.length e.l_c, .slice e.free_b m.free.length e.free_c] :: Sl 223 zs.enc 5 e.l_b e.l_c m.l :: Sl 3 ecI 1 e.free_b e.free_c m.free :: As) w := St.flat H
theorem zh.shut {w0 w : World} {As : List HP} {p : Nat} (e : zh.A) (m : zh) (H : St w0 (Blk p 218 [.i m.most, .slice e.l_b m.l.length e.l_c, .slice e.free_b m.free.length e.free_c] :: Sl 223 zs.enc 5 e.l_b e.l_c m.l :: Sl 3 ecI 1 e.free_b e.free_c m.free :: As) w) : St w0 (zh.R p e m :: As) w := St.group [Blk p 218 [.i m.most, .slice e.l_b m.l.length e.l_c, .slice e.free_b m.free.length e.free_c], Sl 223 zs.enc 5 e.l_b e.l_c m.l, Sl 3 ecI 1 e.free_b e.free_c m.free] H
def ze.R (p : Nat) (e : ze.A) (m : ze) : HP := sepL [Blk p 221 [.i m.most, .slice e.l_b m.l.length e.l_c, .slice e.free_b m.free.length e.free_c], Sl 255 zp.enc 5 e.l_b e.l_c m.l, Sl 3 ecI 1 e.free_b e.free_c m.free]
theorem ze.open {w0 w : World} {As : List HP} {p : Nat} {e : ze.A} {m : ze} (H : St w0 (ze.R p e m :: As) w) : St w0 (Blk p 221 [.i m.most, .slice e.l_b m.l.length e.l_c, .slice e.free_b m.free.length e.free_c] :: Sl 255 zp.enc 5 e.l_b e.l_c m.l :: Sl 3 ecI 1 e.free_b e.free_c m.free :: As) w := St.flat H
theorem ze.shut {w0 w : World} {As : List HP} {p : Nat} (e : ze.A) (m : ze) (H : St w0 (Blk p 221 [.i m.most, .slice e.l_b m.l.length e.l_c, .slice e.free_b m.free.length e.free_c] :: Sl 255 zp.enc 5 e.l_b e.l_c m.l :: Sl 3 ecI 1 e.free_b e.free_c m.free :: As) w) : St w0 (ze.R p e m :: As) w := St.group [Blk p 221 [.i m.most, .slice e.l_b m.l.length e.l_c, .slice e.free_b m.free.length e.free_c], Sl 255 zp.enc 5 e.l_b e.l_c m.l, Sl 3 ecI 1 e.free_b e.free_c m.free] H
def zi.R (p : Nat) (e : zi.A) (m : zi) : HP := sepL [Blk p 189 [.pointer (some ⟨e.heaps_p, 0, none⟩), .pointer (some ⟨e.items_p, 0, none⟩), .map (some e.at__p)], zh.R e.heaps_p e.heaps_a m.heaps, ze.R e.items_p e.items_a m.items, MpA e.at__p vI zf.val m.at_]
theorem zi.open {w0 w : World} {As : List HP} {p : Nat} {e : zi.A} {m : zi} (H : St w0 (zi.R p e m :: As) w) : St w0 (Blk p 189 [.pointer (some ⟨e.heaps_p, 0, none⟩), .pointer (some ⟨e.items_p, 0, none⟩), .map (some e.at__p)] :: zh.R e.heaps_p e.heaps_a m.heaps :: ze.R e.items_p e.items_a m.items :: MpA e.at__p vI zf.val m.at_ :: As) w := St.flat H
theorem zi.shut {w0 w : World} {As : List HP} {p : Nat} (e : zi.A) (m : zi) (H : St w0 (Blk p 189 [.pointer (some ⟨e.heaps_p, 0, none⟩), .pointer (some ⟨e.items_p, 0, none⟩), .map (some e.at__p)] :: zh.R e.heaps_p e.heaps_a m.heaps :: ze.R e.items_p e.items_a m.items :: MpA e.at__p vI zf.val m.at_ :: As) w) : St w0 (zi.R p e m :: As) w := St.group [Blk p 189 [.pointer (some ⟨e.heaps_p, 0, none⟩), .pointer (some ⟨e.items_p, 0, none⟩), .map (some e.at__p)], zh.R e.heaps_p e.heaps_a m.heaps, ze.R e.items_p e.items_a m.items, MpA e.at__p vI zf.val m.at_] H
def zn.R (p : Nat) (e : zn.A) (m : zn) : HP := sepL [Blk p 124 [.i m.items, .pointer (some ⟨e.a__p, 0, none⟩), .pointer (some ⟨e.t__p, 0, none⟩), .map (some e.entries_p), .i m.serial], zb.R e.a__p e.a__a m.a_, zi.R e.t__p e.t__a m.t_, MpA e.entries_p zf.val zw.val m.entries]
theorem zn.open {w0 w : World} {As : List HP} {p : Nat} {e : zn.A} {m : zn} (H : St w0 (zn.R p e m :: As) w) : St w0 (Blk p 124 [.i m.items, .pointer (some ⟨e.a__p, 0, none⟩), .pointer (some ⟨e.t__p, 0, none⟩), .map (some e.entries_p), .i m.serial] :: zb.R e.a__p e.a__a m.a_ :: zi.R e.t__p e.t__a m.t_ :: MpA e.entries_p zf.val zw.val m.entries :: As) w := St.flat H
theorem zn.shut {w0 w : World} {As : List HP} {p : Nat} (e : zn.A) (m : zn) (H : St w0 (Blk p 124 [.i m.items, .pointer (some ⟨e.a__p, 0, none⟩), .pointer (some ⟨e.t__p, 0, none⟩), .map (some e.entries_p), .i m.serial] :: zb.R e.a__p e.a__a m.a_ :: zi.R e.t__p e.t__a m.t_ :: MpA e.entries_p zf.val zw.val m.entries :: As) w) : St w0 (zn.R p e m :: As) w := St.group [Blk p 124 [.i m.items, .pointer (some ⟨e.a__p, 0, none⟩), .pointer (some ⟨e.t__p, 0, none⟩), .map (some e.entries_p), .i m.serial], zb.R e.a__p e.a__a m.a_, zi.R e.t__p e.t__a m.t_, MpA e.entries_p zf.val zw.val m.entries] H
def zg.R (p : Nat) (e : zg.A) (m : zg) : HP := sepL [Blk p 170 [.i m.most, .slice e.l_b m.l.length e.l_c, .slice e.free_b m.free.length e.free_c], Sl 172 zq.enc 7 e.l_b e.l_c m.l, Sl 3 ecI 1 e.free_b e.free_c m.free]
theorem zg.open {w0 w : World} {As : List HP} {p : Nat} {e : zg.A} {m : zg} (H : St w0 (zg.R p e m :: As) w) : St w0 (Blk p 170 [.i m.most, .slice e.l_b m.l.length e.l_c, .slice e.free_b m.free.length e.free_c] :: Sl 172 zq.enc 7 e.l_b e.l_c m.l :: Sl 3 ecI 1 e.free_b e.free_c m.free :: As) w := St.flat H
theorem zg.shut {w0 w : World} {As : List HP} {p : Nat} (e : zg.A) (m : zg) (H : St w0 (Blk p 170 [.i m.most, .slice e.l_b m.l.length e.l_c, .slice e.free_b m.free.length e.free_c] :: Sl 172 zq.enc 7 e.l_b e.l_c m.l :: Sl 3 ecI 1 e.free_b e.free_c m.free :: As) w) : St w0 (zg.R p e m :: As) w := St.group [Blk p 170 [.i m.most, .slice e.l_b m.l.length e.l_c, .slice e.free_b m.free.length e.free_c], Sl 172 zq.enc 7 e.l_b e.l_c m.l, Sl 3 ecI 1 e.free_b e.free_c m.free] H
def zm.R (p : Nat) (e : zm.A) (m : zm) : HP := sepL [Blk p 133 [.pointer (some ⟨e.p_p, 0, none⟩), .map (some e.by__p)], zg.R e.p_p e.p_a m.p, MpA e.by__p zf.val zf.val m.by_]
theorem zm.open {w0 w : World} {As : List HP} {p : Nat} {e : zm.A} {m : zm} (H : St w0 (zm.R p e m :: As) w) : St w0 (Blk p 133 [.pointer (some ⟨e.p_p, 0, none⟩), .map (some e.by__p)] :: zg.R e.p_p e.p_a m.p :: MpA e.by__p zf.val zf.val m.by_ :: As) w := St.flat H
theorem zm.shut {w0 w : World} {As : List HP} {p : Nat} (e : zm.A) (m : zm) (H : St w0 (Blk p 133 [.pointer (some ⟨e.p_p, 0, none⟩), .map (some e.by__p)] :: zg.R e.p_p e.p_a m.p :: MpA e.by__p zf.val zf.val m.by_ :: As) w) : St w0 (zm.R p e m :: As) w := St.group [Blk p 133 [.pointer (some ⟨e.p_p, 0, none⟩), .map (some e.by__p)], zg.R e.p_p e.p_a m.p, MpA e.by__p zf.val zf.val m.by_] H
def zJ.R (p : Nat) (m : zJ) : HP := sepL [Blk p 135 [.i m.now]]
theorem zJ.open {w0 w : World} {As : List HP} {p : Nat} {m : zJ} (H : St w0 (zJ.R p m :: As) w) : St w0 (Blk p 135 [.i m.now] :: As) w := St.flat H
theorem zJ.shut {w0 w : World} {As : List HP} {p : Nat} (m : zJ) (H : St w0 (Blk p 135 [.i m.now] :: As) w) : St w0 (zJ.R p m :: As) w := St.group [Blk p 135 [.i m.now]] H
def za.R (p : Nat) (e : za.A) (m : za) : HP := sepL [Blk p 87 [.i m.kind, .i m.most, .pointer (some ⟨e.q_p, 0, none⟩), .i m.heaps0.At, .i m.heaps0.Gen, .i m.heaps1.At, .i m.heaps1.Gen, .pointer (some ⟨e.t__p, 0, none⟩), .map (some e.when_p), .pointer (some ⟨e.clock_p, 0, none⟩), .i m.budget, .i m.last, .i m.top], zn.R e.q_p e.q_a m.q, zm.R e.t__p e.t__a m.t_, MpA e.when_p zf.val vI m.when, zJ.R e.clock_p m.clock]
theorem za.open {w0 w : World} {As : List HP} {p : Nat} {e : za.A} {m : za} (H : St w0 (za.R p e m :: As) w) : St w0 (Blk p 87 [.i m.kind, .i m.most, .pointer (some ⟨e.q_p, 0, none⟩), .i m.heaps0.At, .i m.heaps0.Gen, .i m.heaps1.At, .i m.heaps1.Gen, .pointer (some ⟨e.t__p, 0, none⟩), .map (some e.when_p), .pointer (some ⟨e.clock_p, 0, none⟩), .i m.budget, .i m.last, .i m.top] :: zn.R e.q_p e.q_a m.q :: zm.R e.t__p e.t__a m.t_ :: MpA e.when_p zf.val vI m.when :: zJ.R e.clock_p m.clock :: As) w := St.flat H
theorem za.shut {w0 w : World} {As : List HP} {p : Nat} (e : za.A) (m : za) (H : St w0 (Blk p 87 [.i m.kind, .i m.most, .pointer (some ⟨e.q_p, 0, none⟩), .i m.heaps0.At, .i m.heaps0.Gen, .i m.heaps1.At, .i m.heaps1.Gen, .pointer (some ⟨e.t__p, 0, none⟩), .map (some e.when_p), .pointer (some ⟨e.clock_p, 0, none⟩), .i m.budget, .i m.last, .i m.top] :: zn.R e.q_p e.q_a m.q :: zm.R e.t__p e.t__a m.t_ :: MpA e.when_p zf.val vI m.when :: zJ.R e.clock_p m.clock :: As) w) : St w0 (za.R p e m :: As) w := St.group [Blk p 87 [.i m.kind, .i m.most, .pointer (some ⟨e.q_p, 0, none⟩), .i m.heaps0.At, .i m.heaps0.Gen, .i m.heaps1.At, .i m.heaps1.Gen, .pointer (some ⟨e.t__p, 0, none⟩), .map (some e.when_p), .pointer (some ⟨e.clock_p, 0, none⟩), .i m.budget, .i m.last, .i m.top], zn.R e.q_p e.q_a m.q, zm.R e.t__p e.t__a m.t_, MpA e.when_p zf.val vI m.when, zJ.R e.clock_p m.clock] H
def zj.R (p : Nat) (e : zj.A) (m : zj) : HP := sepL [Blk p 155 [.i m.Most, .slice e.Gens_b m.Gens.length e.Gens_c, .slice e.In_b m.In.length e.In_c, .slice e.V_b m.V.length e.V_c, .slice e.Back_b m.Back.length e.Back_c], Sl 3 ecI 1 e.Gens_b e.Gens_c m.Gens, Sl 4 ecB 1 e.In_b e.In_c m.In, Sl 2 ecI 1 e.V_b e.V_c m.V, Sl 3 ecI 1 e.Back_b e.Back_c m.Back]
theorem zj.open {w0 w : World} {As : List HP} {p : Nat} {e : zj.A} {m : zj} (H : St w0 (zj.R p e m :: As) w) : St w0 (Blk p 155 [.i m.Most, .slice e.Gens_b m.Gens.length e.Gens_c, .slice e.In_b m.In.length e.In_c, .slice e.V_b m.V.length e.V_c, .slice e.Back_b m.Back.length e.Back_c] :: Sl 3 ecI 1 e.Gens_b e.Gens_c m.Gens :: Sl 4 ecB 1 e.In_b e.In_c m.In :: Sl 2 ecI 1 e.V_b e.V_c m.V :: Sl 3 ecI 1 e.Back_b e.Back_c m.Back :: As) w := St.flat H
theorem zj.shut {w0 w : World} {As : List HP} {p : Nat} (e : zj.A) (m : zj) (H : St w0 (Blk p 155 [.i m.Most, .slice e.Gens_b m.Gens.length e.Gens_c, .slice e.In_b m.In.length e.In_c, .slice e.V_b m.V.length e.V_c, .slice e.Back_b m.Back.length e.Back_c] :: Sl 3 ecI 1 e.Gens_b e.Gens_c m.Gens :: Sl 4 ecB 1 e.In_b e.In_c m.In :: Sl 2 ecI 1 e.V_b e.V_c m.V :: Sl 3 ecI 1 e.Back_b e.Back_c m.Back :: As) w) : St w0 (zj.R p e m :: As) w := St.group [Blk p 155 [.i m.Most, .slice e.Gens_b m.Gens.length e.Gens_c, .slice e.In_b m.In.length e.In_c, .slice e.V_b m.V.length e.V_c, .slice e.Back_b m.Back.length e.Back_c], Sl 3 ecI 1 e.Gens_b e.Gens_c m.Gens, Sl 4 ecB 1 e.In_b e.In_c m.In, Sl 2 ecI 1 e.V_b e.V_c m.V, Sl 3 ecI 1 e.Back_b e.Back_c m.Back] H
def zc.R (p : Nat) (e : zc.A) (m : zc) : HP := sepL [Blk p 99 [.i m.Most, .i m.Now, .i m.Next, .pointer (some ⟨e.Pool_p, 0, none⟩), .slice e.L_b m.L.length e.L_c], zj.R e.Pool_p e.Pool_a m.Pool, Sl 112 zB.enc 6 e.L_b e.L_c m.L]
theorem zc.open {w0 w : World} {As : List HP} {p : Nat} {e : zc.A} {m : zc} (H : St w0 (zc.R p e m :: As) w) : St w0 (Blk p 99 [.i m.Most, .i m.Now, .i m.Next, .pointer (some ⟨e.Pool_p, 0, none⟩), .slice e.L_b m.L.length e.L_c] :: zj.R e.Pool_p e.Pool_a m.Pool :: Sl 112 zB.enc 6 e.L_b e.L_c m.L :: As) w := St.flat H
theorem zc.shut {w0 w : World} {As : List HP} {p : Nat} (e : zc.A) (m : zc) (H : St w0 (Blk p 99 [.i m.Most, .i m.Now, .i m.Next, .pointer (some ⟨e.Pool_p, 0, none⟩), .slice e.L_b m.L.length e.L_c] :: zj.R e.Pool_p e.Pool_a m.Pool :: Sl 112 zB.enc 6 e.L_b e.L_c m.L :: As) w) : St w0 (zc.R p e m :: As) w := St.group [Blk p 99 [.i m.Most, .i m.Now, .i m.Next, .pointer (some ⟨e.Pool_p, 0, none⟩), .slice e.L_b m.L.length e.L_c], zj.R e.Pool_p e.Pool_a m.Pool, Sl 112 zB.enc 6 e.L_b e.L_c m.L] H
def zE.R (p : Nat) (e : zE.A) (m : zE) : HP := sepL [Blk p 70 [.pointer (some ⟨e.d_p, 0, none⟩), .pointer (some ⟨e.m__p, 0, none⟩), .i m.k_, .slice e.told_b m.told.length e.told_c], za.R e.d_p e.d_a m.d, zc.R e.m__p e.m__a m.m_, Sl 28 zf.enc 2 e.told_b e.told_c m.told]
theorem zE.open {w0 w : World} {As : List HP} {p : Nat} {e : zE.A} {m : zE} (H : St w0 (zE.R p e m :: As) w) : St w0 (Blk p 70 [.pointer (some ⟨e.d_p, 0, none⟩), .pointer (some ⟨e.m__p, 0, none⟩), .i m.k_, .slice e.told_b m.told.length e.told_c] :: za.R e.d_p e.d_a m.d :: zc.R e.m__p e.m__a m.m_ :: Sl 28 zf.enc 2 e.told_b e.told_c m.told :: As) w := St.flat H
theorem zE.shut {w0 w : World} {As : List HP} {p : Nat} (e : zE.A) (m : zE) (H : St w0 (Blk p 70 [.pointer (some ⟨e.d_p, 0, none⟩), .pointer (some ⟨e.m__p, 0, none⟩), .i m.k_, .slice e.told_b m.told.length e.told_c] :: za.R e.d_p e.d_a m.d :: zc.R e.m__p e.m__a m.m_ :: Sl 28 zf.enc 2 e.told_b e.told_c m.told :: As) w) : St w0 (zE.R p e m :: As) w := St.group [Blk p 70 [.pointer (some ⟨e.d_p, 0, none⟩), .pointer (some ⟨e.m__p, 0, none⟩), .i m.k_, .slice e.told_b m.told.length e.told_c], za.R e.d_p e.d_a m.d, zc.R e.m__p e.m__a m.m_, Sl 28 zf.enc 2 e.told_b e.told_c m.told] H
def zd.R (p : Nat) (e : zd.A) (m : zd) : HP := sepL [Blk p 35 [.pointer (some ⟨e.d_p, 0, none⟩), .pointer (some ⟨e.m__p, 0, none⟩), .i m.k_, .slice e.told_b m.told.length e.told_c], za.R e.d_p e.d_a m.d, zc.R e.m__p e.m__a m.m_, Sl 28 zf.enc 2 e.told_b e.told_c m.told]
theorem zd.open {w0 w : World} {As : List HP} {p : Nat} {e : zd.A} {m : zd} (H : St w0 (zd.R p e m :: As) w) : St w0 (Blk p 35 [.pointer (some ⟨e.d_p, 0, none⟩), .pointer (some ⟨e.m__p, 0, none⟩), .i m.k_, .slice e.told_b m.told.length e.told_c] :: za.R e.d_p e.d_a m.d :: zc.R e.m__p e.m__a m.m_ :: Sl 28 zf.enc 2 e.told_b e.told_c m.told :: As) w := St.flat H
theorem zd.shut {w0 w : World} {As : List HP} {p : Nat} (e : zd.A) (m : zd) (H : St w0 (Blk p 35 [.pointer (some ⟨e.d_p, 0, none⟩), .pointer (some ⟨e.m__p, 0, none⟩), .i m.k_, .slice e.told_b m.told.length e.told_c] :: za.R e.d_p e.d_a m.d :: zc.R e.m__p e.m__a m.m_ :: Sl 28 zf.enc 2 e.told_b e.told_c m.told :: As) w) : St w0 (zd.R p e m :: As) w := St.group [Blk p 35 [.pointer (some ⟨e.d_p, 0, none⟩), .pointer (some ⟨e.m__p, 0, none⟩), .i m.k_, .slice e.told_b m.told.length e.told_c], za.R e.d_p e.d_a m.d, zc.R e.m__p e.m__a m.m_, Sl 28 zf.enc 2 e.told_b e.told_c m.told] H
def zX.dec (l : List Value) : Option zX := match l with
  | [.int _ x1, .int _ x2, .int _ x3, .int _ x4, .int _ x5, .int _ x6, .int _ x7, .int _ x8, .int _ x9] => some (zX.mk x1 x2 (zf.mk x3 x4) (zf.mk x5 x6) (zf.mk x7 x8) x9)
  | _ => none
def zX.dv (v : Value) : Option zX := match v with
  | .agg cs => zX.dec cs.toList
  | _ => none
def zf.dec (l : List Value) : Option zf := match l with
  | [.int _ x1, .int _ x2] => some (zf.mk x1 x2)
  | _ => none
def zf.dv (v : Value) : Option zf := match v with
  | .agg cs => zf.dec cs.toList
  | _ => none
def zA.dec (l : List Value) : Option zA := match l with
  | [.int _ x1, .int _ x2, .int _ x3] => some (zA.mk x1 x2 x3)
  | _ => none
def zA.dv (v : Value) : Option zA := match v with
  | .agg cs => zA.dec cs.toList
  | _ => none
def zH.dec (l : List Value) : Option zH := match l with
  | [.int _ x1, .int _ x2, .int _ x3, .int _ x4, .int _ x5, .int _ x6, .int _ x7, .int _ x8] => some (zH.mk x1 (zf.mk x2 x3) (zf.mk x4 x5) (zw.mk x6 x7) x8)
  | _ => none
def zH.dv (v : Value) : Option zH := match v with
  | .agg cs => zH.dec cs.toList
  | _ => none
def zr.dec (l : List Value) : Option zr := match l with
  | [.int _ x1, .int _ x2, .int _ x3, .int _ x4, .int _ x5, .int _ x6, .int _ x7, .int _ x8, .int _ x9, .int _ x10, .bool x11] => some (zr.mk x1 x2 x3 x4 x5 x6 x7 x8 x9 x10 x11)
  | _ => none
def zr.dv (v : Value) : Option zr := match v with
  | .agg cs => zr.dec cs.toList
  | _ => none
def zw.dec (l : List Value) : Option zw := match l with
  | [.int _ x1, .int _ x2] => some (zw.mk x1 x2)
  | _ => none
def zw.dv (v : Value) : Option zw := match v with
  | .agg cs => zw.dec cs.toList
  | _ => none
def zk.dec (l : List Value) : Option zk := match l with
  | [.int _ x1, .int _ x2] => some (zk.mk x1 x2)
  | _ => none
def zk.dv (v : Value) : Option zk := match v with
  | .agg cs => zk.dec cs.toList
  | _ => none
def zy.dec (l : List Value) : Option zy := match l with
  | [.int _ x1, .int _ x2, .int _ x3] => some (zy.mk x1 (zf.mk x2 x3))
  | _ => none
def zy.dv (v : Value) : Option zy := match v with
  | .agg cs => zy.dec cs.toList
  | _ => none
def zo.dec (l : List Value) : Option zo := match l with
  | [.int _ x1, .int _ x2, .int _ x3, .int _ x4, .int _ x5, .int _ x6] => some (zo.mk x1 (zf.mk x2 x3) x4 x5 x6)
  | _ => none
def zo.dv (v : Value) : Option zo := match v with
  | .agg cs => zo.dec cs.toList
  | _ => none
def zz.dec (l : List Value) : Option zz := match l with
  | [.int _ x1, .int _ x2, .int _ x3, .int _ x4, .int _ x5] => some (zz.mk x1 x2 x3 (zf.mk x4 x5))
  | _ => none
def zz.dv (v : Value) : Option zz := match v with
  | .agg cs => zz.dec cs.toList
  | _ => none
def zt.dec (l : List Value) : Option zt := match l with
  | [.int _ x1, .int _ x2, .int _ x3, .int _ x4, .int _ x5, .int _ x6] => some (zt.mk x1 x2 (zf.mk x3 x4) x5 x6)
  | _ => none
def zt.dv (v : Value) : Option zt := match v with
  | .agg cs => zt.dec cs.toList
  | _ => none
def zB.dec (l : List Value) : Option zB := match l with
  | [.int _ x1, .int _ x2, .int _ x3, .int _ x4, .int _ x5, .int _ x6] => some (zB.mk x1 x2 (zw.mk x3 x4) (zf.mk x5 x6))
  | _ => none
def zB.dv (v : Value) : Option zB := match v with
  | .agg cs => zB.dec cs.toList
  | _ => none
def yu.dec (l : List Value) : Option yu := match l with
  | [.int _ x1, .int _ x2, .int _ x3, .int _ x4, .int _ x5, .int _ x6, .int _ x7, .int _ x8, .int _ x9, .int _ x10, .int _ x11] => some (yu.mk x1 x2 x3 x4 x5 (zt.mk x6 x7 (zf.mk x8 x9) x10 x11))
  | _ => none
def yu.dv (v : Value) : Option yu := match v with
  | .agg cs => yu.dec cs.toList
  | _ => none
def zs.dec (l : List Value) : Option zs := match l with
  | [.int _ x1, .bool x2, .int _ x3, .int _ x4, .int _ x5] => some (zs.mk x1 x2 (zA.mk x3 x4 x5))
  | _ => none
def zs.dv (v : Value) : Option zs := match v with
  | .agg cs => zs.dec cs.toList
  | _ => none
def zp.dec (l : List Value) : Option zp := match l with
  | [.int _ x1, .bool x2, .int _ x3, .int _ x4, .int _ x5] => some (zp.mk x1 x2 (zy.mk x3 (zf.mk x4 x5)))
  | _ => none
def zp.dv (v : Value) : Option zp := match v with
  | .agg cs => zp.dec cs.toList
  | _ => none
def zq.dec (l : List Value) : Option zq := match l with
  | [.int _ x1, .bool x2, .int _ x3, .int _ x4, .int _ x5, .int _ x6, .int _ x7] => some (zq.mk x1 x2 (zz.mk x3 x4 x5 (zf.mk x6 x7)))
  | _ => none
def zq.dv (v : Value) : Option zq := match v with
  | .agg cs => zq.dec cs.toList
  | _ => none
def y6.dec (l : List Value) : Option y6 := match l with
  | [.int _ x1, .int _ x2, .int _ x3, .int _ x4, .int _ x5, .int _ x6, .int _ x7, .int _ x8, .int _ x9, .int _ x10, .int _ x11, .int _ x12, .int _ x13, .int _ x14] => some (y6.mk (zt.mk x1 x2 (zf.mk x3 x4) x5 x6) (zo.mk x7 (zf.mk x8 x9) x10 x11 x12) x13 x14)
  | _ => none
def y6.dv (v : Value) : Option y6 := match v with
  | .agg cs => y6.dec cs.toList
  | _ => none
def elV : Nat -> ElD
  | 0 => ⟨zr, zr.enc, 11, zr.yK, zr.dec⟩
  | 1 => ⟨Int, ecI, 1, xW, dI⟩
  | 2 => ⟨zs, zs.enc, 5, zs.yK, zs.dec⟩
  | 3 => ⟨zp, zp.enc, 5, zp.yK, zp.dec⟩
  | 4 => ⟨zq, zq.enc, 7, zq.yK, zq.dec⟩
  | 5 => ⟨zk, zk.enc, 2, zk.yK, zk.dec⟩
  | 6 => ⟨zf, zf.enc, 2, zf.yK, zf.dec⟩
  | 7 => ⟨Bool, ecB, 1, cq, dB⟩
  | 8 => ⟨Int, ecI, 1, xW, dI⟩
  | 9 => ⟨zB, zB.enc, 6, zB.yK, zB.dec⟩
  | 10 => ⟨zt, zt.enc, 6, zt.yK, zt.dec⟩
  | 11 => ⟨y6, y6.enc, 14, y6.yK, y6.dec⟩
  | 12 => ⟨zo, zo.enc, 6, zo.yK, zo.dec⟩
  | 13 => ⟨yu, yu.enc, 11, yu.yK, yu.dec⟩
  | 14 => ⟨zw, zw.enc, 2, zw.yK, zw.dec⟩
  | _ => ⟨Int, ecI, 1, xW, dI⟩
def mpV : Nat -> MpD
  | 0 => ⟨Int, zf, vI, zf.val, dvI, zf.dv, kI⟩
  | 1 => ⟨zf, zw, zf.val, zw.val, zf.dv, zw.dv, zf.eq⟩
  | 2 => ⟨zf, zf, zf.val, zf.val, zf.dv, zf.dv, zf.eq⟩
  | 3 => ⟨zf, Int, zf.val, vI, zf.dv, dvI, zf.eq⟩
  | 4 => ⟨Int, Int, vI, vI, dvI, dvI, kI⟩
  | _ => ⟨Int, Int, vI, vI, dvI, dvI, kI⟩
def El : Ev := ⟨elV, mpV⟩
def zf.eqD : EqD pG := ⟨zf, 28, fun x => #[.i x.At, .i x.Gen], zf.dv, zf.eq, zf.p3⟩
def zo.eqD : EqD pG := ⟨zo, 30, fun x => #[.i x.Why, .i x.Job.At, .i x.Job.Gen, .i x.Time, .i x.Data, .i x.N], zo.dv, zo.eq, zo.p3⟩
def zw.eqD : EqD pG := ⟨zw, 57, fun x => #[.i x.Key, .i x.Serial], zw.dv, zw.eq, zw.p3⟩
def zC.D : OD El := ⟨Unit, zC, fun p e m => [.blk p 162 [.i m.steps, .i m.begun, .i m.most]], fun l => match l with
  | .blk _ _ [.int _ x1, .int _ x2, .int _ x3] :: r => some ((), zC.mk x1 x2 x3, r)
  | _ => none⟩
def zb.D : OD El := ⟨zb.A, zb, fun p e m => [.blk p 160 [.slice e.l_b m.l.length e.l_c, .i m.never, .slice e.free_b m.free.length e.free_c, .pointer (some ⟨e.m__p, 0, none⟩)]] ++ [.sl 0 247 e.l_b e.l_c m.l] ++ [.sl 1 3 e.free_b e.free_c m.free] ++ zC.D.flat e.m__p () m.m_, fun l => match l with
  | .blk _ _ [_, .int _ x2, _, .pointer (some ⟨x5, _, _⟩)] :: r => (rS 0 r).bind fun (x1, x6) => (rS 1 x6).bind fun (x3, x7) => (zC.D.rd x7).bind fun (s, j, x8) => some (zb.A.mk x1.1 x1.2.1 x3.1 x3.2.1 x5, zb.mk x1.2.2 x2 x3.2.2 j, x8)
  | _ => none⟩
def zh.D : OD El := ⟨zh.A, zh, fun p e m => [.blk p 218 [.i m.most, .slice e.l_b m.l.length e.l_c, .slice e.free_b m.free.length e.free_c]] ++ [.sl 2 223 e.l_b e.l_c m.l] ++ [.sl 1 3 e.free_b e.free_c m.free], fun l => match l with
  | .blk _ _ [.int _ x1, _, _] :: r => (rS 2 r).bind fun (x2, x4) => (rS 1 x4).bind fun (x3, x5) => some (zh.A.mk x2.1 x2.2.1 x3.1 x3.2.1, zh.mk x1 x2.2.2 x3.2.2, x5)
  | _ => none⟩
def ze.D : OD El := ⟨ze.A, ze, fun p e m => [.blk p 221 [.i m.most, .slice e.l_b m.l.length e.l_c, .slice e.free_b m.free.length e.free_c]] ++ [.sl 3 255 e.l_b e.l_c m.l] ++ [.sl 1 3 e.free_b e.free_c m.free], fun l => match l with
  | .blk _ _ [.int _ x1, _, _] :: r => (rS 3 r).bind fun (x2, x4) => (rS 1 x4).bind fun (x3, x5) => some (ze.A.mk x2.1 x2.2.1 x3.1 x3.2.1, ze.mk x1 x2.2.2 x3.2.2, x5)
  | _ => none⟩
def zi.D : OD El := ⟨zi.A, zi, fun p e m => [.blk p 189 [.pointer (some ⟨e.heaps_p, 0, none⟩), .pointer (some ⟨e.items_p, 0, none⟩), .map (some e.at__p)]] ++ zh.D.flat e.heaps_p e.heaps_a m.heaps ++ ze.D.flat e.items_p e.items_a m.items ++ [.mp 0 e.at__p m.at_], fun l => match l with
  | .blk _ _ [.pointer (some ⟨x2, _, _⟩), .pointer (some ⟨x4, _, _⟩), _] :: r => (zh.D.rd r).bind fun (x11, x12, x6) => (ze.D.rd x6).bind fun (i, j, x7) => (rM 0 x7).bind fun (x5, x8) => some (zi.A.mk x2 x11 x4 i x5.1, zi.mk x12 j x5.2, x8)
  | _ => none⟩
def zn.D : OD El := ⟨zn.A, zn, fun p e m => [.blk p 124 [.i m.items, .pointer (some ⟨e.a__p, 0, none⟩), .pointer (some ⟨e.t__p, 0, none⟩), .map (some e.entries_p), .i m.serial]] ++ zb.D.flat e.a__p e.a__a m.a_ ++ zi.D.flat e.t__p e.t__a m.t_ ++ [.mp 1 e.entries_p m.entries], fun l => match l with
  | .blk _ _ [.int _ x1, .pointer (some ⟨x3, _, _⟩), .pointer (some ⟨x5, _, _⟩), _, .int _ x7] :: r => (zb.D.rd r).bind fun (j, s, x8) => (zi.D.rd x8).bind fun (t, u, x9) => (rM 1 x9).bind fun (x6, x10) => some (zn.A.mk x3 j x5 t x6.1, zn.mk x1 s u x6.2 x7, x10)
  | _ => none⟩
def zg.D : OD El := ⟨zg.A, zg, fun p e m => [.blk p 170 [.i m.most, .slice e.l_b m.l.length e.l_c, .slice e.free_b m.free.length e.free_c]] ++ [.sl 4 172 e.l_b e.l_c m.l] ++ [.sl 1 3 e.free_b e.free_c m.free], fun l => match l with
  | .blk _ _ [.int _ x1, _, _] :: r => (rS 4 r).bind fun (x2, x4) => (rS 1 x4).bind fun (x3, x5) => some (zg.A.mk x2.1 x2.2.1 x3.1 x3.2.1, zg.mk x1 x2.2.2 x3.2.2, x5)
  | _ => none⟩
def zm.D : OD El := ⟨zm.A, zm, fun p e m => [.blk p 133 [.pointer (some ⟨e.p_p, 0, none⟩), .map (some e.by__p)]] ++ zg.D.flat e.p_p e.p_a m.p ++ [.mp 2 e.by__p m.by_], fun l => match l with
  | .blk _ _ [.pointer (some ⟨x2, _, _⟩), _] :: r => (zg.D.rd r).bind fun (x11, x12, x4) => (rM 2 x4).bind fun (x3, x5) => some (zm.A.mk x2 x11 x3.1, zm.mk x12 x3.2, x5)
  | _ => none⟩
def zJ.D : OD El := ⟨Unit, zJ, fun p e m => [.blk p 135 [.i m.now]], fun l => match l with
  | .blk _ _ [.int _ x1] :: r => some ((), zJ.mk x1, r)
  | _ => none⟩
def za.D : OD El := ⟨za.A, za, fun p e m => [.blk p 87 [.i m.kind, .i m.most, .pointer (some ⟨e.q_p, 0, none⟩), .i m.heaps0.At, .i m.heaps0.Gen, .i m.heaps1.At, .i m.heaps1.Gen, .pointer (some ⟨e.t__p, 0, none⟩), .map (some e.when_p), .pointer (some ⟨e.clock_p, 0, none⟩), .i m.budget, .i m.last, .i m.top]] ++ zn.D.flat e.q_p e.q_a m.q ++ zm.D.flat e.t__p e.t__a m.t_ ++ [.mp 3 e.when_p m.when] ++ zJ.D.flat e.clock_p () m.clock, fun l => match l with
  | .blk _ _ [.int _ x1, .int _ x2, .pointer (some ⟨x4, _, _⟩), .int _ x5, .int _ x6, .int _ x7, .int _ x8, .pointer (some ⟨x10, _, _⟩), _, .pointer (some ⟨x13, _, _⟩), .int _ x14, .int _ s, .int _ t] :: r => (zn.D.rd r).bind fun (u, x, y) => (zm.D.rd y).bind fun (z, B, F) => (rM 3 F).bind fun (x11, I) => (zJ.D.rd I).bind fun (O, j, J) => some (za.A.mk x4 u x10 z x11.1 x13, za.mk x1 x2 x (zf.mk x5 x6) (zf.mk x7 x8) B x11.2 j x14 s t, J)
  | _ => none⟩
def zj.D : OD El := ⟨zj.A, zj, fun p e m => [.blk p 155 [.i m.Most, .slice e.Gens_b m.Gens.length e.Gens_c, .slice e.In_b m.In.length e.In_c, .slice e.V_b m.V.length e.V_c, .slice e.Back_b m.Back.length e.Back_c]] ++ [.sl 1 3 e.Gens_b e.Gens_c m.Gens] ++ [.sl 7 4 e.In_b e.In_c m.In] ++ [.sl 8 2 e.V_b e.V_c m.V] ++ [.sl 1 3 e.Back_b e.Back_c m.Back], fun l => match l with
  | .blk _ _ [.int _ x1, _, _, _, _] :: r => (rS 1 r).bind fun (x2, x6) => (rS 7 x6).bind fun (x3, x7) => (rS 8 x7).bind fun (x4, x8) => (rS 1 x8).bind fun (x5, x9) => some (zj.A.mk x2.1 x2.2.1 x3.1 x3.2.1 x4.1 x4.2.1 x5.1 x5.2.1, zj.mk x1 x2.2.2 x3.2.2 x4.2.2 x5.2.2, x9)
  | _ => none⟩
def zc.D : OD El := ⟨zc.A, zc, fun p e m => [.blk p 99 [.i m.Most, .i m.Now, .i m.Next, .pointer (some ⟨e.Pool_p, 0, none⟩), .slice e.L_b m.L.length e.L_c]] ++ zj.D.flat e.Pool_p e.Pool_a m.Pool ++ [.sl 9 112 e.L_b e.L_c m.L], fun l => match l with
  | .blk _ _ [.int _ x1, .int _ x2, .int _ x3, .pointer (some ⟨x5, _, _⟩), _] :: r => (zj.D.rd r).bind fun (j, s, x7) => (rS 9 x7).bind fun (x6, x8) => some (zc.A.mk x5 j x6.1 x6.2.1, zc.mk x1 x2 x3 s x6.2.2, x8)
  | _ => none⟩
def zE.D : OD El := ⟨zE.A, zE, fun p e m => [.blk p 70 [.pointer (some ⟨e.d_p, 0, none⟩), .pointer (some ⟨e.m__p, 0, none⟩), .i m.k_, .slice e.told_b m.told.length e.told_c]] ++ za.D.flat e.d_p e.d_a m.d ++ zc.D.flat e.m__p e.m__a m.m_ ++ [.sl 6 28 e.told_b e.told_c m.told], fun l => match l with
  | .blk _ _ [.pointer (some ⟨x2, _, _⟩), .pointer (some ⟨x4, _, _⟩), .int _ x5, _] :: r => (za.D.rd r).bind fun (x11, x12, x7) => (zc.D.rd x7).bind fun (j, s, x8) => (rS 6 x8).bind fun (x6, x9) => some (zE.A.mk x2 x11 x4 j x6.1 x6.2.1, zE.mk x12 s x5 x6.2.2, x9)
  | _ => none⟩
def zd.D : OD El := ⟨zd.A, zd, fun p e m => [.blk p 35 [.pointer (some ⟨e.d_p, 0, none⟩), .pointer (some ⟨e.m__p, 0, none⟩), .i m.k_, .slice e.told_b m.told.length e.told_c]] ++ za.D.flat e.d_p e.d_a m.d ++ zc.D.flat e.m__p e.m__a m.m_ ++ [.sl 6 28 e.told_b e.told_c m.told], fun l => match l with
  | .blk _ _ [.pointer (some ⟨x2, _, _⟩), .pointer (some ⟨x4, _, _⟩), .int _ x5, _] :: r => (za.D.rd r).bind fun (x11, x12, x7) => (zc.D.rd x7).bind fun (j, s, x8) => (rS 6 x8).bind fun (x6, x9) => some (zd.A.mk x2 x11 x4 j x6.1 x6.2.1, zd.mk x12 s x5 x6.2.2, x9)
  | _ => none⟩
theorem zC.D_st {w0 w : World} {As : List HP} {p : Nat} {m : zC} : St w0 (zC.R p m :: As) w ↔ St w0 ((zC.D.flat p () m).map Atom.den ++ As) w := by
  refine Iff.trans ⟨fun H => zC.open H, fun H => zC.shut m H⟩ ?_;exact Iff.rfl
theorem zb.D_st {w0 w : World} {As : List HP} {p : Nat} {e : zb.A} {m : zb} : St w0 (zb.R p e m :: As) w ↔ St w0 ((zb.D.flat p e m).map Atom.den ++ As) w := by
  refine Iff.trans ⟨fun H => zb.open H, fun H => zb.shut e m H⟩ ?_;refine Iff.trans (fs3 fun As => zC.D_st) ?_;exact Iff.rfl
theorem zh.D_st {w0 w : World} {As : List HP} {p : Nat} {e : zh.A} {m : zh} : St w0 (zh.R p e m :: As) w ↔ St w0 ((zh.D.flat p e m).map Atom.den ++ As) w := by
  refine Iff.trans ⟨fun H => zh.open H, fun H => zh.shut e m H⟩ ?_;exact Iff.rfl
theorem ze.D_st {w0 w : World} {As : List HP} {p : Nat} {e : ze.A} {m : ze} : St w0 (ze.R p e m :: As) w ↔ St w0 ((ze.D.flat p e m).map Atom.den ++ As) w := by
  refine Iff.trans ⟨fun H => ze.open H, fun H => ze.shut e m H⟩ ?_;exact Iff.rfl
theorem zi.D_st {w0 w : World} {As : List HP} {p : Nat} {e : zi.A} {m : zi} : St w0 (zi.R p e m :: As) w ↔ St w0 ((zi.D.flat p e m).map Atom.den ++ As) w := by
  refine Iff.trans ⟨fun H => zi.open H, fun H => zi.shut e m H⟩ ?_;refine Iff.trans (fs2 fun As => ze.D_st) ?_;refine Iff.trans (fs1 fun As => zh.D_st) ?_;exact Iff.rfl
theorem zn.D_st {w0 w : World} {As : List HP} {p : Nat} {e : zn.A} {m : zn} : St w0 (zn.R p e m :: As) w ↔ St w0 ((zn.D.flat p e m).map Atom.den ++ As) w := by
  refine Iff.trans ⟨fun H => zn.open H, fun H => zn.shut e m H⟩ ?_;refine Iff.trans (fs2 fun As => zi.D_st) ?_;refine Iff.trans (fs1 fun As => zb.D_st) ?_;exact Iff.rfl
theorem zg.D_st {w0 w : World} {As : List HP} {p : Nat} {e : zg.A} {m : zg} : St w0 (zg.R p e m :: As) w ↔ St w0 ((zg.D.flat p e m).map Atom.den ++ As) w := by
  refine Iff.trans ⟨fun H => zg.open H, fun H => zg.shut e m H⟩ ?_;exact Iff.rfl
theorem zm.D_st {w0 w : World} {As : List HP} {p : Nat} {e : zm.A} {m : zm} : St w0 (zm.R p e m :: As) w ↔ St w0 ((zm.D.flat p e m).map Atom.den ++ As) w := by
  refine Iff.trans ⟨fun H => zm.open H, fun H => zm.shut e m H⟩ ?_;refine Iff.trans (fs1 fun As => zg.D_st) ?_;exact Iff.rfl
theorem zJ.D_st {w0 w : World} {As : List HP} {p : Nat} {m : zJ} : St w0 (zJ.R p m :: As) w ↔ St w0 ((zJ.D.flat p () m).map Atom.den ++ As) w := by
  refine Iff.trans ⟨fun H => zJ.open H, fun H => zJ.shut m H⟩ ?_;exact Iff.rfl
theorem za.D_st {w0 w : World} {As : List HP} {p : Nat} {e : za.A} {m : za} : St w0 (za.R p e m :: As) w ↔ St w0 ((za.D.flat p e m).map Atom.den ++ As) w := by
  refine Iff.trans ⟨fun H => za.open H, fun H => za.shut e m H⟩ ?_;refine Iff.trans (fs4 fun As => zJ.D_st) ?_;refine Iff.trans (fs2 fun As => zm.D_st) ?_;refine Iff.trans (fs1 fun As => zn.D_st) ?_;exact Iff.rfl
theorem zj.D_st {w0 w : World} {As : List HP} {p : Nat} {e : zj.A} {m : zj} : St w0 (zj.R p e m :: As) w ↔ St w0 ((zj.D.flat p e m).map Atom.den ++ As) w := by
  refine Iff.trans ⟨fun H => zj.open H, fun H => zj.shut e m H⟩ ?_;exact Iff.rfl
theorem zc.D_st {w0 w : World} {As : List HP} {p : Nat} {e : zc.A} {m : zc} : St w0 (zc.R p e m :: As) w ↔ St w0 ((zc.D.flat p e m).map Atom.den ++ As) w := by
  refine Iff.trans ⟨fun H => zc.open H, fun H => zc.shut e m H⟩ ?_;refine Iff.trans (fs1 fun As => zj.D_st) ?_;exact Iff.rfl
theorem zE.D_st {w0 w : World} {As : List HP} {p : Nat} {e : zE.A} {m : zE} : St w0 (zE.R p e m :: As) w ↔ St w0 ((zE.D.flat p e m).map Atom.den ++ As) w := by
  refine Iff.trans ⟨fun H => zE.open H, fun H => zE.shut e m H⟩ ?_;refine Iff.trans (fs2 fun As => zc.D_st) ?_;refine Iff.trans (fs1 fun As => za.D_st) ?_;exact Iff.rfl
theorem zd.D_st {w0 w : World} {As : List HP} {p : Nat} {e : zd.A} {m : zd} : St w0 (zd.R p e m :: As) w ↔ St w0 ((zd.D.flat p e m).map Atom.den ++ As) w := by
  refine Iff.trans ⟨fun H => zd.open H, fun H => zd.shut e m H⟩ ?_;refine Iff.trans (fs2 fun As => zc.D_st) ?_;refine Iff.trans (fs1 fun As => za.D_st) ?_;exact Iff.rfl
abbrev C20p : List (PK El) := [pI .i64, pI .i64, pI .i64]
def C20 : Con El := zG 20 C20p (fun e => xe e.1 e.2.1 e.2.2.1) 0 0 (fun e t j l => .i t) (fun e t j l => [])
theorem S20 : (C20).Sound pG :=
  fsn mixed (C20) (n := 33) (rs := rsOf pG 20) [] [] (gj (gI 6) []) (fun i => (.g 1 (.g 4 (.pj 10 (Bool) mB (gB 14) (fun st j => ([(14, .bool j)] ++ kp [0, 1, 2] st, ka [] st)) (.g 4 .leaf) (.g 4 .leaf) (.cond (.g 2 .ret) (.g 5 (.s (.gd 0 (.tmp 20) 0) (.s (.seg 2 [.Q 0]) (.g 2 (.join (Int) 0 0 (gj (gI 0) []) (fun e j l t => ([(0, .i j)] ++ kp [1] e, ka [] e)) (.cond (.g 7 .leaf) .leaf) (.g 4 .ret))))))))))) Tryz.func20
def K20 : SCon El pG := ⟨C20, S20, Tryz.call20⟩
abbrev C51p : List (PK El) := [pI .i64]
def C51 : Con El := zG 51 C51p (fun e => um e.1) 0 0 (fun e t i j => .bool t) (fun e t i j => [])
theorem S51 : (C51).Sound pG :=
  fsn mixed (C51) (n := 9) (rs := rsOf pG 51) [] [] (gj (gB 2) []) (fun i => (.g 1 (.g 3 (.pj 5 (Bool) mB (gB 2) (fun st e => ([(2, .bool e)] ++ kp [] st, ka [] st)) (.g 4 .leaf) (.g 4 .leaf) .ret)))) Tryz.func51
def K51 : SCon El pG := ⟨C51, S51, Tryz.call51⟩
theorem mG {w0 w : World} {As : List HP} {x : Int} {t : Int}  (hm : bits_Len64 x = some t) (H : St w0 (As) w) :
    yX pG 202 #[.int .u64 x] w fun v w' => v = .i t /\ St w0 (As) w' := by
 rw [bits_Len64] at hm;refine enter (args := [.int .u64 x]) Tryz.func202 rfl rfl rfl fun a j => ?_
 refine Runs.sr ?_;refine WR.seg j 1 [] [0, 2] (Lo := [(0, .int .u64 x), (2, .i 0)]) (obs := []) rfl (by kernel_rfl) trivial fun a j => ?_
 refine WR.done rfl ?_;refine Runs.seq ?_;refine Runs.sr ?_;refine WR.e0 j [(4, .bool (decide (x >= 4294967296)))] fun a j => ?_
 obtain ⟨s, es, hm⟩ := bind_some hm;refine Runs.join (fun a w => zV 25 a [(0, .int .u64 s.1), (2, .i s.2)] /\ St w0 (As) w) (fun hk => ?_) ?_
 ·replace hm := es; clear es;refine Runs.cond j rfl (fun c => ?_) (fun c => ?_)
  ·replace hm := wh c hm;refine Runs.sr ?_;refine WR.e j [] [(0, .int .u64 (Int.fdiv x (2 ^ (min (Int.toNat 32) 64))))] (obs := [.p (0 <= (32 : Int))]) ⟨(by show _ <= _; decide), trivial⟩ fun a j => ?_
   refine Runs.region ?_;refine WR.e0 j [(2, .i 32)] fun a j => ?_
   cases hm;exact hk _ _ ⟨j.sel [0, 2] (by kernel_rfl), H⟩
  ·replace hm := wg c hm;refine Runs.skip ?_;cases hm;exact hk _ _ ⟨j.sel [0, 2] (by kernel_rfl), H⟩
 rintro a w ⟨j, H⟩;refine Runs.seq ?_;refine Runs.sr ?_;refine WR.seg j 2 [] [0, 2, 8] (Lo := [(0, .int .u64 s.1), (2, .i s.2), (8, .bool (decide (s.1 >= 65536)))]) (obs := []) rfl (by kernel_rfl) trivial fun a j => ?_
 refine WR.done rfl ?_;obtain ⟨s1, l, hm⟩ := bind_some hm;refine Runs.join (fun a w => zV 25 a [(0, .int .u64 s1.1), (2, .i s1.2)] /\ St w0 (As) w) (fun hk => ?_) ?_
 ·replace hm := l; clear l;refine Runs.cond j rfl (fun c => ?_) (fun c => ?_)
  ·replace hm := wh c hm;refine Runs.sr ?_;refine WR.e j [] [(0, .int .u64 (Int.fdiv s.1 (2 ^ (min (Int.toNat 16) 64))))] (obs := [.p (0 <= (16 : Int))]) ⟨(by show _ <= _; decide), trivial⟩ fun a j => ?_
   refine Runs.region ?_;refine WR.e0 j [(2, .i (w64 (s.2 + 16)))] fun a j => ?_
   cases hm;exact hk _ _ ⟨j.sel [0, 2] (by kernel_rfl), H⟩
  ·replace hm := wg c hm;refine Runs.skip ?_;cases hm;exact hk _ _ ⟨j.sel [0, 2] (by kernel_rfl), H⟩
 rintro a w ⟨j, H⟩;refine Runs.seq ?_;refine Runs.sr ?_;refine WR.seg j 2 [] [0, 2, 14] (Lo := [(0, .int .u64 s1.1), (2, .i s1.2), (14, .bool (decide (s1.1 >= 256)))]) (obs := []) rfl (by kernel_rfl) trivial fun a j => ?_
 refine WR.done rfl ?_;obtain ⟨s2, y, hm⟩ := bind_some hm;refine Runs.join (fun a w => zV 25 a [(0, .int .u64 s2.1), (2, .i s2.2)] /\ St w0 (As) w) (fun hk => ?_) ?_
 ·replace hm := y; clear y;refine Runs.cond j rfl (fun c => ?_) (fun c => ?_)
  ·replace hm := wh c hm;refine Runs.sr ?_;refine WR.e j [] [(0, .int .u64 (Int.fdiv s1.1 (2 ^ (min (Int.toNat 8) 64))))] (obs := [.p (0 <= (8 : Int))]) ⟨(by show _ <= _; decide), trivial⟩ fun a j => ?_
   refine Runs.region ?_;refine WR.e0 j [(2, .i (w64 (s1.2 + 8)))] fun a j => ?_
   cases hm;exact hk _ _ ⟨j.sel [0, 2] (by kernel_rfl), H⟩
  ·replace hm := wg c hm;refine Runs.skip ?_;cases hm;exact hk _ _ ⟨j.sel [0, 2] (by kernel_rfl), H⟩
 rintro a w ⟨j, H⟩;refine Runs.sr ?_;obtain ⟨z, A, hm⟩ := bind_some hm;refine WR.seg j 7 [.int .u8 z] [2] (Lo := [(2, .i (w64 (s2.2 + (w64 (z)))))]) (obs := [.p (0 <= (IntKind.wrap .u8 (s2.1)) /\ ∃ u, (ByteArray.mk #[0, 1, 2, 2, 3, 3, 3, 3, 4, 4, 4, 4, 4, 4, 4, 4, 5, 5, 5, 5, 5, 5, 5, 5, 5, 5, 5, 5, 5, 5, 5, 5, 6, 6, 6, 6, 6, 6, 6, 6, 6, 6, 6, 6, 6, 6, 6, 6, 6, 6, 6, 6, 6, 6, 6, 6, 6, 6, 6, 6, 6, 6, 6, 6, 7, 7, 7, 7, 7, 7, 7, 7, 7, 7, 7, 7, 7, 7, 7, 7, 7, 7, 7, 7, 7, 7, 7, 7, 7, 7, 7, 7, 7, 7, 7, 7, 7, 7, 7, 7, 7, 7, 7, 7, 7, 7, 7, 7, 7, 7, 7, 7, 7, 7, 7, 7, 7, 7, 7, 7, 7, 7, 7, 7, 7, 7, 7, 7, 8, 8, 8, 8, 8, 8, 8, 8, 8, 8, 8, 8, 8, 8, 8, 8, 8, 8, 8, 8, 8, 8, 8, 8, 8, 8, 8, 8, 8, 8, 8, 8, 8, 8, 8, 8, 8, 8, 8, 8, 8, 8, 8, 8, 8, 8, 8, 8, 8, 8, 8, 8, 8, 8, 8, 8, 8, 8, 8, 8, 8, 8, 8, 8, 8, 8, 8, 8, 8, 8, 8, 8, 8, 8, 8, 8, 8, 8, 8, 8, 8, 8, 8, 8, 8, 8, 8, 8, 8, 8, 8, 8, 8, 8, 8, 8, 8, 8, 8, 8, 8, 8, 8, 8, 8, 8, 8, 8, 8, 8, 8, 8, 8, 8, 8, 8, 8, 8, 8, 8, 8, 8, 8, 8, 8, 8, 8, 8])[Int.toNat (IntKind.wrap .u8 (s2.1))]? = some u /\ z = (u.toNat : Int))]) rfl (by kernel_rfl) ⟨hO A, trivial⟩ fun a j => ?_
 refine WR.done rfl ?_;refine Runs.ret j Tryz.func202 rfl rfl ?_;cases hm;exact ⟨rfl, H⟩
abbrev cx : List (PK El) := [pI .u64]
def C202 : Con El := zG 202 cx (fun e => bits_Len64 e.1) 0 0 (fun e t j l => .i t) (fun e t j l => [])
theorem S202 : (C202).Sound pG := fun e t hm w0 w F j H => by
  obtain ⟨x0, _⟩ := e;have i : St w0 (F) w := by
    exact H
  refine (mG (show bits_Len64 x0 = some t from hm) i).mono ?_;rintro v w' ⟨hv, H⟩;refine ⟨[], [], rfl, rfl, hv, ?_, fun _ h => by cases h⟩;exact H
def K202 : SCon El pG := ⟨C202, S202, Tryz.call202⟩
def C148 : Con El := zG 148 cx (fun e => bits_Len e.1) 0 0 (fun e t j l => .i t) (fun e t j l => [])
theorem S148 : (C148).Sound pG :=
  fsn mixed (C148) (n := 8) (rs := rsOf pG 148) [] [] (gj (gI 2) []) (fun i => (.g 1 (.uf (.g 1 (.s (.call K202 [] []) (.g 1 .ret)))))) Tryz.func148
def K148 : SCon El pG := ⟨C148, S148, Tryz.call148⟩
def C112 : Con El := zG 112 C51p (fun e => ra e.1) 0 0 (fun e t j l => .i t) (fun e t j l => [])
theorem S112 : (C112).Sound pG :=
  fsn mixed (C112) (n := 7) (rs := rsOf pG 112) [] [] (gj (gI 2) []) (fun i => (.g 1 (.g 3 (.s (.call K148 [] []) (.g 1 .ret))))) Tryz.func112
def K112 : SCon El pG := ⟨C112, S112, Tryz.call112⟩
abbrev jJ : List (PK El) := [pI .i64, pI .i64]
def C105 : Con El := zG 105 jJ (fun e => w5 e.1 e.2.1) 0 0 (fun e t j l => .i t) (fun e t j l => [])
theorem S105 : (C105).Sound pG :=
  fsn mixed (C105) (n := 26) (rs := rsOf pG 105) [] [] (gj (gI 4) []) (fun i => (.g 1 (.blk (.g 3 (.pj 8 (Bool) mB (gB 5) (fun st e => ([(5, .bool e)] ++ kp [0, 1] st, ka [] st)) (.g 6 .leaf) (.g 6 .leaf) (.cond (.g 1 .ret) (.g 3 (.pj 17 (Bool) mB (gB 14) (fun st e => ([(14, .bool e)] ++ kp [0, 1] st, ka [] st)) (.g 6 .leaf) (.g 6 .leaf) (.cond (.g 1 .ret) (.g 4 .ret)))))))))) Tryz.func105
def K105 : SCon El pG := ⟨C105, S105, Tryz.call105⟩
def C81 (k : Nat) : Con El := zG 81 C20p (fun e => rI k e.1 e.2.1 e.2.2.1) 0 0 (fun e t j l => .i t) (fun e t j l => [])
abbrev C81r (k : Nat) (i : Ins C20p) : Kn El -> VC (C81 k).T := retC pG (C81 k) (rsOf pG 81) [] [] (gj (gI 6) []) i
def iq (t : Ins C20p) : BCon El (Int) := ⟨nav [1, 0, 1] (yo pG 81), Int, Int × Int, Int, Int, fun u => .inr u, fun _ _ => none, fun l => [], fun l v_ e j => [(0, .i v_.1), (1, .i t.2.1), (8, .i (l)), (9, .i v_.2)], fun l v_ e j => [], 0, 0, fun l s e j => [(0, .i s)], fun l s e j => []⟩
def fo (k : Nat) (e : Ins C20p) : Nat -> (iq e).X -> (iq e).V -> Option (iq e).W := fun m_ (i : Int) (v_ : Int × Int) => wQ e.2.1 (i) m_ v_.1 v_.2
theorem bh (k : Nat) (i : Ins C20p) (m : Nat) : ((iq i).at (fo k i) m).Sound pG 81 16 (C81r k i) :=
  lsn mixed (iq i) (id := 0) (body := nav [1, 0, 1, 0, 0] (yo pG 81)) (fo k i) (fun _ => none) (fun u => u) (gj (g2 (gI 0) (gI 9)) []) (gj (gI 0) []) (fun m => (.g 1 (.cond (.blk (.g 2 (.s (.call K105 [] []) (.g 1 (.g 2 .back))))) .leaf))) m
theorem S81 (k : Nat) : (C81 k).Sound pG :=
  fsn mixed (C81 k) (n := 16) (rs := rsOf pG 81) [] [] (gj (gI 6) []) (fun i => (.g 1 (.g 1 (.s (.call K112 [] []) (.g 1 (.loop ⟨(iq i).at (fo k i) k, bh k i k⟩ (gl (gI 8) (g2 (gI 0) (gI 9)) []) (.g 2 .ret))))))) Tryz.func81
def K81 (k : Nat) : SCon El pG := ⟨C81 k, S81 k, Tryz.call81⟩
def C52 (k : Nat) : Con El := zG 52 jJ (fun e => tC k e.1 e.2.1) 0 0 (fun e t j l => .tuple #[.i t.1, .bool t.2]) (fun e t j l => [])
theorem S52 (k : Nat) : (C52 k).Sound pG :=
  fsn mixed (C52 k) (n := 20) (rs := rsOf pG 52) [] [] (gj (g2 (gI 4) (gB 5)) []) (fun i => (.g 2 (.join (Bool) 0 0 (gj (gB 16) []) (fun e j l t => ([(16, .bool j)] ++ kp [1] e, ka [] e)) (.g 1 (.s (.call K51 [] []) (.g 2 (.split 9 (.g 7 .leaf) (.g 4 (.split 13 (.g 3 .leaf) (.g 3 .leaf))))))) (.cond (.g 2 .ret) (.g 2 (.s (.call (K81 k) [] []) (.g 2 .ret))))))) Tryz.func52
def K52 (k : Nat) : SCon El pG := ⟨C52 k, S52 k, Tryz.call52⟩
abbrev fY : List (PK El) := []
def C113 : Con El := zG 113 fY (fun j => p8) 1 0 (fun j t e i => .pointer (some ⟨(nn e 0), 0, none⟩)) (fun j t e i => zC.D.flat (nn e 0) () t)
theorem S113 : (C113).Sound pG :=
  fsn mixed (C113) (n := 3) (rs := rsOf pG 113) [] [1000] (gj (gO zC.D [1000]) [nPk 1000]) (fun i => (.g 1 (.g 1 (.s (.new 0 []) (.g 1 (.rk (rb 1000 [0]) .ret)))))) Tryz.func113
def K113 : SCon El pG := ⟨C113, S113, Tryz.call113⟩
def C82 : Con El := zG 82 C51p (fun j => qu j.1) 4 2 (fun j t e i => .pointer (some ⟨(nn e 0), 0, none⟩)) (fun j t e i => zb.D.flat (nn e 0) (zb.A.mk (na i 0) (nn e 1) (na i 1) (nn e 2) (nn e 3)) t)
theorem S82 : (C82).Sound pG :=
  fsn mixed (C82) (n := 10) (rs := rsOf pG 82) [] [1000, 1001, 1002, 1003] (gj (gO zb.D [1000, 1001, 1002, 1003]) [nPk 1000, nA zb.D [1000, 1001, 1002, 1003] (fun e => ([e.l_c, e.free_c, e.m__p], [e.l_b, e.free_b]))]) (fun i => (.g 1 (.jg (zb) 4 2 (gj (gO zb.D [8, 9, 10, 11]) [nPk 8, nA zb.D [8, 9, 10, 11] (fun e => ([e.l_c, e.free_c, e.m__p], [e.l_b, e.free_b]))]) (fun l u j t => ([(2, .pointer (some ⟨(nn j 0), 0, none⟩))] ++ kp [] l, ka [] l ++ zipL [8, 9, 10, 11] (zb.D.flat (nn j 0) (zb.A.mk (na t 0) (nn j 1) (na t 1) (nn j 2) (nn j 3)) u))) (.drw (.q [0, 1, 2] [] (.alt2 3 (.mk 12 0 247) [] (.a 4 (.call K113 [] [13]) [] (.q [5] [] (.a 6 (.new 14 []) [] (.q [7] [] (.s (.nil 15 1 3) (.rk (rb 8 [14, 12, 15, 13]) .leaf)))))) 4 (.call K113 [] [16]) [] (.a 3 (.mk 17 0 247) [] (.q [5] [] (.a 6 (.new 18 []) [] (.q [7] [] (.s (.nil 19 1 3) (.rk (rb 8 [18, 17, 19, 16]) .leaf))))))))) (.rk (rb 1000 [8, 9, 10, 11]) .ret)))) Tryz.func82
def K82 : SCon El pG := ⟨C82, S82, Tryz.call82⟩
def C114 : Con El := zG 114 C51p (fun j => vM j.1) 3 2 (fun j t e i => .pointer (some ⟨(nn e 0), 0, none⟩)) (fun j t e i => zh.D.flat (nn e 0) (zh.A.mk (na i 0) (nn e 1) (na i 1) (nn e 2)) t)
theorem S114 : (C114).Sound pG :=
  fsn mixed (C114) (n := 8) (rs := rsOf pG 114) [] [1000, 1001, 1002] (gj (gO zh.D [1000, 1001, 1002]) [nPk 1000, nA zh.D [1000, 1001, 1002] (fun e => ([e.l_c, e.free_c], [e.l_b, e.free_b]))]) (fun i => (.g 1 (.g 4 (.s (.new 0 []) (.g 1 (.s (.nil 1 2 223) (.s (.nil 2 1 3) (.rk (rb 1000 [0, 1, 2]) .ret)))))))) Tryz.func114
def K114 : SCon El pG := ⟨C114, S114, Tryz.call114⟩
def C115 : Con El := zG 115 C51p (fun j => vk j.1) 3 2 (fun j t e i => .pointer (some ⟨(nn e 0), 0, none⟩)) (fun j t e i => ze.D.flat (nn e 0) (ze.A.mk (na i 0) (nn e 1) (na i 1) (nn e 2)) t)
theorem S115 : (C115).Sound pG :=
  fsn mixed (C115) (n := 8) (rs := rsOf pG 115) [] [1000, 1001, 1002] (gj (gO ze.D [1000, 1001, 1002]) [nPk 1000, nA ze.D [1000, 1001, 1002] (fun e => ([e.l_c, e.free_c], [e.l_b, e.free_b]))]) (fun i => (.g 1 (.g 4 (.s (.new 0 []) (.g 1 (.s (.nil 1 3 255) (.s (.nil 2 1 3) (.rk (rb 1000 [0, 1, 2]) .ret)))))))) Tryz.func115
def K115 : SCon El pG := ⟨C115, S115, Tryz.call115⟩
def C83 : Con El := zG 83 C51p (fun j => pP j.1) 8 4 (fun j t e i => .pointer (some ⟨(nn e 0), 0, none⟩)) (fun j t e i => zi.D.flat (nn e 0) (zi.A.mk (nn e 1) (zh.A.mk (na i 0) (nn e 2) (na i 1) (nn e 3)) (nn e 4) (ze.A.mk (na i 2) (nn e 5) (na i 3) (nn e 6)) (nn e 7)) t)
theorem S83 : (C83).Sound pG :=
  fsn mixed (C83) (n := 11) (rs := rsOf pG 83) [] [1000, 1001, 1002, 1003, 1004, 1005, 1006, 1007] (gj (gO zi.D [1000, 1001, 1002, 1003, 1004, 1005, 1006, 1007]) [nPk 1000, nA zi.D [1000, 1001, 1002, 1003, 1004, 1005, 1006, 1007] (fun e => ([e.heaps_p, e.heaps_a.l_c, e.heaps_a.free_c, e.items_p, e.items_a.l_c, e.items_a.free_c, e.at__p], [e.heaps_a.l_b, e.heaps_a.free_b, e.items_a.l_b, e.items_a.free_b]))]) (fun i => (.g 1 (.s (.call K114 [] [0, 1, 2]) (.g 3 (.s (.call K115 [] [3, 4, 5]) (.s (.mnew 6 0) (.g 1 (.s (.new 7 []) (.g 1 (.rk (rb 1000 [7, 0, 1, 2, 3, 4, 5, 6]) .ret)))))))))) Tryz.func83
def K83 : SCon El pG := ⟨C83, S83, Tryz.call83⟩
def C53 : Con El := gX 53 C51p (fun l => js l.1) 14 6 (fun l t e j => .tuple #[.pointer none, .i t.2]) (fun l t e j => []) (fun l t => t.1) 14 (fun l t m_ e j => .tuple #[.pointer (some ⟨(nn e 0), 0, none⟩), .i t.2]) (fun l t m_ e j => zn.D.flat (nn e 0) (zn.A.mk (nn e 1) (zb.A.mk (na j 0) (nn e 2) (na j 1) (nn e 3) (nn e 4)) (nn e 5) (zi.A.mk (nn e 6) (zh.A.mk (na j 2) (nn e 7) (na j 3) (nn e 8)) (nn e 9) (ze.A.mk (na j 4) (nn e 10) (na j 5) (nn e 11)) (nn e 12)) (nn e 13)) m_)
theorem S53 : (C53).Sound pG :=
  fsn mixed (C53) (n := 19) (rs := rsOf pG 53) [] [1000, 1001, 1002, 1003, 1004, 1005, 1006, 1007, 1008, 1009, 1010, 1011, 1012, 1013] (gj (g2 (gOo zn.D [1000, 1001, 1002, 1003, 1004, 1005, 1006, 1007, 1008, 1009, 1010, 1011, 1012, 1013] 2) (gI 3)) [nPo 1000, nAo zn.D [1000, 1001, 1002, 1003, 1004, 1005, 1006, 1007, 1008, 1009, 1010, 1011, 1012, 1013] (fun e => ([e.a__p, e.a__a.l_c, e.a__a.free_c, e.a__a.m__p, e.t__p, e.t__a.heaps_p, e.t__a.heaps_a.l_c, e.t__a.heaps_a.free_c, e.t__a.items_p, e.t__a.items_a.l_c, e.t__a.items_a.free_c, e.t__a.at__p, e.entries_p], [e.a__a.l_b, e.a__a.free_b, e.t__a.heaps_a.l_b, e.t__a.heaps_a.free_b, e.t__a.items_a.l_b, e.t__a.items_a.free_b])) 13 6]) (fun i => (.g 2 (.g 3 (.pj 6 (Bool) mB (gB 9) (fun st j => ([(9, .bool j)] ++ kp [0] st, ka [] st)) (.g 3 .leaf) (.g 3 .leaf) (.cond (.g 2 .ret) (.g 3 (.s (.call K82 [] [0, 1, 2, 3]) (.g 1 (.s (.call K83 [] [4, 5, 6, 7, 8, 9, 10, 11]) (.s (.mnew 12 1) (.g 1 (.s (.new 13 []) (.g 2 (.rk (rb 1000 [13, 0, 1, 2, 3, 4, 5, 6, 7, 8, 9, 10, 11, 12]) .ret)))))))))))))) Tryz.func53
def K53 : SCon El pG := ⟨C53, S53, Tryz.call53⟩
def C84 : Con El := zG 84 C51p (fun j => uq j.1) 3 2 (fun j t e i => .pointer (some ⟨(nn e 0), 0, none⟩)) (fun j t e i => zg.D.flat (nn e 0) (zg.A.mk (na i 0) (nn e 1) (na i 1) (nn e 2)) t)
theorem S84 : (C84).Sound pG :=
  fsn mixed (C84) (n := 8) (rs := rsOf pG 84) [] [1000, 1001, 1002] (gj (gO zg.D [1000, 1001, 1002]) [nPk 1000, nA zg.D [1000, 1001, 1002] (fun e => ([e.l_c, e.free_c], [e.l_b, e.free_b]))]) (fun i => (.g 1 (.g 4 (.s (.new 0 []) (.g 1 (.s (.nil 1 4 172) (.s (.nil 2 1 3) (.rk (rb 1000 [0, 1, 2]) .ret)))))))) Tryz.func84
def K84 : SCon El pG := ⟨C84, S84, Tryz.call84⟩
def C54 : Con El := zG 54 C51p (fun j => r6 j.1) 5 2 (fun j t e i => .pointer (some ⟨(nn e 0), 0, none⟩)) (fun j t e i => zm.D.flat (nn e 0) (zm.A.mk (nn e 1) (zg.A.mk (na i 0) (nn e 2) (na i 1) (nn e 3)) (nn e 4)) t)
theorem S54 : (C54).Sound pG :=
  fsn mixed (C54) (n := 10) (rs := rsOf pG 54) [] [1000, 1001, 1002, 1003, 1004] (gj (gO zm.D [1000, 1001, 1002, 1003, 1004]) [nPk 1000, nA zm.D [1000, 1001, 1002, 1003, 1004] (fun e => ([e.p_p, e.p_a.l_c, e.p_a.free_c, e.by__p], [e.p_a.l_b, e.p_a.free_b]))]) (fun i => (.g 1 (.g 3 (.s (.call K84 [] [0, 1, 2]) (.s (.mnew 3 2) (.g 1 (.s (.new 4 []) (.g 1 (.rk (rb 1000 [4, 0, 1, 2, 3]) .ret))))))))) Tryz.func54
def K54 : SCon El pG := ⟨C54, S54, Tryz.call54⟩
def C55 : Con El := zG 55 fY (fun j => qF) 1 0 (fun j t e i => .pointer (some ⟨(nn e 0), 0, none⟩)) (fun j t e i => zJ.D.flat (nn e 0) () t)
theorem S55 : (C55).Sound pG :=
  fsn mixed (C55) (n := 3) (rs := rsOf pG 55) [] [1000] (gj (gO zJ.D [1000]) [nPk 1000]) (fun i => (.g 1 (.g 1 (.s (.new 0 []) (.g 1 (.rk (rb 1000 [0]) .ret)))))) Tryz.func55
def K55 : SCon El pG := ⟨C55, S55, Tryz.call55⟩
theorem rB {w0 w : World} {As : List HP} {e : zX} {t : zH}  (hm : xS e = some t) (H : St w0 (As) w) :
    yX pG 56 #[.pointer none, .agg #[.i e.Op, .i e.Kind, .i e.Heap.At, .i e.Heap.Gen, .i e.Other.At, .i e.Other.Gen, .i e.Item.At, .i e.Item.Gen, .i e.Key]] w fun v w' => v = .agg #[.i t.Why, .i t.Heap.At, .i t.Heap.Gen, .i t.Item.At, .i t.Item.Gen, .i t.Entry.Key, .i t.Entry.Serial, .i t.N] /\ St w0 (As) w' := by
 rw [xS] at hm;refine enter (args := [.pointer none, .agg #[.i e.Op, .i e.Kind, .i e.Heap.At, .i e.Heap.Gen, .i e.Other.At, .i e.Other.Gen, .i e.Item.At, .i e.Item.Gen, .i e.Key]]) Tryz.func56 rfl rfl rfl fun a j => ?_
 refine Runs.sr ?_;refine WR.eff j rfl rfl rfl rfl (OpTo.new j H [] (.cells #[.i e.Op, .i e.Kind, .i e.Heap.At, .i e.Heap.Gen, .i e.Other.At, .i e.Other.Gen, .i e.Item.At, .i e.Item.Gen, .i e.Key] 109 (0, 0)) (fun r => .pointer (some ⟨r, 0, none⟩)) (obs := []) rfl (fun _ => by kernel_rfl) trivial) ?_;rintro _ w ⟨r, rfl, H⟩ a j;refine WR.eff j rfl rfl rfl rfl (OpTo.new j H [] (.cells #[.i 0, .i 0, .i 0, .i 0, .i 0, .i 0, .i 0, .i 0] 106 (0, 0)) (fun r => .pointer (some ⟨r, 0, none⟩)) (obs := []) rfl (fun _ => by kernel_rfl) trivial) ?_;rintro _ w ⟨r1, rfl, H⟩ a j;refine WR.done rfl ?_;refine Runs.sr ?_;cases hm
abbrev C56p : List (PK El) := [pK (.pointer none), pV zX.dv zX.val]
def C56 : Con El := zG 56 C56p (fun e => xS e.2.1) 0 0 (fun e t j l => .agg #[.i t.Why, .i t.Heap.At, .i t.Heap.Gen, .i t.Item.At, .i t.Item.Gen, .i t.Entry.Key, .i t.Entry.Serial, .i t.N]) (fun e t j l => [])
theorem S56 : (C56).Sound pG := fun e t hm w0 w F j H => by
  obtain ⟨_, x1, _⟩ := e;have i : St w0 (F) w := by
    exact H
  refine (rB (show xS x1 = some t from hm) i).mono ?_;rintro v w' ⟨hv, H⟩;refine ⟨[], [], rfl, rfl, hv, ?_, fun _ h => by cases h⟩;exact H
def K56 : SCon El pG := ⟨C56, S56, Tryz.call56⟩
abbrev C66p : List (PK El) := [pO zb.D]
def C66 : Con El := zG 66 C66p (fun e => uk e.1.2.2) 0 0 (fun e t i j => .pointer (some ⟨e.1.2.1.m__p, 0, none⟩)) (fun e t i j => zb.D.flat e.1.1 e.1.2.1 e.1.2.2)
theorem S66 : (C66).Sound pG :=
  fsn mixed (C66) (n := 7) (rs := rsOf pG 66) [] [0, 1, 2, 3] (gj gU []) (fun i => (.g 1 (.s (.seg 5 [.C 0 3]) .ret))) Tryz.func66
def K66 : SCon El pG := ⟨C66, S66, Tryz.call66⟩
abbrev ea : List (PK El) := [pO zC.D]
def C149 : Con El := zG 149 ea (fun e => tZ e.1.2.2) 0 0 (fun e t j l => .i t) (fun e t j l => zC.D.flat e.1.1 e.1.2.1 e.1.2.2)
theorem S149 : (C149).Sound pG :=
  fsn mixed (C149) (n := 12) (rs := rsOf pG 149) [] [0] (gj (gI 2) []) (fun i => (.g 1 (.drw (.q [0, 1, 2, 3, 4, 5, 6, 7, 8, 9] [.C 0 0, .C 0 1] .ret)))) Tryz.func149
def K149 : SCon El pG := ⟨C149, S149, Tryz.call149⟩
def C116 : Con El := zG 116 ea (fun e => sM e.1.2.2) 0 0 (fun e t j l => .i t) (fun e t j l => zC.D.flat e.1.1 e.1.2.1 e.1.2.2)
theorem S116 : (C116).Sound pG :=
  fsn mixed (C116) (n := 10) (rs := rsOf pG 116) [] [0] (gj (gI 2) []) (fun i => (.g 1 (.drw (.q [0, 1, 2, 3, 4] [.C 0 2] (.a 5 (.call K149 [.K 0] [0]) [.C 0 2] (.q [6, 7] [] .ret)))))) Tryz.func116
def K116 : SCon El pG := ⟨C116, S116, Tryz.call116⟩
def C85 : Con El := zG 85 ea (fun e => uw e.1.2.2) 0 0 (fun e t i j => .tuple #[]) (fun e t i j => zC.D.flat e.1.1 e.1.2.1 t)
theorem S85 : (C85).Sound pG :=
  fsn mixed (C85) (n := 14) (rs := rsOf pG 85) [] [0] (gj (gO zC.D [0]) []) (fun i => (.drw (.q [0, 1, 2, 4, 5, 6, 7] [.C 0 0] (.a 3 (.call K116 [.K 0] [0]) [.C 0 0] (.q [8, 9] [] (.a 10 (.sto 0) [] (.q [11, 12] [] (.a 13 (.sto 0) [] .leaf)))))))) Tryz.func85
def K85 : SCon El pG := ⟨C85, S85, Tryz.call85⟩
def C117 : Con El := zG 117 C51p (fun e => ri e.1) 0 0 (fun e t i j => .bool t) (fun e t i j => [])
theorem S117 : (C117).Sound pG :=
  fsn mixed (C117) (n := 9) (rs := rsOf pG 117) [] [] (gj (gB 2) []) (fun i => (.g 1 (.g 3 (.pj 5 (Bool) mB (gB 2) (fun st e => ([(2, .bool e)] ++ kp [] st, ka [] st)) (.g 4 .leaf) (.g 4 .leaf) .ret)))) Tryz.func117
def K117 : SCon El pG := ⟨C117, S117, Tryz.call117⟩
abbrev au : List (PK El) := [pO zh.D, pV zA.dv zA.val]
def C118 : Con El := zG 118 au (fun l => yx l.1.2.2 l.2.1) 2 2 (fun l t e j => .tuple #[.agg #[.i t.1.At, .i t.1.Gen], .bool t.2.1]) (fun l t e j => zh.D.flat l.1.1 (zh.A.mk (na j 0) (nn e 0) (na j 1) (nn e 1)) t.2.2)
abbrev nq_0 : Nx El := nA zh.D [0, 1, 2] (fun e => ([e.l_c, e.free_c], [e.l_b, e.free_b]))
theorem S118 : (C118).Sound pG :=
  fsn mixed (C118) (n := 81) (rs := rsOf pG 118) [.C 2000 0, .C 2000 1] [0, 1, 2] (gj (g2 (gC 2000 0 2 zf.dec) (g2 (gB 5) (gO zh.D [0, 1, 2]))) [nq_0]) (fun i => (.s (.new 3 []) (.s (.new 4 []) (.g 1 (.s (.seg 6 [.C 0 1]) (.s (.seg 7 [.C 0 2]) (.g 2 (.joinR (Int × zh) 2 2 (gj (g2 (gI 6) (gO zh.D [0, 1, 2])) [nq_0]) (fun e t j l => match (gP 0) e with | some u => ([(6, .i t.1)] ++ kp [0, 3, 4] e, ka [4, 3] e ++ zipL [0, 1, 2] (zh.D.flat (u) (zh.A.mk (na l 0) (nn j 0) (na l 1) (nn j 1)) t.2)) | none => ([], [])) (.cond (.s (.seg 5 [.C 0 2]) (.s (.idx false 2 (.tmp 26) 2) (.s (.seg 3 [.A 2, .X 2 2 0]) (.s (.seg 6 [.C 0 2]) (.s (.cut false 2 none (some (.tmp 34)) 1003) (.s (.seg 3 [.W 1003]) (.s (.sto 0) (.s (.own 1003 2) .leaf)))))))) (.s (.seg 6 [.C 0 0]) (.cond (.g 1 (.s (.sto 4) (.g 1 (.rk (rb 2000 [4]) .ret)))) (.s (.seg 6 [.C 0 1]) (.s (.bld 6 2 223) (.s (.app 1 (.O 6)) (.g 2 (.s (.sto 0) .leaf)))))))) (.s (.seg 5 [.C 0 1]) (.s (.idx false 1 (.tmp 59) 4) (.s (.seg 2 [.A 4]) (.s (.seg 7 [.X 4 1 0]) (.s (.sset 1 4 0) (.s (.rlc 4 0 1) (.drw (.q [0, 1, 2, 3, 4] [.C 3 0, .C 3 1, .C 3 2] (.a 5 (.sset 1 4 1) [.C 3 0, .C 3 1, .C 3 2] (.s (.rlc 4 0 1) (.q [6, 7] [] (.a 8 (.sset 1 4 2) [] (.s (.rlc 4 0 1) (.s (.seg 6 [.X 4 1 0]) (.s (.sto 4) (.g 1 (.rk (rb 2000 [4]) .ret))))))))))))))))))))))))) Tryz.func118
def K118 : SCon El pG := ⟨C118, S118, Tryz.call118⟩
abbrev C86p : List (PK El) := [pO zi.D, pI .i64]
def C86 : Con El := zG 86 C86p (fun e => vE e.1.2.2 e.2.1) 2 2 (fun e t j l => .tuple #[.agg #[.i t.1.At, .i t.1.Gen], .i t.2.1]) (fun e t j l => zi.D.flat e.1.1 (zi.A.mk e.1.2.1.heaps_p (zh.A.mk (na l 0) (nn j 0) (na l 1) (nn j 1)) e.1.2.1.items_p e.1.2.1.items_a e.1.2.1.at__p) t.2.2)
abbrev nq_1 : Nx El := nA zi.D rg_7 (fun e => ([e.heaps_a.l_c, e.heaps_a.free_c], [e.heaps_a.l_b, e.heaps_a.free_b]))
theorem S86 : (C86).Sound pG :=
  fsn mixed (C86) (n := 26) (rs := rsOf pG 86) [.C 2000 0, .C 2000 1] rg_7 (gj (g2 (gC 2000 0 2 zf.dec) (g2 (gI 5) (gO zi.D rg_7))) [nq_1]) (fun i => (.s (.new 8 []) (.g 1 (.g 1 (.s (.call K117 [] []) (.g 1 (.cond (.g 1 (.s (.sto 8) (.g 1 (.rk (rb 2000 [8]) .ret)))) (.s (.seg 6 [.C 0 0]) (.s (.call K118 [.K 1, .K 2, .K 3] [1, 2, 3]) (.g 3 (.s (.new 9 []) (.s (.sto 9) (.g 1 (.g 2 (.cond (.g 1 (.s (.sto 8) (.g 1 (.rk (rb 2000 [8]) .ret)))) (.s (.seg 1 [.C 9 0, .C 9 1]) (.s (.sto 8) (.g 1 (.rk (rb 2000 [8]) .ret))))))))))))))))))) Tryz.func86
def K86 : SCon El pG := ⟨C86, S86, Tryz.call86⟩
abbrev cc : List (PK El) := [pO zh.D, pV zf.dv zf.val]
def C192 : Con El := fj 192 cc (fun e => yF e.1.2.2 e.2.1) 0 0 (fun e t j l => .tuple #[elemV e.1.2.1.l_b 5 t.1, .i t.2]) (fun e t j l => zh.D.flat e.1.1 e.1.2.1 e.1.2.2) (fun e t => t.1)
theorem S192 : (C192).Sound pG :=
  fsn mixed (C192) (n := 61) (rs := rsOf pG 192) [] [0, 1, 2] (gj (g2 gE (gI 5)) []) (fun i => (.s (.new 3 []) (.g 2 (.join (Bool) 0 0 (gj (gB 38) []) (fun e j l t => ([(38, .bool j)] ++ kp [0, 3] e, ka [3, 0, 1, 2] e)) (.drw (.q [0, 1, 2, 3] [.C 3 0] (.split 10 (.q [4, 5, 6, 7, 8, 9, 10, 11, 12, 13, 14, 15, 16, 17, 18, 19, 20, 21, 22, 23, 24, 25, 26, 27, 28, 29, 30, 31] [] .leaf) (.q [4, 5, 6, 7, 8, 9, 10, 11, 12, 13] [.C 3 0, .C 0 1] (.split 20 (.q [14, 15, 16, 17, 18, 19, 20, 21, 22, 23, 24, 25, 26, 27, 28, 29, 30, 31] [] .leaf) (.q [14, 15, 16, 17, 18] [.C 3 1] (.split 25 (.q [19, 20, 21, 22, 23, 24, 25, 26, 27, 28, 29, 30, 31] [] .leaf) (.q [19, 20, 21, 22, 23, 24, 25, 26] [.C 3 1, .C 0 1, .C 3 0] (.s (.idx false 1 (.tmp 33) 2) (.q [27, 28, 29, 30, 31] [.A 2, .X 2 1 0] .leaf)))))))))) (.cond (.g 2 .ret) (.drw (.q [0, 1, 2, 3, 4, 5] [.C 0 1, .C 3 0] (.s (.idx false 1 (.tmp 44) 4) (.q [6, 7] [.A 4] (.drw (.q rg_7 [.C 3 1, .X 4 1 0] (.pj 53 (Bool) mB (gB 59) (fun st j => ([(59, .bool j)] ++ kp [6] st, ka [0, 1, 2, 3] st)) (.q [8, 9, 10, 11, 12, 13] [] .leaf) (.q [8, 9, 10, 11, 12, 13] [.X 4 1 1] .leaf) (.cond (.g 2 .ret) (.g 3 (.s (.el 4 4) .ret))))))))))))))) Tryz.func192
def K192 : SCon El pG := ⟨C192, S192, Tryz.call192⟩
def C135 : Con El := zG 135 cc (fun e => yl e.1.2.2 e.2.1) 0 0 (fun e t j l => .tuple #[.agg #[.i t.1.kind, .i t.1.root, .i t.1.n], .i t.2]) (fun e t j l => zh.D.flat e.1.1 e.1.2.1 e.1.2.2)
theorem S135 : (C135).Sound pG :=
  fsn mixed (C135) (n := 23) (rs := rsOf pG 135) [.C 2000 0, .C 2000 1, .C 2000 2] [0, 1, 2] (gj (g2 (gC 2000 0 3 zA.dec) (gI 5)) []) (fun i => (.s (.new 3 []) (.s (.new 4 []) (.g 1 (.s (.seg 2 [.C 3 0, .C 3 1]) (.s (.call K192 [.K 0, .K 1, .K 2] [0, 1, 2]) (.eo 12 0 1 0 (.g 5 (.g 2 (.cond (.s (.new 5 []) (.s (.seg 2 [.C 5 0, .C 5 1, .C 5 2]) (.s (.sto 4) (.g 1 (.rk (rb 2000 [4]) .ret))))) .dead))) (.g 5 (.g 2 (.cond (.s (.new 6 []) (.s (.seg 2 [.C 6 0, .C 6 1, .C 6 2]) (.s (.sto 4) (.g 1 (.rk (rb 2000 [4]) .ret))))) (.s (.seg 4 [.X 0 1 2, .X 0 1 3, .X 0 1 4]) (.s (.sto 4) (.g 1 (.rk (rb 2000 [4]) .ret)))))))))))))) Tryz.func135
def K135 : SCon El pG := ⟨C135, S135, Tryz.call135⟩
abbrev C92p : List (PK El) := [pO zi.D, pV zf.dv zf.val]
def C92 : Con El := zG 92 C92p (fun e => yP e.1.2.2 e.2.1) 0 0 (fun e t j l => .tuple #[.i t.1, .i t.2.1, .i t.2.2.1, .i t.2.2.2]) (fun e t j l => zi.D.flat e.1.1 e.1.2.1 e.1.2.2)
theorem S92 : (C92).Sound pG :=
  fsn mixed (C92) (n := 26) (rs := rsOf pG 92) [] rg_7 (gj (g2 (gI 4) (g2 (gI 5) (g2 (gI 6) (gI 7)))) []) (fun i => (.s (.new 8 []) (.g 4 (.jg (zA × Int) 1 0 (gj (g2 (gC 11 0 3 zA.dec) (gI 9)) [nPk 11]) (fun e l j t => ([(8, .pointer (some ⟨(nn j 0), 0, none⟩)), (9, .i l.2)] ++ kp [] e, ka rg_7 e ++ zipL [11] [.blk (nn j 0) 182 [.i l.1.kind, .i l.1.root, .i l.1.n]])) (.drw (.q [0, 1, 2, 3, 4] [.C 0 0, .C 8 0, .C 8 1] (.alt2 5 (.call K135 [.K 1, .K 2, .K 3] [1, 2, 3]) [] (.q [6, 7, 8] [] (.a 9 (.new 12 []) [] (.a 10 (.sto 12) [] (.q [11] [] (.rk (rb 11 [12]) .leaf))))) 9 (.new 13 []) [.C 8 0, .C 8 1, .C 0 0] (.a 5 (.call K135 [.K 1, .K 2, .K 3] [1, 2, 3]) [] (.q [6, 7, 8] [] (.a 10 (.sto 13) [] (.q [11] [] (.rk (rb 11 [13]) .leaf)))))))) (.drw (.q [0, 1, 2, 3, 4, 5, 6, 7, 8, 9, 10] [.C 11 0, .C 11 1, .C 11 2] .ret)))))) Tryz.func92
def K92 : SCon El pG := ⟨C92, S92, Tryz.call92⟩
def C94 : Con El := zG 94 C51p (fun e => wO e.1) 0 0 (fun e t j l => .agg #[.i t.Why, .i t.Heap.At, .i t.Heap.Gen, .i t.Item.At, .i t.Item.Gen, .i t.Entry.Key, .i t.Entry.Serial, .i t.N]) (fun e t j l => [])
theorem S94 : (C94).Sound pG :=
  fsn mixed (C94) (n := 5) (rs := rsOf pG 94) [.C 2000 0, .C 2000 1, .C 2000 2, .C 2000 3, .C 2000 4, .C 2000 5, .C 2000 6, .C 2000 7] [] (gj (gC 2000 0 8 zH.dec) []) (fun i => (.s (.new 0 []) (.g 2 (.s (.sto 0) (.rk (rb 2000 [0]) .ret))))) Tryz.func94
def K94 : SCon El pG := ⟨C94, S94, Tryz.call94⟩
abbrev kJ : List (PK El) := [pO ze.D]
def C150 : Con El := zG 150 kJ (fun e => yH e.1.2.2) 0 0 (fun e t j l => .i t) (fun e t j l => ze.D.flat e.1.1 e.1.2.1 e.1.2.2)
theorem S150 : (C150).Sound pG :=
  fsn mixed (C150) (n := 14) (rs := rsOf pG 150) [] [0, 1, 2] (gj (gI 2) []) (fun i => (.g 1 (.drw (.q rg_11 [.C 0 1, .C 0 2] .ret)))) Tryz.func150
def K150 : SCon El pG := ⟨C150, S150, Tryz.call150⟩
abbrev aj : List (PK El) := [pO zi.D]
def C119 : Con El := zG 119 aj (fun e => vf e.1.2.2) 0 0 (fun e t j l => .i t) (fun e t j l => zi.D.flat e.1.1 e.1.2.1 e.1.2.2)
theorem S119 : (C119).Sound pG :=
  fsn mixed (C119) (n := 8) (rs := rsOf pG 119) [] rg_7 (gj (gI 2) []) (fun i => (.g 1 (.s (.seg 4 [.C 0 1]) (.s (.call K150 [.K 4, .K 5, .K 6] [4, 5, 6]) (.g 1 .ret))))) Tryz.func119
def K119 : SCon El pG := ⟨C119, S119, Tryz.call119⟩
abbrev aw : List (PK El) := [pO zC.D, pI .i64]
def C203 : Con El := zG 203 aw (fun e => y3 e.1.2.2 e.2.1) 0 0 (fun e t i j => .tuple #[]) (fun e t i j => zC.D.flat e.1.1 e.1.2.1 t)
theorem S203 : (C203).Sound pG :=
  fsn mixed (C203) (n := 14) (rs := rsOf pG 203) [] [0] (gj (gO zC.D [0]) []) (fun i => (.s (.seg 7 [.C 0 0]) (.s (.call K105 [] []) (.g 2 (.s (.sto 0) .leaf))))) Tryz.func203
def K203 : SCon El pG := ⟨C203, S203, Tryz.call203⟩
theorem u6 {w0 w : World} {As : List HP} {e : Nat} {m_ : zC} {n : Int} {t : zC}  (hm : y3 m_ n = some t) (H : St w0 (zC.R e m_ :: As) w) :
    yX pG 203 #[.pointer (some ⟨e, 0, none⟩), .i n] w fun v w' => v = .tuple #[] /\ St w0 (zC.R e t :: As) w' := by
  replace H := (fs0 fun As => zC.D_st).1 H;refine (S203 ((e, (), m_), n, ()) t hm w0 w (As) rd0 H).mono ?_;rintro v w' ⟨s, j, hn, ha, hv, H, l⟩;obtain rfl := ls0 hn;obtain rfl := ls0 ha;refine ⟨hv, ?_⟩;refine (fs0 fun As => zC.D_st).2 ?_;exact H
def C204 : Con El := zG 204 fY (fun l => sE) 0 0 (fun l t e j => .agg #[.i t.f0, .i t.f1, .i t.f2, .i t.f3, .i t.f4, .i t.f5, .i t.f6, .i t.f7, .i t.f8, .i t.f9, .bool t.taken]) (fun l t e j => [])
theorem S204 : (C204).Sound pG :=
  fsn mixed (C204) (n := 16) (rs := rsOf pG 204) [.C 2000 0, .C 2000 1, .C 2000 2, .C 2000 3, .C 2000 4, .C 2000 5, .C 2000 6, .C 2000 7, .C 2000 8, .C 2000 9, .C 2000 10] [] (gj (gC 2000 0 11 zr.dec) []) (fun i => (.s (.new 0 []) (.g 1 (.s (.new 1 []) (.s (.sto 1) (.s (.bld 2 1 3) (.g 2 (.unr (.g 1 (.tG (.blk (.s (.idk false 2 (.tmp 7) 0) (.s (.seg 3 [.A 0, .X 0 2 0]) (.g 2 (.s (.gd 12 (.tmp 11) 0) (.s (.seg 1 [.Q 0]) (.s (.sto 1) (.g 2 (.unr (.g 1 (.tG (.blk (.s (.idk false 2 (.tmp 7) 1) (.s (.seg 3 [.A 1, .X 1 2 0]) (.g 2 (.s (.gd 12 (.tmp 11) 1) (.s (.seg 1 [.Q 1]) (.s (.sto 1) (.g 2 (.unr (.g 1 (.tG (.blk (.s (.idk false 2 (.tmp 7) 2) (.s (.seg 3 [.A 2, .X 2 2 0]) (.g 2 (.s (.gd 12 (.tmp 11) 2) (.s (.seg 1 [.Q 2]) (.s (.sto 1) (.g 2 (.unr (.g 1 (.tG (.blk (.s (.idk false 2 (.tmp 7) 3) (.s (.seg 3 [.A 3, .X 3 2 0]) (.g 2 (.s (.gd 12 (.tmp 11) 3) (.s (.seg 1 [.Q 3]) (.s (.sto 1) (.g 2 (.unr (.g 1 (.tG (.blk (.s (.idk false 2 (.tmp 7) 4) (.s (.seg 3 [.A 4, .X 4 2 0]) (.g 2 (.s (.gd 12 (.tmp 11) 4) (.s (.seg 1 [.Q 4]) (.s (.sto 1) (.g 2 (.unr (.g 1 (.tG (.blk (.s (.idk false 2 (.tmp 7) 5) (.s (.seg 3 [.A 5, .X 5 2 0]) (.g 2 (.s (.gd 12 (.tmp 11) 5) (.s (.seg 1 [.Q 5]) (.s (.sto 1) (.g 2 (.unr (.g 1 (.uf (.s (.seg 1 [.C 1 0, .C 1 1, .C 1 2, .C 1 3, .C 1 4, .C 1 5, .C 1 6, .C 1 7, .C 1 8, .C 1 9, .C 1 10]) (.s (.sto 0) (.rk (rb 2000 [0]) .ret))))))))))))))))))))))))))))))))))))))))))))))))))))))))))))))))))))))))))))))) Tryz.func204
def K204 : SCon El pG := ⟨C204, S204, Tryz.call204⟩
def C151 : Con El := zG 151 C66p (fun e => wJ e.1.2.2) 1 1 (fun e t j l => .tuple #[.i t.1, .bool t.2.1]) (fun e t j l => zb.D.flat e.1.1 (zb.A.mk e.1.2.1.l_b e.1.2.1.l_c (na l 0) (nn j 0) e.1.2.1.m__p) t.2.2)
abbrev nq_2 : Nx El := nA zb.D [0, 1, 2, 3] (fun e => ([e.free_c], [e.free_b]))
theorem S151 : (C151).Sound pG :=
  fsn mixed (C151) (n := 61) (rs := rsOf pG 151) [] [0, 1, 2, 3] (gj (g2 (gI 2) (g2 (gB 3) (gO zb.D [0, 1, 2, 3]))) [nq_2]) (fun i => (.g 2 (.s (.seg 4 [.C 0 3]) (.s (.call K203 [.K 3] [3]) (.s (.seg 5 [.C 0 1]) (.s (.seg 7 [.C 0 2]) (.g 2 (.joinR (Int × zb) 1 1 (gj (g2 (gI 4) (gO zb.D [0, 1, 2, 3])) [nq_2]) (fun e u l t => match (g2 (gP 0) (gA zb.D [0, 1, 2, 3])) e with | some j => ([(4, .i u.1)] ++ kp [0] e, ka [] e ++ zipL [0, 1, 2, 3] (zb.D.flat (j.1) (zb.A.mk (j.2.l_b) (j.2.l_c) (na t 0) (nn l 0) (j.2.m__p)) u.2)) | none => ([], [])) (.cond (.s (.seg 5 [.C 0 2]) (.s (.idx false 2 (.tmp 27) 2) (.s (.seg 3 [.A 2, .X 2 2 0]) (.s (.seg 6 [.C 0 2]) (.s (.cut false 2 none (some (.tmp 35)) 1003) (.s (.seg 3 [.W 1003]) (.s (.sto 0) (.s (.own 1003 2) .leaf)))))))) (.s (.seg 7 [.C 0 0]) (.cond (.g 2 .ret) (.s (.seg 7 [.C 0 1]) (.s (.sto 0) .leaf))))) (.drw (.q [0, 1, 2, 3, 4] [.C 0 0] (.a 5 (.call K204 [] []) [.C 0 0] (.s (.idx false 1 (.tmp 57) 5) (.q [6] [.A 5] (.a 7 (.sset 1 5 0) [] (.s (.rlc 5 0 0) (.g 3 .ret)))))))))))))))) Tryz.func151
def K151 : SCon El pG := ⟨C151, S151, Tryz.call151⟩
abbrev uG : List (PK El) := [pO zb.D, pI .i64]
def C217 : Con El := zG 217 uG (fun e => yc e.1.2.2 e.2.1) 0 0 (fun e t i j => .bool t) (fun e t i j => zb.D.flat e.1.1 e.1.2.1 e.1.2.2)
theorem S217 : (C217).Sound pG :=
  fsn mixed (C217) (n := 26) (rs := rsOf pG 217) [] [0, 1, 2, 3] (gj (gB 4) []) (fun i => (.g 1 (.join (Bool) 0 0 (gj (gB 4) []) (fun e j l t => ([(4, .bool j)] ++ kp [] e, ka [0, 1, 2, 3] e)) (.g 3 (.split 7 (.s (.seg 9 [.C 0 0]) (.split 16 (.s (.seg 5 [.C 0 0]) (.s (.idx false 1 (.tmp 21) 2) (.s (.seg 5 [.A 2, .X 2 1 10]) .leaf))) (.g 10 .leaf))) (.g 19 .leaf))) .ret))) Tryz.func217
def K217 : SCon El pG := ⟨C217, S217, Tryz.call217⟩
abbrev wo : List (PK El) := [pO zb.D, pI .i64, pI .i64]
def C205 : Con El := zG 205 wo (fun e => xD e.1.2.2 e.2.1 e.2.2.1) 0 0 (fun e t i j => .bool t) (fun e t i j => zb.D.flat e.1.1 e.1.2.1 e.1.2.2)
theorem S205 : (C205).Sound pG :=
  fsn mixed (C205) (n := 18) (rs := rsOf pG 205) [] [0, 1, 2, 3] (gj (gB 6) []) (fun i => (.g 1 (.join (Bool) 0 0 (gj (gB 6) []) (fun e j l t => ([(6, .bool j)] ++ kp [] e, ka [0, 1, 2, 3] e)) (.g 2 (.s (.call K217 [.K 0, .K 1, .K 2, .K 3] [0, 1, 2, 3]) (.g 1 (.split 10 (.g 4 (.split 14 (.g 4 .leaf) (.g 4 .leaf))) (.g 8 .leaf))))) .ret))) Tryz.func205
theorem tw {w0 w : World} {As : List HP} {j : Nat} {e : zb.A} {a_ : zb} {l : Int} {field : Int} {t : Bool}  (hm : xD a_ l field = some t) (H : St w0 (zb.R j e a_ :: As) w) :
    yX pG 205 #[.pointer (some ⟨j, 0, none⟩), .i l, .i field] w fun v w' => v = .bool t /\ St w0 (zb.R j e a_ :: As) w' := by
  replace H := (fs0 fun As => zb.D_st).1 H;refine (S205 ((j, e, a_), l, field, ()) t hm w0 w (As) rd0 H).mono ?_;rintro v w' ⟨x, s, hn, ha, hv, H, u⟩;obtain rfl := ls0 hn;obtain rfl := ls0 ha;refine ⟨hv, ?_⟩;refine (fs0 fun As => zb.D_st).2 ?_;exact H
theorem qa {w0 w : World} {As : List HP} {j : Nat} {e : zb.A} {a_ : zb} {z : Int} {field : Int} {v_ : Int} {t : Bool × zb}  (hm : zx a_ z field v_ = some t) (H : St w0 (zb.R j e a_ :: As) w) :
    yX pG 152 #[.pointer (some ⟨j, 0, none⟩), .i z, .i field, .i v_] w fun v w' => v = .bool t.1 /\ St w0 (zb.R j e t.2 :: As) w' := by
 rw [zx] at hm;refine enter (args := [.pointer (some ⟨j, 0, none⟩), .i z, .i field, .i v_]) Tryz.func152 rfl rfl rfl fun a s => ?_
 refine Runs.sr ?_;refine WR.seg s 1 [] [0, 1, 2, 3] (Lo := [(0, .pointer (some ⟨j, 0, none⟩)), (1, .i z), (2, .i field), (3, .i v_)]) (obs := []) rfl (by kernel_rfl) trivial fun a s => ?_
 refine WR.done rfl ?_;refine Runs.sr ?_;replace H := zb.open H;refine WR.d s 4 [.pointer (some ⟨e.m__p, 0, none⟩)] [(12, .pointer (some ⟨e.m__p, 0, none⟩))] (obs := [.cell ⟨j, 3, none⟩ (.pointer (some ⟨e.m__p, 0, none⟩))]) ⟨H.cell 0 rfl rfl, trivial⟩ fun a s => ?_
 obtain ⟨t_, D, hm⟩ := bind_some hm;refine WR.eff s rfl rfl rfl rfl (OpTo.fn s rfl rfl Tryz.call203 (u6 D H.t3)) ?_;rintro _ w ⟨rfl, H⟩ a s;refine WR.done rfl ?_;refine Runs.seq ?_;refine Runs.sr ?_;refine WR.d0 s 3 [(14, .pointer (some ⟨j, 0, none⟩)), (15, .i z), (16, .i field)] fun a s => ?_
 replace H := zb.shut e (zb.mk a_.l a_.never a_.free t_) H.t3.t3.t3;obtain ⟨F, B, hm⟩ := bind_some hm;refine WR.eff s rfl rfl rfl rfl (OpTo.fn s rfl rfl Tryz.call205 (tw B H)) ?_;rintro _ w ⟨rfl, H⟩ a s;refine WR.e0 s [(18, .bool (!F))] fun a s => ?_
 refine Runs.cond s rfl (fun c => ?_) (fun c => ?_)
 ·replace hm := wh c hm;refine Runs.sr ?_;refine WR.e0 s [(8, .bool false)] fun a s => ?_
  refine Runs.ret s Tryz.func152 rfl rfl ?_;cases hm;exact ⟨rfl, H⟩
 ·replace hm := wg c hm;refine Runs.skip ?_;refine Runs.sr ?_;replace H := zb.open H
  try dsimp only at H
  obtain ⟨x, ex, hm⟩ := bind_some hm;obtain ⟨b, o, hs, J⟩ := SlRd.base (vj 247 zr.enc 11 _ _ _) zr.yK H 1 rfl ex;obtain ⟨u, I, hm⟩ := bind_some hm;refine WR.d s 10 [.slice e.l_b a_.l.length e.l_c, .pointer (some ⟨b, o, none⟩)] [(25, .i v_), (28, .pointer (some ⟨b, o + (Int.toNat z) * 11 + (Int.toNat field) * 1, none⟩))] (obs := [.cell ⟨j, 0, none⟩ (.slice e.l_b a_.l.length e.l_c), .p ((e.l_b : Option Addr) = some ⟨b, o, none⟩), .p (0 <= (z : Int) /\ (z : Int) < ((a_.l.length : Nat) : Int)), .p (0 <= (field : Int) /\ (field : Int) < ((10 : Nat) : Int))]) ⟨H.cell 0 rfl rfl, hs, J, mV I, trivial⟩ fun a s => ?_
  obtain ⟨y, O, hm⟩ := bind_some hm;refine WR.eff0 s rfl rfl rfl (OpTo.me (q := (Int.toNat field) * 1) (x' := y) s H.t1 zr.yK rfl hs ex rfl rfl rfl rfl rfl (by have := mV I; show (Int.toNat field) * 1 + 1 <= 11; omega) (zr.j3 O)) ?_;rintro _ w H a s;rw [<- pH a_.l z y] at H;refine WR.done rfl ?_;refine Runs.sr ?_;refine WR.e0 s [(8, .bool true)] fun a s => ?_
  replace H := zb.shut e (zb.mk (mSet a_.l z y) a_.never a_.free t_) H.t3.t3.t2.t3;refine Runs.ret s Tryz.func152 rfl rfl ?_;cases hm;exact ⟨rfl, H⟩
abbrev cp : List (PK El) := [pO zb.D, pI .i64, pI .i64, pI .i64]
def C152 : Con El := zG 152 cp (fun e => zx e.1.2.2 e.2.1 e.2.2.1 e.2.2.2.1) 0 0 (fun e t i j => .bool t.1) (fun e t i j => zb.D.flat e.1.1 e.1.2.1 t.2)
theorem S152 : (C152).Sound pG := fun e t hm w0 w F l H => by
  obtain ⟨⟨p0, i, x0⟩, x1, x2, x3, _⟩ := e;have j : St w0 (zb.R p0 i x0 :: F) w := by
    refine (fs0 fun As => zb.D_st).2 ?_;exact H
  refine (qa (show zx x0 x1 x2 x3 = some t from hm) j).mono ?_;rintro v w' ⟨hv, H⟩;refine ⟨[], [], rfl, rfl, hv, ?_, fun _ h => by cases h⟩;replace H := (fs0 fun As => zb.D_st).1 H;exact H
def K152 : SCon El pG := ⟨C152, S152, Tryz.call152⟩
def C120 : Con El := zG 120 wo (fun e => pM e.1.2.2 e.2.1 e.2.2.1) 1 1 (fun e t j l => .tuple #[.i t.1, .bool t.2.1]) (fun e t j l => zb.D.flat e.1.1 (zb.A.mk e.1.2.1.l_b e.1.2.1.l_c (na l 0) (nn j 0) e.1.2.1.m__p) t.2.2)
theorem S120 : (C120).Sound pG :=
  fsn mixed (C120) (n := 28) (rs := rsOf pG 120) [] [0, 1, 2, 3] (gj (g2 (gI 6) (g2 (gB 7) (gO zb.D [0, 1, 2, 3]))) [nq_2]) (fun i => (.g 2 (.g 2 (.uf (.g 1 (.s (.call K151 [.K 0, .K 1, .K 2, .K 3] [0, 1, 2, 3]) (.g 5 (.g 1 (.join (zb) 0 0 (gj (gO zb.D [0, 1, 2, 3]) []) (fun e l t u => match (g2 (gP 0) (gA zb.D [0, 1, 2, 3])) e with | some j => ([] ++ kp [8, 9] e, ka [] e ++ zipL [0, 1, 2, 3] (zb.D.flat (j.1) (zb.A.mk (j.2.l_b) (j.2.l_c) (j.2.free_b) (j.2.free_c) (j.2.m__p)) l)) | none => ([], [])) (.cond (.g 3 (.s (.call K152 [.K 0, .K 1, .K 2, .K 3] [0, 1, 2, 3]) (.g 3 (.s (.call K152 [.K 0, .K 1, .K 2, .K 3] [0, 1, 2, 3]) .leaf)))) .leaf) (.g 4 .ret)))))))))) Tryz.func120
def K120 : SCon El pG := ⟨C120, S120, Tryz.call120⟩
def C240 : Con El := zG 240 wo (fun e => rf e.1.2.2 e.2.1 e.2.2.1) 0 0 (fun e t i j => .tuple #[]) (fun e t i j => zb.D.flat e.1.1 e.1.2.1 t)
theorem S240 : (C240).Sound pG :=
  fsn mixed (C240) (n := 16) (rs := rsOf pG 240) [] [0, 1, 2, 3] (gj (gO zb.D [0, 1, 2, 3]) []) (fun i => (.g 2 (.tG (.g 3 (.s (.call K152 [.K 0, .K 1, .K 2, .K 3] [0, 1, 2, 3]) (.g 3 (.s (.call K152 [.K 0, .K 1, .K 2, .K 3] [0, 1, 2, 3]) .leaf))))))) Tryz.func240
def K240 : SCon El pG := ⟨C240, S240, Tryz.call240⟩
def C206 : Con El := zG 206 uG (fun e => ru e.1.2.2 e.2.1) 1 1 (fun e t j l => .tuple #[.i t.1, .bool t.2.1]) (fun e t j l => zb.D.flat e.1.1 (zb.A.mk e.1.2.1.l_b e.1.2.1.l_c (na l 0) (nn j 0) e.1.2.1.m__p) t.2.2)
theorem S206 : (C206).Sound pG :=
  fsn mixed (C206) (n := 20) (rs := rsOf pG 206) [] [0, 1, 2, 3] (gj (g2 (gI 4) (g2 (gB 5) (gO zb.D [0, 1, 2, 3]))) [nq_2]) (fun i => (.g 2 (.g 1 (.s (.call K151 [.K 0, .K 1, .K 2, .K 3] [0, 1, 2, 3]) (.g 5 (.g 1 (.join (zb) 0 0 (gj (gO zb.D [0, 1, 2, 3]) []) (fun e l t u => match (g2 (gP 0) (gA zb.D [0, 1, 2, 3])) e with | some j => ([] ++ kp [6, 7] e, ka [] e ++ zipL [0, 1, 2, 3] (zb.D.flat (j.1) (zb.A.mk (j.2.l_b) (j.2.l_c) (j.2.free_b) (j.2.free_c) (j.2.m__p)) l)) | none => ([], [])) (.cond (.g 3 (.s (.call K240 [.K 0, .K 1, .K 2, .K 3] [0, 1, 2, 3]) .leaf)) .leaf) (.g 4 .ret)))))))) Tryz.func206
def K206 : SCon El pG := ⟨C206, S206, Tryz.call206⟩
def C241 : Con El := zG 241 C66p (fun e => xq e.1.2.2) 0 0 (fun e t j l => .i t) (fun e t j l => zb.D.flat e.1.1 e.1.2.1 e.1.2.2)
theorem S241 : (C241).Sound pG :=
  fsn mixed (C241) (n := 8) (rs := rsOf pG 241) [] [0, 1, 2, 3] (gj (gI 2) []) (fun i => (.g 1 (.s (.seg 6 [.C 0 0]) .ret))) Tryz.func241
def K241 : SCon El pG := ⟨C241, S241, Tryz.call241⟩
theorem tD {w0 w : World} {As : List HP} {s : Nat} {j : zb.A} {a_ : zb} {z : Int} {field : Int} {t : Int × zb}  (hm : zP a_ z field = some t) (H : St w0 (zb.R s j a_ :: As) w) :
    yX pG 174 #[.pointer (some ⟨s, 0, none⟩), .i z, .i field] w fun v w' => v = .i t.1 /\ St w0 (zb.R s j t.2 :: As) w' := by
 rw [zP] at hm;refine enter (args := [.pointer (some ⟨s, 0, none⟩), .i z, .i field]) Tryz.func174 rfl rfl rfl fun a y => ?_
 refine Runs.sr ?_;refine WR.seg y 1 [] [0, 1, 2] (Lo := [(0, .pointer (some ⟨s, 0, none⟩)), (1, .i z), (2, .i field)]) (obs := []) rfl (by kernel_rfl) trivial fun a y => ?_
 refine WR.done rfl ?_;refine Runs.sr ?_;replace H := zb.open H;refine WR.d y 4 [.pointer (some ⟨j.m__p, 0, none⟩)] [(10, .pointer (some ⟨j.m__p, 0, none⟩))] (obs := [.cell ⟨s, 3, none⟩ (.pointer (some ⟨j.m__p, 0, none⟩))]) ⟨H.cell 0 rfl rfl, trivial⟩ fun a y => ?_
 obtain ⟨t_, D, hm⟩ := bind_some hm;refine WR.eff y rfl rfl rfl rfl (OpTo.fn y rfl rfl Tryz.call203 (u6 D H.t3)) ?_;rintro _ w ⟨rfl, H⟩ a y;refine WR.done rfl ?_;refine Runs.seq ?_;refine Runs.sr ?_;refine WR.d0 y 3 [(12, .pointer (some ⟨s, 0, none⟩)), (13, .i z), (14, .i field)] fun a y => ?_
 replace H := zb.shut j (zb.mk a_.l a_.never a_.free t_) H.t3.t3.t3;obtain ⟨F, B, hm⟩ := bind_some hm;refine WR.eff y rfl rfl rfl rfl (OpTo.fn y rfl rfl Tryz.call205 (tw B H)) ?_;rintro _ w ⟨rfl, H⟩ a y;refine WR.e0 y [(16, .bool (!F))] fun a y => ?_
 refine Runs.cond y rfl (fun c => ?_) (fun c => ?_)
 ·replace hm := wh c hm;refine Runs.sr ?_;refine WR.e0 y [(6, .i (-1))] fun a y => ?_
  refine Runs.ret y Tryz.func174 rfl rfl ?_;cases hm;exact ⟨rfl, H⟩
 ·replace hm := wg c hm;refine Runs.skip ?_;refine Runs.sr ?_;replace H := zb.open H
  try dsimp only at H
  obtain ⟨x, ex, hm⟩ := bind_some hm;obtain ⟨b, o, hs, J⟩ := SlRd.base (vj 247 zr.enc 11 _ _ _) zr.yK H 1 rfl ex;obtain ⟨u, O, hm⟩ := bind_some hm;obtain ⟨v_, I, hm⟩ := bind_some hm;refine WR.e y [.slice j.l_b a_.l.length j.l_c, .pointer (some ⟨b, o, none⟩), .i v_] [(6, .i v_)] (obs := [.cell ⟨s, 0, none⟩ (.slice j.l_b a_.l.length j.l_c), .p ((j.l_b : Option Addr) = some ⟨b, o, none⟩), .p (0 <= (z : Int) /\ (z : Int) < ((a_.l.length : Nat) : Int)), .p (0 <= (field : Int) /\ (field : Int) < ((10 : Nat) : Int)), .cell ⟨b, o + (Int.toNat z) * 11 + (Int.toNat field) * 1, none⟩ (.i v_)]) ⟨H.cell 0 rfl rfl, hs, J, mV O, SlRd.cells (vj 247 zr.enc 11 _ _ _) zr.yK H 1 rfl hs ex ((Int.toNat field) * 1) _ (zr.jN I), trivial⟩ fun a y => ?_
  replace H := zb.shut j (zb.mk a_.l a_.never a_.free t_) H.t3.t3.t3.t3;refine Runs.ret y Tryz.func174 rfl rfl ?_;cases hm;exact ⟨rfl, H⟩
def C174 : Con El := zG 174 wo (fun e => zP e.1.2.2 e.2.1 e.2.2.1) 0 0 (fun e t j l => .i t.1) (fun e t j l => zb.D.flat e.1.1 e.1.2.1 t.2)
theorem S174 : (C174).Sound pG := fun e t hm w0 w F l H => by
  obtain ⟨⟨p0, i, x0⟩, x1, x2, _⟩ := e;have j : St w0 (zb.R p0 i x0 :: F) w := by
    refine (fs0 fun As => zb.D_st).2 ?_;exact H
  refine (tD (show zP x0 x1 x2 = some t from hm) j).mono ?_;rintro v w' ⟨hv, H⟩;refine ⟨[], [], rfl, rfl, hv, ?_, fun _ h => by cases h⟩;replace H := (fs0 fun As => zb.D_st).1 H;exact H
def K174 : SCon El pG := ⟨C174, S174, Tryz.call174⟩
def C215 : Con El := zG 215 wo (fun e => zD e.1.2.2 e.2.1 e.2.2.1) 0 0 (fun e t j l => .i t.1) (fun e t j l => zb.D.flat e.1.1 e.1.2.1 t.2)
theorem S215 : (C215).Sound pG :=
  fsn mixed (C215) (n := 24) (rs := rsOf pG 215) [] [0, 1, 2, 3] (gj (g2 (gI 6) (gO zb.D [0, 1, 2, 3])) []) (fun i => (.g 1 (.g 3 (.s (.call K174 [.K 0, .K 1, .K 2, .K 3] [0, 1, 2, 3]) (.g 1 (.join (Bool) 0 0 (gj (gB 22) []) (fun e j l t => ([(22, .bool j)] ++ kp [7] e, ka [0, 1, 2, 3] e)) (.g 3 (.split 14 (.g 8 .leaf) (.s (.seg 8 [.C 0 0]) .leaf))) (.cond (.g 1 .ret) (.g 2 .ret)))))))) Tryz.func215
def K215 : SCon El pG := ⟨C215, S215, Tryz.call215⟩
def C280 : Con El := zG 280 uG (fun e => tV e.1.2.2 e.2.1) 0 0 (fun e t j l => .agg #[.i t.1.Key, .i t.1.Serial]) (fun e t j l => zb.D.flat e.1.1 e.1.2.1 t.2)
theorem S280 : (C280).Sound pG :=
  fsn mixed (C280) (n := 15) (rs := rsOf pG 280) [.C 2000 0, .C 2000 1] [0, 1, 2, 3] (gj (g2 (gC 2000 0 2 zw.dec) (gO zb.D [0, 1, 2, 3])) []) (fun i => (.s (.new 4 []) (.g 2 (.uf (.g 2 (.s (.call K174 [.K 0, .K 1, .K 2, .K 3] [0, 1, 2, 3]) (.g 2 (.s (.call K174 [.K 0, .K 1, .K 2, .K 3] [0, 1, 2, 3]) (.g 1 (.s (.sto 4) (.rk (rb 2000 [4]) .ret))))))))))) Tryz.func280
def K280 : SCon El pG := ⟨C280, S280, Tryz.call280⟩
def C147 : Con El := zG 147 C51p (fun e => w7 e.1) 0 0 (fun e t i j => .bool t) (fun e t i j => [])
theorem S147 : (C147).Sound pG :=
  fsn mixed (C147) (n := 6) (rs := rsOf pG 147) [] [] (gj (gB 2) []) (fun i => (.g 1 (.g 4 .ret))) Tryz.func147
def K147 : SCon El pG := ⟨C147, S147, Tryz.call147⟩
def C111 : Con El := zG 111 jJ (fun e => wy e.1 e.2.1) 0 0 (fun e t j l => .i t) (fun e t j l => [])
theorem S111 : (C111).Sound pG :=
  fsn mixed (C111) (n := 20) (rs := rsOf pG 111) [] [] (gj (gI 4) []) (fun i => (.g 1 (.g 1 (.s (.call K147 [] []) (.g 1 (.g 1 (.s (.call K147 [] []) (.g 1 (.g 1 (.cond (.g 1 (.cond (.g 1 .ret) (.g 1 .ret))) (.g 1 (.cond (.g 1 .ret) (.g 3 (.cond (.g 1 .ret) (.g 3 (.cond (.g 1 .ret) (.g 1 .ret))))))))))))))))) Tryz.func111
def K111 : SCon El pG := ⟨C111, S111, Tryz.call111⟩
abbrev gN : List (PK El) := [pR 1]
def C110 (k : Nat) : Con El := zG 110 gN (fun e => rv k e.1.2.2) 0 0 (fun e t j l => .i t) (fun e t j l => [])
abbrev bx (k : Nat) (i : Ins gN) : Kn El -> VC (C110 k).T := retC pG (C110 k) (rsOf pG 110) [] [] (gj (gI 2) []) i
def oW (l : Ins gN) : BCon El (Int) := ⟨nav [1, 1, 0, 1] (yo pG 110), Int, Int, Unit, (Int) ⊕ (Unit), fun r => r, fun _ _ => none, fun s => [(0, ⟨1, l.1.1, l.1.2.1, l.1.2.2⟩)], fun s v_ e j => [(3, .i 0), (6, .slice l.1.1 l.1.2.2.length l.1.2.1), (7, .i (s)), (8, .i v_)], fun s v_ e j => [], 0, 0, fun s t e j => [(3, .i 0)], fun s t e j => []⟩
def kA (k : Nat) (e : Ins gN) : Nat -> (oW e).X -> (oW e).V -> Option (oW e).W := fun m_ (i : Int) (v_ : Int) => ve (i) e.1.2.2 m_ v_
theorem dC (k : Nat) (i : Ins gN) (m : Nat) : ((oW i).at (kA k i) m).Sound pG 110 18 (bx k i) :=
  lsn mixed (oW i) (id := 0) (body := nav [1, 1, 0, 1, 0, 0] (yo pG 110)) (kA k i) (fun r => some (.inl r)) (fun u => .inr u) (gj (gI 8) []) (gj gU []) (fun m => (.g 1 (.cond (.blk (.s (.idx true 0 (.tmp 8) 2) (.s (.seg 3 [.A 2, .R 2 0]) (.g 3 (.cond (.g 2 .ret) (.g 2 .back)))))) .leaf))) m
theorem S110 (k : Nat) : (C110 k).Sound pG :=
  fsn mixed (C110 k) (n := 18) (rs := rsOf pG 110) [] [] (gj (gI 2) []) (fun i => (.g 1 (.g 1 (.g 3 (.loop ⟨(oW i).at (kA k i) k, dC k i k⟩ (gl (gI 7) (gI 8) []) (.g 2 .ret)))))) Tryz.func110
def K110 (k : Nat) : SCon El pG := ⟨C110 k, S110 k, Tryz.call110⟩
abbrev C80p : List (PK El) := [pV zw.dv zw.val, pV zw.dv zw.val]
def C80 (k : Nat) : Con El := zG 80 C80p (fun e => uX k e.1 e.2.1) 0 0 (fun e t j l => .i t) (fun e t j l => [])
theorem S80 (k : Nat) : (C80 k).Sound pG :=
  fsn mixed (C80 k) (n := 17) (rs := rsOf pG 80) [] [] (gj (gI 4) []) (fun i => (.s (.new 0 []) (.s (.new 1 []) (.g 1 (.drw (.q [0, 1, 2, 3, 5, 6, 7, 8] [.C 0 0, .C 1 0, .C 0 1, .C 1 1] (.a 4 (.call K111 [] []) [.C 1 1, .C 0 1] (.a 9 (.call K111 [] []) [] (.a 10 (.bld 3 1 3) [] (.a 11 (.call (K110 k) [.O 3] []) [] (.q [12] [] .ret))))))))))) Tryz.func80
def K80 (k : Nat) : SCon El pG := ⟨C80 k, S80 k, Tryz.call80⟩
def C261 (k : Nat) : Con El := zG 261 wo (fun e => sC k e.1.2.2 e.2.1 e.2.2.1) 0 0 (fun e t i j => .bool t.1) (fun e t i j => zb.D.flat e.1.1 e.1.2.1 t.2)
theorem S261 (k : Nat) : (C261 k).Sound pG :=
  fsn mixed (C261 k) (n := 26) (rs := rsOf pG 261) [] [0, 1, 2, 3] (gj (g2 (gB 6) (gO zb.D [0, 1, 2, 3])) []) (fun i => (.g 1 (.g 2 (.s (.call K280 [.K 0, .K 1, .K 2, .K 3] [0, 1, 2, 3]) (.g 2 (.s (.call K280 [.K 0, .K 1, .K 2, .K 3] [0, 1, 2, 3]) (.s (.call (K80 k) [] []) (.g 1 (.g 3 (.pj 17 (Bool) mB (gB 6) (fun st e => ([(6, .bool e)] ++ kp [] st, ka [0, 1, 2, 3] st)) (.g 9 .leaf) (.g 3 (.pj 20 (Bool) mB (gB 6) (fun st e => ([(6, .bool e)] ++ kp [] st, ka [0, 1, 2, 3] st)) (.g 6 .leaf) (.g 6 .leaf) .leaf)) .ret)))))))))) Tryz.func261
def K261 (k : Nat) : SCon El pG := ⟨C261 k, S261 k, Tryz.call261⟩
def C229 (k : Nat) : Con El := zG 229 wo (fun e => w6 k e.1.2.2 e.2.1 e.2.2.1) 0 0 (fun e t i j => .bool t.1) (fun e t i j => zb.D.flat e.1.1 e.1.2.1 t.2)
theorem S229 (k : Nat) : (C229 k).Sound pG :=
  fsn mixed (C229 k) (n := 15) (rs := rsOf pG 229) [] [0, 1, 2, 3] (gj (g2 (gB 6) (gO zb.D [0, 1, 2, 3])) []) (fun i => (.g 1 (.g 3 (.s (.call K215 [.K 0, .K 1, .K 2, .K 3] [0, 1, 2, 3]) (.g 2 (.s (.call K215 [.K 0, .K 1, .K 2, .K 3] [0, 1, 2, 3]) (.s (.call (K261 k) [.K 0, .K 1, .K 2, .K 3] [0, 1, 2, 3]) (.g 1 .ret)))))))) Tryz.func229
def K229 (k : Nat) : SCon El pG := ⟨C229 k, S229 k, Tryz.call229⟩
def C271 : Con El := zG 271 uG (fun e => uH e.1.2.2 e.2.1) 0 0 (fun e t j l => .i t.1) (fun e t j l => zb.D.flat e.1.1 e.1.2.1 t.2)
theorem S271 : (C271).Sound pG :=
  fsn mixed (C271) (n := 10) (rs := rsOf pG 271) [] [0, 1, 2, 3] (gj (g2 (gI 4) (gO zb.D [0, 1, 2, 3])) []) (fun i => (.g 1 (.g 2 (.cond (.g 1 .ret) (.g 2 (.s (.call K174 [.K 0, .K 1, .K 2, .K 3] [0, 1, 2, 3]) (.g 1 .ret))))))) Tryz.func271
def K271 : SCon El pG := ⟨C271, S271, Tryz.call271⟩
def C242 : Con El := zG 242 uG (fun e => u2 e.1.2.2 e.2.1) 0 0 (fun e t i j => .bool t.1) (fun e t i j => zb.D.flat e.1.1 e.1.2.1 t.2)
theorem S242 : (C242).Sound pG :=
  fsn mixed (C242) (n := 46) (rs := rsOf pG 242) [] [0, 1, 2, 3] (gj (g2 (gB 4) (gO zb.D [0, 1, 2, 3])) []) (fun i => (.g 1 (.g 2 (.s (.call K215 [.K 0, .K 1, .K 2, .K 3] [0, 1, 2, 3]) (.g 2 (.s (.call K215 [.K 0, .K 1, .K 2, .K 3] [0, 1, 2, 3]) (.g 2 (.g 2 (.s (.call K271 [.K 0, .K 1, .K 2, .K 3] [0, 1, 2, 3]) (.g 2 (.s (.call K271 [.K 0, .K 1, .K 2, .K 3] [0, 1, 2, 3]) (.g 2 (.g 3 (.join (Int × zb) 0 0 (gj (g2 (gI 8) (gO zb.D [0, 1, 2, 3])) []) (fun e j t u => match (g2 (gP 0) (gA zb.D [0, 1, 2, 3])) e with | some l => ([(8, .i j.1)] ++ kp [0, 1] e, ka [] e ++ zipL [0, 1, 2, 3] (zb.D.flat (l.1) (l.2) j.2)) | none => ([], [])) (.cond (.g 3 (.s (.call K152 [.K 0, .K 1, .K 2, .K 3] [0, 1, 2, 3]) (.g 3 (.s (.call K152 [.K 0, .K 1, .K 2, .K 3] [0, 1, 2, 3]) (.g 2 .leaf))))) .leaf) (.g 2 (.s (.call K174 [.K 0, .K 1, .K 2, .K 3] [0, 1, 2, 3]) (.g 1 (.g 4 (.s (.call K152 [.K 0, .K 1, .K 2, .K 3] [0, 1, 2, 3]) (.g 5 .ret)))))))))))))))))))) Tryz.func242
def K242 : SCon El pG := ⟨C242, S242, Tryz.call242⟩
def C207 (k : Nat) : Con El := zG 207 wo (fun e => wC k e.1.2.2 e.2.1 e.2.2.1) 0 0 (fun e t j l => .i t.1) (fun e t j l => zb.D.flat e.1.1 e.1.2.1 t.2)
abbrev cM (k : Nat) (i : Ins wo) : Kn El -> VC (C207 k).T := retC pG (C207 k) (rsOf pG 207) [] [0, 1, 2, 3] (gj (g2 (gI 6) (gO zb.D [0, 1, 2, 3])) []) i
def nS (l : Ins wo) : BCon El (Int × zb) := ⟨nav [1, 1, 1, 0] (yo pG 207), Unit, Int × Int × (List Int) × zb, Int × Int × (List Int) × zb, Int × Int × (List Int) × zb, fun u => .inr u, fun _ _ => none, fun t => [], fun t v_ e j => [(0, .pointer (some ⟨l.1.1, 0, none⟩)), (1, .i v_.1), (2, .i v_.2.1), (7, .slice (na j 0) v_.2.2.1.length (nn e 0))], fun t v_ e j => zipL [9] [.sl 1 3 (na j 0) (nn e 0) v_.2.2.1] ++ zipL [0, 1, 2, 3] (zb.D.flat l.1.1 l.1.2.1 v_.2.2.2), 1, 1, fun t s e j => [(0, .pointer (some ⟨l.1.1, 0, none⟩)), (1, .i s.1), (2, .i s.2.1), (7, .slice (na j 0) s.2.2.1.length (nn e 0))], fun t s e j => zipL [8] [.sl 1 3 (na j 0) (nn e 0) s.2.2.1] ++ zipL [0, 1, 2, 3] (zb.D.flat l.1.1 l.1.2.1 s.2.2.2)⟩
def kC (k : Nat) (e : Ins wo) : Nat -> (nS e).X -> (nS e).V -> Option (nS e).W := fun m_ (i : Unit) (v_ : Int × Int × (List Int) × zb) => wv m_ v_.1 v_.2.1 v_.2.2.1 v_.2.2.2
theorem dr (k : Nat) (i : Ins wo) (m : Nat) : ((nS i).at (kC k i) m).Sound pG 207 75 (cM k i) :=
  lsn mixed (nS i) (id := 0) (body := nav [1, 1, 1, 0, 0, 0] (yo pG 207)) (kC k i) (fun _ => none) (fun u => u) (gj (g2 (gI 1) (g2 (gI 2) (g2 (gL 1 9) (gO zb.D [0, 1, 2, 3])))) [nSk 9]) (gj (g2 (gI 1) (g2 (gI 2) (g2 (gL 1 8) (gO zb.D [0, 1, 2, 3])))) [nSk 8]) (fun m => (.join (Bool) 0 0 (gj (gB 26) []) (fun e j l t => ([(26, .bool j)] ++ kp [0, 1, 2, 7] e, ka [9, 0, 1, 2, 3] e)) (.g 3 (.split 16 (.g 4 (.split 20 (.g 3 (.s (.call K241 [.K 0, .K 1, .K 2, .K 3] [0, 1, 2, 3]) (.g 2 .leaf))) (.g 6 .leaf))) (.g 10 .leaf))) (.cond (.blk (.g 3 (.s (.call (K229 m) [.K 0, .K 1, .K 2, .K 3] [0, 1, 2, 3]) (.join (Int × Int) 0 0 (gj (g2 (gI 1) (gI 2)) []) (fun e j l t => ([(1, .i j.1), (2, .i j.2)] ++ kp [0, 7] e, ka [0, 1, 2, 3, 9] e)) (.cond (.g 4 .leaf) .leaf) (.g 2 (.s (.bld 11 1 3) (.s (.app 9 (.O 11)) (.g 1 (.g 2 (.s (.call K215 [.K 0, .K 1, .K 2, .K 3] [0, 1, 2, 3]) (.g 1 .back))))))))))) (.rk (rb 8 [9]) .leaf)))) m
def nP (s : Ins wo) : BCon El (Int × zb) := ⟨nav [1, 1, 1, 1, 1, 0, 1] (yo pG 207), (List Int) × (Option Addr × Nat), Int × Int × zb, Int × zb, Int × zb, fun u => .inr u, fun _ _ => none, fun e => [], fun e v_ j l => [(0, .pointer (some ⟨s.1.1, 0, none⟩)), (7, .slice (e.2.1) (e.1).length (e.2.2)), (8, .i v_.1), (9, .i v_.2.1)], fun e v_ j l => zipL [8] [.sl 1 3 (e.2.1) (e.2.2) (e.1)] ++ zipL [0, 1, 2, 3] (zb.D.flat s.1.1 s.1.2.1 v_.2.2), 0, 0, fun e t j l => [(0, .pointer (some ⟨s.1.1, 0, none⟩)), (8, .i t.1)], fun e t j l => zipL [0, 1, 2, 3] (zb.D.flat s.1.1 s.1.2.1 t.2)⟩
def lP (k : Nat) (e : Ins wo) : Nat -> (nP e).X -> (nP e).V -> Option (nP e).W := fun m_ (i : (List Int) × (Option Addr × Nat)) (v_ : Int × Int × zb) => xE (i.1) m_ v_.1 v_.2.1 v_.2.2
theorem ck (k : Nat) (i : Ins wo) (m : Nat) : ((nP i).at (lP k i) m).Sound pG 207 75 (cM k i) :=
  lsn mixed (nP i) (id := 2) (body := nav [1, 1, 1, 1, 1, 0, 1, 0, 0] (yo pG 207)) (lP k i) (fun _ => none) (fun u => u) (gj (g2 (gI 8) (g2 (gI 9) (gO zb.D [0, 1, 2, 3]))) []) (gj (g2 (gI 8) (gO zb.D [0, 1, 2, 3])) []) (fun m => (.g 2 (.cond (.blk (.g 3 (.s (.idx false 8 (.tmp 52) 6) (.s (.seg 3 [.A 6, .X 6 8 0]) (.s (.call K152 [.K 0, .K 1, .K 2, .K 3] [0, 1, 2, 3]) (.g 4 (.s (.idx false 8 (.tmp 60) 7) (.s (.seg 2 [.A 7, .X 7 8 0]) (.s (.call K152 [.K 0, .K 1, .K 2, .K 3] [0, 1, 2, 3]) (.g 2 (.s (.idx false 8 (.tmp 65) 8) (.s (.seg 3 [.A 8, .X 8 8 0]) (.g 2 (.s (.call K242 [.K 0, .K 1, .K 2, .K 3] [0, 1, 2, 3]) (.g 3 .back))))))))))))))) .leaf))) m
theorem S207 (k : Nat) : (C207 k).Sound pG :=
  fsn mixed (C207 k) (n := 75) (rs := rsOf pG 207) [] [0, 1, 2, 3] (gj (g2 (gI 6) (gO zb.D [0, 1, 2, 3])) []) (fun i => (.g 1 (.g 3 (.cond (.g 2 .ret) (.g 1 (.s (.nil 10 1 3) (.rk (rb 9 [10]) (.loop ⟨(nS i).at (kC k i) k, dr k i k⟩ (gl gU (g2 (gI 1) (g2 (gI 2) (g2 (gL 1 9) (gO zb.D [0, 1, 2, 3])))) [nSk 9]) (.g 4 (.g 4 (.loop ⟨(nP i).at (lP k i) k, ck k i k⟩ (gl (g2 (gL 1 8) (gh 8)) (g2 (gI 8) (g2 (gI 9) (gO zb.D [0, 1, 2, 3]))) []) (.g 2 (.s (.call K152 [.K 0, .K 1, .K 2, .K 3] [0, 1, 2, 3]) (.g 2 .ret)))))))))))))) Tryz.func207
def K207 (k : Nat) : SCon El pG := ⟨C207 k, S207 k, Tryz.call207⟩
def C153 (k : Nat) : Con El := zG 153 wo (fun e => tp k e.1.2.2 e.2.1 e.2.2.1) 1 1 (fun e t j l => .tuple #[.i t.1, .bool t.2.1]) (fun e t j l => zb.D.flat e.1.1 (zb.A.mk e.1.2.1.l_b e.1.2.1.l_c (na l 0) (nn j 0) e.1.2.1.m__p) t.2.2)
theorem S153 (k : Nat) : (C153 k).Sound pG :=
  fsn mixed (C153 k) (n := 28) (rs := rsOf pG 153) [] [0, 1, 2, 3] (gj (g2 (gI 6) (g2 (gB 7) (gO zb.D [0, 1, 2, 3]))) [nq_2]) (fun i => (.g 2 (.g 2 (.uf (.g 2 (.s (.call K206 [.K 0, .K 1, .K 2, .K 3] [0, 1, 2, 3]) (.g 5 (.g 2 (.cond (.g 3 .ret) (.g 2 (.s (.call K152 [.K 0, .K 1, .K 2, .K 3] [0, 1, 2, 3]) (.g 3 (.s (.call (K207 k) [.K 0, .K 1, .K 2, .K 3] [0, 1, 2, 3]) (.g 2 .ret)))))))))))))) Tryz.func153
def K153 (k : Nat) : SCon El pG := ⟨C153 k, S153 k, Tryz.call153⟩
def C248 (k : Nat) : Con El := zG 248 wo (fun e => qg k e.1.2.2 e.2.1 e.2.2.1) 1 1 (fun e t i j => .slice (na j 0) t.1.length (nn i 0)) (fun e t i j => [.sl 1 3 (na j 0) (nn i 0) t.1] ++ zb.D.flat e.1.1 e.1.2.1 t.2)
abbrev bI (k : Nat) (i : Ins wo) : Kn El -> VC (C248 k).T := retC pG (C248 k) (rsOf pG 248) [] [1000, 0, 1, 2, 3] (gj (g2 (gL 1 1000) (gO zb.D [0, 1, 2, 3])) [nSk 1000]) i
def nB (l : Ins wo) : BCon El ((List Int) × zb) := ⟨nav [1, 1, 0] (yo pG 248), Unit, Int × (List Int) × zb, (List Int) × zb, (List Int) × zb, fun u => .inr u, fun _ _ => none, fun s => [], fun s v_ e j => [(0, .pointer (some ⟨l.1.1, 0, none⟩)), (1, .i v_.1), (2, .i l.2.2.1), (7, .slice (na j 0) v_.2.1.length (nn e 0))], fun s v_ e j => zipL [9] [.sl 1 3 (na j 0) (nn e 0) v_.2.1] ++ zipL [0, 1, 2, 3] (zb.D.flat l.1.1 l.1.2.1 v_.2.2), 1, 1, fun s t e j => [(7, .slice (na j 0) t.1.length (nn e 0))], fun s t e j => zipL [8] [.sl 1 3 (na j 0) (nn e 0) t.1] ++ zipL [0, 1, 2, 3] (zb.D.flat l.1.1 l.1.2.1 t.2)⟩
def kM (k : Nat) (e : Ins wo) : Nat -> (nB e).X -> (nB e).V -> Option (nB e).W := fun m_ (i : Unit) (v_ : Int × (List Int) × zb) => ux e.2.2.1 m_ v_.1 v_.2.1 v_.2.2
theorem eZ (k : Nat) (i : Ins wo) (m : Nat) : ((nB i).at (kM k i) m).Sound pG 248 27 (bI k i) :=
  lsn mixed (nB i) (id := 0) (body := nav [1, 1, 0, 0, 0] (yo pG 248)) (kM k i) (fun _ => none) (fun u => u) (gj (g2 (gI 1) (g2 (gL 1 9) (gO zb.D [0, 1, 2, 3]))) [nSk 9]) (gj (g2 (gL 1 8) (gO zb.D [0, 1, 2, 3])) [nSk 8]) (fun m => (.join (Bool) 0 0 (gj (gB 17) []) (fun e j l t => ([(17, .bool j)] ++ kp [0, 1, 2, 7] e, ka [9, 0, 1, 2, 3] e)) (.g 2 (.s (.call K217 [.K 0, .K 1, .K 2, .K 3] [0, 1, 2, 3]) (.g 1 (.split 11 (.g 3 (.s (.call K241 [.K 0, .K 1, .K 2, .K 3] [0, 1, 2, 3]) (.g 2 .leaf))) (.g 6 .leaf))))) (.cond (.blk (.g 2 (.s (.bld 11 1 3) (.s (.app 9 (.O 11)) (.g 1 (.g 3 (.s (.call K215 [.K 0, .K 1, .K 2, .K 3] [0, 1, 2, 3]) (.g 1 .back)))))))) (.rk (rb 8 [9]) .leaf)))) m
theorem S248 (k : Nat) : (C248 k).Sound pG :=
  fsn mixed (C248 k) (n := 27) (rs := rsOf pG 248) [] [1000, 0, 1, 2, 3] (gj (g2 (gL 1 1000) (gO zb.D [0, 1, 2, 3])) [nSk 1000]) (fun i => (.g 1 (.g 1 (.s (.nil 10 1 3) (.rk (rb 9 [10]) (.loop ⟨(nB i).at (kM k i) k, eZ k i k⟩ (gl gU (g2 (gI 1) (g2 (gL 1 9) (gO zb.D [0, 1, 2, 3]))) [nSk 9]) (.g 2 (.rk (rb 1000 [8]) .ret)))))))) Tryz.func248
def K248 (k : Nat) : SCon El pG := ⟨C248 k, S248 k, Tryz.call248⟩
def C209 (k : Nat) : Con El := zG 209 uG (fun j => xK k j.1.2.2 j.2.1) 1 1 (fun j t e i => .slice (na i 0) t.1.length (nn e 0)) (fun j t e i => [.sl 1 3 (na i 0) (nn e 0) t.1] ++ zb.D.flat j.1.1 j.1.2.1 t.2)
theorem S209 (k : Nat) : (C209 k).Sound pG :=
  fsn mixed (C209 k) (n := 8) (rs := rsOf pG 209) [] [1000, 0, 1, 2, 3] (gj (g2 (gL 1 1000) (gO zb.D [0, 1, 2, 3])) [nSk 1000]) (fun i => (.g 1 (.g 2 (.s (.call (K248 k) [.K 0, .K 1, .K 2, .K 3] [4, 0, 1, 2, 3]) (.g 1 (.rk (rb 1000 [4]) .ret)))))) Tryz.func209
def K209 (k : Nat) : SCon El pG := ⟨C209 k, S209 k, Tryz.call209⟩
abbrev bH : List (PK El) := [pV zk.dv zk.val, pV zk.dv zk.val]
def C244 : Con El := zG 244 bH (fun e => vq e.1 e.2.1) 0 0 (fun e t j l => .i t) (fun e t j l => [])
theorem S244 : (C244).Sound pG :=
  fsn mixed (C244) (n := 12) (rs := rsOf pG 244) [] [] (gj (gI 4) []) (fun i => (.s (.new 0 []) (.s (.new 1 []) (.g 1 (.s (.seg 8 [.C 0 1, .C 1 1]) .ret))))) Tryz.func244
def K244 : SCon El pG := ⟨C244, S244, Tryz.call244⟩
abbrev m8 : List (PK El) := [pW 5 267, pI .i64, pI .i64, pK (.func (.func 244) #[] #[])]
def C283 (k : Nat) : Con El := gJ 283 m8 (fun e => zK k e.1.2.2 e.2.1 e.2.2.1) 0 0 (fun e t i j => .tuple #[]) (fun e t i j => [.sl 5 267 e.1.1 e.1.2.1 t]) (fun e t => [t.length = e.1.2.2.length])
abbrev bl (k : Nat) (i : Ins m8) : Kn El -> VC (C283 k).T := retC pG (C283 k) (rsOf pG 283) [] [5000] (gj (gL 5 5000) []) i
def oR (e : Ins m8) : BCon El ((List zk)) := ⟨nav [1, 0, 0, 1, 0, 0, 1] (yo pG 283), Int, Int × (List zk), (List zk), (List zk), fun u => .inr u, fun _ _ => none, fun s => [], fun s v_ j l => [(0, .slice e.1.1 v_.2.length e.1.2.1), (1, .i e.2.1), (2, .i e.2.2.1), (3, .func (.func 244) #[] #[]), (8, .i (s)), (9, .i v_.1)], fun s v_ j l => zipL [0] [.sl 5 267 e.1.1 e.1.2.1 v_.2], 0, 0, fun s t j l => [(0, .slice e.1.1 t.length e.1.2.1), (1, .i e.2.1), (2, .i e.2.2.1), (3, .func (.func 244) #[] #[]), (8, .i (s))], fun s t j l => zipL [0] [.sl 5 267 e.1.1 e.1.2.1 t]⟩
def ki (k : Nat) (e : Ins m8) : Nat -> (oR e).X -> (oR e).V -> Option (oR e).W := fun m_ (i : Int) (v_ : Int × (List zk)) => zM e.2.1 e.2.2.1 (i) m_ v_.1 v_.2
theorem eR (k : Nat) (i : Ins m8) (m : Nat) : ((oR i).at (ki k i) m).Sound pG 283 53 (bl k i) :=
  lsn mixed (oR i) (id := 2) (body := nav [1, 0, 0, 1, 0, 0, 1, 0, 0] (yo pG 283)) (ki k i) (fun _ => none) (fun u => u) (gj (g2 (gI 9) (gL 5 0)) []) (gj (gL 5 0) []) (fun m => (.join (Bool) 0 0 (gj (gB 34) []) (fun e j l t => ([(34, .bool j)] ++ kp [0, 1, 2, 3, 8, 9] e, ka [0] e)) (.drw (.q [0, 1, 2, 3] [] (.split 21 (.q [4, 5, 6] [] (.s (.idx false 0 (.tmp 24) 107) (.q [7, 8, 9, 10, 11] [.A 107, .X 107 0 0, .X 107 0 1] (.s (.idx false 0 (.tmp 29) 108) (.q [12, 13] [.A 108, .X 108 0 0, .X 108 0 1] (.a 14 (.call K244 [] []) [] (.q [15, 16] [] .leaf))))))) (.q [4, 5, 6, 7, 8, 9, 10, 11, 12, 13, 14, 15, 16] [] .leaf)))) (.cond (.blk (.drw (.q rg_7 [] (.s (.idx false 0 (.tmp 44) 113) (.q [8, 9, 10, 11] [.A 113, .X 113 0 0, .X 113 0 1] (.s (.idx false 0 (.tmp 48) 114) (.q [12, 13] [.A 114, .X 114 0 0, .X 114 0 1] (.s (.idx false 0 (.tmp 38) 115) (.q [14] [.A 115] (.a 15 (.sset 0 115 0) [] (.s (.rls 115 0) (.s (.rls 115 39) (.s (.idx false 0 (.tmp 41) 116) (.q [16] [.A 116] (.a 17 (.sset 0 116 0) [] (.s (.rls 116 0) (.g 3 .back))))))))))))))))) .leaf))) m
def nK (e : Ins m8) : BCon El ((List zk)) := ⟨nav [1] (yo pG 283), Unit, Int × (List zk), (List zk), (List zk), fun u => .inr u, fun _ _ => none, fun s => [], fun s v_ j l => [(0, .slice e.1.1 v_.2.length e.1.2.1), (1, .i e.2.1), (2, .i e.2.2.1), (3, .func (.func 244) #[] #[]), (8, .i v_.1)], fun s v_ j l => zipL [0] [.sl 5 267 e.1.1 e.1.2.1 v_.2], 0, 0, fun s t j l => [], fun s t j l => zipL [0] [.sl 5 267 e.1.1 e.1.2.1 t]⟩
def kF (k : Nat) (e : Ins m8) : Nat -> (nK e).X -> (nK e).V -> Option (nK e).W := fun m_ (i : Unit) (v_ : Int × (List zk)) => zF e.2.1 e.2.2.1 m_ v_.1 v_.2
theorem cf (k : Nat) (i : Ins m8) (m : Nat) : ((nK i).at (kF k i) m).Sound pG 283 53 (bl k i) :=
  lsn mixed (nK i) (id := 0) (body := nav [1, 0, 0] (yo pG 283)) (kF k i) (fun _ => none) (fun u => u) (gj (g2 (gI 8) (gL 5 0)) []) (gj (gL 5 0) []) (fun m => (.g 3 (.cond (.blk (.g 2 (.loop ⟨(oR i).at (ki k i) m, eR k i m⟩ (gl (gI 8) (g2 (gI 9) (gL 5 0)) []) (.g 3 .back)))) .leaf))) m
theorem S283 (k : Nat) : (C283 k).Sound pG :=
  fsn mixed (C283 k) (n := 53) (rs := rsOf pG 283) [] [5000] (gj (gL 5 5000) []) (fun i => (.g 3 (.loop ⟨(nK i).at (kF k i) k, cf k i k⟩ (gl gU (g2 (gI 8) (gL 5 0)) []) (.s (.same 0 (i.1.2.2.length)) (.rk (rb 5000 [0]) .leaf))))) Tryz.func283
def K283 (k : Nat) : SCon El pG := ⟨C283 k, S283 k, Tryz.call283⟩
abbrev oB : List (PK El) := [pW 5 267, pI .i64, pK (.func (.func 244) #[] #[])]
def C272 (k : Nat) : Con El := gJ 272 oB (fun e => yQ k e.1.2.2 e.2.1) 0 0 (fun e t i j => .tuple #[]) (fun e t i j => [.sl 5 267 e.1.1 e.1.2.1 t]) (fun e t => [t.length = e.1.2.2.length])
abbrev dh (k : Nat) (i : Ins oB) : Kn El -> VC (C272 k).T := retC pG (C272 k) (rsOf pG 272) [] [5000] (gj (gL 5 5000) []) i
def oY (e : Ins oB) : BCon El ((List zk)) := ⟨nav [1, 1, 0] (yo pG 272), Unit, Int × Int × (List zk), Int × (List zk), Int × (List zk), fun u => .inr u, fun _ _ => none, fun s => [], fun s v_ j l => [(0, .slice e.1.1 v_.2.2.length e.1.2.1), (1, .i e.2.1), (2, .func (.func 244) #[] #[]), (6, .i 20), (7, .i v_.1), (8, .i v_.2.1)], fun s v_ j l => zipL [0] [.sl 5 267 e.1.1 e.1.2.1 v_.2.2], 0, 0, fun s t j l => [(0, .slice e.1.1 t.2.length e.1.2.1), (1, .i e.2.1), (2, .func (.func 244) #[] #[]), (6, .i 20), (7, .i t.1)], fun s t j l => zipL [0] [.sl 5 267 e.1.1 e.1.2.1 t.2]⟩
def lK (k : Nat) (e : Ins oB) : Nat -> (oY e).X -> (oY e).V -> Option (oY e).W := fun m_ (i : Unit) (v_ : Int × Int × (List zk)) => zU e.2.1 m_ v_.1 v_.2.1 v_.2.2
theorem eU (k : Nat) (i : Ins oB) (m : Nat) : ((oY i).at (lK k i) m).Sound pG 272 63 (dh k i) :=
  lsn mixed (oY i) (id := 0) (body := nav [1, 1, 0, 0, 0] (yo pG 272)) (lK k i) (fun _ => none) (fun u => u) (gj (g2 (gI 7) (g2 (gI 8) (gL 5 0))) []) (gj (g2 (gI 7) (gL 5 0)) []) (fun m => (.g 3 (.cond (.blk (.g 4 (.s (.call (K283 m) [.K 0] [0]) (.s (.rlp 0 0) (.s (.rlp 14 0) (.g 2 (.g 4 .back))))))) .leaf))) m
def nM (e : Ins oB) : BCon El ((List zk)) := ⟨nav [1, 1, 1, 1, 0, 0, 1, 0, 1, 0] (yo pG 272), (List zk) × Int, Int × Int, Int, Int, fun u => .inr u, fun _ _ => none, fun j => [], fun j v_ l s => [(0, .slice e.1.1 (j.1).length e.1.2.1), (1, .i e.2.1), (2, .func (.func 244) #[] #[]), (6, .i (j.2)), (7, .i v_.1), (8, .i v_.2)], fun j v_ l s => zipL [0] [.sl 5 267 e.1.1 e.1.2.1 (j.1)], 0, 0, fun j t l s => [(0, .slice e.1.1 (j.1).length e.1.2.1), (1, .i e.2.1), (2, .func (.func 244) #[] #[]), (6, .i (j.2)), (7, .i t)], fun j t l s => zipL [0] [.sl 5 267 e.1.1 e.1.2.1 (j.1)]⟩
def kx (k : Nat) (e : Ins oB) : Nat -> (nM e).X -> (nM e).V -> Option (nM e).W := fun m_ (i : (List zk) × Int) (v_ : Int × Int) => xm e.2.1 (i.2) (i.1) m_ v_.1 v_.2
theorem dY (k : Nat) (i : Ins oB) (m : Nat) : ((nM i).at (kx k i) m).Sound pG 272 63 (dh k i) :=
  lsn mixed (nM i) (id := 4) (body := nav [1, 1, 1, 1, 0, 0, 1, 0, 1, 0, 0, 0] (yo pG 272)) (kx k i) (fun _ => none) (fun u => u) (gj (g2 (gI 7) (gI 8)) []) (gj (gI 7) []) (fun m => (.g 3 (.cond (.blk .dead) .leaf))) m
def ng (e : Ins oB) : BCon El ((List zk)) := ⟨nav [1, 1, 1, 1] (yo pG 272), (List zk), Int, Unit, Unit, fun u => .inr u, fun _ _ => none, fun j => [], fun j v_ l s => [(0, .slice e.1.1 (j).length e.1.2.1), (1, .i e.2.1), (2, .func (.func 244) #[] #[]), (6, .i v_)], fun j v_ l s => zipL [0] [.sl 5 267 e.1.1 e.1.2.1 (j)], 0, 0, fun j t l s => [], fun j t l s => zipL [0] [.sl 5 267 e.1.1 e.1.2.1 (j)]⟩
def kr (k : Nat) (e : Ins oB) : Nat -> (ng e).X -> (ng e).V -> Option (ng e).W := fun m_ (i : (List zk)) (v_ : Int) => yb e.2.1 (i) m_ v_
theorem cl (k : Nat) (i : Ins oB) (m : Nat) : ((ng i).at (kr k i) m).Sound pG 272 63 (dh k i) :=
  lsn mixed (ng i) (id := 2) (body := nav [1, 1, 1, 1, 0, 0] (yo pG 272)) (kr k i) (fun _ => none) (fun u => u) (gj (gI 6) []) (gj gU []) (fun m => (.g 3 (.cond (.blk (.g 4 (.loop ⟨(nM i).at (kx k i) m, dY k i m⟩ (gl (g2 (gL 5 0) (gI 6)) (g2 (gI 7) (gI 8)) []) (.g 4 (.g 3 (.join (Unit) 0 0 (gj gU []) (fun e s j l => ([] ++ kp [0, 1, 2, 6] e, ka [0] e)) (.cond .dead .leaf) (.g 3 .back))))))) .leaf))) m
theorem S272 (k : Nat) : (C272 k).Sound pG :=
  fsn mixed (C272 k) (n := 63) (rs := rsOf pG 272) [] [5000] (gj (gL 5 5000) []) (fun i => (.g 1 (.g 3 (.loop ⟨(oY i).at (lK k i) k, eU k i k⟩ (gl gU (g2 (gI 7) (g2 (gI 8) (gL 5 0))) []) (.g 4 (.s (.call (K283 k) [.K 0] [0]) (.s (.rlp 0 0) (.s (.rlp 23 0) (.loop ⟨(ng i).at (kr k i) k, cl k i k⟩ (gl (gL 5 0) (gI 6) []) (.s (.same 0 (i.1.2.2.length)) (.rk (rb 5000 [0]) .leaf))))))))))) Tryz.func272
def K272 (k : Nat) : SCon El pG := ⟨C272 k, S272 k, Tryz.call272⟩
abbrev bX : List (PK El) := [pW 5 267, pK (.func (.func 244) #[] #[])]
def C243 (k : Nat) : Con El := gJ 243 bX (fun e => yt k e.1.2.2) 0 0 (fun e t i j => .tuple #[]) (fun e t i j => [.sl 5 267 e.1.1 e.1.2.1 t]) (fun e t => [t.length = e.1.2.2.length])
theorem S243 (k : Nat) : (C243 k).Sound pG :=
  fsn mixed (C243 k) (n := 9) (rs := rsOf pG 243) [] [5000] (gj (gL 5 5000) []) (fun i => (.g 4 (.s (.call (K272 k) [.K 0] [0]) (.s (.rlp 4 0) (.s (.same 0 (i.1.2.2.length)) (.rk (rb 5000 [0]) .leaf)))))) Tryz.func243
def K243 (k : Nat) : SCon El pG := ⟨C243 k, S243 k, Tryz.call243⟩
def C250 : Con El := zG 250 wo (fun e => vQ e.1.2.2 e.2.1 e.2.2.1) 0 0 (fun e t i j => .tuple #[]) (fun e t i j => zb.D.flat e.1.1 e.1.2.1 t)
theorem S250 : (C250).Sound pG :=
  fsn mixed (C250) (n := 20) (rs := rsOf pG 250) [] [0, 1, 2, 3] (gj (gO zb.D [0, 1, 2, 3]) []) (fun i => (.g 4 (.s (.call K215 [.K 0, .K 1, .K 2, .K 3] [0, 1, 2, 3]) (.s (.call K152 [.K 0, .K 1, .K 2, .K 3] [0, 1, 2, 3]) (.g 3 (.s (.call K152 [.K 0, .K 1, .K 2, .K 3] [0, 1, 2, 3]) (.g 3 (.s (.call K152 [.K 0, .K 1, .K 2, .K 3] [0, 1, 2, 3]) .leaf)))))))) Tryz.func250
def K250 : SCon El pG := ⟨C250, S250, Tryz.call250⟩
def C245 (k : Nat) : Con El := zG 245 cp (fun e => uo k e.1.2.2 e.2.1 e.2.2.1 e.2.2.2.1) 0 0 (fun e t j l => .i t.1) (fun e t j l => zb.D.flat e.1.1 e.1.2.1 t.2)
theorem S245 (k : Nat) : (C245 k).Sound pG :=
  fsn mixed (C245 k) (n := 25) (rs := rsOf pG 245) [] [0, 1, 2, 3] (gj (g2 (gI 8) (gO zb.D [0, 1, 2, 3])) []) (fun i => (.g 1 (.g 3 (.s (.call (K229 k) [.K 0, .K 1, .K 2, .K 3] [0, 1, 2, 3]) (.join (Int × Int) 0 0 (gj (g2 (gI 1) (gI 2)) []) (fun e j l t => ([(1, .i j.1), (2, .i j.2)] ++ kp [0, 3] e, ka [0, 1, 2, 3] e)) (.cond (.g 4 .leaf) .leaf) (.g 3 (.s (.call K250 [.K 0, .K 1, .K 2, .K 3] [0, 1, 2, 3]) (.g 4 (.s (.call K152 [.K 0, .K 1, .K 2, .K 3] [0, 1, 2, 3]) (.g 2 .ret)))))))))) Tryz.func245
def K245 (k : Nat) : SCon El pG := ⟨C245 k, S245 k, Tryz.call245⟩
theorem uM {w0 w : World} {As : List HP} {x : Option Addr} {l : Nat} {s : List zk} {i : Int} {B : Option Addr} {z : Nat} {v : List zk} {t : List zk} (hm : rL s i v = some t) (H : St w0 (Sl 267 zk.enc 2 x l s :: Sl 267 zk.enc 2 B z v :: As) w) :
    yX pG 246 #[.slice x s.length l, .i i, .slice B v.length z] w fun u w' => ∃ (b4 : Option Addr) (b5 : Nat), u = .slice b4 t.length b5 /\ St w0 (Sl 267 zk.enc 2 b4 b5 t :: As) w' := by
  unfold rL at hm;split at hm
  · rename_i hI;cases hm;obtain ⟨h0, h1, d0⟩ := hI;obtain ⟨q, rfl⟩ := Int.eq_ofNat_of_zero_le h0;have hq : q <= s.length := by omega
    have he := zk.yK;have hcs := (H.pk 0 rfl)
    have f2 := (H.pk 1 rfl)
    refine enter (args := [.slice x s.length l, .i (q : Int), .slice B v.length z]) Tryz.func246 rfl rfl rfl fun a y => ?_
    refine Runs.seq ?_;refine Runs.region ?_;refine WR.seg y 1 [] [0, 1, 2] (Lo := [(0, .slice x s.length l), (1, .i (q : Int)), (2, .slice B v.length z)]) (obs := []) rfl (by kernel_rfl) trivial fun a y => ?_
    refine WR.done rfl ?_;refine Runs.seq ?_;refine Runs.region ?_;refine WR.seg y 3 [.slice (ym x l q 2) (s.length - q) (l - q)] [0, 1, 2] (Lo := [(0, .slice x s.length l), (1, .i (q : Int)), (2, .slice B v.length z)])
      (obs := [.p (ym x l q 2 = ym x l q 2), .p (s.length - q = s.length - q), .p (l - q = l - q), .p (0 <= (q : Int) /\ (q : Int) <= (s.length : Int))]) rfl (by kernel_rfl) ⟨rfl, rfl, rfl, ⟨h0, h1⟩, trivial⟩ fun a y => ?_
    refine WR.done rfl ?_;refine Runs.seq ?_;refine Runs.region ?_;refine WR.seg y 3 [] [0, 1, 2, 7] (Lo := [(0, .slice x s.length l), (1, .i (q : Int)), (2, .slice B v.length z), (7, .i (v.length : Int))]) (obs := []) rfl (by kernel_rfl) trivial fun a y => ?_
    refine WR.done rfl ?_;refine Runs.seq ?_;refine Runs.seq ?_;refine Runs.region ?_;refine WR.seg y 2 [] [0, 1, 2, 7, 16] (Lo := [(0, .slice x s.length l), (1, .i (q : Int)), (2, .slice B v.length z), (7, .i (v.length : Int)), (16, .bool ((v.length : Int) == 0))]) (obs := []) rfl (by kernel_rfl) trivial fun a y => ?_
    refine WR.done rfl ?_;refine Runs.cond y rfl (fun c => ?_) (fun c => ?_)
    · have hv : v = [] := List.eq_nil_of_length_eq_zero (by simpa using c);refine Runs.seq ?_;refine Runs.region ?_;refine WR.seg y 2 [] [6] (Lo := [(6, .slice x s.length l)]) (obs := []) rfl (by kernel_rfl) trivial fun a y => ?_
      refine WR.done rfl ?_;refine Runs.ret y Tryz.func246 rfl rfl ?_;subst hv;have e : s.take q ++ ([] ++ s.drop q) = s := by simp
      simp only [tN];rw [e];exact ⟨_, _, rfl, H.x1⟩
    · have d1 : 0 < v.length := by have := c; simp at this; exact List.length_pos_iff.2 this
      refine Runs.skip ?_;refine Runs.seq ?_;refine Runs.region ?_;refine WR.seg y 3 [] [0, 1, 2, 7, 8] (Lo := [(0, .slice x s.length l), (1, .i (q : Int)), (2, .slice B v.length z), (7, .i (v.length : Int)), (8, .i (s.length : Int))]) (obs := []) rfl (by kernel_rfl) trivial fun a y => ?_
      refine WR.done rfl ?_;refine Runs.seq ?_;refine Runs.seq ?_;refine Runs.region ?_;refine WR.seg y 3 [] [0, 1, 2, 7, 8, 22] (Lo := [(0, .slice x s.length l), (1, .i (q : Int)), (2, .slice B v.length z), (7, .i (v.length : Int)), (8, .i (s.length : Int)), (22, .bool ((q : Int) == (s.length : Int)))]) (obs := []) rfl (by kernel_rfl) trivial fun a y => ?_
      refine WR.done rfl ?_;refine Runs.cond y rfl (fun c2 => ?_) (fun c2 => ?_)
      · have b6 : q = s.length := by have := c2; simp at this; omega
        refine Runs.seq ?_;refine Runs.region ?_;refine WR.seg y 2 [] [23, 24] (Lo := [(23, .slice x s.length l), (24, .slice B v.length z)]) (obs := []) rfl (by kernel_rfl) trivial fun a y => ?_
        have b7 : mApp s v = some (s ++ v) := by unfold mApp; rw [if_pos d0]
        refine WR.eff y rfl rfl rfl rfl (OpTo.rV b7 y H he rfl rfl rfl rfl rfl rfl rfl rfl rfl rfl (SlRd.all (vj 267 zk.enc 2 B z v) he H 1 rfl) rfl) ?_;rintro _ w ⟨sb, sc, rfl, H⟩ a y;refine WR.seg y 4 [] [6] (Lo := [(6, .slice sb (s ++ v).length sc)]) (obs := []) rfl (by kernel_rfl) trivial fun a y => ?_
        refine WR.done rfl ?_;refine Runs.ret y Tryz.func246 rfl rfl ?_;subst b6;have e : s.take s.length ++ (v ++ s.drop s.length) = s ++ v := by simp
        simp only [tN];rw [e];exact ⟨_, _, rfl, H.x1⟩
      · have b6 : q < s.length := by have := c2; simp at this; omega
        have W : w64 ((s.length : Int) + (v.length : Int)) = ((s.length + v.length : Nat) : Int) := by unfold w64; rw [ql (by omega) (by omega)]; omega
        have F : w64 ((q : Int) + (v.length : Int)) = ((q + v.length : Nat) : Int) := by unfold w64; rw [ql (by omega) (by omega)]; omega
        have d3 : w64 (((s.length + v.length : Nat) : Int) - (q : Int)) = ((s.length + v.length - q : Nat) : Int) := by unfold w64; rw [ql (by omega) (by omega)]; omega
        have a4 := yi he s;have J := yi he v;have D := yi he (s.take q);have O := yi he (s.drop q);have a2 : s.flatMap zk.enc = (s.take q).flatMap zk.enc ++ (s.drop q).flatMap zk.enc := by rw [<- List.flatMap_append, List.take_append_drop]
        simp only [List.length_take, List.length_drop] at D O;rw [Nat.min_eq_left hq] at D;refine Runs.skip ?_;refine Runs.seq ?_;refine Runs.seq ?_;refine Runs.region ?_;refine WR.seg y 6 [] [0, 1, 2, 7, 8, 31] (Lo := [(0, .slice x s.length l), (1, .i (q : Int)), (2, .slice B v.length z), (7, .i (v.length : Int)), (8, .i (s.length : Int)), (31, .bool (decide (w64 ((s.length : Int) + (v.length : Int)) > (l : Int))))]) (obs := []) rfl (by kernel_rfl) trivial fun a y => ?_
        refine WR.done rfl ?_;refine Runs.cond y rfl (fun c3 => ?_) (fun c3 => ?_)
        · have f3 : l < s.length + v.length := by have := c3; rw [W] at this; simp only [decide_eq_true_eq] at this; omega
          refine Runs.seq ?_;refine Runs.region ?_;refine WR.seg y 8 [.slice (ym x l 0 2) q l] [0, 1, 2, 7, 34, 39] (Lo := [(0, .slice x s.length l), (1, .i (q : Int)), (2, .slice B v.length z), (7, .i (v.length : Int)), (34, .slice (ym x l 0 2) q l), (39, .i (w64 (w64 ((s.length : Int) + (v.length : Int)) - (q : Int))))])
            (obs := [.p (ym x l 0 2 = ym x l 0 2), .p (q - 0 = q), .p (l - 0 = l), .p (0 <= (q : Int) /\ (q : Int) <= (l : Int))]) rfl (by kernel_rfl) ⟨rfl, rfl, rfl, ⟨h0, by omega⟩, trivial⟩ fun a y => ?_
          rw [W, d3] at y;have d5 : ym x l 0 2 = x := by
            unfold ym;split
            · rfl
            · cases x <;> simp [Addr.add]
          rw [d5] at y;have b8 : Rd w x ((s.take q).flatMap zk.enc) := by
            rcases SlRd.all (vj 267 zk.enc 2 x l s) he H 0 rfl with h | ⟨xa, h1, h2⟩
            · exfalso;have f5 : s.length * 2 = 0 := by rw [<- a4, h]; rfl
              omega
            · exact .inr ⟨xa, h1, fun j u hj => h2 j u (by rw [a2]; exact List.getElem?_append_left (List.getElem?_eq_some_iff.1 hj).1 ▸ hj)⟩
          refine WR.eff y rfl rfl rfl rfl (OpTo.dd (sz := 2) ((s.take q).flatMap zk.enc) y H rfl rfl rfl rfl rfl rfl rfl rfl rfl (by decide) b8 (by rw [D]) (by omega) (by omega) (by omega) rfl) ?_;rintro _ w ⟨r, I, Z, rfl, b9, d6, hZ, H⟩ a y;have hlen : q + (s.length + v.length - q) = s.length + v.length := by omega
          rw [hlen] at y b9;refine WR.seg y 10 [] [0, 1, 2, 7, 9] (Lo := [(0, .slice x s.length l), (1, .i (q : Int)), (2, .slice B v.length z), (7, .i (v.length : Int)), (9, .slice (some ⟨r, 0, none⟩) (s.length + v.length) I)]) (obs := []) rfl (by kernel_rfl) trivial fun a y => ?_
          refine WR.done rfl ?_;obtain ⟨Z1, Z2, Z3, d9, a5, a6⟩ : ∃ Z1 Z2 Z3 : List Value, Z = Z1 ++ (Z2 ++ Z3) /\ Z1.length = v.length * 2 /\ Z2.length = (s.length - q) * 2 := by
            refine ⟨Z.take (v.length * 2), (Z.drop (v.length * 2)).take ((s.length - q) * 2), (Z.drop (v.length * 2)).drop ((s.length - q) * 2), by rw [List.take_append_drop, List.take_append_drop], ?_, ?_⟩ <;> simp only [List.length_take, List.length_drop, hZ] <;> omega
          subst d9;refine Runs.seq ?_;refine Runs.region ?_;refine WR.seg y 4 [.slice (some ⟨r, 0 + q * 2, none⟩) (s.length + v.length - q) (I - q)] [0, 1, 2, 7, 9, 43, 44] (Lo := [(0, .slice x s.length l), (1, .i (q : Int)), (2, .slice B v.length z), (7, .i (v.length : Int)), (9, .slice (some ⟨r, 0, none⟩) (s.length + v.length) I), (43, .slice (some ⟨r, 0 + q * 2, none⟩) (s.length + v.length - q) (I - q)), (44, .slice B v.length z)])
            (obs := [.p (ym (some ⟨r, 0, none⟩) I q 2 = some ⟨r, 0 + q * 2, none⟩), .p (s.length + v.length - q = s.length + v.length - q), .p (I - q = I - q), .p (0 <= (q : Int) /\ (q : Int) <= ((s.length + v.length : Nat) : Int))]) rfl (by kernel_rfl) ⟨(by show _ = _; unfold ym; rw [if_neg (by omega)]; simp [vi]), rfl, rfl, ⟨h0, by omega⟩, trivial⟩ fun a y => ?_
          refine WR.eff y rfl rfl rfl rfl (OpTo.mR (sz := 2) (v.flatMap zk.enc) y H rfl rfl rfl rfl rfl rfl (SlRd.all (vj 267 zk.enc 2 B z v) he H 2 rfl) (by rw [J]; congr 1; simp only [Nat.min_def]; split <;> omega) (rh he v) (by simp only [lA, D, J, a5]; omega)) ?_;rintro _ w ⟨⟨kk, rfl⟩, H⟩ a y;rw [ry _ _ _ _ _ (by rw [D]; omega) (by rw [J, a5])] at H;refine WR.done rfl ?_;replace y := y.sel [0, 1, 2, 7, 9] (Lo := [(0, .slice x s.length l), (1, .i (q : Int)), (2, .slice B v.length z), (7, .i (v.length : Int)), (9, .slice (some ⟨r, 0, none⟩) (s.length + v.length) I)]) (by kernel_rfl);refine Runs.seq ?_;refine Runs.drawn mixed (by kernel_rfl) ?_;replace H := H.drew;obtain ⟨b, off, A, R, rfl, hA, _, _, hR, H2⟩ := (H.t1).lN he (by omega);have c1 : ym (some ⟨b, off, none⟩ : Option Addr) l q 2 = some ⟨b, off + q * 2, none⟩ := by unfold ym; rw [if_neg (by omega)]; simp [vi]
          refine WQ.seg y rg_7 [.slice (some ⟨r, 0 + (q + v.length) * 2, none⟩) (s.length - q) (I - (q + v.length)), .slice (some ⟨b, off + q * 2, none⟩) (s.length - q) (l - q)] [9, 50, 53] (Lo := [(9, .slice (some ⟨r, 0, none⟩) (s.length + v.length) I), (50, .slice (some ⟨r, 0 + (q + v.length) * 2, none⟩) (s.length - q) (I - (q + v.length))), (53, .slice (some ⟨b, off + q * 2, none⟩) (s.length - q) (l - q))])
            (obs := [.p (ym (some ⟨r, 0, none⟩) I (Int.toNat (w64 ((q : Int) + (v.length : Int)))) 2 = some ⟨r, 0 + (q + v.length) * 2, none⟩), .p (s.length + v.length - Int.toNat (w64 ((q : Int) + (v.length : Int))) = s.length - q), .p (I - Int.toNat (w64 ((q : Int) + (v.length : Int))) = I - (q + v.length)), .p (0 <= w64 ((q : Int) + (v.length : Int)) /\ w64 ((q : Int) + (v.length : Int)) <= ((s.length + v.length : Nat) : Int)),
              .p (ym (some ⟨b, off, none⟩) l q 2 = some ⟨b, off + q * 2, none⟩), .p (s.length - q = s.length - q), .p (l - q = l - q), .p (0 <= (q : Int) /\ (q : Int) <= (s.length : Int))]) (by kernel_rfl) (by kernel_rfl)
            ⟨(by show _ = _; rw [F, tN]; unfold ym; rw [if_neg (by omega)]; simp [vi]), (by show _ - _ = _; rw [F, tN]; omega), (by show _ - _ = _; rw [F, tN]), (by show _ /\ _; rw [F]; constructor <;> omega), c1, rfl, rfl, ⟨h0, h1⟩, trivial⟩ fun a y => ?_
          have X : Rd { w with drawn := w.drawn + 1 } (some ⟨b, off + q * 2, none⟩) ((s.drop q).flatMap zk.enc) := dL (H2) 0 rfl (off := off + q * 2) fun j u hj => by
            rw [a2, aA, <- aA A, List.getElem?_append_right (by simp only [lA, hA, D]; omega)];simp only [lA, hA, D];rw [List.getElem?_append_left (by have := (List.getElem?_eq_some_iff.1 hj).1; omega)];rw [<- hj]; congr 1; omega
          refine WQ.eff (j := 8) (obs := []) y (by kernel_rfl) rfl rfl rfl rfl (by kernel_rfl) (OpTo.mR (sz := 2) ((s.drop q).flatMap zk.enc) y H2.t1 rfl rfl rfl rfl rfl rfl X (by rw [O]; congr 1; simp only [Nat.min_def]; split <;> omega) (rh he _) (by simp only [lA, D, J, a6, O, Nat.add_mul]; omega)) ?_;rintro _ w ⟨⟨e0, rfl⟩, H⟩;refine ⟨trivial, fun a y => ?_⟩;refine WQ.done (by kernel_rfl) ?_;rw [<- aA, ry _ _ _ _ _ (by simp only [lA, D, J, Nat.add_mul]; omega) (by rw [O, a6])] at H;refine Runs.seq ?_;refine Runs.region ?_;refine WR.seg y 2 [] [6] (Lo := [(6, .slice (some ⟨r, 0, none⟩) (s.length + v.length) I)]) (obs := []) rfl (by kernel_rfl) trivial fun a y => ?_
          refine WR.done rfl ?_;refine Runs.ret y Tryz.func246 rfl rfl ?_;simp only [tN];have U : (s.take q ++ (v ++ s.drop q)).length = s.length + v.length := by simp; omega
          have Y : (s.take q).flatMap zk.enc ++ v.flatMap zk.enc ++ ((s.drop q).flatMap zk.enc ++ Z3) = [] ++ ((s.take q ++ (v ++ s.drop q)).flatMap zk.enc ++ Z3) := by simp [aA]
          rw [Y] at H;have e1 : (I - (s.take q ++ (v ++ s.drop q)).length) * 2 <= Z3.length := by
            simp only [lA, a5, a6] at hZ;rw [U]; omega
          have H3 := St.ez H he (sc := I) (by rw [U]; exact b9) d6 e1;exact ⟨some ⟨r, 0, none⟩, I, by rw [U]; rfl, H3.x1.x1⟩
        · have a7 : s.length + v.length <= l := by have := c3; rw [W] at this; simp only [decide_eq_false_iff_not] at this; omega
          obtain ⟨b, off, A, R, rfl, hA, _, c4, hR, H1⟩ := H.lN he (by omega);obtain ⟨R1, R2, e2, a8⟩ : ∃ R1 R2 : List Value, R = R1 ++ R2 /\ R1.length = v.length * 2 := by
            have : v.length * 2 <= (l - s.length) * 2 := Nat.mul_le_mul_right _ (by omega);exact ⟨R.take (v.length * 2), R.drop (v.length * 2), by rw [List.take_append_drop], by simp only [List.length_take]; omega⟩
          subst e2;have S : ∀ k : Nat, k < l -> ym (some ⟨b, off, none⟩ : Option Addr) l k 2 = some ⟨b, off + k * 2, none⟩ := fun k hk => by unfold ym; rw [if_neg (by omega)]; simp [vi]
          have c5 : ym (some ⟨b, off, none⟩ : Option Addr) l 0 2 = some ⟨b, off, none⟩ := by rw [S 0 (by omega)]; simp
          refine Runs.skip ?_;refine Runs.seq ?_;refine Runs.region ?_;refine WR.seg y 6 [.slice (some ⟨b, off, none⟩) (s.length + v.length) l] [0, 1, 2, 7] (Lo := [(0, .slice (some ⟨b, off, none⟩) (s.length + v.length) l), (1, .i (q : Int)), (2, .slice B v.length z), (7, .i (v.length : Int))])
            (obs := [.p (ym (some ⟨b, off, none⟩) l 0 2 = some ⟨b, off, none⟩), .p (Int.toNat (w64 ((s.length : Int) + (v.length : Int))) - 0 = s.length + v.length), .p (l - 0 = l), .p (0 <= w64 ((s.length : Int) + (v.length : Int)) /\ w64 ((s.length : Int) + (v.length : Int)) <= (l : Int))]) rfl (by kernel_rfl)
            ⟨c5, (by show _ - 0 = _; rw [W, tN]; rfl), rfl, (by show _ /\ _; rw [W]; constructor <;> omega), trivial⟩ fun a y => ?_
          refine WR.done rfl ?_;obtain ⟨vb, vo, Av, Rv, rfl, e3, _, _, f6, Hv⟩ := (H1.t1).lN he d1;have e4 : vb ≠ b := by
            obtain ⟨g1, g2, gd, s1, s2, e5, g3, g4, f7, s3, s4, e6, _⟩ := Hv.heap;intro h;subst h;rcases gd vb with e | e
            · have : g1 vb = _ := e5;rw [this] at e; cases e
            · have : g3 vb = _ := e6;have := s3 _ _ this;rw [e] at this; cases this
          refine Runs.seq ?_;refine Runs.seq ?_;refine Runs.region ?_;refine WR.seg y 6 [.slice (ym (some ⟨b, off, none⟩) l (q + v.length) 2) (s.length - q) (l - (q + v.length))] [0, 1, 2, 7, 61, 66] (Lo := [(0, .slice (some ⟨b, off, none⟩) (s.length + v.length) l), (1, .i (q : Int)), (2, .slice (some ⟨vb, vo, none⟩) v.length z), (7, .i (v.length : Int)), (61, .slice (some ⟨vb, vo, none⟩) v.length z), (66, .slice (ym (some ⟨b, off, none⟩) l (q + v.length) 2) (s.length - q) (l - (q + v.length)))])
            (obs := [.p (ym (some ⟨b, off, none⟩) l (Int.toNat (w64 ((q : Int) + (v.length : Int)))) 2 = ym (some ⟨b, off, none⟩) l (q + v.length) 2), .p (s.length + v.length - Int.toNat (w64 ((q : Int) + (v.length : Int))) = s.length - q), .p (l - Int.toNat (w64 ((q : Int) + (v.length : Int))) = l - (q + v.length)), .p (0 <= w64 ((q : Int) + (v.length : Int)) /\ w64 ((q : Int) + (v.length : Int)) <= ((s.length + v.length : Nat) : Int))]) rfl (by kernel_rfl)
            ⟨(by show _ = _; rw [F, tN]), (by show _ - _ = _; rw [F, tN]; omega), (by show _ - _ = _; rw [F, tN]), (by show _ /\ _; rw [F]; constructor <;> omega), trivial⟩ fun a y => ?_
          rw [S (q + v.length) (by omega)] at y;refine WR.eff y rfl rfl rfl rfl (OpTo.jM (tS := 265) (tR := 4) (e := 267) y Hv 0 1 rfl rfl e4 (by simp only [List.size_toArray, lA, a4]; omega) rfl rfl (fn := Tryz.f273) (by kernel_rfl) (by kernel_rfl) (by kernel_rfl) (by kernel_rfl) (by kernel_rfl) rfl rfl) ?_;rintro _ w ⟨rfl, ew⟩ a y;subst ew;refine WR.seg y 8 [] [0, 1, 2, 7, 68] (Lo := [(0, .slice (some ⟨b, off, none⟩) (s.length + v.length) l), (1, .i (q : Int)), (2, .slice (some ⟨vb, vo, none⟩) v.length z), (7, .i (v.length : Int)), (68, .bool true)]) (obs := []) rfl (by kernel_rfl) trivial fun a y => ?_
          refine WR.done rfl ?_;refine Runs.tG y rfl ?_;refine Runs.seq ?_;refine Runs.drawn mixed (by kernel_rfl) ?_;replace Hv := Hv.drew;refine WQ.seg y rg_7 [.slice (some ⟨b, off + (q + v.length) * 2, none⟩) (s.length - q) (l - (q + v.length)), .slice (some ⟨b, off + q * 2, none⟩) (s.length + v.length - q) (l - q)] [0, 1, 2, 73, 76] (Lo := [(0, .slice (some ⟨b, off, none⟩) (s.length + v.length) l), (1, .i (q : Int)), (2, .slice (some ⟨vb, vo, none⟩) v.length z), (73, .slice (some ⟨b, off + (q + v.length) * 2, none⟩) (s.length - q) (l - (q + v.length))), (76, .slice (some ⟨b, off + q * 2, none⟩) (s.length + v.length - q) (l - q))])
            (obs := [.p (ym (some ⟨b, off, none⟩) l (Int.toNat (w64 ((q : Int) + (v.length : Int)))) 2 = some ⟨b, off + (q + v.length) * 2, none⟩), .p (s.length + v.length - Int.toNat (w64 ((q : Int) + (v.length : Int))) = s.length - q), .p (l - Int.toNat (w64 ((q : Int) + (v.length : Int))) = l - (q + v.length)), .p (0 <= w64 ((q : Int) + (v.length : Int)) /\ w64 ((q : Int) + (v.length : Int)) <= ((s.length + v.length : Nat) : Int)),
              .p (ym (some ⟨b, off, none⟩) l q 2 = some ⟨b, off + q * 2, none⟩), .p (s.length + v.length - q = s.length + v.length - q), .p (l - q = l - q), .p (0 <= (q : Int) /\ (q : Int) <= ((s.length + v.length : Nat) : Int))]) (by kernel_rfl) (by kernel_rfl)
            ⟨(by show _ = _; rw [F, tN]; exact S _ (by omega)), (by show _ - _ = _; rw [F, tN]; omega), (by show _ - _ = _; rw [F, tN]), (by show _ /\ _; rw [F]; constructor <;> omega), S q (by omega), rfl, rfl, ⟨h0, by omega⟩, trivial⟩ fun a y => ?_
          have X : Rd { w with drawn := w.drawn + 1 } (some ⟨b, off + q * 2, none⟩) ((s.drop q).flatMap zk.enc) := dL Hv 1 rfl (off := off + q * 2) fun j u hj => by
            rw [a2, aA, <- aA A, List.getElem?_append_right (by simp only [lA, hA, D]; omega)];simp only [lA, hA, D];rw [List.getElem?_append_left (by have := (List.getElem?_eq_some_iff.1 hj).1; omega)];rw [<- hj]; congr 1; omega
          refine WQ.eff (j := 8) (obs := []) y (by kernel_rfl) rfl rfl rfl rfl (by kernel_rfl) (OpTo.mR (sz := 2) ((s.drop q).flatMap zk.enc) y Hv.t1 rfl rfl rfl rfl rfl rfl X (by rw [O]; congr 1; simp only [Nat.min_def]; split <;> omega) (rh he _) (by simp only [lA, hA, a4, a8, O, Nat.add_mul]; rw [Nat.sub_mul]; have : q * 2 <= s.length * 2 := Nat.mul_le_mul_right _ hq; omega)) ?_;rintro _ w ⟨⟨e0, rfl⟩, H⟩;refine ⟨trivial, fun a y => ?_⟩;refine WQ.done (by kernel_rfl) ?_;obtain ⟨X1, X2, hX, a9, hX2⟩ : ∃ X1 X2 : List Value, (s.drop q).flatMap zk.enc ++ R1 = X1 ++ X2 /\ X1.length = v.length * 2 /\ X2.length = (s.length - q) * 2 := by
            refine ⟨((s.drop q).flatMap zk.enc ++ R1).take (v.length * 2), ((s.drop q).flatMap zk.enc ++ R1).drop (v.length * 2), by rw [List.take_append_drop], ?_, ?_⟩ <;> simp only [List.length_take, List.length_drop, lA, O, a8] <;> omega
          have c6 : A ++ (s.flatMap zk.enc ++ (R1 ++ R2)) = (A ++ ((s.take q).flatMap zk.enc ++ X1)) ++ (X2 ++ R2) := by
            rw [a2]
            calc A ++ (((s.take q).flatMap zk.enc ++ (s.drop q).flatMap zk.enc) ++ (R1 ++ R2)) = A ++ ((s.take q).flatMap zk.enc ++ (((s.drop q).flatMap zk.enc ++ R1) ++ R2)) := by simp [aA]
              _ = _ := by rw [hX]; simp [aA]
          rw [c6, ry _ _ _ _ _ (by simp only [lA, hA, D, a9, Nat.add_mul, Nat.add_assoc]) (by rw [O, hX2])] at H;have b0 : (A ++ ((s.take q).flatMap zk.enc ++ X1)) ++ ((s.drop q).flatMap zk.enc ++ R2) = (A ++ (s.take q).flatMap zk.enc) ++ (X1 ++ ((s.drop q).flatMap zk.enc ++ R2)) := by simp [aA]
          rw [b0] at H;refine Runs.seq ?_;refine Runs.region ?_;refine WR.seg y 4 [.slice (some ⟨b, off + q * 2, none⟩) (s.length + v.length - q) (l - q)] [0, 80, 81] (Lo := [(0, .slice (some ⟨b, off, none⟩) (s.length + v.length) l), (80, .slice (some ⟨b, off + q * 2, none⟩) (s.length + v.length - q) (l - q)), (81, .slice (some ⟨vb, vo, none⟩) v.length z)])
            (obs := [.p (ym (some ⟨b, off, none⟩) l q 2 = some ⟨b, off + q * 2, none⟩), .p (s.length + v.length - q = s.length + v.length - q), .p (l - q = l - q), .p (0 <= (q : Int) /\ (q : Int) <= ((s.length + v.length : Nat) : Int))]) rfl (by kernel_rfl) ⟨S q (by omega), rfl, rfl, ⟨h0, by omega⟩, trivial⟩ fun a y => ?_
          have c7 : Rd w (some ⟨vb, vo, none⟩) (v.flatMap zk.enc) := dL H 1 rfl fun j u hj => by
            rw [List.getElem?_append_right (by omega), e3, Nat.add_sub_cancel_left, List.getElem?_append_left (List.getElem?_eq_some_iff.1 hj).1];exact hj
          refine WR.eff y rfl rfl rfl rfl (OpTo.mR (sz := 2) (v.flatMap zk.enc) y H rfl rfl rfl rfl rfl rfl c7 (by rw [J]; congr 1; simp only [Nat.min_def]; split <;> omega) (rh he v) (by simp only [lA, hA, D, a9, J]; omega)) ?_;rintro _ w ⟨⟨g0, rfl⟩, H⟩ a y;rw [ry _ _ _ _ _ (by simp only [lA, hA, D]) (by rw [J, a9])] at H;refine WR.done rfl ?_;refine Runs.seq ?_;refine Runs.region ?_;refine WR.seg y 2 [] [6] (Lo := [(6, .slice (some ⟨b, off, none⟩) (s.length + v.length) l)]) (obs := []) rfl (by kernel_rfl) trivial fun a y => ?_
          refine WR.done rfl ?_;refine Runs.ret y Tryz.func246 rfl rfl ?_;simp only [tN];have U : (s.take q ++ (v ++ s.drop q)).length = s.length + v.length := by simp; omega
          have Y : (A ++ (s.take q).flatMap zk.enc) ++ (v.flatMap zk.enc ++ ((s.drop q).flatMap zk.enc ++ R2)) = A ++ ((s.take q ++ (v ++ s.drop q)).flatMap zk.enc ++ R2) := by simp [aA]
          rw [Y] at H;have e7 : (l - (s.take q ++ (v ++ s.drop q)).length) * 2 <= R2.length := by
            simp only [lA, a8] at hR;rw [U]; omega
          have H3 := St.ez H he (sc := l) (by rw [U]; exact a7) c4 e7;rw [hA] at H3;exact ⟨some ⟨b, off, none⟩, l, by rw [U]; rfl, H3.x1⟩
  · cases hm
abbrev bC : List (PK El) := [pW 5 267, pI .i64, pW 5 267]
def C246 : Con El := zG 246 bC (fun j => rL j.1.2.2 j.2.1 j.2.2.1.2.2) 1 1 (fun j t e i => .slice (na i 0) t.length (nn e 0)) (fun j t e i => [.sl 5 267 (na i 0) (nn e 0) t])
theorem S246 : (C246).Sound pG := fun e t hm w0 w F x H => by
  obtain ⟨⟨b0, i, x0⟩, x1, ⟨j, l, x2⟩, _⟩ := e;have s : St w0 (Sl 267 zk.enc 2 b0 i x0 :: Sl 267 zk.enc 2 j l x2 :: F) w := by
    exact H
  refine (uM (show rL x0 x1 x2 = some t from hm) s).mono ?_;rintro v w' ⟨e0, u, hv, H⟩;refine ⟨[u], [e0], rfl, rfl, hv, ?_, fun _ h => by cases h⟩;exact H
def K246 : SCon El pG := ⟨C246, S246, Tryz.call246⟩
abbrev tH : List (PK El) := [pO zb.D, pR 1]
def C247 (k : Nat) : Con El := zG 247 tH (fun e => qo k e.1.2.2 e.2.1.2.2) 0 0 (fun e t j l => .i t.1) (fun e t j l => zb.D.flat e.1.1 e.1.2.1 t.2)
abbrev bQ (k : Nat) (i : Ins tH) : Kn El -> VC (C247 k).T := retC pG (C247 k) (rsOf pG 247) [] [0, 1, 2, 3] (gj (g2 (gI 4) (gO zb.D [0, 1, 2, 3])) []) i
def oX (e : Ins tH) : BCon El (Int × zb) := ⟨nav [1, 1, 0, 1] (yo pG 247), Unit, Int × Int × zb, Int × zb, Int × zb, fun u => .inr u, fun _ _ => none, fun s => [(0, ⟨1, e.2.1.1, e.2.1.2.1, e.2.1.2.2⟩)], fun s v_ j l => [(0, .pointer (some ⟨e.1.1, 0, none⟩)), (1, .slice e.2.1.1 e.2.1.2.2.length e.2.1.2.1), (5, .i v_.1), (6, .i v_.2.1)], fun s v_ j l => zipL [0, 1, 2, 3] (zb.D.flat e.1.1 e.1.2.1 v_.2.2), 0, 0, fun s t j l => [(5, .i t.1)], fun s t j l => zipL [0, 1, 2, 3] (zb.D.flat e.1.1 e.1.2.1 t.2)⟩
def kO (k : Nat) (e : Ins tH) : Nat -> (oX e).X -> (oX e).V -> Option (oX e).W := fun m_ (i : Unit) (v_ : Int × Int × zb) => vT e.2.1.2.2 m_ v_.1 v_.2.1 v_.2.2
theorem dz (k : Nat) (i : Ins tH) (m : Nat) : ((oX i).at (kO k i) m).Sound pG 247 32 (bQ k i) :=
  lsn mixed (oX i) (id := 0) (body := nav [1, 1, 0, 1, 0, 0] (yo pG 247)) (kO k i) (fun _ => none) (fun u => u) (gj (g2 (gI 5) (g2 (gI 6) (gO zb.D [0, 1, 2, 3]))) []) (gj (g2 (gI 5) (gO zb.D [0, 1, 2, 3])) []) (fun m => (.g 2 (.cond (.blk (.g 3 (.s (.idx true 0 (.tmp 16) 6) (.s (.seg 3 [.A 6, .R 6 0]) (.s (.call K152 [.K 0, .K 1, .K 2, .K 3] [0, 1, 2, 3]) (.g 3 (.s (.idx true 0 (.tmp 23) 7) (.s (.seg 2 [.A 7, .R 7 0]) (.s (.call K152 [.K 0, .K 1, .K 2, .K 3] [0, 1, 2, 3]) (.g 2 (.s (.idx true 0 (.tmp 28) 8) (.s (.seg 3 [.A 8, .R 8 0]) (.g 3 .back))))))))))))) .leaf))) m
theorem S247 (k : Nat) : (C247 k).Sound pG :=
  fsn mixed (C247 k) (n := 32) (rs := rsOf pG 247) [] [0, 1, 2, 3] (gj (g2 (gI 4) (gO zb.D [0, 1, 2, 3])) []) (fun i => (.g 1 (.g 1 (.g 4 (.loop ⟨(oX i).at (kO k i) k, dz k i k⟩ (gl gU (g2 (gI 5) (g2 (gI 6) (gO zb.D [0, 1, 2, 3]))) []) (.g 2 .ret)))))) Tryz.func247
def K247 (k : Nat) : SCon El pG := ⟨C247 k, S247 k, Tryz.call247⟩
def C208 (k : Nat) : Con El := zG 208 tH (fun e => wH k e.1.2.2 e.2.1.2.2) 0 0 (fun e t j l => .i t.1) (fun e t j l => zb.D.flat e.1.1 e.1.2.1 t.2)
abbrev de (k : Nat) (i : Ins tH) : Kn El -> VC (C208 k).T := retC pG (C208 k) (rsOf pG 208) [] [0, 1, 2, 3] (gj (g2 (gI 4) (gO zb.D [0, 1, 2, 3])) []) i
def o7 (l : Ins tH) : BCon El (Int × zb) := ⟨nav [1, 1, 0, 1] (yo pG 208), Int, (List zk) × Int × zb, (List zk) × zb, (List zk) × zb, fun u => .inr u, fun _ _ => none, fun s => [(0, ⟨1, l.2.1.1, l.2.1.2.1, l.2.1.2.2⟩)], fun s v_ e j => [(0, .pointer (some ⟨l.1.1, 0, none⟩)), (5, .slice (na j 0) v_.1.length (nn e 0)), (12, .slice l.2.1.1 l.2.1.2.2.length l.2.1.2.1), (13, .i (s)), (14, .i v_.2.1)], fun s v_ e j => zipL [9] [.sl 5 267 (na j 0) (nn e 0) v_.1] ++ zipL [0, 1, 2, 3] (zb.D.flat l.1.1 l.1.2.1 v_.2.2), 1, 1, fun s t e j => [(0, .pointer (some ⟨l.1.1, 0, none⟩)), (5, .slice (na j 0) t.1.length (nn e 0))], fun s t e j => zipL [8] [.sl 5 267 (na j 0) (nn e 0) t.1] ++ zipL [0, 1, 2, 3] (zb.D.flat l.1.1 l.1.2.1 t.2)⟩
def kj (k : Nat) (e : Ins tH) : Nat -> (o7 e).X -> (o7 e).V -> Option (o7 e).W := fun m_ (i : Int) (v_ : (List zk) × Int × zb) => wS (i) e.2.1.2.2 m_ v_.1 v_.2.1 v_.2.2
theorem dR (k : Nat) (i : Ins tH) (m : Nat) : ((o7 i).at (kj k i) m).Sound pG 208 94 (de k i) :=
  lsn mixed (o7 i) (id := 0) (body := nav [1, 1, 0, 1, 0, 0] (yo pG 208)) (kj k i) (fun _ => none) (fun u => u) (gj (g2 (gL 5 9) (g2 (gI 14) (gO zb.D [0, 1, 2, 3]))) [nSk 9]) (gj (g2 (gL 5 8) (gO zb.D [0, 1, 2, 3])) [nSk 8]) (fun m => (.g 1 (.cond (.blk (.s (.idx true 0 (.tmp 14) 2) (.s (.seg 3 [.A 2, .R 2 0]) (.g 4 (.s (.call K174 [.K 0, .K 1, .K 2, .K 3] [0, 1, 2, 3]) (.g 1 (.s (.bld 11 5 267) (.s (.app 9 (.O 11)) (.g 1 (.g 2 .back)))))))))) (.rk (rb 8 [9]) .leaf)))) m
def nT (j : Ins tH) : BCon El (Int × zb) := ⟨nav [1, 1, 1, 1, 1, 0, 0, 0, 1, 0, 1, 1, 1, 1, 1, 0] (yo pG 208), (List zk) × (Option Addr × Nat) × Nat × Int × Int × (List Int) × (Option Addr × Nat) × zb, Int, Int, Int, fun u => .inr u, fun _ _ => none, fun e => [(0, ⟨1, j.2.1.1, j.2.1.2.1, j.2.1.2.2⟩)], fun e v_ l s => [(0, .pointer (some ⟨j.1.1, 0, none⟩)), (5, .slice (e.2.1.1) (e.1).length (e.2.1.2)), (8, .slice (e.2.2.2.2.2.2.1.1) (e.2.2.2.2.2.1).length (e.2.2.2.2.2.2.1.2)), (10, .pointer (some ⟨e.2.2.1, 0, none⟩)), (11, .i v_)], fun e v_ l s => zipL [36] [.sl 5 267 (e.2.1.1) (e.2.1.2) (e.1)] ++ zipL [44] [.blk (e.2.2.1) 267 [.i (e.2.2.2.1), .i (e.2.2.2.2.1)]] ++ zipL [37] [.sl 1 3 (e.2.2.2.2.2.2.1.1) (e.2.2.2.2.2.2.1.2) (e.2.2.2.2.2.1)] ++ zipL [0, 1, 2, 3] (zb.D.flat j.1.1 j.1.2.1 (e.2.2.2.2.2.2.2)), 0, 0, fun e t l s => [(0, .pointer (some ⟨j.1.1, 0, none⟩)), (5, .slice (e.2.1.1) (e.1).length (e.2.1.2)), (8, .slice (e.2.2.2.2.2.2.1.1) (e.2.2.2.2.2.1).length (e.2.2.2.2.2.2.1.2)), (10, .pointer (some ⟨e.2.2.1, 0, none⟩)), (11, .i t)], fun e t l s => zipL [36] [.sl 5 267 (e.2.1.1) (e.2.1.2) (e.1)] ++ zipL [44] [.blk (e.2.2.1) 267 [.i (e.2.2.2.1), .i (e.2.2.2.2.1)]] ++ zipL [37] [.sl 1 3 (e.2.2.2.2.2.2.1.1) (e.2.2.2.2.2.2.1.2) (e.2.2.2.2.2.1)] ++ zipL [0, 1, 2, 3] (zb.D.flat j.1.1 j.1.2.1 (e.2.2.2.2.2.2.2))⟩
def kG (k : Nat) (i : Ins tH) : Nat -> (nT i).X -> (nT i).V -> Option (nT i).W := fun m_ (e : (List zk) × (Option Addr × Nat) × Nat × Int × Int × (List Int) × (Option Addr × Nat) × zb) (v_ : Int) => wR (e.1) (e.2.2.2.1) (e.2.2.2.2.1) (e.2.2.2.2.2.1) (e.2.2.2.2.2.2.2) i.2.1.2.2 m_ v_
theorem dj (k : Nat) (i : Ins tH) (m : Nat) : ((nT i).at (kG k i) m).Sound pG 208 94 (de k i) :=
  lsn mixed (nT i) (id := 4) (body := nav [1, 1, 1, 1, 1, 0, 0, 0, 1, 0, 1, 1, 1, 1, 1, 0, 0, 0] (yo pG 208)) (kG k i) (fun _ => none) (fun u => u) (gj (gI 11) []) (gj (gI 11) []) (fun m => (.join (Bool) 0 0 (gj (gB 83) []) (fun e j l t => ([(83, .bool j)] ++ kp [0, 5, 8, 10, 11] e, ka [36, 44, 37, 0, 1, 2, 3] e)) (.drw (.q [0, 1, 2, 3, 4] [] (.split 74 (.q [5, 6] [] (.s (.idx false 36 (.tmp 76) 60) (.q [7, 8, 9, 10, 11, 12, 13] [.A 60, .X 60 36 1, .C 44 1] .leaf))) (.q [5, 6, 7, 8, 9, 10, 11, 12, 13] [] .leaf)))) (.cond (.blk (.g 3 .back)) .leaf))) m
def nc (j : Ins tH) : BCon El (Int × zb) := ⟨nav [1, 1, 1, 1, 1, 0] (yo pG 208), Unit, (List zk) × (List Int) × zb, (List Int) × zb, (List Int) × zb, fun u => .inr u, fun _ _ => none, fun l => [(0, ⟨1, j.2.1.1, j.2.1.2.1, j.2.1.2.2⟩)], fun l v_ e i => [(0, .pointer (some ⟨j.1.1, 0, none⟩)), (5, .slice (na i 0) v_.1.length (nn e 0)), (8, .slice (na i 1) v_.2.1.length (nn e 1))], fun l v_ e i => zipL [36] [.sl 5 267 (na i 0) (nn e 0) v_.1] ++ zipL [37] [.sl 1 3 (na i 1) (nn e 1) v_.2.1] ++ zipL [0, 1, 2, 3] (zb.D.flat j.1.1 j.1.2.1 v_.2.2), 1, 1, fun l s e i => [(0, .pointer (some ⟨j.1.1, 0, none⟩)), (8, .slice (na i 0) s.1.length (nn e 0))], fun l s e i => zipL [35] [.sl 1 3 (na i 0) (nn e 0) s.1] ++ zipL [0, 1, 2, 3] (zb.D.flat j.1.1 j.1.2.1 s.2)⟩
def kc (k : Nat) (e : Ins tH) : Nat -> (nc e).X -> (nc e).V -> Option (nc e).W := fun m_ (i : Unit) (v_ : (List zk) × (List Int) × zb) => xP e.2.1.2.2 m_ v_.1 v_.2.1 v_.2.2
theorem cj (k : Nat) (i : Ins tH) (m : Nat) : ((nc i).at (kc k i) m).Sound pG 208 94 (de k i) :=
  lsn mixed (nc i) (id := 2) (body := nav [1, 1, 1, 1, 1, 0, 0, 0] (yo pG 208)) (kc k i) (fun _ => none) (fun u => u) (gj (g2 (gL 5 36) (g2 (gL 1 37) (gO zb.D [0, 1, 2, 3]))) [nSk 36, nSk 37]) (gj (g2 (gL 1 35) (gO zb.D [0, 1, 2, 3])) [nSk 35]) (fun m => (.g 3 (.cond (.blk (.g 1 (.s (.idx false 36 (.const (.i 0)) 42) (.s (.seg 2 [.A 42, .X 42 36 0, .X 42 36 1]) (.s (.new 39 []) (.s (.sto 39) (.join (Bool) 0 0 (gj (gB 46) []) (fun e l j t => ([(46, .bool l)] ++ kp [0, 5, 8, 9] e, ka [39, 36, 37, 0, 1, 2, 3] e)) (.drw (.q [0, 1, 2, 3] [] (.split 38 (.q [4, 5, 6, 7, 8, 9, 10, 11] [] .leaf) (.q [4] [] (.s (.idx false 36 (.const (.i 1)) 45) (.q [5, 6, 7, 8, 9, 10, 11] [.A 45, .X 45 36 1, .C 39 1] .leaf)))))) (.cond (.drw (.q [0, 1, 2, 5] [.C 39 0] (.s (.cut false 36 (some (.const (.i 1))) none 1047) (.q [6] [.W 1047] (.a 3 (.bld 41 1 3) [.W 1047] (.a 4 (.app 37 (.O 41)) [.W 1047] (.q [7, 8] [] (.s (.own 1047 36) .back)))))))) (.jg (zk × zb) 1 0 (gj (g2 (gC 44 0 2 zk.dec) (gO zb.D [0, 1, 2, 3])) [nPk 44]) (fun e l j t => match (g2 (gP 0) (gA zb.D [0, 1, 2, 3])) e with | some x => ([(10, .pointer (some ⟨(nn j 0), 0, none⟩))] ++ kp [0, 5, 8] e, ka [36, 37] e ++ zipL [44] [.blk (nn j 0) 267 [.i l.1.n, .i l.1.rank]] ++ zipL [0, 1, 2, 3] (zb.D.flat (x.1) (x.2) l.2)) | none => ([], [])) (.drw (.q [0, 1, 2, 3] [.C 39 0] (.s (.idx false 36 (.const (.i 1)) 50) (.q [4, 5, 6, 7, 8, 10, 11, 12] [.A 50, .X 50 36 0, .C 39 1, .C 39 1] (.alt2 9 (.call (K245 m) [.K 0, .K 1, .K 2, .K 3] [0, 1, 2, 3]) [.C 39 1] (.q [13] [] (.a 14 (.new 45 []) [.C 39 1] (.a 15 (.sto 45) [] (.rk (rb 44 [45]) .leaf)))) 14 (.new 46 []) [.C 39 1, .C 39 1, .X 50 36 0, .A 50, .C 39 0] (.a 9 (.call (K245 m) [.K 0, .K 1, .K 2, .K 3] [0, 1, 2, 3]) [.C 39 1] (.q [13] [] (.a 15 (.sto 46) [] (.rk (rb 44 [46]) .leaf))))))))) (.g 1 (.s (.cut false 36 (some (.const (.i 2))) none 1051) (.s (.seg 2 [.W 1051]) (.g 1 (.s (.own 1051 36) (.loop ⟨(nT i).at (kG k i) m, dj k i m⟩ (gl (g2 (gL 5 36) (g2 (gh 36) (g2 (gP 44) (g2 (gC 44 0 1 dI) (g2 (gC 44 1 1 dI) (g2 (gL 1 37) (g2 (gh 37) (gO zb.D [0, 1, 2, 3])))))))) (gI 11) []) (.s (.seg 3 [.C 44 0, .C 44 1]) (.s (.bld 47 5 267) (.s (.call K246 [.K 36, .K 47] [48]) (.g 1 (.rk (rb 36 [48]) .back)))))))))))))))))))) (.rk (rb 35 [37]) .leaf)))) m
theorem S208 (k : Nat) : (C208 k).Sound pG :=
  fsn mixed (C208 k) (n := 94) (rs := rsOf pG 208) [] [0, 1, 2, 3] (gj (g2 (gI 4) (gO zb.D [0, 1, 2, 3])) []) (fun i => (.g 1 (.g 1 (.g 3 (.s (.nil 10 5 267) (.rk (rb 9 [10]) (.loop ⟨(o7 i).at (kj k i) k, dR k i k⟩ (gl (gI 13) (g2 (gL 5 9) (g2 (gI 14) (gO zb.D [0, 1, 2, 3]))) [nSk 9]) (.g 1 (.s (.call (K243 k) [.K 8] [8]) (.s (.rlp 5 8) (.s (.rlp 27 8) (.g 1 (.s (.nil 38 1 3) (.rk (rb 36 [8, 38]) (.loop ⟨(nc i).at (kc k i) k, cj k i k⟩ (gl gU (g2 (gL 5 36) (g2 (gL 1 37) (gO zb.D [0, 1, 2, 3]))) [nSk 36, nSk 37]) (.g 2 (.s (.call (K247 k) [.K 0, .K 1, .K 2, .K 3, .O 35] [0, 1, 2, 3]) (.g 1 .ret)))))))))))))))))) Tryz.func208
def K208 (k : Nat) : SCon El pG := ⟨C208 k, S208 k, Tryz.call208⟩
theorem rD {w0 w : World} {As : List HP} {k : Nat} {j : Nat} {e : zb.A} {a_ : zb} {s : Option Addr} {u : Nat} {l : List Int} {X_l : HP} {t : Int × zb} (hX_l : SlRd X_l ecI 1 s l) (hC_l : l.length <= u) (hm : wH k a_ l = some t) (H : St w0 (zb.R j e a_ :: X_l :: As) w) :
    yX pG 208 #[.pointer (some ⟨j, 0, none⟩), .slice s l.length u] w fun v w' => v = .i t.1 /\ St w0 (zb.R j e t.2 :: X_l :: As) w' := by
  replace H := H.t1.t1;replace H := (fs0 fun As => zb.D_st).1 H;refine (S208 k ((j, e, a_), (s, u, l), ()) t hm w0 w (X_l :: As) (rdc (rdH 1 (.head _) hX_l hC_l) rd0) H).mono ?_;rintro v w' ⟨z, x, hn, ha, hv, H, y⟩;obtain rfl := ls0 hn;obtain rfl := ls0 ha;refine ⟨hv, ?_⟩;refine (fs0 fun As => zb.D_st).2 ?_;exact H
def C154 (k : Nat) : Con El := zG 154 wo (fun e => uc k e.1.2.2 e.2.1 e.2.2.1) 1 1 (fun e t j l => .tuple #[.i t.1, .bool t.2.1]) (fun e t j l => zb.D.flat e.1.1 (zb.A.mk e.1.2.1.l_b e.1.2.1.l_c (na l 0) (nn j 0) e.1.2.1.m__p) t.2.2)
theorem S154 (k : Nat) : (C154 k).Sound pG :=
  fsn mixed (C154 k) (n := 29) (rs := rsOf pG 154) [] [0, 1, 2, 3] (gj (g2 (gI 6) (g2 (gB 7) (gO zb.D [0, 1, 2, 3]))) [nq_2]) (fun i => (.g 2 (.g 2 (.uf (.g 2 (.s (.call K206 [.K 0, .K 1, .K 2, .K 3] [0, 1, 2, 3]) (.g 5 (.g 2 (.cond (.g 3 .ret) (.g 2 (.s (.bld 4 1 3) (.g 2 (.s (.call (K209 k) [.K 0, .K 1, .K 2, .K 3] [5, 0, 1, 2, 3]) (.s (.app 4 (.O 5)) (.s (.call (K208 k) [.K 0, .K 1, .K 2, .K 3, .O 4] [0, 1, 2, 3]) (.g 2 .ret)))))))))))))))) Tryz.func154
def K154 (k : Nat) : SCon El pG := ⟨C154 k, S154 k, Tryz.call154⟩
def C249 : Con El := zG 249 wo (fun e => se e.1.2.2 e.2.1 e.2.2.1) 0 0 (fun e t i j => .tuple #[]) (fun e t i j => zb.D.flat e.1.1 e.1.2.1 t)
theorem S249 : (C249).Sound pG :=
  fsn mixed (C249) (n := 24) (rs := rsOf pG 249) [] [0, 1, 2, 3] (gj (gO zb.D [0, 1, 2, 3]) []) (fun i => (.g 2 (.uf (.g 2 (.s (.call K215 [.K 0, .K 1, .K 2, .K 3] [0, 1, 2, 3]) (.g 2 (.s (.call K215 [.K 0, .K 1, .K 2, .K 3] [0, 1, 2, 3]) (.g 2 (.g 3 (.s (.call K240 [.K 0, .K 1, .K 2, .K 3] [0, 1, 2, 3]) (.g 3 (.s (.call K240 [.K 0, .K 1, .K 2, .K 3] [0, 1, 2, 3]) .leaf)))))))))))) Tryz.func249
def K249 : SCon El pG := ⟨C249, S249, Tryz.call249⟩
def C210 (k : Nat) : Con El := zG 210 wo (fun e => uu k e.1.2.2 e.2.1 e.2.2.1) 0 0 (fun e t j l => .i t.1) (fun e t j l => zb.D.flat e.1.1 e.1.2.1 t.2)
theorem S210 (k : Nat) : (C210 k).Sound pG :=
  fsn mixed (C210 k) (n := 61) (rs := rsOf pG 210) [] [0, 1, 2, 3] (gj (g2 (gI 6) (gO zb.D [0, 1, 2, 3])) []) (fun i => (.g 1 (.g 1 (.g 2 (.join (Int × zb) 0 0 (gj (g2 (gI 7) (gO zb.D [0, 1, 2, 3])) []) (fun e l t u => match (g2 (gP 0) (gA zb.D [0, 1, 2, 3])) e with | some j => ([(7, .i l.1)] ++ kp [0, 1, 2] e, ka [] e ++ zipL [0, 1, 2, 3] (zb.D.flat (j.1) (j.2) l.2)) | none => ([], [])) (.cond (.g 2 (.s (.call K215 [.K 0, .K 1, .K 2, .K 3] [0, 1, 2, 3]) (.g 1 .leaf))) .leaf) (.g 2 (.s (.call K174 [.K 0, .K 1, .K 2, .K 3] [0, 1, 2, 3]) (.g 1 (.join (Bool × zb) 0 0 (gj (g2 (gB 27) (gO zb.D [0, 1, 2, 3])) []) (fun e l t u => match (g2 (gP 0) (gA zb.D [0, 1, 2, 3])) e with | some j => ([(27, .bool l.1)] ++ kp [0, 1, 2, 7, 8] e, ka [] e ++ zipL [0, 1, 2, 3] (zb.D.flat (j.1) (j.2) l.2)) | none => ([], [])) (.g 3 (.split 21 (.g 6 .leaf) (.g 2 (.s (.call K174 [.K 0, .K 1, .K 2, .K 3] [0, 1, 2, 3]) (.g 3 .leaf))))) (.cond (.g 3 (.s (.call K152 [.K 0, .K 1, .K 2, .K 3] [0, 1, 2, 3]) (.g 2 (.s (.call K152 [.K 0, .K 1, .K 2, .K 3] [0, 1, 2, 3]) (.g 2 .ret))))) (.g 2 (.s (.call K215 [.K 0, .K 1, .K 2, .K 3] [0, 1, 2, 3]) (.g 1 (.g 4 (.s (.call (K245 k) [.K 0, .K 1, .K 2, .K 3] [0, 1, 2, 3]) (.g 1 (.g 3 (.s (.call (K229 k) [.K 0, .K 1, .K 2, .K 3] [0, 1, 2, 3]) (.join (zb) 0 0 (gj (gO zb.D [0, 1, 2, 3]) []) (fun e l t u => match (g2 (gP 0) (gA zb.D [0, 1, 2, 3])) e with | some j => ([] ++ kp [0, 2, 9, 10] e, ka [] e ++ zipL [0, 1, 2, 3] (zb.D.flat (j.1) (j.2) l)) | none => ([], [])) (.cond (.g 3 (.s (.call K249 [.K 0, .K 1, .K 2, .K 3] [0, 1, 2, 3]) .leaf)) .leaf) (.g 3 (.s (.call K250 [.K 0, .K 1, .K 2, .K 3] [0, 1, 2, 3]) (.g 3 (.s (.call K152 [.K 0, .K 1, .K 2, .K 3] [0, 1, 2, 3]) (.g 2 .ret)))))))))))))))))))))))) Tryz.func210
def K210 (k : Nat) : SCon El pG := ⟨C210 k, S210 k, Tryz.call210⟩
theorem oK {w0 w : World} {As : List HP} {k : Nat} {j : Nat} {e : zb.A} {a_ : zb} {r : Int} {n : Int} {t : Int × zb}  (hm : uu k a_ r n = some t) (H : St w0 (zb.R j e a_ :: As) w) :
    yX pG 210 #[.pointer (some ⟨j, 0, none⟩), .i r, .i n] w fun v w' => v = .i t.1 /\ St w0 (zb.R j e t.2 :: As) w' := by
  replace H := (fs0 fun As => zb.D_st).1 H;refine (S210 k ((j, e, a_), r, n, ()) t hm w0 w (As) rd0 H).mono ?_;rintro v w' ⟨u, l, hn, ha, hv, H, s⟩;obtain rfl := ls0 hn;obtain rfl := ls0 ha;refine ⟨hv, ?_⟩;refine (fs0 fun As => zb.D_st).2 ?_;exact H
def C155 (k : Nat) : Con El := zG 155 wo (fun e => sS k e.1.2.2 e.2.1 e.2.2.1) 1 1 (fun e t j l => .tuple #[.i t.1, .bool t.2.1]) (fun e t j l => zb.D.flat e.1.1 (zb.A.mk e.1.2.1.l_b e.1.2.1.l_c (na l 0) (nn j 0) e.1.2.1.m__p) t.2.2)
theorem S155 (k : Nat) : (C155 k).Sound pG :=
  fsn mixed (C155 k) (n := 25) (rs := rsOf pG 155) [] [0, 1, 2, 3] (gj (g2 (gI 6) (g2 (gB 7) (gO zb.D [0, 1, 2, 3]))) [nq_2]) (fun i => (.g 2 (.g 2 (.uf (.g 2 (.s (.call K206 [.K 0, .K 1, .K 2, .K 3] [0, 1, 2, 3]) (.g 5 (.g 2 (.cond (.g 3 .ret) (.g 3 (.s (.call (K210 k) [.K 0, .K 1, .K 2, .K 3] [0, 1, 2, 3]) (.g 2 .ret)))))))))))) Tryz.func155
def K155 (k : Nat) : SCon El pG := ⟨C155 k, S155 k, Tryz.call155⟩
def C156 : Con El := zG 156 wo (fun e => kU e.1.2.2 e.2.1 e.2.2.1) 0 0 (fun e t j l => .tuple #[.i t.1, .bool t.2]) (fun e t j l => zb.D.flat e.1.1 e.1.2.1 e.1.2.2)
theorem S156 : (C156).Sound pG := xT _ fun _ => rfl
def K156 : SCon El pG := ⟨C156, S156, Tryz.call156⟩
def C157 : Con El := zG 157 wo (fun e => pf e.1.2.2 e.2.1 e.2.2.1) 0 0 (fun e t j l => .tuple #[.i t.1, .bool t.2]) (fun e t j l => zb.D.flat e.1.1 e.1.2.1 e.1.2.2)
theorem S157 : (C157).Sound pG := xT _ fun _ => rfl
def K157 : SCon El pG := ⟨C157, S157, Tryz.call157⟩
abbrev fP : List (PK El) := [pI .i64, pO zb.D, pI .i64, pI .i64]
def C121 (k : Nat) : Con El := zG 121 fP (fun e => qd k e.1 e.2.1.2.2 e.2.2.1 e.2.2.2.1) 1 1 (fun e t j l => .tuple #[.i t.1, .bool t.2.1]) (fun e t j l => zb.D.flat e.2.1.1 (zb.A.mk e.2.1.2.1.l_b e.2.1.2.1.l_c (na l 0) (nn j 0) e.2.1.2.1.m__p) t.2.2)
theorem S121 (k : Nat) : (C121 k).Sound pG :=
  fsn mixed (C121 k) (n := 52) (rs := rsOf pG 121) [] [0, 1, 2, 3] (gj (g2 (gI 8) (g2 (gB 9) (gO zb.D [0, 1, 2, 3]))) [nq_2]) (fun i => (.g 2 (.g 1 (.blk (.g 2 (.cond (.g 3 (.s (.call (K153 k) [.K 0, .K 1, .K 2, .K 3] [0, 1, 2, 3]) (.g 4 .ret))) (.g 2 (.cond (.g 3 (.s (.call (K154 k) [.K 0, .K 1, .K 2, .K 3] [0, 1, 2, 3]) (.g 4 .ret))) (.g 2 (.cond (.g 3 (.s (.call (K155 k) [.K 0, .K 1, .K 2, .K 3] [0, 1, 2, 3]) (.g 4 .ret))) (.g 2 (.cond (.g 3 (.s (.call K156 [.K 0, .K 1, .K 2, .K 3] [0, 1, 2, 3]) (.g 4 .ret))) (.g 2 (.cond (.g 3 (.s (.call K157 [.K 0, .K 1, .K 2, .K 3] [0, 1, 2, 3]) (.g 4 .ret))) (.g 3 .ret))))))))))))))) Tryz.func121
def K121 (k : Nat) : SCon El pG := ⟨C121 k, S121 k, Tryz.call121⟩
def C158 : Con El := zG 158 kJ (fun e => xO e.1.2.2) 0 0 (fun e t j l => .i t) (fun e t j l => ze.D.flat e.1.1 e.1.2.1 e.1.2.2)
theorem S158 : (C158).Sound pG :=
  fsn mixed (C158) (n := 7) (rs := rsOf pG 158) [] [0, 1, 2] (gj (gI 2) []) (fun i => (.g 1 (.s (.seg 5 [.C 0 0]) .ret))) Tryz.func158
def K158 : SCon El pG := ⟨C158, S158, Tryz.call158⟩
abbrev bZ : List (PK El) := [pO ze.D, pV zy.dv zy.val]
def C159 : Con El := zG 159 bZ (fun l => yn l.1.2.2 l.2.1) 2 2 (fun l t e j => .tuple #[.agg #[.i t.1.At, .i t.1.Gen], .bool t.2.1]) (fun l t e j => ze.D.flat l.1.1 (ze.A.mk (na j 0) (nn e 0) (na j 1) (nn e 1)) t.2.2)
abbrev nq_3 : Nx El := nA ze.D [0, 1, 2] (fun e => ([e.l_c, e.free_c], [e.l_b, e.free_b]))
theorem S159 : (C159).Sound pG :=
  fsn mixed (C159) (n := 81) (rs := rsOf pG 159) [.C 2000 0, .C 2000 1] [0, 1, 2] (gj (g2 (gC 2000 0 2 zf.dec) (g2 (gB 5) (gO ze.D [0, 1, 2]))) [nq_3]) (fun i => (.s (.new 3 []) (.s (.new 4 []) (.g 1 (.s (.seg 6 [.C 0 1]) (.s (.seg 7 [.C 0 2]) (.g 2 (.joinR (Int × ze) 2 2 (gj (g2 (gI 6) (gO ze.D [0, 1, 2])) [nq_3]) (fun e t j l => match (gP 0) e with | some u => ([(6, .i t.1)] ++ kp [0, 3, 4] e, ka [4, 3] e ++ zipL [0, 1, 2] (ze.D.flat (u) (ze.A.mk (na l 0) (nn j 0) (na l 1) (nn j 1)) t.2)) | none => ([], [])) (.cond (.s (.seg 5 [.C 0 2]) (.s (.idx false 2 (.tmp 26) 2) (.s (.seg 3 [.A 2, .X 2 2 0]) (.s (.seg 6 [.C 0 2]) (.s (.cut false 2 none (some (.tmp 34)) 1003) (.s (.seg 3 [.W 1003]) (.s (.sto 0) (.s (.own 1003 2) .leaf)))))))) (.s (.seg 6 [.C 0 0]) (.cond (.g 1 (.s (.sto 4) (.g 1 (.rk (rb 2000 [4]) .ret)))) (.s (.seg 6 [.C 0 1]) (.s (.bld 6 3 255) (.s (.app 1 (.O 6)) (.g 2 (.s (.sto 0) .leaf)))))))) (.s (.seg 5 [.C 0 1]) (.s (.idx false 1 (.tmp 59) 4) (.s (.seg 2 [.A 4]) (.s (.seg 7 [.X 4 1 0]) (.s (.sset 1 4 0) (.s (.rlc 4 0 1) (.drw (.q [0, 1, 2, 3, 4] [.C 3 0, .C 3 1, .C 3 2] (.a 5 (.sset 1 4 1) [.C 3 0, .C 3 1, .C 3 2] (.s (.rlc 4 0 1) (.q [6, 7] [] (.a 8 (.sset 1 4 2) [] (.s (.rlc 4 0 1) (.s (.seg 6 [.X 4 1 0]) (.s (.sto 4) (.g 1 (.rk (rb 2000 [4]) .ret))))))))))))))))))))))))) Tryz.func159
def K159 : SCon El pG := ⟨C159, S159, Tryz.call159⟩
abbrev ak : List (PK El) := [pO zi.D, pV zf.dv zf.val, pI .i64]
def C122 : Con El := zG 122 ak (fun e => vZ e.1.2.2 e.2.1 e.2.2.1) 2 2 (fun e t j l => .tuple #[.agg #[.i t.1.At, .i t.1.Gen], .i t.2.1]) (fun e t j l => zi.D.flat e.1.1 (zi.A.mk e.1.2.1.heaps_p e.1.2.1.heaps_a e.1.2.1.items_p (ze.A.mk (na l 0) (nn j 0) (na l 1) (nn j 1)) e.1.2.1.at__p) t.2.2)
abbrev nq_4 : Nx El := nA zi.D rg_7 (fun e => ([e.items_a.l_c, e.items_a.free_c], [e.items_a.l_b, e.items_a.free_b]))
theorem S122 : (C122).Sound pG :=
  fsn mixed (C122) (n := 70) (rs := rsOf pG 122) [.C 2000 0, .C 2000 1] rg_7 (gj (g2 (gC 2000 0 2 zf.dec) (g2 (gI 7) (gO zi.D rg_7))) [nq_4]) (fun i => (.s (.new 8 []) (.s (.new 9 []) (.g 1 (.jg (Int) 0 0 (gj (gI 9) []) (fun e t j l => ([(9, .i t)] ++ kp [0, 2, 4, 6] e, ka [9, 8, 0, 1, 2, 3, 4, 5, 6, 7] e)) (.drw (.q [0, 1, 2, 3, 4] [.C 0 0, .C 8 0, .C 8 1] (.alt2 5 (.call K135 [.K 1, .K 2, .K 3] [1, 2, 3]) [] (.q [6, 7, 8] [] (.a 9 (.new 11 []) [] (.a 10 (.sto 11) [] (.q [11] [] .leaf)))) 9 (.new 12 []) [.C 8 0, .C 8 1, .C 0 0] (.a 5 (.call K135 [.K 1, .K 2, .K 3] [1, 2, 3]) [] (.q [6, 7, 8] [] (.a 10 (.sto 12) [] (.q [11] [] .leaf))))))) (.g 2 (.cond (.g 2 (.s (.sto 9) (.g 1 (.rk (rb 2000 [9]) .ret)))) (.s (.seg 5 [.C 0 2]) (.s (.mget 7 0 3 (sf.int rfl) (zf.mk 0 0)) (.g 3 (.s (.new 13 []) (.s (.sto 13) (.g 1 (.blk (.drw (.q [0, 1, 2, 3, 5, 6, 7, 8] [.C 0 1, .C 0 1] (.a 4 (.call K150 [.K 4, .K 5, .K 6] [4, 5, 6]) [.C 0 1] (.a 9 (.call K158 [.K 4, .K 5, .K 6] [4, 5, 6]) [] (.q [10, 11] [] (.cond (.g 1 (.s (.sto 9) (.g 1 (.rk (rb 2000 [9]) .ret)))) (.g 2 (.cond (.g 1 (.s (.sto 9) (.g 1 (.rk (rb 2000 [9]) .ret)))) (.jg (zf × zi) 3 2 (gj (g2 (gC 16 0 2 zf.dec) (gO zi.D rg_7)) [nPk 16, nq_4]) (fun e t j l => match (g2 (gP 0) (gA zi.D rg_7)) e with | some u => ([(12, .pointer (some ⟨(nn j 0), 0, none⟩))] ++ kp [0, 2, 6] e, ka [9] e ++ zipL [16] [.blk (nn j 0) 28 [.i t.1.At, .i t.1.Gen]] ++ zipL rg_7 (zi.D.flat (u.1) (zi.A.mk (u.2.heaps_p) (u.2.heaps_a) (u.2.items_p) (ze.A.mk (na l 0) (nn j 1) (na l 1) (nn j 2)) (u.2.at__p)) t.2)) | none => ([], [])) (.drw (.q rg_6 [.C 0 1, .C 8 0, .C 8 1] (.alt2 7 (.call K159 [.K 4, .K 5, .K 6] [4, 5, 6]) [] (.q [8, 9, 10] [] (.a 11 (.new 17 []) [] (.a 12 (.sto 17) [] (.q [13] [] (.rk (rb 16 [17]) .leaf))))) 11 (.new 18 []) [.C 8 0, .C 8 1, .C 0 1] (.a 7 (.call K159 [.K 4, .K 5, .K 6] [4, 5, 6]) [] (.q [8, 9, 10] [] (.a 12 (.sto 18) [] (.q [13] [] (.rk (rb 16 [18]) .leaf)))))))) (.drw (.q [0, 1, 2, 3, 4, 5] [.C 0 2, .C 16 0, .C 16 1] (.a 6 (.mput 7 0 3 (sf.int rfl)) [] (.s (.seg 1 [.C 16 0, .C 16 1]) (.s (.sto 9) (.g 1 (.rk (rb 2000 [9]) .ret)))))))))))))))))))))))))))))) Tryz.func122
def K122 : SCon El pG := ⟨C122, S122, Tryz.call122⟩
abbrev bU : List (PK El) := [pO zh.D, pV zf.dv zf.val, pV zA.dv zA.val]
def C160 : Con El := zG 160 bU (fun e => y8 e.1.2.2 e.2.1 e.2.2.1) 0 0 (fun e t j l => .i t.1) (fun e t j l => zh.D.flat e.1.1 e.1.2.1 t.2)
theorem S160 : (C160).Sound pG :=
  fsn mixed (C160) (n := 22) (rs := rsOf pG 160) [] [0, 1, 2] (gj (g2 (gI 6) (gO zh.D [0, 1, 2])) []) (fun i => (.s (.new 3 []) (.s (.new 4 []) (.g 1 (.s (.seg 2 [.C 3 0, .C 3 1]) (.s (.call K192 [.K 0, .K 1, .K 2] [0, 1, 2]) (.eo 12 0 1 0 (.g 5 (.g 2 (.join (Unit) 0 0 (gj gU []) (fun e t j l => ([] ++ kp [8] e, ka [0, 1, 2] e)) (.cond .dead .leaf) (.g 2 .ret)))) (.g 5 (.g 2 (.join (zh) 0 0 (gj (gO zh.D [0, 1, 2]) []) (fun e t j l => match (g2 (gP 0) (gA zh.D [0, 1, 2])) e with | some u => ([] ++ kp [8] e, ka [] e ++ zipL [0, 1, 2] (zh.D.flat (u.1) (u.2) t)) | none => ([], [])) (.cond (.s (.seg 4 [.C 4 0, .C 4 1, .C 4 2]) (.s (.sset 1 0 2) (.s (.rlc 0 0 1) .leaf))) .leaf) (.g 2 .ret))))))))))) Tryz.func160
def K160 : SCon El pG := ⟨C160, S160, Tryz.call160⟩
abbrev az : List (PK El) := [pO zi.D, pV zf.dv zf.val, pI .i64, pI .i64]
def C123 : Con El := zG 123 az (fun e => y1 e.1.2.2 e.2.1 e.2.2.1 e.2.2.2.1) 0 0 (fun e t j l => .i t.1) (fun e t j l => zi.D.flat e.1.1 e.1.2.1 t.2)
theorem S123 : (C123).Sound pG :=
  fsn mixed (C123) (n := 34) (rs := rsOf pG 123) [] rg_7 (gj (g2 (gI 8) (gO zi.D rg_7)) []) (fun i => (.s (.new 8 []) (.g 1 (.jg (zA × Int) 1 0 (gj (g2 (gC 11 0 3 zA.dec) (gI 10)) [nPk 11]) (fun e l j t => ([(9, .pointer (some ⟨(nn j 0), 0, none⟩)), (10, .i l.2)] ++ kp [0, 2, 3, 5] e, ka [8, 0, 1, 2, 3, 4, 5, 6, 7] e ++ zipL [11] [.blk (nn j 0) 182 [.i l.1.kind, .i l.1.root, .i l.1.n]])) (.drw (.q [0, 1, 2, 3, 4] [.C 0 0, .C 8 0, .C 8 1] (.alt2 5 (.call K135 [.K 1, .K 2, .K 3] [1, 2, 3]) [] (.q [6, 7, 8] [] (.a 9 (.new 12 []) [] (.a 10 (.sto 12) [] (.q [11] [] (.rk (rb 11 [12]) .leaf))))) 9 (.new 13 []) [.C 8 0, .C 8 1, .C 0 0] (.a 5 (.call K135 [.K 1, .K 2, .K 3] [1, 2, 3]) [] (.q [6, 7, 8] [] (.a 10 (.sto 13) [] (.q [11] [] (.rk (rb 11 [13]) .leaf)))))))) (.g 2 (.join (zi) 0 0 (gj (gO zi.D rg_7) []) (fun e l j t => match (g2 (gP 0) (gA zi.D rg_7)) e with | some u => ([] ++ kp [10] e, ka [] e ++ zipL rg_7 (zi.D.flat (u.1) (u.2) l)) | none => ([], [])) (.cond (.g 3 (.s (.sto 11) (.g 1 (.s (.sto 11) (.drw (.q [0, 1, 2, 3, 4, 5] [.C 0 0, .C 8 0, .C 8 1, .C 11 0, .C 11 1, .C 11 2] (.a 6 (.call K160 [.K 1, .K 2, .K 3] [1, 2, 3]) [] .leaf))))))) .leaf) (.g 2 .ret))))))) Tryz.func123
def K123 : SCon El pG := ⟨C123, S123, Tryz.call123⟩
abbrev C87p : List (PK El) := [pO zn.D, pV zX.dv zX.val]
def C87 (k : Nat) : Con El := zG 87 C87p (fun l => vG k l.1.2.2 l.2.1) 10 6 (fun l t e j => .agg #[.i t.1.Why, .i t.1.Heap.At, .i t.1.Heap.Gen, .i t.1.Item.At, .i t.1.Item.Gen, .i t.1.Entry.Key, .i t.1.Entry.Serial, .i t.1.N]) (fun l t e j => zn.D.flat l.1.1 (zn.A.mk l.1.2.1.a__p (zb.A.mk (na j 0) (nn e 0) (na j 1) (nn e 1) (nn e 2)) l.1.2.1.t__p (zi.A.mk (nn e 3) (zh.A.mk (na j 2) (nn e 4) (na j 3) (nn e 5)) (nn e 6) (ze.A.mk (na j 4) (nn e 7) (na j 5) (nn e 8)) (nn e 9)) l.1.2.1.entries_p) t.2)
abbrev nq_5 : Nx El := nA zn.D rg_13 (fun e => ([e.a__a.l_c, e.a__a.free_c, e.a__a.m__p, e.t__a.heaps_p, e.t__a.heaps_a.l_c, e.t__a.heaps_a.free_c, e.t__a.items_p, e.t__a.items_a.l_c, e.t__a.items_a.free_c, e.t__a.at__p], [e.a__a.l_b, e.a__a.free_b, e.t__a.heaps_a.l_b, e.t__a.heaps_a.free_b, e.t__a.items_a.l_b, e.t__a.items_a.free_b]))
abbrev nq_6 : Nx El := nA zn.D rg_13 (fun e => ([e.t__a.heaps_p, e.t__a.heaps_a.l_c, e.t__a.heaps_a.free_c, e.t__a.items_p, e.t__a.items_a.l_c, e.t__a.items_a.free_c, e.t__a.at__p], [e.t__a.heaps_a.l_b, e.t__a.heaps_a.free_b, e.t__a.items_a.l_b, e.t__a.items_a.free_b]))
theorem S87 (k : Nat) : (C87 k).Sound pG :=
  fsn mixed (C87 k) (n := 110) (rs := rsOf pG 87) [.C 2000 0, .C 2000 1, .C 2000 2, .C 2000 3, .C 2000 4, .C 2000 5, .C 2000 6, .C 2000 7] rg_13 (gj (g2 (gC 2000 0 8 zH.dec) (gO zn.D rg_13)) [nq_5]) (fun i => (.s (.new 14 []) (.s (.new 15 []) (.drw (.q [0, 1, 2, 3, 4, 5] [.C 0 2, .C 14 2, .C 14 3] (.a 6 (.call K92 [.K 5, .K 6, .K 7, .K 8, .K 9, .K 10, .K 11, .K 12] [5, 6, 7, 8, 9, 10, 11, 12]) [] (.q [7, 8, 9, 10, 11, 12, 13, 14, 15] [] (.blk (.g 3 (.cond (.g 1 (.s (.call K94 [] []) (.s (.sto 15) (.rk (rb 2000 [15]) .ret)))) (.drw (.q [0, 1, 2, 3, 5, 6, 7, 8] [.C 0 2, .C 0 0] (.a 4 (.call K119 [.K 5, .K 6, .K 7, .K 8, .K 9, .K 10, .K 11, .K 12] [5, 6, 7, 8, 9, 10, 11, 12]) [.C 0 0] (.q [9, 10] [] (.cond (.s (.call K94 [] []) (.s (.sto 15) (.rk (rb 2000 [15]) .ret))) (.drw (.q rg_6 [.C 14 8, .C 0 4] (.a 7 (.new 17 []) [.C 0 4, .C 14 8] (.a 8 (.sto 17) [] (.drw (.q rg_7 [.C 0 1, .C 17 0, .C 17 1] (.a 8 (.call K120 [.K 1, .K 2, .K 3, .K 4] [1, 2, 3, 4]) [] (.q [9, 10, 11, 12, 13] [] (.s (.seg 7 [.C 0 1]) (.s (.call (K121 k) [.K 1, .K 2, .K 3, .K 4] [1, 2, 3, 4]) (.g 4 (.jg (zf × zn) 8 4 (gj (g2 (gC 20 0 2 zf.dec) (gO zn.D rg_13)) [nPk 20, nq_6]) (fun l u e j => match (g2 (gP 0) (gA zn.D rg_13)) l with | some t => ([(12, .pointer (some ⟨(nn e 0), 0, none⟩))] ++ kp [0, 3, 4, 6, 7, 9] l, ka [17, 15, 14] l ++ zipL [20] [.blk (nn e 0) 28 [.i u.1.At, .i u.1.Gen]] ++ zipL rg_13 (zn.D.flat (t.1) (zn.A.mk (t.2.a__p) (t.2.a__a) (t.2.t__p) (zi.A.mk (nn e 1) (zh.A.mk (na j 0) (nn e 2) (na j 1) (nn e 3)) (nn e 4) (ze.A.mk (na j 2) (nn e 5) (na j 3) (nn e 6)) (nn e 7)) (t.2.entries_p)) u.2)) | none => ([], [])) (.drw (.q rg_6 [.C 0 2, .C 14 2, .C 14 3] (.alt2 7 (.call K122 [.K 5, .K 6, .K 7, .K 8, .K 9, .K 10, .K 11, .K 12] [5, 6, 7, 8, 9, 10, 11, 12]) [] (.q [8, 9, 10] [] (.a 11 (.new 21 []) [] (.a 12 (.sto 21) [] (.q [13] [] (.rk (rb 20 [21]) .leaf))))) 11 (.new 22 []) [.C 14 2, .C 14 3, .C 0 2] (.a 7 (.call K122 [.K 5, .K 6, .K 7, .K 8, .K 9, .K 10, .K 11, .K 12] [5, 6, 7, 8, 9, 10, 11, 12]) [] (.q [8, 9, 10] [] (.a 12 (.sto 22) [] (.q [13] [] (.rk (rb 20 [22]) .leaf)))))))) (.drw (.q rg_8 [.C 0 2, .C 14 2, .C 14 3] (.a 9 (.call K123 [.K 5, .K 6, .K 7, .K 8, .K 9, .K 10, .K 11, .K 12] [5, 6, 7, 8, 9, 10, 11, 12]) [] (.drw (.q [0, 1, 2, 3, 4, 5] [.C 0 3, .C 20 0, .C 20 1, .C 17 0, .C 17 1] (.a 6 (.mput 13 1 28 zf.vS) [] (.s (.seg 7 [.C 0 4]) (.s (.sto 0) (.s (.seg 3 [.C 20 0, .C 20 1, .C 17 0, .C 17 1]) (.s (.sto 15) (.rk (rb 2000 [15]) .ret)))))))))))))))))))))))))))))))))))))) Tryz.func87
def K87 (k : Nat) : SCon El pG := ⟨C87 k, S87 k, Tryz.call87⟩
def C161 : Con El := zG 161 uG (fun e => sx e.1.2.2 e.2.1) 0 0 (fun e t j l => .i t.1) (fun e t j l => zb.D.flat e.1.1 e.1.2.1 t.2)
theorem S161 : (C161).Sound pG :=
  fsn mixed (C161) (n := 10) (rs := rsOf pG 161) [] [0, 1, 2, 3] (gj (g2 (gI 4) (gO zb.D [0, 1, 2, 3])) []) (fun i => (.g 1 (.g 2 (.uf (.g 2 (.s (.call K215 [.K 0, .K 1, .K 2, .K 3] [0, 1, 2, 3]) (.g 1 .ret))))))) Tryz.func161
def K161 : SCon El pG := ⟨C161, S161, Tryz.call161⟩
def C216 (k : Nat) : Con El := zG 216 tH (fun e => wT k e.1.2.2 e.2.1.2.2) 0 0 (fun e t j l => .i t.1) (fun e t j l => zb.D.flat e.1.1 e.1.2.1 t.2)
abbrev bz (k : Nat) (i : Ins tH) : Kn El -> VC (C216 k).T := retC pG (C216 k) (rsOf pG 216) [] [0, 1, 2, 3] (gj (g2 (gI 4) (gO zb.D [0, 1, 2, 3])) []) i
def oN (e : Ins tH) : BCon El (Int × zb) := ⟨nav [1, 1, 0, 1] (yo pG 216), Int, Int × Int × zb, Int × zb, Int × zb, fun u => .inr u, fun _ _ => none, fun s => [(0, ⟨1, e.2.1.1, e.2.1.2.1, e.2.1.2.2⟩)], fun s v_ j l => [(0, .pointer (some ⟨e.1.1, 0, none⟩)), (5, .i v_.1), (8, .slice e.2.1.1 e.2.1.2.2.length e.2.1.2.1), (9, .i (s)), (10, .i v_.2.1)], fun s v_ j l => zipL [0, 1, 2, 3] (zb.D.flat e.1.1 e.1.2.1 v_.2.2), 0, 0, fun s t j l => [(5, .i t.1)], fun s t j l => zipL [0, 1, 2, 3] (zb.D.flat e.1.1 e.1.2.1 t.2)⟩
def kv (k : Nat) (e : Ins tH) : Nat -> (oN e).X -> (oN e).V -> Option (oN e).W := fun m_ (i : Int) (v_ : Int × Int × zb) => wj (i) e.2.1.2.2 m_ v_.1 v_.2.1 v_.2.2
theorem dy (k : Nat) (i : Ins tH) (m : Nat) : ((oN i).at (kv k i) m).Sound pG 216 25 (bz k i) :=
  lsn mixed (oN i) (id := 0) (body := nav [1, 1, 0, 1, 0, 0] (yo pG 216)) (kv k i) (fun _ => none) (fun u => u) (gj (g2 (gI 5) (g2 (gI 10) (gO zb.D [0, 1, 2, 3]))) []) (gj (g2 (gI 5) (gO zb.D [0, 1, 2, 3])) []) (fun m => (.g 1 (.cond (.join (Int × zb) 0 0 (gj (g2 (gI 5) (gO zb.D [0, 1, 2, 3])) []) (fun e j t x => match (g2 (gP 0) (gA zb.D [0, 1, 2, 3])) e with | some l => ([(5, .i j.1)] ++ kp [0, 8, 9, 10] e, ka [] e ++ zipL [0, 1, 2, 3] (zb.D.flat (l.1) (l.2) j.2)) | none => ([], [])) (.blk (.s (.idx true 0 (.tmp 10) 5) (.s (.seg 3 [.A 5, .R 5 0]) (.join (Bool × zb) 0 0 (gj (g2 (gB 21) (gO zb.D [0, 1, 2, 3])) []) (fun e j t x => match (g2 (gP 0) (gA zb.D [0, 1, 2, 3])) e with | some l => ([(21, .bool j.1)] ++ kp [0, 5, 7, 8, 9, 10] e, ka [] e ++ zipL [0, 1, 2, 3] (zb.D.flat (l.1) (l.2) j.2)) | none => ([], [])) (.g 3 (.split 16 (.g 5 .leaf) (.g 3 (.s (.call (K229 m) [.K 0, .K 1, .K 2, .K 3] [0, 1, 2, 3]) (.g 1 .leaf))))) (.cond (.g 2 .leaf) .leaf))))) (.g 2 .back)) .leaf))) m
theorem S216 (k : Nat) : (C216 k).Sound pG :=
  fsn mixed (C216 k) (n := 25) (rs := rsOf pG 216) [] [0, 1, 2, 3] (gj (g2 (gI 4) (gO zb.D [0, 1, 2, 3])) []) (fun i => (.g 1 (.g 1 (.g 3 (.loop ⟨(oN i).at (kv k i) k, dy k i k⟩ (gl (gI 9) (g2 (gI 5) (g2 (gI 10) (gO zb.D [0, 1, 2, 3]))) []) (.g 2 .ret)))))) Tryz.func216
def K216 (k : Nat) : SCon El pG := ⟨C216 k, S216 k, Tryz.call216⟩
def C162 (k : Nat) : Con El := zG 162 uG (fun e => uK k e.1.2.2 e.2.1) 0 0 (fun e t j l => .i t.1) (fun e t j l => zb.D.flat e.1.1 e.1.2.1 t.2)
theorem S162 (k : Nat) : (C162 k).Sound pG :=
  fsn mixed (C162 k) (n := 14) (rs := rsOf pG 162) [] [0, 1, 2, 3] (gj (g2 (gI 4) (gO zb.D [0, 1, 2, 3])) []) (fun i => (.g 1 (.g 2 (.uf (.g 4 (.s (.call (K209 k) [.K 0, .K 1, .K 2, .K 3] [4, 0, 1, 2, 3]) (.s (.call (K216 k) [.K 0, .K 1, .K 2, .K 3, .O 4] [0, 1, 2, 3]) (.s (.call K215 [.K 0, .K 1, .K 2, .K 3] [0, 1, 2, 3]) (.g 1 .ret))))))))) Tryz.func162
def K162 (k : Nat) : SCon El pG := ⟨C162 k, S162 k, Tryz.call162⟩
def C163 (k : Nat) : Con El := zG 163 uG (fun e => qv k e.1.2.2 e.2.1) 0 0 (fun e t j l => .i t.1) (fun e t j l => zb.D.flat e.1.1 e.1.2.1 t.2)
theorem S163 (k : Nat) : (C163 k).Sound pG :=
  fsn mixed (C163 k) (n := 14) (rs := rsOf pG 163) [] [0, 1, 2, 3] (gj (g2 (gI 4) (gO zb.D [0, 1, 2, 3])) []) (fun i => (.g 1 (.g 2 (.uf (.g 4 (.s (.call (K209 k) [.K 0, .K 1, .K 2, .K 3] [4, 0, 1, 2, 3]) (.s (.call (K216 k) [.K 0, .K 1, .K 2, .K 3, .O 4] [0, 1, 2, 3]) (.s (.call K215 [.K 0, .K 1, .K 2, .K 3] [0, 1, 2, 3]) (.g 1 .ret))))))))) Tryz.func163
def K163 (k : Nat) : SCon El pG := ⟨C163 k, S163 k, Tryz.call163⟩
def C164 : Con El := zG 164 uG (fun e => gp e.1.2.2 e.2.1) 0 0 (fun e t j l => .i t) (fun e t j l => zb.D.flat e.1.1 e.1.2.1 e.1.2.2)
theorem S164 : (C164).Sound pG := xT _ fun _ => rfl
def K164 : SCon El pG := ⟨C164, S164, Tryz.call164⟩
def C165 : Con El := zG 165 uG (fun e => oG e.1.2.2 e.2.1) 0 0 (fun e t j l => .i t) (fun e t j l => zb.D.flat e.1.1 e.1.2.1 e.1.2.2)
theorem S165 : (C165).Sound pG := xT _ fun _ => rfl
def K165 : SCon El pG := ⟨C165, S165, Tryz.call165⟩
abbrev cZ : List (PK El) := [pI .i64, pO zb.D, pI .i64]
def C125 (k : Nat) : Con El := zG 125 cZ (fun e => pt k e.1 e.2.1.2.2 e.2.2.1) 0 0 (fun e t j l => .i t.1) (fun e t j l => zb.D.flat e.2.1.1 e.2.1.2.1 t.2)
theorem S125 (k : Nat) : (C125 k).Sound pG :=
  fsn mixed (C125 k) (n := 33) (rs := rsOf pG 125) [] [0, 1, 2, 3] (gj (g2 (gI 6) (gO zb.D [0, 1, 2, 3])) []) (fun i => (.g 1 (.g 1 (.blk (.g 2 (.cond (.g 2 (.s (.call K161 [.K 0, .K 1, .K 2, .K 3] [0, 1, 2, 3]) (.g 1 .ret))) (.g 2 (.cond (.g 2 (.s (.call (K162 k) [.K 0, .K 1, .K 2, .K 3] [0, 1, 2, 3]) (.g 1 .ret))) (.g 2 (.cond (.g 2 (.s (.call (K163 k) [.K 0, .K 1, .K 2, .K 3] [0, 1, 2, 3]) (.g 1 .ret))) (.g 2 (.cond (.g 2 (.s (.call K164 [.K 0, .K 1, .K 2, .K 3] [0, 1, 2, 3]) (.g 1 .ret))) (.g 2 (.cond (.g 2 (.s (.call K165 [.K 0, .K 1, .K 2, .K 3] [0, 1, 2, 3]) (.g 1 .ret))) (.g 1 .ret))))))))))))))) Tryz.func125
def K125 (k : Nat) : SCon El pG := ⟨C125 k, S125 k, Tryz.call125⟩
def C124 : Con El := zG 124 C86p (fun e => vp e.1.2.2 e.2.1) 0 0 (fun e t j l => .tuple #[.agg #[.i t.1.At, .i t.1.Gen], .bool t.2]) (fun e t j l => zi.D.flat e.1.1 e.1.2.1 e.1.2.2)
theorem S124 : (C124).Sound pG :=
  fsn mixed (C124) (n := 19) (rs := rsOf pG 124) [.C 2000 0, .C 2000 1] rg_7 (gj (g2 (gC 2000 0 2 zf.dec) (gB 5)) []) (fun i => (.s (.new 8 []) (.g 1 (.s (.seg 5 [.C 0 2]) (.s (.mget 7 0 3 (sf.int rfl) (zf.mk 0 0)) (.g 3 (.s (.new 9 []) (.s (.sto 9) (.g 1 (.s (.seg 2 [.C 9 0, .C 9 1]) (.s (.sto 8) (.g 1 (.rk (rb 2000 [8]) .ret))))))))))))) Tryz.func124
def K124 : SCon El pG := ⟨C124, S124, Tryz.call124⟩
def C218 (k : Nat) : Con El := zG 218 uG (fun e => sV k e.1.2.2 e.2.1) 0 0 (fun e t j l => .i t.1) (fun e t j l => zb.D.flat e.1.1 e.1.2.1 t.2)
theorem S218 (k : Nat) : (C218 k).Sound pG :=
  fsn mixed (C218 k) (n := 13) (rs := rsOf pG 218) [] [0, 1, 2, 3] (gj (g2 (gI 4) (gO zb.D [0, 1, 2, 3])) []) (fun i => (.g 1 (.g 3 (.s (.call K215 [.K 0, .K 1, .K 2, .K 3] [0, 1, 2, 3]) (.g 2 (.s (.call K215 [.K 0, .K 1, .K 2, .K 3] [0, 1, 2, 3]) (.s (.call (K207 k) [.K 0, .K 1, .K 2, .K 3] [0, 1, 2, 3]) (.g 1 .ret)))))))) Tryz.func218
def K218 (k : Nat) : SCon El pG := ⟨C218 k, S218 k, Tryz.call218⟩
def C172 : Con El := zG 172 uG (fun e => wN e.1.2.2 e.2.1) 1 1 (fun e t i j => .bool t.1) (fun e t i j => zb.D.flat e.1.1 (zb.A.mk e.1.2.1.l_b e.1.2.1.l_c (na j 0) (nn i 0) e.1.2.1.m__p) t.2)
theorem S172 : (C172).Sound pG :=
  fsn mixed (C172) (n := 31) (rs := rsOf pG 172) [] [0, 1, 2, 3] (gj (g2 (gB 4) (gO zb.D [0, 1, 2, 3])) [nq_2]) (fun i => (.g 1 (.s (.seg 4 [.C 0 3]) (.s (.call K203 [.K 3] [3]) (.g 2 (.s (.call K217 [.K 0, .K 1, .K 2, .K 3] [0, 1, 2, 3]) (.g 1 (.cond (.g 1 .ret) (.s (.seg 5 [.C 0 0]) (.s (.idx false 1 (.tmp 18) 0) (.s (.seg 2 [.A 0]) (.s (.sset 1 0 10) (.s (.rlc 0 0 0) (.s (.seg 6 [.C 0 2]) (.s (.bld 4 1 3) (.s (.app 2 (.O 4)) (.g 2 (.s (.sto 0) (.g 1 .ret))))))))))))))))))) Tryz.func172
def K172 : SCon El pG := ⟨C172, S172, Tryz.call172⟩
def C219 : Con El := zG 219 uG (fun e => sm e.1.2.2 e.2.1) 1 1 (fun e t j l => .i t.1) (fun e t j l => zb.D.flat e.1.1 (zb.A.mk e.1.2.1.l_b e.1.2.1.l_c (na l 0) (nn j 0) e.1.2.1.m__p) t.2)
theorem S219 : (C219).Sound pG :=
  fsn mixed (C219) (n := 16) (rs := rsOf pG 219) [] [0, 1, 2, 3] (gj (g2 (gI 4) (gO zb.D [0, 1, 2, 3])) [nq_2]) (fun i => (.g 1 (.g 2 (.s (.call K215 [.K 0, .K 1, .K 2, .K 3] [0, 1, 2, 3]) (.g 1 (.g 2 (.s (.call K152 [.K 0, .K 1, .K 2, .K 3] [0, 1, 2, 3]) (.g 2 (.s (.call K172 [.K 0, .K 1, .K 2, .K 3] [0, 1, 2, 3]) (.g 2 .ret)))))))))) Tryz.func219
def K219 : SCon El pG := ⟨C219, S219, Tryz.call219⟩
theorem pN {w0 w : World} {As : List HP} {s : Nat} {e : zb.A} {a_ : zb} {n : Int} {t : Int × zb}  (hm : sm a_ n = some t) (H : St w0 (zb.R s e a_ :: As) w) :
    yX pG 219 #[.pointer (some ⟨s, 0, none⟩), .i n] w fun v w' => ∃ (j : Option Addr), ∃ (l : Nat), v = .i t.1 /\ St w0 (zb.R s (zb.A.mk e.l_b e.l_c j l e.m__p) t.2 :: As) w' := by
  replace H := (fs0 fun As => zb.D_st).1 H;refine (S219 ((s, e, a_), n, ()) t hm w0 w (As) rd0 H).mono ?_;rintro v w' ⟨I, y, hn, ha, hv, H, z⟩;obtain ⟨B, D, rfl, u⟩ := lsS hn;obtain rfl := ls0 u;obtain ⟨a0, F, rfl, x⟩ := lsS ha;obtain rfl := ls0 x;refine ⟨a0, B, hv, ?_⟩;refine (fs0 fun As => zb.D_st).2 ?_;exact H
def C166 (k : Nat) : Con El := zG 166 uG (fun e => vN k e.1.2.2 e.2.1) 1 1 (fun e t j l => .tuple #[.i t.1, .i t.2.1]) (fun e t j l => zb.D.flat e.1.1 (zb.A.mk e.1.2.1.l_b e.1.2.1.l_c (na l 0) (nn j 0) e.1.2.1.m__p) t.2.2)
theorem S166 (k : Nat) : (C166 k).Sound pG :=
  fsn mixed (C166 k) (n := 25) (rs := rsOf pG 166) [] [0, 1, 2, 3] (gj (g2 (gI 4) (g2 (gI 5) (gO zb.D [0, 1, 2, 3]))) [nq_2]) (fun i => (.g 2 (.join (Bool) 0 0 (gj (gB 14) []) (fun e j l t => ([(14, .bool j)] ++ kp [0, 1] e, ka [0, 1, 2, 3] e)) (.g 5 (.s (.call K217 [.K 0, .K 1, .K 2, .K 3] [0, 1, 2, 3]) (.g 2 .leaf))) (.cond (.g 2 .ret) (.g 2 (.s (.call (K218 k) [.K 0, .K 1, .K 2, .K 3] [0, 1, 2, 3]) (.g 1 (.g 2 (.s (.call K152 [.K 0, .K 1, .K 2, .K 3] [0, 1, 2, 3]) (.g 3 (.s (.call K219 [.K 0, .K 1, .K 2, .K 3] [0, 1, 2, 3]) (.g 2 .ret)))))))))))) Tryz.func166
def K166 (k : Nat) : SCon El pG := ⟨C166 k, S166 k, Tryz.call166⟩
theorem ug {w0 w : World} {As : List HP} {x : Int} {v_ : Int} {r : Nat} {t : Bool}  (hm : xY x v_ = some t) (H : St w0 (Blk r 3 [.i v_] :: As) w) :
    yX pG 253 #[.i x, .pointer (some ⟨r, 0, none⟩)] w fun v w' => v = .bool t /\ St w0 (Blk r 3 [.i v_] :: As) w' := by
 rw [xY] at hm;refine enter (args := [.i x, .pointer (some ⟨r, 0, none⟩)]) Tryz.func253 rfl rfl rfl fun a j => ?_
 refine Runs.sr ?_;refine WR.seg j 1 [] [0, 1] (Lo := [(0, .i x), (1, .pointer (some ⟨r, 0, none⟩))]) (obs := []) rfl (by kernel_rfl) trivial fun a j => ?_
 refine WR.done rfl ?_;refine Runs.sr ?_;refine WR.e j [.i v_] [(3, .bool (x == v_))] (obs := [.cell ⟨r, 0, none⟩ (.i v_)]) ⟨H.cell 0 rfl rfl, trivial⟩ fun a j => ?_
 refine Runs.ret j Tryz.func253 rfl rfl ?_;cases hm;exact ⟨rfl, H⟩
theorem uV {w0 w : World} {As : List HP} {k : Nat} {j : Option Addr} {l : Nat} {s : List Int} {u : HP} {v_ : Int} {r : Nat} {t : Int} (hX_s : SlRd u ecI 1 j s) (hC_s : s.length <= l) (hm : xx k s v_ = some t) (H : St w0 (u :: Blk r 3 [.i v_] :: As) w) :
    yX pG 275 #[.slice j s.length l, .func (.func 253) #[] #[.pointer (some ⟨r, 0, none⟩)]] w fun v w' => v = .i t /\ St w0 (u :: Blk r 3 [.i v_] :: As) w' := by
 rw [xx] at hm;refine enter (args := [.slice j s.length l, .func (.func 253) #[] #[.pointer (some ⟨r, 0, none⟩)]]) Tryz.func275 rfl rfl rfl fun a e => ?_
 refine Runs.sr ?_;refine WR.seg e 1 [] [0, 1] (Lo := [(0, .slice j s.length l), (1, .func (.func 253) #[] #[.pointer (some ⟨r, 0, none⟩)])]) (obs := []) rfl (by kernel_rfl) trivial fun a e => ?_
 refine WR.done rfl ?_;refine Runs.seq ?_;refine Runs.sr ?_;refine WR.e0 e [(7, .i (s.length : Int)), (8, .i 0)] fun a e => ?_
 obtain ⟨s1, y, A⟩ := bind_some hm;refine Runs.join (fun a w => ∃ s2, s1 = Sum.inr s2 /\ zV 19 a [] /\ St w0 (u :: Blk r 3 [.i v_] :: As) w) (fun hk => ?_) ?_
 ·replace hm := y; clear y;refine Runs.block ?_;refine Runs.loop (fun m a w => ∃ (x : Int), zV 19 a [(0, .slice j s.length l), (1, .func (.func 253) #[] #[.pointer (some ⟨r, 0, none⟩)]), (7, .i (s.length : Int)), (8, .i x)] /\ St w0 (u :: Blk r 3 [.i v_] :: As) w /\ zS (s.length : Int) s v_ m x = some s1) k ⟨0, e.sel [0, 1, 7, 8] (by kernel_rfl), H.t1.t1, hm⟩ ?_;rintro m ih a w ⟨x, e, H, hm⟩;cases m with
  | zero => simp [zS] at hm
  | succ m =>
   rw [zS] at hm;refine Runs.sr ?_;refine WR.seg e 1 [] [0, 1, 7, 8, 9] (Lo := [(0, .slice j s.length l), (1, .func (.func 253) #[] #[.pointer (some ⟨r, 0, none⟩)]), (7, .i (s.length : Int)), (8, .i x), (9, .bool (decide (x < (s.length : Int))))]) (obs := []) rfl (by kernel_rfl) trivial fun a e => ?_
   refine WR.done rfl ?_;refine Runs.seq ?_;refine Runs.cond e rfl (fun c => ?_) (fun c => ?_)
   ·replace hm := wh c hm;refine Runs.skip ?_;refine Runs.seq ?_;refine Runs.block ?_;refine Runs.sr ?_;refine WR.e0 e [(5, .i x)] fun a e => ?_
    refine Runs.sr ?_;obtain ⟨x2, z, hm⟩ := bind_some hm;obtain ⟨b, o, hs, D⟩ := SlRd.base hX_s xW H 0 rfl z;refine WR.d e 5 [.pointer (some ⟨b, o, none⟩), .i x2] [(11, .func (.func 253) #[] #[.pointer (some ⟨r, 0, none⟩)]), (15, .i x2)] (obs := [.p ((j : Option Addr) = some ⟨b, o, none⟩), .p (0 <= (x : Int) /\ (x : Int) < ((s.length : Nat) : Int)), .cell ⟨b, o + (Int.toNat x) * 1, none⟩ (.i x2)]) ⟨hs, D, SlRd.cells hX_s xW H 0 rfl hs z 0 _ rfl, trivial⟩ fun a e => ?_
    obtain ⟨t_, B, hm⟩ := bind_some hm;refine WR.eff e rfl rfl rfl rfl (OpTo.fv e rfl rfl rfl Tryz.call253 (ug B H.t1)) ?_;rintro _ w ⟨rfl, H⟩ a e;refine WR.done rfl ?_;refine Runs.cond e rfl (fun c => ?_) (fun c => ?_)
    ·replace hm := wh c hm;refine Runs.sr ?_;refine WR.e0 e [(4, .i x)] fun a e => ?_
     refine Runs.ret e Tryz.func275 rfl rfl ?_;cases hm;dsimp only at A; cases A;exact ⟨rfl, H.t1⟩
    ·replace hm := wg c hm;refine Runs.skip ?_;refine Runs.inBlock ?_;refine Runs.region ?_;refine WR.e0 e [(8, .i (w64 (x + 1)))] fun a e => ?_
     exact ih m (Nat.lt_succ_self m) _ _ ⟨w64 (x + 1), e.sel [0, 1, 7, 8] (by kernel_rfl), H.t1, hm⟩
   ·replace hm := wg c hm;refine Runs.exit rfl ?_;cases hm;exact hk _ _ ⟨_, rfl, e.sel [] (by kernel_rfl), H.t1.t1⟩
 rintro a w ⟨s2, rfl, e, H⟩;replace hm := A; dsimp only at hm;refine Runs.sr ?_;refine WR.seg e 1 [] [4] (Lo := [(4, .i (-1))]) (obs := []) rfl (by kernel_rfl) trivial fun a e => ?_
 refine WR.done rfl ?_;refine Runs.ret e Tryz.func275 rfl rfl ?_;cases hm;exact ⟨rfl, H.t1.t1⟩
theorem uQ {w0 w : World} {As : List HP} {k : Nat} {y : Option Addr} {u : Nat} {s : List Int} {v_ : Int} {r : Nat} {t : (List Int)}  (hm : yV k s v_ = some t) (H : St w0 (Sl 3 ecI 1 y u s :: Blk r 3 [.i v_] :: As) w) :
    yX pG 252 #[.slice y s.length u, .func (.func 253) #[] #[.pointer (some ⟨r, 0, none⟩)]] w fun v w' => ∃ (I : Option Addr), ∃ (J : Nat), v = .slice I t.length J /\ St w0 (Sl 3 ecI 1 I J t :: Blk r 3 [.i v_] :: As) w' := by
 rw [yV] at hm;refine enter (args := [.slice y s.length u, .func (.func 253) #[] #[.pointer (some ⟨r, 0, none⟩)]]) Tryz.func252 rfl rfl rfl fun a A => ?_
 refine Runs.sr ?_;refine WR.seg A 1 [] [0, 1] (Lo := [(0, .slice y s.length u), (1, .func (.func 253) #[] #[.pointer (some ⟨r, 0, none⟩)])]) (obs := []) rfl (by kernel_rfl) trivial fun a A => ?_
 refine WR.done rfl ?_;refine Runs.sr ?_;refine WR.d0 A 2 [(8, .slice y s.length u), (9, .func (.func 253) #[] #[.pointer (some ⟨r, 0, none⟩)])] fun a A => ?_
 obtain ⟨t_, Y, hm⟩ := bind_some hm;replace H := H.t1.t1;refine WR.eff A rfl rfl rfl rfl (OpTo.fn A rfl rfl Tryz.call275 (uV (hX_s := (vj 3 ecI 1 _ _ _)) (hC_s := (H.pk 0 rfl).1) Y H)) ?_;rintro _ w ⟨rfl, H⟩ a A;refine WR.e0 A [(5, .i t_)] fun a A => ?_
 refine Runs.seq ?_;refine Runs.sr ?_;refine WR.e0 A [(12, .bool (t_ == (-1)))] fun a A => ?_
 refine Runs.cond A rfl (fun c => ?_) (fun c => ?_)
 ·replace hm := wh c hm;refine Runs.sr ?_;refine WR.e0 A [(4, .slice y s.length u)] fun a A => ?_
  refine Runs.ret A Tryz.func252 rfl rfl ?_;cases hm;exact ⟨y, u, rfl, H.t1.t1⟩
 ·replace hm := wg c hm;refine Runs.skip ?_;refine Runs.seq ?_;refine Runs.sr ?_;refine WR.e0 A [(6, .i (w64 (t_ + 1)))] fun a A => ?_
  obtain ⟨s1, O, hm⟩ := bind_some hm;refine Runs.join (fun a w => zV 42 a [(0, .slice y s1.2.length u), (5, .i s1.1)] /\ St w0 (Sl 3 ecI 1 y u s1.2 :: Blk r 3 [.i v_] :: As) w) (fun hk => ?_) ?_
  ·replace hm := O; clear O;refine Runs.block ?_;refine Runs.loop (fun m a w => ∃ (i : Int), ∃ (j : Int), ∃ (m_ : List Int), zV 42 a [(0, .slice y m_.length u), (1, .func (.func 253) #[] #[.pointer (some ⟨r, 0, none⟩)]), (5, .i i), (6, .i j)] /\ St w0 (Sl 3 ecI 1 y u m_ :: Blk r 3 [.i v_] :: As) w /\ z8 v_ m i j m_ = some s1) k ⟨t_, w64 (t_ + 1), s, A.sel [0, 1, 5, 6] (by kernel_rfl), H.t1.t1, hm⟩ ?_;rintro m ih a w ⟨i, j, m_, A, H, hm⟩;cases m with
   | zero => simp [z8] at hm
   | succ m =>
    rw [z8] at hm;refine Runs.seq ?_;refine Runs.sr ?_;refine WR.seg A 4 [] [0, 1, 5, 6, 19] (Lo := [(0, .slice y m_.length u), (1, .func (.func 253) #[] #[.pointer (some ⟨r, 0, none⟩)]), (5, .i i), (6, .i j), (19, .bool (decide (j < (m_.length : Int))))]) (obs := []) rfl (by kernel_rfl) trivial fun a A => ?_
    refine WR.done rfl ?_;refine Runs.cond A rfl (fun c => ?_) (fun c => ?_)
    ·replace hm := wh c hm;refine Runs.skip ?_;refine Runs.seq ?_;obtain ⟨s2, S, hm⟩ := bind_some hm;refine Runs.join (fun a w => zV 42 a [(0, .slice y s2.2.length u), (1, .func (.func 253) #[] #[.pointer (some ⟨r, 0, none⟩)]), (5, .i s2.1), (6, .i j)] /\ St w0 (Sl 3 ecI 1 y u s2.2 :: Blk r 3 [.i v_] :: As) w) (fun hk => ?_) ?_
     ·replace hm := S; clear S;refine Runs.block ?_;refine Runs.sr ?_;obtain ⟨x, ex, hm⟩ := bind_some hm;obtain ⟨b, o, hs, hb⟩ := SlRd.base (vj 3 ecI 1 _ _ _) xW H 0 rfl ex;refine WR.e A [.pointer (some ⟨b, o, none⟩), .i x] [(7, .i x)] (obs := [.p ((y : Option Addr) = some ⟨b, o, none⟩), .p (0 <= (j : Int) /\ (j : Int) < ((m_.length : Nat) : Int)), .cell ⟨b, o + (Int.toNat j) * 1, none⟩ (.i x)]) ⟨hs, hb, SlRd.cells (vj 3 ecI 1 _ _ _) xW H 0 rfl hs ex 0 _ rfl, trivial⟩ fun a A => ?_
      refine Runs.sr ?_;refine WR.d0 A 2 [(26, .func (.func 253) #[] #[.pointer (some ⟨r, 0, none⟩)]), (27, .i x)] fun a A => ?_
      obtain ⟨Z, U, hm⟩ := bind_some hm;refine WR.eff A rfl rfl rfl rfl (OpTo.fv A rfl rfl rfl Tryz.call253 (ug U H.t1)) ?_;rintro _ w ⟨rfl, H⟩ a A;refine WR.e0 A [(29, .bool (!Z))] fun a A => ?_
      refine Runs.cond A rfl (fun c => ?_) (fun c => ?_)
      ·replace hm := wh c hm;refine Runs.sr ?_;obtain ⟨x1, W, hm⟩ := bind_some hm;obtain ⟨b1, o1, X, a2⟩ := SlRd.base (vj 3 ecI 1 _ _ _) xW H 1 rfl W;refine WR.d A 4 [.pointer (some ⟨b1, o1, none⟩)] [(32, .i x), (33, .pointer (some ⟨b1, o1 + (Int.toNat i) * 1, none⟩))] (obs := [.p ((y : Option Addr) = some ⟨b1, o1, none⟩), .p (0 <= (i : Int) /\ (i : Int) < ((m_.length : Nat) : Int))]) ⟨X, a2, trivial⟩ fun a A => ?_
       refine WR.eff0 A rfl rfl rfl (OpTo.me (q := 0) (x' := x) A H.t1 xW rfl X W rfl rfl rfl rfl rfl (Nat.le_of_ble_eq_true rfl) rfl) ?_;rintro _ w H a A
       try rw [<- pH m_ i x] at A
       refine WR.done rfl ?_;refine Runs.region ?_;refine WR.seg A 3 [] [0, 1, 5, 6] (Lo := [(0, .slice y ((mSet m_ i x).length) u), (1, .func (.func 253) #[] #[.pointer (some ⟨r, 0, none⟩)]), (5, .i (w64 (i + 1))), (6, .i j)]) (obs := []) rfl (by kernel_rfl) trivial fun a A => ?_
       refine WR.done rfl ?_;refine Runs.inBlock ?_;cases hm;exact hk _ _ ⟨A.sel [0, 1, 5, 6] (by kernel_rfl), H.t1.t1⟩
      ·replace hm := wg c hm;refine Runs.skip ?_;refine Runs.inBlock ?_;cases hm;exact hk _ _ ⟨A.sel [0, 1, 5, 6] (by kernel_rfl), H.t1⟩
     rintro a w ⟨A, H⟩;refine Runs.region ?_;refine WR.seg A 3 [] [0, 1, 5, 6] (Lo := [(0, .slice y s2.2.length u), (1, .func (.func 253) #[] #[.pointer (some ⟨r, 0, none⟩)]), (5, .i s2.1), (6, .i (w64 (j + 1)))]) (obs := []) rfl (by kernel_rfl) trivial fun a A => ?_
     refine WR.done rfl ?_;exact ih m (Nat.lt_succ_self m) _ _ ⟨s2.1, w64 (j + 1), s2.2, A.sel [0, 1, 5, 6] (by kernel_rfl), H.t1.t1, hm⟩
    ·replace hm := wg c hm;refine Runs.exit rfl ?_;cases hm;exact hk _ _ ⟨A.sel [0, 5] (by kernel_rfl), H.t1.t1⟩
  rintro a w ⟨A, H⟩;refine Runs.sr ?_;obtain ⟨l, el, hm⟩ := bind_some hm;obtain ⟨sb, q⟩ : ∃ z, ym y u (Int.toNat s1.1) 1 = z := ⟨_, rfl⟩
  obtain ⟨sc, q1⟩ : ∃ z, u - (Int.toNat s1.1) = z := ⟨_, rfl⟩
  refine WR.seg A 3 [.slice sb l.length sc] [0, 5, 38] (Lo := [(0, .slice y s1.2.length u), (5, .i s1.1), (38, .slice sb l.length sc)]) (obs := [.p (ym y u (Int.toNat s1.1) 1 = sb), .p (s1.2.length - (Int.toNat s1.1) = l.length), .p (u - (Int.toNat s1.1) = sc), .p (0 <= (s1.1 : Int) /\ (s1.1 : Int) <= ((s1.2.length : Nat) : Int))]) rfl (by kernel_rfl) ⟨q, s6 el, q1, nU el, trivial⟩ fun a A => ?_
  refine WR.eff0 A rfl rfl rfl (OpTo.gD (z := 0) A H xW el q q1 rfl rfl rfl rfl rfl rfl) ?_;rintro _ w ⟨_, H⟩ a A
  try rw [<- qH (z := 0) el] at A
  refine WR.done rfl ?_;refine Runs.sr ?_;obtain ⟨l1, F, hm⟩ := bind_some hm;obtain ⟨B, q2⟩ : ∃ z, ym y u (Int.toNat 0) 1 = z := ⟨_, rfl⟩
  obtain ⟨D, q3⟩ : ∃ z, u - (Int.toNat 0) = z := ⟨_, rfl⟩
  refine WR.seg A 4 [.slice B l1.length D] [4] (Lo := [(4, .slice B l1.length D)]) (obs := [.p (ym y u 0 1 = B), .p ((Int.toNat s1.1) - 0 = l1.length), .p (u - 0 = D), .p (0 <= (s1.1 : Int) /\ (s1.1 : Int) <= ((u : Nat) : Int))]) rfl (by kernel_rfl) ⟨q2, s6 F, q3, mz F (H.pk 0 rfl).1, trivial⟩ fun a A => ?_
  refine WR.done rfl ?_;replace H := H.fl xW F q2 q3;refine Runs.ret A Tryz.func252 rfl rfl ?_;cases hm;exact ⟨B, D, rfl, H.t1.t1⟩
def C254 (k : Nat) : Con El := zG 254 uG (fun j => u1 k j.1.2.2 j.2.1) 1 1 (fun j t e i => .slice (na i 0) t.1.length (nn e 0)) (fun j t e i => [.sl 1 3 (na i 0) (nn e 0) t.1] ++ zb.D.flat j.1.1 j.1.2.1 t.2)
theorem S254 (k : Nat) : (C254 k).Sound pG :=
  fsn mixed (C254 k) (n := 10) (rs := rsOf pG 254) [] [1000, 0, 1, 2, 3] (gj (g2 (gL 1 1000) (gO zb.D [0, 1, 2, 3])) [nSk 1000]) (fun i => (.g 1 (.g 3 (.s (.call K215 [.K 0, .K 1, .K 2, .K 3] [0, 1, 2, 3]) (.s (.call (K248 k) [.K 0, .K 1, .K 2, .K 3] [4, 0, 1, 2, 3]) (.g 1 (.rk (rb 1000 [4]) .ret))))))) Tryz.func254
theorem qx {w0 w : World} {As : List HP} {k : Nat} {j : Nat} {e : zb.A} {a_ : zb} {n : Int} {t : (List Int) × zb}  (hm : u1 k a_ n = some t) (H : St w0 (zb.R j e a_ :: As) w) :
    yX pG 254 #[.pointer (some ⟨j, 0, none⟩), .i n] w fun v w' => ∃ (l : Option Addr), ∃ (s : Nat), v = .slice l t.1.length s /\ St w0 (Sl 3 ecI 1 l s t.1 :: zb.R j e t.2 :: As) w' := by
  replace H := (fs0 fun As => zb.D_st).1 H;refine (S254 k ((j, e, a_), n, ()) t hm w0 w (As) rd0 H).mono ?_;rintro v w' ⟨I, y, hn, ha, hv, H, z⟩;obtain ⟨B, D, rfl, u⟩ := lsS hn;obtain rfl := ls0 u;obtain ⟨a0, F, rfl, x⟩ := lsS ha;obtain rfl := ls0 x;refine ⟨a0, B, hv, ?_⟩;refine (fs1 fun As => zb.D_st).2 ?_;exact H
theorem rK {w0 w : World} {As : List HP} {k : Nat} {j : Nat} {s : zb.A} {a_ : zb} {y : Option Addr} {B : Nat} {l : List Int} {n : Int} {t : Int × Int × zb}  (hm : xg k a_ l n = some t) (H : St w0 (zb.R j s a_ :: Sl 3 ecI 1 y B l :: As) w) :
    yX pG 220 #[.pointer (some ⟨j, 0, none⟩), .slice y l.length B, .i n] w fun v w' => ∃ (u : Option Addr), ∃ (x : Nat), v = .tuple #[.i t.1, .i t.2.1] /\ St w0 (zb.R j (zb.A.mk s.l_b s.l_c u x s.m__p) t.2.2 :: As) w' := by
 rw [xg] at hm;refine enter (args := [.pointer (some ⟨j, 0, none⟩), .slice y l.length B, .i n]) Tryz.func220 rfl rfl rfl fun a e => ?_
 refine Runs.sr ?_;refine WR.eff e rfl rfl rfl rfl (OpTo.new e H [] (.cells #[.i n] 3 (0, 0)) (fun r => .pointer (some ⟨r, 0, none⟩)) (obs := []) rfl (fun _ => by kernel_rfl) trivial) ?_;rintro _ w ⟨r, rfl, H⟩ a e;refine WR.seg e 3 [] [0, 1, 5] (Lo := [(0, .pointer (some ⟨j, 0, none⟩)), (1, .slice y l.length B), (5, .pointer (some ⟨r, 0, none⟩))]) (obs := []) rfl (by kernel_rfl) trivial fun a e => ?_
 refine WR.done rfl ?_;refine Runs.sr ?_;refine WR.d0 e 2 [(10, .slice y l.length B), (11, .func (.func 253) #[] #[.pointer (some ⟨r, 0, none⟩)])] fun a e => ?_
 obtain ⟨t_, U, hm⟩ := bind_some hm;refine WR.eff e rfl rfl rfl rfl (OpTo.fn e rfl rfl Tryz.call252 (uQ U H.t2)) ?_;rintro _ w ⟨sb, sc, rfl, H⟩ a e;refine WR.e0 e [(8, .slice sb t_.length sc)] fun a e => ?_
 refine Runs.sr ?_;refine WR.d e 3 [.i n] [(13, .slice sb t_.length sc), (14, .pointer (some ⟨j, 0, none⟩)), (15, .i n)] (obs := [.cell ⟨r, 0, none⟩ (.i n)]) ⟨H.cell 1 rfl rfl, trivial⟩ fun a e => ?_
 obtain ⟨Z, D, hm⟩ := bind_some hm;refine WR.eff e rfl rfl rfl rfl (OpTo.fn e rfl rfl Tryz.call254 (qx D H.t2)) ?_;rintro _ w ⟨a0, a1, rfl, H⟩ a e;obtain ⟨Y, W, hm⟩ := bind_some hm;replace H := H.t2;refine WR.eff e rfl rfl rfl rfl (OpTo.rV W e H xW rfl rfl rfl rfl rfl rfl rfl rfl rfl rfl (SlRd.all (vj 3 ecI 1 _ _ _) xW H 1 rfl) rfl) ?_;rintro _ w ⟨F, I, rfl, H⟩ a e;refine WR.e0 e [(8, .slice F Y.length I)] fun a e => ?_
 refine Runs.sr ?_;refine WR.d e 2 [.i n] [(18, .pointer (some ⟨j, 0, none⟩)), (19, .i n)] (obs := [.cell ⟨r, 0, none⟩ (.i n)]) ⟨H.cell 3 rfl rfl, trivial⟩ fun a e => ?_
 obtain ⟨J, O, hm⟩ := bind_some hm;refine WR.eff e rfl rfl rfl rfl (OpTo.fn e rfl rfl Tryz.call219 (pN O H.t2)) ?_;rintro _ w ⟨z, z1, rfl, H⟩ a e;refine WR.e0 e [(9, .i J.1)] fun a e => ?_
 refine Runs.sr ?_;refine WR.d0 e 2 [(21, .pointer (some ⟨j, 0, none⟩)), (22, .slice F Y.length I)] fun a e => ?_
 obtain ⟨X, S, hm⟩ := bind_some hm;replace H := H.t1.t1;refine WR.eff e rfl rfl rfl rfl (OpTo.fn e rfl rfl Tryz.call208 (rD (hX_l := (vj 3 ecI 1 _ _ _)) (hC_l := (H.pk 1 rfl).1) S H)) ?_;rintro _ w ⟨rfl, H⟩ a e;refine WR.e0 e [(6, .i X.1), (7, .i J.1)] fun a e => ?_
 refine Runs.ret e Tryz.func220 rfl rfl ?_;cases hm;exact ⟨z, z1, rfl, H.x3.x2.x1⟩
abbrev cW : List (PK El) := [pO zb.D, pW 1 3, pI .i64]
def C220 (k : Nat) : Con El := zG 220 cW (fun e => xg k e.1.2.2 e.2.1.2.2 e.2.2.1) 1 1 (fun e t j l => .tuple #[.i t.1, .i t.2.1]) (fun e t j l => zb.D.flat e.1.1 (zb.A.mk e.1.2.1.l_b e.1.2.1.l_c (na l 0) (nn j 0) e.1.2.1.m__p) t.2.2)
theorem S220 (k : Nat) : (C220 k).Sound pG := fun e t hm w0 w F x H => by
  obtain ⟨⟨p0, i, x0⟩, ⟨j, l, x1⟩, x2, _⟩ := e;have s : St w0 (zb.R p0 i x0 :: Sl 3 ecI 1 j l x1 :: F) w := by
    refine (fs0 fun As => zb.D_st).2 ?_;exact H
  refine (rK (show xg k x0 x1 x2 = some t from hm) s).mono ?_;rintro v w' ⟨e0, u, hv, H⟩;refine ⟨[u], [e0], rfl, rfl, hv, ?_, fun _ h => by cases h⟩;replace H := (fs0 fun As => zb.D_st).1 H;exact H
def K220 (k : Nat) : SCon El pG := ⟨C220 k, S220 k, Tryz.call220⟩
def C167 (k : Nat) : Con El := zG 167 uG (fun e => uJ k e.1.2.2 e.2.1) 1 1 (fun e t j l => .tuple #[.i t.1, .i t.2.1]) (fun e t j l => zb.D.flat e.1.1 (zb.A.mk e.1.2.1.l_b e.1.2.1.l_c (na l 0) (nn j 0) e.1.2.1.m__p) t.2.2)
theorem S167 (k : Nat) : (C167 k).Sound pG :=
  fsn mixed (C167 k) (n := 26) (rs := rsOf pG 167) [] [0, 1, 2, 3] (gj (g2 (gI 4) (g2 (gI 5) (gO zb.D [0, 1, 2, 3]))) [nq_2]) (fun i => (.g 2 (.join (Bool) 0 0 (gj (gB 14) []) (fun e j l t => ([(14, .bool j)] ++ kp [0, 1] e, ka [0, 1, 2, 3] e)) (.g 5 (.s (.call K217 [.K 0, .K 1, .K 2, .K 3] [0, 1, 2, 3]) (.g 2 .leaf))) (.cond (.g 2 .ret) (.g 2 (.s (.call (K209 k) [.K 0, .K 1, .K 2, .K 3] [4, 0, 1, 2, 3]) (.g 1 (.g 4 (.s (.call (K216 k) [.K 0, .K 1, .K 2, .K 3, .O 4] [0, 1, 2, 3]) (.s (.call (K220 k) ks_4 [0, 1, 2, 3]) (.g 4 .ret))))))))))) Tryz.func167
def K167 (k : Nat) : SCon El pG := ⟨C167 k, S167 k, Tryz.call167⟩
theorem tq {w0 w : World} {As : List HP} {x : Int} {v_ : Int} {r : Nat} {t : Bool}  (hm : vc x v_ = some t) (H : St w0 (Blk r 3 [.i v_] :: As) w) :
    yX pG 255 #[.i x, .pointer (some ⟨r, 0, none⟩)] w fun v w' => v = .bool t /\ St w0 (Blk r 3 [.i v_] :: As) w' := by
 rw [vc] at hm;refine enter (args := [.i x, .pointer (some ⟨r, 0, none⟩)]) Tryz.func255 rfl rfl rfl fun a j => ?_
 refine Runs.sr ?_;refine WR.seg j 1 [] [0, 1] (Lo := [(0, .i x), (1, .pointer (some ⟨r, 0, none⟩))]) (obs := []) rfl (by kernel_rfl) trivial fun a j => ?_
 refine WR.done rfl ?_;refine Runs.sr ?_;refine WR.e j [.i v_] [(3, .bool (x == v_))] (obs := [.cell ⟨r, 0, none⟩ (.i v_)]) ⟨H.cell 0 rfl rfl, trivial⟩ fun a j => ?_
 refine Runs.ret j Tryz.func255 rfl rfl ?_;cases hm;exact ⟨rfl, H⟩
theorem uW {w0 w : World} {As : List HP} {k : Nat} {j : Option Addr} {l : Nat} {s : List Int} {u : HP} {v_ : Int} {r : Nat} {t : Int} (hX_s : SlRd u ecI 1 j s) (hC_s : s.length <= l) (hm : xy k s v_ = some t) (H : St w0 (u :: Blk r 3 [.i v_] :: As) w) :
    yX pG 275 #[.slice j s.length l, .func (.func 255) #[] #[.pointer (some ⟨r, 0, none⟩)]] w fun v w' => v = .i t /\ St w0 (u :: Blk r 3 [.i v_] :: As) w' := by
 rw [xy] at hm;refine enter (args := [.slice j s.length l, .func (.func 255) #[] #[.pointer (some ⟨r, 0, none⟩)]]) Tryz.func275 rfl rfl rfl fun a e => ?_
 refine Runs.sr ?_;refine WR.seg e 1 [] [0, 1] (Lo := [(0, .slice j s.length l), (1, .func (.func 255) #[] #[.pointer (some ⟨r, 0, none⟩)])]) (obs := []) rfl (by kernel_rfl) trivial fun a e => ?_
 refine WR.done rfl ?_;refine Runs.seq ?_;refine Runs.sr ?_;refine WR.e0 e [(7, .i (s.length : Int)), (8, .i 0)] fun a e => ?_
 obtain ⟨s1, y, A⟩ := bind_some hm;refine Runs.join (fun a w => ∃ s2, s1 = Sum.inr s2 /\ zV 19 a [] /\ St w0 (u :: Blk r 3 [.i v_] :: As) w) (fun hk => ?_) ?_
 ·replace hm := y; clear y;refine Runs.block ?_;refine Runs.loop (fun m a w => ∃ (x : Int), zV 19 a [(0, .slice j s.length l), (1, .func (.func 255) #[] #[.pointer (some ⟨r, 0, none⟩)]), (7, .i (s.length : Int)), (8, .i x)] /\ St w0 (u :: Blk r 3 [.i v_] :: As) w /\ zR (s.length : Int) s v_ m x = some s1) k ⟨0, e.sel [0, 1, 7, 8] (by kernel_rfl), H.t1.t1, hm⟩ ?_;rintro m ih a w ⟨x, e, H, hm⟩;cases m with
  | zero => simp [zR] at hm
  | succ m =>
   rw [zR] at hm;refine Runs.sr ?_;refine WR.seg e 1 [] [0, 1, 7, 8, 9] (Lo := [(0, .slice j s.length l), (1, .func (.func 255) #[] #[.pointer (some ⟨r, 0, none⟩)]), (7, .i (s.length : Int)), (8, .i x), (9, .bool (decide (x < (s.length : Int))))]) (obs := []) rfl (by kernel_rfl) trivial fun a e => ?_
   refine WR.done rfl ?_;refine Runs.seq ?_;refine Runs.cond e rfl (fun c => ?_) (fun c => ?_)
   ·replace hm := wh c hm;refine Runs.skip ?_;refine Runs.seq ?_;refine Runs.block ?_;refine Runs.sr ?_;refine WR.e0 e [(5, .i x)] fun a e => ?_
    refine Runs.sr ?_;obtain ⟨x2, z, hm⟩ := bind_some hm;obtain ⟨b, o, hs, D⟩ := SlRd.base hX_s xW H 0 rfl z;refine WR.d e 5 [.pointer (some ⟨b, o, none⟩), .i x2] [(11, .func (.func 255) #[] #[.pointer (some ⟨r, 0, none⟩)]), (15, .i x2)] (obs := [.p ((j : Option Addr) = some ⟨b, o, none⟩), .p (0 <= (x : Int) /\ (x : Int) < ((s.length : Nat) : Int)), .cell ⟨b, o + (Int.toNat x) * 1, none⟩ (.i x2)]) ⟨hs, D, SlRd.cells hX_s xW H 0 rfl hs z 0 _ rfl, trivial⟩ fun a e => ?_
    obtain ⟨t_, B, hm⟩ := bind_some hm;refine WR.eff e rfl rfl rfl rfl (OpTo.fv e rfl rfl rfl Tryz.call255 (tq B H.t1)) ?_;rintro _ w ⟨rfl, H⟩ a e;refine WR.done rfl ?_;refine Runs.cond e rfl (fun c => ?_) (fun c => ?_)
    ·replace hm := wh c hm;refine Runs.sr ?_;refine WR.e0 e [(4, .i x)] fun a e => ?_
     refine Runs.ret e Tryz.func275 rfl rfl ?_;cases hm;dsimp only at A; cases A;exact ⟨rfl, H.t1⟩
    ·replace hm := wg c hm;refine Runs.skip ?_;refine Runs.inBlock ?_;refine Runs.region ?_;refine WR.e0 e [(8, .i (w64 (x + 1)))] fun a e => ?_
     exact ih m (Nat.lt_succ_self m) _ _ ⟨w64 (x + 1), e.sel [0, 1, 7, 8] (by kernel_rfl), H.t1, hm⟩
   ·replace hm := wg c hm;refine Runs.exit rfl ?_;cases hm;exact hk _ _ ⟨_, rfl, e.sel [] (by kernel_rfl), H.t1.t1⟩
 rintro a w ⟨s2, rfl, e, H⟩;replace hm := A; dsimp only at hm;refine Runs.sr ?_;refine WR.seg e 1 [] [4] (Lo := [(4, .i (-1))]) (obs := []) rfl (by kernel_rfl) trivial fun a e => ?_
 refine WR.done rfl ?_;refine Runs.ret e Tryz.func275 rfl rfl ?_;cases hm;exact ⟨rfl, H.t1.t1⟩
theorem uO {w0 w : World} {As : List HP} {k : Nat} {y : Option Addr} {u : Nat} {s : List Int} {v_ : Int} {r : Nat} {t : (List Int)}  (hm : yS k s v_ = some t) (H : St w0 (Sl 3 ecI 1 y u s :: Blk r 3 [.i v_] :: As) w) :
    yX pG 252 #[.slice y s.length u, .func (.func 255) #[] #[.pointer (some ⟨r, 0, none⟩)]] w fun v w' => ∃ (I : Option Addr), ∃ (J : Nat), v = .slice I t.length J /\ St w0 (Sl 3 ecI 1 I J t :: Blk r 3 [.i v_] :: As) w' := by
 rw [yS] at hm;refine enter (args := [.slice y s.length u, .func (.func 255) #[] #[.pointer (some ⟨r, 0, none⟩)]]) Tryz.func252 rfl rfl rfl fun a A => ?_
 refine Runs.sr ?_;refine WR.seg A 1 [] [0, 1] (Lo := [(0, .slice y s.length u), (1, .func (.func 255) #[] #[.pointer (some ⟨r, 0, none⟩)])]) (obs := []) rfl (by kernel_rfl) trivial fun a A => ?_
 refine WR.done rfl ?_;refine Runs.sr ?_;refine WR.d0 A 2 [(8, .slice y s.length u), (9, .func (.func 255) #[] #[.pointer (some ⟨r, 0, none⟩)])] fun a A => ?_
 obtain ⟨t_, Y, hm⟩ := bind_some hm;replace H := H.t1.t1;refine WR.eff A rfl rfl rfl rfl (OpTo.fn A rfl rfl Tryz.call275 (uW (hX_s := (vj 3 ecI 1 _ _ _)) (hC_s := (H.pk 0 rfl).1) Y H)) ?_;rintro _ w ⟨rfl, H⟩ a A;refine WR.e0 A [(5, .i t_)] fun a A => ?_
 refine Runs.seq ?_;refine Runs.sr ?_;refine WR.e0 A [(12, .bool (t_ == (-1)))] fun a A => ?_
 refine Runs.cond A rfl (fun c => ?_) (fun c => ?_)
 ·replace hm := wh c hm;refine Runs.sr ?_;refine WR.e0 A [(4, .slice y s.length u)] fun a A => ?_
  refine Runs.ret A Tryz.func252 rfl rfl ?_;cases hm;exact ⟨y, u, rfl, H.t1.t1⟩
 ·replace hm := wg c hm;refine Runs.skip ?_;refine Runs.seq ?_;refine Runs.sr ?_;refine WR.e0 A [(6, .i (w64 (t_ + 1)))] fun a A => ?_
  obtain ⟨s1, O, hm⟩ := bind_some hm;refine Runs.join (fun a w => zV 42 a [(0, .slice y s1.2.length u), (5, .i s1.1)] /\ St w0 (Sl 3 ecI 1 y u s1.2 :: Blk r 3 [.i v_] :: As) w) (fun hk => ?_) ?_
  ·replace hm := O; clear O;refine Runs.block ?_;refine Runs.loop (fun m a w => ∃ (i : Int), ∃ (j : Int), ∃ (m_ : List Int), zV 42 a [(0, .slice y m_.length u), (1, .func (.func 255) #[] #[.pointer (some ⟨r, 0, none⟩)]), (5, .i i), (6, .i j)] /\ St w0 (Sl 3 ecI 1 y u m_ :: Blk r 3 [.i v_] :: As) w /\ zZ v_ m i j m_ = some s1) k ⟨t_, w64 (t_ + 1), s, A.sel [0, 1, 5, 6] (by kernel_rfl), H.t1.t1, hm⟩ ?_;rintro m ih a w ⟨i, j, m_, A, H, hm⟩;cases m with
   | zero => simp [zZ] at hm
   | succ m =>
    rw [zZ] at hm;refine Runs.seq ?_;refine Runs.sr ?_;refine WR.seg A 4 [] [0, 1, 5, 6, 19] (Lo := [(0, .slice y m_.length u), (1, .func (.func 255) #[] #[.pointer (some ⟨r, 0, none⟩)]), (5, .i i), (6, .i j), (19, .bool (decide (j < (m_.length : Int))))]) (obs := []) rfl (by kernel_rfl) trivial fun a A => ?_
    refine WR.done rfl ?_;refine Runs.cond A rfl (fun c => ?_) (fun c => ?_)
    ·replace hm := wh c hm;refine Runs.skip ?_;refine Runs.seq ?_;obtain ⟨s2, S, hm⟩ := bind_some hm;refine Runs.join (fun a w => zV 42 a [(0, .slice y s2.2.length u), (1, .func (.func 255) #[] #[.pointer (some ⟨r, 0, none⟩)]), (5, .i s2.1), (6, .i j)] /\ St w0 (Sl 3 ecI 1 y u s2.2 :: Blk r 3 [.i v_] :: As) w) (fun hk => ?_) ?_
     ·replace hm := S; clear S;refine Runs.block ?_;refine Runs.sr ?_;obtain ⟨x, ex, hm⟩ := bind_some hm;obtain ⟨b, o, hs, hb⟩ := SlRd.base (vj 3 ecI 1 _ _ _) xW H 0 rfl ex;refine WR.e A [.pointer (some ⟨b, o, none⟩), .i x] [(7, .i x)] (obs := [.p ((y : Option Addr) = some ⟨b, o, none⟩), .p (0 <= (j : Int) /\ (j : Int) < ((m_.length : Nat) : Int)), .cell ⟨b, o + (Int.toNat j) * 1, none⟩ (.i x)]) ⟨hs, hb, SlRd.cells (vj 3 ecI 1 _ _ _) xW H 0 rfl hs ex 0 _ rfl, trivial⟩ fun a A => ?_
      refine Runs.sr ?_;refine WR.d0 A 2 [(26, .func (.func 255) #[] #[.pointer (some ⟨r, 0, none⟩)]), (27, .i x)] fun a A => ?_
      obtain ⟨Z, U, hm⟩ := bind_some hm;refine WR.eff A rfl rfl rfl rfl (OpTo.fv A rfl rfl rfl Tryz.call255 (tq U H.t1)) ?_;rintro _ w ⟨rfl, H⟩ a A;refine WR.e0 A [(29, .bool (!Z))] fun a A => ?_
      refine Runs.cond A rfl (fun c => ?_) (fun c => ?_)
      ·replace hm := wh c hm;refine Runs.sr ?_;obtain ⟨x1, W, hm⟩ := bind_some hm;obtain ⟨b1, o1, X, a2⟩ := SlRd.base (vj 3 ecI 1 _ _ _) xW H 1 rfl W;refine WR.d A 4 [.pointer (some ⟨b1, o1, none⟩)] [(32, .i x), (33, .pointer (some ⟨b1, o1 + (Int.toNat i) * 1, none⟩))] (obs := [.p ((y : Option Addr) = some ⟨b1, o1, none⟩), .p (0 <= (i : Int) /\ (i : Int) < ((m_.length : Nat) : Int))]) ⟨X, a2, trivial⟩ fun a A => ?_
       refine WR.eff0 A rfl rfl rfl (OpTo.me (q := 0) (x' := x) A H.t1 xW rfl X W rfl rfl rfl rfl rfl (Nat.le_of_ble_eq_true rfl) rfl) ?_;rintro _ w H a A
       try rw [<- pH m_ i x] at A
       refine WR.done rfl ?_;refine Runs.region ?_;refine WR.seg A 3 [] [0, 1, 5, 6] (Lo := [(0, .slice y ((mSet m_ i x).length) u), (1, .func (.func 255) #[] #[.pointer (some ⟨r, 0, none⟩)]), (5, .i (w64 (i + 1))), (6, .i j)]) (obs := []) rfl (by kernel_rfl) trivial fun a A => ?_
       refine WR.done rfl ?_;refine Runs.inBlock ?_;cases hm;exact hk _ _ ⟨A.sel [0, 1, 5, 6] (by kernel_rfl), H.t1.t1⟩
      ·replace hm := wg c hm;refine Runs.skip ?_;refine Runs.inBlock ?_;cases hm;exact hk _ _ ⟨A.sel [0, 1, 5, 6] (by kernel_rfl), H.t1⟩
     rintro a w ⟨A, H⟩;refine Runs.region ?_;refine WR.seg A 3 [] [0, 1, 5, 6] (Lo := [(0, .slice y s2.2.length u), (1, .func (.func 255) #[] #[.pointer (some ⟨r, 0, none⟩)]), (5, .i s2.1), (6, .i (w64 (j + 1)))]) (obs := []) rfl (by kernel_rfl) trivial fun a A => ?_
     refine WR.done rfl ?_;exact ih m (Nat.lt_succ_self m) _ _ ⟨s2.1, w64 (j + 1), s2.2, A.sel [0, 1, 5, 6] (by kernel_rfl), H.t1.t1, hm⟩
    ·replace hm := wg c hm;refine Runs.exit rfl ?_;cases hm;exact hk _ _ ⟨A.sel [0, 5] (by kernel_rfl), H.t1.t1⟩
  rintro a w ⟨A, H⟩;refine Runs.sr ?_;obtain ⟨l, el, hm⟩ := bind_some hm;obtain ⟨sb, q⟩ : ∃ z, ym y u (Int.toNat s1.1) 1 = z := ⟨_, rfl⟩
  obtain ⟨sc, q1⟩ : ∃ z, u - (Int.toNat s1.1) = z := ⟨_, rfl⟩
  refine WR.seg A 3 [.slice sb l.length sc] [0, 5, 38] (Lo := [(0, .slice y s1.2.length u), (5, .i s1.1), (38, .slice sb l.length sc)]) (obs := [.p (ym y u (Int.toNat s1.1) 1 = sb), .p (s1.2.length - (Int.toNat s1.1) = l.length), .p (u - (Int.toNat s1.1) = sc), .p (0 <= (s1.1 : Int) /\ (s1.1 : Int) <= ((s1.2.length : Nat) : Int))]) rfl (by kernel_rfl) ⟨q, s6 el, q1, nU el, trivial⟩ fun a A => ?_
  refine WR.eff0 A rfl rfl rfl (OpTo.gD (z := 0) A H xW el q q1 rfl rfl rfl rfl rfl rfl) ?_;rintro _ w ⟨_, H⟩ a A
  try rw [<- qH (z := 0) el] at A
  refine WR.done rfl ?_;refine Runs.sr ?_;obtain ⟨l1, F, hm⟩ := bind_some hm;obtain ⟨B, q2⟩ : ∃ z, ym y u (Int.toNat 0) 1 = z := ⟨_, rfl⟩
  obtain ⟨D, q3⟩ : ∃ z, u - (Int.toNat 0) = z := ⟨_, rfl⟩
  refine WR.seg A 4 [.slice B l1.length D] [4] (Lo := [(4, .slice B l1.length D)]) (obs := [.p (ym y u 0 1 = B), .p ((Int.toNat s1.1) - 0 = l1.length), .p (u - 0 = D), .p (0 <= (s1.1 : Int) /\ (s1.1 : Int) <= ((u : Nat) : Int))]) rfl (by kernel_rfl) ⟨q2, s6 F, q3, mz F (H.pk 0 rfl).1, trivial⟩ fun a A => ?_
  refine WR.done rfl ?_;replace H := H.fl xW F q2 q3;refine Runs.ret A Tryz.func252 rfl rfl ?_;cases hm;exact ⟨B, D, rfl, H.t1.t1⟩
end Go.Proofs.YteflmnbkdhneiaaGreat
end
