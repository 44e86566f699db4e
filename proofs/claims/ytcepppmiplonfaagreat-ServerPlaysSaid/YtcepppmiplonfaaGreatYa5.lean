/-
  The statements ServerPlays of the program.
  Text 5 of 10: of what the proof needs (a row of the program: no condition is left); put together and made narrow by a program.
-/
import Derived.Shelf.Slices.In.SortNone
import Derived.Shelf.Sort.Plain
import Derived.Test.YtcepppmiplonfaaGreatProg
import Derived.Test.YtcepppmiplonfaaGreatYa4
set_option linter.unusedVariables false
set_option linter.unusedSimpArgs false
namespace Go.Th
noncomputable section
section
variable {E : Ev} {P : Program} {f : FuncId} {n : Nat} {R0 : Type} {retF : Kn E -> VC R0}
theorem oQ {t : Nat} {b : Bool} {L : Env} {n : Nat} {a : Act} (e : zN n a L) (h : look t L = some (.bool b)) : zN n a ((t,.bool b) :: L) := by
 refine ⟨e.size,e.defers,fun u v hv => ?_⟩;rw [vv] at hv;split at hv
 ·subst_vars; cases hv; exact e.has _ _ h
 ·exact e.has _ _ hv
theorem bB.kn {w0 w : World} {F : List HP} {st : Kn E} {a : Act} {L : Env} {As : List (Nat × Atom E)} (h : bB F st) (e : zN n a L) (j : St w0 (dens As ++ F) w) : KnOk n w0 F ⟨L,As,st.rd,st.ef,st.pr,st.vw⟩ a w := ⟨e,j,h.1,h.2,h.3,h.4⟩
theorem Md.qJ {md e : Md} {rest base : List Item} {a : Act} {w : World} {Q : Value -> World -> Prop} (h : md.cut = some (e,rest)) (hr : e.Runs P f (rest ++ base) a w Q) : md.Runs P f base a w Q := by
 cases md with
 | run t =>
  cases t with
  | nil => cases h
  | cons x t =>
   simp only [Md.cut,Option.some.injEq,Prod.mk.injEq] at h;obtain ⟨rfl,rfl⟩ := h;exact hr
 | reg ops i k =>
  simp only [Md.cut,Option.some.injEq,Prod.mk.injEq] at h;obtain ⟨rfl,rfl⟩ := h;exact hr
 | drw ops dn pend k =>
  simp only [Md.cut,Option.some.injEq,Prod.mk.injEq] at h;obtain ⟨rfl,rfl⟩ := h;exact hr
theorem ra {R : Type} {ops : Array Oper} {dn : List Nat} {pend : List (Nat × List Ob)} {k base : List Item} {K : Md -> VC R} {Φ : R -> Prop} {a : Act} {w : World} {Q : Value -> World -> Prop} (h : (onD ops dn pend k K).ok Φ)
  (hk : ∀ md,(K md).ok Φ -> md.Runs P f base a w Q) : WQ P f ops dn pend (k ++ base) a w Q := by
 unfold onD at h;split at h
 ·split at h
  ·rename_i h1;obtain ⟨md,hm,h2⟩ := pJ h;exact WQ.done h1 (yV 1000 hm (hk md h2))
  ·exact (VC.zy h).elim
 ·exact hk _ h
theorem kK (c1 : P.follows .mixedOrders = true) {w0 : World} {F : List HP} {Q : Value -> World -> Prop} {Tg : R0 -> Prop} (b1 : ∀ st a w k,KnOk n w0 F st a w -> (retF st).ok Tg -> Runs P f (.code .ret :: k) a w Q) :
  ∀ (ct : Ct E P f n R0 retF) {R : Type} (md : Md) (base : List Item) (st : Kn E) (I : R0 -> VC R) (D : Kn E -> VC R) (A : Code -> Nat -> Kn E -> VC R) (Φ : R -> Prop) (a : Act) (w : World),KnOk n w0 F st a w ->
   (exec ct md st I D A).ok Φ -> (∀ r,(I r).ok Φ -> Tg r) -> (∀ S a' w',KnOk n w0 F S a' w' -> (D S).ok Φ -> Runs P f base a' w' Q) ->
   (∀ c id S a' w',KnOk n w0 F S a' w' -> (A c id S).ok Φ -> Runs P f (.inLoop c :: .inBlock id :: base) a' w' Q) -> md.Runs P f base a w Q := by
 intro ct;induction ct with
 | leaf =>
  intro R md base st I D A Φ a w O h hV Y X;simp only [exec] at h;split at h
  ·exact Y _ _ _ O h
  ·exact (VC.zy h).elim
 | s x c ih =>
  intro R md base st I D A Φ a w O h hV Y X;simp only [exec] at h;split at h
  ·rename_i ops i k;refine fk O h fun i' S a' w' U h' => ?_
   split at h'
   ·rename_i hi;obtain ⟨W,hm,h2⟩ := pJ h';exact WR.done hi (yV 1000 hm (ih _ _ _ _ _ _ _ _ _ U h2 hV Y X))
   ·exact ih (.reg ops i' k) base S I D A Φ a' w' U h' hV Y X
  ·rename_i ops dn pend k;obtain ⟨S,U,h'⟩ := xF O h;exact ih (.drw ops dn pend k) base S I D A Φ a w U h' hV Y X
  ·rename_i t;obtain ⟨S,U,h'⟩ := xF O h;exact ih (.run t) base S I D A Φ a w U h' hV Y X
 | dead =>
  intro R md base st I D A Φ a w O h hV Y X;simp only [exec] at h;exact (VC.zy h).elim
 | rk l c ih =>
  intro R md base st I D A Φ a w O h hV Y X;simp only [exec] at h;exact ih md base ⟨st.L,renK l st.As,st.rd,st.ef,st.pr,st.vw⟩ I D A Φ a w ⟨O.env,by rw [iJ]; exact O.hp,O.fs.1,O.fs.2,O.fs.3,O.fs.4⟩ h hV Y X
 | drw c ih =>
  intro R md base st I D A Φ a w O h hV Y X;simp only [exec] at h;split at h
  ·rename_i id ops k;split at h
   ·rename_i hr;exact Runs.drawn c1 hr (ih (.drw ops [] [] k) base st I D A Φ a _ ⟨O.env,O.hp.drew,O.fs.1,O.fs.2,O.fs.3,O.fs.4⟩ h hV Y X)
   ·exact (VC.zy h).elim
  ·exact (VC.zy h).elim
 | q is l c ih =>
  intro R md base st I D A Φ a w O h hV Y X;simp only [exec] at h;split at h
  ·refine fj O h fun a7 a0 S a' U h' => ?_
   exact ra h' fun W h2 => ih W base S I D A Φ a' w U h2 hV Y X
  ·exact (VC.zy h).elim
 | a j x l c ih =>
  intro R md base st I D A Φ a w O h hV Y X;simp only [exec] at h;split at h
  ·refine fi O h fun a7 a0 S a' w' U h' => ?_
   exact ra h' fun W h2 => ih W base S I D A Φ a' w' U h2 hV Y X
  ·exact (VC.zy h).elim
 | cond x y Z a4 =>
  intro R md base st I D A Φ a w O h hV Y X;simp only [exec] at h;split at h
  ·rename_i c u v k;split at h
   ·rename_i b hc;refine Runs.cond O.env hc (fun hb => ?_) (fun hb => ?_)
    ·obtain ⟨W,hm,h2⟩ := pJ (h.1 hb);exact yV 1000 hm (Z _ _ _ _ _ _ _ _ _ O h2 hV Y X)
    ·obtain ⟨W,hm,h2⟩ := pJ (h.2 hb);exact yV 1000 hm (a4 _ _ _ _ _ _ _ _ _ O h2 hV Y X)
   ·exact (VC.zy h).elim
  ·exact (VC.zy h).elim
 | rI x Z =>
  intro R md base st I D A Φ a w O h hV Y X;simp only [exec] at h;split at h
  ·rename_i c u v k;split at h
   ·rename_i hc;obtain ⟨W,hm,h2⟩ := pJ h;exact Runs.rI O.env hc (yV 1000 hm (Z _ _ _ _ _ _ _ _ _ O h2 hV Y X))
   ·exact (VC.zy h).elim
  ·exact (VC.zy h).elim
 | tg x Z =>
  intro R md base st I D A Φ a w O h hV Y X;simp only [exec] at h;split at h
  ·rename_i c u v k;split at h
   ·rename_i hc;obtain ⟨W,hm,h2⟩ := pJ h;exact Runs.tg O.env hc (yV 1000 hm (Z _ _ _ _ _ _ _ _ _ O h2 hV Y X))
   ·exact (VC.zy h).elim
  ·exact (VC.zy h).elim
 | split t x y Z a4 =>
  intro R md base st I D A Φ a w O h hV Y X;simp only [exec] at h;split at h
  ·rename_i b hb;cases b with
   | true => exact Z _ _ _ _ _ _ _ _ _ (O.fs.kn (oQ O.env hb) O.hp) (h.1 rfl) hV Y X
   | false => exact a4 _ _ _ _ _ _ _ _ _ (O.fs.kn (oQ O.env hb) O.hp) (h.2 rfl) hV Y X
  ·exact (VC.zy h).elim
 | join T nN nA get J x k Z a3 =>
  intro R md base st I D A Φ a w O h hV Y X;simp only [exec] at h;split at h
  ·rename_i b4 rest hc;refine Md.qJ hc (Z _ _ _ _ _ _ _ _ _ O h (fun r hr => (VC.zy hr).elim) (fun S a' w' U hl => ?_) (fun c id S a' w' _ hb => (VC.zy hb).elim));split at hl
   ·rename_i s ns aS hg;split at hl
    ·rename_i h1 h2;obtain ⟨h3,h4,y,hy,h5⟩ := tH U hl;cases hy;rw [<- Nat.eq_of_beq_eq_true h1] at h5;have h6 := nD _ _ h5;rw [<- Nat.eq_of_beq_eq_true h2] at h6;obtain ⟨W,hm,h8⟩ := pJ (nC _ _ h6);exact yV 1000 hm (a3 _ _ _ _ _ _ _ _ _ (O.fs.kn h3 h4) h8 hV Y X)
    ·exact (VC.zy hl).elim
   ·exact (VC.zy hl).elim
  ·exact (VC.zy h).elim
 | joinR T nN nA get J x k Z a3 =>
  intro R md base st I D A Φ a w O h hV Y X;simp only [exec] at h;split at h
  ·rename_i b4 rest hc;refine Md.qJ hc (Z _ _ _ _ _ _ _ _ _ O h (fun r hr => ?_) (fun S a' w' U hl => ?_) (fun c id S a' w' _ hb => (VC.zy hb).elim))
   ·obtain ⟨y,hy,h2⟩ := hr;cases hy;exact hV r (h2.1 r rfl)
   ·split at hl
    ·rename_i s ns aS hg;split at hl
     ·rename_i h1 h2;obtain ⟨h3,h4,y,hy,h5⟩ := tH U hl;cases hy;have h5 := h5.2 s rfl;rw [<- Nat.eq_of_beq_eq_true h1] at h5;have h6 := nD _ _ h5;rw [<- Nat.eq_of_beq_eq_true h2] at h6;obtain ⟨W,hm,h8⟩ := pJ (nC _ _ h6);exact yV 1000 hm (a3 _ _ _ _ _ _ _ _ _ (O.fs.kn h3 h4) h8 hV Y X)
     ·exact (VC.zy hl).elim
    ·exact (VC.zy hl).elim
  ·exact (VC.zy h).elim
 | loop B get k a3 =>
  intro R md base st I D A Φ a w O h hV Y X;simp only [exec] at h;split at h
  ·rename_i c rest;split at h
   ·rename_i x v ns aS hg;split at h
    ·rename_i rs c3;obtain ⟨rfl,h2,h3⟩ := h;obtain ⟨h4,h5,t,ht,h6⟩ := tH O h3;refine B.snd Q w0 F x v t ns aS a w (rest ++ base) ht ⟨h4,h5,?_,by simp,by simp,by simp⟩ ?_ ?_
     ·intro p hp;have h7 : p.2 ∈ rs := by rw [h2]; exact List.mem_map_of_mem hp
      obtain ⟨j,hj⟩ := ik c3 _ h7;have := O.fs.1 (j,p.2) hj;exact this
     ·intro u hu c9 c5 a' w' hn ha hE hH;have b5 := h6.2 u hu;rw [<- hn] at b5;have h7 := nD _ _ b5;rw [<- ha] at h7;obtain ⟨W,hm,h8⟩ := pJ (nC _ _ h7);exact yV 1000 hm (a3 _ _ _ _ _ _ _ _ _ (O.fs.kn hE hH) h8 hV Y X)
     ·intro r hr S a' w' k' U c2;have e := hV r (h6.1 r hr);exact b1 _ _ _ _ U (VC.mono _ (fun r' h => by subst h; exact e) c2)
    ·exact (VC.zy h).elim
   ·exact (VC.zy h).elim
  ·exact (VC.zy h).elim
 | blk c ih =>
  intro R md base st I D A Φ a w O h hV Y X;simp only [exec] at h;split at h
  ·obtain ⟨W,hm,h2⟩ := pJ h;exact Runs.block (yV 1000 hm (ih _ _ _ _ _ _ _ _ _ O h2 hV Y X))
  ·exact (VC.zy h).elim
 | unr c ih =>
  intro R md base st I D A Φ a w O h hV Y X;simp only [exec] at h;split at h
  ·obtain ⟨W,hm,h2⟩ := pJ h;exact Runs.block (Runs.aP (yV 1000 hm (ih _ _ _ _ _ _ _ _ _ O h2 hV Y X)))
  ·obtain ⟨W,hm,h2⟩ := pJ h;exact Runs.inLoop (yV 1000 hm (ih _ _ _ _ _ _ _ _ _ O h2 hV Y X))
  ·exact (VC.zy h).elim
 | alt2 i x l c j y l' c' b2 b3 =>
  intro R md base st I D A Φ a w O h hV Y X;simp only [exec] at h;split at h
  ·split at h
   ·rename_i hr;refine WQ.act2 i j hr ?_ ?_
    ·refine tJ O h.1 fun a7 a0 S a' w' U h' => ?_
     exact ra h' fun W h2 => b2 W base S I D A Φ a' w' U h2 hV Y X
    ·refine tJ O (h.2 rfl) fun a7 a0 S a' w' U h' => ?_
     exact ra h' fun W h2 => b3 W base S I D A Φ a' w' U h2 hV Y X
   ·exact (VC.zy h).elim
  ·exact (VC.zy h).elim
 | alt3 i x l c j y l' c' m z l'' c'' b2 b3 c4 =>
  intro R md base st I D A Φ a w O h hV Y X;simp only [exec] at h;split at h
  ·split at h
   ·rename_i hr;refine WQ.act3 i j m hr ?_ ?_ ?_
    ·refine tJ O h.1 fun a7 a0 S a' w' U h' => ?_
     exact ra h' fun W h2 => b2 W base S I D A Φ a' w' U h2 hV Y X
    ·refine tJ O ((h.2 rfl).1) fun a7 a0 S a' w' U h' => ?_
     exact ra h' fun W h2 => b3 W base S I D A Φ a' w' U h2 hV Y X
    ·refine tJ O ((h.2 rfl).2 rfl) fun a7 a0 S a' w' U h' => ?_
     exact ra h' fun W h2 => c4 W base S I D A Φ a' w' U h2 hV Y X
   ·exact (VC.zy h).elim
  ·exact (VC.zy h).elim
 | jg T nN nA get J x k Z a3 =>
  intro R md base st I D A Φ a w O h hV Y X;simp only [exec] at h;split at h
  ·rename_i b4 rest hc;refine Md.qJ hc (Z _ _ _ _ _ _ _ _ _ O h (fun r hr => (VC.zy hr).elim) (fun S a' w' U hl => ?_) (fun c id S a' w' _ hb => (VC.zy hb).elim));split at hl
   ·rename_i s ns aS hg;split at hl
    ·rename_i h1 h2;obtain ⟨h3,h4,y,hy,h5⟩ := tH U hl;cases hy;rw [<- Nat.eq_of_beq_eq_true h1] at h5;have h6 := nD _ _ h5;rw [<- Nat.eq_of_beq_eq_true h2] at h6;obtain ⟨W,hm,h8⟩ := pJ (nC _ _ h6);exact yV 1000 hm (a3 _ _ _ _ _ _ _ _ _ (O.fs.kn h3 h4) h8 hV Y X)
    ·exact (VC.zy hl).elim
   ·exact (VC.zy hl).elim
  ·exact (VC.zy h).elim
 | pj t T M get J x y k Z a4 a3 =>
  intro R md base st I D A Φ a w O h hV Y X;simp only [exec] at h;split at h
  ·rename_i b4 rest b hc hb;have fin : ∀ (S : Kn E) (a' : Act) (w' : World),KnOk n w0 F S a' w' -> ((match get S with
     | some s => reqS (J st s).1 (J st s).2 S (.ret (some s))
     | none => .fail : VC T)).ok (fun s => (nx (norm 1000 rest) fun W => exec k W ⟨(J st s).1,(J st s).2,st.rd,st.ef,st.pr,st.vw⟩ I D A).ok Φ) -> Runs P f (rest ++ base) a' w' Q := by
    intro S a' w' U hl;split at hl
    ·rename_i s hg;obtain ⟨h3,h4,y,hy,h5⟩ := tH U hl;cases hy;obtain ⟨W,hm,h8⟩ := pJ h5;exact yV 1000 hm (a3 _ _ _ _ _ _ _ _ _ (O.fs.kn h3 h4) h8 hV Y X)
    ·exact (VC.zy hl).elim
   cases b with
   | true => exact Md.qJ hc (Z _ _ _ _ _ _ _ _ _ (O.fs.kn (oQ O.env hb) O.hp) (h.1 rfl) (fun r hr => (VC.zy hr).elim) fin (fun c id S a' w' _ hb => (VC.zy hb).elim))
   | false => exact Md.qJ hc (a4 _ _ _ _ _ _ _ _ _ (O.fs.kn (oQ O.env hb) O.hp) (h.2 rfl) (fun r hr => (VC.zy hr).elim) fin (fun c id S a' w' _ hb => (VC.zy hb).elim))
  ·exact (VC.zy h).elim
 | eo t j q e x y Z a4 =>
  intro R md base st I D A Φ a w O h hV Y X;simp only [exec] at h;obtain ⟨S,U,h' | h'⟩ := dX O h
  ·exact Z _ _ _ _ _ _ _ _ _ U h' hV Y X
  ·exact a4 _ _ _ _ _ _ _ _ _ U h' hV Y X
 | np t j x y Z a4 =>
  intro R md base st I D A Φ a w O h hV Y X;simp only [exec] at h;split at h
  ·split at h
   ·exact Z _ _ _ _ _ _ _ _ _ O h hV Y X
   ·exact a4 _ _ _ _ _ _ _ _ _ O h hV Y X
   ·exact (VC.zy h).elim
  ·exact (VC.zy h).elim
 | ret =>
  intro R md base st I D A Φ a w O h hV Y X;simp only [exec] at h;split at h
  ·exact b1 _ _ _ _ O (VC.mono _ hV h)
  ·exact (VC.zy h).elim
 | back =>
  intro R md base st I D A Φ a w O h hV Y X;simp only [exec] at h;split at h
  ·exact X _ _ _ _ _ O h
  ·exact (VC.zy h).elim
def zipN {α : Type} : Nat -> List α -> List (Nat × α)
 | _,[] => []
 | i,x :: r => (i,x) :: zipN (i + 1) r
theorem jR {α : Type} : ∀ (i : Nat) (l : List α),(zipN i l).map (·.2) = l
 | _,[] => rfl
 | i,x :: r => by simp [zipN,jR (i + 1) r]
def fx79 : List (Nat × Prop) -> List Prop
 | [] => []
 | (k,p) :: r => match Nat.beq k 79 with
  | true => p :: fx79 r
  | false => fx79 r
theorem cg : ∀ {l : List (Nat × Prop)},(∀ p ∈ l,p.2) -> ∀ p ∈ fx79 l,p
 | [],_,p,hp => by cases hp
 | (k,q) :: r,h,p,hp => by
  have ih := cg (l := r) fun x e => h x (mC _ e)
  unfold fx79 at hp;split at hp
  ·cases hp with
   | head => exact h (k,q) (List.mem_cons_self ..)
   | tail _ hm => exact ih p hm
  ·exact ih p hp
def retC (P : Program) (C : Con E) (rs : List ResultVar) (src : List Src) (keys : List Nat) (out : Kn E -> Option (C.T × List Nat × List (Option Addr))) (i : C.I) (st : Kn E) : VC C.T :=
 match out st with
 | some (t,u,j) => match Nat.beq u.length C.nN,Nat.beq j.length C.nA,srcs st src,iE (C.C6 i t keys) st.As with
  | true,true,some (x,obs,eqs),some (ats,_) => match pQ P st.L rs x with
   | some (vs,e) => .req e obs (.req (eqs.map (·.1)) (eqs.map (·.2)) (.req (sa vs) (C.valA i t u j) (.req ats (C.gS i t u j) (.req (C.fx i t) (fx79 st.pr) (.ret (some t))))))
   | none => .fail
  | _,_,_,_ => .fail
 | none => .fail
def st0 (C : Con E) (i : C.I) : Kn E := ⟨nv 0 (C.args i),zipN 0 (C.ats i),zipN 0 (C.rds i),[],[],[]⟩
def vcF {P : Program} {n : Nat} (C : Con E) (c : Code) (rs : List ResultVar) (src : List Src) (keys : List Nat) (out : Kn E -> Option (C.T × List Nat × List (Option Addr))) (i : C.I) (e : Ct E P C.fid n C.T (retC P C rs src keys out i)) : VC C.T :=
 nx (norm 1000 [.code c]) fun md => exec e md (st0 C i) (fun t => .ret (some t)) (fun st => match rs with
  | [] => .join (retC P C rs src keys out i st) fun t => .ret (some t)
  | _ => .fail) fun _ _ _ => .fail
theorem kV {C : Con E} {rs : List ResultVar} {src : List Src} {keys : List Nat} {out : Kn E -> Option (C.T × List Nat × List (Option Addr))} {i : C.I} {st : Kn E} {n : Nat} {w0 w : World} {F : List HP} {a : Act} {t : C.T}
  (z : KnOk n w0 F st a w) (h : (retC P C rs src keys out i st).ok (· = t)) : ∃ u obs vs j e,wc w obs /\ pQ P st.L rs u = some (vs,obs) /\ j.length = C.nN /\ e.length = C.nA /\ sa vs = C.valA i t j e /\ St w0 ((C.gS i t j e).map Atom.den ++ F) w /\ ∀ p ∈ C.fx i t,p := by
 unfold retC at h;split at h
 ·rename_i B j e Y;split at h
  ·rename_i u obs eqs ats rest h1 h2 h3 h4;split at h
   ·rename_i vs A J;obtain ⟨rfl,O,S,U,x,y,X,W⟩ := h;cases X;subst W;refine ⟨u,_,vs,j,e,sL z h3 (kH O),J,Nat.eq_of_beq_eq_true h1,Nat.eq_of_beq_eq_true h2,S,?_,by rw [x]; exact cg z.fs.3⟩;have H := z.hp.perm ((nt h4).append_right F);rw [aA,U] at H;have D := H.perm (show ((C.gS i B j e).map Atom.den ++ (dens rest ++ F)).Perm (dens rest ++ ((C.gS i B j e).map Atom.den ++ F)) by
     rw [<- aA,<- aA];exact List.Perm.append_right F List.perm_append_comm)
    exact D.AG
   ·exact (VC.zy h).elim
  ·exact (VC.zy h).elim
 ·exact (VC.zy h).elim
theorem fH (X : P.follows .mixedOrders = true) (C : Con E) {fn : Func} {c : Code} {n : Nat} {rs : List ResultVar} (src : List Src) (keys : List Nat) (out : Kn E -> Option (C.T × List Nat × List (Option Addr))) (I : ∀ i,Ct E P C.fid n C.T (retC P C rs src keys out i))
  (hf : P.funcs[C.fid]? = some fn) (U : fn.body = some c) (hn : fn.ntmps = n) (hr : fn.results = rs.toArray) (hl : ∀ i,Nat.ble (C.args i).length n = true)
  (h1 : ∀ i,vcF C c rs src keys out i (I i) = (vcF C c rs src keys out i (I i)).rfx) (h2 : ∀ i s,(vcF C c rs src keys out i (I i)).mod s = C.model i) : C.Sound P := by
 intro i t hm w0 w F Z H;refine enter hf U hn (hl i) fun a hE => ?_
 have Y := VC.good _ (· = t) (h1 i) fun s => ⟨t,(h2 i s).trans hm,rfl⟩
 obtain ⟨md,W,h3⟩ := pJ Y;have J : KnOk n w0 F (st0 C i) a w := by
  refine ⟨hE,?_,?_,by simp [st0],by simp [st0],by simp [st0]⟩
  ·simpa [st0,dens,jR] using H
  ·intro p hp;refine Z p.2 ?_;have : p.2 ∈ (zipN 0 (C.rds i)).map (·.2) := List.mem_map_of_mem hp
   rwa [jR] at this
 have := yV (P := P) (f := C.fid) (a := a) (w := w) (base := []) (Q := fun v w' => ∃ A j,A.length = C.nN /\ j.length = C.nA /\ v = C.valA i t A j /\ St w0 ((C.gS i t A j).map Atom.den ++ F) w' /\ ∀ p ∈ C.fx i t,p) 1000 W
  (kK X (Tg := (· = t)) (fun st a w k J h => by
    obtain ⟨D,obs,vs,A,j,ho,hv,z,u,O,S,x⟩ := kV J h;exact Runs.retO J.env hf hr D hv ho ⟨A,j,z,u,O,S,x⟩) (I i) md [] (st0 C i) _ _ _ _ a w J h3 (fun r hr => by obtain ⟨y,hy,h⟩ := hr; cases hy; exact h) (fun a1 a' w' B hl => by
    split at hl
    ·obtain ⟨D,obs,vs,A,j,ho,hv,z,u,O,S,x⟩ := kV B (VC.mono _ (fun r hr => by obtain ⟨y,hy,h⟩ := hr; cases hy; exact h) hl);have e : vs = [] := by
      simp only [pQ,Option.some.injEq,Prod.mk.injEq] at hv;exact hv.1.symm
     subst e;exact Runs.fin B.env hf hr (vs := []) rfl ⟨A,j,z,u,O,S,x⟩
    ·exact (VC.zy hl).elim) (fun c id a1 a' w' _ U => (VC.zy U).elim))
 simpa using this
theorem fsn (j : P.follows .mixedOrders = true) (C : Con E) {fn : Func} {c : Code} {n : Nat} {rs : List ResultVar} (src : List Src) (keys : List Nat) (out : Kn E -> Option (C.T × List Nat × List (Option Addr))) (e : ∀ i,Ct E P C.fid n C.T (retC P C rs src keys out i))
  (hf : P.funcs[C.fid]? = some fn) (t : fn.body = some c := by rfl) (hn : fn.ntmps = n := by rfl) (hr : fn.results = rs.toArray := by kernel_rfl) (hl : ∀ i,Nat.ble (C.args i).length n = true := by intro _; rfl)
  (h1 : ∀ i,vcF C c rs src keys out i (e i) = (vcF C c rs src keys out i (e i)).rfx := by intro i; kernel_rfl) (h2 : ∀ i s,(vcF C c rs src keys out i (e i)).mod s = C.model i := by intro i s; kernel_rfl) : C.Sound P := fH j C src keys out e hf t hn hr hl h1 h2
def vcL {P : Program} {f : FuncId} {n : Nat} {R0 : Type} {retF : Kn E -> VC R0} (B : BCon E R0) (body : Code) (id : Nat) (G : Nat -> B.X -> B.V -> Option B.W) (inl : R0 -> Option B.W) (inr : B.T -> B.W) (get : Kn E -> Option (B.V × List Nat × List (Option Addr))) (t : Kn E -> Option (B.T × List Nat × List (Option Addr)))
  (F : Ct E P f n R0 retF) (m : Nat) (x : B.X) (v : B.V) (D : List Nat) (A : List (Option Addr)) : VC B.W :=
 nx (norm 1000 [.code body,.inLoop body,.inBlock id]) fun md => exec F md ⟨B.pL x v D A,B.pA x v D A,B.rds x,[],[],[]⟩ (fun r => .ret (inl r)) (fun st => match t st with
  | some (u,j,e) => match Nat.beq j.length B.mN,Nat.beq e.length B.mA with
   | true,true => reqS (B.qL x u j e) (B.qA x u j e) st (.ret (some (inr u)))
   | _,_ => .fail
  | none => .fail) fun c y st => .req (c,y) (body,id) (match get st with
   | some (z,j,e) => reqS (B.pL x z j e) (B.pA x z j e) st (.ret (G m x z))
   | none => .fail)
theorem VC.wX : ∀ {R : Type} (v : VC R),v.ok (fun _ => False) -> False
 | _,.ret o,h => by obtain ⟨_,_,h⟩ := h; exact h
 | _,.bind m k,h => by obtain ⟨x,_,h⟩ := h; exact VC.wX (k x) h
 | _,.ite c x y,h => by
  cases j : c with
  | true => exact VC.wX x (h.1 j)
  | false => exact VC.wX y (h.2 j)
 | _,.frN k,h => VC.wX (k 0) (h 0)
 | _,.frA k,h => VC.wX (k none) (h none)
 | _,.req a b k,h => VC.wX k h.2
 | _,.join x k,h => VC.wX x (VC.mono x (fun y e => VC.wX (k y) e) h)
 | _,.cs z x y,h => by
  cases z with
  | inl a => exact VC.wX (x a) (h.1 a rfl)
  | inr b => exact VC.wX (y b) (h.2 b rfl)
 | _,.both u v vm,h => VC.wX u h.1
 | _,.grj x k,h => VC.wX x (VC.mono x (fun y e => VC.wX (k y) e) h)
 | _,.sel M b x y k,h => by
  cases b with
  | true => exact VC.wX x (VC.mono x (fun y e => VC.wX (k y) e) (h.1 rfl))
  | false => exact VC.wX y (VC.mono y (fun y e => VC.wX (k y) e) (h.2 rfl))
def BCon.at {R0 : Type} (B : BCon E R0) (G : Nat -> B.X -> B.V -> Option B.W) (k : Nat) : BCon E R0 := { B with g := G k }
theorem eO (a5 : P.follows .mixedOrders = true) (B : BCon E R0) {body : Code} {id : Nat} (G : Nat -> B.X -> B.V -> Option B.W) (inl : R0 -> Option B.W) (inr : B.T -> B.W) (get : Kn E -> Option (B.V × List Nat × List (Option Addr))) (A : Kn E -> Option (B.T × List Nat × List (Option Addr)))
  (ct : Nat -> Ct E P f n R0 retF) (hc : B.code = .block id (.loop body)) (h0 : ∀ x v,G 0 x v = none) (hl : ∀ r y,inl r = some y -> B.cls y = .inl r) (hi : ∀ u,B.cls (inr u) = .inr u)
  (h1 : ∀ m x v z j,vcL B body id G inl inr get A (ct m) m x v z j = (vcL B body id G inl inr get A (ct m) m x v z j).rfx) (h2 : ∀ m x v z j s,(vcL B body id G inl inr get A (ct m) m x v z j).mod s = G (m + 1) x v) :
  ∀ k,(B.at G k).Sound P f n retF := by
 intro k Q w0 F x v t z j a w base Y I S Z;have key : ∀ (m : Nat) (v : B.V) (z : List Nat) (j : List (Option Addr)) (a : Act) (w : World),G m x v = some t -> KnOk n w0 F ⟨B.pL x v z j,B.pA x v z j,B.rds x,[],[],[]⟩ a w -> Runs P f (.code body :: .inLoop body :: .inBlock id :: base) a w Q := by
  intro m;induction m with
  | zero => intro v z j a w Y _; exact absurd ((h0 x v).symm.trans Y) (by simp)
  | succ m ih =>
   intro v z j a w Y I;have a6 := VC.good _ (· = t) (h1 m x v z j) fun s => ⟨t,(h2 m x v z j s).trans Y,rfl⟩
   obtain ⟨md,a4,h3⟩ := pJ a6;refine yV (t := [.code body,.inLoop body,.inBlock id]) (base := base) 1000 a4 (kK a5 (Tg := fun r => B.cls t = .inl r) ?_ (ct m) md base _ _ _ _ _ a w I h3 ?_ ?_ ?_)
   ·intro st a w k I h;cases ht : B.cls t with
    | inl r => exact Z r ht _ _ _ _ I (VC.mono _ (fun r' h => by rw [ht] at h; cases h; rfl) h)
    | inr u => exact (VC.wX _ (VC.mono _ (fun r' h => by rw [ht] at h; cases h) h)).elim
   ·rintro r ⟨y,hy,rfl⟩;exact hl r y hy
   ·intro a7 a' w' O D;split at D
    ·rename_i u U J ho;split at D
     ·rename_i e1 e2;obtain ⟨h4,h5,y,hy,h6⟩ := tH O D;cases hy;subst h6;exact S u (hi u) U J a' w' (Nat.eq_of_beq_eq_true e1) (Nat.eq_of_beq_eq_true e2) h4 h5
     ·exact (VC.zy D).elim
    ·exact (VC.zy D).elim
   ·intro c b4 a7 a' w' O hb;obtain ⟨e,h4⟩ := hb;simp only [Prod.mk.injEq] at e;obtain ⟨rfl,rfl⟩ := e;split at h4
    ·rename_i v' U J b3;obtain ⟨h5,h6,y,hy,h7⟩ := tH O h4;subst h7;exact Runs.inLoop (ih v' U J a' w' hy ⟨h5,h6,I.fs.1,I.fs.2,I.fs.3,I.fs.4⟩)
    ·exact (VC.zy h4).elim
 show Runs P f (.code B.code :: base) a w Q;rw [hc];exact Runs.block (Runs.aP (key k v z j a w Y I))
theorem lsn (A : P.follows .mixedOrders = true) (B : BCon E R0) {body : Code} {id : Nat} (G : Nat -> B.X -> B.V -> Option B.W) (inl : R0 -> Option B.W) (inr : B.T -> B.W) (get : Kn E -> Option (B.V × List Nat × List (Option Addr))) (e : Kn E -> Option (B.T × List Nat × List (Option Addr)))
  (t : Nat -> Ct E P f n R0 retF) (k : Nat) (D : B.code = .block id (.loop body) := by kernel_rfl) (h0 : ∀ x v,G 0 x v = none := by intro _ _; rfl) (hl : ∀ r y,inl r = some y -> B.cls y = .inl r := by intro r y h; cases h; try rfl) (hi : ∀ u,B.cls (inr u) = .inr u := by intro u; rfl)
  (h1 : ∀ m x v z j,vcL B body id G inl inr get e (t m) m x v z j = (vcL B body id G inl inr get e (t m) m x v z j).rfx := by intro m x v F I; kernel_rfl) (h2 : ∀ m x v z j s,(vcL B body id G inl inr get e (t m) m x v z j).mod s = G (m + 1) x v := by intro m x v F I s; kernel_rfl) :
  (B.at G k).Sound P f n retF := eO A B G inl inr get e t D h0 hl hi h1 h2 k
theorem wO (C : Con E) (h : ∀ i,C.model i = none) : C.Sound P := fun i t hm => by rw [h i] at hm; cases hm
end
end
noncomputable section
section
variable {E : Ev}
structure OD (E : Ev) : Type 1 where
 A : Type
 M : Type
 flat : Nat -> A -> M -> List (Atom E)
 rd : List (Atom E) -> Option (A × M × List (Atom E))
def rS (c : Nat) (e : List (Atom E)) : Option ((Option Addr × Nat × List (E.el c).α) × List (Atom E)) := match e with
 | .sl _ _ sb sc l :: r => match j4 c l with
  | some l' => some ((sb,sc,l'),r)
  | none => none
 | _ => none
def rM (c : Nat) (e : List (Atom E)) : Option ((Nat × List ((E.mp c).K × (E.mp c).V)) × List (Atom E)) := match e with
 | .mp _ b m :: r => match eE c m with
  | some j => some ((b,j),r)
  | none => none
 | _ => none
structure PK (E : Ev) : Type 1 where
 T : Type
 rd : Value -> List (Atom E) -> Option (T × List (Atom E))
 arg : T -> Value
 ats : T -> List (Atom E)
 rds : T -> List (RdV E)
def pI (k : IntKind) : PK E := ⟨Int,fun v e => match v with
 | .int _ x => some (x,e)
 | _ => none,fun x => .int k x,fun _ => [],fun _ => []⟩
def pB : PK E := ⟨Bool,fun v e => match v with
 | .bool x => some (x,e)
 | _ => none,fun x => .bool x,fun _ => [],fun _ => []⟩
def pV {α : Type} (dec : Value -> Option α) (val : α -> Value) : PK E := ⟨α,fun v e => match dec v with
 | some x => some (x,e)
 | none => none,val,fun _ => [],fun _ => []⟩
def pK (v : Value) : PK E := ⟨Unit,fun _ e => some ((),e),fun _ => v,fun _ => [],fun _ => []⟩
def pO (D : OD E) : PK E := ⟨Nat × D.A × D.M,fun v e => match v with
 | .pointer (some ⟨p,_,_⟩) => match D.rd e with
  | some (a,m,r) => some ((p,a,m),r)
  | none => none
 | _ => none,fun x => .pointer (some ⟨x.1,0,none⟩),fun x => D.flat x.1 x.2.1 x.2.2,fun _ => []⟩
def pR (c : Nat) : PK E := ⟨Option Addr × Nat × List (E.el c).α,fun v e => match e with
 | .sl c' _ sb sc l :: r => match j4 c l with
  | some l' => some ((sb,sc,l'),r)
  | none => none
 | _ => none,fun x => .slice x.1 x.2.2.length x.2.1,fun _ => [],fun x => [⟨c,x.1,x.2.1,x.2.2⟩]⟩
def pW (c : Nat) (T : TypeId) : PK E := ⟨Option Addr × Nat × List (E.el c).α,fun v e => match e with
 | .sl c' _ sb sc l :: r => match j4 c l with
  | some l' => some ((sb,sc,l'),r)
  | none => none
 | _ => none,fun x => .slice x.1 x.2.2.length x.2.1,fun x => [.sl c T x.1 x.2.1 x.2.2],fun _ => []⟩
def Ins : List (PK E) -> Type
 | [] => Unit
 | p :: ps => p.T × Ins ps
def cN : (ps : List (PK E)) -> List Value -> List (Atom E) -> Option (Ins ps)
 | [],_,_ => some ()
 | p :: ps,v :: vs,e => match p.rd v e with
  | some (x,r) => match cN ps vs r with
   | some xs => some (x,xs)
   | none => none
  | none => none
 | _ :: _,[],_ => none
def jV : (ps : List (PK E)) -> Ins ps -> List Value
 | [],_ => []
 | p :: ps,x => p.arg x.1 :: jV ps x.2
def jW : (ps : List (PK E)) -> Ins ps -> List (Atom E)
 | [],_ => []
 | p :: ps,x => p.ats x.1 ++ jW ps x.2
def iH : (ps : List (PK E)) -> Ins ps -> List (RdV E)
 | [],_ => []
 | p :: ps,x => p.rds x.1 ++ iH ps x.2
@[reducible] def zL (fid : Nat) (ps : List (PK E)) {T : Type} (model : Ins ps -> Option T) (nN nA : Nat) (val : Ins ps -> T -> List Nat -> List (Option Addr) -> Value) (post : Ins ps -> T -> List Nat -> List (Option Addr) -> List (Atom E)) : Con E :=
 ⟨fid,Ins ps,T,cN ps,jV ps,jW ps,iH ps,model,nN,nA,val,post,fun _ _ => none,fun _ _ => [],false,Unit,fun _ _ => none,0,fun _ _ _ _ _ => .tuple #[],fun _ _ _ _ _ => []⟩
@[reducible] def cC (fid : Nat) (ps : List (PK E)) {T : Type} (model : Ins ps -> Option T) (nN nA : Nat) (val : Ins ps -> T -> List Nat -> List (Option Addr) -> Value) (post : Ins ps -> T -> List Nat -> List (Option Addr) -> List (Atom E)) (opt : Ins ps -> T -> Option Int) : Con E :=
 ⟨fid,Ins ps,T,cN ps,jV ps,jW ps,iH ps,model,nN,nA,val,post,fun i t => some (opt i t),fun _ _ => [],false,Unit,fun _ _ => none,0,fun _ _ _ _ _ => .tuple #[],fun _ _ _ _ _ => []⟩
@[reducible] def cB (fid : Nat) (ps : List (PK E)) {T : Type} (model : Ins ps -> Option T) (nN nA : Nat) (val : Ins ps -> T -> List Nat -> List (Option Addr) -> Value) (post : Ins ps -> T -> List Nat -> List (Option Addr) -> List (Atom E)) (fx : Ins ps -> T -> List Prop) : Con E :=
 ⟨fid,Ins ps,T,cN ps,jV ps,jW ps,iH ps,model,nN,nA,val,post,fun _ _ => none,fx,false,Unit,fun _ _ => none,0,fun _ _ _ _ _ => .tuple #[],fun _ _ _ _ _ => []⟩
@[reducible] def aD (fid : Nat) (ps : List (PK E)) {T M : Type} (model : Ins ps -> Option T) (nN nA : Nat) (val : Ins ps -> T -> List Nat -> List (Option Addr) -> Value) (post : Ins ps -> T -> List Nat -> List (Option Addr) -> List (Atom E)) (om : Ins ps -> T -> Option M) (nf : Nat)
  (val1 : Ins ps -> T -> M -> List Nat -> List (Option Addr) -> Value) (post1 : Ins ps -> T -> M -> List Nat -> List (Option Addr) -> List (Atom E)) : Con E :=
 ⟨fid,Ins ps,T,cN ps,jV ps,jW ps,iH ps,model,nN,nA,val,post,fun _ _ => none,fun _ _ => [],true,M,om,nf,val1,post1⟩
abbrev Gt (E : Ev) (T : Type) := Kn E -> Option T
def gI (t : Nat) : Gt E Int := fun st => match look t st.L with
 | some (.int _ x) => some x
 | _ => none
def gB (t : Nat) : Gt E Bool := fun st => match look t st.L with
 | some (.bool x) => some x
 | _ => none
def gO (D : OD E) (ks : List Nat) : Gt E D.M := fun st => match ju ks st.As with
 | some e => match D.rd e with
  | some (_,m,_) => some m
  | none => none
 | none => none
def gL (c : Nat) (q : Nat) : Gt E (List (E.el c).α) := fun st => match getK q st.As with
 | some (.sl _ _ _ _ l) => j4 c l
 | _ => none
def g2 {A B : Type} (a : Gt E A) (b : Gt E B) : Gt E (A × B) := fun st => match a st,b st with
 | some x,some y => some (x,y)
 | _,_ => none
def gU : Gt E Unit := fun _ => some ()
abbrev Nx (E : Ev) := Kn E -> Option (List Nat × List (Option Addr))
def nA (D : OD E) (ks : List Nat) (f : D.A -> List Nat × List (Option Addr)) : Nx E := fun st => match ju ks st.As with
 | some e => match D.rd e with
  | some (j,_,_) => some (f j)
  | none => none
 | none => none
def nxs : List (Nx E) -> Nx E
 | [],_ => some ([],[])
 | x :: r,st => match x st,nxs r st with
  | some (a,b),some (c,d) => some (a ++ c,b ++ d)
  | _,_ => none
def gj {T : Type} (a : Gt E T) (l : List (Nx E)) : Kn E -> Option (T × List Nat × List (Option Addr)) := fun st => match a st,nxs l st with
 | some x,some (j,e) => some (x,j,e)
 | _,_ => none
def gl {X V : Type} (x : Gt E X) (v : Gt E V) (l : List (Nx E)) : Kn E -> Option (X × V × List Nat × List (Option Addr)) := fun st => match x st,v st,nxs l st with
 | some x,some v,some (j,e) => some (x,v,j,e)
 | _,_,_ => none
def gt {T : Type} (a : Gt E T) : Kn E -> Option (T × List Nat × List (Option Addr)) := fun st => match a st with
 | some x => some (x,[],[])
 | none => none
abbrev nn (l : List Nat) (i : Nat) : Nat := l.getD i 0
abbrev na (l : List (Option Addr)) (i : Nat) : Option Addr := l.getD i none
def zipL {α : Type} : List Nat -> List α -> List (Nat × α)
 | k :: ks,x :: xs => (k,x) :: zipL ks xs
 | _,_ => []
def kp (ks : List Nat) (st : Kn E) : Env := match sel ks st.L with
 | some L => L
 | none => []
def ka (ks : List Nat) (st : Kn E) : List (Nat × Atom E) := match ks with
 | [] => []
 | k :: r => match getK k st.As with
  | some a => (k,a) :: ka r st
  | none => ka r st
def gP (k : Nat) : Gt E Nat := fun st => match getK k st.As with
 | some (.blk b _ _) => some b
 | some (.mp _ b _) => some b
 | _ => none
def gA (D : OD E) (ks : List Nat) : Gt E D.A := fun st => match ju ks st.As with
 | some e => match D.rd e with
  | some (a,_,_) => some a
  | none => none
 | none => none
def gC {α : Type} (k off n : Nat) (dec : List Value -> Option α) : Gt E α := fun st => match getK k st.As with
 | some (.blk _ _ cs) => dec ((cs.drop off).take n)
 | _ => none
def gh (k : Nat) : Gt E (Option Addr × Nat) := fun st => match getK k st.As with
 | some (.sl _ _ sb sc _) => some (sb,sc)
 | _ => none
def nPk (k : Nat) : Nx E := fun st => match getK k st.As with
 | some (.blk b _ _) => some ([b],[])
 | some (.mp _ b _) => some ([b],[])
 | _ => none
def nSk (k : Nat) : Nx E := fun st => match getK k st.As with
 | some (.sl _ _ sb sc _) => some ([sc],[sb])
 | _ => none
def gOo (D : OD E) (ks : List Nat) (t : Nat) : Gt E (Option D.M) := fun st => match look t st.L with
 | some (.pointer none) => some none
 | some (.pointer (some _)) => match gO D ks st with
  | some m => some (some m)
  | none => none
 | _ => none
def nPo (k : Nat) : Nx E := fun st => match getK k st.As with
 | some (.blk b _ _) => some ([b],[])
 | _ => some ([0],[])
def nAo (D : OD E) (ks : List Nat) (f : D.A -> List Nat × List (Option Addr)) (n m : Nat) : Nx E := fun st => match ju ks st.As with
 | some e => match D.rd e with
  | some (j,_,_) => some (f j)
  | none => none
 | none => some (List.replicate n 0,List.replicate m none)
def gE : Gt E (Option Int) := fun st => match getK 99999 st.ef with
 | some f => some (some f.i)
 | none => some none
def dI : List Value -> Option Int
 | [.int _ x] => some x
 | _ => none
def dB : List Value -> Option Bool
 | [.bool x] => some x
 | _ => none
def dvI : Value -> Option Int
 | .int _ x => some x
 | _ => none
def nav : List Nat -> Code -> Code
 | [],c => c
 | 0 :: r,.seq x _ => nav r x
 | _ :: r,.seq _ y => nav r y
 | 0 :: r,.cond _ x _ => nav r x
 | _ :: r,.cond _ _ y => nav r y
 | _ :: r,.block _ x => nav r x
 | _ :: r,.loop x => nav r x
 | _ :: _,c => c
def rsOf (P : Program) (f : Nat) : List ResultVar := match P.funcs[f]? with
 | some fn => fn.results.toList
 | none => []
def yO (P : Program) (f : Nat) : Code := match P.funcs[f]? with
 | some fn => match fn.body with
  | some c => c
  | none => .skip
 | none => .skip
end
def fsk {E : Ev} {P : Program} (j : P.follows .mixedOrders = true) (C : Con E) {fn : Func} {c : Code} (n : Nat) (src : List Src) (keys : List Nat) (out : Kn E -> Option (C.T × List Nat × List (Option Addr))) (e : ∀ i,Ct E P C.fid n C.T (retC P C (rsOf P C.fid) src keys out i))
  (hf : P.funcs[C.fid]? = some fn) (he : ∀ args w,(callFunc C.fid args).run P w = .ok (.enter C.fid args) w) (t : fn.body = some c := by rfl) (hn : fn.ntmps = n := by rfl) (hr : fn.results = (rsOf P C.fid).toArray := by kernel_rfl) (hl : ∀ i,Nat.ble (C.args i).length n = true := by intro _; rfl)
  (h1 : ∀ i,vcF C c (rsOf P C.fid) src keys out i (e i) = (vcF C c (rsOf P C.fid) src keys out i (e i)).rfx := by intro i; kernel_rfl) (h2 : ∀ i s,(vcF C c (rsOf P C.fid) src keys out i (e i)).mod s = C.model i := by intro i s; kernel_rfl) : SCon E P := ⟨C,fH j C src keys out e hf t hn hr hl h1 h2,he⟩
end
noncomputable section
section
variable {E : Ev}
theorem me {w0 w : World} {Y : HP} {L A1 As : List HP} (h : ∀ As,St w0 (Y :: As) w ↔ St w0 (L ++ As) w) : St w0 (A1 ++ (Y :: As)) w ↔ St w0 (A1 ++ (L ++ As)) w := by
 constructor
 ·intro H;have H1 := (h (A1 ++ As)).1 (H.perm (List.perm_middle));refine H1.perm ?_;rw [<- aA,<- aA];exact List.Perm.append_right As List.perm_append_comm
 ·intro H;have H1 := (h (A1 ++ As)).2 (H.perm (by
   rw [<- aA,<- aA];exact List.Perm.append_right As List.perm_append_comm))
  exact H1.perm List.perm_middle.symm
theorem fs0 {w0 w : World} {Y : HP} {L As : List HP} (h : ∀ As,St w0 (Y :: As) w ↔ St w0 (L ++ As) w) : St w0 (Y :: As) w ↔ St w0 (L ++ As) w := h As
theorem fs1 {w0 w : World} {A Y : HP} {L As : List HP} (h : ∀ As,St w0 (Y :: As) w ↔ St w0 (L ++ As) w) : St w0 (A :: Y :: As) w ↔ St w0 (A :: (L ++ As)) w := me (A1 := [A]) h
theorem fs2 {w0 w : World} {A B Y : HP} {L As : List HP} (h : ∀ As,St w0 (Y :: As) w ↔ St w0 (L ++ As) w) : St w0 (A :: B :: Y :: As) w ↔ St w0 (A :: B :: (L ++ As)) w := me (A1 := [A,B]) h
theorem fs3 {w0 w : World} {A B C Y : HP} {L As : List HP} (h : ∀ As,St w0 (Y :: As) w ↔ St w0 (L ++ As) w) : St w0 (A :: B :: C :: Y :: As) w ↔ St w0 (A :: B :: C :: (L ++ As)) w := me (A1 := [A,B,C]) h
theorem fs4 {w0 w : World} {A B C D Y : HP} {L As : List HP} (h : ∀ As,St w0 (Y :: As) w ↔ St w0 (L ++ As) w) : St w0 (A :: B :: C :: D :: Y :: As) w ↔ St w0 (A :: B :: C :: D :: (L ++ As)) w := me (A1 := [A,B,C,D]) h
theorem rdH (c : Nat) {F : List HP} {X : HP} {sb : Option Addr} {sc : Nat} {l : List (E.el c).α} (hm : X ∈ F) (e : SlRd X (E.el c).enc (E.el c).sz sb l) (hC : l.length <= sc) : RdV.holds (E := E) F ⟨c,sb,sc,l⟩ := ⟨X,hm,e,fun _ _ => hC⟩
theorem rd0 {F : List HP} : ∀ r ∈ ([] : List (RdV E)),r.holds F := fun r h => by cases h
theorem rdc {F : List HP} {r : RdV E} {L : List (RdV E)} (h : r.holds F) (e : ∀ r ∈ L,r.holds F) : ∀ x ∈ r :: L,x.holds F := fun x j => by
 cases j with
 | head => exact h
 | tail _ h => exact e _ h
theorem A5 {F : List HP} {X : HP} (hX : X ∈ F) : ∃ e,∀ (w0 w : World) (A : List HP),St w0 (A ++ F) w ↔ St w0 (X :: (A ++ e)) w := by
 obtain ⟨s,t,rfl⟩ := List.append_of_mem hX;refine ⟨s ++ t,fun w0 w A => ?_⟩;have hp : (A ++ (s ++ X :: t)).Perm (X :: (A ++ (s ++ t))) := by
  rw [<- aA,<- aA];exact List.perm_middle
 exact ⟨fun H => H.perm hp,fun H => H.perm hp.symm⟩
theorem Cb {w0 w : World} {X : HP} {As : List HP} {n m : Nat} (H : St w0 (X :: As) w) (h : ∀ g,X g -> n <= m) : n <= m := H.fact h
theorem lsS {α : Type} {l : List α} {n : Nat} (h : l.length = n + 1) : ∃ a r,l = a :: r /\ r.length = n := by
 match l,h with
 | a :: r,h => exact ⟨a,r,rfl,by simpa using h⟩
theorem ls0 {α : Type} {l : List α} (h : l.length = 0) : l = [] := List.length_eq_zero_iff.1 h
end
end
end Go.Th
namespace Go.Proofs
open Go.Shelf
noncomputable section
open Go.Sort Go.RowKit in
open Go.RowKit Go.Sort in
end
end Go.Proofs
