/-
  The statements TracePlays of the program.
  Text 4 of 8: of what the proof needs (a row of the program: no condition is left); put together and made narrow by a program.
-/
import Derived.Test.YtccbfeafebllhaaGreatYb3
set_option linter.unusedVariables false
set_option linter.unusedSimpArgs false
namespace Go.Proofs.YtccbfeafebllhaaGreat
open Go.Th
noncomputable section
set_option maxRecDepth 10000
theorem oy {α β : Type} {f : α -> β} {l : List α} {x : β} {q : List β} (h : (l.map f).Perm (x :: q)) : ∃ p rs, l.Perm (p :: rs) /\ f p = x /\ (rs.map f).Perm q := by
 have e : x ∈ l.map f := h.mem_iff.2 (List.mem_cons_self ..);obtain ⟨p, hp, rfl⟩ := List.mem_map.1 e;obtain ⟨s, t, rfl⟩ := List.append_of_mem hp;have h1 : (s ++ p :: t).Perm (p :: (s ++ t)) := List.perm_middle;refine ⟨p, s ++ t, h1, rfl, ?_⟩;have h2 := (h1.map f).symm.trans h;rw [pC] at h2;exact h2.cons_inv
theorem uT {K V : Type} {eq : K -> K -> Bool} {k : K} {z v : V} {m : List (K × V)} (h : mGet eq k m = some v) : rC eq k z m = some (v, true) := by
 unfold rC; rw [h]
theorem fy {K V : Type} {eq : K -> K -> Bool} {k : K} {z : V} {m : List (K × V)} (h : mGet eq k m = none) : rC eq k z m = some (z, false) := by
 unfold rC; rw [h]
section
variable {M : Nat} {q : zs} {T : Nat} {h : HR} {hs hs' : List HR}
theorem PQ.re (Q : PQ M q T (h :: hs)) {rs : List (zd × It)} (hp : h.rs.Perm rs) : PQ M q T (⟨h.ref, h.k, h.r, h.C, rs⟩ :: hs) := by
 have j : (allR (h :: hs)).Perm (allR (⟨h.ref, h.k, h.r, h.C, rs⟩ :: hs)) := by rw [wR, wR]; exact hp.append_right _
 have i : ∀ p, p ∈ allR (h :: hs) ↔ p ∈ allR (⟨h.ref, h.k, h.r, h.C, rs⟩ :: hs) := fun p => j.mem_iff
 have hv : h.val = (⟨h.ref, h.k, h.r, h.C, rs⟩ : HR).val := by simp only [HR.val, hp.length_eq]
 refine ⟨Q.ih, Q.ii, fun s u => (Q.hl s u).trans ?_, fun s u => (Q.il s u).trans ?_, Q.at1, fun c s => (Q.at2 c s).trans ?_, Q.en1, fun s e => (Q.en2 s e).trans ?_, ?_, Q.hn, ((j.map _).nodup_iff).1 Q.rn, ((j.map _).nodup_iff).1 Q.sn, ?_, Q.mi, Q.mm, Q.mb, Q.ci.trans ?_, Q.ch, Q.cm, fun p hh => Q.sr p ((i p).2 hh), Q.sq⟩
 ·simp only [iC, exists_eq_or_imp, hv]
 ·simp only [iC, exists_eq_or_imp, hp.mem_iff]
 ·constructor
  ·rintro ⟨p, hp, e⟩; exact ⟨p, (i p).1 hp, e⟩
  ·rintro ⟨p, hp, e⟩; exact ⟨p, (i p).2 hp, e⟩
 ·constructor
  ·rintro ⟨p, hp, e⟩; exact ⟨p, (i p).1 hp, e⟩
  ·rintro ⟨p, hp, e⟩; exact ⟨p, (i p).2 hp, e⟩
 ·intro g l;rcases List.mem_cons.1 l with rfl | l
  ·have := Q.hk h (List.mem_cons_self ..);exact ⟨this.1, this.2.p (hp.map _) (.refl _)⟩
  ·exact Q.hk g (mC _ l)
 ·exact Q.ar
 ·rw [j.length_eq]
theorem PQ.Bb (Q : PQ M q T hs) {a : za} (h : ∃ κ n, κ.C = 2 * M /\ Ar κ n a (allC hs)) : PQ M (zs.mk q.items a q.t_ q.entries q.serial) T hs :=
 ⟨Q.ih, Q.ii, Q.hl, Q.il, Q.at1, Q.at2, Q.en1, Q.en2, Q.hk, Q.hn, Q.rn, Q.sn, h, Q.mi, Q.mm, Q.mb, Q.ci, Q.ch, Q.cm, Q.sr, Q.sq⟩
theorem PQ.lat (Q : PQ M q T hs) {p : zd × It} (hp : p ∈ allR hs) : mGet kI (p.2.i : Int) q.t_.at_ = some p.1 := (Q.at2 _ _).2 ⟨p, hp, rfl, rfl⟩
theorem PQ.len (Q : PQ M q T hs) {p : zd × It} (hp : p ∈ allR hs) : mGet zd.eq p.1 q.entries = some ⟨p.2.k, p.2.s⟩ := (Q.en2 _ _).2 ⟨p, hp, rfl, rfl⟩
theorem nE {g : HR} (e : g ∈ hs) {p : zd × It} (hp : p ∈ g.rs) : p ∈ allR hs := List.mem_flatMap.2 ⟨g, e, hp⟩
theorem PQ.drop {p : zd × It} {rs : List (zd × It)} {r' : Int} {C' : Heap} {a2 : za} {κ : Cfg} {n : Nat} (Q : PQ M q T (h :: hs)) (hp : h.rs = p :: rs) (B : h.rs.length < 4096) (hk : HK (KD h.k) r' (rs.map Prod.snd) C') (H : Ar κ n a2 (C' ++ ((p.2.i, p.2.cell (-1)) :: allC hs))) (U : κ.C = 2 * M) :
  Do (xm q.t_ h.ref r' (w64 ((h.rs.length : Int) - 1))) fun t1 => Do (v7 (zs.mk q.items a2 t1.2 q.entries q.serial) p.1) fun res => ∃ F, res = (⟨p.2.k, p.2.s⟩, F) /\ PQ M F T (⟨h.ref, h.k, r', C', rs⟩ :: hs) /\ Ar κ (n + 1) F.a_ (C' ++ allC hs) /\ F.serial = q.serial := by
 have hm : h ∈ h :: hs := List.mem_cons_self ..;have I := Q.hk h hm;have l : allR (h :: hs) = p :: (rs ++ allR hs) := by rw [wR, hp]; rfl
 have D : p ∈ allR (h :: hs) := by rw [l]; exact List.mem_cons_self ..
 have z : ∀ p' ∈ rs ++ allR hs, p'.1 ≠ p.1 := by
  have := Q.rn;rw [l, pC, List.nodup_cons] at this;intro p' j e;exact this.1 (e ▸ List.mem_map_of_mem (f := Prod.fst) j)
 have x : ∀ p', p' ∈ allR (h :: hs) ↔ p' = p \/ p' ∈ rs ++ allR hs := fun p' => by rw [l, iC]
 have J : ∀ p' ∈ rs ++ allR hs, (p'.2.i : Int) ≠ (p.2.i : Int) := by
  intro p' j e;have O := Q.lat ((x p').2 (Or.inr j));rw [e, Q.lat D] at O;exact z p' j (Option.some.inj O).symm
 have A : Pt.Live q.t_.items p.1 ⟨(p.2.i : Int), h.ref⟩ := (Q.il _ _).2 ⟨h, hm, p, by rw [hp]; exact List.mem_cons_self .., rfl, rfl⟩;have hw : w64 ((h.rs.length : Int) - 1) = (rs.length : Int) := by
  rw [hp] at B ⊢;simp only [lC] at B ⊢;rw [zR] <;> omega
 rw [hw];refine Do.of (PQ.root Q.ih (Q.live hm) r' rs.length) ?_;unfold v7 tA;simp only;rw [Pt.rr Q.ii A];simp only [bS];rw [show ((0 : Int) == 0) = true from rfl, cT];simp only [bS];refine ((H.p (List.perm_middle (l₁ := C') (l₂ := allC hs))).give).bind ?_;rintro _ ⟨a3, rfl, S⟩;rw [uT (Q.len D)];refine ⟨_, rfl, _, rfl, ?_, S, rfl⟩;refine ⟨?_, Pt.pT Q.ii A, ?_, ?_, ri Q.at1, ?_, ri Q.en1, ?_, ?_, Q.hn, ?_, ?_, ⟨κ, _, U, S⟩, Q.mi, Q.mm, Q.mb, ?_, ?_, Q.cm, ?_, Q.sq⟩
 ·exact Ph.rF Q.ih (Q.live hm) (zE.mk h.k r' (rs.length : Int))
 ·refine gH Q.hl Q.hn rfl fun s u => ?_
  have := Ph.tK (Q.live hm) (zE.mk h.k r' (rs.length : Int)) s u;simpa [HR.val] using this
 ·intro s u;refine (Pt.qo A s u).trans ⟨?_, ?_⟩
  ·rintro ⟨y, hl⟩;obtain ⟨g, t, p', j, rfl, rfl⟩ := (Q.il _ _).1 hl;rcases List.mem_cons.1 t with rfl | t
   ·rw [hp] at j;rcases List.mem_cons.1 j with rfl | j
    ·exact absurd rfl y
    ·exact ⟨_, List.mem_cons_self .., p', j, rfl, rfl⟩
   ·exact ⟨g, mC _ t, p', j, rfl, rfl⟩
  ·rintro ⟨g, t, p', j, rfl, rfl⟩;rcases List.mem_cons.1 t with rfl | t
   ·exact ⟨z p' (mL _ j), (Q.il _ _).2 ⟨h, hm, p', by rw [hp]; exact mC _ j, rfl, rfl⟩⟩
   ·exact ⟨z p' (List.mem_append_right _ (nE t j)), (Q.il _ _).2 ⟨g, mC _ t, p', j, rfl, rfl⟩⟩
 ·intro c s;refine (qx ae Q.at1).trans ⟨?_, ?_⟩
  ·rintro ⟨y, t⟩;obtain ⟨p', j, rfl, rfl⟩ := (Q.at2 _ _).1 t;rcases (x p').1 j with rfl | j
   ·exact absurd rfl y
   ·exact ⟨p', j, rfl, rfl⟩
  ·rintro ⟨p', j, rfl, rfl⟩;exact ⟨J p' j, (Q.at2 _ _).2 ⟨p', (x p').2 (Or.inr j), rfl, rfl⟩⟩
 ·intro s e;refine (qx vW Q.en1).trans ⟨?_, ?_⟩
  ·rintro ⟨y, t⟩;obtain ⟨p', j, rfl, rfl⟩ := (Q.en2 _ _).1 t;rcases (x p').1 j with rfl | j
   ·exact absurd rfl y
   ·exact ⟨p', j, rfl, rfl⟩
  ·rintro ⟨p', j, rfl, rfl⟩;exact ⟨z p' j, (Q.en2 _ _).2 ⟨p', (x p').2 (Or.inr j), rfl, rfl⟩⟩
 ·intro g t;rcases List.mem_cons.1 t with rfl | t
  ·exact ⟨I.1, hk⟩
  ·exact Q.hk g (mC _ t)
 ·have := Q.rn;rw [l, pC, List.nodup_cons] at this;exact this.2
 ·have := Q.sn;rw [l, pC, List.nodup_cons] at this;exact this.2
 ·have := Q.ci;rw [l] at this;simp only [mSet, List.length_set, lA, lC, List.length_nil, wR] at this ⊢;omega
 ·have := Q.ch;simpa [mSet] using this
 ·intro p' j;exact Q.sr p' ((x p').2 (Or.inr j))
theorem PQ.low {p : zd × It} {y : It} {rs : List (zd × It)} {r' : Int} {C' : Heap} {a2 : za} {κ : Cfg} {n : Nat} (Q : PQ M q T (h :: hs)) (hp : h.rs = p :: rs) (hi : y.i = p.2.i) (J : y.s = p.2.s) (hk : HK (KD h.k) r' (y :: rs.map Prod.snd) C') (H : Ar κ n a2 (C' ++ allC hs)) (O : κ.C = 2 * M) :
  PQ M (zs.mk q.items a2 (zj.mk (zh.mk q.t_.heaps.most (mSet q.t_.heaps.l h.ref.At ⟨h.ref.Gen, true, ⟨h.k, r', (h.rs.length : Int)⟩⟩) q.t_.heaps.free) q.t_.items q.t_.at_) (mPut zd.eq p.1 ⟨y.k, y.s⟩ q.entries) q.serial) T (⟨h.ref, h.k, r', C', (p.1, y) :: rs⟩ :: hs) := by
 have hm : h ∈ h :: hs := List.mem_cons_self ..;have D := Q.hk h hm;have x : allR (h :: hs) = p :: (rs ++ allR hs) := by rw [wR, hp]; rfl
 have B : p ∈ allR (h :: hs) := by rw [x]; exact List.mem_cons_self ..
 have F : ∀ p' ∈ rs ++ allR hs, p'.1 ≠ p.1 := by
  have := Q.rn;rw [x, pC, List.nodup_cons] at this;intro p' j e;exact this.1 (e ▸ List.mem_map_of_mem (f := Prod.fst) j)
 have A : ∀ p', p' ∈ allR (h :: hs) ↔ p' = p \/ p' ∈ rs ++ allR hs := fun p' => by rw [x, iC]
 have t : ∀ p', p' ∈ allR (⟨h.ref, h.k, r', C', (p.1, y) :: rs⟩ :: hs) ↔ p' = (p.1, y) \/ p' ∈ rs ++ allR hs := fun p' => by rw [wR]; exact iC
 have hlen : h.rs.length = ((p.1, y) :: rs).length := by rw [hp]; rfl
 refine ⟨?_, Q.ii, ?_, ?_, Q.at1, ?_, tW vW Q.en1, ?_, ?_, Q.hn, ?_, ?_, ⟨κ, _, O, H⟩, Q.mi, Q.mm, Q.mb, ?_, ?_, Q.cm, ?_, Q.sq⟩
 ·exact Ph.rF Q.ih (Q.live hm) (zE.mk h.k r' (h.rs.length : Int))
 ·refine gH Q.hl Q.hn rfl fun s u => ?_
  have := Ph.tK (Q.live hm) (zE.mk h.k r' (h.rs.length : Int)) s u;simpa only [HR.val, hlen] using this
 ·intro s u;refine (Q.il s u).trans ⟨?_, ?_⟩
  ·rintro ⟨g, z, p', j, rfl, rfl⟩;rcases List.mem_cons.1 z with rfl | z
   ·rw [hp] at j;rcases List.mem_cons.1 j with rfl | j
    ·exact ⟨_, List.mem_cons_self .., _, List.mem_cons_self .., rfl, by rw [hi]⟩
    ·exact ⟨_, List.mem_cons_self .., p', mC _ j, rfl, rfl⟩
   ·exact ⟨g, mC _ z, p', j, rfl, rfl⟩
  ·rintro ⟨g, z, p', j, rfl, rfl⟩;rcases List.mem_cons.1 z with rfl | z
   ·rcases List.mem_cons.1 j with rfl | j
    ·exact ⟨h, hm, p, by rw [hp]; exact List.mem_cons_self .., rfl, by simp only [hi]⟩
    ·exact ⟨h, hm, p', by rw [hp]; exact mC _ j, rfl, rfl⟩
   ·exact ⟨g, mC _ z, p', j, rfl, rfl⟩
 ·intro c s;refine (Q.at2 c s).trans ⟨?_, ?_⟩
  ·rintro ⟨p', j, rfl, rfl⟩;rcases (A p').1 j with rfl | j
   ·exact ⟨_, (t _).2 (Or.inl rfl), by simp only [hi], rfl⟩
   ·exact ⟨_, (t _).2 (Or.inr j), rfl, rfl⟩
  ·rintro ⟨p', j, rfl, rfl⟩;rcases (t p').1 j with rfl | j
   ·exact ⟨_, B, by simp only [hi], rfl⟩
   ·exact ⟨_, (A _).2 (Or.inr j), rfl, rfl⟩
 ·intro s e;refine (rU vW).trans ⟨?_, ?_⟩
  ·rintro (⟨rfl, rfl⟩ | ⟨I, z⟩)
   ·exact ⟨_, (t _).2 (Or.inl rfl), rfl, rfl⟩
   ·obtain ⟨p', j, rfl, rfl⟩ := (Q.en2 _ _).1 z;rcases (A p').1 j with rfl | j
    ·exact absurd rfl I
    ·exact ⟨p', (t _).2 (Or.inr j), rfl, rfl⟩
  ·rintro ⟨p', j, rfl, rfl⟩;rcases (t p').1 j with rfl | j
   ·exact Or.inl ⟨rfl, rfl⟩
   ·exact Or.inr ⟨F p' j, (Q.en2 _ _).2 ⟨p', (A p').2 (Or.inr j), rfl, rfl⟩⟩
 ·intro g z;rcases List.mem_cons.1 z with rfl | z
  ·exact ⟨D.1, hk⟩
  ·exact Q.hk g (mC _ z)
 ·have := Q.rn;rw [x] at this;exact this
 ·have := Q.sn;rw [x] at this;show (((p.1, y) :: (rs ++ allR hs)).map fun p => p.2.s).Nodup;simp only [pC, J] at this ⊢;exact this
 ·have := Q.ci;rw [x] at this;simp only [lA, lC, wR] at this ⊢;omega
 ·have := Q.ch;simpa [mSet] using this
 ·intro p' j;rcases (t p').1 j with rfl | j
  ·simp only [J]; exact Q.sr p B
  ·exact Q.sr p' ((A p').2 (Or.inr j))
def okA (i : zd) (p : It) : zM := zM.mk 0 (zd.mk 0 0) i (zH.mk p.k p.s) 0
theorem PQ.min (Q : PQ M q T (h :: hs)) (z : h.rs.length < 1000) {f : Nat} (hf : 95000 < f) :
  Do (w8 f q h.ref false) fun res => ∃ i, PQ M i T (h :: hs) /\ i.serial = q.serial /\ Stp' q i 100 /\ ((h.rs = [] /\ res = (zM.mk 27 (zd.mk 0 0) (zd.mk 0 0) (zH.mk 0 0) 0, i)) \/ ∃ p ∈ h.rs, res = (okA p.1 p.2, i) /\ ∀ p' ∈ h.rs, ¬ p'.2.lt p.2) := by
 have hm : h ∈ h :: hs := List.mem_cons_self ..;have j := Q.hk h hm;obtain ⟨κ, n, A, B⟩ := Q.ar;have H := B.yF;unfold w8;rw [Q.heap hm];simp only [bS];refine Do.f rfl ?_;refine Do.if (fun e => ?_) (fun e => ?_)
 ·have D : h.rs = [] := by
   have : (h.rs.length : Int) = 0 := by simpa using e
   exact List.eq_nil_of_length_eq_zero (by omega)
  exact ⟨_, rfl, q, Q, rfl, ⟨Int.le_refl _, by omega⟩, Or.inl ⟨D, rfl⟩⟩
 ·refine Do.t rfl ?_;refine (Bp (f := f) j.1 j.2 H (by rw [HR.vv]; omega) hf).bind ?_;rintro _ ⟨a1, H1, h1⟩;rcases h1 with ⟨F, _⟩ | ⟨x, I, rfl, l⟩
  ·have := HR.vv h;rw [F] at this;simp at this;rw [<- this] at e; simp at e
  ·obtain ⟨p, hp, rfl⟩ := List.mem_map.1 I;have u := nE hm hp;unfold ub;simp only;rw [uT (Q.lat u)];simp only [bS];rw [uT (Q.len u)];refine ⟨_, rfl, _, Q.Bb (a := a1) ⟨⟨κ.C, q.a_.m_.steps, κ.g, κ.mo⟩, _, A, H1⟩, rfl, ⟨H1.lo, by have := H1.hi; simp only at this ⊢; omega⟩, Or.inr ⟨p, hp, rfl, fun p' y => l _ (List.mem_map_of_mem (f := Prod.snd) y)⟩⟩
theorem PQ.pop (Q : PQ M q T (h :: hs)) (J : h.rs.length < 1000) (y : h.rs ≠ []) {f : Nat} (hf : 95000 < f) :
  Do (w8 f q h.ref true) fun res => ∃ p rs r' C' j, res = (okA p.1 p.2, j) /\ h.rs.Perm (p :: rs) /\ (∀ p' ∈ h.rs, ¬ p'.2.lt p.2) /\ PQ M j T (⟨h.ref, h.k, r', C', rs⟩ :: hs) /\ j.serial = q.serial /\ Stp' q j (bd h.k h.rs.length + 1) := by
 have hm : h ∈ h :: hs := List.mem_cons_self ..;have l := Q.hk h hm;obtain ⟨κ, n, O, S⟩ := Q.ar;have H := S.yF;have U : h.rs.length ≠ 0 := fun e => y (List.eq_nil_of_length_eq_zero e)
 unfold w8;rw [Q.heap hm];simp only [bS];refine Do.f rfl ?_;refine Do.f (by simp; omega) ?_;refine Do.f rfl ?_;refine (BG (f := f) l.1 l.2 H (by intro e; have := HR.vv h; rw [e] at this; simp at this; omega) (by rw [HR.vv]; omega) hf).bind ?_;rintro _ ⟨x, q0, r', C', a1, rfl, z, t, h1, H1⟩;obtain ⟨p, rs, i, rfl, hq⟩ := oy z;have A : p ∈ h.rs := i.mem_iff.2 (List.mem_cons_self ..);have B := nE hm A;unfold ub;simp only;rw [uT (Q.lat B)];simp only [bS];have D := (Q.re i).drop (p := p) (rs := rs) (r' := r') (C' := C') (a2 := a1) rfl (by simp only [<- i.length_eq]; omega) (h1.p hq.symm (.refl _)) H1 O;simp only [<- i.length_eq] at D;refine D.bind fun t1 D => D.bind ?_
 rintro _ ⟨j, rfl, W, I, u⟩;refine ⟨_, rfl, p, rs, r', C', j, rfl, i, fun p' F => t _ (List.mem_map_of_mem (f := Prod.snd) F), W, u, I.lo, ?_⟩;have := I.hi;rw [HR.vv] at this;simp only at this ⊢; omega
theorem PQ.cell (Q : PQ M q T hs) {g : HR} (e : g ∈ hs) {p : zd × It} (hp : p ∈ g.rs) : yn q.t_.items p.1 = some (⟨(p.2.i : Int), g.ref⟩, 0) := Pt.wV Q.ii ((Q.il _ _).2 ⟨g, e, p, hp, rfl, rfl⟩)
theorem PQ.remove (Q : PQ M q T (h :: hs)) (A : h.rs.length < 1000) {p : zd × It} (hp : p ∈ h.rs) {f : Nat} (hf : 95000 < f) :
  Do (ug f q p.1) fun res => ∃ rs r' C' j, res = (okA (zd.mk 0 0) p.2, j) /\ h.rs.Perm (p :: rs) /\ PQ M j T (⟨h.ref, h.k, r', C', rs⟩ :: hs) /\ j.serial = q.serial /\ Stp' q j (bd h.k h.rs.length + 1) := by
 have hm : h ∈ h :: hs := List.mem_cons_self ..;have l := Q.hk h hm;obtain ⟨κ, n, B, F⟩ := Q.ar;have H := F.yF;have I := Q.cell hm hp;unfold ug vj vY;rw [I];simp only [bS];refine Do.f rfl ?_;rw [Q.heap hm];simp only [bS];refine (BR (f := f) (x := p.2) l.1 l.2 (List.mem_map_of_mem (f := Prod.snd) hp) H (by rw [HR.vv]; omega) hf).bind ?_;rintro _ ⟨q0, r', C', a1, rfl, y, h1, H1⟩;obtain ⟨s, t, e⟩ := List.append_of_mem hp;have i : h.rs.Perm (p :: (s ++ t)) := by rw [e]; exact List.perm_middle
 have hq : ((s ++ t).map Prod.snd).Perm q0 := by
  have := (i.map Prod.snd).symm.trans y;rw [pC] at this;exact this.cons_inv
 have D := (Q.re i).drop (p := p) (rs := s ++ t) (r' := r') (C' := C') (a2 := a1) rfl (by simp only [<- i.length_eq]; omega) (h1.p hq.symm (.refl _)) H1 B;simp only [<- i.length_eq] at D;refine D.bind fun t1 D => D.bind ?_
 rintro _ ⟨j, rfl, J, z, u⟩;refine ⟨_, rfl, s ++ t, r', C', j, rfl, i, J, u, z.lo, ?_⟩;have := z.hi;rw [HR.vv] at this;simp only at this ⊢; omega
theorem PQ.bh (Q : PQ M q T (h :: hs)) (F : h.rs.length < 1000) {p : zd × It} (hp : p ∈ h.rs) {f : Nat} (hf : 95000 < f) {key : Int} (l : key <= p.2.k) (I : Int) (hh o : zd) :
  Do (vE f q (yc.mk 5 I hh o p.1 key)) fun res => ∃ rs r' C' x, res = (okA (zd.mk 0 0) ⟨p.2.i, key, p.2.s⟩, x) /\ h.rs.Perm (p :: rs) /\ PQ M x T (⟨h.ref, h.k, r', C', (p.1, ⟨p.2.i, key, p.2.s⟩) :: rs⟩ :: hs) /\ x.serial = q.serial /\ Stp' q x (bd h.k h.rs.length + 2) := by
 have hm : h ∈ h :: hs := List.mem_cons_self ..;have u := Q.hk h hm;obtain ⟨κ, n, J, O⟩ := Q.ar;have H := O.yF;have S := Q.cell hm hp;have z := nE hm hp;unfold vE vj vY;rw [S];simp only [bS];rw [uT (Q.len z)];simp only [bS];refine Do.f rfl ?_;refine Do.f (dF (by omega)) ?_;rw [Q.heap hm];simp only [bS];refine (u.2.lower H (List.mem_map_of_mem (f := Prod.snd) hp) l).bind ?_;rintro _ ⟨U, a1, rfl, h1, H1⟩;refine (AB (f := f) (y := ⟨p.2.i, key, p.2.s⟩) u.1 h1 rfl (by unfold It.lt; simp only; omega) H1 (by rw [HR.vv]; omega) hf).bind ?_;rintro _ ⟨r', q0, C', a2, rfl, A, h2, B⟩;obtain ⟨s, t, e⟩ := List.append_of_mem hp;have j : h.rs.Perm (p :: (s ++ t)) := by rw [e]; exact List.perm_middle
 have hq : ((s ++ t).map Prod.snd).Perm q0 := by
  have := (j.map Prod.snd).symm.trans A;rw [pC] at this;exact this.cons_inv
 have D := (Q.re j).low (p := p) (y := ⟨p.2.i, key, p.2.s⟩) (rs := s ++ t) (r' := r') (C' := C') (a2 := a2) rfl rfl rfl (h2.p (hq.symm.cons _) (.refl _)) B J;simp only [<- j.length_eq] at D;refine Do.seq (PQ.root Q.ih (Q.live hm) r' h.rs.length) ?_;refine ⟨_, rfl, s ++ t, r', C', _, rfl, j, D, rfl, B.lo, ?_⟩;have := B.hi;rw [HR.vv] at this;simp only at this ⊢; omega
end
end
noncomputable section
set_option maxRecDepth 10000
namespace Pt
def refs : List zu -> Nat -> List zd
 | [], _ => []
 | x :: l, i => (if x.taken = true then [zd.mk (i : Int) x.gen] else []) ++ refs l (i + 1)
theorem rJ {r : zd} : ∀ {l : List zu} {i : Nat}, r ∈ refs l i ↔ ∃ (j : Nat) (x : zu), r.At = ((i + j : Nat) : Int) /\ l[j]? = some x /\ x.taken = true /\ r.Gen = x.gen
 | [], i => by simp [refs]
 | x :: l, i => by
  rw [refs, iA, rJ];constructor
  ·rintro (h | ⟨j, y, e, h, ht, t⟩)
   ·split at h
    ·rw [List.mem_singleton.1 h]; exact ⟨0, x, rfl, rfl, by assumption, rfl⟩
    ·cases h
   ·exact ⟨j + 1, y, by rw [e]; congr 1; omega, h, ht, t⟩
  ·rintro ⟨j, y, e, h, ht, t⟩;cases j with
   | zero =>
    simp only [List.getElem?_cons_zero, Option.some.injEq] at h;subst h
    left
    rw [if_pos ht];cases r; simp only at e t ⊢; rw [e, t]; simp
   | succ j => exact Or.inr ⟨j, y, by rw [e]; congr 1; omega, h, ht, t⟩
theorem iO {r : zd} {l : List zu} {i : Nat} (h : r ∈ refs l i) : (i : Int) <= r.At := by
 obtain ⟨j, x, e, _⟩ := rJ.1 h;omega
theorem s0 : ∀ {l : List zu} {i : Nat}, (refs l i).Nodup
 | [], i => List.nodup_nil
 | x :: l, i => by
  rw [refs];refine List.nodup_append.2 ⟨by split <;> simp, s0, fun a ha b j e => ?_⟩;have := iO j;split at ha
  ·rw [List.mem_singleton.1 ha] at e; subst e; simp only at this; omega
  ·cases ha
theorem oo : ∀ {l : List zu} {i : Nat}, (refs l i).length <= l.length
 | [], i => Nat.le_refl _
 | x :: l, i => by
  have := oo (l := l) (i := i + 1);rw [refs, lA, lC];split <;> simp <;> omega
theorem jK {p : ze} (hl : p.l.length <= 65536) : ∀ (rest pre : List zu) (out : List zd) (m : Nat), p.l = pre ++ rest -> out.length <= pre.length -> rest.length < m ->
  yI (p.l.length : Int) p m out (pre.length : Int) = some (out ++ refs rest pre.length)
 | [], pre, out, m + 1, e, j, hm => by
  unfold yI;rw [dF (by rw [e]; simp), cF, refs, aN]
 | x :: rest, pre, out, m + 1, e, j, hm => by
  have hlen : p.l.length = pre.length + (rest.length + 1) := by rw [e]; simp
  have ih := jK hl rest (pre ++ [x]) (out ++ (if x.taken = true then [zd.mk (pre.length : Int) x.gen] else [])) m (by rw [e]; simp) (by rw [lA, lA]; split <;> simp <;> omega) (by simp only [lC] at hm; omega);have i : mIdx p.l (pre.length : Int) = some x := by rw [e]; exact yr pre rest x
  unfold yI;rw [dT (by omega), cT, i];simp only [bS];rw [zR (by omega) (by omega)];rw [show ((pre ++ [x]).length : Int) = (pre.length : Int) + 1 by simp] at ih;rw [show (pre ++ [x]).length = pre.length + 1 by simp] at ih;rw [refs, <- aA];cases ht : x.taken with
  | true =>
   rw [ht, if_pos rfl] at ih;rw [cT, y4 (by simp only [List.length_singleton]; omega)];simp only [bS, if_true];exact ih
  | false =>
   rw [ht] at ih;simp only [Bool.false_eq_true, if_false, aN, cF, bS] at ih ⊢;exact ih
section
variable {p : ze} {T : Nat}
def out (p : ze) : List zd := refs p.l 0
theorem Inv.lb (I : Inv p T) : p.l.length <= 65536 := by have := I.len; have := I.most; omega
theorem pU (I : Inv p T) {k : Nat} (hk : 65536 < k) : xS k p = some (out p) := by
 have := I.lb;unfold xS;rw [show (0 : Int) = (([] : List zu).length : Int) from rfl, jK this p.l [] [] k rfl (Nat.le_refl _) (by omega)]
 rfl
theorem me {r : zd} : r ∈ out p ↔ ∃ v, Live p r v := by
 unfold out Live;rw [rJ];constructor
 ·rintro ⟨j, x, e, h, ht, i⟩;refine ⟨x.v_, j, by rw [e]; congr 1; omega, ?_⟩;rw [h]; cases x; simp only at ht i ⊢; rw [ht, i]
 ·rintro ⟨v, j, e, h⟩;exact ⟨j, _, by rw [e]; congr 1; omega, h, rfl, rfl⟩
theorem mQ : (out p).Nodup := s0
theorem Inv.gY (I : Inv p T) : (out p).length <= 65536 := Nat.le_trans oo I.lb
theorem iy {n : Int} (h0 : 0 <= n) (h1 : n <= 65536) (T : Nat) : Inv (ze.mk n [] []) T :=
 ⟨⟨h0, h1⟩, by simpa using h0, by simp, List.nodup_nil, by simp, by simp⟩
theorem gF {n : Int} {r : zd} {v : zC} : ¬ Live (ze.mk n [] []) r v := by
 rintro ⟨j, _, h⟩; simp at h
theorem Inv.mono {T' : Nat} (I : Inv p T) (h : T <= T') : Inv p T' := { I with gen := fun j x e => by have := I.gen j x e; omega }
end
end Pt
end
noncomputable section
set_option maxRecDepth 10000
def nL (p : ze) (g : zd) (r : zd) : Bool := match yn p r with
 | some v => zd.eq v.1.heap g
 | none => false
theorem ie {t : zj} {T : Nat} (I : Pt.Inv t.items T) (g : zd) (l : List zd) (hl : l.length <= 65536) (hv : ∀ r ∈ l, ∃ v, Pt.Live t.items r v) :
  ∀ (rest pre out : List zd) (m : Nat), l = pre ++ rest -> out.length <= pre.length -> rest.length < m -> xM (l.length : Int) t l g.At g.Gen m out (pre.length : Int) = some (out ++ rest.filter (nL t.items g))
 | [], pre, out, m + 1, e, y, hm => by
  unfold xM;rw [dF (by rw [e]; simp), cF]; simp
 | x :: rest, pre, out, m + 1, e, y, hm => by
  have hlen : l.length = pre.length + (rest.length + 1) := by rw [e]; simp
  obtain ⟨v, z⟩ := hv x (by rw [e]; simp);have i := Pt.wV I z;have j : nL t.items g x = zd.eq v.heap g := by unfold nL; rw [i]
  have u : mIdx l (pre.length : Int) = some x := by rw [e]; exact yr pre rest x
  simp only [lC] at hm;unfold xM;rw [dT (by omega), cT, u];simp only [bS];rw [i];simp only [bS];rw [zR (by omega) (by omega), List.filter_cons, j, show (zd.mk g.At g.Gen) = g from rfl];cases A : zd.eq v.heap g with
  | true =>
   have ih := ie I g l hl hv rest (pre ++ [x]) (out ++ [x]) m (by rw [e]; simp) (by simp; omega) (by omega);rw [show ((pre ++ [x]).length : Int) = (pre.length : Int) + 1 by simp] at ih;rw [cT, y4 (by simp only [List.length_singleton]; omega)];simp only [bS, if_true];rw [ih]; simp
  | false =>
   have ih := ie I g l hl hv rest (pre ++ [x]) out m (by rw [e]; simp) (by simp; omega) (by omega);rw [show ((pre ++ [x]).length : Int) = (pre.length : Int) + 1 by simp] at ih;rw [cF];simp only [bS, Bool.false_eq_true, if_false];exact ih
theorem dW {h g : zd} {T : Nat} (l : List zd) (hl : l.length <= 65536) (hn : l.Nodup) {p0 : ze} (h0 : ∀ r ∈ l, ∃ c, Pt.Live p0 r ⟨c, g⟩) :
  ∀ (rest pre : List zd) (t : zj) (m : Nat), l = pre ++ rest -> rest.length < m -> Pt.Inv t.items T -> t.items.most = p0.most -> t.items.l.length = p0.l.length -> t.items.free = p0.free ->
   (∀ s u, Pt.Live t.items s u ↔ (s ∈ pre /\ ∃ c, Pt.Live p0 s ⟨c, g⟩ /\ u = ⟨c, h⟩) \/ (s ∉ pre /\ Pt.Live p0 s u)) ->
   ∃ p', xL (l.length : Int) l g.At g.Gen h.At h.Gen m (pre.length : Int) t = some (zj.mk t.heaps p' t.at_) /\ Pt.Inv p' T /\ p'.most = p0.most /\ p'.l.length = p0.l.length /\ p'.free = p0.free /\
    (∀ s u, Pt.Live p' s u ↔ (s ∈ l /\ ∃ c, Pt.Live p0 s ⟨c, g⟩ /\ u = ⟨c, h⟩) \/ (s ∉ l /\ Pt.Live p0 s u))
 | [], pre, t, m + 1, e, hm, I, z, A, B, j => by
  refine ⟨t.items, ?_, I, z, A, B, by rw [e, aN]; exact j⟩;unfold xL;rw [dF (by rw [e]; simp), cF]
 | x :: rest, pre, t, m + 1, e, hm, I, z, A, B, j => by
  have hlen : l.length = pre.length + (rest.length + 1) := by rw [e]; simp
  obtain ⟨c, D⟩ := h0 x (by rw [e]; simp);have y : x ∉ pre := by
   rw [e] at hn;obtain ⟨_, _, h3⟩ := List.nodup_append.1 hn;exact fun hp => h3 x hp x (List.mem_cons_self ..) rfl
  have i : Pt.Live t.items x ⟨c, g⟩ := (j _ _).2 (Or.inr ⟨y, D⟩);have F : mIdx l (pre.length : Int) = some x := by rw [e]; exact yr pre rest x
  simp only [lC] at hm;have J := Pt.rE I i (zC.mk c h);have O := Pt.tK i (zC.mk c h);obtain ⟨p', U, r⟩ := dW l hl hn h0 rest (pre ++ [x]) (zj.mk t.heaps (ze.mk t.items.most (mSet t.items.l x.At ⟨x.Gen, true, zC.mk c h⟩) t.items.free) t.at_) m (by rw [e]; simp) (by omega) (Pt.rF I i _) z (by simpa [mSet] using A) B (by
   intro s u;refine (O s u).trans ?_;simp only [iA, List.mem_singleton];constructor
   ·rintro (⟨rfl, rfl⟩ | ⟨S, hl⟩)
    ·exact Or.inl ⟨Or.inr rfl, c, D, rfl⟩
    ·rcases (j _ _).1 hl with ⟨h1, h2⟩ | ⟨h1, h2⟩
     ·exact Or.inl ⟨Or.inl h1, h2⟩
     ·exact Or.inr ⟨fun h3 => h3.elim h1 S, h2⟩
   ·rintro (⟨h1 | rfl, c', h2, rfl⟩ | ⟨h1, h2⟩)
    ·exact Or.inr ⟨fun e => y (e ▸ h1), (j _ _).2 (Or.inl ⟨h1, c', h2, rfl⟩)⟩
    ·have := D.uniq h2;simp only [zC.mk.injEq, and_true] at this;exact Or.inl ⟨rfl, by rw [this]⟩
    ·simp only [not_or] at h1;exact Or.inr ⟨h1.2, (j _ _).2 (Or.inr ⟨h1.1, h2⟩)⟩)
  rw [show ((pre ++ [x]).length : Int) = (pre.length : Int) + 1 by simp] at U;refine ⟨p', ?_, r⟩;unfold xL;rw [dT (by omega), cT, F];simp only [bS];rw [Pt.wV I i];simp only [bS];rw [show (zd.mk h.At h.Gen) = h from rfl, J];simp only [bS];rw [zR (by omega) (by omega)];exact U
section
variable {M : Nat} {q : zs} {T : Nat} {h g : HR} {hs hs' : List HR}
theorem Af (hn : (hs.map HR.ref).Nodup) {a b : HR} (ha : a ∈ hs) (l : b ∈ hs) (e : a.ref = b.ref) : a = b := by
 induction hs with
 | nil => cases ha
 | cons c hs ih =>
  rw [pC, List.nodup_cons] at hn;rcases List.mem_cons.1 ha with j | j
  ·rcases List.mem_cons.1 l with i | i
   ·rw [j, i]
   ·exact absurd (by rw [<- j, e]; exact List.mem_map_of_mem (f := HR.ref) i) hn.1
  ·rcases List.mem_cons.1 l with i | i
   ·exact absurd (by rw [<- i, <- e]; exact List.mem_map_of_mem (f := HR.ref) j) hn.1
   ·exact ih hn.2 j i
theorem PQ.meld (Q : PQ M q T (h :: g :: hs)) (Y : h.k = g.k) (b2 : h.rs.length < 256) (b3 : g.rs.length < 256) {f : Nat} (hf : 95000 < f) :
  Do (td f q h.ref g.ref) fun res => ∃ r' C' q', res = (zM.mk 0 (zd.mk 0 0) (zd.mk 0 0) (zH.mk 0 0) ((h.rs.length : Int) + g.rs.length), q') /\ PQ M q' T (⟨h.ref, h.k, r', C', h.rs ++ g.rs⟩ :: hs) /\ q'.serial = q.serial /\ Stp' q q' (bd h.k (h.rs.length + g.rs.length)) := by
 have hm : h ∈ h :: g :: hs := List.mem_cons_self ..;have B : g ∈ h :: g :: hs := mC _ (List.mem_cons_self ..);have J := Q.hk h hm;have Z := Q.hk g B;rw [<- Y] at Z;have D : h.ref ≠ g.ref := by
  intro e;have := Q.hn;simp [e] at this
 have F := Q.live B;obtain ⟨κ, n, eC, H0⟩ := Q.ar;have H := H0.yF;rw [oB, oB] at H;have I := Q.ii;have z : um f q.t_ g.ref = some ((Pt.out q.t_.items).filter (nL q.t_.items g.ref)) := by
  unfold um;rw [Pt.pU I (by omega)];simp only [bS];rw [show (0 : Int) = (([] : List zd).length : Int) from rfl, ie I g.ref (Pt.out q.t_.items) I.gY (fun r hr => Pt.me.1 hr) (Pt.out q.t_.items) [] [] f (List.nil_append _).symm (Nat.le_refl _) (by have := I.gY; omega)];simp
 generalize O : (Pt.out q.t_.items).filter (nL q.t_.items g.ref) = l' at z;have x : ∀ r, r ∈ l' ↔ ∃ p ∈ g.rs, r = p.1 := by
  intro r;rw [<- O, List.mem_filter];constructor
  ·rintro ⟨h1, h2⟩;obtain ⟨v, hv⟩ := Pt.me.1 h1;unfold nL at h2;rw [Pt.wV I hv] at h2;have h3 := (vW _ _).1 h2;obtain ⟨g0, j, p, hp, rfl, rfl⟩ := (Q.il _ _).1 hv;have := Af Q.hn j B h3;subst this;exact ⟨p, hp, rfl⟩
  ·rintro ⟨p, hp, rfl⟩;have hv : Pt.Live q.t_.items p.1 ⟨(p.2.i : Int), g.ref⟩ := (Q.il _ _).2 ⟨g, B, p, hp, rfl, rfl⟩;refine ⟨Pt.me.2 ⟨_, hv⟩, ?_⟩;unfold nL;rw [Pt.wV I hv];exact (vW _ _).2 rfl
 have S : l'.length <= 65536 := by rw [<- O]; exact Nat.le_trans (List.length_filter_le _ _) I.gY
 have a0 : l'.Nodup := by rw [<- O]; exact Pt.mQ.sublist List.filter_sublist
 obtain ⟨p', e4, I', e5, e6, e7, b0⟩ := dW (h := h.ref) (g := g.ref) l' S a0 (p0 := q.t_.items) (fun r hr => by
  obtain ⟨p, hp, rfl⟩ := (x r).1 hr;exact ⟨_, (Q.il _ _).2 ⟨g, B, p, hp, rfl, rfl⟩⟩) l' [] q.t_ f rfl (by omega) I rfl rfl rfl (fun s u => by simp)
 simp only [List.length_nil] at e4;have A := Q.live hm;have U : uh f q.t_ h.ref g.ref = some (0, zj.mk (zh.mk q.t_.heaps.most (mSet q.t_.heaps.l g.ref.At ⟨g.ref.Gen, false, (zE.mk 0 0 0)⟩) (q.t_.heaps.free ++ [g.ref.At])) p' q.t_.at_) := by
  unfold uh;rw [Ph.wV Q.ih A];simp only [bS];rw [show ((0 : Int) != 0) = false from rfl, cF, Ph.wV Q.ih F];simp only [bS];rw [show ((0 : Int) != 0) = false from rfl, cF, show zd.eq h.ref g.ref = false by simpa using fun e => D ((vW _ _).1 e), cF, show (h.val.kind != g.val.kind) = false by simpa [HR.val] using Y, cF, z];simp only [bS];rw [show ((0 : Nat) : Int) = 0 from rfl] at e4;rw [e4];simp only [bS];rw [Ph.rr Q.ih F]
  rfl
 unfold td;rw [Q.heap hm];simp only [bS];rw [Q.heap B];simp only [bS];rw [U];simp only [bS];refine Do.f rfl ?_;refine (Ax (f := f) J.1 J.2 Z.2 H (by rw [HR.vv]; omega) (by rw [HR.vv]; omega) hf).bind ?_;rintro _ ⟨r', C', a1, rfl, h1, H1⟩;rw [zR (by omega) (by omega)];have a2 := Ph.pT Q.ih F;have a3 := Ph.qo F;have y := (a3 h.ref h.val).2 ⟨D, A⟩;refine Do.seq (PQ.root (t := zj.mk (zh.mk q.t_.heaps.most (mSet q.t_.heaps.l g.ref.At ⟨g.ref.Gen, false, (zE.mk 0 0 0)⟩) (q.t_.heaps.free ++ [g.ref.At])) p' q.t_.at_) a2 y r' ((h.rs.length : Int) + g.rs.length)) ?_;have X : allR (⟨h.ref, h.k, r', C', h.rs ++ g.rs⟩ :: hs) = allR (h :: g :: hs) := by
  rw [wR, wR, wR, aA]
 have a4 : ((h :: hs).map HR.ref).Nodup := by
  have := Q.hn;simp only [pC, List.nodup_cons, iC, not_or] at this ⊢;exact ⟨this.1.2, this.2.2⟩
 have a5 : ∀ g0 ∈ hs, g0.ref ≠ g.ref := by
  have := Q.hn;simp only [pC, List.nodup_cons] at this;exact fun g0 h0 e => this.2.1 (e ▸ List.mem_map_of_mem (f := HR.ref) h0)
 refine ⟨_, rfl, r', C', _, rfl, ?_, rfl, H1.lo, ?_⟩
 ·refine ⟨?_, I', ?_, ?_, Q.at1, ?_, Q.en1, ?_, ?_, a4, ?_, ?_, ⟨⟨κ.C, q.a_.m_.steps, κ.g, κ.mo⟩, _, eC, H1⟩, Q.mi, e5.trans Q.mm, Q.mb, ?_, ?_, Q.cm, ?_, Q.sq⟩
  ·exact Ph.rF a2 y (zE.mk h.k r' ((h.rs.length : Int) + g.rs.length))
  ·refine gH (h := h) (P := Ph.Live (zh.mk q.t_.heaps.most (mSet q.t_.heaps.l g.ref.At ⟨g.ref.Gen, false, (zE.mk 0 0 0)⟩) (q.t_.heaps.free ++ [g.ref.At]))) ?_ a4 rfl fun s u => ?_
   ·intro s u;refine (a3 s u).trans ⟨?_, ?_⟩
    ·rintro ⟨a6, hl⟩;obtain ⟨g0, j, rfl, rfl⟩ := (Q.hl _ _).1 hl;simp only [iC] at j;rcases j with rfl | rfl | j
     ·exact ⟨_, List.mem_cons_self .., rfl, rfl⟩
     ·exact absurd rfl a6
     ·exact ⟨g0, mC _ j, rfl, rfl⟩
    ·rintro ⟨g0, j, rfl, rfl⟩;rcases List.mem_cons.1 j with rfl | j
     ·exact ⟨D, A⟩
     ·exact ⟨a5 g0 j, (Q.hl _ _).2 ⟨g0, by simp [j], rfl, rfl⟩⟩
   ·have := Ph.tK y (zE.mk h.k r' ((h.rs.length : Int) + g.rs.length)) s u;simpa [HR.val] using this
  ·intro s u;refine (b0 s u).trans ⟨?_, ?_⟩
   ·rintro (⟨W, c, hc, rfl⟩ | ⟨W, hl⟩)
    ·obtain ⟨p, hp, rfl⟩ := (x s).1 W;have := hc.uniq ((Q.il _ _).2 ⟨g, B, p, hp, rfl, rfl⟩);simp only [zC.mk.injEq, and_true] at this;exact ⟨_, List.mem_cons_self .., p, List.mem_append_right _ hp, rfl, by rw [this]⟩
    ·obtain ⟨g0, j, p, hp, rfl, rfl⟩ := (Q.il _ _).1 hl;simp only [iC] at j;rcases j with rfl | rfl | j
     ·exact ⟨_, List.mem_cons_self .., p, mL _ hp, rfl, rfl⟩
     ·exact absurd ((x _).2 ⟨p, hp, rfl⟩) W
     ·exact ⟨g0, mC _ j, p, hp, rfl, rfl⟩
   ·have key : ∀ g0 ∈ h :: g :: hs, g0.ref ≠ g.ref -> ∀ p ∈ g0.rs, p.1 ∉ l' := by
     intro g0 j a7 p hp hl;obtain ⟨p2, b1, e⟩ := (x _).1 hl;have h5 := (Q.il p.1 _).2 ⟨g0, j, p, hp, rfl, rfl⟩;have h6 := (Q.il p.1 _).2 ⟨g, B, p2, b1, e, rfl⟩;have := h5.uniq h6;simp only [zC.mk.injEq] at this;exact a7 this.2
    rintro ⟨g0, j, p, hp, rfl, rfl⟩;rcases List.mem_cons.1 j with rfl | j
    ·rcases List.mem_append.1 hp with hp | hp
     ·exact Or.inr ⟨key h hm D p hp, (Q.il _ _).2 ⟨h, hm, p, hp, rfl, rfl⟩⟩
     ·exact Or.inl ⟨(x _).2 ⟨p, hp, rfl⟩, _, (Q.il _ _).2 ⟨g, B, p, hp, rfl, rfl⟩, rfl⟩
    ·exact Or.inr ⟨key g0 (by simp [j]) (a5 g0 j) p hp, (Q.il _ _).2 ⟨g0, by simp [j], p, hp, rfl, rfl⟩⟩
  ·rw [X]; exact Q.at2
  ·rw [X]; exact Q.en2
  ·intro g0 j;rcases List.mem_cons.1 j with rfl | j
   ·refine ⟨J.1, ?_⟩;show HK (KD h.k) r' ((h.rs ++ g.rs).map Prod.snd) C';rw [List.map_append]; exact h1
   ·exact Q.hk g0 (by simp [j])
  ·rw [X]; exact Q.rn
  ·rw [X]; exact Q.sn
  ·rw [X];show (p'.l.length : Int) - p'.free.length = _;rw [e6, e7]; exact Q.ci
  ·have := Q.ch;simp only [mSet, List.length_set, lA, lC, List.length_nil] at this ⊢;omega
  ·rw [X]; exact Q.sr
 ·have := H1.hi;rw [HR.vv, HR.vv] at this;simp only at this ⊢; omega
theorem PQ.make (Q : PQ M q T hs) {k : Int} (hk : Kd k) (y : hs.length < 64) (D : T < 4611686018427387000) :
  ∃ r x, ue q.t_ k = some (r, 0, x) /\ PQ M (zs.mk q.items q.a_ x q.entries q.serial) (T + 1) (⟨r, k, -1, [], []⟩ :: hs) := by
 obtain ⟨r, p', e, z, i, A, j, l⟩ := Ph.qd Q.ih (by omega) (by have := Q.ch; have := Q.cm; omega) (zE.mk k (-1) 0);have t : qJ k = some true := by
  unfold qJ;rcases hk with rfl | rfl | rfl <;> rfl
 refine ⟨r, zj.mk p' q.t_.items q.t_.at_, ?_, ?_⟩
 ·unfold ue;rw [t];simp only [bS];rw [show (!true) = false from rfl, cF, e]
  rfl
 ·have F : allR (⟨r, k, -1, [], []⟩ :: hs) = allR hs := rfl;have B : allC (⟨r, k, -1, [], []⟩ :: hs) = allC hs := rfl;refine ⟨z, Q.ii.mono (by omega), ?_, ?_, Q.at1, Q.at2, Q.en1, Q.en2, ?_, ?_, Q.rn, Q.sn, Q.ar, Q.mi, Q.mm, Q.mb, Q.ci, ?_, j.trans Q.cm, Q.sr, ?_⟩
  ·intro s u;refine (A s u).trans ⟨?_, ?_⟩
   ·rintro (⟨rfl, rfl⟩ | hl)
    ·exact ⟨_, List.mem_cons_self .., rfl, rfl⟩
    ·obtain ⟨g0, h0, e⟩ := (Q.hl _ _).1 hl;exact ⟨g0, mC _ h0, e⟩
   ·rintro ⟨g0, h0, rfl, rfl⟩;rcases List.mem_cons.1 h0 with rfl | h0
    ·exact Or.inl ⟨rfl, rfl⟩
    ·exact Or.inr ((Q.hl _ _).2 ⟨g0, h0, rfl, rfl⟩)
  ·intro s u;refine (Q.il s u).trans ⟨?_, ?_⟩
   ·rintro ⟨g0, h0, e⟩; exact ⟨g0, mC _ h0, e⟩
   ·rintro ⟨g0, h0, p, hp, e⟩;rcases List.mem_cons.1 h0 with rfl | h0
    ·cases hp
    ·exact ⟨g0, h0, p, hp, e⟩
  ·intro g0 h0;rcases List.mem_cons.1 h0 with rfl | h0
   ·exact ⟨hk, Ce hk⟩
   ·exact Q.hk g0 h0
  ·rw [pC, List.nodup_cons];refine ⟨fun hm => ?_, Q.hn⟩;obtain ⟨g0, h0, e⟩ := List.mem_map.1 hm;exact i _ ((Q.hl _ _).2 ⟨g0, h0, e.symm, rfl⟩)
  ·have := Q.ch;simp only [lC] at l ⊢; omega
  ·have := Q.sq; simp only; omega
theorem AU (h1 : 1 <= M) (h2 : M <= 16384) : ∃ q, gv (M : Int) = some (some q, 0) /\ PQ M q 0 [] /\ q.serial = 0 /\ q.a_.m_.steps = 0 := by
 obtain ⟨a, i, e⟩ := mW (C := 2 * M) (by omega);have l : w64 (2 * (M : Int)) = ((2 * M : Nat) : Int) := by rw [zR (by omega) (by omega)]; simp
 have t : (if (if 16384 < (M : Int) then 16384 else (M : Int)) > 1 then (if 16384 < (M : Int) then 16384 else (M : Int)) else 1) = (M : Int) := by
  rw [show (if 16384 < (M : Int) then 16384 else (M : Int)) = (M : Int) from if_neg (by omega)]; split <;> omega
 have x : (if (if 65536 < (M : Int) then 65536 else (M : Int)) > 0 then (if 65536 < (M : Int) then 65536 else (M : Int)) else 0) = (M : Int) := by
  rw [show (if 65536 < (M : Int) then 65536 else (M : Int)) = (M : Int) from if_neg (by omega), if_pos (by omega)]
 refine ⟨zs.mk (M : Int) a (zj.mk (zh.mk 64 [] []) (ze.mk (M : Int) [] []) []) [] 0, ?_, ?_, rfl, ?_⟩
 ·unfold gv;rw [show ((decide ((M : Int) < 1)) || (decide ((M : Int) > 16384))) = false by simp; omega, cF, l, i];simp only [bS];unfold ma uq vX;simp only [bS];rw [t, x]
  rfl
 ·refine ⟨⟨⟨by simp, by simp⟩, by simp, by simp, List.nodup_nil, by simp, by simp⟩, Pt.iy (by omega) (by omega) 0, ?_, ?_, List.nodup_nil, ?_, List.nodup_nil, ?_, ?_, List.nodup_nil, List.nodup_nil, List.nodup_nil, ⟨_, _, rfl, e⟩, rfl, rfl, ⟨h1, h2⟩, rfl, rfl, rfl, ?_, by simp⟩
  ·intro s u;constructor
   ·rintro ⟨j, _, h⟩; simp at h
   ·rintro ⟨g, h, _⟩; cases h
  ·intro s u;constructor
   ·rintro ⟨j, _, h⟩; simp at h
   ·rintro ⟨g, h, _⟩; cases h
  ·intro c s;constructor
   ·intro h; cases h
   ·rintro ⟨p, hp, _⟩; cases hp
  ·intro c s;constructor
   ·intro h; cases h
   ·rintro ⟨p, hp, _⟩; cases hp
  ·intro h hh; cases hh
  ·intro p hp; cases hp
 ·have := e.lo; have := e.hi; simp only at *; omega
end
end
noncomputable section
set_option maxRecDepth 10000
def begun (q : zs) (m : zG) : zs := zs.mk q.items (za.mk q.a_.l q.a_.never q.a_.free m) q.t_ q.entries q.serial
section
variable {M : Nat} {q : zs} {T : Nat} {h g : HR} {hs hs' : List HR} {f : Nat}
theorem PQ.begin (Q : PQ M q T hs) : ∃ m, uV q.a_.m_ = some m /\ m.steps = q.a_.m_.steps /\ PQ M (begun q m) T hs := by
 obtain ⟨κ, n, e, H⟩ := Q.ar;refine ⟨_, rfl, rfl, ?_⟩;exact Q.Bb ⟨⟨κ.C, q.a_.m_.steps, q.a_.m_.steps, _⟩, 0, e, ⟨H.len, H.cap, H.nev, H.fre, H.hav, H.oth, Int.le_trans H.b0 H.lo, Int.le_refl _, by simp, H.mx, rfl, rfl⟩⟩
theorem nZ {q1 q2 : zs} {m : zG} {B : Nat} (e : m.steps = q.a_.m_.steps) (h : Stp' (begun q m) q2 B) : Stp' q q2 B := by
 unfold Stp' at *
 rw [<- e]; exact h
theorem PQ.cf (Q : PQ M q T hs) {k : Int} (hk : Kd k) (j : hs.length < 64) (l : T < 4611686018427387000) {a b c : zd} {key : Int} :
  Do (yb f q (yc.mk 1 k a b c key)) fun res => ∃ r i, res = (zM.mk 0 r (zd.mk 0 0) (zH.mk 0 0) 0, i) /\ PQ M i (T + 1) (⟨r, k, -1, [], []⟩ :: hs) /\ i.serial = q.serial /\ Stp' q i 0 := by
 obtain ⟨m, e, es, u⟩ := Q.begin;unfold yb;refine Do.seq (r := ()) rfl (Do.seq e (Do.t rfl ?_));obtain ⟨r, z, x, y⟩ := u.make hk j l;refine Do.seq x ?_;exact ⟨_, rfl, r, _, rfl, y, rfl, nZ (q1 := q) es ⟨Int.le_refl _, by simp [begun]⟩⟩
theorem PQ.cV (Q : PQ M q T (h :: hs)) (j : (allR (h :: hs)).length < M) (u : h.rs.length < 1000) (z : T < 4611686018427387000) (hf : 95000 < f) (y : Int) (key : Int) (o i0 : zd) :
  Do (yb f q (yc.mk 2 y h.ref o i0 key)) fun res => ∃ (i : zd) (x : It) (r' : Int) (C' : Heap) (l : zs), res = (zM.mk 0 (zd.mk 0 0) i (zH.mk key q.serial) 0, l) /\ x.k = key /\ x.s = q.serial /\
   PQ M l (T + 1) (⟨h.ref, h.k, r', C', (i, x) :: h.rs⟩ :: hs) /\ l.serial = q.serial + 1 /\ Stp' q l (bd h.k h.rs.length + 3) := by
 obtain ⟨m, e, es, A⟩ := Q.begin;unfold yb;refine Do.seq (r := ()) rfl (Do.seq e (Do.f rfl (Do.t rfl ?_)));refine (A.insert j u z hf y key o i0).bind ?_;rintro _ ⟨i, x, r', C', l, rfl, h1, h2, h3, h4, B⟩;exact ⟨_, rfl, i, x, r', C', l, rfl, h1, h2, h3, h4, nZ (q1 := q) es B⟩
theorem PQ.BN (Q : PQ M q T (h :: hs)) (j : h.rs.length < 1000) (hf : 95000 < f) {k key : Int} {o i0 : zd} :
  Do (yb f q (yc.mk 3 k h.ref o i0 key)) fun res => ∃ i, PQ M i T (h :: hs) /\ i.serial = q.serial /\ Stp' q i 100 /\ ((h.rs = [] /\ res = (zM.mk 27 (zd.mk 0 0) (zd.mk 0 0) (zH.mk 0 0) 0, i)) \/ ∃ p ∈ h.rs, res = (okA p.1 p.2, i) /\ ∀ p' ∈ h.rs, ¬ p'.2.lt p.2) := by
 obtain ⟨m, e, es, l⟩ := Q.begin;unfold yb;refine Do.seq (r := ()) rfl (Do.seq e (Do.f rfl (Do.f rfl (Do.t rfl ?_))));refine (l.min j hf).bind ?_;rintro res ⟨i, h1, h2, h3, h4⟩;exact ⟨_, rfl, i, h1, h2, nZ (q1 := q) es h3, h4⟩
theorem PQ.BP (Q : PQ M q T (h :: hs)) (j : h.rs.length < 1000) (l : h.rs ≠ []) (hf : 95000 < f) {k key : Int} {o i0 : zd} :
  Do (yb f q (yc.mk 4 k h.ref o i0 key)) fun res => ∃ p rs r' C' i, res = (okA p.1 p.2, i) /\ h.rs.Perm (p :: rs) /\ (∀ p' ∈ h.rs, ¬ p'.2.lt p.2) /\ PQ M i T (⟨h.ref, h.k, r', C', rs⟩ :: hs) /\ i.serial = q.serial /\ Stp' q i (bd h.k h.rs.length + 1) := by
 obtain ⟨m, e, es, u⟩ := Q.begin;unfold yb;refine Do.seq (r := ()) rfl (Do.seq e (Do.f rfl (Do.f rfl (Do.f rfl (Do.t rfl ?_)))));refine (u.pop j l hf).bind ?_;rintro res ⟨p, rs, r', C', i, h1, h2, h3, h4, x, y⟩;exact ⟨_, rfl, p, rs, r', C', i, h1, h2, h3, h4, x, nZ (q1 := q) es y⟩
theorem PQ.fN (Q : PQ M q T (h :: hs)) (u : h.rs.length < 1000) {p : zd × It} (hp : p ∈ h.rs) (hf : 95000 < f) {key : Int} (l : key <= p.2.k) {k : Int} {hh o : zd} :
  Do (yb f q (yc.mk 5 k hh o p.1 key)) fun res => ∃ rs r' C' j, res = (okA (zd.mk 0 0) ⟨p.2.i, key, p.2.s⟩, j) /\ h.rs.Perm (p :: rs) /\ PQ M j T (⟨h.ref, h.k, r', C', (p.1, ⟨p.2.i, key, p.2.s⟩) :: rs⟩ :: hs) /\ j.serial = q.serial /\ Stp' q j (bd h.k h.rs.length + 2) := by
 obtain ⟨m, e, es, x⟩ := Q.begin;unfold yb;refine Do.seq (r := ()) rfl (Do.seq e (Do.f rfl (Do.f rfl (Do.f rfl (Do.f rfl (Do.t rfl ?_))))));refine (x.bh u hp hf l k hh o).bind ?_;rintro res ⟨rs, r', C', j, h1, h2, h4, y, z⟩;exact ⟨_, rfl, rs, r', C', j, h1, h2, h4, y, nZ (q1 := q) es z⟩
theorem PQ.bf (Q : PQ M q T (h :: hs)) (j : h.rs.length < 1000) {p : zd × It} (hp : p ∈ h.rs) (hf : 95000 < f) {k key : Int} {hh o : zd} :
  Do (yb f q (yc.mk 6 k hh o p.1 key)) fun res => ∃ rs r' C' i, res = (okA (zd.mk 0 0) p.2, i) /\ h.rs.Perm (p :: rs) /\ PQ M i T (⟨h.ref, h.k, r', C', rs⟩ :: hs) /\ i.serial = q.serial /\ Stp' q i (bd h.k h.rs.length + 1) := by
 obtain ⟨m, e, es, l⟩ := Q.begin;unfold yb;refine Do.seq (r := ()) rfl (Do.seq e (Do.f rfl (Do.f rfl (Do.f rfl (Do.f rfl (Do.f rfl (Do.t rfl ?_)))))));refine (l.remove j hp hf).bind ?_;rintro res ⟨rs, r', C', i, h1, h2, h4, u, x⟩;exact ⟨_, rfl, rs, r', C', i, h1, h2, h4, u, nZ (q1 := q) es x⟩
theorem PQ.AL (Q : PQ M q T (h :: g :: hs)) (j : h.k = g.k) (l : h.rs.length < 256) (u : g.rs.length < 256) (hf : 95000 < f) {k key : Int} {i0 : zd} :
  Do (yb f q (yc.mk 7 k h.ref g.ref i0 key)) fun res => ∃ r' C' i, res = (zM.mk 0 (zd.mk 0 0) (zd.mk 0 0) (zH.mk 0 0) ((h.rs.length : Int) + g.rs.length), i) /\ PQ M i T (⟨h.ref, h.k, r', C', h.rs ++ g.rs⟩ :: hs) /\ i.serial = q.serial /\ Stp' q i (bd h.k (h.rs.length + g.rs.length)) := by
 obtain ⟨m, e, es, x⟩ := Q.begin;unfold yb;refine Do.seq (r := ()) rfl (Do.seq e (Do.f rfl (Do.f rfl (Do.f rfl (Do.f rfl (Do.f rfl (Do.f rfl (Do.t rfl ?_))))))));refine (x.meld j l u hf).bind ?_;rintro res ⟨r', C', i, h1, h4, y, z⟩;exact ⟨_, rfl, r', C', i, h1, h4, y, nZ (q1 := q) es z⟩
end
end
noncomputable section
set_option maxRecDepth 10000
namespace Pj
structure Inv (p : zg) (T : Nat) : Prop where
 most : 0 <= p.most /\ p.most <= 65536
 len : (p.l.length : Int) <= p.most
 fre : ∀ f ∈ p.free, ∃ (j : Nat) (x : zw), f = (j : Int) /\ p.l[j]? = some x /\ x.taken = false
 fnd : p.free.Nodup
 cov : ∀ (j : Nat) (x : zw), p.l[j]? = some x -> x.taken = false -> (j : Int) ∈ p.free
 gen : ∀ (j : Nat) (x : zw), p.l[j]? = some x -> 1 <= x.gen /\ x.gen <= T
def Live (p : zg) (r : zd) (v : zD) : Prop := ∃ j : Nat, r.At = (j : Int) /\ p.l[j]? = some ⟨r.Gen, true, v⟩
section
variable {p : zg} {T : Nat} {r : zd} {v : zD}
theorem Live.idx (h : Live p r v) : mIdx p.l r.At = some ⟨r.Gen, true, v⟩ := by
 obtain ⟨j, e, h⟩ := h;rw [e, yJ]; exact h
theorem Live.uniq {w : zD} (h : Live p r v) (i : Live p r w) : v = w := by
 have j := h.idx;have e := i.idx;rw [j] at e;simp only [Option.some.injEq, zw.mk.injEq, true_and] at e;exact e
theorem Inv.flen (I : Inv p T) : p.free.length <= p.l.length := by
 have h1 : (p.free.map Int.toNat).Nodup := List.pairwise_map.2 (I.fnd.imp_of_mem fun {x y} t z u e => by
  obtain ⟨i, _, rfl, _⟩ := I.fre x t;obtain ⟨j, _, rfl, _⟩ := I.fre y z;simp only [tN] at e;exact u (by rw [e]))
 have h2 := qs (m := List.range p.l.length) h1 fun x t => by
  obtain ⟨f, hf, rfl⟩ := List.mem_map.1 t;obtain ⟨j, y, rfl, hj, _⟩ := I.fre f hf;simp only [tN, List.mem_range];exact (List.getElem?_eq_some_iff.1 hj).1
 simpa using h2
theorem wH (I : Inv p T) (h : Live p r v) : zS p r = some (some r.At, 0) := by
 have hi := h.idx;obtain ⟨j, e, h⟩ := h;have i := I.gen _ _ h;simp only at i;have hl := (List.getElem?_eq_some_iff.1 h).1;unfold zS;rw [dF (by omega), dF (by omega), dF (by omega), hi];simp
theorem wV (I : Inv p T) (h : Live p r v) : yq p r = some (v, 0) := by
 unfold yq;rw [wH I h];simp [uz, oS, h.idx]
theorem rE (I : Inv p T) (h : Live p r v) (w : zD) : xj p r w = some (0, zg.mk p.most (mSet p.l r.At ⟨r.Gen, true, w⟩) p.free) := by
 unfold xj;rw [wH I h];simp [uz, oS, h.idx]
theorem rr (I : Inv p T) (h : Live p r v) : zV p r = some (v, 0, zg.mk p.most (mSet p.l r.At ⟨r.Gen, false, (zD.mk 0 0 0 (zd.mk 0 0))⟩) (p.free ++ [r.At])) := by
 have e := I.flen;have h1 := I.len;have h2 := I.most;unfold zV;rw [wH I h];simp only [bS, uz, oS, h.idx];rw [y4 (by simp only [List.length_singleton]; omega)];simp [mSet]
theorem rq (I : Inv p T) (u : T < 4611686018427387904) {fs : List Int} {j : Nat} {x : zw} (hf : p.free = fs ++ [(j : Int)]) (hj : p.l[j]? = some x) :
  yo p v = some (zd.mk (j : Int) (x.gen + 1), true, zg.mk p.most (mSet p.l (j : Int) ⟨x.gen + 1, true, v⟩) fs) := by
 have y := I.gen _ _ hj;have t : fs.length < 1000000 := by
  have h0 := I.flen;rw [hf] at h0;simp only [lA, List.length_singleton] at h0;have := I.len;have := I.most;omega
 have hw : w64 (((fs ++ [(j : Int)]).length : Int) - 1) = (fs.length : Int) := by
  rw [zR] <;> simp <;> omega
 have i : mIdx (fs ++ [(j : Int)]) (fs.length : Int) = some (j : Int) := yr fs [] (j : Int);have e : mCut (fs ++ [(j : Int)]) 0 (fs.length : Int) = some fs := by
  unfold mCut;rw [if_pos ⟨by omega, by omega, by simp; omega⟩];simp
 unfold yo;rw [hf, hw, dT (by omega)];simp only [cT, i, e, bS];rw [yJ, hj];simp only [bS];rw [zR (by omega) (by omega)];simp [mSet]
theorem qI (I : Inv p T) (hf : p.free = []) (hl : (p.l.length : Int) < p.most) :
  yo p v = some (zd.mk (p.l.length : Int) 1, true, zg.mk p.most (p.l ++ [⟨1, true, v⟩]) []) := by
 have := I.most;unfold yo;rw [hf];rw [show w64 ((([] : List Int).length : Int) - 1) = -1 by rw [zR] <;> simp];rw [dF (by omega)];simp only [cF];rw [dF (by omega)];simp only [cF];rw [y4 (by simp only [List.length_singleton]; omega)];simp only [bS];rw [yr];simp only [bS];rw [show w64 (0 + 1) = 1 by rw [zR] <;> simp];simp [mSet]
theorem yK {l : List zw} {j i : Nat} {x y : zw} (h : l[j]? = some y) : (l.set j x)[i]? = if i = j then some x else l[i]? := by
 have := (List.getElem?_eq_some_iff.1 h).1;by_cases e : i = j
 ·subst e; rw [if_pos rfl, List.getElem?_set_self this]
 ·rw [if_neg e, getD_set_ne (fun h => e h.symm)]
theorem rF (I : Inv p T) (h : Live p r v) (w : zD) : Inv (zg.mk p.most (mSet p.l r.At ⟨r.Gen, true, w⟩) p.free) T := by
 obtain ⟨j, e, h⟩ := h;have u := I.gen _ _ h;refine ⟨I.most, by simpa [mSet] using I.len, fun f hf => ?_, I.fnd, fun i x t ht => ?_, fun i x t => ?_⟩
 ·obtain ⟨i, x, rfl, hi, t⟩ := I.fre f hf;refine ⟨i, x, rfl, ?_, t⟩;simp only [mSet, e, tN];rw [yK h, if_neg]; exact hi;rintro rfl;rw [h] at hi; cases hi; simp at t
 ·simp only [mSet, e, tN] at t;rw [yK h] at t;split at t
  ·cases t; simp at ht
  ·exact I.cov i x t ht
 ·simp only [mSet, e, tN] at t;rw [yK h] at t;split at t
  ·cases t; exact u
  ·exact I.gen i x t
theorem tK (h : Live p r v) (w : zD) (s : zd) (u : zD) : Live (zg.mk p.most (mSet p.l r.At ⟨r.Gen, true, w⟩) p.free) s u ↔ (s = r /\ u = w) \/ (s ≠ r /\ Live p s u) := by
 obtain ⟨j, e, h⟩ := h;constructor
 ·rintro ⟨i, t, hi⟩;simp only [mSet, e, tN] at hi;rw [yK h] at hi;split at hi
  ·rename_i x;subst x;simp only [Option.some.injEq, zw.mk.injEq, true_and] at hi;refine Or.inl ⟨?_, hi.2.symm⟩;cases s; cases r; simp only at e t hi ⊢; rw [t, e, hi.1]
  ·rename_i x;refine Or.inr ⟨?_, i, t, hi⟩;rintro rfl;exact x (by omega)
 ·rintro (⟨rfl, rfl⟩ | ⟨y, i, t, hi⟩)
  ·refine ⟨j, e, ?_⟩;simp only [mSet, e, tN];rw [yK h, if_pos rfl]
  ·refine ⟨i, t, ?_⟩;simp only [mSet, e, tN];rw [yK h, if_neg]; exact hi;rintro rfl;rw [h] at hi;simp only [Option.some.injEq, zw.mk.injEq, true_and] at hi;refine y ?_;cases s; cases r; simp only at e t hi ⊢; rw [t, e, hi.1]
theorem pT (I : Inv p T) (h : Live p r v) : Inv (zg.mk p.most (mSet p.l r.At ⟨r.Gen, false, (zD.mk 0 0 0 (zd.mk 0 0))⟩) (p.free ++ [r.At])) T := by
 obtain ⟨j, e, h⟩ := h;have z := I.gen _ _ h;have u : r.At ∉ p.free := by
  intro hf;obtain ⟨i, x, B, hi, t⟩ := I.fre _ hf;have : i = j := by omega
  subst this;rw [h] at hi; cases hi; simp at t
 refine ⟨I.most, by simpa [mSet] using I.len, fun f hf => ?_, ?_, fun i x t ht => ?_, fun i x t => ?_⟩
 ·simp only [mSet, e, tN];rcases List.mem_append.1 hf with hf | hf
  ·obtain ⟨i, x, rfl, hi, t⟩ := I.fre f hf;refine ⟨i, x, rfl, ?_, t⟩;rw [yK h, if_neg]; exact hi;rintro rfl;rw [h] at hi; cases hi; simp at t
  ·rw [List.mem_singleton.1 hf, e];exact ⟨j, _, rfl, by rw [yK h, if_pos rfl], rfl⟩
 ·exact List.nodup_append.2 ⟨I.fnd, by simp, fun a ha b A => by rw [List.mem_singleton.1 A]; rintro rfl; exact u ha⟩
 ·simp only [mSet, e, tN] at t;rw [yK h] at t;split at t
  ·rename_i y; subst y; exact List.mem_append_right _ (by rw [e]; simp)
  ·exact mL _ (I.cov i x t ht)
 ·simp only [mSet, e, tN] at t;rw [yK h] at t;split at t
  ·cases t; exact z
  ·exact I.gen i x t
theorem qo (h : Live p r v) (s : zd) (u : zD) : Live (zg.mk p.most (mSet p.l r.At ⟨r.Gen, false, (zD.mk 0 0 0 (zd.mk 0 0))⟩) (p.free ++ [r.At])) s u ↔ s ≠ r /\ Live p s u := by
 obtain ⟨j, e, h⟩ := h;constructor
 ·rintro ⟨i, t, hi⟩;simp only [mSet, e, tN] at hi;rw [yK h] at hi;split at hi
  ·simp at hi
  ·rename_i x;refine ⟨?_, i, t, hi⟩;rintro rfl;exact x (by omega)
 ·rintro ⟨y, i, t, hi⟩;refine ⟨i, t, ?_⟩;simp only [mSet, e, tN];rw [yK h, if_neg]; exact hi;rintro rfl;rw [h] at hi;simp only [Option.some.injEq, zw.mk.injEq, true_and] at hi;refine y ?_;cases s; cases r; simp only at e t hi ⊢; rw [t, e, hi.1]
theorem qd (I : Inv p T) (U : T < 4611686018427387904) (z : (p.l.length : Int) < p.most + p.free.length) (v : zD) :
  ∃ r p', yo p v = some (r, true, p') /\ Inv p' (T + 1) /\ (∀ w, ¬ Live p r w) /\ (∀ s u, Live p' s u ↔ (s = r /\ u = v) \/ Live p s u) /\ p'.most = p.most /\ (p'.l.length : Int) - p'.free.length = (p.l.length : Int) - p.free.length + 1 := by
 rcases List.eq_nil_or_concat p.free with hf | ⟨fs, f, hf⟩
 ·rw [hf] at z;refine ⟨_, _, qI I hf (by simpa using z), ⟨I.most, by simp at z ⊢; omega, by simp, by simp, ?_, ?_⟩, ?_, ?_, rfl, by rw [hf]; simp⟩
  ·intro j x t ht;simp only at t;by_cases hj : j < p.l.length
   ·rw [List.getElem?_append_left hj] at t;have := I.cov j x t ht;rw [hf] at this; simp at this
   ·rw [List.getElem?_append_right (by omega)] at t;by_cases e : j - p.l.length = 0
    ·rw [e] at t; simp at t; subst t; simp at ht
    ·rw [List.getElem?_eq_none (by simp; omega)] at t; cases t
  ·intro j x t;simp only at t;by_cases hj : j < p.l.length
   ·rw [List.getElem?_append_left hj] at t;have := I.gen j x t;omega
   ·rw [List.getElem?_append_right (by omega)] at t;by_cases e : j - p.l.length = 0
    ·rw [e] at t; simp at t; subst t; simp; omega
    ·rw [List.getElem?_eq_none (by simp; omega)] at t; cases t
  ·rintro w ⟨j, e, h⟩;have := (List.getElem?_eq_some_iff.1 h).1;simp only at e;omega
  ·intro s u;constructor
   ·rintro ⟨j, e, h⟩;simp only at h;by_cases hj : j < p.l.length
    ·rw [List.getElem?_append_left hj] at h;exact Or.inr ⟨j, e, h⟩
    ·rw [List.getElem?_append_right (by omega)] at h;by_cases W : j - p.l.length = 0
     ·rw [W] at h;simp at h;refine Or.inl ⟨?_, h.2.symm⟩;cases s; simp only at e h ⊢;rw [e, <- h.1]; congr 1; omega
     ·rw [List.getElem?_eq_none (by simp; omega)] at h; cases h
   ·rintro (⟨rfl, rfl⟩ | ⟨j, e, h⟩)
    ·exact ⟨p.l.length, rfl, by simp⟩
    ·have := (List.getElem?_eq_some_iff.1 h).1;exact ⟨j, e, by rw [List.getElem?_append_left this]; exact h⟩
 ·rw [List.concat_eq_append] at hf;obtain ⟨j, x, rfl, hj, ht⟩ := I.fre f (by rw [hf]; simp);have X := I.gen j x hj;have hn := I.fnd;rw [hf] at hn;obtain ⟨J, -, O⟩ := List.nodup_append.1 hn;have S : (j : Int) ∉ fs := fun h => O _ h _ (List.mem_singleton.2 rfl) rfl
  refine ⟨_, _, rq I U hf hj, ⟨I.most, by simpa [mSet] using I.len, ?_, J, ?_, ?_⟩, ?_, ?_, rfl, by rw [hf]; simp [mSet]; omega⟩
  ·intro f B;obtain ⟨i, y, rfl, hi, A⟩ := I.fre f (by rw [hf]; exact mL _ B);refine ⟨i, y, rfl, ?_, A⟩;simp only [mSet, tN];rw [yK hj, if_neg]; exact hi;rintro rfl; exact S B
  ·intro i y A D;simp only [mSet, tN] at A;rw [yK hj] at A;split at A
   ·cases A; simp at D
   ·rename_i F;have := I.cov i y A D;rw [hf] at this;rcases List.mem_append.1 this with h | h
    ·exact h
    ·simp at h; omega
  ·intro i y A;simp only [mSet, tN] at A;rw [yK hj] at A;split at A
   ·cases A; simp only; omega
   ·have := I.gen i y A; omega
  ·rintro w ⟨i, e, h⟩;simp only at e h;have : i = j := by omega
   subst this;rw [hj] at h;simp only [Option.some.injEq] at h;rw [h] at ht; simp at ht
  ·intro s u;constructor
   ·rintro ⟨i, e, h⟩;simp only [mSet, tN] at h;rw [yK hj] at h;split at h
    ·rename_i F;subst F;simp only [Option.some.injEq, zw.mk.injEq, true_and] at h;refine Or.inl ⟨?_, h.2.symm⟩;cases s; simp only at e h ⊢; rw [e, <- h.1]
    ·exact Or.inr ⟨i, e, h⟩
   ·rintro (⟨rfl, rfl⟩ | ⟨i, e, h⟩)
    ·refine ⟨j, rfl, ?_⟩;simp only [mSet, tN];rw [yK hj, if_pos rfl]
    ·refine ⟨i, e, ?_⟩;simp only [mSet, tN];rw [yK hj, if_neg]; exact h;rintro rfl;rw [hj] at h;simp only [Option.some.injEq] at h;rw [h] at ht; simp at ht
end
end Pj
end
noncomputable section
set_option maxRecDepth 10000
namespace Pj
def refs : List zw -> Nat -> List zd
 | [], _ => []
 | x :: l, i => (if x.taken = true then [zd.mk (i : Int) x.gen] else []) ++ refs l (i + 1)
theorem rJ {r : zd} : ∀ {l : List zw} {i : Nat}, r ∈ refs l i ↔ ∃ (j : Nat) (x : zw), r.At = ((i + j : Nat) : Int) /\ l[j]? = some x /\ x.taken = true /\ r.Gen = x.gen
 | [], i => by simp [refs]
 | x :: l, i => by
  rw [refs, iA, rJ];constructor
  ·rintro (h | ⟨j, y, e, h, ht, t⟩)
   ·split at h
    ·rw [List.mem_singleton.1 h]; exact ⟨0, x, rfl, rfl, by assumption, rfl⟩
    ·cases h
   ·exact ⟨j + 1, y, by rw [e]; congr 1; omega, h, ht, t⟩
  ·rintro ⟨j, y, e, h, ht, t⟩;cases j with
   | zero =>
    simp only [List.getElem?_cons_zero, Option.some.injEq] at h;subst h
    left
    rw [if_pos ht];cases r; simp only at e t ⊢; rw [e, t]; simp
   | succ j => exact Or.inr ⟨j, y, by rw [e]; congr 1; omega, h, ht, t⟩
theorem iO {r : zd} {l : List zw} {i : Nat} (h : r ∈ refs l i) : (i : Int) <= r.At := by
 obtain ⟨j, x, e, _⟩ := rJ.1 h;omega
theorem s0 : ∀ {l : List zw} {i : Nat}, (refs l i).Nodup
 | [], i => List.nodup_nil
 | x :: l, i => by
  rw [refs];refine List.nodup_append.2 ⟨by split <;> simp, s0, fun a ha b j e => ?_⟩;have := iO j;split at ha
  ·rw [List.mem_singleton.1 ha] at e; subst e; simp only at this; omega
  ·cases ha
theorem oo : ∀ {l : List zw} {i : Nat}, (refs l i).length <= l.length
 | [], i => Nat.le_refl _
 | x :: l, i => by
  have := oo (l := l) (i := i + 1);rw [refs, lA, lC];split <;> simp <;> omega
theorem jK {p : zg} (hl : p.l.length <= 65536) : ∀ (rest pre : List zw) (out : List zd) (m : Nat), p.l = pre ++ rest -> out.length <= pre.length -> rest.length < m ->
  yV (p.l.length : Int) p m out (pre.length : Int) = some (out ++ refs rest pre.length)
 | [], pre, out, m + 1, e, j, hm => by
  unfold yV;rw [dF (by rw [e]; simp), cF, refs, aN]
 | x :: rest, pre, out, m + 1, e, j, hm => by
  have hlen : p.l.length = pre.length + (rest.length + 1) := by rw [e]; simp
  have ih := jK hl rest (pre ++ [x]) (out ++ (if x.taken = true then [zd.mk (pre.length : Int) x.gen] else [])) m (by rw [e]; simp) (by rw [lA, lA]; split <;> simp <;> omega) (by simp only [lC] at hm; omega);have i : mIdx p.l (pre.length : Int) = some x := by rw [e]; exact yr pre rest x
  unfold yV;rw [dT (by omega), cT, i];simp only [bS];rw [zR (by omega) (by omega)];rw [show ((pre ++ [x]).length : Int) = (pre.length : Int) + 1 by simp] at ih;rw [show (pre ++ [x]).length = pre.length + 1 by simp] at ih;rw [refs, <- aA];cases ht : x.taken with
  | true =>
   rw [ht, if_pos rfl] at ih;rw [cT, y4 (by simp only [List.length_singleton]; omega)];simp only [bS, if_true];exact ih
  | false =>
   rw [ht] at ih;simp only [Bool.false_eq_true, if_false, aN, cF, bS] at ih ⊢;exact ih
section
variable {p : zg} {T : Nat}
def out (p : zg) : List zd := refs p.l 0
theorem Inv.lb (I : Inv p T) : p.l.length <= 65536 := by have := I.len; have := I.most; omega
theorem pU (I : Inv p T) {k : Nat} (hk : 65536 < k) : xi k p = some (out p) := by
 have := I.lb;unfold xi;rw [show (0 : Int) = (([] : List zw).length : Int) from rfl, jK this p.l [] [] k rfl (Nat.le_refl _) (by omega)]
 rfl
theorem me {r : zd} : r ∈ out p ↔ ∃ v, Live p r v := by
 unfold out Live;rw [rJ];constructor
 ·rintro ⟨j, x, e, h, ht, i⟩;refine ⟨x.v_, j, by rw [e]; congr 1; omega, ?_⟩;rw [h]; cases x; simp only at ht i ⊢; rw [ht, i]
 ·rintro ⟨v, j, e, h⟩;exact ⟨j, _, by rw [e]; congr 1; omega, h, rfl, rfl⟩
theorem mQ : (out p).Nodup := s0
theorem Inv.gY (I : Inv p T) : (out p).length <= 65536 := Nat.le_trans oo I.lb
theorem iy {n : Int} (h0 : 0 <= n) (h1 : n <= 65536) (T : Nat) : Inv (zg.mk n [] []) T :=
 ⟨⟨h0, h1⟩, by simpa using h0, by simp, List.nodup_nil, by simp, by simp⟩
theorem gF {n : Int} {r : zd} {v : zD} : ¬ Live (zg.mk n [] []) r v := by
 rintro ⟨j, _, h⟩; simp at h
theorem Inv.mono {T' : Nat} (I : Inv p T) (h : T <= T') : Inv p T' := { I with gen := fun j x e => by have := I.gen j x e; omega }
end
end Pj
end
noncomputable section
set_option maxRecDepth 10000
structure JR where
 q : Int
 data : Int
 R : zd
 item : zd
 it : It
def JR.pr (j : JR) : zd × It := (j.item, j.it)
def JR.job (j : JR) : zD := zD.mk j.q j.it.k j.data j.item
def sel (x : Int) (L : List JR) : List (zd × It) := (L.filter fun j => j.q == x).map JR.pr
theorem sT (x : Int) (A B : List JR) : sel x (A ++ B) = sel x A ++ sel x B := by simp [sel]
theorem df {x : Int} {j : JR} (h : j.q = x) (B : List JR) : sel x (j :: B) = j.pr :: sel x B := by simp [sel, List.filter_cons, h]
theorem ey {x : Int} {j : JR} (h : j.q ≠ x) (B : List JR) : sel x (j :: B) = sel x B := by simp [sel, List.filter_cons, h]
theorem ni {x : Int} {L : List JR} {p : zd × It} : p ∈ sel x L ↔ ∃ j ∈ L, j.q = x /\ p = j.pr := by
 simp only [sel, List.mem_map, List.mem_filter, beq_iff_eq];constructor
 ·rintro ⟨j, ⟨h1, h2⟩, rfl⟩; exact ⟨j, h1, h2, rfl⟩
 ·rintro ⟨j, h1, h2, rfl⟩; exact ⟨j, ⟨h1, h2⟩, rfl⟩
theorem mK : ∀ {L : List JR}, (∀ j ∈ L, j.q = 0 \/ j.q = 1) -> (sel 0 L ++ sel 1 L).Perm (L.map JR.pr)
 | [], _ => .refl _
 | j :: L, h => by
  have ih := mK fun j hj => h j (mC _ hj)
  rcases h j (List.mem_cons_self ..) with e | e
  ·rw [df e, ey (by omega), List.cons_append, pC]; exact ih.cons _
  ·rw [df e, ey (by omega), pC]; exact List.perm_middle.trans (ih.cons _)
def PQ2 (N : Nat) (q : zs) (T : Nat) (k : Int) (r0 r1 : zd) (L : List JR) : Prop :=
 ∃ h0 h1 : HR, PQ N q T [h0, h1] /\ h0.ref = r0 /\ h1.ref = r1 /\ h0.k = k /\ h1.k = k /\ h0.rs.Perm (sel 0 L) /\ h1.rs.Perm (sel 1 L)
section
variable {N : Nat} {q : zs} {T : Nat} {k : Int} {r0 r1 : zd} {L : List JR}
theorem PQ2.focus (P : PQ2 N q T k r0 r1 L) {x : Int} (y : x = 0 \/ x = 1) : ∃ h g : HR, mIdx [r0, r1] x = some h.ref /\ PQ N q T [h, g] /\ h.k = k /\ h.rs.Perm (sel x L) /\ g.rs.Perm (sel (1 - x) L) /\
  ∀ i T' r' C' e L', PQ N i T' (⟨h.ref, h.k, r', C', e⟩ :: [g]) -> e.Perm (sel x L') -> sel (1 - x) L' = sel (1 - x) L -> PQ2 N i T' k r0 r1 L' := by
 obtain ⟨h0, h1, Q, e0, j, l, t, p0, p1⟩ := P;rcases y with rfl | rfl
 ·refine ⟨h0, h1, by rw [e0]; rfl, Q, l, p0, p1, ?_⟩;intro i T' r' C' e L' u hp hs;exact ⟨_, h1, u, e0, j, l, t, hp, p1.trans (by rw [show (1 - 0 : Int) = 1 from rfl] at hs; rw [hs])⟩
 ·refine ⟨h1, h0, by rw [j]; rfl, Q.p (List.Perm.swap ..), t, p1, p0, ?_⟩;intro i T' r' C' e L' u hp hs;exact ⟨h0, _, u.p (List.Perm.swap ..), e0, j, l, t, p0.trans (by rw [show (1 - 1 : Int) = 0 from rfl] at hs; rw [hs]), hp⟩
theorem PQ2.same (P : PQ2 N q T k r0 r1 L) {e : zs} {T' : Nat} (h : ∀ hs, PQ N q T hs -> PQ N e T' hs) : PQ2 N e T' k r0 r1 L := by
 obtain ⟨h0, h1, Q, r⟩ := P;exact ⟨h0, h1, h _ Q, r⟩
end
structure DI (N : Nat) (k : Int) (d : zb) (L : List JR) (T : Nat) : Prop where
 kd : Kd k
 dk : d.kind = k
 dm : d.most = N
 nb : 1 <= N /\ N <= 60
 pq : PQ2 N d.q T k d.heaps0 d.heaps1 L
 jq : ∀ j ∈ L, j.q = 0 \/ j.q = 1
 jp : Pj.Inv d.t_.p T
 jm : d.t_.p.most = N
 jl : ∀ r v, Pj.Live d.t_.p r v ↔ ∃ j ∈ L, r = j.R /\ v = j.job
 by1 : (d.t_.by_.map Prod.fst).Nodup
 by2 : ∀ i r, mGet zd.eq i d.t_.by_ = some r ↔ ∃ j ∈ L, i = j.item /\ r = j.R
 wh1 : (d.when.map Prod.fst).Nodup
 wh2 : ∀ r s, mGet zd.eq r d.when = some s ↔ ∃ j ∈ L, r = j.R /\ s = j.it.s
 rn : (L.map JR.R).Nodup
 cn : (d.t_.p.l.length : Int) - d.t_.p.free.length = L.length
 bu : 3600 <= d.budget
 la : 0 <= d.last /\ d.last <= d.budget
 to : 0 <= d.top /\ d.top <= d.budget
def dq (d : zb) (q : zs) (t : zr) (w : List (zd × Int)) : zb :=
 zb.mk d.kind d.most q d.heaps0 d.heaps1 t w d.clock d.budget d.last d.top
def Stp (d d' : zb) (B : Nat) : Prop := d.q.a_.m_.steps <= d'.q.a_.m_.steps /\ d'.q.a_.m_.steps <= d.q.a_.m_.steps + B
def no (e : Int) : zq := zq.mk e (zd.mk 0 0) 0 0 0
section
variable {N : Nat} {k : Int} {d : zb} {L : List JR} {T : Nat} {f : Nat}
theorem DI.items (D : DI N k d L T) : (L.map JR.item).Nodup /\ L.length <= N /\ (L.map fun j => j.it.s).Nodup /\ ∀ j ∈ L, 0 <= j.it.s /\ j.it.s < d.q.serial := by
 obtain ⟨h0, h1, Q, e0, e, i, l, p0, p1⟩ := D.pq;have hp : (allR [h0, h1]).Perm (L.map JR.pr) := by
  have : allR [h0, h1] = h0.rs ++ h1.rs := by simp [allR]
  rw [this];exact (p0.append p1).trans (mK D.jq)
 have h1 := ((hp.map Prod.fst).nodup_iff).1 Q.rn;have h2 := Q.Ca;have h3 := ((hp.map fun p => p.2.s).nodup_iff).1 Q.sn;rw [List.map_map] at h1 h3;rw [hp.length_eq, lM] at h2;refine ⟨h1, h2, h3, fun j hj => ?_⟩;have := Q.sr j.pr (hp.mem_iff.2 (List.mem_map_of_mem hj));exact this
theorem dJ {N n : Nat} (h : N <= 60) (hn : n <= N) : bd k n <= 2630 := by
 unfold bd; split <;> omega
theorem kE {x : Int} {L : List JR} : (sel x L).length <= L.length := by
 unfold sel; rw [lM]; exact List.length_filter_le _ _
theorem bg (D : DI N k d L T) : xI d.t_.p = some (L.length : Int) := by
 have := D.items.2.1;have := D.nb;unfold xI;rw [D.cn, zR (by omega) (by omega)]
theorem mM {x : Int} {L : List JR} {j : JR} (hj : j.q = x) {A B : List JR} (e : L = A ++ j :: B) : (sel x L).Perm (j.pr :: sel x (A ++ B)) /\ sel (1 - x) (A ++ B) = sel (1 - x) L := by
 rw [e, sT, sT, sT, sT, df hj, ey (by omega)];exact ⟨List.perm_middle, rfl⟩
theorem DI.schedule (D : DI N k d L T) (hT : T < 1000000) (hf : 95000 < f) {c : zt} (hq : c.Queue = 0 \/ c.Queue = 1) :
  Do (xv f d c) fun res => (L.length = N /\ res = (no 13, d)) \/
   (L.length < N /\ ∃ (j : JR) (B : zs) (p' : zg) (v : zD), j.q = c.Queue /\ j.data = c.Data /\ j.it.k = c.Time /\ j.it.s = d.q.serial /\ B.serial = d.q.serial + 1 /\
    yo d.t_.p v = some (j.R, true, p') /\
    res = (zq.mk 0 j.R c.Time c.Data 0, dq d B (zr.mk p' (mPut zd.eq j.item j.R d.t_.by_)) (mPut zd.eq j.R d.q.serial d.when)) /\
    DI N k (dq d B (zr.mk p' (mPut zd.eq j.item j.R d.t_.by_)) (mPut zd.eq j.R d.q.serial d.when)) (L ++ [j]) (T + 1) /\ Stp d (dq d B (zr.mk p' (mPut zd.eq j.item j.R d.t_.by_)) (mPut zd.eq j.R d.q.serial d.when)) 2700) := by
 have W := D.nb;have b0 := D.items;have F := bg D;unfold xv sS;rw [F];simp only [bS];refine Do.if (fun e => ?_) (fun e => ?_)
 ·have X := of_decide_eq_true e;rw [D.dm] at X;exact ⟨_, rfl, Or.inl ⟨by omega, rfl⟩⟩
 ·have X := of_decide_eq_false e;rw [D.dm] at X;have Y : L.length < N := by omega
  obtain ⟨h, g, Z, Q, hk, u, I, back⟩ := D.pq.focus hq;rw [Z];simp only [bS];have a6 : (allR [h, g]).length = L.length := by
   have h1 : allR [h, g] = h.rs ++ g.rs := by simp [allR]
   have h2 := (mK D.jq).length_eq;rw [h1, lA, u.length_eq, I.length_eq];rw [lA, lM] at h2;rcases hq with e | e <;> rw [e] <;> simp <;> omega
  have b1 : h.rs.length <= L.length := by rw [u.length_eq]; exact kE
  refine (Q.cV (f := f) (by omega) (by omega) (by omega) hf 0 c.Time (zd.mk 0 0) (zd.mk 0 0)).bind ?_;rintro _ ⟨i, x, r', C', B, rfl, z, A, Q', J, O⟩;simp only;have y : ∀ j ∈ L, j.item ≠ i := by
   intro j hj e;have h1 := Q'.rn;rw [wR, List.cons_append, pC, List.nodup_cons] at h1;refine h1.1 ?_;have h2 : j.pr ∈ sel 0 L ++ sel 1 L := (mK D.jq).mem_iff.2 (List.mem_map_of_mem hj);have h3 : j.pr ∈ h.rs ++ allR [g] := by
    have e3 : allR [g] = g.rs := by simp [allR]
    rw [e3];refine ((u.append I).mem_iff).2 ?_;rcases List.mem_append.1 h2 with h2 | h2 <;> rcases hq with e | e <;> rw [e] <;> simp [h2]
   exact List.mem_map.2 ⟨j.pr, h3, e⟩
  have a0 : mGet zd.eq i d.t_.by_ = none := by
   cases S : mGet zd.eq i d.t_.by_ with
   | none => rfl
   | some r =>
    obtain ⟨j, hj, e1, _⟩ := (D.by2 _ _).1 S;exact absurd e1.symm (y j hj)
  obtain ⟨R, p', hR, I', a1, a2, a3, a4⟩ := Pj.qd D.jp (by omega) (by have := D.cn; rw [D.jm]; omega) (zD.mk c.Queue c.Time c.Data i);unfold sN;simp only;rw [fy a0];simp only [bS];rw [F];unfold wS;simp only [bS];rw [show ((L.length : Int) == d.t_.p.most) = false by rw [D.jm]; simp; omega, cF, cF, hR];refine ⟨_, rfl, Or.inr ⟨Y, ⟨c.Queue, c.Data, R, i, x⟩, B, p', zD.mk c.Queue c.Time c.Data i, rfl, rfl, z, A, J, hR, rfl, ?_, ?_⟩⟩
  ·have t : ∀ j, j ∈ L ++ [(⟨c.Queue, c.Data, R, i, x⟩ : JR)] ↔ j ∈ L \/ j = ⟨c.Queue, c.Data, R, i, x⟩ := by simp
   have U : ∀ j ∈ L, j.R ≠ R := fun j hj e => a1 _ ((D.jl _ _).2 ⟨j, hj, e.symm, rfl⟩)
   refine ⟨D.kd, D.dk, D.dm, D.nb, ?_, ?_, I', a3.trans D.jm, ?_, tW vW D.by1, ?_, tW vW D.wh1, ?_, ?_, ?_, D.bu, D.la, D.to⟩
   ·refine back _ _ _ _ _ _ Q' ?_ ?_
    ·rw [sT, df (x := c.Queue) (j := ⟨c.Queue, c.Data, R, i, x⟩) rfl];exact (u.cons (i, x)).trans (List.perm_append_singleton (i, x) (sel c.Queue L)).symm
    ·rw [sT, ey (j := ⟨c.Queue, c.Data, R, i, x⟩) (by simp only; omega)];simp [sel]
   ·intro j hj;rcases (t j).1 hj with hj | rfl
    ·exact D.jq j hj
    ·exact hq
   ·intro r v;refine (a2 r v).trans ⟨?_, ?_⟩
    ·rintro (⟨rfl, rfl⟩ | hl)
     ·exact ⟨_, (t _).2 (Or.inr rfl), rfl, by simp only [JR.job, z]⟩
     ·obtain ⟨j, hj, e⟩ := (D.jl _ _).1 hl;exact ⟨j, (t _).2 (Or.inl hj), e⟩
    ·rintro ⟨j, hj, rfl, rfl⟩;rcases (t j).1 hj with hj | rfl
     ·exact Or.inr ((D.jl _ _).2 ⟨j, hj, rfl, rfl⟩)
     ·exact Or.inl ⟨rfl, by simp only [JR.job, z]⟩
   ·intro i2 r;refine (rU vW).trans ⟨?_, ?_⟩
    ·rintro (⟨rfl, rfl⟩ | ⟨a5, S⟩)
     ·exact ⟨_, (t _).2 (Or.inr rfl), rfl, rfl⟩
     ·obtain ⟨j, hj, e⟩ := (D.by2 _ _).1 S;exact ⟨j, (t _).2 (Or.inl hj), e⟩
    ·rintro ⟨j, hj, rfl, rfl⟩;rcases (t j).1 hj with hj | rfl
     ·exact Or.inr ⟨y j hj, (D.by2 _ _).2 ⟨j, hj, rfl, rfl⟩⟩
     ·exact Or.inl ⟨rfl, rfl⟩
   ·intro r s;refine (rU vW).trans ⟨?_, ?_⟩
    ·rintro (⟨rfl, rfl⟩ | ⟨a5, S⟩)
     ·exact ⟨_, (t _).2 (Or.inr rfl), rfl, A.symm⟩
     ·obtain ⟨j, hj, e⟩ := (D.wh2 _ _).1 S;exact ⟨j, (t _).2 (Or.inl hj), e⟩
    ·rintro ⟨j, hj, rfl, rfl⟩;rcases (t j).1 hj with hj | rfl
     ·exact Or.inr ⟨U j hj, (D.wh2 _ _).2 ⟨j, hj, rfl, rfl⟩⟩
     ·exact Or.inl ⟨rfl, A⟩
   ·rw [List.map_append];refine List.nodup_append.2 ⟨D.rn, by simp, ?_⟩;intro a ha b hb e;obtain ⟨j, hj, rfl⟩ := List.mem_map.1 ha;simp only [pC, List.map_nil, List.mem_singleton] at hb;exact U j hj (e.trans hb)
   ·have := D.cn;show (p'.l.length : Int) - p'.free.length = _;rw [a4];simp only [lA, lC, List.length_nil]; omega
  ·have h1 := dJ (k := h.k) W.2 (n := h.rs.length) (by omega);exact ⟨O.1, Int.le_trans O.2 (by omega)⟩
theorem DI.get (D : DI N k d L T) {j : JR} (hj : j ∈ L) : yq d.t_.p j.R = some (j.job, 0) := Pj.wV D.jp ((D.jl _ _).2 ⟨j, hj, rfl, rfl⟩)
end
end
noncomputable section
set_option maxRecDepth 10000
namespace Pj
theorem lU {p : zg} {T : Nat} (I : Inv p T) (r : zd) : (∃ v, Live p r v) \/ ∃ e, (e == (0 : Int)) = false /\ zS p r = some (none, e) := by
 unfold zS;by_cases h1 : r.At < 0
 ·exact Or.inr ⟨22, rfl, by rw [dT h1]; rfl⟩
 rw [dF h1];by_cases h2 : r.At >= (p.l.length : Int)
 ·exact Or.inr ⟨22, rfl, by rw [dT h2]; rfl⟩
 rw [dF h2];by_cases h3 : r.Gen < 1
 ·exact Or.inr ⟨22, rfl, by rw [dT h3]; rfl⟩
 rw [dF h3];obtain ⟨j, hj⟩ : ∃ j : Nat, r.At = (j : Int) := ⟨r.At.toNat, by omega⟩
 obtain ⟨x, i⟩ : ∃ x, p.l[j]? = some x := ⟨_, List.getElem?_eq_getElem (by omega)⟩
 rw [hj, yJ, i];simp only [cF, bS];by_cases h4 : r.Gen > x.gen
 ·exact Or.inr ⟨22, rfl, by rw [dT h4]; rfl⟩
 rw [dF h4];simp only [cF];by_cases t : r.Gen < x.gen
 ·exact Or.inr ⟨23, rfl, by rw [dT t]; rfl⟩
 rw [dF t];cases ht : x.taken with
 | false => exact Or.inr ⟨23, rfl, rfl⟩
 | true =>
  refine Or.inl ⟨x.v_, j, hj, ?_⟩;rw [i];have : r.Gen = x.gen := by omega
  cases x; simp only at ht this ⊢; rw [ht, this]
theorem gr {p : zg} {r : zd} {e : Int} (he : (e == (0 : Int)) = false) (h : zS p r = some (none, e)) : yq p r = some (zD.mk 0 0 0 (zd.mk 0 0), e) := by
 unfold yq;rw [h];simp [uz, oS, bne, he]
theorem eD {p : zg} {r : zd} {e : Int} (he : (e == (0 : Int)) = false) (h : zS p r = some (none, e)) : zV p r = some (zD.mk 0 0 0 (zd.mk 0 0), e, p) := by
 unfold zV;rw [h];simp [uz, oS, bne, he]
end Pj
section
variable {N : Nat} {k : Int} {d : zb} {L : List JR} {T : Nat} {f : Nat}
theorem DI.eh (D : DI N k d L T) {e : zs} (P : PQ2 N e T k d.heaps0 d.heaps1 L) : DI N k (dq d e d.t_ d.when) L T :=
 ⟨D.kd, D.dk, D.dm, D.nb, P, D.jq, D.jp, D.jm, D.jl, D.by1, D.by2, D.wh1, D.wh2, D.rn, D.cn, D.bu, D.la, D.to⟩
theorem DI.drop (D : DI N k d L T) {A B : List JR} {j : JR} (e : L = A ++ j :: B) {F : zs} (P : PQ2 N F T k d.heaps0 d.heaps1 (A ++ B)) :
  ∃ p', zV d.t_.p j.R = some (j.job, 0, p') /\ yZ (dq d F d.t_ d.when) j.R = some (zq.mk 0 (zd.mk 0 0) j.it.k j.data 0, dq d F (zr.mk p' (mDel zd.eq j.item d.t_.by_)) (mDel zd.eq j.R d.when)) /\
   DI N k (dq d F (zr.mk p' (mDel zd.eq j.item d.t_.by_)) (mDel zd.eq j.R d.when)) (A ++ B) T := by
 have hj : j ∈ L := by rw [e]; simp
 have u : Pj.Live d.t_.p j.R j.job := (D.jl _ _).2 ⟨j, hj, rfl, rfl⟩;have y := Pj.rr D.jp u;have l : ∀ i, i ∈ L ↔ i = j \/ i ∈ A ++ B := by
  intro i; rw [e]; simp only [iA, iC];constructor
  ·rintro (h | h | h)
   ·exact Or.inr (Or.inl h)
   ·exact Or.inl h
   ·exact Or.inr (Or.inr h)
  ·rintro (h | h | h)
   ·exact Or.inr (Or.inl h)
   ·exact Or.inl h
   ·exact Or.inr (Or.inr h)
 have hp : L.Perm (j :: (A ++ B)) := by rw [e]; exact List.perm_middle
 have x := ((hp.map JR.R).nodup_iff).1 D.rn;have z := ((hp.map JR.item).nodup_iff).1 D.items.1;rw [pC, List.nodup_cons] at x z;have J : ∀ i ∈ A ++ B, i.R ≠ j.R := fun i hi e => x.1 (e ▸ List.mem_map_of_mem (f := JR.R) hi)
 have O : ∀ i ∈ A ++ B, i.item ≠ j.item := fun i hi e => z.1 (e ▸ List.mem_map_of_mem (f := JR.item) hi)
 refine ⟨_, y, ?_, ?_⟩
 ·unfold yZ uJ;show ((zV d.t_.p j.R).bind _).bind _ = _;rw [y]
  rfl
 ·refine ⟨D.kd, D.dk, D.dm, D.nb, P, fun i hi => D.jq i ((l i).2 (Or.inr hi)), Pj.pT D.jp u, D.jm, ?_, ri D.by1, ?_, ri D.wh1, ?_, x.2, ?_, D.bu, D.la, D.to⟩
  ·intro r v;refine (Pj.qo u r v).trans ⟨?_, ?_⟩
   ·rintro ⟨t, hl⟩;obtain ⟨i, hi, rfl, rfl⟩ := (D.jl _ _).1 hl;rcases (l i).1 hi with rfl | hi
    ·exact absurd rfl t
    ·exact ⟨i, hi, rfl, rfl⟩
   ·rintro ⟨i, hi, rfl, rfl⟩;exact ⟨J i hi, (D.jl _ _).2 ⟨i, (l i).2 (Or.inr hi), rfl, rfl⟩⟩
  ·intro i2 r;refine (qx vW D.by1).trans ⟨?_, ?_⟩
   ·rintro ⟨t, I⟩;obtain ⟨i, hi, rfl, rfl⟩ := (D.by2 _ _).1 I;rcases (l i).1 hi with rfl | hi
    ·exact absurd rfl t
    ·exact ⟨i, hi, rfl, rfl⟩
   ·rintro ⟨i, hi, rfl, rfl⟩;exact ⟨O i hi, (D.by2 _ _).2 ⟨i, (l i).2 (Or.inr hi), rfl, rfl⟩⟩
  ·intro r s;refine (qx vW D.wh1).trans ⟨?_, ?_⟩
   ·rintro ⟨t, I⟩;obtain ⟨i, hi, rfl, rfl⟩ := (D.wh2 _ _).1 I;rcases (l i).1 hi with rfl | hi
    ·exact absurd rfl t
    ·exact ⟨i, hi, rfl, rfl⟩
   ·rintro ⟨i, hi, rfl, rfl⟩;exact ⟨J i hi, (D.wh2 _ _).2 ⟨i, (l i).2 (Or.inr hi), rfl, rfl⟩⟩
  ·have := D.cn;rw [hp.length_eq] at this;simp only [dq, mSet, List.length_set, lA, lC, List.length_nil] at this ⊢;omega
theorem DI.cancel (D : DI N k d L T) (hf : 95000 < f) (r : zd) :
  Do (xD f d r) fun res => (∃ e, (e == (0 : Int)) = false /\ zS d.t_.p r = some (none, e) /\ res = (no e, d)) \/
   ∃ A j B t p' d', L = A ++ j :: B /\ r = j.R /\ zV d.t_.p j.R = some (j.job, 0, p') /\ d' = dq d t (zr.mk p' (mDel zd.eq j.item d.t_.by_)) (mDel zd.eq j.R d.when) /\ res = (zq.mk 0 (zd.mk 0 0) j.it.k j.data 0, d') /\ t.serial = d.q.serial /\ DI N k d' (A ++ B) T /\ Stp d d' 2700 := by
 have F := D.nb;have W := D.items.2.1;unfold xD wx;rcases Pj.lU D.jp r with ⟨v, hv⟩ | ⟨e, he, i⟩
 ·obtain ⟨j, hj, rfl, rfl⟩ := (D.jl _ _).1 hv;obtain ⟨A, B, eL⟩ := List.append_of_mem hj;rw [D.get hj];simp only [bS];rw [show ((0 : Int) == 0) = true from rfl, cT];obtain ⟨h, g, Y, Q, hk, l, Z, back⟩ := D.pq.focus (D.jq j hj);have I : j.pr ∈ h.rs := l.mem_iff.2 (ni.2 ⟨j, hj, rfl, rfl⟩);have a0 : h.rs.length <= L.length := by rw [l.length_eq]; exact kE
  have X := Q.bf (f := f) (by omega) I hf (k := 0) (key := 0) (hh := zd.mk 0 0) (o := zd.mk 0 0);obtain ⟨res, eX, rs, r', C', t, rfl, J, Q', u, y⟩ := X;have O : yb f d.q (yc.mk 6 0 (zd.mk 0 0) (zd.mk 0 0) j.job.Item 0) = some (okA (zd.mk 0 0) j.it, t) := eX;rw [O];simp only [bS];have z := mM (L := L) (x := j.q) rfl eL;have P' := back _ _ _ _ _ (A ++ B) Q' ((J.symm.trans (l.trans z.1)).cons_inv) z.2;obtain ⟨p', S, U, D'⟩ := D.drop eL P';refine Do.seq U ?_;refine ⟨_, rfl, Or.inr ⟨A, j, B, t, p', _, eL, rfl, S, rfl, rfl, u, D', y.1, Int.le_trans y.2 ?_⟩⟩;have := dJ (k := h.k) F.2 (n := h.rs.length) (by omega);omega
 ·rw [Pj.gr he i];simp only [bS];rw [he, cF];simp only [bS];unfold yZ uJ;rw [Pj.eD he i];simp only [bS];rw [he, cF];simp only [bS];rw [show (e != 0) = true by simp [bne, he], cT];exact ⟨_, rfl, Or.inl ⟨e, he, i, rfl⟩⟩
theorem DI.AK (D : DI N k d L T) (hf : 95000 < f) (c : zt) :
  Do (xE f d c) fun res => (∃ e, (e == (0 : Int)) = false /\ zS d.t_.p c.Job = some (none, e) /\ res = (no e, d)) \/
   ∃ A j B, L = A ++ j :: B /\ c.Job = j.R /\ ((c.Time > j.it.k /\ res = (no 26, d)) \/
   ∃ q' p' b' d', c.Time <= j.it.k /\ xj d.t_.p j.R (zD.mk j.q c.Time j.data j.item) = some (0, p') /\ d' = dq d q' (zr.mk p' b') d.when /\ res = (zq.mk 0 (zd.mk 0 0) c.Time j.data 0, d') /\ q'.serial = d.q.serial /\ DI N k d' (A ++ ⟨j.q, j.data, j.R, j.item, ⟨j.it.i, c.Time, j.it.s⟩⟩ :: B) T /\ Stp d d' 2700) := by
 have a3 := D.nb;have a9 := D.items.2.1;unfold xE wx;rcases Pj.lU D.jp c.Job with ⟨v, hv⟩ | ⟨e, he, S⟩
 ·obtain ⟨j, hj, a4, rfl⟩ := (D.jl _ _).1 hv;obtain ⟨A, B, eL⟩ := List.append_of_mem hj;rw [a4, D.get hj];simp only [bS];refine Do.f rfl ?_;refine Do.if (fun e => ?_) (fun e => ?_)
  ·exact ⟨_, rfl, Or.inr ⟨A, j, B, eL, rfl, Or.inl ⟨of_decide_eq_true e, rfl⟩⟩⟩
  ·have hle : c.Time <= j.it.k := by have := of_decide_eq_false e; simp only [JR.job] at this; omega
   obtain ⟨h, g, b0, Q, hk, I, b1, back⟩ := D.pq.focus (D.jq j hj);have a5 : j.pr ∈ h.rs := I.mem_iff.2 (ni.2 ⟨j, hj, rfl, rfl⟩);have b2 : h.rs.length <= L.length := by rw [I.length_eq]; exact kE
   obtain ⟨res, eX, rs, r', C', q', rfl, a6, Q', U, W⟩ := Q.fN (f := f) (by omega) a5 hf (key := c.Time) hle (k := 0) (hh := zd.mk 0 0) (o := zd.mk 0 0);refine Do.seq (show yb f d.q (yc.mk 5 0 (zd.mk 0 0) (zd.mk 0 0) j.job.Item c.Time) = some _ from eX) ?_;have X := mM (L := L) (x := j.q) rfl eL;generalize y : (⟨j.q, j.data, j.R, j.item, ⟨j.it.i, c.Time, j.it.s⟩⟩ : JR) = F;have P' := back _ _ _ _ _ (A ++ F :: B) Q' (by
    rw [sT, df (j := F) (by rw [<- y])];refine List.Perm.trans ?_ List.perm_middle.symm;rw [<- sT];have := (a6.symm.trans (I.trans X.1)).cons_inv;rw [<- y];exact this.cons _) (by
    rw [sT, ey (j := F) (by rw [<- y]; simp only; omega), <- sT]; exact X.2)
   have J : Pj.Live d.t_.p j.R j.job := (D.jl _ _).2 ⟨j, hj, rfl, rfl⟩;have Y := Pj.rE D.jp J (zD.mk j.q c.Time j.data j.item);have z : ∀ i, i ∈ L ↔ i = j \/ i ∈ A ++ B := by
    intro i; rw [eL]; simp only [iA, iC];constructor
    ·rintro (h | h | h)
     ·exact Or.inr (Or.inl h)
     ·exact Or.inl h
     ·exact Or.inr (Or.inr h)
    ·rintro (h | h | h)
     ·exact Or.inr (Or.inl h)
     ·exact Or.inl h
     ·exact Or.inr (Or.inr h)
   have u : ∀ i, i ∈ A ++ F :: B ↔ i = F \/ i ∈ A ++ B := by
    intro i; simp only [iA, iC];constructor
    ·rintro (h | h | h)
     ·exact Or.inr (Or.inl h)
     ·exact Or.inl h
     ·exact Or.inr (Or.inr h)
    ·rintro (h | h | h)
     ·exact Or.inr (Or.inl h)
     ·exact Or.inl h
     ·exact Or.inr (Or.inr h)
   have hp : L.Perm (j :: (A ++ B)) := by rw [eL]; exact List.perm_middle
   have Z := ((hp.map JR.R).nodup_iff).1 D.rn;have a0 := ((hp.map JR.item).nodup_iff).1 D.items.1;rw [pC, List.nodup_cons] at Z a0;have hR : ∀ i ∈ A ++ B, i.R ≠ j.R := fun i hi e => Z.1 (e ▸ List.mem_map_of_mem (f := JR.R) hi)
   have hI : ∀ i ∈ A ++ B, i.item ≠ j.item := fun i hi e => a0.1 (e ▸ List.mem_map_of_mem (f := JR.item) hi)
   have a1 : u9 d.t_ j.R (zD.mk j.q c.Time j.data j.item) = some (0, zr.mk (zg.mk d.t_.p.most (mSet d.t_.p.l j.R.At ⟨j.R.Gen, true, zD.mk j.q c.Time j.data j.item⟩) d.t_.p.free) (mPut zd.eq j.item j.R (mDel zd.eq j.item d.t_.by_))) := by
    unfold u9;rw [D.get hj];simp only [bS];rw [show ((0 : Int) != 0) = false from rfl, cF, uT ((D.by2 j.item j.R).2 ⟨j, hj, rfl, rfl⟩)];simp only [bS, cT];rw [show (!(zd.eq j.R j.R)) = false by rw [(vW _ _).2 rfl]; rfl, cF, Y]
    rfl
   refine Do.seq a1 ?_;refine ⟨_, rfl, Or.inr ⟨A, j, B, eL, rfl, Or.inr ⟨q', _, _, _, hle, Y, rfl, rfl, U, ?_, W.1, Int.le_trans W.2 ?_⟩⟩⟩
   ·rw [y];refine ⟨D.kd, D.dk, D.dm, D.nb, P', ?_, Pj.rF D.jp J _, D.jm, ?_, tW vW (ri D.by1), ?_, D.wh1, ?_, ?_, ?_, D.bu, D.la, D.to⟩
    ·intro i hi;rcases (u i).1 hi with rfl | hi
     ·rw [<- y]; exact D.jq j hj
     ·exact D.jq i ((z i).2 (Or.inr hi))
    ·intro r v;refine (Pj.tK J _ r v).trans ⟨?_, ?_⟩
     ·rintro (⟨rfl, rfl⟩ | ⟨O, hl⟩)
      ·exact ⟨F, (u _).2 (Or.inl rfl), by rw [<- y], by rw [<- y]; rfl⟩
      ·obtain ⟨i, hi, rfl, rfl⟩ := (D.jl _ _).1 hl;rcases (z i).1 hi with rfl | hi
       ·exact absurd rfl O
       ·exact ⟨i, (u _).2 (Or.inr hi), rfl, rfl⟩
     ·rintro ⟨i, hi, rfl, rfl⟩;rcases (u i).1 hi with rfl | hi
      ·rw [<- y]; exact Or.inl ⟨rfl, rfl⟩
      ·exact Or.inr ⟨hR i hi, (D.jl _ _).2 ⟨i, (z i).2 (Or.inr hi), rfl, rfl⟩⟩
    ·intro i2 r;refine (rU vW).trans ?_;rw [qx vW D.by1];constructor
     ·rintro (⟨rfl, rfl⟩ | ⟨O, _, hg⟩)
      ·exact ⟨F, (u _).2 (Or.inl rfl), by rw [<- y], by rw [<- y]⟩
      ·obtain ⟨i, hi, rfl, rfl⟩ := (D.by2 _ _).1 hg;rcases (z i).1 hi with rfl | hi
       ·exact absurd rfl O
       ·exact ⟨i, (u _).2 (Or.inr hi), rfl, rfl⟩
     ·rintro ⟨i, hi, rfl, rfl⟩;rcases (u i).1 hi with rfl | hi
      ·rw [<- y]; exact Or.inl ⟨rfl, rfl⟩
      ·exact Or.inr ⟨hI i hi, hI i hi, (D.by2 _ _).2 ⟨i, (z i).2 (Or.inr hi), rfl, rfl⟩⟩
    ·intro r s;refine (D.wh2 r s).trans ⟨?_, ?_⟩
     ·rintro ⟨i, hi, rfl, rfl⟩;rcases (z i).1 hi with rfl | hi
      ·exact ⟨F, (u _).2 (Or.inl rfl), by rw [<- y], by rw [<- y]⟩
      ·exact ⟨i, (u _).2 (Or.inr hi), rfl, rfl⟩
     ·rintro ⟨i, hi, rfl, rfl⟩;rcases (u i).1 hi with rfl | hi
      ·rw [<- y]; exact ⟨j, hj, rfl, rfl⟩
      ·exact ⟨i, (z i).2 (Or.inr hi), rfl, rfl⟩
    ·have := D.rn;rw [eL] at this;simp only [List.map_append, pC] at this ⊢;rw [<- y]; exact this
    ·have := D.cn;rw [eL] at this;simp only [dq, mSet, List.length_set, lA, lC] at this ⊢;exact this
   ·have := dJ (k := h.k) a3.2 (n := h.rs.length) (by omega);omega
 ·rw [Pj.gr he S];simp only [bS];refine Do.t (by simp [bne, he]) ?_;exact ⟨_, rfl, Or.inl ⟨e, he, S, rfl⟩⟩
theorem DI.fire (D : DI N k d L T) (hf : 95000 < f) {x : Int} (hx : x = 0 \/ x = 1) :
  Do (wo f d x) fun res => ∃ J d', J.serial = d.q.serial /\ Stp d d' 2800 /\
   (((∀ j ∈ L, j.q = x -> d.clock.now < j.it.k) /\ d' = dq d J d.t_ d.when /\ res = (no 28, d') /\ DI N k d' L T) \/
   ∃ A j B p', L = A ++ j :: B /\ j.q = x /\ j.it.k <= d.clock.now /\ (∀ i ∈ L, i.q = x -> ¬ i.it.lt j.it) /\ zV d.t_.p j.R = some (j.job, 0, p') /\ d' = dq d J (zr.mk p' (mDel zd.eq j.item d.t_.by_)) (mDel zd.eq j.R d.when) /\ res = (zq.mk 0 j.R j.it.k j.data 0, d') /\ DI N k d' (A ++ B) T) := by
 have a1 := D.nb;have a9 := D.items.2.1;obtain ⟨h, g, a2, Q, hk, u, b0, back⟩ := D.pq.focus hx;have b1 : h.rs.length <= L.length := by rw [u.length_eq]; exact kE
 unfold wo;rw [a2];simp only [bS];refine (Q.BN (f := f) (by omega) hf).bind ?_;rintro res ⟨q1, Q1, y, l, h1⟩;have P1 : PQ2 N q1 T k d.heaps0 d.heaps1 L := back _ _ _ _ _ L Q1 u rfl;rcases h1 with ⟨O, rfl⟩ | ⟨p, hp, rfl, S⟩
 ·simp only;rw [show ((27 : Int) != 0) = true from rfl, cT];simp only [bS];refine Do.t rfl ?_;refine ⟨_, rfl, q1, _, y, ⟨l.1, Int.le_trans l.2 (by omega)⟩, Or.inl ⟨?_, rfl, rfl, D.eh P1⟩⟩;intro j hj z;have : j.pr ∈ h.rs := u.mem_iff.2 (ni.2 ⟨j, hj, z, rfl⟩);rw [O] at this; cases this
 ·simp only [okA];rw [show ((0 : Int) != 0) = false from rfl, cF];unfold vO;simp only [bS];have I : ∀ p', p' ∈ h.rs -> p.2.k <= p'.2.k := by
   intro p' a3;have := S p' a3;unfold It.lt at this; omega
  refine Do.if (fun e => ?_) (fun e => ?_)
  ·have e' : ¬ p.2.k <= d.clock.now := by simpa using e
   refine ⟨_, rfl, q1, _, y, ⟨l.1, Int.le_trans l.2 (by omega)⟩, Or.inl ⟨?_, rfl, rfl, D.eh P1⟩⟩;intro j hj z;have := I _ (u.mem_iff.2 (ni.2 ⟨j, hj, z, rfl⟩));simp only [JR.pr] at this; omega
  ·have e' : p.2.k <= d.clock.now := by simpa using e
   refine (Q1.BP (f := f) (k := 0) (key := 0) (o := zd.mk 0 0) (i0 := zd.mk 0 0) (by omega) (by intro e; rw [e] at hp; cases hp) hf).bind ?_;rintro _ ⟨p2, rs, r', C', J, rfl, U, F, Q', W, X⟩;have Y : p2 ∈ h.rs := U.mem_iff.2 (List.mem_cons_self ..);obtain ⟨j, hj, z, rfl⟩ := ni.1 (u.mem_iff.1 Y);obtain ⟨A, B, eL⟩ := List.append_of_mem hj;have Z := mM z eL;have P' := back _ _ _ _ _ (A ++ B) Q' ((U.symm.trans (u.trans Z.1)).cons_inv) Z.2;obtain ⟨p', a4, a5, D'⟩ := D.drop eL P';unfold rP;simp only [okA];rw [show j.pr.1 = j.item from rfl, uT ((D.by2 j.item j.R).2 ⟨j, hj, rfl, rfl⟩)];simp only [bS];refine Do.seq a5 ?_;have h3 := F p hp;have h4 := I _ Y;refine ⟨_, rfl, J, _, W.trans y, ⟨Int.le_trans l.1 X.1, ?_⟩, Or.inr ⟨A, j, B, p', eL, z, ?_, ?_, a4, rfl, rfl, D'⟩⟩
   ·have := dJ (k := h.k) a1.2 (n := h.rs.length) (by omega);have h5 := X.2;have h6 := l.2;show J.a_.m_.steps <= _;omega
   ·unfold It.lt at h3; simp only [JR.pr] at h3; omega
   ·intro i hi a0;exact F _ (u.mem_iff.2 (ni.2 ⟨i, hi, a0, rfl⟩))
end
end
noncomputable section
set_option maxRecDepth 10000
theorem nR {α β : Type} {f : α -> β} : ∀ {l : List β} {L : List α}, l.Perm (L.map f) -> ∃ L2 : List α, L2.Perm L /\ L2.map f = l
 | [], L, h => by
  have := h.length_eq;simp only [List.length_nil, lM] at this;exact ⟨[], by rw [List.eq_nil_of_length_eq_zero this.symm], rfl⟩
 | x :: l, L, h => by
  obtain ⟨p, rs, h1, rfl, h3⟩ := oy h.symm;obtain ⟨L2, h4, e⟩ := nR h3.symm;exact ⟨p :: L2, (h4.cons p).trans h1.symm, by rw [pC, e]⟩
def qN (p p' : zg) : Prop := p'.most = p.most /\ p'.free = p.free /\ p'.l.map zw.gen = p.l.map zw.gen /\ p'.l.map zw.taken = p.l.map zw.taken
theorem qN.rfl' (p : zg) : qN p p := ⟨rfl, rfl, rfl, rfl⟩
theorem qN.trans {p p' e : zg} (h : qN p p') (i : qN p' e) : qN p e := ⟨i.1.trans h.1, i.2.1.trans h.2.1, i.2.2.1.trans h.2.2.1, i.2.2.2.trans h.2.2.2⟩
theorem qi {α β : Type} (f : α -> β) {l : List α} {j : Nat} {x y : α} (h : l[j]? = some x) (e : f y = f x) : (l.set j y).map f = l.map f := by
 rw [List.map_set, e];refine List.ext_getElem? fun i => ?_
 by_cases t : j = i
 ·subst t;have hl := (List.getElem?_eq_some_iff.1 h).1;rw [List.getElem?_set_self (by simpa using hl)]; simp [h]
 ·rw [List.getElem?_set_ne t]
theorem qN.set {p : zg} {T : Nat} (I : Pj.Inv p T) {r : zd} {v w : zD} (h : Pj.Live p r v) : qN p (zg.mk p.most (mSet p.l r.At ⟨r.Gen, true, w⟩) p.free) := by
 obtain ⟨j, e, h⟩ := h;refine ⟨rfl, rfl, ?_, ?_⟩ <;> simp only [mSet, e, tN]
 ·exact qi _ h rfl
 ·exact qi _ h rfl
def JR.zero (j : JR) : JR := ⟨0, j.data, j.R, j.item, j.it⟩
def JR.mv (j : JR) : JR := if j.q = 1 then j.zero else j
section
variable {N : Nat} {k : Int} {d : zb} {L : List JR} {T : Nat} {f : Nat}
theorem DI.out (D : DI N k d L T) : ∃ L2 : List JR, L2.Perm L /\ Pj.out d.t_.p = L2.map JR.R := by
 have h : (Pj.out d.t_.p).Perm (L.map JR.R) := by
  refine (List.perm_ext_iff_of_nodup Pj.mQ D.rn).2 fun r => ?_
  rw [Pj.me, List.mem_map];constructor
  ·rintro ⟨v, hv⟩;obtain ⟨j, hj, rfl, _⟩ := (D.jl _ _).1 hv;exact ⟨j, hj, rfl⟩
  ·rintro ⟨j, hj, rfl⟩;exact ⟨_, (D.jl _ _).2 ⟨j, hj, rfl, rfl⟩⟩
 obtain ⟨L2, h1, h2⟩ := nR h;exact ⟨L2, h1, h2.symm⟩
theorem jS {T : Nat} {L2 : List JR} (hl : L2.length <= 65536) (hn : (L2.map JR.R).Nodup) :
  ∀ (rest pre : List JR) (t : zr) (n : Int) (m : Nat), L2 = pre ++ rest -> rest.length < m -> 0 <= n -> n <= pre.length -> Pj.Inv t.p T -> (∀ r v, Pj.Live t.p r v ↔ ∃ j ∈ pre.map JR.mv ++ rest, r = j.R /\ v = j.job) ->
   ∃ p', wg 1 0 (L2.length : Int) (L2.map JR.R) m n (pre.length : Int) t = some (n + (rest.filter fun j => j.q == 1).length, zr.mk p' t.by_) /\ Pj.Inv p' T /\ qN t.p p' /\ (∀ r v, Pj.Live p' r v ↔ ∃ j ∈ L2.map JR.mv, r = j.R /\ v = j.job)
 | [], pre, t, n, m + 1, e, hm, h0, h1, I, y => by
  refine ⟨t.p, ?_, I, qN.rfl' _, by rw [e, aN]; simpa using y⟩;unfold wg;rw [dF (by rw [e]; simp), cF];simp
 | x :: rest, pre, t, n, m + 1, e, hm, h0, h1, I, y => by
  have hlen : L2.length = pre.length + (rest.length + 1) := by rw [e]; simp
  simp only [lC] at hm;have A : Pj.Live t.p x.R x.job := (y _ _).2 ⟨x, by simp, rfl, rfl⟩;have D : mIdx (L2.map JR.R) (pre.length : Int) = some x.R := by
   rw [yJ, List.getElem?_map, e]; simp
  have B : ∀ j ∈ pre.map JR.mv ++ rest, j.R ≠ x.R := by
   rw [e, List.map_append, pC] at hn;have h2 := (List.perm_middle.nodup_iff).1 hn;rw [List.nodup_cons] at h2;intro j hj u;refine h2.1 ?_;rcases List.mem_append.1 hj with hj | hj
   ·obtain ⟨i, hi, rfl⟩ := List.mem_map.1 hj;have : i.mv.R = i.R := by unfold JR.mv; split <;> rfl
    exact mL _ (List.mem_map.2 ⟨i, hi, by rw [<- this, u]⟩)
   ·exact List.mem_append_right _ (List.mem_map.2 ⟨j, hj, u⟩)
  unfold wg;rw [dT (by omega), cT, D];simp only [bS];rw [Pj.wV I A];simp only [bS];rw [zR (x := (pre.length : Int) + 1) (by omega) (by omega), show x.job.Queue = x.q from rfl];by_cases hq : x.q = 1
  ·have F := Pj.rE I A (zD.mk 0 x.it.k x.data x.item);have J := Pj.tK A (zD.mk 0 x.it.k x.data x.item);have z : x.mv = x.zero := by unfold JR.mv; rw [if_pos hq]
   obtain ⟨p', u, O, s2, l2⟩ := jS hl hn rest (pre ++ [x]) (zr.mk (zg.mk t.p.most (mSet t.p.l x.R.At ⟨x.R.Gen, true, zD.mk 0 x.it.k x.data x.item⟩) t.p.free) t.by_) (n + 1) m (by rw [e]; simp) (by omega) (by omega) (by simp; omega) (Pj.rF I A _) (by
    intro r v;refine (J r v).trans ?_;simp only [List.map_append, pC, List.map_nil, iA, List.mem_singleton, z];constructor
    ·rintro (⟨rfl, rfl⟩ | ⟨S, hl⟩)
     ·exact ⟨x.zero, Or.inl (Or.inr rfl), rfl, rfl⟩
     ·obtain ⟨j, hj, rfl, rfl⟩ := (y _ _).1 hl;rcases List.mem_append.1 hj with hj | hj
      ·exact ⟨j, Or.inl (Or.inl hj), rfl, rfl⟩
      ·rcases List.mem_cons.1 hj with rfl | hj
       ·exact absurd rfl S
       ·exact ⟨j, Or.inr hj, rfl, rfl⟩
    ·rintro ⟨j, (hj | rfl) | hj, rfl, rfl⟩
     ·exact Or.inr ⟨B j (mL _ hj), (y _ _).2 ⟨j, mL _ hj, rfl, rfl⟩⟩
     ·exact Or.inl ⟨rfl, rfl⟩
     ·exact Or.inr ⟨B j (List.mem_append_right _ hj), (y _ _).2 ⟨j, List.mem_append_right _ (mC _ hj), rfl, rfl⟩⟩)
   refine ⟨p', ?_, O, (qN.set I A).trans s2, l2⟩;rw [hq, show ((1 : Int) == 1) = true from rfl, cT];rw [show zD.mk 0 x.job.Time x.job.Data x.job.Item = zD.mk 0 x.it.k x.data x.item from rfl, F];simp only [bS];rw [zR (by omega) (by omega)];rw [show ((pre ++ [x]).length : Int) = (pre.length : Int) + 1 by simp] at u;rw [u, List.filter_cons, hq];simp; omega
  ·have z : x.mv = x := by unfold JR.mv; rw [if_neg hq]
   have U : (x.q == 1) = false := by simpa using hq
   obtain ⟨p', u, O, s2, l2⟩ := jS hl hn rest (pre ++ [x]) t n m (by rw [e]; simp) (by omega) h0 (by simp; omega) I (by
    intro r v;refine (y r v).trans ?_;simp only [List.map_append, pC, List.map_nil, iA, List.mem_singleton, iC, z, or_assoc, List.not_mem_nil, false_or])
   refine ⟨p', ?_, O, s2, l2⟩;rw [U, cF];simp only [bS];rw [show ((pre ++ [x]).length : Int) = (pre.length : Int) + 1 by simp] at u;rw [u, List.filter_cons, U]
   rfl
theorem kl {x : Int} {t : zr} {T : Nat} (I : Pj.Inv t.p T) {L2 : List JR} (hl : L2.length <= 65536) (i : ∀ j ∈ L2, Pj.Live t.p j.R j.job) :
  ∀ (rest pre : List JR) (n : Int) (m : Nat), L2 = pre ++ rest -> rest.length < m -> 0 <= n -> n <= pre.length ->
   xJ x (L2.length : Int) t (L2.map JR.R) m n (pre.length : Int) = some (n + (rest.filter fun j => j.q == x).length)
 | [], pre, n, m + 1, e, hm, h0, h1 => by
  unfold xJ;rw [dF (by rw [e]; simp), cF];simp
 | y :: rest, pre, n, m + 1, e, hm, h0, h1 => by
  have hlen : L2.length = pre.length + (rest.length + 1) := by rw [e]; simp
  simp only [lC] at hm;have u := i y (by rw [e]; simp);have l : mIdx (L2.map JR.R) (pre.length : Int) = some y.R := by
   rw [yJ, List.getElem?_map, e]; simp
  unfold xJ;rw [dT (by omega), cT, l];simp only [bS];rw [Pj.wV I u];simp only [bS];rw [zR (x := (pre.length : Int) + 1) (by omega) (by omega), show y.job.Queue = y.q from rfl, List.filter_cons];cases z : y.q == x with
  | true =>
   have ih := kl (x := x) I hl i rest (pre ++ [y]) (n + 1) m (by rw [e]; simp) (by omega) (by omega) (by simp; omega);rw [show ((pre ++ [y]).length : Int) = (pre.length : Int) + 1 by simp] at ih;rw [cT, zR (by omega) (by omega)];simp only [bS, if_true];rw [ih]; simp; omega
  | false =>
   have ih := kl (x := x) I hl i rest (pre ++ [y]) n m (by rw [e]; simp) (by omega) h0 (by simp; omega);rw [show ((pre ++ [y]).length : Int) = (pre.length : Int) + 1 by simp] at ih;rw [cF];simp only [bS, Bool.false_eq_true, if_false];exact ih
theorem DI.count (D : DI N k d L T) (hf : 95000 < f) (x : Int) : uk f d.t_ x = some ((sel x L).length : Int) := by
 obtain ⟨L2, hp, e⟩ := D.out;have i := D.items.2.1;have l := D.nb;have hl2 := hp.length_eq;unfold uk;rw [Pj.pU D.jp (by omega), e];simp only [bS];have := kl (x := x) D.jp (L2 := L2) (by omega) (fun j hj => (D.jl _ _).2 ⟨j, hp.mem_iff.1 hj, rfl, rfl⟩) L2 [] 0 f rfl (by omega) (Int.le_refl _) (Int.le_refl _);rw [lM];rw [show ((([] : List JR).length : Nat) : Int) = 0 from rfl] at this;rw [this];simp only [bS];have := ((hp.filter fun j => j.q == x).length_eq)
 unfold sel;rw [lM, this];simp
theorem mv_R (j : JR) : j.mv.R = j.R := by unfold JR.mv; split <;> rfl
theorem dy (j : JR) : j.mv.item = j.item := by unfold JR.mv; split <;> rfl
theorem AF (j : JR) : j.mv.it = j.it := by unfold JR.mv; split <;> rfl
theorem BH (j : JR) : j.mv.pr = j.pr := by unfold JR.mv; split <;> rfl
theorem mv_q {j : JR} (h : j.q = 0 \/ j.q = 1) : j.mv.q = 0 := by
 unfold JR.mv; split
 ·rfl
 ·omega
theorem DI.merge (D : DI N k d L T) (hT : T < 1000000) (hf : 95000 < f) :
  Do (xT f d) fun res => ∃ B r p', res = (zq.mk 0 (zd.mk 0 0) 0 0 ((sel 1 L).length : Int), zb.mk d.kind d.most B d.heaps0 r (zr.mk p' d.t_.by_) d.when d.clock d.budget d.last d.top) /\ qN d.t_.p p' /\ B.serial = d.q.serial /\
   DI N k (zb.mk d.kind d.most B d.heaps0 r (zr.mk p' d.t_.by_) d.when d.clock d.budget d.last d.top) (L.map JR.mv) (T + 1) /\ Stp d (zb.mk d.kind d.most B d.heaps0 r (zr.mk p' d.t_.by_) d.when d.clock d.budget d.last d.top) 2700 := by
 have F := D.nb;have S := D.items.2.1;obtain ⟨L2, hp, z⟩ := D.out;have hl2 := hp.length_eq;obtain ⟨h0, h1, Q, e0, U, J, W, p0, p1⟩ := D.pq;have l := mK D.jq;have hs : h0.rs.length + h1.rs.length = L.length := by
  have := l.length_eq;rw [lA, lM] at this;rw [p0.length_eq, p1.length_eq]; exact this
 unfold xT;rw [<- e0, <- U];refine (Q.AL (f := f) (k := 0) (key := 0) (i0 := zd.mk 0 0) (by rw [J, W]) (by omega) (by omega) hf).bind ?_;rintro _ ⟨r', C', q1, rfl, X, x, t⟩;simp only;refine (X.cf (f := f) (k := d.kind) (a := zd.mk 0 0) (b := zd.mk 0 0) (c := zd.mk 0 0) (key := 0) (by rw [D.dk]; exact D.kd) (by simp) (by omega)).bind ?_;rintro _ ⟨r, q2, rfl, Y, y, u⟩;simp only;unfold tZ;rw [Pj.pU D.jp (by omega), z];simp only [bS];obtain ⟨p', O, Z, s2, l2⟩ := jS (T := T) (L2 := L2) (by omega) (((hp.map JR.R).nodup_iff).2 D.rn) L2 [] d.t_ 0 f rfl (by omega) (Int.le_refl _) (Int.le_refl _) D.jp (by
  intro r v;refine (D.jl r v).trans ⟨?_, ?_⟩
  ·rintro ⟨j, hj, e⟩; exact ⟨j, hp.mem_iff.2 hj, e⟩
  ·rintro ⟨j, hj, e⟩; exact ⟨j, hp.mem_iff.1 hj, e⟩)
 rw [show ((([] : List JR).length : Nat) : Int) = 0 from rfl] at O;rw [lM, O];simp only [bS];have A : (0 : Int) + ((L2.filter fun j => j.q == 1).length : Int) = ((sel 1 L).length : Int) := by
  have := ((hp.filter fun j => j.q == 1).length_eq)
  unfold sel;rw [lM, this]; simp
 rw [A];have a0 : h0.ref = d.heaps0 := e0;have hz : sel 0 (L.map JR.mv) = L.map JR.pr := by
  unfold sel;rw [List.filter_eq_self.2 (fun j hj => by
   obtain ⟨i, hi, rfl⟩ := List.mem_map.1 hj;simp [mv_q (D.jq i hi)]), List.map_map]
  exact List.map_congr_left fun j _ => BH j
 have I : sel 1 (L.map JR.mv) = [] := by
  unfold sel;rw [List.filter_eq_nil_iff.2 (fun j hj => by
   obtain ⟨i, hi, rfl⟩ := List.mem_map.1 hj;simp [mv_q (D.jq i hi)])]
  rfl
 refine ⟨_, rfl, q2, r, p', rfl, s2, y.trans x, ?_, ?_⟩
 ·refine ⟨D.kd, D.dk, D.dm, D.nb, ?_, ?_, Z.mono (by omega), s2.1.trans D.jm, ?_, D.by1, ?_, D.wh1, ?_, ?_, ?_, D.bu, D.la, D.to⟩
  ·refine ⟨_, _, Y.p (List.Perm.swap ..), rfl, rfl, J, D.dk, ?_, ?_⟩
   ·rw [hz]; exact (p0.append p1).trans l
   ·rw [I]
  ·intro j hj;obtain ⟨i, hi, rfl⟩ := List.mem_map.1 hj;exact Or.inl (mv_q (D.jq i hi))
  ·intro r v;refine (l2 r v).trans ⟨?_, ?_⟩
   ·rintro ⟨j, hj, e⟩; exact ⟨j, ((hp.map JR.mv).mem_iff).1 hj, e⟩
   ·rintro ⟨j, hj, e⟩; exact ⟨j, ((hp.map JR.mv).mem_iff).2 hj, e⟩
  ·intro i r;refine (D.by2 i r).trans ⟨?_, ?_⟩
   ·rintro ⟨j, hj, rfl, rfl⟩; exact ⟨j.mv, List.mem_map_of_mem hj, (dy j).symm, (mv_R j).symm⟩
   ·rintro ⟨j, hj, rfl, rfl⟩;obtain ⟨i, hi, rfl⟩ := List.mem_map.1 hj;exact ⟨i, hi, dy i, mv_R i⟩
  ·intro r s;refine (D.wh2 r s).trans ⟨?_, ?_⟩
   ·rintro ⟨j, hj, rfl, rfl⟩; exact ⟨j.mv, List.mem_map_of_mem hj, (mv_R j).symm, by rw [AF]⟩
   ·rintro ⟨j, hj, rfl, rfl⟩;obtain ⟨i, hi, rfl⟩ := List.mem_map.1 hj;exact ⟨i, hi, mv_R i, by rw [AF]⟩
  ·have : (L.map JR.mv).map JR.R = L.map JR.R := by
    rw [List.map_map];exact List.map_congr_left fun j _ => mv_R j
   rw [this]; exact D.rn
  ·have h1 := D.cn;have h2 := congrArg List.length s2.2.2.1;simp only [lM] at h2 ⊢;rw [s2.2.1, h2]; exact h1
 ·have h1 := dJ (k := h0.k) F.2 (n := h0.rs.length + h1.rs.length) (by omega);have h2 := t.2;have h3 := u.2;exact ⟨Int.le_trans t.1 u.1, by show q2.a_.m_.steps <= _; omega⟩
end
end
noncomputable section
set_option maxRecDepth 10000
inductive How (N : Nat) (p : zg) (s now : Int) (L : List JR) (c : zt) : zq -> zg -> Int -> Int -> List JR -> Prop
 | bad (hk : c.Kind = 1 \/ c.Kind = 5 \/ c.Kind = 6 \/ c.Kind = 7) (hq : ¬ (c.Queue = 0 \/ c.Queue = 1)) : How N p s now L c (no 1) p s now L
 | full (hk : c.Kind = 1) (hq : c.Queue = 0 \/ c.Queue = 1) (hl : L.length = N) : How N p s now L c (no 13) p s now L
 | sched (j : JR) (p' : zg) (v : zD) (hk : c.Kind = 1) (hq : c.Queue = 0 \/ c.Queue = 1) (hl : L.length < N) (h1 : j.q = c.Queue) (h2 : j.data = c.Data) (h3 : j.it.k = c.Time) (h4 : j.it.s = s) (ht : yo p v = some (j.R, true, p')) : How N p s now L c (zq.mk 0 j.R c.Time c.Data 0) p' (s + 1) now (L ++ [j])
 | dead (e : Int) (hk : c.Kind = 2 \/ c.Kind = 3) (he : (e == (0 : Int)) = false) (hf : zS p c.Job = some (none, e)) : How N p s now L c (no e) p s now L
 | late (A : List JR) (j : JR) (B : List JR) (hk : c.Kind = 2) (eL : L = A ++ j :: B) (hj : c.Job = j.R) (ht : c.Time > j.it.k) : How N p s now L c (no 26) p s now L
 | soon (A : List JR) (j : JR) (B : List JR) (p' : zg) (hk : c.Kind = 2) (eL : L = A ++ j :: B) (hj : c.Job = j.R) (ht : c.Time <= j.it.k) (hp : qN p p') : How N p s now L c (zq.mk 0 (zd.mk 0 0) c.Time j.data 0) p' s now (A ++ ⟨j.q, j.data, j.R, j.item, ⟨j.it.i, c.Time, j.it.s⟩⟩ :: B)
 | canc (A : List JR) (j : JR) (B : List JR) (p' : zg) (hk : c.Kind = 3) (eL : L = A ++ j :: B) (hj : c.Job = j.R) (hp : zV p j.R = some (j.job, 0, p')) : How N p s now L c (zq.mk 0 (zd.mk 0 0) j.it.k j.data 0) p' s now (A ++ B)
 | back (hk : c.Kind = 4) (ht : c.Time < 0) : How N p s now L c (no 1) p s now L
 | go (t : Int) (hk : c.Kind = 4) (ht : ¬ c.Time < 0) (ha : vM now c.Time = some t) : How N p s now L c (zq.mk 0 (zd.mk 0 0) t 0 0) p s t L
 | idle (hk : c.Kind = 5) (hq : c.Queue = 0 \/ c.Queue = 1) (hn : ∀ j ∈ L, j.q = c.Queue -> now < j.it.k) : How N p s now L c (no 28) p s now L
 | fire (A : List JR) (j : JR) (B : List JR) (p' : zg) (hk : c.Kind = 5) (hq : c.Queue = 0 \/ c.Queue = 1) (eL : L = A ++ j :: B) (hj : j.q = c.Queue) (hn : j.it.k <= now) (hm : ∀ i ∈ L, i.q = c.Queue -> ¬ i.it.lt j.it) (hp : zV p j.R = some (j.job, 0, p')) : How N p s now L c (zq.mk 0 j.R j.it.k j.data 0) p' s now (A ++ B)
 | self (hk : c.Kind = 6) (hq : c.Queue = 0) : How N p s now L c (no 25) p s now L
 | merge (p' : zg) (hk : c.Kind = 6) (hq : c.Queue = 1) (hp : qN p p') : How N p s now L c (zq.mk 0 (zd.mk 0 0) 0 0 ((sel 1 L).length : Int)) p' s now (L.map JR.mv)
 | count (hk : c.Kind = 7) (hq : c.Queue = 0 \/ c.Queue = 1) : How N p s now L c (zq.mk 0 (zd.mk 0 0) 0 0 ((sel c.Queue L).length : Int)) p s now L
 | unknown (h : ¬ (c.Kind = 1 \/ c.Kind = 2 \/ c.Kind = 3 \/ c.Kind = 4 \/ c.Kind = 5 \/ c.Kind = 6 \/ c.Kind = 7)) : How N p s now L c (no 12) p s now L
theorem cP (a b : Int) : ∃ t, vM a b = some t := by
 unfold vM;cases (decide (b > 0)) && (decide (a > w64 (9223372036854775807 - b))) with
 | true => exact ⟨_, rfl⟩
 | false =>
  cases (decide (b < 0)) && (decide (a < w64 ((-9223372036854775808) - b))) with
  | true => exact ⟨_, rfl⟩
  | false => exact ⟨_, rfl⟩
section
variable {N : Nat} {k : Int} {d : zb} {L : List JR} {T : Nat} {f : Nat}
theorem DI.mono (D : DI N k d L T) {T' : Nat} (h : T <= T') : DI N k d L T' := by
 refine ⟨D.kd, D.dk, D.dm, D.nb, D.pq.same fun hs Q => ?_, D.jq, D.jp.mono h, D.jm, D.jl, D.by1, D.by2, D.wh1, D.wh2, D.rn, D.cn, D.bu, D.la, D.to⟩;exact ⟨{ Q.ih with gen := fun j x e => by have := Q.ih.gen j x e; omega }, Q.ii.mono h, Q.hl, Q.il, Q.at1, Q.at2, Q.en1, Q.en2, Q.hk, Q.hn, Q.rn, Q.sn, Q.ar, Q.mi, Q.mm, Q.mb, Q.ci, Q.ch, Q.cm, Q.sr, by have := Q.sq; omega⟩
theorem cZ (d : zb) (B : Nat) : Stp d d B := ⟨Int.le_refl _, by omega⟩
theorem DI.one (D : DI N k d L T) (U : T < 1000000) (hf : 95000 < f) (c : zt) :
  Do (wv f d c) fun res => ∃ L', How N d.t_.p d.q.serial d.clock.now L c res.1 res.2.t_.p res.2.q.serial res.2.clock.now L' /\ DI N k res.2 L' (T + 1) /\ Stp d res.2 2800 /\ res.2.budget = d.budget /\ res.2.top = d.top := by
 have l := D.mono (Nat.le_succ T);have u := cZ d 2800;unfold wv;by_cases hk : c.Kind = 1 \/ c.Kind = 5 \/ c.Kind = 6 \/ c.Kind = 7
 ·have Y : (bif c.Kind == 1 then some (c.Kind == 1) else (bif c.Kind == 5 then some (c.Kind == 5) else (bif c.Kind == 6 then some (c.Kind == 6) else some (c.Kind == 7)))) = some true := by
   rcases hk with e | e | e | e <;> rw [e] <;> rfl
  rw [Y];simp only [bS, cT];by_cases hq : c.Queue = 0 \/ c.Queue = 1
  ·have O : (!((decide (c.Queue >= 0)) && (decide (c.Queue < 2)))) = false := by rcases hq with e | e <;> rw [e] <;> rfl
   rw [O];simp only [cF, bS];rcases hk with e | e | e | e <;> rw [e]
   ·refine Do.t rfl ((D.schedule U hf hq).bind ?_);rintro res (⟨hl, rfl⟩ | ⟨hl, j, x, p', v, h1, h2, h3, h4, Z, h6, rfl, h8, W⟩)
    ·exact ⟨_, rfl, L, .full e hq hl, l, u, rfl, rfl⟩
    ·refine ⟨_, rfl, L ++ [j], ?_, h8, ⟨W.1, Int.le_trans W.2 (by omega)⟩, rfl, rfl⟩;show How N d.t_.p d.q.serial d.clock.now L c _ p' x.serial d.clock.now _;rw [Z];exact .sched j p' v e hq hl h1 h2 h3 h4 h6
   ·refine Do.f rfl (Do.f rfl (Do.f rfl (Do.f rfl (Do.t rfl ((D.fire hf hq).bind ?_)))));rintro res ⟨x, d', hs, i, h⟩;rcases h with ⟨hn, rfl, rfl, y⟩ | ⟨A, j, B, p', eL, hj, hn, hm, hp, rfl, rfl, y⟩
    ·refine ⟨_, rfl, L, ?_, y.mono (Nat.le_succ T), i, rfl, rfl⟩;show How N d.t_.p d.q.serial d.clock.now L c _ d.t_.p x.serial d.clock.now _;rw [hs];exact .idle e hq hn
    ·refine ⟨_, rfl, A ++ B, ?_, y.mono (Nat.le_succ T), i, rfl, rfl⟩;show How N d.t_.p d.q.serial d.clock.now L c _ p' x.serial d.clock.now _;rw [hs];exact .fire A j B p' e hq eL hj hn hm hp
   ·refine Do.f rfl (Do.f rfl (Do.f rfl (Do.f rfl (Do.f rfl (Do.t rfl ?_)))));rcases hq with J | J <;> rw [J]
    ·refine Do.t rfl ?_;exact ⟨_, rfl, L, .self e J, l, u, rfl, rfl⟩
    ·refine Do.f rfl ((D.merge U hf).bind ?_);rintro res ⟨x, r, p', rfl, hp, hs, y, i⟩;refine ⟨_, rfl, L.map JR.mv, ?_, y, ⟨i.1, Int.le_trans i.2 (by omega)⟩, rfl, rfl⟩;show How N d.t_.p d.q.serial d.clock.now L c _ p' x.serial d.clock.now _;rw [hs];exact .merge p' e J hp
   ·refine Do.f rfl (Do.f rfl (Do.f rfl (Do.f rfl (Do.f rfl (Do.f rfl (Do.t rfl ?_))))));rw [D.count hf c.Queue];exact ⟨_, rfl, L, .count e hq, l, u, rfl, rfl⟩
  ·have O : (!((decide (c.Queue >= 0)) && (decide (c.Queue < 2)))) = true := by
    cases h1 : decide (c.Queue >= 0) with
    | false => rfl
    | true =>
     cases h2 : decide (c.Queue < 2) with
     | false => rfl
     | true =>
      have h1 := of_decide_eq_true h1;have h2 := of_decide_eq_true h2;omega
   rw [O];exact ⟨_, rfl, L, .bad hk hq, l, u, rfl, rfl⟩
 ·have n1 : (c.Kind == 1) = false := by simp; omega
  have n5 : (c.Kind == 5) = false := by simp; omega
  have n6 : (c.Kind == 6) = false := by simp; omega
  have n7 : (c.Kind == 7) = false := by simp; omega
  rw [n1, n5, n6, n7];simp only [cF, bS];by_cases h2 : c.Kind = 2
  ·rw [show (c.Kind == 2) = true by simp [h2], cT];refine (D.AK hf c).bind ?_;rintro res (⟨e, he, F, rfl⟩ | ⟨A, j, B, eL, hj, ⟨ht, rfl⟩ | ⟨x, p', b', d', ht, z, rfl, rfl, hs, y, i⟩⟩)
   ·exact ⟨_, rfl, L, .dead e (Or.inl h2) he F, l, u, rfl, rfl⟩
   ·exact ⟨_, rfl, L, .late A j B h2 eL hj ht, l, u, rfl, rfl⟩
   ·refine ⟨_, rfl, _, ?_, y.mono (Nat.le_succ T), ⟨i.1, Int.le_trans i.2 (by omega)⟩, rfl, rfl⟩;show How N d.t_.p d.q.serial d.clock.now L c _ p' x.serial d.clock.now _;rw [hs];refine .soon A j B p' h2 eL hj ht ?_;have I : Pj.Live d.t_.p j.R j.job := (D.jl _ _).2 ⟨j, by rw [eL]; simp, rfl, rfl⟩;have S := Pj.rE D.jp I (zD.mk j.q c.Time j.data j.item);rw [S] at z;have := (Prod.mk.inj (Option.some.inj z)).2;rw [<- this];exact qN.set D.jp I
  ·rw [show (c.Kind == 2) = false by simp [h2], cF];by_cases h3 : c.Kind = 3
   ·rw [show (c.Kind == 3) = true by simp [h3], cT];refine (D.cancel hf c.Job).bind ?_;rintro res (⟨e, he, F, rfl⟩ | ⟨A, j, B, x, p', d', eL, hj, hg, rfl, rfl, hs, y, i⟩)
    ·exact ⟨_, rfl, L, .dead e (Or.inr h3) he F, l, u, rfl, rfl⟩
    ·refine ⟨_, rfl, _, ?_, y.mono (Nat.le_succ T), ⟨i.1, Int.le_trans i.2 (by omega)⟩, rfl, rfl⟩;show How N d.t_.p d.q.serial d.clock.now L c _ p' x.serial d.clock.now _;rw [hs];exact .canc A j B p' h3 eL hj hg
   ·rw [show (c.Kind == 3) = false by simp [h3], cF];by_cases h4 : c.Kind = 4
    ·rw [show (c.Kind == 4) = true by simp [h4], cT];unfold sU;by_cases ht : c.Time < 0
     ·rw [dT ht, cT];exact ⟨_, rfl, L, .back h4 ht, l, u, rfl, rfl⟩
     ·rw [dF ht, cF];obtain ⟨t, X⟩ := cP d.clock.now c.Time;rw [X];refine ⟨_, rfl, L, .go t h4 ht X, ?_, u, rfl, rfl⟩;exact ⟨l.kd, l.dk, l.dm, l.nb, l.pq, l.jq, l.jp, l.jm, l.jl, l.by1, l.by2, l.wh1, l.wh2, l.rn, l.cn, l.bu, l.la, l.to⟩
    ·rw [show (c.Kind == 4) = false by simp [h4], cF];exact ⟨_, rfl, L, .unknown (by omega), l, u, rfl, rfl⟩
structure Went (N : Nat) (k : Int) (d : zb) (L : List JR) (T : Nat) (c : zt) (rep : zq) (d' : zb) (L' : List JR) : Prop where
 how : How N d.t_.p d.q.serial d.clock.now L c rep d'.t_.p d'.q.serial d'.clock.now L'
 di : DI N k d' L' (T + 1)
 bu : d'.budget = d.budget
theorem DI.do (D : DI N k d L T) (l : T < 1000000) (hf : 95000 < f) (c : zt) :
  Do (yL f d c) fun res => ∃ L', Went N k d L T c res.1 res.2 L' := by
 unfold yL;refine Do.seq (r := d.q.a_.m_.steps) rfl ?_;refine (D.one l hf c).bind ?_;rintro ⟨rep, d'⟩ ⟨L', hh, e, i, j, ht⟩;simp only at hh e i j ht ⊢;refine Do.seq (r := d'.q.a_.m_.steps) rfl ?_;have h1 := i.1;have h2 := i.2;have h3 := e.bu;have t := e.to;have u := e.la;rw [zR (by omega) (by omega)];refine Do.f (dF (by omega)) ?_;refine ⟨_, rfl, L', hh, ?_, j⟩;refine ⟨e.kd, e.dk, e.dm, e.nb, e.pq, e.jq, e.jp, e.jm, e.jl, e.by1, e.by2, e.wh1, e.wh2, e.rn, e.cn, e.bu, ?_, ?_⟩
 ·simp only; omega
 ·simp only; split <;> omega
theorem fi {b : Nat} (i : b <= 1000) : ∀ (r x : Nat) (a : Int) (m : Nat), x + r = b -> r < m -> 0 <= a -> a + 1600 * r <= 1000000 -> ∃ v, vu 1600 (b : Int) m a (x : Int) = some v /\ a + 1600 * r <= v
 | 0, x, a, m + 1, e, hm, h0, h1 => by
  refine ⟨a, ?_, by omega⟩;unfold vu;rw [dF (by omega), cF]
 | r + 1, x, a, m + 1, e, hm, h0, h1 => by
  obtain ⟨v, hv, hle⟩ := fi i r (x + 1) (a + 1600) m (by omega) (by omega) (by omega) (by omega);refine ⟨v, ?_, by omega⟩;unfold vu vM;rw [dT (by omega), cT, zR (x := 9223372036854775807 - 1600) (by omega) (by omega), dF (p := a > 9223372036854775807 - 1600) (by omega), Bool.and_false, cF];rw [show decide ((1600 : Int) < 0) = false from rfl, Bool.false_and, cF];simp only [bS];rw [zR (x := a + 1600) (by omega) (by omega), zR (x := (x : Int) + 1) (by omega) (by omega)];rw [show ((x + 1 : Nat) : Int) = (x : Int) + 1 by simp] at hv;exact hv
theorem au : ∀ n : Fin 60, (match qz ((n.val : Int) + 2) with | some b => decide (1 <= b /\ b <= 8) | none => false) = true := by decide +kernel
theorem eG {f : Nat} (hf : 95000 < f) {k : Int} (hk : Kd k) {N : Nat} (h1 : 1 <= N) (h2 : N <= 60) : ∃ b, sE f k (N : Int) = some (b, true) /\ 3600 <= b := by
 have hw : u7 k = some true := by
  unfold u7;rcases hk with rfl | rfl | rfl <;> rfl
 have i := au ⟨N - 1, by omega⟩;unfold sE;rw [hw];simp only [bS];rw [show (!true) = false from rfl, cF, dF (by omega), cF, dF (by omega)];simp only [bS, cF];unfold px;rw [zR (by omega) (by omega)];simp only at i;rw [show ((N - 1 : Nat) : Int) + 2 = (N : Int) + 1 by omega] at i;cases e : qz ((N : Int) + 1) with
 | none => rw [e] at i; cases i
 | some b =>
  rw [e] at i;have i := of_decide_eq_true i;obtain ⟨j, rfl⟩ : ∃ j : Nat, b = (j : Int) := ⟨b.toNat, by omega⟩
  obtain ⟨v, hv, hle⟩ := fi (b := j) (by omega) j 0 2000 f (by omega) (by omega) (by omega) (by omega);simp only [bS];rw [show ((0 : Nat) : Int) = 0 from rfl] at hv;rw [hv];exact ⟨v, rfl, by omega⟩
theorem DI.new (hf : 95000 < f) (hk : Kd k) (h1 : 1 <= N) (h2 : N <= 60) :
  ∃ d, tg f k (N : Int) = some (some d, 0) /\ DI N k d [] 2 /\ d.clock.now = 0 /\ d.q.serial = 0 /\ d.t_.p = zg.mk (N : Int) [] [] := by
 have hw : u7 k = some true := by
  unfold u7;rcases hk with rfl | rfl | rfl <;> rfl
 obtain ⟨b, t, u⟩ := eG hf hk h1 h2;obtain ⟨q, eq, Q, hs, x⟩ := AU (M := N) h1 (by omega);obtain ⟨_, e, r0, q1, rfl, y, z, _⟩ := Q.cf (f := f) (k := k) (a := zd.mk 0 0) (b := zd.mk 0 0) (c := zd.mk 0 0) (key := 0) hk (by simp) (by omega);obtain ⟨_, l, r1, q2, rfl, A, B, _⟩ := y.cf (f := f) (k := k) (a := zd.mk 0 0) (b := zd.mk 0 0) (c := zd.mk 0 0) (key := 0) hk (by simp) (by omega);have D : (if (if 4096 < (N : Int) then 4096 else (N : Int)) > 1 then (if 4096 < (N : Int) then 4096 else (N : Int)) else 1) = (N : Int) := by
  rw [show (if 4096 < (N : Int) then 4096 else (N : Int)) = (N : Int) from if_neg (by omega)]; split <;> omega
 have F : (if (if 65536 < (N : Int) then 65536 else (N : Int)) > 0 then (if 65536 < (N : Int) then 65536 else (N : Int)) else 0) = (N : Int) := by
  rw [show (if 65536 < (N : Int) then 65536 else (N : Int)) = (N : Int) from if_neg (by omega), if_pos (by omega)]
 have I : ox (N : Int) = some (zr.mk (zg.mk (N : Int) [] []) []) := by
  unfold ox u3;rw [D];simp only [bS];rw [F]
 refine ⟨zb.mk k (N : Int) q2 r0 r1 (zr.mk (zg.mk (N : Int) [] []) []) [] (zP.mk 0) b 0 0, ?_, ?_, rfl, by simp only; omega, rfl⟩
 ·unfold tg;rw [hw];simp only [bS];rw [show (!true) = false from rfl, cF, t];simp only [bS];rw [show (!true) = false from rfl, cF, eq];simp only [bS, uz, oS];rw [I];simp only [bS];unfold pM;simp only [bS];rw [e];simp only [bS];rw [l]
  rfl
 ·refine ⟨hk, rfl, rfl, ⟨h1, h2⟩, ?_, ?_, Pj.iy (by omega) (by omega) 2, rfl, ?_, List.nodup_nil, ?_, List.nodup_nil, ?_, List.nodup_nil, rfl, u, ⟨Int.le_refl _, by simp only; omega⟩, ⟨Int.le_refl _, by simp only; omega⟩⟩
  ·exact ⟨_, _, A.p (List.Perm.swap ..), rfl, rfl, rfl, rfl, .refl _, .refl _⟩
  ·intro j hj; cases hj
  ·intro r v;constructor
   ·intro h; exact absurd h Pj.gF
   ·rintro ⟨j, hj, _⟩; cases hj
  ·intro i r;constructor
   ·intro h; cases h
   ·rintro ⟨j, hj, _⟩; cases hj
  ·intro i r;constructor
   ·intro h; cases h
   ·rintro ⟨j, hj, _⟩; cases hj
end
end
noncomputable section
set_option maxRecDepth 10000
structure PR (p : zg) (r : zn) : Prop where
 mo : r.Most = p.most
 ge : r.Gens = p.l.map zw.gen
 tk : r.In = p.l.map zw.taken
 vl : r.V.length = p.l.length
 bk : r.Back = p.free
def rj (j : JR) : zF := zF.mk j.q j.data (zH.mk j.it.k j.it.s) j.R
structure TI (N : Nat) (p : zg) (s now : Int) (L : List JR) (m : zc) : Prop where
 mo : m.Most = N
 nw : m.Now = now
 nx : m.Next = s
 po : PR p m.Pool
 ls : m.L = L.map rj
section
variable {p p' : zg} {r : zn} {T : Nat} {L : List JR}
theorem PR.same (P : PR p r) (h : qN p p') : PR p' r :=
 ⟨P.mo.trans h.1.symm, P.ge.trans h.2.2.1.symm, P.tk.trans h.2.2.2.symm, by have := congrArg List.length h.2.2.1; simp only [lM] at this; rw [P.vl, this], P.bk.trans h.2.1.symm⟩
theorem PR.look (P : PR p r) (I : Pj.Inv p T) (s : zd) {x : Option Int} {e : Int} (h : zS p s = some (x, e)) : wc r s = some e := by
 unfold zS at h;unfold wc;have i : (r.Gens.length : Int) = (p.l.length : Int) := by rw [P.ge, lM]
 rw [i];by_cases h1 : s.At < 0
 ·rw [dT h1] at h ⊢;simp only [cT, bS, Option.some.injEq, Prod.mk.injEq] at h ⊢;exact h.2
 rw [dF h1] at h ⊢;by_cases h2 : s.At >= (p.l.length : Int)
 ·rw [dT h2] at h ⊢;simp only [cT, cF, bS, Option.some.injEq, Prod.mk.injEq] at h ⊢;exact h.2
 rw [dF h2] at h ⊢;by_cases h3 : s.Gen < 1
 ·rw [dT h3] at h ⊢;simp only [cT, cF, bS, Option.some.injEq, Prod.mk.injEq] at h ⊢;exact h.2
 rw [dF h3] at h ⊢;obtain ⟨j, hj⟩ : ∃ j : Nat, s.At = (j : Int) := ⟨s.At.toNat, by omega⟩
 obtain ⟨y, t⟩ : ∃ y, p.l[j]? = some y := ⟨_, List.getElem?_eq_getElem (by omega)⟩
 rw [hj, yJ, t] at h;have z : mIdx r.Gens (j : Int) = some y.gen := by rw [P.ge, yJ, List.getElem?_map, t]; rfl
 have A : mIdx r.In (j : Int) = some y.taken := by rw [P.tk, yJ, List.getElem?_map, t]; rfl
 rw [hj, z, A];simp only [cF, bS] at h ⊢;by_cases h4 : s.Gen > y.gen
 ·rw [dT h4] at h ⊢;simp only [cT, Option.some.injEq, Prod.mk.injEq] at h ⊢;exact h.2
 rw [dF h4] at h ⊢;simp only [cF] at h ⊢;by_cases u : s.Gen < y.gen
 ·rw [dT u] at h ⊢;simp only [Bool.true_or, cT, bS, Option.some.injEq, Prod.mk.injEq] at h ⊢;exact h.2
 rw [dF u] at h ⊢;cases ht : y.taken with
 | true =>
  rw [ht] at h;simp only [Bool.not_true, Bool.or_false, cF, bS, Option.some.injEq, Prod.mk.injEq] at h ⊢;exact h.2
 | false =>
  rw [ht] at h;simp only [Bool.not_false, Bool.or_true, cT, cF, bS, Option.some.injEq, Prod.mk.injEq] at h ⊢;exact h.2
theorem PR.full (P : PR p r) (hf : p.free = []) (hl : (p.l.length : Int) = p.most) : y1 r 0 = some (zd.mk 0 0, false, r) := by
 unfold y1;rw [P.bk, hf];rw [show decide (((([] : List Int).length : Nat) : Int) > 0) = false from rfl, cF, P.ge, lM, P.mo, dT (by omega), cT]
 rfl
theorem PR.take (P : PR p r) (I : Pj.Inv p T) (J : T < 1000000000) {v : zD} {R : zd} (e : (p.l.length : Int) < p.most + p.free.length) (h : yo p v = some (R, true, p')) :
  ∃ r', y1 r 0 = some (R, true, r') /\ PR p' r' := by
 have hl := I.lb;rcases List.eq_nil_or_concat p.free with hf | ⟨fs, f, hf⟩
 ·rw [hf] at e;rw [Pj.qI I hf (by simpa using e)] at h;simp only [Option.some.injEq, Prod.mk.injEq, true_and] at h;obtain ⟨rfl, rfl⟩ := h;refine ⟨zn.mk r.Most (mSet (r.Gens ++ [0]) (r.Gens.length : Int) 1) (mSet (r.In ++ [false]) (r.Gens.length : Int) true) (mSet (r.V ++ [0]) (r.Gens.length : Int) 0) r.Back, ?_, ?_⟩
  ·have i : r.Gens.length = p.l.length := by rw [P.ge, lM]
   have t : r.In.length = p.l.length := by rw [P.tk, lM]
   have z := P.vl;unfold y1;rw [P.bk, hf];rw [show decide (((([] : List Int).length : Nat) : Int) > 0) = false from rfl, cF, i, P.mo, dF (by simp at e; omega), cF];rw [y4 (by simp; omega), y4 (by simp; omega), y4 (by simp; omega)];simp only [bS];have h1 : mIdx (r.Gens ++ [0]) (p.l.length : Int) = some 0 := by rw [<- i]; exact yr r.Gens [] 0
   have h2 : mIdx (r.In ++ [false]) (p.l.length : Int) = some false := by rw [<- t]; exact yr r.In [] false
   have h3 : mIdx (r.V ++ [0]) (p.l.length : Int) = some 0 := by rw [<- z]; exact yr r.V [] 0
   rw [h1, h2, h3];simp only [bS];rw [show w64 (0 + 1) = 1 by rw [zR] <;> simp];have h4 : mIdx (mSet (r.Gens ++ [0]) (p.l.length : Int) 1) (p.l.length : Int) = some 1 := by
    rw [yJ]; simp only [mSet, tN]; rw [List.getElem?_set_self (by simp; omega)]
   rw [h4]
   rfl
  ·have i : r.Gens.length = p.l.length := by rw [P.ge, lM]
   have t : r.In.length = p.l.length := by rw [P.tk, lM]
   have hs : ∀ {α : Type} (l : List α) (a b : α), (l ++ [a]).set l.length b = l ++ [b] := fun l a b => by simp
   refine ⟨P.mo, ?_, ?_, ?_, P.bk.trans hf⟩
   ·simp only [mSet, tN]; rw [hs, P.ge]; simp
   ·simp only [mSet, tN]; rw [i, <- t, hs, P.tk]; simp
   ·simp [mSet, P.vl]
 ·rw [List.concat_eq_append] at hf;obtain ⟨j, x, rfl, hj, ht⟩ := I.fre f (by rw [hf]; simp);have O := I.gen j x hj;rw [Pj.rq I (by omega) hf hj] at h;simp only [Option.some.injEq, Prod.mk.injEq, true_and] at h;obtain ⟨rfl, rfl⟩ := h;have u := (List.getElem?_eq_some_iff.1 hj).1;have B : fs.length < 1000000 := by
   have h0 := I.flen;rw [hf] at h0;simp only [lA, List.length_singleton] at h0;omega
  have hw : w64 (((fs ++ [(j : Int)]).length : Int) - 1) = (fs.length : Int) := by rw [zR] <;> simp <;> omega
  have A : mIdx (fs ++ [(j : Int)]) (fs.length : Int) = some (j : Int) := yr fs [] (j : Int);have y : mCut (fs ++ [(j : Int)]) 0 (fs.length : Int) = some fs := by
   unfold mCut;rw [if_pos ⟨by omega, by omega, by simp; omega⟩];simp
  have D : mIdx r.Gens (j : Int) = some x.gen := by rw [P.ge, yJ, List.getElem?_map, hj]; rfl
  have F : mIdx r.In (j : Int) = some x.taken := by rw [P.tk, yJ, List.getElem?_map, hj]; rfl
  have hV : ∃ v0, mIdx r.V (j : Int) = some v0 := ⟨_, by rw [yJ]; exact List.getElem?_eq_getElem (by rw [P.vl]; exact u)⟩
  obtain ⟨v0, hV⟩ := hV;refine ⟨zn.mk r.Most (mSet r.Gens (j : Int) (x.gen + 1)) (mSet r.In (j : Int) true) (mSet r.V (j : Int) 0) fs, ?_, ?_⟩
  ·unfold y1;rw [P.bk, hf, dT (by simp), cT, hw, A];simp only [bS];rw [y];simp only [bS];rw [D, F, hV];simp only [bS];rw [zR (by omega) (by omega)];have h4 : mIdx (mSet r.Gens (j : Int) (x.gen + 1)) (j : Int) = some (x.gen + 1) := by
    rw [yJ]; simp only [mSet, tN]; rw [List.getElem?_set_self (by rw [P.ge, lM]; exact u)]
   rw [h4]
   rfl
  ·refine ⟨P.mo, ?_, ?_, ?_, rfl⟩
   ·simp only [mSet, tN]; rw [P.ge, List.map_set]
   ·simp only [mSet, tN]; rw [P.tk, List.map_set]
   ·simp only [mSet, List.length_set]; exact P.vl
theorem PR.give (P : PR p r) (I : Pj.Inv p T) {v : zD} {s : zd} (h : Pj.Live p s v) (i : zV p s = some (v, 0, p')) :
  ∃ x r', wM r s = some (x, 0, r') /\ PR p' r' := by
 rw [Pj.rr I h] at i;simp only [Option.some.injEq, Prod.mk.injEq, true_and] at i;subst i;have l := P.look I s (Pj.wH I h);obtain ⟨j, e, hj⟩ := h;have t := (List.getElem?_eq_some_iff.1 hj).1;have u := I.lb;have z := I.flen;have A : mIdx r.In (j : Int) = some true := by rw [P.tk, yJ, List.getElem?_map, hj]; rfl
 obtain ⟨v0, hV⟩ : ∃ v0, mIdx r.V (j : Int) = some v0 := ⟨_, by rw [yJ]; exact List.getElem?_eq_getElem (by rw [P.vl]; exact t)⟩
 refine ⟨v0, zn.mk r.Most r.Gens (mSet r.In (j : Int) false) r.V (p.free ++ [(j : Int)]), ?_, ?_⟩
 ·unfold wM;rw [l];simp only [bS];rw [show ((0 : Int) != 0) = false from rfl, cF, e, A];simp only [bS];rw [P.bk, y4 (by simp; omega), List.nil_append];simp only [bS];rw [y4 (by simp; omega)];simp only [bS];rw [hV]
  rfl
 ·refine ⟨P.mo, ?_, ?_, ?_, by rw [e]⟩
  ·simp only [mSet, e, tN]; exact P.ge.trans (qi (y := ⟨s.Gen, false, zD.mk 0 0 0 (zd.mk 0 0)⟩) zw.gen hj rfl).symm
  ·simp only [mSet, e, tN]; rw [P.tk, List.map_set]
  ·simp only [mSet, List.length_set]; exact P.vl
end
end
noncomputable section
set_option maxRecDepth 10000
def bef (a b : JR) : Prop := a.it.k < b.it.k \/ (a.it.k = b.it.k /\ a.it.s < b.it.s)
instance (a b : JR) : Decidable (bef a b) := by unfold bef; exact inferInstance
theorem dL (a b : JR) : ((decide (a.it.k < b.it.k)) || ((a.it.k == b.it.k) && (decide (a.it.s < b.it.s)))) = decide (bef a b) := by
 by_cases h : bef a b
 ·rw [dT h];rcases h with h | ⟨h1, h2⟩
  ·rw [dT h]; rfl
  ·rw [dT h2]; simp [h1]
 ·rw [dF h];unfold bef at h;rw [Bool.or_eq_false_iff, Bool.and_eq_false_iff];refine ⟨dF (by omega), ?_⟩;by_cases h1 : a.it.k = b.it.k
  ·exact Or.inr (dF (by omega))
  ·exact Or.inl (by simpa using h1)
def Best (x : Int) (P : List JR) (b : Int) : Prop :=
 (b = -1 /\ ∀ j ∈ P, j.q ≠ x) \/ ∃ (i : Nat) (j : JR), b = (i : Int) /\ P[i]? = some j /\ j.q = x /\ ∀ e ∈ P, e.q = x -> ¬ bef e j
theorem qR {L : List JR} {i : Nat} {j : JR} (h : L[i]? = some j) : mIdx (L.map rj) (i : Int) = some (rj j) := by rw [yJ, List.getElem?_map, h]; rfl
theorem fg {x : Int} {m : zc} {L : List JR} (hm : m.L = L.map rj) (hl : L.length <= 65536) :
  ∀ (rest pre : List JR) (b : Int) (f : Nat), L = pre ++ rest -> rest.length < f -> Best x pre b -> ∃ D, yh x m f b (pre.length : Int) = some D /\ Best x L D
 | [], pre, b, f + 1, e, hf, I => by
  refine ⟨b, ?_, by rw [e, aN]; exact I⟩;unfold yh;rw [hm, lM, dF (by rw [e]; simp), cF]
 | y :: rest, pre, b, f + 1, e, hf, I => by
  have hlen : L.length = pre.length + (rest.length + 1) := by rw [e]; simp
  simp only [lC] at hf;have S : L[pre.length]? = some y := by rw [e]; simp
  have F : ∀ {i : Nat} {j : JR}, pre[i]? = some j -> L[i]? = some j := by
   intro i j h;rw [e, List.getElem?_append_left (List.getElem?_eq_some_iff.1 h).1]; exact h
  have go : ∀ J, Best x (pre ++ [y]) J -> ∃ D, yh x m f J ((pre.length : Int) + 1) = some D /\ Best x L D := by
   intro J h1;have := fg hm hl rest (pre ++ [y]) J f (by rw [e]; simp) (by omega) h1;rw [show ((pre ++ [y]).length : Int) = (pre.length : Int) + 1 by simp] at this;exact this
  unfold yh;rw [hm, lM, dT (by omega), cT, qR S];simp only [bS];rw [zR (x := (pre.length : Int) + 1) (by omega) (by omega), show (rj y).Queue = y.q from rfl];by_cases hq : y.q = x
  ·rw [show (y.q == x) = true by simpa using hq, cT];rcases I with ⟨rfl, hn⟩ | ⟨i, j, rfl, hi, z, u⟩
   ·rw [show decide ((-1 : Int) < 0) = true from rfl, cT];simp only [bS, cT];refine go _ (Or.inr ⟨pre.length, y, rfl, by simp, hq, ?_⟩);intro A t z;rcases List.mem_append.1 t with h | h
    ·exact absurd z (hn A h)
    ·rw [List.mem_singleton.1 h]; unfold bef; omega
   ·rw [dF (by omega), cF, qR (F hi)];simp only [bS];unfold uD;simp only [bS];by_cases B : bef y j
    ·have O : ((decide ((rj y).E.Key < (rj j).E.Key)) || (((rj y).E.Key == (rj j).E.Key) && (decide ((rj y).E.Serial < (rj j).E.Serial)))) = true := by
      exact (dL y j).trans (dT B)
     rw [O, cT];simp only [bS];refine go _ (Or.inr ⟨pre.length, y, rfl, by simp, hq, ?_⟩);intro A t l;rcases List.mem_append.1 t with h | h
     ·have := u A h l;unfold bef at *; omega
     ·rw [List.mem_singleton.1 h]; unfold bef; omega
    ·have O : ((decide ((rj y).E.Key < (rj j).E.Key)) || (((rj y).E.Key == (rj j).E.Key) && (decide ((rj y).E.Serial < (rj j).E.Serial)))) = false := by
      exact (dL y j).trans (dF B)
     rw [O, cF];simp only [bS];refine go _ (Or.inr ⟨i, j, rfl, by rw [List.getElem?_append_left (List.getElem?_eq_some_iff.1 hi).1]; exact hi, z, ?_⟩);intro A t l;rcases List.mem_append.1 t with h | h
     ·exact u A h l
     ·rw [List.mem_singleton.1 h]; exact B
  ·rw [show (y.q == x) = false by simpa using hq, cF];simp only [bS, cF];refine go _ ?_;rcases I with ⟨rfl, hn⟩ | ⟨i, j, rfl, hi, z, u⟩
   ·refine Or.inl ⟨rfl, fun j hj => ?_⟩;rcases List.mem_append.1 hj with h | h
    ·exact hn j h
    ·rw [List.mem_singleton.1 h]; exact hq
   ·refine Or.inr ⟨i, j, rfl, by rw [List.getElem?_append_left (List.getElem?_eq_some_iff.1 hi).1]; exact hi, z, ?_⟩;intro A t l;rcases List.mem_append.1 t with h | h
    ·exact u A h l
    ·rw [List.mem_singleton.1 h] at l; exact absurd l hq
theorem lX {x : Int} {m : zc} {L : List JR} (hm : m.L = L.map rj) (hl : L.length <= 65536) {f : Nat} (hf : 65536 < f) : ∃ b, xq f m x = some b /\ Best x L b := by
 obtain ⟨b, e, i⟩ := fg (x := x) hm hl L [] (-1) f rfl (by omega) (Or.inl ⟨rfl, by simp⟩);refine ⟨b, ?_, i⟩;unfold xq;rw [show ((([] : List JR).length : Nat) : Int) = 0 from rfl] at e;rw [e]
 rfl
theorem A5 {m : zc} {A : List JR} {j : JR} {B : List JR} (hm : m.L = (A ++ j :: B).map rj) (hl : (A ++ j :: B).length <= 65536) (hn : ∀ i ∈ A, i.R ≠ j.R) :
  ∀ (rest pre : List JR) (f : Nat), A = pre ++ rest -> rest.length < f -> yE j.R.At j.R.Gen m f (pre.length : Int) = some (.inl ((A.length : Int), m))
 | [], pre, f + 1, e, hf => by
  have hlen : (A ++ j :: B).length = A.length + (B.length + 1) := by simp
  rw [aN] at e;subst e;unfold yE;rw [hm, lM, dT (by omega), cT, qR (j := j) (by simp)];simp only [bS];rw [show zd.eq (rj j).R (zd.mk j.R.At j.R.Gen) = true from (vW _ _).2 rfl, cT]
 | y :: rest, pre, f + 1, e, hf => by
  have hlen : (A ++ j :: B).length = A.length + (B.length + 1) := by simp
  have l : A.length = pre.length + (rest.length + 1) := by rw [e]; simp
  simp only [lC] at hf;have u : (A ++ j :: B)[pre.length]? = some y := by rw [e]; simp
  unfold yE;rw [hm, lM, dT (by omega), cT, qR u];simp only [bS];have t : zd.eq y.R j.R = false := by
   simpa using fun x => hn y (by rw [e]; simp) ((vW _ _).1 x)
  rw [show zd.eq (rj y).R (zd.mk j.R.At j.R.Gen) = false from t, cF, zR (by omega) (by omega)];have ih := A5 hm hl hn rest (pre ++ [y]) f (by rw [e]; simp) (by omega);rw [show ((pre ++ [y]).length : Int) = (pre.length : Int) + 1 by simp] at ih;exact ih
theorem iL {m : zc} {A : List JR} {j : JR} {B : List JR} (hm : m.L = (A ++ j :: B).map rj) (hl : (A ++ j :: B).length <= 65536) (hn : ∀ i ∈ A, i.R ≠ j.R) {f : Nat} (hf : 65536 < f) : xG f m j.R = some ((A.length : Int), m) := by
 have h := A5 hm hl hn A [] f rfl (by simp only [lA] at hl; omega);unfold xG;rw [show ((([] : List JR).length : Nat) : Int) = 0 from rfl] at h;rw [h]
 rfl
theorem mu {x : Int} {m : zc} {L : List JR} (hm : m.L = L.map rj) (hl : L.length <= 65536) :
  ∀ (rest pre : List JR) (n : Int) (f : Nat), L = pre ++ rest -> rest.length < f -> 0 <= n -> n <= pre.length ->
   yt x m f n (pre.length : Int) = some (n + (rest.filter fun j => j.q == x).length)
 | [], pre, n, f + 1, e, hf, h0, h1 => by
  unfold yt;rw [hm, lM, dF (by rw [e]; simp), cF];simp
 | y :: rest, pre, n, f + 1, e, hf, h0, h1 => by
  have hlen : L.length = pre.length + (rest.length + 1) := by rw [e]; simp
  simp only [lC] at hf;have i : L[pre.length]? = some y := by rw [e]; simp
  unfold yt;rw [hm, lM, dT (by omega), cT, qR i];simp only [bS];rw [zR (x := (pre.length : Int) + 1) (by omega) (by omega), show (rj y).Queue = y.q from rfl, List.filter_cons];cases l : y.q == x with
  | true =>
   have ih := mu (x := x) hm hl rest (pre ++ [y]) (n + 1) f (by rw [e]; simp) (by omega) (by omega) (by simp; omega);rw [show ((pre ++ [y]).length : Int) = (pre.length : Int) + 1 by simp] at ih;rw [cT, zR (by omega) (by omega)];simp only [bS, if_true];rw [ih]; simp; omega
  | false =>
   have ih := mu (x := x) hm hl rest (pre ++ [y]) n f (by rw [e]; simp) (by omega) h0 (by simp; omega);rw [show ((pre ++ [y]).length : Int) = (pre.length : Int) + 1 by simp] at ih;rw [cF];simp only [bS, Bool.false_eq_true, if_false];exact ih
theorem iY {x : Int} {m : zc} {L : List JR} (hm : m.L = L.map rj) (hl : L.length <= 65536) {f : Nat} (hf : 65536 < f) : xn f m x = some ((sel x L).length : Int) := by
 have h := mu (x := x) hm hl L [] 0 f rfl (by omega) (Int.le_refl _) (Int.le_refl _);unfold xn;rw [show ((([] : List JR).length : Nat) : Int) = 0 from rfl] at h;rw [h];simp [sel]
theorem kh : ∀ (rest pre : List JR) (m : zc) (n : Int) (f : Nat), m.L = pre.map rj ++ rest.map rj -> pre.length + rest.length <= 65536 -> rest.length < f -> 0 <= n -> n <= pre.length ->
   yu f n (pre.length : Int) m = some (n + (rest.filter fun j => j.q == 1).length, zc.mk m.Most m.Now m.Next m.Pool (pre.map rj ++ rest.map fun j => rj j.mv))
 | [], pre, m, n, f + 1, hm, hl, hf, h0, h1 => by
  unfold yu;rw [hm, dF (by simp), cF];simp only [List.map_nil, aN] at hm;rw [List.map_nil, aN, <- hm];simp
 | y :: rest, pre, m, n, f + 1, hm, hl, hf, h0, h1 => by
  simp only [lC] at hf hl;have i : mIdx m.L (pre.length : Int) = some (rj y) := by
   rw [hm, yJ]; simp
  have hlen : (m.L.length : Int) = pre.length + (rest.length + 1) := by rw [hm]; simp
  unfold yu;rw [hlen, dT (by omega), cT, i];simp only [bS];rw [zR (x := (pre.length : Int) + 1) (by omega) (by omega), show (rj y).Queue = y.q from rfl, List.filter_cons];by_cases hq : y.q = 1
  ·have e : y.mv = y.zero := by unfold JR.mv; rw [if_pos hq]
   have ih := kh rest (pre ++ [y.zero]) (zc.mk m.Most m.Now m.Next m.Pool (mSet m.L (pre.length : Int) (zF.mk 0 (rj y).Data (rj y).E (rj y).R))) (n + 1) f (by
    simp only [mSet, tN, hm];rw [List.set_append];simp [rj, JR.zero]) (by simp; omega) (by omega) (by omega) (by simp; omega)
   rw [show ((pre ++ [y.zero]).length : Int) = (pre.length : Int) + 1 by simp] at ih;rw [show (y.q == 1) = true by simp [hq], cT, zR (by omega) (by omega)];simp only [bS, if_true];rw [ih];simp [e]; omega
  ·have e : y.mv = y := by unfold JR.mv; rw [if_neg hq]
   have ih := kh rest (pre ++ [y]) m n f (by rw [hm]; simp) (by simp; omega) (by omega) h0 (by simp; omega);rw [show ((pre ++ [y]).length : Int) = (pre.length : Int) + 1 by simp] at ih;rw [show (y.q == 1) = false by simp [hq], cF];simp only [bS, Bool.false_eq_true, if_false];rw [ih];simp [e]
theorem gW {N : Nat} {p p' : zg} {s now : Int} {T : Nat} {A B : List JR} {j : JR} {m : zc} (H : TI N p s now (A ++ j :: B) m) (I : Pj.Inv p T) (hv : Pj.Live p j.R j.job) (l : zV p j.R = some (j.job, 0, p')) (hl : (A ++ j :: B).length <= 65536) :
  ∃ i, y0 m (A.length : Int) = some (rj j, i) /\ TI N p' s now (A ++ B) i := by
 obtain ⟨x, r', hr, t⟩ := H.po.give I hv l;have hlen : (A ++ j :: B).length = A.length + (B.length + 1) := by simp
 refine ⟨zc.mk m.Most m.Now m.Next r' ((A ++ B).map rj), ?_, ⟨H.mo, H.nw, H.nx, t, rfl⟩⟩;unfold y0;have e : m.L = A.map rj ++ rj j :: B.map rj := by rw [H.ls]; simp
 have h1 : mIdx m.L (A.length : Int) = some (rj j) := by
  have := yr (A.map rj) (B.map rj) (rj j);rw [lM] at this;rw [e]; exact this
 have h2 : mCut m.L 0 (A.length : Int) = some (A.map rj) := by
  unfold mCut;rw [e, if_pos ⟨by omega, by omega, by simp; omega⟩];simp
 have h3 : mCut m.L (w64 ((A.length : Int) + 1)) (m.L.length : Int) = some (B.map rj) := by
  rw [zR (by omega) (by omega), e];unfold mCut;rw [if_pos ⟨by omega, by simp; omega, by simp⟩];have : ((A.length : Int) + 1).toNat = A.length + 1 := by omega
  rw [this, tN, List.take_length];simp [List.drop_append]
 rw [h1];simp only [bS];rw [h2];simp only [bS];rw [h3];simp only [bS];rw [y4 (by simp; omega), List.nil_append];simp only [bS];rw [y4 (by simp; omega)];simp only [bS];rw [show (rj j).R = j.R from rfl, hr];simp
end
noncomputable section
set_option maxRecDepth 10000
theorem add_same {a b t : Int} (ha : 0 <= a) (e : a <= 9223372036854775807) (j : 0 <= b) (i : b <= 9223372036854775807) (h : vM a b = some t) : uC a b = some t /\ 0 <= t /\ t <= 9223372036854775807 := by
 unfold vM at h;unfold uC;rw [zR (x := 9223372036854775807 - b) (by omega) (by omega), dF (p := b < 0) (by omega), Bool.false_and, cF] at h;rw [zR (x := 9223372036854775807 - a) (by omega) (by omega), dF (p := a < 0) (by omega), Bool.false_and, cF];by_cases h1 : a + b > 9223372036854775807
 ·rw [dT (p := b > 0) (by omega), dT (p := a > 9223372036854775807 - b) (by omega)] at h;rw [dT (p := a > 0) (by omega), dT (p := b > 9223372036854775807 - a) (by omega)];simp only [Bool.and_self, cT, Option.some.injEq] at h ⊢;omega
 ·rw [dF (p := a > 9223372036854775807 - b) (by omega), Bool.and_false, cF, zR (by omega) (by omega)] at h;rw [dF (p := b > 9223372036854775807 - a) (by omega), Bool.and_false, cF, zR (by omega) (by omega)];simp only [Option.some.injEq] at h ⊢;omega
section
variable {N : Nat} {k : Int} {d : zb} {L L' : List JR} {T : Nat} {f : Nat} {m : zc} {rep : zq} {p' : zg} {s' now' : Int} {c : zt}
theorem k_of {c : zt} (hk : c.Kind = 1 \/ c.Kind = 5 \/ c.Kind = 6 \/ c.Kind = 7) : (bif c.Kind == 1 then some (c.Kind == 1) else (bif c.Kind == 5 then some (c.Kind == 5) else (bif c.Kind == 6 then some (c.Kind == 6) else some (c.Kind == 7)))) = some true := by
 rcases hk with e | e | e | e <;> rw [e] <;> rfl
theorem k_no {c : zt} (hk : ¬ (c.Kind = 1 \/ c.Kind = 5 \/ c.Kind = 6 \/ c.Kind = 7)) : (bif c.Kind == 1 then some (c.Kind == 1) else (bif c.Kind == 5 then some (c.Kind == 5) else (bif c.Kind == 6 then some (c.Kind == 6) else some (c.Kind == 7)))) = some false := by
 rw [show (c.Kind == 1) = false by simp; omega, show (c.Kind == 5) = false by simp; omega, show (c.Kind == 6) = false by simp; omega, show (c.Kind == 7) = false by simp; omega]; rfl
theorem TI.queue (hk : c.Kind = 1 \/ c.Kind = 5 \/ c.Kind = 6 \/ c.Kind = 7) (hq : c.Queue = 0 \/ c.Queue = 1) {Q : zq × zc -> Prop} (h : Do (zX f m c) Q) : Do (zN f m c) Q := by
 obtain ⟨r, e, hr⟩ := h;unfold zN;rw [k_of hk];simp only [bS, cT];rw [show ((c.Queue != 0) && (c.Queue != 1)) = false by rcases hq with e | e <;> rw [e] <;> rfl, cF, e];exact ⟨_, rfl, hr⟩
theorem TI.do (D : DI N k d L T) (hT : T < 1000000) (H : TI N d.t_.p d.q.serial d.clock.now L m) (hn : 0 <= d.clock.now /\ d.clock.now <= 9223372036854775807) (hs : d.q.serial < 1000000000000) (hc : c.Time <= 9223372036854775807) (hf : 95000 < f)
  (h : How N d.t_.p d.q.serial d.clock.now L c rep p' s' now' L') :
  Do (zN f m c) fun res => res.1 = rep /\ TI N p' s' now' L' res.2 /\ 0 <= now' /\ now' <= 9223372036854775807 /\ 0 <= s' /\ s' <= d.q.serial + 1 := by
 have b2 := D.items.2.1;have b3 := D.nb;have b4 : 0 <= d.q.serial := by
  obtain ⟨h0, h1, Q, _⟩ := D.pq;exact Q.sq.1
 have hz : 0 <= d.q.serial /\ d.q.serial <= d.q.serial + 1 := by omega
 cases h with
 | bad hk hq =>
  unfold zN;rw [k_of hk];simp only [bS, cT];rw [show ((c.Queue != 0) && (c.Queue != 1)) = true by simp; omega, cT];exact ⟨_, rfl, rfl, H, hn.1, hn.2, hz⟩
 | full hk hq hl =>
  refine TI.queue (Or.inl hk) hq ?_;unfold zX;refine Do.t (by rw [hk]; rfl) ?_;have U : d.t_.p.free = [] := by
   have h1 := D.cn;have h2 := D.jp.len;rw [D.jm] at h2;exact List.eq_nil_of_length_eq_zero (by omega)
  have a1 : (d.t_.p.l.length : Int) = d.t_.p.most := by
   have h1 := D.cn;rw [U] at h1;rw [D.jm];simp only [List.length_nil] at h1; omega
  refine Do.seq (H.po.full U a1) (Do.t rfl ?_);exact ⟨_, rfl, rfl, ⟨H.mo, H.nw, H.nx, H.po, H.ls⟩, hn.1, hn.2, hz⟩
 | sched j p' v hk hq hl h1 h2 h3 h4 ht =>
  refine TI.queue (Or.inl hk) hq ?_;unfold zX;refine Do.t (by rw [hk]; rfl) ?_;obtain ⟨r', W, P'⟩ := H.po.take D.jp (by omega) (by have := D.cn; rw [D.jm]; omega) ht;refine Do.seq W (Do.f rfl ?_);rw [y4 (by rw [H.ls]; simp; omega), List.nil_append];simp only [bS];rw [y4 (by rw [H.ls]; simp; omega)];have X := H.nx;refine ⟨_, rfl, rfl, ⟨H.mo, H.nw, ?_, P', ?_⟩, hn.1, hn.2, by omega, by omega⟩
  ·show w64 (m.Next + 1) = _;rw [X, zR (by omega) (by omega)]
  ·show m.L ++ [zF.mk c.Queue c.Data (zH.mk c.Time m.Next) j.R] = _;rw [H.ls, List.map_append, X];simp [rj, h1, h2, h3, h4]
 | dead e hk he a2 =>
  unfold zN;rw [k_no (by omega)];simp only [bS, cF];have z : (bif c.Kind == 2 then some (c.Kind == 2) else some (c.Kind == 3)) = some true := by rcases hk with e | e <;> rw [e] <;> rfl
  rw [z];simp only [bS, cT];rw [H.po.look D.jp c.Job a2];simp only [bS];rw [show (e != 0) = true by simp [bne, he], cT];exact ⟨_, rfl, rfl, H, hn.1, hn.2, hz⟩
 | late A j B hk eL hj ht =>
  subst eL;have u : j ∈ A ++ j :: B := by simp
  have y : Pj.Live d.t_.p j.R j.job := (D.jl _ _).2 ⟨j, u, rfl, rfl⟩;have F : ∀ i ∈ A, i.R ≠ j.R := by
   have := D.rn;rw [List.map_append, pC] at this;obtain ⟨_, _, h3⟩ := List.nodup_append.1 this;exact fun i hi e => h3 _ (List.mem_map_of_mem (f := JR.R) hi) _ (List.mem_cons_self ..) e
  unfold zN;rw [k_no (by omega)];simp only [bS, cF];have z : (bif c.Kind == 2 then some (c.Kind == 2) else some (c.Kind == 3)) = some true := by rw [hk]; rfl
  rw [z];simp only [bS, cT];rw [hj, H.po.look D.jp j.R (Pj.wH D.jp y)];simp only [bS];rw [show ((0 : Int) != 0) = false from rfl, cF, iL H.ls (by omega) F (by omega)];simp only [bS];rw [show (c.Kind == 3) = false by rw [hk]; rfl, cF, H.ls, qR (j := j) (by simp)];simp only [bS];rw [show decide (c.Time > (rj j).E.Key) = true from dT ht, cT];exact ⟨_, rfl, rfl, H, hn.1, hn.2, hz⟩
 | soon A j B p' hk eL hj ht hp =>
  subst eL;have u : j ∈ A ++ j :: B := by simp
  have y : Pj.Live d.t_.p j.R j.job := (D.jl _ _).2 ⟨j, u, rfl, rfl⟩;have F : ∀ i ∈ A, i.R ≠ j.R := by
   have := D.rn;rw [List.map_append, pC] at this;obtain ⟨_, _, h3⟩ := List.nodup_append.1 this;exact fun i hi e => h3 _ (List.mem_map_of_mem (f := JR.R) hi) _ (List.mem_cons_self ..) e
  unfold zN;rw [k_no (by omega)];simp only [bS, cF];have z : (bif c.Kind == 2 then some (c.Kind == 2) else some (c.Kind == 3)) = some true := by rw [hk]; rfl
  rw [z];simp only [bS, cT];rw [hj, H.po.look D.jp j.R (Pj.wH D.jp y)];simp only [bS];rw [show ((0 : Int) != 0) = false from rfl, cF, iL H.ls (by omega) F (by omega)];simp only [bS];have O : mIdx m.L (A.length : Int) = some (rj j) := by rw [H.ls]; exact qR (by simp)
  rw [show (c.Kind == 3) = false by rw [hk]; rfl, cF, O];simp only [bS];rw [show decide (c.Time > (rj j).E.Key) = false from dF (by show ¬ c.Time > j.it.k; omega), cF];have Y : mSet m.L (A.length : Int) (zF.mk (rj j).Queue (rj j).Data (zH.mk c.Time (rj j).E.Serial) (rj j).R) = (A ++ (⟨j.q, j.data, j.R, j.item, ⟨j.it.i, c.Time, j.it.s⟩⟩ : JR) :: B).map rj := by
   simp only [mSet, tN, H.ls, List.map_append, pC];rw [List.set_append];simp [rj]
  rw [Y, qR (j := ⟨j.q, j.data, j.R, j.item, ⟨j.it.i, c.Time, j.it.s⟩⟩) (by simp)];exact ⟨_, rfl, rfl, ⟨H.mo, H.nw, H.nx, H.po.same hp, rfl⟩, hn.1, hn.2, hz⟩
 | canc A j B p' hk eL hj hp =>
  subst eL;have u : j ∈ A ++ j :: B := by simp
  have y : Pj.Live d.t_.p j.R j.job := (D.jl _ _).2 ⟨j, u, rfl, rfl⟩;have F : ∀ i ∈ A, i.R ≠ j.R := by
   have := D.rn;rw [List.map_append, pC] at this;obtain ⟨_, _, h3⟩ := List.nodup_append.1 this;exact fun i hi e => h3 _ (List.mem_map_of_mem (f := JR.R) hi) _ (List.mem_cons_self ..) e
  obtain ⟨m', eo, H'⟩ := gW H D.jp y hp (by omega);unfold zN;rw [k_no (by omega)];simp only [bS, cF];have z : (bif c.Kind == 2 then some (c.Kind == 2) else some (c.Kind == 3)) = some true := by rw [hk]; rfl
  rw [z];simp only [bS, cT];rw [hj, H.po.look D.jp j.R (Pj.wH D.jp y)];simp only [bS];rw [show ((0 : Int) != 0) = false from rfl, cF, iL H.ls (by omega) F (by omega)];simp only [bS];rw [show (c.Kind == 3) = true by rw [hk]; rfl, cT, eo];exact ⟨_, rfl, rfl, H', hn.1, hn.2, hz⟩
 | back hk ht =>
  unfold zN;rw [k_no (by omega)];simp only [bS, cF];rw [hk];simp only [show ((4 : Int) == 2) = false from rfl, show ((4 : Int) == 3) = false from rfl, show ((4 : Int) == 4) = true from rfl, cF, cT, bS];rw [dT ht, cT];exact ⟨_, rfl, rfl, H, hn.1, hn.2, hz⟩
 | go t hk ht ha =>
  obtain ⟨W, h1, h2⟩ := add_same hn.1 hn.2 (by omega) hc ha;unfold zN;rw [k_no (by omega)];simp only [bS, cF];rw [hk];simp only [show ((4 : Int) == 2) = false from rfl, show ((4 : Int) == 3) = false from rfl, show ((4 : Int) == 4) = true from rfl, cF, cT, bS];rw [dF ht, cF, H.nw, W];exact ⟨_, rfl, rfl, ⟨H.mo, rfl, H.nx, H.po, H.ls⟩, h1, h2, hz⟩
 | idle hk hq a4 =>
  refine TI.queue (Or.inr (Or.inl hk)) hq ?_;unfold zX;refine Do.f (by rw [hk]; rfl) (Do.t (by rw [hk]; rfl) ?_);obtain ⟨b, eb, z⟩ := lX (x := c.Queue) H.ls (by omega) (f := f) (by omega);refine Do.seq eb ?_;rcases z with ⟨rfl, I⟩ | ⟨i, j, rfl, hi, S, J⟩
  ·rw [show decide ((-1 : Int) < 0) = true from rfl, cT];simp only [bS, cT];exact ⟨_, rfl, rfl, H, hn.1, hn.2, hz⟩
  ·rw [dF (by omega), cF, H.ls, qR hi];simp only [bS];have := a4 j (List.mem_of_getElem? hi) S;rw [show decide ((rj j).E.Key > m.Now) = true from dT (by rw [H.nw]; exact this), cT];exact ⟨_, rfl, rfl, H, hn.1, hn.2, hz⟩
 | fire A j B p' hk hq eL hj hle hm hp =>
  subst eL;refine TI.queue (Or.inr (Or.inl hk)) hq ?_;unfold zX;refine Do.f (by rw [hk]; rfl) (Do.t (by rw [hk]; rfl) ?_);obtain ⟨b, eb, z⟩ := lX (x := c.Queue) H.ls (by omega) (f := f) (by omega);refine Do.seq eb ?_;have u : j ∈ A ++ j :: B := by simp
  have y : Pj.Live d.t_.p j.R j.job := (D.jl _ _).2 ⟨j, u, rfl, rfl⟩;rcases z with ⟨rfl, I⟩ | ⟨i, j', rfl, hi, S, J⟩
  ·exact absurd hj (I j u)
  ·have a6 := List.mem_of_getElem? hi;have h1 := J j u hj;have h2 := hm j' a6 S;have Z : j'.it.s = j.it.s := by
    unfold bef at h1;unfold It.lt at h2;omega
   have a7 := D.items.2.2.1;have a8 : i = A.length := by
    have W : ((A ++ j :: B).map fun j => j.it.s)[i]? = some j.it.s := by rw [List.getElem?_map, hi]; simp [Z]
    have e2 : ((A ++ j :: B).map fun j => j.it.s)[A.length]? = some j.it.s := by rw [List.getElem?_map]; simp
    obtain ⟨l1, g1⟩ := List.getElem?_eq_some_iff.1 W;obtain ⟨l2, g2⟩ := List.getElem?_eq_some_iff.1 e2;have a0 := List.pairwise_iff_getElem.1 a7;rcases Nat.lt_trichotomy i A.length with h | h | h
    ·exact absurd (g1.trans g2.symm) (a0 _ _ l1 l2 h)
    ·exact h
    ·exact absurd (g2.trans g1.symm) (a0 _ _ l2 l1 h)
   subst a8;obtain ⟨m', eo, H'⟩ := gW H D.jp y hp (by omega);have O : mIdx m.L (A.length : Int) = some (rj j) := by rw [H.ls]; exact qR (by simp)
   rw [dF (by omega), cF, O];simp only [bS];rw [show decide ((rj j).E.Key > m.Now) = false from dF (by rw [H.nw]; show ¬ j.it.k > _; omega), cF, eo];exact ⟨_, rfl, rfl, H', hn.1, hn.2, hz⟩
 | self hk hq =>
  refine TI.queue (Or.inr (Or.inr (Or.inl hk))) (Or.inl hq) ?_;unfold zX;refine Do.f (by rw [hk]; rfl) (Do.f (by rw [hk]; rfl) (Do.t (by rw [hk]; rfl) (Do.t (by rw [hq]; rfl) ?_)));exact ⟨_, rfl, rfl, H, hn.1, hn.2, hz⟩
 | merge p' hk hq hp =>
  refine TI.queue (Or.inr (Or.inr (Or.inl hk))) (Or.inr hq) ?_;unfold zX;refine Do.f (by rw [hk]; rfl) (Do.f (by rw [hk]; rfl) (Do.t (by rw [hk]; rfl) (Do.f (by rw [hq]; rfl) ?_)));have e := kh L [] m 0 f (by rw [H.ls]; rfl) (by simp; omega) (by omega) (Int.le_refl _) (Int.le_refl _);rw [show ((([] : List JR).length : Nat) : Int) = 0 from rfl] at e;refine Do.seq e ?_;refine ⟨_, rfl, ?_, ⟨H.mo, H.nw, H.nx, H.po.same hp, ?_⟩, hn.1, hn.2, hz⟩
  ·simp [sel]
  ·show [].map rj ++ L.map (fun j => rj j.mv) = _;simp [List.map_map, Function.comp_def]
 | count hk hq =>
  refine TI.queue (Or.inr (Or.inr (Or.inr hk))) hq ?_;unfold zX;refine Do.f (by rw [hk]; rfl) (Do.f (by rw [hk]; rfl) (Do.f (by rw [hk]; rfl) ?_));rw [iY H.ls (by omega) (by omega)];exact ⟨_, rfl, rfl, H, hn.1, hn.2, hz⟩
 | unknown h =>
  unfold zN;rw [k_no (by omega)];simp only [bS, cF];rw [show (c.Kind == 2) = false by simp; omega, show (c.Kind == 3) = false by simp; omega, show (c.Kind == 4) = false by simp; omega];exact ⟨_, rfl, rfl, H, hn.1, hn.2, hz⟩
end
end
noncomputable section
set_option maxRecDepth 10000
theorem rR (r : zq) : zq.eq r r = true := by
 unfold zq.eq;rw [(vW _ _).2 rfl];simp
section
variable {N : Nat} {k : Int} {L : List JR} {T : Nat} {f : Nat} {c : zt}
theorem DI.ser {d : zb} (D : DI N k d L T) : 0 <= d.q.serial /\ d.q.serial <= T := by
 obtain ⟨h0, h1, Q, _⟩ := D.pq;exact Q.sq
theorem within (n lo hi : Int) (h : lo <= hi) (h0 : -1000000000000 <= lo) (h1 : hi <= 1000000000000) : ∃ v, yM n lo hi = some v /\ lo <= v /\ v <= hi := by
 unfold yM;cases e : (decide (n >= lo)) && (decide (n <= hi)) with
 | true =>
  rw [Bool.and_eq_true] at e;exact ⟨n, rfl, of_decide_eq_true e.1, of_decide_eq_true e.2⟩
 | false =>
  rw [cF, zR (x := hi - lo) (by omega) (by omega), zR (x := hi - lo + 1) (by omega) (by omega)];have hn : mNz (hi - lo + 1) = some () := by unfold mNz; rw [if_pos (by omega)]
  rw [hn];simp only [bS];have h2 := Int.tmod_lt_of_pos n (b := hi - lo + 1) (by omega);have h3 := Int.lt_tmod_of_pos n (b := hi - lo + 1) (by omega);by_cases hm : Int.tmod n (hi - lo + 1) < 0
  ·rw [dT hm, cT, zR (x := Int.tmod n (hi - lo + 1) + hi) (by omega) (by omega), zR (x := Int.tmod n (hi - lo + 1) + hi - lo) (by omega) (by omega), zR (x := Int.tmod n (hi - lo + 1) + hi - lo + 1) (by omega) (by omega)];simp only [bS];rw [zR (by omega) (by omega)];exact ⟨_, rfl, by omega, by omega⟩
  ·rw [dF hm, cF];simp only [bS];rw [zR (by omega) (by omega)];exact ⟨_, rfl, by omega, by omega⟩
end
def dueN (x now : Int) (L : List JR) : Nat := (L.filter fun j => j.q == x && decide (j.it.k <= now)).length
section
variable {N : Nat} {k : Int} {d : zb} {L : List JR} {T : Nat} {f : Nat}
theorem dD {x : Int} {T : Nat} (I : Pj.Inv d.t_.p T) {L2 : List JR} (hl : L2.length <= 65536) (i : ∀ j ∈ L2, Pj.Live d.t_.p j.R j.job) :
  ∀ (rest pre : List JR) (n : Int) (m : Nat), L2 = pre ++ rest -> rest.length < m -> 0 <= n -> n <= pre.length ->
   yO x (L2.length : Int) d (L2.map JR.R) m n (pre.length : Int) = some (n + dueN x d.clock.now rest)
 | [], pre, n, m + 1, e, hm, h0, h1 => by
  unfold yO;rw [dF (by rw [e]; simp), cF];simp [dueN]
 | y :: rest, pre, n, m + 1, e, hm, h0, h1 => by
  have hlen : L2.length = pre.length + (rest.length + 1) := by rw [e]; simp
  simp only [lC] at hm;have z := i y (by rw [e]; simp);have l : mIdx (L2.map JR.R) (pre.length : Int) = some y.R := by
   rw [yJ, List.getElem?_map, e]; simp
  have A : wx d.t_ y.R = some (y.job, 0) := by
   unfold wx;rw [Pj.wV I z]
   rfl
  unfold yO;rw [dT (by omega), cT, l];simp only [bS];rw [A];simp only [bS];have t : (bif y.job.Queue == x then (vO d.clock y.job.Time).bind fun u => some u else some false) = some (y.q == x && decide (y.it.k <= d.clock.now)) := by
   show (bif y.q == x then _ else _) = _;cases y.q == x <;> rfl
  rw [t];simp only [bS];rw [zR (x := (pre.length : Int) + 1) (by omega) (by omega)];unfold dueN;rw [List.filter_cons];cases B : (y.q == x && decide (y.it.k <= d.clock.now)) with
  | true =>
   have ih := dD (x := x) I hl i rest (pre ++ [y]) (n + 1) m (by rw [e]; simp) (by omega) (by omega) (by simp; omega);rw [show ((pre ++ [y]).length : Int) = (pre.length : Int) + 1 by simp] at ih;rw [cT, zR (by omega) (by omega)];simp only [bS, if_true];rw [ih]; simp [dueN]; omega
  | false =>
   have ih := dD (x := x) I hl i rest (pre ++ [y]) n m (by rw [e]; simp) (by omega) h0 (by simp; omega);rw [show ((pre ++ [y]).length : Int) = (pre.length : Int) + 1 by simp] at ih;rw [cF];simp only [bS, Bool.false_eq_true, if_false];exact ih
theorem DI.due (D : DI N k d L T) (hf : 95000 < f) (x : Int) : y9 f d x = some (dueN x d.clock.now L : Int) := by
 obtain ⟨L2, hp, e⟩ := D.out;have i := D.items.2.1;have l := D.nb;have hl2 := hp.length_eq;unfold y9 sW;rw [Pj.pU D.jp (by omega), e];simp only [bS];have := dD (x := x) D.jp (L2 := L2) (by omega) (fun j hj => (D.jl _ _).2 ⟨j, hp.mem_iff.1 hj, rfl, rfl⟩) L2 [] 0 f rfl (by omega) (Int.le_refl _) (Int.le_refl _);rw [lM];rw [show ((([] : List JR).length : Nat) : Int) = 0 from rfl] at this;rw [this];simp only [bS];have := ((hp.filter fun j => j.q == x && decide (j.it.k <= d.clock.now)).length_eq)
 unfold dueN;rw [this];simp
end
def tOk (t : Int) : Prop := -9223372036854775808 <= t /\ t <= 9223372036854775807
theorem cB : ∀ n : Fin 11, (mIdx ([1, 1, 1, 2, 3, 4, 5, 5, 5, 6, 7] : List Int) (n.val : Int)).isSome = true := by decide
theorem cI {x : yp} (u : tOk x.Time /\ tOk x.Raw.Time) {told : List zd} (ht : told.length <= 1000000) : ∃ c, ve x told = some c /\ tOk c.Time := by
 unfold ve;cases J : Int.tmod x.Job 16 == 15 with
 | true => exact ⟨_, rfl, u.2⟩
 | false =>
  rw [cF];obtain ⟨a, z, a1, a2⟩ := within x.Kind 0 1048576 (by omega) (by omega) (by omega);obtain ⟨b, A, O, S⟩ := within x.Queue 0 1048576 (by omega) (by omega) (by omega);rw [z];simp only [bS];have B := Int.tmod_lt_of_pos a (b := 11) (by omega);have D := Int.tmod_nonneg 11 a1;obtain ⟨n, hn⟩ : ∃ n : Nat, Int.tmod a 11 = (n : Int) := ⟨(Int.tmod a 11).toNat, by omega⟩
  have hk := cB ⟨n, by omega⟩;rw [hn];obtain ⟨U, e⟩ := Option.isSome_iff_exists.1 hk;simp only at e;rw [e];simp only [bS];rw [A];simp only [bS];have l : ∃ t, (bif (Int.tmod x.Data 4) != 0 then some (Int.tmod x.Time 30) else some x.Time) = some t /\ tOk t := by
   cases W : (Int.tmod x.Data 4) != 0 with
   | true =>
    have h1 := Int.tmod_lt_of_pos x.Time (b := 30) (by omega);have h2 := Int.lt_tmod_of_pos x.Time (b := 30) (by omega);exact ⟨_, rfl, by unfold tOk; omega⟩
   | false => exact ⟨_, rfl, u.1⟩
  obtain ⟨t, F, j⟩ := l;rw [F];simp only [bS];by_cases hl : (told.length : Int) > 0
  ·rw [dT hl, cT, zR (by omega) (by omega)];obtain ⟨i, I, i1, i2⟩ := within x.Job 0 ((told.length : Int) - 1) (by omega) (by omega) (by omega);rw [I];simp only [bS];obtain ⟨r, hr⟩ : ∃ r, mIdx told i = some r := by
    obtain ⟨y, rfl⟩ : ∃ y : Nat, i = (y : Int) := ⟨i.toNat, by omega⟩
    exact ⟨_, by rw [yJ]; exact List.getElem?_eq_getElem (by omega)⟩
   rw [hr];exact ⟨_, rfl, j⟩
  ·rw [dF hl, cF];exact ⟨_, rfl, j⟩
section
variable {N : Nat} {L L' : List JR} {c : zt} {p p' : zg} {s s' now now' : Int} {rep : zq}
theorem how5 (h : How N p s now L c rep p' s' now' L') (hk : c.Kind = 5) (hq : c.Queue = 0 \/ c.Queue = 1) : now' = now /\
  ((rep = no 28 /\ L' = L /\ ∀ j ∈ L, j.q = c.Queue -> now < j.it.k) \/ ∃ A j B, rep = zq.mk 0 j.R j.it.k j.data 0 /\ L = A ++ j :: B /\ L' = A ++ B /\ j.q = c.Queue /\ j.it.k <= now /\ ∀ i ∈ L, i.q = c.Queue -> ¬ i.it.lt j.it) := by
 cases h with
 | idle _ _ hn => exact ⟨rfl, Or.inl ⟨rfl, rfl, hn⟩⟩
 | fire A j B _ _ _ eL hj hn hm _ => exact ⟨rfl, Or.inr ⟨A, j, B, rfl, eL, rfl, hj, hn, hm⟩⟩
 | bad _ e => exact absurd hq e
 | _ => omega
end
inductive Ran (N : Nat) (k : Int) : zb -> List JR -> Nat -> List zt -> List zq -> zb -> List JR -> Nat -> Prop
 | nil {d : zb} {L : List JR} {T : Nat} (D : DI N k d L T) : Ran N k d L T [] [] d L T
 | cons {d d1 d' : zb} {L L1 L' : List JR} {T T' : Nat} {c : zt} {cs : List zt} {rep : zq} {reps : List zq} (D : DI N k d L T) (G : Went N k d L T c rep d1 L1) (h : Ran N k d1 L1 (T + 1) cs reps d' L' T') : Ran N k d L T (c :: cs) (rep :: reps) d' L' T'
section
variable {N : Nat} {k : Int}
theorem Ran.last {d d' : zb} {L L' : List JR} {T T' : Nat} {cs : List zt} {reps : List zq} (h : Ran N k d L T cs reps d' L' T') : DI N k d' L' T' /\ T' = T + cs.length /\ reps.length = cs.length := by
 induction h with
 | nil D => exact ⟨D, rfl, rfl⟩
 | cons D G h ih => exact ⟨ih.1, by rw [ih.2.1]; simp; omega, by simp [ih.2.2]⟩
theorem cd {x now : Int} {A B : List JR} {j : JR} : dueN x now (A ++ j :: B) = dueN x now (A ++ B) + (if (j.q == x && decide (j.it.k <= now)) = true then 1 else 0) := by
 unfold dueN;rw [List.filter_append, List.filter_append, List.filter_cons];split <;> simp <;> omega
end
structure Side (N : Nat) (k : Int) (d : zb) (L : List JR) (T : Nat) (m : zc) : Prop where
 di : DI N k d L T
 ti : TI N d.t_.p d.q.serial d.clock.now L m
 nw : 0 <= d.clock.now /\ d.clock.now <= 9223372036854775807
section
variable {N : Nat} {k : Int} {d : zb} {L : List JR} {T : Nat} {m : zc} {f : Nat}
theorem Side.do (S : Side N k d L T m) (j : T < 1000000) (hf : 95000 < f) {c : zt} (l : c.Time <= 9223372036854775807) :
  ∃ rep d' i L', yL f d c = some (rep, d') /\ zN f m c = some (rep, i) /\ Side N k d' L' (T + 1) i := by
 obtain ⟨⟨rep, d'⟩, t, L', G⟩ := S.di.do j hf c
 obtain ⟨⟨e, i⟩, u, h2, x, y, z, s1, s2⟩ := TI.do S.di j S.ti S.nw (by have := S.di.ser; omega) l hf G.how
 simp only at h2 G;subst h2;exact ⟨e, d', i, L', t, u, G.di, x, y, z⟩
end
section
variable {N : Nat} {L L' : List JR} {c : zt} {p p' : zg} {s s' now now' : Int} {rep : zq}
end
end
noncomputable section
set_option maxRecDepth 10000
theorem dC {n : Nat} (hn : n <= 100) : ∀ (r i e : Nat) (d : zi), i + r = n -> d.l.length = n -> r < e ->
  Do (zJ (n : Int) e (i : Int) d) fun s => (∃ c y d', s = .inl (c, y, true, d') /\ d'.l.length = n) \/ ∃ d', s = .inr d' /\ d'.l.length = n
 | 0, i, e, d, h1, h2, h3 => by
  obtain ⟨f, rfl⟩ : ∃ f, e = f + 1 := ⟨e - 1, by omega⟩
  unfold zJ;refine Do.f (dF (by omega)) ?_;exact ⟨_, rfl, Or.inr ⟨d, rfl, h2⟩⟩
 | r + 1, i, e, d, h1, h2, h3 => by
  obtain ⟨f, rfl⟩ : ∃ f, e = f + 1 := ⟨e - 1, by omega⟩
  unfold zJ;refine Do.t (dT (by omega)) ?_;obtain ⟨b, j⟩ : ∃ b, d.l[i]? = some b := ⟨_, List.getElem?_eq_getElem (by omega)⟩
  rw [yJ, j];simp only [bS];unfold yT;cases hu : MCh.buf b.c_ with
  | nil =>
   simp only [bS, cF];rw [zR (by omega) (by omega)];have ih := dC hn r (i + 1) f (zi.mk (mSet d.l (i : Int) b)) (by omega) (by simp [mSet, h2]) (by omega);rw [show ((i + 1 : Nat) : Int) = (i : Int) + 1 by simp] at ih;exact ih
  | cons u r1 =>
   simp only [bS, cT];exact ⟨_, rfl, Or.inl ⟨u, i, _, rfl, by simp [mSet, h2]⟩⟩
inductive Chn (N : Nat) (k : Int) : zb -> List JR -> Nat -> List zk -> zb -> List JR -> Nat -> Prop
 | nil {d : zb} {L : List JR} {T : Nat} : Chn N k d L T [] d L T
 | cons {d d1 d' : zb} {L L1 L' : List JR} {T T' : Nat} {e : zk} {es : List zk} (D : DI N k d L T) (G : Went N k d L T e.Command e.Reply d1 L1) (hn : e.Now = d1.clock.now) (hs : 0 <= e.Steps) (ht : e.Command.Time <= 9223372036854775807) (h : Chn N k d1 L1 (T + 1) es d' L' T') : Chn N k d L T (e :: es) d' L' T'
theorem Chn.trans {N : Nat} {k : Int} {d d1 d2 : zb} {L L1 L2 : List JR} {T e i : Nat} {A B : List zk} (h : Chn N k d L T A d1 L1 e) (j : Chn N k d1 L1 e B d2 L2 i) : Chn N k d L T (A ++ B) d2 L2 i := by
 induction h with
 | nil => exact j
 | cons D G hn hs ht h ih => exact .cons D G hn hs ht (ih j)
structure BI (N : Nat) (k : Int) (n : Nat) (b : zo) (L : List JR) (T : Nat) : Prop where
 di : DI N k b.s.d L T
 bx : b.s.desk.l.length = n
 nb : n <= 100
 ev : b.l.length <= T
section
variable {N n : Nat} {k : Int} {b : zo} {L : List JR} {T f : Nat}
theorem BI.len (B : BI N k n b L T) : L.length <= 60 := by
 have h1 := B.di.items.2.1;have h2 := B.di.nb;omega
theorem BI.one (B : BI N k n b L T) (j : T < 900000) (hf : 95000 < f) (c : zt) {k2 : List zf} (hk : k2.length = n) :
  ∃ rep d' L', yL f b.s.d c = some (rep, d') /\ wD (zo.mk (zp.mk d' (zi.mk k2)) b.l) c rep = some (rep, zo.mk (zp.mk d' (zi.mk k2)) (b.l ++ [zk.mk c rep d'.clock.now d'.last])) /\
   BI N k n (zo.mk (zp.mk d' (zi.mk k2)) (b.l ++ [zk.mk c rep d'.clock.now d'.last])) L' (T + 1) /\ Went N k b.s.d L T c rep d' L' /\ (c.Time <= 9223372036854775807 -> Chn N k b.s.d L T [zk.mk c rep d'.clock.now d'.last] d' L' (T + 1)) := by
 obtain ⟨⟨rep, d'⟩, e, L', G⟩ := B.di.do (f := f) (by omega) hf c
 have i := B.ev;refine ⟨rep, d', L', e, ?_, ⟨G.di, hk, B.nb, by simp; omega⟩, G, fun ht => .cons B.di G rfl G.di.la.1 ht .nil⟩;unfold wD yB wu uB wi;simp only [bS];rw [y4 (by simp; omega)]
 rfl
theorem BI.drain (hf : 95000 < f) : ∀ (r x : Nat) (m : Nat) {b : zo} {L : List JR} {T : Nat}, BI N k n b L T -> T < 800000 + x -> dueN 0 b.s.d.clock.now L = r -> x + r < 4000 -> f + r < m ->
  ∃ t L' T', y6 m (x : Int) (x : Int) b = some (((x + r : Nat) : Int), t) /\ BI N k n t L' T' /\ T' = T + r + 1 /\ t.s.d.clock.now = b.s.d.clock.now /\ dueN 0 b.s.d.clock.now L' = 0 /\ t.s.desk = b.s.desk /\ ∃ es, t.l = b.l ++ es /\ es.length = r + 1 /\ Chn N k b.s.d L T es t.s.d L' T'
 | 0, x, m, b, L, T, B, X, hr, Y, hm => by
  obtain ⟨m, rfl⟩ : ∃ q, m = q + 1 := ⟨m - 1, by omega⟩
  obtain ⟨rep, d', L', D, F, I, G, hC⟩ := B.one (f := m) (by omega) (by omega) (zt.mk 5 0 (zd.mk 0 0) 0 0) (k2 := b.s.desk.l) B.bx;obtain ⟨i, hh⟩ := how5 G.how rfl (Or.inl rfl);simp only at hh;have hw : (rep.Why != 0) = true /\ L' = L := by
   rcases hh with ⟨rfl, rfl, z⟩ | ⟨A, j, R, rfl, rfl, rfl, u, y, hm⟩
   ·exact ⟨rfl, rfl⟩
   ·have hd := cd (x := 0) (now := b.s.d.clock.now) (A := A) (B := R) (j := j);rw [if_pos (by rw [u, dT y]; simp)] at hd;omega
  obtain ⟨hw, rfl⟩ := hw;refine ⟨_, L', T + 1, ?_, I, rfl, i, hr, rfl, _, rfl, rfl, hC (by show (0 : Int) <= _; omega)⟩;unfold y6 xC;rw [dT (by omega), cT, D];simp only [bS];rw [show (zp.mk d' b.s.desk) = zp.mk d' (zi.mk b.s.desk.l) from rfl, F];simp only [bS];rw [hw, cT]
  rfl
 | r + 1, x, m, b, L, T, B, X, hr, Y, hm => by
  obtain ⟨m, rfl⟩ : ∃ q, m = q + 1 := ⟨m - 1, by omega⟩
  obtain ⟨rep, d', L', D, F, I, G, hC⟩ := B.one (f := m) (by omega) (by omega) (zt.mk 5 0 (zd.mk 0 0) 0 0) (k2 := b.s.desk.l) B.bx;obtain ⟨i, hh⟩ := how5 G.how rfl (Or.inl rfl);simp only at hh;have hw : (rep.Why != 0) = false /\ dueN 0 b.s.d.clock.now L' = r := by
   rcases hh with ⟨_, _, z⟩ | ⟨A, j, R, rfl, rfl, rfl, u, y, hm⟩
   ·have : dueN 0 b.s.d.clock.now L = 0 := by
     unfold dueN;rw [List.filter_eq_nil_iff.2 (fun j hj => ?_)]; rfl;intro e;rw [Bool.and_eq_true, beq_iff_eq] at e;have := z j hj e.1;have := of_decide_eq_true e.2;omega
    omega
   ·have hd := cd (x := 0) (now := b.s.d.clock.now) (A := A) (B := R) (j := j);rw [if_pos (by rw [u, dT y]; simp)] at hd;exact ⟨rfl, by omega⟩
  obtain ⟨hw, hd⟩ := hw;obtain ⟨t, L2, Z, O, B2, q1, q2, J, S, es, U, q6, W⟩ := BI.drain hf r (x + 1) m I (by omega) (by simp only; rw [i]; exact hd) (by omega) (by omega);simp only at q2 J U S W;rw [i] at q2 J;refine ⟨t, L2, Z, ?_, B2, by omega, q2, J, S, zk.mk (zt.mk 5 0 (zd.mk 0 0) 0 0) rep d'.clock.now d'.last :: es, by rw [U]; simp, by simp [q6], (hC (by show (0 : Int) <= _; omega)).trans W⟩;unfold y6 xC;rw [dT (by omega), cT, D];simp only [bS];rw [show (zp.mk d' b.s.desk) = zp.mk d' (zi.mk b.s.desk.l) from rfl, F];simp only [bS];rw [hw, cF, zR (by omega) (by omega)];rw [show ((x + 1 : Nat) : Int) = (x : Int) + 1 by simp] at O;rw [O];rw [show x + 1 + r = x + (r + 1) by omega]
theorem BI.act (B : BI N k n b L T) (I : T < 700000) (hf : 96000 < f) (x : y2) : Do (xl f b x) fun res => ∃ L' T', BI N k n res.2 L' T' /\ T' <= T + 62 := by
 have e := B.bx;have j := B.nb;unfold xl;refine Do.if (fun h1 => ?_) (fun h1 => ?_)
 ·unfold wP xf;by_cases h : x.Box < 0 \/ x.Box >= (b.s.desk.l.length : Int)
  ·have hs : (bif decide (x.Box < 0) then some true else some (decide (x.Box >= (b.s.desk.l.length : Int)))) = some true := by
    by_cases h0 : x.Box < 0
    ·rw [dT h0, cT]
    ·rw [dF h0, cF, dT (by omega)]
   rw [hs];simp only [bS, cT];exact ⟨_, rfl, L, T, ⟨B.di, e, j, B.ev⟩, by omega⟩
  ·have hs : (bif decide (x.Box < 0) then some true else some (decide (x.Box >= (b.s.desk.l.length : Int)))) = some false := by
    rw [dF (by omega), cF, dF (by omega)]
   rw [hs];simp only [bS, cF];obtain ⟨i, hi⟩ : ∃ i : Nat, x.Box = (i : Int) := ⟨x.Box.toNat, by omega⟩
   obtain ⟨y, A⟩ : ∃ y, b.s.desk.l[i]? = some y := ⟨_, List.getElem?_eq_getElem (by omega)⟩
   rw [hi, yJ, A];simp only [bS];unfold xk;cases MCh.room y.c_ with
   | true =>
    simp only [cT, bS];exact ⟨_, rfl, L, T, ⟨B.di, by simp [mSet, e], j, B.ev⟩, by omega⟩
   | false =>
    simp only [cF, bS];exact ⟨_, rfl, L, T, ⟨B.di, by simp [mSet, e], j, B.ev⟩, by omega⟩
 ·refine Do.if (fun h2 => ?_) (fun h2 => ?_)
  ·unfold wI xe;obtain ⟨s, es, hs⟩ := dC j n 0 f b.s.desk (by omega) e (by omega);rw [show ((0 : Nat) : Int) = 0 from rfl] at es;rw [e, es];rcases hs with ⟨c, y, d', rfl, hd⟩ | ⟨d', rfl, hd⟩
   ·simp only [bS];obtain ⟨rep, D, L', t, z, u, G, _⟩ := B.one (f := f) (by omega) (by omega) c (k2 := d'.l) hd;rw [show (!true) = false from rfl, cF, t];simp only [bS];rw [show (!true) = false from rfl, cF];refine Do.seq z ?_;exact ⟨_, rfl, L', T + 1, u, by omega⟩
   ·simp only [bS];rw [show (!false) = true from rfl, cT];simp only [bS];rw [show (!false) = true from rfl, cT];exact ⟨_, rfl, L, T, ⟨B.di, hd, j, B.ev⟩, by omega⟩
  ·refine Do.if (fun h3 => ?_) (fun h3 => ?_)
   ·unfold xC;obtain ⟨rep, D, L', t, z, u, G, _⟩ := B.one (f := f) (by omega) (by omega) x.Command (k2 := b.s.desk.l) e;rw [t];simp only [bS];refine Do.seq z ?_;exact ⟨_, rfl, L', T + 1, u, by omega⟩
   ·refine Do.if (fun h4 => ?_) (fun h4 => ?_)
    ·have hl := B.len;have F : dueN 0 b.s.d.clock.now L <= L.length := List.length_filter_le _ _;obtain ⟨J, L', T', t, u, q1, _⟩ := BI.drain (f := 95001) (by omega) (dueN 0 b.s.d.clock.now L) 0 f B (by omega) rfl (by omega) (by omega);rw [show ((0 : Nat) : Int) = 0 from rfl] at t;unfold vf;rw [t];exact ⟨_, rfl, L', T', u, by omega⟩
    ·exact ⟨_, rfl, L, T, B, by omega⟩
end
end
noncomputable section
set_option maxRecDepth 10000
section
variable {N n : Nat} {k : Int}
theorem cE {f : Nat} (hf : 10 < f) (room : Int) (hr : 1 <= room /\ room <= 100) : ∃ d, yY f 3 room = some d /\ d.l.length = 3 /\ ∀ b ∈ d.l, b = zf.mk ⟨room.toNat, []⟩ := by
 obtain ⟨m, rfl⟩ : ∃ m, f = m + 4 := ⟨f - 4, by omega⟩
 have e : xA room = some (zf.mk ⟨room.toNat, []⟩) := by
  unfold xA cO;rw [show (if 4096 < room then 4096 else room) = room from if_neg (by omega)];have : (if room > 1 then room else 1) = room := by split <;> omega
  rw [this, if_pos (by omega)]
  rfl
 refine ⟨zi.mk [zf.mk ⟨room.toNat, []⟩, zf.mk ⟨room.toNat, []⟩, zf.mk ⟨room.toNat, []⟩], ?_, rfl, by simp⟩;unfold yY;show ((yy room 3 (m + 4) 0 (zi.mk [])).bind fun s => some s) = _;simp only [yy];rw [show decide ((0 : Int) < 3) = true from rfl, cT, e];simp only [bS];rw [y4 (by simp)];simp only [bS];rw [show w64 (0 + 1) = 1 from rfl, show decide ((1 : Int) < 3) = true from rfl, cT];rw [y4 (by simp)];simp only [bS];rw [show w64 (1 + 1) = 2 from rfl, show decide ((2 : Int) < 3) = true from rfl, cT];rw [y4 (by simp)];simp only [bS];rw [show w64 (2 + 1) = 3 from rfl, show decide ((3 : Int) < 3) = false from rfl, cF]
 rfl
theorem bl {f : Nat} (hf : 95000 < f) {N : Nat} (h1 : 1 <= N) (h2 : N <= 60) (hk : Kd k) (room : Int) (hr : 1 <= room /\ room <= 100) : ∃ b, rm f k (N : Int) 3 room = some (some b, 0) /\ BI N k 3 b [] 2 /\ b.l = [] /\ b.s.d.clock.now = 0 /\ b.s.d.q.serial = 0 /\ b.s.d.t_.p = zg.mk (N : Int) [] [] /\ ∀ x ∈ b.s.desk.l, x = zf.mk ⟨room.toNat, []⟩ := by
 obtain ⟨d, e, D, hn, hs, hp⟩ := DI.new (N := N) (k := k) hf hk h1 h2;obtain ⟨q, eq, q1, q2⟩ := cE (f := f) (by omega) room hr;refine ⟨zo.mk (zp.mk d q) [], ?_, ⟨D, q1, by omega, by simp⟩, rfl, hn, hs, hp, q2⟩;unfold rm qw;rw [e];simp only [bS, uz, oS];rw [show ((0 : Int) != 0) = false from rfl, cF, eq]
 rfl
end
theorem aI : vF 100000 = some true := by kernel_rfl
end
noncomputable section
set_option maxRecDepth 10000
def wtL (l : List zf) : Nat := (l.map fun b => b.c_.buf.length).sum
theorem pt (A B : List zf) : wtL (A ++ B) = wtL A + wtL B := by simp [wtL]
theorem sL (b : zf) (B : List zf) : wtL (b :: B) = b.c_.buf.length + wtL B := by simp [wtL]
theorem gm {p q : List zf} {x y : zf} : mSet (p ++ x :: q) (p.length : Int) y = p ++ y :: q := nO p q x y
theorem bH {l : List zf} (hl : l.length <= 100) (hw : wtL l <= 1000000) : ∀ (rest pre : List zf) (f : Nat), l = pre ++ rest -> rest.length < f -> yl (l.length : Int) (zi.mk l) f (wtL pre : Int) (pre.length : Int) = some (wtL l : Int)
 | [], pre, f + 1, e, hf => by
  unfold yl;rw [dF (by rw [e]; simp), cF, e, aN]
 | y :: rest, pre, f + 1, e, hf => by
  have hlen : l.length = pre.length + (rest.length + 1) := by rw [e]; simp
  have j : wtL l = wtL pre + (y.c_.buf.length + wtL rest) := by rw [e, pt, sL]
  simp only [lC] at hf;have i : mIdx l (pre.length : Int) = some y := by rw [e]; exact yr pre rest y
  have ih := bH hl hw rest (pre ++ [y]) f (by rw [e]; simp) (by omega);rw [show ((pre ++ [y]).length : Int) = (pre.length : Int) + 1 by simp, show (wtL (pre ++ [y]) : Int) = (wtL pre : Int) + (y.c_.buf.length : Int) by rw [pt]; simp [wtL]] at ih;unfold yl;rw [dT (by omega), cT];simp only;rw [i];simp only [bS];unfold wh;simp only [bS];rw [zR (by omega) (by omega), zR (by omega) (by omega)];exact ih
theorem mZ {s : zp} {f : Nat} (hf : 1000 < f) (hl : s.desk.l.length <= 100) (hw : wtL s.desk.l <= 1000000) : y5 f s = some (wtL s.desk.l : Int) := by
 have h := bH hl hw s.desk.l [] f rfl (by omega);rw [show ((([] : List zf).length : Nat) : Int) = 0 from rfl, show ((wtL [] : Nat) : Int) = 0 from rfl] at h;unfold y5 xR;rw [show s.desk = zi.mk s.desk.l from rfl, h]
 rfl
theorem je {l : List zf} (hl : l.length <= 100) : ∀ (rest pre : List zf) (f : Nat), l = pre ++ rest -> rest.length < f ->
  (wtL rest = 0 /\ zJ (l.length : Int) f (pre.length : Int) (zi.mk l) = some (.inr (zi.mk l))) \/
  ∃ A b u r1 B y, rest = A ++ b :: B /\ b.c_.buf = u :: r1 /\ zJ (l.length : Int) f (pre.length : Int) (zi.mk l) = some (.inl (u, y, true, zi.mk (pre ++ A ++ zf.mk (MCh.rest b.c_ r1) :: B)))
 | [], pre, f + 1, e, hf => by
  refine Or.inl ⟨rfl, ?_⟩;unfold zJ;rw [dF (by rw [e]; simp), cF]
 | y :: rest, pre, f + 1, e, hf => by
  have hlen : l.length = pre.length + (rest.length + 1) := by rw [e]; simp
  simp only [lC] at hf;have j : mIdx l (pre.length : Int) = some y := by rw [e]; exact yr pre rest y
  cases hu : MCh.buf y.c_ with
  | nil =>
   have i : zJ (l.length : Int) (f + 1) (pre.length : Int) (zi.mk l) = zJ (l.length : Int) f ((pre.length : Int) + 1) (zi.mk l) := by
    conv => lhs; unfold zJ
    rw [dT (by omega), cT];simp only;rw [j];simp only [bS];unfold yT;rw [hu];simp only [bS, cF];rw [zR (by omega) (by omega)];congr 2;rw [e, gm]
   rcases je hl rest (pre ++ [y]) f (by rw [e]; simp) (by omega) with ⟨h1, h2⟩ | ⟨A, b, u, r1, B, z, h1, h2, h3⟩
   ·rw [show ((pre ++ [y]).length : Int) = (pre.length : Int) + 1 by simp] at h2;exact Or.inl ⟨by rw [sL, hu, h1]; rfl, by rw [i]; exact h2⟩
   ·rw [show ((pre ++ [y]).length : Int) = (pre.length : Int) + 1 by simp] at h3;refine Or.inr ⟨y :: A, b, u, r1, B, z, by rw [h1]; rfl, h2, ?_⟩;rw [i, h3];simp
  | cons u r1 =>
   refine Or.inr ⟨[], y, u, r1, rest, (pre.length : Int), rfl, hu, ?_⟩;unfold zJ;rw [dT (by omega), cT];simp only;rw [j];simp only [bS];unfold yT;rw [hu];simp only [bS, cT];rw [aN, e, gm]
structure PI (N : Nat) (k : Int) (d0 : zb) (b : zo) (L : List JR) (T : Nat) : Prop where
 bi : BI N k 3 b L T
 ch : Chn N k d0 [] 2 b.l b.s.d L T
 bt : ∀ x ∈ b.s.desk.l, ∀ c ∈ x.c_.buf, c.Time <= 9223372036854775807
def Acts (x : y2) (b : zo) (L : List JR) (r : zq) (i : zo) (L' : List JR) : Prop :=
 (x.Kind = 1 /\ i.l = b.l /\ r = zq.mk r.Why (zd.mk 0 0) 0 0 0 /\ ((r.Why = 0 /\ wtL i.s.desk.l = wtL b.s.desk.l + 1) \/ (r.Why ≠ 0 /\ wtL i.s.desk.l = wtL b.s.desk.l))) \/
 (x.Kind = 2 /\ wtL b.s.desk.l = 0 /\ i.l = b.l /\ r = zq.mk 27 (zd.mk 0 0) 0 0 0 /\ wtL i.s.desk.l = 0) \/
 (x.Kind = 2 /\ 0 < wtL b.s.desk.l /\ (∃ e, i.l = b.l ++ [e] /\ e.Reply = r) /\ wtL i.s.desk.l + 1 = wtL b.s.desk.l) \/
 (x.Kind = 3 /\ (∃ e, i.l = b.l ++ [e] /\ e.Reply = r /\ e.Command = x.Command) /\ wtL i.s.desk.l = wtL b.s.desk.l) \/
 (x.Kind = 4 /\ r = zq.mk 0 (zd.mk 0 0) 0 0 (dueN 0 b.s.d.clock.now L : Int) /\ i.l.length = b.l.length + dueN 0 b.s.d.clock.now L + 1 /\ dueN 0 i.s.d.clock.now L' = 0 /\ wtL i.s.desk.l = wtL b.s.desk.l) \/
 (x.Kind ≠ 1 /\ x.Kind ≠ 2 /\ x.Kind ≠ 3 /\ x.Kind ≠ 4 /\ i.l = b.l /\ r = zq.mk 12 (zd.mk 0 0) 0 0 0 /\ wtL i.s.desk.l = wtL b.s.desk.l)
section
variable {N : Nat} {k : Int} {d0 : zb} {b : zo} {L : List JR} {T f : Nat}
theorem PI.act (P : PI N k d0 b L T) (hT : T < 700000) (hf : 96000 < f) (x : y2) (Z : x.Command.Time <= 9223372036854775807) :
  ∃ r S L' T', xl f b x = some (r, S) /\ PI N k d0 S L' T' /\ T' <= T + 62 /\ Acts x b L r S L' := by
 have B := P.bi;have e := B.bx;have t := B.nb;unfold xl;by_cases h1 : x.Kind = 1
 ·rw [show (x.Kind == 1) = true by simp [h1], cT];unfold wP xf;by_cases h : x.Box < 0 \/ x.Box >= (b.s.desk.l.length : Int)
  ·have hs : (bif decide (x.Box < 0) then some true else some (decide (x.Box >= (b.s.desk.l.length : Int)))) = some true := by
    by_cases h0 : x.Box < 0
    ·rw [dT h0, cT]
    ·rw [dF h0, cF, dT (by omega)]
   rw [hs];simp only [bS, cT];exact ⟨_, _, L, T, rfl, ⟨⟨B.di, e, t, B.ev⟩, P.ch, P.bt⟩, by omega, Or.inl ⟨h1, rfl, rfl, Or.inr ⟨by simp, rfl⟩⟩⟩
  ·have hs : (bif decide (x.Box < 0) then some true else some (decide (x.Box >= (b.s.desk.l.length : Int)))) = some false := by
    rw [dF (by omega), cF, dF (by omega)]
   rw [hs];simp only [bS, cF];obtain ⟨i, hi⟩ : ∃ i : Nat, x.Box = (i : Int) := ⟨x.Box.toNat, by omega⟩
   have a2 : i < b.s.desk.l.length := by omega
   obtain ⟨pre, y, rest, D, U⟩ : ∃ pre y rest, b.s.desk.l = pre ++ y :: rest /\ pre.length = i := ⟨b.s.desk.l.take i, b.s.desk.l[i], b.s.desk.l.drop (i + 1), by rw [List.getElem_cons_drop, List.take_append_drop], by simp; omega⟩
   rw [hi, <- U, D, yr];simp only [bS];unfold xk;have hlen : pre.length + (rest.length + 1) = 3 := by rw [D] at e; simpa using e
   cases hr : MCh.room y.c_ with
   | true =>
    simp only [cT, bS];rw [gm];refine ⟨_, _, L, T, rfl, ⟨⟨B.di, by simp; omega, t, B.ev⟩, P.ch, ?_⟩, by omega, Or.inl ⟨h1, rfl, rfl, Or.inl ⟨rfl, ?_⟩⟩⟩
    ·intro z hz c j;simp only [iA, iC] at hz;rcases hz with hz | rfl | hz
     ·exact P.bt z (by rw [D]; simp [hz]) c j
     ·simp only [MCh.push, iA, List.mem_singleton] at j;rcases j with j | rfl
      ·exact P.bt y (by rw [D]; simp) c j
      ·exact Z
     ·exact P.bt z (by rw [D]; simp [hz]) c j
    ·show wtL (pre ++ _ :: rest) = wtL b.s.desk.l + 1;rw [D, pt, pt, sL, sL];simp [MCh.push]; omega
   | false =>
    simp only [cF, bS];rw [gm];refine ⟨_, _, L, T, rfl, ⟨⟨B.di, by simp; omega, t, B.ev⟩, P.ch, ?_⟩, by omega, Or.inl ⟨h1, rfl, rfl, Or.inr ⟨by simp, ?_⟩⟩⟩
    ·intro z hz c j;exact P.bt z (by rw [D]; exact hz) c j
    ·show wtL (pre ++ y :: rest) = wtL b.s.desk.l;rw [D]
 ·rw [show (x.Kind == 1) = false by simp [h1], cF];by_cases h2 : x.Kind = 2
  ·rw [show (x.Kind == 2) = true by simp [h2], cT];unfold wI xe;have J := je (l := b.s.desk.l) (by omega) b.s.desk.l [] f rfl (by omega);rw [show ((([] : List zf).length : Nat) : Int) = 0 from rfl, show zi.mk b.s.desk.l = b.s.desk from rfl] at J;rcases J with ⟨hw, en⟩ | ⟨A, y, u, r1, R, z, F, hu, en⟩
   ·rw [en];simp only [bS];rw [show (!false) = true from rfl, cT];simp only [bS];rw [show (!false) = true from rfl, cT];exact ⟨_, _, L, T, rfl, ⟨⟨B.di, e, t, B.ev⟩, P.ch, P.bt⟩, by omega, Or.inr (Or.inl ⟨h2, hw, rfl, rfl, hw⟩)⟩
   ·rw [en];simp only [bS, List.nil_append];have W : u.Time <= 9223372036854775807 := P.bt y (by rw [F]; simp) u (by rw [hu]; simp);obtain ⟨rep, X, L', I, Y, O, G, hC⟩ := B.one (f := f) (by omega) (by omega) u (k2 := A ++ zf.mk (MCh.rest y.c_ r1) :: R) (by rw [F] at e; simpa using e);rw [show (!true) = false from rfl, cF, I];simp only [bS];rw [show (!true) = false from rfl, cF, Y];refine ⟨_, _, L', T + 1, rfl, ⟨O, P.ch.trans (hC W), ?_⟩, by omega, Or.inr (Or.inr (Or.inl ⟨h2, ?_, ⟨_, rfl, rfl⟩, ?_⟩))⟩
    ·intro w hw c j;simp only [iA, iC] at hw;rcases hw with hw | rfl | hw
     ·exact P.bt w (by rw [F]; simp [hw]) c j
     ·exact P.bt y (by rw [F]; simp) c (by rw [hu]; exact mC _ j)
     ·exact P.bt w (by rw [F]; simp [hw]) c j
    ·rw [F, pt, sL, hu]; simp; omega
    ·show wtL (A ++ _ :: R) + 1 = wtL b.s.desk.l;rw [F, pt, pt, sL, sL, hu];simp [MCh.rest]; omega
  ·rw [show (x.Kind == 2) = false by simp [h2], cF];by_cases h3 : x.Kind = 3
   ·rw [show (x.Kind == 3) = true by simp [h3], cT];unfold xC;obtain ⟨rep, X, L', I, Y, O, G, hC⟩ := B.one (f := f) (by omega) (by omega) x.Command (k2 := b.s.desk.l) e;rw [I];simp only [bS];rw [show zp.mk X b.s.desk = zp.mk X (zi.mk b.s.desk.l) from rfl, Y];exact ⟨_, _, L', T + 1, rfl, ⟨O, P.ch.trans (hC Z), P.bt⟩, by omega, Or.inr (Or.inr (Or.inr (Or.inl ⟨h3, ⟨_, rfl, rfl, rfl⟩, rfl⟩)))⟩
   ·rw [show (x.Kind == 3) = false by simp [h3], cF];by_cases h4 : x.Kind = 4
    ·rw [show (x.Kind == 4) = true by simp [h4], cT];have hl := B.len;have a3 : dueN 0 b.s.d.clock.now L <= L.length := List.length_filter_le _ _;obtain ⟨S, L', T', I, O, q1, q2, q3, q5, es, q4, q6, q7⟩ := BI.drain (f := 95001) (by omega) (dueN 0 b.s.d.clock.now L) 0 f B (by omega) rfl (by omega) (by omega);rw [show ((0 : Nat) : Int) = 0 from rfl] at I;unfold vf;rw [I];refine ⟨_, _, L', T', rfl, ⟨O, by rw [q4]; exact P.ch.trans q7, by rw [q5]; exact P.bt⟩, by omega, Or.inr (Or.inr (Or.inr (Or.inr (Or.inl ⟨h4, ?_, ?_, ?_, by rw [q5]⟩))))⟩
     ·rw [Nat.zero_add]
     ·rw [q4, lA, q6]; omega
     ·rw [q2]; exact q3
    ·rw [show (x.Kind == 4) = false by simp [h4], cF];exact ⟨_, b, L, T, rfl, P, by omega, Or.inr (Or.inr (Or.inr (Or.inr (Or.inr ⟨h1, h2, h3, h4, rfl, rfl, rfl⟩))))⟩
end
theorem A7 (c : zt) : zt.eq c c = true := by
 unfold zt.eq;rw [(vW _ _).2 rfl];simp
section
variable {N : Nat} {k : Int}
theorem gw {l : List zk} (hl : l.length <= 100000) : ∀ (rest pre : List zk) (m : zc) (d d' : zb) (L L' : List JR) (T T' i : Nat), l = pre ++ rest -> Chn N k d L T rest d' L' T' -> TI N d.t_.p d.q.serial d.clock.now L m -> (0 <= d.clock.now /\ d.clock.now <= 9223372036854775807) -> T <= 100000 + pre.length -> 95001 + rest.length < i ->
  ∃ j, xt l i (pre.length : Int) m = some (.inr j)
 | [], pre, m, d, d', L, L', T, T', i, e, h, H, hn, A, hf => by
  obtain ⟨f, rfl⟩ : ∃ f, i = f + 1 := ⟨i - 1, by omega⟩
  refine ⟨m, ?_⟩;unfold xt;rw [dF (by rw [e]; simp), cF]
 | y :: rest, pre, m, d, d', L, L', T, T', i, e, h, H, hn, A, hf => by
  obtain ⟨f, rfl⟩ : ∃ f, i = f + 1 := ⟨i - 1, by omega⟩
  have hlen : l.length = pre.length + (rest.length + 1) := by rw [e]; simp
  simp only [lC] at hf;have t : mIdx l (pre.length : Int) = some y := by rw [e]; exact yr pre rest y
  cases h with
  | cons D G h1 h2 h3 h =>
   obtain ⟨⟨x, z⟩, B, h4, u, F, I, _⟩ := TI.do (f := f) D (by omega) H hn (by have := D.ser; omega) h3 (by omega) G.how
   simp only at h4 u;subst h4;obtain ⟨j, em⟩ := gw hl rest (pre ++ [y]) z _ d' _ L' (T + 1) T' f (by rw [e]; simp) h u ⟨F, I⟩ (by simp; omega) (by omega);rw [show ((pre ++ [y]).length : Int) = (pre.length : Int) + 1 by simp] at em;refine ⟨j, ?_⟩;unfold xt;rw [dT (by omega), cT, t];simp only [bS];rw [B];simp only [bS];rw [rR, show (!true) = false from rfl, cF, show (z.Now != y.Now) = false by rw [u.nw, h1]; simp, cF, dF (by omega)];simp only [bS, cF];rw [zR (by omega) (by omega)];exact em
end
theorem bq {x : zx} (i : js zx.enc x) {told : List zd} (ht : told.length <= 1000000) : ∃ a, vg x told = some a /\ a.Command.Time <= 9223372036854775807 := by
 have h1 := i x.D.Time (by simp [zx.enc]);have h2 := i x.D.Raw.Time (by simp [zx.enc]);have h3 := i x.Raw.Command.Time (by simp [zx.enc]);unfold I64 at h1 h2 h3;obtain ⟨c, j, l⟩ := cI (x := x.D) ⟨by unfold tOk; omega, by unfold tOk; omega⟩ ht;have e := l.2;have q : ∀ p q : Bool, ∃ b, (bif p then some p else some q) = some b := by
  intro p q;cases p <;> exact ⟨_, rfl⟩
 unfold vg;rw [j];simp only [bS];obtain ⟨t, u⟩ := q (x.Kind == 0) (x.Kind == 1);obtain ⟨y, z⟩ := q (x.Kind == 2) (x.Kind == 3);rw [u];simp only [bS];cases t with
 | true =>
  obtain ⟨v, ev, _⟩ := within x.Box 0 2 (by omega) (by omega) (by omega);rw [cT, ev];exact ⟨_, rfl, e⟩
 | false =>
  rw [cF, z];simp only [bS];cases y with
  | true => exact ⟨_, rfl, by simp⟩
  | false =>
   rw [cF];cases x.Kind == 8 with
   | true => exact ⟨_, rfl, by simp⟩
   | false =>
    cases x.Kind == 9 with
    | true => exact ⟨_, rfl, by omega⟩
    | false => exact ⟨_, rfl, e⟩
theorem eF {n i : Int} {es : List zk} {b : zo} {l : List zx} (hl : es.length <= 100000) : ∀ (rest pre : List zk) (told : List zd) (f : Nat), es = pre ++ rest -> rest.length < f -> told.length + rest.length <= 1000000 ->
  ∃ t, yi n i es b l f told (pre.length : Int) = some t /\ t.length <= told.length + rest.length
 | [], pre, told, f + 1, e, hf, ht => by
  refine ⟨told, ?_, by omega⟩;unfold yi;rw [dF (by rw [e]; simp), cF]
 | y :: rest, pre, told, f + 1, e, hf, ht => by
  have hlen : es.length = pre.length + (rest.length + 1) := by rw [e]; simp
  simp only [lC] at hf ht;have u : mIdx es (pre.length : Int) = some y := by rw [e]; exact yr pre rest y
  have go : ∀ t : List zd, t.length <= told.length + 1 -> ∃ j, yi n i es b l f t ((pre.length : Int) + 1) = some j /\ j.length <= told.length + (rest.length + 1) := by
   intro t A;obtain ⟨j, z, B⟩ := eF (n := n) (i := i) (b := b) (l := l) hl rest (pre ++ [y]) t f (by rw [e]; simp) (by omega) (by omega);rw [show ((pre ++ [y]).length : Int) = (pre.length : Int) + 1 by simp] at z;exact ⟨j, z, by omega⟩
  unfold yi;rw [dT (by omega), cT, u];simp only [bS, lC];rw [zR (by omega) (by omega)];have hs : ∃ s, (bif y.Command.Kind == 1 then some (y.Reply.Why == 0) else some false) = some s := by
   cases y.Command.Kind == 1 <;> exact ⟨_, rfl⟩
  obtain ⟨s, x⟩ := hs;rw [x];simp only [bS];cases s with
  | true =>
   rw [cT, y4 (by simp; omega)];simp only [bS];exact go _ (by simp)
  | false =>
   rw [cF];simp only [bS];exact go _ (by omega)
section
variable {N : Nat} {k : Int} {d0 : zb}
theorem AD {n : Int} {l : List zx} (hl : ∀ z ∈ l, js zx.enc z) : ∀ (r i u : Nat) (told : List zd) (b : zo) (L : List JR) (T : Nat), 60 <= i + r -> 97001 + r < u -> i <= 60 -> PI N k d0 b L T -> T <= 2 + 62 * i -> told.length <= b.l.length -> wtL b.s.desk.l <= i ->
  Do (yj n l u told (i : Int) b) fun s => ∃ j, s = .inr j /\ ∃ L' T', PI N k d0 j L' T' /\ T' <= 4000
 | 0, i, u, told, b, L, T, h1, h2, h3, P, hT, ht, hw => by
  obtain ⟨f, rfl⟩ : ∃ f, u = f + 1 := ⟨u - 1, by omega⟩
  unfold yj;refine Do.f (by rw [dF (p := (i : Int) < 60) (by omega), Bool.and_false]) ?_;exact ⟨_, rfl, b, rfl, L, T, P, by omega⟩
 | r + 1, i, u, told, b, L, T, h1, h2, h3, P, hT, ht, hw => by
  obtain ⟨f, rfl⟩ : ∃ f, u = f + 1 := ⟨u - 1, by omega⟩
  unfold yj;refine Do.if (fun e => ?_) (fun e => ⟨_, rfl, b, rfl, L, T, P, by omega⟩)
  rw [Bool.and_eq_true] at e;have e1 := of_decide_eq_true e.1;have e2 := of_decide_eq_true e.2;have B := P.bi;have a8 := B.ev;have a9 := B.bx;obtain ⟨x, Z⟩ : ∃ x, l[i]? = some x := ⟨_, List.getElem?_eq_getElem (by omega)⟩
  have A := List.mem_of_getElem? Z;obtain ⟨a, ea, D⟩ := bq (hl x A) (told := told) (by omega);obtain ⟨rep, j, L', T', eA, P', b2, hA⟩ := P.act (f := f) (by omega) (by omega) a D;have F := P'.bi;have a5 := F.ev;have events : ∀ {b : zo}, b.l.length <= 100000 -> yU b = some b.l := by
   intro b h;unfold yU jG;rw [if_pos (by omega)]
   rfl
  have I : wtL j.s.desk.l <= wtL b.s.desk.l + 1 /\ b.l.length <= j.l.length := by
   rcases hA with ⟨_, q, _, ⟨_, w⟩ | ⟨_, w⟩⟩ | ⟨_, w0, q, _, w⟩ | ⟨_, _, ⟨_, q, _⟩, w⟩ | ⟨_, ⟨_, q, _⟩, w⟩ | ⟨_, _, q, _, w⟩ | ⟨_, _, _, _, q, _, w⟩
   ·rw [q]; omega
   ·rw [q]; omega
   ·rw [q]; omega
   ·rw [q]; simp; omega
   ·rw [q]; simp; omega
   ·omega
   ·rw [q]; omega
  have w0 := mZ (s := b.s) (f := f) (by omega) (by omega) (by omega);have w1 := mZ (s := j.s) (f := f) (by omega) (by rw [F.bx]; omega) (by omega);have J := B.di.due (f := f) (by omega) 0;have O := F.di.due (f := f) (by omega) 0;have b3 := B.len;have b4 : dueN 0 b.s.d.clock.now L <= L.length := List.length_filter_le _ _;refine Do.assoc (Do.seq (by rw [yJ]; exact Z) (Do.assoc (Do.seq ea (Do.assoc (Do.seq (events (b := b) (by omega)) (Do.assoc (Do.seq (r := ()) rfl (Do.assoc (Do.seq w0 (Do.assoc (Do.seq (r := ()) rfl (Do.assoc (Do.seq (r := ()) rfl (Do.assoc (Do.seq J (Do.assoc (Do.seq eA (Do.assoc (Do.seq (events (b := j) (by omega)) (Do.assoc (Do.seq (r := Sum.inr ()) ?_ ?_)))))))))))))))))))))
  ·rcases hA with ⟨a1, q, hr, hc⟩ | ⟨a1, hz, q, hr, w⟩ | ⟨a1, hz, ⟨y, q, S⟩, w⟩ | ⟨a1, ⟨y, q, S, U⟩, w⟩ | ⟨a1, hr, q, hd, w⟩ | ⟨a1, a2, a3, a4, q, hr, w⟩
   ·have hq : w64 ((j.l.length : Int) - (b.l.length : Int)) = 0 := by rw [q, zR (by omega) (by omega)]; omega
    rw [show (a.Kind == 1) = true by simp [a1], cT, hq, show ((0 : Int) != 0) = false from rfl, cF, show zq.eq rep (zq.mk rep.Why (zd.mk 0 0) 0 0 0) = true by rw [<- hr]; exact rR rep, show (!true) = false from rfl, cF, show yx j = some () from rfl];simp only [bS];rw [w1];simp only [bS];rw [zR (by omega) (by omega)];rcases hc with ⟨W, X⟩ | ⟨W, X⟩
    ·rw [show (rep.Why == 0) = true by simp [W], show ((wtL j.s.desk.l : Int) == (wtL b.s.desk.l : Int) + 1) = true by rw [X]; simp]
     rfl
    ·rw [show (rep.Why == 0) = false by simp [W], show ((wtL j.s.desk.l : Int) == (wtL b.s.desk.l : Int) + 1) = false by rw [X, beq_eq_false_iff_ne]; omega]
     rfl
   ·have hq : w64 ((j.l.length : Int) - (b.l.length : Int)) = 0 := by rw [q, zR (by omega) (by omega)]; omega
    rw [show (a.Kind == 1) = false by simp [a1], cF, show (a.Kind == 2) = true by simp [a1], cT, hz, show (((0 : Nat) : Int) == 0) = true from rfl, cT, hq, show ((0 : Int) != 0) = false from rfl, cF, hr, rR, show (!true) = false from rfl, cF, show decide (((0 : Nat) : Int) > 0) = false from rfl, cF]
    rfl
   ·have hq : w64 ((j.l.length : Int) - (b.l.length : Int)) = 1 := by
     rw [q, lA, zR] <;> simp <;> omega
    have hi : mIdx j.l (b.l.length : Int) = some y := by rw [q]; exact yr b.l [] y
    rw [show (a.Kind == 1) = false by simp [a1], cF, show (a.Kind == 2) = true by simp [a1], cT, show ((wtL b.s.desk.l : Int) == 0) = false by rw [beq_eq_false_iff_ne]; omega, cF, dT (by omega), cT, hq, show ((1 : Int) != 1) = false from rfl, cF, hi];simp only [bS];rw [S, rR, show (!true) = false from rfl, cF, show yx j = some () from rfl];simp only [bS];rw [w1];simp only [bS];rw [zR (by omega) (by omega), show ((wtL j.s.desk.l : Int) != (wtL b.s.desk.l : Int) - 1) = false by rw [<- w]; simp]
    rfl
   ·have hq : w64 ((j.l.length : Int) - (b.l.length : Int)) = 1 := by
     rw [q, lA, zR] <;> simp <;> omega
    have hi : mIdx j.l (b.l.length : Int) = some y := by rw [q]; exact yr b.l [] y
    rw [show (a.Kind == 1) = false by simp [a1], cF, show (a.Kind == 2) = false by simp [a1], cF, show (a.Kind == 3) = true by simp [a1], cT, hq, show ((1 : Int) != 1) = false from rfl, cF, hi];simp only [bS];rw [S, rR, show (!true) = false from rfl, cF, U, A7]
    rfl
   ·have hq : w64 ((j.l.length : Int) - (b.l.length : Int)) = (dueN 0 b.s.d.clock.now L : Int) + 1 := by
     rw [q, zR] <;> omega
    rw [show (a.Kind == 1) = false by simp [a1], cF, show (a.Kind == 2) = false by simp [a1], cF, show (a.Kind == 3) = false by simp [a1], cF, show (a.Kind == 4) = true by simp [a1], cT, hr, rR, show (!true) = false from rfl, cF, hq, zR (by omega) (by omega), show (((dueN 0 b.s.d.clock.now L : Int) + 1) != ((dueN 0 b.s.d.clock.now L : Int) + 1)) = false by simp, cF, show yx j = some () from rfl];simp only [bS];rw [show yB j.s = some () from rfl];simp only [bS];rw [O, hd]
    rfl
   ·have hq : w64 ((j.l.length : Int) - (b.l.length : Int)) = 0 := by rw [q, zR (by omega) (by omega)]; omega
    rw [show (a.Kind == 1) = false by simp [a1], cF, show (a.Kind == 2) = false by simp [a2], cF, show (a.Kind == 3) = false by simp [a3], cF, show (a.Kind == 4) = false by simp [a4], cF, hr, rR, show (!true) = false from rfl, cF, hq]
    rfl
  ·obtain ⟨t, et, Y⟩ := eF (n := n) (i := (i : Int)) (es := j.l) (b := j) (l := l) (by omega) (j.l.drop b.l.length) (j.l.take b.l.length) told f (List.take_append_drop _ _).symm (by rw [List.length_drop]; omega) (by rw [List.length_drop]; omega);rw [List.length_take, Nat.min_eq_left I.2] at et;rw [List.length_drop] at Y;refine Do.assoc (Do.seq et ?_);show Do (yj n l f t (w64 ((i : Int) + 1)) j) _;rw [zR (by omega) (by omega)];have ih := AD (n := n) hl r (i + 1) f t j L' T' (by omega) (by omega) (by omega) P' (by omega) (by omega) (by omega);rw [show ((i + 1 : Nat) : Int) = (i : Int) + 1 by simp] at ih;exact ih
end
theorem tracePlays_plain (A i : Int) (l : List zx) (hl : ∀ z ∈ l, js zx.enc z) : ∃ k, xy k A i l = some true := by
 refine ⟨100000, ?_⟩
 suffices h : Do (xy 100000 A i l) fun r => r = true by
  obtain ⟨r, e, rfl⟩ := h;exact e
 obtain ⟨k, ek, k1, k2⟩ := within A 1 3 (by omega) (by omega) (by omega);obtain ⟨j, O, j1, j2⟩ := within i 1 20 (by omega) (by omega) (by omega);obtain ⟨N, rfl⟩ : ∃ N : Nat, j = (N : Int) := ⟨j.toNat, by omega⟩
 obtain ⟨b, S, B, D, hn, hs, hp, t⟩ := bl (f := 100000) (k := k) (by omega) (N := N) (by omega) (by omega) (by unfold Kd; omega) 5 (by omega);have U : uf (N : Int) = some (zc.mk (N : Int) 0 0 (zn.mk (N : Int) [] [] [] []) []) := by
  unfold uf tT;rw [show (if 65536 < (N : Int) then 65536 else (N : Int)) = (N : Int) from if_neg (by omega), show (if (0 : Int) > (N : Int) then 0 else (N : Int)) = (N : Int) from if_neg (by omega)]
  rfl
 have F : TI N b.s.d.t_.p b.s.d.q.serial b.s.d.clock.now [] (zc.mk (N : Int) 0 0 (zn.mk (N : Int) [] [] [] []) []) := ⟨rfl, hn.symm, hs.symm, by rw [hp]; exact ⟨rfl, rfl, rfl, rfl, rfl⟩, rfl⟩
 have W : wtL b.s.desk.l = 0 := by
  have h3 := B.bx
  revert t
  generalize b.s.desk.l = q;intro t;clear h3;induction q with
  | nil => rfl
  | cons y q ih =>
   rw [sL, ih fun z hz => t z (mC _ hz), t y (List.mem_cons_self ..)]
   rfl
 unfold xy;refine Do.seq O (Do.seq ek (Do.seq S ?_));simp only [uz, oS];refine Do.seq (r := false) rfl (Do.f rfl ?_);refine (AD (N := N) (k := k) (d0 := b.s.d) (n := (N : Int)) hl 60 0 100000 [] b [] 2 (by omega) (by omega) (by omega) ⟨B, by rw [D]; exact .nil, by
  intro x X c I;rw [t x X] at I;cases I⟩ (by omega) (by simp) (by omega)).bind ?_
 rintro _ ⟨u, rfl, L1, Y, J, Z⟩;have a0 := J.bi.ev;have events : yU u = some u.l := by
  unfold yU jG;rw [if_pos (by omega)]
  rfl
 obtain ⟨m', em⟩ := gw (N := N) (k := k) (l := u.l) (by omega) u.l [] _ b.s.d u.s.d [] L1 2 Y 100000 rfl J.ch F (by rw [hn]; omega) (by simp) (by omega);rw [show ((([] : List zk).length : Nat) : Int) = 0 from rfl] at em;have hr : wN 100000 (N : Int) u.l = some true := by
  unfold wN;rw [U];simp only [bS];rw [em]
  rfl
 refine Do.assoc (Do.seq events ?_);rw [hr, aI];exact ⟨_, rfl, rfl⟩
end
end Go.Proofs.YtccbfeafebllhaaGreat
namespace Go.Th
noncomputable section
structure Mx (T : Type) : Type where
 mix : Bool -> T -> T -> T
 h1 : ∀ x y, mix true x y = x
 h0 : ∀ x y, mix false x y = y
def mB : Mx Bool := ⟨cond, fun _ _ => rfl, fun _ _ => rfl⟩
def m2 {A B : Type} (a : Mx A) (b : Mx B) : Mx (A × B) := ⟨fun c x y => (a.mix c x.1 y.1, b.mix c x.2 y.2), fun x y => by rw [a.h1, b.h1], fun x y => by rw [a.h0, b.h0]⟩
inductive VC : Type -> Type 1
 | ret {R : Type} (o : Option R) : VC R
 | bind {R α : Type} (m : Option α) (k : α -> VC R) : VC R
 | ite {R : Type} (c : Bool) (x y : VC R) : VC R
 | frN {R : Type} (k : Nat -> VC R) : VC R
 | frA {R : Type} (k : Option Addr -> VC R) : VC R
 | req {R α : Type} (a b : α) (k : VC R) : VC R
 | join {R T : Type} (x : VC T) (k : T -> VC R) : VC R
 | cs {R A B : Type} (s : A ⊕ B) (x : A -> VC R) (y : B -> VC R) : VC R
 | both {R : Type} (u v : VC R) (vm : (Nat -> Nat × Option Addr) -> Option R) : VC R
 | grj {R T : Type} (x : VC T) (k : T -> VC R) : VC R
 | sel {R T : Type} (M : Mx T) (b : Bool) (x y : VC T) (k : T -> VC R) : VC R
def VC.valq : {T : Type} -> VC T -> Option T
 | _, .ret o => o
 | _, .req _ _ k => k.valq
 | _, .sel M b x y k => match x.valq, y.valq with
  | some s1, some s2 => (k (M.mix b s1 s2)).valq
  | _, _ => none
 | _, _ => none
abbrev Nm := Nat -> Nat × Option Addr
def Nm.tl (s : Nm) : Nm := fun i => s (i + 1)
def Nm.ev (s : Nm) : Nm := fun i => s (2 * i)
def Nm.od (s : Nm) : Nm := fun i => s (2 * i + 1)
def VC.modk : {T : Type} -> VC T -> {R : Type} -> (T -> Nm -> Option R) -> Nm -> Option R
 | _, .ret o, _, K, s => match o with
  | some x => K x s
  | none => none
 | _, .bind m k, _, K, s => m.bind fun x => (k x).modk K s
 | _, .ite c x y, _, K, s => bif c then x.modk K s else y.modk K s
 | _, .frN k, _, K, s => (k (s 0).1).modk K s.tl
 | _, .frA k, _, K, s => (k (s 0).2).modk K s.tl
 | _, .req _ _ k, _, K, s => k.modk K s
 | _, .join x k, _, K, s => (x.modk (fun y _ => some y) s.ev).bind fun y => (k y).modk K s.od
 | _, .cs z x y, _, K, s => match z with
  | .inl a => (x a).modk K s
  | .inr b => (y b).modk K s
 | _, .both u _ _, _, K, s => u.modk K s
 | _, .grj x k, _, K, s => x.modk (fun y s' => (k y).modk K s') s
 | _, .sel M b x y k, _, K, s => match x.valq, y.valq with
  | some s1, some s2 => (k (M.mix b s1 s2)).modk K s
  | _, _ => bif b then x.modk (fun y s' => (k y).modk K s') s else y.modk (fun y s' => (k y).modk K s') s
def VC.mod : {R : Type} -> VC R -> Nm -> Option R
 | _, .ret o, _ => o
 | _, .bind m k, s => m.bind fun x => (k x).mod s
 | _, .ite c x y, s => bif c then x.mod s else y.mod s
 | _, .frN k, s => (k (s 0).1).mod s.tl
 | _, .frA k, s => (k (s 0).2).mod s.tl
 | _, .req _ _ k, s => k.mod s
 | _, .join x k, s => (x.mod s.ev).bind fun y => (k y).mod s.od
 | _, .cs z x y, s => match z with
  | .inl a => (x a).mod s
  | .inr b => (y b).mod s
 | _, .both u _ _, s => u.mod s
 | _, .grj x k, s => x.modk (fun y s' => (k y).mod s') s
 | _, .sel M b x y k, s => match x.valq, y.valq with
  | some s1, some s2 => (k (M.mix b s1 s2)).mod s
  | _, _ => bif b then x.modk (fun y s' => (k y).mod s') s else y.modk (fun y s' => (k y).mod s') s
theorem VC.mod_eq : ∀ {R : Type} (v : VC R) (s : Nm), v.modk (fun y _ => some y) s = v.mod s
 | _, .ret o, s => by cases o <;> rfl
 | _, .bind m k, s => by
  simp only [VC.modk, VC.mod];congr 1;funext x;exact VC.mod_eq (k x) s
 | _, .ite c x y, s => by simp only [VC.modk, VC.mod, VC.mod_eq x, VC.mod_eq y]
 | _, .frN k, s => VC.mod_eq (k _) _
 | _, .frA k, s => VC.mod_eq (k _) _
 | _, .req _ _ k, s => VC.mod_eq k s
 | _, .join x k, s => by
  simp only [VC.modk, VC.mod, VC.mod_eq x];congr 1;funext y;exact VC.mod_eq (k y) _
 | _, .cs z x y, s => by
  cases z with
  | inl a => exact VC.mod_eq (x a) s
  | inr b => exact VC.mod_eq (y b) s
 | _, .both u _ _, s => VC.mod_eq u s
 | _, .grj x k, s => by
  simp only [VC.modk, VC.mod];congr 1;funext y s';exact VC.mod_eq (k y) s'
 | _, .sel M b x y k, s => by
  have e : (fun t (s' : Nm) => (k t).modk (fun z _ => some z) s') = fun t s' => (k t).mod s' := by
   funext t s';exact VC.mod_eq (k t) s'
  simp only [VC.modk, VC.mod, e];split
  ·exact VC.mod_eq (k _) s
  ·rfl
def VC.rfx : {R : Type} -> VC R -> VC R
 | _, .ret o => .ret o
 | _, .bind m k => .bind m fun x => (k x).rfx
 | _, .ite c x y => .ite c x.rfx y.rfx
 | _, .frN k => .frN fun r => (k r).rfx
 | _, .frA k => .frA fun r => (k r).rfx
 | _, .req a _ k => .req a a k.rfx
 | _, .join x k => .join x.rfx fun s => (k s).rfx
 | _, .cs s x y => .cs s (fun a => (x a).rfx) fun b => (y b).rfx
 | _, .both u v _ => .both u.rfx v.rfx u.mod
 | _, .grj x k => .grj x.rfx fun y => (k y).rfx
 | _, .sel M b x y k => .sel M b x.rfx y.rfx fun t => (k t).rfx
def VC.ok : {R : Type} -> VC R -> (R -> Prop) -> Prop
 | _, .ret o, Φ => ∃ x, o = some x /\ Φ x
 | _, .bind m k, Φ => ∃ x, m = some x /\ (k x).ok Φ
 | _, .ite c x y, Φ => (c = true -> x.ok Φ) /\ (c = false -> y.ok Φ)
 | _, .frN k, Φ => ∀ r, (k r).ok Φ
 | _, .frA k, Φ => ∀ r, (k r).ok Φ
 | _, .req a b k, Φ => a = b /\ k.ok Φ
 | _, .join x k, Φ => x.ok fun y => (k y).ok Φ
 | _, .cs z x y, Φ => (∀ a, z = .inl a -> (x a).ok Φ) /\ ∀ b, z = .inr b -> (y b).ok Φ
 | _, .both u v vm, Φ => u.ok Φ /\ (vm = v.mod -> v.ok Φ)
 | _, .grj x k, Φ => x.ok fun y => (k y).ok Φ
 | _, .sel M b x y k, Φ => (b = true -> x.ok fun t => (k t).ok Φ) /\ (b = false -> y.ok fun t => (k t).ok Φ)
def Nm.cons (x : Nat × Option Addr) (s : Nm) : Nm := fun i => match i with
 | 0 => x
 | i + 1 => s i
def Nm.mix (s t : Nm) : Nm := fun i => if i % 2 = 0 then s (i / 2) else t (i / 2)
theorem Nm.bJ (s t : Nm) : (Nm.mix s t).ev = s := by
 funext i;have h1 : 2 * i % 2 = 0 := by omega
 have h2 : 2 * i / 2 = i := by omega
 simp [Nm.ev, Nm.mix, h1, h2]
theorem Nm.bG (s t : Nm) : (Nm.mix s t).od = t := by
 funext i;have h1 : ¬ (2 * i + 1) % 2 = 0 := by omega
 have h2 : (2 * i + 1) / 2 = i := by omega
 simp [Nm.od, Nm.mix, h1, h2]
theorem VC.mono : ∀ {R : Type} (v : VC R) {Φ Ψ : R -> Prop}, (∀ x, Φ x -> Ψ x) -> v.ok Φ -> v.ok Ψ
 | _, .ret o, Φ, Ψ, h, hk => by
  obtain ⟨x, j, hp⟩ := hk;exact ⟨x, j, h x hp⟩
 | _, .bind m k, Φ, Ψ, h, hk => by
  obtain ⟨x, j, hp⟩ := hk;exact ⟨x, j, VC.mono (k x) h hp⟩
 | _, .ite c x y, Φ, Ψ, h, hk => ⟨fun l => VC.mono x h (hk.1 l), fun l => VC.mono y h (hk.2 l)⟩
 | _, .frN k, Φ, Ψ, h, hk => fun r => VC.mono (k r) h (hk r)
 | _, .frA k, Φ, Ψ, h, hk => fun r => VC.mono (k r) h (hk r)
 | _, .req a b k, Φ, Ψ, h, hk => ⟨hk.1, VC.mono k h hk.2⟩
 | _, .join x k, Φ, Ψ, h, hk => VC.mono x (Φ := fun y => (k y).ok Φ) (Ψ := fun y => (k y).ok Ψ) (fun y i => VC.mono (k y) h i) hk
 | _, .cs z x y, Φ, Ψ, h, hk => ⟨fun a ha => VC.mono (x a) h (hk.1 a ha), fun b t => VC.mono (y b) h (hk.2 b t)⟩
 | _, .both u v vm, Φ, Ψ, h, hk => ⟨VC.mono u h hk.1, fun e => VC.mono v h (hk.2 e)⟩
 | _, .grj x k, Φ, Ψ, h, hk => VC.mono x (Φ := fun y => (k y).ok Φ) (Ψ := fun y => (k y).ok Ψ) (fun y i => VC.mono (k y) h i) hk
 | _, .sel M b x y k, Φ, Ψ, h, hk => ⟨fun e => VC.mono x (Φ := fun y => (k y).ok Φ) (Ψ := fun y => (k y).ok Ψ) (fun y i => VC.mono (k y) h i) (hk.1 e), fun e => VC.mono y (Φ := fun y => (k y).ok Φ) (Ψ := fun y => (k y).ok Ψ) (fun y i => VC.mono (k y) h i) (hk.2 e)⟩
theorem VC.qW : ∀ {T : Type} (v : VC T) {P : T -> Prop} {s : T}, v.ok P -> v.valq = some s -> P s
 | _, .ret o, P, s, h, e => by
  obtain ⟨x, j, hp⟩ := h;have i : o = some s := e;rw [j] at i; cases i; exact hp
 | _, .req _ _ k, P, s, h, e => VC.qW k h.2 e
 | _, .both _ _ _, P, s, h, e => by cases e
 | _, .sel M b x y k, P, s, h, e => by
  simp only [VC.valq] at e;split at e
  ·rename_i s1 s2 h1 h2;cases b with
   | true =>
    rw [M.h1] at e;exact VC.qW (k s1) (VC.qW x (h.1 rfl) h1) e
   | false =>
    rw [M.h0] at e;exact VC.qW (k s2) (VC.qW y (h.2 rfl) h2) e
  ·cases e
 | _, .bind _ _, P, s, h, e => by cases e
 | _, .ite _ _ _, P, s, h, e => by cases e
 | _, .frN _, P, s, h, e => by cases e
 | _, .frA _, P, s, h, e => by cases e
 | _, .join _ _, P, s, h, e => by cases e
 | _, .cs _ _ _, P, s, h, e => by cases e
 | _, .grj _ _, P, s, h, e => by cases e
theorem VC.pk : ∀ {T : Type} (v : VC T) {s : T}, v = v.rfx -> v.valq = some s -> v.ok (· = s)
 | _, .ret o, s, hr, e => ⟨s, e, rfl⟩
 | _, .req a b k, s, hr, e => by
  simp only [VC.rfx, VC.req.injEq, heq_eq_eq, true_and] at hr;exact ⟨hr.1.symm, VC.pk k hr.2 e⟩
 | _, .both _ _ _, s, h, e => by cases e
 | _, .sel M b x y k, s, hr, e => by
  simp only [VC.rfx, VC.sel.injEq, heq_eq_eq, true_and] at hr;simp only [VC.valq] at e;split at e
  ·rename_i s1 s2 h1 h2;refine ⟨fun i => ?_, fun i => ?_⟩
   ·subst i;rw [M.h1] at e;exact VC.mono x (fun t ht => by subst ht; exact VC.pk (k _) (congrFun hr.2.2 _) e) (VC.pk x hr.1 h1)
   ·subst i;rw [M.h0] at e;exact VC.mono y (fun t ht => by subst ht; exact VC.pk (k _) (congrFun hr.2.2 _) e) (VC.pk y hr.2.1 h2)
  ·cases e
 | _, .bind _ _, s, h, e => by cases e
 | _, .ite _ _ _, s, h, e => by cases e
 | _, .frN _, s, h, e => by cases e
 | _, .frA _, s, h, e => by cases e
 | _, .join _ _, s, h, e => by cases e
 | _, .cs _ _ _, s, h, e => by cases e
 | _, .grj _ _, s, h, e => by cases e
theorem VC.okk : ∀ {T : Type} (v : VC T) {R : Type} (K : T -> Nm -> Option R) (Ψ : R -> Prop), v.ok (fun y => ∀ s, ∃ x, K y s = some x /\ Ψ x) -> ∀ s, ∃ x, v.modk K s = some x /\ Ψ x
 | _, .ret o, _, K, Ψ, h, s => by
  obtain ⟨x, rfl, i⟩ := h;exact i s
 | _, .bind m k, _, K, Ψ, h, s => by
  obtain ⟨x, rfl, i⟩ := h;exact VC.okk (k x) K Ψ i s
 | _, .ite c x y, _, K, Ψ, h, s => by
  cases c with
  | true => exact VC.okk x K Ψ (h.1 rfl) s
  | false => exact VC.okk y K Ψ (h.2 rfl) s
 | _, .frN k, _, K, Ψ, h, s => VC.okk (k _) K Ψ (h _) _
 | _, .frA k, _, K, Ψ, h, s => VC.okk (k _) K Ψ (h _) _
 | _, .req a b k, _, K, Ψ, h, s => VC.okk k K Ψ h.2 s
 | _, .join x k, _, K, Ψ, h, s => by
  obtain ⟨y, e, h2⟩ := VC.okk x (fun y _ => some y) (fun y => (k y).ok fun z => ∀ s, ∃ x, K z s = some x /\ Ψ x) (VC.mono x (fun y e s => ⟨y, rfl, e⟩) h) s.ev;obtain ⟨z, hz, h3⟩ := VC.okk (k y) K Ψ h2 s.od;exact ⟨z, by simp only [VC.modk, e, bS, hz], h3⟩
 | _, .cs z x y, _, K, Ψ, h, s => by
  cases z with
  | inl a => exact VC.okk (x a) K Ψ (h.1 a rfl) s
  | inr b => exact VC.okk (y b) K Ψ (h.2 b rfl) s
 | _, .both u v vm, _, K, Ψ, h, s => VC.okk u K Ψ h.1 s
 | _, .grj x k, _, K, Ψ, h, s => VC.okk x (fun y s' => (k y).modk K s') Ψ (VC.mono x (fun y e s => VC.okk (k y) K Ψ e s) h) s
 | _, .sel M b x y k, _, K, Ψ, h, s => by
  simp only [VC.modk];split
  ·rename_i s1 s2 h1 h2;cases b with
   | true =>
    rw [M.h1];exact VC.okk (k s1) K Ψ (VC.qW x (h.1 rfl) h1) s
   | false =>
    rw [M.h0];exact VC.okk (k s2) K Ψ (VC.qW y (h.2 rfl) h2) s
  ·cases b with
   | true => exact VC.okk x (fun y s' => (k y).modk K s') Ψ (VC.mono x (fun y e s => VC.okk (k y) K Ψ e s) (h.1 rfl)) s
   | false => exact VC.okk y (fun y s' => (k y).modk K s') Ψ (VC.mono y (fun y e s => VC.okk (k y) K Ψ e s) (h.2 rfl)) s
theorem VC.sQ : ∀ {T : Type} (v : VC T) {R : Type} (K : T -> Nm -> Option R) (Ψ : R -> Prop), v = v.rfx -> (∀ s, ∃ x, v.modk K s = some x /\ Ψ x) -> v.ok (fun y => ∀ s, ∃ x, K y s = some x /\ Ψ x)
 | _, .ret o, _, K, Ψ, _, h => by
  cases o with
  | none => obtain ⟨x, A, _⟩ := h fun _ => (0, none); cases A
  | some y => exact ⟨y, rfl, h⟩
 | _, .bind m k, _, K, Ψ, hr, h => by
  obtain ⟨y, i, I⟩ := h fun _ => (0, none)
  simp only [VC.modk] at i;obtain ⟨x, A, -⟩ := Option.bind_eq_some_iff.1 i;refine ⟨x, A, VC.sQ (k x) K Ψ ?_ fun s => ?_⟩
  ·simp only [VC.rfx, VC.bind.injEq, heq_eq_eq, true_and] at hr;exact congrFun hr x
  ·obtain ⟨z, hz, hp⟩ := h s;simp only [VC.modk, A, bS] at hz;exact ⟨z, hz, hp⟩
 | _, .ite c x y, _, K, Ψ, hr, h => by
  simp only [VC.rfx, VC.ite.injEq, true_and] at hr;refine ⟨fun B => VC.sQ x K Ψ hr.1 fun s => ?_, fun B => VC.sQ y K Ψ hr.2 fun s => ?_⟩
  ·obtain ⟨z, hz, hp⟩ := h s;simp only [VC.modk, B, cT] at hz;exact ⟨z, hz, hp⟩
  ·obtain ⟨z, hz, hp⟩ := h s;simp only [VC.modk, B, cF] at hz;exact ⟨z, hz, hp⟩
 | _, .frN k, _, K, Ψ, hr, h => fun r => by
  simp only [VC.rfx, VC.frN.injEq] at hr;refine VC.sQ (k r) K Ψ (congrFun hr r) fun s => ?_
  exact h (Nm.cons (r, none) s)
 | _, .frA k, _, K, Ψ, hr, h => fun r => by
  simp only [VC.rfx, VC.frA.injEq] at hr;refine VC.sQ (k r) K Ψ (congrFun hr r) fun s => ?_
  exact h (Nm.cons (0, r) s)
 | _, .req a b k, _, K, Ψ, hr, h => by
  simp only [VC.rfx, VC.req.injEq, heq_eq_eq, true_and] at hr;exact ⟨hr.1.symm, VC.sQ k K Ψ hr.2 fun s => by simpa only [VC.modk] using h s⟩
 | _, .join x k, _, K, Ψ, hr, h => by
  simp only [VC.rfx, VC.join.injEq, heq_eq_eq, true_and] at hr;show x.ok fun y => (k y).ok fun y => ∀ s, ∃ x, K y s = some x /\ Ψ x
  refine VC.mono x (fun y i => ?_) (VC.sQ x (fun y _ => some y) (fun y => (k y).ok fun y => ∀ s, ∃ x, K y s = some x /\ Ψ x) hr.1 fun s => ?_)
  ·obtain ⟨z, hz, h2⟩ := i fun _ => (0, none)
   cases hz; exact h2
  ·obtain ⟨z, hz, -⟩ := h (Nm.mix s fun _ => (0, none));simp only [VC.modk, Nm.bJ, Nm.bG] at hz;obtain ⟨y, i, -⟩ := Option.bind_eq_some_iff.1 hz;refine ⟨y, i, VC.sQ (k y) K Ψ (congrFun hr.2 y) fun t => ?_⟩;obtain ⟨z2, l, hp⟩ := h (Nm.mix s t);simp only [VC.modk, Nm.bJ, Nm.bG, i, bS] at l;exact ⟨z2, l, hp⟩
 | _, .cs z x y, _, K, Ψ, hr, h => by
  simp only [VC.rfx, VC.cs.injEq, heq_eq_eq, true_and] at hr;refine ⟨fun a ha => VC.sQ (x a) K Ψ (congrFun hr.1 a) fun s => ?_, fun b j => VC.sQ (y b) K Ψ (congrFun hr.2 b) fun s => ?_⟩
  ·obtain ⟨u, hu, hp⟩ := h s;simp only [VC.modk, ha] at hu;exact ⟨u, hu, hp⟩
  ·obtain ⟨u, hu, hp⟩ := h s;simp only [VC.modk, j] at hu;exact ⟨u, hu, hp⟩
 | _, .both u v vm, _, K, Ψ, hr, h => by
  simp only [VC.rfx, VC.both.injEq, heq_eq_eq, true_and] at hr;have hu := VC.sQ u K Ψ hr.1 h;refine ⟨hu, fun e => ?_⟩;have h2 := VC.sQ v (fun y _ => some y) (fun y => ∀ s, ∃ x, K y s = some x /\ Ψ x) hr.2.1 fun s => by
   have D : v.mod = u.mod := e.symm.trans hr.2.2;have F : v.modk (fun y _ => some y) s = u.modk (fun y _ => some y) s := by rw [VC.mod_eq, VC.mod_eq]; exact congrFun D s
   rw [F];exact VC.okk u (fun y _ => some y) _ (VC.mono u (fun y i s => ⟨y, rfl, i⟩) hu) s
  refine VC.mono v (fun y i => ?_) h2;obtain ⟨z, hz, h3⟩ := i fun _ => (0, none)
  cases hz; exact h3
 | _, .grj x k, _, K, Ψ, hr, h => by
  simp only [VC.rfx, VC.grj.injEq, heq_eq_eq, true_and] at hr;exact VC.mono x (fun y i => VC.sQ (k y) K Ψ (congrFun hr.2 y) i) (VC.sQ x (fun y s' => (k y).modk K s') Ψ hr.1 h)
 | _, .sel M b x y k, _, K, Ψ, hr, h => by
  simp only [VC.rfx, VC.sel.injEq, heq_eq_eq, true_and] at hr;simp only [VC.modk] at h;split at h
  ·rename_i s1 s2 h1 h2;refine ⟨fun j => ?_, fun j => ?_⟩
   ·subst j;rw [M.h1] at h;exact VC.mono x (fun t ht => by subst ht; exact VC.sQ (k _) K Ψ (congrFun hr.2.2 _) h) (VC.pk x hr.1 h1)
   ·subst j;rw [M.h0] at h;exact VC.mono y (fun t ht => by subst ht; exact VC.sQ (k _) K Ψ (congrFun hr.2.2 _) h) (VC.pk y hr.2.1 h2)
  ·refine ⟨fun j => ?_, fun j => ?_⟩
   ·subst j;exact VC.mono x (fun y i => VC.sQ (k y) K Ψ (congrFun hr.2.2 y) i) (VC.sQ x (fun y s' => (k y).modk K s') Ψ hr.1 h)
   ·subst j;exact VC.mono y (fun y i => VC.sQ (k y) K Ψ (congrFun hr.2.2 y) i) (VC.sQ y (fun y s' => (k y).modk K s') Ψ hr.2.1 h)
theorem VC.good {R : Type} (v : VC R) (Φ : R -> Prop) (hr : v = v.rfx) (h : ∀ s, ∃ x, v.mod s = some x /\ Φ x) : v.ok Φ :=
 VC.mono v (fun y e => by obtain ⟨z, hz, h3⟩ := e fun _ => (0, none); cases hz; exact h3) (VC.sQ v (fun y _ => some y) Φ hr fun s => by rw [VC.mod_eq]; exact h s)
structure ElD : Type 1 where
 α : Type
 enc : α -> List Value
 sz : Nat
 ok : xX enc sz
 dec : List Value -> Option α
structure MpD : Type 1 where
 K : Type
 V : Type
 ek : K -> Value
 ev : V -> Value
 dk : Value -> Option K
 dv : Value -> Option V
 eq : K -> K -> Bool
structure Ev : Type 1 where
 el : Nat -> ElD
 mp : Nat -> MpD
inductive Atom (E : Ev) : Type
 | blk (b : Nat) (T : TypeId) (cs : List Value)
 | sl (c : Nat) (T : TypeId) (sb : Option Addr) (sc : Nat) (l : List (E.el c).α)
 | mp (c : Nat) (r : Nat) (m : List ((E.mp c).K × (E.mp c).V))
def Atom.den {E : Ev} : Atom E -> HP
 | .blk b T cs => Blk b T cs
 | .sl c T sb sc l => Sl T (E.el c).enc (E.el c).sz sb sc l
 | .mp c r m => MpA r (E.mp c).ek (E.mp c).ev m
structure RdV (E : Ev) : Type where
 c : Nat
 sb : Option Addr
 sc : Nat
 l : List (E.el c).α
def RdV.holds {E : Ev} (F : List HP) (r : RdV E) : Prop := ∃ X ∈ F, SlRd X (E.el r.c).enc (E.el r.c).sz r.sb r.l /\ ∀ h, X h -> r.l.length <= r.sc
structure EfV (E : Ev) : Type where
 rdr : Bool
 c : Nat
 sb : Option Addr
 l : List (E.el c).α
 i : Int
 x : (E.el c).α
 b : Nat
 o : Nat
def EfV.holds {E : Ev} (F : List HP) (e : EfV E) : Prop :=
 e.sb = some ⟨e.b, e.o, none⟩ /\ mIdx e.l e.i = some e.x /\ (e.rdr = true -> ∃ X ∈ F, SlRd X (E.el e.c).enc (E.el e.c).sz e.sb e.l)
structure VwV (E : Ev) : Type where
 c : Nat
 sb : Option Addr
 sc : Nat
 l : List (E.el c).α
 lo : Option Int
 hi : Option Int
 sb' : Option Addr
 sc' : Nat
 r : List (E.el c).α
def loN : Option Int -> Nat
 | none => 0
 | some i => i.toNat
def loI : Option Int -> Int
 | none => 0
 | some i => i
def hiN (n : Nat) : Option Int -> Nat
 | none => n
 | some i => i.toNat
def hiI (n : Nat) : Option Int -> Int
 | none => (n : Int)
 | some i => i
def bndO (h : Nat) : Option Int -> List Ob
 | none => []
 | some i => [.p (0 <= i /\ i <= (h : Int))]
def VwV.holds {E : Ev} (v : VwV E) : Prop :=
 mCut v.l (loI v.lo) (hiI v.l.length v.hi) = some v.r /\ yF v.sb v.sc (loI v.lo).toNat (E.el v.c).sz = v.sb' /\ v.sc - (loI v.lo).toNat = v.sc' /\ v.l.length <= v.sc
inductive Mi (E : Ev) : Type
 | cut (v : VwV E)
 | opt (o : Option Int)
def Mi.holds {E : Ev} : Mi E -> Prop
 | .cut v => v.holds
 | .opt _ => True
structure Kn (E : Ev) : Type where
 L : Env
 As : List (Nat × Atom E)
 rd : List (Nat × RdV E)
 ef : List (Nat × EfV E)
 pr : List (Nat × Prop)
 vw : List (Nat × Mi E)
def getK {α : Type} (k : Nat) : List (Nat × α) -> Option α
 | [] => none
 | (j, x) :: r => match Nat.beq k j with
  | true => some x
  | false => getK k r
def ng {α : Type} (k : Nat) : List (Nat × α) -> Option (α × List (Nat × α))
 | [] => none
 | (j, x) :: r => match Nat.beq k j with
  | true => some (x, r)
  | false => match ng k r with
   | some (y, r') => some (y, (j, x) :: r')
   | none => none
def jy {α : Type} : List Nat -> List (Nat × α) -> Option (List α × List (Nat × α))
 | [], L => some ([], L)
 | k :: ks, L => match ng k L with
  | none => none
  | some (x, L') => match jy ks L' with
   | none => none
   | some (xs, r) => some (x :: xs, r)
theorem wm {α : Type} {k : Nat} {x : α} : ∀ {L : List (Nat × α)}, getK k L = some x -> ∃ j, (j, x) ∈ L
 | [], h => by cases h
 | (j, y) :: r, h => by
  simp only [getK] at h;split at h
  ·cases h; exact ⟨j, by simp⟩
  ·obtain ⟨i, hi⟩ := wm h; exact ⟨i, by simp [hi]⟩
theorem oW {α : Type} {k : Nat} {x : α} : ∀ {L r : List (Nat × α)}, ng k L = some (x, r) -> (L.map (·.2)).Perm (x :: r.map (·.2))
 | [], r, h => by cases h
 | (j, y) :: L, r, h => by
  simp only [ng] at h;split at h
  ·cases h; exact List.Perm.refl _
  ·split at h
   ·rename_i z r' hp;cases h;have ih := oW hp;simp only [pC];exact (ih.cons y).trans (List.Perm.swap _ _ _)
   ·cases h
theorem kb {α : Type} : ∀ {ks : List Nat} {L r : List (Nat × α)} {xs : List α}, jy ks L = some (xs, r) -> (L.map (·.2)).Perm (xs ++ r.map (·.2))
 | [], L, r, xs, h => by simp [jy] at h; obtain ⟨rfl, rfl⟩ := h; exact List.Perm.refl _
 | k :: ks, L, r, xs, h => by
  simp only [jy] at h;split at h
  ·cases h
  ·rename_i x L' h1;split at h
   ·cases h
   ·rename_i e r' h2;cases h;exact (oW h1).trans ((kb h2).cons x)
section
variable {E : Ev}
def dens (As : List (Nat × Atom E)) : List HP := (As.map (·.2)).map Atom.den
structure bm (F : List HP) (st : Kn E) : Prop where
 rd : ∀ p ∈ st.rd, p.2.holds F
 ef : ∀ p ∈ st.ef, p.2.holds F
 pr : ∀ p ∈ st.pr, p.2
 vw : ∀ p ∈ st.vw, p.2.holds
structure KnOk (n : Nat) (w0 : World) (F : List HP) (st : Kn E) (a : Act) (w : World) : Prop where
 env : zO n a st.L
 hp : St w0 (dens st.As ++ F) w
 fs : bm F st
theorem oM {ks : List Nat} {As r : List (Nat × Atom E)} {xs : List (Atom E)} (h : jy ks As = some (xs, r)) : (dens As).Perm (xs.map Atom.den ++ dens r) := by
 have := (kb h).map Atom.den;simpa [dens] using this
theorem uy {k : Nat} {As r : List (Nat × Atom E)} {x : Atom E} (h : ng k As = some (x, r)) : (dens As).Perm (x.den :: dens r) := by
 have := (oW h).map Atom.den;simpa [dens] using this
theorem uN {k : Nat} {As : List (Nat × Atom E)} {x : Atom E} (h : getK k As = some x) : x.den ∈ dens As := by
 obtain ⟨j, hj⟩ := wm h;simp only [dens, List.mem_map];exact ⟨x, ⟨(j, x), hj, rfl⟩, rfl⟩
theorem St.mem {w0 w : World} {As : List HP} {A : HP} (H : St w0 As w) (h : A ∈ As) : ∃ i : Nat, As[i]? = some A := List.mem_iff_getElem?.1 h
inductive Src
 | C (q off : Nat)
 | A (e : Nat)
 | X (e q j : Nat)
 | R (e j : Nat)
 | Q (j : Nat)
 | W (j : Nat)
 | P (e q j : Nat)
abbrev SrcR (E : Ev) := List Value × List Ob × List (Atom E × Atom E)
def Src.get (st : Kn E) : Src -> Option (SrcR E)
 | .C q off => match getK q st.As with
  | some (.blk b T cs) => match cs[off]? with
   | some v => some ([v], [.cell ⟨b, off, none⟩ v], [])
   | none => none
  | _ => none
 | .A e => match getK e st.ef with
  | some f => some ([.pointer (some ⟨f.b, f.o, none⟩)], [.p (f.sb = some ⟨f.b, f.o, none⟩), .p (0 <= f.i /\ f.i < ((f.l.length : Nat) : Int))], [])
  | none => none
 | .X e q j => match getK e st.ef, getK q st.As with
  | some f, some (.sl c' T sb sc l) => match ((E.el f.c).enc f.x)[j]? with
   | some v => some ([v], [.cell ⟨f.b, f.o + f.i.toNat * (E.el f.c).sz + j, none⟩ v], [(.sl c' T sb sc l, .sl f.c T f.sb sc f.l)])
   | none => none
  | _, _ => none
 | .R e j => match getK e st.ef with
  | some f => match f.rdr, ((E.el f.c).enc f.x)[j]? with
   | true, some v => some ([v], [.cell ⟨f.b, f.o + f.i.toNat * (E.el f.c).sz + j, none⟩ v], [])
   | _, _ => none
  | none => none
 | .Q j => match getK j st.pr with
  | some p => some ([], [.p p], [])
  | none => none
 | .P e q j => match getK e st.ef, getK q st.As with
  | some f, some (.blk b T cs) => match ((E.el f.c).enc f.x)[j]?, Nat.ble f.o cs.length with
   | some v, true => some ([v], [.cell ⟨f.b, f.o + f.i.toNat * (E.el f.c).sz + j, none⟩ v], [(.blk b T cs, .blk f.b T (cs.take f.o ++ (f.l.flatMap (E.el f.c).enc ++ cs.drop (f.o + f.l.length * (E.el f.c).sz))))])
   | _, _ => none
  | _, _ => none
 | .W j => match getK j st.vw with
  | some (.cut v) => some ([.slice v.sb' v.r.length v.sc'], .p (yF v.sb v.sc (loN v.lo) (E.el v.c).sz = v.sb') :: .p (hiN v.l.length v.hi - loN v.lo = v.r.length) :: .p (v.sc - loN v.lo = v.sc') :: (bndO v.sc v.hi ++ bndO (hiN v.l.length v.hi) v.lo), [])
  | _ => none
def srcs (st : Kn E) : List Src -> Option (SrcR E)
 | [] => some ([], [], [])
 | s :: r => match s.get st, srcs st r with
  | some (a, b, c), some (x, y, z) => some (a ++ x, b ++ y, c ++ z)
  | _, _ => none
theorem ia {α : Type} {l : List α} {i : Int} {x : α} (h : mIdx l i = some x) : 0 <= i /\ i < ((l.length : Nat) : Int) := by
 unfold mIdx at h;split at h
 ·rename_i h0;have := (List.getElem?_eq_some_iff.1 h).1;omega
 ·cases h
theorem aU (o : Option Int) : (loI o).toNat = loN o := by cases o <;> rfl
theorem AH (n : Nat) (o : Option Int) : (hiI n o).toNat = hiN n o := by cases o <;> simp [hiI, hiN]
theorem VwV.obs {v : VwV E} (h : v.holds) (w : World) : xO w (.p (yF v.sb v.sc (loN v.lo) (E.el v.c).sz = v.sb') :: .p (hiN v.l.length v.hi - loN v.lo = v.r.length) :: .p (v.sc - loN v.lo = v.sc') :: (bndO v.sc v.hi ++ bndO (hiN v.l.length v.hi) v.lo)) := by
 obtain ⟨h1, h2, h3, h4⟩ := h;refine ⟨by rw [<- aU]; exact h2, ?_, by show v.sc - loN v.lo = v.sc'; rw [<- aU]; exact h3, ?_⟩
 ·show hiN _ _ - loN _ = _;rw [<- aU, <- AH]; exact qZ h1
 ·rw [wA];constructor
  ·cases hh : v.hi with
   | none => trivial
   | some i => rw [hh] at h1; exact ⟨iH h1 h4, trivial⟩
  ·cases hl : v.lo with
   | none => trivial
   | some i =>
    rw [hl] at h1;refine ⟨?_, trivial⟩;have := bI h1;rw [AH] at this;exact this
theorem Src.sound {n : Nat} {w0 w : World} {F : List HP} {st : Kn E} {a : Act} (t : KnOk n w0 F st a w) {s : Src} {D : List Value} {obs : List Ob} {eqs : List (Atom E × Atom E)} (h : s.get st = some (D, obs, eqs))
  (he : ∀ p ∈ eqs, p.1 = p.2) : xO w obs := by
 cases s with
 | C q off =>
  simp only [Src.get] at h;split at h
  ·rename_i b T cs hq;split at h
   ·rename_i v hv;cases h;obtain ⟨i, hi⟩ := t.hp.mem (mL F (uN hq));exact ⟨t.hp.cell i hi hv, trivial⟩
   ·cases h
  ·cases h
 | A e =>
  simp only [Src.get] at h;split at h
  ·rename_i f hf;cases h;obtain ⟨j, hj⟩ := wm hf;obtain ⟨h1, h2, _⟩ := t.fs.ef _ hj;exact ⟨h1, ia h2, trivial⟩
  ·cases h
 | X e q j =>
  simp only [Src.get] at h;split at h
  ·rename_i f c T sb sc l hf hq;split at h
   ·rename_i v hv;cases h;obtain ⟨B, hj⟩ := wm hf;obtain ⟨h1, h2, _⟩ := t.fs.ef _ hj;have y := he _ (List.mem_singleton.2 rfl);simp only at y;have hm := uN hq;rw [y] at hm;obtain ⟨i, hi⟩ := t.hp.mem (mL F hm);exact ⟨SlRd.cells (yN T (E.el f.c).enc (E.el f.c).sz f.sb sc f.l) (E.el f.c).ok t.hp i hi h1 h2 j v hv, trivial⟩
   ·cases h
  ·cases h
 | R e j =>
  simp only [Src.get] at h;split at h
  ·rename_i f hf;split at h
   ·rename_i v hr hv;cases h;obtain ⟨B, hj⟩ := wm hf;obtain ⟨h1, h2, h3⟩ := t.fs.ef _ hj;obtain ⟨X, hX, h4⟩ := h3 hr;obtain ⟨i, hi⟩ := t.hp.mem (List.mem_append_right _ hX);exact ⟨h4.cells (E.el f.c).ok t.hp i hi h1 h2 j v hv, trivial⟩
   ·cases h
  ·cases h
 | Q j =>
  simp only [Src.get] at h;split at h
  ·rename_i p hp;cases h;obtain ⟨B, hj⟩ := wm hp;exact ⟨t.fs.pr _ hj, trivial⟩
  ·cases h
 | P e q j =>
  simp only [Src.get] at h;split at h
  ·rename_i f b T cs hf hq;split at h
   ·rename_i v hv hle;cases h;obtain ⟨B, hj⟩ := wm hf;obtain ⟨h1, h2, _⟩ := t.fs.ef _ hj;have y := he _ (List.mem_singleton.2 rfl);simp only at y;have hm := uN hq;rw [y] at hm;obtain ⟨i, hi⟩ := t.hp.mem (mL F hm);refine ⟨t.hp.cell i hi ?_, trivial⟩;have I : j < (E.el f.c).sz := by
     have := (List.getElem?_eq_some_iff.1 hv).1
     rwa [(E.el f.c).ok.len] at this
    have hlen : (cs.take f.o).length = f.o := by rw [List.length_take]; exact Nat.min_eq_left (Nat.le_of_ble_eq_true hle)
    have O : 0 <= f.i /\ f.i < ((f.l.length : Nat) : Int) := ia h2;have z : f.l[f.i.toNat]? = some f.x := AW h2;have u : f.i.toNat < f.l.length := by omega
    rw [List.getElem?_append_right (by rw [hlen]; omega), hlen];have hk : f.o + f.i.toNat * (E.el f.c).sz + j - f.o = f.i.toNat * (E.el f.c).sz + j := by omega
    rw [hk];have J := yv (E.el f.c).ok f.l;have h3 : f.i.toNat + 1 <= f.l.length := u;have h4 := Nat.mul_le_mul_right (E.el f.c).sz h3;rw [Nat.succ_mul] at h4;rw [List.getElem?_append_left (by rw [J]; omega), tc (E.el f.c).ok f.l _ _ u I];rw [List.getElem?_eq_getElem u] at z;rw [Option.some.inj z];exact hv
   ·cases h
  ·cases h
 | W j =>
  simp only [Src.get] at h;split at h
  ·rename_i v hv;cases h;obtain ⟨B, hj⟩ := wm hv;exact VwV.obs (t.fs.vw _ hj) w
  ·cases h
theorem tL {n : Nat} {w0 w : World} {F : List HP} {st : Kn E} {a : Act} (i : KnOk n w0 F st a w) : ∀ {l : List Src} {e : List Value} {obs : List Ob} {eqs : List (Atom E × Atom E)}, srcs st l = some (e, obs, eqs) ->
  (∀ p ∈ eqs, p.1 = p.2) -> xO w obs
 | [], e, obs, eqs, h, _ => by simp [srcs] at h; obtain ⟨_, rfl, _⟩ := h; trivial
 | s :: r, e, obs, eqs, h, he => by
  simp only [srcs] at h;split at h
  ·rename_i a' j c' x y z h1 h2;cases h;rw [wA];exact ⟨Src.sound i h1 fun p hp => he p (mL _ hp), tL i h2 fun p hp => he p (List.mem_append_right _ hp)⟩
  ·cases h
theorem lJ {l : List (Atom E × Atom E)} (h : l.map (·.1) = l.map (·.2)) : ∀ p ∈ l, p.1 = p.2 := by
 induction l with
 | nil => simp
 | cons x l ih =>
  simp only [pC, List.cons.injEq] at h;intro p hp;cases hp with
  | head => exact h.1
  | tail _ hm => exact ih h.2 p hm
structure Con (E : Ev) : Type 1 where
 fid : Nat
 I : Type
 T : Type
 rd : List Value -> List (Atom E) -> Option I
 args : I -> List Value
 ats : I -> List (Atom E)
 rds : I -> List (RdV E)
 model : I -> Option T
 nN : Nat
 nA : Nat
 val : I -> T -> List Nat -> List (Option Addr) -> Value
 post : I -> T -> List Nat -> List (Option Addr) -> List (Atom E)
 opt : I -> T -> Option (Option Int)
 fx : I -> T -> List Prop
 br : Bool
 M : Type
 om : I -> T -> Option M
 nf : Nat
 val1 : I -> T -> M -> List Nat -> List (Option Addr) -> Value
 post1 : I -> T -> M -> List Nat -> List (Option Addr) -> List (Atom E)
def Con.valA (C : Con E) (i : C.I) (t : C.T) (e : List Nat) (j : List (Option Addr)) : Value := match C.br with
 | false => C.val i t e j
 | true => match C.om i t with
  | none => C.val i t e j
  | some m => C.val1 i t m e j
def Con.ic (C : Con E) (i : C.I) (t : C.T) (e : List Nat) (j : List (Option Addr)) : List (Atom E) := match C.br with
 | false => C.post i t e j
 | true => match C.om i t with
  | none => C.post i t e j
  | some m => C.post1 i t m e j
def Con.BQ (C : Con E) (i : C.I) (t : C.T) (keys : List Nat) : List Nat := match C.br with
 | false => keys
 | true => match C.om i t with
  | none => keys.drop C.nf
  | some _ => keys
def Con.Sound (C : Con E) (P : Program) : Prop := ∀ (i : C.I) (t : C.T), C.model i = some t -> ∀ (w0 w : World) (F : List HP), (∀ r ∈ C.rds i, r.holds F) -> St w0 ((C.ats i).map Atom.den ++ F) w ->
 yz P C.fid (C.args i).toArray w fun v w' => ∃ e j, e.length = C.nN /\ j.length = C.nA /\ v = C.valA i t e j /\ St w0 ((C.ic i t e j).map Atom.den ++ F) w' /\ ∀ p ∈ C.fx i t, p
structure SCon (E : Ev) (P : Program) : Type 1 where
 C : Con E
 snd : C.Sound P
 ent : ∀ args w, (callFunc C.fid args).run P w = .ok (.enter C.fid args) w
def frNs {R : Type} : Nat -> (List Nat -> VC R) -> VC R
 | 0, k => k []
 | n + 1, k => .frN fun r => frNs n fun l => k (r :: l)
def frAs {R : Type} : Nat -> (List (Option Addr) -> VC R) -> VC R
 | 0, k => k []
 | n + 1, k => .frA fun r => frAs n fun l => k (r :: l)
theorem oK {R : Type} {Φ : R -> Prop} : ∀ (l : List Nat) (k : List Nat -> VC R), (frNs l.length k).ok Φ -> (k l).ok Φ
 | [], k, h => h
 | r :: l, k, h => oK l (fun l => k (r :: l)) (h r)
theorem oR {R : Type} {Φ : R -> Prop} : ∀ (l : List (Option Addr)) (k : List (Option Addr) -> VC R), (frAs l.length k).ok Φ -> (k l).ok Φ
 | [], k, h => h
 | r :: l, k, h => oR l (fun l => k (r :: l)) (h r)
def VC.fail {R : Type} : VC R := .ret none
theorem VC.zA {R : Type} {Φ : R -> Prop} (h : (VC.fail : VC R).ok Φ) : False := by
 obtain ⟨x, e, _⟩ := h;cases e
end
end
noncomputable section
section
variable {E : Ev} {P : Program}
structure HpOk (w0 : World) (F : List HP) (st : Kn E) (w : World) : Prop where
 hp : St w0 (dens st.As ++ F) w
 fs : bm F st
theorem KnOk.hk {n : Nat} {w0 w : World} {F : List HP} {st : Kn E} {a : Act} (h : KnOk n w0 F st a w) : HpOk w0 F st w := ⟨h.hp, h.fs⟩
def jx (c : Nat) {c' : Nat} (l : List (E.el c').α) : Option (List (E.el c).α) :=
 match Nat.decEq c' c with
 | isTrue h => some (h ▸ l)
 | isFalse _ => none
def eJ (D : ElD) : Nat -> List Value -> Option (List D.α)
 | 0, _ => some []
 | n + 1, cs => match D.dec (cs.take D.sz), eJ D n (cs.drop D.sz) with
  | some x, some r => some (x :: r)
  | _, _ => none
def nB : Op -> Option (Builtin × List Operand × List TypeId)
 | .call { callee := .builtin b, args, argTypes } => some (b, args.toList, argTypes.toList)
 | _ => none
theorem nM {op : Op} {b : Builtin} {l : List Operand} {e : List TypeId} (h : nB op = some (b, l, e)) : op = .call { callee := .builtin b, args := l.toArray, argTypes := e.toArray } := by
 unfold nB at h;split at h
 ·cases h; simp
 ·cases h
structure EqD (P : Program) : Type 1 where
 α : Type
 t : TypeId
 val : α -> Array Value
 dec : Value -> Option α
 eq : α -> α -> Bool
 ok : ∀ x y, my P t (val x) (val y) (eq x y)
inductive ASrc
 | K (q : Nat)
 | R (q : Nat)
 | O (q : Nat)
 | W (v q : Nat)
def ASrc.keys : List ASrc -> List Nat
 | [] => []
 | .K q :: r => q :: keys r
 | _ :: r => keys r
def qP (rd : List (Nat × RdV E)) (rest : List (Nat × Atom E)) : List ASrc -> List (Atom E) -> Option (List (Atom E) × List (RdV E))
 | [], _ => some ([], [])
 | .K _ :: r, a :: ats => match qP rd rest r ats with
  | some (x, y) => some (a :: x, y)
  | none => none
 | .K _ :: _, [] => none
 | .R q :: r, ats => match getK q rd with
  | some v => match qP rd rest r ats with
   | some (x, y) => some (.sl v.c 0 v.sb v.sc v.l :: x, v :: y)
   | none => none
  | none => none
 | .O q :: r, ats => match getK q rest with
  | some (.sl c T sb sc l) => match qP rd rest r ats with
   | some (x, y) => some (.sl c T sb sc l :: x, ⟨c, sb, sc, l⟩ :: y)
   | none => none
  | _ => none
 | .W _ _ :: _, _ => none
def zipK {α : Type} : List Nat -> List α -> Option (List (Nat × α))
 | [], [] => some []
 | k :: ks, x :: xs => match zipK ks xs with
  | some r => some ((k, x) :: r)
  | none => none
 | _, _ => none
theorem gi {α : Type} : ∀ {ks : List Nat} {xs : List α} {r : List (Nat × α)}, zipK ks xs = some r -> r.map (·.2) = xs
 | [], [], r, h => by simp [zipK] at h; subst h; rfl
 | k :: ks, x :: xs, r, h => by
  simp only [zipK] at h;split at h
  ·rename_i r' hr; cases h; simp [gi hr]
  ·cases h
 | [], _ :: _, r, h => by simp [zipK] at h
 | _ :: _, [], r, h => by simp [zipK] at h
inductive Stp (E : Ev) (P : Program) : Type 1
 | seg (c : Nat) (l : List Src)
 | new (q : Nat) (l : List Src)
 | sto (q : Nat)
 | call (C : SCon E P) (l : List ASrc) (out : List Nat)
 | idx (rdr : Bool) (q : Nat) (x : Operand) (e : Nat)
 | gd (k : Nat) (x : Operand) (j : Nat)
 | idk (rdr : Bool) (q : Nat) (x : Operand) (e : Nat)
 | rlc (e q off : Nat)
 | rls (e t : Nat)
 | nil (q c : Nat) (T : TypeId)
 | bld (q c : Nat) (T : TypeId)
 | app (q : Nat) (s : ASrc)
 | sset (q e j : Nat)
 | mk (q c : Nat) (T : TypeId)
 | eqs (D : EqD P)
 | mnew (q c : Nat)
 | mget (q c : Nat) (kt : TypeId) (hk : rh P kt (E.mp c).ek (E.mp c).eq) (z : (E.mp c).V)
 | mput (q c : Nat) (kt : TypeId) (hk : rh P kt (E.mp c).ek (E.mp c).eq)
 | mdel (q c : Nat) (kt : TypeId) (hk : rh P kt (E.mp c).ek (E.mp c).eq)
 | cut (rdr : Bool) (q : Nat) (lo hi : Option Operand) (v : Nat)
 | own (v q : Nat)
 | el (t e : Nat)
 | same (q m : Nat)
 | rlp (t q : Nat)
 | rlq (b off q : Nat)
 | pix (q off n c : Nat) (x : Operand) (e : Nat)
def fA (c : Nat) {c' : Nat} (l : List ((E.mp c').K × (E.mp c').V)) : Option (List ((E.mp c).K × (E.mp c).V)) :=
 match Nat.decEq c' c with
 | isTrue h => some (h ▸ l)
 | isFalse _ => none
def fP (rd : List (Nat × RdV E)) (vw : List (Nat × Mi E)) (rest : List (Nat × Atom E)) : ASrc -> Option (RdV E × List (Atom E × Atom E))
 | .K _ => none
 | .R q => match getK q rd with
  | some r => some (r, [])
  | none => none
 | .O q => match getK q rest with
  | some (.sl c T sb sc l) => some (⟨c, sb, sc, l⟩, [])
  | _ => none
 | .W v q => match getK v vw, getK q rest with
  | some (.cut u), some (.sl c T sb sc l) => some (⟨u.c, u.sb', u.sc', u.r⟩, [(.sl c T sb sc l, .sl u.c T u.sb u.sc u.l)])
  | _, _ => none
def vwO (o : Option (Option Int)) (l : List (Nat × Mi E)) : List (Nat × Mi E) := match o with
 | some x => (77, .opt x) :: l
 | none => l
theorem Am {o : Option (Option Int)} {l : List (Nat × Mi E)} (h : ∀ p ∈ l, p.2.holds) : ∀ p ∈ vwO o l, p.2.holds := by
 cases o with
 | none => exact h
 | some x =>
  intro p hp;cases hp with
  | head => trivial
  | tail _ hm => exact h p hm
def fxP : List Prop -> List (Nat × Prop) -> List (Nat × Prop)
 | [], l => l
 | p :: r, l => (78, p) :: fxP r l
theorem bV {l : List (Nat × Prop)} (h : ∀ p ∈ l, p.2) : ∀ {fx : List Prop}, (∀ p ∈ fx, p) -> ∀ p ∈ fxP fx l, p.2
 | [], _ => h
 | q :: r, hf => fun p hp => by
  cases hp with
  | head => exact hf q (List.mem_cons_self ..)
  | tail _ hm => exact bV h (fun x e => hf x (mC _ e)) p hm
def outK {R : Type} (out : List Nat) (l : List (Atom E)) (K : List (Nat × Atom E) -> VC R) : VC R := match zipK out l with
 | some new => K new
 | none => .fail
theorem aV {R : Type} {out : List Nat} {l : List (Atom E)} {K : List (Nat × Atom E) -> VC R} {Φ : R -> Prop} (h : (outK out l K).ok Φ) : ∃ new, new.map (·.2) = l /\ (K new).ok Φ := by
 unfold outK at h;split at h
 ·rename_i new hz; exact ⟨new, gi hz, h⟩
 ·exact (VC.zA h).elim
def fj (L : Env) (x : Operand) : Option (Nat × List Value) := match x with
 | .func g => some (g, [])
 | y => match evO L y with
  | some (.func (.func g) ⟨[]⟩ ⟨cs⟩) => some (g, cs)
  | _ => none
def actO {R : Type} (o : Oper) (st : Kn E) (s : Stp E P) (K : Value -> Kn E -> VC R) : VC R :=
 match s with
 | .new q l => match (!rO o.op && ki st.L o.op.operands.toList), srcs st l with
  | true, some (Y, obs, eqs) => .frN fun r => match sM P (execOp (rho st.L) o) Y r with
   | some (.cells cs T (0, 0), .value v, S) => .req S obs (.req (eqs.map (·.1)) (eqs.map (·.2)) (K v ⟨st.L, (q, .blk r T cs.toList) :: st.As, st.rd, st.ef, st.pr, st.vw⟩))
   | _ => .fail
  | _, _ => .fail
 | .sto q => match vT o.op, ng q st.As with
  | some (t, x, y), some (.blk b' T cs, rest) => match evO st.L x, evO st.L y, P.info? t with
   | some (.pointer (some ⟨b, off, none⟩)), some v, some ti => match Nat.beq ti.size v.cells.size, pH v.cells.toList, Nat.ble (off + v.cells.size) cs.length with
    | true, true, true => .req b b' (K undef ⟨st.L, (q, .blk b' T (putAt cs off v.cells.toList)) :: rest, st.rd, st.ef, st.pr, st.vw⟩)
    | _, _, _ => .fail
   | _, _, _ => .fail
  | _, _ => .fail
 | .call C l out => match callParts o.op, jy (ASrc.keys l) st.As with
  | some (x, xs), some (ats, rest) => match fj st.L x, oa st.L xs, qP st.rd rest l ats with
   | some (g, cs), some vs, some (ps, rds) => match C.C.rd (vs ++ cs) ps with
    | some i => .req (vs ++ cs, ats, rds, g) (C.C.args i, C.C.ats i, C.C.rds i, C.C.fid) (.bind (C.C.model i) fun t => frNs C.C.nN fun J => frAs C.C.nA fun O => match C.C.br with
     | false => outK out (C.C.post i t J O) fun new => K (C.C.val i t J O) ⟨st.L, new ++ rest, st.rd, st.ef, fxP (C.C.fx i t) st.pr, vwO (C.C.opt i t) st.vw⟩
     | true => .cs (oS (C.C.om i t)) (fun _ => outK (out.drop C.C.nf) (C.C.post i t J O) fun new => K (C.C.val i t J O) ⟨st.L, new ++ rest, st.rd, st.ef, fxP (C.C.fx i t) st.pr, vwO (C.C.opt i t) st.vw⟩) fun m =>
       outK out (C.C.post1 i t m J O) fun new => K (C.C.val1 i t m J O) ⟨st.L, new ++ rest, st.rd, st.ef, fxP (C.C.fx i t) st.pr, vwO (C.C.opt i t) st.vw⟩)
    | none => .fail
   | _, _, _ => .fail
  | _, _ => .fail
 | .bld q c T => match (!rO o.op && ki st.L o.op.operands.toList) with
  | true => .frN fun r => match sM P (execOp (rho st.L) o) [] r with
   | some (.cells cs T' (0, 0), .value (.slice (some a) m I), []) => match eJ (E.el c) m cs.toList, Nat.ble m 1000000 with
    | some xs, true => .req (cs.toList, a, m, I, T') (xs.flatMap (E.el c).enc, ⟨r, 0, none⟩, xs.length, xs.length, T) (K (.slice (some ⟨r, 0, none⟩) xs.length xs.length) ⟨st.L, (q, .sl c T (some ⟨r, 0, none⟩) xs.length xs) :: st.As, st.rd, st.ef, st.pr, st.vw⟩)
    | _, _ => .fail
   | _ => .fail
  | false => .fail
 | .app q s => match nB o.op, ng q st.As with
  | some (.append, [x, y], [t, u]), some (.sl c T sb sc l, rest) => match fP st.rd st.vw ((q, .sl c T sb sc l) :: rest) s, P.underlying t, P.underlying u, P.info? T, evO st.L x, evO st.L y with
   | some (⟨c', sb', sc', l'⟩, eqs), some (.slice T'), some (.slice d), some ti, some B, some A => match jx c l', ti.zero, Nat.ble ti.bytes 131072 with
    | some l'', some z, true => .req (B, A, T', ti.size, z.cells.size) (.slice sb l.length sc, .slice sb' l''.length sc', T, (E.el c).sz, (E.el c).sz) (.req (eqs.map (·.1)) (eqs.map (·.2)) (.bind (mApp l l'') fun r => .frA fun U => .frN fun W =>
      K (.slice U r.length W) ⟨st.L, (q, .sl c T U W r) :: rest, st.rd, st.ef, st.pr, st.vw⟩))
    | _, _, _ => .fail
   | _, _, _, _, _, _ => .fail
  | _, _ => .fail
 | .sset q e j => match vT o.op, ng q st.As, getK e st.ef with
  | some (t, x, y), some (.sl c T sb sc l, rest), some ⟨rdr, c', sb', l', i, x0, b, off⟩ => match evO st.L x, evO st.L y, P.info? t, Nat.decEq c' c with
   | some B, some v, some ti, isTrue h => match pH v.cells.toList, Nat.ble (j + v.cells.size) (E.el c).sz, (E.el c).dec (putAt ((E.el c).enc (h ▸ x0)) j v.cells.toList) with
    | true, true, some x1 => .req (B, ti.size, (h ▸ l' : List (E.el c).α), sb', (E.el c).enc x1) (.pointer (some ⟨b, off + i.toNat * (E.el c).sz + j, none⟩), v.cells.size, l, sb, putAt ((E.el c).enc (h ▸ x0)) j v.cells.toList)
      (K undef ⟨st.L, (q, .sl c T sb sc (mSet l i x1)) :: rest, st.rd, (e, ⟨false, c, sb, mSet l i x1, i, x1, b, off⟩) :: (e + 100000, ⟨rdr, c', sb', l', i, x0, b, off⟩) :: st.ef, st.pr, st.vw⟩)
    | _, _, _ => .fail
   | _, _, _, _ => .fail
  | _, _, _ => .fail
 | .mk q c T => match o.op with
  | .makeSlice t x y => match P.underlying t, P.info? T, evO st.L x, evO st.L y with
   | some (.slice T'), some ti, some (.int .i64 m), some A => match ti.zero, Nat.ble ti.bytes 131072 with
    | some X, true => match (E.el c).dec X.cells.toList with
     | some z => .req (T', ti.size, X.cells.toList, y) (T, (E.el c).sz, (E.el c).enc z, x) (.bind (fQ m z) fun l => .frN fun r => K (.slice (some ⟨r, 0, none⟩) l.length l.length) ⟨st.L, (q, .sl c T (some ⟨r, 0, none⟩) l.length l) :: st.As, st.rd, st.ef, st.pr, st.vw⟩)
     | none => .fail
    | _, _ => .fail
   | _, _, _, _ => .fail
  | _ => .fail
 | .eqs D => match o.op with
  | .binOp .eql t x y _ => match evO st.L x, evO st.L y, P.eqGuardType P.depth t with
   | some B, some A, false => match D.dec B, D.dec A with
    | some a, some b => .req (t, B, A) (D.t, .agg (D.val a), .agg (D.val b)) (K (.bool (D.eq a b)) st)
    | _, _ => .fail
   | _, _, _ => .fail
  | .binOp .neq t x y _ => match evO st.L x, evO st.L y, P.eqGuardType P.depth t with
   | some B, some A, false => match D.dec B, D.dec A with
    | some a, some b => .req (t, B, A) (D.t, .agg (D.val a), .agg (D.val b)) (K (.bool (!(D.eq a b))) st)
    | _, _ => .fail
   | _, _, _ => .fail
  | _ => .fail
 | .mnew q c => match o.op with
  | .makeMap t none => .frN fun r => K (.map (some r)) ⟨st.L, (q, .mp c r []) :: st.As, st.rd, st.ef, st.pr, st.vw⟩
  | _ => .fail
 | .mget q c kt hk z => match getK q st.As with
  | some (.mp c' r m) => match fA c m with
   | some I => match o.op with
    | .lookup mt x y two => match P.underlying mt, evO st.L x, evO st.L y with
     | some (.map F Z), some B, some A => match P.info? Z, (E.mp c).dk A with
      | some ti, some k => match ti.zero with
       | some X => .req (F, B, A, X, Atom.mp (E := E) c' r m) (kt, .map (some r), (E.mp c).ek k, (E.mp c).ev z, .mp c r I) (.bind (rC (E.mp c).eq k z I) fun g => K (match two with
        | true => .tuple #[(E.mp c).ev g.1, .bool g.2]
        | false => (E.mp c).ev g.1) st)
       | none => .fail
      | _, _ => .fail
     | _, _, _ => .fail
    | _ => .fail
   | none => .fail
  | _ => .fail
 | .mput q c kt hk => match ng q st.As, ov o.op with
  | some (.mp c' r m, rest), some (mt, x, y, z) => match fA c m, P.underlying mt, evO st.L x, evO st.L y, evO st.L z with
   | some I, some (.map F Z), some B, some A, some vz => match (E.mp c).dk A, (E.mp c).dv vz with
    | some k, some v => .req (F, B, A, vz, Atom.mp (E := E) c' r m) (kt, .map (some r), (E.mp c).ek k, (E.mp c).ev v, .mp c r I) (K undef ⟨st.L, (q, .mp c r (mPut (E.mp c).eq k v I)) :: rest, st.rd, st.ef, st.pr, st.vw⟩)
    | _, _ => .fail
   | _, _, _, _, _ => .fail
  | _, _ => .fail
 | .mdel q c kt hk => match ng q st.As, nB o.op with
  | some (.mp c' r m, rest), some (.delete, [x, y], mt :: ts) => match fA c m, P.underlying mt, evO st.L x, evO st.L y with
   | some I, some (.map F Z), some B, some A => match (E.mp c).dk A with
    | some k => .req (F, B, A, Atom.mp (E := E) c' r m) (kt, .map (some r), (E.mp c).ek k, .mp c r I) (K (.tuple #[]) ⟨st.L, (q, .mp c r (mDel (E.mp c).eq k I)) :: rest, st.rd, st.ef, st.pr, st.vw⟩)
    | none => .fail
   | _, _, _, _ => .fail
  | _, _ => .fail
 | _ => .fail
theorem RdV.mono {F G : List HP} {r : RdV E} (h : ∀ X ∈ F, X ∈ G) (hr : r.holds F) : r.holds G := by
 obtain ⟨X, hX, h1⟩ := hr;exact ⟨X, h X hX, h1⟩
theorem sD {F : List HP} {rd : List (Nat × RdV E)} {rest : List (Nat × Atom E)} (e : ∀ p ∈ rd, p.2.holds F) : ∀ {l : List ASrc} {ats ps : List (Atom E)} {rds : List (RdV E)},
  qP rd rest l ats = some (ps, rds) -> ∀ r ∈ rds, r.holds (dens rest ++ F)
 | [], ats, ps, rds, h => by simp [qP] at h; obtain ⟨_, rfl⟩ := h; simp
 | .K _ :: r, [], ps, rds, h => by simp [qP] at h
 | .K _ :: r, a :: ats, ps, rds, h => by
  simp only [qP] at h;split at h
  ·rename_i x y i; cases h; exact sD e i
  ·cases h
 | .R q :: r, ats, ps, rds, h => by
  simp only [qP] at h;split at h
  ·rename_i v hv;split at h
   ·rename_i x y i;cases h;intro z hz;cases hz with
    | head =>
     obtain ⟨j, hj⟩ := wm hv;exact RdV.mono (fun X hX => List.mem_append_right _ hX) (e _ hj)
    | tail _ hm => exact sD e i z hm
   ·cases h
  ·cases h
 | .O q :: r, ats, ps, rds, h => by
  simp only [qP] at h;split at h
  ·rename_i c T sb sc l hq;split at h
   ·rename_i x y i;cases h;intro z hz;cases hz with
    | head =>
     refine ⟨_, mL F (uN hq), yN _ _ _ _ _ _, ?_⟩;rintro h (⟨_, hl, _⟩ | ⟨b, off, cs, _, _, t, _⟩)
     ·show l.length <= sc;rw [show l = [] from hl]; simp
     ·exact t
    | tail _ hm => exact sD e i z hm
   ·cases h
  ·cases h
theorem OpTo.Bl {n : Nat} {a : Act} {L : Env} {w w0 : World} {As : List HP} {o : Oper} {b off : Nat} {T t : TypeId} {cs : List Value} {x y : Operand} {v : Value} {ti : TypeInfo} (i : zO n a L) (H : St w0 (Blk b T cs :: As) w)
  (j : vT o.op = some (t, x, y)) (z : evO L x = some (.pointer (some ⟨b, off, none⟩))) (A : evO L y = some v) (hi : P.info? t = some ti) (hs : ti.size = v.cells.size) (h1 : pH v.cells.toList = true)
  (e : off + v.cells.size <= cs.length) : OpTo P o a w fun u w' => u = undef /\ St w0 (Blk b T (putAt cs off v.cells.toList) :: As) w' := by
 obtain ⟨dst, op, type, pos, after, guard⟩ := o;cases op <;> simp only [vT] at j <;> try cases j
 have l := H.one 0 rfl;refine OpTo.jZ (w' := w.setRow b (putAt cs off v.cells.toList).toArray) ?_ ⟨rfl, ?_⟩
 ·simp [execOp, i.eval z, i.eval A, nk l hi hs h1 e]
 ·exact H.set (by simp) (by simp) (by simp) (setRow_heap w b _ _ T (0, 0) l) (fun c B => setRow_other w b c _ B)
theorem OpTo.BX {o : Oper} {a : Act} {w : World} {e : Value -> World -> Prop} {z : TypeId × Operand × Operand} (h : OpTo P o a w e) (i : vT o.op = some z) : OpTo P o a w fun v w' => v = undef /\ e v w' := by
 obtain ⟨dst, op, type, pos, after, guard⟩ := o;cases op <;> simp only [vT] at i <;> try cases i
 rename_i t x y;unfold OpTo at *
 simp only [execOp, Sem.run_bind, Sem.run_pure] at *
 cases hr : (Instr.storeAt t (a.eval x) (a.eval y)).run P w with
 | ok u w' => rw [hr] at h; simp [Result.andThen] at h ⊢; exact h
 | halt x w' => rw [hr] at h; simp [Result.andThen] at h
theorem OpTo.putU {o : Oper} {a : Act} {w : World} {e : Value -> World -> Prop} {z : TypeId × Operand × Operand × Operand} (h : OpTo P o a w e) (i : ov o.op = some z) : OpTo P o a w fun v w' => v = undef /\ e v w' := by
 obtain ⟨dst, op, type, pos, after, guard⟩ := o;cases op <;> simp only [ov] at i <;> try cases i
 all_goals
  rename_i t x y z;unfold OpTo at *
  simp only [execOp, Sem.run_bind, Sem.run_pure] at *
  cases hr : (Instr.mapUpdate t (a.eval x) (a.eval y) (a.eval z)).run P w with
  | ok u w' => rw [hr] at h; simp [Result.andThen] at h ⊢; exact h
  | halt x w' => rw [hr] at h; simp [Result.andThen] at h
theorem iP {F : List HP} {rd : List (Nat × RdV E)} {vw : List (Nat × Mi E)} {rest : List (Nat × Atom E)} {s : ASrc} {r : RdV E} {eqs : List (Atom E × Atom E)} (e : ∀ p ∈ rd, p.2.holds F) (i : ∀ p ∈ vw, p.2.holds) (h : fP rd vw rest s = some (r, eqs)) (he : ∀ p ∈ eqs, p.1 = p.2) :
  ∃ X, X ∈ dens rest ++ F /\ SlRd X (E.el r.c).enc (E.el r.c).sz r.sb r.l := by
 cases s with
 | K q => simp [fP] at h
 | R q =>
  simp only [fP] at h;split at h
  ·rename_i r' hr;cases h;obtain ⟨j, hj⟩ := wm hr;obtain ⟨X, hX, h1, _⟩ := e _ hj;exact ⟨X, List.mem_append_right _ hX, h1⟩
  ·cases h
 | W v q =>
  simp only [fP] at h;split at h
  ·rename_i u c T sb sc l hu hq;cases h;obtain ⟨j, hj⟩ := wm hu;obtain ⟨h1, h2, h3, h4⟩ := i _ hj;have t := he _ (List.mem_singleton.2 rfl);simp only at t;have hm := uN hq;rw [t] at hm;exact ⟨_, mL F hm, (yN T (E.el u.c).enc (E.el u.c).sz u.sb u.sc u.l).cut' (E.el u.c).ok h1 h4 h2⟩
  ·cases h
 | O q =>
  simp only [fP] at h;split at h
  ·rename_i c T sb sc l hq;cases h;exact ⟨_, mL F (uN hq), yN _ _ _ _ _ _⟩
  ·cases h
theorem bj {c c' : Nat} {l : List (E.el c').α} {l' : List (E.el c).α} (h : jx c l = some l') : ∃ e : c' = c, l' = e ▸ l := by
 unfold jx at h;split at h
 ·rename_i e _; cases h; exact ⟨e, rfl⟩
 ·cases h
theorem kC {c c' : Nat} {l : List ((E.mp c').K × (E.mp c').V)} {l' : List ((E.mp c).K × (E.mp c).V)} (h : fA c l = some l') : ∃ e : c' = c, l' = e ▸ l := by
 unfold fA at h;split at h
 ·rename_i e _; cases h; exact ⟨e, rfl⟩
 ·cases h
theorem lp {R : Type} {n : Nat} {w0 w : World} {F : List HP} {st : Kn E} {a : Act} {Φ : R -> Prop} {o : Oper} {s : Stp E P} {K : Value -> Kn E -> VC R} (A : KnOk n w0 F st a w) (h : (actO o st s K).ok Φ) :
  OpTo P o a w fun v w' => ∃ J, J.L = st.L /\ HpOk w0 F J w' /\ (K v J).ok Φ := by
 cases s with
 | seg c l => exact (VC.zA h).elim
 | idx rdr q x e => exact (VC.zA h).elim
 | gd k x j => exact (VC.zA h).elim
 | idk rdr q x e => exact (VC.zA h).elim
 | rlc e q off => exact (VC.zA h).elim
 | rls e t => exact (VC.zA h).elim
 | nil q c T => exact (VC.zA h).elim
 | cut rdr q lo hi v => exact (VC.zA h).elim
 | own v q => exact (VC.zA h).elim
 | el t e => exact (VC.zA h).elim
 | same q m => exact (VC.zA h).elim
 | rlp t q => exact (VC.zA h).elim
 | rlq b off q => exact (VC.zA h).elim
 | pix q off n c x e => exact (VC.zA h).elim
 | bld q c T =>
  simp only [actO] at h;split at h
  ·rename_i a0;have h3 := h w.heap.size;dsimp only at h3;split at h3
   ·rename_i cs T' ad m m' a3;split at h3
    ·rename_i xs c5 hm;obtain ⟨e, W⟩ := h3;simp only [Prod.mk.injEq] at e;obtain ⟨S, rfl, rfl, rfl, rfl⟩ := e;simp only [Bool.and_eq_true, Bool.not_eq_true'] at a0;have c6 := Nat.le_of_ble_eq_true hm;have c7 : cs.size = xs.length * (E.el c).sz := by rw [<- Array.length_toList, S, yv (E.el c).ok]
     refine OpTo.of_run (w' := { w with heap := w.heap.push (.cells cs T' (0, 0)) }) (v := .slice (some ⟨w.heap.size, 0, none⟩) xs.length xs.length) ?_ ⟨⟨st.L, (q, .sl c T' (some ⟨w.heap.size, 0, none⟩) xs.length xs) :: st.As, st.rd, st.ef, st.pr, st.vw⟩, rfl, ⟨?_, A.fs.1, A.fs.2, A.fs.3, A.fs.4⟩, W⟩
     ·rw [km A.env a0.1 a0.2];exact qh P w _ _ _ _ _ a3 trivial
     ·have H2 := A.hp.alloc (.cells cs T' (0, 0));have H3 := St.slOf (enc := (E.el c).enc) (sz := (E.el c).sz) (l := xs) (sc := xs.length) H2 (E.el c).ok (Nat.le_refl _) (by unfold maxLen; omega) (by omega) fun i hi => by rw [<- S]; simp
      exact H3
    ·exact (VC.zA h3).elim
   ·exact (VC.zA h3).elim
  ·exact (VC.zA h).elim
 | app q s =>
  simp only [actO] at h;split at h
  ·rename_i x y t u c T sb sc l rest h1 h2;split at h
   ·rename_i c' sb' sc' l' eqs T' d ti vx vy g1 g2 g3 g4 g5 g6;split at h
    ·rename_i l'' z U k2 k3;obtain ⟨e, b4, r, hr, I⟩ := h;simp only [Prod.mk.injEq] at e;obtain ⟨rfl, rfl, rfl, e4, e5⟩ := e;obtain ⟨Y, rfl⟩ := bj U;subst Y;have H : St w0 (Sl T' (E.el c').enc (E.el c').sz sb sc l :: (dens rest ++ F)) w := A.hp.perm ((uy h2).append_right F);obtain ⟨X, hX, hS⟩ := iP A.fs.rd A.fs.vw g1 (lJ b4);obtain ⟨j, hj⟩ := H.mem hX;have b5 := hS.all (E.el c').ok H j hj;refine (OpTo.rI hr A.env H (E.el c').ok (nM h1) g5 g6 g2 g3 g4 e4 k2 e5 rfl b5 k3).mono ?_;rintro v w' ⟨a5, a6, rfl, B⟩;exact ⟨⟨st.L, (q, .sl c' T' a5 a6 r) :: rest, st.rd, st.ef, st.pr, st.vw⟩, rfl, ⟨B, A.fs.1, A.fs.2, A.fs.3, A.fs.4⟩, I a5 a6⟩
    ·exact (VC.zA h).elim
   ·exact (VC.zA h).elim
  ·exact (VC.zA h).elim
 | sset q e j =>
  simp only [actO] at h;split at h
  ·rename_i t x y c T sb sc l rest rdr c' sb' l' i x0 b off h1 h2 h3;split at h
   ·rename_i vx v ti Y g1 g2 g3 g4;split at h
    ·rename_i x1 U k2 k3;subst Y;obtain ⟨e, I⟩ := h;simp only [Prod.mk.injEq] at e;obtain ⟨rfl, Z, rfl, rfl, e5⟩ := e;obtain ⟨j', hj⟩ := wm h3;obtain ⟨f1, f2, _⟩ := A.fs.2 _ hj;have H : St w0 (Sl T (E.el c').enc (E.el c').sz sb' sc l' :: (dens rest ++ F)) w := A.hp.perm ((uy h2).append_right F);refine (OpTo.BX (OpTo.kV (q := j) (x' := x1) A.env H (E.el c').ok h1 f1 f2 g1 g2 g3 Z U (Nat.le_of_ble_eq_true k2) e5) h1).mono ?_;rintro v w' ⟨rfl, B⟩;refine ⟨⟨st.L, (q, .sl c' T sb' sc (mSet l' i x1)) :: rest, st.rd, (e, ⟨false, c', sb', mSet l' i x1, i, x1, b, off⟩) :: (e + 100000, ⟨rdr, c', sb', l', i, x0, b, off⟩) :: st.ef, st.pr, st.vw⟩, rfl, ⟨B, A.fs.1, fun p hp => ?_, A.fs.3, A.fs.4⟩, I⟩;cases hp with
     | head => exact ⟨f1, aX f2, fun h => by cases h⟩
     | tail _ hm =>
      cases hm with
      | head =>
       have h9 := A.fs.2 _ hj;exact h9
      | tail _ hm => exact A.fs.2 p hm
    ·exact (VC.zA h).elim
   ·exact (VC.zA h).elim
  ·exact (VC.zA h).elim
 | mk q c T =>
  simp only [actO] at h;split at h
  ·rename_i t x y O;split at h
   ·rename_i T' ti m vy g1 g2 g3 g4;split at h
    ·rename_i zv U k2;split at h
     ·rename_i z kz;obtain ⟨e, l, hl, I⟩ := h;simp only [Prod.mk.injEq] at e;obtain ⟨rfl, Z, e3, rfl⟩ := e;refine (OpTo.make hl A.env A.hp (E.el c).ok O g3 g1 g2 Z U e3 k2).mono ?_;rintro v w' ⟨r, rfl, B⟩;exact ⟨⟨st.L, (q, .sl c T' (some ⟨r, 0, none⟩) l.length l) :: st.As, st.rd, st.ef, st.pr, st.vw⟩, rfl, ⟨B, A.fs.1, A.fs.2, A.fs.3, A.fs.4⟩, I r⟩
     ·exact (VC.zA h).elim
    ·exact (VC.zA h).elim
   ·exact (VC.zA h).elim
  ·exact (VC.zA h).elim
 | eqs D =>
  simp only [actO] at h;split at h
  ·rename_i t x y u O;split at h
   ·rename_i vx vy g1 g2 g3;split at h
    ·rename_i p q U k2;obtain ⟨e, I⟩ := h;simp only [Prod.mk.injEq] at e;obtain ⟨rfl, rfl, rfl⟩ := e;refine (OpTo.eqS A.env O g1 g2 g3 (D.ok p q)).mono ?_;rintro v w' ⟨rfl, rfl⟩;exact ⟨st, rfl, A.hk, I⟩
    ·exact (VC.zA h).elim
   ·exact (VC.zA h).elim
  ·rename_i t x y u O;split at h
   ·rename_i vx vy g1 g2 g3;split at h
    ·rename_i p q U k2;obtain ⟨e, I⟩ := h;simp only [Prod.mk.injEq] at e;obtain ⟨rfl, rfl, rfl⟩ := e;refine (OpTo.neS A.env O g1 g2 g3 (D.ok p q)).mono ?_;rintro v w' ⟨rfl, rfl⟩;exact ⟨st, rfl, A.hk, I⟩
    ·exact (VC.zA h).elim
   ·exact (VC.zA h).elim
  ·exact (VC.zA h).elim
 | mnew q c =>
  simp only [actO] at h;split at h
  ·rename_i t O;refine (OpTo.BB (E.mp c).ek (E.mp c).ev A.env A.hp O).mono ?_;rintro v w' ⟨r, rfl, B⟩;exact ⟨⟨st.L, (q, .mp c r []) :: st.As, st.rd, st.ef, st.pr, st.vw⟩, rfl, ⟨B, A.fs.1, A.fs.2, A.fs.3, A.fs.4⟩, h r⟩
  ·exact (VC.zA h).elim
 | mget q c kt hk z =>
  simp only [actO] at h;split at h
  ·rename_i c' r m hq;split at h
   ·rename_i m' hm;split at h
    ·rename_i mt x y two O;split at h
     ·rename_i a8 vt vx vy g1 g2 g3;split at h
      ·rename_i ti k U k2;split at h
       ·rename_i zv kz;obtain ⟨Y, rfl⟩ := kC hm;subst Y;obtain ⟨e, g, hg, I⟩ := h;simp only [Prod.mk.injEq] at e;obtain ⟨rfl, rfl, rfl, rfl, _⟩ := e;obtain ⟨j, hj⟩ := A.hp.mem (mL F (uN hq));cases two with
        | true =>
         refine (OpTo.Bf j A.env A.hp hj hk hg O g1 U kz g2 g3).mono ?_;rintro v w' ⟨rfl, rfl⟩;exact ⟨st, rfl, A.hk, I⟩
        | false =>
         refine (OpTo.Bt j A.env A.hp hj hk hg O g1 U kz g2 g3).mono ?_;rintro v w' ⟨rfl, rfl⟩;exact ⟨st, rfl, A.hk, I⟩
       ·exact (VC.zA h).elim
      ·exact (VC.zA h).elim
     ·exact (VC.zA h).elim
    ·exact (VC.zA h).elim
   ·exact (VC.zA h).elim
  ·exact (VC.zA h).elim
 | mput q c kt hk =>
  simp only [actO] at h;split at h
  ·rename_i c' r m rest mt x y z h1 h2;split at h
   ·rename_i m' a8 vt vx vy vz hm g1 g2 g3 g4;split at h
    ·rename_i k v U k2;obtain ⟨Y, rfl⟩ := kC hm;subst Y;obtain ⟨e, I⟩ := h;simp only [Prod.mk.injEq] at e;obtain ⟨rfl, rfl, rfl, rfl, _⟩ := e;have H : St w0 (MpA r (E.mp c').ek (E.mp c').ev m :: (dens rest ++ F)) w := A.hp.perm ((uy h1).append_right F);refine (OpTo.putU (OpTo.BD A.env H hk h2 g1 g2 g3 g4) h2).mono ?_;rintro v' w' ⟨rfl, B⟩;exact ⟨⟨st.L, (q, .mp c' r (mPut (E.mp c').eq k v m)) :: rest, st.rd, st.ef, st.pr, st.vw⟩, rfl, ⟨B, A.fs.1, A.fs.2, A.fs.3, A.fs.4⟩, I⟩
    ·exact (VC.zA h).elim
   ·exact (VC.zA h).elim
  ·exact (VC.zA h).elim
 | mdel q c kt hk =>
  simp only [actO] at h;split at h
  ·rename_i c' r m rest x y mt ts h1 h2;split at h
   ·rename_i m' a8 vt vx vy hm g1 g2 g3;split at h
    ·rename_i k U;obtain ⟨Y, rfl⟩ := kC hm;subst Y;obtain ⟨e, I⟩ := h;simp only [Prod.mk.injEq] at e;obtain ⟨rfl, rfl, rfl, _⟩ := e;have H : St w0 (MpA r (E.mp c').ek (E.mp c').ev m :: (dens rest ++ F)) w := A.hp.perm ((uy h1).append_right F);refine (OpTo.B7 A.env H hk (nM h2) (by simp) g1 g2 g3).mono ?_;rintro v' w' ⟨rfl, B⟩;exact ⟨⟨st.L, (q, .mp c' r (mDel (E.mp c').eq k m)) :: rest, st.rd, st.ef, st.pr, st.vw⟩, rfl, ⟨B, A.fs.1, A.fs.2, A.fs.3, A.fs.4⟩, I⟩
    ·exact (VC.zA h).elim
   ·exact (VC.zA h).elim
  ·exact (VC.zA h).elim
 | new q l =>
  simp only [actO] at h;split at h
  ·rename_i d5 obs eqs h1 h2;have h3 := h w.heap.size;dsimp only at h3;split at h3
   ·rename_i cs T v c4 h4;obtain ⟨I, h6, W⟩ := h3;subst I;simp only [Bool.and_eq_true, Bool.not_eq_true'] at h1;refine OpTo.of_run (w' := { w with heap := w.heap.push (.cells cs T (0, 0)) }) (v := v) ?_ ⟨⟨st.L, (q, .blk w.heap.size T cs.toList) :: st.As, st.rd, st.ef, st.pr, st.vw⟩, rfl, ⟨?_, A.fs.1, A.fs.2, A.fs.3, A.fs.4⟩, W⟩
    ·rw [km A.env h1.1 h1.2];exact qh P w _ _ _ _ _ h4 (tL A h2 (lJ h6))
    ·have := A.hp.alloc (.cells cs T (0, 0));simpa [dens, Atom.den] using this
   ·exact (VC.zA h3).elim
  ·exact (VC.zA h).elim
 | sto q =>
  simp only [actO] at h;split at h
  ·rename_i t x y b' T cs rest h1 h2;split at h
   ·rename_i b off v ti hx hy hi;split at h
    ·rename_i S Z e3;obtain ⟨rfl, W⟩ := h;have H : St w0 (Blk b T cs :: (dens rest ++ F)) w := A.hp.perm ((uy h2).append_right F);refine (OpTo.Bl A.env H h1 hx hy hi (Nat.eq_of_beq_eq_true S) Z (Nat.le_of_ble_eq_true e3)).mono ?_;rintro _ w' ⟨rfl, B⟩;exact ⟨⟨st.L, (q, .blk b T (putAt cs off v.cells.toList)) :: rest, st.rd, st.ef, st.pr, st.vw⟩, rfl, ⟨B, A.fs.1, A.fs.2, A.fs.3, A.fs.4⟩, W⟩
    ·exact (VC.zA h).elim
   ·exact (VC.zA h).elim
  ·exact (VC.zA h).elim
 | call C l out =>
  simp only [actO] at h;split at h
  ·rename_i x xs ats rest h1 h2;split at h
   ·rename_i g cs vs ps rds S Z e3;split at h
    ·rename_i i hi;obtain ⟨e4, t, ht, I⟩ := h;simp only [Prod.mk.injEq] at e4;obtain ⟨e5, rfl, rfl, rfl⟩ := e4;have fn : ∀ {Rv : Value -> World -> Prop}, yz P C.C.fid (C.C.args i).toArray w Rv -> OpTo P o a w Rv := by
      intro Rv hc;rw [<- e5] at hc;unfold fj at S;split at S
      ·simp only [Option.some.injEq, Prod.mk.injEq] at S;obtain ⟨e6, rfl⟩ := S;subst e6;rw [aN] at hc;exact OpTo.fn A.env h1 Z C.ent hc
      ·split at S
       ·rename_i hx;simp only [Option.some.injEq, Prod.mk.injEq] at S;obtain ⟨e6, rfl⟩ := S;subst e6;exact OpTo.fv A.env h1 hx Z C.ent hc
       ·cases S
     have H : St w0 ((C.C.ats i).map Atom.den ++ (dens rest ++ F)) w := by
      have := A.hp.perm ((oM h2).append_right F)
      rwa [aA] at this
     refine fn ((C.snd i t ht w0 w (dens rest ++ F) (sD A.fs.rd e3) H).mono ?_);rintro v w' ⟨ns, aS, hn, ha, rfl, B, c0⟩;rw [<- hn] at I;have h6 := oK _ _ I;rw [<- ha] at h6;have W := oR _ _ h6;have fin : ∀ (v : Value) (l : List (Atom E)) (out : List Nat), St w0 (l.map Atom.den ++ (dens rest ++ F)) w' -> (outK out l fun new => K v ⟨st.L, new ++ rest, st.rd, st.ef, fxP (C.C.fx i t) st.pr, vwO (C.C.opt i t) st.vw⟩).ok Φ -> ∃ J, J.L = st.L /\ HpOk w0 F J w' /\ (K v J).ok Φ := by
      intro v l out Hl hk;obtain ⟨new, hz, h8⟩ := aV hk;refine ⟨⟨st.L, new ++ rest, st.rd, st.ef, fxP (C.C.fx i t) st.pr, vwO (C.C.opt i t) st.vw⟩, rfl, ⟨?_, A.fs.1, A.fs.2, bV A.fs.3 c0, Am A.fs.4⟩, h8⟩;simp only [dens, List.map_append, hz, aA];exact Hl
     unfold Con.valA;unfold Con.ic at B;split at W
     ·rename_i hb;rw [hb] at B; try rw [hb]
      exact fin _ _ _ B W
     ·rename_i hb;rw [hb] at B; try rw [hb]
      cases O : C.C.om i t with
      | none =>
       rw [O] at B;exact fin _ _ _ B (W.1 () (by rw [O]; rfl))
      | some m =>
       rw [O] at B;exact fin _ _ _ B (W.2 m (by rw [O]; rfl))
    ·exact (VC.zA h).elim
   ·exact (VC.zA h).elim
  ·exact (VC.zA h).elim
end
end
noncomputable section
section
variable {E : Ev} {P : Program}
theorem HpOk.kn {n : Nat} {w0 w : World} {F : List HP} {st : Kn E} {a : Act} {L : Env} (h : HpOk w0 F st w) (e : zO n a L) : KnOk n w0 F ⟨L, st.As, st.rd, st.ef, st.pr, st.vw⟩ a w := ⟨e, h.hp, h.fs.1, h.fs.2, h.fs.3, h.fs.4⟩
def idxC {R : Type} (st : Kn E) (c : Nat) (sb : Option Addr) (l : List (E.el c).α) (rdr : Bool) (x : Operand) (e : Nat) (K : Kn E -> VC R) : VC R :=
 match evO st.L x with
 | some (.int _ i) => .bind (mIdx l i) fun y => .frN fun b => .frN fun o => K ⟨st.L, st.As, st.rd, (e, ⟨rdr, c, sb, l, i, y, b, o⟩) :: st.ef, st.pr, st.vw⟩
 | _ => .fail
def idkC {R : Type} (st : Kn E) (c : Nat) (sb : Option Addr) (l : List (E.el c).α) (rdr : Bool) (x : Operand) (e : Nat) (K : Kn E -> VC R) : VC R :=
 match evO st.L x with
 | some (.int _ i) => match mIdx l i with
  | some y => .frN fun b => .frN fun o => K ⟨st.L, st.As, st.rd, (e, ⟨rdr, c, sb, l, i, y, b, o⟩) :: st.ef, st.pr, st.vw⟩
  | none => .fail
 | _ => .fail
def idkS {R : Type} (st : Kn E) (rdr : Bool) (q : Nat) (x : Operand) (e : Nat) (K : Kn E -> VC R) : VC R :=
 match rdr with
 | true => match getK q st.rd with
  | some r => idkC st r.c r.sb r.l true x e K
  | none => .fail
 | false => match getK q st.As with
  | some (.sl c T sb sc l) => idkC st c sb l false x e K
  | _ => .fail
def idxS {R : Type} (st : Kn E) (rdr : Bool) (q : Nat) (x : Operand) (e : Nat) (K : Kn E -> VC R) : VC R :=
 match rdr with
 | true => match getK q st.rd with
  | some r => idxC st r.c r.sb r.l true x e K
  | none => .fail
 | false => match getK q st.As with
  | some (.sl c T sb sc l) => idxC st c sb l false x e K
  | _ => .fail
def rlN {R : Type} (st : Kn E) (e : Nat) (K : Nat -> Nat -> VC R) : VC R :=
 match getK e st.ef, getK (e + 100000) st.ef with
 | some f, some g => match jx f.c g.l with
  | some l => .req f.l (mSet l g.i f.x) (K l.length f.l.length)
  | none => .fail
 | _, _ => .fail
theorem jC {R : Type} {st : Kn E} {e : Nat} {K : Nat -> Nat -> VC R} {Φ : R -> Prop} (h : (rlN st e K).ok Φ) : ∃ n, (K n n).ok Φ := by
 unfold rlN at h;split at h
 ·split at h
  ·obtain ⟨h1, h2⟩ := h;rw [h1, tJ] at h2;exact ⟨_, h2⟩
  ·exact (VC.zA h).elim
 ·exact (VC.zA h).elim
def rlcC {R : Type} (st : Kn E) (e q off : Nat) (K : Kn E -> VC R) : VC R := rlN st e fun n i => match ng q st.As with
 | some (.blk b T cs, rest) => match cs[off]? with
  | some (.slice sb m sc) => .req m n (K ⟨st.L, (q, .blk b T (cs.set off (.slice sb i sc))) :: rest, st.rd, st.ef, st.pr, st.vw⟩)
  | _ => .fail
 | _ => .fail
def rlsC {R : Type} (st : Kn E) (e t : Nat) (K : Kn E -> VC R) : VC R := rlN st e fun n i => match look t st.L with
 | some (.slice sb m sc) => .req m n (K ⟨(t, .slice sb i sc) :: st.L, st.As, st.rd, st.ef, st.pr, st.vw⟩)
 | _ => .fail
def opI (L : Env) : Option Operand -> Option (Option Int)
 | none => some none
 | some x => match evO L x with
  | some (.int _ i) => some (some i)
  | _ => none
def cutC {R : Type} (st : Kn E) (c : Nat) (sb : Option Addr) (sc : Nat) (l : List (E.el c).α) (lo hi : Option Int) (K : VwV E -> VC R) : VC R :=
 .bind (mCut l (loI lo) (hiI l.length hi)) fun r => .frA fun sb' => .frN fun sc' => K ⟨c, sb, sc, l, lo, hi, sb', sc', r⟩
def cutS {R : Type} (st : Kn E) (rdr : Bool) (q : Nat) (lo hi : Option Operand) (v : Nat) (K : Kn E -> VC R) : VC R :=
 match opI st.L lo, opI st.L hi with
 | some lo, some hi => match rdr with
  | true => match getK q st.rd with
   | some r => cutC st r.c r.sb r.sc r.l lo hi fun u => K ⟨st.L, st.As, (v, ⟨u.c, u.sb', u.sc', u.r⟩) :: st.rd, st.ef, st.pr, (v, .cut u) :: st.vw⟩
   | none => .fail
  | false => match getK q st.As with
   | some (.sl c T sb sc l) => cutC st c sb sc l lo hi fun u => K ⟨st.L, st.As, st.rd, st.ef, st.pr, (v, .cut u) :: st.vw⟩
   | _ => .fail
 | _, _ => .fail
def ownS {R : Type} (st : Kn E) (v q : Nat) (K : Kn E -> VC R) : VC R :=
 match getK v st.vw, ng q st.As with
 | some (.cut u), some (.sl c T sb sc l, rest) => .req (Atom.sl (E := E) c T sb sc l) (.sl u.c T u.sb u.sc u.l) (K ⟨st.L, (q, .sl u.c T u.sb' u.sc' u.r) :: rest, st.rd, st.ef, st.pr, st.vw⟩)
 | _, _ => .fail
def ai {R : Type} (st : Kn E) (q m : Nat) (K : Kn E -> VC R) : VC R :=
 match getK q st.As with
 | some (.sl c T sb sc l) => .bind (oU l.length m) fun _ => K ⟨st.L, st.As, st.rd, st.ef, (79, l.length = m) :: st.pr, st.vw⟩
 | _ => .fail
def rlpS {R : Type} (st : Kn E) (t q : Nat) (K : Kn E -> VC R) : VC R :=
 match getK q st.As, getK 78 st.pr, look t st.L with
 | some (.sl c T sb sc l), some p, some (.slice sb' n sc') => .req p (l.length = n) (K ⟨(t, .slice sb' l.length sc') :: st.L, st.As, st.rd, st.ef, st.pr, st.vw⟩)
 | _, _, _ => .fail
def rlqS {R : Type} (st : Kn E) (b off q : Nat) (K : Kn E -> VC R) : VC R :=
 match getK q st.As, getK 78 st.pr, ng b st.As with
 | some (.sl c T sb sc l), some p, some (.blk r T' cs, rest) => match cs[off]? with
  | some (.slice sb' n sc') => .req p (l.length = n) (K ⟨st.L, (b, .blk r T' (cs.set off (.slice sb' l.length sc'))) :: rest, st.rd, st.ef, st.pr, st.vw⟩)
  | _ => .fail
 | _, _, _ => .fail
def pixS {R : Type} (st : Kn E) (q off n c : Nat) (x : Operand) (e : Nat) (K : Kn E -> VC R) : VC R :=
 match getK q st.As, evO st.L x with
 | some (.blk b T cs), some (.int _ i) => match eJ (E.el c) n (cs.drop off) with
  | some xs => .bind (mIdx xs i) fun y => K ⟨st.L, st.As, st.rd, (e, ⟨false, c, some ⟨b, off, none⟩, xs, i, y, b, off⟩) :: st.ef, (e, 0 <= i /\ i < ((xs.length : Nat) : Int)) :: st.pr, st.vw⟩
  | none => .fail
 | _, _ => .fail
theorem fw {R : Type} {t : Nat} {w0 w : World} {F : List HP} {st : Kn E} {a : Act} {Φ : R -> Prop} {q off n c : Nat} {x : Operand} {e : Nat} {K : Kn E -> VC R} (j : KnOk t w0 F st a w) (h : (pixS st q off n c x e K).ok Φ) : ∃ l, KnOk t w0 F l a w /\ (K l).ok Φ := by
 unfold pixS at h;split at h
 ·rename_i b T cs k i h1 h2;split at h
  ·rename_i xs z;obtain ⟨y, u, h3⟩ := h;refine ⟨⟨st.L, st.As, st.rd, (e, ⟨false, c, some ⟨b, off, none⟩, xs, i, y, b, off⟩) :: st.ef, (e, 0 <= i /\ i < ((xs.length : Nat) : Int)) :: st.pr, st.vw⟩, ⟨j.env, j.hp, j.fs.1, ?_, ?_, j.fs.4⟩, h3⟩
   ·intro p hp;cases hp with
    | head => exact ⟨rfl, u, fun h => by cases h⟩
    | tail _ hm => exact j.fs.2 p hm
   ·intro p hp;cases hp with
    | head => exact ia u
    | tail _ hm => exact j.fs.3 p hm
  ·exact (VC.zA h).elim
 ·exact (VC.zA h).elim
def elS {R : Type} (st : Kn E) (t e : Nat) (K : Kn E -> VC R) : VC R :=
 match getK e st.ef, look t st.L with
 | some f, some V => .req V (.pointer (some ⟨f.b, f.o + f.i.toNat * (E.el f.c).sz, none⟩)) (K ⟨(t, elemV f.sb (E.el f.c).sz (some f.i)) :: st.L, st.As, st.rd, (99999, f) :: st.ef, st.pr, st.vw⟩)
 | _, _ => .fail
def ghost {R : Type} (st : Kn E) (s : Stp E P) (K : Kn E -> VC R) : VC R :=
 match s with
 | .idx rdr q x e => idxS st rdr q x e K
 | .gd k x j => match evO st.L x with
  | some (.int _ v) => match k with
   | 0 => .bind (mNz v) fun _ => K ⟨st.L, st.As, st.rd, st.ef, (j, v ≠ 0) :: st.pr, st.vw⟩
   | 1 => .bind (mNn v) fun _ => K ⟨st.L, st.As, st.rd, st.ef, (j, 0 <= v) :: st.pr, st.vw⟩
   | m + 2 => .bind (mIn v m) fun _ => K ⟨st.L, st.As, st.rd, st.ef, (j, 0 <= v /\ v < ((m : Nat) : Int)) :: st.pr, st.vw⟩
  | _ => .fail
 | .idk rdr q x e => idkS st rdr q x e K
 | .nil q c T => K ⟨st.L, (q, .sl c T none 0 []) :: st.As, st.rd, st.ef, st.pr, st.vw⟩
 | .rlc e q off => rlcC st e q off K
 | .rls e t => rlsC st e t K
 | .cut rdr q lo hi v => cutS st rdr q lo hi v K
 | .own v q => ownS st v q K
 | .el t e => elS st t e K
 | .same q m => ai st q m K
 | .rlp t q => rlpS st t q K
 | .rlq b off q => rlqS st b off q K
 | .pix q off n c x e => pixS st q off n c x e K
 | _ => .fail
def cU (n : Nat) : Option Tmp -> Bool
 | none => true
 | some d => Nat.blt d n
def putE (d : Option Tmp) (v : Value) (L : Env) : Env := match d with
 | none => L
 | some d => (d, v) :: L
def ab {R : Type} (n : Nat) (ops : Array Oper) (i : Nat) (st : Kn E) (s : Stp E P) (K : Nat -> Kn E -> VC R) : VC R :=
 match s with
 | .seg c l => match Nat.ble (i + c) ops.size, srcs st l with
  | true, some (z, obs, eqs) => match pw P n ops (List.range' i c) st.L z with
   | some (L', y) => .req y obs (.req (eqs.map (·.1)) (eqs.map (·.2)) (K (i + c) ⟨L', st.As, st.rd, st.ef, st.pr, st.vw⟩))
   | none => .fail
  | _, _ => .fail
 | .idx rdr q x e => ghost (P := P) st (.idx rdr q x e) fun u => K i u
 | .gd k x j => ghost (P := P) st (.gd k x j) fun u => K i u
 | .idk rdr q x e => ghost (P := P) st (.idk rdr q x e) fun u => K i u
 | .nil q c T => ghost (P := P) st (.nil q c T) fun u => K i u
 | .rlc e q off => ghost (P := P) st (.rlc e q off) fun u => K i u
 | .rls e t => ghost (P := P) st (.rls e t) fun u => K i u
 | .cut rdr q lo hi v => ghost (P := P) st (.cut rdr q lo hi v) fun u => K i u
 | .own v q => ghost (P := P) st (.own v q) fun u => K i u
 | .el t e => ghost (P := P) st (.el t e) fun u => K i u
 | .same q m => ghost (P := P) st (.same q m) fun u => K i u
 | .rlp t q => ghost (P := P) st (.rlp t q) fun u => K i u
 | .rlq b off q => ghost (P := P) st (.rlq b off q) fun u => K i u
 | .pix q off m c x e => ghost (P := P) st (.pix q off m c x e) fun u => K i u
 | s => match ops[i]? with
  | none => .fail
  | some o => match uo ops st.L o with
   | some true => match cU n o.dst with
    | true => actO o st s fun v u => K (i + 1) ⟨putE o.dst v st.L, u.As, u.rd, u.ef, u.pr, u.vw⟩
    | false => .fail
   | _ => .fail
theorem lP {R : Type} {n : Nat} {w0 w : World} {F : List HP} {st : Kn E} {a : Act} {Φ : R -> Prop} {c : Nat} {sb : Option Addr} {l : List (E.el c).α} {rdr : Bool} {x : Operand} {e : Nat} {K : Kn E -> VC R} {X : HP} (t : KnOk n w0 F st a w)
  (hX : SlRd X (E.el c).enc (E.el c).sz sb l) (hm : X ∈ dens st.As ++ F) (hr : rdr = true -> X ∈ F) (h : (idxC st c sb l rdr x e K).ok Φ) : ∃ u, KnOk n w0 F u a w /\ (K u).ok Φ := by
 unfold idxC at h;split at h
 ·rename_i k i A;obtain ⟨y, z, h1⟩ := h;obtain ⟨j, hj⟩ := t.hp.mem hm;obtain ⟨b, o, hs, _⟩ := hX.base (E.el c).ok t.hp j hj z;refine ⟨⟨st.L, st.As, st.rd, (e, ⟨rdr, c, sb, l, i, y, b, o⟩) :: st.ef, st.pr, st.vw⟩, ⟨t.env, t.hp, t.fs.1, ?_, t.fs.3, t.fs.4⟩, h1 b o⟩;intro p hp;cases hp with
  | head => exact ⟨hs, z, fun h => ⟨X, hr h, hX⟩⟩
  | tail _ hm => exact t.fs.2 p hm
 ·exact (VC.zA h).elim
theorem fW {R : Type} {n : Nat} {w0 w : World} {F : List HP} {st : Kn E} {a : Act} {Φ : R -> Prop} {rdr : Bool} {q : Nat} {x : Operand} {e : Nat} {K : Kn E -> VC R} (t : KnOk n w0 F st a w)
  (h : (idxS st rdr q x e K).ok Φ) : ∃ i, KnOk n w0 F i a w /\ (K i).ok Φ := by
 unfold idxS at h;split at h
 ·split at h
  ·rename_i r hr;obtain ⟨j, hj⟩ := wm hr;obtain ⟨X, hX, h1, _⟩ := t.fs.1 _ hj;exact lP t h1 (List.mem_append_right _ hX) (fun _ => hX) h
  ·exact (VC.zA h).elim
 ·split at h
  ·rename_i c T sb sc l hq;exact lP t (yN T (E.el c).enc (E.el c).sz sb sc l) (mL F (uN hq)) (fun h => by cases h) h
  ·exact (VC.zA h).elim
theorem m1 {R : Type} {n : Nat} {w0 w : World} {F : List HP} {st : Kn E} {a : Act} {Φ : R -> Prop} {c : Nat} {sb : Option Addr} {l : List (E.el c).α} {rdr : Bool} {x : Operand} {e : Nat} {K : Kn E -> VC R} {X : HP} (t : KnOk n w0 F st a w)
  (hX : SlRd X (E.el c).enc (E.el c).sz sb l) (hm : X ∈ dens st.As ++ F) (hr : rdr = true -> X ∈ F) (h : (idkC st c sb l rdr x e K).ok Φ) : ∃ u, KnOk n w0 F u a w /\ (K u).ok Φ := by
 unfold idkC at h;split at h
 ·rename_i k i A;split at h
  ·rename_i y z;obtain ⟨j, hj⟩ := t.hp.mem hm;obtain ⟨b, o, hs, _⟩ := hX.base (E.el c).ok t.hp j hj z;refine ⟨⟨st.L, st.As, st.rd, (e, ⟨rdr, c, sb, l, i, y, b, o⟩) :: st.ef, st.pr, st.vw⟩, ⟨t.env, t.hp, t.fs.1, ?_, t.fs.3, t.fs.4⟩, h b o⟩;intro p hp;cases hp with
   | head => exact ⟨hs, z, fun h => ⟨X, hr h, hX⟩⟩
   | tail _ hm => exact t.fs.2 p hm
  ·exact (VC.zA h).elim
 ·exact (VC.zA h).elim
theorem fM {R : Type} {n : Nat} {w0 w : World} {F : List HP} {st : Kn E} {a : Act} {Φ : R -> Prop} {rdr : Bool} {q : Nat} {x : Operand} {e : Nat} {K : Kn E -> VC R} (t : KnOk n w0 F st a w)
  (h : (idkS st rdr q x e K).ok Φ) : ∃ i, KnOk n w0 F i a w /\ (K i).ok Φ := by
 unfold idkS at h;split at h
 ·split at h
  ·rename_i r hr;obtain ⟨j, hj⟩ := wm hr;obtain ⟨X, hX, h1, _⟩ := t.fs.1 _ hj;exact m1 t h1 (List.mem_append_right _ hX) (fun _ => hX) h
  ·exact (VC.zA h).elim
 ·split at h
  ·rename_i c T sb sc l hq;exact m1 t (yN T (E.el c).enc (E.el c).sz sb sc l) (mL F (uN hq)) (fun h => by cases h) h
  ·exact (VC.zA h).elim
theorem fI {R : Type} {n : Nat} {w0 w : World} {F : List HP} {st : Kn E} {a : Act} {Φ : R -> Prop} {e q off : Nat} {K : Kn E -> VC R} (i : KnOk n w0 F st a w) (h : (rlcC st e q off K).ok Φ) : ∃ l, KnOk n w0 F l a w /\ (K l).ok Φ := by
 obtain ⟨m, h⟩ := jC h;split at h
 ·rename_i b T cs rest hq;split at h
  ·rename_i sb t sc u;obtain ⟨rfl, h2⟩ := h;have x : cs.set off (.slice sb t sc) = cs := by
    apply List.ext_getElem?;intro j;rw [List.getElem?_set];split
    ·subst_vars
     split
     ·exact u.symm
     ·rename_i h3;simp only [List.getElem?_eq_none (Nat.le_of_not_lt h3)]
    ·rfl
   rw [x] at h2;refine ⟨⟨st.L, (q, .blk b T cs) :: rest, st.rd, st.ef, st.pr, st.vw⟩, ⟨i.env, ?_, i.fs.1, i.fs.2, i.fs.3, i.fs.4⟩, h2⟩;exact i.hp.perm ((uy hq).append_right F)
  ·exact (VC.zA h).elim
 ·exact (VC.zA h).elim
theorem fE {R : Type} {n : Nat} {w0 w : World} {F : List HP} {st : Kn E} {a : Act} {Φ : R -> Prop} {e t : Nat} {K : Kn E -> VC R} (i : KnOk n w0 F st a w) (h : (rlsC st e t K).ok Φ) : ∃ j, KnOk n w0 F j a w /\ (K j).ok Φ := by
 obtain ⟨m, h⟩ := jC h;split at h
 ·rename_i sb l sc x;obtain ⟨rfl, h2⟩ := h;refine ⟨⟨(t, .slice sb l sc) :: st.L, st.As, st.rd, st.ef, st.pr, st.vw⟩, ⟨⟨i.env.size, i.env.defers, fun u v hv => ?_⟩, i.hp, i.fs.1, i.fs.2, i.fs.3, i.fs.4⟩, h2⟩;rw [w2] at hv;split at hv
  ·subst_vars; cases hv; exact i.env.has _ _ x
  ·exact i.env.has _ _ hv
 ·exact (VC.zA h).elim
theorem lS {R : Type} {st : Kn E} {c : Nat} {sb : Option Addr} {sc : Nat} {l : List (E.el c).α} {lo hi : Option Int} {K : VwV E -> VC R} {Φ : R -> Prop} (e : l.length <= sc) (h : (cutC st c sb sc l lo hi K).ok Φ) :
  ∃ u : VwV E, u.holds /\ (∀ X, SlRd X (E.el c).enc (E.el c).sz sb l -> SlRd X (E.el u.c).enc (E.el u.c).sz u.sb' u.r) /\ u.r.length <= u.sc' /\ (K u).ok Φ := by
 obtain ⟨r, hr, h⟩ := h;have h2 := h (yF sb sc (loI lo).toNat (E.el c).sz) (sc - (loI lo).toNat);exact ⟨_, ⟨hr, rfl, rfl, e⟩, fun X hX => hX.cut' (E.el c).ok hr e rfl, ba hr e rfl, h2⟩
theorem fK {R : Type} {n : Nat} {w0 w : World} {F : List HP} {st : Kn E} {a : Act} {Φ : R -> Prop} {rdr : Bool} {q : Nat} {lo hi : Option Operand} {v : Nat} {K : Kn E -> VC R} (e : KnOk n w0 F st a w) (h : (cutS st rdr q lo hi v K).ok Φ) : ∃ i, KnOk n w0 F i a w /\ (K i).ok Φ := by
 unfold cutS at h;split at h
 ·rename_i A B _ _;split at h
  ·split at h
   ·rename_i r hr;obtain ⟨j, hj⟩ := wm hr;obtain ⟨X, hX, h1, h2⟩ := e.fs.1 _ hj;obtain ⟨s1, s2, hs⟩ := List.append_of_mem (List.mem_append_right (dens st.As) hX);have t : r.l.length <= r.sc := by
     have y := e.hp;rw [hs] at y;exact St.fact (y.perm List.perm_middle) h2
    obtain ⟨u, h3, h4, z, x⟩ := lS t h;refine ⟨⟨st.L, st.As, (v, ⟨u.c, u.sb', u.sc', u.r⟩) :: st.rd, st.ef, st.pr, (v, .cut u) :: st.vw⟩, ⟨e.env, e.hp, ?_, e.fs.2, e.fs.3, ?_⟩, x⟩
    ·intro p hp;cases hp with
     | head => exact ⟨X, hX, h4 X h1, fun _ _ => z⟩
     | tail _ hm => exact e.fs.1 p hm
    ·intro p hp;cases hp with
     | head => exact h3
     | tail _ hm => exact e.fs.4 p hm
   ·exact (VC.zA h).elim
  ·split at h
   ·rename_i c T sb sc l hq;obtain ⟨j, hj⟩ := e.hp.mem (mL F (uN hq));have t : l.length <= sc := (e.hp.oQ j hj).1;obtain ⟨u, h3, h4, z, x⟩ := lS t h;refine ⟨⟨st.L, st.As, st.rd, st.ef, st.pr, (v, .cut u) :: st.vw⟩, ⟨e.env, e.hp, e.fs.1, e.fs.2, e.fs.3, ?_⟩, x⟩;intro p hp;cases hp with
    | head => exact h3
    | tail _ hm => exact e.fs.4 p hm
   ·exact (VC.zA h).elim
 ·exact (VC.zA h).elim
theorem fR {R : Type} {n : Nat} {w0 w : World} {F : List HP} {st : Kn E} {a : Act} {Φ : R -> Prop} {v q : Nat} {K : Kn E -> VC R} (i : KnOk n w0 F st a w) (h : (ownS st v q K).ok Φ) : ∃ t, KnOk n w0 F t a w /\ (K t).ok Φ := by
 unfold ownS at h;split at h
 ·rename_i u c T sb sc l rest h1 h2;obtain ⟨e, h3⟩ := h;obtain ⟨j, hj⟩ := wm h1;obtain ⟨g1, g2, g3, g4⟩ : u.holds := i.fs.4 _ hj;have H := i.hp.perm ((uy h2).append_right F);rw [e] at H;have H : St w0 (Sl T (E.el u.c).enc (E.el u.c).sz u.sb u.sc u.l :: (dens rest ++ F)) w := H;exact ⟨⟨st.L, (q, .sl u.c T u.sb' u.sc' u.r) :: rest, st.rd, st.ef, st.pr, st.vw⟩, ⟨i.env, H.eH (E.el u.c).ok g1 g2 g3, i.fs.1, i.fs.2, i.fs.3, i.fs.4⟩, h3⟩
 ·exact (VC.zA h).elim
theorem dS {R : Type} {n : Nat} {w0 w : World} {F : List HP} {st : Kn E} {a : Act} {Φ : R -> Prop} {t e : Nat} {K : Kn E -> VC R} (l : KnOk n w0 F st a w) (h : (elS st t e K).ok Φ) : ∃ x, KnOk n w0 F x a w /\ (K x).ok Φ := by
 unfold elS at h;split at h
 ·rename_i f V h1 h2;obtain ⟨rfl, h3⟩ := h;obtain ⟨j, hj⟩ := wm h1;have hf := l.fs.2 _ hj;refine ⟨⟨(t, elemV f.sb (E.el f.c).sz (some f.i)) :: st.L, st.As, st.rd, (99999, f) :: st.ef, st.pr, st.vw⟩, ⟨⟨l.env.size, l.env.defers, fun u v hv => ?_⟩, l.hp, l.fs.1, ?_, l.fs.3, l.fs.4⟩, h3⟩
  ·rw [w2] at hv;split at hv
   ·subst_vars
    cases hv;rw [kg hf.1];exact l.env.has _ _ h2
   ·exact l.env.has _ _ hv
  ·intro p hp;cases hp with
   | head => exact hf
   | tail _ hm => exact l.fs.2 p hm
 ·exact (VC.zA h).elim
theorem jY {R : Type} {n : Nat} {w0 w : World} {F : List HP} {st : Kn E} {a : Act} {Φ : R -> Prop} {q m : Nat} {K : Kn E -> VC R} (e : KnOk n w0 F st a w) (h : (ai st q m K).ok Φ) : ∃ i, KnOk n w0 F i a w /\ (K i).ok Φ := by
 unfold ai at h;split at h
 ·rename_i c T sb sc l hq;obtain ⟨u, hu, h2⟩ := h;refine ⟨⟨st.L, st.As, st.rd, st.ef, (79, l.length = m) :: st.pr, st.vw⟩, ⟨e.env, e.hp, e.fs.1, e.fs.2, fun p hp => ?_, e.fs.4⟩, h2⟩;cases hp with
  | head => exact cc hu
  | tail _ hm => exact e.fs.3 p hm
 ·exact (VC.zA h).elim
theorem fz {R : Type} {n : Nat} {w0 w : World} {F : List HP} {st : Kn E} {a : Act} {Φ : R -> Prop} {t q : Nat} {K : Kn E -> VC R} (i : KnOk n w0 F st a w) (h : (rlpS st t q K).ok Φ) : ∃ x, KnOk n w0 F x a w /\ (K x).ok Φ := by
 unfold rlpS at h;split at h
 ·rename_i c T sb sc l p sb' m sc' h1 h2 h3;obtain ⟨e, h4⟩ := h;obtain ⟨j, hj⟩ := wm h2;have hp : p := i.fs.3 _ hj;rw [e] at hp;refine ⟨⟨(t, .slice sb' l.length sc') :: st.L, st.As, st.rd, st.ef, st.pr, st.vw⟩, ⟨⟨i.env.size, i.env.defers, fun u v hv => ?_⟩, i.hp, i.fs.1, i.fs.2, i.fs.3, i.fs.4⟩, h4⟩;rw [w2] at hv;split at hv
  ·subst_vars; cases hv; exact i.env.has _ _ h3
  ·exact i.env.has _ _ hv
 ·exact (VC.zA h).elim
theorem fO {R : Type} {n : Nat} {w0 w : World} {F : List HP} {st : Kn E} {a : Act} {Φ : R -> Prop} {b off q : Nat} {K : Kn E -> VC R} (t : KnOk n w0 F st a w) (h : (rlqS st b off q K).ok Φ) : ∃ u, KnOk n w0 F u a w /\ (K u).ok Φ := by
 unfold rlqS at h;split at h
 ·rename_i c T sb sc l p r T' cs rest h1 h2 h3;split at h
  ·rename_i sb' m sc' x;obtain ⟨e, h4⟩ := h;obtain ⟨j, hj⟩ := wm h2;have hp : p := t.fs.3 _ hj;rw [e] at hp;have y : cs.set off (.slice sb' l.length sc') = cs := by
    apply List.ext_getElem?;intro i;rw [List.getElem?_set];split
    ·subst_vars
     split
     ·exact x.symm
     ·rename_i z; rw [List.getElem?_eq_none (Nat.le_of_not_lt z)]
    ·rfl
   rw [y] at h4;exact ⟨⟨st.L, (b, .blk r T' cs) :: rest, st.rd, st.ef, st.pr, st.vw⟩, ⟨t.env, t.hp.perm ((uy h3).append_right F), t.fs.1, t.fs.2, t.fs.3, t.fs.4⟩, h4⟩
  ·exact (VC.zA h).elim
 ·exact (VC.zA h).elim
theorem xr {R : Type} {n : Nat} {w0 w : World} {F : List HP} {st : Kn E} {a : Act} {Φ : R -> Prop} {s : Stp E P} {K : Kn E -> VC R} (i : KnOk n w0 F st a w)
  (h : (ghost st s K).ok Φ) : ∃ l, KnOk n w0 F l a w /\ (K l).ok Φ := by
 cases s
 case idx rdr q x e => exact fW i h
 case idk rdr q x e => exact fM i h
 case rlc e q off => exact fI i h
 case rls e t => exact fE i h
 case cut rdr q lo hi v => exact fK i h
 case own v q => exact fR i h
 case el t e => exact dS i h
 case same q m => exact jY i h
 case rlp t q => exact fz i h
 case rlq b off q => exact fO i h
 case pix q off m c x e => exact fw i h
 case nil q c T => exact ⟨⟨st.L, (q, .sl c T none 0 []) :: st.As, st.rd, st.ef, st.pr, st.vw⟩, ⟨i.env, St.fl T (E.el c).enc (E.el c).sz i.hp, i.fs.1, i.fs.2, i.fs.3, i.fs.4⟩, h⟩
 case gd k x j =>
  simp only [ghost] at h;split at h
  ·rename_i y v hv;split at h
   ·obtain ⟨u, hu, h2⟩ := h;refine ⟨⟨st.L, st.As, st.rd, st.ef, (j, v ≠ 0) :: st.pr, st.vw⟩, ⟨i.env, i.hp, i.fs.1, i.fs.2, fun p hp => ?_, i.fs.4⟩, h2⟩;cases hp with
    | head => exact aE hu
    | tail _ hm => exact i.fs.3 p hm
   ·obtain ⟨u, hu, h2⟩ := h;refine ⟨⟨st.L, st.As, st.rd, st.ef, (j, 0 <= v) :: st.pr, st.vw⟩, ⟨i.env, i.hp, i.fs.1, i.fs.2, fun p hp => ?_, i.fs.4⟩, h2⟩;cases hp with
    | head => exact Aa hu
    | tail _ hm => exact i.fs.3 p hm
   ·rename_i m;obtain ⟨u, hu, h2⟩ := h;refine ⟨⟨st.L, st.As, st.rd, st.ef, (j, 0 <= v /\ v < ((m : Nat) : Int)) :: st.pr, st.vw⟩, ⟨i.env, i.hp, i.fs.1, i.fs.2, fun p hp => ?_, i.fs.4⟩, h2⟩;cases hp with
    | head => exact kR hu
    | tail _ hm => exact i.fs.3 p hm
  ·exact (VC.zA h).elim
 all_goals exact (VC.zA h).elim
theorem jV {R : Type} {f : FuncId} {n : Nat} {w0 w : World} {F : List HP} {st : Kn E} {a : Act} {Φ : R -> Prop} {ops : Array Oper} {i : Nat} {s : Stp E P} {K : Nat -> Kn E -> VC R} {k : List Item} {Q : Value -> World -> Prop}
  (y : KnOk n w0 F st a w) (h : (ab n ops i st s K).ok Φ) (hk : ∀ J u a' w', KnOk n w0 F u a' w' -> (K J u).ok Φ -> WR P f ops J k a' w' Q) : WR P f ops i k a w Q := by
 have act : ∀ s : Stp E P, ((match ops[i]? with
  | none => .fail
  | some o => match uo ops st.L o with
   | some true => match cU n o.dst with
    | true => actO o st s fun v u => K (i + 1) ⟨putE o.dst v st.L, u.As, u.rd, u.ef, u.pr, u.vw⟩
    | false => .fail
   | _ => .fail : VC R)).ok Φ -> WR P f ops i k a w Q := by
  intro s h;split at h
  ·exact (VC.zA h).elim
  ·rename_i o O;split at h
   ·rename_i hw;split at h
    ·rename_i hn;have S := lp y h;cases hd : o.dst with
     | none =>
      refine WR.eff0 y.env O hd hw S ?_;rintro v w' ⟨u, W, A, h2⟩ a' B;rw [hd] at h2;exact hk _ _ _ _ (A.kn B) h2
     | some d =>
      rw [hd] at hn;refine WR.eff y.env O hd hn hw S ?_;rintro v w' ⟨u, W, A, h2⟩ a' B;rw [hd] at h2;exact hk _ _ _ _ (A.kn B) h2
    ·exact (VC.zA h).elim
   ·exact (VC.zA h).elim
 cases s with
 | seg c l =>
  simp only [ab] at h;split at h
  ·rename_i X obs eqs h1 h2;split at h
   ·rename_i L' U h3;obtain ⟨rfl, h4, Y⟩ := h;have hj := Nat.le_of_ble_eq_true h1;unfold WR;have hr : List.range' i (ops.size - i) = List.range' i c ++ List.range' (i + c) (ops.size - (i + c)) := by
     have Z : ops.size - i = c + (ops.size - (i + c)) := by omega
     rw [Z, <- List.range'_append_1]
    rw [hr];refine nW _ _ _ _ _ _ y.env h3 (tL y h2 (lJ h4)) fun a' I => ?_
    exact hk _ ⟨L', st.As, st.rd, st.ef, st.pr, st.vw⟩ _ _ ⟨I, y.hp, y.fs.1, y.fs.2, y.fs.3, y.fs.4⟩ Y
   ·exact (VC.zA h).elim
  ·exact (VC.zA h).elim
 | idx rdr q x e =>
  obtain ⟨u, h1, h2⟩ := xr (P := P) (s := .idx rdr q x e) (K := fun u => K i u) y h;exact hk _ _ _ _ h1 h2
 | idk rdr q x e =>
  obtain ⟨u, h1, h2⟩ := xr (P := P) (s := .idk rdr q x e) (K := fun u => K i u) y h;exact hk _ _ _ _ h1 h2
 | nil q c T =>
  obtain ⟨u, h1, h2⟩ := xr (P := P) (s := .nil q c T) (K := fun u => K i u) y h;exact hk _ _ _ _ h1 h2
 | rlc e q off =>
  obtain ⟨u, h1, h2⟩ := xr (P := P) (s := .rlc e q off) (K := fun u => K i u) y h;exact hk _ _ _ _ h1 h2
 | rls e t =>
  obtain ⟨u, h1, h2⟩ := xr (P := P) (s := .rls e t) (K := fun u => K i u) y h;exact hk _ _ _ _ h1 h2
 | cut rdr q lo hi v =>
  obtain ⟨u, h1, h2⟩ := xr (P := P) (s := .cut rdr q lo hi v) (K := fun u => K i u) y h;exact hk _ _ _ _ h1 h2
 | own v q =>
  obtain ⟨u, h1, h2⟩ := xr (P := P) (s := .own v q) (K := fun u => K i u) y h;exact hk _ _ _ _ h1 h2
 | el t e =>
  obtain ⟨u, h1, h2⟩ := xr (P := P) (s := .el t e) (K := fun u => K i u) y h;exact hk _ _ _ _ h1 h2
 | same q m =>
  obtain ⟨u, h1, h2⟩ := xr (P := P) (s := .same q m) (K := fun u => K i u) y h;exact hk _ _ _ _ h1 h2
 | rlp t q =>
  obtain ⟨u, h1, h2⟩ := xr (P := P) (s := .rlp t q) (K := fun u => K i u) y h;exact hk _ _ _ _ h1 h2
 | rlq b off q =>
  obtain ⟨u, h1, h2⟩ := xr (P := P) (s := .rlq b off q) (K := fun u => K i u) y h;exact hk _ _ _ _ h1 h2
 | pix q off m c x e =>
  obtain ⟨u, h1, h2⟩ := xr (P := P) (s := .pix q off m c x e) (K := fun u => K i u) y h;exact hk _ _ _ _ h1 h2
 | gd c x j =>
  obtain ⟨u, h1, h2⟩ := xr (P := P) (s := .gd c x j) (K := fun u => K i u) y h;exact hk _ _ _ _ h1 h2
 | new q l => exact act _ h
 | sto q => exact act _ h
 | call C l out => exact act _ h
 | bld q c T => exact act _ h
 | app q s => exact act _ h
 | sset q e j => exact act _ h
 | mk q c T => exact act _ h
 | eqs D => exact act _ h
 | mnew q c => exact act _ h
 | mget q c kt hk z => exact act _ h
 | mput q c kt hk => exact act _ h
 | mdel q c kt hk => exact act _ h
inductive Md
 | run (t : List Item)
 | reg (ops : Array Oper) (i : Nat) (k : List Item)
 | drw (ops : Array Oper) (dn : List Nat) (pend : List (Nat × List Ob)) (k : List Item)
def Md.Runs (P : Program) (f : FuncId) (base : List Item) (a : Act) (w : World) (Q : Value -> World -> Prop) : Md -> Prop
 | .run t => Th.Runs P f (t ++ base) a w Q
 | .reg ops i k => WR P f ops i (k ++ base) a w Q
 | .drw ops dn pend k => WQ P f ops dn pend (k ++ base) a w Q
def norm : Nat -> List Item -> Option Md
 | 0, _ => none
 | g + 1, t => match t with
  | .code (.seq x y) :: k => norm g (.code x :: .code y :: k)
  | .code .skip :: k => norm g k
  | .code (.label _) :: k => norm g k
  | .code (.exit id) :: k => match exitTo id k with
   | some e => norm g e
   | none => none
  | .code (.region _ ops false) :: k => match Nat.beq ops.size 0 with
   | true => norm g k
   | false => some (.reg ops 0 k)
  | .inBlock _ :: k => norm g k
  | t => some (.run t)
theorem oY {base : List Item} : ∀ {id : Nat} {k e : List Item}, exitTo id k = some e -> exitTo id (k ++ base) = some (e ++ base)
 | id, [], e, h => by simp [exitTo] at h
 | id, x :: k, e, h => by
  cases x
  case inBlock j =>
   simp only [exitTo, List.cons_append] at h ⊢;split at h
   ·rename_i hj; cases h; rw [if_pos hj]
   ·rename_i hj; rw [if_neg hj]; exact oY h
  all_goals
   simp only [exitTo, List.cons_append] at h ⊢;exact oY h
theorem yQ {f : FuncId} {a : Act} {w : World} {Q : Value -> World -> Prop} {base : List Item} : ∀ (g : Nat) {t : List Item} {md : Md}, norm g t = some md -> md.Runs P f base a w Q -> Th.Runs P f (t ++ base) a w Q
 | 0, t, md, h, _ => by simp [norm] at h
 | g + 1, t, md, h, hr => by
  unfold norm at h;split at h
  ·exact .seq (yQ g h hr)
  ·exact .skip (yQ g h hr)
  ·exact .label (yQ g h hr)
  ·split at h
   ·rename_i i hk;exact .exit (oY hk) (yQ g h hr)
   ·cases h
  ·split at h
   ·rename_i h0;have e := Nat.eq_of_beq_eq_true h0;exact .region (WR.done (by rw [e]; rfl) (yQ g h hr))
   ·cases h; exact .region hr
  ·exact .inBlock (yQ g h hr)
  ·cases h; exact hr
def aY {R : Type} (n : Nat) (ops : Array Oper) (dn : List Nat) (pend : List (Nat × List Ob)) (st : Kn E) (is : List Nat) (l : List Src) (K : List Nat -> List (Nat × List Ob) -> Kn E -> VC R) : VC R :=
 match (Nat.ble (dn.length + is.length) ops.size && kv ops is (vR dn)), srcs st l with
 | true, some (e, obs, eqs) => match pw P n ops is st.L e with
  | some (L', i) => .req i obs (.req (eqs.map (·.1)) (eqs.map (·.2)) (K (dn ++ is) (segP P n ops is st.L e pend) ⟨L', st.As, st.rd, st.ef, st.pr, st.vw⟩))
  | none => .fail
 | _, _ => .fail
def ji {R : Type} (n : Nat) (ops : Array Oper) (dn : List Nat) (pend : List (Nat × List Ob)) (st : Kn E) (j : Nat) (x : Stp E P) (l : List Src) (K : List Nat -> List (Nat × List Ob) -> Kn E -> VC R) : VC R :=
 match ops[j]? with
 | some o => match uo ops st.L o, cU n o.dst with
  | some true, true => actO o st x fun v e => match srcs ⟨putE o.dst v st.L, e.As, e.rd, e.ef, e.pr, e.vw⟩ l with
   | some (_, obs, eqs) => .req (sa ops j pend) obs (.req (eqs.map (·.1)) (eqs.map (·.2)) (K (dn ++ [j]) (py ops j pend) ⟨putE o.dst v st.L, e.As, e.rd, e.ef, e.pr, e.vw⟩))
   | none => .fail
  | _, _ => .fail
 | none => .fail
def bY {R : Type} (n : Nat) (ops : Array Oper) (dn : List Nat) (pend : List (Nat × List Ob)) (st : Kn E) (j : Nat) (x : Stp E P) (l : List Src) (K : List Nat -> List (Nat × List Ob) -> Kn E -> VC R) : VC R :=
 match (Nat.blt dn.length ops.size && eqL (vC (vR dn) 0 ops.toList) [j]) with
 | true => ji n ops dn pend st j x l K
 | false => .fail
theorem hP {R : Type} {f : FuncId} {n : Nat} {w0 w : World} {F : List HP} {st : Kn E} {a : Act} {Φ : R -> Prop} {ops : Array Oper} {dn : List Nat} {pend : List (Nat × List Ob)} {is : List Nat} {l : List Src} {K : List Nat -> List (Nat × List Ob) -> Kn E -> VC R} {k : List Item} {Q : Value -> World -> Prop}
  (j : KnOk n w0 F st a w) (h : (aY (P := P) n ops dn pend st is l K).ok Φ) (hk : ∀ t i u a', KnOk n w0 F u a' w -> (K t i u).ok Φ -> WQ P f ops t i k a' w Q) : WQ P f ops dn pend k a w Q := by
 unfold aY at h;split at h
 ·rename_i A obs eqs h1 h2;split at h
  ·rename_i L' z h3;obtain ⟨rfl, h4, B⟩ := h;rw [Bool.and_eq_true] at h1;have hle := Nat.le_of_ble_eq_true h1.1;have e : ops.size - dn.length = is.length + (ops.size - (dn ++ is).length) := by simp; omega
   intro hs';show WP P f ops (ops.size - dn.length) dn pend k a w Q;rw [e];exact WP.segs hs' _ _ _ _ _ _ _ _ _ _ j.env (fun x => vB x dn) h1.2 h3 (tL j h2 (lJ h4)) fun a' y => hk _ _ ⟨L', st.As, st.rd, st.ef, st.pr, st.vw⟩ _ ⟨y, j.hp, j.fs.1, j.fs.2, j.fs.3, j.fs.4⟩ B hs'
  ·exact (VC.zA h).elim
 ·exact (VC.zA h).elim
theorem u6 {R : Type} {f : FuncId} {n : Nat} {w0 w : World} {F : List HP} {st : Kn E} {a : Act} {Φ : R -> Prop} {ops : Array Oper} {dn : List Nat} {pend : List (Nat × List Ob)} {j : Nat} {x : Stp E P} {l : List Src} {K : List Nat -> List (Nat × List Ob) -> Kn E -> VC R} {k : List Item} {Q : Value -> World -> Prop}
  (u : KnOk n w0 F st a w) (h : (ji n ops dn pend st j x l K).ok Φ) (hk : ∀ y i e a' w', KnOk n w0 F e a' w' -> (K y i e).ok Φ -> WQ P f ops y i k a' w' Q) : AQ P f ops dn pend k a w Q j := by
 unfold ji at h;split at h
 ·rename_i o B;split at h
  ·rename_i hw hn;have D := lp u h;have fin : ∀ (v : Value) (w' : World) (e : Kn E) (a' : Act), HpOk w0 F e w' -> zO n a' (putE o.dst v st.L) -> ((match srcs ⟨putE o.dst v st.L, e.As, e.rd, e.ef, e.pr, e.vw⟩ l with
     | some (_, obs, eqs) => .req (sa ops j pend) obs (.req (eqs.map (·.1)) (eqs.map (·.2)) (K (dn ++ [j]) (py ops j pend) ⟨putE o.dst v st.L, e.As, e.rd, e.ef, e.pr, e.vw⟩))
     | none => .fail : VC R)).ok Φ -> xO w' (sa ops j pend) /\ WQ P f ops (dn ++ [j]) (py ops j pend) k a' w' Q := by
    intro v w' e a' t z h2;split at h2
    ·rename_i I obs eqs h3;obtain ⟨h4, J, O⟩ := h2;have A := t.kn z;rw [h4];exact ⟨tL A h3 (lJ J), hk _ _ _ _ _ A O⟩
    ·exact (VC.zA h2).elim
   cases hd : o.dst with
   | none =>
    refine AQ.eff0 u.env B hd hw rfl D ?_;rintro v w' ⟨e, S, t, h2⟩;rw [hd] at fin;rw [hd] at h2;exact ⟨(fin v w' e a t u.env h2).1, fun a' z => (fin v w' e a' t z h2).2⟩
   | some d =>
    rw [hd] at hn;refine AQ.eff u.env B hd hn hw rfl D ?_;rintro v w' ⟨e, S, t, h2⟩;rw [hd] at fin;rw [hd] at h2;exact ⟨(fin v w' e (a.put (some d) v) t (u.env.put _ _ (by simpa [cU, Nat.blt_eq] using hn)) h2).1, fun a' z => (fin v w' e a' t z h2).2⟩
  ·exact (VC.zA h).elim
 ·exact (VC.zA h).elim
theorem iI {R : Type} {f : FuncId} {n : Nat} {w0 w : World} {F : List HP} {st : Kn E} {a : Act} {Φ : R -> Prop} {ops : Array Oper} {dn : List Nat} {pend : List (Nat × List Ob)} {j : Nat} {x : Stp E P} {l : List Src} {K : List Nat -> List (Nat × List Ob) -> Kn E -> VC R} {k : List Item} {Q : Value -> World -> Prop}
  (y : KnOk n w0 F st a w) (h : (bY n ops dn pend st j x l K).ok Φ) (hk : ∀ i e t a' w', KnOk n w0 F t a' w' -> (K i e t).ok Φ -> WQ P f ops i e k a' w' Q) : WQ P f ops dn pend k a w Q := by
 unfold bY at h;split at h
 ·rename_i h1;refine WQ.acts [j] h1 (by simp) fun x u => ?_
  simp only [List.mem_singleton] at u;subst u;exact u6 y h hk
 ·exact (VC.zA h).elim
end
end
end Go.Th
