/-
  The statements DispatchMerges, DispatchEnds of the program.
  Text 4 of 8: of what the proof needs (a row of the program: no condition is left); put together and made narrow by a program.
-/
import Derived.Test.YteflmnbkdhneiaaGreatYu3
set_option linter.unusedVariables false
set_option linter.unusedSimpArgs false
namespace Go.Proofs.YteflmnbkdhneiaaGreat
open Go.Th
noncomputable section
set_option maxRecDepth 10000
section
variable {K V : Type} {eq : K -> K -> Bool}
theorem kR (hq : ∀ a b, eq a b = true ↔ a = b) {k : K} : ∀ {m : List (K × V)}, k ∉ m.map Prod.fst -> mGet eq k m = none
 | [], _ => rfl
 | p :: m, h => by
  simp only [pC, iC, not_or] at h;rw [mGet, show eq k p.1 = false by simpa using fun e => h.1 ((hq _ _).1 e), cF];exact kR hq h.2
theorem rA (hq : ∀ a b, eq a b = true ↔ a = b) {k : K} {v : V} {s : K} {u : V} : ∀ {m : List (K × V)}, mGet eq s (mPut eq k v m) = some u ↔ (s = k /\ u = v) \/ (s ≠ k /\ mGet eq s m = some u)
 | [] => by
  simp only [mPut, mGet];cases i : eq s k with
  | true => have := (hq _ _).1 i; simp [this, eq_comm]
  | false =>
   have : s ≠ k := fun e => by rw [(hq _ _).2 e] at i; cases i
   simp [this]
 | p :: m => by
  rw [mPut];cases hk : eq k p.1 with
  | true =>
   have l := (hq _ _).1 hk;rw [cT, mGet, mGet];cases i : eq s k with
   | true => have := (hq _ _).1 i; simp [this, eq_comm]
   | false =>
    have j : s ≠ k := fun e => by rw [(hq _ _).2 e] at i; cases i
    have : eq s p.1 = false := by rw [<- l]; exact i
    simp [j, this]
  | false =>
   rw [cF, mGet, mGet];cases i : eq s p.1 with
   | true =>
    have l := (hq _ _).1 i;have j : s ≠ k := fun e => by rw [<- l, (hq _ _).2 e.symm] at hk; cases hk
    simp [j]
   | false =>
    rw [cF, cF];exact rA hq
theorem sf (hq : ∀ a b, eq a b = true ↔ a = b) {k : K} {v : V} : ∀ {m : List (K × V)}, (m.map Prod.fst).Nodup -> ((mPut eq k v m).map Prod.fst).Nodup
 | [], _ => by simp [mPut]
 | p :: m, h => by
  simp only [pC, List.nodup_cons] at h;rw [mPut];cases hk : eq k p.1 with
  | true =>
   have j := (hq _ _).1 hk;rw [cT];simp only [pC, List.nodup_cons];rw [j]; exact h
  | false =>
   rw [cF];simp only [pC, List.nodup_cons];refine ⟨fun hm => ?_, sf hq h.2⟩;have key : ∀ {m : List (K × V)} {s : K}, s ∈ (mPut eq k v m).map Prod.fst -> s = k \/ s ∈ m.map Prod.fst := by
    intro m;induction m with
    | nil => intro s hs; simp [mPut] at hs; exact Or.inl hs
    | cons q m ih =>
     intro s hs;rw [mPut] at hs;cases i : eq k q.1 with
     | true =>
      rw [i, cT] at hs;simp only [pC, iC] at hs ⊢;rcases hs with h | h
      ·exact Or.inl h
      ·exact Or.inr (Or.inr h)
     | false =>
      rw [i, cF] at hs;simp only [pC, iC] at hs ⊢;rcases hs with h | h
      ·exact Or.inr (Or.inl h)
      ·rcases ih h with h | h
       ·exact Or.inl h
       ·exact Or.inr (Or.inr h)
   rcases key hm with e | e
   ·rw [(hq _ _).2 e.symm] at hk; cases hk
   ·exact h.1 e
theorem hO {k s : K} : ∀ {m : List (K × V)}, s ∈ (mDel eq k m).map Prod.fst -> s ∈ m.map Prod.fst
 | [], h => h
 | p :: m, h => by
  rw [mDel] at h;cases hk : eq k p.1 with
  | true => rw [hk, cT] at h; exact mC _ h
  | false =>
   rw [hk, cF] at h;simp only [pC, iC] at h ⊢;rcases h with h | h
   ·exact Or.inl h
   ·exact Or.inr (hO h)
theorem sY {k : K} : ∀ {m : List (K × V)}, (m.map Prod.fst).Nodup -> ((mDel eq k m).map Prod.fst).Nodup
 | [], h => h
 | p :: m, h => by
  simp only [pC, List.nodup_cons] at h;rw [mDel];cases hk : eq k p.1 with
  | true => exact h.2
  | false =>
   simp only [cF, pC, List.nodup_cons];exact ⟨fun hm => h.1 (hO hm), sY h.2⟩
theorem qy (hq : ∀ a b, eq a b = true ↔ a = b) {k s : K} {u : V} : ∀ {m : List (K × V)}, (m.map Prod.fst).Nodup -> (mGet eq s (mDel eq k m) = some u ↔ s ≠ k /\ mGet eq s m = some u)
 | [], _ => by simp [mDel, mGet]
 | p :: m, h => by
  simp only [pC, List.nodup_cons] at h;rw [mDel, mGet];cases hk : eq k p.1 with
  | true =>
   have i := (hq _ _).1 hk;rw [cT];by_cases hs : s = k
   ·subst hs;rw [kR hq (by rw [i]; exact h.1)];simp
   ·have : eq s p.1 = false := by rw [<- i]; simpa using fun e => hs ((hq _ _).1 e)
    simp [this, hs]
  | false =>
   rw [cF, mGet];cases l : eq s p.1 with
   | true =>
    have i := (hq _ _).1 l;have j : s ≠ k := fun e => by rw [<- i, (hq _ _).2 e.symm] at hk; cases hk
    simp [j]
   | false =>
    rw [cF, cF];exact qy hq h.2
end
theorem uj (a b : zf) : zf.eq a b = true ↔ a = b := by
 cases a; cases b; simp [zf.eq]
theorem aF (a b : Int) : kI a b = true ↔ a = b := by simp [kI]
def Kd (k : Int) : Prop := k = 1 \/ k = 2 \/ k = 3
def KD (k : Int) : KS := if k = 1 then Le.KL else if k = 2 then Bi.KH else Sk.KH
def bd (k : Int) (m : Nat) : Nat := if k = 1 then 43 * m + 50 else 900
section
variable {κ : Cfg} {n : Nat} {a : zb} {L : Heap} {k r : Int} {its : List It} {C : Heap} {f : Nat}
theorem Bp (hk : Kd k) : HK (KD k) (-1) [] [] := by
 rcases hk with rfl | rfl | rfl
 ·exact Le.eJ
 ·exact Bi.eJ
 ·exact Sk.eJ
theorem Be {x : It} (hk : Kd k) (h : HK (KD k) r its C) (H : Ar κ n a (C ++ ((x.i, x.cell (-1)) :: L))) (hr : 2 * its.length + 1 + L.length < κ.C) (hs : its.length < 1024) (hf : 95000 < f) :
  Do (q9 f k a r (x.i : Int)) fun res => ∃ r' C' e, res = (r', true, e) /\ HK (KD k) r' (x :: its) C' /\ Ar κ (n + bd k its.length) e (C' ++ L) := by
 unfold q9;rcases hk with rfl | rfl | rfl
 ·refine Do.t rfl ((Le.kJ (k := f) h H hr (by omega)).bind ?_);rintro _ ⟨r', C', e, rfl, h1, H1⟩;exact ⟨_, rfl, r', C', e, rfl, h1, H1.mono (by simp only [bd, if_true]; omega)⟩
 ·refine Do.f rfl (Do.t rfl ((Bi.kJ (k := f) h H hr hs hf).bind ?_));rintro _ ⟨r', C', e, rfl, h1, H1⟩;exact ⟨_, rfl, r', C', e, rfl, h1, H1.mono (by simp [bd])⟩
 ·refine Do.f rfl (Do.f rfl (Do.t rfl ((Sk.kJ (k := f) h H hr hs hf).bind ?_)));rintro _ ⟨r', C', e, rfl, h1, H1⟩;exact ⟨_, rfl, r', C', e, rfl, h1, H1.mono (by simp [bd])⟩
theorem Bz (hk : Kd k) (h : HK (KD k) r its C) (H : Ar κ n a (C ++ L)) (hs : its.length < 1024) (hf : 95000 < f) :
  Do (oW f k a r) fun res => ∃ e, Ar κ (n + 100) e (C ++ L) /\ ((its = [] /\ res = (-1, e)) \/ ∃ x ∈ its, res = ((x.i : Int), e) /\ ∀ y ∈ its, ¬ y.lt x) := by
 unfold oW;rcases hk with rfl | rfl | rfl
 ·refine Do.t rfl ((Le.eR h H).bind ?_);rintro ⟨v, b⟩ ⟨e, H1, h1⟩;exact ⟨_, rfl, e, H1.mono (by omega), h1⟩
 ·refine Do.f rfl (Do.t rfl ((Bi.eR (k := f) h H hs hf).bind ?_));rintro ⟨v, b⟩ ⟨e, H1, h1⟩;exact ⟨_, rfl, e, H1, h1⟩
 ·refine Do.f rfl (Do.f rfl (Do.t rfl ((Sk.eR (k := f) h H hs hf).bind ?_)));rintro ⟨v, b⟩ ⟨e, H1, h1⟩;exact ⟨_, rfl, e, H1, h1⟩
theorem BR (hk : Kd k) (h : HK (KD k) r its C) (H : Ar κ n a (C ++ L)) (j : its ≠ []) (hs : its.length < 1024) (hf : 95000 < f) :
  Do (oO f k a r) fun res => ∃ x q r' C' e, res = (r', (x.i : Int), e) /\ its.Perm (x :: q) /\ (∀ y ∈ its, ¬ y.lt x) /\ HK (KD k) r' q C' /\ Ar κ (n + bd k its.length) e (C' ++ ((x.i, x.cell (-1)) :: L)) := by
 unfold oO;rcases hk with rfl | rfl | rfl
 ·refine Do.t rfl ((Le.fD (k := f) h H j (by omega)).bind ?_);rintro _ ⟨x, q, r', C', e, rfl, h1, h2, h3, H1⟩;exact ⟨_, rfl, x, q, r', C', e, rfl, h1, h2, h3, H1.mono (by simp only [bd, if_true]; omega)⟩
 ·refine Do.f rfl (Do.t rfl ((Bi.fD (k := f) h H j hs hf).bind ?_));rintro _ ⟨x, q, r', C', e, rfl, h1, h2, h3, H1⟩;exact ⟨_, rfl, x, q, r', C', e, rfl, h1, h2, h3, H1.mono (by simp [bd])⟩
 ·refine Do.f rfl (Do.f rfl (Do.t rfl ((Sk.fD (k := f) h H j hs hf).bind ?_)));rintro _ ⟨x, q, r', C', e, rfl, h1, h2, h3, H1⟩;exact ⟨_, rfl, x, q, r', C', e, rfl, h1, h2, h3, H1.mono (by simp [bd])⟩
theorem BV {x : It} (hk : Kd k) (h : HK (KD k) r its C) (j : x ∈ its) (H : Ar κ n a (C ++ L)) (hs : its.length < 1024) (hf : 95000 < f) :
  Do (oY f k a r (x.i : Int)) fun res => ∃ q r' C' e, res = (r', e) /\ its.Perm (x :: q) /\ HK (KD k) r' q C' /\ Ar κ (n + bd k its.length) e (C' ++ ((x.i, x.cell (-1)) :: L)) := by
 unfold oY;rcases hk with rfl | rfl | rfl
 ·refine Do.t rfl ((Le.dh (k := f) h j H (by omega)).bind ?_);rintro _ ⟨q, r', C', e, rfl, h1, h3, H1⟩;exact ⟨_, rfl, q, r', C', e, rfl, h1, h3, H1.mono (by simp only [bd, if_true]; omega)⟩
 ·refine Do.f rfl (Do.t rfl ((Bi.dh (k := f) h j H hs hf).bind ?_));rintro _ ⟨q, r', C', e, rfl, h1, h3, H1⟩;exact ⟨_, rfl, q, r', C', e, rfl, h1, h3, H1.mono (by simp [bd])⟩
 ·refine Do.f rfl (Do.f rfl (Do.t rfl ((Sk.dh (k := f) h j H hs hf).bind ?_)));rintro _ ⟨q, r', C', e, rfl, h1, h3, H1⟩;exact ⟨_, rfl, q, r', C', e, rfl, h1, h3, H1.mono (by simp [bd])⟩
theorem AO {x y : It} (hk : Kd k) (h : HL (KD k) r its x y C) (hi : y.i = x.i) (j : ¬ x.lt y) (H : Ar κ n a (C ++ L)) (hs : its.length < 1024) (hf : 95000 < f) :
  Do (q5 f k a r (y.i : Int)) fun res => ∃ r' q C' e, res = (r', e) /\ its.Perm (x :: q) /\ HK (KD k) r' (y :: q) C' /\ Ar κ (n + bd k its.length) e (C' ++ L) := by
 unfold q5;rcases hk with rfl | rfl | rfl
 ·refine Do.t rfl ((Le.jk (k := f) h hi j H (by omega)).bind ?_);rintro _ ⟨r', q, C', e, rfl, h1, h3, H1⟩;exact ⟨_, rfl, r', q, C', e, rfl, h1, h3, H1.mono (by simp only [bd, if_true]; omega)⟩
 ·refine Do.f rfl (Do.t rfl ((Bi.jk (k := f) h hi j H hs hf).bind ?_));rintro _ ⟨r', q, C', e, rfl, h1, h3, H1⟩;exact ⟨_, rfl, r', q, C', e, rfl, h1, h3, H1.mono (by simp [bd])⟩
 ·refine Do.f rfl (Do.f rfl (Do.t rfl ((Sk.jk (k := f) h hi j H hs hf).bind ?_)));rintro _ ⟨r', q, C', e, rfl, h1, h3, H1⟩;exact ⟨_, rfl, r', q, C', e, rfl, h1, h3, H1.mono (by simp [bd])⟩
theorem Bf {s : Int} {i : List It} {C' : Heap} (hk : Kd k) (h : HK (KD k) r its C) (l : HK (KD k) s i C') (H : Ar κ n a (C ++ (C' ++ L))) (hs : its.length < 256) (hs' : i.length < 256) (hf : 95000 < f) :
  Do (pX f k a r s) fun res => ∃ t e j, res = (t, j) /\ HK (KD k) t (its ++ i) e /\ Ar κ (n + bd k (its.length + i.length)) j (e ++ L) := by
 unfold pX;rcases hk with rfl | rfl | rfl
 ·refine Do.t rfl ((Le.kT (k := f) h l H (by omega)).bind ?_);rintro _ ⟨t, e, j, rfl, h1, H1⟩;exact ⟨_, rfl, t, e, j, rfl, h1, H1.mono (by simp only [bd, if_true]; omega)⟩
 ·refine Do.f rfl (Do.t rfl ((Bi.kT (k := f) h l H hs hs' hf).bind ?_));rintro _ ⟨t, e, j, rfl, h1, H1⟩;exact ⟨_, rfl, t, e, j, rfl, h1, H1.mono (by simp [bd])⟩
 ·refine Do.f rfl (Do.f rfl (Do.t rfl ((Sk.kT (k := f) h l H hs hs' hf).bind ?_)));rintro _ ⟨t, e, j, rfl, h1, H1⟩;exact ⟨_, rfl, t, e, j, rfl, h1, H1.mono (by simp [bd])⟩
end
end
noncomputable section
set_option maxRecDepth 10000
namespace Ph
structure Inv (p : zh) (T : Nat) : Prop where
 most : 0 <= p.most /\ p.most <= 65536
 len : (p.l.length : Int) <= p.most
 fre : ∀ f ∈ p.free, ∃ (j : Nat) (x : zs), f = (j : Int) /\ p.l[j]? = some x /\ x.taken = false
 fnd : p.free.Nodup
 cov : ∀ (j : Nat) (x : zs), p.l[j]? = some x -> x.taken = false -> (j : Int) ∈ p.free
 gen : ∀ (j : Nat) (x : zs), p.l[j]? = some x -> 1 <= x.gen /\ x.gen <= T
def Live (p : zh) (r : zf) (v : zB) : Prop := ∃ j : Nat, r.At = (j : Int) /\ p.l[j]? = some ⟨r.Gen, true, v⟩
section
variable {p : zh} {T : Nat} {r : zf} {v : zB}
theorem Live.idx (h : Live p r v) : mIdx p.l r.At = some ⟨r.Gen, true, v⟩ := by
 obtain ⟨j, e, h⟩ := h;rw [e, yC]; exact h
theorem Live.uniq {w : zB} (h : Live p r v) (i : Live p r w) : v = w := by
 have j := h.idx;have e := i.idx;rw [j] at e;simp only [Option.some.injEq, zs.mk.injEq, true_and] at e;exact e
theorem Inv.flen (I : Inv p T) : p.free.length <= p.l.length := by
 have h1 : (p.free.map Int.toNat).Nodup := List.pairwise_map.2 (I.fnd.imp_of_mem fun {x y} t z u e => by
  obtain ⟨i, _, rfl, _⟩ := I.fre x t;obtain ⟨j, _, rfl, _⟩ := I.fre y z;simp only [tN] at e;exact u (by rw [e]))
 have h2 := qh (m := List.range p.l.length) h1 fun x t => by
  obtain ⟨f, hf, rfl⟩ := List.mem_map.1 t;obtain ⟨j, y, rfl, hj, _⟩ := I.fre f hf;simp only [tN, List.mem_range];exact (List.getElem?_eq_some_iff.1 hj).1
 simpa using h2
theorem wO (I : Inv p T) (h : Live p r v) : xb p r = some (some r.At, 0) := by
 have hi := h.idx;obtain ⟨j, e, h⟩ := h;have i := I.gen _ _ h;simp only at i;have hl := (List.getElem?_eq_some_iff.1 h).1;unfold xb;rw [dF (by omega), dF (by omega), dF (by omega), hi];simp
theorem wW (I : Inv p T) (h : Live p r v) : yJ p r = some (v, 0) := by
 unfold yJ;rw [wO I h];simp [uW, oS, h.idx]
theorem rD (I : Inv p T) (h : Live p r v) (w : zB) : xG p r w = some (0, zh.mk p.most (mSet p.l r.At ⟨r.Gen, true, w⟩) p.free) := by
 unfold xG;rw [wO I h];simp [uW, oS, h.idx]
theorem rm (I : Inv p T) (h : Live p r v) : xZ p r = some (v, 0, zh.mk p.most (mSet p.l r.At ⟨r.Gen, false, (zB.mk 0 0 0)⟩) (p.free ++ [r.At])) := by
 have e := I.flen;have h1 := I.len;have h2 := I.most;unfold xZ;rw [wO I h];simp only [bS, uW, oS, h.idx];rw [xd (by simp only [List.length_singleton]; omega)];simp [mSet]
theorem ra (I : Inv p T) (u : T < 4611686018427387904) {fs : List Int} {j : Nat} {x : zs} (hf : p.free = fs ++ [(j : Int)]) (hj : p.l[j]? = some x) :
  yR p v = some (zf.mk (j : Int) (x.gen + 1), true, zh.mk p.most (mSet p.l (j : Int) ⟨x.gen + 1, true, v⟩) fs) := by
 have y := I.gen _ _ hj;have t : fs.length < 1000000 := by
  have h0 := I.flen;rw [hf] at h0;simp only [lA, List.length_singleton] at h0;have := I.len;have := I.most;omega
 have hw : w64 (((fs ++ [(j : Int)]).length : Int) - 1) = (fs.length : Int) := by
  rw [zG] <;> simp <;> omega
 have i : mIdx (fs ++ [(j : Int)]) (fs.length : Int) = some (j : Int) := yF fs [] (j : Int);have e : mCut (fs ++ [(j : Int)]) 0 (fs.length : Int) = some fs := by
  unfold mCut;rw [if_pos ⟨by omega, by omega, by simp; omega⟩];simp
 unfold yR;rw [hf, hw, dT (by omega)];simp only [cT, i, e, bS];rw [yC, hj];simp only [bS];rw [zG (by omega) (by omega)];simp [mSet]
theorem qu (I : Inv p T) (hf : p.free = []) (hl : (p.l.length : Int) < p.most) :
  yR p v = some (zf.mk (p.l.length : Int) 1, true, zh.mk p.most (p.l ++ [⟨1, true, v⟩]) []) := by
 have := I.most;unfold yR;rw [hf];rw [show w64 ((([] : List Int).length : Int) - 1) = -1 by rw [zG] <;> simp];rw [dF (by omega)];simp only [cF];rw [dF (by omega)];simp only [cF];rw [xd (by simp only [List.length_singleton]; omega)];simp only [bS];rw [yF];simp only [bS];rw [show w64 (0 + 1) = 1 by rw [zG] <;> simp];simp [mSet]
theorem yU {l : List zs} {j i : Nat} {x y : zs} (h : l[j]? = some y) : (l.set j x)[i]? = if i = j then some x else l[i]? := by
 have := (List.getElem?_eq_some_iff.1 h).1;by_cases e : i = j
 ·subst e; rw [if_pos rfl, List.getElem?_set_self this]
 ·rw [if_neg e, getD_set_ne (fun h => e h.symm)]
theorem rJ (I : Inv p T) (h : Live p r v) (w : zB) : Inv (zh.mk p.most (mSet p.l r.At ⟨r.Gen, true, w⟩) p.free) T := by
 obtain ⟨j, e, h⟩ := h;have u := I.gen _ _ h;refine ⟨I.most, by simpa [mSet] using I.len, fun f hf => ?_, I.fnd, fun i x t ht => ?_, fun i x t => ?_⟩
 ·obtain ⟨i, x, rfl, hi, t⟩ := I.fre f hf;refine ⟨i, x, rfl, ?_, t⟩;simp only [mSet, e, tN];rw [yU h, if_neg]; exact hi;rintro rfl;rw [h] at hi; cases hi; simp at t
 ·simp only [mSet, e, tN] at t;rw [yU h] at t;split at t
  ·cases t; simp at ht
  ·exact I.cov i x t ht
 ·simp only [mSet, e, tN] at t;rw [yU h] at t;split at t
  ·cases t; exact u
  ·exact I.gen i x t
theorem tI (h : Live p r v) (w : zB) (s : zf) (u : zB) : Live (zh.mk p.most (mSet p.l r.At ⟨r.Gen, true, w⟩) p.free) s u ↔ (s = r /\ u = w) \/ (s ≠ r /\ Live p s u) := by
 obtain ⟨j, e, h⟩ := h;constructor
 ·rintro ⟨i, t, hi⟩;simp only [mSet, e, tN] at hi;rw [yU h] at hi;split at hi
  ·rename_i x;subst x;simp only [Option.some.injEq, zs.mk.injEq, true_and] at hi;refine Or.inl ⟨?_, hi.2.symm⟩;cases s; cases r; simp only at e t hi ⊢; rw [t, e, hi.1]
  ·rename_i x;refine Or.inr ⟨?_, i, t, hi⟩;rintro rfl;exact x (by omega)
 ·rintro (⟨rfl, rfl⟩ | ⟨y, i, t, hi⟩)
  ·refine ⟨j, e, ?_⟩;simp only [mSet, e, tN];rw [yU h, if_pos rfl]
  ·refine ⟨i, t, ?_⟩;simp only [mSet, e, tN];rw [yU h, if_neg]; exact hi;rintro rfl;rw [h] at hi;simp only [Option.some.injEq, zs.mk.injEq, true_and] at hi;refine y ?_;cases s; cases r; simp only at e t hi ⊢; rw [t, e, hi.1]
theorem pN (I : Inv p T) (h : Live p r v) : Inv (zh.mk p.most (mSet p.l r.At ⟨r.Gen, false, (zB.mk 0 0 0)⟩) (p.free ++ [r.At])) T := by
 obtain ⟨j, e, h⟩ := h;have z := I.gen _ _ h;have u : r.At ∉ p.free := by
  intro hf;obtain ⟨i, x, B, hi, t⟩ := I.fre _ hf;have : i = j := by omega
  subst this;rw [h] at hi; cases hi; simp at t
 refine ⟨I.most, by simpa [mSet] using I.len, fun f hf => ?_, ?_, fun i x t ht => ?_, fun i x t => ?_⟩
 ·simp only [mSet, e, tN];rcases List.mem_append.1 hf with hf | hf
  ·obtain ⟨i, x, rfl, hi, t⟩ := I.fre f hf;refine ⟨i, x, rfl, ?_, t⟩;rw [yU h, if_neg]; exact hi;rintro rfl;rw [h] at hi; cases hi; simp at t
  ·rw [List.mem_singleton.1 hf, e];exact ⟨j, _, rfl, by rw [yU h, if_pos rfl], rfl⟩
 ·exact List.nodup_append.2 ⟨I.fnd, by simp, fun a ha b A => by rw [List.mem_singleton.1 A]; rintro rfl; exact u ha⟩
 ·simp only [mSet, e, tN] at t;rw [yU h] at t;split at t
  ·rename_i y; subst y; exact List.mem_append_right _ (by rw [e]; simp)
  ·exact mL _ (I.cov i x t ht)
 ·simp only [mSet, e, tN] at t;rw [yU h] at t;split at t
  ·cases t; exact z
  ·exact I.gen i x t
theorem qd (h : Live p r v) (s : zf) (u : zB) : Live (zh.mk p.most (mSet p.l r.At ⟨r.Gen, false, (zB.mk 0 0 0)⟩) (p.free ++ [r.At])) s u ↔ s ≠ r /\ Live p s u := by
 obtain ⟨j, e, h⟩ := h;constructor
 ·rintro ⟨i, t, hi⟩;simp only [mSet, e, tN] at hi;rw [yU h] at hi;split at hi
  ·simp at hi
  ·rename_i x;refine ⟨?_, i, t, hi⟩;rintro rfl;exact x (by omega)
 ·rintro ⟨y, i, t, hi⟩;refine ⟨i, t, ?_⟩;simp only [mSet, e, tN];rw [yU h, if_neg]; exact hi;rintro rfl;rw [h] at hi;simp only [Option.some.injEq, zs.mk.injEq, true_and] at hi;refine y ?_;cases s; cases r; simp only at e t hi ⊢; rw [t, e, hi.1]
theorem rY (I : Inv p T) (U : T < 4611686018427387904) (z : (p.l.length : Int) < p.most + p.free.length) (v : zB) :
  ∃ r p', yR p v = some (r, true, p') /\ Inv p' (T + 1) /\ (∀ w, ¬ Live p r w) /\ (∀ s u, Live p' s u ↔ (s = r /\ u = v) \/ Live p s u) /\ p'.most = p.most /\ (p'.l.length : Int) - p'.free.length = (p.l.length : Int) - p.free.length + 1 := by
 rcases List.eq_nil_or_concat p.free with hf | ⟨fs, f, hf⟩
 ·rw [hf] at z;refine ⟨_, _, qu I hf (by simpa using z), ⟨I.most, by simp at z ⊢; omega, by simp, by simp, ?_, ?_⟩, ?_, ?_, rfl, by rw [hf]; simp⟩
  ·intro j x t ht;simp only at t;by_cases hj : j < p.l.length
   ·rw [List.getElem?_append_left hj] at t;have := I.cov j x t ht;rw [hf] at this; simp at this
   ·rw [List.getElem?_append_right (by omega)] at t;by_cases e : j - p.l.length = 0
    ·rw [e] at t; simp at t; subst t; simp at ht
    ·rw [List.getElem?_eq_none (by simp; omega)] at t; cases t
  ·intro j x t;simp only at t;by_cases hj : j < p.l.length
   ·rw [List.getElem?_append_left hj] at t;have := I.gen j x t;omega
   ·rw [List.getElem?_append_right (by omega)] at t;by_cases e : j - p.l.length = 0
    ·rw [e] at t; simp at t; subst t; simp; omega
    ·rw [List.getElem?_eq_none (by simp; omega)] at t; cases t
  ·rintro w ⟨j, e, h⟩;have := (List.getElem?_eq_some_iff.1 h).1;simp only at e;omega
  ·intro s u;constructor
   ·rintro ⟨j, e, h⟩;simp only at h;by_cases hj : j < p.l.length
    ·rw [List.getElem?_append_left hj] at h;exact Or.inr ⟨j, e, h⟩
    ·rw [List.getElem?_append_right (by omega)] at h;by_cases W : j - p.l.length = 0
     ·rw [W] at h;simp at h;refine Or.inl ⟨?_, h.2.symm⟩;cases s; simp only at e h ⊢;rw [e, <- h.1]; congr 1; omega
     ·rw [List.getElem?_eq_none (by simp; omega)] at h; cases h
   ·rintro (⟨rfl, rfl⟩ | ⟨j, e, h⟩)
    ·exact ⟨p.l.length, rfl, by simp⟩
    ·have := (List.getElem?_eq_some_iff.1 h).1;exact ⟨j, e, by rw [List.getElem?_append_left this]; exact h⟩
 ·rw [List.concat_eq_append] at hf;obtain ⟨j, x, rfl, hj, ht⟩ := I.fre f (by rw [hf]; simp);have X := I.gen j x hj;have hn := I.fnd;rw [hf] at hn;obtain ⟨J, -, O⟩ := List.nodup_append.1 hn;have S : (j : Int) ∉ fs := fun h => O _ h _ (List.mem_singleton.2 rfl) rfl
  refine ⟨_, _, ra I U hf hj, ⟨I.most, by simpa [mSet] using I.len, ?_, J, ?_, ?_⟩, ?_, ?_, rfl, by rw [hf]; simp [mSet]; omega⟩
  ·intro f B;obtain ⟨i, y, rfl, hi, A⟩ := I.fre f (by rw [hf]; exact mL _ B);refine ⟨i, y, rfl, ?_, A⟩;simp only [mSet, tN];rw [yU hj, if_neg]; exact hi;rintro rfl; exact S B
  ·intro i y A D;simp only [mSet, tN] at A;rw [yU hj] at A;split at A
   ·cases A; simp at D
   ·rename_i F;have := I.cov i y A D;rw [hf] at this;rcases List.mem_append.1 this with h | h
    ·exact h
    ·simp at h; omega
  ·intro i y A;simp only [mSet, tN] at A;rw [yU hj] at A;split at A
   ·cases A; simp only; omega
   ·have := I.gen i y A; omega
  ·rintro w ⟨i, e, h⟩;simp only at e h;have : i = j := by omega
   subst this;rw [hj] at h;simp only [Option.some.injEq] at h;rw [h] at ht; simp at ht
  ·intro s u;constructor
   ·rintro ⟨i, e, h⟩;simp only [mSet, tN] at h;rw [yU hj] at h;split at h
    ·rename_i F;subst F;simp only [Option.some.injEq, zs.mk.injEq, true_and] at h;refine Or.inl ⟨?_, h.2.symm⟩;cases s; simp only at e h ⊢; rw [e, <- h.1]
    ·exact Or.inr ⟨i, e, h⟩
   ·rintro (⟨rfl, rfl⟩ | ⟨i, e, h⟩)
    ·refine ⟨j, rfl, ?_⟩;simp only [mSet, tN];rw [yU hj, if_pos rfl]
    ·refine ⟨i, e, ?_⟩;simp only [mSet, tN];rw [yU hj, if_neg]; exact h;rintro rfl;rw [hj] at h;simp only [Option.some.injEq] at h;rw [h] at ht; simp at ht
end
end Ph
end
noncomputable section
set_option maxRecDepth 10000
namespace Pt
structure Inv (p : ze) (T : Nat) : Prop where
 most : 0 <= p.most /\ p.most <= 65536
 len : (p.l.length : Int) <= p.most
 fre : ∀ f ∈ p.free, ∃ (j : Nat) (x : zp), f = (j : Int) /\ p.l[j]? = some x /\ x.taken = false
 fnd : p.free.Nodup
 cov : ∀ (j : Nat) (x : zp), p.l[j]? = some x -> x.taken = false -> (j : Int) ∈ p.free
 gen : ∀ (j : Nat) (x : zp), p.l[j]? = some x -> 1 <= x.gen /\ x.gen <= T
def Live (p : ze) (r : zf) (v : zA) : Prop := ∃ j : Nat, r.At = (j : Int) /\ p.l[j]? = some ⟨r.Gen, true, v⟩
section
variable {p : ze} {T : Nat} {r : zf} {v : zA}
theorem Live.idx (h : Live p r v) : mIdx p.l r.At = some ⟨r.Gen, true, v⟩ := by
 obtain ⟨j, e, h⟩ := h;rw [e, yC]; exact h
theorem Live.uniq {w : zA} (h : Live p r v) (i : Live p r w) : v = w := by
 have j := h.idx;have e := i.idx;rw [j] at e;simp only [Option.some.injEq, zp.mk.injEq, true_and] at e;exact e
theorem Inv.flen (I : Inv p T) : p.free.length <= p.l.length := by
 have h1 : (p.free.map Int.toNat).Nodup := List.pairwise_map.2 (I.fnd.imp_of_mem fun {x y} t z u e => by
  obtain ⟨i, _, rfl, _⟩ := I.fre x t;obtain ⟨j, _, rfl, _⟩ := I.fre y z;simp only [tN] at e;exact u (by rw [e]))
 have h2 := qh (m := List.range p.l.length) h1 fun x t => by
  obtain ⟨f, hf, rfl⟩ := List.mem_map.1 t;obtain ⟨j, y, rfl, hj, _⟩ := I.fre f hf;simp only [tN, List.mem_range];exact (List.getElem?_eq_some_iff.1 hj).1
 simpa using h2
theorem wO (I : Inv p T) (h : Live p r v) : yZ p r = some (some r.At, 0) := by
 have hi := h.idx;obtain ⟨j, e, h⟩ := h;have i := I.gen _ _ h;simp only at i;have hl := (List.getElem?_eq_some_iff.1 h).1;unfold yZ;rw [dF (by omega), dF (by omega), dF (by omega), hi];simp
theorem wW (I : Inv p T) (h : Live p r v) : yu p r = some (v, 0) := by
 unfold yu;rw [wO I h];simp [uW, oS, h.idx]
theorem rD (I : Inv p T) (h : Live p r v) (w : zA) : wh p r w = some (0, ze.mk p.most (mSet p.l r.At ⟨r.Gen, true, w⟩) p.free) := by
 unfold wh;rw [wO I h];simp [uW, oS, h.idx]
theorem rm (I : Inv p T) (h : Live p r v) : xM p r = some (v, 0, ze.mk p.most (mSet p.l r.At ⟨r.Gen, false, (zA.mk 0 (zf.mk 0 0))⟩) (p.free ++ [r.At])) := by
 have e := I.flen;have h1 := I.len;have h2 := I.most;unfold xM;rw [wO I h];simp only [bS, uW, oS, h.idx];rw [xd (by simp only [List.length_singleton]; omega)];simp [mSet]
theorem ra (I : Inv p T) (u : T < 4611686018427387904) {fs : List Int} {j : Nat} {x : zp} (hf : p.free = fs ++ [(j : Int)]) (hj : p.l[j]? = some x) :
  yL p v = some (zf.mk (j : Int) (x.gen + 1), true, ze.mk p.most (mSet p.l (j : Int) ⟨x.gen + 1, true, v⟩) fs) := by
 have y := I.gen _ _ hj;have t : fs.length < 1000000 := by
  have h0 := I.flen;rw [hf] at h0;simp only [lA, List.length_singleton] at h0;have := I.len;have := I.most;omega
 have hw : w64 (((fs ++ [(j : Int)]).length : Int) - 1) = (fs.length : Int) := by
  rw [zG] <;> simp <;> omega
 have i : mIdx (fs ++ [(j : Int)]) (fs.length : Int) = some (j : Int) := yF fs [] (j : Int);have e : mCut (fs ++ [(j : Int)]) 0 (fs.length : Int) = some fs := by
  unfold mCut;rw [if_pos ⟨by omega, by omega, by simp; omega⟩];simp
 unfold yL;rw [hf, hw, dT (by omega)];simp only [cT, i, e, bS];rw [yC, hj];simp only [bS];rw [zG (by omega) (by omega)];simp [mSet]
theorem qu (I : Inv p T) (hf : p.free = []) (hl : (p.l.length : Int) < p.most) :
  yL p v = some (zf.mk (p.l.length : Int) 1, true, ze.mk p.most (p.l ++ [⟨1, true, v⟩]) []) := by
 have := I.most;unfold yL;rw [hf];rw [show w64 ((([] : List Int).length : Int) - 1) = -1 by rw [zG] <;> simp];rw [dF (by omega)];simp only [cF];rw [dF (by omega)];simp only [cF];rw [xd (by simp only [List.length_singleton]; omega)];simp only [bS];rw [yF];simp only [bS];rw [show w64 (0 + 1) = 1 by rw [zG] <;> simp];simp [mSet]
theorem yU {l : List zp} {j i : Nat} {x y : zp} (h : l[j]? = some y) : (l.set j x)[i]? = if i = j then some x else l[i]? := by
 have := (List.getElem?_eq_some_iff.1 h).1;by_cases e : i = j
 ·subst e; rw [if_pos rfl, List.getElem?_set_self this]
 ·rw [if_neg e, getD_set_ne (fun h => e h.symm)]
theorem rJ (I : Inv p T) (h : Live p r v) (w : zA) : Inv (ze.mk p.most (mSet p.l r.At ⟨r.Gen, true, w⟩) p.free) T := by
 obtain ⟨j, e, h⟩ := h;have u := I.gen _ _ h;refine ⟨I.most, by simpa [mSet] using I.len, fun f hf => ?_, I.fnd, fun i x t ht => ?_, fun i x t => ?_⟩
 ·obtain ⟨i, x, rfl, hi, t⟩ := I.fre f hf;refine ⟨i, x, rfl, ?_, t⟩;simp only [mSet, e, tN];rw [yU h, if_neg]; exact hi;rintro rfl;rw [h] at hi; cases hi; simp at t
 ·simp only [mSet, e, tN] at t;rw [yU h] at t;split at t
  ·cases t; simp at ht
  ·exact I.cov i x t ht
 ·simp only [mSet, e, tN] at t;rw [yU h] at t;split at t
  ·cases t; exact u
  ·exact I.gen i x t
theorem tI (h : Live p r v) (w : zA) (s : zf) (u : zA) : Live (ze.mk p.most (mSet p.l r.At ⟨r.Gen, true, w⟩) p.free) s u ↔ (s = r /\ u = w) \/ (s ≠ r /\ Live p s u) := by
 obtain ⟨j, e, h⟩ := h;constructor
 ·rintro ⟨i, t, hi⟩;simp only [mSet, e, tN] at hi;rw [yU h] at hi;split at hi
  ·rename_i x;subst x;simp only [Option.some.injEq, zp.mk.injEq, true_and] at hi;refine Or.inl ⟨?_, hi.2.symm⟩;cases s; cases r; simp only at e t hi ⊢; rw [t, e, hi.1]
  ·rename_i x;refine Or.inr ⟨?_, i, t, hi⟩;rintro rfl;exact x (by omega)
 ·rintro (⟨rfl, rfl⟩ | ⟨y, i, t, hi⟩)
  ·refine ⟨j, e, ?_⟩;simp only [mSet, e, tN];rw [yU h, if_pos rfl]
  ·refine ⟨i, t, ?_⟩;simp only [mSet, e, tN];rw [yU h, if_neg]; exact hi;rintro rfl;rw [h] at hi;simp only [Option.some.injEq, zp.mk.injEq, true_and] at hi;refine y ?_;cases s; cases r; simp only at e t hi ⊢; rw [t, e, hi.1]
theorem pN (I : Inv p T) (h : Live p r v) : Inv (ze.mk p.most (mSet p.l r.At ⟨r.Gen, false, (zA.mk 0 (zf.mk 0 0))⟩) (p.free ++ [r.At])) T := by
 obtain ⟨j, e, h⟩ := h;have z := I.gen _ _ h;have u : r.At ∉ p.free := by
  intro hf;obtain ⟨i, x, B, hi, t⟩ := I.fre _ hf;have : i = j := by omega
  subst this;rw [h] at hi; cases hi; simp at t
 refine ⟨I.most, by simpa [mSet] using I.len, fun f hf => ?_, ?_, fun i x t ht => ?_, fun i x t => ?_⟩
 ·simp only [mSet, e, tN];rcases List.mem_append.1 hf with hf | hf
  ·obtain ⟨i, x, rfl, hi, t⟩ := I.fre f hf;refine ⟨i, x, rfl, ?_, t⟩;rw [yU h, if_neg]; exact hi;rintro rfl;rw [h] at hi; cases hi; simp at t
  ·rw [List.mem_singleton.1 hf, e];exact ⟨j, _, rfl, by rw [yU h, if_pos rfl], rfl⟩
 ·exact List.nodup_append.2 ⟨I.fnd, by simp, fun a ha b A => by rw [List.mem_singleton.1 A]; rintro rfl; exact u ha⟩
 ·simp only [mSet, e, tN] at t;rw [yU h] at t;split at t
  ·rename_i y; subst y; exact List.mem_append_right _ (by rw [e]; simp)
  ·exact mL _ (I.cov i x t ht)
 ·simp only [mSet, e, tN] at t;rw [yU h] at t;split at t
  ·cases t; exact z
  ·exact I.gen i x t
theorem qd (h : Live p r v) (s : zf) (u : zA) : Live (ze.mk p.most (mSet p.l r.At ⟨r.Gen, false, (zA.mk 0 (zf.mk 0 0))⟩) (p.free ++ [r.At])) s u ↔ s ≠ r /\ Live p s u := by
 obtain ⟨j, e, h⟩ := h;constructor
 ·rintro ⟨i, t, hi⟩;simp only [mSet, e, tN] at hi;rw [yU h] at hi;split at hi
  ·simp at hi
  ·rename_i x;refine ⟨?_, i, t, hi⟩;rintro rfl;exact x (by omega)
 ·rintro ⟨y, i, t, hi⟩;refine ⟨i, t, ?_⟩;simp only [mSet, e, tN];rw [yU h, if_neg]; exact hi;rintro rfl;rw [h] at hi;simp only [Option.some.injEq, zp.mk.injEq, true_and] at hi;refine y ?_;cases s; cases r; simp only at e t hi ⊢; rw [t, e, hi.1]
theorem rY (I : Inv p T) (U : T < 4611686018427387904) (z : (p.l.length : Int) < p.most + p.free.length) (v : zA) :
  ∃ r p', yL p v = some (r, true, p') /\ Inv p' (T + 1) /\ (∀ w, ¬ Live p r w) /\ (∀ s u, Live p' s u ↔ (s = r /\ u = v) \/ Live p s u) /\ p'.most = p.most /\ (p'.l.length : Int) - p'.free.length = (p.l.length : Int) - p.free.length + 1 := by
 rcases List.eq_nil_or_concat p.free with hf | ⟨fs, f, hf⟩
 ·rw [hf] at z;refine ⟨_, _, qu I hf (by simpa using z), ⟨I.most, by simp at z ⊢; omega, by simp, by simp, ?_, ?_⟩, ?_, ?_, rfl, by rw [hf]; simp⟩
  ·intro j x t ht;simp only at t;by_cases hj : j < p.l.length
   ·rw [List.getElem?_append_left hj] at t;have := I.cov j x t ht;rw [hf] at this; simp at this
   ·rw [List.getElem?_append_right (by omega)] at t;by_cases e : j - p.l.length = 0
    ·rw [e] at t; simp at t; subst t; simp at ht
    ·rw [List.getElem?_eq_none (by simp; omega)] at t; cases t
  ·intro j x t;simp only at t;by_cases hj : j < p.l.length
   ·rw [List.getElem?_append_left hj] at t;have := I.gen j x t;omega
   ·rw [List.getElem?_append_right (by omega)] at t;by_cases e : j - p.l.length = 0
    ·rw [e] at t; simp at t; subst t; simp; omega
    ·rw [List.getElem?_eq_none (by simp; omega)] at t; cases t
  ·rintro w ⟨j, e, h⟩;have := (List.getElem?_eq_some_iff.1 h).1;simp only at e;omega
  ·intro s u;constructor
   ·rintro ⟨j, e, h⟩;simp only at h;by_cases hj : j < p.l.length
    ·rw [List.getElem?_append_left hj] at h;exact Or.inr ⟨j, e, h⟩
    ·rw [List.getElem?_append_right (by omega)] at h;by_cases W : j - p.l.length = 0
     ·rw [W] at h;simp at h;refine Or.inl ⟨?_, h.2.symm⟩;cases s; simp only at e h ⊢;rw [e, <- h.1]; congr 1; omega
     ·rw [List.getElem?_eq_none (by simp; omega)] at h; cases h
   ·rintro (⟨rfl, rfl⟩ | ⟨j, e, h⟩)
    ·exact ⟨p.l.length, rfl, by simp⟩
    ·have := (List.getElem?_eq_some_iff.1 h).1;exact ⟨j, e, by rw [List.getElem?_append_left this]; exact h⟩
 ·rw [List.concat_eq_append] at hf;obtain ⟨j, x, rfl, hj, ht⟩ := I.fre f (by rw [hf]; simp);have X := I.gen j x hj;have hn := I.fnd;rw [hf] at hn;obtain ⟨J, -, O⟩ := List.nodup_append.1 hn;have S : (j : Int) ∉ fs := fun h => O _ h _ (List.mem_singleton.2 rfl) rfl
  refine ⟨_, _, ra I U hf hj, ⟨I.most, by simpa [mSet] using I.len, ?_, J, ?_, ?_⟩, ?_, ?_, rfl, by rw [hf]; simp [mSet]; omega⟩
  ·intro f B;obtain ⟨i, y, rfl, hi, A⟩ := I.fre f (by rw [hf]; exact mL _ B);refine ⟨i, y, rfl, ?_, A⟩;simp only [mSet, tN];rw [yU hj, if_neg]; exact hi;rintro rfl; exact S B
  ·intro i y A D;simp only [mSet, tN] at A;rw [yU hj] at A;split at A
   ·cases A; simp at D
   ·rename_i F;have := I.cov i y A D;rw [hf] at this;rcases List.mem_append.1 this with h | h
    ·exact h
    ·simp at h; omega
  ·intro i y A;simp only [mSet, tN] at A;rw [yU hj] at A;split at A
   ·cases A; simp only; omega
   ·have := I.gen i y A; omega
  ·rintro w ⟨i, e, h⟩;simp only at e h;have : i = j := by omega
   subst this;rw [hj] at h;simp only [Option.some.injEq] at h;rw [h] at ht; simp at ht
  ·intro s u;constructor
   ·rintro ⟨i, e, h⟩;simp only [mSet, tN] at h;rw [yU hj] at h;split at h
    ·rename_i F;subst F;simp only [Option.some.injEq, zp.mk.injEq, true_and] at h;refine Or.inl ⟨?_, h.2.symm⟩;cases s; simp only at e h ⊢; rw [e, <- h.1]
    ·exact Or.inr ⟨i, e, h⟩
   ·rintro (⟨rfl, rfl⟩ | ⟨i, e, h⟩)
    ·refine ⟨j, rfl, ?_⟩;simp only [mSet, tN];rw [yU hj, if_pos rfl]
    ·refine ⟨i, e, ?_⟩;simp only [mSet, tN];rw [yU hj, if_neg]; exact h;rintro rfl;rw [hj] at h;simp only [Option.some.injEq] at h;rw [h] at ht; simp at ht
end
end Pt
end
noncomputable section
set_option maxRecDepth 10000
structure HR where
 ref : zf
 k : Int
 r : Int
 C : Heap
 rs : List (zf × It)
def HR.its (h : HR) : List It := h.rs.map Prod.snd
def HR.val (h : HR) : zB := zB.mk h.k h.r (h.rs.length : Int)
def allC (hs : List HR) : Heap := hs.flatMap HR.C
def allR (hs : List HR) : List (zf × It) := hs.flatMap HR.rs
theorem pZ (h : HR) (hs : List HR) : allC (h :: hs) = h.C ++ allC hs := rfl
theorem wX (h : HR) (hs : List HR) : allR (h :: hs) = h.rs ++ allR hs := rfl
theorem HR.vK (h : HR) : h.its.length = h.rs.length := by simp [HR.its]
structure PQ (M : Nat) (q : zo) (T : Nat) (hs : List HR) : Prop where
 ih : Ph.Inv q.t_.heaps T
 ii : Pt.Inv q.t_.items T
 hl : ∀ s u, Ph.Live q.t_.heaps s u ↔ ∃ h ∈ hs, s = h.ref /\ u = h.val
 il : ∀ s u, Pt.Live q.t_.items s u ↔ ∃ h ∈ hs, ∃ p ∈ h.rs, s = p.1 /\ u = ⟨(p.2.i : Int), h.ref⟩
 at1 : (q.t_.at_.map Prod.fst).Nodup
 at2 : ∀ c s, mGet kI c q.t_.at_ = some s ↔ ∃ p ∈ allR hs, c = (p.2.i : Int) /\ s = p.1
 en1 : (q.entries.map Prod.fst).Nodup
 en2 : ∀ s e, mGet zf.eq s q.entries = some e ↔ ∃ p ∈ allR hs, s = p.1 /\ e = ⟨p.2.k, p.2.s⟩
 hk : ∀ h ∈ hs, Kd h.k /\ HK (KD h.k) h.r h.its h.C
 hn : (hs.map HR.ref).Nodup
 rn : ((allR hs).map Prod.fst).Nodup
 sn : ((allR hs).map fun p => p.2.s).Nodup
 ar : ∃ κ n, κ.C = 2 * M /\ Ar κ n q.a_ (allC hs)
 mi : q.items = M
 mm : q.t_.items.most = M
 mb : 1 <= M /\ M <= 16384
 ci : (q.t_.items.l.length : Int) - q.t_.items.free.length = (allR hs).length
 ch : (q.t_.heaps.l.length : Int) - q.t_.heaps.free.length = hs.length
 cm : q.t_.heaps.most = 64
 sr : ∀ p ∈ allR hs, 0 <= p.2.s /\ p.2.s < q.serial
 sq : 0 <= q.serial /\ q.serial <= T
def Stp' (q e : zo) (B : Nat) : Prop := q.a_.m_.steps <= e.a_.m_.steps /\ e.a_.m_.steps <= q.a_.m_.steps + B
section
variable {M : Nat} {q : zo} {T : Nat} {h : HR} {hs hs' : List HR}
theorem PQ.p (Q : PQ M q T hs) (hp : hs.Perm hs') : PQ M q T hs' := by
 have j : ∀ p, p ∈ allR hs ↔ p ∈ allR hs' := fun p => (hp.flatMap_right HR.rs).mem_iff
 refine ⟨Q.ih, Q.ii, fun s u => (Q.hl s u).trans ⟨?_, ?_⟩, fun s u => (Q.il s u).trans ⟨?_, ?_⟩, Q.at1, fun c s => (Q.at2 c s).trans ⟨?_, ?_⟩, Q.en1, fun s e => (Q.en2 s e).trans ⟨?_, ?_⟩, fun h hh => Q.hk h (hp.mem_iff.2 hh), ((hp.map _).nodup_iff).1 Q.hn, (((hp.flatMap_right HR.rs).map _).nodup_iff).1 Q.rn, (((hp.flatMap_right HR.rs).map _).nodup_iff).1 Q.sn, ?_, Q.mi, Q.mm, Q.mb, Q.ci.trans ?_, Q.ch.trans ?_, Q.cm, fun p hh => Q.sr p ((j p).2 hh), Q.sq⟩
 ·rintro ⟨g, i, h⟩; exact ⟨g, hp.mem_iff.1 i, h⟩
 ·rintro ⟨g, i, h⟩; exact ⟨g, hp.mem_iff.2 i, h⟩
 ·rintro ⟨g, i, h⟩; exact ⟨g, hp.mem_iff.1 i, h⟩
 ·rintro ⟨g, i, h⟩; exact ⟨g, hp.mem_iff.2 i, h⟩
 ·rintro ⟨g, i, h⟩; exact ⟨g, (j g).1 i, h⟩
 ·rintro ⟨g, i, h⟩; exact ⟨g, (j g).2 i, h⟩
 ·rintro ⟨g, i, h⟩; exact ⟨g, (j g).1 i, h⟩
 ·rintro ⟨g, i, h⟩; exact ⟨g, (j g).2 i, h⟩
 ·obtain ⟨κ, n, e, H⟩ := Q.ar;exact ⟨κ, n, e, H.p (hp.flatMap_right HR.C)⟩
 ·have := (hp.flatMap_right HR.rs).length_eq;show ((hs.flatMap HR.rs).length : Int) = ((hs'.flatMap HR.rs).length : Int);rw [this]
 ·rw [hp.length_eq]
theorem PQ.live (Q : PQ M q T hs) (hh : h ∈ hs) : Ph.Live q.t_.heaps h.ref h.val := (Q.hl _ _).2 ⟨h, hh, rfl, rfl⟩
theorem PQ.heap (Q : PQ M q T hs) (hh : h ∈ hs) : xl q.t_ h.ref = some (h.k, h.r, (h.rs.length : Int), 0) := by
 unfold xl;rw [Ph.wW Q.ih (Q.live hh)]
 rfl
theorem PQ.lenC (Q : PQ M q T hs) : (allC hs).length = 2 * (allR hs).length := by
 have : ∀ hs : List HR, (∀ h ∈ hs, Kd h.k /\ HK (KD h.k) h.r h.its h.C) -> (allC hs).length = 2 * (allR hs).length := by
  intro hs;induction hs with
  | nil => intro _; rfl
  | cons h hs ih =>
   intro hk;have h1 := (hk h (List.mem_cons_self ..)).2.len;have h2 := ih fun g e => hk g (mC _ e)
   rw [HR.vK] at h1;rw [pZ, wX, lA, lA]; omega
 exact this hs Q.hk
theorem PQ.Bo (Q : PQ M q T hs) : (allR hs).length <= M := by
 obtain ⟨κ, n, e, H⟩ := Q.ar;have := H.room;rw [Q.lenC, e] at this; omega
theorem PQ.bA (Q : PQ M q T hs) {p : zf × It} (hp : p ∈ allR hs) : p.2.i ∈ (allC hs).map Prod.fst := by
 obtain ⟨h, hh, hp⟩ := List.mem_flatMap.1 hp;obtain ⟨c, e⟩ := (Q.hk h hh).2.mem (List.mem_map_of_mem (f := Prod.snd) hp);exact List.mem_map.2 ⟨_, List.mem_flatMap.2 ⟨h, hh, e⟩, rfl⟩
theorem Ar.yO {κ : Cfg} {n : Nat} {a : zb} {L : Heap} (H : Ar κ n a L) : Ar ⟨κ.C, a.m_.steps, κ.g, κ.mo⟩ 0 a L :=
 { H with b0 := Int.le_trans H.b0 H.lo, lo := Int.le_refl _, hi := by simp }
theorem gk {P l : zf -> zB -> Prop} {h1 : HR} (hl : ∀ s u, P s u ↔ ∃ g ∈ h :: hs, s = g.ref /\ u = g.val) (hn : ((h :: hs).map HR.ref).Nodup) (e : h1.ref = h.ref) (t : ∀ s u, l s u ↔ (s = h.ref /\ u = h1.val) \/ (s ≠ h.ref /\ P s u)) :
  ∀ s u, l s u ↔ ∃ g ∈ h1 :: hs, s = g.ref /\ u = g.val := by
 intro s u;simp only [pC, List.nodup_cons] at hn;rw [t];constructor
 ·rintro (⟨rfl, rfl⟩ | ⟨j, hp⟩)
  ·exact ⟨h1, List.mem_cons_self .., e.symm, rfl⟩
  ·obtain ⟨g, i, rfl, rfl⟩ := (hl _ _).1 hp;rcases List.mem_cons.1 i with rfl | i
   ·exact absurd rfl j
   ·exact ⟨g, mC _ i, rfl, rfl⟩
 ·rintro ⟨g, i, rfl, rfl⟩;rcases List.mem_cons.1 i with rfl | i
  ·exact Or.inl ⟨e, rfl⟩
  ·refine Or.inr ⟨fun x => hn.1 (x ▸ List.mem_map_of_mem (f := HR.ref) i), (hl _ _).2 ⟨g, mC _ i, rfl, rfl⟩⟩
theorem PQ.root {t : zj} {T' : Nat} (hh : Ph.Inv t.heaps T') (e : Ph.Live t.heaps h.ref h.val) (r n : Int) :
  xz t h.ref r n = some (0, zj.mk (zh.mk t.heaps.most (mSet t.heaps.l h.ref.At ⟨h.ref.Gen, true, ⟨h.k, r, n⟩⟩) t.heaps.free) t.items t.at_) := by
 unfold xz;rw [Ph.wW hh e];simp only [bS];rw [show ((0 : Int) == 0) = true from rfl, cT];show ((xG t.heaps h.ref (zB.mk h.val.kind r n)).bind _).bind _ = _;rw [Ph.rD hh e]
 rfl
theorem PQ.insert (Q : PQ M q T (h :: hs)) (W : (allR (h :: hs)).length < M) (a6 : h.rs.length < 1000) (hT : T < 4611686018427387000) {f : Nat} (hf : 95000 < f) (kk : Int) (key : Int) (o i0 : zf) :
  Do (uz f q (yk.mk 2 kk h.ref o i0 key)) fun res => ∃ (i : zf) (x : It) (r' : Int) (C' : Heap) (U : zo), res = (zK.mk 0 (zf.mk 0 0) i (zi.mk key q.serial) 0, U) /\ x.k = key /\ x.s = q.serial /\
   PQ M U (T + 1) (⟨h.ref, h.k, r', C', (i, x) :: h.rs⟩ :: hs) /\ U.serial = q.serial + 1 /\ Stp' q U (bd h.k h.rs.length + 3) := by
 have hm : h ∈ h :: hs := List.mem_cons_self ..;obtain ⟨κ, n, eC, H0⟩ := Q.ar;have H := H0.yO;have A := Q.hk h hm;have F := Q.lenC;have b0 := Q.mb;unfold uz;rw [Q.heap hm];simp only [bS];refine Do.f rfl ?_;have X : v7 q.t_ = some ((allR (h :: hs)).length : Int) := by
  unfold v7 y9;rw [Q.ci, zG (by omega) (by omega)]
  rfl
 rw [X];simp only [bS];refine Do.f (dF (by rw [Q.mi]; omega)) ?_;refine (lU H (by rw [F]; simp only; omega) key q.serial).bind ?_;rintro _ ⟨i, a1, rfl, hi, H1⟩;have Y : Ar ⟨κ.C, q.a_.m_.steps, κ.g, κ.mo⟩ (0 + 3) a1 (h.C ++ (((It.mk i key q.serial).i, (It.mk i key q.serial).cell (-1)) :: allC hs)) := H1.p (List.perm_middle (l₁ := h.C) (l₂ := allC hs)).symm;have I := A.2.len;rw [HR.vK] at I;rw [pZ, lA] at F;refine (Be (f := f) (x := It.mk i key q.serial) A.1 A.2 Y (by rw [HR.vK]; simp only; omega) (by rw [HR.vK]; omega) hf).bind ?_;rintro _ ⟨r', C', a2, rfl, h1, Z⟩;have a0 : mGet kI (i : Int) q.t_.at_ = none := by
  cases y : mGet kI (i : Int) q.t_.at_ with
  | none => rfl
  | some s =>
   obtain ⟨p, hp, e, _⟩ := (Q.at2 _ _).1 y;have : i = p.2.i := by omega
   rw [this] at hi;exact absurd (Q.bA hp) hi
 obtain ⟨B, p', e2, I', a4, J, O, S⟩ := Pt.rY Q.ii (by omega) (by rw [Q.mm]; have := Q.ci; omega) (zA.mk (i : Int) h.ref);have e3 : uL q.t_ h.ref (i : Int) = some (B, 0, zj.mk q.t_.heaps p' (mPut kI (i : Int) B q.t_.at_)) := by
  unfold uL;rw [Ph.wW Q.ih (Q.live hm)];simp only [bS];rw [show ((0 : Int) != 0) = false from rfl, cF];unfold rr;rw [a0];simp only [bS];have e4 : y9 q.t_.items = some ((allR (h :: hs)).length : Int) := by
   unfold y9;rw [Q.ci, zG (by omega) (by omega)]
  rw [e4];unfold wI;simp only [bS];rw [show (((allR (h :: hs)).length : Int) == q.t_.items.most) = false by rw [Q.mm]; simp; omega, cF, cF, e2]
  rfl
 refine Do.seq e3 ?_;refine Do.seq (PQ.root (t := zj.mk q.t_.heaps p' (mPut kI (i : Int) B q.t_.at_)) Q.ih (Q.live hm) r' (w64 ((h.rs.length : Int) + 1))) ?_;rw [zG (by omega) (by omega), zG (by have := Q.sq; omega) (by have := Q.sq; omega)];have z : ∀ p ∈ allR (h :: hs), p.1 ≠ B := by
  intro p hp e;obtain ⟨g, y, hp⟩ := List.mem_flatMap.1 hp;exact a4 _ ((Q.il _ _).2 ⟨g, y, p, hp, e.symm, rfl⟩)
 have l : ∀ p, p ∈ allR (⟨h.ref, h.k, r', C', (B, It.mk i key q.serial) :: h.rs⟩ :: hs) ↔ p = (B, It.mk i key q.serial) \/ p ∈ allR (h :: hs) := by
  intro p;simp only [wX, List.cons_append, iC]
 refine ⟨_, rfl, B, It.mk i key q.serial, r', C', _, rfl, rfl, rfl, ?_, rfl, ?_, ?_⟩
 ·refine ⟨?_, I', ?_, ?_, sf aF Q.at1, ?_, sf uj Q.en1, ?_, ?_, ?_, ?_, ?_, ⟨⟨κ.C, q.a_.m_.steps, κ.g, κ.mo⟩, _, eC, Z⟩, Q.mi, O.trans Q.mm, Q.mb, ?_, ?_, Q.cm, ?_, ?_⟩
  ·have := Ph.rJ Q.ih (Q.live hm) (zB.mk h.k r' ((h.rs.length : Int) + 1));exact { this with gen := fun j x hx => by have := this.gen j x hx; omega }
  ·refine gk Q.hl Q.hn rfl fun s u => ?_
   have := Ph.tI (Q.live hm) (zB.mk h.k r' ((h.rs.length : Int) + 1)) s u;simpa [HR.val] using this
  ·intro s u;refine (J s u).trans ⟨?_, ?_⟩
   ·rintro (⟨rfl, rfl⟩ | hl)
    ·exact ⟨_, List.mem_cons_self .., _, List.mem_cons_self .., rfl, rfl⟩
    ·obtain ⟨g, y, p, hp, rfl, rfl⟩ := (Q.il _ _).1 hl;rcases List.mem_cons.1 y with rfl | y
     ·exact ⟨_, List.mem_cons_self .., p, mC _ hp, rfl, rfl⟩
     ·exact ⟨g, mC _ y, p, hp, rfl, rfl⟩
   ·rintro ⟨g, y, p, hp, rfl, rfl⟩;rcases List.mem_cons.1 y with rfl | y
    ·rcases List.mem_cons.1 hp with rfl | hp
     ·exact Or.inl ⟨rfl, rfl⟩
     ·exact Or.inr ((Q.il _ _).2 ⟨h, hm, p, hp, rfl, rfl⟩)
    ·exact Or.inr ((Q.il _ _).2 ⟨g, mC _ y, p, hp, rfl, rfl⟩)
  ·intro c s;refine (rA aF).trans ⟨?_, ?_⟩
   ·rintro (⟨rfl, rfl⟩ | ⟨a5, y⟩)
    ·exact ⟨_, (l _).2 (Or.inl rfl), rfl, rfl⟩
    ·obtain ⟨p, hp, e, e'⟩ := (Q.at2 _ _).1 y;exact ⟨p, (l _).2 (Or.inr hp), e, e'⟩
   ·rintro ⟨p, hp, rfl, rfl⟩;rcases (l _).1 hp with rfl | hp
    ·exact Or.inl ⟨rfl, rfl⟩
    ·refine Or.inr ⟨fun e => ?_, (Q.at2 _ _).2 ⟨p, hp, rfl, rfl⟩⟩;have : p.2.i = i := by omega
     exact hi (this ▸ Q.bA hp)
  ·intro s e;refine (rA uj).trans ⟨?_, ?_⟩
   ·rintro (⟨rfl, rfl⟩ | ⟨a5, y⟩)
    ·exact ⟨_, (l _).2 (Or.inl rfl), rfl, rfl⟩
    ·obtain ⟨p, hp, X, e2⟩ := (Q.en2 _ _).1 y;exact ⟨p, (l _).2 (Or.inr hp), X, e2⟩
   ·rintro ⟨p, hp, rfl, rfl⟩;rcases (l _).1 hp with rfl | hp
    ·exact Or.inl ⟨rfl, rfl⟩
    ·exact Or.inr ⟨z p hp, (Q.en2 _ _).2 ⟨p, hp, rfl, rfl⟩⟩
  ·intro g y;rcases List.mem_cons.1 y with rfl | y
   ·exact ⟨A.1, h1⟩
   ·exact Q.hk g (mC _ y)
  ·exact Q.hn
  ·show ((B, It.mk i key q.serial) :: (h.rs ++ allR hs) |>.map Prod.fst).Nodup;rw [pC, List.nodup_cons];refine ⟨fun D => ?_, Q.rn⟩;obtain ⟨p, hp, e⟩ := List.mem_map.1 D;exact z p hp e
  ·show ((B, It.mk i key q.serial) :: (h.rs ++ allR hs) |>.map fun p => p.2.s).Nodup;rw [pC, List.nodup_cons];refine ⟨fun D => ?_, Q.sn⟩;obtain ⟨p, hp, e⟩ := List.mem_map.1 D;have := (Q.sr p hp).2;simp only at e; omega
  ·rw [S, Q.ci];simp only [wX, lA, lC]; omega
  ·have := Q.ch;simpa [mSet] using this
  ·intro p hp;have := Q.sq;rcases (l _).1 hp with rfl | hp
   ·simp only; omega
   ·have := Q.sr p hp; simp only; omega
  ·have := Q.sq; simp only; omega
 ·exact Z.lo
 ·have := Z.hi;rw [HR.vK] at this;simp only at this ⊢; omega
end
end
noncomputable section
set_option maxRecDepth 10000
theorem p8 {α β : Type} {f : α -> β} {l : List α} {x : β} {q : List β} (h : (l.map f).Perm (x :: q)) : ∃ p rs, l.Perm (p :: rs) /\ f p = x /\ (rs.map f).Perm q := by
 have e : x ∈ l.map f := h.mem_iff.2 (List.mem_cons_self ..);obtain ⟨p, hp, rfl⟩ := List.mem_map.1 e;obtain ⟨s, t, rfl⟩ := List.append_of_mem hp;have h1 : (s ++ p :: t).Perm (p :: (s ++ t)) := List.perm_middle;refine ⟨p, s ++ t, h1, rfl, ?_⟩;have h2 := (h1.map f).symm.trans h;rw [pC] at h2;exact h2.cons_inv
theorem uJ {K V : Type} {eq : K -> K -> Bool} {k : K} {z v : V} {m : List (K × V)} (h : mGet eq k m = some v) : rr eq k z m = some (v, true) := by
 unfold rr; rw [h]
theorem fA {K V : Type} {eq : K -> K -> Bool} {k : K} {z : V} {m : List (K × V)} (h : mGet eq k m = none) : rr eq k z m = some (z, false) := by
 unfold rr; rw [h]
section
variable {M : Nat} {q : zo} {T : Nat} {h : HR} {hs hs' : List HR}
theorem PQ.re (Q : PQ M q T (h :: hs)) {rs : List (zf × It)} (hp : h.rs.Perm rs) : PQ M q T (⟨h.ref, h.k, h.r, h.C, rs⟩ :: hs) := by
 have j : (allR (h :: hs)).Perm (allR (⟨h.ref, h.k, h.r, h.C, rs⟩ :: hs)) := by rw [wX, wX]; exact hp.append_right _
 have i : ∀ p, p ∈ allR (h :: hs) ↔ p ∈ allR (⟨h.ref, h.k, h.r, h.C, rs⟩ :: hs) := fun p => j.mem_iff
 have hv : h.val = (⟨h.ref, h.k, h.r, h.C, rs⟩ : HR).val := by simp only [HR.val, hp.length_eq]
 refine ⟨Q.ih, Q.ii, fun s u => (Q.hl s u).trans ?_, fun s u => (Q.il s u).trans ?_, Q.at1, fun c s => (Q.at2 c s).trans ?_, Q.en1, fun s e => (Q.en2 s e).trans ?_, ?_, Q.hn, ((j.map _).nodup_iff).1 Q.rn, ((j.map _).nodup_iff).1 Q.sn, ?_, Q.mi, Q.mm, Q.mb, Q.ci.trans ?_, Q.ch, Q.cm, fun p hh => Q.sr p ((i p).2 hh), Q.sq⟩
 ·simp only [iC, exists_eq_or_imp, hv]
 ·simp only [iC, exists_eq_or_imp, hp.mem_iff]
 ·constructor
  ·rintro ⟨p, hp, e⟩; exact ⟨p, (i p).1 hp, e⟩
  ·rintro ⟨p, hp, e⟩; exact ⟨p, (i p).2 hp, e⟩
 ·constructor
  ·rintro ⟨p, hp, e⟩; exact ⟨p, (i p).1 hp, e⟩
  ·rintro ⟨p, hp, e⟩; exact ⟨p, (i p).2 hp, e⟩
 ·intro g l;rcases List.mem_cons.1 l with rfl | l
  ·have := Q.hk h (List.mem_cons_self ..);exact ⟨this.1, this.2.p (hp.map _) (.refl _)⟩
  ·exact Q.hk g (mC _ l)
 ·exact Q.ar
 ·rw [j.length_eq]
theorem PQ.Am (Q : PQ M q T hs) {a : zb} (h : ∃ κ n, κ.C = 2 * M /\ Ar κ n a (allC hs)) : PQ M (zo.mk q.items a q.t_ q.entries q.serial) T hs :=
 ⟨Q.ih, Q.ii, Q.hl, Q.il, Q.at1, Q.at2, Q.en1, Q.en2, Q.hk, Q.hn, Q.rn, Q.sn, h, Q.mi, Q.mm, Q.mb, Q.ci, Q.ch, Q.cm, Q.sr, Q.sq⟩
theorem PQ.lat (Q : PQ M q T hs) {p : zf × It} (hp : p ∈ allR hs) : mGet kI (p.2.i : Int) q.t_.at_ = some p.1 := (Q.at2 _ _).2 ⟨p, hp, rfl, rfl⟩
theorem PQ.len (Q : PQ M q T hs) {p : zf × It} (hp : p ∈ allR hs) : mGet zf.eq p.1 q.entries = some ⟨p.2.k, p.2.s⟩ := (Q.en2 _ _).2 ⟨p, hp, rfl, rfl⟩
theorem oV {g : HR} (e : g ∈ hs) {p : zf × It} (hp : p ∈ g.rs) : p ∈ allR hs := List.mem_flatMap.2 ⟨g, e, hp⟩
theorem PQ.drop {p : zf × It} {rs : List (zf × It)} {r' : Int} {C' : Heap} {a2 : zb} {κ : Cfg} {n : Nat} (Q : PQ M q T (h :: hs)) (hp : h.rs = p :: rs) (B : h.rs.length < 4096) (hk : HK (KD h.k) r' (rs.map Prod.snd) C') (H : Ar κ n a2 (C' ++ ((p.2.i, p.2.cell (-1)) :: allC hs))) (U : κ.C = 2 * M) :
  Do (xz q.t_ h.ref r' (w64 ((h.rs.length : Int) - 1))) fun t1 => Do (ue (zo.mk q.items a2 t1.2 q.entries q.serial) p.1) fun res => ∃ F, res = (⟨p.2.k, p.2.s⟩, F) /\ PQ M F T (⟨h.ref, h.k, r', C', rs⟩ :: hs) /\ Ar κ (n + 1) F.a_ (C' ++ allC hs) /\ F.serial = q.serial := by
 have hm : h ∈ h :: hs := List.mem_cons_self ..;have I := Q.hk h hm;have l : allR (h :: hs) = p :: (rs ++ allR hs) := by rw [wX, hp]; rfl
 have D : p ∈ allR (h :: hs) := by rw [l]; exact List.mem_cons_self ..
 have z : ∀ p' ∈ rs ++ allR hs, p'.1 ≠ p.1 := by
  have := Q.rn;rw [l, pC, List.nodup_cons] at this;intro p' j e;exact this.1 (e ▸ List.mem_map_of_mem (f := Prod.fst) j)
 have x : ∀ p', p' ∈ allR (h :: hs) ↔ p' = p \/ p' ∈ rs ++ allR hs := fun p' => by rw [l, iC]
 have J : ∀ p' ∈ rs ++ allR hs, (p'.2.i : Int) ≠ (p.2.i : Int) := by
  intro p' j e;have O := Q.lat ((x p').2 (Or.inr j));rw [e, Q.lat D] at O;exact z p' j (Option.some.inj O).symm
 have A : Pt.Live q.t_.items p.1 ⟨(p.2.i : Int), h.ref⟩ := (Q.il _ _).2 ⟨h, hm, p, by rw [hp]; exact List.mem_cons_self .., rfl, rfl⟩;have hw : w64 ((h.rs.length : Int) - 1) = (rs.length : Int) := by
  rw [hp] at B ⊢;simp only [lC] at B ⊢;rw [zG] <;> omega
 rw [hw];refine Do.of (PQ.root Q.ih (Q.live hm) r' rs.length) ?_;unfold ue tB;simp only;rw [Pt.rm Q.ii A];simp only [bS];rw [show ((0 : Int) == 0) = true from rfl, cT];simp only [bS];refine ((H.p (List.perm_middle (l₁ := C') (l₂ := allC hs))).give).bind ?_;rintro _ ⟨a3, rfl, S⟩;rw [uJ (Q.len D)];refine ⟨_, rfl, _, rfl, ?_, S, rfl⟩;refine ⟨?_, Pt.pN Q.ii A, ?_, ?_, sY Q.at1, ?_, sY Q.en1, ?_, ?_, Q.hn, ?_, ?_, ⟨κ, _, U, S⟩, Q.mi, Q.mm, Q.mb, ?_, ?_, Q.cm, ?_, Q.sq⟩
 ·exact Ph.rJ Q.ih (Q.live hm) (zB.mk h.k r' (rs.length : Int))
 ·refine gk Q.hl Q.hn rfl fun s u => ?_
  have := Ph.tI (Q.live hm) (zB.mk h.k r' (rs.length : Int)) s u;simpa [HR.val] using this
 ·intro s u;refine (Pt.qd A s u).trans ⟨?_, ?_⟩
  ·rintro ⟨y, hl⟩;obtain ⟨g, t, p', j, rfl, rfl⟩ := (Q.il _ _).1 hl;rcases List.mem_cons.1 t with rfl | t
   ·rw [hp] at j;rcases List.mem_cons.1 j with rfl | j
    ·exact absurd rfl y
    ·exact ⟨_, List.mem_cons_self .., p', j, rfl, rfl⟩
   ·exact ⟨g, mC _ t, p', j, rfl, rfl⟩
  ·rintro ⟨g, t, p', j, rfl, rfl⟩;rcases List.mem_cons.1 t with rfl | t
   ·exact ⟨z p' (mL _ j), (Q.il _ _).2 ⟨h, hm, p', by rw [hp]; exact mC _ j, rfl, rfl⟩⟩
   ·exact ⟨z p' (List.mem_append_right _ (oV t j)), (Q.il _ _).2 ⟨g, mC _ t, p', j, rfl, rfl⟩⟩
 ·intro c s;refine (qy aF Q.at1).trans ⟨?_, ?_⟩
  ·rintro ⟨y, t⟩;obtain ⟨p', j, rfl, rfl⟩ := (Q.at2 _ _).1 t;rcases (x p').1 j with rfl | j
   ·exact absurd rfl y
   ·exact ⟨p', j, rfl, rfl⟩
  ·rintro ⟨p', j, rfl, rfl⟩;exact ⟨J p' j, (Q.at2 _ _).2 ⟨p', (x p').2 (Or.inr j), rfl, rfl⟩⟩
 ·intro s e;refine (qy uj Q.en1).trans ⟨?_, ?_⟩
  ·rintro ⟨y, t⟩;obtain ⟨p', j, rfl, rfl⟩ := (Q.en2 _ _).1 t;rcases (x p').1 j with rfl | j
   ·exact absurd rfl y
   ·exact ⟨p', j, rfl, rfl⟩
  ·rintro ⟨p', j, rfl, rfl⟩;exact ⟨z p' j, (Q.en2 _ _).2 ⟨p', (x p').2 (Or.inr j), rfl, rfl⟩⟩
 ·intro g t;rcases List.mem_cons.1 t with rfl | t
  ·exact ⟨I.1, hk⟩
  ·exact Q.hk g (mC _ t)
 ·have := Q.rn;rw [l, pC, List.nodup_cons] at this;exact this.2
 ·have := Q.sn;rw [l, pC, List.nodup_cons] at this;exact this.2
 ·have := Q.ci;rw [l] at this;simp only [mSet, List.length_set, lA, lC, List.length_nil, wX] at this ⊢;omega
 ·have := Q.ch;simpa [mSet] using this
 ·intro p' j;exact Q.sr p' ((x p').2 (Or.inr j))
theorem PQ.low {p : zf × It} {y : It} {rs : List (zf × It)} {r' : Int} {C' : Heap} {a2 : zb} {κ : Cfg} {n : Nat} (Q : PQ M q T (h :: hs)) (hp : h.rs = p :: rs) (hi : y.i = p.2.i) (J : y.s = p.2.s) (hk : HK (KD h.k) r' (y :: rs.map Prod.snd) C') (H : Ar κ n a2 (C' ++ allC hs)) (O : κ.C = 2 * M) :
  PQ M (zo.mk q.items a2 (zj.mk (zh.mk q.t_.heaps.most (mSet q.t_.heaps.l h.ref.At ⟨h.ref.Gen, true, ⟨h.k, r', (h.rs.length : Int)⟩⟩) q.t_.heaps.free) q.t_.items q.t_.at_) (mPut zf.eq p.1 ⟨y.k, y.s⟩ q.entries) q.serial) T (⟨h.ref, h.k, r', C', (p.1, y) :: rs⟩ :: hs) := by
 have hm : h ∈ h :: hs := List.mem_cons_self ..;have D := Q.hk h hm;have x : allR (h :: hs) = p :: (rs ++ allR hs) := by rw [wX, hp]; rfl
 have B : p ∈ allR (h :: hs) := by rw [x]; exact List.mem_cons_self ..
 have F : ∀ p' ∈ rs ++ allR hs, p'.1 ≠ p.1 := by
  have := Q.rn;rw [x, pC, List.nodup_cons] at this;intro p' j e;exact this.1 (e ▸ List.mem_map_of_mem (f := Prod.fst) j)
 have A : ∀ p', p' ∈ allR (h :: hs) ↔ p' = p \/ p' ∈ rs ++ allR hs := fun p' => by rw [x, iC]
 have t : ∀ p', p' ∈ allR (⟨h.ref, h.k, r', C', (p.1, y) :: rs⟩ :: hs) ↔ p' = (p.1, y) \/ p' ∈ rs ++ allR hs := fun p' => by rw [wX]; exact iC
 have hlen : h.rs.length = ((p.1, y) :: rs).length := by rw [hp]; rfl
 refine ⟨?_, Q.ii, ?_, ?_, Q.at1, ?_, sf uj Q.en1, ?_, ?_, Q.hn, ?_, ?_, ⟨κ, _, O, H⟩, Q.mi, Q.mm, Q.mb, ?_, ?_, Q.cm, ?_, Q.sq⟩
 ·exact Ph.rJ Q.ih (Q.live hm) (zB.mk h.k r' (h.rs.length : Int))
 ·refine gk Q.hl Q.hn rfl fun s u => ?_
  have := Ph.tI (Q.live hm) (zB.mk h.k r' (h.rs.length : Int)) s u;simpa only [HR.val, hlen] using this
 ·intro s u;refine (Q.il s u).trans ⟨?_, ?_⟩
  ·rintro ⟨g, z, p', j, rfl, rfl⟩;rcases List.mem_cons.1 z with rfl | z
   ·rw [hp] at j;rcases List.mem_cons.1 j with rfl | j
    ·exact ⟨_, List.mem_cons_self .., _, List.mem_cons_self .., rfl, by rw [hi]⟩
    ·exact ⟨_, List.mem_cons_self .., p', mC _ j, rfl, rfl⟩
   ·exact ⟨g, mC _ z, p', j, rfl, rfl⟩
  ·rintro ⟨g, z, p', j, rfl, rfl⟩;rcases List.mem_cons.1 z with rfl | z
   ·rcases List.mem_cons.1 j with rfl | j
    ·exact ⟨h, hm, p, by rw [hp]; exact List.mem_cons_self .., rfl, by simp only [hi]⟩
    ·exact ⟨h, hm, p', by rw [hp]; exact mC _ j, rfl, rfl⟩
   ·exact ⟨g, mC _ z, p', j, rfl, rfl⟩
 ·intro c s;refine (Q.at2 c s).trans ⟨?_, ?_⟩
  ·rintro ⟨p', j, rfl, rfl⟩;rcases (A p').1 j with rfl | j
   ·exact ⟨_, (t _).2 (Or.inl rfl), by simp only [hi], rfl⟩
   ·exact ⟨_, (t _).2 (Or.inr j), rfl, rfl⟩
  ·rintro ⟨p', j, rfl, rfl⟩;rcases (t p').1 j with rfl | j
   ·exact ⟨_, B, by simp only [hi], rfl⟩
   ·exact ⟨_, (A _).2 (Or.inr j), rfl, rfl⟩
 ·intro s e;refine (rA uj).trans ⟨?_, ?_⟩
  ·rintro (⟨rfl, rfl⟩ | ⟨I, z⟩)
   ·exact ⟨_, (t _).2 (Or.inl rfl), rfl, rfl⟩
   ·obtain ⟨p', j, rfl, rfl⟩ := (Q.en2 _ _).1 z;rcases (A p').1 j with rfl | j
    ·exact absurd rfl I
    ·exact ⟨p', (t _).2 (Or.inr j), rfl, rfl⟩
  ·rintro ⟨p', j, rfl, rfl⟩;rcases (t p').1 j with rfl | j
   ·exact Or.inl ⟨rfl, rfl⟩
   ·exact Or.inr ⟨F p' j, (Q.en2 _ _).2 ⟨p', (A p').2 (Or.inr j), rfl, rfl⟩⟩
 ·intro g z;rcases List.mem_cons.1 z with rfl | z
  ·exact ⟨D.1, hk⟩
  ·exact Q.hk g (mC _ z)
 ·have := Q.rn;rw [x] at this;exact this
 ·have := Q.sn;rw [x] at this;show (((p.1, y) :: (rs ++ allR hs)).map fun p => p.2.s).Nodup;simp only [pC, J] at this ⊢;exact this
 ·have := Q.ci;rw [x] at this;simp only [lA, lC, wX] at this ⊢;omega
 ·have := Q.ch;simpa [mSet] using this
 ·intro p' j;rcases (t p').1 j with rfl | j
  ·simp only [J]; exact Q.sr p B
  ·exact Q.sr p' ((A p').2 (Or.inr j))
def okA (i : zf) (p : It) : zK := zK.mk 0 (zf.mk 0 0) i (zi.mk p.k p.s) 0
theorem PQ.min (Q : PQ M q T (h :: hs)) (z : h.rs.length < 1000) {f : Nat} (hf : 95000 < f) :
  Do (vk f q h.ref false) fun res => ∃ i, PQ M i T (h :: hs) /\ i.serial = q.serial /\ Stp' q i 100 /\ ((h.rs = [] /\ res = (zK.mk 27 (zf.mk 0 0) (zf.mk 0 0) (zi.mk 0 0) 0, i)) \/ ∃ p ∈ h.rs, res = (okA p.1 p.2, i) /\ ∀ p' ∈ h.rs, ¬ p'.2.lt p.2) := by
 have hm : h ∈ h :: hs := List.mem_cons_self ..;have j := Q.hk h hm;obtain ⟨κ, n, A, B⟩ := Q.ar;have H := B.yO;unfold vk;rw [Q.heap hm];simp only [bS];refine Do.f rfl ?_;refine Do.if (fun e => ?_) (fun e => ?_)
 ·have D : h.rs = [] := by
   have : (h.rs.length : Int) = 0 := by simpa using e
   exact List.eq_nil_of_length_eq_zero (by omega)
  exact ⟨_, rfl, q, Q, rfl, ⟨Int.le_refl _, by omega⟩, Or.inl ⟨D, rfl⟩⟩
 ·refine Do.t rfl ?_;refine (Bz (f := f) j.1 j.2 H (by rw [HR.vK]; omega) hf).bind ?_;rintro _ ⟨a1, H1, h1⟩;rcases h1 with ⟨F, _⟩ | ⟨x, I, rfl, l⟩
  ·have := HR.vK h;rw [F] at this;simp at this;rw [<- this] at e; simp at e
  ·obtain ⟨p, hp, rfl⟩ := List.mem_map.1 I;have u := oV hm hp;unfold ug;simp only;rw [uJ (Q.lat u)];simp only [bS];rw [uJ (Q.len u)];refine ⟨_, rfl, _, Q.Am (a := a1) ⟨⟨κ.C, q.a_.m_.steps, κ.g, κ.mo⟩, _, A, H1⟩, rfl, ⟨H1.lo, by have := H1.hi; simp only at this ⊢; omega⟩, Or.inr ⟨p, hp, rfl, fun p' y => l _ (List.mem_map_of_mem (f := Prod.snd) y)⟩⟩
theorem PQ.pop (Q : PQ M q T (h :: hs)) (J : h.rs.length < 1000) (y : h.rs ≠ []) {f : Nat} (hf : 95000 < f) :
  Do (vk f q h.ref true) fun res => ∃ p rs r' C' j, res = (okA p.1 p.2, j) /\ h.rs.Perm (p :: rs) /\ (∀ p' ∈ h.rs, ¬ p'.2.lt p.2) /\ PQ M j T (⟨h.ref, h.k, r', C', rs⟩ :: hs) /\ j.serial = q.serial /\ Stp' q j (bd h.k h.rs.length + 1) := by
 have hm : h ∈ h :: hs := List.mem_cons_self ..;have l := Q.hk h hm;obtain ⟨κ, n, O, S⟩ := Q.ar;have H := S.yO;have U : h.rs.length ≠ 0 := fun e => y (List.eq_nil_of_length_eq_zero e)
 unfold vk;rw [Q.heap hm];simp only [bS];refine Do.f rfl ?_;refine Do.f (by simp; omega) ?_;refine Do.f rfl ?_;refine (BR (f := f) l.1 l.2 H (by intro e; have := HR.vK h; rw [e] at this; simp at this; omega) (by rw [HR.vK]; omega) hf).bind ?_;rintro _ ⟨x, q0, r', C', a1, rfl, z, t, h1, H1⟩;obtain ⟨p, rs, i, rfl, hq⟩ := p8 z;have A : p ∈ h.rs := i.mem_iff.2 (List.mem_cons_self ..);have B := oV hm A;unfold ug;simp only;rw [uJ (Q.lat B)];simp only [bS];have D := (Q.re i).drop (p := p) (rs := rs) (r' := r') (C' := C') (a2 := a1) rfl (by simp only [<- i.length_eq]; omega) (h1.p hq.symm (.refl _)) H1 O;simp only [<- i.length_eq] at D;refine D.bind fun t1 D => D.bind ?_
 rintro _ ⟨j, rfl, W, I, u⟩;refine ⟨_, rfl, p, rs, r', C', j, rfl, i, fun p' F => t _ (List.mem_map_of_mem (f := Prod.snd) F), W, u, I.lo, ?_⟩;have := I.hi;rw [HR.vK] at this;simp only at this ⊢; omega
theorem PQ.cell (Q : PQ M q T hs) {g : HR} (e : g ∈ hs) {p : zf × It} (hp : p ∈ g.rs) : yu q.t_.items p.1 = some (⟨(p.2.i : Int), g.ref⟩, 0) := Pt.wW Q.ii ((Q.il _ _).2 ⟨g, e, p, hp, rfl, rfl⟩)
theorem PQ.remove (Q : PQ M q T (h :: hs)) (A : h.rs.length < 1000) {p : zf × It} (hp : p ∈ h.rs) {f : Nat} (hf : 95000 < f) :
  Do (uv f q p.1) fun res => ∃ rs r' C' j, res = (okA (zf.mk 0 0) p.2, j) /\ h.rs.Perm (p :: rs) /\ PQ M j T (⟨h.ref, h.k, r', C', rs⟩ :: hs) /\ j.serial = q.serial /\ Stp' q j (bd h.k h.rs.length + 1) := by
 have hm : h ∈ h :: hs := List.mem_cons_self ..;have l := Q.hk h hm;obtain ⟨κ, n, B, F⟩ := Q.ar;have H := F.yO;have I := Q.cell hm hp;unfold uv vv ui;rw [I];simp only [bS];refine Do.f rfl ?_;rw [Q.heap hm];simp only [bS];refine (BV (f := f) (x := p.2) l.1 l.2 (List.mem_map_of_mem (f := Prod.snd) hp) H (by rw [HR.vK]; omega) hf).bind ?_;rintro _ ⟨q0, r', C', a1, rfl, y, h1, H1⟩;obtain ⟨s, t, e⟩ := List.append_of_mem hp;have i : h.rs.Perm (p :: (s ++ t)) := by rw [e]; exact List.perm_middle
 have hq : ((s ++ t).map Prod.snd).Perm q0 := by
  have := (i.map Prod.snd).symm.trans y;rw [pC] at this;exact this.cons_inv
 have D := (Q.re i).drop (p := p) (rs := s ++ t) (r' := r') (C' := C') (a2 := a1) rfl (by simp only [<- i.length_eq]; omega) (h1.p hq.symm (.refl _)) H1 B;simp only [<- i.length_eq] at D;refine D.bind fun t1 D => D.bind ?_
 rintro _ ⟨j, rfl, J, z, u⟩;refine ⟨_, rfl, s ++ t, r', C', j, rfl, i, J, u, z.lo, ?_⟩;have := z.hi;rw [HR.vK] at this;simp only at this ⊢; omega
theorem PQ.cc (Q : PQ M q T (h :: hs)) (F : h.rs.length < 1000) {p : zf × It} (hp : p ∈ h.rs) {f : Nat} (hf : 95000 < f) {key : Int} (l : key <= p.2.k) (I : Int) (hh o : zf) :
  Do (vP f q (yk.mk 5 I hh o p.1 key)) fun res => ∃ rs r' C' x, res = (okA (zf.mk 0 0) ⟨p.2.i, key, p.2.s⟩, x) /\ h.rs.Perm (p :: rs) /\ PQ M x T (⟨h.ref, h.k, r', C', (p.1, ⟨p.2.i, key, p.2.s⟩) :: rs⟩ :: hs) /\ x.serial = q.serial /\ Stp' q x (bd h.k h.rs.length + 2) := by
 have hm : h ∈ h :: hs := List.mem_cons_self ..;have u := Q.hk h hm;obtain ⟨κ, n, J, O⟩ := Q.ar;have H := O.yO;have S := Q.cell hm hp;have z := oV hm hp;unfold vP vv ui;rw [S];simp only [bS];rw [uJ (Q.len z)];simp only [bS];refine Do.f rfl ?_;refine Do.f (dF (by omega)) ?_;rw [Q.heap hm];simp only [bS];refine (u.2.lower H (List.mem_map_of_mem (f := Prod.snd) hp) l).bind ?_;rintro _ ⟨U, a1, rfl, h1, H1⟩;refine (AO (f := f) (y := ⟨p.2.i, key, p.2.s⟩) u.1 h1 rfl (by unfold It.lt; simp only; omega) H1 (by rw [HR.vK]; omega) hf).bind ?_;rintro _ ⟨r', q0, C', a2, rfl, A, h2, B⟩;obtain ⟨s, t, e⟩ := List.append_of_mem hp;have j : h.rs.Perm (p :: (s ++ t)) := by rw [e]; exact List.perm_middle
 have hq : ((s ++ t).map Prod.snd).Perm q0 := by
  have := (j.map Prod.snd).symm.trans A;rw [pC] at this;exact this.cons_inv
 have D := (Q.re j).low (p := p) (y := ⟨p.2.i, key, p.2.s⟩) (rs := s ++ t) (r' := r') (C' := C') (a2 := a2) rfl rfl rfl (h2.p (hq.symm.cons _) (.refl _)) B J;simp only [<- j.length_eq] at D;refine Do.seq (PQ.root Q.ih (Q.live hm) r' h.rs.length) ?_;refine ⟨_, rfl, s ++ t, r', C', _, rfl, j, D, rfl, B.lo, ?_⟩;have := B.hi;rw [HR.vK] at this;simp only at this ⊢; omega
end
end
noncomputable section
set_option maxRecDepth 10000
namespace Pt
def refs : List zp -> Nat -> List zf
 | [], _ => []
 | x :: l, i => (if x.taken = true then [zf.mk (i : Int) x.gen] else []) ++ refs l (i + 1)
theorem rH {r : zf} : ∀ {l : List zp} {i : Nat}, r ∈ refs l i ↔ ∃ (j : Nat) (x : zp), r.At = ((i + j : Nat) : Int) /\ l[j]? = some x /\ x.taken = true /\ r.Gen = x.gen
 | [], i => by simp [refs]
 | x :: l, i => by
  rw [refs, iA, rH];constructor
  ·rintro (h | ⟨j, y, e, h, ht, t⟩)
   ·split at h
    ·rw [List.mem_singleton.1 h]; exact ⟨0, x, rfl, rfl, by assumption, rfl⟩
    ·cases h
   ·exact ⟨j + 1, y, by rw [e]; congr 1; omega, h, ht, t⟩
  ·rintro ⟨j, y, e, h, ht, t⟩;cases j with
   | zero =>
    simp only [List.getElem?_cons_zero, Option.some.injEq] at h;subst h
    left
    rw [if_pos ht];cases r; simp only at e t ⊢; rw [e, t]; simp
   | succ j => exact Or.inr ⟨j, y, by rw [e]; congr 1; omega, h, ht, t⟩
theorem jA {r : zf} {l : List zp} {i : Nat} (h : r ∈ refs l i) : (i : Int) <= r.At := by
 obtain ⟨j, x, e, _⟩ := rH.1 h;omega
theorem ru : ∀ {l : List zp} {i : Nat}, (refs l i).Nodup
 | [], i => List.nodup_nil
 | x :: l, i => by
  rw [refs];refine List.nodup_append.2 ⟨by split <;> simp, ru, fun a ha b j e => ?_⟩;have := jA j;split at ha
  ·rw [List.mem_singleton.1 ha] at e; subst e; simp only at this; omega
  ·cases ha
theorem pQ : ∀ {l : List zp} {i : Nat}, (refs l i).length <= l.length
 | [], i => Nat.le_refl _
 | x :: l, i => by
  have := pQ (l := l) (i := i + 1);rw [refs, lA, lC];split <;> simp <;> omega
theorem jf {p : ze} (hl : p.l.length <= 65536) : ∀ (rest pre : List zp) (out : List zf) (m : Nat), p.l = pre ++ rest -> out.length <= pre.length -> rest.length < m ->
  yT (p.l.length : Int) p m out (pre.length : Int) = some (out ++ refs rest pre.length)
 | [], pre, out, m + 1, e, j, hm => by
  unfold yT;rw [dF (by rw [e]; simp), cF, refs, aN]
 | x :: rest, pre, out, m + 1, e, j, hm => by
  have hlen : p.l.length = pre.length + (rest.length + 1) := by rw [e]; simp
  have ih := jf hl rest (pre ++ [x]) (out ++ (if x.taken = true then [zf.mk (pre.length : Int) x.gen] else [])) m (by rw [e]; simp) (by rw [lA, lA]; split <;> simp <;> omega) (by simp only [lC] at hm; omega);have i : mIdx p.l (pre.length : Int) = some x := by rw [e]; exact yF pre rest x
  unfold yT;rw [dT (by omega), cT, i];simp only [bS];rw [zG (by omega) (by omega)];rw [show ((pre ++ [x]).length : Int) = (pre.length : Int) + 1 by simp] at ih;rw [show (pre ++ [x]).length = pre.length + 1 by simp] at ih;rw [refs, <- aA];cases ht : x.taken with
  | true =>
   rw [ht, if_pos rfl] at ih;rw [cT, xd (by simp only [List.length_singleton]; omega)];simp only [bS, if_true];exact ih
  | false =>
   rw [ht] at ih;simp only [Bool.false_eq_true, if_false, aN, cF, bS] at ih ⊢;exact ih
section
variable {p : ze} {T : Nat}
def out (p : ze) : List zf := refs p.l 0
theorem Inv.lb (I : Inv p T) : p.l.length <= 65536 := by have := I.len; have := I.most; omega
theorem qs (I : Inv p T) {k : Nat} (hk : 65536 < k) : xX k p = some (out p) := by
 have := I.lb;unfold xX;rw [show (0 : Int) = (([] : List zp).length : Int) from rfl, jf this p.l [] [] k rfl (Nat.le_refl _) (by omega)]
 rfl
theorem nu {r : zf} : r ∈ out p ↔ ∃ v, Live p r v := by
 unfold out Live;rw [rH];constructor
 ·rintro ⟨j, x, e, h, ht, i⟩;refine ⟨x.v_, j, by rw [e]; congr 1; omega, ?_⟩;rw [h]; cases x; simp only at ht i ⊢; rw [ht, i]
 ·rintro ⟨v, j, e, h⟩;exact ⟨j, _, by rw [e]; congr 1; omega, h, rfl, rfl⟩
theorem nP : (out p).Nodup := ru
theorem Inv.hJ (I : Inv p T) : (out p).length <= 65536 := Nat.le_trans pQ I.lb
theorem jH {n : Int} (h0 : 0 <= n) (h1 : n <= 65536) (T : Nat) : Inv (ze.mk n [] []) T :=
 ⟨⟨h0, h1⟩, by simpa using h0, by simp, List.nodup_nil, by simp, by simp⟩
theorem iT {n : Int} {r : zf} {v : zA} : ¬ Live (ze.mk n [] []) r v := by
 rintro ⟨j, _, h⟩; simp at h
theorem Inv.mono {T' : Nat} (I : Inv p T) (h : T <= T') : Inv p T' := { I with gen := fun j x e => by have := I.gen j x e; omega }
end
end Pt
end
noncomputable section
set_option maxRecDepth 10000
def nU (p : ze) (g : zf) (r : zf) : Bool := match yu p r with
 | some v => zf.eq v.1.heap g
 | none => false
theorem jO {t : zj} {T : Nat} (I : Pt.Inv t.items T) (g : zf) (l : List zf) (hl : l.length <= 65536) (hv : ∀ r ∈ l, ∃ v, Pt.Live t.items r v) :
  ∀ (rest pre out : List zf) (m : Nat), l = pre ++ rest -> out.length <= pre.length -> rest.length < m -> xS (l.length : Int) t l g.At g.Gen m out (pre.length : Int) = some (out ++ rest.filter (nU t.items g))
 | [], pre, out, m + 1, e, y, hm => by
  unfold xS;rw [dF (by rw [e]; simp), cF]; simp
 | x :: rest, pre, out, m + 1, e, y, hm => by
  have hlen : l.length = pre.length + (rest.length + 1) := by rw [e]; simp
  obtain ⟨v, z⟩ := hv x (by rw [e]; simp);have i := Pt.wW I z;have j : nU t.items g x = zf.eq v.heap g := by unfold nU; rw [i]
  have u : mIdx l (pre.length : Int) = some x := by rw [e]; exact yF pre rest x
  simp only [lC] at hm;unfold xS;rw [dT (by omega), cT, u];simp only [bS];rw [i];simp only [bS];rw [zG (by omega) (by omega), List.filter_cons, j, show (zf.mk g.At g.Gen) = g from rfl];cases A : zf.eq v.heap g with
  | true =>
   have ih := jO I g l hl hv rest (pre ++ [x]) (out ++ [x]) m (by rw [e]; simp) (by simp; omega) (by omega);rw [show ((pre ++ [x]).length : Int) = (pre.length : Int) + 1 by simp] at ih;rw [cT, xd (by simp only [List.length_singleton]; omega)];simp only [bS, if_true];rw [ih]; simp
  | false =>
   have ih := jO I g l hl hv rest (pre ++ [x]) out m (by rw [e]; simp) (by simp; omega) (by omega);rw [show ((pre ++ [x]).length : Int) = (pre.length : Int) + 1 by simp] at ih;rw [cF];simp only [bS, Bool.false_eq_true, if_false];exact ih
theorem fF {h g : zf} {T : Nat} (l : List zf) (hl : l.length <= 65536) (hn : l.Nodup) {p0 : ze} (h0 : ∀ r ∈ l, ∃ c, Pt.Live p0 r ⟨c, g⟩) :
  ∀ (rest pre : List zf) (t : zj) (m : Nat), l = pre ++ rest -> rest.length < m -> Pt.Inv t.items T -> t.items.most = p0.most -> t.items.l.length = p0.l.length -> t.items.free = p0.free ->
   (∀ s u, Pt.Live t.items s u ↔ (s ∈ pre /\ ∃ c, Pt.Live p0 s ⟨c, g⟩ /\ u = ⟨c, h⟩) \/ (s ∉ pre /\ Pt.Live p0 s u)) ->
   ∃ p', xU (l.length : Int) l g.At g.Gen h.At h.Gen m (pre.length : Int) t = some (zj.mk t.heaps p' t.at_) /\ Pt.Inv p' T /\ p'.most = p0.most /\ p'.l.length = p0.l.length /\ p'.free = p0.free /\
    (∀ s u, Pt.Live p' s u ↔ (s ∈ l /\ ∃ c, Pt.Live p0 s ⟨c, g⟩ /\ u = ⟨c, h⟩) \/ (s ∉ l /\ Pt.Live p0 s u))
 | [], pre, t, m + 1, e, hm, I, z, A, B, j => by
  refine ⟨t.items, ?_, I, z, A, B, by rw [e, aN]; exact j⟩;unfold xU;rw [dF (by rw [e]; simp), cF]
 | x :: rest, pre, t, m + 1, e, hm, I, z, A, B, j => by
  have hlen : l.length = pre.length + (rest.length + 1) := by rw [e]; simp
  obtain ⟨c, D⟩ := h0 x (by rw [e]; simp);have y : x ∉ pre := by
   rw [e] at hn;obtain ⟨_, _, h3⟩ := List.nodup_append.1 hn;exact fun hp => h3 x hp x (List.mem_cons_self ..) rfl
  have i : Pt.Live t.items x ⟨c, g⟩ := (j _ _).2 (Or.inr ⟨y, D⟩);have F : mIdx l (pre.length : Int) = some x := by rw [e]; exact yF pre rest x
  simp only [lC] at hm;have J := Pt.rD I i (zA.mk c h);have O := Pt.tI i (zA.mk c h);obtain ⟨p', U, r⟩ := fF l hl hn h0 rest (pre ++ [x]) (zj.mk t.heaps (ze.mk t.items.most (mSet t.items.l x.At ⟨x.Gen, true, zA.mk c h⟩) t.items.free) t.at_) m (by rw [e]; simp) (by omega) (Pt.rJ I i _) z (by simpa [mSet] using A) B (by
   intro s u;refine (O s u).trans ?_;simp only [iA, List.mem_singleton];constructor
   ·rintro (⟨rfl, rfl⟩ | ⟨S, hl⟩)
    ·exact Or.inl ⟨Or.inr rfl, c, D, rfl⟩
    ·rcases (j _ _).1 hl with ⟨h1, h2⟩ | ⟨h1, h2⟩
     ·exact Or.inl ⟨Or.inl h1, h2⟩
     ·exact Or.inr ⟨fun h3 => h3.elim h1 S, h2⟩
   ·rintro (⟨h1 | rfl, c', h2, rfl⟩ | ⟨h1, h2⟩)
    ·exact Or.inr ⟨fun e => y (e ▸ h1), (j _ _).2 (Or.inl ⟨h1, c', h2, rfl⟩)⟩
    ·have := D.uniq h2;simp only [zA.mk.injEq, and_true] at this;exact Or.inl ⟨rfl, by rw [this]⟩
    ·simp only [not_or] at h1;exact Or.inr ⟨h1.2, (j _ _).2 (Or.inr ⟨h1.1, h2⟩)⟩)
  rw [show ((pre ++ [x]).length : Int) = (pre.length : Int) + 1 by simp] at U;refine ⟨p', ?_, r⟩;unfold xU;rw [dT (by omega), cT, F];simp only [bS];rw [Pt.wW I i];simp only [bS];rw [show (zf.mk h.At h.Gen) = h from rfl, J];simp only [bS];rw [zG (by omega) (by omega)];exact U
section
variable {M : Nat} {q : zo} {T : Nat} {h g : HR} {hs hs' : List HR}
theorem aa (hn : (hs.map HR.ref).Nodup) {a b : HR} (ha : a ∈ hs) (l : b ∈ hs) (e : a.ref = b.ref) : a = b := by
 induction hs with
 | nil => cases ha
 | cons c hs ih =>
  rw [pC, List.nodup_cons] at hn;rcases List.mem_cons.1 ha with j | j
  ·rcases List.mem_cons.1 l with i | i
   ·rw [j, i]
   ·exact absurd (by rw [<- j, e]; exact List.mem_map_of_mem (f := HR.ref) i) hn.1
  ·rcases List.mem_cons.1 l with i | i
   ·exact absurd (by rw [<- i, <- e]; exact List.mem_map_of_mem (f := HR.ref) j) hn.1
   ·exact ih hn.2 j i
theorem PQ.meld (Q : PQ M q T (h :: g :: hs)) (Y : h.k = g.k) (b2 : h.rs.length < 256) (b3 : g.rs.length < 256) {f : Nat} (hf : 95000 < f) :
  Do (tn f q h.ref g.ref) fun res => ∃ r' C' q', res = (zK.mk 0 (zf.mk 0 0) (zf.mk 0 0) (zi.mk 0 0) ((h.rs.length : Int) + g.rs.length), q') /\ PQ M q' T (⟨h.ref, h.k, r', C', h.rs ++ g.rs⟩ :: hs) /\ q'.serial = q.serial /\ Stp' q q' (bd h.k (h.rs.length + g.rs.length)) := by
 have hm : h ∈ h :: g :: hs := List.mem_cons_self ..;have B : g ∈ h :: g :: hs := mC _ (List.mem_cons_self ..);have J := Q.hk h hm;have Z := Q.hk g B;rw [<- Y] at Z;have D : h.ref ≠ g.ref := by
  intro e;have := Q.hn;simp [e] at this
 have F := Q.live B;obtain ⟨κ, n, eC, H0⟩ := Q.ar;have H := H0.yO;rw [pZ, pZ] at H;have I := Q.ii;have z : uw f q.t_ g.ref = some ((Pt.out q.t_.items).filter (nU q.t_.items g.ref)) := by
  unfold uw;rw [Pt.qs I (by omega)];simp only [bS];rw [show (0 : Int) = (([] : List zf).length : Int) from rfl, jO I g.ref (Pt.out q.t_.items) I.hJ (fun r hr => Pt.nu.1 hr) (Pt.out q.t_.items) [] [] f (List.nil_append _).symm (Nat.le_refl _) (by have := I.hJ; omega)];simp
 generalize O : (Pt.out q.t_.items).filter (nU q.t_.items g.ref) = l' at z;have x : ∀ r, r ∈ l' ↔ ∃ p ∈ g.rs, r = p.1 := by
  intro r;rw [<- O, List.mem_filter];constructor
  ·rintro ⟨h1, h2⟩;obtain ⟨v, hv⟩ := Pt.nu.1 h1;unfold nU at h2;rw [Pt.wW I hv] at h2;have h3 := (uj _ _).1 h2;obtain ⟨g0, j, p, hp, rfl, rfl⟩ := (Q.il _ _).1 hv;have := aa Q.hn j B h3;subst this;exact ⟨p, hp, rfl⟩
  ·rintro ⟨p, hp, rfl⟩;have hv : Pt.Live q.t_.items p.1 ⟨(p.2.i : Int), g.ref⟩ := (Q.il _ _).2 ⟨g, B, p, hp, rfl, rfl⟩;refine ⟨Pt.nu.2 ⟨_, hv⟩, ?_⟩;unfold nU;rw [Pt.wW I hv];exact (uj _ _).2 rfl
 have S : l'.length <= 65536 := by rw [<- O]; exact Nat.le_trans (List.length_filter_le _ _) I.hJ
 have a0 : l'.Nodup := by rw [<- O]; exact Pt.nP.sublist List.filter_sublist
 obtain ⟨p', e4, I', e5, e6, e7, b0⟩ := fF (h := h.ref) (g := g.ref) l' S a0 (p0 := q.t_.items) (fun r hr => by
  obtain ⟨p, hp, rfl⟩ := (x r).1 hr;exact ⟨_, (Q.il _ _).2 ⟨g, B, p, hp, rfl, rfl⟩⟩) l' [] q.t_ f rfl (by omega) I rfl rfl rfl (fun s u => by simp)
 simp only [List.length_nil] at e4;have A := Q.live hm;have U : uA f q.t_ h.ref g.ref = some (0, zj.mk (zh.mk q.t_.heaps.most (mSet q.t_.heaps.l g.ref.At ⟨g.ref.Gen, false, (zB.mk 0 0 0)⟩) (q.t_.heaps.free ++ [g.ref.At])) p' q.t_.at_) := by
  unfold uA;rw [Ph.wW Q.ih A];simp only [bS];rw [show ((0 : Int) != 0) = false from rfl, cF, Ph.wW Q.ih F];simp only [bS];rw [show ((0 : Int) != 0) = false from rfl, cF, show zf.eq h.ref g.ref = false by simpa using fun e => D ((uj _ _).1 e), cF, show (h.val.kind != g.val.kind) = false by simpa [HR.val] using Y, cF, z];simp only [bS];rw [show ((0 : Nat) : Int) = 0 from rfl] at e4;rw [e4];simp only [bS];rw [Ph.rm Q.ih F]
  rfl
 unfold tn;rw [Q.heap hm];simp only [bS];rw [Q.heap B];simp only [bS];rw [U];simp only [bS];refine Do.f rfl ?_;refine (Bf (f := f) J.1 J.2 Z.2 H (by rw [HR.vK]; omega) (by rw [HR.vK]; omega) hf).bind ?_;rintro _ ⟨r', C', a1, rfl, h1, H1⟩;rw [zG (by omega) (by omega)];have a2 := Ph.pN Q.ih F;have a3 := Ph.qd F;have y := (a3 h.ref h.val).2 ⟨D, A⟩;refine Do.seq (PQ.root (t := zj.mk (zh.mk q.t_.heaps.most (mSet q.t_.heaps.l g.ref.At ⟨g.ref.Gen, false, (zB.mk 0 0 0)⟩) (q.t_.heaps.free ++ [g.ref.At])) p' q.t_.at_) a2 y r' ((h.rs.length : Int) + g.rs.length)) ?_;have X : allR (⟨h.ref, h.k, r', C', h.rs ++ g.rs⟩ :: hs) = allR (h :: g :: hs) := by
  rw [wX, wX, wX, aA]
 have a4 : ((h :: hs).map HR.ref).Nodup := by
  have := Q.hn;simp only [pC, List.nodup_cons, iC, not_or] at this ⊢;exact ⟨this.1.2, this.2.2⟩
 have a5 : ∀ g0 ∈ hs, g0.ref ≠ g.ref := by
  have := Q.hn;simp only [pC, List.nodup_cons] at this;exact fun g0 h0 e => this.2.1 (e ▸ List.mem_map_of_mem (f := HR.ref) h0)
 refine ⟨_, rfl, r', C', _, rfl, ?_, rfl, H1.lo, ?_⟩
 ·refine ⟨?_, I', ?_, ?_, Q.at1, ?_, Q.en1, ?_, ?_, a4, ?_, ?_, ⟨⟨κ.C, q.a_.m_.steps, κ.g, κ.mo⟩, _, eC, H1⟩, Q.mi, e5.trans Q.mm, Q.mb, ?_, ?_, Q.cm, ?_, Q.sq⟩
  ·exact Ph.rJ a2 y (zB.mk h.k r' ((h.rs.length : Int) + g.rs.length))
  ·refine gk (h := h) (P := Ph.Live (zh.mk q.t_.heaps.most (mSet q.t_.heaps.l g.ref.At ⟨g.ref.Gen, false, (zB.mk 0 0 0)⟩) (q.t_.heaps.free ++ [g.ref.At]))) ?_ a4 rfl fun s u => ?_
   ·intro s u;refine (a3 s u).trans ⟨?_, ?_⟩
    ·rintro ⟨a6, hl⟩;obtain ⟨g0, j, rfl, rfl⟩ := (Q.hl _ _).1 hl;simp only [iC] at j;rcases j with rfl | rfl | j
     ·exact ⟨_, List.mem_cons_self .., rfl, rfl⟩
     ·exact absurd rfl a6
     ·exact ⟨g0, mC _ j, rfl, rfl⟩
    ·rintro ⟨g0, j, rfl, rfl⟩;rcases List.mem_cons.1 j with rfl | j
     ·exact ⟨D, A⟩
     ·exact ⟨a5 g0 j, (Q.hl _ _).2 ⟨g0, by simp [j], rfl, rfl⟩⟩
   ·have := Ph.tI y (zB.mk h.k r' ((h.rs.length : Int) + g.rs.length)) s u;simpa [HR.val] using this
  ·intro s u;refine (b0 s u).trans ⟨?_, ?_⟩
   ·rintro (⟨W, c, hc, rfl⟩ | ⟨W, hl⟩)
    ·obtain ⟨p, hp, rfl⟩ := (x s).1 W;have := hc.uniq ((Q.il _ _).2 ⟨g, B, p, hp, rfl, rfl⟩);simp only [zA.mk.injEq, and_true] at this;exact ⟨_, List.mem_cons_self .., p, List.mem_append_right _ hp, rfl, by rw [this]⟩
    ·obtain ⟨g0, j, p, hp, rfl, rfl⟩ := (Q.il _ _).1 hl;simp only [iC] at j;rcases j with rfl | rfl | j
     ·exact ⟨_, List.mem_cons_self .., p, mL _ hp, rfl, rfl⟩
     ·exact absurd ((x _).2 ⟨p, hp, rfl⟩) W
     ·exact ⟨g0, mC _ j, p, hp, rfl, rfl⟩
   ·have key : ∀ g0 ∈ h :: g :: hs, g0.ref ≠ g.ref -> ∀ p ∈ g0.rs, p.1 ∉ l' := by
     intro g0 j a7 p hp hl;obtain ⟨p2, b1, e⟩ := (x _).1 hl;have h5 := (Q.il p.1 _).2 ⟨g0, j, p, hp, rfl, rfl⟩;have h6 := (Q.il p.1 _).2 ⟨g, B, p2, b1, e, rfl⟩;have := h5.uniq h6;simp only [zA.mk.injEq] at this;exact a7 this.2
    rintro ⟨g0, j, p, hp, rfl, rfl⟩;rcases List.mem_cons.1 j with rfl | j
    ·rcases List.mem_append.1 hp with hp | hp
     ·exact Or.inr ⟨key h hm D p hp, (Q.il _ _).2 ⟨h, hm, p, hp, rfl, rfl⟩⟩
     ·exact Or.inl ⟨(x _).2 ⟨p, hp, rfl⟩, _, (Q.il _ _).2 ⟨g, B, p, hp, rfl, rfl⟩, rfl⟩
    ·exact Or.inr ⟨key g0 (by simp [j]) (a5 g0 j) p hp, (Q.il _ _).2 ⟨g0, by simp [j], p, hp, rfl, rfl⟩⟩
  ·rw [X]; exact Q.at2
  ·rw [X]; exact Q.en2
  ·intro g0 j;rcases List.mem_cons.1 j with rfl | j
   ·refine ⟨J.1, ?_⟩;show HK (KD h.k) r' ((h.rs ++ g.rs).map Prod.snd) C';rw [List.map_append]; exact h1
   ·exact Q.hk g0 (by simp [j])
  ·rw [X]; exact Q.rn
  ·rw [X]; exact Q.sn
  ·rw [X];show (p'.l.length : Int) - p'.free.length = _;rw [e6, e7]; exact Q.ci
  ·have := Q.ch;simp only [mSet, List.length_set, lA, lC, List.length_nil] at this ⊢;omega
  ·rw [X]; exact Q.sr
 ·have := H1.hi;rw [HR.vK, HR.vK] at this;simp only at this ⊢; omega
theorem PQ.make (Q : PQ M q T hs) {k : Int} (hk : Kd k) (y : hs.length < 64) (D : T < 4611686018427387000) :
  ∃ r x, uy q.t_ k = some (r, 0, x) /\ PQ M (zo.mk q.items q.a_ x q.entries q.serial) (T + 1) (⟨r, k, -1, [], []⟩ :: hs) := by
 obtain ⟨r, p', e, z, i, A, j, l⟩ := Ph.rY Q.ih (by omega) (by have := Q.ch; have := Q.cm; omega) (zB.mk k (-1) 0);have t : qo k = some true := by
  unfold qo;rcases hk with rfl | rfl | rfl <;> rfl
 refine ⟨r, zj.mk p' q.t_.items q.t_.at_, ?_, ?_⟩
 ·unfold uy;rw [t];simp only [bS];rw [show (!true) = false from rfl, cF, e]
  rfl
 ·have F : allR (⟨r, k, -1, [], []⟩ :: hs) = allR hs := rfl;have B : allC (⟨r, k, -1, [], []⟩ :: hs) = allC hs := rfl;refine ⟨z, Q.ii.mono (by omega), ?_, ?_, Q.at1, Q.at2, Q.en1, Q.en2, ?_, ?_, Q.rn, Q.sn, Q.ar, Q.mi, Q.mm, Q.mb, Q.ci, ?_, j.trans Q.cm, Q.sr, ?_⟩
  ·intro s u;refine (A s u).trans ⟨?_, ?_⟩
   ·rintro (⟨rfl, rfl⟩ | hl)
    ·exact ⟨_, List.mem_cons_self .., rfl, rfl⟩
    ·obtain ⟨g0, h0, e⟩ := (Q.hl _ _).1 hl;exact ⟨g0, mC _ h0, e⟩
   ·rintro ⟨g0, h0, rfl, rfl⟩;rcases List.mem_cons.1 h0 with rfl | h0
    ·exact Or.inl ⟨rfl, rfl⟩
    ·exact Or.inr ((Q.hl _ _).2 ⟨g0, h0, rfl, rfl⟩)
  ·intro s u;refine (Q.il s u).trans ⟨?_, ?_⟩
   ·rintro ⟨g0, h0, e⟩; exact ⟨g0, mC _ h0, e⟩
   ·rintro ⟨g0, h0, p, hp, e⟩;rcases List.mem_cons.1 h0 with rfl | h0
    ·cases hp
    ·exact ⟨g0, h0, p, hp, e⟩
  ·intro g0 h0;rcases List.mem_cons.1 h0 with rfl | h0
   ·exact ⟨hk, Bp hk⟩
   ·exact Q.hk g0 h0
  ·rw [pC, List.nodup_cons];refine ⟨fun hm => ?_, Q.hn⟩;obtain ⟨g0, h0, e⟩ := List.mem_map.1 hm;exact i _ ((Q.hl _ _).2 ⟨g0, h0, e.symm, rfl⟩)
  ·have := Q.ch;simp only [lC] at l ⊢; omega
  ·have := Q.sq; simp only; omega
theorem Ao (h1 : 1 <= M) (h2 : M <= 16384) : ∃ q, iJ (M : Int) = some (some q, 0) /\ PQ M q 0 [] /\ q.serial = 0 /\ q.a_.m_.steps = 0 := by
 obtain ⟨a, i, e⟩ := mc (C := 2 * M) (by omega);have l : w64 (2 * (M : Int)) = ((2 * M : Nat) : Int) := by rw [zG (by omega) (by omega)]; simp
 have t : (if (if 16384 < (M : Int) then 16384 else (M : Int)) > 1 then (if 16384 < (M : Int) then 16384 else (M : Int)) else 1) = (M : Int) := by
  rw [show (if 16384 < (M : Int) then 16384 else (M : Int)) = (M : Int) from if_neg (by omega)]; split <;> omega
 have x : (if (if 65536 < (M : Int) then 65536 else (M : Int)) > 0 then (if 65536 < (M : Int) then 65536 else (M : Int)) else 0) = (M : Int) := by
  rw [show (if 65536 < (M : Int) then 65536 else (M : Int)) = (M : Int) from if_neg (by omega), if_pos (by omega)]
 refine ⟨zo.mk (M : Int) a (zj.mk (zh.mk 64 [] []) (ze.mk (M : Int) [] []) []) [] 0, ?_, ?_, rfl, ?_⟩
 ·unfold iJ;rw [show ((decide ((M : Int) < 1)) || (decide ((M : Int) > 16384))) = false by simp; omega, cF, l, i];simp only [bS];unfold nR uD uc;simp only [bS];rw [t, x]
  rfl
 ·refine ⟨⟨⟨by simp, by simp⟩, by simp, by simp, List.nodup_nil, by simp, by simp⟩, Pt.jH (by omega) (by omega) 0, ?_, ?_, List.nodup_nil, ?_, List.nodup_nil, ?_, ?_, List.nodup_nil, List.nodup_nil, List.nodup_nil, ⟨_, _, rfl, e⟩, rfl, rfl, ⟨h1, h2⟩, rfl, rfl, rfl, ?_, by simp⟩
  ·intro s u;constructor
   ·rintro ⟨j, _, h⟩; simp at h
   ·rintro ⟨g, h, _⟩; cases h
  ·intro s u;constructor
   ·rintro ⟨j, _, h⟩; simp at h
   ·rintro ⟨g, h, _⟩; cases h
  ·intro c s;constructor
   ·intro h; cases h
   ·rintro ⟨p, hp, _⟩; cases hp
  ·intro c s;constructor
   ·intro h; cases h
   ·rintro ⟨p, hp, _⟩; cases hp
  ·intro h hh; cases hh
  ·intro p hp; cases hp
 ·have := e.lo; have := e.hi; simp only at *; omega
end
end
noncomputable section
set_option maxRecDepth 10000
def begun (q : zo) (m : zD) : zo := zo.mk q.items (zb.mk q.a_.l q.a_.never q.a_.free m) q.t_ q.entries q.serial
section
variable {M : Nat} {q : zo} {T : Nat} {h g : HR} {hs hs' : List HR} {f : Nat}
theorem PQ.begin (Q : PQ M q T hs) : ∃ m, u0 q.a_.m_ = some m /\ m.steps = q.a_.m_.steps /\ PQ M (begun q m) T hs := by
 obtain ⟨κ, n, e, H⟩ := Q.ar;refine ⟨_, rfl, rfl, ?_⟩;exact Q.Am ⟨⟨κ.C, q.a_.m_.steps, q.a_.m_.steps, _⟩, 0, e, ⟨H.len, H.cap, H.nev, H.fre, H.hav, H.oth, Int.le_trans H.b0 H.lo, Int.le_refl _, by simp, H.mx, rfl, rfl⟩⟩
theorem nm {q1 q2 : zo} {m : zD} {B : Nat} (e : m.steps = q.a_.m_.steps) (h : Stp' (begun q m) q2 B) : Stp' q q2 B := by
 unfold Stp' at *
 rw [<- e]; exact h
theorem PQ.dy (Q : PQ M q T hs) {k : Int} (hk : Kd k) (j : hs.length < 64) (l : T < 4611686018427387000) {a b c : zf} {key : Int} :
  Do (yh f q (yk.mk 1 k a b c key)) fun res => ∃ r i, res = (zK.mk 0 r (zf.mk 0 0) (zi.mk 0 0) 0, i) /\ PQ M i (T + 1) (⟨r, k, -1, [], []⟩ :: hs) /\ i.serial = q.serial /\ Stp' q i 0 := by
 obtain ⟨m, e, es, u⟩ := Q.begin;unfold yh;refine Do.seq (r := ()) rfl (Do.seq e (Do.t rfl ?_));obtain ⟨r, z, x, y⟩ := u.make hk j l;refine Do.seq x ?_;exact ⟨_, rfl, r, _, rfl, y, rfl, nm (q1 := q) es ⟨Int.le_refl _, by simp [begun]⟩⟩
theorem PQ.cS (Q : PQ M q T (h :: hs)) (j : (allR (h :: hs)).length < M) (u : h.rs.length < 1000) (z : T < 4611686018427387000) (hf : 95000 < f) (y : Int) (key : Int) (o i0 : zf) :
  Do (yh f q (yk.mk 2 y h.ref o i0 key)) fun res => ∃ (i : zf) (x : It) (r' : Int) (C' : Heap) (l : zo), res = (zK.mk 0 (zf.mk 0 0) i (zi.mk key q.serial) 0, l) /\ x.k = key /\ x.s = q.serial /\
   PQ M l (T + 1) (⟨h.ref, h.k, r', C', (i, x) :: h.rs⟩ :: hs) /\ l.serial = q.serial + 1 /\ Stp' q l (bd h.k h.rs.length + 3) := by
 obtain ⟨m, e, es, A⟩ := Q.begin;unfold yh;refine Do.seq (r := ()) rfl (Do.seq e (Do.f rfl (Do.t rfl ?_)));refine (A.insert j u z hf y key o i0).bind ?_;rintro _ ⟨i, x, r', C', l, rfl, h1, h2, h3, h4, B⟩;exact ⟨_, rfl, i, x, r', C', l, rfl, h1, h2, h3, h4, nm (q1 := q) es B⟩
theorem PQ.Bu (Q : PQ M q T (h :: hs)) (j : h.rs.length < 1000) (hf : 95000 < f) {k key : Int} {o i0 : zf} :
  Do (yh f q (yk.mk 3 k h.ref o i0 key)) fun res => ∃ i, PQ M i T (h :: hs) /\ i.serial = q.serial /\ Stp' q i 100 /\ ((h.rs = [] /\ res = (zK.mk 27 (zf.mk 0 0) (zf.mk 0 0) (zi.mk 0 0) 0, i)) \/ ∃ p ∈ h.rs, res = (okA p.1 p.2, i) /\ ∀ p' ∈ h.rs, ¬ p'.2.lt p.2) := by
 obtain ⟨m, e, es, l⟩ := Q.begin;unfold yh;refine Do.seq (r := ()) rfl (Do.seq e (Do.f rfl (Do.f rfl (Do.t rfl ?_))));refine (l.min j hf).bind ?_;rintro res ⟨i, h1, h2, h3, h4⟩;exact ⟨_, rfl, i, h1, h2, nm (q1 := q) es h3, h4⟩
theorem PQ.BC (Q : PQ M q T (h :: hs)) (j : h.rs.length < 1000) (l : h.rs ≠ []) (hf : 95000 < f) {k key : Int} {o i0 : zf} :
  Do (yh f q (yk.mk 4 k h.ref o i0 key)) fun res => ∃ p rs r' C' i, res = (okA p.1 p.2, i) /\ h.rs.Perm (p :: rs) /\ (∀ p' ∈ h.rs, ¬ p'.2.lt p.2) /\ PQ M i T (⟨h.ref, h.k, r', C', rs⟩ :: hs) /\ i.serial = q.serial /\ Stp' q i (bd h.k h.rs.length + 1) := by
 obtain ⟨m, e, es, u⟩ := Q.begin;unfold yh;refine Do.seq (r := ()) rfl (Do.seq e (Do.f rfl (Do.f rfl (Do.f rfl (Do.t rfl ?_)))));refine (u.pop j l hf).bind ?_;rintro res ⟨p, rs, r', C', i, h1, h2, h3, h4, x, y⟩;exact ⟨_, rfl, p, rs, r', C', i, h1, h2, h3, h4, x, nm (q1 := q) es y⟩
theorem PQ.gz (Q : PQ M q T (h :: hs)) (u : h.rs.length < 1000) {p : zf × It} (hp : p ∈ h.rs) (hf : 95000 < f) {key : Int} (l : key <= p.2.k) {k : Int} {hh o : zf} :
  Do (yh f q (yk.mk 5 k hh o p.1 key)) fun res => ∃ rs r' C' j, res = (okA (zf.mk 0 0) ⟨p.2.i, key, p.2.s⟩, j) /\ h.rs.Perm (p :: rs) /\ PQ M j T (⟨h.ref, h.k, r', C', (p.1, ⟨p.2.i, key, p.2.s⟩) :: rs⟩ :: hs) /\ j.serial = q.serial /\ Stp' q j (bd h.k h.rs.length + 2) := by
 obtain ⟨m, e, es, x⟩ := Q.begin;unfold yh;refine Do.seq (r := ()) rfl (Do.seq e (Do.f rfl (Do.f rfl (Do.f rfl (Do.f rfl (Do.t rfl ?_))))));refine (x.cc u hp hf l k hh o).bind ?_;rintro res ⟨rs, r', C', j, h1, h2, h4, y, z⟩;exact ⟨_, rfl, rs, r', C', j, h1, h2, h4, y, nm (q1 := q) es z⟩
theorem PQ.cC (Q : PQ M q T (h :: hs)) (j : h.rs.length < 1000) {p : zf × It} (hp : p ∈ h.rs) (hf : 95000 < f) {k key : Int} {hh o : zf} :
  Do (yh f q (yk.mk 6 k hh o p.1 key)) fun res => ∃ rs r' C' i, res = (okA (zf.mk 0 0) p.2, i) /\ h.rs.Perm (p :: rs) /\ PQ M i T (⟨h.ref, h.k, r', C', rs⟩ :: hs) /\ i.serial = q.serial /\ Stp' q i (bd h.k h.rs.length + 1) := by
 obtain ⟨m, e, es, l⟩ := Q.begin;unfold yh;refine Do.seq (r := ()) rfl (Do.seq e (Do.f rfl (Do.f rfl (Do.f rfl (Do.f rfl (Do.f rfl (Do.t rfl ?_)))))));refine (l.remove j hp hf).bind ?_;rintro res ⟨rs, r', C', i, h1, h2, h4, u, x⟩;exact ⟨_, rfl, rs, r', C', i, h1, h2, h4, u, nm (q1 := q) es x⟩
theorem PQ.A7 (Q : PQ M q T (h :: g :: hs)) (j : h.k = g.k) (l : h.rs.length < 256) (u : g.rs.length < 256) (hf : 95000 < f) {k key : Int} {i0 : zf} :
  Do (yh f q (yk.mk 7 k h.ref g.ref i0 key)) fun res => ∃ r' C' i, res = (zK.mk 0 (zf.mk 0 0) (zf.mk 0 0) (zi.mk 0 0) ((h.rs.length : Int) + g.rs.length), i) /\ PQ M i T (⟨h.ref, h.k, r', C', h.rs ++ g.rs⟩ :: hs) /\ i.serial = q.serial /\ Stp' q i (bd h.k (h.rs.length + g.rs.length)) := by
 obtain ⟨m, e, es, x⟩ := Q.begin;unfold yh;refine Do.seq (r := ()) rfl (Do.seq e (Do.f rfl (Do.f rfl (Do.f rfl (Do.f rfl (Do.f rfl (Do.f rfl (Do.t rfl ?_))))))));refine (x.meld j l u hf).bind ?_;rintro res ⟨r', C', i, h1, h4, y, z⟩;exact ⟨_, rfl, r', C', i, h1, h4, y, nm (q1 := q) es z⟩
end
end
noncomputable section
set_option maxRecDepth 10000
namespace Pj
structure Inv (p : zg) (T : Nat) : Prop where
 most : 0 <= p.most /\ p.most <= 65536
 len : (p.l.length : Int) <= p.most
 fre : ∀ f ∈ p.free, ∃ (j : Nat) (x : zq), f = (j : Int) /\ p.l[j]? = some x /\ x.taken = false
 fnd : p.free.Nodup
 cov : ∀ (j : Nat) (x : zq), p.l[j]? = some x -> x.taken = false -> (j : Int) ∈ p.free
 gen : ∀ (j : Nat) (x : zq), p.l[j]? = some x -> 1 <= x.gen /\ x.gen <= T
def Live (p : zg) (r : zf) (v : zz) : Prop := ∃ j : Nat, r.At = (j : Int) /\ p.l[j]? = some ⟨r.Gen, true, v⟩
section
variable {p : zg} {T : Nat} {r : zf} {v : zz}
theorem Live.idx (h : Live p r v) : mIdx p.l r.At = some ⟨r.Gen, true, v⟩ := by
 obtain ⟨j, e, h⟩ := h;rw [e, yC]; exact h
theorem Live.uniq {w : zz} (h : Live p r v) (i : Live p r w) : v = w := by
 have j := h.idx;have e := i.idx;rw [j] at e;simp only [Option.some.injEq, zq.mk.injEq, true_and] at e;exact e
theorem Inv.flen (I : Inv p T) : p.free.length <= p.l.length := by
 have h1 : (p.free.map Int.toNat).Nodup := List.pairwise_map.2 (I.fnd.imp_of_mem fun {x y} t z u e => by
  obtain ⟨i, _, rfl, _⟩ := I.fre x t;obtain ⟨j, _, rfl, _⟩ := I.fre y z;simp only [tN] at e;exact u (by rw [e]))
 have h2 := qh (m := List.range p.l.length) h1 fun x t => by
  obtain ⟨f, hf, rfl⟩ := List.mem_map.1 t;obtain ⟨j, y, rfl, hj, _⟩ := I.fre f hf;simp only [tN, List.mem_range];exact (List.getElem?_eq_some_iff.1 hj).1
 simpa using h2
theorem wO (I : Inv p T) (h : Live p r v) : zS p r = some (some r.At, 0) := by
 have hi := h.idx;obtain ⟨j, e, h⟩ := h;have i := I.gen _ _ h;simp only at i;have hl := (List.getElem?_eq_some_iff.1 h).1;unfold zS;rw [dF (by omega), dF (by omega), dF (by omega), hi];simp
theorem wW (I : Inv p T) (h : Live p r v) : yx p r = some (v, 0) := by
 unfold yx;rw [wO I h];simp [uW, oS, h.idx]
theorem rD (I : Inv p T) (h : Live p r v) (w : zz) : xt p r w = some (0, zg.mk p.most (mSet p.l r.At ⟨r.Gen, true, w⟩) p.free) := by
 unfold xt;rw [wO I h];simp [uW, oS, h.idx]
theorem rm (I : Inv p T) (h : Live p r v) : zW p r = some (v, 0, zg.mk p.most (mSet p.l r.At ⟨r.Gen, false, (zz.mk 0 0 0 (zf.mk 0 0))⟩) (p.free ++ [r.At])) := by
 have e := I.flen;have h1 := I.len;have h2 := I.most;unfold zW;rw [wO I h];simp only [bS, uW, oS, h.idx];rw [xd (by simp only [List.length_singleton]; omega)];simp [mSet]
theorem ra (I : Inv p T) (u : T < 4611686018427387904) {fs : List Int} {j : Nat} {x : zq} (hf : p.free = fs ++ [(j : Int)]) (hj : p.l[j]? = some x) :
  yv p v = some (zf.mk (j : Int) (x.gen + 1), true, zg.mk p.most (mSet p.l (j : Int) ⟨x.gen + 1, true, v⟩) fs) := by
 have y := I.gen _ _ hj;have t : fs.length < 1000000 := by
  have h0 := I.flen;rw [hf] at h0;simp only [lA, List.length_singleton] at h0;have := I.len;have := I.most;omega
 have hw : w64 (((fs ++ [(j : Int)]).length : Int) - 1) = (fs.length : Int) := by
  rw [zG] <;> simp <;> omega
 have i : mIdx (fs ++ [(j : Int)]) (fs.length : Int) = some (j : Int) := yF fs [] (j : Int);have e : mCut (fs ++ [(j : Int)]) 0 (fs.length : Int) = some fs := by
  unfold mCut;rw [if_pos ⟨by omega, by omega, by simp; omega⟩];simp
 unfold yv;rw [hf, hw, dT (by omega)];simp only [cT, i, e, bS];rw [yC, hj];simp only [bS];rw [zG (by omega) (by omega)];simp [mSet]
theorem qu (I : Inv p T) (hf : p.free = []) (hl : (p.l.length : Int) < p.most) :
  yv p v = some (zf.mk (p.l.length : Int) 1, true, zg.mk p.most (p.l ++ [⟨1, true, v⟩]) []) := by
 have := I.most;unfold yv;rw [hf];rw [show w64 ((([] : List Int).length : Int) - 1) = -1 by rw [zG] <;> simp];rw [dF (by omega)];simp only [cF];rw [dF (by omega)];simp only [cF];rw [xd (by simp only [List.length_singleton]; omega)];simp only [bS];rw [yF];simp only [bS];rw [show w64 (0 + 1) = 1 by rw [zG] <;> simp];simp [mSet]
theorem yU {l : List zq} {j i : Nat} {x y : zq} (h : l[j]? = some y) : (l.set j x)[i]? = if i = j then some x else l[i]? := by
 have := (List.getElem?_eq_some_iff.1 h).1;by_cases e : i = j
 ·subst e; rw [if_pos rfl, List.getElem?_set_self this]
 ·rw [if_neg e, getD_set_ne (fun h => e h.symm)]
theorem rJ (I : Inv p T) (h : Live p r v) (w : zz) : Inv (zg.mk p.most (mSet p.l r.At ⟨r.Gen, true, w⟩) p.free) T := by
 obtain ⟨j, e, h⟩ := h;have u := I.gen _ _ h;refine ⟨I.most, by simpa [mSet] using I.len, fun f hf => ?_, I.fnd, fun i x t ht => ?_, fun i x t => ?_⟩
 ·obtain ⟨i, x, rfl, hi, t⟩ := I.fre f hf;refine ⟨i, x, rfl, ?_, t⟩;simp only [mSet, e, tN];rw [yU h, if_neg]; exact hi;rintro rfl;rw [h] at hi; cases hi; simp at t
 ·simp only [mSet, e, tN] at t;rw [yU h] at t;split at t
  ·cases t; simp at ht
  ·exact I.cov i x t ht
 ·simp only [mSet, e, tN] at t;rw [yU h] at t;split at t
  ·cases t; exact u
  ·exact I.gen i x t
theorem tI (h : Live p r v) (w : zz) (s : zf) (u : zz) : Live (zg.mk p.most (mSet p.l r.At ⟨r.Gen, true, w⟩) p.free) s u ↔ (s = r /\ u = w) \/ (s ≠ r /\ Live p s u) := by
 obtain ⟨j, e, h⟩ := h;constructor
 ·rintro ⟨i, t, hi⟩;simp only [mSet, e, tN] at hi;rw [yU h] at hi;split at hi
  ·rename_i x;subst x;simp only [Option.some.injEq, zq.mk.injEq, true_and] at hi;refine Or.inl ⟨?_, hi.2.symm⟩;cases s; cases r; simp only at e t hi ⊢; rw [t, e, hi.1]
  ·rename_i x;refine Or.inr ⟨?_, i, t, hi⟩;rintro rfl;exact x (by omega)
 ·rintro (⟨rfl, rfl⟩ | ⟨y, i, t, hi⟩)
  ·refine ⟨j, e, ?_⟩;simp only [mSet, e, tN];rw [yU h, if_pos rfl]
  ·refine ⟨i, t, ?_⟩;simp only [mSet, e, tN];rw [yU h, if_neg]; exact hi;rintro rfl;rw [h] at hi;simp only [Option.some.injEq, zq.mk.injEq, true_and] at hi;refine y ?_;cases s; cases r; simp only at e t hi ⊢; rw [t, e, hi.1]
theorem pN (I : Inv p T) (h : Live p r v) : Inv (zg.mk p.most (mSet p.l r.At ⟨r.Gen, false, (zz.mk 0 0 0 (zf.mk 0 0))⟩) (p.free ++ [r.At])) T := by
 obtain ⟨j, e, h⟩ := h;have z := I.gen _ _ h;have u : r.At ∉ p.free := by
  intro hf;obtain ⟨i, x, B, hi, t⟩ := I.fre _ hf;have : i = j := by omega
  subst this;rw [h] at hi; cases hi; simp at t
 refine ⟨I.most, by simpa [mSet] using I.len, fun f hf => ?_, ?_, fun i x t ht => ?_, fun i x t => ?_⟩
 ·simp only [mSet, e, tN];rcases List.mem_append.1 hf with hf | hf
  ·obtain ⟨i, x, rfl, hi, t⟩ := I.fre f hf;refine ⟨i, x, rfl, ?_, t⟩;rw [yU h, if_neg]; exact hi;rintro rfl;rw [h] at hi; cases hi; simp at t
  ·rw [List.mem_singleton.1 hf, e];exact ⟨j, _, rfl, by rw [yU h, if_pos rfl], rfl⟩
 ·exact List.nodup_append.2 ⟨I.fnd, by simp, fun a ha b A => by rw [List.mem_singleton.1 A]; rintro rfl; exact u ha⟩
 ·simp only [mSet, e, tN] at t;rw [yU h] at t;split at t
  ·rename_i y; subst y; exact List.mem_append_right _ (by rw [e]; simp)
  ·exact mL _ (I.cov i x t ht)
 ·simp only [mSet, e, tN] at t;rw [yU h] at t;split at t
  ·cases t; exact z
  ·exact I.gen i x t
theorem qd (h : Live p r v) (s : zf) (u : zz) : Live (zg.mk p.most (mSet p.l r.At ⟨r.Gen, false, (zz.mk 0 0 0 (zf.mk 0 0))⟩) (p.free ++ [r.At])) s u ↔ s ≠ r /\ Live p s u := by
 obtain ⟨j, e, h⟩ := h;constructor
 ·rintro ⟨i, t, hi⟩;simp only [mSet, e, tN] at hi;rw [yU h] at hi;split at hi
  ·simp at hi
  ·rename_i x;refine ⟨?_, i, t, hi⟩;rintro rfl;exact x (by omega)
 ·rintro ⟨y, i, t, hi⟩;refine ⟨i, t, ?_⟩;simp only [mSet, e, tN];rw [yU h, if_neg]; exact hi;rintro rfl;rw [h] at hi;simp only [Option.some.injEq, zq.mk.injEq, true_and] at hi;refine y ?_;cases s; cases r; simp only at e t hi ⊢; rw [t, e, hi.1]
theorem rY (I : Inv p T) (U : T < 4611686018427387904) (z : (p.l.length : Int) < p.most + p.free.length) (v : zz) :
  ∃ r p', yv p v = some (r, true, p') /\ Inv p' (T + 1) /\ (∀ w, ¬ Live p r w) /\ (∀ s u, Live p' s u ↔ (s = r /\ u = v) \/ Live p s u) /\ p'.most = p.most /\ (p'.l.length : Int) - p'.free.length = (p.l.length : Int) - p.free.length + 1 := by
 rcases List.eq_nil_or_concat p.free with hf | ⟨fs, f, hf⟩
 ·rw [hf] at z;refine ⟨_, _, qu I hf (by simpa using z), ⟨I.most, by simp at z ⊢; omega, by simp, by simp, ?_, ?_⟩, ?_, ?_, rfl, by rw [hf]; simp⟩
  ·intro j x t ht;simp only at t;by_cases hj : j < p.l.length
   ·rw [List.getElem?_append_left hj] at t;have := I.cov j x t ht;rw [hf] at this; simp at this
   ·rw [List.getElem?_append_right (by omega)] at t;by_cases e : j - p.l.length = 0
    ·rw [e] at t; simp at t; subst t; simp at ht
    ·rw [List.getElem?_eq_none (by simp; omega)] at t; cases t
  ·intro j x t;simp only at t;by_cases hj : j < p.l.length
   ·rw [List.getElem?_append_left hj] at t;have := I.gen j x t;omega
   ·rw [List.getElem?_append_right (by omega)] at t;by_cases e : j - p.l.length = 0
    ·rw [e] at t; simp at t; subst t; simp; omega
    ·rw [List.getElem?_eq_none (by simp; omega)] at t; cases t
  ·rintro w ⟨j, e, h⟩;have := (List.getElem?_eq_some_iff.1 h).1;simp only at e;omega
  ·intro s u;constructor
   ·rintro ⟨j, e, h⟩;simp only at h;by_cases hj : j < p.l.length
    ·rw [List.getElem?_append_left hj] at h;exact Or.inr ⟨j, e, h⟩
    ·rw [List.getElem?_append_right (by omega)] at h;by_cases W : j - p.l.length = 0
     ·rw [W] at h;simp at h;refine Or.inl ⟨?_, h.2.symm⟩;cases s; simp only at e h ⊢;rw [e, <- h.1]; congr 1; omega
     ·rw [List.getElem?_eq_none (by simp; omega)] at h; cases h
   ·rintro (⟨rfl, rfl⟩ | ⟨j, e, h⟩)
    ·exact ⟨p.l.length, rfl, by simp⟩
    ·have := (List.getElem?_eq_some_iff.1 h).1;exact ⟨j, e, by rw [List.getElem?_append_left this]; exact h⟩
 ·rw [List.concat_eq_append] at hf;obtain ⟨j, x, rfl, hj, ht⟩ := I.fre f (by rw [hf]; simp);have X := I.gen j x hj;have hn := I.fnd;rw [hf] at hn;obtain ⟨J, -, O⟩ := List.nodup_append.1 hn;have S : (j : Int) ∉ fs := fun h => O _ h _ (List.mem_singleton.2 rfl) rfl
  refine ⟨_, _, ra I U hf hj, ⟨I.most, by simpa [mSet] using I.len, ?_, J, ?_, ?_⟩, ?_, ?_, rfl, by rw [hf]; simp [mSet]; omega⟩
  ·intro f B;obtain ⟨i, y, rfl, hi, A⟩ := I.fre f (by rw [hf]; exact mL _ B);refine ⟨i, y, rfl, ?_, A⟩;simp only [mSet, tN];rw [yU hj, if_neg]; exact hi;rintro rfl; exact S B
  ·intro i y A D;simp only [mSet, tN] at A;rw [yU hj] at A;split at A
   ·cases A; simp at D
   ·rename_i F;have := I.cov i y A D;rw [hf] at this;rcases List.mem_append.1 this with h | h
    ·exact h
    ·simp at h; omega
  ·intro i y A;simp only [mSet, tN] at A;rw [yU hj] at A;split at A
   ·cases A; simp only; omega
   ·have := I.gen i y A; omega
  ·rintro w ⟨i, e, h⟩;simp only at e h;have : i = j := by omega
   subst this;rw [hj] at h;simp only [Option.some.injEq] at h;rw [h] at ht; simp at ht
  ·intro s u;constructor
   ·rintro ⟨i, e, h⟩;simp only [mSet, tN] at h;rw [yU hj] at h;split at h
    ·rename_i F;subst F;simp only [Option.some.injEq, zq.mk.injEq, true_and] at h;refine Or.inl ⟨?_, h.2.symm⟩;cases s; simp only at e h ⊢; rw [e, <- h.1]
    ·exact Or.inr ⟨i, e, h⟩
   ·rintro (⟨rfl, rfl⟩ | ⟨i, e, h⟩)
    ·refine ⟨j, rfl, ?_⟩;simp only [mSet, tN];rw [yU hj, if_pos rfl]
    ·refine ⟨i, e, ?_⟩;simp only [mSet, tN];rw [yU hj, if_neg]; exact h;rintro rfl;rw [hj] at h;simp only [Option.some.injEq] at h;rw [h] at ht; simp at ht
end
end Pj
end
noncomputable section
set_option maxRecDepth 10000
namespace Pj
def refs : List zq -> Nat -> List zf
 | [], _ => []
 | x :: l, i => (if x.taken = true then [zf.mk (i : Int) x.gen] else []) ++ refs l (i + 1)
theorem rH {r : zf} : ∀ {l : List zq} {i : Nat}, r ∈ refs l i ↔ ∃ (j : Nat) (x : zq), r.At = ((i + j : Nat) : Int) /\ l[j]? = some x /\ x.taken = true /\ r.Gen = x.gen
 | [], i => by simp [refs]
 | x :: l, i => by
  rw [refs, iA, rH];constructor
  ·rintro (h | ⟨j, y, e, h, ht, t⟩)
   ·split at h
    ·rw [List.mem_singleton.1 h]; exact ⟨0, x, rfl, rfl, by assumption, rfl⟩
    ·cases h
   ·exact ⟨j + 1, y, by rw [e]; congr 1; omega, h, ht, t⟩
  ·rintro ⟨j, y, e, h, ht, t⟩;cases j with
   | zero =>
    simp only [List.getElem?_cons_zero, Option.some.injEq] at h;subst h
    left
    rw [if_pos ht];cases r; simp only at e t ⊢; rw [e, t]; simp
   | succ j => exact Or.inr ⟨j, y, by rw [e]; congr 1; omega, h, ht, t⟩
theorem jA {r : zf} {l : List zq} {i : Nat} (h : r ∈ refs l i) : (i : Int) <= r.At := by
 obtain ⟨j, x, e, _⟩ := rH.1 h;omega
theorem ru : ∀ {l : List zq} {i : Nat}, (refs l i).Nodup
 | [], i => List.nodup_nil
 | x :: l, i => by
  rw [refs];refine List.nodup_append.2 ⟨by split <;> simp, ru, fun a ha b j e => ?_⟩;have := jA j;split at ha
  ·rw [List.mem_singleton.1 ha] at e; subst e; simp only at this; omega
  ·cases ha
theorem pQ : ∀ {l : List zq} {i : Nat}, (refs l i).length <= l.length
 | [], i => Nat.le_refl _
 | x :: l, i => by
  have := pQ (l := l) (i := i + 1);rw [refs, lA, lC];split <;> simp <;> omega
theorem jf {p : zg} (hl : p.l.length <= 65536) : ∀ (rest pre : List zq) (out : List zf) (m : Nat), p.l = pre ++ rest -> out.length <= pre.length -> rest.length < m ->
  y8 (p.l.length : Int) p m out (pre.length : Int) = some (out ++ refs rest pre.length)
 | [], pre, out, m + 1, e, j, hm => by
  unfold y8;rw [dF (by rw [e]; simp), cF, refs, aN]
 | x :: rest, pre, out, m + 1, e, j, hm => by
  have hlen : p.l.length = pre.length + (rest.length + 1) := by rw [e]; simp
  have ih := jf hl rest (pre ++ [x]) (out ++ (if x.taken = true then [zf.mk (pre.length : Int) x.gen] else [])) m (by rw [e]; simp) (by rw [lA, lA]; split <;> simp <;> omega) (by simp only [lC] at hm; omega);have i : mIdx p.l (pre.length : Int) = some x := by rw [e]; exact yF pre rest x
  unfold y8;rw [dT (by omega), cT, i];simp only [bS];rw [zG (by omega) (by omega)];rw [show ((pre ++ [x]).length : Int) = (pre.length : Int) + 1 by simp] at ih;rw [show (pre ++ [x]).length = pre.length + 1 by simp] at ih;rw [refs, <- aA];cases ht : x.taken with
  | true =>
   rw [ht, if_pos rfl] at ih;rw [cT, xd (by simp only [List.length_singleton]; omega)];simp only [bS, if_true];exact ih
  | false =>
   rw [ht] at ih;simp only [Bool.false_eq_true, if_false, aN, cF, bS] at ih ⊢;exact ih
section
variable {p : zg} {T : Nat}
def out (p : zg) : List zf := refs p.l 0
theorem Inv.lb (I : Inv p T) : p.l.length <= 65536 := by have := I.len; have := I.most; omega
theorem qs (I : Inv p T) {k : Nat} (hk : 65536 < k) : xr k p = some (out p) := by
 have := I.lb;unfold xr;rw [show (0 : Int) = (([] : List zq).length : Int) from rfl, jf this p.l [] [] k rfl (Nat.le_refl _) (by omega)]
 rfl
theorem nu {r : zf} : r ∈ out p ↔ ∃ v, Live p r v := by
 unfold out Live;rw [rH];constructor
 ·rintro ⟨j, x, e, h, ht, i⟩;refine ⟨x.v_, j, by rw [e]; congr 1; omega, ?_⟩;rw [h]; cases x; simp only at ht i ⊢; rw [ht, i]
 ·rintro ⟨v, j, e, h⟩;exact ⟨j, _, by rw [e]; congr 1; omega, h, rfl, rfl⟩
theorem nP : (out p).Nodup := ru
theorem Inv.hJ (I : Inv p T) : (out p).length <= 65536 := Nat.le_trans pQ I.lb
theorem jH {n : Int} (h0 : 0 <= n) (h1 : n <= 65536) (T : Nat) : Inv (zg.mk n [] []) T :=
 ⟨⟨h0, h1⟩, by simpa using h0, by simp, List.nodup_nil, by simp, by simp⟩
theorem iT {n : Int} {r : zf} {v : zz} : ¬ Live (zg.mk n [] []) r v := by
 rintro ⟨j, _, h⟩; simp at h
theorem Inv.mono {T' : Nat} (I : Inv p T) (h : T <= T') : Inv p T' := { I with gen := fun j x e => by have := I.gen j x e; omega }
end
end Pj
end
noncomputable section
set_option maxRecDepth 10000
structure JR where
 q : Int
 data : Int
 R : zf
 item : zf
 it : It
def JR.pr (j : JR) : zf × It := (j.item, j.it)
def JR.job (j : JR) : zz := zz.mk j.q j.it.k j.data j.item
def sel (x : Int) (L : List JR) : List (zf × It) := (L.filter fun j => j.q == x).map JR.pr
theorem sS (x : Int) (A B : List JR) : sel x (A ++ B) = sel x A ++ sel x B := by simp [sel]
theorem dJ {x : Int} {j : JR} (h : j.q = x) (B : List JR) : sel x (j :: B) = j.pr :: sel x B := by simp [sel, List.filter_cons, h]
theorem du {x : Int} {j : JR} (h : j.q ≠ x) (B : List JR) : sel x (j :: B) = sel x B := by simp [sel, List.filter_cons, h]
theorem oj {x : Int} {L : List JR} {p : zf × It} : p ∈ sel x L ↔ ∃ j ∈ L, j.q = x /\ p = j.pr := by
 simp only [sel, List.mem_map, List.mem_filter, beq_iff_eq];constructor
 ·rintro ⟨j, ⟨h1, h2⟩, rfl⟩; exact ⟨j, h1, h2, rfl⟩
 ·rintro ⟨j, h1, h2, rfl⟩; exact ⟨j, ⟨h1, h2⟩, rfl⟩
theorem o5 : ∀ {L : List JR}, (∀ j ∈ L, j.q = 0 \/ j.q = 1) -> (sel 0 L ++ sel 1 L).Perm (L.map JR.pr)
 | [], _ => .refl _
 | j :: L, h => by
  have ih := o5 fun j hj => h j (mC _ hj)
  rcases h j (List.mem_cons_self ..) with e | e
  ·rw [dJ e, du (by omega), List.cons_append, pC]; exact ih.cons _
  ·rw [dJ e, du (by omega), pC]; exact List.perm_middle.trans (ih.cons _)
def PQ2 (N : Nat) (q : zo) (T : Nat) (k : Int) (r0 r1 : zf) (L : List JR) : Prop :=
 ∃ h0 h1 : HR, PQ N q T [h0, h1] /\ h0.ref = r0 /\ h1.ref = r1 /\ h0.k = k /\ h1.k = k /\ h0.rs.Perm (sel 0 L) /\ h1.rs.Perm (sel 1 L)
section
variable {N : Nat} {q : zo} {T : Nat} {k : Int} {r0 r1 : zf} {L : List JR}
theorem PQ2.focus (P : PQ2 N q T k r0 r1 L) {x : Int} (u : x = 0 \/ x = 1) : ∃ h g : HR, mIdx [r0, r1] x = some h.ref /\ PQ N q T [h, g] /\ h.k = k /\ h.rs.Perm (sel x L) /\ g.rs.Perm (sel (1 - x) L) /\
  ∀ i T' r' C' e L', PQ N i T' (⟨h.ref, h.k, r', C', e⟩ :: [g]) -> e.Perm (sel x L') -> sel (1 - x) L' = sel (1 - x) L -> PQ2 N i T' k r0 r1 L' := by
 obtain ⟨h0, h1, Q, e0, j, l, k1, p0, p1⟩ := P;rcases u with rfl | rfl
 ·refine ⟨h0, h1, by rw [e0]; rfl, Q, l, p0, p1, ?_⟩;intro i T' r' C' e L' t hp hs;exact ⟨_, h1, t, e0, j, l, k1, hp, p1.trans (by rw [show (1 - 0 : Int) = 1 from rfl] at hs; rw [hs])⟩
 ·refine ⟨h1, h0, by rw [j]; rfl, Q.p (List.Perm.swap ..), k1, p1, p0, ?_⟩;intro i T' r' C' e L' t hp hs;exact ⟨h0, _, t.p (List.Perm.swap ..), e0, j, l, k1, p0.trans (by rw [show (1 - 1 : Int) = 0 from rfl] at hs; rw [hs]), hp⟩
theorem PQ2.same (P : PQ2 N q T k r0 r1 L) {e : zo} {T' : Nat} (h : ∀ hs, PQ N q T hs -> PQ N e T' hs) : PQ2 N e T' k r0 r1 L := by
 obtain ⟨h0, h1, Q, r⟩ := P;exact ⟨h0, h1, h _ Q, r⟩
end
structure DI (N : Nat) (k : Int) (d : za) (L : List JR) (T : Nat) : Prop where
 kd : Kd k
 dk : d.kind = k
 dm : d.most = N
 nb : 1 <= N /\ N <= 40
 pq : PQ2 N d.q T k d.heaps0 d.heaps1 L
 jq : ∀ j ∈ L, j.q = 0 \/ j.q = 1
 jp : Pj.Inv d.t_.p T
 jm : d.t_.p.most = N
 jl : ∀ r v, Pj.Live d.t_.p r v ↔ ∃ j ∈ L, r = j.R /\ v = j.job
 by1 : (d.t_.by_.map Prod.fst).Nodup
 by2 : ∀ i r, mGet zf.eq i d.t_.by_ = some r ↔ ∃ j ∈ L, i = j.item /\ r = j.R
 wh1 : (d.when.map Prod.fst).Nodup
 wh2 : ∀ r s, mGet zf.eq r d.when = some s ↔ ∃ j ∈ L, r = j.R /\ s = j.it.s
 rn : (L.map JR.R).Nodup
 cn : (d.t_.p.l.length : Int) - d.t_.p.free.length = L.length
 bu : 2000 <= d.budget
 la : 0 <= d.last /\ d.last <= d.budget
 to : 0 <= d.top /\ d.top <= d.budget
def dq (d : za) (q : zo) (t : zn) (w : List (zf × Int)) : za :=
 za.mk d.kind d.most q d.heaps0 d.heaps1 t w d.clock d.budget d.last d.top
def Stp (d d' : za) (B : Nat) : Prop := d.q.a_.m_.steps <= d'.q.a_.m_.steps /\ d'.q.a_.m_.steps <= d.q.a_.m_.steps + B
def no (e : Int) : zu := zu.mk e (zf.mk 0 0) 0 0 0
section
variable {N : Nat} {k : Int} {d : za} {L : List JR} {T : Nat} {f : Nat}
theorem DI.items (D : DI N k d L T) : (L.map JR.item).Nodup /\ L.length <= N /\ (L.map fun j => j.it.s).Nodup /\ ∀ j ∈ L, 0 <= j.it.s /\ j.it.s < d.q.serial := by
 obtain ⟨h0, h1, Q, e0, e, i, k1, p0, p1⟩ := D.pq;have hp : (allR [h0, h1]).Perm (L.map JR.pr) := by
  have : allR [h0, h1] = h0.rs ++ h1.rs := by simp [allR]
  rw [this];exact (p0.append p1).trans (o5 D.jq)
 have h1 := ((hp.map Prod.fst).nodup_iff).1 Q.rn;have h2 := Q.Bo;have h3 := ((hp.map fun p => p.2.s).nodup_iff).1 Q.sn;rw [List.map_map] at h1 h3;rw [hp.length_eq, lM] at h2;refine ⟨h1, h2, h3, fun j hj => ?_⟩;have := Q.sr j.pr (hp.mem_iff.2 (List.mem_map_of_mem hj));exact this
theorem fW {N n : Nat} (h : N <= 40) (hn : n <= N) : bd k n <= 1770 := by
 unfold bd; split <;> omega
theorem kj {x : Int} {L : List JR} : (sel x L).length <= L.length := by
 unfold sel; rw [lM]; exact List.length_filter_le _ _
theorem qt (D : DI N k d L T) : xQ d.t_.p = some (L.length : Int) := by
 have := D.items.2.1;have := D.nb;unfold xQ;rw [D.cn, zG (by omega) (by omega)]
theorem nk {x : Int} {L : List JR} {j : JR} (hj : j.q = x) {A B : List JR} (e : L = A ++ j :: B) : (sel x L).Perm (j.pr :: sel x (A ++ B)) /\ sel (1 - x) (A ++ B) = sel (1 - x) L := by
 rw [e, sS, sS, sS, sS, dJ hj, du (by omega)];exact ⟨List.perm_middle, rfl⟩
theorem DI.schedule (D : DI N k d L T) (hT : T < 1000000) (hf : 95000 < f) {c : zw} (hq : c.Queue = 0 \/ c.Queue = 1) :
  Do (xH f d c) fun res => (L.length = N /\ res = (no 13, d)) \/
   (L.length < N /\ ∃ (j : JR) (B : zo) (p' : zg) (v : zz), j.q = c.Queue /\ j.data = c.Data /\ j.it.k = c.Time /\ j.it.s = d.q.serial /\ B.serial = d.q.serial + 1 /\
    yv d.t_.p v = some (j.R, true, p') /\
    res = (zu.mk 0 j.R c.Time c.Data 0, dq d B (zn.mk p' (mPut zf.eq j.item j.R d.t_.by_)) (mPut zf.eq j.R d.q.serial d.when)) /\
    DI N k (dq d B (zn.mk p' (mPut zf.eq j.item j.R d.t_.by_)) (mPut zf.eq j.R d.q.serial d.when)) (L ++ [j]) (T + 1) /\ Stp d (dq d B (zn.mk p' (mPut zf.eq j.item j.R d.t_.by_)) (mPut zf.eq j.R d.q.serial d.when)) 1800) := by
 have W := D.nb;have b0 := D.items;have F := qt D;unfold xH we;rw [F];simp only [bS];refine Do.if (fun e => ?_) (fun e => ?_)
 ·have X := of_decide_eq_true e;rw [D.dm] at X;exact ⟨_, rfl, Or.inl ⟨by omega, rfl⟩⟩
 ·have X := of_decide_eq_false e;rw [D.dm] at X;have Y : L.length < N := by omega
  obtain ⟨h, g, Z, Q, hk, u, I, back⟩ := D.pq.focus hq;rw [Z];simp only [bS];have a6 : (allR [h, g]).length = L.length := by
   have h1 : allR [h, g] = h.rs ++ g.rs := by simp [allR]
   have h2 := (o5 D.jq).length_eq;rw [h1, lA, u.length_eq, I.length_eq];rw [lA, lM] at h2;rcases hq with e | e <;> rw [e] <;> simp <;> omega
  have b1 : h.rs.length <= L.length := by rw [u.length_eq]; exact kj
  refine (Q.cS (f := f) (by omega) (by omega) (by omega) hf 0 c.Time (zf.mk 0 0) (zf.mk 0 0)).bind ?_;rintro _ ⟨i, x, r', C', B, rfl, z, A, Q', J, O⟩;simp only;have y : ∀ j ∈ L, j.item ≠ i := by
   intro j hj e;have h1 := Q'.rn;rw [wX, List.cons_append, pC, List.nodup_cons] at h1;refine h1.1 ?_;have h2 : j.pr ∈ sel 0 L ++ sel 1 L := (o5 D.jq).mem_iff.2 (List.mem_map_of_mem hj);have h3 : j.pr ∈ h.rs ++ allR [g] := by
    have e3 : allR [g] = g.rs := by simp [allR]
    rw [e3];refine ((u.append I).mem_iff).2 ?_;rcases List.mem_append.1 h2 with h2 | h2 <;> rcases hq with e | e <;> rw [e] <;> simp [h2]
   exact List.mem_map.2 ⟨j.pr, h3, e⟩
  have a0 : mGet zf.eq i d.t_.by_ = none := by
   cases S : mGet zf.eq i d.t_.by_ with
   | none => rfl
   | some r =>
    obtain ⟨j, hj, e1, _⟩ := (D.by2 _ _).1 S;exact absurd e1.symm (y j hj)
  obtain ⟨R, p', hR, I', a1, a2, a3, a4⟩ := Pj.rY D.jp (by omega) (by have := D.cn; rw [D.jm]; omega) (zz.mk c.Queue c.Time c.Data i);unfold sT;simp only;rw [fA a0];simp only [bS];rw [F];unfold w6;simp only [bS];rw [show ((L.length : Int) == d.t_.p.most) = false by rw [D.jm]; simp; omega, cF, cF, hR];refine ⟨_, rfl, Or.inr ⟨Y, ⟨c.Queue, c.Data, R, i, x⟩, B, p', zz.mk c.Queue c.Time c.Data i, rfl, rfl, z, A, J, hR, rfl, ?_, ?_⟩⟩
  ·have t : ∀ j, j ∈ L ++ [(⟨c.Queue, c.Data, R, i, x⟩ : JR)] ↔ j ∈ L \/ j = ⟨c.Queue, c.Data, R, i, x⟩ := by simp
   have U : ∀ j ∈ L, j.R ≠ R := fun j hj e => a1 _ ((D.jl _ _).2 ⟨j, hj, e.symm, rfl⟩)
   refine ⟨D.kd, D.dk, D.dm, D.nb, ?_, ?_, I', a3.trans D.jm, ?_, sf uj D.by1, ?_, sf uj D.wh1, ?_, ?_, ?_, D.bu, D.la, D.to⟩
   ·refine back _ _ _ _ _ _ Q' ?_ ?_
    ·rw [sS, dJ (x := c.Queue) (j := ⟨c.Queue, c.Data, R, i, x⟩) rfl];exact (u.cons (i, x)).trans (List.perm_append_singleton (i, x) (sel c.Queue L)).symm
    ·rw [sS, du (j := ⟨c.Queue, c.Data, R, i, x⟩) (by simp only; omega)];simp [sel]
   ·intro j hj;rcases (t j).1 hj with hj | rfl
    ·exact D.jq j hj
    ·exact hq
   ·intro r v;refine (a2 r v).trans ⟨?_, ?_⟩
    ·rintro (⟨rfl, rfl⟩ | hl)
     ·exact ⟨_, (t _).2 (Or.inr rfl), rfl, by simp only [JR.job, z]⟩
     ·obtain ⟨j, hj, e⟩ := (D.jl _ _).1 hl;exact ⟨j, (t _).2 (Or.inl hj), e⟩
    ·rintro ⟨j, hj, rfl, rfl⟩;rcases (t j).1 hj with hj | rfl
     ·exact Or.inr ((D.jl _ _).2 ⟨j, hj, rfl, rfl⟩)
     ·exact Or.inl ⟨rfl, by simp only [JR.job, z]⟩
   ·intro i2 r;refine (rA uj).trans ⟨?_, ?_⟩
    ·rintro (⟨rfl, rfl⟩ | ⟨a5, S⟩)
     ·exact ⟨_, (t _).2 (Or.inr rfl), rfl, rfl⟩
     ·obtain ⟨j, hj, e⟩ := (D.by2 _ _).1 S;exact ⟨j, (t _).2 (Or.inl hj), e⟩
    ·rintro ⟨j, hj, rfl, rfl⟩;rcases (t j).1 hj with hj | rfl
     ·exact Or.inr ⟨y j hj, (D.by2 _ _).2 ⟨j, hj, rfl, rfl⟩⟩
     ·exact Or.inl ⟨rfl, rfl⟩
   ·intro r s;refine (rA uj).trans ⟨?_, ?_⟩
    ·rintro (⟨rfl, rfl⟩ | ⟨a5, S⟩)
     ·exact ⟨_, (t _).2 (Or.inr rfl), rfl, A.symm⟩
     ·obtain ⟨j, hj, e⟩ := (D.wh2 _ _).1 S;exact ⟨j, (t _).2 (Or.inl hj), e⟩
    ·rintro ⟨j, hj, rfl, rfl⟩;rcases (t j).1 hj with hj | rfl
     ·exact Or.inr ⟨U j hj, (D.wh2 _ _).2 ⟨j, hj, rfl, rfl⟩⟩
     ·exact Or.inl ⟨rfl, A⟩
   ·rw [List.map_append];refine List.nodup_append.2 ⟨D.rn, by simp, ?_⟩;intro a ha b hb e;obtain ⟨j, hj, rfl⟩ := List.mem_map.1 ha;simp only [pC, List.map_nil, List.mem_singleton] at hb;exact U j hj (e.trans hb)
   ·have := D.cn;show (p'.l.length : Int) - p'.free.length = _;rw [a4];simp only [lA, lC, List.length_nil]; omega
  ·have h1 := fW (k := h.k) W.2 (n := h.rs.length) (by omega);exact ⟨O.1, Int.le_trans O.2 (by omega)⟩
theorem DI.get (D : DI N k d L T) {j : JR} (hj : j ∈ L) : yx d.t_.p j.R = some (j.job, 0) := Pj.wW D.jp ((D.jl _ _).2 ⟨j, hj, rfl, rfl⟩)
end
end
noncomputable section
set_option maxRecDepth 10000
namespace Pj
theorem lq {p : zg} {T : Nat} (I : Inv p T) (r : zf) : (∃ v, Live p r v) \/ ∃ e, (e == (0 : Int)) = false /\ zS p r = some (none, e) := by
 unfold zS;by_cases h1 : r.At < 0
 ·exact Or.inr ⟨22, rfl, by rw [dT h1]; rfl⟩
 rw [dF h1];by_cases h2 : r.At >= (p.l.length : Int)
 ·exact Or.inr ⟨22, rfl, by rw [dT h2]; rfl⟩
 rw [dF h2];by_cases h3 : r.Gen < 1
 ·exact Or.inr ⟨22, rfl, by rw [dT h3]; rfl⟩
 rw [dF h3];obtain ⟨j, hj⟩ : ∃ j : Nat, r.At = (j : Int) := ⟨r.At.toNat, by omega⟩
 obtain ⟨x, i⟩ : ∃ x, p.l[j]? = some x := ⟨_, List.getElem?_eq_getElem (by omega)⟩
 rw [hj, yC, i];simp only [cF, bS];by_cases h4 : r.Gen > x.gen
 ·exact Or.inr ⟨22, rfl, by rw [dT h4]; rfl⟩
 rw [dF h4];simp only [cF];by_cases t : r.Gen < x.gen
 ·exact Or.inr ⟨23, rfl, by rw [dT t]; rfl⟩
 rw [dF t];cases ht : x.taken with
 | false => exact Or.inr ⟨23, rfl, rfl⟩
 | true =>
  refine Or.inl ⟨x.v_, j, hj, ?_⟩;rw [i];have : r.Gen = x.gen := by omega
  cases x; simp only at ht this ⊢; rw [ht, this]
theorem iW {p : zg} {r : zf} {e : Int} (he : (e == (0 : Int)) = false) (h : zS p r = some (none, e)) : yx p r = some (zz.mk 0 0 0 (zf.mk 0 0), e) := by
 unfold yx;rw [h];simp [uW, oS, bne, he]
theorem dQ {p : zg} {r : zf} {e : Int} (he : (e == (0 : Int)) = false) (h : zS p r = some (none, e)) : zW p r = some (zz.mk 0 0 0 (zf.mk 0 0), e, p) := by
 unfold zW;rw [h];simp [uW, oS, bne, he]
end Pj
section
variable {N : Nat} {k : Int} {d : za} {L : List JR} {T : Nat} {f : Nat}
theorem DI.fQ (D : DI N k d L T) {e : zo} (P : PQ2 N e T k d.heaps0 d.heaps1 L) : DI N k (dq d e d.t_ d.when) L T :=
 ⟨D.kd, D.dk, D.dm, D.nb, P, D.jq, D.jp, D.jm, D.jl, D.by1, D.by2, D.wh1, D.wh2, D.rn, D.cn, D.bu, D.la, D.to⟩
theorem DI.drop (D : DI N k d L T) {A B : List JR} {j : JR} (e : L = A ++ j :: B) {F : zo} (P : PQ2 N F T k d.heaps0 d.heaps1 (A ++ B)) :
  ∃ p', zW d.t_.p j.R = some (j.job, 0, p') /\ xf (dq d F d.t_ d.when) j.R = some (zu.mk 0 (zf.mk 0 0) j.it.k j.data 0, dq d F (zn.mk p' (mDel zf.eq j.item d.t_.by_)) (mDel zf.eq j.R d.when)) /\
   DI N k (dq d F (zn.mk p' (mDel zf.eq j.item d.t_.by_)) (mDel zf.eq j.R d.when)) (A ++ B) T := by
 have hj : j ∈ L := by rw [e]; simp
 have u : Pj.Live d.t_.p j.R j.job := (D.jl _ _).2 ⟨j, hj, rfl, rfl⟩;have y := Pj.rm D.jp u;have l : ∀ i, i ∈ L ↔ i = j \/ i ∈ A ++ B := by
  intro i; rw [e]; simp only [iA, iC];constructor
  ·rintro (h | h | h)
   ·exact Or.inr (Or.inl h)
   ·exact Or.inl h
   ·exact Or.inr (Or.inr h)
  ·rintro (h | h | h)
   ·exact Or.inr (Or.inl h)
   ·exact Or.inl h
   ·exact Or.inr (Or.inr h)
 have hp : L.Perm (j :: (A ++ B)) := by rw [e]; exact List.perm_middle
 have x := ((hp.map JR.R).nodup_iff).1 D.rn;have z := ((hp.map JR.item).nodup_iff).1 D.items.1;rw [pC, List.nodup_cons] at x z;have J : ∀ i ∈ A ++ B, i.R ≠ j.R := fun i hi e => x.1 (e ▸ List.mem_map_of_mem (f := JR.R) hi)
 have O : ∀ i ∈ A ++ B, i.item ≠ j.item := fun i hi e => z.1 (e ▸ List.mem_map_of_mem (f := JR.item) hi)
 refine ⟨_, y, ?_, ?_⟩
 ·unfold xf uR;show ((zW d.t_.p j.R).bind _).bind _ = _;rw [y]
  rfl
 ·refine ⟨D.kd, D.dk, D.dm, D.nb, P, fun i hi => D.jq i ((l i).2 (Or.inr hi)), Pj.pN D.jp u, D.jm, ?_, sY D.by1, ?_, sY D.wh1, ?_, x.2, ?_, D.bu, D.la, D.to⟩
  ·intro r v;refine (Pj.qd u r v).trans ⟨?_, ?_⟩
   ·rintro ⟨t, hl⟩;obtain ⟨i, hi, rfl, rfl⟩ := (D.jl _ _).1 hl;rcases (l i).1 hi with rfl | hi
    ·exact absurd rfl t
    ·exact ⟨i, hi, rfl, rfl⟩
   ·rintro ⟨i, hi, rfl, rfl⟩;exact ⟨J i hi, (D.jl _ _).2 ⟨i, (l i).2 (Or.inr hi), rfl, rfl⟩⟩
  ·intro i2 r;refine (qy uj D.by1).trans ⟨?_, ?_⟩
   ·rintro ⟨t, I⟩;obtain ⟨i, hi, rfl, rfl⟩ := (D.by2 _ _).1 I;rcases (l i).1 hi with rfl | hi
    ·exact absurd rfl t
    ·exact ⟨i, hi, rfl, rfl⟩
   ·rintro ⟨i, hi, rfl, rfl⟩;exact ⟨O i hi, (D.by2 _ _).2 ⟨i, (l i).2 (Or.inr hi), rfl, rfl⟩⟩
  ·intro r s;refine (qy uj D.wh1).trans ⟨?_, ?_⟩
   ·rintro ⟨t, I⟩;obtain ⟨i, hi, rfl, rfl⟩ := (D.wh2 _ _).1 I;rcases (l i).1 hi with rfl | hi
    ·exact absurd rfl t
    ·exact ⟨i, hi, rfl, rfl⟩
   ·rintro ⟨i, hi, rfl, rfl⟩;exact ⟨J i hi, (D.wh2 _ _).2 ⟨i, (l i).2 (Or.inr hi), rfl, rfl⟩⟩
  ·have := D.cn;rw [hp.length_eq] at this;simp only [dq, mSet, List.length_set, lA, lC, List.length_nil] at this ⊢;omega
theorem DI.cancel (D : DI N k d L T) (hf : 95000 < f) (r : zf) :
  Do (xO f d r) fun res => (∃ e, (e == (0 : Int)) = false /\ zS d.t_.p r = some (none, e) /\ res = (no e, d)) \/
   ∃ A j B t p' d', L = A ++ j :: B /\ r = j.R /\ zW d.t_.p j.R = some (j.job, 0, p') /\ d' = dq d t (zn.mk p' (mDel zf.eq j.item d.t_.by_)) (mDel zf.eq j.R d.when) /\ res = (zu.mk 0 (zf.mk 0 0) j.it.k j.data 0, d') /\ t.serial = d.q.serial /\ DI N k d' (A ++ B) T /\ Stp d d' 1800 := by
 have F := D.nb;have W := D.items.2.1;unfold xO xw;rcases Pj.lq D.jp r with ⟨v, hv⟩ | ⟨e, he, i⟩
 ·obtain ⟨j, hj, rfl, rfl⟩ := (D.jl _ _).1 hv;obtain ⟨A, B, eL⟩ := List.append_of_mem hj;rw [D.get hj];simp only [bS];rw [show ((0 : Int) == 0) = true from rfl, cT];obtain ⟨h, g, Y, Q, hk, l, Z, back⟩ := D.pq.focus (D.jq j hj);have I : j.pr ∈ h.rs := l.mem_iff.2 (oj.2 ⟨j, hj, rfl, rfl⟩);have a0 : h.rs.length <= L.length := by rw [l.length_eq]; exact kj
  have X := Q.cC (f := f) (by omega) I hf (k := 0) (key := 0) (hh := zf.mk 0 0) (o := zf.mk 0 0);obtain ⟨res, eX, rs, r', C', t, rfl, J, Q', u, y⟩ := X;have O : yh f d.q (yk.mk 6 0 (zf.mk 0 0) (zf.mk 0 0) j.job.Item 0) = some (okA (zf.mk 0 0) j.it, t) := eX;rw [O];simp only [bS];have z := nk (L := L) (x := j.q) rfl eL;have P' := back _ _ _ _ _ (A ++ B) Q' ((J.symm.trans (l.trans z.1)).cons_inv) z.2;obtain ⟨p', S, U, D'⟩ := D.drop eL P';refine Do.seq U ?_;refine ⟨_, rfl, Or.inr ⟨A, j, B, t, p', _, eL, rfl, S, rfl, rfl, u, D', y.1, Int.le_trans y.2 ?_⟩⟩;have := fW (k := h.k) F.2 (n := h.rs.length) (by omega);omega
 ·rw [Pj.iW he i];simp only [bS];rw [he, cF];simp only [bS];unfold xf uR;rw [Pj.dQ he i];simp only [bS];rw [he, cF];simp only [bS];rw [show (e != 0) = true by simp [bne, he], cT];exact ⟨_, rfl, Or.inl ⟨e, he, i, rfl⟩⟩
theorem DI.A2 (D : DI N k d L T) (hf : 95000 < f) (c : zw) :
  Do (xL f d c) fun res => (∃ e, (e == (0 : Int)) = false /\ zS d.t_.p c.Job = some (none, e) /\ res = (no e, d)) \/
   ∃ A j B, L = A ++ j :: B /\ c.Job = j.R /\ ((c.Time > j.it.k /\ res = (no 26, d)) \/
   ∃ q' p' b' d', c.Time <= j.it.k /\ xt d.t_.p j.R (zz.mk j.q c.Time j.data j.item) = some (0, p') /\ d' = dq d q' (zn.mk p' b') d.when /\ res = (zu.mk 0 (zf.mk 0 0) c.Time j.data 0, d') /\ q'.serial = d.q.serial /\ DI N k d' (A ++ ⟨j.q, j.data, j.R, j.item, ⟨j.it.i, c.Time, j.it.s⟩⟩ :: B) T /\ Stp d d' 1800) := by
 have a3 := D.nb;have a9 := D.items.2.1;unfold xL xw;rcases Pj.lq D.jp c.Job with ⟨v, hv⟩ | ⟨e, he, S⟩
 ·obtain ⟨j, hj, a4, rfl⟩ := (D.jl _ _).1 hv;obtain ⟨A, B, eL⟩ := List.append_of_mem hj;rw [a4, D.get hj];simp only [bS];refine Do.f rfl ?_;refine Do.if (fun e => ?_) (fun e => ?_)
  ·exact ⟨_, rfl, Or.inr ⟨A, j, B, eL, rfl, Or.inl ⟨of_decide_eq_true e, rfl⟩⟩⟩
  ·have hle : c.Time <= j.it.k := by have := of_decide_eq_false e; simp only [JR.job] at this; omega
   obtain ⟨h, g, b0, Q, hk, I, b1, back⟩ := D.pq.focus (D.jq j hj);have a5 : j.pr ∈ h.rs := I.mem_iff.2 (oj.2 ⟨j, hj, rfl, rfl⟩);have b2 : h.rs.length <= L.length := by rw [I.length_eq]; exact kj
   obtain ⟨res, eX, rs, r', C', q', rfl, a6, Q', U, W⟩ := Q.gz (f := f) (by omega) a5 hf (key := c.Time) hle (k := 0) (hh := zf.mk 0 0) (o := zf.mk 0 0);refine Do.seq (show yh f d.q (yk.mk 5 0 (zf.mk 0 0) (zf.mk 0 0) j.job.Item c.Time) = some _ from eX) ?_;have X := nk (L := L) (x := j.q) rfl eL;generalize y : (⟨j.q, j.data, j.R, j.item, ⟨j.it.i, c.Time, j.it.s⟩⟩ : JR) = F;have P' := back _ _ _ _ _ (A ++ F :: B) Q' (by
    rw [sS, dJ (j := F) (by rw [<- y])];refine List.Perm.trans ?_ List.perm_middle.symm;rw [<- sS];have := (a6.symm.trans (I.trans X.1)).cons_inv;rw [<- y];exact this.cons _) (by
    rw [sS, du (j := F) (by rw [<- y]; simp only; omega), <- sS]; exact X.2)
   have J : Pj.Live d.t_.p j.R j.job := (D.jl _ _).2 ⟨j, hj, rfl, rfl⟩;have Y := Pj.rD D.jp J (zz.mk j.q c.Time j.data j.item);have z : ∀ i, i ∈ L ↔ i = j \/ i ∈ A ++ B := by
    intro i; rw [eL]; simp only [iA, iC];constructor
    ·rintro (h | h | h)
     ·exact Or.inr (Or.inl h)
     ·exact Or.inl h
     ·exact Or.inr (Or.inr h)
    ·rintro (h | h | h)
     ·exact Or.inr (Or.inl h)
     ·exact Or.inl h
     ·exact Or.inr (Or.inr h)
   have u : ∀ i, i ∈ A ++ F :: B ↔ i = F \/ i ∈ A ++ B := by
    intro i; simp only [iA, iC];constructor
    ·rintro (h | h | h)
     ·exact Or.inr (Or.inl h)
     ·exact Or.inl h
     ·exact Or.inr (Or.inr h)
    ·rintro (h | h | h)
     ·exact Or.inr (Or.inl h)
     ·exact Or.inl h
     ·exact Or.inr (Or.inr h)
   have hp : L.Perm (j :: (A ++ B)) := by rw [eL]; exact List.perm_middle
   have Z := ((hp.map JR.R).nodup_iff).1 D.rn;have a0 := ((hp.map JR.item).nodup_iff).1 D.items.1;rw [pC, List.nodup_cons] at Z a0;have hR : ∀ i ∈ A ++ B, i.R ≠ j.R := fun i hi e => Z.1 (e ▸ List.mem_map_of_mem (f := JR.R) hi)
   have hI : ∀ i ∈ A ++ B, i.item ≠ j.item := fun i hi e => a0.1 (e ▸ List.mem_map_of_mem (f := JR.item) hi)
   have a1 : tm d.t_ j.R (zz.mk j.q c.Time j.data j.item) = some (0, zn.mk (zg.mk d.t_.p.most (mSet d.t_.p.l j.R.At ⟨j.R.Gen, true, zz.mk j.q c.Time j.data j.item⟩) d.t_.p.free) (mPut zf.eq j.item j.R (mDel zf.eq j.item d.t_.by_))) := by
    unfold tm;rw [D.get hj];simp only [bS];rw [show ((0 : Int) != 0) = false from rfl, cF, uJ ((D.by2 j.item j.R).2 ⟨j, hj, rfl, rfl⟩)];simp only [bS, cT];rw [show (!(zf.eq j.R j.R)) = false by rw [(uj _ _).2 rfl]; rfl, cF, Y]
    rfl
   refine Do.seq a1 ?_;refine ⟨_, rfl, Or.inr ⟨A, j, B, eL, rfl, Or.inr ⟨q', _, _, _, hle, Y, rfl, rfl, U, ?_, W.1, Int.le_trans W.2 ?_⟩⟩⟩
   ·rw [y];refine ⟨D.kd, D.dk, D.dm, D.nb, P', ?_, Pj.rJ D.jp J _, D.jm, ?_, sf uj (sY D.by1), ?_, D.wh1, ?_, ?_, ?_, D.bu, D.la, D.to⟩
    ·intro i hi;rcases (u i).1 hi with rfl | hi
     ·rw [<- y]; exact D.jq j hj
     ·exact D.jq i ((z i).2 (Or.inr hi))
    ·intro r v;refine (Pj.tI J _ r v).trans ⟨?_, ?_⟩
     ·rintro (⟨rfl, rfl⟩ | ⟨O, hl⟩)
      ·exact ⟨F, (u _).2 (Or.inl rfl), by rw [<- y], by rw [<- y]; rfl⟩
      ·obtain ⟨i, hi, rfl, rfl⟩ := (D.jl _ _).1 hl;rcases (z i).1 hi with rfl | hi
       ·exact absurd rfl O
       ·exact ⟨i, (u _).2 (Or.inr hi), rfl, rfl⟩
     ·rintro ⟨i, hi, rfl, rfl⟩;rcases (u i).1 hi with rfl | hi
      ·rw [<- y]; exact Or.inl ⟨rfl, rfl⟩
      ·exact Or.inr ⟨hR i hi, (D.jl _ _).2 ⟨i, (z i).2 (Or.inr hi), rfl, rfl⟩⟩
    ·intro i2 r;refine (rA uj).trans ?_;rw [qy uj D.by1];constructor
     ·rintro (⟨rfl, rfl⟩ | ⟨O, _, hg⟩)
      ·exact ⟨F, (u _).2 (Or.inl rfl), by rw [<- y], by rw [<- y]⟩
      ·obtain ⟨i, hi, rfl, rfl⟩ := (D.by2 _ _).1 hg;rcases (z i).1 hi with rfl | hi
       ·exact absurd rfl O
       ·exact ⟨i, (u _).2 (Or.inr hi), rfl, rfl⟩
     ·rintro ⟨i, hi, rfl, rfl⟩;rcases (u i).1 hi with rfl | hi
      ·rw [<- y]; exact Or.inl ⟨rfl, rfl⟩
      ·exact Or.inr ⟨hI i hi, hI i hi, (D.by2 _ _).2 ⟨i, (z i).2 (Or.inr hi), rfl, rfl⟩⟩
    ·intro r s;refine (D.wh2 r s).trans ⟨?_, ?_⟩
     ·rintro ⟨i, hi, rfl, rfl⟩;rcases (z i).1 hi with rfl | hi
      ·exact ⟨F, (u _).2 (Or.inl rfl), by rw [<- y], by rw [<- y]⟩
      ·exact ⟨i, (u _).2 (Or.inr hi), rfl, rfl⟩
     ·rintro ⟨i, hi, rfl, rfl⟩;rcases (u i).1 hi with rfl | hi
      ·rw [<- y]; exact ⟨j, hj, rfl, rfl⟩
      ·exact ⟨i, (z i).2 (Or.inr hi), rfl, rfl⟩
    ·have := D.rn;rw [eL] at this;simp only [List.map_append, pC] at this ⊢;rw [<- y]; exact this
    ·have := D.cn;rw [eL] at this;simp only [dq, mSet, List.length_set, lA, lC] at this ⊢;exact this
   ·have := fW (k := h.k) a3.2 (n := h.rs.length) (by omega);omega
 ·rw [Pj.iW he S];simp only [bS];refine Do.t (by simp [bne, he]) ?_;exact ⟨_, rfl, Or.inl ⟨e, he, S, rfl⟩⟩
theorem DI.fire (D : DI N k d L T) (hf : 95000 < f) {x : Int} (hx : x = 0 \/ x = 1) :
  Do (wE f d x) fun res => ∃ J d', J.serial = d.q.serial /\ Stp d d' 1900 /\
   (((∀ j ∈ L, j.q = x -> d.clock.now < j.it.k) /\ d' = dq d J d.t_ d.when /\ res = (no 28, d') /\ DI N k d' L T) \/
   ∃ A j B p', L = A ++ j :: B /\ j.q = x /\ j.it.k <= d.clock.now /\ (∀ i ∈ L, i.q = x -> ¬ i.it.lt j.it) /\ zW d.t_.p j.R = some (j.job, 0, p') /\ d' = dq d J (zn.mk p' (mDel zf.eq j.item d.t_.by_)) (mDel zf.eq j.R d.when) /\ res = (zu.mk 0 j.R j.it.k j.data 0, d') /\ DI N k d' (A ++ B) T) := by
 have a1 := D.nb;have a9 := D.items.2.1;obtain ⟨h, g, a2, Q, hk, u, b0, back⟩ := D.pq.focus hx;have b1 : h.rs.length <= L.length := by rw [u.length_eq]; exact kj
 unfold wE;rw [a2];simp only [bS];refine (Q.Bu (f := f) (by omega) hf).bind ?_;rintro res ⟨q1, Q1, y, l, h1⟩;have P1 : PQ2 N q1 T k d.heaps0 d.heaps1 L := back _ _ _ _ _ L Q1 u rfl;rcases h1 with ⟨O, rfl⟩ | ⟨p, hp, rfl, S⟩
 ·simp only;rw [show ((27 : Int) != 0) = true from rfl, cT];simp only [bS];refine Do.t rfl ?_;refine ⟨_, rfl, q1, _, y, ⟨l.1, Int.le_trans l.2 (by omega)⟩, Or.inl ⟨?_, rfl, rfl, D.fQ P1⟩⟩;intro j hj z;have : j.pr ∈ h.rs := u.mem_iff.2 (oj.2 ⟨j, hj, z, rfl⟩);rw [O] at this; cases this
 ·simp only [okA];rw [show ((0 : Int) != 0) = false from rfl, cF];unfold vS;simp only [bS];have I : ∀ p', p' ∈ h.rs -> p.2.k <= p'.2.k := by
   intro p' a3;have := S p' a3;unfold It.lt at this; omega
  refine Do.if (fun e => ?_) (fun e => ?_)
  ·have e' : ¬ p.2.k <= d.clock.now := by simpa using e
   refine ⟨_, rfl, q1, _, y, ⟨l.1, Int.le_trans l.2 (by omega)⟩, Or.inl ⟨?_, rfl, rfl, D.fQ P1⟩⟩;intro j hj z;have := I _ (u.mem_iff.2 (oj.2 ⟨j, hj, z, rfl⟩));simp only [JR.pr] at this; omega
  ·have e' : p.2.k <= d.clock.now := by simpa using e
   refine (Q1.BC (f := f) (k := 0) (key := 0) (o := zf.mk 0 0) (i0 := zf.mk 0 0) (by omega) (by intro e; rw [e] at hp; cases hp) hf).bind ?_;rintro _ ⟨p2, rs, r', C', J, rfl, U, F, Q', W, X⟩;have Y : p2 ∈ h.rs := U.mem_iff.2 (List.mem_cons_self ..);obtain ⟨j, hj, z, rfl⟩ := oj.1 (u.mem_iff.1 Y);obtain ⟨A, B, eL⟩ := List.append_of_mem hj;have Z := nk z eL;have P' := back _ _ _ _ _ (A ++ B) Q' ((U.symm.trans (u.trans Z.1)).cons_inv) Z.2;obtain ⟨p', a4, a5, D'⟩ := D.drop eL P';unfold rN;simp only [okA];rw [show j.pr.1 = j.item from rfl, uJ ((D.by2 j.item j.R).2 ⟨j, hj, rfl, rfl⟩)];simp only [bS];refine Do.seq a5 ?_;have h3 := F p hp;have h4 := I _ Y;refine ⟨_, rfl, J, _, W.trans y, ⟨Int.le_trans l.1 X.1, ?_⟩, Or.inr ⟨A, j, B, p', eL, z, ?_, ?_, a4, rfl, rfl, D'⟩⟩
   ·have := fW (k := h.k) a1.2 (n := h.rs.length) (by omega);have h5 := X.2;have h6 := l.2;show J.a_.m_.steps <= _;omega
   ·unfold It.lt at h3; simp only [JR.pr] at h3; omega
   ·intro i hi a0;exact F _ (u.mem_iff.2 (oj.2 ⟨i, hi, a0, rfl⟩))
end
end
noncomputable section
set_option maxRecDepth 10000
theorem nK {α β : Type} {f : α -> β} : ∀ {l : List β} {L : List α}, l.Perm (L.map f) -> ∃ L2 : List α, L2.Perm L /\ L2.map f = l
 | [], L, h => by
  have := h.length_eq;simp only [List.length_nil, lM] at this;exact ⟨[], by rw [List.eq_nil_of_length_eq_zero this.symm], rfl⟩
 | x :: l, L, h => by
  obtain ⟨p, rs, h1, rfl, h3⟩ := p8 h.symm;obtain ⟨L2, h4, e⟩ := nK h3.symm;exact ⟨p :: L2, (h4.cons p).trans h1.symm, by rw [pC, e]⟩
def qB (p p' : zg) : Prop := p'.most = p.most /\ p'.free = p.free /\ p'.l.map zq.gen = p.l.map zq.gen /\ p'.l.map zq.taken = p.l.map zq.taken
theorem qB.rfl' (p : zg) : qB p p := ⟨rfl, rfl, rfl, rfl⟩
theorem qB.trans {p p' e : zg} (h : qB p p') (i : qB p' e) : qB p e := ⟨i.1.trans h.1, i.2.1.trans h.2.1, i.2.2.1.trans h.2.2.1, i.2.2.2.trans h.2.2.2⟩
theorem rW {α β : Type} (f : α -> β) {l : List α} {j : Nat} {x y : α} (h : l[j]? = some x) (e : f y = f x) : (l.set j y).map f = l.map f := by
 rw [List.map_set, e];refine List.ext_getElem? fun i => ?_
 by_cases t : j = i
 ·subst t;have hl := (List.getElem?_eq_some_iff.1 h).1;rw [List.getElem?_set_self (by simpa using hl)]; simp [h]
 ·rw [List.getElem?_set_ne t]
theorem qB.set {p : zg} {T : Nat} (I : Pj.Inv p T) {r : zf} {v w : zz} (h : Pj.Live p r v) : qB p (zg.mk p.most (mSet p.l r.At ⟨r.Gen, true, w⟩) p.free) := by
 obtain ⟨j, e, h⟩ := h;refine ⟨rfl, rfl, ?_, ?_⟩ <;> simp only [mSet, e, tN]
 ·exact rW _ h rfl
 ·exact rW _ h rfl
def JR.zero (j : JR) : JR := ⟨0, j.data, j.R, j.item, j.it⟩
def JR.mv (j : JR) : JR := if j.q = 1 then j.zero else j
section
variable {N : Nat} {k : Int} {d : za} {L : List JR} {T : Nat} {f : Nat}
theorem DI.out (D : DI N k d L T) : ∃ L2 : List JR, L2.Perm L /\ Pj.out d.t_.p = L2.map JR.R := by
 have h : (Pj.out d.t_.p).Perm (L.map JR.R) := by
  refine (List.perm_ext_iff_of_nodup Pj.nP D.rn).2 fun r => ?_
  rw [Pj.nu, List.mem_map];constructor
  ·rintro ⟨v, hv⟩;obtain ⟨j, hj, rfl, _⟩ := (D.jl _ _).1 hv;exact ⟨j, hj, rfl⟩
  ·rintro ⟨j, hj, rfl⟩;exact ⟨_, (D.jl _ _).2 ⟨j, hj, rfl, rfl⟩⟩
 obtain ⟨L2, h1, h2⟩ := nK h;exact ⟨L2, h1, h2.symm⟩
theorem jX {T : Nat} {L2 : List JR} (hl : L2.length <= 65536) (hn : (L2.map JR.R).Nodup) :
  ∀ (rest pre : List JR) (t : zn) (n : Int) (m : Nat), L2 = pre ++ rest -> rest.length < m -> 0 <= n -> n <= pre.length -> Pj.Inv t.p T -> (∀ r v, Pj.Live t.p r v ↔ ∃ j ∈ pre.map JR.mv ++ rest, r = j.R /\ v = j.job) ->
   ∃ p', wz 1 0 (L2.length : Int) (L2.map JR.R) m n (pre.length : Int) t = some (n + (rest.filter fun j => j.q == 1).length, zn.mk p' t.by_) /\ Pj.Inv p' T /\ qB t.p p' /\ (∀ r v, Pj.Live p' r v ↔ ∃ j ∈ L2.map JR.mv, r = j.R /\ v = j.job)
 | [], pre, t, n, m + 1, e, hm, h0, h1, I, y => by
  refine ⟨t.p, ?_, I, qB.rfl' _, by rw [e, aN]; simpa using y⟩;unfold wz;rw [dF (by rw [e]; simp), cF];simp
 | x :: rest, pre, t, n, m + 1, e, hm, h0, h1, I, y => by
  have hlen : L2.length = pre.length + (rest.length + 1) := by rw [e]; simp
  simp only [lC] at hm;have A : Pj.Live t.p x.R x.job := (y _ _).2 ⟨x, by simp, rfl, rfl⟩;have D : mIdx (L2.map JR.R) (pre.length : Int) = some x.R := by
   rw [yC, List.getElem?_map, e]; simp
  have B : ∀ j ∈ pre.map JR.mv ++ rest, j.R ≠ x.R := by
   rw [e, List.map_append, pC] at hn;have h2 := (List.perm_middle.nodup_iff).1 hn;rw [List.nodup_cons] at h2;intro j hj u;refine h2.1 ?_;rcases List.mem_append.1 hj with hj | hj
   ·obtain ⟨i, hi, rfl⟩ := List.mem_map.1 hj;have : i.mv.R = i.R := by unfold JR.mv; split <;> rfl
    exact mL _ (List.mem_map.2 ⟨i, hi, by rw [<- this, u]⟩)
   ·exact List.mem_append_right _ (List.mem_map.2 ⟨j, hj, u⟩)
  unfold wz;rw [dT (by omega), cT, D];simp only [bS];rw [Pj.wW I A];simp only [bS];rw [zG (x := (pre.length : Int) + 1) (by omega) (by omega), show x.job.Queue = x.q from rfl];by_cases hq : x.q = 1
  ·have F := Pj.rD I A (zz.mk 0 x.it.k x.data x.item);have J := Pj.tI A (zz.mk 0 x.it.k x.data x.item);have z : x.mv = x.zero := by unfold JR.mv; rw [if_pos hq]
   obtain ⟨p', u, O, s2, l2⟩ := jX hl hn rest (pre ++ [x]) (zn.mk (zg.mk t.p.most (mSet t.p.l x.R.At ⟨x.R.Gen, true, zz.mk 0 x.it.k x.data x.item⟩) t.p.free) t.by_) (n + 1) m (by rw [e]; simp) (by omega) (by omega) (by simp; omega) (Pj.rJ I A _) (by
    intro r v;refine (J r v).trans ?_;simp only [List.map_append, pC, List.map_nil, iA, List.mem_singleton, z];constructor
    ·rintro (⟨rfl, rfl⟩ | ⟨S, hl⟩)
     ·exact ⟨x.zero, Or.inl (Or.inr rfl), rfl, rfl⟩
     ·obtain ⟨j, hj, rfl, rfl⟩ := (y _ _).1 hl;rcases List.mem_append.1 hj with hj | hj
      ·exact ⟨j, Or.inl (Or.inl hj), rfl, rfl⟩
      ·rcases List.mem_cons.1 hj with rfl | hj
       ·exact absurd rfl S
       ·exact ⟨j, Or.inr hj, rfl, rfl⟩
    ·rintro ⟨j, (hj | rfl) | hj, rfl, rfl⟩
     ·exact Or.inr ⟨B j (mL _ hj), (y _ _).2 ⟨j, mL _ hj, rfl, rfl⟩⟩
     ·exact Or.inl ⟨rfl, rfl⟩
     ·exact Or.inr ⟨B j (List.mem_append_right _ hj), (y _ _).2 ⟨j, List.mem_append_right _ (mC _ hj), rfl, rfl⟩⟩)
   refine ⟨p', ?_, O, (qB.set I A).trans s2, l2⟩;rw [hq, show ((1 : Int) == 1) = true from rfl, cT];rw [show zz.mk 0 x.job.Time x.job.Data x.job.Item = zz.mk 0 x.it.k x.data x.item from rfl, F];simp only [bS];rw [zG (by omega) (by omega)];rw [show ((pre ++ [x]).length : Int) = (pre.length : Int) + 1 by simp] at u;rw [u, List.filter_cons, hq];simp; omega
  ·have z : x.mv = x := by unfold JR.mv; rw [if_neg hq]
   have U : (x.q == 1) = false := by simpa using hq
   obtain ⟨p', u, O, s2, l2⟩ := jX hl hn rest (pre ++ [x]) t n m (by rw [e]; simp) (by omega) h0 (by simp; omega) I (by
    intro r v;refine (y r v).trans ?_;simp only [List.map_append, pC, List.map_nil, iA, List.mem_singleton, iC, z, or_assoc, List.not_mem_nil, false_or])
   refine ⟨p', ?_, O, s2, l2⟩;rw [U, cF];simp only [bS];rw [show ((pre ++ [x]).length : Int) = (pre.length : Int) + 1 by simp] at u;rw [u, List.filter_cons, U]
   rfl
theorem ku {x : Int} {t : zn} {T : Nat} (I : Pj.Inv t.p T) {L2 : List JR} (hl : L2.length <= 65536) (i : ∀ j ∈ L2, Pj.Live t.p j.R j.job) :
  ∀ (rest pre : List JR) (n : Int) (m : Nat), L2 = pre ++ rest -> rest.length < m -> 0 <= n -> n <= pre.length ->
   xW x (L2.length : Int) t (L2.map JR.R) m n (pre.length : Int) = some (n + (rest.filter fun j => j.q == x).length)
 | [], pre, n, m + 1, e, hm, h0, h1 => by
  unfold xW;rw [dF (by rw [e]; simp), cF];simp
 | y :: rest, pre, n, m + 1, e, hm, h0, h1 => by
  have hlen : L2.length = pre.length + (rest.length + 1) := by rw [e]; simp
  simp only [lC] at hm;have u := i y (by rw [e]; simp);have l : mIdx (L2.map JR.R) (pre.length : Int) = some y.R := by
   rw [yC, List.getElem?_map, e]; simp
  unfold xW;rw [dT (by omega), cT, l];simp only [bS];rw [Pj.wW I u];simp only [bS];rw [zG (x := (pre.length : Int) + 1) (by omega) (by omega), show y.job.Queue = y.q from rfl, List.filter_cons];cases z : y.q == x with
  | true =>
   have ih := ku (x := x) I hl i rest (pre ++ [y]) (n + 1) m (by rw [e]; simp) (by omega) (by omega) (by simp; omega);rw [show ((pre ++ [y]).length : Int) = (pre.length : Int) + 1 by simp] at ih;rw [cT, zG (by omega) (by omega)];simp only [bS, if_true];rw [ih]; simp; omega
  | false =>
   have ih := ku (x := x) I hl i rest (pre ++ [y]) n m (by rw [e]; simp) (by omega) h0 (by simp; omega);rw [show ((pre ++ [y]).length : Int) = (pre.length : Int) + 1 by simp] at ih;rw [cF];simp only [bS, Bool.false_eq_true, if_false];exact ih
theorem DI.count (D : DI N k d L T) (hf : 95000 < f) (x : Int) : ur f d.t_ x = some ((sel x L).length : Int) := by
 obtain ⟨L2, hp, e⟩ := D.out;have i := D.items.2.1;have l := D.nb;have hl2 := hp.length_eq;unfold ur;rw [Pj.qs D.jp (by omega), e];simp only [bS];have := ku (x := x) D.jp (L2 := L2) (by omega) (fun j hj => (D.jl _ _).2 ⟨j, hp.mem_iff.1 hj, rfl, rfl⟩) L2 [] 0 f rfl (by omega) (Int.le_refl _) (Int.le_refl _);rw [lM];rw [show ((([] : List JR).length : Nat) : Int) = 0 from rfl] at this;rw [this];simp only [bS];have := ((hp.filter fun j => j.q == x).length_eq)
 unfold sel;rw [lM, this];simp
theorem mv_R (j : JR) : j.mv.R = j.R := by unfold JR.mv; split <;> rfl
theorem fT (j : JR) : j.mv.item = j.item := by unfold JR.mv; split <;> rfl
theorem cQ (j : JR) : j.mv.it = j.it := by unfold JR.mv; split <;> rfl
theorem BD (j : JR) : j.mv.pr = j.pr := by unfold JR.mv; split <;> rfl
theorem mv_q {j : JR} (h : j.q = 0 \/ j.q = 1) : j.mv.q = 0 := by
 unfold JR.mv; split
 ·rfl
 ·omega
theorem DI.merge (D : DI N k d L T) (hT : T < 1000000) (hf : 95000 < f) :
  Do (wg f d) fun res => ∃ B r p', res = (zu.mk 0 (zf.mk 0 0) 0 0 ((sel 1 L).length : Int), za.mk d.kind d.most B d.heaps0 r (zn.mk p' d.t_.by_) d.when d.clock d.budget d.last d.top) /\ qB d.t_.p p' /\ B.serial = d.q.serial /\
   DI N k (za.mk d.kind d.most B d.heaps0 r (zn.mk p' d.t_.by_) d.when d.clock d.budget d.last d.top) (L.map JR.mv) (T + 1) /\ Stp d (za.mk d.kind d.most B d.heaps0 r (zn.mk p' d.t_.by_) d.when d.clock d.budget d.last d.top) 1800 := by
 have F := D.nb;have S := D.items.2.1;obtain ⟨L2, hp, z⟩ := D.out;have hl2 := hp.length_eq;obtain ⟨h0, h1, Q, e0, U, J, k1, p0, p1⟩ := D.pq;have l := o5 D.jq;have hs : h0.rs.length + h1.rs.length = L.length := by
  have := l.length_eq;rw [lA, lM] at this;rw [p0.length_eq, p1.length_eq]; exact this
 unfold wg;rw [<- e0, <- U];refine (Q.A7 (f := f) (k := 0) (key := 0) (i0 := zf.mk 0 0) (by rw [J, k1]) (by omega) (by omega) hf).bind ?_;rintro _ ⟨r', C', q1, rfl, W, x, t⟩;simp only;refine (W.dy (f := f) (k := d.kind) (a := zf.mk 0 0) (b := zf.mk 0 0) (c := zf.mk 0 0) (key := 0) (by rw [D.dk]; exact D.kd) (by simp) (by omega)).bind ?_;rintro _ ⟨r, q2, rfl, X, y, u⟩;simp only;unfold tU;rw [Pj.qs D.jp (by omega), z];simp only [bS];obtain ⟨p', O, Y, s2, l2⟩ := jX (T := T) (L2 := L2) (by omega) (((hp.map JR.R).nodup_iff).2 D.rn) L2 [] d.t_ 0 f rfl (by omega) (Int.le_refl _) (Int.le_refl _) D.jp (by
  intro r v;refine (D.jl r v).trans ⟨?_, ?_⟩
  ·rintro ⟨j, hj, e⟩; exact ⟨j, hp.mem_iff.2 hj, e⟩
  ·rintro ⟨j, hj, e⟩; exact ⟨j, hp.mem_iff.1 hj, e⟩)
 rw [show ((([] : List JR).length : Nat) : Int) = 0 from rfl] at O;rw [lM, O];simp only [bS];have A : (0 : Int) + ((L2.filter fun j => j.q == 1).length : Int) = ((sel 1 L).length : Int) := by
  have := ((hp.filter fun j => j.q == 1).length_eq)
  unfold sel;rw [lM, this]; simp
 rw [A];have Z : h0.ref = d.heaps0 := e0;have hz : sel 0 (L.map JR.mv) = L.map JR.pr := by
  unfold sel;rw [List.filter_eq_self.2 (fun j hj => by
   obtain ⟨i, hi, rfl⟩ := List.mem_map.1 hj;simp [mv_q (D.jq i hi)]), List.map_map]
  exact List.map_congr_left fun j _ => BD j
 have I : sel 1 (L.map JR.mv) = [] := by
  unfold sel;rw [List.filter_eq_nil_iff.2 (fun j hj => by
   obtain ⟨i, hi, rfl⟩ := List.mem_map.1 hj;simp [mv_q (D.jq i hi)])]
  rfl
 refine ⟨_, rfl, q2, r, p', rfl, s2, y.trans x, ?_, ?_⟩
 ·refine ⟨D.kd, D.dk, D.dm, D.nb, ?_, ?_, Y.mono (by omega), s2.1.trans D.jm, ?_, D.by1, ?_, D.wh1, ?_, ?_, ?_, D.bu, D.la, D.to⟩
  ·refine ⟨_, _, X.p (List.Perm.swap ..), rfl, rfl, J, D.dk, ?_, ?_⟩
   ·rw [hz]; exact (p0.append p1).trans l
   ·rw [I]
  ·intro j hj;obtain ⟨i, hi, rfl⟩ := List.mem_map.1 hj;exact Or.inl (mv_q (D.jq i hi))
  ·intro r v;refine (l2 r v).trans ⟨?_, ?_⟩
   ·rintro ⟨j, hj, e⟩; exact ⟨j, ((hp.map JR.mv).mem_iff).1 hj, e⟩
   ·rintro ⟨j, hj, e⟩; exact ⟨j, ((hp.map JR.mv).mem_iff).2 hj, e⟩
  ·intro i r;refine (D.by2 i r).trans ⟨?_, ?_⟩
   ·rintro ⟨j, hj, rfl, rfl⟩; exact ⟨j.mv, List.mem_map_of_mem hj, (fT j).symm, (mv_R j).symm⟩
   ·rintro ⟨j, hj, rfl, rfl⟩;obtain ⟨i, hi, rfl⟩ := List.mem_map.1 hj;exact ⟨i, hi, fT i, mv_R i⟩
  ·intro r s;refine (D.wh2 r s).trans ⟨?_, ?_⟩
   ·rintro ⟨j, hj, rfl, rfl⟩; exact ⟨j.mv, List.mem_map_of_mem hj, (mv_R j).symm, by rw [cQ]⟩
   ·rintro ⟨j, hj, rfl, rfl⟩;obtain ⟨i, hi, rfl⟩ := List.mem_map.1 hj;exact ⟨i, hi, mv_R i, by rw [cQ]⟩
  ·have : (L.map JR.mv).map JR.R = L.map JR.R := by
    rw [List.map_map];exact List.map_congr_left fun j _ => mv_R j
   rw [this]; exact D.rn
  ·have h1 := D.cn;have h2 := congrArg List.length s2.2.2.1;simp only [lM] at h2 ⊢;rw [s2.2.1, h2]; exact h1
 ·have h1 := fW (k := h0.k) F.2 (n := h0.rs.length + h1.rs.length) (by omega);have h2 := t.2;have h3 := u.2;exact ⟨Int.le_trans t.1 u.1, by show q2.a_.m_.steps <= _; omega⟩
end
end
noncomputable section
set_option maxRecDepth 10000
inductive How (N : Nat) (p : zg) (s now : Int) (L : List JR) (c : zw) : zu -> zg -> Int -> Int -> List JR -> Prop
 | bad (hk : c.Kind = 1 \/ c.Kind = 5 \/ c.Kind = 6 \/ c.Kind = 7) (hq : ¬ (c.Queue = 0 \/ c.Queue = 1)) : How N p s now L c (no 1) p s now L
 | full (hk : c.Kind = 1) (hq : c.Queue = 0 \/ c.Queue = 1) (hl : L.length = N) : How N p s now L c (no 13) p s now L
 | sched (j : JR) (p' : zg) (v : zz) (hk : c.Kind = 1) (hq : c.Queue = 0 \/ c.Queue = 1) (hl : L.length < N) (h1 : j.q = c.Queue) (h2 : j.data = c.Data) (h3 : j.it.k = c.Time) (h4 : j.it.s = s) (ht : yv p v = some (j.R, true, p')) : How N p s now L c (zu.mk 0 j.R c.Time c.Data 0) p' (s + 1) now (L ++ [j])
 | dead (e : Int) (hk : c.Kind = 2 \/ c.Kind = 3) (he : (e == (0 : Int)) = false) (hf : zS p c.Job = some (none, e)) : How N p s now L c (no e) p s now L
 | late (A : List JR) (j : JR) (B : List JR) (hk : c.Kind = 2) (eL : L = A ++ j :: B) (hj : c.Job = j.R) (ht : c.Time > j.it.k) : How N p s now L c (no 26) p s now L
 | soon (A : List JR) (j : JR) (B : List JR) (p' : zg) (hk : c.Kind = 2) (eL : L = A ++ j :: B) (hj : c.Job = j.R) (ht : c.Time <= j.it.k) (hp : qB p p') : How N p s now L c (zu.mk 0 (zf.mk 0 0) c.Time j.data 0) p' s now (A ++ ⟨j.q, j.data, j.R, j.item, ⟨j.it.i, c.Time, j.it.s⟩⟩ :: B)
 | canc (A : List JR) (j : JR) (B : List JR) (p' : zg) (hk : c.Kind = 3) (eL : L = A ++ j :: B) (hj : c.Job = j.R) (hp : zW p j.R = some (j.job, 0, p')) : How N p s now L c (zu.mk 0 (zf.mk 0 0) j.it.k j.data 0) p' s now (A ++ B)
 | back (hk : c.Kind = 4) (ht : c.Time < 0) : How N p s now L c (no 1) p s now L
 | go (t : Int) (hk : c.Kind = 4) (ht : ¬ c.Time < 0) (ha : vu now c.Time = some t) : How N p s now L c (zu.mk 0 (zf.mk 0 0) t 0 0) p s t L
 | idle (hk : c.Kind = 5) (hq : c.Queue = 0 \/ c.Queue = 1) (hn : ∀ j ∈ L, j.q = c.Queue -> now < j.it.k) : How N p s now L c (no 28) p s now L
 | fire (A : List JR) (j : JR) (B : List JR) (p' : zg) (hk : c.Kind = 5) (hq : c.Queue = 0 \/ c.Queue = 1) (eL : L = A ++ j :: B) (hj : j.q = c.Queue) (hn : j.it.k <= now) (hm : ∀ i ∈ L, i.q = c.Queue -> ¬ i.it.lt j.it) (hp : zW p j.R = some (j.job, 0, p')) : How N p s now L c (zu.mk 0 j.R j.it.k j.data 0) p' s now (A ++ B)
 | self (hk : c.Kind = 6) (hq : c.Queue = 0) : How N p s now L c (no 25) p s now L
 | merge (p' : zg) (hk : c.Kind = 6) (hq : c.Queue = 1) (hp : qB p p') : How N p s now L c (zu.mk 0 (zf.mk 0 0) 0 0 ((sel 1 L).length : Int)) p' s now (L.map JR.mv)
 | count (hk : c.Kind = 7) (hq : c.Queue = 0 \/ c.Queue = 1) : How N p s now L c (zu.mk 0 (zf.mk 0 0) 0 0 ((sel c.Queue L).length : Int)) p s now L
 | unknown (h : ¬ (c.Kind = 1 \/ c.Kind = 2 \/ c.Kind = 3 \/ c.Kind = 4 \/ c.Kind = 5 \/ c.Kind = 6 \/ c.Kind = 7)) : How N p s now L c (no 12) p s now L
theorem cH (a b : Int) : ∃ t, vu a b = some t := by
 unfold vu;cases (decide (b > 0)) && (decide (a > w64 (9223372036854775807 - b))) with
 | true => exact ⟨_, rfl⟩
 | false =>
  cases (decide (b < 0)) && (decide (a < w64 ((-9223372036854775808) - b))) with
  | true => exact ⟨_, rfl⟩
  | false => exact ⟨_, rfl⟩
section
variable {N : Nat} {k : Int} {d : za} {L : List JR} {T : Nat} {f : Nat}
theorem DI.mono (D : DI N k d L T) {T' : Nat} (h : T <= T') : DI N k d L T' := by
 refine ⟨D.kd, D.dk, D.dm, D.nb, D.pq.same fun hs Q => ?_, D.jq, D.jp.mono h, D.jm, D.jl, D.by1, D.by2, D.wh1, D.wh2, D.rn, D.cn, D.bu, D.la, D.to⟩;exact ⟨{ Q.ih with gen := fun j x e => by have := Q.ih.gen j x e; omega }, Q.ii.mono h, Q.hl, Q.il, Q.at1, Q.at2, Q.en1, Q.en2, Q.hk, Q.hn, Q.rn, Q.sn, Q.ar, Q.mi, Q.mm, Q.mb, Q.ci, Q.ch, Q.cm, Q.sr, by have := Q.sq; omega⟩
theorem cl (d : za) (B : Nat) : Stp d d B := ⟨Int.le_refl _, by omega⟩
theorem DI.one (D : DI N k d L T) (U : T < 1000000) (hf : 95000 < f) (c : zw) :
  Do (wG f d c) fun res => ∃ L', How N d.t_.p d.q.serial d.clock.now L c res.1 res.2.t_.p res.2.q.serial res.2.clock.now L' /\ DI N k res.2 L' (T + 1) /\ Stp d res.2 1900 /\ res.2.budget = d.budget /\ res.2.top = d.top := by
 have l := D.mono (Nat.le_succ T);have u := cl d 1900;unfold wG;by_cases hk : c.Kind = 1 \/ c.Kind = 5 \/ c.Kind = 6 \/ c.Kind = 7
 ·have Y : (bif c.Kind == 1 then some (c.Kind == 1) else (bif c.Kind == 5 then some (c.Kind == 5) else (bif c.Kind == 6 then some (c.Kind == 6) else some (c.Kind == 7)))) = some true := by
   rcases hk with e | e | e | e <;> rw [e] <;> rfl
  rw [Y];simp only [bS, cT];by_cases hq : c.Queue = 0 \/ c.Queue = 1
  ·have O : (!((decide (c.Queue >= 0)) && (decide (c.Queue < 2)))) = false := by rcases hq with e | e <;> rw [e] <;> rfl
   rw [O];simp only [cF, bS];rcases hk with e | e | e | e <;> rw [e]
   ·refine Do.t rfl ((D.schedule U hf hq).bind ?_);rintro res (⟨hl, rfl⟩ | ⟨hl, j, x, p', v, h1, h2, h3, h4, Z, h6, rfl, h8, W⟩)
    ·exact ⟨_, rfl, L, .full e hq hl, l, u, rfl, rfl⟩
    ·refine ⟨_, rfl, L ++ [j], ?_, h8, ⟨W.1, Int.le_trans W.2 (by omega)⟩, rfl, rfl⟩;show How N d.t_.p d.q.serial d.clock.now L c _ p' x.serial d.clock.now _;rw [Z];exact .sched j p' v e hq hl h1 h2 h3 h4 h6
   ·refine Do.f rfl (Do.f rfl (Do.f rfl (Do.f rfl (Do.t rfl ((D.fire hf hq).bind ?_)))));rintro res ⟨x, d', hs, i, h⟩;rcases h with ⟨hn, rfl, rfl, y⟩ | ⟨A, j, B, p', eL, hj, hn, hm, hp, rfl, rfl, y⟩
    ·refine ⟨_, rfl, L, ?_, y.mono (Nat.le_succ T), i, rfl, rfl⟩;show How N d.t_.p d.q.serial d.clock.now L c _ d.t_.p x.serial d.clock.now _;rw [hs];exact .idle e hq hn
    ·refine ⟨_, rfl, A ++ B, ?_, y.mono (Nat.le_succ T), i, rfl, rfl⟩;show How N d.t_.p d.q.serial d.clock.now L c _ p' x.serial d.clock.now _;rw [hs];exact .fire A j B p' e hq eL hj hn hm hp
   ·refine Do.f rfl (Do.f rfl (Do.f rfl (Do.f rfl (Do.f rfl (Do.t rfl ?_)))));rcases hq with J | J <;> rw [J]
    ·refine Do.t rfl ?_;exact ⟨_, rfl, L, .self e J, l, u, rfl, rfl⟩
    ·refine Do.f rfl ((D.merge U hf).bind ?_);rintro res ⟨x, r, p', rfl, hp, hs, y, i⟩;refine ⟨_, rfl, L.map JR.mv, ?_, y, ⟨i.1, Int.le_trans i.2 (by omega)⟩, rfl, rfl⟩;show How N d.t_.p d.q.serial d.clock.now L c _ p' x.serial d.clock.now _;rw [hs];exact .merge p' e J hp
   ·refine Do.f rfl (Do.f rfl (Do.f rfl (Do.f rfl (Do.f rfl (Do.f rfl (Do.t rfl ?_))))));rw [D.count hf c.Queue];exact ⟨_, rfl, L, .count e hq, l, u, rfl, rfl⟩
  ·have O : (!((decide (c.Queue >= 0)) && (decide (c.Queue < 2)))) = true := by
    cases h1 : decide (c.Queue >= 0) with
    | false => rfl
    | true =>
     cases h2 : decide (c.Queue < 2) with
     | false => rfl
     | true =>
      have h1 := of_decide_eq_true h1;have h2 := of_decide_eq_true h2;omega
   rw [O];exact ⟨_, rfl, L, .bad hk hq, l, u, rfl, rfl⟩
 ·have n1 : (c.Kind == 1) = false := by simp; omega
  have n5 : (c.Kind == 5) = false := by simp; omega
  have n6 : (c.Kind == 6) = false := by simp; omega
  have n7 : (c.Kind == 7) = false := by simp; omega
  rw [n1, n5, n6, n7];simp only [cF, bS];by_cases h2 : c.Kind = 2
  ·rw [show (c.Kind == 2) = true by simp [h2], cT];refine (D.A2 hf c).bind ?_;rintro res (⟨e, he, F, rfl⟩ | ⟨A, j, B, eL, hj, ⟨ht, rfl⟩ | ⟨x, p', b', d', ht, z, rfl, rfl, hs, y, i⟩⟩)
   ·exact ⟨_, rfl, L, .dead e (Or.inl h2) he F, l, u, rfl, rfl⟩
   ·exact ⟨_, rfl, L, .late A j B h2 eL hj ht, l, u, rfl, rfl⟩
   ·refine ⟨_, rfl, _, ?_, y.mono (Nat.le_succ T), ⟨i.1, Int.le_trans i.2 (by omega)⟩, rfl, rfl⟩;show How N d.t_.p d.q.serial d.clock.now L c _ p' x.serial d.clock.now _;rw [hs];refine .soon A j B p' h2 eL hj ht ?_;have I : Pj.Live d.t_.p j.R j.job := (D.jl _ _).2 ⟨j, by rw [eL]; simp, rfl, rfl⟩;have S := Pj.rD D.jp I (zz.mk j.q c.Time j.data j.item);rw [S] at z;have := (Prod.mk.inj (Option.some.inj z)).2;rw [<- this];exact qB.set D.jp I
  ·rw [show (c.Kind == 2) = false by simp [h2], cF];by_cases h3 : c.Kind = 3
   ·rw [show (c.Kind == 3) = true by simp [h3], cT];refine (D.cancel hf c.Job).bind ?_;rintro res (⟨e, he, F, rfl⟩ | ⟨A, j, B, x, p', d', eL, hj, hg, rfl, rfl, hs, y, i⟩)
    ·exact ⟨_, rfl, L, .dead e (Or.inr h3) he F, l, u, rfl, rfl⟩
    ·refine ⟨_, rfl, _, ?_, y.mono (Nat.le_succ T), ⟨i.1, Int.le_trans i.2 (by omega)⟩, rfl, rfl⟩;show How N d.t_.p d.q.serial d.clock.now L c _ p' x.serial d.clock.now _;rw [hs];exact .canc A j B p' h3 eL hj hg
   ·rw [show (c.Kind == 3) = false by simp [h3], cF];by_cases h4 : c.Kind = 4
    ·rw [show (c.Kind == 4) = true by simp [h4], cT];unfold sU;by_cases ht : c.Time < 0
     ·rw [dT ht, cT];exact ⟨_, rfl, L, .back h4 ht, l, u, rfl, rfl⟩
     ·rw [dF ht, cF];obtain ⟨t, X⟩ := cH d.clock.now c.Time;rw [X];refine ⟨_, rfl, L, .go t h4 ht X, ?_, u, rfl, rfl⟩;exact ⟨l.kd, l.dk, l.dm, l.nb, l.pq, l.jq, l.jp, l.jm, l.jl, l.by1, l.by2, l.wh1, l.wh2, l.rn, l.cn, l.bu, l.la, l.to⟩
    ·rw [show (c.Kind == 4) = false by simp [h4], cF];exact ⟨_, rfl, L, .unknown (by omega), l, u, rfl, rfl⟩
structure Went (N : Nat) (k : Int) (d : za) (L : List JR) (T : Nat) (c : zw) (rep : zu) (d' : za) (L' : List JR) : Prop where
 how : How N d.t_.p d.q.serial d.clock.now L c rep d'.t_.p d'.q.serial d'.clock.now L'
 di : DI N k d' L' (T + 1)
 bu : d'.budget = d.budget
theorem DI.do (D : DI N k d L T) (l : T < 1000000) (hf : 95000 < f) (c : zw) :
  Do (yr f d c) fun res => ∃ L', Went N k d L T c res.1 res.2 L' := by
 unfold yr;refine Do.seq (r := d.q.a_.m_.steps) rfl ?_;refine (D.one l hf c).bind ?_;rintro ⟨rep, d'⟩ ⟨L', hh, e, i, j, ht⟩;simp only at hh e i j ht ⊢;refine Do.seq (r := d'.q.a_.m_.steps) rfl ?_;have h1 := i.1;have h2 := i.2;have h3 := e.bu;have t := e.to;have u := e.la;rw [zG (by omega) (by omega)];refine Do.f (dF (by omega)) ?_;refine ⟨_, rfl, L', hh, ?_, j⟩;refine ⟨e.kd, e.dk, e.dm, e.nb, e.pq, e.jq, e.jp, e.jm, e.jl, e.by1, e.by2, e.wh1, e.wh2, e.rn, e.cn, e.bu, ?_, ?_⟩
 ·simp only; omega
 ·simp only; split <;> omega
theorem hY {b : Nat} (i : b <= 1000) : ∀ (r x : Nat) (a : Int) (m : Nat), x + r = b -> r < m -> 0 <= a -> a + 1600 * r <= 1000000 -> ∃ v, vJ 1600 (b : Int) m a (x : Int) = some v /\ a <= v
 | 0, x, a, m + 1, e, hm, h0, h1 => by
  refine ⟨a, ?_, Int.le_refl _⟩;unfold vJ;rw [dF (by omega), cF]
 | r + 1, x, a, m + 1, e, hm, h0, h1 => by
  obtain ⟨v, hv, hle⟩ := hY i r (x + 1) (a + 1600) m (by omega) (by omega) (by omega) (by omega);refine ⟨v, ?_, by omega⟩;unfold vJ vu;rw [dT (by omega), cT, zG (x := 9223372036854775807 - 1600) (by omega) (by omega), dF (p := a > 9223372036854775807 - 1600) (by omega), Bool.and_false, cF];rw [show decide ((1600 : Int) < 0) = false from rfl, Bool.false_and, cF];simp only [bS];rw [zG (x := a + 1600) (by omega) (by omega), zG (x := (x : Int) + 1) (by omega) (by omega)];rw [show ((x + 1 : Nat) : Int) = (x : Int) + 1 by simp] at hv;exact hv
theorem aZ : ∀ n : Fin 42, (match qx (n.val : Int) with | some b => decide (0 <= b /\ b <= 8) | none => false) = true := by decide +kernel
theorem eG {f : Nat} (hf : 95000 < f) {k : Int} (hk : Kd k) {N : Nat} (h1 : 1 <= N) (h2 : N <= 40) : ∃ b, sH f k (N : Int) = some (b, true) /\ 2000 <= b := by
 have hw : td k = some true := by
  unfold td;rcases hk with rfl | rfl | rfl <;> rfl
 have i := aZ ⟨N + 1, by omega⟩;unfold sH;rw [hw];simp only [bS];rw [show (!true) = false from rfl, cF, dF (by omega), cF, dF (by omega)];simp only [bS, cF];unfold qX;rw [zG (by omega) (by omega)];simp only at i;rw [show ((N + 1 : Nat) : Int) = (N : Int) + 1 by simp] at i;cases e : qx ((N : Int) + 1) with
 | none => rw [e] at i; cases i
 | some b =>
  rw [e] at i;have i := of_decide_eq_true i;obtain ⟨j, rfl⟩ : ∃ j : Nat, b = (j : Int) := ⟨b.toNat, by omega⟩
  obtain ⟨v, hv, hle⟩ := hY (b := j) (by omega) j 0 2000 f (by omega) (by omega) (by omega) (by omega);simp only [bS];rw [show ((0 : Nat) : Int) = 0 from rfl] at hv;rw [hv];exact ⟨v, rfl, hle⟩
theorem DI.new (hf : 95000 < f) (hk : Kd k) (h1 : 1 <= N) (h2 : N <= 40) :
  ∃ d, sF f k (N : Int) = some (some d, 0) /\ DI N k d [] 2 /\ d.clock.now = 0 /\ d.q.serial = 0 /\ d.t_.p = zg.mk (N : Int) [] [] := by
 have hw : td k = some true := by
  unfold td;rcases hk with rfl | rfl | rfl <;> rfl
 obtain ⟨b, t, u⟩ := eG hf hk h1 h2;obtain ⟨q, eq, Q, hs, x⟩ := Ao (M := N) h1 (by omega);obtain ⟨_, e, r0, q1, rfl, y, z, _⟩ := Q.dy (f := f) (k := k) (a := zf.mk 0 0) (b := zf.mk 0 0) (c := zf.mk 0 0) (key := 0) hk (by simp) (by omega);obtain ⟨_, l, r1, q2, rfl, A, B, _⟩ := y.dy (f := f) (k := k) (a := zf.mk 0 0) (b := zf.mk 0 0) (c := zf.mk 0 0) (key := 0) hk (by simp) (by omega);have D : (if (if 4096 < (N : Int) then 4096 else (N : Int)) > 1 then (if 4096 < (N : Int) then 4096 else (N : Int)) else 1) = (N : Int) := by
  rw [show (if 4096 < (N : Int) then 4096 else (N : Int)) = (N : Int) from if_neg (by omega)]; split <;> omega
 have F : (if (if 65536 < (N : Int) then 65536 else (N : Int)) > 0 then (if 65536 < (N : Int) then 65536 else (N : Int)) else 0) = (N : Int) := by
  rw [show (if 65536 < (N : Int) then 65536 else (N : Int)) = (N : Int) from if_neg (by omega), if_pos (by omega)]
 have I : pg (N : Int) = some (zn.mk (zg.mk (N : Int) [] []) []) := by
  unfold pg u9;rw [D];simp only [bS];rw [F]
 refine ⟨za.mk k (N : Int) q2 r0 r1 (zn.mk (zg.mk (N : Int) [] []) []) [] (zO.mk 0) b 0 0, ?_, ?_, rfl, by simp only; omega, rfl⟩
 ·unfold sF;rw [hw];simp only [bS];rw [show (!true) = false from rfl, cF, t];simp only [bS];rw [show (!true) = false from rfl, cF, eq];simp only [bS, uW, oS];rw [I];simp only [bS];unfold pJ;simp only [bS];rw [e];simp only [bS];rw [l]
  rfl
 ·refine ⟨hk, rfl, rfl, ⟨h1, h2⟩, ?_, ?_, Pj.jH (by omega) (by omega) 2, rfl, ?_, List.nodup_nil, ?_, List.nodup_nil, ?_, List.nodup_nil, rfl, u, ⟨Int.le_refl _, by simp only; omega⟩, ⟨Int.le_refl _, by simp only; omega⟩⟩
  ·exact ⟨_, _, A.p (List.Perm.swap ..), rfl, rfl, rfl, rfl, .refl _, .refl _⟩
  ·intro j hj; cases hj
  ·intro r v;constructor
   ·intro h; exact absurd h Pj.iT
   ·rintro ⟨j, hj, _⟩; cases hj
  ·intro i r;constructor
   ·intro h; cases h
   ·rintro ⟨j, hj, _⟩; cases hj
  ·intro i r;constructor
   ·intro h; cases h
   ·rintro ⟨j, hj, _⟩; cases hj
end
end
noncomputable section
set_option maxRecDepth 10000
structure PR (p : zg) (r : zk) : Prop where
 mo : r.Most = p.most
 ge : r.Gens = p.l.map zq.gen
 tk : r.In = p.l.map zq.taken
 vl : r.V.length = p.l.length
 bk : r.Back = p.free
def rj (j : JR) : zC := zC.mk j.q j.data (zi.mk j.it.k j.it.s) j.R
structure TI (N : Nat) (p : zg) (s now : Int) (L : List JR) (m : zd) : Prop where
 mo : m.Most = N
 nw : m.Now = now
 nx : m.Next = s
 po : PR p m.Pool
 ls : m.L = L.map rj
section
variable {p p' : zg} {r : zk} {T : Nat} {L : List JR}
theorem PR.same (P : PR p r) (h : qB p p') : PR p' r :=
 ⟨P.mo.trans h.1.symm, P.ge.trans h.2.2.1.symm, P.tk.trans h.2.2.2.symm, by have := congrArg List.length h.2.2.1; simp only [lM] at this; rw [P.vl, this], P.bk.trans h.2.1.symm⟩
theorem PR.look (P : PR p r) (I : Pj.Inv p T) (s : zf) {x : Option Int} {e : Int} (h : zS p s = some (x, e)) : wu r s = some e := by
 unfold zS at h;unfold wu;have i : (r.Gens.length : Int) = (p.l.length : Int) := by rw [P.ge, lM]
 rw [i];by_cases h1 : s.At < 0
 ·rw [dT h1] at h ⊢;simp only [cT, bS, Option.some.injEq, Prod.mk.injEq] at h ⊢;exact h.2
 rw [dF h1] at h ⊢;by_cases h2 : s.At >= (p.l.length : Int)
 ·rw [dT h2] at h ⊢;simp only [cT, cF, bS, Option.some.injEq, Prod.mk.injEq] at h ⊢;exact h.2
 rw [dF h2] at h ⊢;by_cases h3 : s.Gen < 1
 ·rw [dT h3] at h ⊢;simp only [cT, cF, bS, Option.some.injEq, Prod.mk.injEq] at h ⊢;exact h.2
 rw [dF h3] at h ⊢;obtain ⟨j, hj⟩ : ∃ j : Nat, s.At = (j : Int) := ⟨s.At.toNat, by omega⟩
 obtain ⟨y, t⟩ : ∃ y, p.l[j]? = some y := ⟨_, List.getElem?_eq_getElem (by omega)⟩
 rw [hj, yC, t] at h;have z : mIdx r.Gens (j : Int) = some y.gen := by rw [P.ge, yC, List.getElem?_map, t]; rfl
 have A : mIdx r.In (j : Int) = some y.taken := by rw [P.tk, yC, List.getElem?_map, t]; rfl
 rw [hj, z, A];simp only [cF, bS] at h ⊢;by_cases h4 : s.Gen > y.gen
 ·rw [dT h4] at h ⊢;simp only [cT, Option.some.injEq, Prod.mk.injEq] at h ⊢;exact h.2
 rw [dF h4] at h ⊢;simp only [cF] at h ⊢;by_cases u : s.Gen < y.gen
 ·rw [dT u] at h ⊢;simp only [Bool.true_or, cT, bS, Option.some.injEq, Prod.mk.injEq] at h ⊢;exact h.2
 rw [dF u] at h ⊢;cases ht : y.taken with
 | true =>
  rw [ht] at h;simp only [Bool.not_true, Bool.or_false, cF, bS, Option.some.injEq, Prod.mk.injEq] at h ⊢;exact h.2
 | false =>
  rw [ht] at h;simp only [Bool.not_false, Bool.or_true, cT, cF, bS, Option.some.injEq, Prod.mk.injEq] at h ⊢;exact h.2
theorem PR.full (P : PR p r) (hf : p.free = []) (hl : (p.l.length : Int) = p.most) : xi r 0 = some (zf.mk 0 0, false, r) := by
 unfold xi;rw [P.bk, hf];rw [show decide (((([] : List Int).length : Nat) : Int) > 0) = false from rfl, cF, P.ge, lM, P.mo, dT (by omega), cT]
 rfl
theorem PR.take (P : PR p r) (I : Pj.Inv p T) (J : T < 1000000000) {v : zz} {R : zf} (e : (p.l.length : Int) < p.most + p.free.length) (h : yv p v = some (R, true, p')) :
  ∃ r', xi r 0 = some (R, true, r') /\ PR p' r' := by
 have hl := I.lb;rcases List.eq_nil_or_concat p.free with hf | ⟨fs, f, hf⟩
 ·rw [hf] at e;rw [Pj.qu I hf (by simpa using e)] at h;simp only [Option.some.injEq, Prod.mk.injEq, true_and] at h;obtain ⟨rfl, rfl⟩ := h;refine ⟨zk.mk r.Most (mSet (r.Gens ++ [0]) (r.Gens.length : Int) 1) (mSet (r.In ++ [false]) (r.Gens.length : Int) true) (mSet (r.V ++ [0]) (r.Gens.length : Int) 0) r.Back, ?_, ?_⟩
  ·have i : r.Gens.length = p.l.length := by rw [P.ge, lM]
   have t : r.In.length = p.l.length := by rw [P.tk, lM]
   have z := P.vl;unfold xi;rw [P.bk, hf];rw [show decide (((([] : List Int).length : Nat) : Int) > 0) = false from rfl, cF, i, P.mo, dF (by simp at e; omega), cF];rw [xd (by simp; omega), xd (by simp; omega), xd (by simp; omega)];simp only [bS];have h1 : mIdx (r.Gens ++ [0]) (p.l.length : Int) = some 0 := by rw [<- i]; exact yF r.Gens [] 0
   have h2 : mIdx (r.In ++ [false]) (p.l.length : Int) = some false := by rw [<- t]; exact yF r.In [] false
   have h3 : mIdx (r.V ++ [0]) (p.l.length : Int) = some 0 := by rw [<- z]; exact yF r.V [] 0
   rw [h1, h2, h3];simp only [bS];rw [show w64 (0 + 1) = 1 by rw [zG] <;> simp];have h4 : mIdx (mSet (r.Gens ++ [0]) (p.l.length : Int) 1) (p.l.length : Int) = some 1 := by
    rw [yC]; simp only [mSet, tN]; rw [List.getElem?_set_self (by simp; omega)]
   rw [h4]
   rfl
  ·have i : r.Gens.length = p.l.length := by rw [P.ge, lM]
   have t : r.In.length = p.l.length := by rw [P.tk, lM]
   have hs : ∀ {α : Type} (l : List α) (a b : α), (l ++ [a]).set l.length b = l ++ [b] := fun l a b => by simp
   refine ⟨P.mo, ?_, ?_, ?_, P.bk.trans hf⟩
   ·simp only [mSet, tN]; rw [hs, P.ge]; simp
   ·simp only [mSet, tN]; rw [i, <- t, hs, P.tk]; simp
   ·simp [mSet, P.vl]
 ·rw [List.concat_eq_append] at hf;obtain ⟨j, x, rfl, hj, ht⟩ := I.fre f (by rw [hf]; simp);have O := I.gen j x hj;rw [Pj.ra I (by omega) hf hj] at h;simp only [Option.some.injEq, Prod.mk.injEq, true_and] at h;obtain ⟨rfl, rfl⟩ := h;have u := (List.getElem?_eq_some_iff.1 hj).1;have B : fs.length < 1000000 := by
   have h0 := I.flen;rw [hf] at h0;simp only [lA, List.length_singleton] at h0;omega
  have hw : w64 (((fs ++ [(j : Int)]).length : Int) - 1) = (fs.length : Int) := by rw [zG] <;> simp <;> omega
  have A : mIdx (fs ++ [(j : Int)]) (fs.length : Int) = some (j : Int) := yF fs [] (j : Int);have y : mCut (fs ++ [(j : Int)]) 0 (fs.length : Int) = some fs := by
   unfold mCut;rw [if_pos ⟨by omega, by omega, by simp; omega⟩];simp
  have D : mIdx r.Gens (j : Int) = some x.gen := by rw [P.ge, yC, List.getElem?_map, hj]; rfl
  have F : mIdx r.In (j : Int) = some x.taken := by rw [P.tk, yC, List.getElem?_map, hj]; rfl
  have hV : ∃ v0, mIdx r.V (j : Int) = some v0 := ⟨_, by rw [yC]; exact List.getElem?_eq_getElem (by rw [P.vl]; exact u)⟩
  obtain ⟨v0, hV⟩ := hV;refine ⟨zk.mk r.Most (mSet r.Gens (j : Int) (x.gen + 1)) (mSet r.In (j : Int) true) (mSet r.V (j : Int) 0) fs, ?_, ?_⟩
  ·unfold xi;rw [P.bk, hf, dT (by simp), cT, hw, A];simp only [bS];rw [y];simp only [bS];rw [D, F, hV];simp only [bS];rw [zG (by omega) (by omega)];have h4 : mIdx (mSet r.Gens (j : Int) (x.gen + 1)) (j : Int) = some (x.gen + 1) := by
    rw [yC]; simp only [mSet, tN]; rw [List.getElem?_set_self (by rw [P.ge, lM]; exact u)]
   rw [h4]
   rfl
  ·refine ⟨P.mo, ?_, ?_, ?_, rfl⟩
   ·simp only [mSet, tN]; rw [P.ge, List.map_set]
   ·simp only [mSet, tN]; rw [P.tk, List.map_set]
   ·simp only [mSet, List.length_set]; exact P.vl
theorem PR.give (P : PR p r) (I : Pj.Inv p T) {v : zz} {s : zf} (h : Pj.Live p s v) (i : zW p s = some (v, 0, p')) :
  ∃ x r', w5 r s = some (x, 0, r') /\ PR p' r' := by
 rw [Pj.rm I h] at i;simp only [Option.some.injEq, Prod.mk.injEq, true_and] at i;subst i;have l := P.look I s (Pj.wO I h);obtain ⟨j, e, hj⟩ := h;have t := (List.getElem?_eq_some_iff.1 hj).1;have u := I.lb;have z := I.flen;have A : mIdx r.In (j : Int) = some true := by rw [P.tk, yC, List.getElem?_map, hj]; rfl
 obtain ⟨v0, hV⟩ : ∃ v0, mIdx r.V (j : Int) = some v0 := ⟨_, by rw [yC]; exact List.getElem?_eq_getElem (by rw [P.vl]; exact t)⟩
 refine ⟨v0, zk.mk r.Most r.Gens (mSet r.In (j : Int) false) r.V (p.free ++ [(j : Int)]), ?_, ?_⟩
 ·unfold w5;rw [l];simp only [bS];rw [show ((0 : Int) != 0) = false from rfl, cF, e, A];simp only [bS];rw [P.bk, xd (by simp; omega), List.nil_append];simp only [bS];rw [xd (by simp; omega)];simp only [bS];rw [hV]
  rfl
 ·refine ⟨P.mo, ?_, ?_, ?_, by rw [e]⟩
  ·simp only [mSet, e, tN]; exact P.ge.trans (rW (y := ⟨s.Gen, false, zz.mk 0 0 0 (zf.mk 0 0)⟩) zq.gen hj rfl).symm
  ·simp only [mSet, e, tN]; rw [P.tk, List.map_set]
  ·simp only [mSet, List.length_set]; exact P.vl
end
end
noncomputable section
set_option maxRecDepth 10000
def bef (a b : JR) : Prop := a.it.k < b.it.k \/ (a.it.k = b.it.k /\ a.it.s < b.it.s)
instance (a b : JR) : Decidable (bef a b) := by unfold bef; exact inferInstance
theorem fR (a b : JR) : ((decide (a.it.k < b.it.k)) || ((a.it.k == b.it.k) && (decide (a.it.s < b.it.s)))) = decide (bef a b) := by
 by_cases h : bef a b
 ·rw [dT h];rcases h with h | ⟨h1, h2⟩
  ·rw [dT h]; rfl
  ·rw [dT h2]; simp [h1]
 ·rw [dF h];unfold bef at h;rw [Bool.or_eq_false_iff, Bool.and_eq_false_iff];refine ⟨dF (by omega), ?_⟩;by_cases h1 : a.it.k = b.it.k
  ·exact Or.inr (dF (by omega))
  ·exact Or.inl (by simpa using h1)
def Best (x : Int) (P : List JR) (b : Int) : Prop :=
 (b = -1 /\ ∀ j ∈ P, j.q ≠ x) \/ ∃ (i : Nat) (j : JR), b = (i : Int) /\ P[i]? = some j /\ j.q = x /\ ∀ e ∈ P, e.q = x -> ¬ bef e j
theorem rR {L : List JR} {i : Nat} {j : JR} (h : L[i]? = some j) : mIdx (L.map rj) (i : Int) = some (rj j) := by rw [yC, List.getElem?_map, h]; rfl
theorem iL {x : Int} {m : zd} {L : List JR} (hm : m.L = L.map rj) (hl : L.length <= 65536) :
  ∀ (rest pre : List JR) (b : Int) (f : Nat), L = pre ++ rest -> rest.length < f -> Best x pre b -> ∃ D, yo x m f b (pre.length : Int) = some D /\ Best x L D
 | [], pre, b, f + 1, e, hf, I => by
  refine ⟨b, ?_, by rw [e, aN]; exact I⟩;unfold yo;rw [hm, lM, dF (by rw [e]; simp), cF]
 | y :: rest, pre, b, f + 1, e, hf, I => by
  have hlen : L.length = pre.length + (rest.length + 1) := by rw [e]; simp
  simp only [lC] at hf;have S : L[pre.length]? = some y := by rw [e]; simp
  have F : ∀ {i : Nat} {j : JR}, pre[i]? = some j -> L[i]? = some j := by
   intro i j h;rw [e, List.getElem?_append_left (List.getElem?_eq_some_iff.1 h).1]; exact h
  have go : ∀ J, Best x (pre ++ [y]) J -> ∃ D, yo x m f J ((pre.length : Int) + 1) = some D /\ Best x L D := by
   intro J h1;have := iL hm hl rest (pre ++ [y]) J f (by rw [e]; simp) (by omega) h1;rw [show ((pre ++ [y]).length : Int) = (pre.length : Int) + 1 by simp] at this;exact this
  unfold yo;rw [hm, lM, dT (by omega), cT, rR S];simp only [bS];rw [zG (x := (pre.length : Int) + 1) (by omega) (by omega), show (rj y).Queue = y.q from rfl];by_cases hq : y.q = x
  ·rw [show (y.q == x) = true by simpa using hq, cT];rcases I with ⟨rfl, hn⟩ | ⟨i, j, rfl, hi, z, u⟩
   ·rw [show decide ((-1 : Int) < 0) = true from rfl, cT];simp only [bS, cT];refine go _ (Or.inr ⟨pre.length, y, rfl, by simp, hq, ?_⟩);intro A t z;rcases List.mem_append.1 t with h | h
    ·exact absurd z (hn A h)
    ·rw [List.mem_singleton.1 h]; unfold bef; omega
   ·rw [dF (by omega), cF, rR (F hi)];simp only [bS];unfold wF;simp only [bS];by_cases B : bef y j
    ·have O : ((decide ((rj y).E.Key < (rj j).E.Key)) || (((rj y).E.Key == (rj j).E.Key) && (decide ((rj y).E.Serial < (rj j).E.Serial)))) = true := by
      exact (fR y j).trans (dT B)
     rw [O, cT];simp only [bS];refine go _ (Or.inr ⟨pre.length, y, rfl, by simp, hq, ?_⟩);intro A t l;rcases List.mem_append.1 t with h | h
     ·have := u A h l;unfold bef at *; omega
     ·rw [List.mem_singleton.1 h]; unfold bef; omega
    ·have O : ((decide ((rj y).E.Key < (rj j).E.Key)) || (((rj y).E.Key == (rj j).E.Key) && (decide ((rj y).E.Serial < (rj j).E.Serial)))) = false := by
      exact (fR y j).trans (dF B)
     rw [O, cF];simp only [bS];refine go _ (Or.inr ⟨i, j, rfl, by rw [List.getElem?_append_left (List.getElem?_eq_some_iff.1 hi).1]; exact hi, z, ?_⟩);intro A t l;rcases List.mem_append.1 t with h | h
     ·exact u A h l
     ·rw [List.mem_singleton.1 h]; exact B
  ·rw [show (y.q == x) = false by simpa using hq, cF];simp only [bS, cF];refine go _ ?_;rcases I with ⟨rfl, hn⟩ | ⟨i, j, rfl, hi, z, u⟩
   ·refine Or.inl ⟨rfl, fun j hj => ?_⟩;rcases List.mem_append.1 hj with h | h
    ·exact hn j h
    ·rw [List.mem_singleton.1 h]; exact hq
   ·refine Or.inr ⟨i, j, rfl, by rw [List.getElem?_append_left (List.getElem?_eq_some_iff.1 hi).1]; exact hi, z, ?_⟩;intro A t l;rcases List.mem_append.1 t with h | h
    ·exact u A h l
    ·rw [List.mem_singleton.1 h] at l; exact absurd l hq
theorem lG {x : Int} {m : zd} {L : List JR} (hm : m.L = L.map rj) (hl : L.length <= 65536) {f : Nat} (hf : 65536 < f) : ∃ b, xB f m x = some b /\ Best x L b := by
 obtain ⟨b, e, i⟩ := iL (x := x) hm hl L [] (-1) f rfl (by omega) (Or.inl ⟨rfl, by simp⟩);refine ⟨b, ?_, i⟩;unfold xB;rw [show ((([] : List JR).length : Nat) : Int) = 0 from rfl] at e;rw [e]
 rfl
theorem Bk {m : zd} {A : List JR} {j : JR} {B : List JR} (hm : m.L = (A ++ j :: B).map rj) (hl : (A ++ j :: B).length <= 65536) (hn : ∀ i ∈ A, i.R ≠ j.R) :
  ∀ (rest pre : List JR) (f : Nat), A = pre ++ rest -> rest.length < f -> yN j.R.At j.R.Gen m f (pre.length : Int) = some (.inl ((A.length : Int), m))
 | [], pre, f + 1, e, hf => by
  have hlen : (A ++ j :: B).length = A.length + (B.length + 1) := by simp
  rw [aN] at e;subst e;unfold yN;rw [hm, lM, dT (by omega), cT, rR (j := j) (by simp)];simp only [bS];rw [show zf.eq (rj j).R (zf.mk j.R.At j.R.Gen) = true from (uj _ _).2 rfl, cT]
 | y :: rest, pre, f + 1, e, hf => by
  have hlen : (A ++ j :: B).length = A.length + (B.length + 1) := by simp
  have l : A.length = pre.length + (rest.length + 1) := by rw [e]; simp
  simp only [lC] at hf;have u : (A ++ j :: B)[pre.length]? = some y := by rw [e]; simp
  unfold yN;rw [hm, lM, dT (by omega), cT, rR u];simp only [bS];have t : zf.eq y.R j.R = false := by
   simpa using fun x => hn y (by rw [e]; simp) ((uj _ _).1 x)
  rw [show zf.eq (rj y).R (zf.mk j.R.At j.R.Gen) = false from t, cF, zG (by omega) (by omega)];have ih := Bk hm hl hn rest (pre ++ [y]) f (by rw [e]; simp) (by omega);rw [show ((pre ++ [y]).length : Int) = (pre.length : Int) + 1 by simp] at ih;exact ih
theorem im {m : zd} {A : List JR} {j : JR} {B : List JR} (hm : m.L = (A ++ j :: B).map rj) (hl : (A ++ j :: B).length <= 65536) (hn : ∀ i ∈ A, i.R ≠ j.R) {f : Nat} (hf : 65536 < f) : xN f m j.R = some ((A.length : Int), m) := by
 have h := Bk hm hl hn A [] f rfl (by simp only [lA] at hl; omega);unfold xN;rw [show ((([] : List JR).length : Nat) : Int) = 0 from rfl] at h;rw [h]
 rfl
theorem nQ {x : Int} {m : zd} {L : List JR} (hm : m.L = L.map rj) (hl : L.length <= 65536) :
  ∀ (rest pre : List JR) (n : Int) (f : Nat), L = pre ++ rest -> rest.length < f -> 0 <= n -> n <= pre.length ->
   yz x m f n (pre.length : Int) = some (n + (rest.filter fun j => j.q == x).length)
 | [], pre, n, f + 1, e, hf, h0, h1 => by
  unfold yz;rw [hm, lM, dF (by rw [e]; simp), cF];simp
 | y :: rest, pre, n, f + 1, e, hf, h0, h1 => by
  have hlen : L.length = pre.length + (rest.length + 1) := by rw [e]; simp
  simp only [lC] at hf;have i : L[pre.length]? = some y := by rw [e]; simp
  unfold yz;rw [hm, lM, dT (by omega), cT, rR i];simp only [bS];rw [zG (x := (pre.length : Int) + 1) (by omega) (by omega), show (rj y).Queue = y.q from rfl, List.filter_cons];cases l : y.q == x with
  | true =>
   have ih := nQ (x := x) hm hl rest (pre ++ [y]) (n + 1) f (by rw [e]; simp) (by omega) (by omega) (by simp; omega);rw [show ((pre ++ [y]).length : Int) = (pre.length : Int) + 1 by simp] at ih;rw [cT, zG (by omega) (by omega)];simp only [bS, if_true];rw [ih]; simp; omega
  | false =>
   have ih := nQ (x := x) hm hl rest (pre ++ [y]) n f (by rw [e]; simp) (by omega) h0 (by simp; omega);rw [show ((pre ++ [y]).length : Int) = (pre.length : Int) + 1 by simp] at ih;rw [cF];simp only [bS, Bool.false_eq_true, if_false];exact ih
theorem iw {x : Int} {m : zd} {L : List JR} (hm : m.L = L.map rj) (hl : L.length <= 65536) {f : Nat} (hf : 65536 < f) : xx f m x = some ((sel x L).length : Int) := by
 have h := nQ (x := x) hm hl L [] 0 f rfl (by omega) (Int.le_refl _) (Int.le_refl _);unfold xx;rw [show ((([] : List JR).length : Nat) : Int) = 0 from rfl] at h;rw [h];simp [sel]
theorem ki : ∀ (rest pre : List JR) (m : zd) (n : Int) (f : Nat), m.L = pre.map rj ++ rest.map rj -> pre.length + rest.length <= 65536 -> rest.length < f -> 0 <= n -> n <= pre.length ->
   yA f n (pre.length : Int) m = some (n + (rest.filter fun j => j.q == 1).length, zd.mk m.Most m.Now m.Next m.Pool (pre.map rj ++ rest.map fun j => rj j.mv))
 | [], pre, m, n, f + 1, hm, hl, hf, h0, h1 => by
  unfold yA;rw [hm, dF (by simp), cF];simp only [List.map_nil, aN] at hm;rw [List.map_nil, aN, <- hm];simp
 | y :: rest, pre, m, n, f + 1, hm, hl, hf, h0, h1 => by
  simp only [lC] at hf hl;have i : mIdx m.L (pre.length : Int) = some (rj y) := by
   rw [hm, yC]; simp
  have hlen : (m.L.length : Int) = pre.length + (rest.length + 1) := by rw [hm]; simp
  unfold yA;rw [hlen, dT (by omega), cT, i];simp only [bS];rw [zG (x := (pre.length : Int) + 1) (by omega) (by omega), show (rj y).Queue = y.q from rfl, List.filter_cons];by_cases hq : y.q = 1
  ·have e : y.mv = y.zero := by unfold JR.mv; rw [if_pos hq]
   have ih := ki rest (pre ++ [y.zero]) (zd.mk m.Most m.Now m.Next m.Pool (mSet m.L (pre.length : Int) (zC.mk 0 (rj y).Data (rj y).E (rj y).R))) (n + 1) f (by
    simp only [mSet, tN, hm];rw [List.set_append];simp [rj, JR.zero]) (by simp; omega) (by omega) (by omega) (by simp; omega)
   rw [show ((pre ++ [y.zero]).length : Int) = (pre.length : Int) + 1 by simp] at ih;rw [show (y.q == 1) = true by simp [hq], cT, zG (by omega) (by omega)];simp only [bS, if_true];rw [ih];simp [e]; omega
  ·have e : y.mv = y := by unfold JR.mv; rw [if_neg hq]
   have ih := ki rest (pre ++ [y]) m n f (by rw [hm]; simp) (by simp; omega) (by omega) h0 (by simp; omega);rw [show ((pre ++ [y]).length : Int) = (pre.length : Int) + 1 by simp] at ih;rw [show (y.q == 1) = false by simp [hq], cF];simp only [bS, Bool.false_eq_true, if_false];rw [ih];simp [e]
theorem gp {N : Nat} {p p' : zg} {s now : Int} {T : Nat} {A B : List JR} {j : JR} {m : zd} (H : TI N p s now (A ++ j :: B) m) (I : Pj.Inv p T) (hv : Pj.Live p j.R j.job) (l : zW p j.R = some (j.job, 0, p')) (hl : (A ++ j :: B).length <= 65536) :
  ∃ i, xh m (A.length : Int) = some (rj j, i) /\ TI N p' s now (A ++ B) i := by
 obtain ⟨x, r', hr, t⟩ := H.po.give I hv l;have hlen : (A ++ j :: B).length = A.length + (B.length + 1) := by simp
 refine ⟨zd.mk m.Most m.Now m.Next r' ((A ++ B).map rj), ?_, ⟨H.mo, H.nw, H.nx, t, rfl⟩⟩;unfold xh;have e : m.L = A.map rj ++ rj j :: B.map rj := by rw [H.ls]; simp
 have h1 : mIdx m.L (A.length : Int) = some (rj j) := by
  have := yF (A.map rj) (B.map rj) (rj j);rw [lM] at this;rw [e]; exact this
 have h2 : mCut m.L 0 (A.length : Int) = some (A.map rj) := by
  unfold mCut;rw [e, if_pos ⟨by omega, by omega, by simp; omega⟩];simp
 have h3 : mCut m.L (w64 ((A.length : Int) + 1)) (m.L.length : Int) = some (B.map rj) := by
  rw [zG (by omega) (by omega), e];unfold mCut;rw [if_pos ⟨by omega, by simp; omega, by simp⟩];have : ((A.length : Int) + 1).toNat = A.length + 1 := by omega
  rw [this, tN, List.take_length];simp [List.drop_append]
 rw [h1];simp only [bS];rw [h2];simp only [bS];rw [h3];simp only [bS];rw [xd (by simp; omega), List.nil_append];simp only [bS];rw [xd (by simp; omega)];simp only [bS];rw [show (rj j).R = j.R from rfl, hr];simp
end
noncomputable section
set_option maxRecDepth 10000
theorem add_same {a b t : Int} (ha : 0 <= a) (e : a <= 9223372036854775807) (j : 0 <= b) (i : b <= 9223372036854775807) (h : vu a b = some t) : uQ a b = some t /\ 0 <= t /\ t <= 9223372036854775807 := by
 unfold vu at h;unfold uQ;rw [zG (x := 9223372036854775807 - b) (by omega) (by omega), dF (p := b < 0) (by omega), Bool.false_and, cF] at h;rw [zG (x := 9223372036854775807 - a) (by omega) (by omega), dF (p := a < 0) (by omega), Bool.false_and, cF];by_cases h1 : a + b > 9223372036854775807
 ·rw [dT (p := b > 0) (by omega), dT (p := a > 9223372036854775807 - b) (by omega)] at h;rw [dT (p := a > 0) (by omega), dT (p := b > 9223372036854775807 - a) (by omega)];simp only [Bool.and_self, cT, Option.some.injEq] at h ⊢;omega
 ·rw [dF (p := a > 9223372036854775807 - b) (by omega), Bool.and_false, cF, zG (by omega) (by omega)] at h;rw [dF (p := b > 9223372036854775807 - a) (by omega), Bool.and_false, cF, zG (by omega) (by omega)];simp only [Option.some.injEq] at h ⊢;omega
section
variable {N : Nat} {k : Int} {d : za} {L L' : List JR} {T : Nat} {f : Nat} {m : zd} {rep : zu} {p' : zg} {s' now' : Int} {c : zw}
theorem k_of {c : zw} (hk : c.Kind = 1 \/ c.Kind = 5 \/ c.Kind = 6 \/ c.Kind = 7) : (bif c.Kind == 1 then some (c.Kind == 1) else (bif c.Kind == 5 then some (c.Kind == 5) else (bif c.Kind == 6 then some (c.Kind == 6) else some (c.Kind == 7)))) = some true := by
 rcases hk with e | e | e | e <;> rw [e] <;> rfl
theorem k_no {c : zw} (hk : ¬ (c.Kind = 1 \/ c.Kind = 5 \/ c.Kind = 6 \/ c.Kind = 7)) : (bif c.Kind == 1 then some (c.Kind == 1) else (bif c.Kind == 5 then some (c.Kind == 5) else (bif c.Kind == 6 then some (c.Kind == 6) else some (c.Kind == 7)))) = some false := by
 rw [show (c.Kind == 1) = false by simp; omega, show (c.Kind == 5) = false by simp; omega, show (c.Kind == 6) = false by simp; omega, show (c.Kind == 7) = false by simp; omega]; rfl
theorem TI.queue (hk : c.Kind = 1 \/ c.Kind = 5 \/ c.Kind = 6 \/ c.Kind = 7) (hq : c.Queue = 0 \/ c.Queue = 1) {Q : zu × zd -> Prop} (h : Do (z8 f m c) Q) : Do (zL f m c) Q := by
 obtain ⟨r, e, hr⟩ := h;unfold zL;rw [k_of hk];simp only [bS, cT];rw [show ((c.Queue != 0) && (c.Queue != 1)) = false by rcases hq with e | e <;> rw [e] <;> rfl, cF, e];exact ⟨_, rfl, hr⟩
theorem TI.do (D : DI N k d L T) (hT : T < 1000000) (H : TI N d.t_.p d.q.serial d.clock.now L m) (hn : 0 <= d.clock.now /\ d.clock.now <= 9223372036854775807) (hs : d.q.serial < 1000000000000) (hc : c.Time <= 9223372036854775807) (hf : 95000 < f)
  (h : How N d.t_.p d.q.serial d.clock.now L c rep p' s' now' L') :
  Do (zL f m c) fun res => res.1 = rep /\ TI N p' s' now' L' res.2 /\ 0 <= now' /\ now' <= 9223372036854775807 /\ 0 <= s' /\ s' <= d.q.serial + 1 := by
 have b1 := D.items.2.1;have b2 := D.nb;have b3 : 0 <= d.q.serial := by
  obtain ⟨h0, h1, Q, _⟩ := D.pq;exact Q.sq.1
 have hz : 0 <= d.q.serial /\ d.q.serial <= d.q.serial + 1 := by omega
 cases h with
 | bad hk hq =>
  unfold zL;rw [k_of hk];simp only [bS, cT];rw [show ((c.Queue != 0) && (c.Queue != 1)) = true by simp; omega, cT];exact ⟨_, rfl, rfl, H, hn.1, hn.2, hz⟩
 | full hk hq hl =>
  refine TI.queue (Or.inl hk) hq ?_;unfold z8;refine Do.t (by rw [hk]; rfl) ?_;have U : d.t_.p.free = [] := by
   have h1 := D.cn;have h2 := D.jp.len;rw [D.jm] at h2;exact List.eq_nil_of_length_eq_zero (by omega)
  have a1 : (d.t_.p.l.length : Int) = d.t_.p.most := by
   have h1 := D.cn;rw [U] at h1;rw [D.jm];simp only [List.length_nil] at h1; omega
  refine Do.seq (H.po.full U a1) (Do.t rfl ?_);exact ⟨_, rfl, rfl, ⟨H.mo, H.nw, H.nx, H.po, H.ls⟩, hn.1, hn.2, hz⟩
 | sched j p' v hk hq hl h1 h2 h3 h4 ht =>
  refine TI.queue (Or.inl hk) hq ?_;unfold z8;refine Do.t (by rw [hk]; rfl) ?_;obtain ⟨r', W, P'⟩ := H.po.take D.jp (by omega) (by have := D.cn; rw [D.jm]; omega) ht;refine Do.seq W (Do.f rfl ?_);rw [xd (by rw [H.ls]; simp; omega), List.nil_append];simp only [bS];rw [xd (by rw [H.ls]; simp; omega)];have X := H.nx;refine ⟨_, rfl, rfl, ⟨H.mo, H.nw, ?_, P', ?_⟩, hn.1, hn.2, by omega, by omega⟩
  ·show w64 (m.Next + 1) = _;rw [X, zG (by omega) (by omega)]
  ·show m.L ++ [zC.mk c.Queue c.Data (zi.mk c.Time m.Next) j.R] = _;rw [H.ls, List.map_append, X];simp [rj, h1, h2, h3, h4]
 | dead e hk he a2 =>
  unfold zL;rw [k_no (by omega)];simp only [bS, cF];have z : (bif c.Kind == 2 then some (c.Kind == 2) else some (c.Kind == 3)) = some true := by rcases hk with e | e <;> rw [e] <;> rfl
  rw [z];simp only [bS, cT];rw [H.po.look D.jp c.Job a2];simp only [bS];rw [show (e != 0) = true by simp [bne, he], cT];exact ⟨_, rfl, rfl, H, hn.1, hn.2, hz⟩
 | late A j B hk eL hj ht =>
  subst eL;have u : j ∈ A ++ j :: B := by simp
  have y : Pj.Live d.t_.p j.R j.job := (D.jl _ _).2 ⟨j, u, rfl, rfl⟩;have F : ∀ i ∈ A, i.R ≠ j.R := by
   have := D.rn;rw [List.map_append, pC] at this;obtain ⟨_, _, h3⟩ := List.nodup_append.1 this;exact fun i hi e => h3 _ (List.mem_map_of_mem (f := JR.R) hi) _ (List.mem_cons_self ..) e
  unfold zL;rw [k_no (by omega)];simp only [bS, cF];have z : (bif c.Kind == 2 then some (c.Kind == 2) else some (c.Kind == 3)) = some true := by rw [hk]; rfl
  rw [z];simp only [bS, cT];rw [hj, H.po.look D.jp j.R (Pj.wO D.jp y)];simp only [bS];rw [show ((0 : Int) != 0) = false from rfl, cF, im H.ls (by omega) F (by omega)];simp only [bS];rw [show (c.Kind == 3) = false by rw [hk]; rfl, cF, H.ls, rR (j := j) (by simp)];simp only [bS];rw [show decide (c.Time > (rj j).E.Key) = true from dT ht, cT];exact ⟨_, rfl, rfl, H, hn.1, hn.2, hz⟩
 | soon A j B p' hk eL hj ht hp =>
  subst eL;have u : j ∈ A ++ j :: B := by simp
  have y : Pj.Live d.t_.p j.R j.job := (D.jl _ _).2 ⟨j, u, rfl, rfl⟩;have F : ∀ i ∈ A, i.R ≠ j.R := by
   have := D.rn;rw [List.map_append, pC] at this;obtain ⟨_, _, h3⟩ := List.nodup_append.1 this;exact fun i hi e => h3 _ (List.mem_map_of_mem (f := JR.R) hi) _ (List.mem_cons_self ..) e
  unfold zL;rw [k_no (by omega)];simp only [bS, cF];have z : (bif c.Kind == 2 then some (c.Kind == 2) else some (c.Kind == 3)) = some true := by rw [hk]; rfl
  rw [z];simp only [bS, cT];rw [hj, H.po.look D.jp j.R (Pj.wO D.jp y)];simp only [bS];rw [show ((0 : Int) != 0) = false from rfl, cF, im H.ls (by omega) F (by omega)];simp only [bS];have O : mIdx m.L (A.length : Int) = some (rj j) := by rw [H.ls]; exact rR (by simp)
  rw [show (c.Kind == 3) = false by rw [hk]; rfl, cF, O];simp only [bS];rw [show decide (c.Time > (rj j).E.Key) = false from dF (by show ¬ c.Time > j.it.k; omega), cF];have Y : mSet m.L (A.length : Int) (zC.mk (rj j).Queue (rj j).Data (zi.mk c.Time (rj j).E.Serial) (rj j).R) = (A ++ (⟨j.q, j.data, j.R, j.item, ⟨j.it.i, c.Time, j.it.s⟩⟩ : JR) :: B).map rj := by
   simp only [mSet, tN, H.ls, List.map_append, pC];rw [List.set_append];simp [rj]
  rw [Y, rR (j := ⟨j.q, j.data, j.R, j.item, ⟨j.it.i, c.Time, j.it.s⟩⟩) (by simp)];exact ⟨_, rfl, rfl, ⟨H.mo, H.nw, H.nx, H.po.same hp, rfl⟩, hn.1, hn.2, hz⟩
 | canc A j B p' hk eL hj hp =>
  subst eL;have u : j ∈ A ++ j :: B := by simp
  have y : Pj.Live d.t_.p j.R j.job := (D.jl _ _).2 ⟨j, u, rfl, rfl⟩;have F : ∀ i ∈ A, i.R ≠ j.R := by
   have := D.rn;rw [List.map_append, pC] at this;obtain ⟨_, _, h3⟩ := List.nodup_append.1 this;exact fun i hi e => h3 _ (List.mem_map_of_mem (f := JR.R) hi) _ (List.mem_cons_self ..) e
  obtain ⟨m', eo, H'⟩ := gp H D.jp y hp (by omega);unfold zL;rw [k_no (by omega)];simp only [bS, cF];have z : (bif c.Kind == 2 then some (c.Kind == 2) else some (c.Kind == 3)) = some true := by rw [hk]; rfl
  rw [z];simp only [bS, cT];rw [hj, H.po.look D.jp j.R (Pj.wO D.jp y)];simp only [bS];rw [show ((0 : Int) != 0) = false from rfl, cF, im H.ls (by omega) F (by omega)];simp only [bS];rw [show (c.Kind == 3) = true by rw [hk]; rfl, cT, eo];exact ⟨_, rfl, rfl, H', hn.1, hn.2, hz⟩
 | back hk ht =>
  unfold zL;rw [k_no (by omega)];simp only [bS, cF];rw [hk];simp only [show ((4 : Int) == 2) = false from rfl, show ((4 : Int) == 3) = false from rfl, show ((4 : Int) == 4) = true from rfl, cF, cT, bS];rw [dT ht, cT];exact ⟨_, rfl, rfl, H, hn.1, hn.2, hz⟩
 | go t hk ht ha =>
  obtain ⟨W, h1, h2⟩ := add_same hn.1 hn.2 (by omega) hc ha;unfold zL;rw [k_no (by omega)];simp only [bS, cF];rw [hk];simp only [show ((4 : Int) == 2) = false from rfl, show ((4 : Int) == 3) = false from rfl, show ((4 : Int) == 4) = true from rfl, cF, cT, bS];rw [dF ht, cF, H.nw, W];exact ⟨_, rfl, rfl, ⟨H.mo, rfl, H.nx, H.po, H.ls⟩, h1, h2, hz⟩
 | idle hk hq a4 =>
  refine TI.queue (Or.inr (Or.inl hk)) hq ?_;unfold z8;refine Do.f (by rw [hk]; rfl) (Do.t (by rw [hk]; rfl) ?_);obtain ⟨b, eb, z⟩ := lG (x := c.Queue) H.ls (by omega) (f := f) (by omega);refine Do.seq eb ?_;rcases z with ⟨rfl, I⟩ | ⟨i, j, rfl, hi, S, J⟩
  ·rw [show decide ((-1 : Int) < 0) = true from rfl, cT];simp only [bS, cT];exact ⟨_, rfl, rfl, H, hn.1, hn.2, hz⟩
  ·rw [dF (by omega), cF, H.ls, rR hi];simp only [bS];have := a4 j (List.mem_of_getElem? hi) S;rw [show decide ((rj j).E.Key > m.Now) = true from dT (by rw [H.nw]; exact this), cT];exact ⟨_, rfl, rfl, H, hn.1, hn.2, hz⟩
 | fire A j B p' hk hq eL hj hle hm hp =>
  subst eL;refine TI.queue (Or.inr (Or.inl hk)) hq ?_;unfold z8;refine Do.f (by rw [hk]; rfl) (Do.t (by rw [hk]; rfl) ?_);obtain ⟨b, eb, z⟩ := lG (x := c.Queue) H.ls (by omega) (f := f) (by omega);refine Do.seq eb ?_;have u : j ∈ A ++ j :: B := by simp
  have y : Pj.Live d.t_.p j.R j.job := (D.jl _ _).2 ⟨j, u, rfl, rfl⟩;rcases z with ⟨rfl, I⟩ | ⟨i, j', rfl, hi, S, J⟩
  ·exact absurd hj (I j u)
  ·have a6 := List.mem_of_getElem? hi;have h1 := J j u hj;have h2 := hm j' a6 S;have Z : j'.it.s = j.it.s := by
    unfold bef at h1;unfold It.lt at h2;omega
   have a7 := D.items.2.2.1;have a8 : i = A.length := by
    have W : ((A ++ j :: B).map fun j => j.it.s)[i]? = some j.it.s := by rw [List.getElem?_map, hi]; simp [Z]
    have e2 : ((A ++ j :: B).map fun j => j.it.s)[A.length]? = some j.it.s := by rw [List.getElem?_map]; simp
    obtain ⟨l1, g1⟩ := List.getElem?_eq_some_iff.1 W;obtain ⟨l2, g2⟩ := List.getElem?_eq_some_iff.1 e2;have a0 := List.pairwise_iff_getElem.1 a7;rcases Nat.lt_trichotomy i A.length with h | h | h
    ·exact absurd (g1.trans g2.symm) (a0 _ _ l1 l2 h)
    ·exact h
    ·exact absurd (g2.trans g1.symm) (a0 _ _ l2 l1 h)
   subst a8;obtain ⟨m', eo, H'⟩ := gp H D.jp y hp (by omega);have O : mIdx m.L (A.length : Int) = some (rj j) := by rw [H.ls]; exact rR (by simp)
   rw [dF (by omega), cF, O];simp only [bS];rw [show decide ((rj j).E.Key > m.Now) = false from dF (by rw [H.nw]; show ¬ j.it.k > _; omega), cF, eo];exact ⟨_, rfl, rfl, H', hn.1, hn.2, hz⟩
 | self hk hq =>
  refine TI.queue (Or.inr (Or.inr (Or.inl hk))) (Or.inl hq) ?_;unfold z8;refine Do.f (by rw [hk]; rfl) (Do.f (by rw [hk]; rfl) (Do.t (by rw [hk]; rfl) (Do.t (by rw [hq]; rfl) ?_)));exact ⟨_, rfl, rfl, H, hn.1, hn.2, hz⟩
 | merge p' hk hq hp =>
  refine TI.queue (Or.inr (Or.inr (Or.inl hk))) (Or.inr hq) ?_;unfold z8;refine Do.f (by rw [hk]; rfl) (Do.f (by rw [hk]; rfl) (Do.t (by rw [hk]; rfl) (Do.f (by rw [hq]; rfl) ?_)));have e := ki L [] m 0 f (by rw [H.ls]; rfl) (by simp; omega) (by omega) (Int.le_refl _) (Int.le_refl _);rw [show ((([] : List JR).length : Nat) : Int) = 0 from rfl] at e;refine Do.seq e ?_;refine ⟨_, rfl, ?_, ⟨H.mo, H.nw, H.nx, H.po.same hp, ?_⟩, hn.1, hn.2, hz⟩
  ·simp [sel]
  ·show [].map rj ++ L.map (fun j => rj j.mv) = _;simp [List.map_map, Function.comp_def]
 | count hk hq =>
  refine TI.queue (Or.inr (Or.inr (Or.inr hk))) hq ?_;unfold z8;refine Do.f (by rw [hk]; rfl) (Do.f (by rw [hk]; rfl) (Do.f (by rw [hk]; rfl) ?_));rw [iw H.ls (by omega) (by omega)];exact ⟨_, rfl, rfl, H, hn.1, hn.2, hz⟩
 | unknown h =>
  unfold zL;rw [k_no (by omega)];simp only [bS, cF];rw [show (c.Kind == 2) = false by simp; omega, show (c.Kind == 3) = false by simp; omega, show (c.Kind == 4) = false by simp; omega];exact ⟨_, rfl, rfl, H, hn.1, hn.2, hz⟩
end
end
noncomputable section
set_option maxRecDepth 10000
def JR.ent (j : JR) : zi := zi.mk j.it.k j.it.s
def ents (x : Int) (L : List JR) : List zi := (L.filter fun j => j.q == x).map JR.ent
section
variable {N : Nat} {k : Int} {d : za} {L : List JR} {T : Nat} {f : Nat}
theorem jG {x : Int} {T : Nat} (I : Pj.Inv d.t_.p T) {L2 : List JR} (hl : L2.length <= 65536) (i : ∀ j ∈ L2, Pj.Live d.t_.p j.R j.job) (hw : ∀ j ∈ L2, mGet zf.eq j.R d.when = some j.it.s) :
  ∀ (rest pre : List JR) (out : List zi) (m : Nat), L2 = pre ++ rest -> rest.length < m -> out.length <= pre.length ->
   yX x (L2.length : Int) d (L2.map JR.R) m out (pre.length : Int) = some (out ++ ents x rest)
 | [], pre, out, m + 1, e, hm, h1 => by
  unfold yX;rw [dF (by rw [e]; simp), cF];simp [ents]
 | y :: rest, pre, out, m + 1, e, hm, h1 => by
  have hlen : L2.length = pre.length + (rest.length + 1) := by rw [e]; simp
  simp only [lC] at hm;have u := i y (by rw [e]; simp);have l := hw y (by rw [e]; simp);have t : mIdx (L2.map JR.R) (pre.length : Int) = some y.R := by
   rw [yC, List.getElem?_map, e]; simp
  have z : xw d.t_ y.R = some (y.job, 0) := by
   unfold xw;rw [Pj.wW I u]
   rfl
  unfold yX;rw [dT (by omega), cT, t];simp only [bS];rw [z];simp only [bS];rw [zG (x := (pre.length : Int) + 1) (by omega) (by omega), show y.job.Queue = y.q from rfl];unfold ents;rw [List.filter_cons];cases A : (y.q == x) with
  | true =>
   have ih := jG (x := x) I hl i hw rest (pre ++ [y]) (out ++ [y.ent]) m (by rw [e]; simp) (by omega) (by simp; omega);rw [show ((pre ++ [y]).length : Int) = (pre.length : Int) + 1 by simp] at ih;rw [cT, uJ l];simp only [bS];rw [xd (by simp; omega)];simp only [bS, if_true];rw [show out ++ [zi.mk y.job.Time y.it.s] = out ++ [y.ent] from rfl, ih];simp [ents]
  | false =>
   have ih := jG (x := x) I hl i hw rest (pre ++ [y]) out m (by rw [e]; simp) (by omega) (by simp; omega);rw [show ((pre ++ [y]).length : Int) = (pre.length : Int) + 1 by simp] at ih;rw [cF];simp only [bS, Bool.false_eq_true, if_false];exact ih
theorem DI.jobs (D : DI N k d L T) (hf : 95000 < f) (x : Int) : ∃ r, yw f d x = some r /\ ES r /\ r.Perm (ents x L) := by
 obtain ⟨L2, hp, e⟩ := D.out;have l := D.items.2.1;have t := D.nb;have hl2 := hp.length_eq;have i : (ents x L2).Perm (ents x L) := (hp.filter _).map _;have hle : (ents x L2).length <= 40 := by
  have : (ents x L2).length <= L2.length := by unfold ents; rw [lM]; exact List.length_filter_le _ _
  omega
 obtain ⟨r, u, h1, h2⟩ := jn (k := f) (by omega) (ents x L2) hle;refine ⟨r, ?_, h1, h2.trans i⟩;unfold yw uf;rw [Pj.qs D.jp (by omega), e];simp only [bS];have := jG (x := x) D.jp (L2 := L2) (by omega) (fun j hj => (D.jl _ _).2 ⟨j, hp.mem_iff.1 hj, rfl, rfl⟩) (fun j hj => (D.wh2 _ _).2 ⟨j, hp.mem_iff.1 hj, rfl, rfl⟩) L2 [] [] f rfl (by omega) (by simp);rw [lM];rw [show ((([] : List JR).length : Nat) : Int) = 0 from rfl] at this;rw [this];simp only [bS, List.nil_append];rw [u]
 rfl
theorem l8 {x : Int} {m : zd} {L : List JR} (hm : m.L = L.map rj) (hl : L.length <= 65536) :
  ∀ (rest pre : List JR) (out : List zi) (f : Nat), L = pre ++ rest -> rest.length < f -> out.length <= pre.length ->
   yV x m f out (pre.length : Int) = some (out ++ ents x rest)
 | [], pre, out, f + 1, e, hf, h1 => by
  unfold yV;rw [hm, lM, dF (by rw [e]; simp), cF];simp [ents]
 | y :: rest, pre, out, f + 1, e, hf, h1 => by
  have hlen : L.length = pre.length + (rest.length + 1) := by rw [e]; simp
  simp only [lC] at hf;have i : L[pre.length]? = some y := by rw [e]; simp
  unfold yV;rw [hm, lM, dT (by omega), cT, rR i];simp only [bS];rw [zG (x := (pre.length : Int) + 1) (by omega) (by omega), show (rj y).Queue = y.q from rfl];unfold ents;rw [List.filter_cons];cases j : y.q == x with
  | true =>
   have ih := l8 (x := x) hm hl rest (pre ++ [y]) (out ++ [y.ent]) f (by rw [e]; simp) (by omega) (by simp; omega);rw [show ((pre ++ [y]).length : Int) = (pre.length : Int) + 1 by simp] at ih;rw [cT, xd (by simp; omega)];simp only [bS, if_true];rw [show out ++ [(rj y).E] = out ++ [y.ent] from rfl, ih];simp [ents]
  | false =>
   have ih := l8 (x := x) hm hl rest (pre ++ [y]) out f (by rw [e]; simp) (by omega) (by simp; omega);rw [show ((pre ++ [y]).length : Int) = (pre.length : Int) + 1 by simp] at ih;rw [cF];simp only [bS, Bool.false_eq_true, if_false];exact ih
end
end
noncomputable section
set_option maxRecDepth 10000
theorem fi (a b : zi) : wF a b = some (decide (elt a b)) := by
 unfold wF;congr 1;by_cases h : elt a b
 ·rw [dT h];rcases h with h | ⟨h1, h2⟩
  ·rw [dT h]; rfl
  ·rw [dT h2]; simp [h1]
 ·rw [dF h];unfold elt at h;rw [Bool.or_eq_false_iff, Bool.and_eq_false_iff];refine ⟨dF (by omega), ?_⟩;by_cases h1 : a.Key = b.Key
  ·exact Or.inr (dF (by omega))
  ·exact Or.inl (by simpa using h1)
theorem Bd {i : Int} {out l : List zi} {x : zi} (u : mIdx l i = some x) (y : out.length < 10000) : ∀ (n t : Nat) (hn : n <= out.length), n < t -> (∀ j (h1 : n <= j) (h : j < out.length), elt x out[j]) ->
  ∃ s : Nat, wS i out l t (n : Int) = some (s : Int) /\ s <= n /\ (∀ j (h1 : s <= j) (h : j < out.length), elt x out[j]) /\ (∀ h : 0 < s, ∀ h2 : s - 1 < out.length, ¬ elt x out[s - 1])
 | 0, t, hn, hf, ha => by
  obtain ⟨f, rfl⟩ : ∃ f, t = f + 1 := ⟨t - 1, by omega⟩
  refine ⟨0, ?_, Nat.le_refl _, ha, fun h => by omega⟩;unfold wS
  rfl
 | n + 1, t, hn, hf, ha => by
  obtain ⟨f, rfl⟩ : ∃ f, t = f + 1 := ⟨t - 1, by omega⟩
  unfold wS;rw [dT (by omega), cT, u];simp only [bS];rw [zG (by omega) (by omega), show ((n + 1 : Nat) : Int) - 1 = (n : Int) by omega, cD (by omega)];simp only [bS];rw [fi];simp only [bS];by_cases h : elt x (out[n]'(by omega))
  ·rw [dT h, cT];obtain ⟨s, e, h1, h2, h3⟩ := Bd u y n f (by omega) (by omega) (fun j h1 hj => by
    rcases Nat.lt_or_eq_of_le h1 with h4 | h4
    ·exact ha j (by omega) hj
    ·subst h4; exact h)
   exact ⟨s, e, by omega, h2, h3⟩
  ·rw [dF h, cF];exact ⟨n + 1, rfl, Nat.le_refl _, ha, fun _ h2 => h⟩
theorem AX {l : List zi} (hl : l.length < 5000) : ∀ (rest pre out : List zi) (t : Nat), l = pre ++ rest -> 6000 + rest.length < t -> ES out -> out.Perm pre ->
  ∃ r, wT l t out (pre.length : Int) = some r /\ ES r /\ r.Perm l
 | [], pre, out, t, e, hf, B, hp => by
  obtain ⟨f, rfl⟩ : ∃ f, t = f + 1 := ⟨t - 1, by omega⟩
  refine ⟨out, ?_, B, by rw [e, aN]; exact hp⟩;unfold wT;rw [dF (by rw [e]; simp), cF]
 | x :: rest, pre, out, t, e, hf, B, hp => by
  obtain ⟨f, rfl⟩ : ∃ f, t = f + 1 := ⟨t - 1, by omega⟩
  have hlen : l.length = pre.length + (rest.length + 1) := by rw [e]; simp
  simp only [lC] at hf;have O := hp.length_eq;have u : mIdx l (pre.length : Int) = some x := by rw [e]; exact yF pre rest x
  obtain ⟨s, es, h1, h2, h3⟩ := Bd (out := out) u (by omega) out.length f (Nat.le_refl _) (by omega) (fun j h1 h => by omega);unfold wT;rw [dT (by omega), cT, es];simp only [bS];have S : mCut out 0 (s : Int) = some (out.take s) := by
   unfold mCut;rw [if_pos ⟨by omega, by omega, by omega⟩];simp
  have U : mCut out (s : Int) (out.length : Int) = some (out.drop s) := by
   unfold mCut;rw [if_pos ⟨by omega, by omega, by omega⟩];rw [tN, tN, List.take_length]
  rw [S];simp only [bS];rw [u];simp only [bS];rw [U];simp only [bS];rw [xd (by simp; omega), List.nil_append];simp only [bS];rw [xd (by simp; omega)];simp only [bS];rw [xd (by simp; omega)];simp only [bS];rw [zG (by omega) (by omega)];have D : ES (out.take s ++ [x] ++ out.drop s) := by
   have z := B;rw [<- List.take_append_drop s out] at z;obtain ⟨p1, p2, p3⟩ := List.pairwise_append.1 z;have W : ∀ y ∈ out.take s, ¬ elt x y := by
    intro y A;obtain ⟨i, hi, rfl⟩ := List.mem_iff_getElem.1 A;simp only [List.length_take] at hi;rw [List.getElem_take];have t1 := qZ B (i := i) (j := s - 1) (by omega) (by omega);have t2 := h3 (by omega) (by omega);exact rq t1 t2
   have qr : ∀ y ∈ out.drop s, elt x y := by
    intro y A;obtain ⟨i, hi, rfl⟩ := List.mem_iff_getElem.1 A;simp only [List.length_drop] at hi;rw [List.getElem_drop];exact h2 (s + i) (by omega) (by omega)
   rw [aA];refine List.pairwise_append.2 ⟨p1, List.pairwise_cons.2 ⟨fun y A => ?_, p2⟩, ?_⟩
   ·have := qr y A; unfold elt at *; omega
   ·intro a ha b F;rcases List.mem_cons.1 F with rfl | F
    ·exact W a ha
    ·exact p3 a ha b F
  have I : (out.take s ++ [x] ++ out.drop s).Perm (pre ++ [x]) := by
   rw [aA, show [x] ++ out.drop s = x :: out.drop s from rfl];refine List.perm_middle.trans ?_;rw [List.take_append_drop];exact ((hp.cons x)).trans (List.perm_append_singleton x pre).symm
  obtain ⟨r, J, r1, r2⟩ := AX hl rest (pre ++ [x]) (out.take s ++ [x] ++ out.drop s) f (by rw [e]; simp) (by omega) D I;rw [show ((pre ++ [x]).length : Int) = (pre.length : Int) + 1 by simp] at J;exact ⟨r, J, r1, r2⟩
theorem bQ {l : List zi} (hl : l.length < 5000) {f : Nat} (hf : 20000 < f) : ∃ r, tC f l = some r /\ ES r /\ r.Perm l := by
 obtain ⟨r, e, h1, h2⟩ := AX hl l [] [] f rfl (by omega) List.Pairwise.nil (.refl _);refine ⟨r, ?_, h1, h2⟩;unfold tC;rw [show ((([] : List zi).length : Nat) : Int) = 0 from rfl] at e;rw [e]
 rfl
theorem BF {x : Int} {m : zd} {L : List JR} (hm : m.L = L.map rj) (hl : L.length < 4000) {f : Nat} (hf : 95000 < f) : ∃ r, xe f m x = some r /\ ES r /\ r.Perm (ents x L) := by
 have hle : (ents x L).length <= L.length := by unfold ents; rw [lM]; exact List.length_filter_le _ _
 obtain ⟨r, e, h1, h2⟩ := bQ (l := ents x L) (by omega) (f := f) (by omega);refine ⟨r, ?_, h1, h2⟩;have := l8 (x := x) hm (by omega) L [] [] f rfl (by omega) (Nat.le_refl _);unfold xe;rw [show ((([] : List JR).length : Nat) : Int) = 0 from rfl] at this;rw [this];simp only [bS, List.nil_append];rw [e]
 rfl
end
noncomputable section
set_option maxRecDepth 10000
theorem cB (r : zu) : zu.eq r r = true := by
 unfold zu.eq;rw [(uj _ _).2 rfl];simp
structure WI (N : Nat) (k : Int) (w : zc) (L : List JR) (T : Nat) : Prop where
 di : DI N k w.d L T
 ti : TI N w.d.t_.p w.d.q.serial w.d.clock.now L w.m_
 nw : 0 <= w.d.clock.now /\ w.d.clock.now <= 9223372036854775807
 tl : w.told.length <= T
section
variable {N : Nat} {k : Int} {w : zc} {L : List JR} {T : Nat} {f : Nat} {c : zw}
theorem DI.ser {d : za} (D : DI N k d L T) : 0 <= d.q.serial /\ d.q.serial <= T := by
 obtain ⟨h0, h1, Q, _⟩ := D.pq;exact Q.sq
theorem WI.do (W : WI N k w L T) (l : T < 1000000) (hf : 95000 < f) (x : c.Time <= 9223372036854775807) :
  Do (yl f w c) fun res => res.1 = true /\ ∃ L' rep, WI N k res.2 L' (T + 1) /\ How N w.d.t_.p w.d.q.serial w.d.clock.now L c rep res.2.d.t_.p res.2.d.q.serial res.2.d.clock.now L' := by
 obtain ⟨⟨rep, d'⟩, y, L', G⟩ := W.di.do l hf c
 obtain ⟨⟨e, u⟩, z, h2, j, A, B, s1, s2⟩ := TI.do W.di l W.ti W.nw (by have := W.di.ser; omega) x hf G.how
 simp only at h2 G;subst h2;have i := G.di;have hlen := qt i;have D := W.tl;have hW : ∀ t : List zf, t.length <= T + 1 -> WI N k (zc.mk d' u w.k_ t) L' (T + 1) := fun t ht => ⟨i, j, ⟨A, B⟩, ht⟩
 have F : (u.L.length : Int) = (L'.length : Int) := by rw [j.ls, lM]
 unfold yl;rw [y];simp only [bS];rw [z];simp only [bS];refine Do.fb (by rw [cB]; rfl) ?_;unfold yW yM wB xm vY zM we;simp only [bS];refine Do.fb (dF (by have := i.la; omega)) ?_;refine Do.fb (dF (by have := i.la; omega)) ?_;refine Do.fb (dF (by have := i.to; omega)) ?_;refine Do.fb (by rw [j.nw]; simp) ?_;rw [hlen];simp only [bS];refine Do.f (by rw [F]; simp) ?_;cases I : (c.Kind == 1) && (e.Why == 0) with
 | true =>
  simp only [cT];rw [xd (by simp; omega)];exact ⟨_, rfl, rfl, L', e, hW _ (by simp; omega), G.how⟩
 | false =>
  simp only [cF, bS];exact ⟨_, rfl, rfl, L', e, hW _ (by omega), G.how⟩
theorem within (n lo hi : Int) (h : lo <= hi) (h0 : -1000000000000 <= lo) (h1 : hi <= 1000000000000) : ∃ v, yG n lo hi = some v /\ lo <= v /\ v <= hi := by
 unfold yG;cases e : (decide (n >= lo)) && (decide (n <= hi)) with
 | true =>
  rw [Bool.and_eq_true] at e;exact ⟨n, rfl, of_decide_eq_true e.1, of_decide_eq_true e.2⟩
 | false =>
  rw [cF, zG (x := hi - lo) (by omega) (by omega), zG (x := hi - lo + 1) (by omega) (by omega)];have hn : mNz (hi - lo + 1) = some () := by unfold mNz; rw [if_pos (by omega)]
  rw [hn];simp only [bS];have h2 := Int.tmod_lt_of_pos n (b := hi - lo + 1) (by omega);have h3 := Int.lt_tmod_of_pos n (b := hi - lo + 1) (by omega);by_cases hm : Int.tmod n (hi - lo + 1) < 0
  ·rw [dT hm, cT, zG (x := Int.tmod n (hi - lo + 1) + hi) (by omega) (by omega), zG (x := Int.tmod n (hi - lo + 1) + hi - lo) (by omega) (by omega), zG (x := Int.tmod n (hi - lo + 1) + hi - lo + 1) (by omega) (by omega)];simp only [bS];rw [zG (by omega) (by omega)];exact ⟨_, rfl, by omega, by omega⟩
  ·rw [dF hm, cF];simp only [bS];rw [zG (by omega) (by omega)];exact ⟨_, rfl, by omega, by omega⟩
theorem lx (hf : 95000 < f) (k_ jobs : Int) : ∃ w N k, wC f k_ jobs = some (some w) /\ WI N k w [] 2 /\ N <= 40 /\ w.d.clock.now = 0 /\ w.told = [] /\ yG jobs 1 40 = some (N : Int) /\ yG k_ 1 3 = some k /\ w.d.q.serial = 0 /\ w.m_ = zd.mk (N : Int) 0 0 (zk.mk (N : Int) [] [] [] []) [] := by
 obtain ⟨k, ek, k1, k2⟩ := within k_ 1 3 (by omega) (by omega) (by omega);obtain ⟨j, e, t, u⟩ := within jobs 1 40 (by omega) (by omega) (by omega);obtain ⟨N, rfl⟩ : ∃ N : Nat, j = (N : Int) := ⟨j.toNat, by omega⟩
 obtain ⟨d, i, D, hn, hs, hp⟩ := DI.new (N := N) (k := k) hf (by unfold Kd; omega) (by omega) (by omega);have l : ux (N : Int) = some (zd.mk (N : Int) 0 0 (zk.mk (N : Int) [] [] [] []) []) := by
  unfold ux sa;rw [show (if 65536 < (N : Int) then 65536 else (N : Int)) = (N : Int) from if_neg (by omega), show (if (0 : Int) > (N : Int) then 0 else (N : Int)) = (N : Int) from if_neg (by omega)]
  rfl
 refine ⟨zc.mk d (zd.mk (N : Int) 0 0 (zk.mk (N : Int) [] [] [] []) []) k [], N, k, ?_, ⟨D, ⟨rfl, hn.symm, hs.symm, ?_, rfl⟩, by rw [hn]; omega, by simp⟩, by omega, hn, rfl, e, ek, hs, rfl⟩
 ·unfold wC;rw [ek];simp only [bS];rw [e];simp only [bS];rw [i];simp only [bS, uW, oS];rw [show ((0 : Int) != 0) = false from rfl, cF, l]
  rfl
 ·rw [hp]; exact ⟨rfl, rfl, rfl, rfl, rfl⟩
end
def dueN (x now : Int) (L : List JR) : Nat := (L.filter fun j => j.q == x && decide (j.it.k <= now)).length
section
variable {N : Nat} {k : Int} {d : za} {L : List JR} {T : Nat} {f : Nat}
theorem dR {x : Int} {T : Nat} (I : Pj.Inv d.t_.p T) {L2 : List JR} (hl : L2.length <= 65536) (i : ∀ j ∈ L2, Pj.Live d.t_.p j.R j.job) :
  ∀ (rest pre : List JR) (n : Int) (m : Nat), L2 = pre ++ rest -> rest.length < m -> 0 <= n -> n <= pre.length ->
   y0 x (L2.length : Int) d (L2.map JR.R) m n (pre.length : Int) = some (n + dueN x d.clock.now rest)
 | [], pre, n, m + 1, e, hm, h0, h1 => by
  unfold y0;rw [dF (by rw [e]; simp), cF];simp [dueN]
 | y :: rest, pre, n, m + 1, e, hm, h0, h1 => by
  have hlen : L2.length = pre.length + (rest.length + 1) := by rw [e]; simp
  simp only [lC] at hm;have z := i y (by rw [e]; simp);have l : mIdx (L2.map JR.R) (pre.length : Int) = some y.R := by
   rw [yC, List.getElem?_map, e]; simp
  have A : xw d.t_ y.R = some (y.job, 0) := by
   unfold xw;rw [Pj.wW I z]
   rfl
  unfold y0;rw [dT (by omega), cT, l];simp only [bS];rw [A];simp only [bS];have t : (bif y.job.Queue == x then (vS d.clock y.job.Time).bind fun u => some u else some false) = some (y.q == x && decide (y.it.k <= d.clock.now)) := by
   show (bif y.q == x then _ else _) = _;cases y.q == x <;> rfl
  rw [t];simp only [bS];rw [zG (x := (pre.length : Int) + 1) (by omega) (by omega)];unfold dueN;rw [List.filter_cons];cases B : (y.q == x && decide (y.it.k <= d.clock.now)) with
  | true =>
   have ih := dR (x := x) I hl i rest (pre ++ [y]) (n + 1) m (by rw [e]; simp) (by omega) (by omega) (by simp; omega);rw [show ((pre ++ [y]).length : Int) = (pre.length : Int) + 1 by simp] at ih;rw [cT, zG (by omega) (by omega)];simp only [bS, if_true];rw [ih]; simp [dueN]; omega
  | false =>
   have ih := dR (x := x) I hl i rest (pre ++ [y]) n m (by rw [e]; simp) (by omega) h0 (by simp; omega);rw [show ((pre ++ [y]).length : Int) = (pre.length : Int) + 1 by simp] at ih;rw [cF];simp only [bS, Bool.false_eq_true, if_false];exact ih
theorem DI.due (D : DI N k d L T) (hf : 95000 < f) (x : Int) : yQ f d x = some (dueN x d.clock.now L : Int) := by
 obtain ⟨L2, hp, e⟩ := D.out;have i := D.items.2.1;have l := D.nb;have hl2 := hp.length_eq;unfold yQ uf;rw [Pj.qs D.jp (by omega), e];simp only [bS];have := dR (x := x) D.jp (L2 := L2) (by omega) (fun j hj => (D.jl _ _).2 ⟨j, hp.mem_iff.1 hj, rfl, rfl⟩) L2 [] 0 f rfl (by omega) (Int.le_refl _) (Int.le_refl _);rw [lM];rw [show ((([] : List JR).length : Nat) : Int) = 0 from rfl] at this;rw [this];simp only [bS];have := ((hp.filter fun j => j.q == x && decide (j.it.k <= d.clock.now)).length_eq)
 unfold dueN;rw [this];simp
end
end
noncomputable section
set_option maxRecDepth 10000
theorem entry_eq (r : zi) : zi.eq r r = true := by unfold zi.eq; simp
theorem iQ {a : List zi} (hl : a.length <= 1000000) : ∀ (rest pre : List zi) (f : Nat), a = pre ++ rest -> rest.length < f -> y5 a a f (pre.length : Int) = some (.inr ())
 | [], pre, f + 1, e, hf => by
  unfold y5;rw [dF (by rw [e]; simp), cF]
 | y :: rest, pre, f + 1, e, hf => by
  have hlen : a.length = pre.length + (rest.length + 1) := by rw [e]; simp
  simp only [lC] at hf;have i : mIdx a (pre.length : Int) = some y := by rw [e]; exact yF pre rest y
  have ih := iQ hl rest (pre ++ [y]) f (by rw [e]; simp) (by omega);rw [show ((pre ++ [y]).length : Int) = (pre.length : Int) + 1 by simp] at ih;unfold y5;rw [dT (by omega), cT, i];simp only [bS];rw [entry_eq, show (!true) = false from rfl, cF, zG (by omega) (by omega)];exact ih
theorem lJ {a : List zi} (hl : a.length <= 1000) {f : Nat} (hf : 1000 < f) : xP f a a = some true := by
 have := iQ (a := a) (by omega) a [] f rfl (by omega);rw [show ((([] : List zi).length : Nat) : Int) = 0 from rfl] at this;unfold xP;rw [show ((a.length : Int) != (a.length : Int)) = false by simp, cF, this]
 rfl
theorem iz {x : Int} {m : zd} {L : List JR} (hm : m.L = L.map rj) (hl : L.length <= 65536) :
  ∀ (rest pre : List JR) (n : Int) (f : Nat), L = pre ++ rest -> rest.length < f -> 0 <= n -> n <= pre.length ->
   yY x m f n (pre.length : Int) = some (n + dueN x m.Now rest)
 | [], pre, n, f + 1, e, hf, h0, h1 => by
  unfold yY;rw [hm, lM, dF (by rw [e]; simp), cF];simp [dueN]
 | y :: rest, pre, n, f + 1, e, hf, h0, h1 => by
  have hlen : L.length = pre.length + (rest.length + 1) := by rw [e]; simp
  simp only [lC] at hf;have j : L[pre.length]? = some y := by rw [e]; simp
  unfold yY;rw [hm, lM, dT (by omega), cT, rR j];simp only [bS];have i : (bif (rj y).Queue == x then some (decide ((rj y).E.Key <= m.Now)) else some false) = some (y.q == x && decide (y.it.k <= m.Now)) := by
   show (bif y.q == x then some (decide (y.it.k <= m.Now)) else some false) = _;cases y.q == x <;> rfl
  rw [i];simp only [bS];rw [zG (x := (pre.length : Int) + 1) (by omega) (by omega)];unfold dueN;rw [List.filter_cons];cases l : (y.q == x && decide (y.it.k <= m.Now)) with
  | true =>
   have ih := iz (x := x) hm hl rest (pre ++ [y]) (n + 1) f (by rw [e]; simp) (by omega) (by omega) (by simp; omega);rw [show ((pre ++ [y]).length : Int) = (pre.length : Int) + 1 by simp] at ih;rw [cT, zG (by omega) (by omega)];simp only [bS, if_true];rw [ih]; simp [dueN]; omega
  | false =>
   have ih := iz (x := x) hm hl rest (pre ++ [y]) n f (by rw [e]; simp) (by omega) h0 (by simp; omega);rw [show ((pre ++ [y]).length : Int) = (pre.length : Int) + 1 by simp] at ih;rw [cF];simp only [bS, Bool.false_eq_true, if_false];exact ih
theorem tdue {x : Int} {m : zd} {L : List JR} (hm : m.L = L.map rj) (hl : L.length <= 65536) {f : Nat} (hf : 65536 < f) : xj f m x = some (dueN x m.Now L : Int) := by
 have h := iz (x := x) hm hl L [] 0 f rfl (by omega) (Int.le_refl _) (Int.le_refl _);unfold xj;rw [show ((([] : List JR).length : Nat) : Int) = 0 from rfl] at h;rw [h];simp
theorem WI.same {N : Nat} {k : Int} {w : zc} {L : List JR} {T : Nat} {f : Nat} (W : WI N k w L T) (hf : 95000 < f) : uV f w = some true := by
 have e := W.di.items.2.1;have i := W.di.nb;have jobs : ∀ x, ∃ r, yw f w.d x = some r /\ xe f w.m_ x = some r /\ r.length <= 1000 := by
  intro x;obtain ⟨r, j, s1, p1⟩ := W.di.jobs hf x;obtain ⟨r', l, s2, p2⟩ := BF (x := x) W.ti.ls (by omega) hf;have := dg s2 s1 (p2.trans p1.symm);subst this;refine ⟨r', j, l, ?_⟩;have hle : (ents x L).length <= L.length := by unfold ents; rw [lM]; exact List.length_filter_le _ _
  have := p2.length_eq;omega
 have due : ∀ x, yQ f w.d x = some (dueN x w.d.clock.now L : Int) /\ xj f w.m_ x = some (dueN x w.d.clock.now L : Int) := by
  intro x;refine ⟨W.di.due hf x, ?_⟩;rw [tdue W.ti.ls (by omega) (by omega), W.ti.nw]
 obtain ⟨r0, a0, b0, t⟩ := jobs 0;obtain ⟨r1, a1, u, l1⟩ := jobs 1;obtain ⟨d0, t0⟩ := due 0;obtain ⟨d1, t1⟩ := due 1;unfold uV;rw [a0, b0, a1, u, d0, t0, d1, t1];simp only [bS];rw [lJ t (by omega), lJ l1 (by omega)];simp
end
end Go.Proofs.YteflmnbkdhneiaaGreat
noncomputable section
namespace Go.Th
def I64 (x : Int) : Prop := -9223372036854775808 <= x /\ x < 9223372036854775808
theorem AJ {x : Int} (h : (Lit.int .i64 x).wf = true) : I64 x := by
 simp [Lit.wf, IntKind.min, IntKind.max, IntKind.signed, IntKind.bits] at h;exact ⟨h.1, by omega⟩
section
variable {H : Type} {en : TypeId × Value -> H} {P : Program} {w : World} {base : Nat} {spare : Nat -> Bool} {held : Bool}
theorem iX : ∀ (d : Nat) (e : TypeId), pS P d e = true -> ∀ n cs y, DataW.trod en P w base spare held n e cs = some y -> cs.length = P.cellsOf e /\ ∀ (j : Nat) (u : Value), cs[j]? = some u -> ∃ z : Int, u = Value.int .i64 z /\ I64 z
 | 0, e, h, _, _, _, _ => by simp [pS] at h
 | d + 1, e, h, n, cs, y, ht => by
  rw [pS] at h;split at h
  ·rename_i hu;obtain ⟨q, rfl, _, hw⟩ := DataW.trod_int hu ht;refine ⟨by simpa using (beq_iff_eq.1 h).symm, fun j u hj => ⟨q, ?_, AJ hw⟩⟩;cases j with
   | zero => simpa using hj.symm
   | succ j => simp at hj
  ·rename_i fs hu;simp only [Bool.and_eq_true, List.all_eq_true] at h;obtain ⟨h1, h2⟩ := h;obtain ⟨xs, m, _, _, hl, B, D⟩ := DataW.trod_struct hu ht;refine ⟨hl, fun j u hj => ?_⟩;have x : j < P.cellsOf e := by rw [<- hl]; exact (List.getElem?_eq_some_iff.1 hj).1
   have h3 := h2 j (List.mem_range.2 x);obtain ⟨f, hf, h4⟩ := List.any_eq_true.1 h3;simp only [Bool.and_eq_true] at h4;have I := Nat.le_of_ble_eq_true h4.1;have J : j < f.offset + P.cellsOf f.type := by
    have := h4.2;simp only [Nat.blt] at this;exact Nat.le_of_ble_eq_true this
   obtain ⟨i, hi⟩ := List.getElem?_of_mem hf;have l : fs[i]? = some f := by simpa using hi
   have t := D i f l;have A : i < xs.length := by
    have := (Array.getElem?_eq_some_iff.1 l).1;omega
   rw [List.getElem?_eq_getElem A] at t;obtain ⟨_, F⟩ := iX d f.type (h1 f hf) _ _ _ t;refine F (j - f.offset) u ?_;rw [List.getElem?_take, if_pos (by omega), List.getElem?_drop];rw [show f.offset + (j - f.offset) = j by omega];exact hj
  ·cases h
theorem fP {e : TypeId} (k : Nat) (hi : pS P 5 e = true) (u : P.cellsOf e = k) : ∀ n cs y, DataW.trod en P w base spare held n e cs = some y -> ∃ z : List Int, z.length = k /\ cs = (z.map fun x => .int .i64 x) /\ ∀ x ∈ z, I64 x := fun n cs y h => by
 obtain ⟨hl, t⟩ := iX 5 e hi n cs y h;rw [u] at hl;obtain ⟨z, hz, hp⟩ := j2 (α := Int) (p := fun i z => cs[i]? = some (.int .i64 z) /\ I64 z) k fun i hi => by
  have j : i < cs.length := by omega
  obtain ⟨q, hq, hr⟩ := t i cs[i] (by simp [j]);exact ⟨q, by rw [List.getElem?_eq_getElem j, hq], hr⟩
 refine ⟨z, hz, ?_, fun x A => ?_⟩
 ·apply List.ext_getElem?;intro i;by_cases B : i < k
  ·have l : i < z.length := by omega
   rw [(hp i z[i] (by simp [l])).1];simp [l]
  ·rw [List.getElem?_eq_none (by omega), List.getElem?_eq_none (by simp; omega)]
 ·obtain ⟨i, hi⟩ := List.mem_iff_getElem?.1 A;exact (hp i x hi).2
end
theorem SlRd.sub {α : Type} {p : α -> Prop} {X : HP} {enc : α -> List Value} {sz : Nat} {sb : Option Addr} {l : List {z : α // p z}} (h : SlRd X (fun z => enc z.1) sz sb l) : SlRd X enc sz sb (l.map (·.1)) := by
 intro g e;rcases h g e with rfl | ⟨b, off, cs, T, fr, h1, h2, h3⟩
 ·exact .inl rfl
 ·refine .inr ⟨b, off, cs, T, fr, h1, h2, fun i hi => ?_⟩;rw [lM] at hi;rw [h3 i hi];simp [List.flatMap_map]
theorem aX {α : Type} {p : α -> Prop} (l : List {z : α // p z}) : ∀ z ∈ l.map (·.1), p z := fun z hz => by
 obtain ⟨y, _, rfl⟩ := List.mem_map.1 hz;exact y.2
theorem wH.sub {α : Type} {p : α -> Prop} {enc : α -> List Value} {sz : Nat} (h : wH enc sz) : wH (fun z : {z : α // p z} => enc z.1) sz := ⟨fun x => h.len x.1, fun x => h.one x.1⟩
end Go.Th
namespace Go.Th
def kZ {α : Type} (enc : α -> List Value) (z : α) : Prop := ∀ n : Int, Value.int .i64 n ∈ enc z -> I64 n
theorem cW {l : List Int} {n : Int} (h : Value.int .i64 n ∈ l.map fun x => Value.int .i64 x) : n ∈ l := by
 obtain ⟨x, i, e⟩ := List.mem_map.1 h;cases e;exact i
end Go.Th
namespace Go.Th
section
variable {H : Type} {en : TypeId × Value -> H} {P : Program} {w : World} {base : Nat} {spare : Nat -> Bool} {held : Bool}
end
end Go.Th
end
namespace Go.Proofs.YteflmnbkdhneiaaGreat
open Go.Th
noncomputable section
set_option maxRecDepth 10000
def tOk (t : Int) : Prop := -9223372036854775808 <= t /\ t <= 9223372036854775807
theorem eM {x : zF} (h : kZ zF.enc x) : tOk x.Time /\ tOk x.Raw.Time := by
 have h1 := h x.Time (by simp [zF.enc]);have h2 := h x.Raw.Time (by simp [zF.enc]);unfold I64 at h1 h2;unfold tOk;omega
theorem cR : ∀ n : Fin 11, (mIdx ([1, 1, 1, 2, 3, 4, 5, 5, 5, 6, 7] : List Int) (n.val : Int)).isSome = true := by decide
theorem cr {x : zF} (u : tOk x.Time /\ tOk x.Raw.Time) {told : List zf} (ht : told.length <= 1000000) : ∃ c, vp x told = some c /\ tOk c.Time := by
 unfold vp;cases J : Int.tmod x.Job 16 == 15 with
 | true => exact ⟨_, rfl, u.2⟩
 | false =>
  rw [cF];obtain ⟨a, z, a1, a2⟩ := within x.Kind 0 1048576 (by omega) (by omega) (by omega);obtain ⟨b, A, O, S⟩ := within x.Queue 0 1048576 (by omega) (by omega) (by omega);rw [z];simp only [bS];have B := Int.tmod_lt_of_pos a (b := 11) (by omega);have D := Int.tmod_nonneg 11 a1;obtain ⟨n, hn⟩ : ∃ n : Nat, Int.tmod a 11 = (n : Int) := ⟨(Int.tmod a 11).toNat, by omega⟩
  have hk := cR ⟨n, by omega⟩;rw [hn];obtain ⟨U, e⟩ := Option.isSome_iff_exists.1 hk;simp only at e;rw [e];simp only [bS];rw [A];simp only [bS];have l : ∃ t, (bif (Int.tmod x.Data 4) != 0 then some (Int.tmod x.Time 30) else some x.Time) = some t /\ tOk t := by
   cases W : (Int.tmod x.Data 4) != 0 with
   | true =>
    have h1 := Int.tmod_lt_of_pos x.Time (b := 30) (by omega);have h2 := Int.lt_tmod_of_pos x.Time (b := 30) (by omega);exact ⟨_, rfl, by unfold tOk; omega⟩
   | false => exact ⟨_, rfl, u.1⟩
  obtain ⟨t, F, j⟩ := l;rw [F];simp only [bS];by_cases hl : (told.length : Int) > 0
  ·rw [dT hl, cT, zG (by omega) (by omega)];obtain ⟨i, I, i1, i2⟩ := within x.Job 0 ((told.length : Int) - 1) (by omega) (by omega) (by omega);rw [I];simp only [bS];obtain ⟨r, hr⟩ : ∃ r, mIdx told i = some r := by
    obtain ⟨y, rfl⟩ : ∃ y : Nat, i = (y : Int) := ⟨i.toNat, by omega⟩
    exact ⟨_, by rw [yC]; exact List.getElem?_eq_getElem (by omega)⟩
   rw [hr];exact ⟨_, rfl, j⟩
  ·rw [dF hl, cF];exact ⟨_, rfl, j⟩
def kOk (L : List JR) : Prop := ∀ j ∈ L, tOk j.it.k
section
variable {N : Nat} {L L' : List JR} {c : zw} {p p' : zg} {s s' now now' : Int} {rep : zu}
theorem How.kOk (h : How N p s now L c rep p' s' now' L') (hk : kOk L) (e : tOk c.Time) : kOk L' := by
 cases h with
 | sched j _ _ _ _ _ _ _ h3 =>
  intro i hi;rcases List.mem_append.1 hi with h | h
  ·exact hk i h
  ·rw [List.mem_singleton.1 h, h3]; exact e
 | soon A j B _ _ eL =>
  subst eL;intro i hi;rcases List.mem_append.1 hi with h | h
  ·exact hk i (mL _ h)
  ·rcases List.mem_cons.1 h with rfl | h
   ·exact e
   ·exact hk i (List.mem_append_right _ (mC _ h))
 | canc A j B _ _ eL =>
  subst eL;intro i hi;rcases List.mem_append.1 hi with h | h
  ·exact hk i (mL _ h)
  ·exact hk i (List.mem_append_right _ (mC _ h))
 | fire A j B _ _ _ eL =>
  subst eL;intro i hi;rcases List.mem_append.1 hi with h | h
  ·exact hk i (mL _ h)
  ·exact hk i (List.mem_append_right _ (mC _ h))
 | merge =>
  intro i hi;obtain ⟨j, hj, rfl⟩ := List.mem_map.1 hi;rw [cQ]; exact hk j hj
 | _ => exact hk
theorem how5 (h : How N p s now L c rep p' s' now' L') (hk : c.Kind = 5) (hq : c.Queue = 0 \/ c.Queue = 1) : now' = now /\
  ((rep = no 28 /\ L' = L /\ ∀ j ∈ L, j.q = c.Queue -> now < j.it.k) \/ ∃ A j B, rep = zu.mk 0 j.R j.it.k j.data 0 /\ L = A ++ j :: B /\ L' = A ++ B /\ j.q = c.Queue /\ j.it.k <= now /\ ∀ i ∈ L, i.q = c.Queue -> ¬ i.it.lt j.it) := by
 cases h with
 | idle _ _ hn => exact ⟨rfl, Or.inl ⟨rfl, rfl, hn⟩⟩
 | fire A j B _ _ _ eL hj hn hm _ => exact ⟨rfl, Or.inr ⟨A, j, B, rfl, eL, rfl, hj, hn, hm⟩⟩
 | bad _ e => exact absurd hq e
 | _ => omega
end
end
noncomputable section
set_option maxRecDepth 10000
section
variable {k : Int}
theorem Cb {N : Nat} {L L' : List JR} {c : zw} {p p' : zg} {s s' now now' : Int} {rep : zu} (h : How N p s now L c rep p' s' now' L') (hk : c.Kind = 1) (hq : c.Queue = 0 \/ c.Queue = 1) (hl : L.length < N) :
  now' = now /\ s' = s + 1 /\ ∃ j, L' = L ++ [j] /\ j.q = c.Queue /\ j.data = c.Data /\ j.it.k = c.Time /\ j.it.s = s := by
 cases h with
 | bad _ e => exact absurd hq e
 | full _ _ h => omega
 | sched j _ _ _ _ _ h1 h2 h3 h4 => exact ⟨rfl, rfl, j, rfl, h1, h2, h3, h4⟩
 | _ => omega
def Mg (L : List JR) : Prop := ∀ j ∈ L, j.data = j.it.s /\ j.it.k <= 999
theorem An {l : List Int} : ∀ (r i t : Nat) (w : zc) (L : List JR) (T : Nat), 40 = i + r -> 95001 + r < t -> WI 40 k w L T -> L.length = i -> w.d.q.serial = (i : Int) -> w.d.clock.now = 0 -> Mg L -> T <= 2 + i ->
  Do (yI l t (i : Int) w) fun s => ∃ w' L' T', s = .inr w' /\ WI 40 k w' L' T' /\ Mg L' /\ T' <= 42 /\ w'.d.clock.now = 0
 | 0, i, t, w, L, T, h1, h2, W, A, hs, hn, z, I => by
  obtain ⟨f, rfl⟩ : ∃ f, t = f + 1 := ⟨t - 1, by omega⟩
  unfold yI;refine Do.f (by rw [dF (p := (i : Int) < 40) (by omega), Bool.and_false]) ?_;exact ⟨_, rfl, w, L, T, rfl, W, z, by omega, hn⟩
 | r + 1, i, t, w, L, T, h1, h2, W, A, hs, hn, z, I => by
  obtain ⟨f, rfl⟩ : ∃ f, t = f + 1 := ⟨t - 1, by omega⟩
  unfold yI;refine Do.if (fun e => ?_) (fun e => ⟨_, rfl, w, L, T, rfl, W, z, by omega, hn⟩)
  rw [Bool.and_eq_true] at e;have Y := of_decide_eq_true e.1;obtain ⟨x, J⟩ : ∃ x, l[i]? = some x := ⟨_, List.getElem?_eq_getElem (by omega)⟩
  have hm := Int.tmod_lt_of_pos x (b := 1000) (by omega);have O := Int.tmod_nonneg 2 (a := (i : Int)) (by omega);have S := Int.tmod_lt_of_pos (i : Int) (b := 2) (by omega);rw [yC, J];simp only [bS];refine (W.do (f := f) (c := zw.mk 1 (Int.tmod i 2) (zf.mk 0 0) (Int.tmod x 1000) i) (by omega) (by omega) (by simp only; omega)).bind ?_;rintro ⟨ok, w'⟩ ⟨u, L', rep, W', hh⟩;simp only at u;subst u;refine Do.f rfl ?_;obtain ⟨g1, g2, j, rfl, U, B, D, F⟩ := Cb hh rfl (by simp only; omega) (by omega);simp only at g1 g2 U B D F;rw [zG (by omega) (by omega)];have := An (l := l) r (i + 1) f w' (L ++ [j]) (T + 1) (by omega) (by omega) W' (by simp [A]) (by rw [g2, hs]; simp) (by rw [g1, hn]) (by
   intro y X;rcases List.mem_append.1 X with h | h
   ·exact z y h
   ·rw [List.mem_singleton.1 h];exact ⟨by rw [B, F, hs], by rw [D]; omega⟩) (by omega)
  rw [show ((i + 1 : Nat) : Int) = (i : Int) + 1 by simp] at this;exact this
theorem cX {x : Int} {A B : List JR} {j : JR} (h : j.q = x) : (ents x (A ++ j :: B)).Perm (j.ent :: ents x (A ++ B)) := by
 unfold ents;rw [List.filter_append, List.filter_append, List.filter_cons, show (j.q == x) = true by simp [h], if_pos rfl, List.map_append, pC, List.map_append];exact List.perm_middle
theorem Ay {E : List zi} {l2 : List Int} {now : Int} (Y : E.length <= 1000) : ∀ (rest pre : List zi) (z : Nat) (w : zc) (L : List JR) (T : Nat), E = pre ++ rest -> 95001 + rest.length < z -> DI 40 k w.d L T -> T <= 100 + pre.length -> w.d.clock.now = now -> (∀ j ∈ L, j.q = 0 /\ j.data = j.it.s /\ j.it.k <= now) -> ES rest -> rest.Perm (ents 0 L) ->
  Do (yH (E.length : Int) E l2 z (pre.length : Int) w) fun r => ∃ w', r = .inr w' /\ ∃ T', DI 40 k w'.d [] T'
 | [], pre, z, w, L, T, e, hf, D, Z, hn, F, hs, hp => by
  obtain ⟨f, rfl⟩ : ∃ f, z = f + 1 := ⟨z - 1, by omega⟩
  unfold yH;refine Do.f (dF (by rw [e]; simp)) ?_;have : L = [] := by
   cases L with
   | nil => rfl
   | cons j L =>
    have h1 : j.ent ∈ ents 0 (j :: L) := List.mem_map_of_mem (List.mem_filter.2 ⟨List.mem_cons_self .., by simp [(F j (List.mem_cons_self ..)).1]⟩);have := hp.mem_iff.2 h1;cases this
  subst this;exact ⟨_, rfl, w, rfl, T, D⟩
 | x :: rest, pre, z, w, L, T, e, hf, D, Z, hn, F, hs, hp => by
  obtain ⟨f, rfl⟩ : ∃ f, z = f + 1 := ⟨z - 1, by omega⟩
  have hlen : E.length = pre.length + (rest.length + 1) := by rw [e]; simp
  simp only [lC] at hf;have J : mIdx E (pre.length : Int) = some x := by rw [e]; exact yF pre rest x
  unfold yH;refine Do.t (dT (by omega)) ?_;obtain ⟨⟨rep, d'⟩, eD, L', G⟩ := D.do (f := f) (by omega) (by omega) (zw.mk 5 0 (zf.mk 0 0) 0 0)
  rw [eD];simp only [bS];obtain ⟨l, hh⟩ := how5 G.how rfl (Or.inl rfl);simp only at l hh;rw [hn] at l hh;obtain ⟨i, hi, O⟩ := List.mem_map.1 (hp.mem_iff.1 (List.mem_cons_self ..));have u := (List.mem_filter.1 hi).1;rcases hh with ⟨_, _, S⟩ | ⟨A, j, B, rfl, rfl, rfl, U, a1, hm⟩
  ·have h1 := S i u (F i u).1;have h2 := (F i u).2.2;omega
  ·have W : j ∈ A ++ j :: B := by simp
   have I := hp.trans (cX U);have X : x = j.ent := by
    have h1 := hm i u (F i u).1;have h2 : j.ent ∈ x :: rest := I.mem_iff.2 (List.mem_cons_self ..);rcases List.mem_cons.1 h2 with h2 | h2
    ·exact h2.symm
    ·have h3 := (List.pairwise_cons.1 hs).1 _ h2;rw [<- O] at h3 ⊢;unfold It.lt at h1;unfold elt JR.ent at h3;unfold JR.ent;simp only at h3;congr 1 <;> omega
   subst X;have hd := (F j W).2.1;rw [show ((0 : Int) != 0) = false from rfl, cF, J];simp only [bS];rw [show (j.it.k != j.ent.Key) = false by simp [JR.ent], cF];simp only [bS];rw [show (j.data != j.ent.Serial) = false by simp [JR.ent, hd], cF, zG (by omega) (by omega)];have ih := Ay (E := E) (l2 := l2) (now := now) Y rest (pre ++ [j.ent]) f (zc.mk d' w.m_ w.k_ w.told) (A ++ B) (T + 1) (by rw [e]; simp) (by omega) G.di (by simp; omega) l (fun y hy => F y (by
    rcases List.mem_append.1 hy with h | h
    ·exact mL _ h
    ·exact List.mem_append_right _ (mC _ h))) (List.pairwise_cons.1 hs).2 I.cons_inv
   rw [show ((pre ++ [j.ent]).length : Int) = (pre.length : Int) + 1 by simp] at ih;exact ih
theorem how6 {N : Nat} {L L' : List JR} {c : zw} {p p' : zg} {s s' now now' : Int} {rep : zu} (h : How N p s now L c rep p' s' now' L') (hk : c.Kind = 6) (hq : c.Queue = 1) : now' = now /\ L' = L.map JR.mv := by
 cases h with
 | bad _ e => exact absurd (Or.inr hq) e
 | merge => exact ⟨rfl, rfl⟩
 | _ => omega
theorem Ci {N : Nat} {L L' : List JR} {c : zw} {p p' : zg} {s s' now now' : Int} {rep : zu} (h : How N p s now L c rep p' s' now' L') (hk : c.Kind = 4) (ht : c.Time = 1000) (hn : now = 0) : now' = 1000 /\ L' = L := by
 cases h with
 | back _ h => omega
 | go t _ _ ha =>
  rw [ht, hn] at ha;have : vu 0 1000 = some 1000 := by decide
  rw [this] at ha;exact ⟨(Option.some.inj ha).symm, rfl⟩
 | _ => omega
end
theorem cg : wZ 100000 = some true := by kernel_rfl
theorem dispatchMerges_plain (k_ : Int) (times : List Int) : ∃ k, xk k k_ times = some true := by
 refine ⟨100000, ?_⟩
 suffices h : Do (xk 100000 k_ times) fun r => r = true by
  obtain ⟨r, e, rfl⟩ := h;exact e
 obtain ⟨w, N, k, ew, W, hN, z, _, hw, _, hs, _⟩ := lx (f := 100000) (by omega) k_ 40;have I : N = 40 := by
  have : yG 40 1 40 = some 40 := by decide
  rw [this] at hw;have := Option.some.inj hw;omega
 subst I;unfold xk;rw [ew];simp only [bS, uW, oS];refine (An (k := k) (l := times) 40 0 100000 w [] 2 (by omega) (by omega) W rfl (by rw [hs]; rfl) z (by intro j hj; cases hj) (by omega)).bind ?_;rintro _ ⟨w1, t, T1, rfl, B, J, a7, O⟩;simp only;have hlen : zM w1.d = some (t.length : Int) := by
  unfold zM we;rw [qt B.di]
  rfl
 rw [hlen];simp only [bS];obtain ⟨⟨a8, w2⟩, e2, u, L2, a2, D, S⟩ := B.do (f := 100000) (c := zw.mk 6 1 (zf.mk 0 0) 0 0) (by omega) (by omega) (by simp only; omega)
 simp only at u;subst u;obtain ⟨g1, g2⟩ := how6 S rfl rfl;simp only at g1 g2 D;subst g2;have y : ∀ j ∈ t.map JR.mv, j.q = 0 := by
  intro j hj;obtain ⟨i, hi, rfl⟩ := List.mem_map.1 hj;exact mv_q (B.di.jq i hi)
 have U : ents 1 (t.map JR.mv) = [] := by
  unfold ents;rw [List.filter_eq_nil_iff.2 (fun j hj => by rw [y j hj]; simp)]; rfl
 have A : (ents 0 (t.map JR.mv)).length = t.length := by
  unfold ents;rw [List.filter_eq_self.2 (fun j hj => by rw [y j hj]; rfl)]; simp
 obtain ⟨r1, X, _, p1⟩ := D.di.jobs (f := 100000) (by omega) 1;obtain ⟨r0, Y, _, p0⟩ := D.di.jobs (f := 100000) (by omega) 0;obtain ⟨⟨b0, w3⟩, e3, x, L3, a3, Z, a0⟩ := D.do (f := 100000) (c := zw.mk 4 0 (zf.mk 0 0) 1000 0) (by omega) (by omega) (by simp only; omega)
 simp only at x;subst x;obtain ⟨g3, g4⟩ := Ci a0 rfl rfl (by simp only [g1, O]);simp only at g3 g4 Z;subst g4;have l1 : (r1.length : Int) = 0 := by rw [p1.length_eq, U]; rfl
 have l0 : r0.length = t.length := by rw [p0.length_eq, A]
 rw [e2];simp only [bS];rw [show (!true) = false from rfl, cF, X];simp only [bS];rw [show ((r1.length : Int) != 0) = false by simp [l1], cF, Y];simp only [bS];rw [show ((r0.length : Int) != (t.length : Int)) = false by simp [l0], cF, e3];simp only [bS];rw [show (!true) = false from rfl, cF];obtain ⟨F, a1, s7, p7⟩ := Z.di.jobs (f := 100000) (by omega) 0;rw [a1];simp only [bS];have l7 : F.length = t.length := by rw [p7.length_eq, A]
 have b4 := B.di.items.2.1;have hz := Ay (k := k) (E := F) (l2 := times) (now := 1000) (by omega) F [] 100000 w3 (t.map JR.mv) (T1 + 1 + 1) rfl (by omega) Z.di (by simp; omega) g3 (by
  intro j hj;refine ⟨y j hj, ?_⟩;obtain ⟨i, hi, rfl⟩ := List.mem_map.1 hj;have := J i hi;have hd : i.mv.data = i.data := by unfold JR.mv; split <;> rfl
  rw [hd, cQ];exact ⟨this.1, by omega⟩) s7 p7
 rw [show (t.length : Int) = (F.length : Int) by omega];refine hz.bind ?_;rintro _ ⟨w4, rfl, T4, D4⟩;simp only;unfold zM we;rw [qt D4];simp only [bS];rw [show (((([] : List JR).length : Nat) : Int) == 0) = true from rfl, cT, cg];exact ⟨_, rfl, rfl⟩
end
end Go.Proofs.YteflmnbkdhneiaaGreat
namespace Go.Th
noncomputable section
structure Mx (T : Type) : Type where
 mix : Bool -> T -> T -> T
 h1 : ∀ x y, mix true x y = x
 h0 : ∀ x y, mix false x y = y
def mB : Mx Bool := ⟨cond, fun _ _ => rfl, fun _ _ => rfl⟩
def m2 {A B : Type} (a : Mx A) (b : Mx B) : Mx (A × B) := ⟨fun c x y => (a.mix c x.1 y.1, b.mix c x.2 y.2), fun x y => by rw [a.h1, b.h1], fun x y => by rw [a.h0, b.h0]⟩
inductive VC : Type -> Type 1
 | ret {R : Type} (o : Option R) : VC R
 | bind {R α : Type} (m : Option α) (k : α -> VC R) : VC R
 | ite {R : Type} (c : Bool) (x y : VC R) : VC R
 | frN {R : Type} (k : Nat -> VC R) : VC R
 | frA {R : Type} (k : Option Addr -> VC R) : VC R
 | req {R α : Type} (a b : α) (k : VC R) : VC R
 | join {R T : Type} (x : VC T) (k : T -> VC R) : VC R
 | cs {R A B : Type} (s : A ⊕ B) (x : A -> VC R) (y : B -> VC R) : VC R
 | both {R : Type} (u v : VC R) (vm : (Nat -> Nat × Option Addr) -> Option R) : VC R
 | grj {R T : Type} (x : VC T) (k : T -> VC R) : VC R
 | sel {R T : Type} (M : Mx T) (b : Bool) (x y : VC T) (k : T -> VC R) : VC R
def VC.valq : {T : Type} -> VC T -> Option T
 | _, .ret o => o
 | _, .req _ _ k => k.valq
 | _, .sel M b x y k => match x.valq, y.valq with
  | some s1, some s2 => (k (M.mix b s1 s2)).valq
  | _, _ => none
 | _, _ => none
abbrev Nm := Nat -> Nat × Option Addr
def Nm.tl (s : Nm) : Nm := fun i => s (i + 1)
def Nm.ev (s : Nm) : Nm := fun i => s (2 * i)
def Nm.od (s : Nm) : Nm := fun i => s (2 * i + 1)
def VC.modk : {T : Type} -> VC T -> {R : Type} -> (T -> Nm -> Option R) -> Nm -> Option R
 | _, .ret o, _, K, s => match o with
  | some x => K x s
  | none => none
 | _, .bind m k, _, K, s => m.bind fun x => (k x).modk K s
 | _, .ite c x y, _, K, s => bif c then x.modk K s else y.modk K s
 | _, .frN k, _, K, s => (k (s 0).1).modk K s.tl
 | _, .frA k, _, K, s => (k (s 0).2).modk K s.tl
 | _, .req _ _ k, _, K, s => k.modk K s
 | _, .join x k, _, K, s => (x.modk (fun y _ => some y) s.ev).bind fun y => (k y).modk K s.od
 | _, .cs z x y, _, K, s => match z with
  | .inl a => (x a).modk K s
  | .inr b => (y b).modk K s
 | _, .both u _ _, _, K, s => u.modk K s
 | _, .grj x k, _, K, s => x.modk (fun y s' => (k y).modk K s') s
 | _, .sel M b x y k, _, K, s => match x.valq, y.valq with
  | some s1, some s2 => (k (M.mix b s1 s2)).modk K s
  | _, _ => bif b then x.modk (fun y s' => (k y).modk K s') s else y.modk (fun y s' => (k y).modk K s') s
def VC.mod : {R : Type} -> VC R -> Nm -> Option R
 | _, .ret o, _ => o
 | _, .bind m k, s => m.bind fun x => (k x).mod s
 | _, .ite c x y, s => bif c then x.mod s else y.mod s
 | _, .frN k, s => (k (s 0).1).mod s.tl
 | _, .frA k, s => (k (s 0).2).mod s.tl
 | _, .req _ _ k, s => k.mod s
 | _, .join x k, s => (x.mod s.ev).bind fun y => (k y).mod s.od
 | _, .cs z x y, s => match z with
  | .inl a => (x a).mod s
  | .inr b => (y b).mod s
 | _, .both u _ _, s => u.mod s
 | _, .grj x k, s => x.modk (fun y s' => (k y).mod s') s
 | _, .sel M b x y k, s => match x.valq, y.valq with
  | some s1, some s2 => (k (M.mix b s1 s2)).mod s
  | _, _ => bif b then x.modk (fun y s' => (k y).mod s') s else y.modk (fun y s' => (k y).mod s') s
theorem VC.mod_eq : ∀ {R : Type} (v : VC R) (s : Nm), v.modk (fun y _ => some y) s = v.mod s
 | _, .ret o, s => by cases o <;> rfl
 | _, .bind m k, s => by
  simp only [VC.modk, VC.mod];congr 1;funext x;exact VC.mod_eq (k x) s
 | _, .ite c x y, s => by simp only [VC.modk, VC.mod, VC.mod_eq x, VC.mod_eq y]
 | _, .frN k, s => VC.mod_eq (k _) _
 | _, .frA k, s => VC.mod_eq (k _) _
 | _, .req _ _ k, s => VC.mod_eq k s
 | _, .join x k, s => by
  simp only [VC.modk, VC.mod, VC.mod_eq x];congr 1;funext y;exact VC.mod_eq (k y) _
 | _, .cs z x y, s => by
  cases z with
  | inl a => exact VC.mod_eq (x a) s
  | inr b => exact VC.mod_eq (y b) s
 | _, .both u _ _, s => VC.mod_eq u s
 | _, .grj x k, s => by
  simp only [VC.modk, VC.mod];congr 1;funext y s';exact VC.mod_eq (k y) s'
 | _, .sel M b x y k, s => by
  have e : (fun t (s' : Nm) => (k t).modk (fun z _ => some z) s') = fun t s' => (k t).mod s' := by
   funext t s';exact VC.mod_eq (k t) s'
  simp only [VC.modk, VC.mod, e];split
  ·exact VC.mod_eq (k _) s
  ·rfl
def VC.rfx : {R : Type} -> VC R -> VC R
 | _, .ret o => .ret o
 | _, .bind m k => .bind m fun x => (k x).rfx
 | _, .ite c x y => .ite c x.rfx y.rfx
 | _, .frN k => .frN fun r => (k r).rfx
 | _, .frA k => .frA fun r => (k r).rfx
 | _, .req a _ k => .req a a k.rfx
 | _, .join x k => .join x.rfx fun s => (k s).rfx
 | _, .cs s x y => .cs s (fun a => (x a).rfx) fun b => (y b).rfx
 | _, .both u v _ => .both u.rfx v.rfx u.mod
 | _, .grj x k => .grj x.rfx fun y => (k y).rfx
 | _, .sel M b x y k => .sel M b x.rfx y.rfx fun t => (k t).rfx
def VC.ok : {R : Type} -> VC R -> (R -> Prop) -> Prop
 | _, .ret o, Φ => ∃ x, o = some x /\ Φ x
 | _, .bind m k, Φ => ∃ x, m = some x /\ (k x).ok Φ
 | _, .ite c x y, Φ => (c = true -> x.ok Φ) /\ (c = false -> y.ok Φ)
 | _, .frN k, Φ => ∀ r, (k r).ok Φ
 | _, .frA k, Φ => ∀ r, (k r).ok Φ
 | _, .req a b k, Φ => a = b /\ k.ok Φ
 | _, .join x k, Φ => x.ok fun y => (k y).ok Φ
 | _, .cs z x y, Φ => (∀ a, z = .inl a -> (x a).ok Φ) /\ ∀ b, z = .inr b -> (y b).ok Φ
 | _, .both u v vm, Φ => u.ok Φ /\ (vm = v.mod -> v.ok Φ)
 | _, .grj x k, Φ => x.ok fun y => (k y).ok Φ
 | _, .sel M b x y k, Φ => (b = true -> x.ok fun t => (k t).ok Φ) /\ (b = false -> y.ok fun t => (k t).ok Φ)
def Nm.cons (x : Nat × Option Addr) (s : Nm) : Nm := fun i => match i with
 | 0 => x
 | i + 1 => s i
def Nm.mix (s t : Nm) : Nm := fun i => if i % 2 = 0 then s (i / 2) else t (i / 2)
theorem Nm.bz (s t : Nm) : (Nm.mix s t).ev = s := by
 funext i;have h1 : 2 * i % 2 = 0 := by omega
 have h2 : 2 * i / 2 = i := by omega
 simp [Nm.ev, Nm.mix, h1, h2]
theorem Nm.bt (s t : Nm) : (Nm.mix s t).od = t := by
 funext i;have h1 : ¬ (2 * i + 1) % 2 = 0 := by omega
 have h2 : (2 * i + 1) / 2 = i := by omega
 simp [Nm.od, Nm.mix, h1, h2]
theorem VC.mono : ∀ {R : Type} (v : VC R) {Φ Ψ : R -> Prop}, (∀ x, Φ x -> Ψ x) -> v.ok Φ -> v.ok Ψ
 | _, .ret o, Φ, Ψ, h, hk => by
  obtain ⟨x, j, hp⟩ := hk;exact ⟨x, j, h x hp⟩
 | _, .bind m k, Φ, Ψ, h, hk => by
  obtain ⟨x, j, hp⟩ := hk;exact ⟨x, j, VC.mono (k x) h hp⟩
 | _, .ite c x y, Φ, Ψ, h, hk => ⟨fun l => VC.mono x h (hk.1 l), fun l => VC.mono y h (hk.2 l)⟩
 | _, .frN k, Φ, Ψ, h, hk => fun r => VC.mono (k r) h (hk r)
 | _, .frA k, Φ, Ψ, h, hk => fun r => VC.mono (k r) h (hk r)
 | _, .req a b k, Φ, Ψ, h, hk => ⟨hk.1, VC.mono k h hk.2⟩
 | _, .join x k, Φ, Ψ, h, hk => VC.mono x (Φ := fun y => (k y).ok Φ) (Ψ := fun y => (k y).ok Ψ) (fun y i => VC.mono (k y) h i) hk
 | _, .cs z x y, Φ, Ψ, h, hk => ⟨fun a ha => VC.mono (x a) h (hk.1 a ha), fun b t => VC.mono (y b) h (hk.2 b t)⟩
 | _, .both u v vm, Φ, Ψ, h, hk => ⟨VC.mono u h hk.1, fun e => VC.mono v h (hk.2 e)⟩
 | _, .grj x k, Φ, Ψ, h, hk => VC.mono x (Φ := fun y => (k y).ok Φ) (Ψ := fun y => (k y).ok Ψ) (fun y i => VC.mono (k y) h i) hk
 | _, .sel M b x y k, Φ, Ψ, h, hk => ⟨fun e => VC.mono x (Φ := fun y => (k y).ok Φ) (Ψ := fun y => (k y).ok Ψ) (fun y i => VC.mono (k y) h i) (hk.1 e), fun e => VC.mono y (Φ := fun y => (k y).ok Φ) (Ψ := fun y => (k y).ok Ψ) (fun y i => VC.mono (k y) h i) (hk.2 e)⟩
theorem VC.qS : ∀ {T : Type} (v : VC T) {P : T -> Prop} {s : T}, v.ok P -> v.valq = some s -> P s
 | _, .ret o, P, s, h, e => by
  obtain ⟨x, j, hp⟩ := h;have i : o = some s := e;rw [j] at i; cases i; exact hp
 | _, .req _ _ k, P, s, h, e => VC.qS k h.2 e
 | _, .both _ _ _, P, s, h, e => by cases e
 | _, .sel M b x y k, P, s, h, e => by
  simp only [VC.valq] at e;split at e
  ·rename_i s1 s2 h1 h2;cases b with
   | true =>
    rw [M.h1] at e;exact VC.qS (k s1) (VC.qS x (h.1 rfl) h1) e
   | false =>
    rw [M.h0] at e;exact VC.qS (k s2) (VC.qS y (h.2 rfl) h2) e
  ·cases e
 | _, .bind _ _, P, s, h, e => by cases e
 | _, .ite _ _ _, P, s, h, e => by cases e
 | _, .frN _, P, s, h, e => by cases e
 | _, .frA _, P, s, h, e => by cases e
 | _, .join _ _, P, s, h, e => by cases e
 | _, .cs _ _ _, P, s, h, e => by cases e
 | _, .grj _ _, P, s, h, e => by cases e
theorem VC.qT : ∀ {T : Type} (v : VC T) {s : T}, v = v.rfx -> v.valq = some s -> v.ok (· = s)
 | _, .ret o, s, hr, e => ⟨s, e, rfl⟩
 | _, .req a b k, s, hr, e => by
  simp only [VC.rfx, VC.req.injEq, heq_eq_eq, true_and] at hr;exact ⟨hr.1.symm, VC.qT k hr.2 e⟩
 | _, .both _ _ _, s, h, e => by cases e
 | _, .sel M b x y k, s, hr, e => by
  simp only [VC.rfx, VC.sel.injEq, heq_eq_eq, true_and] at hr;simp only [VC.valq] at e;split at e
  ·rename_i s1 s2 h1 h2;refine ⟨fun i => ?_, fun i => ?_⟩
   ·subst i;rw [M.h1] at e;exact VC.mono x (fun t ht => by subst ht; exact VC.qT (k _) (congrFun hr.2.2 _) e) (VC.qT x hr.1 h1)
   ·subst i;rw [M.h0] at e;exact VC.mono y (fun t ht => by subst ht; exact VC.qT (k _) (congrFun hr.2.2 _) e) (VC.qT y hr.2.1 h2)
  ·cases e
 | _, .bind _ _, s, h, e => by cases e
 | _, .ite _ _ _, s, h, e => by cases e
 | _, .frN _, s, h, e => by cases e
 | _, .frA _, s, h, e => by cases e
 | _, .join _ _, s, h, e => by cases e
 | _, .cs _ _ _, s, h, e => by cases e
 | _, .grj _ _, s, h, e => by cases e
theorem VC.okk : ∀ {T : Type} (v : VC T) {R : Type} (K : T -> Nm -> Option R) (Ψ : R -> Prop), v.ok (fun y => ∀ s, ∃ x, K y s = some x /\ Ψ x) -> ∀ s, ∃ x, v.modk K s = some x /\ Ψ x
 | _, .ret o, _, K, Ψ, h, s => by
  obtain ⟨x, rfl, i⟩ := h;exact i s
 | _, .bind m k, _, K, Ψ, h, s => by
  obtain ⟨x, rfl, i⟩ := h;exact VC.okk (k x) K Ψ i s
 | _, .ite c x y, _, K, Ψ, h, s => by
  cases c with
  | true => exact VC.okk x K Ψ (h.1 rfl) s
  | false => exact VC.okk y K Ψ (h.2 rfl) s
 | _, .frN k, _, K, Ψ, h, s => VC.okk (k _) K Ψ (h _) _
 | _, .frA k, _, K, Ψ, h, s => VC.okk (k _) K Ψ (h _) _
 | _, .req a b k, _, K, Ψ, h, s => VC.okk k K Ψ h.2 s
 | _, .join x k, _, K, Ψ, h, s => by
  obtain ⟨y, e, h2⟩ := VC.okk x (fun y _ => some y) (fun y => (k y).ok fun z => ∀ s, ∃ x, K z s = some x /\ Ψ x) (VC.mono x (fun y e s => ⟨y, rfl, e⟩) h) s.ev;obtain ⟨z, hz, h3⟩ := VC.okk (k y) K Ψ h2 s.od;exact ⟨z, by simp only [VC.modk, e, bS, hz], h3⟩
 | _, .cs z x y, _, K, Ψ, h, s => by
  cases z with
  | inl a => exact VC.okk (x a) K Ψ (h.1 a rfl) s
  | inr b => exact VC.okk (y b) K Ψ (h.2 b rfl) s
 | _, .both u v vm, _, K, Ψ, h, s => VC.okk u K Ψ h.1 s
 | _, .grj x k, _, K, Ψ, h, s => VC.okk x (fun y s' => (k y).modk K s') Ψ (VC.mono x (fun y e s => VC.okk (k y) K Ψ e s) h) s
 | _, .sel M b x y k, _, K, Ψ, h, s => by
  simp only [VC.modk];split
  ·rename_i s1 s2 h1 h2;cases b with
   | true =>
    rw [M.h1];exact VC.okk (k s1) K Ψ (VC.qS x (h.1 rfl) h1) s
   | false =>
    rw [M.h0];exact VC.okk (k s2) K Ψ (VC.qS y (h.2 rfl) h2) s
  ·cases b with
   | true => exact VC.okk x (fun y s' => (k y).modk K s') Ψ (VC.mono x (fun y e s => VC.okk (k y) K Ψ e s) (h.1 rfl)) s
   | false => exact VC.okk y (fun y s' => (k y).modk K s') Ψ (VC.mono y (fun y e s => VC.okk (k y) K Ψ e s) (h.2 rfl)) s
theorem VC.sP : ∀ {T : Type} (v : VC T) {R : Type} (K : T -> Nm -> Option R) (Ψ : R -> Prop), v = v.rfx -> (∀ s, ∃ x, v.modk K s = some x /\ Ψ x) -> v.ok (fun y => ∀ s, ∃ x, K y s = some x /\ Ψ x)
 | _, .ret o, _, K, Ψ, _, h => by
  cases o with
  | none => obtain ⟨x, A, _⟩ := h fun _ => (0, none); cases A
  | some y => exact ⟨y, rfl, h⟩
 | _, .bind m k, _, K, Ψ, hr, h => by
  obtain ⟨y, i, I⟩ := h fun _ => (0, none)
  simp only [VC.modk] at i;obtain ⟨x, A, -⟩ := Option.bind_eq_some_iff.1 i;refine ⟨x, A, VC.sP (k x) K Ψ ?_ fun s => ?_⟩
  ·simp only [VC.rfx, VC.bind.injEq, heq_eq_eq, true_and] at hr;exact congrFun hr x
  ·obtain ⟨z, hz, hp⟩ := h s;simp only [VC.modk, A, bS] at hz;exact ⟨z, hz, hp⟩
 | _, .ite c x y, _, K, Ψ, hr, h => by
  simp only [VC.rfx, VC.ite.injEq, true_and] at hr;refine ⟨fun B => VC.sP x K Ψ hr.1 fun s => ?_, fun B => VC.sP y K Ψ hr.2 fun s => ?_⟩
  ·obtain ⟨z, hz, hp⟩ := h s;simp only [VC.modk, B, cT] at hz;exact ⟨z, hz, hp⟩
  ·obtain ⟨z, hz, hp⟩ := h s;simp only [VC.modk, B, cF] at hz;exact ⟨z, hz, hp⟩
 | _, .frN k, _, K, Ψ, hr, h => fun r => by
  simp only [VC.rfx, VC.frN.injEq] at hr;refine VC.sP (k r) K Ψ (congrFun hr r) fun s => ?_
  exact h (Nm.cons (r, none) s)
 | _, .frA k, _, K, Ψ, hr, h => fun r => by
  simp only [VC.rfx, VC.frA.injEq] at hr;refine VC.sP (k r) K Ψ (congrFun hr r) fun s => ?_
  exact h (Nm.cons (0, r) s)
 | _, .req a b k, _, K, Ψ, hr, h => by
  simp only [VC.rfx, VC.req.injEq, heq_eq_eq, true_and] at hr;exact ⟨hr.1.symm, VC.sP k K Ψ hr.2 fun s => by simpa only [VC.modk] using h s⟩
 | _, .join x k, _, K, Ψ, hr, h => by
  simp only [VC.rfx, VC.join.injEq, heq_eq_eq, true_and] at hr;show x.ok fun y => (k y).ok fun y => ∀ s, ∃ x, K y s = some x /\ Ψ x
  refine VC.mono x (fun y i => ?_) (VC.sP x (fun y _ => some y) (fun y => (k y).ok fun y => ∀ s, ∃ x, K y s = some x /\ Ψ x) hr.1 fun s => ?_)
  ·obtain ⟨z, hz, h2⟩ := i fun _ => (0, none)
   cases hz; exact h2
  ·obtain ⟨z, hz, -⟩ := h (Nm.mix s fun _ => (0, none));simp only [VC.modk, Nm.bz, Nm.bt] at hz;obtain ⟨y, i, -⟩ := Option.bind_eq_some_iff.1 hz;refine ⟨y, i, VC.sP (k y) K Ψ (congrFun hr.2 y) fun t => ?_⟩;obtain ⟨z2, l, hp⟩ := h (Nm.mix s t);simp only [VC.modk, Nm.bz, Nm.bt, i, bS] at l;exact ⟨z2, l, hp⟩
 | _, .cs z x y, _, K, Ψ, hr, h => by
  simp only [VC.rfx, VC.cs.injEq, heq_eq_eq, true_and] at hr;refine ⟨fun a ha => VC.sP (x a) K Ψ (congrFun hr.1 a) fun s => ?_, fun b j => VC.sP (y b) K Ψ (congrFun hr.2 b) fun s => ?_⟩
  ·obtain ⟨u, hu, hp⟩ := h s;simp only [VC.modk, ha] at hu;exact ⟨u, hu, hp⟩
  ·obtain ⟨u, hu, hp⟩ := h s;simp only [VC.modk, j] at hu;exact ⟨u, hu, hp⟩
 | _, .both u v vm, _, K, Ψ, hr, h => by
  simp only [VC.rfx, VC.both.injEq, heq_eq_eq, true_and] at hr;have hu := VC.sP u K Ψ hr.1 h;refine ⟨hu, fun e => ?_⟩;have h2 := VC.sP v (fun y _ => some y) (fun y => ∀ s, ∃ x, K y s = some x /\ Ψ x) hr.2.1 fun s => by
   have D : v.mod = u.mod := e.symm.trans hr.2.2;have F : v.modk (fun y _ => some y) s = u.modk (fun y _ => some y) s := by rw [VC.mod_eq, VC.mod_eq]; exact congrFun D s
   rw [F];exact VC.okk u (fun y _ => some y) _ (VC.mono u (fun y i s => ⟨y, rfl, i⟩) hu) s
  refine VC.mono v (fun y i => ?_) h2;obtain ⟨z, hz, h3⟩ := i fun _ => (0, none)
  cases hz; exact h3
 | _, .grj x k, _, K, Ψ, hr, h => by
  simp only [VC.rfx, VC.grj.injEq, heq_eq_eq, true_and] at hr;exact VC.mono x (fun y i => VC.sP (k y) K Ψ (congrFun hr.2 y) i) (VC.sP x (fun y s' => (k y).modk K s') Ψ hr.1 h)
 | _, .sel M b x y k, _, K, Ψ, hr, h => by
  simp only [VC.rfx, VC.sel.injEq, heq_eq_eq, true_and] at hr;simp only [VC.modk] at h;split at h
  ·rename_i s1 s2 h1 h2;refine ⟨fun j => ?_, fun j => ?_⟩
   ·subst j;rw [M.h1] at h;exact VC.mono x (fun t ht => by subst ht; exact VC.sP (k _) K Ψ (congrFun hr.2.2 _) h) (VC.qT x hr.1 h1)
   ·subst j;rw [M.h0] at h;exact VC.mono y (fun t ht => by subst ht; exact VC.sP (k _) K Ψ (congrFun hr.2.2 _) h) (VC.qT y hr.2.1 h2)
  ·refine ⟨fun j => ?_, fun j => ?_⟩
   ·subst j;exact VC.mono x (fun y i => VC.sP (k y) K Ψ (congrFun hr.2.2 y) i) (VC.sP x (fun y s' => (k y).modk K s') Ψ hr.1 h)
   ·subst j;exact VC.mono y (fun y i => VC.sP (k y) K Ψ (congrFun hr.2.2 y) i) (VC.sP y (fun y s' => (k y).modk K s') Ψ hr.2.1 h)
theorem VC.good {R : Type} (v : VC R) (Φ : R -> Prop) (hr : v = v.rfx) (h : ∀ s, ∃ x, v.mod s = some x /\ Φ x) : v.ok Φ :=
 VC.mono v (fun y e => by obtain ⟨z, hz, h3⟩ := e fun _ => (0, none); cases hz; exact h3) (VC.sP v (fun y _ => some y) Φ hr fun s => by rw [VC.mod_eq]; exact h s)
structure ElD : Type 1 where
 α : Type
 enc : α -> List Value
 sz : Nat
 ok : wH enc sz
 dec : List Value -> Option α
structure MpD : Type 1 where
 K : Type
 V : Type
 ek : K -> Value
 ev : V -> Value
 dk : Value -> Option K
 dv : Value -> Option V
 eq : K -> K -> Bool
structure Ev : Type 1 where
 el : Nat -> ElD
 mp : Nat -> MpD
inductive Atom (E : Ev) : Type
 | blk (b : Nat) (T : TypeId) (cs : List Value)
 | sl (c : Nat) (T : TypeId) (sb : Option Addr) (sc : Nat) (l : List (E.el c).α)
 | mp (c : Nat) (r : Nat) (m : List ((E.mp c).K × (E.mp c).V))
def Atom.den {E : Ev} : Atom E -> HP
 | .blk b T cs => Blk b T cs
 | .sl c T sb sc l => Sl T (E.el c).enc (E.el c).sz sb sc l
 | .mp c r m => MpA r (E.mp c).ek (E.mp c).ev m
structure RdV (E : Ev) : Type where
 c : Nat
 sb : Option Addr
 sc : Nat
 l : List (E.el c).α
def RdV.holds {E : Ev} (F : List HP) (r : RdV E) : Prop := ∃ X ∈ F, SlRd X (E.el r.c).enc (E.el r.c).sz r.sb r.l /\ ∀ h, X h -> r.l.length <= r.sc
structure EfV (E : Ev) : Type where
 rdr : Bool
 c : Nat
 sb : Option Addr
 l : List (E.el c).α
 i : Int
 x : (E.el c).α
 b : Nat
 o : Nat
def EfV.holds {E : Ev} (F : List HP) (e : EfV E) : Prop :=
 e.sb = some ⟨e.b, e.o, none⟩ /\ mIdx e.l e.i = some e.x /\ (e.rdr = true -> ∃ X ∈ F, SlRd X (E.el e.c).enc (E.el e.c).sz e.sb e.l)
structure VwV (E : Ev) : Type where
 c : Nat
 sb : Option Addr
 sc : Nat
 l : List (E.el c).α
 lo : Option Int
 hi : Option Int
 sb' : Option Addr
 sc' : Nat
 r : List (E.el c).α
def loN : Option Int -> Nat
 | none => 0
 | some i => i.toNat
def loI : Option Int -> Int
 | none => 0
 | some i => i
def hiN (n : Nat) : Option Int -> Nat
 | none => n
 | some i => i.toNat
def hiI (n : Nat) : Option Int -> Int
 | none => (n : Int)
 | some i => i
def bndO (h : Nat) : Option Int -> List Ob
 | none => []
 | some i => [.p (0 <= i /\ i <= (h : Int))]
def VwV.holds {E : Ev} (v : VwV E) : Prop :=
 mCut v.l (loI v.lo) (hiI v.l.length v.hi) = some v.r /\ yO v.sb v.sc (loI v.lo).toNat (E.el v.c).sz = v.sb' /\ v.sc - (loI v.lo).toNat = v.sc' /\ v.l.length <= v.sc
inductive Mi (E : Ev) : Type
 | cut (v : VwV E)
 | opt (o : Option Int)
def Mi.holds {E : Ev} : Mi E -> Prop
 | .cut v => v.holds
 | .opt _ => True
structure Kn (E : Ev) : Type where
 L : Env
 As : List (Nat × Atom E)
 rd : List (Nat × RdV E)
 ef : List (Nat × EfV E)
 pr : List (Nat × Prop)
 vw : List (Nat × Mi E)
def getK {α : Type} (k : Nat) : List (Nat × α) -> Option α
 | [] => none
 | (j, x) :: r => match Nat.beq k j with
  | true => some x
  | false => getK k r
def ox {α : Type} (k : Nat) : List (Nat × α) -> Option (α × List (Nat × α))
 | [] => none
 | (j, x) :: r => match Nat.beq k j with
  | true => some (x, r)
  | false => match ox k r with
   | some (y, r') => some (y, (j, x) :: r')
   | none => none
def kY {α : Type} : List Nat -> List (Nat × α) -> Option (List α × List (Nat × α))
 | [], L => some ([], L)
 | k :: ks, L => match ox k L with
  | none => none
  | some (x, L') => match kY ks L' with
   | none => none
   | some (xs, r) => some (x :: xs, r)
theorem wA {α : Type} {k : Nat} {x : α} : ∀ {L : List (Nat × α)}, getK k L = some x -> ∃ j, (j, x) ∈ L
 | [], h => by cases h
 | (j, y) :: r, h => by
  simp only [getK] at h;split at h
  ·cases h; exact ⟨j, by simp⟩
  ·obtain ⟨i, hi⟩ := wA h; exact ⟨i, by simp [hi]⟩
theorem oE {α : Type} {k : Nat} {x : α} : ∀ {L r : List (Nat × α)}, ox k L = some (x, r) -> (L.map (·.2)).Perm (x :: r.map (·.2))
 | [], r, h => by cases h
 | (j, y) :: L, r, h => by
  simp only [ox] at h;split at h
  ·cases h; exact List.Perm.refl _
  ·split at h
   ·rename_i z r' hp;cases h;have ih := oE hp;simp only [pC];exact (ih.cons y).trans (List.Perm.swap _ _ _)
   ·cases h
theorem mK {α : Type} : ∀ {ks : List Nat} {L r : List (Nat × α)} {xs : List α}, kY ks L = some (xs, r) -> (L.map (·.2)).Perm (xs ++ r.map (·.2))
 | [], L, r, xs, h => by simp [kY] at h; obtain ⟨rfl, rfl⟩ := h; exact List.Perm.refl _
 | k :: ks, L, r, xs, h => by
  simp only [kY] at h;split at h
  ·cases h
  ·rename_i x L' h1;split at h
   ·cases h
   ·rename_i e r' h2;cases h;exact (oE h1).trans ((mK h2).cons x)
section
variable {E : Ev}
def dens (As : List (Nat × Atom E)) : List HP := (As.map (·.2)).map Atom.den
structure dZ (F : List HP) (st : Kn E) : Prop where
 rd : ∀ p ∈ st.rd, p.2.holds F
 ef : ∀ p ∈ st.ef, p.2.holds F
 pr : ∀ p ∈ st.pr, p.2
 vw : ∀ p ∈ st.vw, p.2.holds
structure KnOk (n : Nat) (w0 : World) (F : List HP) (st : Kn E) (a : Act) (w : World) : Prop where
 env : yg n a st.L
 hp : St w0 (dens st.As ++ F) w
 fs : dZ F st
theorem ou {ks : List Nat} {As r : List (Nat × Atom E)} {xs : List (Atom E)} (h : kY ks As = some (xs, r)) : (dens As).Perm (xs.map Atom.den ++ dens r) := by
 have := (mK h).map Atom.den;simpa [dens] using this
theorem uH {k : Nat} {As r : List (Nat × Atom E)} {x : Atom E} (h : ox k As = some (x, r)) : (dens As).Perm (x.den :: dens r) := by
 have := (oE h).map Atom.den;simpa [dens] using this
theorem uO {k : Nat} {As : List (Nat × Atom E)} {x : Atom E} (h : getK k As = some x) : x.den ∈ dens As := by
 obtain ⟨j, hj⟩ := wA h;simp only [dens, List.mem_map];exact ⟨x, ⟨(j, x), hj, rfl⟩, rfl⟩
theorem St.mem {w0 w : World} {As : List HP} {A : HP} (H : St w0 As w) (h : A ∈ As) : ∃ i : Nat, As[i]? = some A := List.mem_iff_getElem?.1 h
inductive Src
 | C (q off : Nat)
 | A (e : Nat)
 | X (e q j : Nat)
 | R (e j : Nat)
 | Q (j : Nat)
 | W (j : Nat)
 | P (e q j : Nat)
abbrev SrcR (E : Ev) := List Value × List Ob × List (Atom E × Atom E)
def Src.get (st : Kn E) : Src -> Option (SrcR E)
 | .C q off => match getK q st.As with
  | some (.blk b T cs) => match cs[off]? with
   | some v => some ([v], [.cell ⟨b, off, none⟩ v], [])
   | none => none
  | _ => none
 | .A e => match getK e st.ef with
  | some f => some ([.pointer (some ⟨f.b, f.o, none⟩)], [.p (f.sb = some ⟨f.b, f.o, none⟩), .p (0 <= f.i /\ f.i < ((f.l.length : Nat) : Int))], [])
  | none => none
 | .X e q j => match getK e st.ef, getK q st.As with
  | some f, some (.sl c' T sb sc l) => match ((E.el f.c).enc f.x)[j]? with
   | some v => some ([v], [.cell ⟨f.b, f.o + f.i.toNat * (E.el f.c).sz + j, none⟩ v], [(.sl c' T sb sc l, .sl f.c T f.sb sc f.l)])
   | none => none
  | _, _ => none
 | .R e j => match getK e st.ef with
  | some f => match f.rdr, ((E.el f.c).enc f.x)[j]? with
   | true, some v => some ([v], [.cell ⟨f.b, f.o + f.i.toNat * (E.el f.c).sz + j, none⟩ v], [])
   | _, _ => none
  | none => none
 | .Q j => match getK j st.pr with
  | some p => some ([], [.p p], [])
  | none => none
 | .P e q j => match getK e st.ef, getK q st.As with
  | some f, some (.blk b T cs) => match ((E.el f.c).enc f.x)[j]?, Nat.ble f.o cs.length with
   | some v, true => some ([v], [.cell ⟨f.b, f.o + f.i.toNat * (E.el f.c).sz + j, none⟩ v], [(.blk b T cs, .blk f.b T (cs.take f.o ++ (f.l.flatMap (E.el f.c).enc ++ cs.drop (f.o + f.l.length * (E.el f.c).sz))))])
   | _, _ => none
  | _, _ => none
 | .W j => match getK j st.vw with
  | some (.cut v) => some ([.slice v.sb' v.r.length v.sc'], .p (yO v.sb v.sc (loN v.lo) (E.el v.c).sz = v.sb') :: .p (hiN v.l.length v.hi - loN v.lo = v.r.length) :: .p (v.sc - loN v.lo = v.sc') :: (bndO v.sc v.hi ++ bndO (hiN v.l.length v.hi) v.lo), [])
  | _ => none
def srcs (st : Kn E) : List Src -> Option (SrcR E)
 | [] => some ([], [], [])
 | s :: r => match s.get st, srcs st r with
  | some (a, b, c), some (x, y, z) => some (a ++ x, b ++ y, c ++ z)
  | _, _ => none
theorem j3 {α : Type} {l : List α} {i : Int} {x : α} (h : mIdx l i = some x) : 0 <= i /\ i < ((l.length : Nat) : Int) := by
 unfold mIdx at h;split at h
 ·rename_i h0;have := (List.getElem?_eq_some_iff.1 h).1;omega
 ·cases h
theorem bO (o : Option Int) : (loI o).toNat = loN o := by cases o <;> rfl
theorem AG (n : Nat) (o : Option Int) : (hiI n o).toNat = hiN n o := by cases o <;> simp [hiI, hiN]
theorem VwV.obs {v : VwV E} (h : v.holds) (w : World) : wc w (.p (yO v.sb v.sc (loN v.lo) (E.el v.c).sz = v.sb') :: .p (hiN v.l.length v.hi - loN v.lo = v.r.length) :: .p (v.sc - loN v.lo = v.sc') :: (bndO v.sc v.hi ++ bndO (hiN v.l.length v.hi) v.lo)) := by
 obtain ⟨h1, h2, h3, h4⟩ := h;refine ⟨by rw [<- bO]; exact h2, ?_, by show v.sc - loN v.lo = v.sc'; rw [<- bO]; exact h3, ?_⟩
 ·show hiN _ _ - loN _ = _;rw [<- bO, <- AG]; exact qM h1
 ·rw [wK];constructor
  ·cases hh : v.hi with
   | none => trivial
   | some i => rw [hh] at h1; exact ⟨jR h1 h4, trivial⟩
  ·cases hl : v.lo with
   | none => trivial
   | some i =>
    rw [hl] at h1;refine ⟨?_, trivial⟩;have := bf h1;rw [AG] at this;exact this
theorem Src.sound {n : Nat} {w0 w : World} {F : List HP} {st : Kn E} {a : Act} (t : KnOk n w0 F st a w) {s : Src} {D : List Value} {obs : List Ob} {eqs : List (Atom E × Atom E)} (h : s.get st = some (D, obs, eqs))
  (he : ∀ p ∈ eqs, p.1 = p.2) : wc w obs := by
 cases s with
 | C q off =>
  simp only [Src.get] at h;split at h
  ·rename_i b T cs hq;split at h
   ·rename_i v hv;cases h;obtain ⟨i, hi⟩ := t.hp.mem (mL F (uO hq));exact ⟨t.hp.cell i hi hv, trivial⟩
   ·cases h
  ·cases h
 | A e =>
  simp only [Src.get] at h;split at h
  ·rename_i f hf;cases h;obtain ⟨j, hj⟩ := wA hf;obtain ⟨h1, h2, _⟩ := t.fs.ef _ hj;exact ⟨h1, j3 h2, trivial⟩
  ·cases h
 | X e q j =>
  simp only [Src.get] at h;split at h
  ·rename_i f c T sb sc l hf hq;split at h
   ·rename_i v hv;cases h;obtain ⟨B, hj⟩ := wA hf;obtain ⟨h1, h2, _⟩ := t.fs.ef _ hj;have y := he _ (List.mem_singleton.2 rfl);simp only at y;have hm := uO hq;rw [y] at hm;obtain ⟨i, hi⟩ := t.hp.mem (mL F hm);exact ⟨SlRd.cells (uF T (E.el f.c).enc (E.el f.c).sz f.sb sc f.l) (E.el f.c).ok t.hp i hi h1 h2 j v hv, trivial⟩
   ·cases h
  ·cases h
 | R e j =>
  simp only [Src.get] at h;split at h
  ·rename_i f hf;split at h
   ·rename_i v hr hv;cases h;obtain ⟨B, hj⟩ := wA hf;obtain ⟨h1, h2, h3⟩ := t.fs.ef _ hj;obtain ⟨X, hX, h4⟩ := h3 hr;obtain ⟨i, hi⟩ := t.hp.mem (List.mem_append_right _ hX);exact ⟨h4.cells (E.el f.c).ok t.hp i hi h1 h2 j v hv, trivial⟩
   ·cases h
  ·cases h
 | Q j =>
  simp only [Src.get] at h;split at h
  ·rename_i p hp;cases h;obtain ⟨B, hj⟩ := wA hp;exact ⟨t.fs.pr _ hj, trivial⟩
  ·cases h
 | P e q j =>
  simp only [Src.get] at h;split at h
  ·rename_i f b T cs hf hq;split at h
   ·rename_i v hv hle;cases h;obtain ⟨B, hj⟩ := wA hf;obtain ⟨h1, h2, _⟩ := t.fs.ef _ hj;have y := he _ (List.mem_singleton.2 rfl);simp only at y;have hm := uO hq;rw [y] at hm;obtain ⟨i, hi⟩ := t.hp.mem (mL F hm);refine ⟨t.hp.cell i hi ?_, trivial⟩;have I : j < (E.el f.c).sz := by
     have := (List.getElem?_eq_some_iff.1 hv).1
     rwa [(E.el f.c).ok.len] at this
    have hlen : (cs.take f.o).length = f.o := by rw [List.length_take]; exact Nat.min_eq_left (Nat.le_of_ble_eq_true hle)
    have O : 0 <= f.i /\ f.i < ((f.l.length : Nat) : Int) := j3 h2;have z : f.l[f.i.toNat]? = some f.x := sj h2;have u : f.i.toNat < f.l.length := by omega
    rw [List.getElem?_append_right (by rw [hlen]; omega), hlen];have hk : f.o + f.i.toNat * (E.el f.c).sz + j - f.o = f.i.toNat * (E.el f.c).sz + j := by omega
    rw [hk];have J := yD (E.el f.c).ok f.l;have h3 : f.i.toNat + 1 <= f.l.length := u;have h4 := Nat.mul_le_mul_right (E.el f.c).sz h3;rw [Nat.succ_mul] at h4;rw [List.getElem?_append_left (by rw [J]; omega), th (E.el f.c).ok f.l _ _ u I];rw [List.getElem?_eq_getElem u] at z;rw [Option.some.inj z];exact hv
   ·cases h
  ·cases h
 | W j =>
  simp only [Src.get] at h;split at h
  ·rename_i v hv;cases h;obtain ⟨B, hj⟩ := wA hv;exact VwV.obs (t.fs.vw _ hj) w
  ·cases h
theorem tT {n : Nat} {w0 w : World} {F : List HP} {st : Kn E} {a : Act} (i : KnOk n w0 F st a w) : ∀ {l : List Src} {e : List Value} {obs : List Ob} {eqs : List (Atom E × Atom E)}, srcs st l = some (e, obs, eqs) ->
  (∀ p ∈ eqs, p.1 = p.2) -> wc w obs
 | [], e, obs, eqs, h, _ => by simp [srcs] at h; obtain ⟨_, rfl, _⟩ := h; trivial
 | s :: r, e, obs, eqs, h, he => by
  simp only [srcs] at h;split at h
  ·rename_i j t c' x y z h1 h2;cases h;rw [wK];exact ⟨Src.sound i h1 fun p hp => he p (mL _ hp), tT i h2 fun p hp => he p (List.mem_append_right _ hp)⟩
  ·cases h
theorem mD {l : List (Atom E × Atom E)} (h : l.map (·.1) = l.map (·.2)) : ∀ p ∈ l, p.1 = p.2 := by
 induction l with
 | nil => simp
 | cons x l ih =>
  simp only [pC, List.cons.injEq] at h;intro p hp;cases hp with
  | head => exact h.1
  | tail _ hm => exact ih h.2 p hm
structure Con (E : Ev) : Type 1 where
 fid : Nat
 I : Type
 T : Type
 rd : List Value -> List (Atom E) -> Option I
 args : I -> List Value
 ats : I -> List (Atom E)
 rds : I -> List (RdV E)
 model : I -> Option T
 nN : Nat
 nA : Nat
 val : I -> T -> List Nat -> List (Option Addr) -> Value
 post : I -> T -> List Nat -> List (Option Addr) -> List (Atom E)
 opt : I -> T -> Option (Option Int)
 fx : I -> T -> List Prop
 br : Bool
 M : Type
 om : I -> T -> Option M
 nf : Nat
 val1 : I -> T -> M -> List Nat -> List (Option Addr) -> Value
 post1 : I -> T -> M -> List Nat -> List (Option Addr) -> List (Atom E)
def Con.valA (C : Con E) (i : C.I) (t : C.T) (e : List Nat) (j : List (Option Addr)) : Value := match C.br with
 | false => C.val i t e j
 | true => match C.om i t with
  | none => C.val i t e j
  | some m => C.val1 i t m e j
def Con.jB (C : Con E) (i : C.I) (t : C.T) (e : List Nat) (j : List (Option Addr)) : List (Atom E) := match C.br with
 | false => C.post i t e j
 | true => match C.om i t with
  | none => C.post i t e j
  | some m => C.post1 i t m e j
def Con.BA (C : Con E) (i : C.I) (t : C.T) (keys : List Nat) : List Nat := match C.br with
 | false => keys
 | true => match C.om i t with
  | none => keys.drop C.nf
  | some _ => keys
def Con.Sound (C : Con E) (P : Program) : Prop := ∀ (i : C.I) (t : C.T), C.model i = some t -> ∀ (w0 w : World) (F : List HP), (∀ r ∈ C.rds i, r.holds F) -> St w0 ((C.ats i).map Atom.den ++ F) w ->
 xC P C.fid (C.args i).toArray w fun v w' => ∃ e j, e.length = C.nN /\ j.length = C.nA /\ v = C.valA i t e j /\ St w0 ((C.jB i t e j).map Atom.den ++ F) w' /\ ∀ p ∈ C.fx i t, p
structure SCon (E : Ev) (P : Program) : Type 1 where
 C : Con E
 snd : C.Sound P
 ent : ∀ args w, (callFunc C.fid args).run P w = .ok (.enter C.fid args) w
def frNs {R : Type} : Nat -> (List Nat -> VC R) -> VC R
 | 0, k => k []
 | n + 1, k => .frN fun r => frNs n fun l => k (r :: l)
def frAs {R : Type} : Nat -> (List (Option Addr) -> VC R) -> VC R
 | 0, k => k []
 | n + 1, k => .frA fun r => frAs n fun l => k (r :: l)
theorem oq {R : Type} {Φ : R -> Prop} : ∀ (l : List Nat) (k : List Nat -> VC R), (frNs l.length k).ok Φ -> (k l).ok Φ
 | [], k, h => h
 | r :: l, k, h => oq l (fun l => k (r :: l)) (h r)
theorem og {R : Type} {Φ : R -> Prop} : ∀ (l : List (Option Addr)) (k : List (Option Addr) -> VC R), (frAs l.length k).ok Φ -> (k l).ok Φ
 | [], k, h => h
 | r :: l, k, h => og l (fun l => k (r :: l)) (h r)
def VC.fail {R : Type} : VC R := .ret none
theorem VC.zx {R : Type} {Φ : R -> Prop} (h : (VC.fail : VC R).ok Φ) : False := by
 obtain ⟨x, e, _⟩ := h;cases e
end
end
end Go.Th
