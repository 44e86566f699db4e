/-
  The engine by certificates, part 1: trees of what is to be shown (VC), a run's known state as data, contracts as data.
-/
import Derived.Test.YtgchbhnchhiehaaGreatE15
set_option linter.unusedVariables false
set_option linter.unusedSimpArgs false
namespace Go.Th

/-- One of two values. -/
structure Mx (T : Type) : Type where
  mix : Bool → T → T → T
  h1 : ∀ x y, mix true x y = x
  h0 : ∀ x y, mix false x y = y
def mB : Mx Bool := ⟨cond, fun _ _ => rfl, fun _ _ => rfl⟩
def mU : Mx Unit := ⟨fun _ _ _ => (), fun _ _ => rfl, fun _ _ => rfl⟩
def mI : Mx Int := ⟨fun b x y => cond b x y, fun _ _ => rfl, fun _ _ => rfl⟩
def m2 {A B : Type} (a : Mx A) (b : Mx B) : Mx (A × B) := ⟨fun c x y => (a.mix c x.1 y.1, b.mix c x.2 y.2), fun x y => by rw [a.h1, b.h1], fun x y => by rw [a.h0, b.h0]⟩
/-! A tree of what is to be shown: it tells a model, and what must be alike. -/
inductive VC : Type → Type 1
  | ret {R : Type} (o : Option R) : VC R
  | bind {R α : Type} (m : Option α) (k : α → VC R) : VC R
  | ite {R : Type} (c : Bool) (x y : VC R) : VC R
  | frN {R : Type} (k : Nat → VC R) : VC R
  | frA {R : Type} (k : Option Addr → VC R) : VC R
  | req {R α : Type} (a b : α) (k : VC R) : VC R
  | join {R T : Type} (x : VC T) (k : T → VC R) : VC R
  | cs {R A B : Type} (s : A ⊕ B) (x : A → VC R) (y : B → VC R) : VC R
  | both {R : Type} (u v : VC R) (vm : (Nat → Nat × Option Addr) → Option R) : VC R
  | grj {R T : Type} (x : VC T) (k : T → VC R) : VC R
  | sel {R T : Type} (M : Mx T) (b : Bool) (x y : VC T) (k : T → VC R) : VC R

/-- The one value that a tree without ways comes to. -/
def VC.valq : {T : Type} → VC T → Option T
  | _, .ret o => o
  | _, .req _ _ k => k.valq
  | _, .sel M b x y k => match x.valq, y.valq with
    | some s1, some s2 => (k (M.mix b s1 s2)).valq
    | _, _ => none
  | _, _ => none
abbrev Nm := Nat → Nat × Option Addr
def Nm.tl (s : Nm) : Nm := fun i => s (i + 1)
def Nm.ev (s : Nm) : Nm := fun i => s (2 * i)
def Nm.od (s : Nm) : Nm := fun i => s (2 * i + 1)
/-- What a tree's model says, and on from there. -/
def VC.modk : {T : Type} → VC T → {R : Type} → (T → Nm → Option R) → Nm → Option R
  | _, .ret o, _, K, s => match o with
    | some x => K x s
    | none => none
  | _, .bind m k, _, K, s => m.bind fun x => (k x).modk K s
  | _, .ite c x y, _, K, s => bif c then x.modk K s else y.modk K s
  | _, .frN k, _, K, s => (k (s 0).1).modk K s.tl
  | _, .frA k, _, K, s => (k (s 0).2).modk K s.tl
  | _, .req _ _ k, _, K, s => k.modk K s
  | _, .join x k, _, K, s => (x.modk (fun y _ => some y) s.ev).bind fun y => (k y).modk K s.od
  | _, .cs z x y, _, K, s => match z with
    | .inl a => (x a).modk K s
    | .inr b => (y b).modk K s
  | _, .both u _ _, _, K, s => u.modk K s
  | _, .grj x k, _, K, s => x.modk (fun y s' => (k y).modk K s') s
  | _, .sel M b x y k, _, K, s => match x.valq, y.valq with
    | some s1, some s2 => (k (M.mix b s1 s2)).modk K s
    | _, _ => bif b then x.modk (fun y s' => (k y).modk K s') s else y.modk (fun y s' => (k y).modk K s') s
/-- What a tree's model says. -/
def VC.mod : {R : Type} → VC R → Nm → Option R
  | _, .ret o, _ => o
  | _, .bind m k, s => m.bind fun x => (k x).mod s
  | _, .ite c x y, s => bif c then x.mod s else y.mod s
  | _, .frN k, s => (k (s 0).1).mod s.tl
  | _, .frA k, s => (k (s 0).2).mod s.tl
  | _, .req _ _ k, s => k.mod s
  | _, .join x k, s => (x.mod s.ev).bind fun y => (k y).mod s.od
  | _, .cs z x y, s => match z with
    | .inl a => (x a).mod s
    | .inr b => (y b).mod s
  | _, .both u _ _, s => u.mod s
  | _, .grj x k, s => x.modk (fun y s' => (k y).mod s') s
  | _, .sel M b x y k, s => match x.valq, y.valq with
    | some s1, some s2 => (k (M.mix b s1 s2)).mod s
    | _, _ => bif b then x.modk (fun y s' => (k y).mod s') s else y.modk (fun y s' => (k y).mod s') s
theorem VC.mod_eq : ∀ {R : Type} (v : VC R) (s : Nm), v.modk (fun y _ => some y) s = v.mod s
  | _, .ret o, s => by cases o <;> rfl
  | _, .bind m k, s => by
    simp only [VC.modk, VC.mod]
    congr 1
    funext x
    exact VC.mod_eq (k x) s
  | _, .ite c x y, s => by simp only [VC.modk, VC.mod, VC.mod_eq x, VC.mod_eq y]
  | _, .frN k, s => VC.mod_eq (k _) _
  | _, .frA k, s => VC.mod_eq (k _) _
  | _, .req _ _ k, s => VC.mod_eq k s
  | _, .join x k, s => by
    simp only [VC.modk, VC.mod, VC.mod_eq x]
    congr 1
    funext y
    exact VC.mod_eq (k y) _
  | _, .cs z x y, s => by
    cases z with
    | inl a => exact VC.mod_eq (x a) s
    | inr b => exact VC.mod_eq (y b) s
  | _, .both u _ _, s => VC.mod_eq u s
  | _, .grj x k, s => by
    simp only [VC.modk, VC.mod]
    congr 1
    funext y s'
    exact VC.mod_eq (k y) s'
  | _, .sel M b x y k, s => by
    have e : (fun t (s' : Nm) => (k t).modk (fun z _ => some z) s') = fun t s' => (k t).mod s' := by
      funext t s'
      exact VC.mod_eq (k t) s'
    simp only [VC.modk, VC.mod, e]
    split
    · exact VC.mod_eq (k _) s
    · rfl

def VC.rfx : {R : Type} → VC R → VC R
  | _, .ret o => .ret o
  | _, .bind m k => .bind m fun x => (k x).rfx
  | _, .ite c x y => .ite c x.rfx y.rfx
  | _, .frN k => .frN fun r => (k r).rfx
  | _, .frA k => .frA fun r => (k r).rfx
  | _, .req a _ k => .req a a k.rfx
  | _, .join x k => .join x.rfx fun s => (k s).rfx
  | _, .cs s x y => .cs s (fun a => (x a).rfx) fun b => (y b).rfx
  | _, .both u v _ => .both u.rfx v.rfx u.mod
  | _, .grj x k => .grj x.rfx fun y => (k y).rfx
  | _, .sel M b x y k => .sel M b x.rfx y.rfx fun t => (k t).rfx

def VC.ok : {R : Type} → VC R → (R → Prop) → Prop
  | _, .ret o, Φ => ∃ x, o = some x ∧ Φ x
  | _, .bind m k, Φ => ∃ x, m = some x ∧ (k x).ok Φ
  | _, .ite c x y, Φ => (c = true → x.ok Φ) ∧ (c = false → y.ok Φ)
  | _, .frN k, Φ => ∀ r, (k r).ok Φ
  | _, .frA k, Φ => ∀ r, (k r).ok Φ
  | _, .req a b k, Φ => a = b ∧ k.ok Φ
  | _, .join x k, Φ => x.ok fun y => (k y).ok Φ
  | _, .cs z x y, Φ => (∀ a, z = .inl a → (x a).ok Φ) ∧ ∀ b, z = .inr b → (y b).ok Φ
  | _, .both u v vm, Φ => u.ok Φ ∧ (vm = v.mod → v.ok Φ)
  | _, .grj x k, Φ => x.ok fun y => (k y).ok Φ
  | _, .sel M b x y k, Φ => (b = true → x.ok fun t => (k t).ok Φ) ∧ (b = false → y.ok fun t => (k t).ok Φ)

def Nm.cons (x : Nat × Option Addr) (s : Nm) : Nm := fun i => match i with
  | 0 => x
  | i + 1 => s i
def Nm.mix (s t : Nm) : Nm := fun i => if i % 2 = 0 then s (i / 2) else t (i / 2)
theorem Nm.mix_ev (s t : Nm) : (Nm.mix s t).ev = s := by
  funext i
  have h1 : 2 * i % 2 = 0 := by omega
  have h2 : 2 * i / 2 = i := by omega
  simp [Nm.ev, Nm.mix, h1, h2]
theorem Nm.mix_od (s t : Nm) : (Nm.mix s t).od = t := by
  funext i
  have h1 : ¬ (2 * i + 1) % 2 = 0 := by omega
  have h2 : (2 * i + 1) / 2 = i := by omega
  simp [Nm.od, Nm.mix, h1, h2]

theorem VC.mono : ∀ {R : Type} (v : VC R) {Φ Ψ : R → Prop}, (∀ x, Φ x → Ψ x) → v.ok Φ → v.ok Ψ
  | _, .ret o, Φ, Ψ, h, hk => by
    obtain ⟨x, hx, hp⟩ := hk
    exact ⟨x, hx, h x hp⟩
  | _, .bind m k, Φ, Ψ, h, hk => by
    obtain ⟨x, hx, hp⟩ := hk
    exact ⟨x, hx, VC.mono (k x) h hp⟩
  | _, .ite c x y, Φ, Ψ, h, hk => ⟨fun hc => VC.mono x h (hk.1 hc), fun hc => VC.mono y h (hk.2 hc)⟩
  | _, .frN k, Φ, Ψ, h, hk => fun r => VC.mono (k r) h (hk r)
  | _, .frA k, Φ, Ψ, h, hk => fun r => VC.mono (k r) h (hk r)
  | _, .req a b k, Φ, Ψ, h, hk => ⟨hk.1, VC.mono k h hk.2⟩
  | _, .join x k, Φ, Ψ, h, hk => VC.mono x (Φ := fun y => (k y).ok Φ) (Ψ := fun y => (k y).ok Ψ) (fun y hy => VC.mono (k y) h hy) hk
  | _, .cs z x y, Φ, Ψ, h, hk => ⟨fun a ha => VC.mono (x a) h (hk.1 a ha), fun b hb => VC.mono (y b) h (hk.2 b hb)⟩
  | _, .both u v vm, Φ, Ψ, h, hk => ⟨VC.mono u h hk.1, fun e => VC.mono v h (hk.2 e)⟩
  | _, .grj x k, Φ, Ψ, h, hk => VC.mono x (Φ := fun y => (k y).ok Φ) (Ψ := fun y => (k y).ok Ψ) (fun y hy => VC.mono (k y) h hy) hk
  | _, .sel M b x y k, Φ, Ψ, h, hk => ⟨fun e => VC.mono x (Φ := fun y => (k y).ok Φ) (Ψ := fun y => (k y).ok Ψ) (fun y hy => VC.mono (k y) h hy) (hk.1 e), fun e => VC.mono y (Φ := fun y => (k y).ok Φ) (Ψ := fun y => (k y).ok Ψ) (fun y hy => VC.mono (k y) h hy) (hk.2 e)⟩

theorem VC.ok_valq : ∀ {T : Type} (v : VC T) {P : T → Prop} {s : T}, v.ok P → v.valq = some s → P s
  | _, .ret o, P, s, h, e => by
    obtain ⟨x, hx, hp⟩ := h
    have e2 : o = some s := e
    rw [hx] at e2; cases e2; exact hp
  | _, .req _ _ k, P, s, h, e => VC.ok_valq k h.2 e
  | _, .both _ _ _, P, s, h, e => by cases e
  | _, .sel M b x y k, P, s, h, e => by
    simp only [VC.valq] at e
    split at e
    · rename_i s1 s2 h1 h2
      cases b with
      | true =>
        rw [M.h1] at e
        exact VC.ok_valq (k s1) (VC.ok_valq x (h.1 rfl) h1) e
      | false =>
        rw [M.h0] at e
        exact VC.ok_valq (k s2) (VC.ok_valq y (h.2 rfl) h2) e
    · cases e
  | _, .bind _ _, P, s, h, e => by cases e
  | _, .ite _ _ _, P, s, h, e => by cases e
  | _, .frN _, P, s, h, e => by cases e
  | _, .frA _, P, s, h, e => by cases e
  | _, .join _ _, P, s, h, e => by cases e
  | _, .cs _ _ _, P, s, h, e => by cases e
  | _, .grj _ _, P, s, h, e => by cases e
theorem VC.valq_ok : ∀ {T : Type} (v : VC T) {s : T}, v = v.rfx → v.valq = some s → v.ok (· = s)
  | _, .ret o, s, hr, e => ⟨s, e, rfl⟩
  | _, .req a b k, s, hr, e => by
    simp only [VC.rfx, VC.req.injEq, heq_eq_eq, true_and] at hr
    exact ⟨hr.1.symm, VC.valq_ok k hr.2 e⟩
  | _, .both _ _ _, s, h, e => by cases e
  | _, .sel M b x y k, s, hr, e => by
    simp only [VC.rfx, VC.sel.injEq, heq_eq_eq, true_and] at hr
    simp only [VC.valq] at e
    split at e
    · rename_i s1 s2 h1 h2
      refine ⟨fun hb => ?_, fun hb => ?_⟩
      · subst hb
        rw [M.h1] at e
        exact VC.mono x (fun t ht => by subst ht; exact VC.valq_ok (k _) (congrFun hr.2.2 _) e) (VC.valq_ok x hr.1 h1)
      · subst hb
        rw [M.h0] at e
        exact VC.mono y (fun t ht => by subst ht; exact VC.valq_ok (k _) (congrFun hr.2.2 _) e) (VC.valq_ok y hr.2.1 h2)
    · cases e
  | _, .bind _ _, s, h, e => by cases e
  | _, .ite _ _ _, s, h, e => by cases e
  | _, .frN _, s, h, e => by cases e
  | _, .frA _, s, h, e => by cases e
  | _, .join _ _, s, h, e => by cases e
  | _, .cs _ _ _, s, h, e => by cases e
  | _, .grj _ _, s, h, e => by cases e

/-- What is shown tells that the model says something. -/
theorem VC.okk : ∀ {T : Type} (v : VC T) {R : Type} (K : T → Nm → Option R) (Ψ : R → Prop), v.ok (fun y => ∀ s, ∃ x, K y s = some x ∧ Ψ x) → ∀ s, ∃ x, v.modk K s = some x ∧ Ψ x
  | _, .ret o, _, K, Ψ, h, s => by
    obtain ⟨x, rfl, hx⟩ := h
    exact hx s
  | _, .bind m k, _, K, Ψ, h, s => by
    obtain ⟨x, rfl, hx⟩ := h
    exact VC.okk (k x) K Ψ hx s
  | _, .ite c x y, _, K, Ψ, h, s => by
    cases c with
    | true => exact VC.okk x K Ψ (h.1 rfl) s
    | false => exact VC.okk y K Ψ (h.2 rfl) s
  | _, .frN k, _, K, Ψ, h, s => VC.okk (k _) K Ψ (h _) _
  | _, .frA k, _, K, Ψ, h, s => VC.okk (k _) K Ψ (h _) _
  | _, .req a b k, _, K, Ψ, h, s => VC.okk k K Ψ h.2 s
  | _, .join x k, _, K, Ψ, h, s => by
    obtain ⟨y, hy, h2⟩ := VC.okk x (fun y _ => some y) (fun y => (k y).ok fun z => ∀ s, ∃ x, K z s = some x ∧ Ψ x) (VC.mono x (fun y hy s => ⟨y, rfl, hy⟩) h) s.ev
    obtain ⟨z, hz, h3⟩ := VC.okk (k y) K Ψ h2 s.od
    exact ⟨z, by simp only [VC.modk, hy, Option.bind_some, hz], h3⟩
  | _, .cs z x y, _, K, Ψ, h, s => by
    cases z with
    | inl a => exact VC.okk (x a) K Ψ (h.1 a rfl) s
    | inr b => exact VC.okk (y b) K Ψ (h.2 b rfl) s
  | _, .both u v vm, _, K, Ψ, h, s => VC.okk u K Ψ h.1 s
  | _, .grj x k, _, K, Ψ, h, s => VC.okk x (fun y s' => (k y).modk K s') Ψ (VC.mono x (fun y hy s => VC.okk (k y) K Ψ hy s) h) s
  | _, .sel M b x y k, _, K, Ψ, h, s => by
    simp only [VC.modk]
    split
    · rename_i s1 s2 h1 h2
      cases b with
      | true =>
        rw [M.h1]
        exact VC.okk (k s1) K Ψ (VC.ok_valq x (h.1 rfl) h1) s
      | false =>
        rw [M.h0]
        exact VC.okk (k s2) K Ψ (VC.ok_valq y (h.2 rfl) h2) s
    · cases b with
      | true => exact VC.okk x (fun y s' => (k y).modk K s') Ψ (VC.mono x (fun y hy s => VC.okk (k y) K Ψ hy s) (h.1 rfl)) s
      | false => exact VC.okk y (fun y s' => (k y).modk K s') Ψ (VC.mono y (fun y hy s => VC.okk (k y) K Ψ hy s) (h.2 rfl)) s

theorem VC.goodk : ∀ {T : Type} (v : VC T) {R : Type} (K : T → Nm → Option R) (Ψ : R → Prop), v = v.rfx → (∀ s, ∃ x, v.modk K s = some x ∧ Ψ x) → v.ok (fun y => ∀ s, ∃ x, K y s = some x ∧ Ψ x)
  | _, .ret o, _, K, Ψ, _, h => by
    cases o with
    | none => obtain ⟨x, hx, _⟩ := h fun _ => (0, none); cases hx
    | some y => exact ⟨y, rfl, h⟩
  | _, .bind m k, _, K, Ψ, hr, h => by
    obtain ⟨y, hy, hΦ⟩ := h fun _ => (0, none)
    simp only [VC.modk] at hy
    obtain ⟨x, hx, -⟩ := Option.bind_eq_some_iff.1 hy
    refine ⟨x, hx, VC.goodk (k x) K Ψ ?_ fun s => ?_⟩
    · simp only [VC.rfx, VC.bind.injEq, heq_eq_eq, true_and] at hr
      exact congrFun hr x
    · obtain ⟨z, hz, hp⟩ := h s
      simp only [VC.modk, hx, Option.bind_some] at hz
      exact ⟨z, hz, hp⟩
  | _, .ite c x y, _, K, Ψ, hr, h => by
    simp only [VC.rfx, VC.ite.injEq, true_and] at hr
    refine ⟨fun hc => VC.goodk x K Ψ hr.1 fun s => ?_, fun hc => VC.goodk y K Ψ hr.2 fun s => ?_⟩
    · obtain ⟨z, hz, hp⟩ := h s
      simp only [VC.modk, hc, cond_true] at hz
      exact ⟨z, hz, hp⟩
    · obtain ⟨z, hz, hp⟩ := h s
      simp only [VC.modk, hc, cond_false] at hz
      exact ⟨z, hz, hp⟩
  | _, .frN k, _, K, Ψ, hr, h => fun r => by
    simp only [VC.rfx, VC.frN.injEq] at hr
    refine VC.goodk (k r) K Ψ (congrFun hr r) fun s => ?_
    exact h (Nm.cons (r, none) s)
  | _, .frA k, _, K, Ψ, hr, h => fun r => by
    simp only [VC.rfx, VC.frA.injEq] at hr
    refine VC.goodk (k r) K Ψ (congrFun hr r) fun s => ?_
    exact h (Nm.cons (0, r) s)
  | _, .req a b k, _, K, Ψ, hr, h => by
    simp only [VC.rfx, VC.req.injEq, heq_eq_eq, true_and] at hr
    exact ⟨hr.1.symm, VC.goodk k K Ψ hr.2 fun s => by simpa only [VC.modk] using h s⟩
  | _, .join x k, _, K, Ψ, hr, h => by
    simp only [VC.rfx, VC.join.injEq, heq_eq_eq, true_and] at hr
    show x.ok fun y => (k y).ok fun y => ∀ s, ∃ x, K y s = some x ∧ Ψ x
    refine VC.mono x (fun y hy => ?_) (VC.goodk x (fun y _ => some y) (fun y => (k y).ok fun y => ∀ s, ∃ x, K y s = some x ∧ Ψ x) hr.1 fun s => ?_)
    · obtain ⟨z, hz, h2⟩ := hy fun _ => (0, none)
      cases hz; exact h2
    · obtain ⟨z, hz, -⟩ := h (Nm.mix s fun _ => (0, none))
      simp only [VC.modk, Nm.mix_ev, Nm.mix_od] at hz
      obtain ⟨y, hy, -⟩ := Option.bind_eq_some_iff.1 hz
      refine ⟨y, hy, VC.goodk (k y) K Ψ (congrFun hr.2 y) fun t => ?_⟩
      obtain ⟨z2, hz2, hp⟩ := h (Nm.mix s t)
      simp only [VC.modk, Nm.mix_ev, Nm.mix_od, hy, Option.bind_some] at hz2
      exact ⟨z2, hz2, hp⟩
  | _, .cs z x y, _, K, Ψ, hr, h => by
    simp only [VC.rfx, VC.cs.injEq, heq_eq_eq, true_and] at hr
    refine ⟨fun a ha => VC.goodk (x a) K Ψ (congrFun hr.1 a) fun s => ?_, fun b hb => VC.goodk (y b) K Ψ (congrFun hr.2 b) fun s => ?_⟩
    · obtain ⟨u, hu, hp⟩ := h s
      simp only [VC.modk, ha] at hu
      exact ⟨u, hu, hp⟩
    · obtain ⟨u, hu, hp⟩ := h s
      simp only [VC.modk, hb] at hu
      exact ⟨u, hu, hp⟩
  | _, .both u v vm, _, K, Ψ, hr, h => by
    simp only [VC.rfx, VC.both.injEq, heq_eq_eq, true_and] at hr
    have hu := VC.goodk u K Ψ hr.1 h
    refine ⟨hu, fun e => ?_⟩
    have h2 := VC.goodk v (fun y _ => some y) (fun y => ∀ s, ∃ x, K y s = some x ∧ Ψ x) hr.2.1 fun s => by
      have e2 : v.mod = u.mod := e.symm.trans hr.2.2
      have e3 : v.modk (fun y _ => some y) s = u.modk (fun y _ => some y) s := by rw [VC.mod_eq, VC.mod_eq]; exact congrFun e2 s
      rw [e3]
      exact VC.okk u (fun y _ => some y) _ (VC.mono u (fun y hy s => ⟨y, rfl, hy⟩) hu) s
    refine VC.mono v (fun y hy => ?_) h2
    obtain ⟨z, hz, h3⟩ := hy fun _ => (0, none)
    cases hz; exact h3
  | _, .grj x k, _, K, Ψ, hr, h => by
    simp only [VC.rfx, VC.grj.injEq, heq_eq_eq, true_and] at hr
    exact VC.mono x (fun y hy => VC.goodk (k y) K Ψ (congrFun hr.2 y) hy) (VC.goodk x (fun y s' => (k y).modk K s') Ψ hr.1 h)
  | _, .sel M b x y k, _, K, Ψ, hr, h => by
    simp only [VC.rfx, VC.sel.injEq, heq_eq_eq, true_and] at hr
    simp only [VC.modk] at h
    split at h
    · rename_i s1 s2 h1 h2
      refine ⟨fun hb => ?_, fun hb => ?_⟩
      · subst hb
        rw [M.h1] at h
        exact VC.mono x (fun t ht => by subst ht; exact VC.goodk (k _) K Ψ (congrFun hr.2.2 _) h) (VC.valq_ok x hr.1 h1)
      · subst hb
        rw [M.h0] at h
        exact VC.mono y (fun t ht => by subst ht; exact VC.goodk (k _) K Ψ (congrFun hr.2.2 _) h) (VC.valq_ok y hr.2.1 h2)
    · refine ⟨fun hb => ?_, fun hb => ?_⟩
      · subst hb
        exact VC.mono x (fun y hy => VC.goodk (k y) K Ψ (congrFun hr.2.2 y) hy) (VC.goodk x (fun y s' => (k y).modk K s') Ψ hr.1 h)
      · subst hb
        exact VC.mono y (fun y hy => VC.goodk (k y) K Ψ (congrFun hr.2.2 y) hy) (VC.goodk y (fun y s' => (k y).modk K s') Ψ hr.2.1 h)
theorem VC.good {R : Type} (v : VC R) (Φ : R → Prop) (hr : v = v.rfx) (h : ∀ s, ∃ x, v.mod s = some x ∧ Φ x) : v.ok Φ :=
  VC.mono v (fun y hy => by obtain ⟨z, hz, h3⟩ := hy fun _ => (0, none); cases hz; exact h3) (VC.goodk v (fun y _ => some y) Φ hr fun s => by rw [VC.mod_eq]; exact h s)

/-! What is known, as data. -/
structure ElD : Type 1 where
  α : Type
  enc : α → List Value
  sz : Nat
  ok : EncOk enc sz
  dec : List Value → Option α
structure MpD : Type 1 where
  K : Type
  V : Type
  ek : K → Value
  ev : V → Value
  dk : Value → Option K
  dv : Value → Option V
  eq : K → K → Bool
structure Ev : Type 1 where
  el : Nat → ElD
  mp : Nat → MpD

inductive Atom (E : Ev) : Type
  | blk (b : Nat) (T : TypeId) (cs : List Value)
  | sl (c : Nat) (T : TypeId) (sb : Option Addr) (sc : Nat) (l : List (E.el c).α)
  | mp (c : Nat) (r : Nat) (m : List ((E.mp c).K × (E.mp c).V))

def Atom.den {E : Ev} : Atom E → HP
  | .blk b T cs => Blk b T cs
  | .sl c T sb sc l => Sl T (E.el c).enc (E.el c).sz sb sc l
  | .mp c r m => MpA r (E.mp c).ek (E.mp c).ev m

structure RdV (E : Ev) : Type where
  c : Nat
  sb : Option Addr
  sc : Nat
  l : List (E.el c).α
def RdV.holds {E : Ev} (F : List HP) (r : RdV E) : Prop := ∃ X ∈ F, SlRd X (E.el r.c).enc (E.el r.c).sz r.sb r.l ∧ ∀ h, X h → r.l.length ≤ r.sc

structure EfV (E : Ev) : Type where
  rdr : Bool
  c : Nat
  sb : Option Addr
  l : List (E.el c).α
  i : Int
  x : (E.el c).α
  b : Nat
  o : Nat
def EfV.holds {E : Ev} (F : List HP) (e : EfV E) : Prop :=
  e.sb = some ⟨e.b, e.o, none⟩ ∧ mIdx e.l e.i = some e.x ∧ (e.rdr = true → ∃ X ∈ F, SlRd X (E.el e.c).enc (E.el e.c).sz e.sb e.l)

/-- A part of a slice: of l at sb, sc from lo to hi: r at sb', sc'. -/
structure VwV (E : Ev) : Type where
  c : Nat
  sb : Option Addr
  sc : Nat
  l : List (E.el c).α
  lo : Option Int
  hi : Option Int
  sb' : Option Addr
  sc' : Nat
  r : List (E.el c).α
def loN : Option Int → Nat
  | none => 0
  | some i => i.toNat
def loI : Option Int → Int
  | none => 0
  | some i => i
def hiN (n : Nat) : Option Int → Nat
  | none => n
  | some i => i.toNat
def hiI (n : Nat) : Option Int → Int
  | none => (n : Int)
  | some i => i
def bndO (h : Nat) : Option Int → List Ob
  | none => []
  | some i => [.p (0 ≤ i ∧ i ≤ (h : Int))]
def VwV.holds {E : Ev} (v : VwV E) : Prop :=
  mCut v.l (loI v.lo) (hiI v.l.length v.hi) = some v.r ∧ rebase v.sb v.sc (loI v.lo).toNat (E.el v.c).sz = v.sb' ∧ v.sc - (loI v.lo).toNat = v.sc' ∧ v.l.length ≤ v.sc
inductive Mi (E : Ev) : Type
  | cut (v : VwV E)
  | opt (o : Option Int)
def Mi.holds {E : Ev} : Mi E → Prop
  | .cut v => v.holds
  | .opt _ => True

structure Kn (E : Ev) : Type where
  L : Env
  As : List (Nat × Atom E)
  rd : List (Nat × RdV E)
  ef : List (Nat × EfV E)
  pr : List (Nat × Prop)
  vw : List (Nat × Mi E)

def getK {α : Type} (k : Nat) : List (Nat × α) → Option α
  | [] => none
  | (j, x) :: r => match Nat.beq k j with
    | true => some x
    | false => getK k r
def pick1 {α : Type} (k : Nat) : List (Nat × α) → Option (α × List (Nat × α))
  | [] => none
  | (j, x) :: r => match Nat.beq k j with
    | true => some (x, r)
    | false => match pick1 k r with
      | some (y, r') => some (y, (j, x) :: r')
      | none => none
def picks {α : Type} : List Nat → List (Nat × α) → Option (List α × List (Nat × α))
  | [], L => some ([], L)
  | k :: ks, L => match pick1 k L with
    | none => none
    | some (x, L') => match picks ks L' with
      | none => none
      | some (xs, r) => some (x :: xs, r)
theorem getK_mem {α : Type} {k : Nat} {x : α} : ∀ {L : List (Nat × α)}, getK k L = some x → ∃ j, (j, x) ∈ L
  | [], h => by cases h
  | (j, y) :: r, h => by
    simp only [getK] at h
    split at h
    · cases h; exact ⟨j, by simp⟩
    · obtain ⟨i, hi⟩ := getK_mem h; exact ⟨i, by simp [hi]⟩
theorem pick1_perm {α : Type} {k : Nat} {x : α} : ∀ {L r : List (Nat × α)}, pick1 k L = some (x, r) → (L.map (·.2)).Perm (x :: r.map (·.2))
  | [], r, h => by cases h
  | (j, y) :: L, r, h => by
    simp only [pick1] at h
    split at h
    · cases h; exact List.Perm.refl _
    · split at h
      · rename_i z r' hp
        cases h
        have ih := pick1_perm hp
        simp only [List.map_cons]
        exact (ih.cons y).trans (List.Perm.swap _ _ _)
      · cases h
theorem picks_perm {α : Type} : ∀ {ks : List Nat} {L r : List (Nat × α)} {xs : List α}, picks ks L = some (xs, r) → (L.map (·.2)).Perm (xs ++ r.map (·.2))
  | [], L, r, xs, h => by simp [picks] at h; obtain ⟨rfl, rfl⟩ := h; exact List.Perm.refl _
  | k :: ks, L, r, xs, h => by
    simp only [picks] at h
    split at h
    · cases h
    · rename_i x L' h1
      split at h
      · cases h
      · rename_i xs' r' h2
        cases h
        exact (pick1_perm h1).trans ((picks_perm h2).cons x)

section
variable {E : Ev}
def dens (As : List (Nat × Atom E)) : List HP := (As.map (·.2)).map Atom.den
structure Facts (F : List HP) (st : Kn E) : Prop where
  rd : ∀ p ∈ st.rd, p.2.holds F
  ef : ∀ p ∈ st.ef, p.2.holds F
  pr : ∀ p ∈ st.pr, p.2
  vw : ∀ p ∈ st.vw, p.2.holds
structure KnOk (n : Nat) (w0 : World) (F : List HP) (st : Kn E) (a : Act) (w : World) : Prop where
  env : EnvOk n a st.L
  hp : St w0 (dens st.As ++ F) w
  fs : Facts F st

theorem dens_picks {ks : List Nat} {As r : List (Nat × Atom E)} {xs : List (Atom E)} (h : picks ks As = some (xs, r)) : (dens As).Perm (xs.map Atom.den ++ dens r) := by
  have := (picks_perm h).map Atom.den
  simpa [dens] using this
theorem dens_pick1 {k : Nat} {As r : List (Nat × Atom E)} {x : Atom E} (h : pick1 k As = some (x, r)) : (dens As).Perm (x.den :: dens r) := by
  have := (pick1_perm h).map Atom.den
  simpa [dens] using this
theorem dens_get {k : Nat} {As : List (Nat × Atom E)} {x : Atom E} (h : getK k As = some x) : x.den ∈ dens As := by
  obtain ⟨j, hj⟩ := getK_mem h
  simp only [dens, List.mem_map]
  exact ⟨x, ⟨(j, x), hj, rfl⟩, rfl⟩
theorem St.mem {w0 w : World} {As : List HP} {A : HP} (H : St w0 As w) (h : A ∈ As) : ∃ i : Nat, As[i]? = some A := List.mem_iff_getElem?.1 h

/-! What a reading is told, and by whom. -/
inductive Src
  | C (q off : Nat)
  | A (e : Nat)
  | X (e q j : Nat)
  | R (e j : Nat)
  | Q (j : Nat)
  | W (j : Nat)
  | P (e q j : Nat)
abbrev SrcR (E : Ev) := List Value × List Ob × List (Atom E × Atom E)
def Src.get (st : Kn E) : Src → Option (SrcR E)
  | .C q off => match getK q st.As with
    | some (.blk b T cs) => match cs[off]? with
      | some v => some ([v], [.cell ⟨b, off, none⟩ v], [])
      | none => none
    | _ => none
  | .A e => match getK e st.ef with
    | some f => some ([.pointer (some ⟨f.b, f.o, none⟩)], [.p (f.sb = some ⟨f.b, f.o, none⟩), .p (0 ≤ f.i ∧ f.i < ((f.l.length : Nat) : Int))], [])
    | none => none
  | .X e q j => match getK e st.ef, getK q st.As with
    | some f, some (.sl c' T sb sc l) => match ((E.el f.c).enc f.x)[j]? with
      | some v => some ([v], [.cell ⟨f.b, f.o + f.i.toNat * (E.el f.c).sz + j, none⟩ v], [(.sl c' T sb sc l, .sl f.c T f.sb sc f.l)])
      | none => none
    | _, _ => none
  | .R e j => match getK e st.ef with
    | some f => match f.rdr, ((E.el f.c).enc f.x)[j]? with
      | true, some v => some ([v], [.cell ⟨f.b, f.o + f.i.toNat * (E.el f.c).sz + j, none⟩ v], [])
      | _, _ => none
    | none => none
  | .Q j => match getK j st.pr with
    | some p => some ([], [.p p], [])
    | none => none
  | .P e q j => match getK e st.ef, getK q st.As with
    | some f, some (.blk b T cs) => match ((E.el f.c).enc f.x)[j]?, Nat.ble f.o cs.length with
      | some v, true => some ([v], [.cell ⟨f.b, f.o + f.i.toNat * (E.el f.c).sz + j, none⟩ v], [(.blk b T cs, .blk f.b T (cs.take f.o ++ (f.l.flatMap (E.el f.c).enc ++ cs.drop (f.o + f.l.length * (E.el f.c).sz))))])
      | _, _ => none
    | _, _ => none
  | .W j => match getK j st.vw with
    | some (.cut v) => some ([.slice v.sb' v.r.length v.sc'], .p (rebase v.sb v.sc (loN v.lo) (E.el v.c).sz = v.sb') :: .p (hiN v.l.length v.hi - loN v.lo = v.r.length) :: .p (v.sc - loN v.lo = v.sc') :: (bndO v.sc v.hi ++ bndO (hiN v.l.length v.hi) v.lo), [])
    | _ => none
def srcs (st : Kn E) : List Src → Option (SrcR E)
  | [] => some ([], [], [])
  | s :: r => match s.get st, srcs st r with
    | some (a, b, c), some (x, y, z) => some (a ++ x, b ++ y, c ++ z)
    | _, _ => none
theorem idx_len {α : Type} {l : List α} {i : Int} {x : α} (h : mIdx l i = some x) : 0 ≤ i ∧ i < ((l.length : Nat) : Int) := by
  unfold mIdx at h
  split at h
  · rename_i h0
    have := (List.getElem?_eq_some_iff.1 h).1
    omega
  · cases h
theorem loI_N (o : Option Int) : (loI o).toNat = loN o := by cases o <;> rfl
theorem hiI_N (n : Nat) (o : Option Int) : (hiI n o).toNat = hiN n o := by cases o <;> simp [hiI, hiN]
theorem VwV.obs {v : VwV E} (h : v.holds) (w : World) : AllOb w (.p (rebase v.sb v.sc (loN v.lo) (E.el v.c).sz = v.sb') :: .p (hiN v.l.length v.hi - loN v.lo = v.r.length) :: .p (v.sc - loN v.lo = v.sc') :: (bndO v.sc v.hi ++ bndO (hiN v.l.length v.hi) v.lo)) := by
  obtain ⟨h1, h2, h3, h4⟩ := h
  refine ⟨by rw [← loI_N]; exact h2, ?_, by show v.sc - loN v.lo = v.sc'; rw [← loI_N]; exact h3, ?_⟩
  · show hiN _ _ - loN _ = _
    rw [← loI_N, ← hiI_N]; exact cut_len h1
  · rw [allOb_append]
    constructor
    · cases hh : v.hi with
      | none => trivial
      | some i => rw [hh] at h1; exact ⟨cut_cap h1 h4, trivial⟩
    · cases hl : v.lo with
      | none => trivial
      | some i =>
        rw [hl] at h1
        refine ⟨?_, trivial⟩
        have := cut_bd h1
        rw [hiI_N] at this
        exact this
theorem Src.sound {n : Nat} {w0 w : World} {F : List HP} {st : Kn E} {a : Act} (hI : KnOk n w0 F st a w) {s : Src} {orc : List Value} {obs : List Ob} {eqs : List (Atom E × Atom E)} (h : s.get st = some (orc, obs, eqs))
    (he : ∀ p ∈ eqs, p.1 = p.2) : AllOb w obs := by
  cases s with
  | C q off =>
    simp only [Src.get] at h
    split at h
    · rename_i b T cs hq
      split at h
      · rename_i v hv
        cases h
        obtain ⟨i, hi⟩ := hI.hp.mem (List.mem_append_left F (dens_get hq))
        exact ⟨hI.hp.cell i hi hv, trivial⟩
      · cases h
    · cases h
  | A e =>
    simp only [Src.get] at h
    split at h
    · rename_i f hf
      cases h
      obtain ⟨j, hj⟩ := getK_mem hf
      obtain ⟨h1, h2, _⟩ := hI.fs.ef _ hj
      exact ⟨h1, idx_len h2, trivial⟩
    · cases h
  | X e q j =>
    simp only [Src.get] at h
    split at h
    · rename_i f c T sb sc l hf hq
      split at h
      · rename_i v hv
        cases h
        obtain ⟨j', hj⟩ := getK_mem hf
        obtain ⟨h1, h2, _⟩ := hI.fs.ef _ hj
        have e1 := he _ (List.mem_singleton.2 rfl)
        simp only at e1
        have hm := dens_get hq
        rw [e1] at hm
        obtain ⟨i, hi⟩ := hI.hp.mem (List.mem_append_left F hm)
        exact ⟨SlRd.cells (sl_rd T (E.el f.c).enc (E.el f.c).sz f.sb sc f.l) (E.el f.c).ok hI.hp i hi h1 h2 j v hv, trivial⟩
      · cases h
    · cases h
  | R e j =>
    simp only [Src.get] at h
    split at h
    · rename_i f hf
      split at h
      · rename_i v hr hv
        cases h
        obtain ⟨j', hj⟩ := getK_mem hf
        obtain ⟨h1, h2, h3⟩ := hI.fs.ef _ hj
        obtain ⟨X, hX, h4⟩ := h3 hr
        obtain ⟨i, hi⟩ := hI.hp.mem (List.mem_append_right _ hX)
        exact ⟨h4.cells (E.el f.c).ok hI.hp i hi h1 h2 j v hv, trivial⟩
      · cases h
    · cases h
  | Q j =>
    simp only [Src.get] at h
    split at h
    · rename_i p hp
      cases h
      obtain ⟨j', hj⟩ := getK_mem hp
      exact ⟨hI.fs.pr _ hj, trivial⟩
    · cases h
  | P e q j =>
    simp only [Src.get] at h
    split at h
    · rename_i f b T cs hf hq
      split at h
      · rename_i v hv hle
        cases h
        obtain ⟨j', hj⟩ := getK_mem hf
        obtain ⟨h1, h2, _⟩ := hI.fs.ef _ hj
        have e1 := he _ (List.mem_singleton.2 rfl)
        simp only at e1
        have hm := dens_get hq
        rw [e1] at hm
        obtain ⟨i, hi⟩ := hI.hp.mem (List.mem_append_left F hm)
        refine ⟨hI.hp.cell i hi ?_, trivial⟩
        have hjs : j < (E.el f.c).sz := by
          have := (List.getElem?_eq_some_iff.1 hv).1
          rwa [(E.el f.c).ok.len] at this
        have hlen : (cs.take f.o).length = f.o := by rw [List.length_take]; exact Nat.min_eq_left (Nat.le_of_ble_eq_true hle)
        have hil : 0 ≤ f.i ∧ f.i < ((f.l.length : Nat) : Int) := idx_len h2
        have hix : f.l[f.i.toNat]? = some f.x := idx_at h2
        have hlt0 : f.i.toNat < f.l.length := by omega
        rw [List.getElem?_append_right (by rw [hlen]; omega), hlen]
        have hk : f.o + f.i.toNat * (E.el f.c).sz + j - f.o = f.i.toNat * (E.el f.c).sz + j := by omega
        rw [hk]
        have hfl := flat_length (E.el f.c).ok f.l
        have h3 : f.i.toNat + 1 ≤ f.l.length := hlt0
        have h4 := Nat.mul_le_mul_right (E.el f.c).sz h3
        rw [Nat.succ_mul] at h4
        rw [List.getElem?_append_left (by rw [hfl]; omega), flat_get (E.el f.c).ok f.l _ _ hlt0 hjs]
        rw [List.getElem?_eq_getElem hlt0] at hix
        rw [Option.some.inj hix]
        exact hv
      · cases h
    · cases h
  | W j =>
    simp only [Src.get] at h
    split at h
    · rename_i v hv
      cases h
      obtain ⟨j', hj⟩ := getK_mem hv
      exact VwV.obs (hI.fs.vw _ hj) w
    · cases h
theorem srcs_sound {n : Nat} {w0 w : World} {F : List HP} {st : Kn E} {a : Act} (hI : KnOk n w0 F st a w) : ∀ {l : List Src} {orc : List Value} {obs : List Ob} {eqs : List (Atom E × Atom E)}, srcs st l = some (orc, obs, eqs) →
    (∀ p ∈ eqs, p.1 = p.2) → AllOb w obs
  | [], orc, obs, eqs, h, _ => by simp [srcs] at h; obtain ⟨_, rfl, _⟩ := h; trivial
  | s :: r, orc, obs, eqs, h, he => by
    simp only [srcs] at h
    split at h
    · rename_i a' b' c' x y z h1 h2
      cases h
      rw [allOb_append]
      exact ⟨Src.sound hI h1 fun p hp => he p (List.mem_append_left _ hp), srcs_sound hI h2 fun p hp => he p (List.mem_append_right _ hp)⟩
    · cases h
theorem eqs_of {l : List (Atom E × Atom E)} (h : l.map (·.1) = l.map (·.2)) : ∀ p ∈ l, p.1 = p.2 := by
  induction l with
  | nil => simp
  | cons x l ih =>
    simp only [List.map_cons, List.cons.injEq] at h
    intro p hp
    cases hp with
    | head => exact h.1
    | tail _ hm => exact ih h.2 p hm

/-! Contracts as data. -/
structure Con (E : Ev) : Type 1 where
  fid : Nat
  I : Type
  T : Type
  rd : List Value → List (Atom E) → Option I
  args : I → List Value
  ats : I → List (Atom E)
  rds : I → List (RdV E)
  model : I → Option T
  nN : Nat
  nA : Nat
  val : I → T → List Nat → List (Option Addr) → Value
  post : I → T → List Nat → List (Option Addr) → List (Atom E)
  opt : I → T → Option (Option Int)
  fx : I → T → List Prop
  br : Bool
  M : Type
  om : I → T → Option M
  nf : Nat
  val1 : I → T → M → List Nat → List (Option Addr) → Value
  post1 : I → T → M → List Nat → List (Option Addr) → List (Atom E)
/-- What is told, and left, where a result may be nil. -/
def Con.valA (C : Con E) (i : C.I) (t : C.T) (ns : List Nat) (as : List (Option Addr)) : Value := match C.br with
  | false => C.val i t ns as
  | true => match C.om i t with
    | none => C.val i t ns as
    | some m => C.val1 i t m ns as
def Con.postA (C : Con E) (i : C.I) (t : C.T) (ns : List Nat) (as : List (Option Addr)) : List (Atom E) := match C.br with
  | false => C.post i t ns as
  | true => match C.om i t with
    | none => C.post i t ns as
    | some m => C.post1 i t m ns as
def Con.keysA (C : Con E) (i : C.I) (t : C.T) (keys : List Nat) : List Nat := match C.br with
  | false => keys
  | true => match C.om i t with
    | none => keys.drop C.nf
    | some _ => keys
def Con.Sound (C : Con E) (P : Program) : Prop := ∀ (i : C.I) (t : C.T), C.model i = some t → ∀ (w0 w : World) (F : List HP), (∀ r ∈ C.rds i, r.holds F) → St w0 ((C.ats i).map Atom.den ++ F) w →
  CallsR P C.fid (C.args i).toArray w fun v w' => ∃ ns as, ns.length = C.nN ∧ as.length = C.nA ∧ v = C.valA i t ns as ∧ St w0 ((C.postA i t ns as).map Atom.den ++ F) w' ∧ ∀ p ∈ C.fx i t, p
structure SCon (E : Ev) (P : Program) : Type 1 where
  C : Con E
  snd : C.Sound P
  ent : ∀ args w, (callFunc C.fid args).run P w = .ok (.enter C.fid args) w

def frNs {R : Type} : Nat → (List Nat → VC R) → VC R
  | 0, k => k []
  | n + 1, k => .frN fun r => frNs n fun l => k (r :: l)
def frAs {R : Type} : Nat → (List (Option Addr) → VC R) → VC R
  | 0, k => k []
  | n + 1, k => .frA fun r => frAs n fun l => k (r :: l)
theorem frNs_ok {R : Type} {Φ : R → Prop} : ∀ (l : List Nat) (k : List Nat → VC R), (frNs l.length k).ok Φ → (k l).ok Φ
  | [], k, h => h
  | r :: l, k, h => frNs_ok l (fun l => k (r :: l)) (h r)
theorem frAs_ok {R : Type} {Φ : R → Prop} : ∀ (l : List (Option Addr)) (k : List (Option Addr) → VC R), (frAs l.length k).ok Φ → (k l).ok Φ
  | [], k, h => h
  | r :: l, k, h => frAs_ok l (fun l => k (r :: l)) (h r)
def VC.fail {R : Type} : VC R := .ret none
theorem VC.fail_ok {R : Type} {Φ : R → Prop} (h : (VC.fail : VC R).ok Φ) : False := by
  obtain ⟨x, hx, _⟩ := h
  cases hx
end
end Go.Th
