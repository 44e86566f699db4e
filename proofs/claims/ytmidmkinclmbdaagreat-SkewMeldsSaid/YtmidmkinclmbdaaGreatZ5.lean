/-
  The plain law of rows of trees, part 3: the shape of (skew) binomial trees; Carry.
-/
import Derived.Test.YtmidmkinclmbdaaGreatZ4
set_option linter.unusedVariables false
set_option linter.unusedSimpArgs false
set_option maxRecDepth 10000
namespace Go.Proofs.YtmidmkinclmbdaaGreat
open Go.Th

/-- the children of a node of a rank (b: with leaves between) -/
inductive SK (b : Bool) : F → Nat → Prop
  | nil : SK b .nil 0
  | real {c r : Nat} {kids rest : F} : SK b kids r → SK b rest r → SK b (.cons c r kids rest) (r + 1)
  | leaf {d c r : Nat} {kids rest : F} : b = true → SK b kids r → SK b rest r → SK b (.cons d 0 .nil (.cons c r kids rest)) (r + 1)
theorem SK.size {b : Bool} {f : F} {r : Nat} (h : SK b f r) : 2 ^ r ≤ f.size + 1 ∧ f.size + 1 < 2 ^ (r + 1) ∧ (b = false → f.size + 1 = 2 ^ r) := by
  induction h with
  | nil => simp [F.size]
  | real h1 h2 i1 i2 =>
    simp only [F.size, Nat.pow_succ] at *
    refine ⟨by omega, by omega, fun e => ?_⟩
    have e1 := i1.2.2 e
    have e2 := i2.2.2 e
    omega
  | leaf hb h1 h2 i1 i2 =>
    simp only [F.size, Nat.pow_succ] at *
    refine ⟨by omega, by omega, fun e => ?_⟩
    rw [e] at hb; cases hb
/-- no node is before the one above it -/
def Ord (it : Nat → It) (N : List Nd) : Prop := ∀ ν ∈ N, ∀ q : Nat, ν.up = (q : Int) → ¬ (it ν.c).lt (it q)
theorem Ord.append {it : Nat → It} {M N : List Nd} (h : Ord it M) (h' : Ord it N) : Ord it (M ++ N) := fun ν hν => by
  rcases List.mem_append.1 hν with h1 | h1
  · exact h ν h1
  · exact h' ν h1
theorem Ord.sub {it : Nat → It} {M N : List Nd} (h : Ord it N) (hs : ∀ ν ∈ M, ν ∈ N) : Ord it M := fun ν hν => h ν (hs ν hν)
structure GT (b : Bool) (it : Nat → It) (t : Tr) : Prop where
  sk : SK b t.kids t.r
  ord : Ord it (nd t.kids t.c)
theorem GT.under {b : Bool} {it : Nat → It} {t l : Tr} (ht : GT b it t) (hl : GT b it l) (hr : l.r = t.r) (ho : ¬ (it l.c).lt (it t.c)) : GT b it (t.under l) where
  sk := by
    show SK b (.cons l.c l.r l.kids t.kids) (t.r + 1)
    rw [hr]
    exact .real (hr ▸ hl.sk) ht.sk
  ord := by
    show Ord it (⟨l.c, t.c, l.kids.hd, -1, t.kids.hd, l.r, 0⟩ :: (nd l.kids l.c ++ nd t.kids t.c))
    intro ν hν q hq
    rcases List.mem_cons.1 hν with rfl | hν
    · simp only at hq ⊢
      have : q = t.c := by omega
      rw [this]; exact ho
    · exact (hl.ord.append ht.ord) ν hν q hq
theorem lk_spec {b : Bool} {it : Nat → It} {s t : Tr} (hs : GT b it s) (ht : GT b it t) (hr : s.r = t.r) : GT b it (lk it s t) ∧ (lk it s t).r = s.r + 1 ∧ (lk it s t).cells.Perm (s.cells ++ t.cells) := by
  unfold lk
  split
  · rename_i h
    refine ⟨ht.under hs hr (It.lt_asymm h), by simp [Tr.under, hr], ?_⟩
    simp only [Tr.cells, Tr.under, F.cells, List.cons_append]
    exact (List.Perm.swap ..).trans (List.Perm.cons _ (List.perm_middle.symm))
  · rename_i h
    refine ⟨hs.under ht hr.symm h, rfl, ?_⟩
    simp only [Tr.cells, Tr.under, F.cells, List.cons_append]
    refine List.Perm.cons _ ?_
    exact List.perm_append_comm (l₁ := t.c :: t.kids.cells) (l₂ := s.kids.cells)
theorem lift_perm {α β : Type} {f : α → β} {l r : List β} (h : r.Perm l) : ∀ ls : List α, ls.map f = l → ∃ ws : List α, ws.Perm ls ∧ ws.map f = r := by
  induction h with
  | nil => intro ls e; exact ⟨ls, .refl _, e⟩
  | cons x h ih =>
    intro ls e
    cases ls with
    | nil => simp at e
    | cons y ls =>
      simp only [List.map_cons, List.cons.injEq] at e
      obtain ⟨ws, h1, h2⟩ := ih ls e.2
      exact ⟨y :: ws, h1.cons y, by simp [h2, e.1]⟩
  | swap x y l =>
    intro ls e
    cases ls with
    | nil => simp at e
    | cons u ls =>
      cases ls with
      | nil => simp at e
      | cons v ls =>
        simp only [List.map_cons, List.cons.injEq] at e
        exact ⟨v :: u :: ls, List.Perm.swap .., by simp [e]⟩
  | trans h1 h2 i1 i2 =>
    intro ls e
    obtain ⟨ws, h3, h4⟩ := i2 ls e
    obtain ⟨vs, h5, h6⟩ := i1 ws h4
    exact ⟨vs, h5.trans h3, h6⟩

theorem mCut_tail {α : Type} {l : List α} {i : Nat} (h : i ≤ l.length) : mCut l (i : Int) (l.length : Int) = some (l.drop i) := by
  unfold mCut
  rw [if_pos ⟨by omega, by omega, by omega⟩]
  simp
def rk (l : Lt) : trees_ranked := trees_ranked.mk (l.t.c : Int) (l.t.r : Int)
section
variable {κ : Cfg} {it : Nat → It} {N : List Nd} {L : Heap} {b : Bool}
theorem rank_lt {n : Nat} {a : arena_Arena} {ls : List Lt} (H : Hp κ n a it (LN ls ++ N) L) (hg : ∀ l ∈ ls, GT b it l.t) : ∀ l ∈ ls, l.t.r < 17 := by
  intro l hl
  have h1 := (hg l hl).sk.size.1
  have h2 := H.room
  have h3 := H.cap
  have h4 : l.nd.length ≤ (LN ls).length := by
    obtain ⟨p, q, rfl⟩ := List.append_of_mem hl
    rw [LN_append, LN_cons]
    simp only [List.length_append]; omega
  rw [Lnd_eq, List.length_cons, nd_size] at h4
  rw [List.length_append] at h2
  have h5 : 2 ^ l.t.r < 2 ^ 17 := by
    have : (2 : Nat) ^ 17 = 131072 := by decide
    omega
  exact (Nat.pow_lt_pow_iff_right (by decide)).1 h5

theorem carry_l0 (all : List Lt) (hN : ∀ l ∈ all, l.top ∈ N) (hl : all.length < 100000) : ∀ (post pre : List Lt) {n : Nat} {a : arena_Arena} (H : Hp κ n a it N L) (m : Nat), post.length < m → all = pre ++ post →
    Do (trees_Carry_l0 (all.length : Int) (lc all) m (pre.map rk) (pre.length : Int) a) fun r => ∃ a', r = (all.map rk, a') ∧ Hp κ (n + post.length) a' it N L
  | [], pre, n, a, H, m, hm, e => by
    obtain ⟨m, rfl⟩ : ∃ q, m = q + 1 := ⟨m - 1, by simp at hm; omega⟩
    rw [trees_Carry_l0]
    refine Do.f (decide_eq_false (by rw [e]; simp)) ?_
    exact ⟨_, rfl, a, by rw [e]; simp, H⟩
  | l :: post, pre, n, a, H, m, hm, e => by
    obtain ⟨m, rfl⟩ : ∃ q, m = q + 1 := ⟨m - 1, by simp at hm; omega⟩
    simp only [List.length_cons] at hm
    have hlen : pre.length < 100000 := by have := congrArg List.length e; simp at this; omega
    have ei : mIdx (lc all) (pre.length : Int) = some (l.t.c : Int) := by
      rw [e, lc_append, lc_cons]
      have := mIdx_mid (lc pre) (lc post) (l.t.c : Int)
      rwa [lc_length] at this
    rw [trees_Carry_l0]
    refine Do.t (decide_eq_true (by rw [e]; simp; omega)) ?_
    refine Do.seq ei ?_
    refine (H.get (hN l (by rw [e]; simp)) (f := 4) (v := (l.t.r : Int))).bind ?_
    rintro _ ⟨a1, rfl, H1⟩
    refine Do.seq (mApp_ok (by simp; omega)) ?_
    rw [w64_id (by omega) (by omega)]
    have := carry_l0 all hN hl post (pre ++ [l]) H1 m (by omega) (by rw [e]; simp)
    have e2 : ((pre ++ [l]).length : Int) = (pre.length : Int) + 1 := by simp
    rw [e2, List.map_append] at this
    refine this.mono ?_
    rintro _ ⟨a2, rfl, H2⟩
    exact ⟨a2, rfl, H2.mono (by simp only [List.length_cons]; omega)⟩

theorem carry_l2 (v v1 : Int) (l8 l9 : List Int) (a : arena_Arena) : ∀ (post pre : List Lt) (m : Nat), post.length < m → (pre ++ post).length < 100000 → (∀ l ∈ pre, (l.t.r : Int) < v1) →
    Do (trees_Carry_l2 ((pre ++ post).map rk) v v1 l8 a l9 m (pre.length : Int)) fun r => ∃ p q, pre ++ post = p ++ q ∧ r = (p.length : Int) ∧ (∀ l ∈ p, (l.t.r : Int) < v1) ∧ (∀ l q', q = l :: q' → ¬ (l.t.r : Int) < v1)
  | [], pre, m, hm, hb, hp => by
    obtain ⟨m, rfl⟩ : ∃ q, m = q + 1 := ⟨m - 1, by simp at hm; omega⟩
    rw [trees_Carry_l2]
    refine Do.fb (decide_eq_false (by simp)) ?_
    refine Do.seq rfl (Do.f rfl ?_)
    exact ⟨_, rfl, pre, [], rfl, rfl, hp, fun _ _ h => by cases h⟩
  | l :: post, pre, m, hm, hb, hp => by
    obtain ⟨m, rfl⟩ : ∃ q, m = q + 1 := ⟨m - 1, by simp at hm; omega⟩
    simp only [List.length_cons, List.length_append] at hm hb
    have ei : mIdx ((pre ++ l :: post).map rk) (pre.length : Int) = some (rk l) := by
      rw [List.map_append, List.map_cons]
      have := mIdx_mid (pre.map rk) (post.map rk) (rk l)
      rwa [List.length_map] at this
    rw [trees_Carry_l2]
    refine Do.tb (decide_eq_true (by simp; omega)) ?_
    refine Do.assoc (Do.seq ei ?_)
    refine Do.seq rfl ?_
    by_cases h : (l.t.r : Int) < v1
    · refine Do.t (decide_eq_true h) ?_
      rw [w64_id (by omega) (by omega)]
      have := carry_l2 v v1 l8 l9 a post (pre ++ [l]) m (by omega) (by simp; omega) (by
        intro x hx
        rcases List.mem_append.1 hx with hx | hx
        · exact hp x hx
        · simp at hx; subst hx; exact h)
      have e2 : ((pre ++ [l]).length : Int) = (pre.length : Int) + 1 := by simp
      rw [e2, List.append_assoc] at this
      exact this
    · refine Do.f (decide_eq_false h) ?_
      exact ⟨_, rfl, pre, l :: post, rfl, rfl, hp, fun x q' e => by cases e; exact h⟩

def LS (l : List Lt) : Prop := l.Pairwise fun x y => x.t.r ≤ y.t.r
def LSS (l : List Lt) : Prop := l.Pairwise fun x y => x.t.r < y.t.r
theorem TC_append (s t : List Tr) : TC (s ++ t) = TC s ++ TC t := List.flatMap_append
theorem TC_cons (s : Tr) (t : List Tr) : TC (s :: t) = s.cells ++ TC t := rfl
theorem TC_perm {s t : List Tr} (h : s.Perm t) : (TC s).Perm (TC t) := h.flatMap_right _
theorem cpm {l l' : List Nat} (h : ∀ p : Nat → Bool, l.countP p = l'.countP p) : l.Perm l' := List.perm_iff_count.2 fun x => h _
theorem carry_l1 (l3 : List Int) : ∀ (q : Nat) (ws os : List Lt) {n : Nat} {a : arena_Arena} (H : Hp κ n a it (LN ws ++ (LN os ++ N)) L) (m : Nat), ws.length = q → q + os.length < 1000 → q + 10 + 1000 < m → (∀ l ∈ ws, GT b it l.t) → (∀ l ∈ os, GT b it l.t) → LS ws → LSS os → (∀ o ∈ os, ∀ w ∈ ws, o.t.r < w.t.r) →
    Do (trees_Carry_l1 l3 m (ws.map rk) (lc os) a) fun r => ∃ fs a', r = (lc fs, a') ∧ Hp κ (n + 11 * q) a' it (LN fs ++ N) L ∧ (∀ l ∈ fs, GT b it l.t) ∧ LSS fs ∧ (TC (fs.map Lt.t)).Perm (TC (ws.map Lt.t) ++ TC (os.map Lt.t)) ∧ fs.length ≤ q + os.length
  | 0, ws, os, n, a, H, m, hq, hb, hm, hg, hgo, hs, hso, hwo => by
    obtain ⟨m, rfl⟩ : ∃ q, m = q + 1 := ⟨m - 1, by omega⟩
    have := List.eq_nil_of_length_eq_zero hq
    subst this
    rw [trees_Carry_l1]
    refine Do.f (decide_eq_false (by simp)) ?_
    exact ⟨_, rfl, os, a, rfl, H, hgo, hso, by simp [TC], by simp⟩
  | q + 1, ws, os, n, a, H, m, hq, hb, hm, hg, hgo, hs, hso, hwo => by
    obtain ⟨m, rfl⟩ : ∃ q, m = q + 1 := ⟨m - 1, by omega⟩
    cases ws with
    | nil => simp at hq
    | cons x ws =>
      simp only [List.length_cons] at hq
      have hq' : ws.length = q := by omega
      rw [trees_Carry_l1]
      refine Do.t (decide_eq_true (by simp)) ?_
      refine Do.seq (r := rk x) rfl ?_
      have hs2 : LS ws := (List.pairwise_cons.1 hs).2
      have hx := (List.pairwise_cons.1 hs).1
      -- the tree goes out
      have out : (∀ w ∈ ws, x.t.r < w.t.r) → Do ((mCut (rk x :: ws.map rk) 1 (((x :: ws).map rk).length : Int)).bind fun l4 => (mApp (lc os) ([(rk x).n] : List Int)).bind fun l5 => trees_Carry_l1 l3 m l4 l5 a) fun r => ∃ fs a', r = (lc fs, a') ∧ Hp κ (n + 11 * (q + 1)) a' it (LN fs ++ N) L ∧ (∀ l ∈ fs, GT b it l.t) ∧ LSS fs ∧ (TC (fs.map Lt.t)).Perm (TC ((x :: ws).map Lt.t) ++ TC (os.map Lt.t)) ∧ fs.length ≤ q + 1 + os.length := by
        intro hlt
        have ec : mCut (rk x :: ws.map rk) 1 (((x :: ws).map rk).length : Int) = some (ws.map rk) := mCut_tail (l := (x :: ws).map rk) (i := 1) (by simp)
        refine Do.seq ec ?_
        refine Do.seq (mApp_ok (by simp [lc_length]; omega)) ?_
        have H1 : Hp κ n a it (LN ws ++ (LN (os ++ [x]) ++ N)) L := H.p (npm fun p => by
          simp only [LN_cons, LN_append, List.countP_append, show LN ([] : List Lt) = [] from rfl, List.countP_nil]; omega)
        have := carry_l1 l3 q ws (os ++ [x]) H1 m hq' (by simp; omega) (by omega) (fun l h => hg l (List.mem_cons_of_mem _ h)) (fun l h => by
          rcases List.mem_append.1 h with h | h
          · exact hgo l h
          · simp at h; subst h; exact hg l (List.mem_cons_self ..)) hs2 (List.pairwise_append.2 ⟨hso, by simp, fun o ho y hy => by simp at hy; subst hy; exact hwo o ho y (List.mem_cons_self ..)⟩) (fun o ho w hw => by
          rcases List.mem_append.1 ho with ho | ho
          · exact hwo o ho w (List.mem_cons_of_mem _ hw)
          · simp at ho; subst ho; exact hlt w hw)
        rw [lc_append] at this
        refine this.mono ?_
        rintro _ ⟨fs, a2, rfl, H2, h1, h2, h3, h4⟩
        refine ⟨fs, a2, rfl, H2.mono (by omega), h1, h2, h3.trans (cpm fun p => ?_), by rw [List.length_append, List.length_singleton] at h4; omega⟩
        simp only [List.map_append, List.map_cons, List.map_nil, TC_append, TC_cons, List.countP_append, show TC ([] : List Tr) = [] from rfl, List.countP_nil]; omega
      cases ws with
      | nil =>
        refine Do.seq (r := true) rfl (Do.t rfl ?_)
        exact out (by simp)
      | cons y ws =>
        refine Do.fb (by simp; omega) ?_
        refine Do.assoc (Do.seq (r := rk y) rfl ?_)
        refine Do.seq rfl ?_
        by_cases hr : y.t.r = x.t.r
        · refine Do.f (by simp [rk, hr]) ?_
          refine Do.seq (r := rk y) rfl ?_
          have H1 : Hp κ n a it (x.t.nd x.u x.w ++ (y.t.nd y.u y.w ++ (LN ws ++ (LN os ++ N)))) L := H.p (npm fun p => by
            simp only [LN_cons, Lt.nd, List.countP_append]; omega)
          have hxr := rank_lt H hg x (List.mem_cons_self ..)
          refine (link_spec (k := m) (by omega) H1 rfl hr (by omega)).bind ?_
          rintro _ ⟨u, w, a1, rfl, H2⟩
          have gx := hg x (List.mem_cons_self ..)
          have gy := hg y (List.mem_cons_of_mem _ (List.mem_cons_self ..))
          obtain ⟨g1, g2, g3⟩ := lk_spec gx gy hr.symm
          have ec : mCut (rk x :: (y :: ws).map rk) 2 (((x :: y :: ws).map rk).length : Int) = some (ws.map rk) := mCut_tail (l := (x :: y :: ws).map rk) (i := 2) (by simp)
          refine Do.seq ec ?_
          have ew : w64 ((rk x).rank + 1) = ((x.t.r + 1 : Nat) : Int) := by
            simp only [rk]; rw [w64_id (by omega) (by omega)]; omega
          rw [ew]
          simp only [List.length_cons] at hq'
          refine (carry_l2 (lk it x.t y.t).c ((x.t.r + 1 : Nat) : Int) (lc os) l3 a1 ws [] m (by omega) (by simp; omega) (by simp)).bind ?_
          rintro _ ⟨p, r, ep, rfl, hp1, hp2⟩
          simp only [List.nil_append] at ep
          subst ep
          have el : lInsert ((p ++ r).map rk) (p.length : Int) ([trees_ranked.mk ((lk it x.t y.t).c : Int) ((x.t.r + 1 : Nat) : Int)] : List trees_ranked) = some ((p ++ (⟨lk it x.t y.t, u, w⟩ : Lt) :: r).map rk) := by
            unfold lInsert
            simp only [List.length_append] at hq'
            rw [if_pos ⟨by omega, by simp; omega, by simp; omega⟩]
            simp only [Int.toNat_natCast, List.map_append, List.map_cons]
            rw [List.take_left' (by simp), List.drop_left' (by simp)]
            simp only [rk, g2]
            rfl
          refine Do.seq el ?_
          have hlen : (p ++ (⟨lk it x.t y.t, u, w⟩ : Lt) :: r).length = q := by
            simp only [List.length_append, List.length_cons] at hq' ⊢; omega
          have hys := List.pairwise_cons.1 hs2
          have hsp := List.pairwise_append.1 hys.2
          have H3 : Hp κ (n + 11) a1 it (LN (p ++ (⟨lk it x.t y.t, u, w⟩ : Lt) :: r) ++ (LN os ++ N)) L := H2.p (npm fun p => by
            simp only [LN_cons, LN_append, Lt.nd, List.countP_append]; omega)
          have := carry_l1 l3 q (p ++ (⟨lk it x.t y.t, u, w⟩ : Lt) :: r) os H3 m hlen (by omega) (by omega) (by
            intro l hl
            rcases List.mem_append.1 hl with hl | hl
            · exact hg l (by simp [hl])
            · rcases List.mem_cons.1 hl with rfl | hl
              · exact g1
              · exact hg l (by simp [hl])) hgo (by
            refine List.pairwise_append.2 ⟨hsp.1, List.pairwise_cons.2 ⟨?_, hsp.2.1⟩, ?_⟩
            · intro l hl
              simp only [g2]
              cases r with
              | nil => cases hl
              | cons r0 r =>
                have h0 := hp2 r0 r rfl
                have h1 : r0.t.r ≤ l.t.r := by
                  rcases List.mem_cons.1 hl with rfl | hl
                  · exact Nat.le_refl _
                  · exact (List.pairwise_cons.1 hsp.2.1).1 l hl
                omega
            · intro o ho l hl
              rcases List.mem_cons.1 hl with rfl | hl
              · have := hp1 o ho
                simp only [g2]; omega
              · exact hsp.2.2 o ho l hl) hso (by
            intro o ho l hl
            have h0 := hwo o ho x (List.mem_cons_self ..)
            rcases List.mem_append.1 hl with hl | hl
            · exact hwo o ho l (by simp [hl])
            · rcases List.mem_cons.1 hl with rfl | hl
              · simp only [g2]; omega
              · exact hwo o ho l (by simp [hl]))
          refine this.mono ?_
          rintro _ ⟨fs, a2, rfl, H4, h1, h2, h3, h4⟩
          refine ⟨fs, a2, rfl, H4.mono (by omega), h1, h2, h3.trans (cpm fun p => ?_), by omega⟩
          have := g3.countP_eq p
          simp only [List.map_append, List.map_cons, TC_append, TC_cons, List.countP_append] at this ⊢; omega
        · refine Do.t (by simp [rk]; omega) ?_
          refine out fun w hw => ?_
          have h1 := hx y (List.mem_cons_self ..)
          rcases List.mem_cons.1 hw with rfl | hw
          · omega
          · have := (List.pairwise_cons.1 hs2).1 w hw
            omega
/-- Carry: trees of any ranks become trees of unlike, rising ones -/
theorem carry_spec {k : Nat} (hk : 3000 ≤ k) (ls : List Lt) (hl : ls.length ≤ 20) {n : Nat} {a : arena_Arena} (H : Hp κ n a it (LN ls ++ N) L) (hg : ∀ l ∈ ls, GT b it l.t) :
    Do (trees_Carry k a (lc ls)) fun r => ∃ f a', r = (f.hd, a') ∧ Hp κ (n + 14 * ls.length) a' it (nd f (-1) ++ N) L ∧ (∀ t ∈ f.trees, GT b it t) ∧ (f.trees.Pairwise fun s t => s.r < t.r) ∧ f.cells.Perm (TC (ls.map Lt.t)) := by
  unfold trees_Carry
  have hr := rank_lt H hg
  have h0 := carry_l0 (κ := κ) (it := it) (N := LN ls ++ N) (L := L) ls (fun l h => List.mem_append_left _ (top_mem h)) (by omega) ls [] H k (by omega) rfl
  rw [lc_length]
  refine h0.bind ?_
  rintro _ ⟨a1, rfl, H1⟩
  refine (sort_spec (ls.map rk) (by simpa using hl) (by omega) (by
    intro y hy
    obtain ⟨l, hl, rfl⟩ := List.mem_map.1 hy
    have := hr l hl
    exact ⟨by simp [rk], by simp only [rk]; omega⟩)).bind ?_
  rintro r ⟨hs, hp⟩
  obtain ⟨ws, hw, rfl⟩ := lift_perm hp ls rfl
  have hlen : ws.length = ls.length := hw.length_eq
  have H2 : Hp κ (n + ls.length) a1 it (LN ws ++ (LN ([] : List Lt) ++ N)) L := H1.p ((LN_perm hw.symm).append_right _)
  have h1 := carry_l1 (b := b) (lc ls) ws.length ws [] H2 k rfl (by simp; omega) (by omega) (fun l h => hg l (hw.mem_iff.1 h)) (by simp) (by
    have := List.pairwise_map.1 hs
    refine this.imp fun {x y} h => ?_
    simp only [rk] at h; omega) (by simp [LSS]) (by simp)
  refine h1.bind ?_
  rintro _ ⟨fs, a2, rfl, H3, g1, g2, g3, g4⟩
  simp only [List.length_nil, Nat.add_zero] at g4
  refine (trow_spec fs (by omega) (by omega) H3).bind ?_
  rintro _ ⟨a3, rfl, H4⟩
  refine ⟨_, rfl, F.of (fs.map Lt.t), a3, rfl, H4.mono (by omega), ?_, ?_, ?_⟩
  · rw [F.trees_of]
    intro t ht
    obtain ⟨l, hl, rfl⟩ := List.mem_map.1 ht
    exact g1 l hl
  · rw [F.trees_of]
    exact List.pairwise_map.2 g2
  · rw [F.cells_trees, F.trees_of]
    refine g3.trans ?_
    rw [show TC (([] : List Lt).map Lt.t) = [] from rfl, List.append_nil]
    exact TC_perm (hw.map _)
end
end Go.Proofs.YtmidmkinclmbdaaGreat
