/-
  The engine, part 4: a region whose order is drawn. What only reads is taken as soon as it may come up; what it needs of the world is asked again behind whatever acts and does not wait for it.
-/
import Derived.Test.YtgchbhnchhiehaaGreatE3
set_option linter.unusedVariables false
set_option linter.unusedSimpArgs false
namespace Go.Th

structure Pd where
  i : Nat
  o : Oper
  v : Value
  obs : List Ob
def Pd.T (u : Pd) (w : World) : Prop := AllOb w u.obs

def setAll (lr : Array Bool) : List Pd → Array Bool
  | [] => lr
  | u :: U => (setAll lr U).setIfInBounds u.i true
def putAll (ar : Act) : List Pd → Act
  | [] => ar
  | u :: U => (putAll ar U).put u.o.dst u.v
def predsIn (o : Oper) (b : Array Bool) : Prop := ∀ e ∈ o.after, Region.binds .any e = true → b.getD e.on false = true

def elN (i : Nat) : List Nat → Bool
  | [] => false
  | x :: l => match Nat.beq i x with
    | true => true
    | false => elN i l
theorem elN_mem {i : Nat} : ∀ {l : List Nat}, elN i l = true → i ∈ l
  | x :: l, h => by
    simp only [elN] at h
    split at h
    · rename_i hb
      rw [Nat.eq_of_beq_eq_true hb]; exact List.mem_cons_self
    · exact List.mem_cons_of_mem _ (elN_mem h)
def edgesOf (o : Oper) : List Nat := (o.after.toList.filter (Region.binds .any)).map (·.on)
/-- What comes ahead of the listed ones, each looked at once. -/
def ancS (ops : Array Oper) : Nat → List Nat → List Nat → List Nat
  | 0, _, seen => seen
  | n + 1, [], seen => seen
  | n + 1, j :: todo, seen => match elN j seen with
    | true => ancS ops n todo seen
    | false => match ops[j]? with
      | none => ancS ops n todo seen
      | some o => ancS ops n (edgesOf o ++ todo) (j :: seen)
def anc (ops : Array Oper) (i j : Nat) : Bool := match ops[j]? with
  | some o => elN i (ancS ops 4000 (edgesOf o) [])
  | none => false

def Closed (ops : Array Oper) (b : Array Bool) : Prop := ∀ x o, ops[x]? = some o → b.getD x false = true → predsIn o b

theorem edges_in {o : Oper} {b : Array Bool} (hp : predsIn o b) : ∀ x ∈ edgesOf o, b.getD x false = true := fun x hx => by
  simp only [edgesOf, List.mem_map, List.mem_filter, Array.mem_toList_iff] at hx
  obtain ⟨e, ⟨he, hb⟩, rfl⟩ := hx
  exact hp e he hb
theorem ancS_in {ops : Array Oper} {b : Array Bool} (hc : Closed ops b) : ∀ (n : Nat) (todo seen : List Nat), (∀ x ∈ todo, b.getD x false = true) → (∀ x ∈ seen, b.getD x false = true) → ∀ x ∈ ancS ops n todo seen, b.getD x false = true
  | 0, todo, seen, _, hs, x, hx => hs x (by simpa [ancS] using hx)
  | n + 1, [], seen, _, hs, x, hx => hs x (by simpa [ancS] using hx)
  | n + 1, j :: todo, seen, ht, hs, x, hx => by
    have ht' : ∀ x ∈ todo, b.getD x false = true := fun y hy => ht y (List.mem_cons_of_mem _ hy)
    have hj := ht j List.mem_cons_self
    simp only [ancS] at hx
    split at hx
    · exact ancS_in hc n todo seen ht' hs x hx
    · split at hx
      · exact ancS_in hc n todo seen ht' hs x hx
      · rename_i o ho
        refine ancS_in hc n _ _ (fun y hy => ?_) (fun y hy => ?_) x hx
        · rcases List.mem_append.1 hy with h | h
          · exact edges_in (hc j o ho hj) y h
          · exact ht' y h
        · cases hy with
          | head => exact hj
          | tail _ hm => exact hs y hm
theorem anc_in {ops : Array Oper} {b : Array Bool} (hc : Closed ops b) (i j : Nat) (o : Oper) (ho : ops[j]? = some o) (hp : predsIn o b) (h : anc ops i j = true) : b.getD i false = true := by
  simp only [anc, ho] at h
  exact ancS_in hc _ _ _ (edges_in hp) (by simp) _ (elN_mem h)

def tb (m i : Nat) : Bool := match Nat.land (Nat.shiftRight m i) 1 with
  | 0 => false
  | _ + 1 => true
theorem tb_eq (m i : Nat) : tb m i = m.testBit i := by
  have e : Nat.land (Nat.shiftRight m i) 1 = (m >>> i) &&& 1 := rfl
  unfold tb
  rw [e, Nat.testBit, Nat.and_comm]
  cases h : 1 &&& m >>> i <;> simp
def bitL (i m : Nat) : Nat := Nat.lor (Nat.shiftLeft 1 i) m
theorem tb_bit (i m x : Nat) : tb (bitL i m) x = true ↔ x = i ∨ tb m x = true := by
  have e : bitL i m = (1 <<< i) ||| m := rfl
  rw [tb_eq, tb_eq, e, Nat.testBit_or, Bool.or_eq_true]
  have : (1 <<< i).testBit x = true ↔ x = i := by
    rw [Nat.one_shiftLeft, Nat.testBit_two_pow]
    simp [eq_comm]
  rw [this]
def maskL : List Nat → Nat
  | [] => 0
  | x :: l => bitL x (maskL l)
theorem maskL_tb (x : Nat) : ∀ l : List Nat, tb (maskL l) x = true ↔ x ∈ l
  | [] => by simp [maskL, tb_eq]
  | y :: l => by rw [maskL, tb_bit, maskL_tb x l, List.mem_cons]
def subM (a b : Nat) : Bool := Nat.beq (Nat.land a b) a
theorem subM_spec {l : List Nat} {m : Nat} : subM (maskL l) m = true ↔ ∀ x ∈ l, tb m x = true := by
  have e : Nat.land (maskL l) m = maskL l &&& m := rfl
  unfold subM
  rw [e]
  refine Iff.trans ⟨Nat.eq_of_beq_eq_true, fun h => by rw [h]; exact Nat.beq_refl _⟩ ?_
  constructor
  · intro h x hx
    have h1 := (maskL_tb x l).2 hx
    rw [tb_eq, ← h, Nat.testBit_and, Bool.and_eq_true] at h1
    rw [tb_eq]; exact h1.2
  · intro h
    refine Nat.eq_of_testBit_eq fun x => ?_
    rw [Nat.testBit_and]
    cases hx : (maskL l).testBit x with
    | false => rfl
    | true =>
      have := h x ((maskL_tb x l).1 (by rw [tb_eq]; exact hx))
      rw [tb_eq] at this
      rw [this]; rfl
def edgeM (o : Oper) : Nat := maskL (edgesOf o)
def lookM (ops : Array Oper) (o : Oper) : Nat := maskL (o.looksAt ops)
def dneq (x y : Oper) : Bool := match x.dst, y.dst with
  | some d, some e => match Nat.beq d e with
    | true => false
    | false => true
  | _, _ => true
def unseen (ops : Array Oper) (x y : Oper) : Bool := match x.dst with
  | some d => match tb (lookM ops y) d with
    | true => false
    | false => true
  | none => true
def apP (ops : Array Oper) (i j : Nat) (x y : Oper) : Bool := Nat.beq i j || (dneq x y && (tb (edgeM y) i || tb (edgeM x) j || (unseen ops x y && unseen ops y x)))
def apRow (ops : Array Oper) (i : Nat) (x : Oper) : Nat → List Oper → Bool
  | _, [] => true
  | j, y :: l => apP ops i j x y && apRow ops i x (j + 1) l
def apAll (ops : Array Oper) : Nat → List Oper → Bool
  | _, [] => true
  | i, x :: l => apRow ops i x 0 ops.toList && (edgesOf x).all (fun e => Nat.blt e ops.size) && apAll ops (i + 1) l
def regOk (ops : Array Oper) : Bool := Region.noSelect ops && apAll ops 0 ops.toList

theorem apRow_spec {ops : Array Oper} {i : Nat} {x : Oper} : ∀ (l : List Oper) (j n : Nat) (y : Oper), apRow ops i x j l = true → l[n]? = some y → apP ops i (j + n) x y = true
  | [], j, n, y, _, h => by simp at h
  | z :: l, j, 0, y, h, hy => by
    simp only [apRow, Bool.and_eq_true] at h
    simp at hy; subst hy; exact h.1
  | z :: l, j, n + 1, y, h, hy => by
    simp only [apRow, Bool.and_eq_true] at h
    have := apRow_spec l (j + 1) n y h.2 (by simpa using hy)
    rwa [Nat.add_right_comm, Nat.add_assoc] at this
theorem apAll_spec {ops : Array Oper} : ∀ (l : List Oper) (i n : Nat) (x : Oper), apAll ops i l = true → l[n]? = some x → apRow ops (i + n) x 0 ops.toList = true ∧ ∀ e ∈ edgesOf x, e < ops.size
  | [], i, n, x, _, h => by simp at h
  | z :: l, i, 0, x, h, hx => by
    simp only [apAll, Bool.and_eq_true, List.all_eq_true] at h
    simp at hx; subst hx
    exact ⟨h.1.1, fun e he => by simpa [Nat.blt_eq] using h.1.2 e he⟩
  | z :: l, i, n + 1, x, h, hx => by
    simp only [apAll, Bool.and_eq_true] at h
    have := apAll_spec l (i + 1) n x h.2 (by simpa using hx)
    rwa [Nat.add_right_comm, Nat.add_assoc] at this
theorem dneq_spec {x y : Oper} (h : dneq x y = true) {d : Tmp} (hx : x.dst = some d) : y.dst ≠ some d := by
  intro hy
  simp [dneq, hx, hy] at h
theorem unseen_spec {ops : Array Oper} {x y : Oper} (h : unseen ops x y = true) {d : Tmp} (hx : x.dst = some d) : d ∉ y.looksAt ops := by
  intro hy
  have := (maskL_tb d (y.looksAt ops)).2 hy
  simp only [unseen, hx, lookM, this] at h
  cases h
theorem regOk_pair {ops : Array Oper} (h : regOk ops = true) {i j : Nat} {x y : Oper} (hx : ops[i]? = some x) (hy : ops[j]? = some y) (hne : i ≠ j) :
    dneq x y = true ∧ ((tb (edgeM y) i = true ∨ tb (edgeM x) j = true) ∨ unseen ops x y = true ∧ unseen ops y x = true) := by
  simp only [regOk, Bool.and_eq_true] at h
  have h1 := (apAll_spec _ 0 i x h.2 (by simpa using hx)).1
  have h2 := apRow_spec _ 0 j y h1 (by simpa using hy)
  simp only [apP, Bool.or_eq_true, Bool.and_eq_true, Nat.zero_add] at h2
  rcases h2 with h2 | h2
  · exact absurd (Nat.eq_of_beq_eq_true h2) hne
  · exact h2
theorem tb_edge {o : Oper} {i : Nat} : tb (edgeM o) i = true ↔ ∃ e ∈ o.after, Region.binds .any e = true ∧ e.on = i := by
  rw [edgeM, maskL_tb, edgesOf]
  simp only [List.mem_map, List.mem_filter, Array.mem_toList_iff]
  constructor
  · rintro ⟨e, ⟨h1, h2⟩, h3⟩; exact ⟨e, h1, h2, h3⟩
  · rintro ⟨e, h1, h2, h3⟩; exact ⟨e, ⟨h1, h2⟩, h3⟩
theorem listed_getD {m i : Nat} {d : Bool} : ∀ dn : List Nat, i < m → ((listed m dn).getD i d = true ↔ i ∈ dn) := by
  suffices ∀ (dn : List Nat) (b : Array Bool), b.size = m → i < m → (((dn.foldl (fun b i => b.setIfInBounds i true) b).getD i d = true) ↔ (b.getD i d = true ∨ i ∈ dn)) by
    intro dn hi
    have h := this dn (Array.replicate m false) (by simp) hi
    rw [listed, h]
    simp [hi]
  intro dn
  induction dn with
  | nil => intro b _ _; simp
  | cons x dn ih =>
    intro b hb hi
    rw [List.foldl_cons, ih _ (by simpa using hb) hi]
    by_cases hx : x = i
    · subst hx; simp [hb, hi]
    · rw [getD_set_ne d hx]; simp [Ne.symm hx]
theorem listed_out {m i : Nat} {d : Bool} (dn : List Nat) (hi : m ≤ i) : (listed m dn).getD i d = d := by
  have hs : (listed m dn).size = m := by
    unfold listed
    suffices ∀ b : Array Bool, (dn.foldl (fun b i => b.setIfInBounds i true) b).size = b.size by simpa using this (Array.replicate m false)
    induction dn with
    | nil => simp
    | cons x dn ih => intro b; rw [List.foldl_cons, ih]; simp
  simp [Array.getElem?_eq_none (hs ▸ hi)]

def readyM (m : Nat) : Nat → List Oper → List Nat
  | _, [] => []
  | i, x :: l => match tb m i with
    | true => readyM m (i + 1) l
    | false => match subM (edgeM x) m with
      | true => i :: readyM m (i + 1) l
      | false => readyM m (i + 1) l
theorem readyM_mem {m j : Nat} : ∀ (l : List Oper) (i : Nat), j ∈ readyM m i l ↔ ∃ n x, l[n]? = some x ∧ j = i + n ∧ tb m j = false ∧ subM (edgeM x) m = true
  | [], i => by simp [readyM]
  | z :: l, i => by
    have ih := readyM_mem (m := m) (j := j) l (i + 1)
    have hR : (∃ n x, (z :: l)[n]? = some x ∧ j = i + n ∧ tb m j = false ∧ subM (edgeM x) m = true) ↔ (j = i ∧ tb m i = false ∧ subM (edgeM z) m = true) ∨ j ∈ readyM m (i + 1) l := by
      rw [ih]
      constructor
      · rintro ⟨n, x, hx, hj, h1, h2⟩
        cases n with
        | zero => simp at hx; subst hx; left; exact ⟨hj, by rw [hj] at h1; exact h1, h2⟩
        | succ n => right; exact ⟨n, x, by simpa using hx, by omega, h1, h2⟩
      · rintro (⟨rfl, h1, h2⟩ | ⟨n, x, hx, hj, h1, h2⟩)
        · exact ⟨0, z, by simp, by simp, h1, h2⟩
        · exact ⟨n + 1, x, by simpa using hx, by omega, h1, h2⟩
    rw [hR, readyM]
    split
    · rename_i h; simp [h]
    · rename_i h
      split
      · rename_i h2; simp [h, h2]
      · rename_i h2; simp [h2]
theorem readyM_eq {ops : Array Oper} (h : regOk ops = true) (dn : List Nat) (j : Nat) : j ∈ readyM (maskL dn) 0 ops.toList ↔ j ∈ Region.ready .any ops (listed ops.size dn) := by
  rw [readyM_mem, mem_ready]
  constructor
  · rintro ⟨n, x, hx, hj, h1, h2⟩
    have e : n = j := by omega
    subst e
    have hx' : ops[n]? = some x := by simpa using hx
    have hlt : n < ops.size := (Array.getElem?_eq_some_iff.1 hx').1
    refine ⟨?_, x, hx', fun e he hb => ?_⟩
    · cases hh : (listed ops.size dn).getD n true with
      | false => rfl
      | true =>
        have := (maskL_tb n dn).2 ((listed_getD dn hlt).1 hh)
        rw [this] at h1; cases h1
    · simp only [regOk, Bool.and_eq_true] at h
      have hin : e.on ∈ edgesOf x := by
        simp only [edgesOf, List.mem_map, List.mem_filter, Array.mem_toList_iff]
        exact ⟨e, ⟨he, hb⟩, rfl⟩
      have hl := (apAll_spec _ 0 n x h.2 hx).2 _ hin
      exact (listed_getD dn hl).2 ((maskL_tb _ dn).1 (subM_spec.1 h2 _ hin))
  · rintro ⟨h1, x, hx, h2⟩
    have hlt : j < ops.size := (Array.getElem?_eq_some_iff.1 hx).1
    refine ⟨j, x, by simpa using hx, by simp, ?_, ?_⟩
    · cases hh : tb (maskL dn) j with
      | false => rfl
      | true =>
        have := (listed_getD (d := true) dn hlt).2 ((maskL_tb j dn).1 hh)
        rw [this] at h1; cases h1
    · refine subM_spec.2 fun y hy => ?_
      simp only [edgesOf, List.mem_map, List.mem_filter, Array.mem_toList_iff] at hy
      obtain ⟨e, ⟨he, hb⟩, rfl⟩ := hy
      have := h2 e he hb
      rcases Nat.lt_or_ge e.on ops.size with hl | hl
      · exact (maskL_tb _ dn).2 ((listed_getD dn hl).1 this)
      · rw [listed_out dn hl] at this; cases this
theorem ready_of {ops : Array Oper} (h : regOk ops = true) {m i : Nat} {o : Oper} {dn : List Nat} (hm : ∀ x, tb m x = true ↔ x ∈ dn) (ho : ops[i]? = some o) (h1 : tb m i = false) (h2 : subM (edgeM o) m = true) :
    i ∈ Region.ready .any ops (listed ops.size dn) := by
  refine (readyM_eq h dn i).1 ((readyM_mem _ 0).2 ⟨i, o, by simpa using ho, by simp, ?_, ?_⟩)
  · cases hh : tb (maskL dn) i with
    | false => rfl
    | true => rw [(hm i).2 ((maskL_tb i dn).1 hh)] at h1; cases h1
  · exact subM_spec.2 fun x hx => (maskL_tb x dn).2 ((hm x).1 (subM_spec.1 h2 x hx))
theorem readyM_nil {ops : Array Oper} (h : regOk ops = true) {dn : List Nat} : readyM (maskL dn) 0 ops.toList = [] ↔ Region.ready .any ops (listed ops.size dn) = [] := by
  rw [List.eq_nil_iff_forall_not_mem, List.eq_nil_iff_forall_not_mem]
  exact forall_congr' fun j => not_congr (readyM_eq h dn j)
def takeM (ops : Array Oper) : List Nat → Nat → Bool
  | [], _ => true
  | i :: is, m => match ops[i]? with
    | none => false
    | some o => match tb m i with
      | true => false
      | false => match subM (edgeM o) m with
        | false => false
        | true => takeM ops is (bitL i m)

section
variable {P : Program} {ops : Array Oper} {Q : Exit → Act → World → Prop}

def OkU (P : Program) (ops : Array Oper) (lr : Array Bool) (ar : Act) : List Pd → Prop
  | [] => True
  | u :: U => ops[u.i]? = some u.o ∧ (setAll lr U).getD u.i true = false ∧ predsIn u.o (setAll lr U) ∧ YieldsIf P ops u.T u.o u.v (putAll ar U) ∧
      (∀ j oj, ops[j]? = some oj → j ≠ u.i → (setAll lr U).getD j true = false → (∀ e ∈ oj.after, Region.binds .any e = true → e.on ≠ u.i) → u.o.apart ops oj = true) ∧ OkU P ops lr ar U

theorem getD_mono {b : Array Bool} {i j : Nat} (h : (b.setIfInBounds i true).getD j true = false) : b.getD j true = false := by
  by_cases hij : i = j
  · subst hij
    rcases Nat.lt_or_ge i b.size with h' | h'
    · simp [h'] at h
    · simp [Array.getElem?_eq_none h'] at h
  · rwa [getD_set_ne true hij] at h
theorem setAll_mono {lr : Array Bool} {j : Nat} : ∀ {U : List Pd}, (setAll lr U).getD j true = false → lr.getD j true = false
  | [], h => h
  | u :: U, h => setAll_mono (U := U) (getD_mono h)
theorem setAll_true {lr : Array Bool} {j : Nat} (h : lr.getD j false = true) : ∀ {U : List Pd}, (setAll lr U).getD j false = true
  | [] => h
  | u :: U => getD_set_true (setAll_true h)
theorem true_false {b : Array Bool} {j : Nat} (h : b.getD j false = true) (h2 : b.getD j true = false) : False := by
  rcases Nat.lt_or_ge j b.size with h' | h'
  · simp [h'] at h h2; rw [h2] at h; cases h
  · simp [Array.getElem?_eq_none h'] at h
theorem setAll_set (lr : Array Bool) (j : Nat) : ∀ U : List Pd, setAll (lr.setIfInBounds j true) U = (setAll lr U).setIfInBounds j true
  | [] => rfl
  | u :: U => by
    simp only [setAll, setAll_set lr j U]
    by_cases h : u.i = j
    · subst h; simp
    · rw [Array.setIfInBounds_comm _ _ h]

theorem yields_put {u : Pd} {a : Act} {d : Option Tmp} {v : Value} (hs : Region.noSelect ops = true) (hu : ops[u.i]? = some u.o) (hd : ∀ x, d = some x → x ∉ u.o.looksAt ops) :
    YieldsIf P ops u.T u.o u.v a ↔ YieldsIf P ops u.T u.o u.v (a.put d v) :=
  ⟨fun h => h.of_same (execOp_put u.o (fun cs b => Region.noSelect_spec hs u.i u.o cs b hu) a d v hd) (wanted_put u.o a d v hd),
   fun h => h.of_same (execOp_put u.o (fun cs b => Region.noSelect_spec hs u.i u.o cs b hu) a d v hd).symm (wanted_put u.o a d v hd).symm⟩

/-- An operation that comes up while older ones wait: it and they are apart. -/
theorem apart_of {lr : Array Bool} {ar : Act} {j : Nat} {oj : Oper} (hj : ops[j]? = some oj) (hp : predsIn oj lr) : ∀ {U : List Pd}, OkU P ops lr ar U → (setAll lr U).getD j true = false → ∀ u ∈ U, u.o.apart ops oj = true
  | [], _, _, u, hu => by cases hu
  | x :: U, h, hun, u, hu => by
    obtain ⟨h1, h2, h3, h4, h5, h6⟩ := h
    have hne : j ≠ x.i := by
      rintro rfl
      have : x.i < ops.size := (Array.getElem?_eq_some_iff.1 hj).1
      simp only [setAll] at hun
      rcases Nat.lt_or_ge x.i (setAll lr U).size with h' | h'
      · simp [h'] at hun
      · simp [Array.getElem?_eq_none h'] at hun
    have hun' : (setAll lr U).getD j true = false := getD_mono hun
    cases hu with
    | head =>
      refine h5 j oj hj hne hun' fun e he hb heq => ?_
      have := hp e he hb
      rw [heq] at this
      exact true_false (setAll_true (U := U) this) h2
    | tail _ hm => exact apart_of hj hp h6 hun' u hm

theorem putAll_put {d : Option Tmp} {v : Value} (ar : Act) : ∀ (U : List Pd), (∀ u ∈ U, ∀ x, u.o.dst = some x → d ≠ some x) → putAll (ar.put d v) U = (putAll ar U).put d v
  | [], _ => rfl
  | u :: U, h => by
    simp only [putAll, putAll_put ar U fun u hu => h u (List.mem_cons_of_mem _ hu)]
    exact Act.put_comm _ v u.v fun x hx => by
      have := h u (by simp)
      intro hd
      exact this x hd hx

/-- Behind an operation that came up, those that waited still wait. -/
theorem okU_step (hs : Region.noSelect ops = true) {lr : Array Bool} {ar : Act} {j : Nat} {oj : Oper} (v : Value) (hj : ops[j]? = some oj) : ∀ {U : List Pd}, (∀ u ∈ U, u.o.apart ops oj = true) → (∀ u ∈ U, u.i ≠ j) → OkU P ops lr ar U →
    OkU P ops (lr.setIfInBounds j true) (ar.put oj.dst v) U
  | [], _, _, _ => trivial
  | u :: U, hap, hne, h => by
    obtain ⟨h1, h2, h3, h4, h5, h6⟩ := h
    have hU : ∀ x ∈ U, x.o.apart ops oj = true := fun x hx => hap x (List.mem_cons_of_mem _ hx)
    have hN : ∀ x ∈ U, x.i ≠ j := fun x hx => hne x (List.mem_cons_of_mem _ hx)
    have hput : putAll (ar.put oj.dst v) U = (putAll ar U).put oj.dst v := putAll_put ar U fun u hu x hx => by
      have := (Oper.apart_spec (hU u hu)).2.1 x hx
      exact this
    refine ⟨h1, ?_, ?_, ?_, ?_, okU_step hs v hj hU hN h6⟩
    · rw [setAll_set, getD_set_ne true (Ne.symm (hne u (by simp)))]; exact h2
    · intro e he hb
      rw [setAll_set]
      exact getD_set_true (h3 e he hb)
    · rw [hput]
      exact (yields_put hs h1 fun x hx => (Oper.apart_spec (hap u (by simp))).2.2 x hx).1 h4
    · intro j' oj' hj' hne' hun hno
      rw [setAll_set] at hun
      exact h5 j' oj' hj' hne' (getD_mono hun) hno

/-- One of those that wait comes up. -/
theorem okU_take (hs : Region.noSelect ops = true) {lr : Array Bool} {ar : Act} {u : Pd} : ∀ {X Y : List Pd}, OkU P ops lr ar (X ++ u :: Y) → predsIn u.o lr → (∀ x ∈ X, ∀ d, x.o.dst = some d → u.o.dst ≠ some d) →
    OkU P ops (lr.setIfInBounds u.i true) (ar.put u.o.dst u.v) (X ++ Y) ∧ setAll (lr.setIfInBounds u.i true) (X ++ Y) = setAll lr (X ++ u :: Y) ∧
    putAll (ar.put u.o.dst u.v) (X ++ Y) = putAll ar (X ++ u :: Y) ∧ YieldsIf P ops u.T u.o u.v ar
  | [], Y, h, hp, _ => by
    simp only [List.nil_append] at h ⊢
    obtain ⟨h1, h2, h3, h4, h5, h6⟩ := h
    have hap := apart_of (P := P) h1 hp h6 h2
    have hne : ∀ x ∈ Y, x.i ≠ u.i := by
      intro x hx heq
      clear hap h4 h5
      induction Y with
      | nil => cases hx
      | cons y Y ih =>
        obtain ⟨g1, g2, g3, g4, g5, g6⟩ := h6
        cases hx with
        | head =>
          simp only [setAll] at h2
          rw [heq] at h2
          rcases Nat.lt_or_ge u.i (setAll lr Y).size with h' | h'
          · simp [h'] at h2
          · simp [Array.getElem?_eq_none h'] at h2
        | tail _ hm => exact ih (getD_mono h2) (fun e he hb => setAll_true (hp e he hb)) g6 hm
    refine ⟨okU_step hs u.v h1 hap hne h6, by simp [setAll, setAll_set], ?_, ?_⟩
    · rw [putAll_put ar Y fun x hx d hd => (Oper.apart_spec (hap x hx)).2.1 d hd]; rfl
    · clear h5 h2 h3 hne
      induction Y with
      | nil => exact h4
      | cons y Y ih =>
        obtain ⟨g1, g2, g3, g4, g5, g6⟩ := h6
        refine ih ?_ g6 fun x hx => hap x (List.mem_cons_of_mem _ hx)
        simp only [putAll] at h4
        exact (yields_put hs h1 fun x hx => (Oper.apart_spec (hap y (by simp))).1 x hx).2 h4
  | x :: X, Y, h, hp, hd => by
    simp only [List.cons_append] at h ⊢
    obtain ⟨h1, h2, h3, h4, h5, h6⟩ := h
    obtain ⟨k1, k2, k3, k4⟩ := okU_take hs h6 hp fun y hy => hd y (List.mem_cons_of_mem _ hy)
    refine ⟨⟨h1, by rw [k2]; exact h2, by rw [k2]; exact h3, by rw [k3]; exact h4, by rw [k2]; exact h5, k1⟩, by simp only [setAll, k2], by simp only [putAll, k3], k4⟩

theorem dec_of {i : Nat} {lr : Array Bool} : ∀ {U : List Pd}, lr.getD i true = false → (setAll lr U).getD i true ≠ false → ∃ X u Y, U = X ++ u :: Y ∧ u.i = i
  | [], h1, h2 => absurd h1 h2
  | u :: U, h1, h2 => by
    by_cases hu : u.i = i
    · exact ⟨[], u, U, rfl, hu⟩
    · simp only [setAll] at h2
      rw [getD_set_ne true hu] at h2
      obtain ⟨X, x, Y, rfl, hx⟩ := dec_of h1 h2
      exact ⟨u :: X, x, Y, rfl, hx⟩
theorem oldest {lr : Array Bool} {ar : Act} : ∀ {U : List Pd}, OkU P ops lr ar U → U ≠ [] → ∃ i, i ∈ Region.ready .any ops lr
  | [], _, h => absurd rfl h
  | [u], h, _ => by
    obtain ⟨h1, h2, h3, _⟩ := h
    exact ⟨u.i, mem_ready.2 ⟨h2, u.o, h1, h3⟩⟩
  | u :: x :: U, h, _ => oldest (U := x :: U) h.2.2.2.2.2 (by simp)

theorem regOk_sel (h : regOk ops = true) : Region.noSelect ops = true := by
  simp only [regOk, Bool.and_eq_true] at h; exact h.1
theorem dstOk_spec (h : regOk ops = true) {i j : Nat} {x y : Oper} (hx : ops[i]? = some x) (hy : ops[j]? = some y) (hne : i ≠ j) {d : Tmp} (hd : x.dst = some d) : y.dst ≠ some d :=
  dneq_spec (regOk_pair h hx hy hne).1 hd

theorem okU_mem {lr : Array Bool} {ar : Act} : ∀ {U : List Pd}, OkU P ops lr ar U → ∀ u ∈ U, ops[u.i]? = some u.o ∧ lr.getD u.i true = false
  | [], _, u, hu => by cases hu
  | x :: U, h, u, hu => by
    cases hu with
    | head => exact ⟨h.1, setAll_mono h.2.1⟩
    | tail _ hm => exact okU_mem h.2.2.2.2.2 u hm
theorem okU_ne {lr : Array Bool} {ar : Act} {u : Pd} {Y : List Pd} : ∀ {X : List Pd}, OkU P ops lr ar (X ++ u :: Y) → ∀ x ∈ X, x.i ≠ u.i
  | [], _, x, hx => by cases hx
  | y :: X, h, x, hx => by
    cases hx with
    | head =>
      intro he
      have h2 := h.2.1
      have : (setAll lr (X ++ u :: Y)).getD u.i true ≠ false := by
        clear h h2 he
        induction X with
        | nil =>
          simp only [List.nil_append, setAll]
          intro h
          rcases Nat.lt_or_ge u.i (setAll lr Y).size with h' | h'
          · simp [h'] at h
          · simp [Array.getElem?_eq_none h'] at h
        | cons z X ih => intro h; exact ih (getD_mono h)
      rw [he] at h2
      exact this h2
    | tail _ hm => exact okU_ne h.2.2.2.2.2 x hm

theorem closed_set {lr : Array Bool} {j : Nat} {oj : Oper} (hc : Closed ops lr) (hj : ops[j]? = some oj) (hp : predsIn oj lr) : Closed ops (lr.setIfInBounds j true) := by
  intro x o hx ht e he hb
  by_cases hjx : j = x
  · subst hjx
    rw [hj] at hx; cases hx
    exact getD_set_true (hp e he hb)
  · rw [getD_set_ne false hjx] at ht
    exact getD_set_true (hc x o hx ht e he hb)

/-- Those that wait come up in whatever order; then whatever else may come up. -/
theorem wpAny_pend (hd : regOk ops = true) (M : Pd → Prop) {fu : Nat} {w : World} {lc : Array Bool} {ac : Act}
    (hend : Region.ready .any ops lc = [] → ∀ lr ar, lr = lc → ar = ac → wpAny P .any ops Q fu lr ar w)
    (hstep : ∀ j oj, j ∈ Region.ready .any ops lc → ops[j]? = some oj → ∀ U lr ar, (∀ u ∈ U, M u) → (∀ u ∈ U, u.T w) → OkU P ops lr ar U → Closed ops lr → setAll lr U = lc → putAll ar U = ac → predsIn oj lr →
      ∃ fu', fu = fu' + 1 ∧ wpOp P ops Q j (wpAny P .any ops Q (fu' + U.length) (lr.setIfInBounds j true)) ar w) :
    ∀ (n : Nat) (U : List Pd) (lr : Array Bool) (ar : Act), U.length = n → (∀ u ∈ U, M u) → (∀ u ∈ U, u.T w) → OkU P ops lr ar U → Closed ops lr → setAll lr U = lc → putAll ar U = ac → wpAny P .any ops Q (fu + U.length) lr ar w := by
  intro n
  induction n with
  | zero =>
    intro U lr ar hn hM hT hU hc h1 h2
    have hnil : U = [] := List.eq_nil_of_length_eq_zero hn
    subst hnil
    simp only [setAll, putAll] at h1 h2
    by_cases hr : Region.ready .any ops lc = []
    · exact hend hr lr ar h1 h2
    · obtain ⟨i, hi⟩ := List.exists_mem_of_ne_nil _ hr
      obtain ⟨_, oi, hoi, hpi⟩ := mem_ready.1 hi
      obtain ⟨fu', rfl, _⟩ := hstep i oi hi hoi [] lr ar (by simp) (by simp) trivial hc h1 h2 (by rw [h1]; exact hpi)
      simp only [List.length_nil, Nat.add_zero]
      refine ⟨fun h => absurd (h1 ▸ h) hr, fun j hj => ?_⟩
      rw [h1] at hj
      obtain ⟨_, oj, hoj, hpj⟩ := mem_ready.1 hj
      obtain ⟨fu2, he, hw⟩ := hstep j oj hj hoj [] lr ar (by simp) (by simp) trivial hc h1 h2 (by rw [h1]; exact hpj)
      cases he
      simpa using hw
  | succ n ih =>
    intro U lr ar hn hM hT hU hc h1 h2
    have hne : U ≠ [] := by intro h; subst h; simp at hn
    have e : fu + U.length = (fu + n) + 1 := by omega
    rw [e]
    refine ⟨fun h => ?_, fun j hj => ?_⟩
    · obtain ⟨i, hi⟩ := oldest hU hne
      rw [h] at hi; cases hi
    · obtain ⟨hun, oj, hoj, hpj⟩ := mem_ready.1 hj
      by_cases hl : (setAll lr U).getD j true = false
      · have hr : j ∈ Region.ready .any ops lc := mem_ready.2 ⟨by rw [← h1]; exact hl, oj, hoj, fun e he hb => by rw [← h1]; exact setAll_true (hpj e he hb)⟩
        obtain ⟨fu', he, hw⟩ := hstep j oj hr hoj U lr ar hM hT hU hc h1 h2 hpj
        have : fu + n = fu' + U.length := by omega
        rw [this]; exact hw
      · obtain ⟨X, u, Y, rfl, rfl⟩ := dec_of hun hl
        have hu := okU_mem hU u (by simp)
        rw [hu.1] at hoj; cases hoj
        obtain ⟨k1, k2, k3, k4⟩ := okU_take (regOk_sel hd) hU hpj fun x hx d hxd => dstOk_spec hd (okU_mem hU x (by simp [hx])).1 hu.1 (okU_ne hU x hx) hxd
        refine k4.wpOp hu.1 (hT u (by simp)) ?_
        have := ih (X ++ Y) (lr.setIfInBounds u.i true) (ar.put u.o.dst u.v) (by simp at hn ⊢; omega) (fun x hx => hM x (by simp at hx ⊢; rcases hx with h | h <;> simp [h])) (fun x hx => hT x (by simp at hx ⊢; rcases hx with h | h <;> simp [h])) k1 (closed_set hc hu.1 hpj) (k2.trans h1) (k3.trans h2)
        have e2 : fu + n = fu + (X ++ Y).length := by simp at hn ⊢; omega
        rw [e2]; exact this

/-- The judgement: as far as the listed operations go, with those that may still wait. -/
def WP (P : Program) (f : FuncId) (ops : Array Oper) (fu : Nat) (dn : List Nat) (pend : List (Nat × List Ob)) (k : List Item) (a : Act) (w : World) (R : Value → World → Prop) : Prop :=
  ∀ (U : List Pd) (lr : Array Bool) (ar : Act), (∀ u ∈ U, u.obs = [] ∨ (u.i, u.obs) ∈ pend) → (∀ u ∈ U, u.T w) → OkU P ops lr ar U → Closed ops lr → setAll lr U = listed ops.size dn → putAll ar U = a →
    wpAny P .any ops (RQ P f k R) (fu + U.length) lr ar w

def needOb (ops : Array Oper) (j : Nat) : List (Nat × List Ob) → List Ob
  | [] => []
  | (i, obs) :: r => match anc ops i j with
    | true => needOb ops j r
    | false => obs ++ needOb ops j r
def keepP (ops : Array Oper) (j : Nat) : List (Nat × List Ob) → List (Nat × List Ob)
  | [] => []
  | (i, obs) :: r => match anc ops i j with
    | true => keepP ops j r
    | false => (i, obs) :: keepP ops j r
theorem keepP_mem {j i : Nat} {obs : List Ob} (h : anc ops i j = false) : ∀ {pend : List (Nat × List Ob)}, (i, obs) ∈ pend → (i, obs) ∈ keepP ops j pend
  | (i', o') :: r, hm => by
    simp only [keepP]
    cases hm with
    | head => rw [h]; exact List.mem_cons_self
    | tail _ hm =>
      split
      · exact keepP_mem h hm
      · exact List.mem_cons_of_mem _ (keepP_mem h hm)
theorem needOb_mem {w : World} {j i : Nat} {obs : List Ob} (h : anc ops i j = false) : ∀ {pend : List (Nat × List Ob)}, AllOb w (needOb ops j pend) → (i, obs) ∈ pend → AllOb w obs
  | (i', o') :: r, ha, hm => by
    simp only [needOb] at ha
    cases hm with
    | head => rw [h] at ha; exact (allOb_append.1 ha).1
    | tail _ hm =>
      split at ha
      · exact needOb_mem h ha hm
      · exact needOb_mem h (allOb_append.1 ha).2 hm

section
variable {f : FuncId} {k : List Item} {a : Act} {w : World} {R : Value → World → Prop} {fu : Nat} {dn : List Nat} {pend : List (Nat × List Ob)}

theorem Runs.draw' {id : Nat} (hm : P.follows .mixedOrders = true) (h : WP P f ops ops.size [] [] k a { w with drawn := w.drawn + 1 } R) : Runs P f (.code (.region id ops true) :: k) a w R := by
  refine Runs.of_wp (wp_region_any hm ?_)
  have := h [] (Array.replicate ops.size false) a (by simp) (by simp) trivial (fun x o hx ht => by
    rcases Nat.lt_or_ge x ops.size with h' | h'
    · simp [h'] at ht
    · simp only [Array.getD_eq_getD_getElem?, Array.getElem?_replicate] at ht
      split at ht <;> simp at ht) rfl rfl
  simpa using this

theorem WP.done (hs : regOk ops = true) (hr' : readyM (maskL dn) 0 ops.toList = []) (h : Runs P f k a w R) : WP P f ops fu dn pend k a w R := by
  have hr := (readyM_nil hs).1 hr'
  intro U lr ar _ hT hU hc h1 h2
  refine wpAny_pend hs (fun _ => True) (fun _ lr ar e1 e2 => ?_) (fun j oj hj => by rw [hr] at hj; cases hj) _ U lr ar rfl (fun _ _ => trivial) hT hU hc h1 h2
  subst e1; subst e2
  cases fu with
  | zero => exact ⟨hr, h⟩
  | succ fu => exact ⟨fun _ => h, fun i hi => by rw [hr] at hi; cases hi⟩

theorem WP.take {i : Nat} {o : Oper} {v : Value} {obs : List Ob} (hreg : regOk ops = true) (hi : ops[i]? = some o) (hr : i ∈ Region.ready .any ops (listed ops.size dn))
    (hy : YieldsIf P ops (fun w => AllOb w obs) o v a) (ho : AllOb w obs) (h : WP P f ops fu (dn ++ [i]) ((i, obs) :: pend) k (a.put o.dst v) w R) : WP P f ops (fu + 1) dn pend k a w R := by
  intro U lr ar hp hT hU hc h1 h2
  obtain ⟨hun, o', ho', hpr⟩ := mem_ready.1 hr
  rw [hi] at ho'; cases ho'
  have hfree : ∀ j oj, ops[j]? = some oj → j ≠ i → (listed ops.size dn).getD j true = false → (∀ e ∈ oj.after, Region.binds .any e = true → e.on ≠ i) → o.apart ops oj = true := by
    intro j oj hj hne hj2 hno
    obtain ⟨hd, hp⟩ := regOk_pair hreg hi hj (Ne.symm hne)
    rcases hp with (hp | hp) | ⟨hp, hq⟩
    · obtain ⟨e, he, hb, rfl⟩ := tb_edge.1 hp
      exact absurd rfl (hno e he hb)
    · obtain ⟨e, he, hb, rfl⟩ := tb_edge.1 hp
      have := hpr e he hb
      exact (true_false this hj2).elim
    · unfold Oper.apart
      cases hx : o.dst with
      | none =>
        cases hyd : oj.dst with
        | none => rfl
        | some d => simpa using unseen_spec hq hyd
      | some d =>
        have g1 := unseen_spec hp hx
        have g2 := dneq_spec hd hx
        cases hyd : oj.dst with
        | none => simp [g1]
        | some e => rw [hyd] at g2; simp only [ne_eq, Option.some.injEq] at g2; simpa [g1, g2] using unseen_spec hq hyd
  have := h (⟨i, o, v, obs⟩ :: U) lr ar (fun u hu => by
      cases hu with
      | head => right; simp
      | tail _ hm => rcases hp u hm with h | h; exact .inl h; exact .inr (List.mem_cons_of_mem _ h)) (fun u hu => by
      cases hu with
      | head => exact ho
      | tail _ hm => exact hT u hm) ⟨hi, by rw [h1]; exact hun, by rw [h1]; exact hpr, by rw [h2]; exact hy, by rw [h1]; exact hfree, hU⟩ hc (by rw [listed_snoc, ← h1]; rfl) (by simp only [putAll, h2])
  simp only [List.length_cons] at this
  have e : fu + 1 + U.length = fu + (U.length + 1) := by omega
  rw [e]; exact this

def segP (P : Program) (n : Nat) (ops : Array Oper) : List Nat → Env → List Value → List (Nat × List Ob) → List (Nat × List Ob)
  | [], L, _, pend => pend
  | i :: is, L, orc, pend => match ops[i]? with
    | none => pend
    | some o => match wantedL ops L o with
      | none => pend
      | some false => match setE n o.dst undef L with
        | some L1 => segP P n ops is L1 orc pend
        | none => pend
      | some true => match evOp P L o orc with
        | none => pend
        | some (v, obs, orc1) => match setE n o.dst v L with
          | none => pend
          | some L1 => match obs with
            | [] => segP P n ops is L1 orc1 pend
            | b :: bs => segP P n ops is L1 orc1 ((i, b :: bs) :: pend)

theorem WP.weaken {pend' : List (Nat × List Ob)} (hsub : ∀ i obs, obs ≠ [] → (i, obs) ∈ pend' → (i, obs) ∈ pend) (h : WP P f ops fu dn pend k a w R) : WP P f ops fu dn pend' k a w R := by
  intro U lr ar hp hT hU hc h1 h2
  refine h U lr ar (fun u hu => ?_) hT hU hc h1 h2
  rcases hp u hu with h | h
  · exact .inl h
  · by_cases he : u.obs = []
    · exact .inl he
    · exact .inr (hsub _ _ he h)

theorem WP.segs {n : Nat} (hreg : regOk ops = true) : ∀ (is : List Nat) (fu m : Nat) (dn : List Nat) (pend : List (Nat × List Ob)) (a : Act) (L : Env) (orc : List Value) (L' : Env) (obs : List Ob), EnvOk n a L → (∀ x, tb m x = true ↔ x ∈ dn) →
    takeM ops is m = true → evSeg P n ops is L orc = some (L', obs) → AllOb w obs →
    (∀ a', EnvOk n a' L' → WP P f ops fu (dn ++ is) (segP P n ops is L orc pend) k a' w R) → WP P f ops (is.length + fu) dn pend k a w R := by
  intro is
  induction is with
  | nil => intro fu m dn pend a L orc L' obs hE _ _ h _ hk; simp [evSeg] at h; obtain ⟨rfl, rfl⟩ := h; simpa [segP] using hk a hE
  | cons i is ih =>
    intro fu m dn pend a L orc L' obs hE hm ht h ho hk
    obtain ⟨o0, ho0, ht1, ht2, ht3⟩ : ∃ o, ops[i]? = some o ∧ tb m i = false ∧ subM (edgeM o) m = true ∧ takeM ops is (bitL i m) = true := by
      simp only [takeM] at ht
      split at ht
      · cases ht
      · rename_i o ho
        split at ht
        · cases ht
        · rename_i h1
          split at ht
          · cases ht
          · rename_i h2
            exact ⟨o, ho, h1, h2, ht⟩
    have hrdy := ready_of hreg hm ho0 ht1 ht2
    have hm' : ∀ x, tb (bitL i m) x = true ↔ x ∈ dn ++ [i] := fun x => by
      rw [tb_bit, hm, List.mem_append, List.mem_singleton, or_comm]
    have hfu : (i :: is).length + fu = (is.length + fu) + 1 := by simp; omega
    rw [hfu]
    simp only [evSeg] at h
    split at h
    · cases h
    · rename_i o hoi
      split at h
      · cases h
      · rename_i hw
        split at h
        · rename_i L1 hL1
          have e : ∀ pend, segP P n ops (i :: is) L orc pend = segP P n ops is L1 orc pend := fun pend => by simp [segP, hoi, hw, hL1]
          refine WP.take hreg hoi hrdy (obs := []) (v := undef) (.inr ⟨wantedL_sound hE hw, rfl⟩) trivial ?_
          refine WP.weaken (pend := pend) (fun i' obs' hne hm => by
            cases hm with
            | head => exact absurd rfl hne
            | tail _ hm => exact hm) ?_
          exact ih fu _ (dn ++ [i]) pend _ L1 orc L' obs (setE_sound hE hL1) hm' ht3 h ho fun a2 h2 => by have := hk a2 h2; rw [e] at this; simpa using this
        · cases h
      · rename_i hw
        split at h
        · cases h
        · rename_i v obs1 orc1 hv
          split at h
          · cases h
          · rename_i L1 hL1
            split at h
            · rename_i L2 obs2 hseg
              cases h
              rw [allOb_append] at ho
              refine WP.take hreg hoi hrdy (obs := obs1) (v := v) (.inl ⟨wantedL_sound hE hw, fun w hw => evOp_sound hE hv hw⟩) ho.1 ?_
              cases obs1 with
              | nil =>
                have e : ∀ pend, segP P n ops (i :: is) L orc pend = segP P n ops is L1 orc1 pend := fun pend => by simp [segP, hoi, hw, hv, hL1]
                refine WP.weaken (pend := pend) (fun i' obs' hne hm => by
                  cases hm with
                  | head => exact absurd rfl hne
                  | tail _ hm => exact hm) ?_
                exact ih fu _ (dn ++ [i]) pend _ L1 orc1 _ obs2 (setE_sound hE hL1) hm' ht3 hseg ho.2 fun a2 h2 => by have := hk a2 h2; rw [e] at this; simpa using this
              | cons b bs =>
                have e : ∀ pend, segP P n ops (i :: is) L orc pend = segP P n ops is L1 orc1 ((i, b :: bs) :: pend) := fun pend => by simp [segP, hoi, hw, hv, hL1]
                exact ih fu _ (dn ++ [i]) ((i, b :: bs) :: pend) _ L1 orc1 _ obs2 (setE_sound hE hL1) hm' ht3 hseg ho.2 fun a2 h2 => by have := hk a2 h2; rw [e] at this; simpa using this
            · cases h

theorem WP.seg {n : Nat} {L : Env} (hreg : regOk ops = true) (hE : EnvOk n a L) (is : List Nat) (orc : List Value) (ks : List Nat) {Lo : Env} {obs : List Ob}
    (ht : takeM ops is (maskL dn) = true) (he : segRes P n ops is L orc ks = some (Lo, obs)) (ho : AllOb w obs)
    (hk : ∀ a', EnvOk n a' Lo → WP P f ops fu (dn ++ is) (segP P n ops is L orc pend) k a' w R) : WP P f ops (is.length + fu) dn pend k a w R := by
  unfold segRes at he
  split at he
  · cases he
  · rename_i L1 obs1 hs
    split at he
    · rename_i Lo1 hsel
      cases he
      exact WP.segs hreg _ _ _ _ _ _ _ _ _ _ hE (fun x => maskL_tb x dn) ht hs ho fun a' ha' => hk a' (sel_sound ha' hsel)
    · cases he

theorem exec_putAll {ar : Act} {o : Oper} (hsel : ∀ cs b, o.op ≠ .select cs b) : ∀ {U : List Pd}, (∀ u ∈ U, ∀ d, u.o.dst = some d → d ∉ o.looksAt ops) → execOp (putAll ar U).eval o = execOp ar.eval o ∧ Region.wanted o (yielded ops (putAll ar U).tmps) = Region.wanted o (yielded ops ar.tmps)
  | [], _ => ⟨rfl, rfl⟩
  | u :: U, h => by
    obtain ⟨h1, h2⟩ := exec_putAll (ar := ar) hsel fun x hx => h x (List.mem_cons_of_mem _ hx)
    exact ⟨(execOp_put o hsel _ _ _ (h u (by simp))).trans h1, (wanted_put o _ _ _ (h u (by simp))).trans h2⟩

/-- An operation that may come up and act now. -/
def ActP (P : Program) (f : FuncId) (ops : Array Oper) (fu : Nat) (dn : List Nat) (pend : List (Nat × List Ob)) (k : List Item) (a : Act) (w : World) (R : Value → World → Prop) (j : Nat) : Prop :=
  ∃ (o : Oper) (Rv : Value → World → Prop), ops[j]? = some o ∧ Region.wanted o (yielded ops a.tmps) = true ∧ OpTo P o a w Rv ∧ ∀ v w', Rv v w' → AllOb w' (needOb ops j pend) ∧ WP P f ops fu (dn ++ [j]) (keepP ops j pend) k (a.put o.dst v) w' R

theorem WP.acts (hs : regOk ops = true) {rs : List Nat} (hr : readyM (maskL dn) 0 ops.toList = rs) (hne : rs ≠ []) (hA : ∀ j ∈ rs, ActP P f ops fu dn pend k a w R j) : WP P f ops (fu + 1) dn pend k a w R := by
  intro U lr ar hp hT hU hc h1 h2
  refine wpAny_pend hs (fun u => u.obs = [] ∨ (u.i, u.obs) ∈ pend) (fun h => absurd (hr.symm.trans ((readyM_nil hs).2 h)) hne) (fun j' oj hj' hoj U lr ar hM hT hU hc h1 h2 hpj => ?_) _ U lr ar rfl hp hT hU hc h1 h2
  refine ⟨fu, rfl, ?_⟩
  have hun := (mem_ready.1 hj').1
  obtain ⟨o, Rv, hi, hw, h, hk⟩ := hA j' (hr ▸ (readyM_eq hs dn j').2 hj')
  have hoo : oj = o := by rw [hi] at hoj; exact (Option.some.inj hoj).symm
  subst hoo
  rw [← h1] at hun
  have hap := apart_of (P := P) hi hpj hU hun
  have hsel : ∀ cs b, oj.op ≠ .select cs b := fun cs b => Region.noSelect_spec (regOk_sel hs) j' oj cs b hi
  obtain ⟨e1, e2⟩ := exec_putAll (ops := ops) (ar := ar) hsel fun u hu d hd => (Oper.apart_spec (hap u hu)).1 d hd
  rw [h2] at e1 e2
  unfold wpOp
  simp only [hi, ← e2, hw, if_true]
  refine .inl (h.wp e1 fun v w' hv => ?_)
  obtain ⟨k1, k2⟩ := hk v w' hv
  have hanc : ∀ u ∈ U, anc ops u.i j' = false := fun u hu => by
    cases hA : anc ops u.i j' with
    | false => rfl
    | true =>
      have t1 := anc_in hc _ _ _ hi hpj hA
      exact (true_false t1 (okU_mem hU u hu).2).elim
  have hne : ∀ u ∈ U, u.i ≠ j' := fun u hu he => by
    obtain ⟨X, Y, rfl⟩ := List.append_of_mem hu
    have : (setAll lr (X ++ u :: Y)).getD u.i true ≠ false := by
      clear hun hap e1 e2 hanc hu hM hT hU h1 h2
      induction X with
      | nil =>
        simp only [List.nil_append, setAll]
        intro h
        rcases Nat.lt_or_ge u.i (setAll lr Y).size with h' | h'
        · simp [h'] at h
        · simp [Array.getElem?_eq_none h'] at h
      | cons z X ih => intro h; exact ih (getD_mono h)
    rw [he] at this
    exact this hun
  refine k2 U (lr.setIfInBounds j' true) (ar.put oj.dst v) (fun u hu => ?_) (fun u hu => ?_) (okU_step (regOk_sel hs) v hi hap hne hU) (closed_set hc hi hpj) (by rw [setAll_set, h1, listed_snoc]) (by rw [putAll_put ar U fun u hu x hx => (Oper.apart_spec (hap u hu)).2.1 x hx, h2])
  · rcases hM u hu with h | h
    · exact .inl h
    · exact .inr (keepP_mem (hanc u hu) h)
  · rcases hM u hu with h | h
    · unfold Pd.T; rw [h]; trivial
    · exact needOb_mem (hanc u hu) k1 h


def eqL : List Nat → List Nat → Bool
  | [], [] => true
  | x :: l, y :: r => match Nat.beq x y with
    | true => eqL l r
    | false => false
  | _, _ => false
theorem eqL_eq : ∀ {l r : List Nat}, eqL l r = true → l = r
  | [], [], _ => rfl
  | x :: l, y :: r, h => by
    simp only [eqL] at h
    split at h
    · rename_i hb
      rw [Nat.eq_of_beq_eq_true hb, eqL_eq h]
    · cases h
theorem WP.effG {j : Nat} {o : Oper} {Rv : Value → World → Prop} (hs : regOk ops = true) (hr : readyM (maskL dn) 0 ops.toList = [j]) (hi : ops[j]? = some o)
    (hw : Region.wanted o (yielded ops a.tmps) = true) (h : OpTo P o a w Rv) (hk : ∀ v w', Rv v w' → AllOb w' (needOb ops j pend) ∧ WP P f ops fu (dn ++ [j]) (keepP ops j pend) k (a.put o.dst v) w' R) : WP P f ops (fu + 1) dn pend k a w R :=
  WP.acts hs hr (by simp) fun j' hj' => by
    simp only [List.mem_singleton] at hj'
    subst hj'
    exact ⟨o, Rv, hi, hw, h, hk⟩

theorem WP.eff {j n d : Nat} {L : Env} {o : Oper} {Rv : Value → World → Prop} {obs : List Ob} (hE : EnvOk n a L) (hs : regOk ops = true) (hr : eqL (readyM (maskL dn) 0 ops.toList) [j] = true) (hi : ops[j]? = some o) (hd : o.dst = some d) (hn : Nat.blt d n = true)
    (hw : wantedL ops L o = some true) (hno : needOb ops j pend = obs) (h : OpTo P o a w Rv) (hk : ∀ v w', Rv v w' → AllOb w' obs ∧ ∀ a', EnvOk n a' ((d, v) :: L) → WP P f ops fu (dn ++ [j]) (keepP ops j pend) k a' w' R) : WP P f ops (fu + 1) dn pend k a w R := by
  refine WP.effG hs (eqL_eq hr) hi (wantedL_sound hE hw) h fun v w' hv => ?_
  obtain ⟨h1, h2⟩ := hk v w' hv
  exact ⟨by rw [hno]; exact h1, h2 _ (by rw [hd]; exact hE.put _ _ (by simpa [Nat.blt_eq] using hn))⟩
theorem WP.eff0 {j n : Nat} {L : Env} {o : Oper} {Rv : Value → World → Prop} {obs : List Ob} (hE : EnvOk n a L) (hs : regOk ops = true) (hr : eqL (readyM (maskL dn) 0 ops.toList) [j] = true) (hi : ops[j]? = some o) (hd : o.dst = none)
    (hw : wantedL ops L o = some true) (hno : needOb ops j pend = obs) (h : OpTo P o a w Rv) (hk : ∀ v w', Rv v w' → AllOb w' obs ∧ ∀ a', EnvOk n a' L → WP P f ops fu (dn ++ [j]) (keepP ops j pend) k a' w' R) : WP P f ops (fu + 1) dn pend k a w R := by
  refine WP.effG hs (eqL_eq hr) hi (wantedL_sound hE hw) h fun v w' hv => ?_
  obtain ⟨h1, h2⟩ := hk v w' hv
  exact ⟨by rw [hno]; exact h1, h2 _ (by rw [hd]; exact hE)⟩

/-! The same, with the rounds that are left reckoned out of what is done. -/
def WQ (P : Program) (f : FuncId) (ops : Array Oper) (dn : List Nat) (pend : List (Nat × List Ob)) (k : List Item) (a : Act) (w : World) (R : Value → World → Prop) : Prop :=
  regOk ops = true → WP P f ops (ops.size - dn.length) dn pend k a w R

theorem Runs.drawn {id : Nat} (hm : P.follows .mixedOrders = true) (hs : regOk ops = true) (h : WQ P f ops [] [] k a { w with drawn := w.drawn + 1 } R) : Runs P f (.code (.region id ops true) :: k) a w R := Runs.draw' hm (by simpa [WQ] using h hs)
theorem WQ.done (hr : eqL (readyM (maskL dn) 0 ops.toList) [] = true) (h : Runs P f k a w R) : WQ P f ops dn pend k a w R := fun hs =>
  WP.done hs (eqL_eq hr) h
theorem WQ.seg {n : Nat} {L : Env} (hE : EnvOk n a L) (is : List Nat) (orc : List Value) (ks : List Nat) {Lo : Env} {obs : List Ob}
    (ht : (Nat.ble (dn.length + is.length) ops.size && takeM ops is (maskL dn)) = true) (he : segRes P n ops is L orc ks = some (Lo, obs)) (ho : AllOb w obs)
    (hk : ∀ a', EnvOk n a' Lo → WQ P f ops (dn ++ is) (segP P n ops is L orc pend) k a' w R) : WQ P f ops dn pend k a w R := by
  simp only [Bool.and_eq_true] at ht
  have hle := Nat.le_of_ble_eq_true ht.1
  have e : ops.size - dn.length = is.length + (ops.size - (dn ++ is).length) := by simp; omega
  unfold WQ
  rw [e]
  intro hs
  exact WP.seg hs hE is orc ks ht.2 he ho fun a ha => hk a ha hs
theorem WQ.eff {j n d : Nat} {L : Env} {o : Oper} {Rv : Value → World → Prop} {obs : List Ob} (hE : EnvOk n a L) (hr : (Nat.blt dn.length ops.size && eqL (readyM (maskL dn) 0 ops.toList) [j]) = true) (hi : ops[j]? = some o) (hd : o.dst = some d) (hn : Nat.blt d n = true)
    (hw : wantedL ops L o = some true) (hno : needOb ops j pend = obs) (h : OpTo P o a w Rv) (hk : ∀ v w', Rv v w' → AllOb w' obs ∧ ∀ a', EnvOk n a' ((d, v) :: L) → WQ P f ops (dn ++ [j]) (keepP ops j pend) k a' w' R) : WQ P f ops dn pend k a w R := by
  rw [Bool.and_eq_true] at hr
  have hlt : dn.length < ops.size := by simpa [Nat.blt_eq] using hr.1
  have e : ops.size - dn.length = (ops.size - (dn ++ [j]).length) + 1 := by simp; omega
  unfold WQ
  rw [e]
  intro hs
  exact WP.eff hE hs hr.2 hi hd hn hw hno h fun v w' hv => ⟨(hk v w' hv).1, fun a ha => (hk v w' hv).2 a ha hs⟩
theorem WQ.eff0 {j n : Nat} {L : Env} {o : Oper} {Rv : Value → World → Prop} {obs : List Ob} (hE : EnvOk n a L) (hr : (Nat.blt dn.length ops.size && eqL (readyM (maskL dn) 0 ops.toList) [j]) = true) (hi : ops[j]? = some o) (hd : o.dst = none)
    (hw : wantedL ops L o = some true) (hno : needOb ops j pend = obs) (h : OpTo P o a w Rv) (hk : ∀ v w', Rv v w' → AllOb w' obs ∧ ∀ a', EnvOk n a' L → WQ P f ops (dn ++ [j]) (keepP ops j pend) k a' w' R) : WQ P f ops dn pend k a w R := by
  rw [Bool.and_eq_true] at hr
  have hlt : dn.length < ops.size := by simpa [Nat.blt_eq] using hr.1
  have e : ops.size - dn.length = (ops.size - (dn ++ [j]).length) + 1 := by simp; omega
  unfold WQ
  rw [e]
  intro hs
  exact WP.eff0 hE hs hr.2 hi hd hw hno h fun v w' hv => ⟨(hk v w' hv).1, fun a ha => (hk v w' hv).2 a ha hs⟩

def AQ (P : Program) (f : FuncId) (ops : Array Oper) (dn : List Nat) (pend : List (Nat × List Ob)) (k : List Item) (a : Act) (w : World) (R : Value → World → Prop) (j : Nat) : Prop :=
  regOk ops = true → ActP P f ops (ops.size - (dn.length + 1)) dn pend k a w R j
theorem WQ.acts (rs : List Nat) (hr : (Nat.blt dn.length ops.size && eqL (readyM (maskL dn) 0 ops.toList) rs) = true) (hne : rs ≠ []) (hA : ∀ j ∈ rs, AQ P f ops dn pend k a w R j) : WQ P f ops dn pend k a w R := by
  rw [Bool.and_eq_true] at hr
  have hlt : dn.length < ops.size := by simpa [Nat.blt_eq] using hr.1
  have e : ops.size - dn.length = (ops.size - (dn.length + 1)) + 1 := by omega
  unfold WQ
  rw [e]
  exact fun hs => WP.acts hs (eqL_eq hr.2) hne fun j hj => hA j hj hs
theorem WQ.act2 (i j : Nat) (hr : (Nat.blt dn.length ops.size && eqL (readyM (maskL dn) 0 ops.toList) [i, j]) = true) (h1 : AQ P f ops dn pend k a w R i) (h2 : AQ P f ops dn pend k a w R j) : WQ P f ops dn pend k a w R :=
  WQ.acts [i, j] hr (by simp) fun x hx => by
    simp only [List.mem_cons, List.not_mem_nil, or_false] at hx
    rcases hx with rfl | rfl
    · exact h1
    · exact h2
theorem WQ.act3 (i j l : Nat) (hr : (Nat.blt dn.length ops.size && eqL (readyM (maskL dn) 0 ops.toList) [i, j, l]) = true) (h1 : AQ P f ops dn pend k a w R i) (h2 : AQ P f ops dn pend k a w R j) (h3 : AQ P f ops dn pend k a w R l) : WQ P f ops dn pend k a w R :=
  WQ.acts [i, j, l] hr (by simp) fun x hx => by
    simp only [List.mem_cons, List.not_mem_nil, or_false] at hx
    rcases hx with rfl | rfl | rfl
    · exact h1
    · exact h2
    · exact h3
theorem AQ.eff {j n d : Nat} {L : Env} {o : Oper} {Rv : Value → World → Prop} {obs : List Ob} (hE : EnvOk n a L) (hi : ops[j]? = some o) (hd : o.dst = some d) (hn : Nat.blt d n = true)
    (hw : wantedL ops L o = some true) (hno : needOb ops j pend = obs) (h : OpTo P o a w Rv) (hk : ∀ v w', Rv v w' → AllOb w' obs ∧ ∀ a', EnvOk n a' ((d, v) :: L) → WQ P f ops (dn ++ [j]) (keepP ops j pend) k a' w' R) : AQ P f ops dn pend k a w R j := by
  refine fun hs => ⟨o, Rv, hi, wantedL_sound hE hw, h, fun v w' hv => ?_⟩
  obtain ⟨h1, h2⟩ := hk v w' hv
  refine ⟨by rw [hno]; exact h1, ?_⟩
  have := h2 (a.put o.dst v) (by rw [hd]; exact hE.put _ _ (by simpa [Nat.blt_eq] using hn))
  unfold WQ at this
  simpa using this hs
theorem AQ.eff0 {j n : Nat} {L : Env} {o : Oper} {Rv : Value → World → Prop} {obs : List Ob} (hE : EnvOk n a L) (hi : ops[j]? = some o) (hd : o.dst = none)
    (hw : wantedL ops L o = some true) (hno : needOb ops j pend = obs) (h : OpTo P o a w Rv) (hk : ∀ v w', Rv v w' → AllOb w' obs ∧ ∀ a', EnvOk n a' L → WQ P f ops (dn ++ [j]) (keepP ops j pend) k a' w' R) : AQ P f ops dn pend k a w R j := by
  refine fun hs => ⟨o, Rv, hi, wantedL_sound hE hw, h, fun v w' hv => ?_⟩
  obtain ⟨h1, h2⟩ := hk v w' hv
  refine ⟨by rw [hno]; exact h1, ?_⟩
  have := h2 (a.put o.dst v) (by rw [hd]; exact hE)
  unfold WQ at this
  simpa using this hs
end
end

end Go.Th
