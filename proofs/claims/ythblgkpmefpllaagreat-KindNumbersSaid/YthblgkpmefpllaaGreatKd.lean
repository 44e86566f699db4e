import Derived.Test.YthblgkpmefpllaaGreatE10
set_option linter.unusedVariables false
set_option linter.unusedSimpArgs false
set_option maxRecDepth 10000
set_option maxHeartbeats 4000000
namespace Go.Proofs.YthblgkpmefpllaaGreat
open Go.Th

structure arena_cell where
  f0 : Int
  f1 : Int
  f2 : Int
  f3 : Int
  f4 : Int
  f5 : Int
  f6 : Int
  f7 : Int
  f8 : Int
  f9 : Int
  taken : Bool

def arena_cell.enc (x : arena_cell) : List Value := [.int .i64 x.f0, .int .i64 x.f1, .int .i64 x.f2, .int .i64 x.f3, .int .i64 x.f4, .int .i64 x.f5, .int .i64 x.f6, .int .i64 x.f7, .int .i64 x.f8, .int .i64 x.f9, .bool x.taken]

def arena_cell.get_f (x : arena_cell) (i : Int) : Option Int :=
  if i = 0 then some x.f0 else if i = 1 then some x.f1 else if i = 2 then some x.f2 else if i = 3 then some x.f3 else if i = 4 then some x.f4 else if i = 5 then some x.f5 else if i = 6 then some x.f6 else if i = 7 then some x.f7 else if i = 8 then some x.f8 else if i = 9 then some x.f9 else none

def arena_cell.set_f (x : arena_cell) (i v : Int) : Option arena_cell :=
  if i = 0 then some (arena_cell.mk v x.f1 x.f2 x.f3 x.f4 x.f5 x.f6 x.f7 x.f8 x.f9 x.taken) else if i = 1 then some (arena_cell.mk x.f0 v x.f2 x.f3 x.f4 x.f5 x.f6 x.f7 x.f8 x.f9 x.taken) else if i = 2 then some (arena_cell.mk x.f0 x.f1 v x.f3 x.f4 x.f5 x.f6 x.f7 x.f8 x.f9 x.taken) else if i = 3 then some (arena_cell.mk x.f0 x.f1 x.f2 v x.f4 x.f5 x.f6 x.f7 x.f8 x.f9 x.taken) else if i = 4 then some (arena_cell.mk x.f0 x.f1 x.f2 x.f3 v x.f5 x.f6 x.f7 x.f8 x.f9 x.taken) else if i = 5 then some (arena_cell.mk x.f0 x.f1 x.f2 x.f3 x.f4 v x.f6 x.f7 x.f8 x.f9 x.taken) else if i = 6 then some (arena_cell.mk x.f0 x.f1 x.f2 x.f3 x.f4 x.f5 v x.f7 x.f8 x.f9 x.taken) else if i = 7 then some (arena_cell.mk x.f0 x.f1 x.f2 x.f3 x.f4 x.f5 x.f6 v x.f8 x.f9 x.taken) else if i = 8 then some (arena_cell.mk x.f0 x.f1 x.f2 x.f3 x.f4 x.f5 x.f6 x.f7 v x.f9 x.taken) else if i = 9 then some (arena_cell.mk x.f0 x.f1 x.f2 x.f3 x.f4 x.f5 x.f6 x.f7 x.f8 v x.taken) else none

theorem arena_cell.enc_ok : EncOk arena_cell.enc 11 := ⟨fun _ => rfl, fun x u hu => by simp only [arena_cell.enc, List.mem_cons, List.not_mem_nil, or_false] at hu; rcases hu with rfl | rfl | rfl | rfl | rfl | rfl | rfl | rfl | rfl | rfl | rfl <;> rfl⟩

structure meter_Meter where
  steps : Int
  begun : Int
  most : Int

structure arena_Arena where
  l : List arena_cell
  never : Int
  free : List Int
  m_ : meter_Meter

structure api_Entry where
  Key : Int
  Serial : Int

def api_Entry.enc (x : api_Entry) : List Value := [.int .i64 x.Key, .int .i64 x.Serial]

theorem api_Entry.enc_ok : EncOk api_Entry.enc 2 := ⟨fun _ => rfl, fun x u hu => by simp only [api_Entry.enc, List.mem_cons, List.not_mem_nil, or_false] at hu; rcases hu with rfl | rfl <;> rfl⟩

structure trees_ranked where
  n : Int
  rank : Int

def trees_ranked.enc (x : trees_ranked) : List Value := [.int .i64 x.n, .int .i64 x.rank]

theorem trees_ranked.enc_ok : EncOk trees_ranked.enc 2 := ⟨fun _ => rfl, fun x u hu => by simp only [trees_ranked.enc, List.mem_cons, List.not_mem_nil, or_false] at hu; rcases hu with rfl | rfl <;> rfl⟩

structure fib_ranked where
  n : Int
  rank : Int

def fib_ranked.enc (x : fib_ranked) : List Value := [.int .i64 x.n, .int .i64 x.rank]

theorem fib_ranked.enc_ok : EncOk fib_ranked.enc 2 := ⟨fun _ => rfl, fun x u hu => by simp only [fib_ranked.enc, List.mem_cons, List.not_mem_nil, or_false] at hu; rcases hu with rfl | rfl <;> rfl⟩

def meter_New  : Option (meter_Meter) :=
  some (meter_Meter.mk 0 0 0)

def arena_New (cells : Int) : Option (arena_Arena) :=
  (mMake (if (if 65536 < cells then 65536 else cells) > 0 then (if 65536 < cells then 65536 else cells) else 0) (arena_cell.mk 0 0 0 0 0 0 0 0 0 0 false)).bind fun l =>
  (meter_New).bind fun t_ =>
  some (arena_Arena.mk l 0 ([] : List Int) t_)

def order_Add (a_ : Int) (b : Int) : Option (Int) :=
  (bif (decide (b > 0)) && (decide (a_ > w64 (9223372036854775807 - b))) then
    some 9223372036854775807
  else
    (bif (decide (b < 0)) && (decide (a_ < w64 ((-9223372036854775808) - b))) then
      some (-9223372036854775808)
    else
      some (w64 (a_ + b))))

def meter_Meter_Tick (m_ : meter_Meter) (n : Int) : Option (meter_Meter) :=
  (order_Add m_.steps (if n > 0 then n else 0)).bind fun t_ =>
  some (meter_Meter.mk t_ m_.begun m_.most)

def arena_fresh  : Option (arena_cell) :=
  some (arena_cell.mk (-1) (-1) (-1) (-1) 0 0 (-1) 0 0 (-1) true)

def arena_Arena_Take (a_ : arena_Arena) : Option (Int × Bool × arena_Arena) :=
  (meter_Meter_Tick a_.m_ 1).bind fun t_ =>
  ((bif decide (w64 ((a_.free.length : Int) - 1) ≥ 0) then
    (mIdx a_.free (w64 ((a_.free.length : Int) - 1))).bind fun x =>
    (mCut a_.free 0 (w64 ((a_.free.length : Int) - 1))).bind fun l =>
    some (.inr (x, arena_Arena.mk a_.l a_.never l t_))
  else
    (bif decide (a_.never ≥ (a_.l.length : Int)) then
      some (.inl ((-1), false, arena_Arena.mk a_.l a_.never a_.free t_))
    else
      some (.inr (a_.never, arena_Arena.mk a_.l (w64 (a_.never + 1)) a_.free t_)))) : Option ((Int × Bool × arena_Arena) ⊕ (Int × arena_Arena))).bind fun s =>
  match s with
  | .inl r_ => some r_
  | .inr s1 =>
    (arena_fresh).bind fun t_1 =>
    (mIdx s1.2.l s1.1).bind fun x1 =>
    some (s1.1, true, arena_Arena.mk (mSet s1.2.l s1.1 t_1) s1.2.never s1.2.free s1.2.m_)

def arena_Arena_Live (a_ : arena_Arena) (c_ : Int) : Option (Bool) :=
  ((bif decide (c_ ≥ 0) then
    (bif decide (c_ < (a_.l.length : Int)) then
      (mIdx a_.l c_).bind fun x1 =>
      some x1.taken
    else
      some false)
  else
    some false)).bind fun s =>
  some s

def arena_Arena_has (a_ : arena_Arena) (c_ : Int) (field : Int) : Option (Bool) :=
  ((arena_Arena_Live a_ c_).bind fun t_ =>
  (bif t_ then
    (bif decide (field ≥ 0) then
      some (decide (field < 10))
    else
      some false)
  else
    some false)).bind fun s =>
  some s

def arena_Arena_Set (a_ : arena_Arena) (c_ : Int) (field : Int) (v_ : Int) : Option (Bool × arena_Arena) :=
  (meter_Meter_Tick a_.m_ 1).bind fun t_ =>
  (arena_Arena_has (arena_Arena.mk a_.l a_.never a_.free t_) c_ field).bind fun t_1 =>
  (bif !t_1 then
    some (false, arena_Arena.mk a_.l a_.never a_.free t_)
  else
    (mIdx a_.l c_).bind fun x =>
    (mIn field 10).bind fun u =>
    (arena_cell.set_f x field v_).bind fun y =>
    some (true, arena_Arena.mk (mSet a_.l c_ y) a_.never a_.free t_))

def item_New (a_ : arena_Arena) (key : Int) (serial : Int) : Option (Int × Bool × arena_Arena) :=
  (arena_Arena_Take a_).bind fun t_ =>
  ((bif t_.2.1 then
    (arena_Arena_Set t_.2.2 t_.1 7 key).bind fun t_1 =>
    (arena_Arena_Set t_1.2 t_.1 8 serial).bind fun t_2 =>
    some t_2.2
  else
    some t_.2.2)).bind fun s =>
  some (t_.1, t_.2.1, s)

def item_Put (a_ : arena_Arena) (n : Int) (i : Int) : Option (arena_Arena) :=
  (arena_Arena_Set a_ n 6 i).bind fun t_ =>
  (arena_Arena_Set t_.2 i 9 n).bind fun t_1 =>
  some t_1.2

def node_New (a_ : arena_Arena) (i : Int) : Option (Int × Bool × arena_Arena) :=
  (arena_Arena_Take a_).bind fun t_ =>
  ((bif t_.2.1 then
    (item_Put t_.2.2 t_.1 i).bind fun t_1 =>
    some t_1
  else
    some t_.2.2)).bind fun s =>
  some (t_.1, t_.2.1, s)

def arena_Arena_Cells (a_ : arena_Arena) : Option (Int) :=
  some (a_.l.length : Int)

def arena_Arena_Get (a_ : arena_Arena) (c_ : Int) (field : Int) : Option (Int × arena_Arena) :=
  (meter_Meter_Tick a_.m_ 1).bind fun t_ =>
  (arena_Arena_has (arena_Arena.mk a_.l a_.never a_.free t_) c_ field).bind fun t_1 =>
  (bif !t_1 then
    some ((-1), arena_Arena.mk a_.l a_.never a_.free t_)
  else
    (mIdx a_.l c_).bind fun x =>
    (mIn field 10).bind fun u =>
    (arena_cell.get_f x field).bind fun v_ =>
    some (v_, arena_Arena.mk a_.l a_.never a_.free t_))

def arena_Arena_Cell (a_ : arena_Arena) (c_ : Int) (field : Int) : Option (Int × arena_Arena) :=
  (arena_Arena_Get a_ c_ field).bind fun t_ =>
  ((bif decide (t_.1 < 0) then
    some (true, t_.2)
  else
    some (decide (t_.1 ≥ (a_.l.length : Int)), arena_Arena.mk a_.l t_.2.never a_.free t_.2.m_))).bind fun s =>
  (bif s.1 then
    some ((-1), s.2)
  else
    some (t_.1, s.2))

def item_Entry (a_ : arena_Arena) (i : Int) : Option (api_Entry × arena_Arena) :=
  (arena_Arena_Get a_ i 7).bind fun t_ =>
  (arena_Arena_Get t_.2 i 8).bind fun t_1 =>
  some (api_Entry.mk t_.1 t_1.1, t_1.2)

def cmp_isNaN_int64 (x : Int) : Option (Bool) :=
  some (x != x)

def cmp_Compare_int64 (x : Int) (y : Int) : Option (Int) :=
  (cmp_isNaN_int64 x).bind fun t_ =>
  (cmp_isNaN_int64 y).bind fun t_1 =>
  (bif t_ then
    (bif t_1 then
      some 0
    else
      some (-1))
  else
    (bif t_1 then
      some 1
    else
      (bif decide (x < y) then
        some (-1)
      else
        (bif decide (x > y) then
          some 1
        else
          some 0))))

def cmp_Or_int_l0 (x1 : Int) (l : List Int) : Nat → Int → Option ((Int) ⊕ (Unit))
  | 0, _ => none
  | m + 1, x =>
    (bif decide (x < x1) then
      (mIdx l x).bind fun x2 =>
      (bif x2 != 0 then
        some (.inl x2)
      else
        cmp_Or_int_l0 x1 l m (w64 (x + 1)))
    else
      some (.inr ()))

def cmp_Or_int (k : Nat) (vals : List Int) : Option (Int) :=
  (cmp_Or_int_l0 (vals.length : Int) vals k 0).bind fun s =>
  match s with
  | .inl r_ => some r_
  | .inr s1 =>
    some 0

def order_Compare (k : Nat) (a_ : api_Entry) (b : api_Entry) : Option (Int) :=
  (cmp_Compare_int64 a_.Key b.Key).bind fun t_ =>
  (cmp_Compare_int64 a_.Serial b.Serial).bind fun t_1 =>
  (cmp_Or_int k ([t_, t_1] : List Int)).bind fun t_2 =>
  some t_2

def item_Before (k : Nat) (a_ : arena_Arena) (i : Int) (j : Int) : Option (Bool × arena_Arena) :=
  (item_Entry a_ i).bind fun t_ =>
  (item_Entry t_.2 j).bind fun t_1 =>
  (order_Compare k t_.1 t_1.1).bind fun t_2 =>
  some ((decide (t_2 < 0)) || ((t_2 == 0) && (decide (i < j))), t_1.2)

def node_Before (k : Nat) (a_ : arena_Arena) (n : Int) (m_ : Int) : Option (Bool × arena_Arena) :=
  (arena_Arena_Cell a_ n 6).bind fun t_ =>
  (arena_Arena_Cell t_.2 m_ 6).bind fun t_1 =>
  (item_Before k t_1.2 t_.1 t_1.1).bind fun t_2 =>
  some (t_2.1, t_2.2)

def leftist_rank (a_ : arena_Arena) (n : Int) : Option (Int × arena_Arena) :=
  (bif n == (-1) then
    some (0, a_)
  else
    (arena_Arena_Get a_ n 4).bind fun t_ =>
    some (t_.1, t_.2))

def leftist_fix (a_ : arena_Arena) (n : Int) : Option (Bool × arena_Arena) :=
  (arena_Arena_Cell a_ n 2).bind fun t_ =>
  (arena_Arena_Cell t_.2 n 3).bind fun t_1 =>
  (leftist_rank t_1.2 t_.1).bind fun t_2 =>
  (leftist_rank t_2.2 t_1.1).bind fun t_3 =>
  ((bif decide (t_2.1 < t_3.1) then
    (arena_Arena_Set t_3.2 n 2 t_1.1).bind fun t_4 =>
    (arena_Arena_Set t_4.2 n 3 t_.1).bind fun t_5 =>
    some (t_2.1, t_5.2)
  else
    some (t_3.1, t_3.2))).bind fun s =>
  (arena_Arena_Get s.2 n 4).bind fun t_6 =>
  (arena_Arena_Set t_6.2 n 4 (w64 (s.1 + 1))).bind fun t_7 =>
  some (t_6.1 != (w64 (s.1 + 1)), t_7.2)

def leftist_meld_l0 : Nat → Int → Int → (List Int) → arena_Arena → Option (Int × Int × (List Int) × arena_Arena)
  | 0, _, _, _, _ => none
  | m + 1, r1, s1, path, m_ =>
    ((bif r1 != (-1) then
      (bif s1 != (-1) then
        (arena_Arena_Cells m_).bind fun t_ =>
        some (decide ((path.length : Int) ≤ t_))
      else
        some false)
    else
      some false)).bind fun s3 =>
    (bif s3 then
      (node_Before m m_ s1 r1).bind fun t_1 =>
      ((bif t_1.1 then
        some (s1, r1)
      else
        some (r1, s1))).bind fun s4 =>
      (mApp path ([s4.1] : List Int)).bind fun l =>
      (arena_Arena_Cell t_1.2 s4.1 3).bind fun t_2 =>
      leftist_meld_l0 m t_2.1 s4.2 l t_2.2
    else
      some (r1, s1, path, m_))

def leftist_meld_l1 (l1 : List Int) : Nat → Int → Int → arena_Arena → Option (Int × arena_Arena)
  | 0, _, _, _ => none
  | m + 1, top, k_, m_1 =>
    (bif decide (k_ ≥ 0) then
      (mIdx l1 k_).bind fun x =>
      (arena_Arena_Set m_1 x 3 top).bind fun t_3 =>
      (mIdx l1 k_).bind fun x1 =>
      (arena_Arena_Set t_3.2 top 0 x1).bind fun t_4 =>
      (mIdx l1 k_).bind fun x2 =>
      (leftist_fix t_4.2 x2).bind fun t_5 =>
      leftist_meld_l1 l1 m x2 (w64 (k_ - 1)) t_5.2
    else
      some (top, m_1))

def leftist_meld (k : Nat) (a_ : arena_Arena) (r : Int) (s : Int) : Option (Int × arena_Arena) :=
  (bif r == s then
    some (r, a_)
  else
    (leftist_meld_l0 k r s ([] : List Int) a_).bind fun s2 =>
    (leftist_meld_l1 s2.2.2.1 k (if s2.2.1 > s2.1 then s2.2.1 else s2.1) (w64 ((s2.2.2.1.length : Int) - 1)) s2.2.2.2).bind fun s5 =>
    (arena_Arena_Set s5.2 s5.1 0 (-1)).bind fun t_6 =>
    some (s5.1, t_6.2))

def leftist_Push (k : Nat) (a_ : arena_Arena) (r : Int) (i : Int) : Option (Int × Bool × arena_Arena) :=
  (node_New a_ i).bind fun t_ =>
  (bif !t_.2.1 then
    some (r, false, t_.2.2)
  else
    (arena_Arena_Set t_.2.2 t_.1 4 1).bind fun t_1 =>
    (leftist_meld k t_1.2 r t_.1).bind fun t_2 =>
    some (t_2.1, true, t_2.2))

def node_Row_l0 (field1 : Int) : Nat → Int → (List Int) → arena_Arena → Option ((List Int) × arena_Arena)
  | 0, _, _, _ => none
  | m + 1, n1, out, m_ =>
    ((arena_Arena_Live m_ n1).bind fun t_ =>
    (bif t_ then
      (arena_Arena_Cells m_).bind fun t_1 =>
      some (decide ((out.length : Int) < t_1))
    else
      some false)).bind fun s1 =>
    (bif s1 then
      (mApp out ([n1] : List Int)).bind fun l =>
      (arena_Arena_Cell m_ n1 field1).bind fun t_2 =>
      node_Row_l0 field1 m t_2.1 l t_2.2
    else
      some (out, m_))

def node_Row (k : Nat) (a_ : arena_Arena) (n : Int) (field : Int) : Option ((List Int) × arena_Arena) :=
  (node_Row_l0 field k n ([] : List Int) a_).bind fun s =>
  some (s.1, s.2)

def trees_List (k : Nat) (a_ : arena_Arena) (r : Int) : Option ((List Int) × arena_Arena) :=
  (node_Row k a_ r 3).bind fun t_ =>
  some (t_.1, t_.2)

def trees_Carry_f1 (x : trees_ranked) (y : trees_ranked) : Option (Int) :=
  some (if (if 1 < w64 (x.rank - y.rank) then 1 else w64 (x.rank - y.rank)) > (-1) then (if 1 < w64 (x.rank - y.rank) then 1 else w64 (x.rank - y.rank)) else (-1))

def slices_insertionSortCmpFunc_trees_ranked_g113_l1 (a_2 : Int) (b2 : Int) (i1 : Int) : Nat → Int → (List trees_ranked) → Option ((List trees_ranked))
  | 0, _, _ => none
  | m + 1, j, m_1 =>
    ((bif decide (j > a_2) then
      (mIdx m_1 j).bind fun x1 =>
      (mIdx m_1 (w64 (j - 1))).bind fun x2 =>
      (trees_Carry_f1 x1 x2).bind fun t_ =>
      some (decide (t_ < 0))
    else
      some false)).bind fun s2 =>
    (bif s2 then
      (mIdx m_1 (w64 (j - 1))).bind fun x3 =>
      (mIdx m_1 j).bind fun x4 =>
      (mIdx m_1 j).bind fun x5 =>
      (mIdx (mSet m_1 j x3) (w64 (j - 1))).bind fun x6 =>
      slices_insertionSortCmpFunc_trees_ranked_g113_l1 a_2 b2 i1 m (w64 (j - 1)) (mSet (mSet m_1 j x3) (w64 (j - 1)) x4)
    else
      some m_1)

def slices_insertionSortCmpFunc_trees_ranked_g113_l0 (a_1 : Int) (b1 : Int) : Nat → Int → (List trees_ranked) → Option ((List trees_ranked))
  | 0, _, _ => none
  | m + 1, i, m_ =>
    (bif decide (i < b1) then
      (slices_insertionSortCmpFunc_trees_ranked_g113_l1 a_1 b1 i m i m_).bind fun s1 =>
      slices_insertionSortCmpFunc_trees_ranked_g113_l0 a_1 b1 m (w64 (i + 1)) s1
    else
      some m_)

def slices_insertionSortCmpFunc_trees_ranked_g113 (k : Nat) (data : List trees_ranked) (a_ : Int) (b : Int) : Option ((List trees_ranked)) :=
  (slices_insertionSortCmpFunc_trees_ranked_g113_l0 a_ b k (w64 (a_ + 1)) data).bind fun s =>
  (mSame s.length data.length).bind fun u =>
  some s

def slices_stableCmpFunc_trees_ranked_g113_l0 (n1 : Int) : Nat → Int → Int → (List trees_ranked) → Option (Int × (List trees_ranked))
  | 0, _, _, _ => none
  | m + 1, a_, b, m_ =>
    (bif decide (b ≤ n1) then
      (slices_insertionSortCmpFunc_trees_ranked_g113 m m_ a_ b).bind fun t_ =>
      slices_stableCmpFunc_trees_ranked_g113_l0 n1 m b (w64 (b + 20)) t_
    else
      some (a_, m_))

def slices_stableCmpFunc_trees_ranked_g113_l2 (n3 : Int) (blockSize1 : Int) (l1 : List trees_ranked) : Nat → Int → Int → Option (Int)
  | 0, _, _ => none
  | m + 1, a_1, b1 =>
    (bif decide (b1 ≤ n3) then
      none
    else
      some a_1)

def slices_stableCmpFunc_trees_ranked_g113_l1 (n2 : Int) (l : List trees_ranked) : Nat → Int → Option (Unit)
  | 0, _ => none
  | m + 1, blockSize =>
    (bif decide (blockSize < n2) then
      (slices_stableCmpFunc_trees_ranked_g113_l2 n2 blockSize l m 0 (w64 (2 * blockSize))).bind fun s2 =>
      ((bif decide (w64 (s2 + blockSize) < n2) then
        none
      else
        some ())).bind fun s3 =>
      slices_stableCmpFunc_trees_ranked_g113_l1 n2 l m (w64 (blockSize * 2))
    else
      some ())

def slices_stableCmpFunc_trees_ranked_g113 (k : Nat) (data : List trees_ranked) (n : Int) : Option ((List trees_ranked)) :=
  (slices_stableCmpFunc_trees_ranked_g113_l0 n k 0 20 data).bind fun s =>
  (slices_insertionSortCmpFunc_trees_ranked_g113 k s.2 s.1 n).bind fun t_1 =>
  (slices_stableCmpFunc_trees_ranked_g113_l1 n t_1 k 20).bind fun s1 =>
  (mSame t_1.length data.length).bind fun u =>
  some t_1

def slices_SortStableFunc_trees_ranked_g113 (k : Nat) (x : List trees_ranked) : Option ((List trees_ranked)) :=
  (slices_stableCmpFunc_trees_ranked_g113 k x (x.length : Int)).bind fun t_ =>
  (mSame t_.length x.length).bind fun u =>
  some t_

def trees_Under (a_ : arena_Arena) (n : Int) (up : Int) : Option (arena_Arena) :=
  (arena_Arena_Cell a_ up 1).bind fun t_ =>
  (arena_Arena_Set t_.2 n 3 t_.1).bind fun t_1 =>
  (arena_Arena_Set t_1.2 n 0 up).bind fun t_2 =>
  (arena_Arena_Set t_2.2 up 1 n).bind fun t_3 =>
  some t_3.2

def trees_Link (k : Nat) (a_ : arena_Arena) (n : Int) (m_ : Int) (rank : Int) : Option (Int × arena_Arena) :=
  (node_Before k a_ m_ n).bind fun t_ =>
  ((bif t_.1 then
    some (m_, n)
  else
    some (n, m_))).bind fun s =>
  (trees_Under t_.2 s.2 s.1).bind fun t_1 =>
  (arena_Arena_Set t_1 s.1 4 (w64 (rank + 1))).bind fun t_2 =>
  some (s.1, t_2.2)

def trees_Row_l0 (l1 : List Int) : Nat → Int → Int → arena_Arena → Option (Int × arena_Arena)
  | 0, _, _, _ => none
  | m + 1, next, k_, m_ =>
    (bif decide (k_ ≥ 0) then
      (mIdx l1 k_).bind fun x =>
      (arena_Arena_Set m_ x 3 next).bind fun t_ =>
      (mIdx l1 k_).bind fun x1 =>
      (arena_Arena_Set t_.2 x1 0 (-1)).bind fun t_1 =>
      (mIdx l1 k_).bind fun x2 =>
      trees_Row_l0 l1 m x2 (w64 (k_ - 1)) t_1.2
    else
      some (next, m_))

def trees_Row (k : Nat) (a_ : arena_Arena) (l : List Int) : Option (Int × arena_Arena) :=
  (trees_Row_l0 l k (-1) (w64 ((l.length : Int) - 1)) a_).bind fun s =>
  some (s.1, s.2)

def trees_Carry_l0 (x1 : Int) (l1 : List Int) : Nat → (List trees_ranked) → Int → arena_Arena → Option ((List trees_ranked) × arena_Arena)
  | 0, _, _, _ => none
  | m + 1, wait, x, m_ =>
    (bif decide (x < x1) then
      (mIdx l1 x).bind fun x2 =>
      (arena_Arena_Get m_ x2 4).bind fun t_ =>
      (mApp wait ([trees_ranked.mk x2 t_.1] : List trees_ranked)).bind fun l2 =>
      trees_Carry_l0 x1 l1 m l2 (w64 (x + 1)) t_.2
    else
      some (wait, m_))

def trees_Carry_l2 (l7 : List trees_ranked) (v_ : Int) (v_1 : Int) (l8 : List Int) (m_2 : arena_Arena) (l9 : List Int) : Nat → Int → Option (Int)
  | 0, _ => none
  | m + 1, k_ =>
    ((bif decide (k_ < (l7.length : Int)) then
      (mIdx l7 k_).bind fun x8 =>
      some (decide (x8.rank < v_1))
    else
      some false)).bind fun s4 =>
    (bif s4 then
      trees_Carry_l2 l7 v_ v_1 l8 m_2 l9 m (w64 (k_ + 1))
    else
      some k_)

def trees_Carry_l1 (l3 : List Int) : Nat → (List trees_ranked) → (List Int) → arena_Arena → Option ((List Int) × arena_Arena)
  | 0, _, _, _ => none
  | m + 1, wait1, out, m_1 =>
    (bif decide ((wait1.length : Int) > 0) then
      (mIdx wait1 0).bind fun x3 =>
      ((bif (wait1.length : Int) == 1 then
        some true
      else
        (mIdx wait1 1).bind fun x5 =>
        some (x5.rank != x3.rank))).bind fun s2 =>
      (bif s2 then
        (mCut wait1 1 (wait1.length : Int)).bind fun l4 =>
        (mApp out ([x3.n] : List Int)).bind fun l5 =>
        trees_Carry_l1 l3 m l4 l5 m_1
      else
        (mIdx wait1 1).bind fun x6 =>
        (trees_Link m m_1 x3.n x6.n x3.rank).bind fun t_2 =>
        (mCut wait1 2 (wait1.length : Int)).bind fun l6 =>
        (trees_Carry_l2 l6 ((trees_ranked.mk t_2.1 (w64 (x3.rank + 1))).n) ((trees_ranked.mk t_2.1 (w64 (x3.rank + 1))).rank) out t_2.2 l3 m 0).bind fun s3 =>
        (lInsert l6 s3 ([(trees_ranked.mk t_2.1 (w64 (x3.rank + 1)))] : List trees_ranked)).bind fun t_3 =>
        trees_Carry_l1 l3 m t_3 out t_2.2)
    else
      some (out, m_1))

def trees_Carry (k : Nat) (a_ : arena_Arena) (l : List Int) : Option (Int × arena_Arena) :=
  (trees_Carry_l0 (l.length : Int) l k ([] : List trees_ranked) 0 a_).bind fun s =>
  (slices_SortStableFunc_trees_ranked_g113 k s.1).bind fun t_1 =>
  (trees_Carry_l1 l k t_1 ([] : List Int) s.2).bind fun s1 =>
  (trees_Row k s1.2 s1.1).bind fun t_4 =>
  some (t_4.1, t_4.2)

def binomial_Push (k : Nat) (a_ : arena_Arena) (r : Int) (i : Int) : Option (Int × Bool × arena_Arena) :=
  (node_New a_ i).bind fun t_ =>
  (bif !t_.2.1 then
    some (r, false, t_.2.2)
  else
    (trees_List k t_.2.2 r).bind fun t_1 =>
    (mApp ([t_.1] : List Int) t_1.1).bind fun l =>
    (trees_Carry k t_1.2 l).bind fun t_2 =>
    some (t_2.1, true, t_2.2))

def item_Swap (a_ : arena_Arena) (n : Int) (m_ : Int) : Option (arena_Arena) :=
  (arena_Arena_Cell a_ n 6).bind fun t_ =>
  (arena_Arena_Cell t_.2 m_ 6).bind fun t_1 =>
  (item_Put t_1.2 n t_1.1).bind fun t_2 =>
  (item_Put t_2 m_ t_.1).bind fun t_3 =>
  some t_3

def skew_single (k : Nat) (a_ : arena_Arena) (r : Int) (n : Int) : Option (Int × arena_Arena) :=
  ((bif r != (-1) then
    (arena_Arena_Cell a_ r 3).bind fun t_ =>
    some (t_.1, t_.2)
  else
    some ((-1), a_))).bind fun s =>
  (arena_Arena_Get s.2 r 4).bind fun t_1 =>
  ((bif s.1 == (-1) then
    some (true, t_1.2)
  else
    (arena_Arena_Get t_1.2 s.1 4).bind fun t_2 =>
    some (t_2.1 != t_1.1, t_2.2))).bind fun s1 =>
  (bif s1.1 then
    (arena_Arena_Set s1.2 n 3 r).bind fun t_3 =>
    (arena_Arena_Set t_3.2 n 0 (-1)).bind fun t_4 =>
    some (n, t_4.2)
  else
    (arena_Arena_Cell s1.2 s.1 3).bind fun t_5 =>
    (trees_Link k t_5.2 r s.1 t_1.1).bind fun t_6 =>
    (node_Before k t_6.2 n t_6.1).bind fun t_7 =>
    ((bif t_7.1 then
      (item_Swap t_7.2 n t_6.1).bind fun t_8 =>
      some t_8
    else
      some t_7.2)).bind fun s2 =>
    (trees_Under s2 n t_6.1).bind fun t_9 =>
    (arena_Arena_Set t_9 t_6.1 3 t_5.1).bind fun t_10 =>
    some (t_6.1, t_10.2))

def skew_Push (k : Nat) (a_ : arena_Arena) (r : Int) (i : Int) : Option (Int × Bool × arena_Arena) :=
  (node_New a_ i).bind fun t_ =>
  (bif !t_.2.1 then
    some (r, false, t_.2.2)
  else
    (skew_single k t_.2.2 r t_.1).bind fun t_1 =>
    some (t_1.1, true, t_1.2))

def chain_link (a_ : arena_Arena) (c_ : Int) (d : Int) : Option (arena_Arena) :=
  (arena_Arena_Set a_ c_ 3 d).bind fun t_ =>
  (arena_Arena_Set t_.2 d 2 c_).bind fun t_1 =>
  some t_1.2

def chain_One (a_ : arena_Arena) (c_ : Int) : Option (arena_Arena) :=
  (chain_link a_ c_ c_).bind fun t_ =>
  some t_

def chain_Put (a_ : arena_Arena) (c_ : Int) (d : Int) : Option (arena_Arena) :=
  (arena_Arena_Cell a_ c_ 3).bind fun t_ =>
  (chain_link t_.2 c_ d).bind fun t_1 =>
  (chain_link t_1 d t_.1).bind fun t_2 =>
  some t_2

def fib_lesser (k : Nat) (a_ : arena_Arena) (r : Int) (n : Int) : Option (Int × arena_Arena) :=
  (node_Before k a_ n r).bind fun t_ =>
  (bif t_.1 then
    some (n, t_.2)
  else
    some (r, t_.2))

def fib_Push (k : Nat) (a_ : arena_Arena) (r : Int) (i : Int) : Option (Int × Bool × arena_Arena) :=
  (node_New a_ i).bind fun t_ =>
  (bif !t_.2.1 then
    some (r, false, t_.2.2)
  else
    (chain_One t_.2.2 t_.1).bind fun t_1 =>
    (bif r == (-1) then
      some (t_.1, true, t_1)
    else
      (chain_Put t_1 r t_.1).bind fun t_2 =>
      (fib_lesser k t_2 r t_.1).bind fun t_3 =>
      some (t_3.1, true, t_3.2)))

def pairing_link (k : Nat) (a_ : arena_Arena) (n : Int) (m_ : Int) : Option (Int × arena_Arena) :=
  (bif n == (-1) then
    some (m_, a_)
  else
    (bif (m_ == (-1)) || (n == m_) then
      some (n, a_)
    else
      (node_Before k a_ m_ n).bind fun t_ =>
      ((bif t_.1 then
        some (m_, n)
      else
        some (n, m_))).bind fun s =>
      (arena_Arena_Cell t_.2 s.1 1).bind fun t_1 =>
      (arena_Arena_Set t_1.2 s.2 0 s.1).bind fun t_2 =>
      (arena_Arena_Set t_2.2 s.2 3 t_1.1).bind fun t_3 =>
      ((bif t_1.1 != (-1) then
        (arena_Arena_Set t_3.2 t_1.1 2 s.2).bind fun t_4 =>
        some t_4.2
      else
        some t_3.2)).bind fun s1 =>
      (arena_Arena_Set s1 s.1 1 s.2).bind fun t_5 =>
      some (s.1, t_5.2)))

def pairing_Push (k : Nat) (a_ : arena_Arena) (r : Int) (i : Int) : Option (Int × Bool × arena_Arena) :=
  (node_New a_ i).bind fun t_ =>
  (bif !t_.2.1 then
    some (r, false, t_.2.2)
  else
    (pairing_link k t_.2.2 r t_.1).bind fun t_1 =>
    some (t_1.1, true, t_1.2))

def kind_Push (k : Nat) (k_ : Int) (a_ : arena_Arena) (r : Int) (i : Int) : Option (Int × Bool × arena_Arena) :=
  (bif k_ == 1 then
    (leftist_Push k a_ r i).bind fun t_ =>
    some (t_.1, t_.2.1, t_.2.2)
  else
    (bif k_ == 2 then
      (binomial_Push k a_ r i).bind fun t_1 =>
      some (t_1.1, t_1.2.1, t_1.2.2)
    else
      (bif k_ == 3 then
        (skew_Push k a_ r i).bind fun t_2 =>
        some (t_2.1, t_2.2.1, t_2.2.2)
      else
        (bif k_ == 4 then
          (fib_Push k a_ r i).bind fun t_3 =>
          some (t_3.1, t_3.2.1, t_3.2.2)
        else
          (bif k_ == 5 then
            (pairing_Push k a_ r i).bind fun t_4 =>
            some (t_4.1, t_4.2.1, t_4.2.2)
          else
            some (r, false, a_))))))

def leftist_kids (k : Nat) (a_ : arena_Arena) (n : Int) : Option (Int × arena_Arena) :=
  (arena_Arena_Cell a_ n 2).bind fun t_ =>
  (arena_Arena_Cell t_.2 n 3).bind fun t_1 =>
  (leftist_meld k t_1.2 t_.1 t_1.1).bind fun t_2 =>
  some (t_2.1, t_2.2)

def arena_Arena_Give (a_ : arena_Arena) (c_ : Int) : Option (Bool × arena_Arena) :=
  (meter_Meter_Tick a_.m_ 1).bind fun t_ =>
  (arena_Arena_Live (arena_Arena.mk a_.l a_.never a_.free t_) c_).bind fun t_1 =>
  (bif !t_1 then
    some (false, arena_Arena.mk a_.l a_.never a_.free t_)
  else
    (mIdx a_.l c_).bind fun x =>
    (mApp a_.free ([c_] : List Int)).bind fun l =>
    some (true, arena_Arena.mk (mSet a_.l c_ (arena_cell.mk x.f0 x.f1 x.f2 x.f3 x.f4 x.f5 x.f6 x.f7 x.f8 x.f9 false)) a_.never l t_))

def node_End (a_ : arena_Arena) (n : Int) : Option (Int × arena_Arena) :=
  (arena_Arena_Cell a_ n 6).bind fun t_ =>
  (arena_Arena_Set t_.2 t_.1 9 (-1)).bind fun t_1 =>
  (arena_Arena_Give t_1.2 n).bind fun t_2 =>
  some (t_.1, t_2.2)

def leftist_Pop (k : Nat) (a_ : arena_Arena) (r : Int) : Option (Int × Int × arena_Arena) :=
  ((arena_Arena_Live a_ r).bind fun t_ =>
  some (!t_)).bind fun s =>
  (bif s then
    some ((-1), (-1), a_)
  else
    (leftist_kids k a_ r).bind fun t_1 =>
    (arena_Arena_Set t_1.2 t_1.1 0 (-1)).bind fun t_2 =>
    (node_End t_2.2 r).bind fun t_3 =>
    some (t_1.1, t_3.1, t_3.2))

def trees_Best_l0 (x1 : Int) (l1 : List Int) : Nat → Int → Int → arena_Arena → Option (Int × arena_Arena)
  | 0, _, _, _ => none
  | m + 1, best, x, m_ =>
    (bif decide (x < x1) then
      ((mIdx l1 x).bind fun x2 =>
      ((bif best == (-1) then
        some (true, m_)
      else
        (node_Before m m_ x2 best).bind fun t_ =>
        some (t_.1, t_.2))).bind fun s2 =>
      (bif s2.1 then
        some (x2, s2.2)
      else
        some (best, s2.2))).bind fun s1 =>
      trees_Best_l0 x1 l1 m s1.1 (w64 (x + 1)) s1.2
    else
      some (best, m_))

def trees_Best (k : Nat) (a_ : arena_Arena) (l : List Int) : Option (Int × arena_Arena) :=
  (trees_Best_l0 (l.length : Int) l k (-1) 0 a_).bind fun s =>
  some (s.1, s.2)

def binomial_without_f1 (x : Int) (v_ : Int) : Option (Bool) :=
  some (x == v_)

def slices_IndexFunc_int_g121_l0 (x1 : Int) (l : List Int) (v_1 : Int) : Nat → Int → Option ((Int) ⊕ (Unit))
  | 0, _ => none
  | m + 1, x =>
    (bif decide (x < x1) then
      (mIdx l x).bind fun x2 =>
      (binomial_without_f1 x2 v_1).bind fun t_ =>
      (bif t_ then
        some (.inl x)
      else
        slices_IndexFunc_int_g121_l0 x1 l v_1 m (w64 (x + 1)))
    else
      some (.inr ()))

def slices_IndexFunc_int_g121 (k : Nat) (s : List Int) (v_ : Int) : Option (Int) :=
  (slices_IndexFunc_int_g121_l0 (s.length : Int) s v_ k 0).bind fun s1 =>
  match s1 with
  | .inl r_ => some r_
  | .inr s2 =>
    some (-1)

def slices_DeleteFunc_int_g121_l0 (v_1 : Int) : Nat → Int → Int → (List Int) → Option (Int × (List Int))
  | 0, _, _, _ => none
  | m + 1, i, j, m_ =>
    (bif decide (j < (m_.length : Int)) then
      ((mIdx m_ j).bind fun x =>
      (binomial_without_f1 x v_1).bind fun t_1 =>
      (bif !t_1 then
        (mIdx m_ i).bind fun x1 =>
        some (w64 (i + 1), mSet m_ i x)
      else
        some (i, m_))).bind fun s2 =>
      slices_DeleteFunc_int_g121_l0 v_1 m s2.1 (w64 (j + 1)) s2.2
    else
      some (i, m_))

def slices_DeleteFunc_int_g121 (k : Nat) (s : List Int) (v_ : Int) : Option ((List Int)) :=
  (slices_IndexFunc_int_g121 k s v_).bind fun t_ =>
  (bif t_ == (-1) then
    some s
  else
    (slices_DeleteFunc_int_g121_l0 v_ k t_ (w64 (t_ + 1)) s).bind fun s1 =>
    (mCut s1.2 s1.1 (s1.2.length : Int)).bind fun l =>
    (mCut (mClear s1.2 s1.1 0) 0 s1.1).bind fun l1 =>
    some l1)

def trees_Kids (k : Nat) (a_ : arena_Arena) (n : Int) : Option ((List Int) × arena_Arena) :=
  (arena_Arena_Cell a_ n 1).bind fun t_ =>
  (node_Row k t_.2 t_.1 3).bind fun t_1 =>
  some (t_1.1, t_1.2)

def binomial_without (k : Nat) (a_ : arena_Arena) (l : List Int) (n : Int) : Option (Int × Int × arena_Arena) :=
  (slices_DeleteFunc_int_g121 k l n).bind fun t_ =>
  (trees_Kids k a_ n).bind fun t_1 =>
  (mApp t_ t_1.1).bind fun l1 =>
  (node_End t_1.2 n).bind fun t_2 =>
  (trees_Carry k t_2.2 l1).bind fun t_3 =>
  some (t_3.1, t_2.1, t_3.2)

def binomial_Pop (k : Nat) (a_ : arena_Arena) (r : Int) : Option (Int × Int × arena_Arena) :=
  ((arena_Arena_Live a_ r).bind fun t_ =>
  some (!t_)).bind fun s =>
  (bif s then
    some ((-1), (-1), a_)
  else
    (trees_List k a_ r).bind fun t_1 =>
    (trees_Best k t_1.2 t_1.1).bind fun t_2 =>
    (binomial_without k t_2.2 t_1.1 t_2.1).bind fun t_3 =>
    some (t_3.1, t_3.2.1, t_3.2.2))

def skew_without_f1 (x : Int) (v_ : Int) : Option (Bool) :=
  some (x == v_)

def slices_IndexFunc_int_g164_l0 (x1 : Int) (l : List Int) (v_1 : Int) : Nat → Int → Option ((Int) ⊕ (Unit))
  | 0, _ => none
  | m + 1, x =>
    (bif decide (x < x1) then
      (mIdx l x).bind fun x2 =>
      (skew_without_f1 x2 v_1).bind fun t_ =>
      (bif t_ then
        some (.inl x)
      else
        slices_IndexFunc_int_g164_l0 x1 l v_1 m (w64 (x + 1)))
    else
      some (.inr ()))

def slices_IndexFunc_int_g164 (k : Nat) (s : List Int) (v_ : Int) : Option (Int) :=
  (slices_IndexFunc_int_g164_l0 (s.length : Int) s v_ k 0).bind fun s1 =>
  match s1 with
  | .inl r_ => some r_
  | .inr s2 =>
    some (-1)

def slices_DeleteFunc_int_g164_l0 (v_1 : Int) : Nat → Int → Int → (List Int) → Option (Int × (List Int))
  | 0, _, _, _ => none
  | m + 1, i, j, m_ =>
    (bif decide (j < (m_.length : Int)) then
      ((mIdx m_ j).bind fun x =>
      (skew_without_f1 x v_1).bind fun t_1 =>
      (bif !t_1 then
        (mIdx m_ i).bind fun x1 =>
        some (w64 (i + 1), mSet m_ i x)
      else
        some (i, m_))).bind fun s2 =>
      slices_DeleteFunc_int_g164_l0 v_1 m s2.1 (w64 (j + 1)) s2.2
    else
      some (i, m_))

def slices_DeleteFunc_int_g164 (k : Nat) (s : List Int) (v_ : Int) : Option ((List Int)) :=
  (slices_IndexFunc_int_g164 k s v_).bind fun t_ =>
  (bif t_ == (-1) then
    some s
  else
    (slices_DeleteFunc_int_g164_l0 v_ k t_ (w64 (t_ + 1)) s).bind fun s1 =>
    (mCut s1.2 s1.1 (s1.2.length : Int)).bind fun l =>
    (mCut (mClear s1.2 s1.1 0) 0 s1.1).bind fun l1 =>
    some l1)

def skew_without_l0 (x1 : Int) (l1 : List Int) (v_ : Int) : Nat → (List Int) → (List Int) → Int → arena_Arena → Option ((List Int) × (List Int) × arena_Arena)
  | 0, _, _, _, _ => none
  | m + 1, rest, alone, x, m_ =>
    (bif decide (x < x1) then
      ((mIdx l1 x).bind fun x2 =>
      (arena_Arena_Get m_ x2 4).bind fun t_2 =>
      (bif t_2.1 == 0 then
        (mApp alone ([x2] : List Int)).bind fun l2 =>
        some (rest, l2, t_2.2)
      else
        (mApp rest ([x2] : List Int)).bind fun l3 =>
        some (l3, alone, t_2.2))).bind fun s1 =>
      skew_without_l0 x1 l1 v_ m s1.1 s1.2.1 (w64 (x + 1)) s1.2.2
    else
      some (rest, alone, m_))

def skew_without_l1 (i : Int) (x4 : Int) (l4 : List Int) : Nat → Int → Int → arena_Arena → Option (Int × arena_Arena)
  | 0, _, _, _ => none
  | m + 1, r3, x3, m_1 =>
    (bif decide (x3 < x4) then
      (mIdx l4 x3).bind fun x5 =>
      (skew_single m m_1 r3 x5).bind fun t_5 =>
      skew_without_l1 i x4 l4 m t_5.1 (w64 (x3 + 1)) t_5.2
    else
      some (r3, m_1))

def skew_without (k : Nat) (a_ : arena_Arena) (l : List Int) (n : Int) : Option (Int × Int × arena_Arena) :=
  (slices_DeleteFunc_int_g164 k l n).bind fun t_ =>
  (trees_Kids k a_ n).bind fun t_1 =>
  (skew_without_l0 (t_1.1.length : Int) t_1.1 n k t_ ([] : List Int) 0 t_1.2).bind fun s =>
  (node_End s.2.2 n).bind fun t_3 =>
  (trees_Carry k t_3.2 s.1).bind fun t_4 =>
  (skew_without_l1 t_3.1 (s.2.1.length : Int) s.2.1 k t_4.1 0 t_4.2).bind fun s2 =>
  some (s2.1, t_3.1, s2.2)

def skew_Pop (k : Nat) (a_ : arena_Arena) (r : Int) : Option (Int × Int × arena_Arena) :=
  ((arena_Arena_Live a_ r).bind fun t_ =>
  some (!t_)).bind fun s =>
  (bif s then
    some ((-1), (-1), a_)
  else
    (trees_List k a_ r).bind fun t_1 =>
    (trees_Best k t_1.2 t_1.1).bind fun t_2 =>
    (skew_without k t_2.2 t_1.1 t_2.1).bind fun t_3 =>
    some (t_3.1, t_3.2.1, t_3.2.2))

def chain_All_l0 (c_1 : Int) : Nat → (List Int) → Int → arena_Arena → Option ((List Int) × arena_Arena)
  | 0, _, _, _ => none
  | m + 1, out, d, m_ =>
    ((bif d != c_1 then
      (arena_Arena_Live m_ d).bind fun t_2 =>
      (bif t_2 then
        (arena_Arena_Cells m_).bind fun t_3 =>
        some (decide ((out.length : Int) < t_3))
      else
        some false)
    else
      some false)).bind fun s2 =>
    (bif s2 then
      (mApp out ([d] : List Int)).bind fun l =>
      (arena_Arena_Cell m_ d 3).bind fun t_4 =>
      chain_All_l0 c_1 m l t_4.1 t_4.2
    else
      some (out, m_))

def chain_All (k : Nat) (a_ : arena_Arena) (c_ : Int) : Option ((List Int) × arena_Arena) :=
  ((arena_Arena_Live a_ c_).bind fun t_ =>
  some (!t_)).bind fun s =>
  (bif s then
    some (([] : List Int), a_)
  else
    (arena_Arena_Cell a_ c_ 3).bind fun t_1 =>
    (chain_All_l0 c_ k ([c_] : List Int) t_1.1 t_1.2).bind fun s1 =>
    some (s1.1, s1.2))

def chain_Out (a_ : arena_Arena) (c_ : Int) : Option (Int × arena_Arena) :=
  (arena_Arena_Cell a_ c_ 3).bind fun t_ =>
  (arena_Arena_Cell t_.2 c_ 2).bind fun t_1 =>
  (bif t_.1 == c_ then
    some ((-1), t_1.2)
  else
    (chain_link t_1.2 t_1.1 t_.1).bind fun t_2 =>
    (chain_link t_2 c_ c_).bind fun t_3 =>
    some (t_.1, t_3))

def fib_unlike_f1 (y : fib_ranked) (v_ : Int) (v_1 : Int) : Option (Bool) :=
  some (y.rank == v_1)

def slices_IndexFunc_fib_ranked_g184_l0 (x1 : Int) (l : List fib_ranked) (v_2 : Int) (v_3 : Int) : Nat → Int → Option ((Int) ⊕ (Unit))
  | 0, _ => none
  | m + 1, x =>
    (bif decide (x < x1) then
      (mIdx l x).bind fun x2 =>
      (fib_unlike_f1 x2 v_2 v_3).bind fun t_ =>
      (bif t_ then
        some (.inl x)
      else
        slices_IndexFunc_fib_ranked_g184_l0 x1 l v_2 v_3 m (w64 (x + 1)))
    else
      some (.inr ()))

def slices_IndexFunc_fib_ranked_g184 (k : Nat) (s : List fib_ranked) (v_ : Int) (v_1 : Int) : Option (Int) :=
  (slices_IndexFunc_fib_ranked_g184_l0 (s.length : Int) s v_ v_1 k 0).bind fun s1 =>
  match s1 with
  | .inl r_ => some r_
  | .inr s2 =>
    some (-1)

def fib_under (a_ : arena_Arena) (n : Int) (up : Int) : Option (arena_Arena) :=
  (chain_One a_ n).bind fun t_ =>
  (arena_Arena_Cell t_ up 1).bind fun t_1 =>
  ((bif t_1.1 == (-1) then
    (arena_Arena_Set t_1.2 up 1 n).bind fun t_2 =>
    some t_2.2
  else
    (chain_Put t_1.2 t_1.1 n).bind fun t_3 =>
    some t_3)).bind fun s =>
  (arena_Arena_Set s n 0 up).bind fun t_4 =>
  (arena_Arena_Set t_4.2 n 5 0).bind fun t_5 =>
  some t_5.2

def fib_unlike_l1 (x3 : Int) (x4 : Int) (l2 : List Int) : Nat → (List fib_ranked) → Int → Int → arena_Arena → Option ((List fib_ranked) × Int × Int × arena_Arena)
  | 0, _, _, _, _ => none
  | m + 1, by_1, v_, v_1, m_1 =>
    (slices_IndexFunc_fib_ranked_g184 m by_1 v_ v_1).bind fun t_1 =>
    (bif decide (t_1 < 0) then
      some (by_1, v_, v_1, m_1)
    else
      (mIdx by_1 t_1).bind fun x5 =>
      (lDelete by_1 t_1 (w64 (t_1 + 1))).bind fun t_2 =>
      (node_Before m m_1 v_ x5.n).bind fun t_3 =>
      ((bif t_3.1 then
        some (v_, x5.n)
      else
        some (x5.n, v_))).bind fun s2 =>
      (fib_under t_3.2 s2.2 s2.1).bind fun t_4 =>
      (arena_Arena_Set t_4 s2.1 4 (w64 (v_1 + 1))).bind fun t_5 =>
      fib_unlike_l1 x3 x4 l2 m t_2 s2.1 (w64 (v_1 + 1)) t_5.2)

def fib_unlike_l0 (x1 : Int) (l1 : List Int) : Nat → (List fib_ranked) → Int → arena_Arena → Option ((List fib_ranked) × arena_Arena)
  | 0, _, _, _ => none
  | m + 1, by_, x, m_ =>
    (bif decide (x < x1) then
      (mIdx l1 x).bind fun x2 =>
      (arena_Arena_Get m_ x2 4).bind fun t_ =>
      (fib_unlike_l1 x1 x l1 m by_ x2 t_.1 t_.2).bind fun s1 =>
      (mApp s1.1 ([fib_ranked.mk s1.2.1 s1.2.2.1] : List fib_ranked)).bind fun l3 =>
      fib_unlike_l0 x1 l1 m l3 (w64 (x + 1)) s1.2.2.2
    else
      some (by_, m_))

def fib_unlike_l2 (x7 : Int) (l4 : List fib_ranked) (l5 : List Int) : Nat → Int → Int → arena_Arena → Option (Int × arena_Arena)
  | 0, _, _, _ => none
  | m + 1, root, x6, m_2 =>
    (bif decide (x6 < x7) then
      ((mIdx l4 x6).bind fun x8 =>
      (chain_One m_2 x8.n).bind fun t_6 =>
      (bif x6 == 0 then
        some (x8.n, t_6)
      else
        (mIdx l4 0).bind fun x9 =>
        (chain_Put t_6 x9.n x8.n).bind fun t_7 =>
        (fib_lesser m t_7 root x8.n).bind fun t_8 =>
        some (t_8.1, t_8.2))).bind fun s4 =>
      fib_unlike_l2 x7 l4 l5 m s4.1 (w64 (x6 + 1)) s4.2
    else
      some (root, m_2))

def fib_unlike (k : Nat) (a_ : arena_Arena) (l : List Int) : Option (Int × arena_Arena) :=
  (fib_unlike_l0 (l.length : Int) l k ([] : List fib_ranked) 0 a_).bind fun s =>
  (fib_unlike_l2 (s.1.length : Int) s.1 l k (-1) 0 s.2).bind fun s3 =>
  some (s3.1, s3.2)

def fib_pop_l0 (n1 : Int) (x1 : Int) (l1 : List Int) : Nat → (List Int) → Int → arena_Arena → Option ((List Int) × arena_Arena)
  | 0, _, _, _ => none
  | m + 1, l, x, m_ =>
    (bif decide (x < x1) then
      (mIdx l1 x).bind fun x2 =>
      (arena_Arena_Set m_ x2 0 (-1)).bind fun t_2 =>
      (mApp l ([x2] : List Int)).bind fun l2 =>
      fib_pop_l0 n1 x1 l1 m l2 (w64 (x + 1)) t_2.2
    else
      some (l, m_))

def fib_pop (k : Nat) (a_ : arena_Arena) (n : Int) : Option (Int × Int × arena_Arena) :=
  (arena_Arena_Cell a_ n 1).bind fun t_ =>
  ((bif t_.1 != (-1) then
    (chain_All k t_.2 t_.1).bind fun t_1 =>
    (fib_pop_l0 n (t_1.1.length : Int) t_1.1 k ([] : List Int) 0 t_1.2).bind fun s1 =>
    some (s1.1, s1.2)
  else
    some (([] : List Int), t_.2))).bind fun s =>
  (chain_Out s.2 n).bind fun t_3 =>
  ((bif t_3.1 != (-1) then
    (chain_All k t_3.2 t_3.1).bind fun t_4 =>
    (mApp s.1 t_4.1).bind fun l3 =>
    some (l3, t_4.2)
  else
    some (s.1, t_3.2))).bind fun s2 =>
  (node_End s2.2 n).bind fun t_5 =>
  (fib_unlike k t_5.2 s2.1).bind fun t_6 =>
  some (t_6.1, t_5.1, t_6.2)

def fib_Pop (k : Nat) (a_ : arena_Arena) (r : Int) : Option (Int × Int × arena_Arena) :=
  ((arena_Arena_Live a_ r).bind fun t_ =>
  some (!t_)).bind fun s =>
  (bif s then
    some ((-1), (-1), a_)
  else
    (fib_pop k a_ r).bind fun t_1 =>
    some (t_1.1, t_1.2.1, t_1.2.2))

def pairing_kids (k : Nat) (a_ : arena_Arena) (n : Int) : Option ((List Int) × arena_Arena) :=
  (arena_Arena_Cell a_ n 1).bind fun t_ =>
  (node_Row k t_.2 t_.1 3).bind fun t_1 =>
  some (t_1.1, t_1.2)

def pairing_root (a_ : arena_Arena) (n : Int) : Option (arena_Arena) :=
  (arena_Arena_Set a_ n 0 (-1)).bind fun t_ =>
  (arena_Arena_Set t_.2 n 2 (-1)).bind fun t_1 =>
  (arena_Arena_Set t_1.2 n 3 (-1)).bind fun t_2 =>
  some t_2.2

def pairing_paired_l0 (x1 : Int) (l1 : List Int) : Nat → Int → arena_Arena → Option (arena_Arena)
  | 0, _, _ => none
  | m + 1, x, m_ =>
    (bif decide (x < x1) then
      (mIdx l1 x).bind fun x2 =>
      (pairing_root m_ x2).bind fun t_ =>
      pairing_paired_l0 x1 l1 m (w64 (x + 1)) t_
    else
      some m_)

def pairing_paired_l1 (l2 : List Int) : Nat → (List Int) → Int → arena_Arena → Option ((List Int) × arena_Arena)
  | 0, _, _, _ => none
  | m + 1, pairs, k_, m_1 =>
    (bif decide (k_ < (l2.length : Int)) then
      ((bif decide (w64 (k_ + 1) < (l2.length : Int)) then
        (mIdx l2 k_).bind fun x3 =>
        (mIdx l2 (w64 (k_ + 1))).bind fun x4 =>
        (pairing_link m m_1 x3 x4).bind fun t_1 =>
        (mApp pairs ([t_1.1] : List Int)).bind fun l3 =>
        some (l3, t_1.2)
      else
        (mIdx l2 k_).bind fun x5 =>
        (mApp pairs ([x5] : List Int)).bind fun l4 =>
        some (l4, m_1))).bind fun s2 =>
      pairing_paired_l1 l2 m s2.1 (w64 (k_ + 2)) s2.2
    else
      some (pairs, m_1))

def pairing_paired_l2 (l5 : List Int) (l6 : List Int) : Nat → Int → Int → arena_Arena → Option (Int × arena_Arena)
  | 0, _, _, _ => none
  | m + 1, top, k_1, m_2 =>
    (bif decide (k_1 ≥ 0) then
      (mIdx l5 k_1).bind fun x6 =>
      (pairing_link m m_2 x6 top).bind fun t_2 =>
      pairing_paired_l2 l5 l6 m t_2.1 (w64 (k_1 - 1)) t_2.2
    else
      some (top, m_2))

def pairing_paired (k : Nat) (a_ : arena_Arena) (l : List Int) : Option (Int × arena_Arena) :=
  (pairing_paired_l0 (l.length : Int) l k 0 a_).bind fun s =>
  (pairing_paired_l1 l k ([] : List Int) 0 s).bind fun s1 =>
  (pairing_paired_l2 s1.1 l k (-1) (w64 ((s1.1.length : Int) - 1)) s1.2).bind fun s3 =>
  some (s3.1, s3.2)

def pairing_pop (k : Nat) (a_ : arena_Arena) (n : Int) : Option (Int × Int × arena_Arena) :=
  (pairing_kids k a_ n).bind fun t_ =>
  (node_End t_.2 n).bind fun t_1 =>
  (pairing_paired k t_1.2 t_.1).bind fun t_2 =>
  some (t_2.1, t_1.1, t_2.2)

def pairing_Pop (k : Nat) (a_ : arena_Arena) (r : Int) : Option (Int × Int × arena_Arena) :=
  ((arena_Arena_Live a_ r).bind fun t_ =>
  some (!t_)).bind fun s =>
  (bif s then
    some ((-1), (-1), a_)
  else
    (pairing_pop k a_ r).bind fun t_1 =>
    some (t_1.1, t_1.2.1, t_1.2.2))

def kind_Pop (k : Nat) (k_ : Int) (a_ : arena_Arena) (r : Int) : Option (Int × Int × arena_Arena) :=
  (bif k_ == 1 then
    (leftist_Pop k a_ r).bind fun t_ =>
    some (t_.1, t_.2.1, t_.2.2)
  else
    (bif k_ == 2 then
      (binomial_Pop k a_ r).bind fun t_1 =>
      some (t_1.1, t_1.2.1, t_1.2.2)
    else
      (bif k_ == 3 then
        (skew_Pop k a_ r).bind fun t_2 =>
        some (t_2.1, t_2.2.1, t_2.2.2)
      else
        (bif k_ == 4 then
          (fib_Pop k a_ r).bind fun t_3 =>
          some (t_3.1, t_3.2.1, t_3.2.2)
        else
          (bif k_ == 5 then
            (pairing_Pop k a_ r).bind fun t_4 =>
            some (t_4.1, t_4.2.1, t_4.2.2)
          else
            some ((-1), (-1), a_))))))

def leftist_Min (a_ : arena_Arena) (r : Int) : Option (Int × arena_Arena) :=
  (arena_Arena_Cell a_ r 6).bind fun t_ =>
  some (t_.1, t_.2)

def binomial_Min (k : Nat) (a_ : arena_Arena) (r : Int) : Option (Int × arena_Arena) :=
  (trees_List k a_ r).bind fun t_ =>
  (trees_Best k t_.2 t_.1).bind fun t_1 =>
  (arena_Arena_Cell t_1.2 t_1.1 6).bind fun t_2 =>
  some (t_2.1, t_2.2)

def skew_Min (k : Nat) (a_ : arena_Arena) (r : Int) : Option (Int × arena_Arena) :=
  (trees_List k a_ r).bind fun t_ =>
  (trees_Best k t_.2 t_.1).bind fun t_1 =>
  (arena_Arena_Cell t_1.2 t_1.1 6).bind fun t_2 =>
  some (t_2.1, t_2.2)

def fib_Min (a_ : arena_Arena) (r : Int) : Option (Int × arena_Arena) :=
  (arena_Arena_Cell a_ r 6).bind fun t_ =>
  some (t_.1, t_.2)

def pairing_Min (a_ : arena_Arena) (r : Int) : Option (Int × arena_Arena) :=
  (arena_Arena_Cell a_ r 6).bind fun t_ =>
  some (t_.1, t_.2)

def kind_Min (k : Nat) (k_ : Int) (a_ : arena_Arena) (r : Int) : Option (Int × arena_Arena) :=
  (bif k_ == 1 then
    (leftist_Min a_ r).bind fun t_ =>
    some (t_.1, t_.2)
  else
    (bif k_ == 2 then
      (binomial_Min k a_ r).bind fun t_1 =>
      some (t_1.1, t_1.2)
    else
      (bif k_ == 3 then
        (skew_Min k a_ r).bind fun t_2 =>
        some (t_2.1, t_2.2)
      else
        (bif k_ == 4 then
          (fib_Min a_ r).bind fun t_3 =>
          some (t_3.1, t_3.2)
        else
          (bif k_ == 5 then
            (pairing_Min a_ r).bind fun t_4 =>
            some (t_4.1, t_4.2)
          else
            some ((-1), a_))))))

def item_Node (a_ : arena_Arena) (i : Int) : Option (Int × arena_Arena) :=
  (arena_Arena_Cell a_ i 9).bind fun t_ =>
  some (t_.1, t_.2)

def leftist_leave_l0 : Nat → Int → Int → arena_Arena → Option (arena_Arena)
  | 0, _, _, _ => none
  | m + 1, p, k_, m_ =>
    ((bif p != (-1) then
      (arena_Arena_Cells m_).bind fun t_6 =>
      (bif decide (k_ ≤ t_6) then
        (leftist_fix m_ p).bind fun t_7 =>
        some (t_7.1, t_7.2)
      else
        some (false, m_))
    else
      some (false, m_))).bind fun s2 =>
    (bif s2.1 then
      (arena_Arena_Cell s2.2 p 0).bind fun t_8 =>
      leftist_leave_l0 m t_8.1 (w64 (k_ + 1)) t_8.2
    else
      some s2.2)

def leftist_leave (k : Nat) (a_ : arena_Arena) (n : Int) : Option (arena_Arena) :=
  (arena_Arena_Cell a_ n 0).bind fun t_ =>
  (arena_Arena_Cell t_.2 t_.1 2).bind fun t_1 =>
  ((bif t_1.1 == n then
    (arena_Arena_Set t_1.2 t_.1 2 (-1)).bind fun t_2 =>
    some t_2.2
  else
    (arena_Arena_Cell t_1.2 t_.1 3).bind fun t_3 =>
    (bif t_3.1 == n then
      (arena_Arena_Set t_3.2 t_.1 3 (-1)).bind fun t_4 =>
      some t_4.2
    else
      some t_3.2))).bind fun s =>
  (arena_Arena_Set s n 0 (-1)).bind fun t_5 =>
  (leftist_leave_l0 k t_.1 0 t_5.2).bind fun s1 =>
  some s1

def leftist_Fall (k : Nat) (a_ : arena_Arena) (r : Int) (i : Int) : Option (Int × arena_Arena) :=
  (item_Node a_ i).bind fun t_ =>
  ((bif t_.1 == (-1) then
    some (true, t_.2)
  else
    (bif t_.1 == r then
      some (true, t_.2)
    else
      (arena_Arena_Cell t_.2 t_.1 0).bind fun t_1 =>
      some (t_1.1 == (-1), t_1.2)))).bind fun s =>
  (bif s.1 then
    some (r, s.2)
  else
    (leftist_leave k s.2 t_.1).bind fun t_2 =>
    (leftist_meld k t_2 r t_.1).bind fun t_3 =>
    some (t_3.1, t_3.2))

def trees_Rise_l0 (any1 : Bool) : Nat → Int → Int → arena_Arena → Option (Int × arena_Arena)
  | 0, _, _, _ => none
  | m + 1, n, k_, m_ =>
    ((bif n != (-1) then
      (arena_Arena_Cells m_).bind fun t_1 =>
      some (decide (k_ ≤ t_1))
    else
      some false)).bind fun s1 =>
    (bif s1 then
      (arena_Arena_Cell m_ n 0).bind fun t_2 =>
      ((bif t_2.1 == (-1) then
        some (true, t_2.2)
      else
        (bif !any1 then
          (node_Before m t_2.2 n t_2.1).bind fun t_3 =>
          some (!t_3.1, t_3.2)
        else
          some (false, t_2.2)))).bind fun s2 =>
      (bif s2.1 then
        some (n, s2.2)
      else
        (item_Swap s2.2 n t_2.1).bind fun t_4 =>
        trees_Rise_l0 any1 m t_2.1 (w64 (k_ + 1)) t_4)
    else
      some (n, m_))

def trees_Rise (k : Nat) (a_ : arena_Arena) (i : Int) (any : Bool) : Option (Int × arena_Arena) :=
  (item_Node a_ i).bind fun t_ =>
  (trees_Rise_l0 any k t_.1 0 t_.2).bind fun s =>
  some (s.1, s.2)

def binomial_Fall (k : Nat) (a_ : arena_Arena) (r : Int) (i : Int) : Option (Int × arena_Arena) :=
  (trees_Rise k a_ i false).bind fun t_ =>
  some (r, t_.2)

def skew_Fall (k : Nat) (a_ : arena_Arena) (r : Int) (i : Int) : Option (Int × arena_Arena) :=
  (trees_Rise k a_ i false).bind fun t_ =>
  some (r, t_.2)

def fib_leave (a_ : arena_Arena) (r : Int) (n : Int) (up : Int) : Option (arena_Arena) :=
  (chain_Out a_ n).bind fun t_ =>
  (arena_Arena_Cell t_.2 up 1).bind fun t_1 =>
  ((bif t_1.1 == n then
    (arena_Arena_Set t_1.2 up 1 t_.1).bind fun t_2 =>
    some t_2.2
  else
    some t_1.2)).bind fun s =>
  (arena_Arena_Get s up 4).bind fun t_3 =>
  (arena_Arena_Set t_3.2 up 4 (w64 (t_3.1 - 1))).bind fun t_4 =>
  (arena_Arena_Set t_4.2 n 0 (-1)).bind fun t_5 =>
  (chain_Put t_5.2 r n).bind fun t_6 =>
  some t_6

def fib_cut_l0 (r1 : Int) : Nat → Int → Int → Int → arena_Arena → Option ((arena_Arena) ⊕ (arena_Arena))
  | 0, _, _, _, _ => none
  | m + 1, n1, up, k_, m_ =>
    ((bif up != (-1) then
      (arena_Arena_Cells m_).bind fun t_1 =>
      some (decide (k_ ≤ t_1))
    else
      some false)).bind fun s2 =>
    (bif s2 then
      (fib_leave m_ r1 n1 up).bind fun t_2 =>
      (arena_Arena_Cell t_2 up 0).bind fun t_3 =>
      ((bif t_3.1 != (-1) then
        (arena_Arena_Get t_3.2 up 5).bind fun t_4 =>
        some (t_4.1 == 0, t_4.2)
      else
        some (false, t_3.2))).bind fun s3 =>
      (bif s3.1 then
        (arena_Arena_Set s3.2 up 5 1).bind fun t_5 =>
        some (.inl t_5.2)
      else
        fib_cut_l0 r1 m up t_3.1 (w64 (k_ + 1)) s3.2)
    else
      some (.inr m_))

def fib_cut (k : Nat) (a_ : arena_Arena) (r : Int) (n : Int) : Option (arena_Arena) :=
  (arena_Arena_Cell a_ n 0).bind fun t_ =>
  (fib_cut_l0 r k n t_.1 0 t_.2).bind fun s =>
  match s with
  | .inl r_ => some r_
  | .inr s1 =>
    some s1

def fib_Fall (k : Nat) (a_ : arena_Arena) (r : Int) (i : Int) : Option (Int × arena_Arena) :=
  (item_Node a_ i).bind fun t_ =>
  (bif (t_.1 == (-1)) || (t_.1 == r) then
    some (r, t_.2)
  else
    (arena_Arena_Cell t_.2 t_.1 0).bind fun t_1 =>
    ((bif t_1.1 != (-1) then
      (node_Before k t_1.2 t_.1 t_1.1).bind fun t_2 =>
      (bif !t_2.1 then
        some (.inl (r, t_2.2))
      else
        (fib_cut k t_2.2 r t_.1).bind fun t_3 =>
        some (.inr t_3))
    else
      some (.inr t_1.2)) : Option ((Int × arena_Arena) ⊕ (arena_Arena))).bind fun s =>
    match s with
    | .inl r_ => some r_
    | .inr s1 =>
      (fib_lesser k s1 r t_.1).bind fun t_4 =>
      some (t_4.1, t_4.2))

def pairing_leave (a_ : arena_Arena) (n : Int) : Option (arena_Arena) :=
  (arena_Arena_Cell a_ n 2).bind fun t_ =>
  (arena_Arena_Cell t_.2 n 3).bind fun t_1 =>
  ((bif t_.1 != (-1) then
    (arena_Arena_Set t_1.2 t_.1 3 t_1.1).bind fun t_2 =>
    some t_2.2
  else
    (arena_Arena_Cell t_1.2 n 0).bind fun t_3 =>
    (arena_Arena_Set t_3.2 t_3.1 1 t_1.1).bind fun t_4 =>
    some t_4.2)).bind fun s =>
  ((bif t_1.1 != (-1) then
    (arena_Arena_Set s t_1.1 2 t_.1).bind fun t_5 =>
    some t_5.2
  else
    some s)).bind fun s1 =>
  (pairing_root s1 n).bind fun t_6 =>
  some t_6

def pairing_Fall (k : Nat) (a_ : arena_Arena) (r : Int) (i : Int) : Option (Int × arena_Arena) :=
  (item_Node a_ i).bind fun t_ =>
  ((bif t_.1 == (-1) then
    some (true, t_.2)
  else
    (bif t_.1 == r then
      some (true, t_.2)
    else
      (arena_Arena_Cell t_.2 t_.1 0).bind fun t_1 =>
      some (t_1.1 == (-1), t_1.2)))).bind fun s =>
  (bif s.1 then
    some (r, s.2)
  else
    (pairing_leave s.2 t_.1).bind fun t_2 =>
    (pairing_link k t_2 r t_.1).bind fun t_3 =>
    some (t_3.1, t_3.2))

def kind_Fall (k : Nat) (k_ : Int) (a_ : arena_Arena) (r : Int) (i : Int) : Option (Int × arena_Arena) :=
  (bif k_ == 1 then
    (leftist_Fall k a_ r i).bind fun t_ =>
    some (t_.1, t_.2)
  else
    (bif k_ == 2 then
      (binomial_Fall k a_ r i).bind fun t_1 =>
      some (t_1.1, t_1.2)
    else
      (bif k_ == 3 then
        (skew_Fall k a_ r i).bind fun t_2 =>
        some (t_2.1, t_2.2)
      else
        (bif k_ == 4 then
          (fib_Fall k a_ r i).bind fun t_3 =>
          some (t_3.1, t_3.2)
        else
          (bif k_ == 5 then
            (pairing_Fall k a_ r i).bind fun t_4 =>
            some (t_4.1, t_4.2)
          else
            some (r, a_))))))

def leftist_Cut (k : Nat) (a_ : arena_Arena) (r : Int) (i : Int) : Option (Int × arena_Arena) :=
  (item_Node a_ i).bind fun t_ =>
  (bif t_.1 == (-1) then
    some (r, t_.2)
  else
    ((bif t_.1 == r then
      some (true, t_.2)
    else
      (arena_Arena_Cell t_.2 t_.1 0).bind fun t_1 =>
      some (t_1.1 == (-1), t_1.2))).bind fun s =>
    (bif s.1 then
      (leftist_Pop k s.2 t_.1).bind fun t_2 =>
      some (t_2.1, t_2.2.2)
    else
      (leftist_leave k s.2 t_.1).bind fun t_3 =>
      (leftist_Pop k t_3 t_.1).bind fun t_4 =>
      (leftist_meld k t_4.2.2 r t_4.1).bind fun t_5 =>
      some (t_5.1, t_5.2)))

def slices_Index_int_l0 (v_1 : Int) (x1 : Int) (l : List Int) : Nat → Int → Option ((Int) ⊕ (Unit))
  | 0, _ => none
  | m + 1, x =>
    (bif decide (x < x1) then
      (mIdx l x).bind fun x2 =>
      (bif v_1 == x2 then
        some (.inl x)
      else
        slices_Index_int_l0 v_1 x1 l m (w64 (x + 1)))
    else
      some (.inr ()))

def slices_Index_int (k : Nat) (s : List Int) (v_ : Int) : Option (Int) :=
  (slices_Index_int_l0 v_ (s.length : Int) s k 0).bind fun s1 =>
  match s1 with
  | .inl r_ => some r_
  | .inr s2 =>
    some (-1)

def slices_Contains_int (k : Nat) (s : List Int) (v_ : Int) : Option (Bool) :=
  (slices_Index_int k s v_).bind fun t_ =>
  some (decide (t_ ≥ 0))

def binomial_Cut (k : Nat) (a_ : arena_Arena) (r : Int) (i : Int) : Option (Int × arena_Arena) :=
  (item_Node a_ i).bind fun t_ =>
  (bif t_.1 == (-1) then
    some (r, t_.2)
  else
    (trees_Rise k t_.2 i true).bind fun t_1 =>
    (trees_List k t_1.2 r).bind fun t_2 =>
    (slices_Contains_int k t_2.1 t_1.1).bind fun t_3 =>
    (bif !t_3 then
      some (r, t_2.2)
    else
      (binomial_without k t_2.2 t_2.1 t_1.1).bind fun t_4 =>
      some (t_4.1, t_4.2.2)))

def skew_Cut (k : Nat) (a_ : arena_Arena) (r : Int) (i : Int) : Option (Int × arena_Arena) :=
  (item_Node a_ i).bind fun t_ =>
  (bif t_.1 == (-1) then
    some (r, t_.2)
  else
    (trees_Rise k t_.2 i true).bind fun t_1 =>
    (trees_List k t_1.2 r).bind fun t_2 =>
    (slices_Contains_int k t_2.1 t_1.1).bind fun t_3 =>
    (bif !t_3 then
      some (r, t_2.2)
    else
      (skew_without k t_2.2 t_2.1 t_1.1).bind fun t_4 =>
      some (t_4.1, t_4.2.2)))

def fib_Cut (k : Nat) (a_ : arena_Arena) (r : Int) (i : Int) : Option (Int × arena_Arena) :=
  (item_Node a_ i).bind fun t_ =>
  (bif t_.1 == (-1) then
    some (r, t_.2)
  else
    (arena_Arena_Cell t_.2 t_.1 0).bind fun t_1 =>
    ((bif t_1.1 != (-1) then
      (fib_cut k t_1.2 r t_.1).bind fun t_2 =>
      some t_2
    else
      some t_1.2)).bind fun s =>
    (fib_pop k s t_.1).bind fun t_3 =>
    some (t_3.1, t_3.2.2))

def pairing_Cut (k : Nat) (a_ : arena_Arena) (r : Int) (i : Int) : Option (Int × arena_Arena) :=
  (item_Node a_ i).bind fun t_ =>
  (bif t_.1 == (-1) then
    some (r, t_.2)
  else
    ((bif t_.1 == r then
      some (true, t_.2)
    else
      (arena_Arena_Cell t_.2 t_.1 0).bind fun t_1 =>
      some (t_1.1 == (-1), t_1.2))).bind fun s =>
    (bif s.1 then
      (pairing_pop k s.2 t_.1).bind fun t_2 =>
      some (t_2.1, t_2.2.2)
    else
      (pairing_leave s.2 t_.1).bind fun t_3 =>
      (pairing_pop k t_3 t_.1).bind fun t_4 =>
      (pairing_link k t_4.2.2 r t_4.1).bind fun t_5 =>
      some (t_5.1, t_5.2)))

def kind_Cut (k : Nat) (k_ : Int) (a_ : arena_Arena) (r : Int) (i : Int) : Option (Int × arena_Arena) :=
  (bif k_ == 1 then
    (leftist_Cut k a_ r i).bind fun t_ =>
    some (t_.1, t_.2)
  else
    (bif k_ == 2 then
      (binomial_Cut k a_ r i).bind fun t_1 =>
      some (t_1.1, t_1.2)
    else
      (bif k_ == 3 then
        (skew_Cut k a_ r i).bind fun t_2 =>
        some (t_2.1, t_2.2)
      else
        (bif k_ == 4 then
          (fib_Cut k a_ r i).bind fun t_3 =>
          some (t_3.1, t_3.2)
        else
          (bif k_ == 5 then
            (pairing_Cut k a_ r i).bind fun t_4 =>
            some (t_4.1, t_4.2)
          else
            some (r, a_))))))

def leftist_Meld (k : Nat) (a_ : arena_Arena) (r : Int) (s : Int) : Option (Int × arena_Arena) :=
  (leftist_meld k a_ r s).bind fun t_ =>
  some (t_.1, t_.2)

def binomial_Meld (k : Nat) (a_ : arena_Arena) (r : Int) (s : Int) : Option (Int × arena_Arena) :=
  (bif r == s then
    some (r, a_)
  else
    (trees_List k a_ r).bind fun t_ =>
    (trees_List k t_.2 s).bind fun t_1 =>
    (mApp t_.1 t_1.1).bind fun l =>
    (trees_Carry k t_1.2 l).bind fun t_2 =>
    some (t_2.1, t_2.2))

def skew_Meld (k : Nat) (a_ : arena_Arena) (r : Int) (s : Int) : Option (Int × arena_Arena) :=
  (bif r == s then
    some (r, a_)
  else
    (trees_List k a_ r).bind fun t_ =>
    (trees_List k t_.2 s).bind fun t_1 =>
    (mApp t_.1 t_1.1).bind fun l =>
    (trees_Carry k t_1.2 l).bind fun t_2 =>
    some (t_2.1, t_2.2))

def chain_Join (a_ : arena_Arena) (c_ : Int) (d : Int) : Option (arena_Arena) :=
  (arena_Arena_Cell a_ c_ 3).bind fun t_ =>
  (arena_Arena_Cell t_.2 d 2).bind fun t_1 =>
  (chain_link t_1.2 c_ d).bind fun t_2 =>
  (chain_link t_2 t_1.1 t_.1).bind fun t_3 =>
  some t_3

def fib_Meld (k : Nat) (a_ : arena_Arena) (r : Int) (s : Int) : Option (Int × arena_Arena) :=
  (bif r == (-1) then
    some (s, a_)
  else
    (bif (s == (-1)) || (r == s) then
      some (r, a_)
    else
      (chain_Join a_ r s).bind fun t_ =>
      (fib_lesser k t_ r s).bind fun t_1 =>
      some (t_1.1, t_1.2)))

def pairing_Meld (k : Nat) (a_ : arena_Arena) (r : Int) (s : Int) : Option (Int × arena_Arena) :=
  (pairing_link k a_ r s).bind fun t_ =>
  some (t_.1, t_.2)

def kind_Meld (k : Nat) (k_ : Int) (a_ : arena_Arena) (r : Int) (s : Int) : Option (Int × arena_Arena) :=
  (bif k_ == 1 then
    (leftist_Meld k a_ r s).bind fun t_ =>
    some (t_.1, t_.2)
  else
    (bif k_ == 2 then
      (binomial_Meld k a_ r s).bind fun t_1 =>
      some (t_1.1, t_1.2)
    else
      (bif k_ == 3 then
        (skew_Meld k a_ r s).bind fun t_2 =>
        some (t_2.1, t_2.2)
      else
        (bif k_ == 4 then
          (fib_Meld k a_ r s).bind fun t_3 =>
          some (t_3.1, t_3.2)
        else
          (bif k_ == 5 then
            (pairing_Meld k a_ r s).bind fun t_4 =>
            some (t_4.1, t_4.2)
          else
            some (r, a_))))))

def leftist_nodes_f1 (n : Int) (a_ : arena_Arena) : Option ((List Int) × arena_Arena) :=
  (arena_Arena_Cell a_ n 2).bind fun t_ =>
  (arena_Arena_Cell t_.2 n 3).bind fun t_1 =>
  some (([t_.1, t_1.1] : List Int), t_1.2)

def node_Below_g172_l0 (l1 : List Int) : Nat → (List Int) → (List Int) → (List Bool) → arena_Arena → Option ((List Int) × arena_Arena)
  | 0, _, _, _, _ => none
  | m + 1, out, wait, m_, m_1 =>
    (bif decide ((wait.length : Int) > 0) then
      (mIdx wait (w64 ((wait.length : Int) - 1))).bind fun x =>
      (mCut wait 0 (w64 ((wait.length : Int) - 1))).bind fun l2 =>
      ((arena_Arena_Live m_1 x).bind fun t_2 =>
      (bif !t_2 then
        some true
      else
        (mIdx m_ x).bind fun x1 =>
        some x1)).bind fun s1 =>
      (bif s1 then
        node_Below_g172_l0 l1 m out l2 m_ m_1
      else
        (mIdx m_ x).bind fun x2 =>
        (mApp out ([x] : List Int)).bind fun l3 =>
        (leftist_nodes_f1 x m_1).bind fun t_3 =>
        (mApp l2 t_3.1).bind fun l4 =>
        node_Below_g172_l0 l1 m l3 l4 (mSet m_ x true) t_3.2)
    else
      some (out, m_1))

def node_Below_g172 (k : Nat) (a_ : arena_Arena) (first : List Int) : Option ((List Int) × arena_Arena) :=
  (arena_Arena_Cells a_).bind fun t_ =>
  (mMake t_ false).bind fun l =>
  (lClone first).bind fun t_1 =>
  (node_Below_g172_l0 first k ([] : List Int) t_1 l a_).bind fun s =>
  some (s.1, s.2)

def leftist_nodes (k : Nat) (a_ : arena_Arena) (r : Int) : Option ((List Int) × arena_Arena) :=
  (node_Below_g172 k a_ ([r] : List Int)).bind fun t_ =>
  some (t_.1, t_.2)

def node_Items_l0 (x1 : Int) (l1 : List Int) : Nat → (List Int) → Int → arena_Arena → Option ((List Int) × arena_Arena)
  | 0, _, _, _ => none
  | m + 1, out, x, m_ =>
    (bif decide (x < x1) then
      ((mIdx l1 x).bind fun x2 =>
      (arena_Arena_Cell m_ x2 6).bind fun t_ =>
      (bif t_.1 != (-1) then
        (mApp out ([t_.1] : List Int)).bind fun l2 =>
        some (l2, t_.2)
      else
        some (out, t_.2))).bind fun s1 =>
      node_Items_l0 x1 l1 m s1.1 (w64 (x + 1)) s1.2
    else
      some (out, m_))

def node_Items (k : Nat) (a_ : arena_Arena) (l : List Int) : Option ((List Int) × arena_Arena) :=
  (node_Items_l0 (l.length : Int) l k ([] : List Int) 0 a_).bind fun s =>
  (lSort s.1).bind fun t_1 =>
  some (t_1, s.2)

def leftist_All (k : Nat) (a_ : arena_Arena) (r : Int) : Option ((List Int) × arena_Arena) :=
  (leftist_nodes k a_ r).bind fun t_ =>
  (node_Items k t_.2 t_.1).bind fun t_1 =>
  some (t_1.1, t_1.2)

def trees_Nodes_f1 (k : Nat) (n : Int) (a_ : arena_Arena) : Option ((List Int) × arena_Arena) :=
  (trees_Kids k a_ n).bind fun t_ =>
  some (t_.1, t_.2)

def node_Below_g158_l0 (l1 : List Int) : Nat → (List Int) → (List Int) → (List Bool) → arena_Arena → Option ((List Int) × arena_Arena)
  | 0, _, _, _, _ => none
  | m + 1, out, wait, m_, m_1 =>
    (bif decide ((wait.length : Int) > 0) then
      (mIdx wait (w64 ((wait.length : Int) - 1))).bind fun x =>
      (mCut wait 0 (w64 ((wait.length : Int) - 1))).bind fun l2 =>
      ((arena_Arena_Live m_1 x).bind fun t_2 =>
      (bif !t_2 then
        some true
      else
        (mIdx m_ x).bind fun x1 =>
        some x1)).bind fun s1 =>
      (bif s1 then
        node_Below_g158_l0 l1 m out l2 m_ m_1
      else
        (mIdx m_ x).bind fun x2 =>
        (mApp out ([x] : List Int)).bind fun l3 =>
        (trees_Nodes_f1 m x m_1).bind fun t_3 =>
        (mApp l2 t_3.1).bind fun l4 =>
        node_Below_g158_l0 l1 m l3 l4 (mSet m_ x true) t_3.2)
    else
      some (out, m_1))

def node_Below_g158 (k : Nat) (a_ : arena_Arena) (first : List Int) : Option ((List Int) × arena_Arena) :=
  (arena_Arena_Cells a_).bind fun t_ =>
  (mMake t_ false).bind fun l =>
  (lClone first).bind fun t_1 =>
  (node_Below_g158_l0 first k ([] : List Int) t_1 l a_).bind fun s =>
  some (s.1, s.2)

def trees_Nodes (k : Nat) (a_ : arena_Arena) (r : Int) : Option ((List Int) × arena_Arena) :=
  (trees_List k a_ r).bind fun t_ =>
  (node_Below_g158 k t_.2 t_.1).bind fun t_1 =>
  some (t_1.1, t_1.2)

def binomial_All (k : Nat) (a_ : arena_Arena) (r : Int) : Option ((List Int) × arena_Arena) :=
  (trees_Nodes k a_ r).bind fun t_ =>
  (node_Items k t_.2 t_.1).bind fun t_1 =>
  some (t_1.1, t_1.2)

def skew_All (k : Nat) (a_ : arena_Arena) (r : Int) : Option ((List Int) × arena_Arena) :=
  (trees_Nodes k a_ r).bind fun t_ =>
  (node_Items k t_.2 t_.1).bind fun t_1 =>
  some (t_1.1, t_1.2)

def fib_nodes_f1 (k : Nat) (n : Int) (a_ : arena_Arena) : Option ((List Int) × arena_Arena) :=
  (arena_Arena_Cell a_ n 1).bind fun t_ =>
  (chain_All k t_.2 t_.1).bind fun t_1 =>
  some (t_1.1, t_1.2)

def node_Below_g173_l0 (l1 : List Int) : Nat → (List Int) → (List Int) → (List Bool) → arena_Arena → Option ((List Int) × arena_Arena)
  | 0, _, _, _, _ => none
  | m + 1, out, wait, m_, m_1 =>
    (bif decide ((wait.length : Int) > 0) then
      (mIdx wait (w64 ((wait.length : Int) - 1))).bind fun x =>
      (mCut wait 0 (w64 ((wait.length : Int) - 1))).bind fun l2 =>
      ((arena_Arena_Live m_1 x).bind fun t_2 =>
      (bif !t_2 then
        some true
      else
        (mIdx m_ x).bind fun x1 =>
        some x1)).bind fun s1 =>
      (bif s1 then
        node_Below_g173_l0 l1 m out l2 m_ m_1
      else
        (mIdx m_ x).bind fun x2 =>
        (mApp out ([x] : List Int)).bind fun l3 =>
        (fib_nodes_f1 m x m_1).bind fun t_3 =>
        (mApp l2 t_3.1).bind fun l4 =>
        node_Below_g173_l0 l1 m l3 l4 (mSet m_ x true) t_3.2)
    else
      some (out, m_1))

def node_Below_g173 (k : Nat) (a_ : arena_Arena) (first : List Int) : Option ((List Int) × arena_Arena) :=
  (arena_Arena_Cells a_).bind fun t_ =>
  (mMake t_ false).bind fun l =>
  (lClone first).bind fun t_1 =>
  (node_Below_g173_l0 first k ([] : List Int) t_1 l a_).bind fun s =>
  some (s.1, s.2)

def fib_nodes (k : Nat) (a_ : arena_Arena) (r : Int) : Option ((List Int) × arena_Arena) :=
  (chain_All k a_ r).bind fun t_ =>
  (node_Below_g173 k t_.2 t_.1).bind fun t_1 =>
  some (t_1.1, t_1.2)

def fib_All (k : Nat) (a_ : arena_Arena) (r : Int) : Option ((List Int) × arena_Arena) :=
  (fib_nodes k a_ r).bind fun t_ =>
  (node_Items k t_.2 t_.1).bind fun t_1 =>
  some (t_1.1, t_1.2)

def pairing_nodes_f1 (k : Nat) (n : Int) (a_ : arena_Arena) : Option ((List Int) × arena_Arena) :=
  (pairing_kids k a_ n).bind fun t_ =>
  some (t_.1, t_.2)

def node_Below_g174_l0 (l1 : List Int) : Nat → (List Int) → (List Int) → (List Bool) → arena_Arena → Option ((List Int) × arena_Arena)
  | 0, _, _, _, _ => none
  | m + 1, out, wait, m_, m_1 =>
    (bif decide ((wait.length : Int) > 0) then
      (mIdx wait (w64 ((wait.length : Int) - 1))).bind fun x =>
      (mCut wait 0 (w64 ((wait.length : Int) - 1))).bind fun l2 =>
      ((arena_Arena_Live m_1 x).bind fun t_2 =>
      (bif !t_2 then
        some true
      else
        (mIdx m_ x).bind fun x1 =>
        some x1)).bind fun s1 =>
      (bif s1 then
        node_Below_g174_l0 l1 m out l2 m_ m_1
      else
        (mIdx m_ x).bind fun x2 =>
        (mApp out ([x] : List Int)).bind fun l3 =>
        (pairing_nodes_f1 m x m_1).bind fun t_3 =>
        (mApp l2 t_3.1).bind fun l4 =>
        node_Below_g174_l0 l1 m l3 l4 (mSet m_ x true) t_3.2)
    else
      some (out, m_1))

def node_Below_g174 (k : Nat) (a_ : arena_Arena) (first : List Int) : Option ((List Int) × arena_Arena) :=
  (arena_Arena_Cells a_).bind fun t_ =>
  (mMake t_ false).bind fun l =>
  (lClone first).bind fun t_1 =>
  (node_Below_g174_l0 first k ([] : List Int) t_1 l a_).bind fun s =>
  some (s.1, s.2)

def pairing_nodes (k : Nat) (a_ : arena_Arena) (r : Int) : Option ((List Int) × arena_Arena) :=
  (node_Below_g174 k a_ ([r] : List Int)).bind fun t_ =>
  some (t_.1, t_.2)

def pairing_All (k : Nat) (a_ : arena_Arena) (r : Int) : Option ((List Int) × arena_Arena) :=
  (pairing_nodes k a_ r).bind fun t_ =>
  (node_Items k t_.2 t_.1).bind fun t_1 =>
  some (t_1.1, t_1.2)

def kind_All (k : Nat) (k_ : Int) (a_ : arena_Arena) (r : Int) : Option ((List Int) × arena_Arena) :=
  (bif k_ == 1 then
    (leftist_All k a_ r).bind fun t_ =>
    some (t_.1, t_.2)
  else
    (bif k_ == 2 then
      (binomial_All k a_ r).bind fun t_1 =>
      some (t_1.1, t_1.2)
    else
      (bif k_ == 3 then
        (skew_All k a_ r).bind fun t_2 =>
        some (t_2.1, t_2.2)
      else
        (bif k_ == 4 then
          (fib_All k a_ r).bind fun t_3 =>
          some (t_3.1, t_3.2)
        else
          (bif k_ == 5 then
            (pairing_All k a_ r).bind fun t_4 =>
            some (t_4.1, t_4.2)
          else
            some (([] : List Int), a_))))))

def node_Drop_l0 (x1 : Int) (l1 : List Int) (l2 : List Int) : Nat → Int → arena_Arena → Option (arena_Arena)
  | 0, _, _ => none
  | m + 1, x, m_ =>
    (bif decide (x < x1) then
      (mIdx l2 x).bind fun x2 =>
      (node_End m_ x2).bind fun t_1 =>
      node_Drop_l0 x1 l1 l2 m (w64 (x + 1)) t_1.2
    else
      some m_)

def node_Drop (k : Nat) (a_ : arena_Arena) (l : List Int) : Option ((List Int) × arena_Arena) :=
  (node_Items k a_ l).bind fun t_ =>
  (node_Drop_l0 (l.length : Int) t_.1 l k 0 t_.2).bind fun s =>
  some (t_.1, s)

def leftist_Drop (k : Nat) (a_ : arena_Arena) (r : Int) : Option ((List Int) × arena_Arena) :=
  (leftist_nodes k a_ r).bind fun t_ =>
  (node_Drop k t_.2 t_.1).bind fun t_1 =>
  some (t_1.1, t_1.2)

def binomial_Drop (k : Nat) (a_ : arena_Arena) (r : Int) : Option ((List Int) × arena_Arena) :=
  (trees_Nodes k a_ r).bind fun t_ =>
  (node_Drop k t_.2 t_.1).bind fun t_1 =>
  some (t_1.1, t_1.2)

def skew_Drop (k : Nat) (a_ : arena_Arena) (r : Int) : Option ((List Int) × arena_Arena) :=
  (trees_Nodes k a_ r).bind fun t_ =>
  (node_Drop k t_.2 t_.1).bind fun t_1 =>
  some (t_1.1, t_1.2)

def fib_Drop (k : Nat) (a_ : arena_Arena) (r : Int) : Option ((List Int) × arena_Arena) :=
  (fib_nodes k a_ r).bind fun t_ =>
  (node_Drop k t_.2 t_.1).bind fun t_1 =>
  some (t_1.1, t_1.2)

def pairing_Drop (k : Nat) (a_ : arena_Arena) (r : Int) : Option ((List Int) × arena_Arena) :=
  (pairing_nodes k a_ r).bind fun t_ =>
  (node_Drop k t_.2 t_.1).bind fun t_1 =>
  some (t_1.1, t_1.2)

def kind_Drop (k : Nat) (k_ : Int) (a_ : arena_Arena) (r : Int) : Option ((List Int) × arena_Arena) :=
  (bif k_ == 1 then
    (leftist_Drop k a_ r).bind fun t_ =>
    some (t_.1, t_.2)
  else
    (bif k_ == 2 then
      (binomial_Drop k a_ r).bind fun t_1 =>
      some (t_1.1, t_1.2)
    else
      (bif k_ == 3 then
        (skew_Drop k a_ r).bind fun t_2 =>
        some (t_2.1, t_2.2)
      else
        (bif k_ == 4 then
          (fib_Drop k a_ r).bind fun t_3 =>
          some (t_3.1, t_3.2)
        else
          (bif k_ == 5 then
            (pairing_Drop k a_ r).bind fun t_4 =>
            some (t_4.1, t_4.2)
          else
            some (([] : List Int), a_))))))

def kind_Right (k_ : Int) : Option (Bool) :=
  some ((decide (k_ ≥ 1)) && (decide (k_ ≤ 5)))

def kind_Worst (k_ : Int) : Option (Bool) :=
  some ((decide (k_ ≥ 1)) && (decide (k_ ≤ 3)))

def thicketlaw15_known (k : Nat)  : Option (Bool) :=
  (arena_New 4).bind fun t_ =>
  (item_New t_ 5 0).bind fun t_1 =>
  (kind_Push k 3 t_1.2.2 (-1) t_1.1).bind fun t_2 =>
  (kind_Push k 9 t_2.2.2 (-1) t_1.1).bind fun t_3 =>
  ((bif t_2.2.1 then
    (bif !t_3.2.1 then
      (kind_Min k 3 t_3.2.2 t_2.1).bind fun t_4 =>
      (bif t_4.1 == t_1.1 then
        (kind_Min k 9 t_4.2 t_2.1).bind fun t_5 =>
        (bif t_5.1 == (-1) then
          (kind_Right 0).bind fun t_6 =>
          (bif !t_6 then
            (kind_Right 5).bind fun t_7 =>
            (bif t_7 then
              (kind_Worst 4).bind fun t_8 =>
              (bif !t_8 then
                (kind_Worst 3).bind fun t_9 =>
                some (t_9, t_5.2)
              else
                some (false, t_5.2))
            else
              some (false, t_5.2))
          else
            some (false, t_5.2))
        else
          some (false, t_5.2))
      else
        some (false, t_4.2))
    else
      some (false, t_3.2.2))
  else
    some (false, t_3.2.2))).bind fun s =>
  some s.1

def thicketlaw15_KindNumbers_l0 (i : Int) (ok : Bool) (l : List Int) : Nat → Int → arena_Arena → Option ((Bool) ⊕ (arena_Arena))
  | 0, _, _ => none
  | m + 1, x, m_ =>
    (bif decide (x < 4) then
      (mIdx l x).bind fun x1 =>
      (kind_Push m x1 m_ 3 i).bind fun t_2 =>
      (kind_Pop m x1 t_2.2.2 3).bind fun t_3 =>
      ((bif !ok then
        some (true, t_3.2.2)
      else
        (bif t_2.1 != 3 then
          some (true, t_3.2.2)
        else
          (bif t_2.2.1 then
            some (true, t_3.2.2)
          else
            (bif t_3.1 != (-1) then
              some (true, t_3.2.2)
            else
              (bif t_3.2.1 != (-1) then
                some (true, t_3.2.2)
              else
                (kind_Min m x1 t_3.2.2 3).bind fun t_4 =>
                (bif t_4.1 != (-1) then
                  some (true, t_4.2)
                else
                  (kind_Fall m x1 t_4.2 3 i).bind fun t_5 =>
                  (bif t_5.1 != 3 then
                    some (true, t_5.2)
                  else
                    (kind_Cut m x1 t_5.2 3 i).bind fun t_6 =>
                    (bif t_6.1 != 3 then
                      some (true, t_6.2)
                    else
                      (kind_Meld m x1 t_6.2 3 4).bind fun t_7 =>
                      (bif t_7.1 != 3 then
                        some (true, t_7.2)
                      else
                        (kind_All m x1 t_7.2 3).bind fun t_8 =>
                        (kind_Drop m x1 t_8.2 3).bind fun t_9 =>
                        (bif (w64 ((t_8.1.length : Int) + (t_9.1.length : Int))) != 0 then
                          some (true, t_9.2)
                        else
                          (kind_Right x1).bind fun t_10 =>
                          (bif t_10 then
                            some (true, t_9.2)
                          else
                            (kind_Worst x1).bind fun t_11 =>
                            some (t_11, t_9.2))))))))))))).bind fun s2 =>
      (bif s2.1 then
        some (.inl false)
      else
        thicketlaw15_KindNumbers_l0 i ok l m (w64 (x + 1)) s2.2)
    else
      some (.inr m_))

def thicketlaw15_KindNumbers (k : Nat)  : Option (Bool) :=
  (arena_New 10).bind fun t_ =>
  (item_New t_ 5 0).bind fun t_1 =>
  (thicketlaw15_KindNumbers_l0 t_1.1 t_1.2.1 ([(-1), 0, 6, 99] : List Int) k 0 t_1.2.2).bind fun s =>
  match s with
  | .inl r_ => some r_
  | .inr s1 =>
    ((kind_Worst 1).bind fun t_12 =>
    (bif t_12 then
      (kind_Worst 2).bind fun t_13 =>
      (bif t_13 then
        (kind_Worst 5).bind fun t_14 =>
        (bif !t_14 then
          (thicketlaw15_known k).bind fun t_15 =>
          some t_15
        else
          some false)
      else
        some false)
    else
      some false)).bind fun s3 =>
    some s3

end Go.Proofs.YthblgkpmefpllaaGreat
