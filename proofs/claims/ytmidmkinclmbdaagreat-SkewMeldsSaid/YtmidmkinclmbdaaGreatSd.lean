import Derived.Test.YtmidmkinclmbdaaGreatE12
set_option linter.unusedVariables false
set_option linter.unusedSimpArgs false
set_option maxRecDepth 10000
set_option maxHeartbeats 4000000
namespace Go.Proofs.YtmidmkinclmbdaaGreat
open Go.Th

structure arena_cell where
  f0 : Int
  f1 : Int
  f2 : Int
  f3 : Int
  f4 : Int
  f5 : Int
  f6 : Int
  f7 : Int
  f8 : Int
  f9 : Int
  taken : Bool

def arena_cell.enc (x : arena_cell) : List Value := [.int .i64 x.f0, .int .i64 x.f1, .int .i64 x.f2, .int .i64 x.f3, .int .i64 x.f4, .int .i64 x.f5, .int .i64 x.f6, .int .i64 x.f7, .int .i64 x.f8, .int .i64 x.f9, .bool x.taken]

def arena_cell.get_f (x : arena_cell) (i : Int) : Option Int :=
  if i = 0 then some x.f0 else if i = 1 then some x.f1 else if i = 2 then some x.f2 else if i = 3 then some x.f3 else if i = 4 then some x.f4 else if i = 5 then some x.f5 else if i = 6 then some x.f6 else if i = 7 then some x.f7 else if i = 8 then some x.f8 else if i = 9 then some x.f9 else none

def arena_cell.set_f (x : arena_cell) (i v : Int) : Option arena_cell :=
  if i = 0 then some (arena_cell.mk v x.f1 x.f2 x.f3 x.f4 x.f5 x.f6 x.f7 x.f8 x.f9 x.taken) else if i = 1 then some (arena_cell.mk x.f0 v x.f2 x.f3 x.f4 x.f5 x.f6 x.f7 x.f8 x.f9 x.taken) else if i = 2 then some (arena_cell.mk x.f0 x.f1 v x.f3 x.f4 x.f5 x.f6 x.f7 x.f8 x.f9 x.taken) else if i = 3 then some (arena_cell.mk x.f0 x.f1 x.f2 v x.f4 x.f5 x.f6 x.f7 x.f8 x.f9 x.taken) else if i = 4 then some (arena_cell.mk x.f0 x.f1 x.f2 x.f3 v x.f5 x.f6 x.f7 x.f8 x.f9 x.taken) else if i = 5 then some (arena_cell.mk x.f0 x.f1 x.f2 x.f3 x.f4 v x.f6 x.f7 x.f8 x.f9 x.taken) else if i = 6 then some (arena_cell.mk x.f0 x.f1 x.f2 x.f3 x.f4 x.f5 v x.f7 x.f8 x.f9 x.taken) else if i = 7 then some (arena_cell.mk x.f0 x.f1 x.f2 x.f3 x.f4 x.f5 x.f6 v x.f8 x.f9 x.taken) else if i = 8 then some (arena_cell.mk x.f0 x.f1 x.f2 x.f3 x.f4 x.f5 x.f6 x.f7 v x.f9 x.taken) else if i = 9 then some (arena_cell.mk x.f0 x.f1 x.f2 x.f3 x.f4 x.f5 x.f6 x.f7 x.f8 v x.taken) else none

theorem arena_cell.enc_ok : EncOk arena_cell.enc 11 := ⟨fun _ => rfl, fun x u hu => by simp only [arena_cell.enc, List.mem_cons, List.not_mem_nil, or_false] at hu; rcases hu with rfl | rfl | rfl | rfl | rfl | rfl | rfl | rfl | rfl | rfl | rfl <;> rfl⟩

structure meter_Meter where
  steps : Int
  begun : Int
  most : Int

structure arena_Arena where
  l : List arena_cell
  never : Int
  free : List Int
  m_ : meter_Meter

structure api_Entry where
  Key : Int
  Serial : Int

def api_Entry.enc (x : api_Entry) : List Value := [.int .i64 x.Key, .int .i64 x.Serial]

theorem api_Entry.enc_ok : EncOk api_Entry.enc 2 := ⟨fun _ => rfl, fun x u hu => by simp only [api_Entry.enc, List.mem_cons, List.not_mem_nil, or_false] at hu; rcases hu with rfl | rfl <;> rfl⟩

structure thicketlaw11_held where
  cell : Int
  e : api_Entry

def thicketlaw11_held.enc (x : thicketlaw11_held) : List Value := [.int .i64 x.cell, .int .i64 x.e.Key, .int .i64 x.e.Serial]

theorem thicketlaw11_held.enc_ok : EncOk thicketlaw11_held.enc 3 := ⟨fun _ => rfl, fun x u hu => by simp only [thicketlaw11_held.enc, List.mem_cons, List.not_mem_nil, or_false] at hu; rcases hu with rfl | rfl | rfl <;> rfl⟩

structure thicketlaw11_world where
  a_ : arena_Arena
  root0 : Int
  root1 : Int
  has0 : List thicketlaw11_held
  has1 : List thicketlaw11_held
  next : Int
  spent : Int
  most : Int

structure trees_ranked where
  n : Int
  rank : Int

def trees_ranked.enc (x : trees_ranked) : List Value := [.int .i64 x.n, .int .i64 x.rank]

theorem trees_ranked.enc_ok : EncOk trees_ranked.enc 2 := ⟨fun _ => rfl, fun x u hu => by simp only [trees_ranked.enc, List.mem_cons, List.not_mem_nil, or_false] at hu; rcases hu with rfl | rfl <;> rfl⟩

def api_Entry.eq (x y : api_Entry) : Bool := (x.Key == y.Key && (x.Serial == y.Serial && true))

structure thicketlaw11_Ask where
  Kind : Int
  H_ : Int
  I : Int
  Key : Int

def thicketlaw11_Ask.enc (x : thicketlaw11_Ask) : List Value := [.int .i64 x.Kind, .int .i64 x.H_, .int .i64 x.I, .int .i64 x.Key]

theorem thicketlaw11_Ask.enc_ok : EncOk thicketlaw11_Ask.enc 4 := ⟨fun _ => rfl, fun x u hu => by simp only [thicketlaw11_Ask.enc, List.mem_cons, List.not_mem_nil, or_false] at hu; rcases hu with rfl | rfl | rfl | rfl <;> rfl⟩

def arena_Arena_Meter (a_ : arena_Arena) : Option (Unit) :=
  some ()

def meter_Meter_Steps (m_ : meter_Meter) : Option (Int) :=
  some m_.steps

def thicketref1_Bits_l0 : Nat → Int → Int → Option (Int)
  | 0, _, _ => none
  | m + 1, n1, k_ =>
    (bif decide (n1 > 0) then
      thicketref1_Bits_l0 m (w64 (Int.tdiv n1 2)) (w64 (k_ + 1))
    else
      some k_)

def thicketref1_Bits (k : Nat) (n : Int) : Option (Int) :=
  (thicketref1_Bits_l0 k n 0).bind fun s =>
  some s

def thicketref1_Add (a_ : Int) (b : Int) : Option (Int) :=
  (bif (decide (a_ > 0)) && (decide (b > w64 (9223372036854775807 - a_))) then
    some 9223372036854775807
  else
    (bif (decide (a_ < 0)) && (decide (b < w64 ((-9223372036854775808) - a_))) then
      some (-9223372036854775808)
    else
      some (w64 (a_ + b))))

def thicketref1_Limit_l0 (b1 : Int) : Nat → Int → Int → Option (Int)
  | 0, _, _ => none
  | m + 1, x, k_ =>
    (bif decide (k_ > 0) then
      (thicketref1_Add x b1).bind fun t_1 =>
      thicketref1_Limit_l0 b1 m t_1 (w64 (k_ - 1))
    else
      some x)

def thicketref1_Limit (k : Nat) (a_ : Int) (b : Int) (n : Int) : Option (Int) :=
  (thicketref1_Bits k n).bind fun t_ =>
  (thicketref1_Limit_l0 b k a_ t_).bind fun s =>
  some s

def thicketlaw11_world_cost (k : Nat) (w_ : thicketlaw11_world) (since : Int) (kind : Int) (n : Int) : Option (Bool × thicketlaw11_world) :=
  (arena_Arena_Meter w_.a_).bind fun t_ =>
  (meter_Meter_Steps w_.a_.m_).bind fun t_1 =>
  ((bif kind == 1 then
    (thicketref1_Limit k 500 400 n).bind fun t_2 =>
    some t_2
  else
    some 500)).bind fun s =>
  some (decide (w64 (t_1 - since) ≤ s), thicketlaw11_world.mk w_.a_ w_.root0 w_.root1 w_.has0 w_.has1 w_.next (w64 (w_.spent + (w64 (t_1 - since)))) (w64 (w_.most + s)))

def order_Add (a_ : Int) (b : Int) : Option (Int) :=
  (bif (decide (b > 0)) && (decide (a_ > w64 (9223372036854775807 - b))) then
    some 9223372036854775807
  else
    (bif (decide (b < 0)) && (decide (a_ < w64 ((-9223372036854775808) - b))) then
      some (-9223372036854775808)
    else
      some (w64 (a_ + b))))

def meter_Meter_Tick (m_ : meter_Meter) (n : Int) : Option (meter_Meter) :=
  (order_Add m_.steps (if n > 0 then n else 0)).bind fun t_ =>
  some (meter_Meter.mk t_ m_.begun m_.most)

def arena_fresh  : Option (arena_cell) :=
  some (arena_cell.mk (-1) (-1) (-1) (-1) 0 0 (-1) 0 0 (-1) true)

def arena_Arena_Take (a_ : arena_Arena) : Option (Int × Bool × arena_Arena) :=
  (meter_Meter_Tick a_.m_ 1).bind fun t_ =>
  ((bif decide (w64 ((a_.free.length : Int) - 1) ≥ 0) then
    (mIdx a_.free (w64 ((a_.free.length : Int) - 1))).bind fun x =>
    (mCut a_.free 0 (w64 ((a_.free.length : Int) - 1))).bind fun l =>
    some (.inr (x, arena_Arena.mk a_.l a_.never l t_))
  else
    (bif decide (a_.never ≥ (a_.l.length : Int)) then
      some (.inl ((-1), false, arena_Arena.mk a_.l a_.never a_.free t_))
    else
      some (.inr (a_.never, arena_Arena.mk a_.l (w64 (a_.never + 1)) a_.free t_)))) : Option ((Int × Bool × arena_Arena) ⊕ (Int × arena_Arena))).bind fun s =>
  match s with
  | .inl r_ => some r_
  | .inr s1 =>
    (arena_fresh).bind fun t_1 =>
    (mIdx s1.2.l s1.1).bind fun x1 =>
    some (s1.1, true, arena_Arena.mk (mSet s1.2.l s1.1 t_1) s1.2.never s1.2.free s1.2.m_)

def arena_Arena_Live (a_ : arena_Arena) (c_ : Int) : Option (Bool) :=
  ((bif decide (c_ ≥ 0) then
    (bif decide (c_ < (a_.l.length : Int)) then
      (mIdx a_.l c_).bind fun x1 =>
      some x1.taken
    else
      some false)
  else
    some false)).bind fun s =>
  some s

def arena_Arena_has (a_ : arena_Arena) (c_ : Int) (field : Int) : Option (Bool) :=
  ((arena_Arena_Live a_ c_).bind fun t_ =>
  (bif t_ then
    (bif decide (field ≥ 0) then
      some (decide (field < 10))
    else
      some false)
  else
    some false)).bind fun s =>
  some s

def arena_Arena_Set (a_ : arena_Arena) (c_ : Int) (field : Int) (v_ : Int) : Option (Bool × arena_Arena) :=
  (meter_Meter_Tick a_.m_ 1).bind fun t_ =>
  (arena_Arena_has (arena_Arena.mk a_.l a_.never a_.free t_) c_ field).bind fun t_1 =>
  (bif !t_1 then
    some (false, arena_Arena.mk a_.l a_.never a_.free t_)
  else
    (mIdx a_.l c_).bind fun x =>
    (mIn field 10).bind fun u =>
    (arena_cell.set_f x field v_).bind fun y =>
    some (true, arena_Arena.mk (mSet a_.l c_ y) a_.never a_.free t_))

def item_New (a_ : arena_Arena) (key : Int) (serial : Int) : Option (Int × Bool × arena_Arena) :=
  (arena_Arena_Take a_).bind fun t_ =>
  ((bif t_.2.1 then
    (arena_Arena_Set t_.2.2 t_.1 7 key).bind fun t_1 =>
    (arena_Arena_Set t_1.2 t_.1 8 serial).bind fun t_2 =>
    some t_2.2
  else
    some t_.2.2)).bind fun s =>
  some (t_.1, t_.2.1, s)

def arena_Arena_Len (a_ : arena_Arena) : Option (Int) :=
  some (w64 (a_.never - (a_.free.length : Int)))

def arena_Arena_Cells (a_ : arena_Arena) : Option (Int) :=
  some (a_.l.length : Int)

def item_Put (a_ : arena_Arena) (n : Int) (i : Int) : Option (arena_Arena) :=
  (arena_Arena_Set a_ n 6 i).bind fun t_ =>
  (arena_Arena_Set t_.2 i 9 n).bind fun t_1 =>
  some t_1.2

def node_New (a_ : arena_Arena) (i : Int) : Option (Int × Bool × arena_Arena) :=
  (arena_Arena_Take a_).bind fun t_ =>
  ((bif t_.2.1 then
    (item_Put t_.2.2 t_.1 i).bind fun t_1 =>
    some t_1
  else
    some t_.2.2)).bind fun s =>
  some (t_.1, t_.2.1, s)

def arena_Arena_Get (a_ : arena_Arena) (c_ : Int) (field : Int) : Option (Int × arena_Arena) :=
  (meter_Meter_Tick a_.m_ 1).bind fun t_ =>
  (arena_Arena_has (arena_Arena.mk a_.l a_.never a_.free t_) c_ field).bind fun t_1 =>
  (bif !t_1 then
    some ((-1), arena_Arena.mk a_.l a_.never a_.free t_)
  else
    (mIdx a_.l c_).bind fun x =>
    (mIn field 10).bind fun u =>
    (arena_cell.get_f x field).bind fun v_ =>
    some (v_, arena_Arena.mk a_.l a_.never a_.free t_))

def arena_Arena_Cell (a_ : arena_Arena) (c_ : Int) (field : Int) : Option (Int × arena_Arena) :=
  (arena_Arena_Get a_ c_ field).bind fun t_ =>
  ((bif decide (t_.1 < 0) then
    some (true, t_.2)
  else
    some (decide (t_.1 ≥ (a_.l.length : Int)), arena_Arena.mk a_.l t_.2.never a_.free t_.2.m_))).bind fun s =>
  (bif s.1 then
    some ((-1), s.2)
  else
    some (t_.1, s.2))

def item_Entry (a_ : arena_Arena) (i : Int) : Option (api_Entry × arena_Arena) :=
  (arena_Arena_Get a_ i 7).bind fun t_ =>
  (arena_Arena_Get t_.2 i 8).bind fun t_1 =>
  some (api_Entry.mk t_.1 t_1.1, t_1.2)

def cmp_isNaN_int64 (x : Int) : Option (Bool) :=
  some (x != x)

def cmp_Compare_int64 (x : Int) (y : Int) : Option (Int) :=
  (cmp_isNaN_int64 x).bind fun t_ =>
  (cmp_isNaN_int64 y).bind fun t_1 =>
  (bif t_ then
    (bif t_1 then
      some 0
    else
      some (-1))
  else
    (bif t_1 then
      some 1
    else
      (bif decide (x < y) then
        some (-1)
      else
        (bif decide (x > y) then
          some 1
        else
          some 0))))

def cmp_Or_int_l0 (x1 : Int) (l : List Int) : Nat → Int → Option ((Int) ⊕ (Unit))
  | 0, _ => none
  | m + 1, x =>
    (bif decide (x < x1) then
      (mIdx l x).bind fun x2 =>
      (bif x2 != 0 then
        some (.inl x2)
      else
        cmp_Or_int_l0 x1 l m (w64 (x + 1)))
    else
      some (.inr ()))

def cmp_Or_int (k : Nat) (vals : List Int) : Option (Int) :=
  (cmp_Or_int_l0 (vals.length : Int) vals k 0).bind fun s =>
  match s with
  | .inl r_ => some r_
  | .inr s1 =>
    some 0

def order_Compare (k : Nat) (a_ : api_Entry) (b : api_Entry) : Option (Int) :=
  (cmp_Compare_int64 a_.Key b.Key).bind fun t_ =>
  (cmp_Compare_int64 a_.Serial b.Serial).bind fun t_1 =>
  (cmp_Or_int k ([t_, t_1] : List Int)).bind fun t_2 =>
  some t_2

def item_Before (k : Nat) (a_ : arena_Arena) (i : Int) (j : Int) : Option (Bool × arena_Arena) :=
  (item_Entry a_ i).bind fun t_ =>
  (item_Entry t_.2 j).bind fun t_1 =>
  (order_Compare k t_.1 t_1.1).bind fun t_2 =>
  some ((decide (t_2 < 0)) || ((t_2 == 0) && (decide (i < j))), t_1.2)

def node_Before (k : Nat) (a_ : arena_Arena) (n : Int) (m_ : Int) : Option (Bool × arena_Arena) :=
  (arena_Arena_Cell a_ n 6).bind fun t_ =>
  (arena_Arena_Cell t_.2 m_ 6).bind fun t_1 =>
  (item_Before k t_1.2 t_.1 t_1.1).bind fun t_2 =>
  some (t_2.1, t_2.2)

def trees_Under (a_ : arena_Arena) (n : Int) (up : Int) : Option (arena_Arena) :=
  (arena_Arena_Cell a_ up 1).bind fun t_ =>
  (arena_Arena_Set t_.2 n 3 t_.1).bind fun t_1 =>
  (arena_Arena_Set t_1.2 n 0 up).bind fun t_2 =>
  (arena_Arena_Set t_2.2 up 1 n).bind fun t_3 =>
  some t_3.2

def trees_Link (k : Nat) (a_ : arena_Arena) (n : Int) (m_ : Int) (rank : Int) : Option (Int × arena_Arena) :=
  (node_Before k a_ m_ n).bind fun t_ =>
  ((bif t_.1 then
    some (m_, n)
  else
    some (n, m_))).bind fun s =>
  (trees_Under t_.2 s.2 s.1).bind fun t_1 =>
  (arena_Arena_Set t_1 s.1 4 (w64 (rank + 1))).bind fun t_2 =>
  some (s.1, t_2.2)

def item_Swap (a_ : arena_Arena) (n : Int) (m_ : Int) : Option (arena_Arena) :=
  (arena_Arena_Cell a_ n 6).bind fun t_ =>
  (arena_Arena_Cell t_.2 m_ 6).bind fun t_1 =>
  (item_Put t_1.2 n t_1.1).bind fun t_2 =>
  (item_Put t_2 m_ t_.1).bind fun t_3 =>
  some t_3

def skew_single (k : Nat) (a_ : arena_Arena) (r : Int) (n : Int) : Option (Int × arena_Arena) :=
  ((bif r != (-1) then
    (arena_Arena_Cell a_ r 3).bind fun t_ =>
    some (t_.1, t_.2)
  else
    some ((-1), a_))).bind fun s =>
  (arena_Arena_Get s.2 r 4).bind fun t_1 =>
  ((bif s.1 == (-1) then
    some (true, t_1.2)
  else
    (arena_Arena_Get t_1.2 s.1 4).bind fun t_2 =>
    some (t_2.1 != t_1.1, t_2.2))).bind fun s1 =>
  (bif s1.1 then
    (arena_Arena_Set s1.2 n 3 r).bind fun t_3 =>
    (arena_Arena_Set t_3.2 n 0 (-1)).bind fun t_4 =>
    some (n, t_4.2)
  else
    (arena_Arena_Cell s1.2 s.1 3).bind fun t_5 =>
    (trees_Link k t_5.2 r s.1 t_1.1).bind fun t_6 =>
    (node_Before k t_6.2 n t_6.1).bind fun t_7 =>
    ((bif t_7.1 then
      (item_Swap t_7.2 n t_6.1).bind fun t_8 =>
      some t_8
    else
      some t_7.2)).bind fun s2 =>
    (trees_Under s2 n t_6.1).bind fun t_9 =>
    (arena_Arena_Set t_9 t_6.1 3 t_5.1).bind fun t_10 =>
    some (t_6.1, t_10.2))

def skew_Push (k : Nat) (a_ : arena_Arena) (r : Int) (i : Int) : Option (Int × Bool × arena_Arena) :=
  (node_New a_ i).bind fun t_ =>
  (bif !t_.2.1 then
    some (r, false, t_.2.2)
  else
    (skew_single k t_.2.2 r t_.1).bind fun t_1 =>
    some (t_1.1, true, t_1.2))

def arena_Arena_Give (a_ : arena_Arena) (c_ : Int) : Option (Bool × arena_Arena) :=
  (meter_Meter_Tick a_.m_ 1).bind fun t_ =>
  (arena_Arena_Live (arena_Arena.mk a_.l a_.never a_.free t_) c_).bind fun t_1 =>
  (bif !t_1 then
    some (false, arena_Arena.mk a_.l a_.never a_.free t_)
  else
    (mIdx a_.l c_).bind fun x =>
    (mApp a_.free ([c_] : List Int)).bind fun l =>
    some (true, arena_Arena.mk (mSet a_.l c_ (arena_cell.mk x.f0 x.f1 x.f2 x.f3 x.f4 x.f5 x.f6 x.f7 x.f8 x.f9 false)) a_.never l t_))

def thicketlaw11_world_push_at0 (k : Nat) (w_ : thicketlaw11_world) (key : Int) : Option (Bool × thicketlaw11_world) :=
  (item_New w_.a_ key w_.next).bind fun t_ =>
  (bif !t_.2.1 then
    (arena_Arena_Len t_.2.2).bind fun t_1 =>
    (arena_Arena_Cells t_.2.2).bind fun t_2 =>
    some (t_1 == t_2, thicketlaw11_world.mk t_.2.2 w_.root0 w_.root1 w_.has0 w_.has1 w_.next w_.spent w_.most)
  else
    (arena_Arena_Len t_.2.2).bind fun t_3 =>
    (arena_Arena_Cells t_.2.2).bind fun t_4 =>
    (arena_Arena_Meter t_.2.2).bind fun t_5 =>
    (meter_Meter_Steps t_.2.2.m_).bind fun t_6 =>
    (skew_Push k t_.2.2 w_.root0 t_.1).bind fun t_7 =>
    ((thicketlaw11_world_cost k (thicketlaw11_world.mk t_7.2.2 w_.root0 w_.root1 w_.has0 w_.has1 w_.next w_.spent w_.most) t_6 0 (w64 ((w_.has0.length : Int) + 1))).bind fun t_8 =>
    (bif !t_8.1 then
      some (true, t_8.2)
    else
      some (!(t_7.2.1 == (decide (t_3 < t_4))), t_8.2))).bind fun s =>
    (bif s.1 then
      some (false, s.2)
    else
      (bif !t_7.2.1 then
        ((bif t_7.1 == s.2.root0 then
          (arena_Arena_Give s.2.a_ t_.1).bind fun t_9 =>
          some (t_9.1, thicketlaw11_world.mk t_9.2 s.2.root0 s.2.root1 s.2.has0 s.2.has1 s.2.next s.2.spent s.2.most)
        else
          some (false, s.2))).bind fun s1 =>
        some (s1.1, s1.2)
      else
        (mApp ([] : List thicketlaw11_held) s.2.has0).bind fun l =>
        (mApp l ([thicketlaw11_held.mk t_.1 (api_Entry.mk key s.2.next)] : List thicketlaw11_held)).bind fun l1 =>
        some (true, thicketlaw11_world.mk ((thicketlaw11_world.mk s.2.a_ t_7.1 s.2.root1 l1 s.2.has1 s.2.next s.2.spent s.2.most).a_) ((thicketlaw11_world.mk s.2.a_ t_7.1 s.2.root1 l1 s.2.has1 s.2.next s.2.spent s.2.most).root0) ((thicketlaw11_world.mk s.2.a_ t_7.1 s.2.root1 l1 s.2.has1 s.2.next s.2.spent s.2.most).root1) ((thicketlaw11_world.mk s.2.a_ t_7.1 s.2.root1 l1 s.2.has1 s.2.next s.2.spent s.2.most).has0) ((thicketlaw11_world.mk s.2.a_ t_7.1 s.2.root1 l1 s.2.has1 s.2.next s.2.spent s.2.most).has1) (w64 (((thicketlaw11_world.mk s.2.a_ t_7.1 s.2.root1 l1 s.2.has1 s.2.next s.2.spent s.2.most).next) + 1)) ((thicketlaw11_world.mk s.2.a_ t_7.1 s.2.root1 l1 s.2.has1 s.2.next s.2.spent s.2.most).spent) ((thicketlaw11_world.mk s.2.a_ t_7.1 s.2.root1 l1 s.2.has1 s.2.next s.2.spent s.2.most).most)))))

def thicketlaw11_world_push_at1 (k : Nat) (w_ : thicketlaw11_world) (key : Int) : Option (Bool × thicketlaw11_world) :=
  (item_New w_.a_ key w_.next).bind fun t_ =>
  (bif !t_.2.1 then
    (arena_Arena_Len t_.2.2).bind fun t_1 =>
    (arena_Arena_Cells t_.2.2).bind fun t_2 =>
    some (t_1 == t_2, thicketlaw11_world.mk t_.2.2 w_.root0 w_.root1 w_.has0 w_.has1 w_.next w_.spent w_.most)
  else
    (arena_Arena_Len t_.2.2).bind fun t_3 =>
    (arena_Arena_Cells t_.2.2).bind fun t_4 =>
    (arena_Arena_Meter t_.2.2).bind fun t_5 =>
    (meter_Meter_Steps t_.2.2.m_).bind fun t_6 =>
    (skew_Push k t_.2.2 w_.root1 t_.1).bind fun t_7 =>
    ((thicketlaw11_world_cost k (thicketlaw11_world.mk t_7.2.2 w_.root0 w_.root1 w_.has0 w_.has1 w_.next w_.spent w_.most) t_6 0 (w64 ((w_.has1.length : Int) + 1))).bind fun t_8 =>
    (bif !t_8.1 then
      some (true, t_8.2)
    else
      some (!(t_7.2.1 == (decide (t_3 < t_4))), t_8.2))).bind fun s =>
    (bif s.1 then
      some (false, s.2)
    else
      (bif !t_7.2.1 then
        ((bif t_7.1 == s.2.root1 then
          (arena_Arena_Give s.2.a_ t_.1).bind fun t_9 =>
          some (t_9.1, thicketlaw11_world.mk t_9.2 s.2.root0 s.2.root1 s.2.has0 s.2.has1 s.2.next s.2.spent s.2.most)
        else
          some (false, s.2))).bind fun s1 =>
        some (s1.1, s1.2)
      else
        (mApp ([] : List thicketlaw11_held) s.2.has1).bind fun l =>
        (mApp l ([thicketlaw11_held.mk t_.1 (api_Entry.mk key s.2.next)] : List thicketlaw11_held)).bind fun l1 =>
        some (true, thicketlaw11_world.mk ((thicketlaw11_world.mk s.2.a_ s.2.root0 t_7.1 s.2.has0 l1 s.2.next s.2.spent s.2.most).a_) ((thicketlaw11_world.mk s.2.a_ s.2.root0 t_7.1 s.2.has0 l1 s.2.next s.2.spent s.2.most).root0) ((thicketlaw11_world.mk s.2.a_ s.2.root0 t_7.1 s.2.has0 l1 s.2.next s.2.spent s.2.most).root1) ((thicketlaw11_world.mk s.2.a_ s.2.root0 t_7.1 s.2.has0 l1 s.2.next s.2.spent s.2.most).has0) ((thicketlaw11_world.mk s.2.a_ s.2.root0 t_7.1 s.2.has0 l1 s.2.next s.2.spent s.2.most).has1) (w64 (((thicketlaw11_world.mk s.2.a_ s.2.root0 t_7.1 s.2.has0 l1 s.2.next s.2.spent s.2.most).next) + 1)) ((thicketlaw11_world.mk s.2.a_ s.2.root0 t_7.1 s.2.has0 l1 s.2.next s.2.spent s.2.most).spent) ((thicketlaw11_world.mk s.2.a_ s.2.root0 t_7.1 s.2.has0 l1 s.2.next s.2.spent s.2.most).most)))))

def thicketlaw11_world_push (k : Nat) (w_ : thicketlaw11_world) (h_ : Int) (key : Int) : Option (Bool × thicketlaw11_world) :=
  if h_ = 0 then thicketlaw11_world_push_at0 k w_ key else if h_ = 1 then thicketlaw11_world_push_at1 k w_ key else none

def node_Row_l0 (field1 : Int) : Nat → Int → (List Int) → arena_Arena → Option ((List Int) × arena_Arena)
  | 0, _, _, _ => none
  | m + 1, n1, out, m_ =>
    ((arena_Arena_Live m_ n1).bind fun t_ =>
    (bif t_ then
      (arena_Arena_Cells m_).bind fun t_1 =>
      some (decide ((out.length : Int) < t_1))
    else
      some false)).bind fun s1 =>
    (bif s1 then
      (mApp out ([n1] : List Int)).bind fun l =>
      (arena_Arena_Cell m_ n1 field1).bind fun t_2 =>
      node_Row_l0 field1 m t_2.1 l t_2.2
    else
      some (out, m_))

def node_Row (k : Nat) (a_ : arena_Arena) (n : Int) (field : Int) : Option ((List Int) × arena_Arena) :=
  (node_Row_l0 field k n ([] : List Int) a_).bind fun s =>
  some (s.1, s.2)

def trees_List (k : Nat) (a_ : arena_Arena) (r : Int) : Option ((List Int) × arena_Arena) :=
  (node_Row k a_ r 3).bind fun t_ =>
  some (t_.1, t_.2)

def trees_Best_l0 (x1 : Int) (l1 : List Int) : Nat → Int → Int → arena_Arena → Option (Int × arena_Arena)
  | 0, _, _, _ => none
  | m + 1, best, x, m_ =>
    (bif decide (x < x1) then
      ((mIdx l1 x).bind fun x2 =>
      ((bif best == (-1) then
        some (true, m_)
      else
        (node_Before m m_ x2 best).bind fun t_ =>
        some (t_.1, t_.2))).bind fun s2 =>
      (bif s2.1 then
        some (x2, s2.2)
      else
        some (best, s2.2))).bind fun s1 =>
      trees_Best_l0 x1 l1 m s1.1 (w64 (x + 1)) s1.2
    else
      some (best, m_))

def trees_Best (k : Nat) (a_ : arena_Arena) (l : List Int) : Option (Int × arena_Arena) :=
  (trees_Best_l0 (l.length : Int) l k (-1) 0 a_).bind fun s =>
  some (s.1, s.2)

def skew_without_f1 (x : Int) (v_ : Int) : Option (Bool) :=
  some (x == v_)

def slices_IndexFunc_int_g117_l0 (x1 : Int) (l : List Int) (v_1 : Int) : Nat → Int → Option ((Int) ⊕ (Unit))
  | 0, _ => none
  | m + 1, x =>
    (bif decide (x < x1) then
      (mIdx l x).bind fun x2 =>
      (skew_without_f1 x2 v_1).bind fun t_ =>
      (bif t_ then
        some (.inl x)
      else
        slices_IndexFunc_int_g117_l0 x1 l v_1 m (w64 (x + 1)))
    else
      some (.inr ()))

def slices_IndexFunc_int_g117 (k : Nat) (s : List Int) (v_ : Int) : Option (Int) :=
  (slices_IndexFunc_int_g117_l0 (s.length : Int) s v_ k 0).bind fun s1 =>
  match s1 with
  | .inl r_ => some r_
  | .inr s2 =>
    some (-1)

def slices_DeleteFunc_int_g117_l0 (v_1 : Int) : Nat → Int → Int → (List Int) → Option (Int × (List Int))
  | 0, _, _, _ => none
  | m + 1, i, j, m_ =>
    (bif decide (j < (m_.length : Int)) then
      ((mIdx m_ j).bind fun x =>
      (skew_without_f1 x v_1).bind fun t_1 =>
      (bif !t_1 then
        (mIdx m_ i).bind fun x1 =>
        some (w64 (i + 1), mSet m_ i x)
      else
        some (i, m_))).bind fun s2 =>
      slices_DeleteFunc_int_g117_l0 v_1 m s2.1 (w64 (j + 1)) s2.2
    else
      some (i, m_))

def slices_DeleteFunc_int_g117 (k : Nat) (s : List Int) (v_ : Int) : Option ((List Int)) :=
  (slices_IndexFunc_int_g117 k s v_).bind fun t_ =>
  (bif t_ == (-1) then
    some s
  else
    (slices_DeleteFunc_int_g117_l0 v_ k t_ (w64 (t_ + 1)) s).bind fun s1 =>
    (mCut s1.2 s1.1 (s1.2.length : Int)).bind fun l =>
    (mCut (mClear s1.2 s1.1 0) 0 s1.1).bind fun l1 =>
    some l1)

def trees_Kids (k : Nat) (a_ : arena_Arena) (n : Int) : Option ((List Int) × arena_Arena) :=
  (arena_Arena_Cell a_ n 1).bind fun t_ =>
  (node_Row k t_.2 t_.1 3).bind fun t_1 =>
  some (t_1.1, t_1.2)

def node_End (a_ : arena_Arena) (n : Int) : Option (Int × arena_Arena) :=
  (arena_Arena_Cell a_ n 6).bind fun t_ =>
  (arena_Arena_Set t_.2 t_.1 9 (-1)).bind fun t_1 =>
  (arena_Arena_Give t_1.2 n).bind fun t_2 =>
  some (t_.1, t_2.2)

def trees_Carry_f1 (x : trees_ranked) (y : trees_ranked) : Option (Int) :=
  some (if (if 1 < w64 (x.rank - y.rank) then 1 else w64 (x.rank - y.rank)) > (-1) then (if 1 < w64 (x.rank - y.rank) then 1 else w64 (x.rank - y.rank)) else (-1))

def slices_insertionSortCmpFunc_trees_ranked_g97_l1 (a_2 : Int) (b2 : Int) (i1 : Int) : Nat → Int → (List trees_ranked) → Option ((List trees_ranked))
  | 0, _, _ => none
  | m + 1, j, m_1 =>
    ((bif decide (j > a_2) then
      (mIdx m_1 j).bind fun x1 =>
      (mIdx m_1 (w64 (j - 1))).bind fun x2 =>
      (trees_Carry_f1 x1 x2).bind fun t_ =>
      some (decide (t_ < 0))
    else
      some false)).bind fun s2 =>
    (bif s2 then
      (mIdx m_1 (w64 (j - 1))).bind fun x3 =>
      (mIdx m_1 j).bind fun x4 =>
      (mIdx m_1 j).bind fun x5 =>
      (mIdx (mSet m_1 j x3) (w64 (j - 1))).bind fun x6 =>
      slices_insertionSortCmpFunc_trees_ranked_g97_l1 a_2 b2 i1 m (w64 (j - 1)) (mSet (mSet m_1 j x3) (w64 (j - 1)) x4)
    else
      some m_1)

def slices_insertionSortCmpFunc_trees_ranked_g97_l0 (a_1 : Int) (b1 : Int) : Nat → Int → (List trees_ranked) → Option ((List trees_ranked))
  | 0, _, _ => none
  | m + 1, i, m_ =>
    (bif decide (i < b1) then
      (slices_insertionSortCmpFunc_trees_ranked_g97_l1 a_1 b1 i m i m_).bind fun s1 =>
      slices_insertionSortCmpFunc_trees_ranked_g97_l0 a_1 b1 m (w64 (i + 1)) s1
    else
      some m_)

def slices_insertionSortCmpFunc_trees_ranked_g97 (k : Nat) (data : List trees_ranked) (a_ : Int) (b : Int) : Option ((List trees_ranked)) :=
  (slices_insertionSortCmpFunc_trees_ranked_g97_l0 a_ b k (w64 (a_ + 1)) data).bind fun s =>
  (mSame s.length data.length).bind fun u =>
  some s

def slices_stableCmpFunc_trees_ranked_g97_l0 (n1 : Int) : Nat → Int → Int → (List trees_ranked) → Option (Int × (List trees_ranked))
  | 0, _, _, _ => none
  | m + 1, a_, b, m_ =>
    (bif decide (b ≤ n1) then
      (slices_insertionSortCmpFunc_trees_ranked_g97 m m_ a_ b).bind fun t_ =>
      slices_stableCmpFunc_trees_ranked_g97_l0 n1 m b (w64 (b + 20)) t_
    else
      some (a_, m_))

def slices_stableCmpFunc_trees_ranked_g97_l2 (n3 : Int) (blockSize1 : Int) (l1 : List trees_ranked) : Nat → Int → Int → Option (Int)
  | 0, _, _ => none
  | m + 1, a_1, b1 =>
    (bif decide (b1 ≤ n3) then
      none
    else
      some a_1)

def slices_stableCmpFunc_trees_ranked_g97_l1 (n2 : Int) (l : List trees_ranked) : Nat → Int → Option (Unit)
  | 0, _ => none
  | m + 1, blockSize =>
    (bif decide (blockSize < n2) then
      (slices_stableCmpFunc_trees_ranked_g97_l2 n2 blockSize l m 0 (w64 (2 * blockSize))).bind fun s2 =>
      ((bif decide (w64 (s2 + blockSize) < n2) then
        none
      else
        some ())).bind fun s3 =>
      slices_stableCmpFunc_trees_ranked_g97_l1 n2 l m (w64 (blockSize * 2))
    else
      some ())

def slices_stableCmpFunc_trees_ranked_g97 (k : Nat) (data : List trees_ranked) (n : Int) : Option ((List trees_ranked)) :=
  (slices_stableCmpFunc_trees_ranked_g97_l0 n k 0 20 data).bind fun s =>
  (slices_insertionSortCmpFunc_trees_ranked_g97 k s.2 s.1 n).bind fun t_1 =>
  (slices_stableCmpFunc_trees_ranked_g97_l1 n t_1 k 20).bind fun s1 =>
  (mSame t_1.length data.length).bind fun u =>
  some t_1

def slices_SortStableFunc_trees_ranked_g97 (k : Nat) (x : List trees_ranked) : Option ((List trees_ranked)) :=
  (slices_stableCmpFunc_trees_ranked_g97 k x (x.length : Int)).bind fun t_ =>
  (mSame t_.length x.length).bind fun u =>
  some t_

def trees_Row_l0 (l1 : List Int) : Nat → Int → Int → arena_Arena → Option (Int × arena_Arena)
  | 0, _, _, _ => none
  | m + 1, next, k_, m_ =>
    (bif decide (k_ ≥ 0) then
      (mIdx l1 k_).bind fun x =>
      (arena_Arena_Set m_ x 3 next).bind fun t_ =>
      (mIdx l1 k_).bind fun x1 =>
      (arena_Arena_Set t_.2 x1 0 (-1)).bind fun t_1 =>
      (mIdx l1 k_).bind fun x2 =>
      trees_Row_l0 l1 m x2 (w64 (k_ - 1)) t_1.2
    else
      some (next, m_))

def trees_Row (k : Nat) (a_ : arena_Arena) (l : List Int) : Option (Int × arena_Arena) :=
  (trees_Row_l0 l k (-1) (w64 ((l.length : Int) - 1)) a_).bind fun s =>
  some (s.1, s.2)

def trees_Carry_l0 (x1 : Int) (l1 : List Int) : Nat → (List trees_ranked) → Int → arena_Arena → Option ((List trees_ranked) × arena_Arena)
  | 0, _, _, _ => none
  | m + 1, wait, x, m_ =>
    (bif decide (x < x1) then
      (mIdx l1 x).bind fun x2 =>
      (arena_Arena_Get m_ x2 4).bind fun t_ =>
      (mApp wait ([trees_ranked.mk x2 t_.1] : List trees_ranked)).bind fun l2 =>
      trees_Carry_l0 x1 l1 m l2 (w64 (x + 1)) t_.2
    else
      some (wait, m_))

def trees_Carry_l2 (l7 : List trees_ranked) (v_ : Int) (v_1 : Int) (l8 : List Int) (m_2 : arena_Arena) (l9 : List Int) : Nat → Int → Option (Int)
  | 0, _ => none
  | m + 1, k_ =>
    ((bif decide (k_ < (l7.length : Int)) then
      (mIdx l7 k_).bind fun x8 =>
      some (decide (x8.rank < v_1))
    else
      some false)).bind fun s4 =>
    (bif s4 then
      trees_Carry_l2 l7 v_ v_1 l8 m_2 l9 m (w64 (k_ + 1))
    else
      some k_)

def trees_Carry_l1 (l3 : List Int) : Nat → (List trees_ranked) → (List Int) → arena_Arena → Option ((List Int) × arena_Arena)
  | 0, _, _, _ => none
  | m + 1, wait1, out, m_1 =>
    (bif decide ((wait1.length : Int) > 0) then
      (mIdx wait1 0).bind fun x3 =>
      ((bif (wait1.length : Int) == 1 then
        some true
      else
        (mIdx wait1 1).bind fun x5 =>
        some (x5.rank != x3.rank))).bind fun s2 =>
      (bif s2 then
        (mCut wait1 1 (wait1.length : Int)).bind fun l4 =>
        (mApp out ([x3.n] : List Int)).bind fun l5 =>
        trees_Carry_l1 l3 m l4 l5 m_1
      else
        (mIdx wait1 1).bind fun x6 =>
        (trees_Link m m_1 x3.n x6.n x3.rank).bind fun t_2 =>
        (mCut wait1 2 (wait1.length : Int)).bind fun l6 =>
        (trees_Carry_l2 l6 ((trees_ranked.mk t_2.1 (w64 (x3.rank + 1))).n) ((trees_ranked.mk t_2.1 (w64 (x3.rank + 1))).rank) out t_2.2 l3 m 0).bind fun s3 =>
        (lInsert l6 s3 ([(trees_ranked.mk t_2.1 (w64 (x3.rank + 1)))] : List trees_ranked)).bind fun t_3 =>
        trees_Carry_l1 l3 m t_3 out t_2.2)
    else
      some (out, m_1))

def trees_Carry (k : Nat) (a_ : arena_Arena) (l : List Int) : Option (Int × arena_Arena) :=
  (trees_Carry_l0 (l.length : Int) l k ([] : List trees_ranked) 0 a_).bind fun s =>
  (slices_SortStableFunc_trees_ranked_g97 k s.1).bind fun t_1 =>
  (trees_Carry_l1 l k t_1 ([] : List Int) s.2).bind fun s1 =>
  (trees_Row k s1.2 s1.1).bind fun t_4 =>
  some (t_4.1, t_4.2)

def skew_without_l0 (x1 : Int) (l1 : List Int) (v_ : Int) : Nat → (List Int) → (List Int) → Int → arena_Arena → Option ((List Int) × (List Int) × arena_Arena)
  | 0, _, _, _, _ => none
  | m + 1, rest, alone, x, m_ =>
    (bif decide (x < x1) then
      ((mIdx l1 x).bind fun x2 =>
      (arena_Arena_Get m_ x2 4).bind fun t_2 =>
      (bif t_2.1 == 0 then
        (mApp alone ([x2] : List Int)).bind fun l2 =>
        some (rest, l2, t_2.2)
      else
        (mApp rest ([x2] : List Int)).bind fun l3 =>
        some (l3, alone, t_2.2))).bind fun s1 =>
      skew_without_l0 x1 l1 v_ m s1.1 s1.2.1 (w64 (x + 1)) s1.2.2
    else
      some (rest, alone, m_))

def skew_without_l1 (i : Int) (x4 : Int) (l4 : List Int) : Nat → Int → Int → arena_Arena → Option (Int × arena_Arena)
  | 0, _, _, _ => none
  | m + 1, r3, x3, m_1 =>
    (bif decide (x3 < x4) then
      (mIdx l4 x3).bind fun x5 =>
      (skew_single m m_1 r3 x5).bind fun t_5 =>
      skew_without_l1 i x4 l4 m t_5.1 (w64 (x3 + 1)) t_5.2
    else
      some (r3, m_1))

def skew_without (k : Nat) (a_ : arena_Arena) (l : List Int) (n : Int) : Option (Int × Int × arena_Arena) :=
  (slices_DeleteFunc_int_g117 k l n).bind fun t_ =>
  (trees_Kids k a_ n).bind fun t_1 =>
  (skew_without_l0 (t_1.1.length : Int) t_1.1 n k t_ ([] : List Int) 0 t_1.2).bind fun s =>
  (node_End s.2.2 n).bind fun t_3 =>
  (trees_Carry k t_3.2 s.1).bind fun t_4 =>
  (skew_without_l1 t_3.1 (s.2.1.length : Int) s.2.1 k t_4.1 0 t_4.2).bind fun s2 =>
  some (s2.1, t_3.1, s2.2)

def skew_Pop (k : Nat) (a_ : arena_Arena) (r : Int) : Option (Int × Int × arena_Arena) :=
  ((arena_Arena_Live a_ r).bind fun t_ =>
  some (!t_)).bind fun s =>
  (bif s then
    some ((-1), (-1), a_)
  else
    (trees_List k a_ r).bind fun t_1 =>
    (trees_Best k t_1.2 t_1.1).bind fun t_2 =>
    (skew_without k t_2.2 t_1.1 t_2.1).bind fun t_3 =>
    some (t_3.1, t_3.2.1, t_3.2.2))

def thicketref1_Before (a_ : api_Entry) (b : api_Entry) : Option (Bool) :=
  some ((decide (a_.Key < b.Key)) || ((a_.Key == b.Key) && (decide (a_.Serial < b.Serial))))

def thicketlaw11_before (x : thicketlaw11_held) (y : thicketlaw11_held) : Option (Bool) :=
  ((thicketref1_Before x.e y.e).bind fun t_ =>
  (bif t_ then
    some true
  else
    (bif api_Entry.eq x.e y.e then
      some (decide (x.cell < y.cell))
    else
      some false))).bind fun s =>
  some s

def thicketlaw11_least_l0 (l1 : List thicketlaw11_held) : Nat → Int → Int → Option (Int)
  | 0, _, _ => none
  | m + 1, k_, i =>
    (bif decide (i < (l1.length : Int)) then
      ((mIdx l1 i).bind fun x =>
      (mIdx l1 k_).bind fun x1 =>
      (thicketlaw11_before x x1).bind fun t_ =>
      (bif t_ then
        some i
      else
        some k_)).bind fun s1 =>
      thicketlaw11_least_l0 l1 m s1 (w64 (i + 1))
    else
      some k_)

def thicketlaw11_least (k : Nat) (l : List thicketlaw11_held) : Option (Int) :=
  (thicketlaw11_least_l0 l k 0 1).bind fun s =>
  some s

def item_Node (a_ : arena_Arena) (i : Int) : Option (Int × arena_Arena) :=
  (arena_Arena_Cell a_ i 9).bind fun t_ =>
  some (t_.1, t_.2)

def thicketlaw11_without (l : List thicketlaw11_held) (k_ : Int) : Option ((List thicketlaw11_held)) :=
  (mCut l 0 k_).bind fun l1 =>
  (mCut l (w64 (k_ + 1)) (l.length : Int)).bind fun l2 =>
  (mApp ([] : List thicketlaw11_held) l1).bind fun l3 =>
  (mApp l3 l2).bind fun l4 =>
  some l4

def thicketlaw11_world_pop_at0 (k : Nat) (w_ : thicketlaw11_world) : Option (Bool × thicketlaw11_world) :=
  (arena_Arena_Meter w_.a_).bind fun t_ =>
  (meter_Meter_Steps w_.a_.m_).bind fun t_1 =>
  (skew_Pop k w_.a_ w_.root0).bind fun t_2 =>
  (thicketlaw11_world_cost k (thicketlaw11_world.mk t_2.2.2 w_.root0 w_.root1 w_.has0 w_.has1 w_.next w_.spent w_.most) t_1 1 (w_.has0.length : Int)).bind fun t_3 =>
  (bif !t_3.1 then
    some (false, t_3.2)
  else
    (bif (w_.has0.length : Int) == 0 then
      some ((t_2.1 == (-1)) && (t_2.2.1 == (-1)), t_3.2)
    else
      (thicketlaw11_least k w_.has0).bind fun t_4 =>
      ((mIdx w_.has0 t_4).bind fun x1 =>
      (bif t_2.2.1 == x1.cell then
        (item_Node t_3.2.a_ t_2.2.1).bind fun t_5 =>
        some (t_5.1 == (-1), thicketlaw11_world.mk t_5.2 t_2.1 t_3.2.root1 w_.has0 w_.has1 t_3.2.next t_3.2.spent t_3.2.most)
      else
        some (false, thicketlaw11_world.mk t_3.2.a_ t_2.1 t_3.2.root1 w_.has0 w_.has1 t_3.2.next t_3.2.spent t_3.2.most))).bind fun s =>
      (thicketlaw11_without s.2.has0 t_4).bind fun t_6 =>
      ((bif s.1 then
        (arena_Arena_Give s.2.a_ t_2.2.1).bind fun t_7 =>
        some (t_7.1, thicketlaw11_world.mk t_7.2 s.2.root0 s.2.root1 t_6 s.2.has1 s.2.next s.2.spent s.2.most)
      else
        some (false, thicketlaw11_world.mk s.2.a_ s.2.root0 s.2.root1 t_6 s.2.has1 s.2.next s.2.spent s.2.most))).bind fun s1 =>
      some (s1.1, s1.2)))

def thicketlaw11_world_pop_at1 (k : Nat) (w_ : thicketlaw11_world) : Option (Bool × thicketlaw11_world) :=
  (arena_Arena_Meter w_.a_).bind fun t_ =>
  (meter_Meter_Steps w_.a_.m_).bind fun t_1 =>
  (skew_Pop k w_.a_ w_.root1).bind fun t_2 =>
  (thicketlaw11_world_cost k (thicketlaw11_world.mk t_2.2.2 w_.root0 w_.root1 w_.has0 w_.has1 w_.next w_.spent w_.most) t_1 1 (w_.has1.length : Int)).bind fun t_3 =>
  (bif !t_3.1 then
    some (false, t_3.2)
  else
    (bif (w_.has1.length : Int) == 0 then
      some ((t_2.1 == (-1)) && (t_2.2.1 == (-1)), t_3.2)
    else
      (thicketlaw11_least k w_.has1).bind fun t_4 =>
      ((mIdx w_.has1 t_4).bind fun x1 =>
      (bif t_2.2.1 == x1.cell then
        (item_Node t_3.2.a_ t_2.2.1).bind fun t_5 =>
        some (t_5.1 == (-1), thicketlaw11_world.mk t_5.2 t_3.2.root0 t_2.1 w_.has0 w_.has1 t_3.2.next t_3.2.spent t_3.2.most)
      else
        some (false, thicketlaw11_world.mk t_3.2.a_ t_3.2.root0 t_2.1 w_.has0 w_.has1 t_3.2.next t_3.2.spent t_3.2.most))).bind fun s =>
      (thicketlaw11_without s.2.has1 t_4).bind fun t_6 =>
      ((bif s.1 then
        (arena_Arena_Give s.2.a_ t_2.2.1).bind fun t_7 =>
        some (t_7.1, thicketlaw11_world.mk t_7.2 s.2.root0 s.2.root1 s.2.has0 t_6 s.2.next s.2.spent s.2.most)
      else
        some (false, thicketlaw11_world.mk s.2.a_ s.2.root0 s.2.root1 s.2.has0 t_6 s.2.next s.2.spent s.2.most))).bind fun s1 =>
      some (s1.1, s1.2)))

def thicketlaw11_world_pop (k : Nat) (w_ : thicketlaw11_world) (h_ : Int) : Option (Bool × thicketlaw11_world) :=
  if h_ = 0 then thicketlaw11_world_pop_at0 k w_ else if h_ = 1 then thicketlaw11_world_pop_at1 k w_ else none

def thicketbook_Within (n : Int) (lo : Int) (hi : Int) : Option (Int) :=
  (bif (decide (n ≥ lo)) && (decide (n ≤ hi)) then
    some n
  else
    (mNz (w64 ((w64 (hi - lo)) + 1))).bind fun u =>
    ((bif decide (Int.tmod n (w64 ((w64 (hi - lo)) + 1)) < 0) then
      some (w64 ((w64 ((w64 ((Int.tmod n (w64 ((w64 (hi - lo)) + 1))) + hi)) - lo)) + 1))
    else
      some (Int.tmod n (w64 ((w64 (hi - lo)) + 1))))).bind fun s =>
    some (w64 (lo + s)))

def item_Lower (a_ : arena_Arena) (i : Int) (key : Int) : Option (Bool × arena_Arena) :=
  ((arena_Arena_Get a_ i 7).bind fun t_ =>
  some (decide (key > t_.1), t_.2)).bind fun s =>
  (bif s.1 then
    some (false, s.2)
  else
    (arena_Arena_Set s.2 i 7 key).bind fun t_1 =>
    some (t_1.1, t_1.2))

def trees_Rise_l0 (any1 : Bool) : Nat → Int → Int → arena_Arena → Option (Int × arena_Arena)
  | 0, _, _, _ => none
  | m + 1, n, k_, m_ =>
    ((bif n != (-1) then
      (arena_Arena_Cells m_).bind fun t_1 =>
      some (decide (k_ ≤ t_1))
    else
      some false)).bind fun s1 =>
    (bif s1 then
      (arena_Arena_Cell m_ n 0).bind fun t_2 =>
      ((bif t_2.1 == (-1) then
        some (true, t_2.2)
      else
        (bif !any1 then
          (node_Before m t_2.2 n t_2.1).bind fun t_3 =>
          some (!t_3.1, t_3.2)
        else
          some (false, t_2.2)))).bind fun s2 =>
      (bif s2.1 then
        some (n, s2.2)
      else
        (item_Swap s2.2 n t_2.1).bind fun t_4 =>
        trees_Rise_l0 any1 m t_2.1 (w64 (k_ + 1)) t_4)
    else
      some (n, m_))

def trees_Rise (k : Nat) (a_ : arena_Arena) (i : Int) (any : Bool) : Option (Int × arena_Arena) :=
  (item_Node a_ i).bind fun t_ =>
  (trees_Rise_l0 any k t_.1 0 t_.2).bind fun s =>
  some (s.1, s.2)

def skew_Fall (k : Nat) (a_ : arena_Arena) (r : Int) (i : Int) : Option (Int × arena_Arena) :=
  (trees_Rise k a_ i false).bind fun t_ =>
  some (r, t_.2)

def thicketlaw11_world_fall_at0 (k : Nat) (w_ : thicketlaw11_world) (at_ : Int) (by_ : Int) : Option (Bool × thicketlaw11_world) :=
  (bif (w_.has0.length : Int) == 0 then
    some (true, w_)
  else
    (thicketbook_Within at_ 0 (w64 ((w_.has0.length : Int) - 1))).bind fun t_ =>
    (mIdx w_.has0 t_).bind fun x =>
    (item_Lower w_.a_ x.cell (if by_ < x.e.Key then by_ else x.e.Key)).bind fun t_1 =>
    (bif !t_1.1 then
      some (false, thicketlaw11_world.mk t_1.2 w_.root0 w_.root1 w_.has0 w_.has1 w_.next w_.spent w_.most)
    else
      (arena_Arena_Meter t_1.2).bind fun t_2 =>
      (meter_Meter_Steps t_1.2.m_).bind fun t_3 =>
      (skew_Fall k t_1.2 w_.root0 x.cell).bind fun t_4 =>
      (thicketlaw11_world_cost k (thicketlaw11_world.mk t_4.2 w_.root0 w_.root1 w_.has0 w_.has1 w_.next w_.spent w_.most) t_3 1 (w_.has0.length : Int)).bind fun t_5 =>
      (bif !t_5.1 then
        some (false, t_5.2)
      else
        (thicketlaw11_without w_.has0 t_).bind fun t_6 =>
        (mApp t_6 ([thicketlaw11_held.mk x.cell (api_Entry.mk (if by_ < x.e.Key then by_ else x.e.Key) x.e.Serial)] : List thicketlaw11_held)).bind fun l =>
        some (true, thicketlaw11_world.mk t_5.2.a_ t_4.1 t_5.2.root1 l w_.has1 t_5.2.next t_5.2.spent t_5.2.most))))

def thicketlaw11_world_fall_at1 (k : Nat) (w_ : thicketlaw11_world) (at_ : Int) (by_ : Int) : Option (Bool × thicketlaw11_world) :=
  (bif (w_.has1.length : Int) == 0 then
    some (true, w_)
  else
    (thicketbook_Within at_ 0 (w64 ((w_.has1.length : Int) - 1))).bind fun t_ =>
    (mIdx w_.has1 t_).bind fun x =>
    (item_Lower w_.a_ x.cell (if by_ < x.e.Key then by_ else x.e.Key)).bind fun t_1 =>
    (bif !t_1.1 then
      some (false, thicketlaw11_world.mk t_1.2 w_.root0 w_.root1 w_.has0 w_.has1 w_.next w_.spent w_.most)
    else
      (arena_Arena_Meter t_1.2).bind fun t_2 =>
      (meter_Meter_Steps t_1.2.m_).bind fun t_3 =>
      (skew_Fall k t_1.2 w_.root1 x.cell).bind fun t_4 =>
      (thicketlaw11_world_cost k (thicketlaw11_world.mk t_4.2 w_.root0 w_.root1 w_.has0 w_.has1 w_.next w_.spent w_.most) t_3 1 (w_.has1.length : Int)).bind fun t_5 =>
      (bif !t_5.1 then
        some (false, t_5.2)
      else
        (thicketlaw11_without w_.has1 t_).bind fun t_6 =>
        (mApp t_6 ([thicketlaw11_held.mk x.cell (api_Entry.mk (if by_ < x.e.Key then by_ else x.e.Key) x.e.Serial)] : List thicketlaw11_held)).bind fun l =>
        some (true, thicketlaw11_world.mk t_5.2.a_ t_5.2.root0 t_4.1 w_.has0 l t_5.2.next t_5.2.spent t_5.2.most))))

def thicketlaw11_world_fall (k : Nat) (w_ : thicketlaw11_world) (h_ : Int) (at_ : Int) (by_ : Int) : Option (Bool × thicketlaw11_world) :=
  if h_ = 0 then thicketlaw11_world_fall_at0 k w_ at_ by_ else if h_ = 1 then thicketlaw11_world_fall_at1 k w_ at_ by_ else none

def slices_Index_int_l0 (v_1 : Int) (x1 : Int) (l : List Int) : Nat → Int → Option ((Int) ⊕ (Unit))
  | 0, _ => none
  | m + 1, x =>
    (bif decide (x < x1) then
      (mIdx l x).bind fun x2 =>
      (bif v_1 == x2 then
        some (.inl x)
      else
        slices_Index_int_l0 v_1 x1 l m (w64 (x + 1)))
    else
      some (.inr ()))

def slices_Index_int (k : Nat) (s : List Int) (v_ : Int) : Option (Int) :=
  (slices_Index_int_l0 v_ (s.length : Int) s k 0).bind fun s1 =>
  match s1 with
  | .inl r_ => some r_
  | .inr s2 =>
    some (-1)

def slices_Contains_int (k : Nat) (s : List Int) (v_ : Int) : Option (Bool) :=
  (slices_Index_int k s v_).bind fun t_ =>
  some (decide (t_ ≥ 0))

def skew_Cut (k : Nat) (a_ : arena_Arena) (r : Int) (i : Int) : Option (Int × arena_Arena) :=
  (item_Node a_ i).bind fun t_ =>
  (bif t_.1 == (-1) then
    some (r, t_.2)
  else
    (trees_Rise k t_.2 i true).bind fun t_1 =>
    (trees_List k t_1.2 r).bind fun t_2 =>
    (slices_Contains_int k t_2.1 t_1.1).bind fun t_3 =>
    (bif !t_3 then
      some (r, t_2.2)
    else
      (skew_without k t_2.2 t_2.1 t_1.1).bind fun t_4 =>
      some (t_4.1, t_4.2.2)))

def thicketlaw11_world_cut_at0 (k : Nat) (w_ : thicketlaw11_world) (at_ : Int) : Option (Bool × thicketlaw11_world) :=
  (bif (w_.has0.length : Int) == 0 then
    some (true, w_)
  else
    (thicketbook_Within at_ 0 (w64 ((w_.has0.length : Int) - 1))).bind fun t_ =>
    (mIdx w_.has0 t_).bind fun x =>
    (arena_Arena_Meter w_.a_).bind fun t_1 =>
    (meter_Meter_Steps w_.a_.m_).bind fun t_2 =>
    (skew_Cut k w_.a_ w_.root0 x.cell).bind fun t_3 =>
    (thicketlaw11_world_cost k (thicketlaw11_world.mk t_3.2 w_.root0 w_.root1 w_.has0 w_.has1 w_.next w_.spent w_.most) t_2 1 (w_.has0.length : Int)).bind fun t_4 =>
    (bif !t_4.1 then
      some (false, t_4.2)
    else
      (thicketlaw11_without w_.has0 t_).bind fun t_5 =>
      ((item_Node t_4.2.a_ x.cell).bind fun t_6 =>
      (bif t_6.1 == (-1) then
        (arena_Arena_Give t_6.2 x.cell).bind fun t_7 =>
        some (t_7.1, thicketlaw11_world.mk t_7.2 t_3.1 t_4.2.root1 t_5 w_.has1 t_4.2.next t_4.2.spent t_4.2.most)
      else
        some (false, thicketlaw11_world.mk t_6.2 t_3.1 t_4.2.root1 t_5 w_.has1 t_4.2.next t_4.2.spent t_4.2.most))).bind fun s =>
      some (s.1, s.2)))

def thicketlaw11_world_cut_at1 (k : Nat) (w_ : thicketlaw11_world) (at_ : Int) : Option (Bool × thicketlaw11_world) :=
  (bif (w_.has1.length : Int) == 0 then
    some (true, w_)
  else
    (thicketbook_Within at_ 0 (w64 ((w_.has1.length : Int) - 1))).bind fun t_ =>
    (mIdx w_.has1 t_).bind fun x =>
    (arena_Arena_Meter w_.a_).bind fun t_1 =>
    (meter_Meter_Steps w_.a_.m_).bind fun t_2 =>
    (skew_Cut k w_.a_ w_.root1 x.cell).bind fun t_3 =>
    (thicketlaw11_world_cost k (thicketlaw11_world.mk t_3.2 w_.root0 w_.root1 w_.has0 w_.has1 w_.next w_.spent w_.most) t_2 1 (w_.has1.length : Int)).bind fun t_4 =>
    (bif !t_4.1 then
      some (false, t_4.2)
    else
      (thicketlaw11_without w_.has1 t_).bind fun t_5 =>
      ((item_Node t_4.2.a_ x.cell).bind fun t_6 =>
      (bif t_6.1 == (-1) then
        (arena_Arena_Give t_6.2 x.cell).bind fun t_7 =>
        some (t_7.1, thicketlaw11_world.mk t_7.2 t_4.2.root0 t_3.1 w_.has0 t_5 t_4.2.next t_4.2.spent t_4.2.most)
      else
        some (false, thicketlaw11_world.mk t_6.2 t_4.2.root0 t_3.1 w_.has0 t_5 t_4.2.next t_4.2.spent t_4.2.most))).bind fun s =>
      some (s.1, s.2)))

def thicketlaw11_world_cut (k : Nat) (w_ : thicketlaw11_world) (h_ : Int) (at_ : Int) : Option (Bool × thicketlaw11_world) :=
  if h_ = 0 then thicketlaw11_world_cut_at0 k w_ at_ else if h_ = 1 then thicketlaw11_world_cut_at1 k w_ at_ else none

def skew_Meld (k : Nat) (a_ : arena_Arena) (r : Int) (s : Int) : Option (Int × arena_Arena) :=
  (bif r == s then
    some (r, a_)
  else
    (trees_List k a_ r).bind fun t_ =>
    (trees_List k t_.2 s).bind fun t_1 =>
    (mApp t_.1 t_1.1).bind fun l =>
    (trees_Carry k t_1.2 l).bind fun t_2 =>
    some (t_2.1, t_2.2))

def thicketlaw11_world_meld_at0 (k : Nat) (w_ : thicketlaw11_world) : Option (Bool × thicketlaw11_world) :=
  (arena_Arena_Meter w_.a_).bind fun t_ =>
  (meter_Meter_Steps w_.a_.m_).bind fun t_1 =>
  (skew_Meld k w_.a_ w_.root0 w_.root1).bind fun t_2 =>
  (thicketlaw11_world_cost k (thicketlaw11_world.mk t_2.2 w_.root0 w_.root1 w_.has0 w_.has1 w_.next w_.spent w_.most) t_1 1 (w64 ((w_.has0.length : Int) + (w_.has1.length : Int)))).bind fun t_3 =>
  (bif !t_3.1 then
    some (false, t_3.2)
  else
    (mApp ([] : List thicketlaw11_held) w_.has0).bind fun l =>
    (mApp l w_.has1).bind fun l1 =>
    some (true, thicketlaw11_world.mk t_3.2.a_ t_2.1 (-1) l1 ([] : List thicketlaw11_held) t_3.2.next t_3.2.spent t_3.2.most))

def thicketlaw11_world_meld_at1 (k : Nat) (w_ : thicketlaw11_world) : Option (Bool × thicketlaw11_world) :=
  (arena_Arena_Meter w_.a_).bind fun t_ =>
  (meter_Meter_Steps w_.a_.m_).bind fun t_1 =>
  (skew_Meld k w_.a_ w_.root1 w_.root0).bind fun t_2 =>
  (thicketlaw11_world_cost k (thicketlaw11_world.mk t_2.2 w_.root0 w_.root1 w_.has0 w_.has1 w_.next w_.spent w_.most) t_1 1 (w64 ((w_.has0.length : Int) + (w_.has1.length : Int)))).bind fun t_3 =>
  (bif !t_3.1 then
    some (false, t_3.2)
  else
    (mApp ([] : List thicketlaw11_held) w_.has1).bind fun l =>
    (mApp l w_.has0).bind fun l1 =>
    some (true, thicketlaw11_world.mk t_3.2.a_ (-1) t_2.1 ([] : List thicketlaw11_held) l1 t_3.2.next t_3.2.spent t_3.2.most))

def thicketlaw11_world_meld (k : Nat) (w_ : thicketlaw11_world) (h_ : Int) : Option (Bool × thicketlaw11_world) :=
  if h_ = 0 then thicketlaw11_world_meld_at0 k w_ else if h_ = 1 then thicketlaw11_world_meld_at1 k w_ else none

def trees_Nodes_f1 (k : Nat) (n : Int) (a_ : arena_Arena) : Option ((List Int) × arena_Arena) :=
  (trees_Kids k a_ n).bind fun t_ =>
  some (t_.1, t_.2)

def node_Below_g129_l0 (l1 : List Int) : Nat → (List Int) → (List Int) → (List Bool) → arena_Arena → Option ((List Int) × arena_Arena)
  | 0, _, _, _, _ => none
  | m + 1, out, wait, m_, m_1 =>
    (bif decide ((wait.length : Int) > 0) then
      (mIdx wait (w64 ((wait.length : Int) - 1))).bind fun x =>
      (mCut wait 0 (w64 ((wait.length : Int) - 1))).bind fun l2 =>
      ((arena_Arena_Live m_1 x).bind fun t_2 =>
      (bif !t_2 then
        some true
      else
        (mIdx m_ x).bind fun x1 =>
        some x1)).bind fun s1 =>
      (bif s1 then
        node_Below_g129_l0 l1 m out l2 m_ m_1
      else
        (mIdx m_ x).bind fun x2 =>
        (mApp out ([x] : List Int)).bind fun l3 =>
        (trees_Nodes_f1 m x m_1).bind fun t_3 =>
        (mApp l2 t_3.1).bind fun l4 =>
        node_Below_g129_l0 l1 m l3 l4 (mSet m_ x true) t_3.2)
    else
      some (out, m_1))

def node_Below_g129 (k : Nat) (a_ : arena_Arena) (first : List Int) : Option ((List Int) × arena_Arena) :=
  (arena_Arena_Cells a_).bind fun t_ =>
  (mMake t_ false).bind fun l =>
  (lClone first).bind fun t_1 =>
  (node_Below_g129_l0 first k ([] : List Int) t_1 l a_).bind fun s =>
  some (s.1, s.2)

def trees_Nodes (k : Nat) (a_ : arena_Arena) (r : Int) : Option ((List Int) × arena_Arena) :=
  (trees_List k a_ r).bind fun t_ =>
  (node_Below_g129 k t_.2 t_.1).bind fun t_1 =>
  some (t_1.1, t_1.2)

def node_Items_l0 (x1 : Int) (l1 : List Int) : Nat → (List Int) → Int → arena_Arena → Option ((List Int) × arena_Arena)
  | 0, _, _, _ => none
  | m + 1, out, x, m_ =>
    (bif decide (x < x1) then
      ((mIdx l1 x).bind fun x2 =>
      (arena_Arena_Cell m_ x2 6).bind fun t_ =>
      (bif t_.1 != (-1) then
        (mApp out ([t_.1] : List Int)).bind fun l2 =>
        some (l2, t_.2)
      else
        some (out, t_.2))).bind fun s1 =>
      node_Items_l0 x1 l1 m s1.1 (w64 (x + 1)) s1.2
    else
      some (out, m_))

def node_Items (k : Nat) (a_ : arena_Arena) (l : List Int) : Option ((List Int) × arena_Arena) :=
  (node_Items_l0 (l.length : Int) l k ([] : List Int) 0 a_).bind fun s =>
  (lSort s.1).bind fun t_1 =>
  some (t_1, s.2)

def node_Drop_l0 (x1 : Int) (l1 : List Int) (l2 : List Int) : Nat → Int → arena_Arena → Option (arena_Arena)
  | 0, _, _ => none
  | m + 1, x, m_ =>
    (bif decide (x < x1) then
      (mIdx l2 x).bind fun x2 =>
      (node_End m_ x2).bind fun t_1 =>
      node_Drop_l0 x1 l1 l2 m (w64 (x + 1)) t_1.2
    else
      some m_)

def node_Drop (k : Nat) (a_ : arena_Arena) (l : List Int) : Option ((List Int) × arena_Arena) :=
  (node_Items k a_ l).bind fun t_ =>
  (node_Drop_l0 (l.length : Int) t_.1 l k 0 t_.2).bind fun s =>
  some (t_.1, s)

def skew_Drop (k : Nat) (a_ : arena_Arena) (r : Int) : Option ((List Int) × arena_Arena) :=
  (trees_Nodes k a_ r).bind fun t_ =>
  (node_Drop k t_.2 t_.1).bind fun t_1 =>
  some (t_1.1, t_1.2)

def thicketlaw11_cells_l1 (i1 : Int) (l2 : List Int) (l3 : List thicketlaw11_held) : Nat → Int → Option (Int)
  | 0, _ => none
  | m + 1, k_ =>
    ((bif decide (k_ > 0) then
      (mIdx l2 (w64 (k_ - 1))).bind fun x1 =>
      (mIdx l3 i1).bind fun x2 =>
      some (decide (x1 > x2.cell))
    else
      some false)).bind fun s2 =>
    (bif s2 then
      thicketlaw11_cells_l1 i1 l2 l3 m (w64 (k_ - 1))
    else
      some k_)

def thicketlaw11_cells_l0 (l1 : List thicketlaw11_held) : Nat → (List Int) → Int → Option ((List Int))
  | 0, _, _ => none
  | m + 1, out, i =>
    (bif decide (i < (l1.length : Int)) then
      (thicketlaw11_cells_l1 i out l1 m (out.length : Int)).bind fun s1 =>
      (mCut out 0 s1).bind fun l4 =>
      (mIdx l1 i).bind fun x3 =>
      (mCut out s1 (out.length : Int)).bind fun l5 =>
      (mApp ([] : List Int) l4).bind fun l6 =>
      (mApp l6 ([x3.cell] : List Int)).bind fun l7 =>
      (mApp l7 l5).bind fun l8 =>
      thicketlaw11_cells_l0 l1 m l8 (w64 (i + 1))
    else
      some out)

def thicketlaw11_cells (k : Nat) (l : List thicketlaw11_held) : Option ((List Int)) :=
  (thicketlaw11_cells_l0 l k ([] : List Int) 0).bind fun s =>
  some s

def thicketbook_Same_int_l0 (l : List Int) (l1 : List Int) : Nat → Int → Option ((Bool) ⊕ (Unit))
  | 0, _ => none
  | m + 1, i =>
    (bif decide (i < (l.length : Int)) then
      (mIdx l i).bind fun x =>
      (mIdx l1 i).bind fun x1 =>
      (bif x != x1 then
        some (.inl false)
      else
        thicketbook_Same_int_l0 l l1 m (w64 (i + 1)))
    else
      some (.inr ()))

def thicketbook_Same_int (k : Nat) (a_ : List Int) (b : List Int) : Option (Bool) :=
  (bif (a_.length : Int) != (b.length : Int) then
    some false
  else
    (thicketbook_Same_int_l0 a_ b k 0).bind fun s =>
    match s with
    | .inl r_ => some r_
    | .inr s1 =>
      some true)

def thicketlaw11_world_drop_at0_l0 (l : List Int) : Nat → Int → thicketlaw11_world → Option ((Bool × thicketlaw11_world) ⊕ (thicketlaw11_world))
  | 0, _, _ => none
  | m + 1, i, m_ =>
    (bif decide (i < (l.length : Int)) then
      ((mIdx l i).bind fun x1 =>
      (item_Node m_.a_ x1).bind fun t_3 =>
      (bif t_3.1 != (-1) then
        some (true, thicketlaw11_world.mk t_3.2 m_.root0 m_.root1 m_.has0 m_.has1 m_.next m_.spent m_.most)
      else
        (mIdx l i).bind fun x2 =>
        (arena_Arena_Give t_3.2 x2).bind fun t_4 =>
        some (!t_4.1, thicketlaw11_world.mk t_4.2 m_.root0 m_.root1 m_.has0 m_.has1 m_.next m_.spent m_.most))).bind fun s2 =>
      (bif s2.1 then
        some (.inl (false, s2.2))
      else
        thicketlaw11_world_drop_at0_l0 l m (w64 (i + 1)) s2.2)
    else
      some (.inr m_))

def thicketlaw11_world_drop_at0 (k : Nat) (w_ : thicketlaw11_world) : Option (Bool × thicketlaw11_world) :=
  (skew_Drop k w_.a_ w_.root0).bind fun t_ =>
  (thicketlaw11_cells k w_.has0).bind fun t_1 =>
  (thicketbook_Same_int k t_.1 t_1).bind fun t_2 =>
  (bif !t_2 then
    some (false, thicketlaw11_world.mk t_.2 w_.root0 w_.root1 w_.has0 w_.has1 w_.next w_.spent w_.most)
  else
    (thicketlaw11_world_drop_at0_l0 t_.1 k 0 (thicketlaw11_world.mk t_.2 w_.root0 w_.root1 w_.has0 w_.has1 w_.next w_.spent w_.most)).bind fun s =>
    match s with
    | .inl r_ => some r_
    | .inr s1 =>
      some (true, thicketlaw11_world.mk s1.a_ (-1) s1.root1 ([] : List thicketlaw11_held) s1.has1 s1.next s1.spent s1.most))

def thicketlaw11_world_drop_at1_l0 (l : List Int) : Nat → Int → thicketlaw11_world → Option ((Bool × thicketlaw11_world) ⊕ (thicketlaw11_world))
  | 0, _, _ => none
  | m + 1, i, m_ =>
    (bif decide (i < (l.length : Int)) then
      ((mIdx l i).bind fun x1 =>
      (item_Node m_.a_ x1).bind fun t_3 =>
      (bif t_3.1 != (-1) then
        some (true, thicketlaw11_world.mk t_3.2 m_.root0 m_.root1 m_.has0 m_.has1 m_.next m_.spent m_.most)
      else
        (mIdx l i).bind fun x2 =>
        (arena_Arena_Give t_3.2 x2).bind fun t_4 =>
        some (!t_4.1, thicketlaw11_world.mk t_4.2 m_.root0 m_.root1 m_.has0 m_.has1 m_.next m_.spent m_.most))).bind fun s2 =>
      (bif s2.1 then
        some (.inl (false, s2.2))
      else
        thicketlaw11_world_drop_at1_l0 l m (w64 (i + 1)) s2.2)
    else
      some (.inr m_))

def thicketlaw11_world_drop_at1 (k : Nat) (w_ : thicketlaw11_world) : Option (Bool × thicketlaw11_world) :=
  (skew_Drop k w_.a_ w_.root1).bind fun t_ =>
  (thicketlaw11_cells k w_.has1).bind fun t_1 =>
  (thicketbook_Same_int k t_.1 t_1).bind fun t_2 =>
  (bif !t_2 then
    some (false, thicketlaw11_world.mk t_.2 w_.root0 w_.root1 w_.has0 w_.has1 w_.next w_.spent w_.most)
  else
    (thicketlaw11_world_drop_at1_l0 t_.1 k 0 (thicketlaw11_world.mk t_.2 w_.root0 w_.root1 w_.has0 w_.has1 w_.next w_.spent w_.most)).bind fun s =>
    match s with
    | .inl r_ => some r_
    | .inr s1 =>
      some (true, thicketlaw11_world.mk s1.a_ s1.root0 (-1) s1.has0 ([] : List thicketlaw11_held) s1.next s1.spent s1.most))

def thicketlaw11_world_drop (k : Nat) (w_ : thicketlaw11_world) (h_ : Int) : Option (Bool × thicketlaw11_world) :=
  if h_ = 0 then thicketlaw11_world_drop_at0 k w_ else if h_ = 1 then thicketlaw11_world_drop_at1 k w_ else none

def thicketlaw11_world_do (k : Nat) (w_ : thicketlaw11_world) (x : thicketlaw11_Ask) : Option (Bool × thicketlaw11_world) :=
  (thicketbook_Within x.H_ 0 1).bind fun t_ =>
  ((bif (Int.tmod x.I 3) != 0 then
    some (Int.tmod x.Key 20)
  else
    some x.Key)).bind fun s =>
  (((bif x.Kind == 5 then
    some (x.Kind == 5)
  else
    some (x.Kind == 6))).bind fun s3 =>
  (bif s3 then
    (thicketlaw11_world_pop k w_ t_).bind fun t_1 =>
    some (.inl (t_1.1, t_1.2))
  else
    ((bif x.Kind == 7 then
      some (x.Kind == 7)
    else
      some (x.Kind == 8))).bind fun s4 =>
    (bif s4 then
      (thicketlaw11_world_fall k w_ t_ x.I s).bind fun t_2 =>
      some (.inl (t_2.1, t_2.2))
    else
      (bif x.Kind == 9 then
        (thicketlaw11_world_cut k w_ t_ x.I).bind fun t_3 =>
        some (.inl (t_3.1, t_3.2))
      else
        (bif x.Kind == 10 then
          (thicketlaw11_world_meld k w_ t_).bind fun t_4 =>
          some (.inl (t_4.1, t_4.2))
        else
          (bif x.Kind == 11 then
            ((bif (Int.tmod x.I 4) != 0 then
              some (true, w_)
            else
              (thicketlaw11_world_drop k w_ t_).bind fun t_5 =>
              some (t_5.1, t_5.2))).bind fun s5 =>
            some (.inl (s5.1, s5.2))
          else
            some (.inr ())))))) : Option ((Bool × thicketlaw11_world) ⊕ (Unit))).bind fun s1 =>
  match s1 with
  | .inl r_ => some r_
  | .inr s2 =>
    (thicketlaw11_world_push k w_ t_ s).bind fun t_6 =>
    some (t_6.1, t_6.2)

def skew_Min (k : Nat) (a_ : arena_Arena) (r : Int) : Option (Int × arena_Arena) :=
  (trees_List k a_ r).bind fun t_ =>
  (trees_Best k t_.2 t_.1).bind fun t_1 =>
  (arena_Arena_Cell t_1.2 t_1.1 6).bind fun t_2 =>
  some (t_2.1, t_2.2)

def skew_All (k : Nat) (a_ : arena_Arena) (r : Int) : Option ((List Int) × arena_Arena) :=
  (trees_Nodes k a_ r).bind fun t_ =>
  (node_Items k t_.2 t_.1).bind fun t_1 =>
  some (t_1.1, t_1.2)

def thicketlaw11_world_node_at0_l0 (n1 : Int) (i : Int) (m_ : thicketlaw11_world) : Nat → Int → Option ((thicketlaw11_held × Bool × thicketlaw11_world) ⊕ (Unit))
  | 0, _ => none
  | m + 1, k_ =>
    (bif decide (k_ < (m_.has0.length : Int)) then
      (mIdx m_.has0 k_).bind fun x =>
      (bif x.cell == i then
        ((arena_Arena_Cell m_.a_ i 9).bind fun t_1 =>
        (bif t_1.1 == n1 then
          (item_Entry t_1.2 i).bind fun t_2 =>
          some (api_Entry.eq t_2.1 x.e, thicketlaw11_world.mk t_2.2 m_.root0 m_.root1 m_.has0 m_.has1 m_.next m_.spent m_.most, x.cell, x.e.Key, x.e.Serial)
        else
          some (false, thicketlaw11_world.mk t_1.2 m_.root0 m_.root1 m_.has0 m_.has1 m_.next m_.spent m_.most, x.cell, x.e.Key, x.e.Serial))).bind fun s2 =>
        some (.inl (thicketlaw11_held.mk s2.2.2.1 (api_Entry.mk s2.2.2.2.1 s2.2.2.2.2), s2.1, s2.2.1))
      else
        thicketlaw11_world_node_at0_l0 n1 i m_ m (w64 (k_ + 1)))
    else
      some (.inr ()))

def thicketlaw11_world_node_at0 (k : Nat) (w_ : thicketlaw11_world) (n : Int) : Option (thicketlaw11_held × Bool × thicketlaw11_world) :=
  (arena_Arena_Cell w_.a_ n 6).bind fun t_ =>
  (thicketlaw11_world_node_at0_l0 n t_.1 (thicketlaw11_world.mk t_.2 w_.root0 w_.root1 w_.has0 w_.has1 w_.next w_.spent w_.most) k 0).bind fun s =>
  match s with
  | .inl r_ => some r_
  | .inr s1 =>
    some (thicketlaw11_held.mk 0 (api_Entry.mk 0 0), false, thicketlaw11_world.mk t_.2 w_.root0 w_.root1 w_.has0 w_.has1 w_.next w_.spent w_.most)

def thicketlaw11_world_node_at1_l0 (n1 : Int) (i : Int) (m_ : thicketlaw11_world) : Nat → Int → Option ((thicketlaw11_held × Bool × thicketlaw11_world) ⊕ (Unit))
  | 0, _ => none
  | m + 1, k_ =>
    (bif decide (k_ < (m_.has1.length : Int)) then
      (mIdx m_.has1 k_).bind fun x =>
      (bif x.cell == i then
        ((arena_Arena_Cell m_.a_ i 9).bind fun t_1 =>
        (bif t_1.1 == n1 then
          (item_Entry t_1.2 i).bind fun t_2 =>
          some (api_Entry.eq t_2.1 x.e, thicketlaw11_world.mk t_2.2 m_.root0 m_.root1 m_.has0 m_.has1 m_.next m_.spent m_.most, x.cell, x.e.Key, x.e.Serial)
        else
          some (false, thicketlaw11_world.mk t_1.2 m_.root0 m_.root1 m_.has0 m_.has1 m_.next m_.spent m_.most, x.cell, x.e.Key, x.e.Serial))).bind fun s2 =>
        some (.inl (thicketlaw11_held.mk s2.2.2.1 (api_Entry.mk s2.2.2.2.1 s2.2.2.2.2), s2.1, s2.2.1))
      else
        thicketlaw11_world_node_at1_l0 n1 i m_ m (w64 (k_ + 1)))
    else
      some (.inr ()))

def thicketlaw11_world_node_at1 (k : Nat) (w_ : thicketlaw11_world) (n : Int) : Option (thicketlaw11_held × Bool × thicketlaw11_world) :=
  (arena_Arena_Cell w_.a_ n 6).bind fun t_ =>
  (thicketlaw11_world_node_at1_l0 n t_.1 (thicketlaw11_world.mk t_.2 w_.root0 w_.root1 w_.has0 w_.has1 w_.next w_.spent w_.most) k 0).bind fun s =>
  match s with
  | .inl r_ => some r_
  | .inr s1 =>
    some (thicketlaw11_held.mk 0 (api_Entry.mk 0 0), false, thicketlaw11_world.mk t_.2 w_.root0 w_.root1 w_.has0 w_.has1 w_.next w_.spent w_.most)

def thicketlaw11_world_node (k : Nat) (w_ : thicketlaw11_world) (h_ : Int) (n : Int) : Option (thicketlaw11_held × Bool × thicketlaw11_world) :=
  if h_ = 0 then thicketlaw11_world_node_at0 k w_ n else if h_ = 1 then thicketlaw11_world_node_at1 k w_ n else none

def thicketlaw11_world_tree_at0_l0 (rec_ : thicketlaw11_world → Int → Int → thicketlaw11_held → Bool → Option (Int × thicketlaw11_world)) (n1 : Int) (rank : Int) (v_ : Int) (v_1 : Int) (v_2 : Int) : Nat → Int → Int → Int → thicketlaw11_world → Option ((Int × thicketlaw11_world) ⊕ (Int × Int × thicketlaw11_world))
  | 0, _, _, _, _ => none
  | m + 1, size, c_12, i, m_ =>
    (bif (decide (i < 60)) && (c_12 != (-1)) then
      (arena_Arena_Get m_.a_ c_12 4).bind fun t_6 =>
      (rec_ (thicketlaw11_world.mk t_6.2 m_.root0 m_.root1 m_.has0 m_.has1 m_.next m_.spent m_.most) c_12 n1 (thicketlaw11_held.mk v_ (api_Entry.mk v_1 v_2)) false).bind fun t_7 =>
      (bif (t_7.1 == 0) || (decide (t_6.1 ≥ rank)) then
        some (.inl (0, t_7.2))
      else
        (arena_Arena_Cell t_7.2.a_ c_12 3).bind fun t_8 =>
        thicketlaw11_world_tree_at0_l0 rec_ n1 rank v_ v_1 v_2 m (w64 (size + t_7.1)) t_8.1 (w64 (i + 1)) (thicketlaw11_world.mk t_8.2 t_7.2.root0 t_7.2.root1 t_7.2.has0 t_7.2.has1 t_7.2.next t_7.2.spent t_7.2.most))
    else
      some (.inr (size, c_12, m_)))

def thicketlaw11_world_tree_at0 : Nat → thicketlaw11_world → Int → Int → thicketlaw11_held → Bool → Option (Int × thicketlaw11_world)
  | 0, _, _, _, _, _ => none
  | k + 1, w_, n, up, above, top =>
    (thicketlaw11_world_node k w_ 0 n).bind fun t_ =>
    (arena_Arena_Get t_.2.2.a_ n 4).bind fun t_1 =>
    ((bif !t_.2.1 then
      some (true, thicketlaw11_world.mk t_1.2 t_.2.2.root0 t_.2.2.root1 t_.2.2.has0 t_.2.2.has1 t_.2.2.next t_.2.2.spent t_.2.2.most)
    else
      (bif decide (t_1.1 < 0) then
        some (true, thicketlaw11_world.mk t_1.2 t_.2.2.root0 t_.2.2.root1 t_.2.2.has0 t_.2.2.has1 t_.2.2.next t_.2.2.spent t_.2.2.most)
      else
        (bif decide (t_1.1 > 20) then
          some (true, thicketlaw11_world.mk t_1.2 t_.2.2.root0 t_.2.2.root1 t_.2.2.has0 t_.2.2.has1 t_.2.2.next t_.2.2.spent t_.2.2.most)
        else
          (arena_Arena_Cell t_1.2 n 0).bind fun t_2 =>
          (bif t_2.1 != up then
            some (true, thicketlaw11_world.mk t_2.2 t_.2.2.root0 t_.2.2.root1 t_.2.2.has0 t_.2.2.has1 t_.2.2.next t_.2.2.spent t_.2.2.most)
          else
            (arena_Arena_Cell t_2.2 n 2).bind fun t_3 =>
            (bif t_3.1 != (-1) then
              some (true, thicketlaw11_world.mk t_3.2 t_.2.2.root0 t_.2.2.root1 t_.2.2.has0 t_.2.2.has1 t_.2.2.next t_.2.2.spent t_.2.2.most)
            else
              (bif !top then
                (thicketlaw11_before t_.1 above).bind fun t_4 =>
                some (t_4, thicketlaw11_world.mk t_3.2 t_.2.2.root0 t_.2.2.root1 t_.2.2.has0 t_.2.2.has1 t_.2.2.next t_.2.2.spent t_.2.2.most)
              else
                some (false, thicketlaw11_world.mk t_3.2 t_.2.2.root0 t_.2.2.root1 t_.2.2.has0 t_.2.2.has1 t_.2.2.next t_.2.2.spent t_.2.2.most)))))))).bind fun s =>
    (bif s.1 then
      some (0, s.2)
    else
      (arena_Arena_Cell s.2.a_ n 1).bind fun t_5 =>
      (thicketlaw11_world_tree_at0_l0 (thicketlaw11_world_tree_at0 k) n t_1.1 t_.1.cell t_.1.e.Key t_.1.e.Serial k 1 t_5.1 0 (thicketlaw11_world.mk t_5.2 s.2.root0 s.2.root1 s.2.has0 s.2.has1 s.2.next s.2.spent s.2.most)).bind fun s1 =>
      match s1 with
      | .inl r_ => some r_
      | .inr s2 =>
        ((bif s2.2.1 != (-1) then
          some true
        else
          (bif decide (s2.1 > (s2.2.2.has0.length : Int)) then
            some true
          else
            (mNn (IntKind.wrap .u64 (t_1.1))).bind fun u1 =>
            (bif decide (s2.1 < w64 (1 * 2 ^ (min (Int.toNat (IntKind.wrap .u64 (t_1.1))) 64))) then
              some true
            else
              (mNn (IntKind.wrap .u64 (t_1.1))).bind fun u2 =>
              some (decide (s2.1 > w64 ((w64 (2 * 2 ^ (min (Int.toNat (IntKind.wrap .u64 (t_1.1))) 64))) - 1))))))).bind fun s3 =>
        (bif s3 then
          some (0, s2.2.2)
        else
          some (s2.1, s2.2.2)))

def thicketlaw11_world_tree_at1_l0 (rec_ : thicketlaw11_world → Int → Int → thicketlaw11_held → Bool → Option (Int × thicketlaw11_world)) (n1 : Int) (rank : Int) (v_ : Int) (v_1 : Int) (v_2 : Int) : Nat → Int → Int → Int → thicketlaw11_world → Option ((Int × thicketlaw11_world) ⊕ (Int × Int × thicketlaw11_world))
  | 0, _, _, _, _ => none
  | m + 1, size, c_12, i, m_ =>
    (bif (decide (i < 60)) && (c_12 != (-1)) then
      (arena_Arena_Get m_.a_ c_12 4).bind fun t_6 =>
      (rec_ (thicketlaw11_world.mk t_6.2 m_.root0 m_.root1 m_.has0 m_.has1 m_.next m_.spent m_.most) c_12 n1 (thicketlaw11_held.mk v_ (api_Entry.mk v_1 v_2)) false).bind fun t_7 =>
      (bif (t_7.1 == 0) || (decide (t_6.1 ≥ rank)) then
        some (.inl (0, t_7.2))
      else
        (arena_Arena_Cell t_7.2.a_ c_12 3).bind fun t_8 =>
        thicketlaw11_world_tree_at1_l0 rec_ n1 rank v_ v_1 v_2 m (w64 (size + t_7.1)) t_8.1 (w64 (i + 1)) (thicketlaw11_world.mk t_8.2 t_7.2.root0 t_7.2.root1 t_7.2.has0 t_7.2.has1 t_7.2.next t_7.2.spent t_7.2.most))
    else
      some (.inr (size, c_12, m_)))

def thicketlaw11_world_tree_at1 : Nat → thicketlaw11_world → Int → Int → thicketlaw11_held → Bool → Option (Int × thicketlaw11_world)
  | 0, _, _, _, _, _ => none
  | k + 1, w_, n, up, above, top =>
    (thicketlaw11_world_node k w_ 1 n).bind fun t_ =>
    (arena_Arena_Get t_.2.2.a_ n 4).bind fun t_1 =>
    ((bif !t_.2.1 then
      some (true, thicketlaw11_world.mk t_1.2 t_.2.2.root0 t_.2.2.root1 t_.2.2.has0 t_.2.2.has1 t_.2.2.next t_.2.2.spent t_.2.2.most)
    else
      (bif decide (t_1.1 < 0) then
        some (true, thicketlaw11_world.mk t_1.2 t_.2.2.root0 t_.2.2.root1 t_.2.2.has0 t_.2.2.has1 t_.2.2.next t_.2.2.spent t_.2.2.most)
      else
        (bif decide (t_1.1 > 20) then
          some (true, thicketlaw11_world.mk t_1.2 t_.2.2.root0 t_.2.2.root1 t_.2.2.has0 t_.2.2.has1 t_.2.2.next t_.2.2.spent t_.2.2.most)
        else
          (arena_Arena_Cell t_1.2 n 0).bind fun t_2 =>
          (bif t_2.1 != up then
            some (true, thicketlaw11_world.mk t_2.2 t_.2.2.root0 t_.2.2.root1 t_.2.2.has0 t_.2.2.has1 t_.2.2.next t_.2.2.spent t_.2.2.most)
          else
            (arena_Arena_Cell t_2.2 n 2).bind fun t_3 =>
            (bif t_3.1 != (-1) then
              some (true, thicketlaw11_world.mk t_3.2 t_.2.2.root0 t_.2.2.root1 t_.2.2.has0 t_.2.2.has1 t_.2.2.next t_.2.2.spent t_.2.2.most)
            else
              (bif !top then
                (thicketlaw11_before t_.1 above).bind fun t_4 =>
                some (t_4, thicketlaw11_world.mk t_3.2 t_.2.2.root0 t_.2.2.root1 t_.2.2.has0 t_.2.2.has1 t_.2.2.next t_.2.2.spent t_.2.2.most)
              else
                some (false, thicketlaw11_world.mk t_3.2 t_.2.2.root0 t_.2.2.root1 t_.2.2.has0 t_.2.2.has1 t_.2.2.next t_.2.2.spent t_.2.2.most)))))))).bind fun s =>
    (bif s.1 then
      some (0, s.2)
    else
      (arena_Arena_Cell s.2.a_ n 1).bind fun t_5 =>
      (thicketlaw11_world_tree_at1_l0 (thicketlaw11_world_tree_at1 k) n t_1.1 t_.1.cell t_.1.e.Key t_.1.e.Serial k 1 t_5.1 0 (thicketlaw11_world.mk t_5.2 s.2.root0 s.2.root1 s.2.has0 s.2.has1 s.2.next s.2.spent s.2.most)).bind fun s1 =>
      match s1 with
      | .inl r_ => some r_
      | .inr s2 =>
        ((bif s2.2.1 != (-1) then
          some true
        else
          (bif decide (s2.1 > (s2.2.2.has1.length : Int)) then
            some true
          else
            (mNn (IntKind.wrap .u64 (t_1.1))).bind fun u1 =>
            (bif decide (s2.1 < w64 (1 * 2 ^ (min (Int.toNat (IntKind.wrap .u64 (t_1.1))) 64))) then
              some true
            else
              (mNn (IntKind.wrap .u64 (t_1.1))).bind fun u2 =>
              some (decide (s2.1 > w64 ((w64 (2 * 2 ^ (min (Int.toNat (IntKind.wrap .u64 (t_1.1))) 64))) - 1))))))).bind fun s3 =>
        (bif s3 then
          some (0, s2.2.2)
        else
          some (s2.1, s2.2.2)))

def thicketlaw11_world_tree (k : Nat) (w_ : thicketlaw11_world) (h_ : Int) (n : Int) (up : Int) (above : thicketlaw11_held) (top : Bool) : Option (Int × thicketlaw11_world) :=
  if h_ = 0 then thicketlaw11_world_tree_at0 k w_ n up above top else if h_ = 1 then thicketlaw11_world_tree_at1 k w_ n up above top else none

def thicketlaw11_world_shape_at0_l0 : Nat → Int → Int → Int → Int → thicketlaw11_world → Option ((Bool × thicketlaw11_world) ⊕ (Int × Int × thicketlaw11_world))
  | 0, _, _, _, _, _ => none
  | m + 1, n, all, last, i, m_ =>
    (bif (decide (i < 40)) && (n != (-1)) then
      (arena_Arena_Get m_.a_ n 4).bind fun t_ =>
      (thicketlaw11_world_tree m (thicketlaw11_world.mk t_.2 m_.root0 m_.root1 m_.has0 m_.has1 m_.next m_.spent m_.most) 0 n (-1) (thicketlaw11_held.mk 0 (api_Entry.mk 0 0)) true).bind fun t_1 =>
      (bif ((t_1.1 == 0) || (decide (t_.1 < last))) || ((t_.1 == last) && (decide (i > 1))) then
        some (.inl (false, t_1.2))
      else
        (arena_Arena_Cell t_1.2.a_ n 3).bind fun t_2 =>
        thicketlaw11_world_shape_at0_l0 m t_2.1 (w64 (all + t_1.1)) t_.1 (w64 (i + 1)) (thicketlaw11_world.mk t_2.2 t_1.2.root0 t_1.2.root1 t_1.2.has0 t_1.2.has1 t_1.2.next t_1.2.spent t_1.2.most))
    else
      some (.inr (n, all, m_)))

def thicketlaw11_world_shape_at0 (k : Nat) (w_ : thicketlaw11_world) : Option (Bool × thicketlaw11_world) :=
  (thicketlaw11_world_shape_at0_l0 k w_.root0 0 (-1) 0 w_).bind fun s =>
  match s with
  | .inl r_ => some r_
  | .inr s1 =>
    ((bif s1.1 == (-1) then
      some (s1.2.1 == (s1.2.2.has0.length : Int))
    else
      some false)).bind fun s2 =>
    some (s2, s1.2.2)

def thicketlaw11_world_shape_at1_l0 : Nat → Int → Int → Int → Int → thicketlaw11_world → Option ((Bool × thicketlaw11_world) ⊕ (Int × Int × thicketlaw11_world))
  | 0, _, _, _, _, _ => none
  | m + 1, n, all, last, i, m_ =>
    (bif (decide (i < 40)) && (n != (-1)) then
      (arena_Arena_Get m_.a_ n 4).bind fun t_ =>
      (thicketlaw11_world_tree m (thicketlaw11_world.mk t_.2 m_.root0 m_.root1 m_.has0 m_.has1 m_.next m_.spent m_.most) 1 n (-1) (thicketlaw11_held.mk 0 (api_Entry.mk 0 0)) true).bind fun t_1 =>
      (bif ((t_1.1 == 0) || (decide (t_.1 < last))) || ((t_.1 == last) && (decide (i > 1))) then
        some (.inl (false, t_1.2))
      else
        (arena_Arena_Cell t_1.2.a_ n 3).bind fun t_2 =>
        thicketlaw11_world_shape_at1_l0 m t_2.1 (w64 (all + t_1.1)) t_.1 (w64 (i + 1)) (thicketlaw11_world.mk t_2.2 t_1.2.root0 t_1.2.root1 t_1.2.has0 t_1.2.has1 t_1.2.next t_1.2.spent t_1.2.most))
    else
      some (.inr (n, all, m_)))

def thicketlaw11_world_shape_at1 (k : Nat) (w_ : thicketlaw11_world) : Option (Bool × thicketlaw11_world) :=
  (thicketlaw11_world_shape_at1_l0 k w_.root1 0 (-1) 0 w_).bind fun s =>
  match s with
  | .inl r_ => some r_
  | .inr s1 =>
    ((bif s1.1 == (-1) then
      some (s1.2.1 == (s1.2.2.has1.length : Int))
    else
      some false)).bind fun s2 =>
    some (s2, s1.2.2)

def thicketlaw11_world_shape (k : Nat) (w_ : thicketlaw11_world) (h_ : Int) : Option (Bool × thicketlaw11_world) :=
  if h_ = 0 then thicketlaw11_world_shape_at0 k w_ else if h_ = 1 then thicketlaw11_world_shape_at1 k w_ else none

def thicketlaw11_world_right (k : Nat) (w_ : thicketlaw11_world) : Option (Bool × thicketlaw11_world) :=
  (arena_Arena_Len w_.a_).bind fun t_ =>
  (bif t_ != (w64 (2 * (w64 ((w_.has0.length : Int) + (w_.has1.length : Int))))) then
    some (false, w_)
  else
    (arena_Arena_Meter w_.a_).bind fun t_1 =>
    (meter_Meter_Steps w_.a_.m_).bind fun t_2 =>
    (skew_Min k w_.a_ w_.root0).bind fun t_3 =>
    (thicketlaw11_world_cost k (thicketlaw11_world.mk t_3.2 w_.root0 w_.root1 w_.has0 w_.has1 w_.next w_.spent w_.most) t_2 1 (w_.has0.length : Int)).bind fun t_4 =>
    (bif !t_4.1 then
      some (false, t_4.2)
    else
      ((bif (w_.has0.length : Int) == 0 then
        (bif t_3.1 != (-1) then
          some (true, thicketlaw11_world.mk t_4.2.a_ t_4.2.root0 t_4.2.root1 w_.has0 w_.has1 t_4.2.next t_4.2.spent t_4.2.most)
        else
          (bif t_4.2.root0 != (-1) then
            some (true, thicketlaw11_world.mk t_4.2.a_ t_4.2.root0 t_4.2.root1 w_.has0 w_.has1 t_4.2.next t_4.2.spent t_4.2.most)
          else
            (bif decide ((w_.has0.length : Int) > 0) then
              (thicketlaw11_least k w_.has0).bind fun t_5 =>
              (mIdx w_.has0 t_5).bind fun x =>
              (bif t_3.1 != x.cell then
                some (true, thicketlaw11_world.mk t_4.2.a_ t_4.2.root0 t_4.2.root1 w_.has0 w_.has1 t_4.2.next t_4.2.spent t_4.2.most)
              else
                (skew_All k t_4.2.a_ t_4.2.root0).bind fun t_6 =>
                (thicketlaw11_cells k w_.has0).bind fun t_7 =>
                (thicketbook_Same_int k t_6.1 t_7).bind fun t_8 =>
                (bif !t_8 then
                  some (true, thicketlaw11_world.mk t_6.2 t_4.2.root0 t_4.2.root1 w_.has0 w_.has1 t_4.2.next t_4.2.spent t_4.2.most)
                else
                  (thicketlaw11_world_shape k (thicketlaw11_world.mk t_6.2 t_4.2.root0 t_4.2.root1 w_.has0 w_.has1 t_4.2.next t_4.2.spent t_4.2.most) 0).bind fun t_9 =>
                  some (!t_9.1, t_9.2)))
            else
              (skew_All k t_4.2.a_ t_4.2.root0).bind fun t_10 =>
              (thicketlaw11_cells k w_.has0).bind fun t_11 =>
              (thicketbook_Same_int k t_10.1 t_11).bind fun t_12 =>
              (bif !t_12 then
                some (true, thicketlaw11_world.mk t_10.2 t_4.2.root0 t_4.2.root1 w_.has0 w_.has1 t_4.2.next t_4.2.spent t_4.2.most)
              else
                (thicketlaw11_world_shape k (thicketlaw11_world.mk t_10.2 t_4.2.root0 t_4.2.root1 w_.has0 w_.has1 t_4.2.next t_4.2.spent t_4.2.most) 0).bind fun t_13 =>
                some (!t_13.1, t_13.2)))))
      else
        (bif decide ((w_.has0.length : Int) > 0) then
          (thicketlaw11_least k w_.has0).bind fun t_14 =>
          (mIdx w_.has0 t_14).bind fun x1 =>
          (bif t_3.1 != x1.cell then
            some (true, thicketlaw11_world.mk t_4.2.a_ t_4.2.root0 t_4.2.root1 w_.has0 w_.has1 t_4.2.next t_4.2.spent t_4.2.most)
          else
            (skew_All k t_4.2.a_ t_4.2.root0).bind fun t_15 =>
            (thicketlaw11_cells k w_.has0).bind fun t_16 =>
            (thicketbook_Same_int k t_15.1 t_16).bind fun t_17 =>
            (bif !t_17 then
              some (true, thicketlaw11_world.mk t_15.2 t_4.2.root0 t_4.2.root1 w_.has0 w_.has1 t_4.2.next t_4.2.spent t_4.2.most)
            else
              (thicketlaw11_world_shape k (thicketlaw11_world.mk t_15.2 t_4.2.root0 t_4.2.root1 w_.has0 w_.has1 t_4.2.next t_4.2.spent t_4.2.most) 0).bind fun t_18 =>
              some (!t_18.1, t_18.2)))
        else
          (skew_All k t_4.2.a_ t_4.2.root0).bind fun t_19 =>
          (thicketlaw11_cells k w_.has0).bind fun t_20 =>
          (thicketbook_Same_int k t_19.1 t_20).bind fun t_21 =>
          (bif !t_21 then
            some (true, thicketlaw11_world.mk t_19.2 t_4.2.root0 t_4.2.root1 w_.has0 w_.has1 t_4.2.next t_4.2.spent t_4.2.most)
          else
            (thicketlaw11_world_shape k (thicketlaw11_world.mk t_19.2 t_4.2.root0 t_4.2.root1 w_.has0 w_.has1 t_4.2.next t_4.2.spent t_4.2.most) 0).bind fun t_22 =>
            some (!t_22.1, t_22.2))))).bind fun s =>
      (bif s.1 then
        some (false, s.2)
      else
        (arena_Arena_Meter s.2.a_).bind fun t_23 =>
        (meter_Meter_Steps s.2.a_.m_).bind fun t_24 =>
        (skew_Min k s.2.a_ s.2.root1).bind fun t_25 =>
        (thicketlaw11_world_cost k (thicketlaw11_world.mk t_25.2 s.2.root0 s.2.root1 s.2.has0 s.2.has1 s.2.next s.2.spent s.2.most) t_24 1 (s.2.has1.length : Int)).bind fun t_26 =>
        (bif !t_26.1 then
          some (false, t_26.2)
        else
          ((bif (s.2.has1.length : Int) == 0 then
            (bif t_25.1 != (-1) then
              some (true, thicketlaw11_world.mk t_26.2.a_ t_26.2.root0 t_26.2.root1 s.2.has0 s.2.has1 t_26.2.next t_26.2.spent t_26.2.most)
            else
              (bif t_26.2.root1 != (-1) then
                some (true, thicketlaw11_world.mk t_26.2.a_ t_26.2.root0 t_26.2.root1 s.2.has0 s.2.has1 t_26.2.next t_26.2.spent t_26.2.most)
              else
                (bif decide ((s.2.has1.length : Int) > 0) then
                  (thicketlaw11_least k s.2.has1).bind fun t_27 =>
                  (mIdx s.2.has1 t_27).bind fun x2 =>
                  (bif t_25.1 != x2.cell then
                    some (true, thicketlaw11_world.mk t_26.2.a_ t_26.2.root0 t_26.2.root1 s.2.has0 s.2.has1 t_26.2.next t_26.2.spent t_26.2.most)
                  else
                    (skew_All k t_26.2.a_ t_26.2.root1).bind fun t_28 =>
                    (thicketlaw11_cells k s.2.has1).bind fun t_29 =>
                    (thicketbook_Same_int k t_28.1 t_29).bind fun t_30 =>
                    (bif !t_30 then
                      some (true, thicketlaw11_world.mk t_28.2 t_26.2.root0 t_26.2.root1 s.2.has0 s.2.has1 t_26.2.next t_26.2.spent t_26.2.most)
                    else
                      (thicketlaw11_world_shape k (thicketlaw11_world.mk t_28.2 t_26.2.root0 t_26.2.root1 s.2.has0 s.2.has1 t_26.2.next t_26.2.spent t_26.2.most) 1).bind fun t_31 =>
                      some (!t_31.1, t_31.2)))
                else
                  (skew_All k t_26.2.a_ t_26.2.root1).bind fun t_32 =>
                  (thicketlaw11_cells k s.2.has1).bind fun t_33 =>
                  (thicketbook_Same_int k t_32.1 t_33).bind fun t_34 =>
                  (bif !t_34 then
                    some (true, thicketlaw11_world.mk t_32.2 t_26.2.root0 t_26.2.root1 s.2.has0 s.2.has1 t_26.2.next t_26.2.spent t_26.2.most)
                  else
                    (thicketlaw11_world_shape k (thicketlaw11_world.mk t_32.2 t_26.2.root0 t_26.2.root1 s.2.has0 s.2.has1 t_26.2.next t_26.2.spent t_26.2.most) 1).bind fun t_35 =>
                    some (!t_35.1, t_35.2)))))
          else
            (bif decide ((s.2.has1.length : Int) > 0) then
              (thicketlaw11_least k s.2.has1).bind fun t_36 =>
              (mIdx s.2.has1 t_36).bind fun x3 =>
              (bif t_25.1 != x3.cell then
                some (true, thicketlaw11_world.mk t_26.2.a_ t_26.2.root0 t_26.2.root1 s.2.has0 s.2.has1 t_26.2.next t_26.2.spent t_26.2.most)
              else
                (skew_All k t_26.2.a_ t_26.2.root1).bind fun t_37 =>
                (thicketlaw11_cells k s.2.has1).bind fun t_38 =>
                (thicketbook_Same_int k t_37.1 t_38).bind fun t_39 =>
                (bif !t_39 then
                  some (true, thicketlaw11_world.mk t_37.2 t_26.2.root0 t_26.2.root1 s.2.has0 s.2.has1 t_26.2.next t_26.2.spent t_26.2.most)
                else
                  (thicketlaw11_world_shape k (thicketlaw11_world.mk t_37.2 t_26.2.root0 t_26.2.root1 s.2.has0 s.2.has1 t_26.2.next t_26.2.spent t_26.2.most) 1).bind fun t_40 =>
                  some (!t_40.1, t_40.2)))
            else
              (skew_All k t_26.2.a_ t_26.2.root1).bind fun t_41 =>
              (thicketlaw11_cells k s.2.has1).bind fun t_42 =>
              (thicketbook_Same_int k t_41.1 t_42).bind fun t_43 =>
              (bif !t_43 then
                some (true, thicketlaw11_world.mk t_41.2 t_26.2.root0 t_26.2.root1 s.2.has0 s.2.has1 t_26.2.next t_26.2.spent t_26.2.most)
              else
                (thicketlaw11_world_shape k (thicketlaw11_world.mk t_41.2 t_26.2.root0 t_26.2.root1 s.2.has0 s.2.has1 t_26.2.next t_26.2.spent t_26.2.most) 1).bind fun t_44 =>
                some (!t_44.1, t_44.2))))).bind fun s1 =>
          (bif s1.1 then
            some (false, s1.2)
          else
            some (true, s1.2))))))

def meter_New  : Option (meter_Meter) :=
  some (meter_Meter.mk 0 0 0)

def arena_New (cells : Int) : Option (arena_Arena) :=
  (mMake (if (if 65536 < cells then 65536 else cells) > 0 then (if 65536 < cells then 65536 else cells) else 0) (arena_cell.mk 0 0 0 0 0 0 0 0 0 0 false)).bind fun l =>
  (meter_New).bind fun t_ =>
  some (arena_Arena.mk l 0 ([] : List Int) t_)

def thicketlaw11_fresh (cells : Int) : Option (thicketlaw11_world) :=
  (arena_New cells).bind fun t_ =>
  ((arena_Arena_Meter t_).bind fun t_1 =>
  some ()).bind fun s =>
  some (thicketlaw11_world.mk t_ (-1) (-1) ([] : List thicketlaw11_held) ([] : List thicketlaw11_held) 0 0 0)

def thicketlaw11_known (k : Nat)  : Option (Bool) :=
  (thicketlaw11_fresh 8).bind fun t_ =>
  ((thicketlaw11_world_push k t_ 0 3).bind fun t_1 =>
  (bif !t_1.1 then
    some (true, t_1.2)
  else
    (thicketlaw11_world_push k t_1.2 0 1).bind fun t_2 =>
    (bif !t_2.1 then
      some (true, t_2.2)
    else
      (thicketlaw11_world_push k t_2.2 0 2).bind fun t_3 =>
      (bif !t_3.1 then
        some (true, t_3.2)
      else
        (thicketlaw11_world_right k t_3.2).bind fun t_4 =>
        some (!t_4.1, t_4.2))))).bind fun s =>
  (bif s.1 then
    some false
  else
    ((bif (s.2.has0.length : Int) == 3 then
      (thicketlaw11_world_pop k s.2 0).bind fun t_5 =>
      (bif t_5.1 then
        (thicketlaw11_world_pop k t_5.2 0).bind fun t_6 =>
        (bif t_6.1 then
          (bif (t_6.2.has0.length : Int) == 1 then
            (mIdx t_6.2.has0 0).bind fun x =>
            (bif x.e.Key == 3 then
              (thicketlaw11_world_pop k t_6.2 0).bind fun t_7 =>
              (bif t_7.1 then
                (thicketlaw11_world_pop k t_7.2 0).bind fun t_8 =>
                some (t_8.1, t_8.2)
              else
                some (false, t_7.2))
            else
              some (false, t_6.2))
          else
            some (false, t_6.2))
        else
          some (false, t_6.2))
      else
        some (false, t_5.2))
    else
      some (false, s.2))).bind fun s1 =>
    some s1.1)

def thicketlaw11_play_l0 (most1 : Int) (l1 : List thicketlaw11_Ask) : Nat → Int → thicketlaw11_world → Option ((Bool) ⊕ (thicketlaw11_world))
  | 0, _, _ => none
  | m + 1, i, m_ =>
    (bif (decide (i < (l1.length : Int))) && (decide (i < most1)) then
      ((mIdx l1 i).bind fun x1 =>
      (thicketlaw11_world_do m m_ x1).bind fun t_1 =>
      (bif !t_1.1 then
        some (true, t_1.2)
      else
        (thicketlaw11_world_right m t_1.2).bind fun t_2 =>
        some (!t_2.1, t_2.2))).bind fun s2 =>
      (bif s2.1 then
        some (.inl false)
      else
        thicketlaw11_play_l0 most1 l1 m (w64 (i + 1)) s2.2)
    else
      some (.inr m_))

def thicketlaw11_play (k : Nat) (size : Int) (l : List thicketlaw11_Ask) (most : Int) : Option (Bool) :=
  (thicketlaw11_fresh size).bind fun t_ =>
  (thicketlaw11_play_l0 most l k 0 t_).bind fun s =>
  match s with
  | .inl r_ => some r_
  | .inr s1 =>
    some true

def thicketlaw11_SkewGreat_l0 (how1 : Int) (k_ : Int) (l : List Int) : Nat → Int → thicketlaw11_world → Option ((Bool) ⊕ (thicketlaw11_world))
  | 0, _, _ => none
  | m + 1, i, m_ =>
    (bif decide (i < k_) then
      ((thicketbook_Within how1 0 3).bind fun t_2 =>
      (mIdx ([i, w64 (0 - i), Int.tmod (w64 (i * 389)) 601, 5] : List Int) t_2).bind fun x =>
      ((bif decide (i < (l.length : Int)) then
        (mIdx l i).bind fun x1 =>
        some (Int.tmod x1 1000)
      else
        some x)).bind fun s4 =>
      (item_New m_.a_ s4 i).bind fun t_3 =>
      (arena_Arena_Meter t_3.2.2).bind fun t_4 =>
      (meter_Meter_Steps t_3.2.2.m_).bind fun t_5 =>
      (skew_Push m t_3.2.2 m_.root0 t_3.1).bind fun t_6 =>
      ((bif !t_3.2.1 then
        some (true, thicketlaw11_world.mk t_6.2.2 m_.root0 m_.root1 m_.has0 m_.has1 m_.next m_.spent m_.most)
      else
        (bif !t_6.2.1 then
          some (true, thicketlaw11_world.mk t_6.2.2 m_.root0 m_.root1 m_.has0 m_.has1 m_.next m_.spent m_.most)
        else
          (thicketlaw11_world_cost m (thicketlaw11_world.mk t_6.2.2 m_.root0 m_.root1 m_.has0 m_.has1 m_.next m_.spent m_.most) t_5 0 (w64 (i + 1))).bind fun t_7 =>
          some (!t_7.1, t_7.2)))).bind fun s5 =>
      (bif s5.1 then
        some (.inl false)
      else
        some (.inr (thicketlaw11_world.mk s5.2.a_ t_6.1 s5.2.root1 s5.2.has0 s5.2.has1 s5.2.next s5.2.spent s5.2.most))) : Option ((Bool) ⊕ (thicketlaw11_world))).bind fun s2 =>
      match s2 with
      | .inl r_ => some (.inl r_)
      | .inr s3 =>
        thicketlaw11_SkewGreat_l0 how1 k_ l m (w64 (i + 1)) s3
    else
      some (.inr m_))

def thicketlaw11_SkewGreat_l1 (l1 : List Int) : Nat → Int → Int → Int → thicketlaw11_world → Option ((Bool) ⊕ (thicketlaw11_world))
  | 0, _, _, _, _ => none
  | m + 1, i1, v_, v_1, m_1 =>
    (bif decide (i1 > 0) then
      (arena_Arena_Meter m_1.a_).bind fun t_8 =>
      (meter_Meter_Steps m_1.a_.m_).bind fun t_9 =>
      (skew_Pop m m_1.a_ m_1.root0).bind fun t_10 =>
      ((thicketlaw11_world_cost m (thicketlaw11_world.mk t_10.2.2 m_1.root0 m_1.root1 m_1.has0 m_1.has1 m_1.next m_1.spent m_1.most) t_9 1 i1).bind fun t_11 =>
      (bif !t_11.1 then
        some (true, t_11.2)
      else
        some (t_10.2.1 == (-1), t_11.2))).bind fun s8 =>
      (bif s8.1 then
        some (.inl false)
      else
        (item_Entry s8.2.a_ t_10.2.1).bind fun t_12 =>
        ((thicketref1_Before (api_Entry.mk v_ v_1) t_12.1).bind fun t_13 =>
        (bif !t_13 then
          some (true, thicketlaw11_world.mk t_12.2 s8.2.root0 s8.2.root1 s8.2.has0 s8.2.has1 s8.2.next s8.2.spent s8.2.most)
        else
          (arena_Arena_Give t_12.2 t_10.2.1).bind fun t_14 =>
          some (!t_14.1, thicketlaw11_world.mk t_14.2 s8.2.root0 s8.2.root1 s8.2.has0 s8.2.has1 s8.2.next s8.2.spent s8.2.most))).bind fun s9 =>
        (bif s9.1 then
          some (.inl false)
        else
          thicketlaw11_SkewGreat_l1 l1 m (w64 (i1 - 1)) t_12.1.Key t_12.1.Serial (thicketlaw11_world.mk s9.2.a_ t_10.1 s9.2.root1 s9.2.has0 s9.2.has1 s9.2.next s9.2.spent s9.2.most)))
    else
      some (.inr m_1))

def thicketlaw11_SkewGreat (k : Nat) (n : Int) (how : Int) (keys : List Int) : Option (Bool) :=
  (thicketlaw11_fresh 1400).bind fun t_ =>
  (thicketbook_Within n 1 600).bind fun t_1 =>
  (thicketlaw11_SkewGreat_l0 how t_1 keys k 0 t_).bind fun s =>
  match s with
  | .inl r_ => some r_
  | .inr s1 =>
    (thicketlaw11_SkewGreat_l1 keys k t_1 (-9223372036854775808) (-1) s1).bind fun s6 =>
    match s6 with
    | .inl r_ => some r_
    | .inr s7 =>
      ((bif s7.root0 == (-1) then
        (arena_Arena_Len s7.a_).bind fun t_15 =>
        (bif t_15 == 0 then
          (thicketlaw11_known k).bind fun t_16 =>
          some t_16
        else
          some false)
      else
        some false)).bind fun s10 =>
      some s10

def thicketlaw11_SkewPlays (k : Nat) (l : List thicketlaw11_Ask) : Option (Bool) :=
  ((thicketlaw11_play k 200 l 70).bind fun t_ =>
  (bif t_ then
    (thicketlaw11_known k).bind fun t_1 =>
    some t_1
  else
    some false)).bind fun s =>
  some s

def thicketlaw11_SkewFull (k : Nat) (size : Int) (l : List thicketlaw11_Ask) : Option (Bool) :=
  ((thicketbook_Within size 0 14).bind fun t_ =>
  (thicketlaw11_play k t_ l 70).bind fun t_1 =>
  (bif t_1 then
    (thicketlaw11_known k).bind fun t_2 =>
    some t_2
  else
    some false)).bind fun s =>
  some s

def thicketlaw11_SkewSorts_l0 (l : List Int) (l1 : List Int) : Nat → Int → thicketlaw11_world → Option ((Bool) ⊕ (thicketlaw11_world))
  | 0, _, _ => none
  | m + 1, i, m_ =>
    (bif (decide (i < (l1.length : Int))) && (decide (i < 60)) then
      (mIdx l1 i).bind fun x =>
      (thicketlaw11_world_push m m_ 0 (Int.tmod x 50)).bind fun t_1 =>
      (bif !t_1.1 then
        some (.inl false)
      else
        ((bif decide (i < (l.length : Int)) then
          (mIdx l i).bind fun x2 =>
          (mIdx l1 i).bind fun x3 =>
          (thicketlaw11_world_fall m t_1.2 0 x2 (w64 ((Int.tmod x3 50) - 20))).bind fun t_2 =>
          some (!t_2.1, t_2.2)
        else
          some (false, t_1.2))).bind fun s2 =>
        (bif s2.1 then
          some (.inl false)
        else
          thicketlaw11_SkewSorts_l0 l l1 m (w64 (i + 1)) s2.2))
    else
      some (.inr m_))

def thicketlaw11_SkewSorts_l1 (n : Int) (l2 : List Int) : Nat → Int → thicketlaw11_world → Int → Int → Option ((Bool) ⊕ (thicketlaw11_world))
  | 0, _, _, _, _ => none
  | m + 1, i1, m_1, v_, v_1 =>
    (bif decide (i1 < n) then
      (skew_Min m m_1.a_ m_1.root0).bind fun t_3 =>
      (item_Entry t_3.2 t_3.1).bind fun t_4 =>
      ((thicketref1_Before (api_Entry.mk v_ v_1) t_4.1).bind fun t_5 =>
      (bif !t_5 then
        some (true, thicketlaw11_world.mk t_4.2 m_1.root0 m_1.root1 m_1.has0 m_1.has1 m_1.next m_1.spent m_1.most)
      else
        (thicketlaw11_world_pop m (thicketlaw11_world.mk t_4.2 m_1.root0 m_1.root1 m_1.has0 m_1.has1 m_1.next m_1.spent m_1.most) 0).bind fun t_6 =>
        (bif !t_6.1 then
          some (true, t_6.2)
        else
          some ((t_6.2.has0.length : Int) != (w64 ((w64 (n - 1)) - i1)), t_6.2)))).bind fun s5 =>
      (bif s5.1 then
        some (.inl false)
      else
        thicketlaw11_SkewSorts_l1 n l2 m (w64 (i1 + 1)) s5.2 t_4.1.Key t_4.1.Serial)
    else
      some (.inr m_1))

def thicketlaw11_SkewSorts (k : Nat) (keys : List Int) (falls : List Int) : Option (Bool) :=
  (thicketlaw11_fresh 160).bind fun t_ =>
  (thicketlaw11_SkewSorts_l0 falls keys k 0 t_).bind fun s =>
  match s with
  | .inl r_ => some r_
  | .inr s1 =>
    (thicketlaw11_SkewSorts_l1 (s1.has0.length : Int) keys k 0 s1 (-9223372036854775808) (-1)).bind fun s3 =>
    match s3 with
    | .inl r_ => some r_
    | .inr s4 =>
      ((bif s4.root0 == (-1) then
        (arena_Arena_Len s4.a_).bind fun t_7 =>
        (bif t_7 == 0 then
          (thicketlaw11_known k).bind fun t_8 =>
          some t_8
        else
          some false)
      else
        some false)).bind fun s6 =>
      some s6

def thicketlaw11_SkewDrops_l0 (h_1 : Int) (l1 : List thicketlaw11_Ask) : Nat → Int → thicketlaw11_world → Option ((Bool) ⊕ (thicketlaw11_world))
  | 0, _, _ => none
  | m + 1, i, m_ =>
    (bif (decide (i < (l1.length : Int))) && (decide (i < 50)) then
      (mIdx l1 i).bind fun x =>
      (thicketlaw11_world_do m m_ x).bind fun t_1 =>
      (bif !t_1.1 then
        some (.inl false)
      else
        thicketlaw11_SkewDrops_l0 h_1 l1 m (w64 (i + 1)) t_1.2)
    else
      some (.inr m_))

def thicketlaw11_SkewDrops (k : Nat) (l : List thicketlaw11_Ask) (h_ : Int) : Option (Bool) :=
  (thicketlaw11_fresh 200).bind fun t_ =>
  (thicketlaw11_SkewDrops_l0 h_ l k 0 t_).bind fun s =>
  match s with
  | .inl r_ => some r_
  | .inr s1 =>
    (thicketbook_Within h_ 0 1).bind fun t_2 =>
    (if t_2 = 0 then
      ((thicketlaw11_world_drop k s1 0).bind fun t_5 =>
      (bif t_5.1 then
        (thicketlaw11_world_right k t_5.2).bind fun t_6 =>
        (bif t_6.1 then
          (bif (t_6.2.has0.length : Int) == 0 then
            (thicketlaw11_world_drop k t_6.2 1).bind fun t_7 =>
            (bif t_7.1 then
              (arena_Arena_Len t_7.2.a_).bind fun t_8 =>
              (bif t_8 == 0 then
                (thicketlaw11_known k).bind fun t_9 =>
                some (t_9, t_7.2)
              else
                some (false, t_7.2))
            else
              some (false, t_7.2))
          else
            some (false, t_6.2))
        else
          some (false, t_6.2))
      else
        some (false, t_5.2))).bind fun s2 =>
      some s2.1
    else
      (if t_2 = 1 then
        ((thicketlaw11_world_drop k s1 1).bind fun t_10 =>
        (bif t_10.1 then
          (thicketlaw11_world_right k t_10.2).bind fun t_11 =>
          (bif t_11.1 then
            (bif (t_11.2.has1.length : Int) == 0 then
              (thicketlaw11_world_drop k t_11.2 0).bind fun t_12 =>
              (bif t_12.1 then
                (arena_Arena_Len t_12.2.a_).bind fun t_13 =>
                (bif t_13 == 0 then
                  (thicketlaw11_known k).bind fun t_14 =>
                  some (t_14, t_12.2)
                else
                  some (false, t_12.2))
              else
                some (false, t_12.2))
            else
              some (false, t_11.2))
          else
            some (false, t_11.2))
        else
          some (false, t_10.2))).bind fun s3 =>
        some s3.1
      else
        none))

def thicketlaw11_SkewFalls_l0 (l : List Int) (l1 : List Int) (l2 : List Int) : Nat → Int → thicketlaw11_world → Option ((Bool) ⊕ (thicketlaw11_world))
  | 0, _, _ => none
  | m + 1, i, m_ =>
    (bif (decide (i < (l2.length : Int))) && (decide (i < 50)) then
      (mIdx l2 i).bind fun x =>
      (thicketlaw11_world_push m m_ 0 (Int.tmod x 100)).bind fun t_1 =>
      (bif !t_1.1 then
        some (.inl false)
      else
        thicketlaw11_SkewFalls_l0 l l1 l2 m (w64 (i + 1)) t_1.2)
    else
      some (.inr m_))

def thicketlaw11_SkewFalls_l1 (l3 : List Int) (l4 : List Int) (l5 : List Int) : Nat → Int → Int → thicketlaw11_world → Option ((Bool) ⊕ (thicketlaw11_world))
  | 0, _, _, _ => none
  | m + 1, low, i1, m_1 =>
    ((bif decide (i1 < (l3.length : Int)) then
      (bif decide (i1 < 20) then
        some (decide ((m_1.has0.length : Int) > 0))
      else
        some false)
    else
      some false)).bind fun s4 =>
    (bif s4 then
      ((mIdx l3 i1).bind fun x1 =>
      (thicketbook_Within x1 0 (w64 ((m_1.has0.length : Int) - 1))).bind fun t_2 =>
      (mIdx m_1.has0 t_2).bind fun x2 =>
      ((mIdx l3 i1).bind fun x4 =>
      (thicketlaw11_world_fall m m_1 0 x4 (w64 (low - 1))).bind fun t_3 =>
      (bif !t_3.1 then
        some (true, t_3.2)
      else
        (skew_Min m t_3.2.a_ t_3.2.root0).bind fun t_4 =>
        some (t_4.1 != x2.cell, thicketlaw11_world.mk t_4.2 t_3.2.root0 t_3.2.root1 t_3.2.has0 t_3.2.has1 t_3.2.next t_3.2.spent t_3.2.most))).bind fun s7 =>
      (bif s7.1 then
        some (.inl false)
      else
        ((bif decide (i1 < (l4.length : Int)) then
          some (decide ((s7.2.has0.length : Int) > 1))
        else
          some false)).bind fun s8 =>
        ((bif s8 then
          (mIdx l4 i1).bind fun x5 =>
          (thicketbook_Within x5 0 (w64 ((s7.2.has0.length : Int) - 2))).bind fun t_5 =>
          ((thicketlaw11_world_cut m s7.2 0 t_5).bind fun t_6 =>
          (bif !t_6.1 then
            some (true, t_6.2)
          else
            (thicketlaw11_world_right m t_6.2).bind fun t_7 =>
            some (!t_7.1, t_7.2))).bind fun s11 =>
          (bif s11.1 then
            some (.inl false)
          else
            some (.inr s11.2))
        else
          some (.inr s7.2)) : Option ((Bool) ⊕ (thicketlaw11_world))).bind fun s9 =>
        match s9 with
        | .inl r_ => some (.inl r_)
        | .inr s10 =>
          ((bif (Int.tmod i1 2) == 1 then
            (thicketlaw11_world_pop m s10 0).bind fun t_8 =>
            (bif !t_8.1 then
              some (true, t_8.2)
            else
              (thicketlaw11_world_right m t_8.2).bind fun t_9 =>
              some (!t_9.1, t_9.2))
          else
            some (false, s10))).bind fun s12 =>
          (bif s12.1 then
            some (.inl false)
          else
            some (.inr (w64 (low - 1), s12.2)))) : Option ((Bool) ⊕ (Int × thicketlaw11_world))).bind fun s5 =>
      match s5 with
      | .inl r_ => some (.inl r_)
      | .inr s6 =>
        thicketlaw11_SkewFalls_l1 l3 l4 l5 m s6.1 (w64 (i1 + 1)) s6.2
    else
      some (.inr m_1))

def thicketlaw11_SkewFalls (k : Nat) (keys : List Int) (who : List Int) (cut : List Int) : Option (Bool) :=
  (thicketlaw11_fresh 160).bind fun t_ =>
  (thicketlaw11_SkewFalls_l0 who cut keys k 0 t_).bind fun s =>
  match s with
  | .inl r_ => some r_
  | .inr s1 =>
    (thicketlaw11_SkewFalls_l1 who cut keys k (-1000) 0 s1).bind fun s2 =>
    match s2 with
    | .inl r_ => some r_
    | .inr s3 =>
      ((thicketlaw11_world_right k s3).bind fun t_10 =>
      (bif t_10.1 then
        (thicketlaw11_known k).bind fun t_11 =>
        some (t_11, t_10.2)
      else
        some (false, t_10.2))).bind fun s13 =>
      some s13.1

def thicketlaw11_SkewMelds_l1 (l2 : List Bool) (i1 : Int) (l3 : List (NRow Int)) : Nat → Int → thicketlaw11_world → Option ((Bool) ⊕ (thicketlaw11_world))
  | 0, _, _ => none
  | m + 1, k_, m_1 =>
    ((mIdx l3 i1).bind fun x1 =>
    (bif decide (k_ < (x1.l.length : Int)) then
      some (decide (k_ < 8))
    else
      some false)).bind fun s4 =>
    (bif s4 then
      (mIdx l3 i1).bind fun x2 =>
      (mIdx x2.l k_).bind fun x3 =>
      (thicketlaw11_world_push m m_1 1 (Int.tmod x3 30)).bind fun t_1 =>
      (bif !t_1.1 then
        some (.inl false)
      else
        thicketlaw11_SkewMelds_l1 l2 i1 l3 m (w64 (k_ + 1)) t_1.2)
    else
      some (.inr m_1))

def thicketlaw11_SkewMelds_l0 (l : List Bool) (l1 : List (NRow Int)) : Nat → Int → thicketlaw11_world → Option ((Bool) ⊕ (thicketlaw11_world))
  | 0, _, _ => none
  | m + 1, i, m_ =>
    (bif (decide (i < (l1.length : Int))) && (decide (i < 12)) then
      (thicketlaw11_SkewMelds_l1 l i l1 m 0 m_).bind fun s2 =>
      match s2 with
      | .inl r_ => some (.inl r_)
      | .inr s3 =>
        ((bif decide (i < (l.length : Int)) then
          (mIdx l i).bind fun x5 =>
          (bif x5 then
            (thicketlaw11_world_pop m s3 0).bind fun t_2 =>
            (bif !t_2.1 then
              some (true, t_2.2)
            else
              (thicketlaw11_world_right m t_2.2).bind fun t_3 =>
              some (!t_3.1, t_3.2))
          else
            (thicketlaw11_world_right m s3).bind fun t_4 =>
            some (!t_4.1, t_4.2))
        else
          (thicketlaw11_world_right m s3).bind fun t_5 =>
          some (!t_5.1, t_5.2))).bind fun s5 =>
        (bif s5.1 then
          some (.inl false)
        else
          ((thicketlaw11_world_meld m s5.2 0).bind fun t_6 =>
          (bif !t_6.1 then
            some (true, t_6.2)
          else
            (bif (t_6.2.has0.length : Int) != (w64 ((s5.2.has0.length : Int) + (s5.2.has1.length : Int))) then
              some (true, t_6.2)
            else
              (bif t_6.2.root1 != (-1) then
                some (true, t_6.2)
              else
                (thicketlaw11_world_right m t_6.2).bind fun t_7 =>
                some (!t_7.1, t_7.2))))).bind fun s6 =>
          (bif s6.1 then
            some (.inl false)
          else
            thicketlaw11_SkewMelds_l0 l l1 m (w64 (i + 1)) s6.2))
    else
      some (.inr m_))

def thicketlaw11_SkewMelds (k : Nat) (rows : List (NRow Int)) (pops : List Bool) : Option (Bool) :=
  (thicketlaw11_fresh 300).bind fun t_ =>
  (thicketlaw11_SkewMelds_l0 pops rows k 0 t_).bind fun s =>
  match s with
  | .inl r_ => some r_
  | .inr s1 =>
    (thicketlaw11_known k).bind fun t_8 =>
    some t_8

end Go.Proofs.YtmidmkinclmbdaaGreat
