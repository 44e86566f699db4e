import Derived.Test.YtlcllmgpmhjomaaE6
import Derived.Test.YtlcllmgpmhjomaaProg
set_option linter.unusedVariables false
set_option linter.unusedSimpArgs false
set_option maxRecDepth 10000
set_option maxHeartbeats 4000000
namespace Go.Proofs.Ytlcllmgpmhjomaa
open Go.Th

theorem mixed : Try.prog.follows .mixedOrders = true := by kernel_rfl

structure mail_Box_string where
  c_ : MCh ByteArray

structure mail_Desk_string where
  l : List mail_Box_string

structure mail_Box_int64 where
  c_ : MCh Int

structure mail_Desk_int64 where
  l : List mail_Box_int64

structure mail_Box_int where
  c_ : MCh Int

structure mail_Desk_int where
  l : List mail_Box_int

structure thicketlaw23_Ask where
  Kind : Int
  Box : Int
  V : Int

def thicketlaw23_Ask.enc (x : thicketlaw23_Ask) : List Value := [.int .i64 x.Kind, .int .i64 x.Box, .int .i64 x.V]

theorem thicketlaw23_Ask.enc_ok : EncOk thicketlaw23_Ask.enc 3 := ⟨fun _ => rfl, fun x u hu => by simp only [thicketlaw23_Ask.enc, List.mem_cons, List.not_mem_nil, or_false] at hu; rcases hu with rfl | rfl | rfl <;> rfl⟩

def mail_NewBox_string (room : Int) : Option (mail_Box_string) :=
  (mChan ByteArray (if (if 4096 < room then 4096 else room) > 1 then (if 4096 < room then 4096 else room) else 1)).bind fun m_ =>
  some (mail_Box_string.mk m_)

def mail_NewDesk_string_l0 (room1 : Int) (x1 : Int) : Nat → Int → mail_Desk_string → Option (mail_Desk_string)
  | 0, _, _ => none
  | m + 1, x, m_ =>
    (bif decide (x < x1) then
      (mail_NewBox_string room1).bind fun t_ =>
      (mApp m_.l ([t_] : List mail_Box_string)).bind fun l =>
      mail_NewDesk_string_l0 room1 x1 m (w64 (x + 1)) (mail_Desk_string.mk l)
    else
      some m_)

def mail_NewDesk_string (k : Nat) (boxes : Int) (room : Int) : Option (mail_Desk_string) :=
  (mail_NewDesk_string_l0 room (if (if 4 < boxes then 4 else boxes) > 1 then (if 4 < boxes then 4 else boxes) else 1) k 0 (mail_Desk_string.mk ([] : List mail_Box_string))).bind fun s =>
  some s

def mail_Box_string_Post (b : mail_Box_string) (v_ : ByteArray) : Option (Bool × mail_Box_string) :=
  (bif MCh.room b.c_ then
    some (true, mail_Box_string.mk (MCh.push b.c_ v_))
  else
    some (false, b))

def mail_Desk_string_Post (d : mail_Desk_string) (box : Int) (v_ : ByteArray) : Option (Int × mail_Desk_string) :=
  ((bif decide (box < 0) then
    some true
  else
    some (decide (box ≥ (d.l.length : Int))))).bind fun s =>
  (bif s then
    some (30, d)
  else
    (mIdx d.l box).bind fun x =>
    (mail_Box_string_Post x v_).bind fun t_ =>
    (bif !t_.1 then
      some (13, mail_Desk_string.mk (mSet d.l box t_.2))
    else
      some (0, mail_Desk_string.mk (mSet d.l box t_.2))))

def mail_Box_string_Take (b : mail_Box_string) : Option (ByteArray × Bool × mail_Box_string) :=
  (match MCh.buf b.c_ with
  | [] =>
    some (ByteArray.mk #[], false, b)
  | u :: r =>
    some (u, true, mail_Box_string.mk (MCh.rest b.c_ r)))

def mail_Desk_string_Next_l0 (x1 : Int) : Nat → Int → mail_Desk_string → Option ((ByteArray × Int × Bool × mail_Desk_string) ⊕ (mail_Desk_string))
  | 0, _, _ => none
  | m + 1, x, m_ =>
    (bif decide (x < x1) then
      (mIdx m_.l x).bind fun x2 =>
      (mail_Box_string_Take x2).bind fun t_ =>
      (bif t_.2.1 then
        some (.inl (t_.1, x, true, mail_Desk_string.mk (mSet m_.l x t_.2.2)))
      else
        mail_Desk_string_Next_l0 x1 m (w64 (x + 1)) (mail_Desk_string.mk (mSet m_.l x t_.2.2)))
    else
      some (.inr m_))

def mail_Desk_string_Next (k : Nat) (d : mail_Desk_string) : Option (ByteArray × Int × Bool × mail_Desk_string) :=
  (mail_Desk_string_Next_l0 (d.l.length : Int) k 0 d).bind fun s =>
  match s with
  | .inl r_ => some r_
  | .inr s1 =>
    some (ByteArray.mk #[], 0, false, s1)

def mail_NewBox_int64 (room : Int) : Option (mail_Box_int64) :=
  (mChan Int (if (if 4096 < room then 4096 else room) > 1 then (if 4096 < room then 4096 else room) else 1)).bind fun m_ =>
  some (mail_Box_int64.mk m_)

def mail_NewDesk_int64_l0 (room1 : Int) (x1 : Int) : Nat → Int → mail_Desk_int64 → Option (mail_Desk_int64)
  | 0, _, _ => none
  | m + 1, x, m_ =>
    (bif decide (x < x1) then
      (mail_NewBox_int64 room1).bind fun t_ =>
      (mApp m_.l ([t_] : List mail_Box_int64)).bind fun l =>
      mail_NewDesk_int64_l0 room1 x1 m (w64 (x + 1)) (mail_Desk_int64.mk l)
    else
      some m_)

def mail_NewDesk_int64 (k : Nat) (boxes : Int) (room : Int) : Option (mail_Desk_int64) :=
  (mail_NewDesk_int64_l0 room (if (if 4 < boxes then 4 else boxes) > 1 then (if 4 < boxes then 4 else boxes) else 1) k 0 (mail_Desk_int64.mk ([] : List mail_Box_int64))).bind fun s =>
  some s

def mail_Box_int64_Post (b : mail_Box_int64) (v_ : Int) : Option (Bool × mail_Box_int64) :=
  (bif MCh.room b.c_ then
    some (true, mail_Box_int64.mk (MCh.push b.c_ v_))
  else
    some (false, b))

def mail_Desk_int64_Post (d : mail_Desk_int64) (box : Int) (v_ : Int) : Option (Int × mail_Desk_int64) :=
  ((bif decide (box < 0) then
    some true
  else
    some (decide (box ≥ (d.l.length : Int))))).bind fun s =>
  (bif s then
    some (30, d)
  else
    (mIdx d.l box).bind fun x =>
    (mail_Box_int64_Post x v_).bind fun t_ =>
    (bif !t_.1 then
      some (13, mail_Desk_int64.mk (mSet d.l box t_.2))
    else
      some (0, mail_Desk_int64.mk (mSet d.l box t_.2))))

def mail_Box_int64_Take (b : mail_Box_int64) : Option (Int × Bool × mail_Box_int64) :=
  (match MCh.buf b.c_ with
  | [] =>
    some (0, false, b)
  | u :: r =>
    some (u, true, mail_Box_int64.mk (MCh.rest b.c_ r)))

def mail_Desk_int64_Next_l0 (x1 : Int) : Nat → Int → mail_Desk_int64 → Option ((Int × Int × Bool × mail_Desk_int64) ⊕ (mail_Desk_int64))
  | 0, _, _ => none
  | m + 1, x, m_ =>
    (bif decide (x < x1) then
      (mIdx m_.l x).bind fun x2 =>
      (mail_Box_int64_Take x2).bind fun t_ =>
      (bif t_.2.1 then
        some (.inl (t_.1, x, true, mail_Desk_int64.mk (mSet m_.l x t_.2.2)))
      else
        mail_Desk_int64_Next_l0 x1 m (w64 (x + 1)) (mail_Desk_int64.mk (mSet m_.l x t_.2.2)))
    else
      some (.inr m_))

def mail_Desk_int64_Next (k : Nat) (d : mail_Desk_int64) : Option (Int × Int × Bool × mail_Desk_int64) :=
  (mail_Desk_int64_Next_l0 (d.l.length : Int) k 0 d).bind fun s =>
  match s with
  | .inl r_ => some r_
  | .inr s1 =>
    some (0, 0, false, s1)

def mail_Box_int64_Len (b : mail_Box_int64) : Option (Int) :=
  some (b.c_.buf.length : Int)

def mail_Desk_int64_Len_l0 (x1 : Int) (m_ : mail_Desk_int64) : Nat → Int → Int → Option (Int)
  | 0, _, _ => none
  | m + 1, n, x =>
    (bif decide (x < x1) then
      (mIdx m_.l x).bind fun x2 =>
      (mail_Box_int64_Len x2).bind fun t_ =>
      mail_Desk_int64_Len_l0 x1 m_ m (w64 (n + t_)) (w64 (x + 1))
    else
      some n)

def mail_Desk_int64_Len (k : Nat) (d : mail_Desk_int64) : Option (Int) :=
  (mail_Desk_int64_Len_l0 (d.l.length : Int) d k 0 0).bind fun s =>
  some s

def mail_Box_string_Len (b : mail_Box_string) : Option (Int) :=
  some (b.c_.buf.length : Int)

def thicketlaw23_known (k : Nat)  : Option (Bool) :=
  (mail_NewDesk_int64 k 2 3).bind fun t_ =>
  (mail_NewBox_string 1).bind fun t_1 =>
  ((mail_Box_string_Post t_1 (ByteArray.mk #[120])).bind fun t_2 =>
  (bif !t_2.1 then
    some (true, t_2.2, t_)
  else
    (mail_Box_string_Post t_2.2 (ByteArray.mk #[121])).bind fun t_3 =>
    (bif t_3.1 then
      some (true, t_3.2, t_)
    else
      (mail_Desk_int64_Post t_ 1 5).bind fun t_4 =>
      (bif t_4.1 != 0 then
        some (true, t_3.2, t_4.2)
      else
        (mail_Desk_int64_Post t_4.2 0 6).bind fun t_5 =>
        (bif t_5.1 != 0 then
          some (true, t_3.2, t_5.2)
        else
          (mail_Desk_int64_Post t_5.2 9 7).bind fun t_6 =>
          some (t_6.1 != 30, t_3.2, t_6.2)))))).bind fun s =>
  (bif s.1 then
    some false
  else
    (mail_Desk_int64_Next k s.2.2).bind fun t_7 =>
    (mail_Box_string_Take s.2.1).bind fun t_8 =>
    ((bif t_7.1 == 6 then
      (bif t_7.2.1 == 0 then
        (bif t_7.2.2.1 then
          (bif t_8.1.toList == (ByteArray.mk #[120]).toList then
            (bif t_8.2.1 then
              (mail_Desk_int64_Len k t_7.2.2.2).bind fun t_9 =>
              (bif t_9 == 1 then
                (mail_Box_string_Len t_8.2.2).bind fun t_10 =>
                some (t_10 == 0)
              else
                some false)
            else
              some false)
          else
            some false)
        else
          some false)
      else
        some false)
    else
      some false)).bind fun s1 =>
    some s1)

def thicketlaw23_MailOrder_l0 (l2 : List ByteArray) (l3 : List ByteArray) (l4 : List ByteArray) : Nat → Int → mail_Box_string → mail_Desk_string → Option ((Bool) ⊕ (mail_Box_string × mail_Desk_string))
  | 0, _, _, _ => none
  | m + 1, i, m_, m_1 =>
    (bif decide (i < (l3.length : Int)) then
      ((mIdx l3 i).bind fun x1 =>
      (mail_Desk_string_Post m_1 1 x1).bind fun t_2 =>
      (bif t_2.1 != 0 then
        some (true, m_, t_2.2)
      else
        (mIdx l3 i).bind fun x2 =>
        (mail_Box_string_Post m_ x2).bind fun t_3 =>
        some (!t_3.1, t_3.2, t_2.2))).bind fun s4 =>
      (bif s4.1 then
        some (.inl false)
      else
        thicketlaw23_MailOrder_l0 l2 l3 l4 m (w64 (i + 1)) s4.2.1 s4.2.2)
    else
      some (.inr (m_, m_1)))

def thicketlaw23_MailOrder_l1 (l5 : List ByteArray) (l6 : List ByteArray) (m_3 : mail_Box_string) (l7 : List ByteArray) : Nat → Int → mail_Desk_string → Option ((Bool) ⊕ (mail_Desk_string))
  | 0, _, _ => none
  | m + 1, i1, m_2 =>
    (bif decide (i1 < (l5.length : Int)) then
      (mIdx l5 i1).bind fun x3 =>
      (mail_Desk_string_Post m_2 0 x3).bind fun t_4 =>
      (bif t_4.1 != 0 then
        some (.inl false)
      else
        thicketlaw23_MailOrder_l1 l5 l6 m_3 l7 m (w64 (i1 + 1)) t_4.2)
    else
      some (.inr m_2))

def thicketlaw23_MailOrder_l2 (l8 : List ByteArray) (l9 : List ByteArray) (m_5 : mail_Box_string) (l10 : List ByteArray) : Nat → Int → mail_Desk_string → Option ((Bool) ⊕ (mail_Desk_string))
  | 0, _, _ => none
  | m + 1, i2, m_4 =>
    (bif decide (i2 < w64 ((l8.length : Int) + (l9.length : Int))) then
      (mail_Desk_string_Next m m_4).bind fun t_5 =>
      ((bif !t_5.2.2.1 then
        some true
      else
        (bif decide (i2 < (l8.length : Int)) then
          (bif t_5.2.1 != 0 then
            some true
          else
            (mIdx l8 i2).bind fun x5 =>
            (bif !(t_5.1.toList == x5.toList) then
              some true
            else
              (bif decide (i2 ≥ (l8.length : Int)) then
                (bif t_5.2.1 != 1 then
                  some true
                else
                  (mIdx l9 (w64 (i2 - (l8.length : Int)))).bind fun x6 =>
                  some (!(t_5.1.toList == x6.toList)))
              else
                some false)))
        else
          (bif decide (i2 ≥ (l8.length : Int)) then
            (bif t_5.2.1 != 1 then
              some true
            else
              (mIdx l9 (w64 (i2 - (l8.length : Int)))).bind fun x7 =>
              some (!(t_5.1.toList == x7.toList)))
          else
            some false)))).bind fun s9 =>
      (bif s9 then
        some (.inl false)
      else
        thicketlaw23_MailOrder_l2 l8 l9 m_5 l10 m (w64 (i2 + 1)) t_5.2.2.2)
    else
      some (.inr m_4))

def thicketlaw23_MailOrder_l3 (l11 : List ByteArray) (m_7 : mail_Desk_string) (l12 : List ByteArray) : Nat → Int → mail_Box_string → Option ((Bool) ⊕ (mail_Box_string))
  | 0, _, _ => none
  | m + 1, i3, m_6 =>
    (bif decide (i3 < (l11.length : Int)) then
      (mail_Box_string_Take m_6).bind fun t_6 =>
      ((bif !t_6.2.1 then
        some true
      else
        (mIdx l11 i3).bind fun x9 =>
        some (!(t_6.1.toList == x9.toList)))).bind fun s12 =>
      (bif s12 then
        some (.inl false)
      else
        thicketlaw23_MailOrder_l3 l11 m_7 l12 m (w64 (i3 + 1)) t_6.2.2)
    else
      some (.inr m_6))

def thicketlaw23_MailOrder (k : Nat) (a_ : List ByteArray) (b : List ByteArray) : Option (Bool) :=
  (mail_NewDesk_string k 2 100).bind fun t_ =>
  (mail_NewBox_string 100).bind fun t_1 =>
  ((bif decide ((a_.length : Int) > 40) then
    (mCut a_ 0 40).bind fun l =>
    some l
  else
    some a_)).bind fun s =>
  ((bif decide ((b.length : Int) > 40) then
    (mCut b 0 40).bind fun l1 =>
    some l1
  else
    some b)).bind fun s1 =>
  (thicketlaw23_MailOrder_l0 s s1 a_ k 0 t_1 t_).bind fun s2 =>
  match s2 with
  | .inl r_ => some r_
  | .inr s3 =>
    (thicketlaw23_MailOrder_l1 s s1 s3.1 a_ k 0 s3.2).bind fun s5 =>
    match s5 with
    | .inl r_ => some r_
    | .inr s6 =>
      (thicketlaw23_MailOrder_l2 s s1 s3.1 a_ k 0 s6).bind fun s7 =>
      match s7 with
      | .inl r_ => some r_
      | .inr s8 =>
        (thicketlaw23_MailOrder_l3 s1 s8 a_ k 0 s3.1).bind fun s10 =>
        match s10 with
        | .inl r_ => some r_
        | .inr s11 =>
          (mail_Desk_string_Next k s8).bind fun t_7 =>
          (mail_Box_string_Take s11).bind fun t_8 =>
          ((bif !t_7.2.2.1 then
            (bif !t_8.2.1 then
              (thicketlaw23_known k).bind fun t_9 =>
              some t_9
            else
              some false)
          else
            some false)).bind fun s13 =>
          some s13

def thicketbook_Within (n : Int) (lo : Int) (hi : Int) : Option (Int) :=
  (bif (decide (n ≥ lo)) && (decide (n ≤ hi)) then
    some n
  else
    (mNz (w64 ((w64 (hi - lo)) + 1))).bind fun u =>
    ((bif decide (Int.tmod n (w64 ((w64 (hi - lo)) + 1)) < 0) then
      some (w64 ((w64 ((w64 ((Int.tmod n (w64 ((w64 (hi - lo)) + 1))) + hi)) - lo)) + 1))
    else
      some (Int.tmod n (w64 ((w64 (hi - lo)) + 1))))).bind fun s =>
    some (w64 (lo + s)))

def mail_NewBox_int (room : Int) : Option (mail_Box_int) :=
  (mChan Int (if (if 4096 < room then 4096 else room) > 1 then (if 4096 < room then 4096 else room) else 1)).bind fun m_ =>
  some (mail_Box_int.mk m_)

def mail_NewDesk_int_l0 (room1 : Int) (x1 : Int) : Nat → Int → mail_Desk_int → Option (mail_Desk_int)
  | 0, _, _ => none
  | m + 1, x, m_ =>
    (bif decide (x < x1) then
      (mail_NewBox_int room1).bind fun t_ =>
      (mApp m_.l ([t_] : List mail_Box_int)).bind fun l =>
      mail_NewDesk_int_l0 room1 x1 m (w64 (x + 1)) (mail_Desk_int.mk l)
    else
      some m_)

def mail_NewDesk_int (k : Nat) (boxes : Int) (room : Int) : Option (mail_Desk_int) :=
  (mail_NewDesk_int_l0 room (if (if 4 < boxes then 4 else boxes) > 1 then (if 4 < boxes then 4 else boxes) else 1) k 0 (mail_Desk_int.mk ([] : List mail_Box_int))).bind fun s =>
  some s

def mail_Box_int_Post (b : mail_Box_int) (v_ : Int) : Option (Bool × mail_Box_int) :=
  (bif MCh.room b.c_ then
    some (true, mail_Box_int.mk (MCh.push b.c_ v_))
  else
    some (false, b))

def mail_Desk_int_Post (d : mail_Desk_int) (box : Int) (v_ : Int) : Option (Int × mail_Desk_int) :=
  ((bif decide (box < 0) then
    some true
  else
    some (decide (box ≥ (d.l.length : Int))))).bind fun s =>
  (bif s then
    some (30, d)
  else
    (mIdx d.l box).bind fun x =>
    (mail_Box_int_Post x v_).bind fun t_ =>
    (bif !t_.1 then
      some (13, mail_Desk_int.mk (mSet d.l box t_.2))
    else
      some (0, mail_Desk_int.mk (mSet d.l box t_.2))))

def mail_Box_int_Take (b : mail_Box_int) : Option (Int × Bool × mail_Box_int) :=
  (match MCh.buf b.c_ with
  | [] =>
    some (0, false, b)
  | u :: r =>
    some (u, true, mail_Box_int.mk (MCh.rest b.c_ r)))

def mail_Desk_int_Next_l0 (x1 : Int) : Nat → Int → mail_Desk_int → Option ((Int × Int × Bool × mail_Desk_int) ⊕ (mail_Desk_int))
  | 0, _, _ => none
  | m + 1, x, m_ =>
    (bif decide (x < x1) then
      (mIdx m_.l x).bind fun x2 =>
      (mail_Box_int_Take x2).bind fun t_ =>
      (bif t_.2.1 then
        some (.inl (t_.1, x, true, mail_Desk_int.mk (mSet m_.l x t_.2.2)))
      else
        mail_Desk_int_Next_l0 x1 m (w64 (x + 1)) (mail_Desk_int.mk (mSet m_.l x t_.2.2)))
    else
      some (.inr m_))

def mail_Desk_int_Next (k : Nat) (d : mail_Desk_int) : Option (Int × Int × Bool × mail_Desk_int) :=
  (mail_Desk_int_Next_l0 (d.l.length : Int) k 0 d).bind fun s =>
  match s with
  | .inl r_ => some r_
  | .inr s1 =>
    some (0, 0, false, s1)

def mail_Box_int_Len (b : mail_Box_int) : Option (Int) :=
  some (b.c_.buf.length : Int)

def mail_Desk_int_Len_l0 (x1 : Int) (m_ : mail_Desk_int) : Nat → Int → Int → Option (Int)
  | 0, _, _ => none
  | m + 1, n, x =>
    (bif decide (x < x1) then
      (mIdx m_.l x).bind fun x2 =>
      (mail_Box_int_Len x2).bind fun t_ =>
      mail_Desk_int_Len_l0 x1 m_ m (w64 (n + t_)) (w64 (x + 1))
    else
      some n)

def mail_Desk_int_Len (k : Nat) (d : mail_Desk_int) : Option (Int) :=
  (mail_Desk_int_Len_l0 (d.l.length : Int) d k 0 0).bind fun s =>
  some s

def thicketlaw23_MailFull_l0 (n : Int) (m_2 : Int) (l1 : List Int) : Nat → Int → Int → (List Int) → mail_Desk_int → Option ((Bool) ⊕ (Int × mail_Desk_int))
  | 0, _, _, _, _ => none
  | m + 1, in_, i, m_, m_1 =>
    (bif (decide (i < (l1.length : Int))) && (decide (i < 60)) then
      ((mIdx l1 i).bind fun x =>
      (thicketbook_Within x 0 (w64 (n - 1))).bind fun t_3 =>
      (mail_Desk_int_Post m_1 t_3 i).bind fun t_4 =>
      ((mIdx m_ t_3).bind fun x2 =>
      (bif !((t_4.1 == 0) == (decide (x2 < m_2))) then
        some true
      else
        (bif t_4.1 != 0 then
          some (t_4.1 != 13)
        else
          some false))).bind fun s4 =>
      (bif s4 then
        some (.inl false)
      else
        (bif t_4.1 == 0 then
          (mIdx m_ t_3).bind fun x3 =>
          (mIdx m_ t_3).bind fun x4 =>
          some (.inr (w64 (in_ + 1), mSet m_ t_3 (w64 (x3 + 1)), t_4.2))
        else
          some (.inr (in_, m_, t_4.2)))) : Option ((Bool) ⊕ (Int × (List Int) × mail_Desk_int))).bind fun s2 =>
      match s2 with
      | .inl r_ => some (.inl r_)
      | .inr s3 =>
        thicketlaw23_MailFull_l0 n m_2 l1 m s3.1 (w64 (i + 1)) s3.2.1 s3.2.2
    else
      some (.inr (in_, m_1)))

def thicketlaw23_MailFull_l1 (in_1 : Int) (l2 : List Int) : Nat → Int → Int → mail_Desk_int → Option ((Bool) ⊕ (mail_Desk_int))
  | 0, _, _, _ => none
  | m + 1, last, i1, m_3 =>
    (bif decide (i1 < in_1) then
      (mail_Desk_int_Next m m_3).bind fun t_5 =>
      (bif (!t_5.2.2.1) || (decide (t_5.2.1 < last)) then
        some (.inl false)
      else
        thicketlaw23_MailFull_l1 in_1 l2 m t_5.2.1 (w64 (i1 + 1)) t_5.2.2.2)
    else
      some (.inr m_3))

def thicketlaw23_MailFull (k : Nat) (boxes : Int) (room : Int) (posts : List Int) : Option (Bool) :=
  (thicketbook_Within boxes 1 4).bind fun t_ =>
  (thicketbook_Within room 1 5).bind fun t_1 =>
  (mail_NewDesk_int k t_ t_1).bind fun t_2 =>
  (mMake t_ 0).bind fun l =>
  (thicketlaw23_MailFull_l0 t_ t_1 posts k 0 0 l t_2).bind fun s =>
  match s with
  | .inl r_ => some r_
  | .inr s1 =>
    (thicketlaw23_MailFull_l1 s1.1 posts k 0 0 s1.2).bind fun s5 =>
    match s5 with
    | .inl r_ => some r_
    | .inr s6 =>
      (mail_Desk_int_Next k s6).bind fun t_6 =>
      ((bif !t_6.2.2.1 then
        (mail_Desk_int_Len k t_6.2.2.2).bind fun t_7 =>
        (bif t_7 == 0 then
          (thicketlaw23_known k).bind fun t_8 =>
          some t_8
        else
          some false)
      else
        some false)).bind fun s7 =>
      some s7

def mail_Desk_int64_In (d : mail_Desk_int64) (box : Int) : Option (Int) :=
  ((bif decide (box < 0) then
    some true
  else
    some (decide (box ≥ (d.l.length : Int))))).bind fun s =>
  (bif s then
    some 0
  else
    (mIdx d.l box).bind fun x =>
    (mail_Box_int64_Len x).bind fun t_ =>
    some t_)

def thicketlaw23_play_l1 (n1 : Int) (most1 : Int) (i1 : Int) (v_ : Int) (box : Int) (ok : Bool) (m_2 : mail_Desk_int64) (l3 : List (List Int)) (l4 : List thicketlaw23_Ask) : Nat → Int → Option (Int)
  | 0, _ => none
  | m + 1, k_ =>
    ((bif decide (k_ < n1) then
      (mIdx l3 k_).bind fun x2 =>
      some ((x2.length : Int) == 0)
    else
      some false)).bind fun s8 =>
    (bif s8 then
      thicketlaw23_play_l1 n1 most1 i1 v_ box ok m_2 l3 l4 m (w64 (k_ + 1))
    else
      some k_)

def thicketlaw23_play_l2 (n2 : Int) (most2 : Int) (i2 : Int) (l9 : List (List Int)) (m_3 : mail_Desk_int64) (l10 : List thicketlaw23_Ask) : Nat → Int → Int → Option ((Bool) ⊕ (Int))
  | 0, _, _ => none
  | m + 1, all, k_1 =>
    (bif decide (k_1 < n2) then
      (mIdx l9 k_1).bind fun x14 =>
      (mail_Desk_int64_In m_3 k_1).bind fun t_3 =>
      (bif t_3 != (x14.length : Int) then
        some (.inl false)
      else
        thicketlaw23_play_l2 n2 most2 i2 l9 m_3 l10 m (w64 (all + (x14.length : Int))) (w64 (k_1 + 1)))
    else
      some (.inr all))

def thicketlaw23_play_l0 (n : Int) (most : Int) (l2 : List thicketlaw23_Ask) : Nat → Int → (List (List Int)) → mail_Desk_int64 → Option ((Bool) ⊕ (mail_Desk_int64))
  | 0, _, _, _ => none
  | m + 1, i, m_, m_1 =>
    (bif (decide (i < (l2.length : Int))) && (decide (i < 100)) then
      ((mIdx l2 i).bind fun x =>
      (((bif x.Kind == 3 then
        some (x.Kind == 3)
      else
        some (x.Kind == 4))).bind fun s6 =>
      (bif s6 then
        (mail_Desk_int64_Next m m_1).bind fun t_1 =>
        (thicketlaw23_play_l1 n most i t_1.1 t_1.2.1 t_1.2.2.1 t_1.2.2.2 m_ l2 m 0).bind fun s7 =>
        ((bif !(t_1.2.2.1 == (decide (s7 < n))) then
          some true
        else
          (bif !t_1.2.2.1 then
            (bif t_1.1 != 0 then
              some true
            else
              (bif t_1.2.1 != 0 then
                some true
              else
                (bif t_1.2.2.1 then
                  (bif t_1.2.1 != s7 then
                    some true
                  else
                    (mIdx m_ s7).bind fun x4 =>
                    (mIdx x4 0).bind fun x5 =>
                    some (t_1.1 != x5))
                else
                  some false)))
          else
            (bif t_1.2.2.1 then
              (bif t_1.2.1 != s7 then
                some true
              else
                (mIdx m_ s7).bind fun x6 =>
                (mIdx x6 0).bind fun x7 =>
                some (t_1.1 != x7))
            else
              some false)))).bind fun s9 =>
        (bif s9 then
          some (.inl false)
        else
          (bif t_1.2.2.1 then
            (mIdx m_ s7).bind fun x8 =>
            (mCut x8 1 (x8.length : Int)).bind fun l5 =>
            (mApp ([] : List Int) l5).bind fun l6 =>
            some (.inr (mSet m_ s7 l6, t_1.2.2.2))
          else
            some (.inr (m_, t_1.2.2.2))))
      else
        (mIdx l2 i).bind fun x9 =>
        ((bif (decide (x9.Box < 0)) || (decide (x9.Box ≥ n)) then
          some 30
        else
          (mIdx m_ x9.Box).bind fun x10 =>
          (bif decide ((x10.length : Int) ≥ most) then
            some 13
          else
            some 0))).bind fun s10 =>
        (mIdx l2 i).bind fun x11 =>
        (mail_Desk_int64_Post m_1 x9.Box x11.V).bind fun t_2 =>
        (bif t_2.1 != s10 then
          some (.inl false)
        else
          (bif s10 == 0 then
            (mIdx m_ x9.Box).bind fun x12 =>
            (mIdx l2 i).bind fun x13 =>
            (mApp ([] : List Int) x12).bind fun l7 =>
            (mApp l7 ([x13.V] : List Int)).bind fun l8 =>
            some (.inr (mSet m_ x9.Box l8, t_2.2))
          else
            some (.inr (m_, t_2.2))))) : Option ((Bool) ⊕ ((List (List Int)) × mail_Desk_int64))).bind fun s4 =>
      match s4 with
      | .inl r_ => some (.inl r_)
      | .inr s5 =>
        (thicketlaw23_play_l2 n most i s5.1 s5.2 l2 m 0 0).bind fun s11 =>
        match s11 with
        | .inl r_ => some (.inl r_)
        | .inr s12 =>
          ((mail_Desk_int64_Len m s5.2).bind fun t_4 =>
          (bif t_4 != s12 then
            some true
          else
            (mail_Desk_int64_In s5.2 (-1)).bind fun t_5 =>
            (bif t_5 != 0 then
              some true
            else
              (mail_Desk_int64_In s5.2 n).bind fun t_6 =>
              some (t_6 != 0)))).bind fun s13 =>
          (bif s13 then
            some (.inl false)
          else
            some (.inr (s5.1, s5.2))) : Option ((Bool) ⊕ ((List (List Int)) × mail_Desk_int64))).bind fun s2 =>
      match s2 with
      | .inl r_ => some (.inl r_)
      | .inr s3 =>
        thicketlaw23_play_l0 n most l2 m (w64 (i + 1)) s3.1 s3.2
    else
      some (.inr m_1))

def thicketlaw23_play (k : Nat) (boxes : Int) (room : Int) (l : List thicketlaw23_Ask) : Option (Bool) :=
  (mail_NewDesk_int64 k boxes room).bind fun t_ =>
  (mMake (if 1 > (if 4 < boxes then 4 else boxes) then 1 else (if 4 < boxes then 4 else boxes)) ([] : List Int)).bind fun l1 =>
  (thicketlaw23_play_l0 (if 1 > (if 4 < boxes then 4 else boxes) then 1 else (if 4 < boxes then 4 else boxes)) (if 1 > (if 4096 < room then 4096 else room) then 1 else (if 4096 < room then 4096 else room)) l k 0 l1 t_).bind fun s =>
  match s with
  | .inl r_ => some r_
  | .inr s1 =>
    some true

def thicketlaw23_MailNumbers_l0 : Nat → (List thicketlaw23_Ask) → Int → Option ((List thicketlaw23_Ask))
  | 0, _, _ => none
  | m + 1, l, i =>
    (bif decide (i < 90) then
      (mIdx ([0, 0, 0, 3, 0, 0, 4, 0] : List Int) (Int.tmod i 8)).bind fun x =>
      (mApp l ([thicketlaw23_Ask.mk x (w64 ((Int.tmod (w64 (i * 5)) 7) - 1)) i] : List thicketlaw23_Ask)).bind fun l1 =>
      thicketlaw23_MailNumbers_l0 m l1 (w64 (i + 1))
    else
      some l)

def thicketlaw23_MailNumbers_l2 (boxes1 : Int) (l3 : List thicketlaw23_Ask) : Nat → Int → Option ((Bool) ⊕ (Unit))
  | 0, _ => none
  | m + 1, room =>
    (bif decide (room < 4) then
      (thicketlaw23_play m boxes1 room l3).bind fun t_ =>
      (bif !t_ then
        some (.inl false)
      else
        thicketlaw23_MailNumbers_l2 boxes1 l3 m (w64 (room + 1)))
    else
      some (.inr ()))

def thicketlaw23_MailNumbers_l1 (l2 : List thicketlaw23_Ask) : Nat → Int → Option ((Bool) ⊕ (Unit))
  | 0, _ => none
  | m + 1, boxes =>
    (bif decide (boxes < 7) then
      (thicketlaw23_MailNumbers_l2 boxes l2 m 0).bind fun s3 =>
      match s3 with
      | .inl r_ => some (.inl r_)
      | .inr s4 =>
        thicketlaw23_MailNumbers_l1 l2 m (w64 (boxes + 1))
    else
      some (.inr ()))

def thicketlaw23_MailNumbers (k : Nat)  : Option (Bool) :=
  (thicketlaw23_MailNumbers_l0 k ([] : List thicketlaw23_Ask) 0).bind fun s =>
  (thicketlaw23_MailNumbers_l1 s k (-1)).bind fun s1 =>
  match s1 with
  | .inl r_ => some r_
  | .inr s2 =>
    (thicketlaw23_known k).bind fun t_1 =>
    some t_1

def thicketlaw23_MailPlays_l0 (boxes1 : Int) (room1 : Int) (l1 : List thicketlaw23_Ask) : Nat → (List thicketlaw23_Ask) → Int → Option ((List thicketlaw23_Ask))
  | 0, _, _ => none
  | m + 1, near, i =>
    (bif decide (i < (l1.length : Int)) then
      (mIdx l1 i).bind fun x =>
      (thicketbook_Within x.Box (-1) 4).bind fun t_ =>
      (mApp near ([thicketlaw23_Ask.mk x.Kind t_ x.V] : List thicketlaw23_Ask)).bind fun l2 =>
      thicketlaw23_MailPlays_l0 boxes1 room1 l1 m l2 (w64 (i + 1))
    else
      some near)

def thicketlaw23_MailPlays (k : Nat) (boxes : Int) (room : Int) (l : List thicketlaw23_Ask) : Option (Bool) :=
  (thicketlaw23_MailPlays_l0 boxes room l k ([] : List thicketlaw23_Ask) 0).bind fun s =>
  ((thicketbook_Within boxes 1 4).bind fun t_1 =>
  (thicketbook_Within room 1 9).bind fun t_2 =>
  (thicketlaw23_play k t_1 t_2 s).bind fun t_3 =>
  (bif t_3 then
    (thicketbook_Within room 0 20).bind fun t_4 =>
    (thicketlaw23_play k boxes t_4 l).bind fun t_5 =>
    (bif t_5 then
      (thicketlaw23_known k).bind fun t_6 =>
      some t_6
    else
      some false)
  else
    some false)).bind fun s1 =>
  some s1

structure mail_Box_string.A where
  c__p : Nat

def mail_Box_string.R (p : Nat) (al : mail_Box_string.A) (m : mail_Box_string) : HP := sepL [Blk p 54 [.chan (some al.c__p)], ChM al.c__p vS m.c_]

theorem mail_Box_string.open {w0 w : World} {As : List HP} {p : Nat} {al : mail_Box_string.A} {m : mail_Box_string} (H : St w0 (mail_Box_string.R p al m :: As) w) : St w0 (Blk p 54 [.chan (some al.c__p)] :: ChM al.c__p vS m.c_ :: As) w := St.flat H

theorem mail_Box_string.shut {w0 w : World} {As : List HP} {p : Nat} (al : mail_Box_string.A) (m : mail_Box_string) (H : St w0 (Blk p 54 [.chan (some al.c__p)] :: ChM al.c__p vS m.c_ :: As) w) : St w0 (mail_Box_string.R p al m :: As) w := St.group [Blk p 54 [.chan (some al.c__p)], ChM al.c__p vS m.c_] H

structure mail_Desk_string.A where
  l_b : Option Addr
  l_c : Nat

def mail_Box_string.encX (g : Nat × mail_Box_string.A) : List Value := [.pointer (some ⟨g.1, 0, none⟩)]
def mail_Box_string.RX (g : Nat × mail_Box_string.A) (x : mail_Box_string) : HP := mail_Box_string.R g.1 g.2 x

theorem mail_Box_string.encX_ok : EncOk mail_Box_string.encX 1 := ⟨fun _ => rfl, fun x u hu => by simp [mail_Box_string.encX] at hu; subst hu; rfl⟩

def mail_Desk_string.R (p : Nat) (al : mail_Desk_string.A) (m : mail_Desk_string) : HP := sepL [Blk p 51 [.slice al.l_b m.l.length al.l_c], SlX 25 mail_Box_string.encX mail_Box_string.RX al.l_b al.l_c m.l]

theorem mail_Desk_string.open {w0 w : World} {As : List HP} {p : Nat} {al : mail_Desk_string.A} {m : mail_Desk_string} (H : St w0 (mail_Desk_string.R p al m :: As) w) : St w0 (Blk p 51 [.slice al.l_b m.l.length al.l_c] :: SlX 25 mail_Box_string.encX mail_Box_string.RX al.l_b al.l_c m.l :: As) w := St.flat H

theorem mail_Desk_string.shut {w0 w : World} {As : List HP} {p : Nat} (al : mail_Desk_string.A) (m : mail_Desk_string) (H : St w0 (Blk p 51 [.slice al.l_b m.l.length al.l_c] :: SlX 25 mail_Box_string.encX mail_Box_string.RX al.l_b al.l_c m.l :: As) w) : St w0 (mail_Desk_string.R p al m :: As) w := St.group [Blk p 51 [.slice al.l_b m.l.length al.l_c], SlX 25 mail_Box_string.encX mail_Box_string.RX al.l_b al.l_c m.l] H

structure mail_Box_int64.A where
  c__p : Nat

def mail_Box_int64.R (p : Nat) (al : mail_Box_int64.A) (m : mail_Box_int64) : HP := sepL [Blk p 84 [.chan (some al.c__p)], ChM al.c__p vI m.c_]

theorem mail_Box_int64.open {w0 w : World} {As : List HP} {p : Nat} {al : mail_Box_int64.A} {m : mail_Box_int64} (H : St w0 (mail_Box_int64.R p al m :: As) w) : St w0 (Blk p 84 [.chan (some al.c__p)] :: ChM al.c__p vI m.c_ :: As) w := St.flat H

theorem mail_Box_int64.shut {w0 w : World} {As : List HP} {p : Nat} (al : mail_Box_int64.A) (m : mail_Box_int64) (H : St w0 (Blk p 84 [.chan (some al.c__p)] :: ChM al.c__p vI m.c_ :: As) w) : St w0 (mail_Box_int64.R p al m :: As) w := St.group [Blk p 84 [.chan (some al.c__p)], ChM al.c__p vI m.c_] H

structure mail_Desk_int64.A where
  l_b : Option Addr
  l_c : Nat

def mail_Box_int64.encX (g : Nat × mail_Box_int64.A) : List Value := [.pointer (some ⟨g.1, 0, none⟩)]
def mail_Box_int64.RX (g : Nat × mail_Box_int64.A) (x : mail_Box_int64) : HP := mail_Box_int64.R g.1 g.2 x

theorem mail_Box_int64.encX_ok : EncOk mail_Box_int64.encX 1 := ⟨fun _ => rfl, fun x u hu => by simp [mail_Box_int64.encX] at hu; subst hu; rfl⟩

def mail_Desk_int64.R (p : Nat) (al : mail_Desk_int64.A) (m : mail_Desk_int64) : HP := sepL [Blk p 73 [.slice al.l_b m.l.length al.l_c], SlX 74 mail_Box_int64.encX mail_Box_int64.RX al.l_b al.l_c m.l]

theorem mail_Desk_int64.open {w0 w : World} {As : List HP} {p : Nat} {al : mail_Desk_int64.A} {m : mail_Desk_int64} (H : St w0 (mail_Desk_int64.R p al m :: As) w) : St w0 (Blk p 73 [.slice al.l_b m.l.length al.l_c] :: SlX 74 mail_Box_int64.encX mail_Box_int64.RX al.l_b al.l_c m.l :: As) w := St.flat H

theorem mail_Desk_int64.shut {w0 w : World} {As : List HP} {p : Nat} (al : mail_Desk_int64.A) (m : mail_Desk_int64) (H : St w0 (Blk p 73 [.slice al.l_b m.l.length al.l_c] :: SlX 74 mail_Box_int64.encX mail_Box_int64.RX al.l_b al.l_c m.l :: As) w) : St w0 (mail_Desk_int64.R p al m :: As) w := St.group [Blk p 73 [.slice al.l_b m.l.length al.l_c], SlX 74 mail_Box_int64.encX mail_Box_int64.RX al.l_b al.l_c m.l] H

structure mail_Box_int.A where
  c__p : Nat

def mail_Box_int.R (p : Nat) (al : mail_Box_int.A) (m : mail_Box_int) : HP := sepL [Blk p 81 [.chan (some al.c__p)], ChM al.c__p vI m.c_]

theorem mail_Box_int.open {w0 w : World} {As : List HP} {p : Nat} {al : mail_Box_int.A} {m : mail_Box_int} (H : St w0 (mail_Box_int.R p al m :: As) w) : St w0 (Blk p 81 [.chan (some al.c__p)] :: ChM al.c__p vI m.c_ :: As) w := St.flat H

theorem mail_Box_int.shut {w0 w : World} {As : List HP} {p : Nat} (al : mail_Box_int.A) (m : mail_Box_int) (H : St w0 (Blk p 81 [.chan (some al.c__p)] :: ChM al.c__p vI m.c_ :: As) w) : St w0 (mail_Box_int.R p al m :: As) w := St.group [Blk p 81 [.chan (some al.c__p)], ChM al.c__p vI m.c_] H

structure mail_Desk_int.A where
  l_b : Option Addr
  l_c : Nat

def mail_Box_int.encX (g : Nat × mail_Box_int.A) : List Value := [.pointer (some ⟨g.1, 0, none⟩)]
def mail_Box_int.RX (g : Nat × mail_Box_int.A) (x : mail_Box_int) : HP := mail_Box_int.R g.1 g.2 x

theorem mail_Box_int.encX_ok : EncOk mail_Box_int.encX 1 := ⟨fun _ => rfl, fun x u hu => by simp [mail_Box_int.encX] at hu; subst hu; rfl⟩

def mail_Desk_int.R (p : Nat) (al : mail_Desk_int.A) (m : mail_Desk_int) : HP := sepL [Blk p 62 [.slice al.l_b m.l.length al.l_c], SlX 63 mail_Box_int.encX mail_Box_int.RX al.l_b al.l_c m.l]

theorem mail_Desk_int.open {w0 w : World} {As : List HP} {p : Nat} {al : mail_Desk_int.A} {m : mail_Desk_int} (H : St w0 (mail_Desk_int.R p al m :: As) w) : St w0 (Blk p 62 [.slice al.l_b m.l.length al.l_c] :: SlX 63 mail_Box_int.encX mail_Box_int.RX al.l_b al.l_c m.l :: As) w := St.flat H

theorem mail_Desk_int.shut {w0 w : World} {As : List HP} {p : Nat} (al : mail_Desk_int.A) (m : mail_Desk_int) (H : St w0 (Blk p 62 [.slice al.l_b m.l.length al.l_c] :: SlX 63 mail_Box_int.encX mail_Box_int.RX al.l_b al.l_c m.l :: As) w) : St w0 (mail_Desk_int.R p al m :: As) w := St.group [Blk p 62 [.slice al.l_b m.l.length al.l_c], SlX 63 mail_Box_int.encX mail_Box_int.RX al.l_b al.l_c m.l] H

theorem mail_NewBox_string_ok {w0 w : World} {As : List HP} {room : Int} {t : mail_Box_string}  (hm : mail_NewBox_string room = some t) (H : St w0 (As) w) :
    CallsR Try.prog 8 #[.int .i64 room] w fun v w' => ∃ (q0 : Nat), ∃ (al0 : mail_Box_string.A), v = .pointer (some ⟨q0, 0, none⟩) ∧ St w0 (mail_Box_string.R q0 al0 t :: As) w' := by
  rw [mail_NewBox_string] at hm
  refine enter (args := [.int .i64 room]) Try.func8 rfl rfl rfl fun a hE => ?_
  refine Runs.seq ?_
  refine Runs.region ?_
  refine WR.seg hE 1 [] [0] (Lo := [(0, .int .i64 room)]) (obs := []) rfl (by kernel_rfl) trivial fun a hE => ?_
  refine WR.done rfl ?_
  refine Runs.seq ?_
  refine Runs.region ?_
  refine WR.seg hE 3 [] [5] (Lo := [(5, .int .i64 (if (if 4096 < room then 4096 else room) > 1 then (if 4096 < room then 4096 else room) else 1))]) (obs := []) rfl (by kernel_rfl) trivial fun a hE => ?_
  obtain ⟨m_, em_, hm⟩ := bind_some hm
  refine WR.eff hE rfl rfl rfl rfl (OpTo.makeCh vS em_ hE H rfl rfl rfl rfl rfl) ?_
  rintro _ w ⟨r, rfl, H⟩ a hE
  refine WR.seg hE 5 [] [7] (Lo := [(7, .agg #[.chan (some r)])]) (obs := []) rfl (by kernel_rfl) trivial fun a hE => ?_
  refine WR.eff hE rfl rfl rfl rfl (OpTo.new hE H [] (.cells #[.chan (some r)] 54 (0, 0)) (fun r => .pointer (some ⟨r, 0, none⟩)) (obs := []) rfl (fun _ => by kernel_rfl) trivial) ?_
  rintro _ w ⟨r1, rfl, H⟩ a hE
  refine WR.seg hE 7 [] [2] (Lo := [(2, .pointer (some ⟨r1, 0, none⟩))]) (obs := []) rfl (by kernel_rfl) trivial fun a hE => ?_
  refine WR.done rfl ?_
  replace H := mail_Box_string.shut (mail_Box_string.A.mk r) (mail_Box_string.mk m_) H.t1.t1
  refine Runs.ret hE Try.func8 rfl rfl ?_
  cases hm
  exact ⟨r1, mail_Box_string.A.mk r, rfl, H⟩

theorem mail_NewDesk_string_ok {w0 w : World} {As : List HP} {k : Nat} {boxes : Int} {room : Int} {t : mail_Desk_string}  (hm : mail_NewDesk_string k boxes room = some t) (H : St w0 (As) w) :
    CallsR Try.prog 7 #[.int .i64 boxes, .int .i64 room] w fun v w' => ∃ (q0 : Nat), ∃ (al0 : mail_Desk_string.A), v = .pointer (some ⟨q0, 0, none⟩) ∧ St w0 (mail_Desk_string.R q0 al0 t :: As) w' := by
  rw [mail_NewDesk_string] at hm
  refine enter (args := [.int .i64 boxes, .int .i64 room]) Try.func7 rfl rfl rfl fun a hE => ?_
  refine Runs.seq ?_
  refine Runs.region ?_
  refine WR.seg hE 1 [] [0, 1] (Lo := [(0, .int .i64 boxes), (1, .int .i64 room)]) (obs := []) rfl (by kernel_rfl) trivial fun a hE => ?_
  refine WR.done rfl ?_
  refine Runs.seq ?_
  refine Runs.region ?_
  refine WR.seg hE 1 [] [0, 1, 6] (Lo := [(0, .int .i64 boxes), (1, .int .i64 room), (6, .agg #[.slice none 0 0])]) (obs := []) rfl (by kernel_rfl) trivial fun a hE => ?_
  refine WR.eff hE rfl rfl rfl rfl (OpTo.new hE H [] (.cells #[.slice none 0 0] 51 (0, 0)) (fun r => .pointer (some ⟨r, 0, none⟩)) (obs := []) rfl (fun _ => by kernel_rfl) trivial) ?_
  rintro _ w ⟨r, rfl, H⟩ a hE
  refine WR.seg hE 3 [] [0, 1, 5] (Lo := [(0, .int .i64 boxes), (1, .int .i64 room), (5, .pointer (some ⟨r, 0, none⟩))]) (obs := []) rfl (by kernel_rfl) trivial fun a hE => ?_
  refine WR.done rfl ?_
  refine Runs.seq ?_
  refine Runs.seq ?_
  refine Runs.region ?_
  refine WR.seg hE 4 [] [1, 5, 10, 11] (Lo := [(1, .int .i64 room), (5, .pointer (some ⟨r, 0, none⟩)), (10, .int .i64 (if (if 4 < boxes then 4 else boxes) > 1 then (if 4 < boxes then 4 else boxes) else 1)), (11, .int .i64 0)]) (obs := []) rfl (by kernel_rfl) trivial fun a hE => ?_
  refine WR.done rfl ?_
  replace H := H.slxNil 25 mail_Box_string.encX mail_Box_string.RX
  replace H := mail_Desk_string.shut (mail_Desk_string.A.mk none 0) (mail_Desk_string.mk ([] : List mail_Box_string)) H.t1
  obtain ⟨s, es, hm⟩ := bind_some hm
  refine Runs.join (fun a w => ∃ (z2 : Option Addr), ∃ (z3 : Nat), EnvOk 26 a [(5, .pointer (some ⟨r, 0, none⟩))] ∧ St w0 (mail_Desk_string.R r (mail_Desk_string.A.mk z2 z3) s :: As) w) (fun hk => ?_) ?_
  · replace hm := es; clear es
    refine Runs.block ?_
    refine Runs.loop (fun m a w => ∃ (x : Int), ∃ (m_ : mail_Desk_string), ∃ (z4 : Option Addr), ∃ (z5 : Nat), EnvOk 26 a [(1, .int .i64 room), (5, .pointer (some ⟨r, 0, none⟩)), (10, .int .i64 (if (if 4 < boxes then 4 else boxes) > 1 then (if 4 < boxes then 4 else boxes) else 1)), (11, .int .i64 x)] ∧ St w0 (mail_Desk_string.R r (mail_Desk_string.A.mk z4 z5) m_ :: As) w ∧ mail_NewDesk_string_l0 room (if (if 4 < boxes then 4 else boxes) > 1 then (if 4 < boxes then 4 else boxes) else 1) m x m_ = some s) k ⟨0, mail_Desk_string.mk ([] : List mail_Box_string), none, 0, hE.sel [1, 5, 10, 11] (by kernel_rfl), H, hm⟩ ?_
    rintro m ih a w ⟨x, m_, z4, z5, hE, H, hm⟩
    cases m with
    | zero => simp [mail_NewDesk_string_l0] at hm
    | succ m =>
      rw [mail_NewDesk_string_l0] at hm
      refine Runs.seq ?_
      refine Runs.region ?_
      refine WR.seg hE 1 [] [1, 5, 10, 11, 12] (Lo := [(1, .int .i64 room), (5, .pointer (some ⟨r, 0, none⟩)), (10, .int .i64 (if (if 4 < boxes then 4 else boxes) > 1 then (if 4 < boxes then 4 else boxes) else 1)), (11, .int .i64 x), (12, .bool (decide (x < (if (if 4 < boxes then 4 else boxes) > 1 then (if 4 < boxes then 4 else boxes) else 1))))]) (obs := []) rfl (by kernel_rfl) trivial fun a hE => ?_
      refine WR.done rfl ?_
      refine Runs.seq ?_
      refine Runs.cond hE rfl (fun c => ?_) (fun c => ?_)
      · replace hm := cond_t c hm
        refine Runs.skip ?_
        refine Runs.seq ?_
        refine Runs.block ?_
        refine Runs.drawn mixed (by kernel_rfl) ?_
        replace H := H.drew
        replace H := mail_Desk_string.open H
        try dsimp only at H
        refine WQ.seg hE [0, 1, 2, 3, 4, 5] [.slice z4 m_.l.length z5] [1, 5, 10, 11, 13, 17, 18] (Lo := [(1, .int .i64 room), (5, .pointer (some ⟨r, 0, none⟩)), (10, .int .i64 (if (if 4 < boxes then 4 else boxes) > 1 then (if 4 < boxes then 4 else boxes) else 1)), (11, .int .i64 x), (13, .pointer (some ⟨r, 0, none⟩)), (17, .slice z4 m_.l.length z5), (18, .int .i64 room)]) (obs := [.cell ⟨r, 0, none⟩ (.slice z4 m_.l.length z5)]) (by kernel_rfl) (by kernel_rfl) ⟨H.cell 0 rfl rfl, trivial⟩ fun a hE => ?_
        obtain ⟨t_, et_, hm⟩ := bind_some hm
        refine WQ.eff (j := 6) (obs := [.cell ⟨r, 0, none⟩ (.slice z4 m_.l.length z5)]) hE (by kernel_rfl) rfl rfl rfl rfl (by kernel_rfl) (OpTo.fn hE rfl rfl Try.call8 (mail_NewBox_string_ok et_ H)) ?_
        rintro _ w ⟨p, al, rfl, H⟩
        refine ⟨⟨H.cell 1 rfl rfl, trivial⟩, fun a hE => ?_⟩
        refine WQ.eff (j := 7) (obs := [.cell ⟨r, 0, none⟩ (.slice z4 m_.l.length z5)]) hE (by kernel_rfl) rfl rfl rfl rfl (by kernel_rfl) (OpTo.buildSl (T := 25) hE H mail_Box_string.encX_ok ([(p, al)] : List (Nat × mail_Box_string.A)) rfl (fun _ => by kernel_rfl) rfl rfl rfl) ?_
        rintro _ w ⟨r1, rfl, H⟩
        replace H := St.slxOf (R := mail_Box_string.RX) ([(p, al)] : List (Nat × mail_Box_string.A)) ([t_] : List mail_Box_string) rfl H.t1.t1 rfl
        refine ⟨⟨H.cell 1 rfl rfl, trivial⟩, fun a hE => ?_⟩
        obtain ⟨l, el, hm⟩ := bind_some hm
        refine WQ.eff (j := 8) (obs := []) hE (by kernel_rfl) rfl rfl rfl rfl (by kernel_rfl) (OpTo.appendX el hE H.t2 mail_Box_string.encX_ok rfl rfl rfl rfl rfl rfl rfl rfl rfl rfl) ?_
        rintro _ w ⟨sb, sc, rfl, H⟩
        refine ⟨trivial, fun a hE => ?_⟩
        refine WQ.seg hE [9, 10] [] [1, 5, 10, 11, 21, 23] (Lo := [(1, .int .i64 room), (5, .pointer (some ⟨r, 0, none⟩)), (10, .int .i64 (if (if 4 < boxes then 4 else boxes) > 1 then (if 4 < boxes then 4 else boxes) else 1)), (11, .int .i64 x), (21, .slice sb l.length sc), (23, .pointer (some ⟨r, 0, none⟩))]) (obs := []) (by kernel_rfl) (by kernel_rfl) trivial fun a hE => ?_
        refine WQ.eff0 (j := 11) (obs := []) hE (by kernel_rfl) rfl rfl rfl (by kernel_rfl) (OpTo.store hE H.t1 rfl rfl rfl rfl rfl rfl (Nat.le_of_ble_eq_true rfl)) ?_
        rintro _ w H
        refine ⟨trivial, fun a hE => ?_⟩
        refine WQ.done (by kernel_rfl) ?_
        refine Runs.inBlock ?_
        refine Runs.region ?_
        refine WR.seg hE 2 [] [1, 5, 10, 11] (Lo := [(1, .int .i64 room), (5, .pointer (some ⟨r, 0, none⟩)), (10, .int .i64 (if (if 4 < boxes then 4 else boxes) > 1 then (if 4 < boxes then 4 else boxes) else 1)), (11, .int .i64 (w64 (x + 1)))]) (obs := []) rfl (by kernel_rfl) trivial fun a hE => ?_
        refine WR.done rfl ?_
        replace H := mail_Desk_string.shut (mail_Desk_string.A.mk sb sc) (mail_Desk_string.mk l) H.t1.t1
        exact ih m (Nat.lt_succ_self m) _ _ ⟨w64 (x + 1), mail_Desk_string.mk l, sb, sc, hE.sel [1, 5, 10, 11] (by kernel_rfl), H, hm⟩
      · replace hm := cond_f c hm
        refine Runs.exit rfl ?_
        cases hm
        exact hk _ _ ⟨z4, z5, hE.sel [5] (by kernel_rfl), H⟩
  rintro a w ⟨z2, z3, hE, H⟩
  refine Runs.seq ?_
  refine Runs.region ?_
  refine WR.seg hE 2 [] [4] (Lo := [(4, .pointer (some ⟨r, 0, none⟩))]) (obs := []) rfl (by kernel_rfl) trivial fun a hE => ?_
  refine WR.done rfl ?_
  refine Runs.ret hE Try.func7 rfl rfl ?_
  cases hm
  exact ⟨r, mail_Desk_string.A.mk z2 z3, rfl, H⟩

theorem mail_Box_string_Post_ok {w0 w : World} {As : List HP} {p_b : Nat} {al_b : mail_Box_string.A} {b : mail_Box_string} {v_ : ByteArray} {t : Bool × mail_Box_string}  (hm : mail_Box_string_Post b v_ = some t) (H : St w0 (mail_Box_string.R p_b al_b b :: As) w) :
    CallsR Try.prog 10 #[.pointer (some ⟨p_b, 0, none⟩), .string v_] w fun v w' => v = .bool t.1 ∧ St w0 (mail_Box_string.R p_b al_b t.2 :: As) w' := by
  rw [mail_Box_string_Post] at hm
  refine enter (args := [.pointer (some ⟨p_b, 0, none⟩), .string v_]) Try.func10 rfl rfl rfl fun a hE => ?_
  refine Runs.seq ?_
  refine Runs.region ?_
  refine WR.seg hE 1 [] [0, 1] (Lo := [(0, .pointer (some ⟨p_b, 0, none⟩)), (1, .string v_)]) (obs := []) rfl (by kernel_rfl) trivial fun a hE => ?_
  refine WR.done rfl ?_
  refine Runs.seq ?_
  refine Runs.seq ?_
  refine Runs.region ?_
  replace H := mail_Box_string.open H
  refine WR.seg hE 4 [.chan (some al_b.c__p)] [1, 8] (Lo := [(1, .string v_), (8, .chan (some al_b.c__p))]) (obs := [.cell ⟨p_b, 0, none⟩ (.chan (some al_b.c__p))]) rfl (by kernel_rfl) ⟨H.cell 0 rfl rfl, trivial⟩ fun a hE => ?_
  refine WR.done rfl ?_
  refine Runs.region ?_
  refine WR.seg hE 1 [] [8, 9] (Lo := [(8, .chan (some al_b.c__p)), (9, .string v_)]) (obs := []) rfl (by kernel_rfl) trivial fun a hE => ?_
  refine WR.done rfl ?_
  refine Runs.seq ?_
  rcases Bool.eq_false_or_eq_true (MCh.room b.c_) with c | c
  · replace hm := cond_t c hm
    refine Runs.selSendT (u := v_) hE H.t1 rfl rfl rfl rfl rfl rfl rfl rfl rfl c fun a w hE H => ?_
    refine WR.seg hE 3 [] [12] (Lo := [(12, .bool true)]) (obs := []) rfl (by kernel_rfl) trivial fun a hE => ?_
    refine WR.done rfl ?_
    refine Runs.block ?_
    refine Runs.condT hE rfl ?_
    refine Runs.seq ?_
    refine Runs.region ?_
    refine WR.seg hE 1 [] [4] (Lo := [(4, .bool true)]) (obs := []) rfl (by kernel_rfl) trivial fun a hE => ?_
    refine WR.done rfl ?_
    replace H := mail_Box_string.shut al_b (mail_Box_string.mk (MCh.push b.c_ v_)) H.t1
    refine Runs.ret hE Try.func10 rfl rfl ?_
    cases hm
    exact ⟨rfl, H⟩
  · replace hm := cond_f c hm
    replace H := H.t1
    refine Runs.selSendF (u := v_) hE H rfl rfl rfl rfl rfl rfl rfl rfl rfl c fun a hE => ?_
    refine WR.seg hE 3 [] [12] (Lo := [(12, .bool false)]) (obs := []) rfl (by kernel_rfl) trivial fun a hE => ?_
    refine WR.done rfl ?_
    refine Runs.block ?_
    refine Runs.condF hE rfl ?_
    refine Runs.seq ?_
    refine Runs.region ?_
    refine WR.seg hE 1 [] [4] (Lo := [(4, .bool false)]) (obs := []) rfl (by kernel_rfl) trivial fun a hE => ?_
    refine WR.done rfl ?_
    replace H := mail_Box_string.shut al_b (b) H.t1
    refine Runs.ret hE Try.func10 rfl rfl ?_
    cases hm
    exact ⟨rfl, H⟩

theorem mail_Desk_string_Post_ok {w0 w : World} {As : List HP} {p_d : Nat} {al_d : mail_Desk_string.A} {d : mail_Desk_string} {box : Int} {v_ : ByteArray} {t : Int × mail_Desk_string}  (hm : mail_Desk_string_Post d box v_ = some t) (H : St w0 (mail_Desk_string.R p_d al_d d :: As) w) :
    CallsR Try.prog 9 #[.pointer (some ⟨p_d, 0, none⟩), .int .i64 box, .string v_] w fun v w' => v = .int .i64 t.1 ∧ St w0 (mail_Desk_string.R p_d al_d t.2 :: As) w' := by
  rw [mail_Desk_string_Post] at hm
  refine enter (args := [.pointer (some ⟨p_d, 0, none⟩), .int .i64 box, .string v_]) Try.func9 rfl rfl rfl fun a hE => ?_
  refine Runs.seq ?_
  refine Runs.region ?_
  refine WR.seg hE 1 [] [0, 1, 2] (Lo := [(0, .pointer (some ⟨p_d, 0, none⟩)), (1, .int .i64 box), (2, .string v_)]) (obs := []) rfl (by kernel_rfl) trivial fun a hE => ?_
  refine WR.done rfl ?_
  refine Runs.seq ?_
  refine Runs.block ?_
  refine Runs.seq ?_
  obtain ⟨s, es, hm⟩ := bind_some hm
  refine Runs.join (fun a w => EnvOk 30 a [(0, .pointer (some ⟨p_d, 0, none⟩)), (1, .int .i64 box), (2, .string v_), (7, .bool s)] ∧ St w0 (mail_Desk_string.R p_d al_d d :: As) w) (fun hk => ?_) ?_
  · replace hm := es; clear es
    refine Runs.region ?_
    refine WR.seg hE 3 [] [0, 1, 2, 10] (Lo := [(0, .pointer (some ⟨p_d, 0, none⟩)), (1, .int .i64 box), (2, .string v_), (10, .bool (decide (box < 0)))]) (obs := []) rfl (by kernel_rfl) trivial fun a hE => ?_
    rcases Bool.eq_false_or_eq_true (decide (box < 0)) with c | c
    · replace hE := hE.dec 10 c (by kernel_rfl)
      replace hm := cond_t c hm
      have c_ := c
      refine WR.seg hE 12 [] [0, 1, 2, 7] (Lo := [(0, .pointer (some ⟨p_d, 0, none⟩)), (1, .int .i64 box), (2, .string v_), (7, .bool true)]) (obs := []) rfl (by kernel_rfl) trivial fun a hE => ?_
      refine WR.done rfl ?_
      cases hm
      exact hk _ _ ⟨hE.sel [0, 1, 2, 7] (by kernel_rfl), H⟩
    · replace hE := hE.dec 10 c (by kernel_rfl)
      replace hm := cond_f c hm
      have c_1 := c
      replace H := mail_Desk_string.open H
      refine WR.seg hE 12 [.slice al_d.l_b d.l.length al_d.l_c] [0, 1, 2, 7] (Lo := [(0, .pointer (some ⟨p_d, 0, none⟩)), (1, .int .i64 box), (2, .string v_), (7, .bool (decide (box ≥ (d.l.length : Int))))]) (obs := [.cell ⟨p_d, 0, none⟩ (.slice al_d.l_b d.l.length al_d.l_c)]) rfl (by kernel_rfl) ⟨H.cell 0 rfl rfl, trivial⟩ fun a hE => ?_
      refine WR.done rfl ?_
      replace H := mail_Desk_string.shut al_d (d) H.t1.t1
      cases hm
      exact hk _ _ ⟨hE.sel [0, 1, 2, 7] (by kernel_rfl), H⟩
  rintro a w ⟨hE, H⟩
  refine Runs.cond hE rfl (fun c => ?_) (fun c => ?_)
  · replace hm := cond_t c hm
    refine Runs.seq ?_
    refine Runs.region ?_
    refine WR.seg hE 1 [] [6] (Lo := [(6, .int .i64 30)]) (obs := []) rfl (by kernel_rfl) trivial fun a hE => ?_
    refine WR.done rfl ?_
    refine Runs.ret hE Try.func9 rfl rfl ?_
    cases hm
    exact ⟨rfl, H⟩
  · replace hm := cond_f c hm
    refine Runs.seq ?_
    refine Runs.region ?_
    replace H := mail_Desk_string.open H
    obtain ⟨x, ex, hm⟩ := bind_some hm
    obtain ⟨gs, ⟨p, al⟩, hgl, hg, H⟩ := St.slxTake (R := mail_Box_string.RX) H.t1 ex
    replace H : St w0 (mail_Box_string.R p al x :: Sl 25 mail_Box_string.encX 1 al_d.l_b al_d.l_c gs :: But mail_Box_string.RX gs d.l box :: _) w := H
    obtain ⟨b, o, hs, hb⟩ := SlRd.base (sl_rd 25 mail_Box_string.encX 1 _ _ _) mail_Box_string.encX_ok H 1 rfl hg
    refine WR.seg hE 8 [.slice al_d.l_b d.l.length al_d.l_c, .pointer (some ⟨b, o, none⟩), .pointer (some ⟨p, 0, none⟩)] [26, 27] (Lo := [(26, .pointer (some ⟨p, 0, none⟩)), (27, .string v_)]) (obs := [.cell ⟨p_d, 0, none⟩ (.slice al_d.l_b d.l.length al_d.l_c), .p ((al_d.l_b : Option Addr) = some ⟨b, o, none⟩), .p (0 ≤ (box : Int) ∧ (box : Int) < ((d.l.length : Nat) : Int)), .cell ⟨b, o + (Int.toNat box) * 1, none⟩ (.pointer (some ⟨p, 0, none⟩))]) rfl (by kernel_rfl) ⟨H.cell 3 rfl rfl, hs, (by have h_ := hb; rw [hgl] at h_; exact h_), SlRd.cells (sl_rd 25 mail_Box_string.encX 1 _ _ _) mail_Box_string.encX_ok H 1 rfl hs hg 0 _ rfl, trivial⟩ fun a hE => ?_
    obtain ⟨t_, et_, hm⟩ := bind_some hm
    refine WR.eff hE rfl rfl rfl rfl (OpTo.fn hE rfl rfl Try.call10 (mail_Box_string_Post_ok et_ H)) ?_
    rintro _ w ⟨rfl, H⟩ a hE
    refine WR.seg hE 11 [] [19] (Lo := [(19, .bool (!t_.1))]) (obs := []) rfl (by kernel_rfl) trivial fun a hE => ?_
    refine WR.done rfl ?_
    refine Runs.cond hE rfl (fun c => ?_) (fun c => ?_)
    · replace hm := cond_t c hm
      refine Runs.seq ?_
      refine Runs.region ?_
      refine WR.seg hE 1 [] [6] (Lo := [(6, .int .i64 13)]) (obs := []) rfl (by kernel_rfl) trivial fun a hE => ?_
      refine WR.done rfl ?_
      replace H := St.slxPut (R := mail_Box_string.RX) (g' := (p, al)) (x' := t_.2) H.t2.t2.t2 ex hgl hg rfl
      rw [← mSet_len d.l box t_.2] at H
      replace H := mail_Desk_string.shut al_d (mail_Desk_string.mk (mSet d.l box t_.2)) H.t1
      refine Runs.ret hE Try.func9 rfl rfl ?_
      cases hm
      exact ⟨rfl, H⟩
    · replace hm := cond_f c hm
      refine Runs.skip ?_
      refine Runs.inBlock ?_
      refine Runs.seq ?_
      refine Runs.region ?_
      refine WR.seg hE 1 [] [6] (Lo := [(6, .int .i64 0)]) (obs := []) rfl (by kernel_rfl) trivial fun a hE => ?_
      refine WR.done rfl ?_
      replace H := St.slxPut (R := mail_Box_string.RX) (g' := (p, al)) (x' := t_.2) H.t2.t2.t2 ex hgl hg rfl
      rw [← mSet_len d.l box t_.2] at H
      replace H := mail_Desk_string.shut al_d (mail_Desk_string.mk (mSet d.l box t_.2)) H.t1
      refine Runs.ret hE Try.func9 rfl rfl ?_
      cases hm
      exact ⟨rfl, H⟩

theorem mail_Box_string_Take_ok {w0 w : World} {As : List HP} {p_b : Nat} {al_b : mail_Box_string.A} {b : mail_Box_string} {t : ByteArray × Bool × mail_Box_string}  (hm : mail_Box_string_Take b = some t) (H : St w0 (mail_Box_string.R p_b al_b b :: As) w) :
    CallsR Try.prog 12 #[.pointer (some ⟨p_b, 0, none⟩)] w fun v w' => v = .tuple #[.string t.1, .bool t.2.1] ∧ St w0 (mail_Box_string.R p_b al_b t.2.2 :: As) w' := by
  rw [mail_Box_string_Take] at hm
  refine enter (args := [.pointer (some ⟨p_b, 0, none⟩)]) Try.func12 rfl rfl rfl fun a hE => ?_
  refine Runs.seq ?_
  refine Runs.region ?_
  refine WR.seg hE 2 [] [0] (Lo := [(0, .pointer (some ⟨p_b, 0, none⟩))]) (obs := []) rfl (by kernel_rfl) trivial fun a hE => ?_
  refine WR.done rfl ?_
  refine Runs.seq ?_
  refine Runs.region ?_
  replace H := mail_Box_string.open H
  refine WR.seg hE 4 [.chan (some al_b.c__p)] [9] (Lo := [(9, .chan (some al_b.c__p))]) (obs := [.cell ⟨p_b, 0, none⟩ (.chan (some al_b.c__p))]) rfl (by kernel_rfl) ⟨H.cell 0 rfl rfl, trivial⟩ fun a hE => ?_
  refine WR.done rfl ?_
  refine Runs.seq ?_
  rcases hb : MCh.buf b.c_ with _ | ⟨u, r⟩
  · rw [hb] at hm; dsimp only at hm
    replace H := H.t1
    refine Runs.selRecvF hb hE H rfl rfl rfl rfl rfl rfl rfl rfl fun a hE => ?_
    refine WR.seg hE 3 [] [10, 12] (Lo := [(10, .tuple #[.int .i64 (-1), .bool false, .string ByteArray.empty]), (12, .bool false)]) (obs := []) rfl (by kernel_rfl) trivial fun a hE => ?_
    refine WR.done rfl ?_
    refine Runs.block ?_
    refine Runs.condF hE rfl ?_
    refine Runs.seq ?_
    refine Runs.region ?_
    refine WR.seg hE 1 [] [5] (Lo := [(5, .string (ByteArray.mk #[]))]) (obs := []) rfl (by kernel_rfl) trivial fun a hE => ?_
    refine WR.done rfl ?_
    refine Runs.seq ?_
    refine Runs.region ?_
    refine WR.seg hE 3 [] [2, 3] (Lo := [(2, .string (ByteArray.mk #[])), (3, .bool false)]) (obs := []) rfl (by kernel_rfl) trivial fun a hE => ?_
    refine WR.done rfl ?_
    replace H := mail_Box_string.shut al_b (b) H.t1
    refine Runs.ret hE Try.func12 rfl rfl ?_
    cases hm
    exact ⟨rfl, H⟩
  · rw [hb] at hm; dsimp only at hm
    replace H := H.t1
    refine Runs.selRecvT hb hE H rfl rfl rfl rfl rfl rfl rfl rfl fun a w hE H => ?_
    refine WR.seg hE 3 [] [10, 12] (Lo := [(10, .tuple #[.int .i64 0, .bool true, .string u]), (12, .bool true)]) (obs := []) rfl (by kernel_rfl) trivial fun a hE => ?_
    refine WR.done rfl ?_
    refine Runs.block ?_
    refine Runs.condT hE rfl ?_
    refine Runs.seq ?_
    refine Runs.region ?_
    refine WR.seg hE 2 [] [4] (Lo := [(4, .string u)]) (obs := []) rfl (by kernel_rfl) trivial fun a hE => ?_
    refine WR.done rfl ?_
    refine Runs.seq ?_
    refine Runs.region ?_
    refine WR.seg hE 3 [] [2, 3] (Lo := [(2, .string u), (3, .bool true)]) (obs := []) rfl (by kernel_rfl) trivial fun a hE => ?_
    refine WR.done rfl ?_
    replace H := mail_Box_string.shut al_b (mail_Box_string.mk (MCh.rest b.c_ r)) H.t1
    refine Runs.ret hE Try.func12 rfl rfl ?_
    cases hm
    exact ⟨rfl, H⟩

theorem mail_Desk_string_Next_ok {w0 w : World} {As : List HP} {k : Nat} {p_d : Nat} {al_d : mail_Desk_string.A} {d : mail_Desk_string} {t : ByteArray × Int × Bool × mail_Desk_string}  (hm : mail_Desk_string_Next k d = some t) (H : St w0 (mail_Desk_string.R p_d al_d d :: As) w) :
    CallsR Try.prog 11 #[.pointer (some ⟨p_d, 0, none⟩)] w fun v w' => v = .tuple #[.string t.1, .int .i64 t.2.1, .bool t.2.2.1] ∧ St w0 (mail_Desk_string.R p_d al_d t.2.2.2 :: As) w' := by
  rw [mail_Desk_string_Next] at hm
  refine enter (args := [.pointer (some ⟨p_d, 0, none⟩)]) Try.func11 rfl rfl rfl fun a hE => ?_
  refine Runs.seq ?_
  refine Runs.region ?_
  refine WR.seg hE 3 [] [0] (Lo := [(0, .pointer (some ⟨p_d, 0, none⟩))]) (obs := []) rfl (by kernel_rfl) trivial fun a hE => ?_
  refine WR.done rfl ?_
  refine Runs.seq ?_
  refine Runs.seq ?_
  refine Runs.region ?_
  replace H := mail_Desk_string.open H
  refine WR.seg hE 6 [.slice al_d.l_b d.l.length al_d.l_c] [13, 14, 15] (Lo := [(13, .slice al_d.l_b d.l.length al_d.l_c), (14, .int .i64 (d.l.length : Int)), (15, .int .i64 0)]) (obs := [.cell ⟨p_d, 0, none⟩ (.slice al_d.l_b d.l.length al_d.l_c)]) rfl (by kernel_rfl) ⟨H.cell 0 rfl rfl, trivial⟩ fun a hE => ?_
  refine WR.done rfl ?_
  replace H := mail_Desk_string.shut al_d (d) H.t1.t1
  obtain ⟨s, es, hR⟩ := bind_some hm
  refine Runs.join (fun a w => ∃ s1, s = Sum.inr s1 ∧ EnvOk 30 a [] ∧ St w0 (mail_Desk_string.R p_d al_d s1 :: As) w) (fun hk => ?_) ?_
  · replace hm := es; clear es
    refine Runs.block ?_
    refine Runs.loop (fun m a w => ∃ (x : Int), ∃ (m_ : mail_Desk_string), EnvOk 30 a [(13, .slice al_d.l_b m_.l.length al_d.l_c), (14, .int .i64 (d.l.length : Int)), (15, .int .i64 x)] ∧ St w0 (mail_Desk_string.R p_d al_d m_ :: As) w ∧ mail_Desk_string_Next_l0 (d.l.length : Int) m x m_ = some s) k ⟨0, d, hE.sel [13, 14, 15] (by kernel_rfl), H, hm⟩ ?_
    rintro m ih a w ⟨x, m_, hE, H, hm⟩
    cases m with
    | zero => simp [mail_Desk_string_Next_l0] at hm
    | succ m =>
      rw [mail_Desk_string_Next_l0] at hm
      refine Runs.seq ?_
      refine Runs.region ?_
      refine WR.seg hE 1 [] [13, 14, 15, 16] (Lo := [(13, .slice al_d.l_b m_.l.length al_d.l_c), (14, .int .i64 (d.l.length : Int)), (15, .int .i64 x), (16, .bool (decide (x < (d.l.length : Int))))]) (obs := []) rfl (by kernel_rfl) trivial fun a hE => ?_
      refine WR.done rfl ?_
      refine Runs.seq ?_
      refine Runs.cond hE rfl (fun c => ?_) (fun c => ?_)
      · replace hm := cond_t c hm
        refine Runs.skip ?_
        refine Runs.seq ?_
        refine Runs.block ?_
        refine Runs.seq ?_
        refine Runs.region ?_
        replace H := mail_Desk_string.open H
        obtain ⟨x2, ex2, hm⟩ := bind_some hm
        obtain ⟨gs, ⟨p, al⟩, hgl, hg, H⟩ := St.slxTake (R := mail_Box_string.RX) H.t1 ex2
        replace H : St w0 (mail_Box_string.R p al x2 :: Sl 25 mail_Box_string.encX 1 al_d.l_b al_d.l_c gs :: But mail_Box_string.RX gs m_.l x :: _) w := H
        obtain ⟨b, o, hs, hb⟩ := SlRd.base (sl_rd 25 mail_Box_string.encX 1 _ _ _) mail_Box_string.encX_ok H 1 rfl hg
        refine WR.seg hE 5 [.pointer (some ⟨b, o, none⟩), .pointer (some ⟨p, 0, none⟩)] [5, 6, 13, 14, 15] (Lo := [(5, .int .i64 x), (6, .pointer (some ⟨p, 0, none⟩)), (13, .slice al_d.l_b m_.l.length al_d.l_c), (14, .int .i64 (d.l.length : Int)), (15, .int .i64 x)]) (obs := [.p ((al_d.l_b : Option Addr) = some ⟨b, o, none⟩), .p (0 ≤ (x : Int) ∧ (x : Int) < ((m_.l.length : Nat) : Int)), .cell ⟨b, o + (Int.toNat x) * 1, none⟩ (.pointer (some ⟨p, 0, none⟩))]) rfl (by kernel_rfl) ⟨hs, (by have h_ := hb; rw [hgl] at h_; exact h_), SlRd.cells (sl_rd 25 mail_Box_string.encX 1 _ _ _) mail_Box_string.encX_ok H 1 rfl hs hg 0 _ rfl, trivial⟩ fun a hE => ?_
        refine WR.done rfl ?_
        refine Runs.seq ?_
        refine Runs.region ?_
        refine WR.seg hE 1 [] [5, 13, 14, 15, 21] (Lo := [(5, .int .i64 x), (13, .slice al_d.l_b m_.l.length al_d.l_c), (14, .int .i64 (d.l.length : Int)), (15, .int .i64 x), (21, .pointer (some ⟨p, 0, none⟩))]) (obs := []) rfl (by kernel_rfl) trivial fun a hE => ?_
        obtain ⟨t_, et_, hm⟩ := bind_some hm
        refine WR.eff hE rfl rfl rfl rfl (OpTo.fn hE rfl rfl Try.call12 (mail_Box_string_Take_ok et_ H)) ?_
        rintro _ w ⟨rfl, H⟩ a hE
        refine WR.seg hE 7 [] [5, 7, 8, 13, 14, 15] (Lo := [(5, .int .i64 x), (7, .string t_.1), (8, .bool t_.2.1), (13, .slice al_d.l_b m_.l.length al_d.l_c), (14, .int .i64 (d.l.length : Int)), (15, .int .i64 x)]) (obs := []) rfl (by kernel_rfl) trivial fun a hE => ?_
        refine WR.done rfl ?_
        refine Runs.seq ?_
        refine Runs.region ?_
        refine WR.seg hE 1 [] [5, 7, 13, 14, 15, 25] (Lo := [(5, .int .i64 x), (7, .string t_.1), (13, .slice al_d.l_b m_.l.length al_d.l_c), (14, .int .i64 (d.l.length : Int)), (15, .int .i64 x), (25, .bool t_.2.1)]) (obs := []) rfl (by kernel_rfl) trivial fun a hE => ?_
        refine WR.done rfl ?_
        refine Runs.cond hE rfl (fun c => ?_) (fun c => ?_)
        · replace hm := cond_t c hm
          refine Runs.seq ?_
          refine Runs.region ?_
          refine WR.seg hE 5 [] [2, 3, 4] (Lo := [(2, .string t_.1), (3, .int .i64 x), (4, .bool true)]) (obs := []) rfl (by kernel_rfl) trivial fun a hE => ?_
          refine WR.done rfl ?_
          replace H := St.slxPut (R := mail_Box_string.RX) (g' := (p, al)) (x' := t_.2.2) H.t2.t2.t2 ex2 hgl hg rfl
          rw [← mSet_len m_.l x t_.2.2] at H
          replace H := mail_Desk_string.shut al_d (mail_Desk_string.mk (mSet m_.l x t_.2.2)) H.t1
          refine Runs.ret hE Try.func11 rfl rfl ?_
          cases hm
          dsimp only at hR; cases hR
          exact ⟨rfl, H⟩
        · replace hm := cond_f c hm
          refine Runs.skip ?_
          refine Runs.inBlock ?_
          refine Runs.region ?_
          refine WR.seg hE 2 [] [13, 14, 15] (Lo := [(13, .slice al_d.l_b m_.l.length al_d.l_c), (14, .int .i64 (d.l.length : Int)), (15, .int .i64 (w64 (x + 1)))]) (obs := []) rfl (by kernel_rfl) trivial fun a hE => ?_
          refine WR.done rfl ?_
          replace H := St.slxPut (R := mail_Box_string.RX) (g' := (p, al)) (x' := t_.2.2) H.t2.t2.t2 ex2 hgl hg rfl
          rw [← mSet_len m_.l x t_.2.2] at H
          try rw [← mSet_len m_.l x t_.2.2] at hE
          replace H := mail_Desk_string.shut al_d (mail_Desk_string.mk (mSet m_.l x t_.2.2)) H.t1
          exact ih m (Nat.lt_succ_self m) _ _ ⟨w64 (x + 1), mail_Desk_string.mk (mSet m_.l x t_.2.2), hE.sel [13, 14, 15] (by kernel_rfl), H, hm⟩
      · replace hm := cond_f c hm
        refine Runs.exit rfl ?_
        cases hm
        exact hk _ _ ⟨_, rfl, hE.sel [] (by kernel_rfl), H⟩
  rintro a w ⟨s1, rfl, hE, H⟩
  replace hm := hR; dsimp only at hm
  refine Runs.seq ?_
  refine Runs.region ?_
  refine WR.seg hE 1 [] [9] (Lo := [(9, .string (ByteArray.mk #[]))]) (obs := []) rfl (by kernel_rfl) trivial fun a hE => ?_
  refine WR.done rfl ?_
  refine Runs.seq ?_
  refine Runs.region ?_
  refine WR.seg hE 4 [] [2, 3, 4] (Lo := [(2, .string (ByteArray.mk #[])), (3, .int .i64 0), (4, .bool false)]) (obs := []) rfl (by kernel_rfl) trivial fun a hE => ?_
  refine WR.done rfl ?_
  refine Runs.ret hE Try.func11 rfl rfl ?_
  cases hm
  exact ⟨rfl, H⟩

theorem mail_NewBox_int64_ok {w0 w : World} {As : List HP} {room : Int} {t : mail_Box_int64}  (hm : mail_NewBox_int64 room = some t) (H : St w0 (As) w) :
    CallsR Try.prog 30 #[.int .i64 room] w fun v w' => ∃ (q0 : Nat), ∃ (al0 : mail_Box_int64.A), v = .pointer (some ⟨q0, 0, none⟩) ∧ St w0 (mail_Box_int64.R q0 al0 t :: As) w' := by
  rw [mail_NewBox_int64] at hm
  refine enter (args := [.int .i64 room]) Try.func30 rfl rfl rfl fun a hE => ?_
  refine Runs.seq ?_
  refine Runs.region ?_
  refine WR.seg hE 1 [] [0] (Lo := [(0, .int .i64 room)]) (obs := []) rfl (by kernel_rfl) trivial fun a hE => ?_
  refine WR.done rfl ?_
  refine Runs.seq ?_
  refine Runs.region ?_
  refine WR.seg hE 3 [] [5] (Lo := [(5, .int .i64 (if (if 4096 < room then 4096 else room) > 1 then (if 4096 < room then 4096 else room) else 1))]) (obs := []) rfl (by kernel_rfl) trivial fun a hE => ?_
  obtain ⟨m_, em_, hm⟩ := bind_some hm
  refine WR.eff hE rfl rfl rfl rfl (OpTo.makeCh vI em_ hE H rfl rfl rfl rfl rfl) ?_
  rintro _ w ⟨r, rfl, H⟩ a hE
  refine WR.seg hE 5 [] [7] (Lo := [(7, .agg #[.chan (some r)])]) (obs := []) rfl (by kernel_rfl) trivial fun a hE => ?_
  refine WR.eff hE rfl rfl rfl rfl (OpTo.new hE H [] (.cells #[.chan (some r)] 84 (0, 0)) (fun r => .pointer (some ⟨r, 0, none⟩)) (obs := []) rfl (fun _ => by kernel_rfl) trivial) ?_
  rintro _ w ⟨r1, rfl, H⟩ a hE
  refine WR.seg hE 7 [] [2] (Lo := [(2, .pointer (some ⟨r1, 0, none⟩))]) (obs := []) rfl (by kernel_rfl) trivial fun a hE => ?_
  refine WR.done rfl ?_
  replace H := mail_Box_int64.shut (mail_Box_int64.A.mk r) (mail_Box_int64.mk m_) H.t1.t1
  refine Runs.ret hE Try.func30 rfl rfl ?_
  cases hm
  exact ⟨r1, mail_Box_int64.A.mk r, rfl, H⟩

theorem mail_NewDesk_int64_ok {w0 w : World} {As : List HP} {k : Nat} {boxes : Int} {room : Int} {t : mail_Desk_int64}  (hm : mail_NewDesk_int64 k boxes room = some t) (H : St w0 (As) w) :
    CallsR Try.prog 20 #[.int .i64 boxes, .int .i64 room] w fun v w' => ∃ (q0 : Nat), ∃ (al0 : mail_Desk_int64.A), v = .pointer (some ⟨q0, 0, none⟩) ∧ St w0 (mail_Desk_int64.R q0 al0 t :: As) w' := by
  rw [mail_NewDesk_int64] at hm
  refine enter (args := [.int .i64 boxes, .int .i64 room]) Try.func20 rfl rfl rfl fun a hE => ?_
  refine Runs.seq ?_
  refine Runs.region ?_
  refine WR.seg hE 1 [] [0, 1] (Lo := [(0, .int .i64 boxes), (1, .int .i64 room)]) (obs := []) rfl (by kernel_rfl) trivial fun a hE => ?_
  refine WR.done rfl ?_
  refine Runs.seq ?_
  refine Runs.region ?_
  refine WR.seg hE 1 [] [0, 1, 6] (Lo := [(0, .int .i64 boxes), (1, .int .i64 room), (6, .agg #[.slice none 0 0])]) (obs := []) rfl (by kernel_rfl) trivial fun a hE => ?_
  refine WR.eff hE rfl rfl rfl rfl (OpTo.new hE H [] (.cells #[.slice none 0 0] 73 (0, 0)) (fun r => .pointer (some ⟨r, 0, none⟩)) (obs := []) rfl (fun _ => by kernel_rfl) trivial) ?_
  rintro _ w ⟨r, rfl, H⟩ a hE
  refine WR.seg hE 3 [] [0, 1, 5] (Lo := [(0, .int .i64 boxes), (1, .int .i64 room), (5, .pointer (some ⟨r, 0, none⟩))]) (obs := []) rfl (by kernel_rfl) trivial fun a hE => ?_
  refine WR.done rfl ?_
  refine Runs.seq ?_
  refine Runs.seq ?_
  refine Runs.region ?_
  refine WR.seg hE 4 [] [1, 5, 10, 11] (Lo := [(1, .int .i64 room), (5, .pointer (some ⟨r, 0, none⟩)), (10, .int .i64 (if (if 4 < boxes then 4 else boxes) > 1 then (if 4 < boxes then 4 else boxes) else 1)), (11, .int .i64 0)]) (obs := []) rfl (by kernel_rfl) trivial fun a hE => ?_
  refine WR.done rfl ?_
  replace H := H.slxNil 74 mail_Box_int64.encX mail_Box_int64.RX
  replace H := mail_Desk_int64.shut (mail_Desk_int64.A.mk none 0) (mail_Desk_int64.mk ([] : List mail_Box_int64)) H.t1
  obtain ⟨s, es, hm⟩ := bind_some hm
  refine Runs.join (fun a w => ∃ (z2 : Option Addr), ∃ (z3 : Nat), EnvOk 26 a [(5, .pointer (some ⟨r, 0, none⟩))] ∧ St w0 (mail_Desk_int64.R r (mail_Desk_int64.A.mk z2 z3) s :: As) w) (fun hk => ?_) ?_
  · replace hm := es; clear es
    refine Runs.block ?_
    refine Runs.loop (fun m a w => ∃ (x : Int), ∃ (m_ : mail_Desk_int64), ∃ (z4 : Option Addr), ∃ (z5 : Nat), EnvOk 26 a [(1, .int .i64 room), (5, .pointer (some ⟨r, 0, none⟩)), (10, .int .i64 (if (if 4 < boxes then 4 else boxes) > 1 then (if 4 < boxes then 4 else boxes) else 1)), (11, .int .i64 x)] ∧ St w0 (mail_Desk_int64.R r (mail_Desk_int64.A.mk z4 z5) m_ :: As) w ∧ mail_NewDesk_int64_l0 room (if (if 4 < boxes then 4 else boxes) > 1 then (if 4 < boxes then 4 else boxes) else 1) m x m_ = some s) k ⟨0, mail_Desk_int64.mk ([] : List mail_Box_int64), none, 0, hE.sel [1, 5, 10, 11] (by kernel_rfl), H, hm⟩ ?_
    rintro m ih a w ⟨x, m_, z4, z5, hE, H, hm⟩
    cases m with
    | zero => simp [mail_NewDesk_int64_l0] at hm
    | succ m =>
      rw [mail_NewDesk_int64_l0] at hm
      refine Runs.seq ?_
      refine Runs.region ?_
      refine WR.seg hE 1 [] [1, 5, 10, 11, 12] (Lo := [(1, .int .i64 room), (5, .pointer (some ⟨r, 0, none⟩)), (10, .int .i64 (if (if 4 < boxes then 4 else boxes) > 1 then (if 4 < boxes then 4 else boxes) else 1)), (11, .int .i64 x), (12, .bool (decide (x < (if (if 4 < boxes then 4 else boxes) > 1 then (if 4 < boxes then 4 else boxes) else 1))))]) (obs := []) rfl (by kernel_rfl) trivial fun a hE => ?_
      refine WR.done rfl ?_
      refine Runs.seq ?_
      refine Runs.cond hE rfl (fun c => ?_) (fun c => ?_)
      · replace hm := cond_t c hm
        refine Runs.skip ?_
        refine Runs.seq ?_
        refine Runs.block ?_
        refine Runs.drawn mixed (by kernel_rfl) ?_
        replace H := H.drew
        replace H := mail_Desk_int64.open H
        try dsimp only at H
        refine WQ.seg hE [0, 1, 2, 3, 4, 5] [.slice z4 m_.l.length z5] [1, 5, 10, 11, 13, 17, 18] (Lo := [(1, .int .i64 room), (5, .pointer (some ⟨r, 0, none⟩)), (10, .int .i64 (if (if 4 < boxes then 4 else boxes) > 1 then (if 4 < boxes then 4 else boxes) else 1)), (11, .int .i64 x), (13, .pointer (some ⟨r, 0, none⟩)), (17, .slice z4 m_.l.length z5), (18, .int .i64 room)]) (obs := [.cell ⟨r, 0, none⟩ (.slice z4 m_.l.length z5)]) (by kernel_rfl) (by kernel_rfl) ⟨H.cell 0 rfl rfl, trivial⟩ fun a hE => ?_
        obtain ⟨t_, et_, hm⟩ := bind_some hm
        refine WQ.eff (j := 6) (obs := [.cell ⟨r, 0, none⟩ (.slice z4 m_.l.length z5)]) hE (by kernel_rfl) rfl rfl rfl rfl (by kernel_rfl) (OpTo.fn hE rfl rfl Try.call30 (mail_NewBox_int64_ok et_ H)) ?_
        rintro _ w ⟨p, al, rfl, H⟩
        refine ⟨⟨H.cell 1 rfl rfl, trivial⟩, fun a hE => ?_⟩
        refine WQ.eff (j := 7) (obs := [.cell ⟨r, 0, none⟩ (.slice z4 m_.l.length z5)]) hE (by kernel_rfl) rfl rfl rfl rfl (by kernel_rfl) (OpTo.buildSl (T := 74) hE H mail_Box_int64.encX_ok ([(p, al)] : List (Nat × mail_Box_int64.A)) rfl (fun _ => by kernel_rfl) rfl rfl rfl) ?_
        rintro _ w ⟨r1, rfl, H⟩
        replace H := St.slxOf (R := mail_Box_int64.RX) ([(p, al)] : List (Nat × mail_Box_int64.A)) ([t_] : List mail_Box_int64) rfl H.t1.t1 rfl
        refine ⟨⟨H.cell 1 rfl rfl, trivial⟩, fun a hE => ?_⟩
        obtain ⟨l, el, hm⟩ := bind_some hm
        refine WQ.eff (j := 8) (obs := []) hE (by kernel_rfl) rfl rfl rfl rfl (by kernel_rfl) (OpTo.appendX el hE H.t2 mail_Box_int64.encX_ok rfl rfl rfl rfl rfl rfl rfl rfl rfl rfl) ?_
        rintro _ w ⟨sb, sc, rfl, H⟩
        refine ⟨trivial, fun a hE => ?_⟩
        refine WQ.seg hE [9, 10] [] [1, 5, 10, 11, 21, 23] (Lo := [(1, .int .i64 room), (5, .pointer (some ⟨r, 0, none⟩)), (10, .int .i64 (if (if 4 < boxes then 4 else boxes) > 1 then (if 4 < boxes then 4 else boxes) else 1)), (11, .int .i64 x), (21, .slice sb l.length sc), (23, .pointer (some ⟨r, 0, none⟩))]) (obs := []) (by kernel_rfl) (by kernel_rfl) trivial fun a hE => ?_
        refine WQ.eff0 (j := 11) (obs := []) hE (by kernel_rfl) rfl rfl rfl (by kernel_rfl) (OpTo.store hE H.t1 rfl rfl rfl rfl rfl rfl (Nat.le_of_ble_eq_true rfl)) ?_
        rintro _ w H
        refine ⟨trivial, fun a hE => ?_⟩
        refine WQ.done (by kernel_rfl) ?_
        refine Runs.inBlock ?_
        refine Runs.region ?_
        refine WR.seg hE 2 [] [1, 5, 10, 11] (Lo := [(1, .int .i64 room), (5, .pointer (some ⟨r, 0, none⟩)), (10, .int .i64 (if (if 4 < boxes then 4 else boxes) > 1 then (if 4 < boxes then 4 else boxes) else 1)), (11, .int .i64 (w64 (x + 1)))]) (obs := []) rfl (by kernel_rfl) trivial fun a hE => ?_
        refine WR.done rfl ?_
        replace H := mail_Desk_int64.shut (mail_Desk_int64.A.mk sb sc) (mail_Desk_int64.mk l) H.t1.t1
        exact ih m (Nat.lt_succ_self m) _ _ ⟨w64 (x + 1), mail_Desk_int64.mk l, sb, sc, hE.sel [1, 5, 10, 11] (by kernel_rfl), H, hm⟩
      · replace hm := cond_f c hm
        refine Runs.exit rfl ?_
        cases hm
        exact hk _ _ ⟨z4, z5, hE.sel [5] (by kernel_rfl), H⟩
  rintro a w ⟨z2, z3, hE, H⟩
  refine Runs.seq ?_
  refine Runs.region ?_
  refine WR.seg hE 2 [] [4] (Lo := [(4, .pointer (some ⟨r, 0, none⟩))]) (obs := []) rfl (by kernel_rfl) trivial fun a hE => ?_
  refine WR.done rfl ?_
  refine Runs.ret hE Try.func20 rfl rfl ?_
  cases hm
  exact ⟨r, mail_Desk_int64.A.mk z2 z3, rfl, H⟩

theorem mail_Box_int64_Post_ok {w0 w : World} {As : List HP} {p_b : Nat} {al_b : mail_Box_int64.A} {b : mail_Box_int64} {v_ : Int} {t : Bool × mail_Box_int64}  (hm : mail_Box_int64_Post b v_ = some t) (H : St w0 (mail_Box_int64.R p_b al_b b :: As) w) :
    CallsR Try.prog 31 #[.pointer (some ⟨p_b, 0, none⟩), .int .i64 v_] w fun v w' => v = .bool t.1 ∧ St w0 (mail_Box_int64.R p_b al_b t.2 :: As) w' := by
  rw [mail_Box_int64_Post] at hm
  refine enter (args := [.pointer (some ⟨p_b, 0, none⟩), .int .i64 v_]) Try.func31 rfl rfl rfl fun a hE => ?_
  refine Runs.seq ?_
  refine Runs.region ?_
  refine WR.seg hE 1 [] [0, 1] (Lo := [(0, .pointer (some ⟨p_b, 0, none⟩)), (1, .int .i64 v_)]) (obs := []) rfl (by kernel_rfl) trivial fun a hE => ?_
  refine WR.done rfl ?_
  refine Runs.seq ?_
  refine Runs.seq ?_
  refine Runs.region ?_
  replace H := mail_Box_int64.open H
  refine WR.seg hE 4 [.chan (some al_b.c__p)] [1, 8] (Lo := [(1, .int .i64 v_), (8, .chan (some al_b.c__p))]) (obs := [.cell ⟨p_b, 0, none⟩ (.chan (some al_b.c__p))]) rfl (by kernel_rfl) ⟨H.cell 0 rfl rfl, trivial⟩ fun a hE => ?_
  refine WR.done rfl ?_
  refine Runs.region ?_
  refine WR.seg hE 1 [] [8, 9] (Lo := [(8, .chan (some al_b.c__p)), (9, .int .i64 v_)]) (obs := []) rfl (by kernel_rfl) trivial fun a hE => ?_
  refine WR.done rfl ?_
  refine Runs.seq ?_
  rcases Bool.eq_false_or_eq_true (MCh.room b.c_) with c | c
  · replace hm := cond_t c hm
    refine Runs.selSendT (u := v_) hE H.t1 rfl rfl rfl rfl rfl rfl rfl rfl rfl c fun a w hE H => ?_
    refine WR.seg hE 3 [] [12] (Lo := [(12, .bool true)]) (obs := []) rfl (by kernel_rfl) trivial fun a hE => ?_
    refine WR.done rfl ?_
    refine Runs.block ?_
    refine Runs.condT hE rfl ?_
    refine Runs.seq ?_
    refine Runs.region ?_
    refine WR.seg hE 1 [] [4] (Lo := [(4, .bool true)]) (obs := []) rfl (by kernel_rfl) trivial fun a hE => ?_
    refine WR.done rfl ?_
    replace H := mail_Box_int64.shut al_b (mail_Box_int64.mk (MCh.push b.c_ v_)) H.t1
    refine Runs.ret hE Try.func31 rfl rfl ?_
    cases hm
    exact ⟨rfl, H⟩
  · replace hm := cond_f c hm
    replace H := H.t1
    refine Runs.selSendF (u := v_) hE H rfl rfl rfl rfl rfl rfl rfl rfl rfl c fun a hE => ?_
    refine WR.seg hE 3 [] [12] (Lo := [(12, .bool false)]) (obs := []) rfl (by kernel_rfl) trivial fun a hE => ?_
    refine WR.done rfl ?_
    refine Runs.block ?_
    refine Runs.condF hE rfl ?_
    refine Runs.seq ?_
    refine Runs.region ?_
    refine WR.seg hE 1 [] [4] (Lo := [(4, .bool false)]) (obs := []) rfl (by kernel_rfl) trivial fun a hE => ?_
    refine WR.done rfl ?_
    replace H := mail_Box_int64.shut al_b (b) H.t1
    refine Runs.ret hE Try.func31 rfl rfl ?_
    cases hm
    exact ⟨rfl, H⟩

theorem mail_Desk_int64_Post_ok {w0 w : World} {As : List HP} {p_d : Nat} {al_d : mail_Desk_int64.A} {d : mail_Desk_int64} {box : Int} {v_ : Int} {t : Int × mail_Desk_int64}  (hm : mail_Desk_int64_Post d box v_ = some t) (H : St w0 (mail_Desk_int64.R p_d al_d d :: As) w) :
    CallsR Try.prog 21 #[.pointer (some ⟨p_d, 0, none⟩), .int .i64 box, .int .i64 v_] w fun v w' => v = .int .i64 t.1 ∧ St w0 (mail_Desk_int64.R p_d al_d t.2 :: As) w' := by
  rw [mail_Desk_int64_Post] at hm
  refine enter (args := [.pointer (some ⟨p_d, 0, none⟩), .int .i64 box, .int .i64 v_]) Try.func21 rfl rfl rfl fun a hE => ?_
  refine Runs.seq ?_
  refine Runs.region ?_
  refine WR.seg hE 1 [] [0, 1, 2] (Lo := [(0, .pointer (some ⟨p_d, 0, none⟩)), (1, .int .i64 box), (2, .int .i64 v_)]) (obs := []) rfl (by kernel_rfl) trivial fun a hE => ?_
  refine WR.done rfl ?_
  refine Runs.seq ?_
  refine Runs.block ?_
  refine Runs.seq ?_
  obtain ⟨s, es, hm⟩ := bind_some hm
  refine Runs.join (fun a w => EnvOk 30 a [(0, .pointer (some ⟨p_d, 0, none⟩)), (1, .int .i64 box), (2, .int .i64 v_), (7, .bool s)] ∧ St w0 (mail_Desk_int64.R p_d al_d d :: As) w) (fun hk => ?_) ?_
  · replace hm := es; clear es
    refine Runs.region ?_
    refine WR.seg hE 3 [] [0, 1, 2, 10] (Lo := [(0, .pointer (some ⟨p_d, 0, none⟩)), (1, .int .i64 box), (2, .int .i64 v_), (10, .bool (decide (box < 0)))]) (obs := []) rfl (by kernel_rfl) trivial fun a hE => ?_
    rcases Bool.eq_false_or_eq_true (decide (box < 0)) with c | c
    · replace hE := hE.dec 10 c (by kernel_rfl)
      replace hm := cond_t c hm
      have c_ := c
      refine WR.seg hE 12 [] [0, 1, 2, 7] (Lo := [(0, .pointer (some ⟨p_d, 0, none⟩)), (1, .int .i64 box), (2, .int .i64 v_), (7, .bool true)]) (obs := []) rfl (by kernel_rfl) trivial fun a hE => ?_
      refine WR.done rfl ?_
      cases hm
      exact hk _ _ ⟨hE.sel [0, 1, 2, 7] (by kernel_rfl), H⟩
    · replace hE := hE.dec 10 c (by kernel_rfl)
      replace hm := cond_f c hm
      have c_1 := c
      replace H := mail_Desk_int64.open H
      refine WR.seg hE 12 [.slice al_d.l_b d.l.length al_d.l_c] [0, 1, 2, 7] (Lo := [(0, .pointer (some ⟨p_d, 0, none⟩)), (1, .int .i64 box), (2, .int .i64 v_), (7, .bool (decide (box ≥ (d.l.length : Int))))]) (obs := [.cell ⟨p_d, 0, none⟩ (.slice al_d.l_b d.l.length al_d.l_c)]) rfl (by kernel_rfl) ⟨H.cell 0 rfl rfl, trivial⟩ fun a hE => ?_
      refine WR.done rfl ?_
      replace H := mail_Desk_int64.shut al_d (d) H.t1.t1
      cases hm
      exact hk _ _ ⟨hE.sel [0, 1, 2, 7] (by kernel_rfl), H⟩
  rintro a w ⟨hE, H⟩
  refine Runs.cond hE rfl (fun c => ?_) (fun c => ?_)
  · replace hm := cond_t c hm
    refine Runs.seq ?_
    refine Runs.region ?_
    refine WR.seg hE 1 [] [6] (Lo := [(6, .int .i64 30)]) (obs := []) rfl (by kernel_rfl) trivial fun a hE => ?_
    refine WR.done rfl ?_
    refine Runs.ret hE Try.func21 rfl rfl ?_
    cases hm
    exact ⟨rfl, H⟩
  · replace hm := cond_f c hm
    refine Runs.seq ?_
    refine Runs.region ?_
    replace H := mail_Desk_int64.open H
    obtain ⟨x, ex, hm⟩ := bind_some hm
    obtain ⟨gs, ⟨p, al⟩, hgl, hg, H⟩ := St.slxTake (R := mail_Box_int64.RX) H.t1 ex
    replace H : St w0 (mail_Box_int64.R p al x :: Sl 74 mail_Box_int64.encX 1 al_d.l_b al_d.l_c gs :: But mail_Box_int64.RX gs d.l box :: _) w := H
    obtain ⟨b, o, hs, hb⟩ := SlRd.base (sl_rd 74 mail_Box_int64.encX 1 _ _ _) mail_Box_int64.encX_ok H 1 rfl hg
    refine WR.seg hE 8 [.slice al_d.l_b d.l.length al_d.l_c, .pointer (some ⟨b, o, none⟩), .pointer (some ⟨p, 0, none⟩)] [26, 27] (Lo := [(26, .pointer (some ⟨p, 0, none⟩)), (27, .int .i64 v_)]) (obs := [.cell ⟨p_d, 0, none⟩ (.slice al_d.l_b d.l.length al_d.l_c), .p ((al_d.l_b : Option Addr) = some ⟨b, o, none⟩), .p (0 ≤ (box : Int) ∧ (box : Int) < ((d.l.length : Nat) : Int)), .cell ⟨b, o + (Int.toNat box) * 1, none⟩ (.pointer (some ⟨p, 0, none⟩))]) rfl (by kernel_rfl) ⟨H.cell 3 rfl rfl, hs, (by have h_ := hb; rw [hgl] at h_; exact h_), SlRd.cells (sl_rd 74 mail_Box_int64.encX 1 _ _ _) mail_Box_int64.encX_ok H 1 rfl hs hg 0 _ rfl, trivial⟩ fun a hE => ?_
    obtain ⟨t_, et_, hm⟩ := bind_some hm
    refine WR.eff hE rfl rfl rfl rfl (OpTo.fn hE rfl rfl Try.call31 (mail_Box_int64_Post_ok et_ H)) ?_
    rintro _ w ⟨rfl, H⟩ a hE
    refine WR.seg hE 11 [] [19] (Lo := [(19, .bool (!t_.1))]) (obs := []) rfl (by kernel_rfl) trivial fun a hE => ?_
    refine WR.done rfl ?_
    refine Runs.cond hE rfl (fun c => ?_) (fun c => ?_)
    · replace hm := cond_t c hm
      refine Runs.seq ?_
      refine Runs.region ?_
      refine WR.seg hE 1 [] [6] (Lo := [(6, .int .i64 13)]) (obs := []) rfl (by kernel_rfl) trivial fun a hE => ?_
      refine WR.done rfl ?_
      replace H := St.slxPut (R := mail_Box_int64.RX) (g' := (p, al)) (x' := t_.2) H.t2.t2.t2 ex hgl hg rfl
      rw [← mSet_len d.l box t_.2] at H
      replace H := mail_Desk_int64.shut al_d (mail_Desk_int64.mk (mSet d.l box t_.2)) H.t1
      refine Runs.ret hE Try.func21 rfl rfl ?_
      cases hm
      exact ⟨rfl, H⟩
    · replace hm := cond_f c hm
      refine Runs.skip ?_
      refine Runs.inBlock ?_
      refine Runs.seq ?_
      refine Runs.region ?_
      refine WR.seg hE 1 [] [6] (Lo := [(6, .int .i64 0)]) (obs := []) rfl (by kernel_rfl) trivial fun a hE => ?_
      refine WR.done rfl ?_
      replace H := St.slxPut (R := mail_Box_int64.RX) (g' := (p, al)) (x' := t_.2) H.t2.t2.t2 ex hgl hg rfl
      rw [← mSet_len d.l box t_.2] at H
      replace H := mail_Desk_int64.shut al_d (mail_Desk_int64.mk (mSet d.l box t_.2)) H.t1
      refine Runs.ret hE Try.func21 rfl rfl ?_
      cases hm
      exact ⟨rfl, H⟩

theorem mail_Box_int64_Take_ok {w0 w : World} {As : List HP} {p_b : Nat} {al_b : mail_Box_int64.A} {b : mail_Box_int64} {t : Int × Bool × mail_Box_int64}  (hm : mail_Box_int64_Take b = some t) (H : St w0 (mail_Box_int64.R p_b al_b b :: As) w) :
    CallsR Try.prog 32 #[.pointer (some ⟨p_b, 0, none⟩)] w fun v w' => v = .tuple #[.int .i64 t.1, .bool t.2.1] ∧ St w0 (mail_Box_int64.R p_b al_b t.2.2 :: As) w' := by
  rw [mail_Box_int64_Take] at hm
  refine enter (args := [.pointer (some ⟨p_b, 0, none⟩)]) Try.func32 rfl rfl rfl fun a hE => ?_
  refine Runs.seq ?_
  refine Runs.region ?_
  refine WR.seg hE 2 [] [0] (Lo := [(0, .pointer (some ⟨p_b, 0, none⟩))]) (obs := []) rfl (by kernel_rfl) trivial fun a hE => ?_
  refine WR.done rfl ?_
  refine Runs.seq ?_
  refine Runs.region ?_
  replace H := mail_Box_int64.open H
  refine WR.seg hE 4 [.chan (some al_b.c__p)] [9] (Lo := [(9, .chan (some al_b.c__p))]) (obs := [.cell ⟨p_b, 0, none⟩ (.chan (some al_b.c__p))]) rfl (by kernel_rfl) ⟨H.cell 0 rfl rfl, trivial⟩ fun a hE => ?_
  refine WR.done rfl ?_
  refine Runs.seq ?_
  rcases hb : MCh.buf b.c_ with _ | ⟨u, r⟩
  · rw [hb] at hm; dsimp only at hm
    replace H := H.t1
    refine Runs.selRecvF hb hE H rfl rfl rfl rfl rfl rfl rfl rfl fun a hE => ?_
    refine WR.seg hE 3 [] [10, 12] (Lo := [(10, .tuple #[.int .i64 (-1), .bool false, .int .i64 0]), (12, .bool false)]) (obs := []) rfl (by kernel_rfl) trivial fun a hE => ?_
    refine WR.done rfl ?_
    refine Runs.block ?_
    refine Runs.condF hE rfl ?_
    refine Runs.seq ?_
    refine Runs.region ?_
    refine WR.seg hE 1 [] [5] (Lo := [(5, .int .i64 0)]) (obs := []) rfl (by kernel_rfl) trivial fun a hE => ?_
    refine WR.done rfl ?_
    refine Runs.seq ?_
    refine Runs.region ?_
    refine WR.seg hE 3 [] [2, 3] (Lo := [(2, .int .i64 0), (3, .bool false)]) (obs := []) rfl (by kernel_rfl) trivial fun a hE => ?_
    refine WR.done rfl ?_
    replace H := mail_Box_int64.shut al_b (b) H.t1
    refine Runs.ret hE Try.func32 rfl rfl ?_
    cases hm
    exact ⟨rfl, H⟩
  · rw [hb] at hm; dsimp only at hm
    replace H := H.t1
    refine Runs.selRecvT hb hE H rfl rfl rfl rfl rfl rfl rfl rfl fun a w hE H => ?_
    refine WR.seg hE 3 [] [10, 12] (Lo := [(10, .tuple #[.int .i64 0, .bool true, .int .i64 u]), (12, .bool true)]) (obs := []) rfl (by kernel_rfl) trivial fun a hE => ?_
    refine WR.done rfl ?_
    refine Runs.block ?_
    refine Runs.condT hE rfl ?_
    refine Runs.seq ?_
    refine Runs.region ?_
    refine WR.seg hE 2 [] [4] (Lo := [(4, .int .i64 u)]) (obs := []) rfl (by kernel_rfl) trivial fun a hE => ?_
    refine WR.done rfl ?_
    refine Runs.seq ?_
    refine Runs.region ?_
    refine WR.seg hE 3 [] [2, 3] (Lo := [(2, .int .i64 u), (3, .bool true)]) (obs := []) rfl (by kernel_rfl) trivial fun a hE => ?_
    refine WR.done rfl ?_
    replace H := mail_Box_int64.shut al_b (mail_Box_int64.mk (MCh.rest b.c_ r)) H.t1
    refine Runs.ret hE Try.func32 rfl rfl ?_
    cases hm
    exact ⟨rfl, H⟩

theorem mail_Desk_int64_Next_ok {w0 w : World} {As : List HP} {k : Nat} {p_d : Nat} {al_d : mail_Desk_int64.A} {d : mail_Desk_int64} {t : Int × Int × Bool × mail_Desk_int64}  (hm : mail_Desk_int64_Next k d = some t) (H : St w0 (mail_Desk_int64.R p_d al_d d :: As) w) :
    CallsR Try.prog 22 #[.pointer (some ⟨p_d, 0, none⟩)] w fun v w' => v = .tuple #[.int .i64 t.1, .int .i64 t.2.1, .bool t.2.2.1] ∧ St w0 (mail_Desk_int64.R p_d al_d t.2.2.2 :: As) w' := by
  rw [mail_Desk_int64_Next] at hm
  refine enter (args := [.pointer (some ⟨p_d, 0, none⟩)]) Try.func22 rfl rfl rfl fun a hE => ?_
  refine Runs.seq ?_
  refine Runs.region ?_
  refine WR.seg hE 3 [] [0] (Lo := [(0, .pointer (some ⟨p_d, 0, none⟩))]) (obs := []) rfl (by kernel_rfl) trivial fun a hE => ?_
  refine WR.done rfl ?_
  refine Runs.seq ?_
  refine Runs.seq ?_
  refine Runs.region ?_
  replace H := mail_Desk_int64.open H
  refine WR.seg hE 6 [.slice al_d.l_b d.l.length al_d.l_c] [13, 14, 15] (Lo := [(13, .slice al_d.l_b d.l.length al_d.l_c), (14, .int .i64 (d.l.length : Int)), (15, .int .i64 0)]) (obs := [.cell ⟨p_d, 0, none⟩ (.slice al_d.l_b d.l.length al_d.l_c)]) rfl (by kernel_rfl) ⟨H.cell 0 rfl rfl, trivial⟩ fun a hE => ?_
  refine WR.done rfl ?_
  replace H := mail_Desk_int64.shut al_d (d) H.t1.t1
  obtain ⟨s, es, hR⟩ := bind_some hm
  refine Runs.join (fun a w => ∃ s1, s = Sum.inr s1 ∧ EnvOk 30 a [] ∧ St w0 (mail_Desk_int64.R p_d al_d s1 :: As) w) (fun hk => ?_) ?_
  · replace hm := es; clear es
    refine Runs.block ?_
    refine Runs.loop (fun m a w => ∃ (x : Int), ∃ (m_ : mail_Desk_int64), EnvOk 30 a [(13, .slice al_d.l_b m_.l.length al_d.l_c), (14, .int .i64 (d.l.length : Int)), (15, .int .i64 x)] ∧ St w0 (mail_Desk_int64.R p_d al_d m_ :: As) w ∧ mail_Desk_int64_Next_l0 (d.l.length : Int) m x m_ = some s) k ⟨0, d, hE.sel [13, 14, 15] (by kernel_rfl), H, hm⟩ ?_
    rintro m ih a w ⟨x, m_, hE, H, hm⟩
    cases m with
    | zero => simp [mail_Desk_int64_Next_l0] at hm
    | succ m =>
      rw [mail_Desk_int64_Next_l0] at hm
      refine Runs.seq ?_
      refine Runs.region ?_
      refine WR.seg hE 1 [] [13, 14, 15, 16] (Lo := [(13, .slice al_d.l_b m_.l.length al_d.l_c), (14, .int .i64 (d.l.length : Int)), (15, .int .i64 x), (16, .bool (decide (x < (d.l.length : Int))))]) (obs := []) rfl (by kernel_rfl) trivial fun a hE => ?_
      refine WR.done rfl ?_
      refine Runs.seq ?_
      refine Runs.cond hE rfl (fun c => ?_) (fun c => ?_)
      · replace hm := cond_t c hm
        refine Runs.skip ?_
        refine Runs.seq ?_
        refine Runs.block ?_
        refine Runs.seq ?_
        refine Runs.region ?_
        replace H := mail_Desk_int64.open H
        obtain ⟨x2, ex2, hm⟩ := bind_some hm
        obtain ⟨gs, ⟨p, al⟩, hgl, hg, H⟩ := St.slxTake (R := mail_Box_int64.RX) H.t1 ex2
        replace H : St w0 (mail_Box_int64.R p al x2 :: Sl 74 mail_Box_int64.encX 1 al_d.l_b al_d.l_c gs :: But mail_Box_int64.RX gs m_.l x :: _) w := H
        obtain ⟨b, o, hs, hb⟩ := SlRd.base (sl_rd 74 mail_Box_int64.encX 1 _ _ _) mail_Box_int64.encX_ok H 1 rfl hg
        refine WR.seg hE 5 [.pointer (some ⟨b, o, none⟩), .pointer (some ⟨p, 0, none⟩)] [5, 6, 13, 14, 15] (Lo := [(5, .int .i64 x), (6, .pointer (some ⟨p, 0, none⟩)), (13, .slice al_d.l_b m_.l.length al_d.l_c), (14, .int .i64 (d.l.length : Int)), (15, .int .i64 x)]) (obs := [.p ((al_d.l_b : Option Addr) = some ⟨b, o, none⟩), .p (0 ≤ (x : Int) ∧ (x : Int) < ((m_.l.length : Nat) : Int)), .cell ⟨b, o + (Int.toNat x) * 1, none⟩ (.pointer (some ⟨p, 0, none⟩))]) rfl (by kernel_rfl) ⟨hs, (by have h_ := hb; rw [hgl] at h_; exact h_), SlRd.cells (sl_rd 74 mail_Box_int64.encX 1 _ _ _) mail_Box_int64.encX_ok H 1 rfl hs hg 0 _ rfl, trivial⟩ fun a hE => ?_
        refine WR.done rfl ?_
        refine Runs.seq ?_
        refine Runs.region ?_
        refine WR.seg hE 1 [] [5, 13, 14, 15, 21] (Lo := [(5, .int .i64 x), (13, .slice al_d.l_b m_.l.length al_d.l_c), (14, .int .i64 (d.l.length : Int)), (15, .int .i64 x), (21, .pointer (some ⟨p, 0, none⟩))]) (obs := []) rfl (by kernel_rfl) trivial fun a hE => ?_
        obtain ⟨t_, et_, hm⟩ := bind_some hm
        refine WR.eff hE rfl rfl rfl rfl (OpTo.fn hE rfl rfl Try.call32 (mail_Box_int64_Take_ok et_ H)) ?_
        rintro _ w ⟨rfl, H⟩ a hE
        refine WR.seg hE 7 [] [5, 7, 8, 13, 14, 15] (Lo := [(5, .int .i64 x), (7, .int .i64 t_.1), (8, .bool t_.2.1), (13, .slice al_d.l_b m_.l.length al_d.l_c), (14, .int .i64 (d.l.length : Int)), (15, .int .i64 x)]) (obs := []) rfl (by kernel_rfl) trivial fun a hE => ?_
        refine WR.done rfl ?_
        refine Runs.seq ?_
        refine Runs.region ?_
        refine WR.seg hE 1 [] [5, 7, 13, 14, 15, 25] (Lo := [(5, .int .i64 x), (7, .int .i64 t_.1), (13, .slice al_d.l_b m_.l.length al_d.l_c), (14, .int .i64 (d.l.length : Int)), (15, .int .i64 x), (25, .bool t_.2.1)]) (obs := []) rfl (by kernel_rfl) trivial fun a hE => ?_
        refine WR.done rfl ?_
        refine Runs.cond hE rfl (fun c => ?_) (fun c => ?_)
        · replace hm := cond_t c hm
          refine Runs.seq ?_
          refine Runs.region ?_
          refine WR.seg hE 5 [] [2, 3, 4] (Lo := [(2, .int .i64 t_.1), (3, .int .i64 x), (4, .bool true)]) (obs := []) rfl (by kernel_rfl) trivial fun a hE => ?_
          refine WR.done rfl ?_
          replace H := St.slxPut (R := mail_Box_int64.RX) (g' := (p, al)) (x' := t_.2.2) H.t2.t2.t2 ex2 hgl hg rfl
          rw [← mSet_len m_.l x t_.2.2] at H
          replace H := mail_Desk_int64.shut al_d (mail_Desk_int64.mk (mSet m_.l x t_.2.2)) H.t1
          refine Runs.ret hE Try.func22 rfl rfl ?_
          cases hm
          dsimp only at hR; cases hR
          exact ⟨rfl, H⟩
        · replace hm := cond_f c hm
          refine Runs.skip ?_
          refine Runs.inBlock ?_
          refine Runs.region ?_
          refine WR.seg hE 2 [] [13, 14, 15] (Lo := [(13, .slice al_d.l_b m_.l.length al_d.l_c), (14, .int .i64 (d.l.length : Int)), (15, .int .i64 (w64 (x + 1)))]) (obs := []) rfl (by kernel_rfl) trivial fun a hE => ?_
          refine WR.done rfl ?_
          replace H := St.slxPut (R := mail_Box_int64.RX) (g' := (p, al)) (x' := t_.2.2) H.t2.t2.t2 ex2 hgl hg rfl
          rw [← mSet_len m_.l x t_.2.2] at H
          try rw [← mSet_len m_.l x t_.2.2] at hE
          replace H := mail_Desk_int64.shut al_d (mail_Desk_int64.mk (mSet m_.l x t_.2.2)) H.t1
          exact ih m (Nat.lt_succ_self m) _ _ ⟨w64 (x + 1), mail_Desk_int64.mk (mSet m_.l x t_.2.2), hE.sel [13, 14, 15] (by kernel_rfl), H, hm⟩
      · replace hm := cond_f c hm
        refine Runs.exit rfl ?_
        cases hm
        exact hk _ _ ⟨_, rfl, hE.sel [] (by kernel_rfl), H⟩
  rintro a w ⟨s1, rfl, hE, H⟩
  replace hm := hR; dsimp only at hm
  refine Runs.seq ?_
  refine Runs.region ?_
  refine WR.seg hE 1 [] [9] (Lo := [(9, .int .i64 0)]) (obs := []) rfl (by kernel_rfl) trivial fun a hE => ?_
  refine WR.done rfl ?_
  refine Runs.seq ?_
  refine Runs.region ?_
  refine WR.seg hE 4 [] [2, 3, 4] (Lo := [(2, .int .i64 0), (3, .int .i64 0), (4, .bool false)]) (obs := []) rfl (by kernel_rfl) trivial fun a hE => ?_
  refine WR.done rfl ?_
  refine Runs.ret hE Try.func22 rfl rfl ?_
  cases hm
  exact ⟨rfl, H⟩

theorem mail_Box_int64_Len_ok {w0 w : World} {As : List HP} {p_b : Nat} {al_b : mail_Box_int64.A} {b : mail_Box_int64} {t : Int}  (hm : mail_Box_int64_Len b = some t) (H : St w0 (mail_Box_int64.R p_b al_b b :: As) w) :
    CallsR Try.prog 33 #[.pointer (some ⟨p_b, 0, none⟩)] w fun v w' => v = .int .i64 t ∧ St w0 (mail_Box_int64.R p_b al_b b :: As) w' := by
  rw [mail_Box_int64_Len] at hm
  refine enter (args := [.pointer (some ⟨p_b, 0, none⟩)]) Try.func33 rfl rfl rfl fun a hE => ?_
  refine Runs.seq ?_
  refine Runs.region ?_
  refine WR.seg hE 1 [] [0] (Lo := [(0, .pointer (some ⟨p_b, 0, none⟩))]) (obs := []) rfl (by kernel_rfl) trivial fun a hE => ?_
  refine WR.done rfl ?_
  refine Runs.seq ?_
  refine Runs.region ?_
  replace H := mail_Box_int64.open H
  refine WR.seg hE 4 [.chan (some al_b.c__p)] [6] (Lo := [(6, .chan (some al_b.c__p))]) (obs := [.cell ⟨p_b, 0, none⟩ (.chan (some al_b.c__p))]) rfl (by kernel_rfl) ⟨H.cell 0 rfl rfl, trivial⟩ fun a hE => ?_
  refine WR.eff hE rfl rfl rfl rfl (OpTo.lenChM 1 hE H rfl rfl rfl rfl) ?_
  rintro _ _ ⟨rfl, rfl⟩ a hE
  refine WR.seg hE 6 [] [2] (Lo := [(2, .int .i64 (b.c_.buf.length : Int))]) (obs := []) rfl (by kernel_rfl) trivial fun a hE => ?_
  refine WR.done rfl ?_
  replace H := mail_Box_int64.shut al_b (b) H.t1.t1
  refine Runs.ret hE Try.func33 rfl rfl ?_
  cases hm
  exact ⟨rfl, H⟩

theorem mail_Desk_int64_Len_ok {w0 w : World} {As : List HP} {k : Nat} {p_d : Nat} {al_d : mail_Desk_int64.A} {d : mail_Desk_int64} {t : Int}  (hm : mail_Desk_int64_Len k d = some t) (H : St w0 (mail_Desk_int64.R p_d al_d d :: As) w) :
    CallsR Try.prog 23 #[.pointer (some ⟨p_d, 0, none⟩)] w fun v w' => v = .int .i64 t ∧ St w0 (mail_Desk_int64.R p_d al_d d :: As) w' := by
  rw [mail_Desk_int64_Len] at hm
  refine enter (args := [.pointer (some ⟨p_d, 0, none⟩)]) Try.func23 rfl rfl rfl fun a hE => ?_
  refine Runs.seq ?_
  refine Runs.region ?_
  refine WR.seg hE 1 [] [0] (Lo := [(0, .pointer (some ⟨p_d, 0, none⟩))]) (obs := []) rfl (by kernel_rfl) trivial fun a hE => ?_
  refine WR.done rfl ?_
  refine Runs.seq ?_
  refine Runs.region ?_
  refine WR.seg hE 1 [] [0, 3] (Lo := [(0, .pointer (some ⟨p_d, 0, none⟩)), (3, .int .i64 0)]) (obs := []) rfl (by kernel_rfl) trivial fun a hE => ?_
  refine WR.done rfl ?_
  refine Runs.seq ?_
  refine Runs.seq ?_
  refine Runs.region ?_
  replace H := mail_Desk_int64.open H
  refine WR.seg hE 6 [.slice al_d.l_b d.l.length al_d.l_c] [3, 9, 10, 11] (Lo := [(3, .int .i64 0), (9, .slice al_d.l_b d.l.length al_d.l_c), (10, .int .i64 (d.l.length : Int)), (11, .int .i64 0)]) (obs := [.cell ⟨p_d, 0, none⟩ (.slice al_d.l_b d.l.length al_d.l_c)]) rfl (by kernel_rfl) ⟨H.cell 0 rfl rfl, trivial⟩ fun a hE => ?_
  refine WR.done rfl ?_
  replace H := mail_Desk_int64.shut al_d (d) H.t1.t1
  obtain ⟨s, es, hm⟩ := bind_some hm
  refine Runs.join (fun a w => EnvOk 21 a [(3, .int .i64 s)] ∧ St w0 (mail_Desk_int64.R p_d al_d d :: As) w) (fun hk => ?_) ?_
  · replace hm := es; clear es
    refine Runs.block ?_
    refine Runs.loop (fun m a w => ∃ (n : Int), ∃ (x : Int), EnvOk 21 a [(3, .int .i64 n), (9, .slice al_d.l_b d.l.length al_d.l_c), (10, .int .i64 (d.l.length : Int)), (11, .int .i64 x)] ∧ St w0 (mail_Desk_int64.R p_d al_d d :: As) w ∧ mail_Desk_int64_Len_l0 (d.l.length : Int) d m n x = some s) k ⟨0, 0, hE.sel [3, 9, 10, 11] (by kernel_rfl), H, hm⟩ ?_
    rintro m ih a w ⟨n, x, hE, H, hm⟩
    cases m with
    | zero => simp [mail_Desk_int64_Len_l0] at hm
    | succ m =>
      rw [mail_Desk_int64_Len_l0] at hm
      refine Runs.seq ?_
      refine Runs.region ?_
      refine WR.seg hE 1 [] [3, 9, 10, 11, 12] (Lo := [(3, .int .i64 n), (9, .slice al_d.l_b d.l.length al_d.l_c), (10, .int .i64 (d.l.length : Int)), (11, .int .i64 x), (12, .bool (decide (x < (d.l.length : Int))))]) (obs := []) rfl (by kernel_rfl) trivial fun a hE => ?_
      refine WR.done rfl ?_
      refine Runs.seq ?_
      refine Runs.cond hE rfl (fun c => ?_) (fun c => ?_)
      · replace hm := cond_t c hm
        refine Runs.skip ?_
        refine Runs.seq ?_
        refine Runs.block ?_
        refine Runs.seq ?_
        refine Runs.region ?_
        replace H := mail_Desk_int64.open H
        obtain ⟨x2, ex2, hm⟩ := bind_some hm
        obtain ⟨gs, ⟨p, al⟩, hgl, hg, H⟩ := St.slxTake (R := mail_Box_int64.RX) H.t1 ex2
        replace H : St w0 (mail_Box_int64.R p al x2 :: Sl 74 mail_Box_int64.encX 1 al_d.l_b al_d.l_c gs :: But mail_Box_int64.RX gs d.l x :: _) w := H
        obtain ⟨b, o, hs, hb⟩ := SlRd.base (sl_rd 74 mail_Box_int64.encX 1 _ _ _) mail_Box_int64.encX_ok H 1 rfl hg
        refine WR.seg hE 3 [.pointer (some ⟨b, o, none⟩), .pointer (some ⟨p, 0, none⟩)] [3, 5, 9, 10, 11] (Lo := [(3, .int .i64 n), (5, .pointer (some ⟨p, 0, none⟩)), (9, .slice al_d.l_b d.l.length al_d.l_c), (10, .int .i64 (d.l.length : Int)), (11, .int .i64 x)]) (obs := [.p ((al_d.l_b : Option Addr) = some ⟨b, o, none⟩), .p (0 ≤ (x : Int) ∧ (x : Int) < ((d.l.length : Nat) : Int)), .cell ⟨b, o + (Int.toNat x) * 1, none⟩ (.pointer (some ⟨p, 0, none⟩))]) rfl (by kernel_rfl) ⟨hs, (by have h_ := hb; rw [hgl] at h_; exact h_), SlRd.cells (sl_rd 74 mail_Box_int64.encX 1 _ _ _) mail_Box_int64.encX_ok H 1 rfl hs hg 0 _ rfl, trivial⟩ fun a hE => ?_
        refine WR.done rfl ?_
        refine Runs.region ?_
        refine WR.seg hE 2 [] [3, 9, 10, 11, 15, 16] (Lo := [(3, .int .i64 n), (9, .slice al_d.l_b d.l.length al_d.l_c), (10, .int .i64 (d.l.length : Int)), (11, .int .i64 x), (15, .int .i64 n), (16, .pointer (some ⟨p, 0, none⟩))]) (obs := []) rfl (by kernel_rfl) trivial fun a hE => ?_
        obtain ⟨t_, et_, hm⟩ := bind_some hm
        refine WR.eff hE rfl rfl rfl rfl (OpTo.fn hE rfl rfl Try.call33 (mail_Box_int64_Len_ok et_ H)) ?_
        rintro _ w ⟨rfl, H⟩ a hE
        refine WR.seg hE 5 [] [3, 9, 10, 11] (Lo := [(3, .int .i64 (w64 (n + t_))), (9, .slice al_d.l_b d.l.length al_d.l_c), (10, .int .i64 (d.l.length : Int)), (11, .int .i64 x)]) (obs := []) rfl (by kernel_rfl) trivial fun a hE => ?_
        refine WR.done rfl ?_
        refine Runs.inBlock ?_
        refine Runs.region ?_
        refine WR.seg hE 2 [] [3, 9, 10, 11] (Lo := [(3, .int .i64 (w64 (n + t_))), (9, .slice al_d.l_b d.l.length al_d.l_c), (10, .int .i64 (d.l.length : Int)), (11, .int .i64 (w64 (x + 1)))]) (obs := []) rfl (by kernel_rfl) trivial fun a hE => ?_
        refine WR.done rfl ?_
        replace H := St.slxPut0 (R := mail_Box_int64.RX) (g' := (p, al)) (x := x2) H.t2.t2.t2 ex2 hgl hg rfl
        replace H := mail_Desk_int64.shut al_d (d) H.t1
        exact ih m (Nat.lt_succ_self m) _ _ ⟨w64 (n + t_), w64 (x + 1), hE.sel [3, 9, 10, 11] (by kernel_rfl), H, hm⟩
      · replace hm := cond_f c hm
        refine Runs.exit rfl ?_
        cases hm
        exact hk _ _ ⟨hE.sel [3] (by kernel_rfl), H⟩
  rintro a w ⟨hE, H⟩
  refine Runs.seq ?_
  refine Runs.region ?_
  refine WR.seg hE 2 [] [2] (Lo := [(2, .int .i64 s)]) (obs := []) rfl (by kernel_rfl) trivial fun a hE => ?_
  refine WR.done rfl ?_
  refine Runs.ret hE Try.func23 rfl rfl ?_
  cases hm
  exact ⟨rfl, H⟩

theorem mail_Box_string_Len_ok {w0 w : World} {As : List HP} {p_b : Nat} {al_b : mail_Box_string.A} {b : mail_Box_string} {t : Int}  (hm : mail_Box_string_Len b = some t) (H : St w0 (mail_Box_string.R p_b al_b b :: As) w) :
    CallsR Try.prog 24 #[.pointer (some ⟨p_b, 0, none⟩)] w fun v w' => v = .int .i64 t ∧ St w0 (mail_Box_string.R p_b al_b b :: As) w' := by
  rw [mail_Box_string_Len] at hm
  refine enter (args := [.pointer (some ⟨p_b, 0, none⟩)]) Try.func24 rfl rfl rfl fun a hE => ?_
  refine Runs.seq ?_
  refine Runs.region ?_
  refine WR.seg hE 1 [] [0] (Lo := [(0, .pointer (some ⟨p_b, 0, none⟩))]) (obs := []) rfl (by kernel_rfl) trivial fun a hE => ?_
  refine WR.done rfl ?_
  refine Runs.seq ?_
  refine Runs.region ?_
  replace H := mail_Box_string.open H
  refine WR.seg hE 4 [.chan (some al_b.c__p)] [6] (Lo := [(6, .chan (some al_b.c__p))]) (obs := [.cell ⟨p_b, 0, none⟩ (.chan (some al_b.c__p))]) rfl (by kernel_rfl) ⟨H.cell 0 rfl rfl, trivial⟩ fun a hE => ?_
  refine WR.eff hE rfl rfl rfl rfl (OpTo.lenChM 1 hE H rfl rfl rfl rfl) ?_
  rintro _ _ ⟨rfl, rfl⟩ a hE
  refine WR.seg hE 6 [] [2] (Lo := [(2, .int .i64 (b.c_.buf.length : Int))]) (obs := []) rfl (by kernel_rfl) trivial fun a hE => ?_
  refine WR.done rfl ?_
  replace H := mail_Box_string.shut al_b (b) H.t1.t1
  refine Runs.ret hE Try.func24 rfl rfl ?_
  cases hm
  exact ⟨rfl, H⟩

theorem thicketlaw23_known_ok {w0 w : World} {As : List HP} {k : Nat}  {t : Bool}  (hm : thicketlaw23_known k = some t) (H : St w0 (As) w) :
    CallsR Try.prog 13 #[] w fun v w' => v = .bool t ∧ St w0 (As) w' := by
  rw [thicketlaw23_known] at hm
  refine enter (args := []) Try.func13 rfl rfl rfl fun a hE => ?_
  refine Runs.seq ?_
  refine Runs.region ?_
  refine WR.seg hE 1 [] [] (Lo := []) (obs := []) rfl (by kernel_rfl) trivial fun a hE => ?_
  refine WR.done rfl ?_
  refine Runs.seq ?_
  refine Runs.region ?_
  obtain ⟨t_, et_, hm⟩ := bind_some hm
  refine WR.eff hE rfl rfl rfl rfl (OpTo.fn hE rfl rfl Try.call20 (mail_NewDesk_int64_ok et_ H)) ?_
  rintro _ w ⟨p, al, rfl, H⟩ a hE
  refine WR.seg hE 2 [] [1] (Lo := [(1, .pointer (some ⟨p, 0, none⟩))]) (obs := []) rfl (by kernel_rfl) trivial fun a hE => ?_
  refine WR.done rfl ?_
  refine Runs.seq ?_
  refine Runs.region ?_
  obtain ⟨t_1, et_1, hm⟩ := bind_some hm
  refine WR.eff hE rfl rfl rfl rfl (OpTo.fn hE rfl rfl Try.call8 (mail_NewBox_string_ok et_1 H)) ?_
  rintro _ w ⟨p1, al1, rfl, H⟩ a hE
  refine WR.seg hE 2 [] [1, 2] (Lo := [(1, .pointer (some ⟨p, 0, none⟩)), (2, .pointer (some ⟨p1, 0, none⟩))]) (obs := []) rfl (by kernel_rfl) trivial fun a hE => ?_
  refine WR.done rfl ?_
  refine Runs.seq ?_
  refine Runs.seq ?_
  obtain ⟨s, es, hm⟩ := bind_some hm
  refine Runs.join (fun a w => EnvOk 77 a [(1, .pointer (some ⟨p, 0, none⟩)), (2, .pointer (some ⟨p1, 0, none⟩)), (39, .bool s.1)] ∧ St w0 (mail_Box_string.R p1 al1 s.2.1 :: mail_Desk_int64.R p al s.2.2 :: As) w) (fun hk => ?_) ?_
  · replace hm := es; clear es
    refine Runs.region ?_
    refine WR.seg hE 8 [] [1, 2, 16, 17] (Lo := [(1, .pointer (some ⟨p, 0, none⟩)), (2, .pointer (some ⟨p1, 0, none⟩)), (16, .bool false), (17, .pointer (some ⟨p1, 0, none⟩))]) (obs := []) rfl (by kernel_rfl) trivial fun a hE => ?_
    obtain ⟨t_2, et_2, hm⟩ := bind_some hm
    refine WR.eff hE rfl rfl rfl rfl (OpTo.fn hE rfl rfl Try.call10 (mail_Box_string_Post_ok et_2 H)) ?_
    rintro _ w ⟨rfl, H⟩ a hE
    refine WR.seg hE 12 [] [1, 2, 21] (Lo := [(1, .pointer (some ⟨p, 0, none⟩)), (2, .pointer (some ⟨p1, 0, none⟩)), (21, .bool (!t_2.1))]) (obs := []) rfl (by kernel_rfl) trivial fun a hE => ?_
    rcases Bool.eq_false_or_eq_true (!t_2.1) with c | c
    · replace hE := hE.dec 21 c (by kernel_rfl)
      replace hm := cond_t c hm
      have c_ := c
      refine WR.seg hE 30 [] [1, 2, 39] (Lo := [(1, .pointer (some ⟨p, 0, none⟩)), (2, .pointer (some ⟨p1, 0, none⟩)), (39, .bool true)]) (obs := []) rfl (by kernel_rfl) trivial fun a hE => ?_
      refine WR.done rfl ?_
      cases hm
      exact hk _ _ ⟨hE.sel [1, 2, 39] (by kernel_rfl), H.t1.t1⟩
    · replace hE := hE.dec 21 c (by kernel_rfl)
      replace hm := cond_f c hm
      have c_1 := c
      refine WR.seg hE 13 [] [1, 2, 21, 22] (Lo := [(1, .pointer (some ⟨p, 0, none⟩)), (2, .pointer (some ⟨p1, 0, none⟩)), (21, .bool false), (22, .pointer (some ⟨p1, 0, none⟩))]) (obs := []) rfl (by kernel_rfl) trivial fun a hE => ?_
      obtain ⟨t_3, et_3, hm⟩ := bind_some hm
      refine WR.eff hE rfl rfl rfl rfl (OpTo.fn hE rfl rfl Try.call10 (mail_Box_string_Post_ok et_3 H)) ?_
      rintro _ w ⟨rfl, H⟩ a hE
      refine WR.seg hE 16 [] [1, 2, 25] (Lo := [(1, .pointer (some ⟨p, 0, none⟩)), (2, .pointer (some ⟨p1, 0, none⟩)), (25, .bool t_3.1)]) (obs := []) rfl (by kernel_rfl) trivial fun a hE => ?_
      rcases Bool.eq_false_or_eq_true t_3.1 with c | c
      · replace hE := hE.dec 25 c (by kernel_rfl)
        replace hm := cond_t c hm
        have c_2 := c
        refine WR.seg hE 30 [] [1, 2, 39] (Lo := [(1, .pointer (some ⟨p, 0, none⟩)), (2, .pointer (some ⟨p1, 0, none⟩)), (39, .bool true)]) (obs := []) rfl (by kernel_rfl) trivial fun a hE => ?_
        refine WR.done rfl ?_
        cases hm
        exact hk _ _ ⟨hE.sel [1, 2, 39] (by kernel_rfl), H.t1.t1⟩
      · replace hE := hE.dec 25 c (by kernel_rfl)
        replace hm := cond_f c hm
        have c_3 := c
        refine WR.seg hE 17 [] [1, 2, 25, 26] (Lo := [(1, .pointer (some ⟨p, 0, none⟩)), (2, .pointer (some ⟨p1, 0, none⟩)), (25, .bool false), (26, .pointer (some ⟨p, 0, none⟩))]) (obs := []) rfl (by kernel_rfl) trivial fun a hE => ?_
        obtain ⟨t_4, et_4, hm⟩ := bind_some hm
        refine WR.eff hE rfl rfl rfl rfl (OpTo.fn hE rfl rfl Try.call21 (mail_Desk_int64_Post_ok et_4 H.t1)) ?_
        rintro _ w ⟨rfl, H⟩ a hE
        refine WR.seg hE 21 [] [1, 2, 30] (Lo := [(1, .pointer (some ⟨p, 0, none⟩)), (2, .pointer (some ⟨p1, 0, none⟩)), (30, .bool (t_4.1 != 0))]) (obs := []) rfl (by kernel_rfl) trivial fun a hE => ?_
        rcases Bool.eq_false_or_eq_true (t_4.1 != 0) with c | c
        · replace hE := hE.dec 30 c (by kernel_rfl)
          replace hm := cond_t c hm
          have c_4 := c
          refine WR.seg hE 30 [] [1, 2, 39] (Lo := [(1, .pointer (some ⟨p, 0, none⟩)), (2, .pointer (some ⟨p1, 0, none⟩)), (39, .bool true)]) (obs := []) rfl (by kernel_rfl) trivial fun a hE => ?_
          refine WR.done rfl ?_
          cases hm
          exact hk _ _ ⟨hE.sel [1, 2, 39] (by kernel_rfl), H.t1⟩
        · replace hE := hE.dec 30 c (by kernel_rfl)
          replace hm := cond_f c hm
          have c_5 := c
          refine WR.seg hE 22 [] [1, 2, 30, 31] (Lo := [(1, .pointer (some ⟨p, 0, none⟩)), (2, .pointer (some ⟨p1, 0, none⟩)), (30, .bool false), (31, .pointer (some ⟨p, 0, none⟩))]) (obs := []) rfl (by kernel_rfl) trivial fun a hE => ?_
          obtain ⟨t_5, et_5, hm⟩ := bind_some hm
          refine WR.eff hE rfl rfl rfl rfl (OpTo.fn hE rfl rfl Try.call21 (mail_Desk_int64_Post_ok et_5 H)) ?_
          rintro _ w ⟨rfl, H⟩ a hE
          refine WR.seg hE 26 [] [1, 2, 35] (Lo := [(1, .pointer (some ⟨p, 0, none⟩)), (2, .pointer (some ⟨p1, 0, none⟩)), (35, .bool (t_5.1 != 0))]) (obs := []) rfl (by kernel_rfl) trivial fun a hE => ?_
          rcases Bool.eq_false_or_eq_true (t_5.1 != 0) with c | c
          · replace hE := hE.dec 35 c (by kernel_rfl)
            replace hm := cond_t c hm
            have c_6 := c
            refine WR.seg hE 30 [] [1, 2, 39] (Lo := [(1, .pointer (some ⟨p, 0, none⟩)), (2, .pointer (some ⟨p1, 0, none⟩)), (39, .bool true)]) (obs := []) rfl (by kernel_rfl) trivial fun a hE => ?_
            refine WR.done rfl ?_
            cases hm
            exact hk _ _ ⟨hE.sel [1, 2, 39] (by kernel_rfl), H.t1⟩
          · replace hE := hE.dec 35 c (by kernel_rfl)
            replace hm := cond_f c hm
            have c_7 := c
            refine WR.seg hE 27 [] [1, 2, 35, 36] (Lo := [(1, .pointer (some ⟨p, 0, none⟩)), (2, .pointer (some ⟨p1, 0, none⟩)), (35, .bool false), (36, .pointer (some ⟨p, 0, none⟩))]) (obs := []) rfl (by kernel_rfl) trivial fun a hE => ?_
            obtain ⟨t_6, et_6, hm⟩ := bind_some hm
            refine WR.eff hE rfl rfl rfl rfl (OpTo.fn hE rfl rfl Try.call21 (mail_Desk_int64_Post_ok et_6 H)) ?_
            rintro _ w ⟨rfl, H⟩ a hE
            refine WR.seg hE 30 [] [1, 2, 39] (Lo := [(1, .pointer (some ⟨p, 0, none⟩)), (2, .pointer (some ⟨p1, 0, none⟩)), (39, .bool (t_6.1 != 30))]) (obs := []) rfl (by kernel_rfl) trivial fun a hE => ?_
            refine WR.done rfl ?_
            cases hm
            exact hk _ _ ⟨hE.sel [1, 2, 39] (by kernel_rfl), H.t1⟩
  rintro a w ⟨hE, H⟩
  refine Runs.cond hE rfl (fun c => ?_) (fun c => ?_)
  · replace hm := cond_t c hm
    refine Runs.seq ?_
    refine Runs.region ?_
    refine WR.seg hE 1 [] [0] (Lo := [(0, .bool false)]) (obs := []) rfl (by kernel_rfl) trivial fun a hE => ?_
    refine WR.done rfl ?_
    refine Runs.ret hE Try.func13 rfl rfl ?_
    cases hm
    exact ⟨rfl, H.x1.x0⟩
  · replace hm := cond_f c hm
    refine Runs.skip ?_
    refine Runs.seq ?_
    refine Runs.region ?_
    refine WR.seg hE 1 [] [1, 2, 41] (Lo := [(1, .pointer (some ⟨p, 0, none⟩)), (2, .pointer (some ⟨p1, 0, none⟩)), (41, .pointer (some ⟨p, 0, none⟩))]) (obs := []) rfl (by kernel_rfl) trivial fun a hE => ?_
    obtain ⟨t_7, et_7, hm⟩ := bind_some hm
    refine WR.eff hE rfl rfl rfl rfl (OpTo.fn hE rfl rfl Try.call22 (mail_Desk_int64_Next_ok et_7 H.t1)) ?_
    rintro _ w ⟨rfl, H⟩ a hE
    refine WR.seg hE 9 [] [1, 2, 3, 4, 5] (Lo := [(1, .pointer (some ⟨p, 0, none⟩)), (2, .pointer (some ⟨p1, 0, none⟩)), (3, .int .i64 t_7.1), (4, .int .i64 t_7.2.1), (5, .bool t_7.2.2.1)]) (obs := []) rfl (by kernel_rfl) trivial fun a hE => ?_
    refine WR.done rfl ?_
    refine Runs.seq ?_
    refine Runs.region ?_
    refine WR.seg hE 1 [] [1, 2, 3, 4, 5, 47] (Lo := [(1, .pointer (some ⟨p, 0, none⟩)), (2, .pointer (some ⟨p1, 0, none⟩)), (3, .int .i64 t_7.1), (4, .int .i64 t_7.2.1), (5, .bool t_7.2.2.1), (47, .pointer (some ⟨p1, 0, none⟩))]) (obs := []) rfl (by kernel_rfl) trivial fun a hE => ?_
    obtain ⟨t_8, et_8, hm⟩ := bind_some hm
    refine WR.eff hE rfl rfl rfl rfl (OpTo.fn hE rfl rfl Try.call12 (mail_Box_string_Take_ok et_8 H.t1)) ?_
    rintro _ w ⟨rfl, H⟩ a hE
    refine WR.seg hE 7 [] [1, 2, 3, 4, 5, 6, 7] (Lo := [(1, .pointer (some ⟨p, 0, none⟩)), (2, .pointer (some ⟨p1, 0, none⟩)), (3, .int .i64 t_7.1), (4, .int .i64 t_7.2.1), (5, .bool t_7.2.2.1), (6, .string t_8.1), (7, .bool t_8.2.1)]) (obs := []) rfl (by kernel_rfl) trivial fun a hE => ?_
    refine WR.done rfl ?_
    refine Runs.seq ?_
    obtain ⟨s1, es1, hm⟩ := bind_some hm
    refine Runs.join (fun a w => EnvOk 77 a [(0, .bool s1)] ∧ St w0 (mail_Box_string.R p1 al1 t_8.2.2 :: mail_Desk_int64.R p al t_7.2.2.2 :: As) w) (fun hk => ?_) ?_
    · replace hm := es1; clear es1
      refine Runs.region ?_
      refine WR.seg hE 3 [] [1, 2, 4, 5, 6, 7, 53] (Lo := [(1, .pointer (some ⟨p, 0, none⟩)), (2, .pointer (some ⟨p1, 0, none⟩)), (4, .int .i64 t_7.2.1), (5, .bool t_7.2.2.1), (6, .string t_8.1), (7, .bool t_8.2.1), (53, .bool (t_7.1 == 6))]) (obs := []) rfl (by kernel_rfl) trivial fun a hE => ?_
      rcases Bool.eq_false_or_eq_true (t_7.1 == 6) with c | c
      · replace hE := hE.dec 53 c (by kernel_rfl)
        replace hm := cond_t c hm
        have c_8 := c
        refine WR.seg hE 7 [] [1, 2, 5, 6, 7, 57] (Lo := [(1, .pointer (some ⟨p, 0, none⟩)), (2, .pointer (some ⟨p1, 0, none⟩)), (5, .bool t_7.2.2.1), (6, .string t_8.1), (7, .bool t_8.2.1), (57, .bool (t_7.2.1 == 0))]) (obs := []) rfl (by kernel_rfl) trivial fun a hE => ?_
        rcases Bool.eq_false_or_eq_true (t_7.2.1 == 0) with c | c
        · replace hE := hE.dec 57 c (by kernel_rfl)
          replace hm := cond_t c hm
          have c_9 := c
          refine WR.seg hE 10 [] [1, 2, 6, 7, 60] (Lo := [(1, .pointer (some ⟨p, 0, none⟩)), (2, .pointer (some ⟨p1, 0, none⟩)), (6, .string t_8.1), (7, .bool t_8.2.1), (60, .bool t_7.2.2.1)]) (obs := []) rfl (by kernel_rfl) trivial fun a hE => ?_
          rcases Bool.eq_false_or_eq_true t_7.2.2.1 with c | c
          · replace hE := hE.dec 60 c (by kernel_rfl)
            replace hm := cond_t c hm
            have c_10 := c
            refine WR.seg hE 14 [] [1, 2, 7, 64] (Lo := [(1, .pointer (some ⟨p, 0, none⟩)), (2, .pointer (some ⟨p1, 0, none⟩)), (7, .bool t_8.2.1), (64, .bool (t_8.1.toList == (ByteArray.mk #[120]).toList))]) (obs := []) rfl (by kernel_rfl) trivial fun a hE => ?_
            rcases Bool.eq_false_or_eq_true (t_8.1.toList == (ByteArray.mk #[120]).toList) with c | c
            · replace hE := hE.dec 64 c (by kernel_rfl)
              replace hm := cond_t c hm
              have c_11 := c
              refine WR.seg hE 17 [] [1, 2, 67] (Lo := [(1, .pointer (some ⟨p, 0, none⟩)), (2, .pointer (some ⟨p1, 0, none⟩)), (67, .bool t_8.2.1)]) (obs := []) rfl (by kernel_rfl) trivial fun a hE => ?_
              rcases Bool.eq_false_or_eq_true t_8.2.1 with c | c
              · replace hE := hE.dec 67 c (by kernel_rfl)
                replace hm := cond_t c hm
                have c_12 := c
                refine WR.seg hE 18 [] [2, 67, 68] (Lo := [(2, .pointer (some ⟨p1, 0, none⟩)), (67, .bool true), (68, .pointer (some ⟨p, 0, none⟩))]) (obs := []) rfl (by kernel_rfl) trivial fun a hE => ?_
                obtain ⟨t_9, et_9, hm⟩ := bind_some hm
                refine WR.eff hE rfl rfl rfl rfl (OpTo.fn hE rfl rfl Try.call23 (mail_Desk_int64_Len_ok et_9 H.t1)) ?_
                rintro _ w ⟨rfl, H⟩ a hE
                refine WR.seg hE 22 [] [2, 72] (Lo := [(2, .pointer (some ⟨p1, 0, none⟩)), (72, .bool (t_9 == 1))]) (obs := []) rfl (by kernel_rfl) trivial fun a hE => ?_
                rcases Bool.eq_false_or_eq_true (t_9 == 1) with c | c
                · replace hE := hE.dec 72 c (by kernel_rfl)
                  replace hm := cond_t c hm
                  have c_13 := c
                  refine WR.seg hE 23 [] [72, 73] (Lo := [(72, .bool true), (73, .pointer (some ⟨p1, 0, none⟩))]) (obs := []) rfl (by kernel_rfl) trivial fun a hE => ?_
                  obtain ⟨t_10, et_10, hm⟩ := bind_some hm
                  refine WR.eff hE rfl rfl rfl rfl (OpTo.fn hE rfl rfl Try.call24 (mail_Box_string_Len_ok et_10 H.t1)) ?_
                  rintro _ w ⟨rfl, H⟩ a hE
                  refine WR.seg hE 27 [] [0] (Lo := [(0, .bool (t_10 == 0))]) (obs := []) rfl (by kernel_rfl) trivial fun a hE => ?_
                  refine WR.done rfl ?_
                  cases hm
                  exact hk _ _ ⟨hE.sel [0] (by kernel_rfl), H.t1.t1⟩
                · replace hE := hE.dec 72 c (by kernel_rfl)
                  replace hm := cond_f c hm
                  have c_14 := c
                  refine WR.seg hE 27 [] [0] (Lo := [(0, .bool false)]) (obs := []) rfl (by kernel_rfl) trivial fun a hE => ?_
                  refine WR.done rfl ?_
                  cases hm
                  exact hk _ _ ⟨hE.sel [0] (by kernel_rfl), H.t1⟩
              · replace hE := hE.dec 67 c (by kernel_rfl)
                replace hm := cond_f c hm
                have c_15 := c
                refine WR.seg hE 27 [] [0] (Lo := [(0, .bool false)]) (obs := []) rfl (by kernel_rfl) trivial fun a hE => ?_
                refine WR.done rfl ?_
                cases hm
                exact hk _ _ ⟨hE.sel [0] (by kernel_rfl), H.t1.t1⟩
            · replace hE := hE.dec 64 c (by kernel_rfl)
              replace hm := cond_f c hm
              have c_16 := c
              refine WR.seg hE 27 [] [0] (Lo := [(0, .bool false)]) (obs := []) rfl (by kernel_rfl) trivial fun a hE => ?_
              refine WR.done rfl ?_
              cases hm
              exact hk _ _ ⟨hE.sel [0] (by kernel_rfl), H.t1.t1⟩
          · replace hE := hE.dec 60 c (by kernel_rfl)
            replace hm := cond_f c hm
            have c_17 := c
            refine WR.seg hE 27 [] [0] (Lo := [(0, .bool false)]) (obs := []) rfl (by kernel_rfl) trivial fun a hE => ?_
            refine WR.done rfl ?_
            cases hm
            exact hk _ _ ⟨hE.sel [0] (by kernel_rfl), H.t1.t1⟩
        · replace hE := hE.dec 57 c (by kernel_rfl)
          replace hm := cond_f c hm
          have c_18 := c
          refine WR.seg hE 27 [] [0] (Lo := [(0, .bool false)]) (obs := []) rfl (by kernel_rfl) trivial fun a hE => ?_
          refine WR.done rfl ?_
          cases hm
          exact hk _ _ ⟨hE.sel [0] (by kernel_rfl), H.t1.t1⟩
      · replace hE := hE.dec 53 c (by kernel_rfl)
        replace hm := cond_f c hm
        have c_19 := c
        refine WR.seg hE 27 [] [0] (Lo := [(0, .bool false)]) (obs := []) rfl (by kernel_rfl) trivial fun a hE => ?_
        refine WR.done rfl ?_
        cases hm
        exact hk _ _ ⟨hE.sel [0] (by kernel_rfl), H.t1.t1⟩
    rintro a w ⟨hE, H⟩
    refine Runs.ret hE Try.func13 rfl rfl ?_
    cases hm
    exact ⟨rfl, H.x1.x0⟩

theorem thicketlaw23_MailOrder_ok {w0 w : World} {As : List HP} {k : Nat} {sb_a_ : Option Addr} {sc_a_ : Nat} {a_ : List ByteArray} {X_a_ : HP} {sb_b : Option Addr} {sc_b : Nat} {b : List ByteArray} {t : Bool} (hX_a_ : SlRd X_a_ encS 1 sb_a_ a_) (hC_a_ : a_.length ≤ sc_a_) (hX_b : SlRd X_a_ encS 1 sb_b b) (hC_b : b.length ≤ sc_b) (hm : thicketlaw23_MailOrder k a_ b = some t) (H : St w0 (X_a_ :: As) w) :
    CallsR Try.prog 3 #[.slice sb_a_ a_.length sc_a_, .slice sb_b b.length sc_b] w fun v w' => v = .bool t ∧ St w0 (X_a_ :: As) w' := by
  rw [thicketlaw23_MailOrder] at hm
  refine enter (args := [.slice sb_a_ a_.length sc_a_, .slice sb_b b.length sc_b]) Try.func3 rfl rfl rfl fun a hE => ?_
  refine Runs.seq ?_
  refine Runs.region ?_
  refine WR.seg hE 1 [] [0, 1] (Lo := [(0, .slice sb_a_ a_.length sc_a_), (1, .slice sb_b b.length sc_b)]) (obs := []) rfl (by kernel_rfl) trivial fun a hE => ?_
  refine WR.done rfl ?_
  refine Runs.seq ?_
  refine Runs.region ?_
  obtain ⟨t_, et_, hm⟩ := bind_some hm
  refine WR.eff hE rfl rfl rfl rfl (OpTo.fn hE rfl rfl Try.call7 (mail_NewDesk_string_ok et_ H)) ?_
  rintro _ w ⟨p, al, rfl, H⟩ a hE
  refine WR.seg hE 2 [] [0, 1, 5] (Lo := [(0, .slice sb_a_ a_.length sc_a_), (1, .slice sb_b b.length sc_b), (5, .pointer (some ⟨p, 0, none⟩))]) (obs := []) rfl (by kernel_rfl) trivial fun a hE => ?_
  refine WR.done rfl ?_
  refine Runs.seq ?_
  refine Runs.region ?_
  obtain ⟨t_1, et_1, hm⟩ := bind_some hm
  refine WR.eff hE rfl rfl rfl rfl (OpTo.fn hE rfl rfl Try.call8 (mail_NewBox_string_ok et_1 H)) ?_
  rintro _ w ⟨p1, al1, rfl, H⟩ a hE
  refine WR.seg hE 2 [] [0, 1, 5, 6] (Lo := [(0, .slice sb_a_ a_.length sc_a_), (1, .slice sb_b b.length sc_b), (5, .pointer (some ⟨p, 0, none⟩)), (6, .pointer (some ⟨p1, 0, none⟩))]) (obs := []) rfl (by kernel_rfl) trivial fun a hE => ?_
  refine WR.done rfl ?_
  refine Runs.seq ?_
  refine Runs.seq ?_
  refine Runs.region ?_
  refine WR.seg hE 6 [] [0, 1, 5, 6, 28] (Lo := [(0, .slice sb_a_ a_.length sc_a_), (1, .slice sb_b b.length sc_b), (5, .pointer (some ⟨p, 0, none⟩)), (6, .pointer (some ⟨p1, 0, none⟩)), (28, .bool false)]) (obs := []) rfl (by kernel_rfl) trivial fun a hE => ?_
  refine WR.done rfl ?_
  refine Runs.condF hE rfl ?_
  refine Runs.skip ?_
  refine Runs.seq ?_
  refine Runs.seq ?_
  refine Runs.region ?_
  refine WR.seg hE 3 [] [0, 1, 5, 6, 31] (Lo := [(0, .slice sb_a_ a_.length sc_a_), (1, .slice sb_b b.length sc_b), (5, .pointer (some ⟨p, 0, none⟩)), (6, .pointer (some ⟨p1, 0, none⟩)), (31, .bool (decide ((a_.length : Int) > 40)))]) (obs := []) rfl (by kernel_rfl) trivial fun a hE => ?_
  refine WR.done rfl ?_
  obtain ⟨s, es, hm⟩ := bind_some hm
  refine Runs.join (fun a w => ∃ (sb : Option Addr), ∃ (sc : Nat), EnvOk 171 a [(0, .slice sb s.length sc), (1, .slice sb_b b.length sc_b), (5, .pointer (some ⟨p, 0, none⟩)), (6, .pointer (some ⟨p1, 0, none⟩))] ∧ (SlRd X_a_ encS 1 sb s) ∧ (s.length ≤ sc) ∧ St w0 (mail_Box_string.R p1 al1 t_1 :: mail_Desk_string.R p al t_ :: X_a_ :: As) w) (fun hk => ?_) ?_
  · replace hm := es; clear es
    refine Runs.cond hE rfl (fun c => ?_) (fun c => ?_)
    · replace hm := cond_t c hm
      refine Runs.region ?_
      obtain ⟨l, el, hm⟩ := bind_some hm
      obtain ⟨sb1, q⟩ : ∃ z, rebase sb_a_ sc_a_ (Int.toNat 0) 1 = z := ⟨_, rfl⟩
      obtain ⟨sc1, q1⟩ : ∃ z, sc_a_ - (Int.toNat 0) = z := ⟨_, rfl⟩
      refine WR.seg hE 3 [.slice sb1 l.length sc1] [0, 1, 5, 6] (Lo := [(0, .slice sb1 l.length sc1), (1, .slice sb_b b.length sc_b), (5, .pointer (some ⟨p, 0, none⟩)), (6, .pointer (some ⟨p1, 0, none⟩))]) (obs := [.p (rebase sb_a_ sc_a_ 0 1 = sb1), .p ((Int.toNat 40) - 0 = l.length), .p (sc_a_ - 0 = sc1), .p (0 ≤ (40 : Int) ∧ (40 : Int) ≤ ((sc_a_ : Nat) : Int))]) rfl (by kernel_rfl) ⟨q, cut_len el, q1, cut_cap el hC_a_, trivial⟩ fun a hE => ?_
      refine WR.done rfl ?_
      cases hm
      exact hk _ _ ⟨sb1, sc1, hE.sel [0, 1, 5, 6] (by kernel_rfl), (hX_a_.cut' encS_ok el (hC_a_) q), (cut_cap2 el hC_a_ q1), H.t2.t2.t2⟩
    · replace hm := cond_f c hm
      refine Runs.skip ?_
      cases hm
      exact hk _ _ ⟨sb_a_, sc_a_, hE.sel [0, 1, 5, 6] (by kernel_rfl), hX_a_, hC_a_, H.t2.t2.t2⟩
  rintro a w ⟨sb, sc, hE, hX, hC, H⟩
  refine Runs.seq ?_
  refine Runs.seq ?_
  refine Runs.region ?_
  refine WR.seg hE 3 [] [0, 1, 5, 6, 36] (Lo := [(0, .slice sb s.length sc), (1, .slice sb_b b.length sc_b), (5, .pointer (some ⟨p, 0, none⟩)), (6, .pointer (some ⟨p1, 0, none⟩)), (36, .bool (decide ((b.length : Int) > 40)))]) (obs := []) rfl (by kernel_rfl) trivial fun a hE => ?_
  refine WR.done rfl ?_
  obtain ⟨s1, es1, hm⟩ := bind_some hm
  refine Runs.join (fun a w => ∃ (sb2 : Option Addr), ∃ (sc2 : Nat), EnvOk 171 a [(0, .slice sb s.length sc), (1, .slice sb2 s1.length sc2), (5, .pointer (some ⟨p, 0, none⟩)), (6, .pointer (some ⟨p1, 0, none⟩))] ∧ (SlRd X_a_ encS 1 sb2 s1) ∧ (s1.length ≤ sc2) ∧ St w0 (mail_Box_string.R p1 al1 t_1 :: mail_Desk_string.R p al t_ :: X_a_ :: As) w) (fun hk => ?_) ?_
  · replace hm := es1; clear es1
    refine Runs.cond hE rfl (fun c => ?_) (fun c => ?_)
    · replace hm := cond_t c hm
      refine Runs.region ?_
      obtain ⟨l1, el1, hm⟩ := bind_some hm
      obtain ⟨sb3, q2⟩ : ∃ z, rebase sb_b sc_b (Int.toNat 0) 1 = z := ⟨_, rfl⟩
      obtain ⟨sc3, q3⟩ : ∃ z, sc_b - (Int.toNat 0) = z := ⟨_, rfl⟩
      refine WR.seg hE 3 [.slice sb3 l1.length sc3] [0, 1, 5, 6] (Lo := [(0, .slice sb s.length sc), (1, .slice sb3 l1.length sc3), (5, .pointer (some ⟨p, 0, none⟩)), (6, .pointer (some ⟨p1, 0, none⟩))]) (obs := [.p (rebase sb_b sc_b 0 1 = sb3), .p ((Int.toNat 40) - 0 = l1.length), .p (sc_b - 0 = sc3), .p (0 ≤ (40 : Int) ∧ (40 : Int) ≤ ((sc_b : Nat) : Int))]) rfl (by kernel_rfl) ⟨q2, cut_len el1, q3, cut_cap el1 hC_b, trivial⟩ fun a hE => ?_
      refine WR.done rfl ?_
      cases hm
      exact hk _ _ ⟨sb3, sc3, hE.sel [0, 1, 5, 6] (by kernel_rfl), (hX_b.cut' encS_ok el1 (hC_b) q2), (cut_cap2 el1 hC_b q3), H.t2.t2.t2⟩
    · replace hm := cond_f c hm
      refine Runs.skip ?_
      cases hm
      exact hk _ _ ⟨sb_b, sc_b, hE.sel [0, 1, 5, 6] (by kernel_rfl), hX_b, hC_b, H.t2.t2.t2⟩
  rintro a w ⟨sb2, sc2, hE, hX1, hC1, H⟩
  refine Runs.seq ?_
  refine Runs.seq ?_
  refine Runs.region ?_
  refine WR.seg hE 1 [] [0, 1, 5, 6, 7] (Lo := [(0, .slice sb s.length sc), (1, .slice sb2 s1.length sc2), (5, .pointer (some ⟨p, 0, none⟩)), (6, .pointer (some ⟨p1, 0, none⟩)), (7, .int .i64 0)]) (obs := []) rfl (by kernel_rfl) trivial fun a hE => ?_
  refine WR.done rfl ?_
  obtain ⟨s2, es2, hR⟩ := bind_some hm
  refine Runs.join (fun a w => ∃ s3, s2 = Sum.inr s3 ∧ EnvOk 171 a [(0, .slice sb s.length sc), (1, .slice sb2 s1.length sc2), (5, .pointer (some ⟨p, 0, none⟩)), (6, .pointer (some ⟨p1, 0, none⟩))] ∧ St w0 (mail_Box_string.R p1 al1 s3.1 :: mail_Desk_string.R p al s3.2 :: X_a_ :: As) w) (fun hk => ?_) ?_
  · replace hm := es2; clear es2
    refine Runs.block ?_
    refine Runs.loop (fun m a w => ∃ (i : Int), ∃ (m_ : mail_Box_string), ∃ (m_1 : mail_Desk_string), EnvOk 171 a [(0, .slice sb s.length sc), (1, .slice sb2 s1.length sc2), (5, .pointer (some ⟨p, 0, none⟩)), (6, .pointer (some ⟨p1, 0, none⟩)), (7, .int .i64 i)] ∧ St w0 (mail_Box_string.R p1 al1 m_ :: mail_Desk_string.R p al m_1 :: X_a_ :: As) w ∧ thicketlaw23_MailOrder_l0 s s1 a_ m i m_ m_1 = some s2) k ⟨0, t_1, t_, hE.sel [0, 1, 5, 6, 7] (by kernel_rfl), H.t2.t2.t2, hm⟩ ?_
    rintro m ih a w ⟨i, m_, m_1, hE, H, hm⟩
    cases m with
    | zero => simp [thicketlaw23_MailOrder_l0] at hm
    | succ m =>
      rw [thicketlaw23_MailOrder_l0] at hm
      refine Runs.seq ?_
      refine Runs.seq ?_
      refine Runs.region ?_
      refine WR.seg hE 4 [] [0, 1, 5, 6, 7, 42] (Lo := [(0, .slice sb s.length sc), (1, .slice sb2 s1.length sc2), (5, .pointer (some ⟨p, 0, none⟩)), (6, .pointer (some ⟨p1, 0, none⟩)), (7, .int .i64 i), (42, .bool (decide (i < (s1.length : Int))))]) (obs := []) rfl (by kernel_rfl) trivial fun a hE => ?_
      refine WR.done rfl ?_
      refine Runs.cond hE rfl (fun c => ?_) (fun c => ?_)
      · replace hm := cond_t c hm
        refine Runs.skip ?_
        refine Runs.seq ?_
        refine Runs.block ?_
        refine Runs.seq ?_
        obtain ⟨s4, es4, hm⟩ := bind_some hm
        refine Runs.join (fun a w => EnvOk 171 a [(0, .slice sb s.length sc), (1, .slice sb2 s1.length sc2), (5, .pointer (some ⟨p, 0, none⟩)), (6, .pointer (some ⟨p1, 0, none⟩)), (7, .int .i64 i), (60, .bool s4.1)] ∧ St w0 (mail_Box_string.R p1 al1 s4.2.1 :: mail_Desk_string.R p al s4.2.2 :: X_a_ :: As) w) (fun hk => ?_) ?_
        · replace hm := es4; clear es4
          refine Runs.region ?_
          obtain ⟨x1, ex1, hm⟩ := bind_some hm
          obtain ⟨b2, o1, hs1, hb1⟩ := SlRd.base hX1 encS_ok H 2 rfl ex1
          refine WR.seg hE 5 [.pointer (some ⟨b2, o1, none⟩), .string x1] [0, 1, 5, 6, 7, 45, 49] (Lo := [(0, .slice sb s.length sc), (1, .slice sb2 s1.length sc2), (5, .pointer (some ⟨p, 0, none⟩)), (6, .pointer (some ⟨p1, 0, none⟩)), (7, .int .i64 i), (45, .pointer (some ⟨p, 0, none⟩)), (49, .string x1)]) (obs := [.p ((sb2 : Option Addr) = some ⟨b2, o1, none⟩), .p (0 ≤ (i : Int) ∧ (i : Int) < ((s1.length : Nat) : Int)), .cell ⟨b2, o1 + (Int.toNat i) * 1, none⟩ (.string x1)]) rfl (by kernel_rfl) ⟨hs1, hb1, SlRd.cells hX1 encS_ok H 2 rfl hs1 ex1 0 _ rfl, trivial⟩ fun a hE => ?_
          obtain ⟨t_2, et_2, hm⟩ := bind_some hm
          refine WR.eff hE rfl rfl rfl rfl (OpTo.fn hE rfl rfl Try.call9 (mail_Desk_string_Post_ok et_2 H.t1)) ?_
          rintro _ w ⟨rfl, H⟩ a hE
          refine WR.seg hE 8 [] [0, 1, 5, 6, 7, 52] (Lo := [(0, .slice sb s.length sc), (1, .slice sb2 s1.length sc2), (5, .pointer (some ⟨p, 0, none⟩)), (6, .pointer (some ⟨p1, 0, none⟩)), (7, .int .i64 i), (52, .bool (t_2.1 != 0))]) (obs := []) rfl (by kernel_rfl) trivial fun a hE => ?_
          rcases Bool.eq_false_or_eq_true (t_2.1 != 0) with c | c
          · replace hE := hE.dec 52 c (by kernel_rfl)
            replace hm := cond_t c hm
            have c_ := c
            refine WR.seg hE 16 [] [0, 1, 5, 6, 7, 60] (Lo := [(0, .slice sb s.length sc), (1, .slice sb2 s1.length sc2), (5, .pointer (some ⟨p, 0, none⟩)), (6, .pointer (some ⟨p1, 0, none⟩)), (7, .int .i64 i), (60, .bool true)]) (obs := []) rfl (by kernel_rfl) trivial fun a hE => ?_
            refine WR.done rfl ?_
            cases hm
            exact hk _ _ ⟨hE.sel [0, 1, 5, 6, 7, 60] (by kernel_rfl), H.t2.t1.t2⟩
          · replace hE := hE.dec 52 c (by kernel_rfl)
            replace hm := cond_f c hm
            have c_1 := c
            obtain ⟨x2, ex2, hm⟩ := bind_some hm
            obtain ⟨b3, o2, hs2, hb2⟩ := SlRd.base hX1 encS_ok H 2 rfl ex2
            refine WR.seg hE 13 [.pointer (some ⟨b3, o2, none⟩), .string x2] [0, 1, 5, 6, 7, 52, 53, 57] (Lo := [(0, .slice sb s.length sc), (1, .slice sb2 s1.length sc2), (5, .pointer (some ⟨p, 0, none⟩)), (6, .pointer (some ⟨p1, 0, none⟩)), (7, .int .i64 i), (52, .bool false), (53, .pointer (some ⟨p1, 0, none⟩)), (57, .string x2)]) (obs := [.p ((sb2 : Option Addr) = some ⟨b3, o2, none⟩), .p (0 ≤ (i : Int) ∧ (i : Int) < ((s1.length : Nat) : Int)), .cell ⟨b3, o2 + (Int.toNat i) * 1, none⟩ (.string x2)]) rfl (by kernel_rfl) ⟨hs2, hb2, SlRd.cells hX1 encS_ok H 2 rfl hs2 ex2 0 _ rfl, trivial⟩ fun a hE => ?_
            obtain ⟨t_3, et_3, hm⟩ := bind_some hm
            refine WR.eff hE rfl rfl rfl rfl (OpTo.fn hE rfl rfl Try.call10 (mail_Box_string_Post_ok et_3 H.t1)) ?_
            rintro _ w ⟨rfl, H⟩ a hE
            refine WR.seg hE 16 [] [0, 1, 5, 6, 7, 60] (Lo := [(0, .slice sb s.length sc), (1, .slice sb2 s1.length sc2), (5, .pointer (some ⟨p, 0, none⟩)), (6, .pointer (some ⟨p1, 0, none⟩)), (7, .int .i64 i), (60, .bool (!t_3.1))]) (obs := []) rfl (by kernel_rfl) trivial fun a hE => ?_
            refine WR.done rfl ?_
            cases hm
            exact hk _ _ ⟨hE.sel [0, 1, 5, 6, 7, 60] (by kernel_rfl), H.t2.t2.t2⟩
        rintro a w ⟨hE, H⟩
        refine Runs.cond hE rfl (fun c => ?_) (fun c => ?_)
        · replace hm := cond_t c hm
          refine Runs.seq ?_
          refine Runs.region ?_
          refine WR.seg hE 1 [] [4] (Lo := [(4, .bool false)]) (obs := []) rfl (by kernel_rfl) trivial fun a hE => ?_
          refine WR.done rfl ?_
          refine Runs.ret hE Try.func3 rfl rfl ?_
          cases hm
          dsimp only at hR; cases hR
          exact ⟨rfl, H.x1.x0⟩
        · replace hm := cond_f c hm
          refine Runs.skip ?_
          refine Runs.inBlock ?_
          refine Runs.region ?_
          refine WR.seg hE 3 [] [0, 1, 5, 6, 7] (Lo := [(0, .slice sb s.length sc), (1, .slice sb2 s1.length sc2), (5, .pointer (some ⟨p, 0, none⟩)), (6, .pointer (some ⟨p1, 0, none⟩)), (7, .int .i64 (w64 (i + 1)))]) (obs := []) rfl (by kernel_rfl) trivial fun a hE => ?_
          refine WR.done rfl ?_
          exact ih m (Nat.lt_succ_self m) _ _ ⟨w64 (i + 1), s4.2.1, s4.2.2, hE.sel [0, 1, 5, 6, 7] (by kernel_rfl), H.t2.t2.t2, hm⟩
      · replace hm := cond_f c hm
        refine Runs.exit rfl ?_
        cases hm
        exact hk _ _ ⟨_, rfl, hE.sel [0, 1, 5, 6] (by kernel_rfl), H.t2.t2.t2⟩
  rintro a w ⟨s3, rfl, hE, H⟩
  replace hm := hR; dsimp only at hm
  refine Runs.seq ?_
  refine Runs.seq ?_
  refine Runs.region ?_
  refine WR.seg hE 1 [] [0, 1, 5, 6, 8] (Lo := [(0, .slice sb s.length sc), (1, .slice sb2 s1.length sc2), (5, .pointer (some ⟨p, 0, none⟩)), (6, .pointer (some ⟨p1, 0, none⟩)), (8, .int .i64 0)]) (obs := []) rfl (by kernel_rfl) trivial fun a hE => ?_
  refine WR.done rfl ?_
  obtain ⟨s5, es5, hR1⟩ := bind_some hm
  refine Runs.join (fun a w => ∃ s6, s5 = Sum.inr s6 ∧ EnvOk 171 a [(0, .slice sb s.length sc), (1, .slice sb2 s1.length sc2), (5, .pointer (some ⟨p, 0, none⟩)), (6, .pointer (some ⟨p1, 0, none⟩))] ∧ St w0 (mail_Box_string.R p1 al1 s3.1 :: mail_Desk_string.R p al s6 :: X_a_ :: As) w) (fun hk => ?_) ?_
  · replace hm := es5; clear es5
    refine Runs.block ?_
    refine Runs.loop (fun m a w => ∃ (i1 : Int), ∃ (m_2 : mail_Desk_string), EnvOk 171 a [(0, .slice sb s.length sc), (1, .slice sb2 s1.length sc2), (5, .pointer (some ⟨p, 0, none⟩)), (6, .pointer (some ⟨p1, 0, none⟩)), (8, .int .i64 i1)] ∧ St w0 (mail_Box_string.R p1 al1 s3.1 :: mail_Desk_string.R p al m_2 :: X_a_ :: As) w ∧ thicketlaw23_MailOrder_l1 s s1 s3.1 a_ m i1 m_2 = some s5) k ⟨0, s3.2, hE.sel [0, 1, 5, 6, 8] (by kernel_rfl), H.t2.t2.t2, hm⟩ ?_
    rintro m ih a w ⟨i1, m_2, hE, H, hm⟩
    cases m with
    | zero => simp [thicketlaw23_MailOrder_l1] at hm
    | succ m =>
      rw [thicketlaw23_MailOrder_l1] at hm
      refine Runs.seq ?_
      refine Runs.seq ?_
      refine Runs.region ?_
      refine WR.seg hE 4 [] [0, 1, 5, 6, 8, 64] (Lo := [(0, .slice sb s.length sc), (1, .slice sb2 s1.length sc2), (5, .pointer (some ⟨p, 0, none⟩)), (6, .pointer (some ⟨p1, 0, none⟩)), (8, .int .i64 i1), (64, .bool (decide (i1 < (s.length : Int))))]) (obs := []) rfl (by kernel_rfl) trivial fun a hE => ?_
      refine WR.done rfl ?_
      refine Runs.cond hE rfl (fun c => ?_) (fun c => ?_)
      · replace hm := cond_t c hm
        refine Runs.skip ?_
        refine Runs.seq ?_
        refine Runs.block ?_
        refine Runs.seq ?_
        refine Runs.region ?_
        obtain ⟨x3, ex3, hm⟩ := bind_some hm
        obtain ⟨b4, o3, hs3, hb3⟩ := SlRd.base hX encS_ok H 2 rfl ex3
        refine WR.seg hE 5 [.pointer (some ⟨b4, o3, none⟩), .string x3] [0, 1, 5, 6, 8, 67, 71] (Lo := [(0, .slice sb s.length sc), (1, .slice sb2 s1.length sc2), (5, .pointer (some ⟨p, 0, none⟩)), (6, .pointer (some ⟨p1, 0, none⟩)), (8, .int .i64 i1), (67, .pointer (some ⟨p, 0, none⟩)), (71, .string x3)]) (obs := [.p ((sb : Option Addr) = some ⟨b4, o3, none⟩), .p (0 ≤ (i1 : Int) ∧ (i1 : Int) < ((s.length : Nat) : Int)), .cell ⟨b4, o3 + (Int.toNat i1) * 1, none⟩ (.string x3)]) rfl (by kernel_rfl) ⟨hs3, hb3, SlRd.cells hX encS_ok H 2 rfl hs3 ex3 0 _ rfl, trivial⟩ fun a hE => ?_
        obtain ⟨t_4, et_4, hm⟩ := bind_some hm
        refine WR.eff hE rfl rfl rfl rfl (OpTo.fn hE rfl rfl Try.call9 (mail_Desk_string_Post_ok et_4 H.t1)) ?_
        rintro _ w ⟨rfl, H⟩ a hE
        refine WR.seg hE 7 [] [0, 1, 5, 6, 8, 73] (Lo := [(0, .slice sb s.length sc), (1, .slice sb2 s1.length sc2), (5, .pointer (some ⟨p, 0, none⟩)), (6, .pointer (some ⟨p1, 0, none⟩)), (8, .int .i64 i1), (73, .bool (t_4.1 != 0))]) (obs := []) rfl (by kernel_rfl) trivial fun a hE => ?_
        refine WR.done rfl ?_
        refine Runs.cond hE rfl (fun c => ?_) (fun c => ?_)
        · replace hm := cond_t c hm
          refine Runs.seq ?_
          refine Runs.region ?_
          refine WR.seg hE 1 [] [4] (Lo := [(4, .bool false)]) (obs := []) rfl (by kernel_rfl) trivial fun a hE => ?_
          refine WR.done rfl ?_
          refine Runs.ret hE Try.func3 rfl rfl ?_
          cases hm
          dsimp only at hR1; cases hR1
          exact ⟨rfl, H.x1.x0⟩
        · replace hm := cond_f c hm
          refine Runs.skip ?_
          refine Runs.inBlock ?_
          refine Runs.region ?_
          refine WR.seg hE 3 [] [0, 1, 5, 6, 8] (Lo := [(0, .slice sb s.length sc), (1, .slice sb2 s1.length sc2), (5, .pointer (some ⟨p, 0, none⟩)), (6, .pointer (some ⟨p1, 0, none⟩)), (8, .int .i64 (w64 (i1 + 1)))]) (obs := []) rfl (by kernel_rfl) trivial fun a hE => ?_
          refine WR.done rfl ?_
          exact ih m (Nat.lt_succ_self m) _ _ ⟨w64 (i1 + 1), t_4.2, hE.sel [0, 1, 5, 6, 8] (by kernel_rfl), H.t2.t1.t2, hm⟩
      · replace hm := cond_f c hm
        refine Runs.exit rfl ?_
        cases hm
        exact hk _ _ ⟨_, rfl, hE.sel [0, 1, 5, 6] (by kernel_rfl), H.t2.t2.t2⟩
  rintro a w ⟨s6, rfl, hE, H⟩
  replace hm := hR1; dsimp only at hm
  refine Runs.seq ?_
  refine Runs.seq ?_
  refine Runs.region ?_
  refine WR.seg hE 1 [] [0, 1, 5, 6, 9] (Lo := [(0, .slice sb s.length sc), (1, .slice sb2 s1.length sc2), (5, .pointer (some ⟨p, 0, none⟩)), (6, .pointer (some ⟨p1, 0, none⟩)), (9, .int .i64 0)]) (obs := []) rfl (by kernel_rfl) trivial fun a hE => ?_
  refine WR.done rfl ?_
  obtain ⟨s7, es7, hR2⟩ := bind_some hm
  refine Runs.join (fun a w => ∃ s8, s7 = Sum.inr s8 ∧ EnvOk 171 a [(1, .slice sb2 s1.length sc2), (5, .pointer (some ⟨p, 0, none⟩)), (6, .pointer (some ⟨p1, 0, none⟩))] ∧ St w0 (mail_Box_string.R p1 al1 s3.1 :: mail_Desk_string.R p al s8 :: X_a_ :: As) w) (fun hk => ?_) ?_
  · replace hm := es7; clear es7
    refine Runs.block ?_
    refine Runs.loop (fun m a w => ∃ (i2 : Int), ∃ (m_4 : mail_Desk_string), EnvOk 171 a [(0, .slice sb s.length sc), (1, .slice sb2 s1.length sc2), (5, .pointer (some ⟨p, 0, none⟩)), (6, .pointer (some ⟨p1, 0, none⟩)), (9, .int .i64 i2)] ∧ St w0 (mail_Box_string.R p1 al1 s3.1 :: mail_Desk_string.R p al m_4 :: X_a_ :: As) w ∧ thicketlaw23_MailOrder_l2 s s1 s3.1 a_ m i2 m_4 = some s7) k ⟨0, s6, hE.sel [0, 1, 5, 6, 9] (by kernel_rfl), H.t2.t2.t2, hm⟩ ?_
    rintro m ih a w ⟨i2, m_4, hE, H, hm⟩
    cases m with
    | zero => simp [thicketlaw23_MailOrder_l2] at hm
    | succ m =>
      rw [thicketlaw23_MailOrder_l2] at hm
      refine Runs.seq ?_
      refine Runs.seq ?_
      refine Runs.region ?_
      refine WR.seg hE 7 [] [0, 1, 5, 6, 9, 80] (Lo := [(0, .slice sb s.length sc), (1, .slice sb2 s1.length sc2), (5, .pointer (some ⟨p, 0, none⟩)), (6, .pointer (some ⟨p1, 0, none⟩)), (9, .int .i64 i2), (80, .bool (decide (i2 < w64 ((s.length : Int) + (s1.length : Int)))))]) (obs := []) rfl (by kernel_rfl) trivial fun a hE => ?_
      refine WR.done rfl ?_
      refine Runs.cond hE rfl (fun c => ?_) (fun c => ?_)
      · replace hm := cond_t c hm
        refine Runs.skip ?_
        refine Runs.seq ?_
        refine Runs.block ?_
        refine Runs.seq ?_
        refine Runs.region ?_
        refine WR.seg hE 1 [] [0, 1, 5, 6, 9, 84] (Lo := [(0, .slice sb s.length sc), (1, .slice sb2 s1.length sc2), (5, .pointer (some ⟨p, 0, none⟩)), (6, .pointer (some ⟨p1, 0, none⟩)), (9, .int .i64 i2), (84, .pointer (some ⟨p, 0, none⟩))]) (obs := []) rfl (by kernel_rfl) trivial fun a hE => ?_
        obtain ⟨t_5, et_5, hm⟩ := bind_some hm
        refine WR.eff hE rfl rfl rfl rfl (OpTo.fn hE rfl rfl Try.call11 (mail_Desk_string_Next_ok et_5 H.t1)) ?_
        rintro _ w ⟨rfl, H⟩ a hE
        refine WR.seg hE 9 [] [0, 1, 5, 6, 9, 10, 11, 12] (Lo := [(0, .slice sb s.length sc), (1, .slice sb2 s1.length sc2), (5, .pointer (some ⟨p, 0, none⟩)), (6, .pointer (some ⟨p1, 0, none⟩)), (9, .int .i64 i2), (10, .string t_5.1), (11, .int .i64 t_5.2.1), (12, .bool t_5.2.2.1)]) (obs := []) rfl (by kernel_rfl) trivial fun a hE => ?_
        refine WR.done rfl ?_
        refine Runs.seq ?_
        obtain ⟨s9, es9, hm⟩ := bind_some hm
        refine Runs.join (fun a w => EnvOk 171 a [(0, .slice sb s.length sc), (1, .slice sb2 s1.length sc2), (5, .pointer (some ⟨p, 0, none⟩)), (6, .pointer (some ⟨p1, 0, none⟩)), (9, .int .i64 i2), (129, .bool s9)] ∧ St w0 (mail_Desk_string.R p al t_5.2.2.2 :: mail_Box_string.R p1 al1 s3.1 :: X_a_ :: As) w) (fun hk => ?_) ?_
        · replace hm := es9; clear es9
          refine Runs.region ?_
          refine WR.seg hE 3 [] [0, 1, 5, 6, 9, 10, 11, 91] (Lo := [(0, .slice sb s.length sc), (1, .slice sb2 s1.length sc2), (5, .pointer (some ⟨p, 0, none⟩)), (6, .pointer (some ⟨p1, 0, none⟩)), (9, .int .i64 i2), (10, .string t_5.1), (11, .int .i64 t_5.2.1), (91, .bool (!t_5.2.2.1))]) (obs := []) rfl (by kernel_rfl) trivial fun a hE => ?_
          rcases Bool.eq_false_or_eq_true (!t_5.2.2.1) with c | c
          · replace hE := hE.dec 91 c (by kernel_rfl)
            replace hm := cond_t c hm
            have c_2 := c
            refine WR.seg hE 41 [] [0, 1, 5, 6, 9, 129] (Lo := [(0, .slice sb s.length sc), (1, .slice sb2 s1.length sc2), (5, .pointer (some ⟨p, 0, none⟩)), (6, .pointer (some ⟨p1, 0, none⟩)), (9, .int .i64 i2), (129, .bool true)]) (obs := []) rfl (by kernel_rfl) trivial fun a hE => ?_
            refine WR.done rfl ?_
            cases hm
            exact hk _ _ ⟨hE.sel [0, 1, 5, 6, 9, 129] (by kernel_rfl), H.t2.t2.t2⟩
          · replace hE := hE.dec 91 c (by kernel_rfl)
            replace hm := cond_f c hm
            have c_3 := c
            refine WR.seg hE 8 [] [0, 1, 5, 6, 9, 10, 11, 91, 96] (Lo := [(0, .slice sb s.length sc), (1, .slice sb2 s1.length sc2), (5, .pointer (some ⟨p, 0, none⟩)), (6, .pointer (some ⟨p1, 0, none⟩)), (9, .int .i64 i2), (10, .string t_5.1), (11, .int .i64 t_5.2.1), (91, .bool false), (96, .bool (decide (i2 < (s.length : Int))))]) (obs := []) rfl (by kernel_rfl) trivial fun a hE => ?_
            rcases Bool.eq_false_or_eq_true (decide (i2 < (s.length : Int))) with c | c
            · replace hE := hE.dec 96 c (by kernel_rfl)
              replace hm := cond_t c hm
              have c_4 := c
              refine WR.seg hE 11 [] [0, 1, 5, 6, 9, 10, 11, 91, 96, 99] (Lo := [(0, .slice sb s.length sc), (1, .slice sb2 s1.length sc2), (5, .pointer (some ⟨p, 0, none⟩)), (6, .pointer (some ⟨p1, 0, none⟩)), (9, .int .i64 i2), (10, .string t_5.1), (11, .int .i64 t_5.2.1), (91, .bool false), (96, .bool true), (99, .bool (t_5.2.1 != 0))]) (obs := []) rfl (by kernel_rfl) trivial fun a hE => ?_
              rcases Bool.eq_false_or_eq_true (t_5.2.1 != 0) with c | c
              · replace hE := hE.dec 99 c (by kernel_rfl)
                replace hm := cond_t c hm
                have c_5 := c
                refine WR.seg hE 41 [] [0, 1, 5, 6, 9, 129] (Lo := [(0, .slice sb s.length sc), (1, .slice sb2 s1.length sc2), (5, .pointer (some ⟨p, 0, none⟩)), (6, .pointer (some ⟨p1, 0, none⟩)), (9, .int .i64 i2), (129, .bool true)]) (obs := []) rfl (by kernel_rfl) trivial fun a hE => ?_
                refine WR.done rfl ?_
                cases hm
                exact hk _ _ ⟨hE.sel [0, 1, 5, 6, 9, 129] (by kernel_rfl), H.t2.t2.t2⟩
              · replace hE := hE.dec 99 c (by kernel_rfl)
                replace hm := cond_f c hm
                have c_6 := c
                obtain ⟨x5, ex5, hm⟩ := bind_some hm
                obtain ⟨b6, o5, hs5, hb5⟩ := SlRd.base hX encS_ok H 2 rfl ex5
                refine WR.seg hE 21 [.pointer (some ⟨b6, o5, none⟩), .string x5] [0, 1, 5, 6, 9, 10, 11, 109] (Lo := [(0, .slice sb s.length sc), (1, .slice sb2 s1.length sc2), (5, .pointer (some ⟨p, 0, none⟩)), (6, .pointer (some ⟨p1, 0, none⟩)), (9, .int .i64 i2), (10, .string t_5.1), (11, .int .i64 t_5.2.1), (109, .bool (!(t_5.1.toList == x5.toList)))]) (obs := [.p ((sb : Option Addr) = some ⟨b6, o5, none⟩), .p (0 ≤ (i2 : Int) ∧ (i2 : Int) < ((s.length : Nat) : Int)), .cell ⟨b6, o5 + (Int.toNat i2) * 1, none⟩ (.string x5)]) rfl (by kernel_rfl) ⟨hs5, hb5, SlRd.cells hX encS_ok H 2 rfl hs5 ex5 0 _ rfl, trivial⟩ fun a hE => ?_
                rcases Bool.eq_false_or_eq_true (!(t_5.1.toList == x5.toList)) with c | c
                · replace hE := hE.dec 109 c (by kernel_rfl)
                  replace hm := cond_t c hm
                  have c_7 := c
                  refine WR.seg hE 41 [] [0, 1, 5, 6, 9, 129] (Lo := [(0, .slice sb s.length sc), (1, .slice sb2 s1.length sc2), (5, .pointer (some ⟨p, 0, none⟩)), (6, .pointer (some ⟨p1, 0, none⟩)), (9, .int .i64 i2), (129, .bool true)]) (obs := []) rfl (by kernel_rfl) trivial fun a hE => ?_
                  refine WR.done rfl ?_
                  cases hm
                  exact hk _ _ ⟨hE.sel [0, 1, 5, 6, 9, 129] (by kernel_rfl), H.t2.t2.t2⟩
                · replace hE := hE.dec 109 c (by kernel_rfl)
                  replace hm := cond_f c hm
                  have c_8 := c
                  refine WR.seg hE 26 [] [0, 1, 5, 6, 9, 10, 11, 109, 114] (Lo := [(0, .slice sb s.length sc), (1, .slice sb2 s1.length sc2), (5, .pointer (some ⟨p, 0, none⟩)), (6, .pointer (some ⟨p1, 0, none⟩)), (9, .int .i64 i2), (10, .string t_5.1), (11, .int .i64 t_5.2.1), (109, .bool false), (114, .bool (decide (i2 ≥ (s.length : Int))))]) (obs := []) rfl (by kernel_rfl) trivial fun a hE => ?_
                  rcases Bool.eq_false_or_eq_true (decide (i2 ≥ (s.length : Int))) with c | c
                  · replace hE := hE.dec 114 c (by kernel_rfl)
                    replace hm := cond_t c hm
                    have c_9 := c
                    refine WR.seg hE 29 [] [0, 1, 5, 6, 9, 10, 109, 114, 117] (Lo := [(0, .slice sb s.length sc), (1, .slice sb2 s1.length sc2), (5, .pointer (some ⟨p, 0, none⟩)), (6, .pointer (some ⟨p1, 0, none⟩)), (9, .int .i64 i2), (10, .string t_5.1), (109, .bool false), (114, .bool true), (117, .bool (t_5.2.1 != 1))]) (obs := []) rfl (by kernel_rfl) trivial fun a hE => ?_
                    rcases Bool.eq_false_or_eq_true (t_5.2.1 != 1) with c | c
                    · replace hE := hE.dec 117 c (by kernel_rfl)
                      replace hm := cond_t c hm
                      have c_10 := c
                      refine WR.seg hE 41 [] [0, 1, 5, 6, 9, 129] (Lo := [(0, .slice sb s.length sc), (1, .slice sb2 s1.length sc2), (5, .pointer (some ⟨p, 0, none⟩)), (6, .pointer (some ⟨p1, 0, none⟩)), (9, .int .i64 i2), (129, .bool true)]) (obs := []) rfl (by kernel_rfl) trivial fun a hE => ?_
                      refine WR.done rfl ?_
                      cases hm
                      exact hk _ _ ⟨hE.sel [0, 1, 5, 6, 9, 129] (by kernel_rfl), H.t2.t2.t2⟩
                    · replace hE := hE.dec 117 c (by kernel_rfl)
                      replace hm := cond_f c hm
                      have c_11 := c
                      obtain ⟨x6, ex6, hm⟩ := bind_some hm
                      obtain ⟨b7, o6, hs6, hb6⟩ := SlRd.base hX1 encS_ok H 2 rfl ex6
                      refine WR.seg hE 41 [.pointer (some ⟨b7, o6, none⟩), .string x6] [0, 1, 5, 6, 9, 129] (Lo := [(0, .slice sb s.length sc), (1, .slice sb2 s1.length sc2), (5, .pointer (some ⟨p, 0, none⟩)), (6, .pointer (some ⟨p1, 0, none⟩)), (9, .int .i64 i2), (129, .bool (!(t_5.1.toList == x6.toList)))]) (obs := [.p ((sb2 : Option Addr) = some ⟨b7, o6, none⟩), .p (0 ≤ ((w64 (i2 - (s.length : Int))) : Int) ∧ ((w64 (i2 - (s.length : Int))) : Int) < ((s1.length : Nat) : Int)), .cell ⟨b7, o6 + (Int.toNat (w64 (i2 - (s.length : Int)))) * 1, none⟩ (.string x6)]) rfl (by kernel_rfl) ⟨hs6, hb6, SlRd.cells hX1 encS_ok H 2 rfl hs6 ex6 0 _ rfl, trivial⟩ fun a hE => ?_
                      refine WR.done rfl ?_
                      cases hm
                      exact hk _ _ ⟨hE.sel [0, 1, 5, 6, 9, 129] (by kernel_rfl), H.t2.t2.t2⟩
                  · replace hE := hE.dec 114 c (by kernel_rfl)
                    replace hm := cond_f c hm
                    have c_12 := c
                    refine WR.seg hE 41 [] [0, 1, 5, 6, 9, 129] (Lo := [(0, .slice sb s.length sc), (1, .slice sb2 s1.length sc2), (5, .pointer (some ⟨p, 0, none⟩)), (6, .pointer (some ⟨p1, 0, none⟩)), (9, .int .i64 i2), (129, .bool false)]) (obs := []) rfl (by kernel_rfl) trivial fun a hE => ?_
                    refine WR.done rfl ?_
                    cases hm
                    exact hk _ _ ⟨hE.sel [0, 1, 5, 6, 9, 129] (by kernel_rfl), H.t2.t2.t2⟩
            · replace hE := hE.dec 96 c (by kernel_rfl)
              replace hm := cond_f c hm
              have c_13 := c
              refine WR.seg hE 26 [] [0, 1, 5, 6, 9, 10, 11, 109, 114] (Lo := [(0, .slice sb s.length sc), (1, .slice sb2 s1.length sc2), (5, .pointer (some ⟨p, 0, none⟩)), (6, .pointer (some ⟨p1, 0, none⟩)), (9, .int .i64 i2), (10, .string t_5.1), (11, .int .i64 t_5.2.1), (109, .bool false), (114, .bool (decide (i2 ≥ (s.length : Int))))]) (obs := []) rfl (by kernel_rfl) trivial fun a hE => ?_
              rcases Bool.eq_false_or_eq_true (decide (i2 ≥ (s.length : Int))) with c | c
              · replace hE := hE.dec 114 c (by kernel_rfl)
                replace hm := cond_t c hm
                have c_14 := c
                refine WR.seg hE 29 [] [0, 1, 5, 6, 9, 10, 109, 114, 117] (Lo := [(0, .slice sb s.length sc), (1, .slice sb2 s1.length sc2), (5, .pointer (some ⟨p, 0, none⟩)), (6, .pointer (some ⟨p1, 0, none⟩)), (9, .int .i64 i2), (10, .string t_5.1), (109, .bool false), (114, .bool true), (117, .bool (t_5.2.1 != 1))]) (obs := []) rfl (by kernel_rfl) trivial fun a hE => ?_
                rcases Bool.eq_false_or_eq_true (t_5.2.1 != 1) with c | c
                · replace hE := hE.dec 117 c (by kernel_rfl)
                  replace hm := cond_t c hm
                  have c_15 := c
                  refine WR.seg hE 41 [] [0, 1, 5, 6, 9, 129] (Lo := [(0, .slice sb s.length sc), (1, .slice sb2 s1.length sc2), (5, .pointer (some ⟨p, 0, none⟩)), (6, .pointer (some ⟨p1, 0, none⟩)), (9, .int .i64 i2), (129, .bool true)]) (obs := []) rfl (by kernel_rfl) trivial fun a hE => ?_
                  refine WR.done rfl ?_
                  cases hm
                  exact hk _ _ ⟨hE.sel [0, 1, 5, 6, 9, 129] (by kernel_rfl), H.t2.t2.t2⟩
                · replace hE := hE.dec 117 c (by kernel_rfl)
                  replace hm := cond_f c hm
                  have c_16 := c
                  obtain ⟨x7, ex7, hm⟩ := bind_some hm
                  obtain ⟨b8, o7, hs7, hb7⟩ := SlRd.base hX1 encS_ok H 2 rfl ex7
                  refine WR.seg hE 41 [.pointer (some ⟨b8, o7, none⟩), .string x7] [0, 1, 5, 6, 9, 129] (Lo := [(0, .slice sb s.length sc), (1, .slice sb2 s1.length sc2), (5, .pointer (some ⟨p, 0, none⟩)), (6, .pointer (some ⟨p1, 0, none⟩)), (9, .int .i64 i2), (129, .bool (!(t_5.1.toList == x7.toList)))]) (obs := [.p ((sb2 : Option Addr) = some ⟨b8, o7, none⟩), .p (0 ≤ ((w64 (i2 - (s.length : Int))) : Int) ∧ ((w64 (i2 - (s.length : Int))) : Int) < ((s1.length : Nat) : Int)), .cell ⟨b8, o7 + (Int.toNat (w64 (i2 - (s.length : Int)))) * 1, none⟩ (.string x7)]) rfl (by kernel_rfl) ⟨hs7, hb7, SlRd.cells hX1 encS_ok H 2 rfl hs7 ex7 0 _ rfl, trivial⟩ fun a hE => ?_
                  refine WR.done rfl ?_
                  cases hm
                  exact hk _ _ ⟨hE.sel [0, 1, 5, 6, 9, 129] (by kernel_rfl), H.t2.t2.t2⟩
              · replace hE := hE.dec 114 c (by kernel_rfl)
                replace hm := cond_f c hm
                have c_17 := c
                refine WR.seg hE 41 [] [0, 1, 5, 6, 9, 129] (Lo := [(0, .slice sb s.length sc), (1, .slice sb2 s1.length sc2), (5, .pointer (some ⟨p, 0, none⟩)), (6, .pointer (some ⟨p1, 0, none⟩)), (9, .int .i64 i2), (129, .bool false)]) (obs := []) rfl (by kernel_rfl) trivial fun a hE => ?_
                refine WR.done rfl ?_
                cases hm
                exact hk _ _ ⟨hE.sel [0, 1, 5, 6, 9, 129] (by kernel_rfl), H.t2.t2.t2⟩
        rintro a w ⟨hE, H⟩
        refine Runs.cond hE rfl (fun c => ?_) (fun c => ?_)
        · replace hm := cond_t c hm
          refine Runs.seq ?_
          refine Runs.region ?_
          refine WR.seg hE 1 [] [4] (Lo := [(4, .bool false)]) (obs := []) rfl (by kernel_rfl) trivial fun a hE => ?_
          refine WR.done rfl ?_
          refine Runs.ret hE Try.func3 rfl rfl ?_
          cases hm
          dsimp only at hR2; cases hR2
          exact ⟨rfl, H.x1.x0⟩
        · replace hm := cond_f c hm
          refine Runs.skip ?_
          refine Runs.inBlock ?_
          refine Runs.region ?_
          refine WR.seg hE 3 [] [0, 1, 5, 6, 9] (Lo := [(0, .slice sb s.length sc), (1, .slice sb2 s1.length sc2), (5, .pointer (some ⟨p, 0, none⟩)), (6, .pointer (some ⟨p1, 0, none⟩)), (9, .int .i64 (w64 (i2 + 1)))]) (obs := []) rfl (by kernel_rfl) trivial fun a hE => ?_
          refine WR.done rfl ?_
          exact ih m (Nat.lt_succ_self m) _ _ ⟨w64 (i2 + 1), t_5.2.2.2, hE.sel [0, 1, 5, 6, 9] (by kernel_rfl), H.t2.t1.t2, hm⟩
      · replace hm := cond_f c hm
        refine Runs.exit rfl ?_
        cases hm
        exact hk _ _ ⟨_, rfl, hE.sel [1, 5, 6] (by kernel_rfl), H.t2.t2.t2⟩
  rintro a w ⟨s8, rfl, hE, H⟩
  replace hm := hR2; dsimp only at hm
  refine Runs.seq ?_
  refine Runs.seq ?_
  refine Runs.region ?_
  refine WR.seg hE 1 [] [1, 5, 6, 13] (Lo := [(1, .slice sb2 s1.length sc2), (5, .pointer (some ⟨p, 0, none⟩)), (6, .pointer (some ⟨p1, 0, none⟩)), (13, .int .i64 0)]) (obs := []) rfl (by kernel_rfl) trivial fun a hE => ?_
  refine WR.done rfl ?_
  obtain ⟨s10, es10, hR3⟩ := bind_some hm
  refine Runs.join (fun a w => ∃ s11, s10 = Sum.inr s11 ∧ EnvOk 171 a [(5, .pointer (some ⟨p, 0, none⟩)), (6, .pointer (some ⟨p1, 0, none⟩))] ∧ St w0 (mail_Box_string.R p1 al1 s11 :: mail_Desk_string.R p al s8 :: X_a_ :: As) w) (fun hk => ?_) ?_
  · replace hm := es10; clear es10
    refine Runs.block ?_
    refine Runs.loop (fun m a w => ∃ (i3 : Int), ∃ (m_6 : mail_Box_string), EnvOk 171 a [(1, .slice sb2 s1.length sc2), (5, .pointer (some ⟨p, 0, none⟩)), (6, .pointer (some ⟨p1, 0, none⟩)), (13, .int .i64 i3)] ∧ St w0 (mail_Box_string.R p1 al1 m_6 :: mail_Desk_string.R p al s8 :: X_a_ :: As) w ∧ thicketlaw23_MailOrder_l3 s1 s8 a_ m i3 m_6 = some s10) k ⟨0, s3.1, hE.sel [1, 5, 6, 13] (by kernel_rfl), H.t2.t2.t2, hm⟩ ?_
    rintro m ih a w ⟨i3, m_6, hE, H, hm⟩
    cases m with
    | zero => simp [thicketlaw23_MailOrder_l3] at hm
    | succ m =>
      rw [thicketlaw23_MailOrder_l3] at hm
      refine Runs.seq ?_
      refine Runs.seq ?_
      refine Runs.region ?_
      refine WR.seg hE 4 [] [1, 5, 6, 13, 133] (Lo := [(1, .slice sb2 s1.length sc2), (5, .pointer (some ⟨p, 0, none⟩)), (6, .pointer (some ⟨p1, 0, none⟩)), (13, .int .i64 i3), (133, .bool (decide (i3 < (s1.length : Int))))]) (obs := []) rfl (by kernel_rfl) trivial fun a hE => ?_
      refine WR.done rfl ?_
      refine Runs.cond hE rfl (fun c => ?_) (fun c => ?_)
      · replace hm := cond_t c hm
        refine Runs.skip ?_
        refine Runs.seq ?_
        refine Runs.block ?_
        refine Runs.seq ?_
        refine Runs.region ?_
        refine WR.seg hE 1 [] [1, 5, 6, 13, 137] (Lo := [(1, .slice sb2 s1.length sc2), (5, .pointer (some ⟨p, 0, none⟩)), (6, .pointer (some ⟨p1, 0, none⟩)), (13, .int .i64 i3), (137, .pointer (some ⟨p1, 0, none⟩))]) (obs := []) rfl (by kernel_rfl) trivial fun a hE => ?_
        obtain ⟨t_6, et_6, hm⟩ := bind_some hm
        refine WR.eff hE rfl rfl rfl rfl (OpTo.fn hE rfl rfl Try.call12 (mail_Box_string_Take_ok et_6 H)) ?_
        rintro _ w ⟨rfl, H⟩ a hE
        refine WR.seg hE 7 [] [1, 5, 6, 13, 14, 15] (Lo := [(1, .slice sb2 s1.length sc2), (5, .pointer (some ⟨p, 0, none⟩)), (6, .pointer (some ⟨p1, 0, none⟩)), (13, .int .i64 i3), (14, .string t_6.1), (15, .bool t_6.2.1)]) (obs := []) rfl (by kernel_rfl) trivial fun a hE => ?_
        refine WR.done rfl ?_
        refine Runs.seq ?_
        obtain ⟨s12, es12, hm⟩ := bind_some hm
        refine Runs.join (fun a w => EnvOk 171 a [(1, .slice sb2 s1.length sc2), (5, .pointer (some ⟨p, 0, none⟩)), (6, .pointer (some ⟨p1, 0, none⟩)), (13, .int .i64 i3), (150, .bool s12)] ∧ St w0 (mail_Box_string.R p1 al1 t_6.2.2 :: mail_Desk_string.R p al s8 :: X_a_ :: As) w) (fun hk => ?_) ?_
        · replace hm := es12; clear es12
          refine Runs.region ?_
          refine WR.seg hE 3 [] [1, 5, 6, 13, 14, 143] (Lo := [(1, .slice sb2 s1.length sc2), (5, .pointer (some ⟨p, 0, none⟩)), (6, .pointer (some ⟨p1, 0, none⟩)), (13, .int .i64 i3), (14, .string t_6.1), (143, .bool (!t_6.2.1))]) (obs := []) rfl (by kernel_rfl) trivial fun a hE => ?_
          rcases Bool.eq_false_or_eq_true (!t_6.2.1) with c | c
          · replace hE := hE.dec 143 c (by kernel_rfl)
            replace hm := cond_t c hm
            have c_18 := c
            refine WR.seg hE 10 [] [1, 5, 6, 13, 150] (Lo := [(1, .slice sb2 s1.length sc2), (5, .pointer (some ⟨p, 0, none⟩)), (6, .pointer (some ⟨p1, 0, none⟩)), (13, .int .i64 i3), (150, .bool true)]) (obs := []) rfl (by kernel_rfl) trivial fun a hE => ?_
            refine WR.done rfl ?_
            cases hm
            exact hk _ _ ⟨hE.sel [1, 5, 6, 13, 150] (by kernel_rfl), H.t2.t2.t2⟩
          · replace hE := hE.dec 143 c (by kernel_rfl)
            replace hm := cond_f c hm
            have c_19 := c
            obtain ⟨x9, ex9, hm⟩ := bind_some hm
            obtain ⟨b10, o9, hs9, hb9⟩ := SlRd.base hX1 encS_ok H 2 rfl ex9
            refine WR.seg hE 10 [.pointer (some ⟨b10, o9, none⟩), .string x9] [1, 5, 6, 13, 150] (Lo := [(1, .slice sb2 s1.length sc2), (5, .pointer (some ⟨p, 0, none⟩)), (6, .pointer (some ⟨p1, 0, none⟩)), (13, .int .i64 i3), (150, .bool (!(t_6.1.toList == x9.toList)))]) (obs := [.p ((sb2 : Option Addr) = some ⟨b10, o9, none⟩), .p (0 ≤ (i3 : Int) ∧ (i3 : Int) < ((s1.length : Nat) : Int)), .cell ⟨b10, o9 + (Int.toNat i3) * 1, none⟩ (.string x9)]) rfl (by kernel_rfl) ⟨hs9, hb9, SlRd.cells hX1 encS_ok H 2 rfl hs9 ex9 0 _ rfl, trivial⟩ fun a hE => ?_
            refine WR.done rfl ?_
            cases hm
            exact hk _ _ ⟨hE.sel [1, 5, 6, 13, 150] (by kernel_rfl), H.t2.t2.t2⟩
        rintro a w ⟨hE, H⟩
        refine Runs.cond hE rfl (fun c => ?_) (fun c => ?_)
        · replace hm := cond_t c hm
          refine Runs.seq ?_
          refine Runs.region ?_
          refine WR.seg hE 1 [] [4] (Lo := [(4, .bool false)]) (obs := []) rfl (by kernel_rfl) trivial fun a hE => ?_
          refine WR.done rfl ?_
          refine Runs.ret hE Try.func3 rfl rfl ?_
          cases hm
          dsimp only at hR3; cases hR3
          exact ⟨rfl, H.x1.x0⟩
        · replace hm := cond_f c hm
          refine Runs.skip ?_
          refine Runs.inBlock ?_
          refine Runs.region ?_
          refine WR.seg hE 3 [] [1, 5, 6, 13] (Lo := [(1, .slice sb2 s1.length sc2), (5, .pointer (some ⟨p, 0, none⟩)), (6, .pointer (some ⟨p1, 0, none⟩)), (13, .int .i64 (w64 (i3 + 1)))]) (obs := []) rfl (by kernel_rfl) trivial fun a hE => ?_
          refine WR.done rfl ?_
          exact ih m (Nat.lt_succ_self m) _ _ ⟨w64 (i3 + 1), t_6.2.2, hE.sel [1, 5, 6, 13] (by kernel_rfl), H.t2.t2.t2, hm⟩
      · replace hm := cond_f c hm
        refine Runs.exit rfl ?_
        cases hm
        exact hk _ _ ⟨_, rfl, hE.sel [5, 6] (by kernel_rfl), H.t2.t2.t2⟩
  rintro a w ⟨s11, rfl, hE, H⟩
  replace hm := hR3; dsimp only at hm
  refine Runs.seq ?_
  refine Runs.region ?_
  refine WR.seg hE 1 [] [6, 152] (Lo := [(6, .pointer (some ⟨p1, 0, none⟩)), (152, .pointer (some ⟨p, 0, none⟩))]) (obs := []) rfl (by kernel_rfl) trivial fun a hE => ?_
  obtain ⟨t_7, et_7, hm⟩ := bind_some hm
  refine WR.eff hE rfl rfl rfl rfl (OpTo.fn hE rfl rfl Try.call11 (mail_Desk_string_Next_ok et_7 H.t1)) ?_
  rintro _ w ⟨rfl, H⟩ a hE
  refine WR.seg hE 9 [] [6, 18] (Lo := [(6, .pointer (some ⟨p1, 0, none⟩)), (18, .bool t_7.2.2.1)]) (obs := []) rfl (by kernel_rfl) trivial fun a hE => ?_
  refine WR.done rfl ?_
  refine Runs.seq ?_
  refine Runs.region ?_
  refine WR.seg hE 1 [] [18, 158] (Lo := [(18, .bool t_7.2.2.1), (158, .pointer (some ⟨p1, 0, none⟩))]) (obs := []) rfl (by kernel_rfl) trivial fun a hE => ?_
  obtain ⟨t_8, et_8, hm⟩ := bind_some hm
  refine WR.eff hE rfl rfl rfl rfl (OpTo.fn hE rfl rfl Try.call12 (mail_Box_string_Take_ok et_8 H.t1)) ?_
  rintro _ w ⟨rfl, H⟩ a hE
  refine WR.seg hE 7 [] [18, 20] (Lo := [(18, .bool t_7.2.2.1), (20, .bool t_8.2.1)]) (obs := []) rfl (by kernel_rfl) trivial fun a hE => ?_
  refine WR.done rfl ?_
  refine Runs.seq ?_
  obtain ⟨s13, es13, hm⟩ := bind_some hm
  refine Runs.join (fun a w => EnvOk 171 a [(4, .bool s13)] ∧ St w0 (mail_Box_string.R p1 al1 t_8.2.2 :: mail_Desk_string.R p al t_7.2.2.2 :: X_a_ :: As) w) (fun hk => ?_) ?_
  · replace hm := es13; clear es13
    refine Runs.region ?_
    refine WR.seg hE 3 [] [20, 164] (Lo := [(20, .bool t_8.2.1), (164, .bool (!t_7.2.2.1))]) (obs := []) rfl (by kernel_rfl) trivial fun a hE => ?_
    rcases Bool.eq_false_or_eq_true (!t_7.2.2.1) with c | c
    · replace hE := hE.dec 164 c (by kernel_rfl)
      replace hm := cond_t c hm
      have c_20 := c
      refine WR.seg hE 7 [] [168] (Lo := [(168, .bool (!t_8.2.1))]) (obs := []) rfl (by kernel_rfl) trivial fun a hE => ?_
      rcases Bool.eq_false_or_eq_true (!t_8.2.1) with c | c
      · replace hE := hE.dec 168 c (by kernel_rfl)
        replace hm := cond_t c hm
        have c_21 := c
        obtain ⟨t_9, et_9, hm⟩ := bind_some hm
        refine WR.eff hE rfl rfl rfl rfl (OpTo.fn hE rfl rfl Try.call13 (thicketlaw23_known_ok et_9 H)) ?_
        rintro _ w ⟨rfl, H⟩ a hE
        refine WR.seg hE 10 [] [4] (Lo := [(4, .bool t_9)]) (obs := []) rfl (by kernel_rfl) trivial fun a hE => ?_
        refine WR.done rfl ?_
        cases hm
        exact hk _ _ ⟨hE.sel [4] (by kernel_rfl), H.t2.t2.t2⟩
      · replace hE := hE.dec 168 c (by kernel_rfl)
        replace hm := cond_f c hm
        have c_22 := c
        refine WR.seg hE 10 [] [4] (Lo := [(4, .bool false)]) (obs := []) rfl (by kernel_rfl) trivial fun a hE => ?_
        refine WR.done rfl ?_
        cases hm
        exact hk _ _ ⟨hE.sel [4] (by kernel_rfl), H.t2.t2.t2⟩
    · replace hE := hE.dec 164 c (by kernel_rfl)
      replace hm := cond_f c hm
      have c_23 := c
      refine WR.seg hE 10 [] [4] (Lo := [(4, .bool false)]) (obs := []) rfl (by kernel_rfl) trivial fun a hE => ?_
      refine WR.done rfl ?_
      cases hm
      exact hk _ _ ⟨hE.sel [4] (by kernel_rfl), H.t2.t2.t2⟩
  rintro a w ⟨hE, H⟩
  refine Runs.ret hE Try.func3 rfl rfl ?_
  cases hm
  exact ⟨rfl, H.x1.x0⟩

theorem thicketbook_Within_ok {w0 w : World} {As : List HP} {n : Int} {lo : Int} {hi : Int} {t : Int}  (hm : thicketbook_Within n lo hi = some t) (H : St w0 (As) w) :
    CallsR Try.prog 14 #[.int .i64 n, .int .i64 lo, .int .i64 hi] w fun v w' => v = .int .i64 t ∧ St w0 (As) w' := by
  rw [thicketbook_Within] at hm
  refine enter (args := [.int .i64 n, .int .i64 lo, .int .i64 hi]) Try.func14 rfl rfl rfl fun a hE => ?_
  refine Runs.seq ?_
  refine Runs.region ?_
  refine WR.seg hE 1 [] [0, 1, 2] (Lo := [(0, .int .i64 n), (1, .int .i64 lo), (2, .int .i64 hi)]) (obs := []) rfl (by kernel_rfl) trivial fun a hE => ?_
  refine WR.done rfl ?_
  refine Runs.seq ?_
  refine Runs.seq ?_
  refine Runs.join (fun a w => EnvOk 33 a [(0, .int .i64 n), (1, .int .i64 lo), (2, .int .i64 hi), (14, .bool ((decide (n ≥ lo)) && (decide (n ≤ hi))))] ∧ St w0 (As) w) (fun hk => ?_) ?_
  · clear hm
    refine Runs.region ?_
    refine WR.seg hE 4 [] [0, 1, 2, 10] (Lo := [(0, .int .i64 n), (1, .int .i64 lo), (2, .int .i64 hi), (10, .bool (decide (n ≥ lo)))]) (obs := []) rfl (by kernel_rfl) trivial fun a hE => ?_
    rcases Bool.eq_false_or_eq_true (decide (n ≥ lo)) with c | c
    · replace hE := hE.dec 10 c (by kernel_rfl)
      have c_ := c
      refine WR.seg hE 8 [] [0, 1, 2, 14] (Lo := [(0, .int .i64 n), (1, .int .i64 lo), (2, .int .i64 hi), (14, .bool (decide (n ≤ hi)))]) (obs := []) rfl (by kernel_rfl) trivial fun a hE => ?_
      refine WR.done rfl ?_
      refine hk _ _ ⟨?_, H⟩
      try rw [c_] at hE
      try rw [c_]
      exact hE.sel [0, 1, 2, 14] (by kernel_rfl)
    · replace hE := hE.dec 10 c (by kernel_rfl)
      have c_1 := c
      refine WR.seg hE 8 [] [0, 1, 2, 14] (Lo := [(0, .int .i64 n), (1, .int .i64 lo), (2, .int .i64 hi), (14, .bool false)]) (obs := []) rfl (by kernel_rfl) trivial fun a hE => ?_
      refine WR.done rfl ?_
      refine hk _ _ ⟨?_, H⟩
      try rw [c_1] at hE
      try rw [c_1]
      exact hE.sel [0, 1, 2, 14] (by kernel_rfl)
  rintro a w ⟨hE, H⟩
  refine Runs.cond hE rfl (fun c => ?_) (fun c => ?_)
  · replace hm := cond_t c hm
    refine Runs.seq ?_
    refine Runs.region ?_
    refine WR.seg hE 2 [] [6] (Lo := [(6, .int .i64 n)]) (obs := []) rfl (by kernel_rfl) trivial fun a hE => ?_
    refine WR.done rfl ?_
    refine Runs.ret hE Try.func14 rfl rfl ?_
    cases hm
    exact ⟨rfl, H⟩
  · replace hm := cond_f c hm
    refine Runs.skip ?_
    refine Runs.seq ?_
    refine Runs.region ?_
    obtain ⟨u, eu, hm⟩ := bind_some hm
    refine WR.seg hE 7 [] [0, 1, 2] (Lo := [(0, .int .i64 (Int.tmod n (w64 ((w64 (hi - lo)) + 1)))), (1, .int .i64 lo), (2, .int .i64 hi)]) (obs := [.p (w64 ((w64 (hi - lo)) + 1) ≠ 0)]) rfl (by kernel_rfl) ⟨(nz_spec eu), trivial⟩ fun a hE => ?_
    refine WR.done rfl ?_
    refine Runs.seq ?_
    refine Runs.seq ?_
    refine Runs.region ?_
    refine WR.seg hE 2 [] [0, 1, 2, 23] (Lo := [(0, .int .i64 (Int.tmod n (w64 ((w64 (hi - lo)) + 1)))), (1, .int .i64 lo), (2, .int .i64 hi), (23, .bool (decide (Int.tmod n (w64 ((w64 (hi - lo)) + 1)) < 0)))]) (obs := []) rfl (by kernel_rfl) trivial fun a hE => ?_
    refine WR.done rfl ?_
    obtain ⟨s, es, hm⟩ := bind_some hm
    refine Runs.join (fun a w => EnvOk 33 a [(0, .int .i64 s), (1, .int .i64 lo)] ∧ St w0 (As) w) (fun hk => ?_) ?_
    · replace hm := es; clear es
      refine Runs.cond hE rfl (fun c => ?_) (fun c => ?_)
      · replace hm := cond_t c hm
        refine Runs.region ?_
        refine WR.seg hE 7 [] [0, 1] (Lo := [(0, .int .i64 (w64 ((w64 ((w64 ((Int.tmod n (w64 ((w64 (hi - lo)) + 1))) + hi)) - lo)) + 1))), (1, .int .i64 lo)]) (obs := []) rfl (by kernel_rfl) trivial fun a hE => ?_
        refine WR.done rfl ?_
        cases hm
        exact hk _ _ ⟨hE.sel [0, 1] (by kernel_rfl), H⟩
      · replace hm := cond_f c hm
        refine Runs.skip ?_
        cases hm
        exact hk _ _ ⟨hE.sel [0, 1] (by kernel_rfl), H⟩
    rintro a w ⟨hE, H⟩
    refine Runs.seq ?_
    refine Runs.region ?_
    refine WR.seg hE 4 [] [6] (Lo := [(6, .int .i64 (w64 (lo + s)))]) (obs := []) rfl (by kernel_rfl) trivial fun a hE => ?_
    refine WR.done rfl ?_
    refine Runs.ret hE Try.func14 rfl rfl ?_
    cases hm
    exact ⟨rfl, H⟩

theorem mail_NewBox_int_ok {w0 w : World} {As : List HP} {room : Int} {t : mail_Box_int}  (hm : mail_NewBox_int room = some t) (H : St w0 (As) w) :
    CallsR Try.prog 25 #[.int .i64 room] w fun v w' => ∃ (q0 : Nat), ∃ (al0 : mail_Box_int.A), v = .pointer (some ⟨q0, 0, none⟩) ∧ St w0 (mail_Box_int.R q0 al0 t :: As) w' := by
  rw [mail_NewBox_int] at hm
  refine enter (args := [.int .i64 room]) Try.func25 rfl rfl rfl fun a hE => ?_
  refine Runs.seq ?_
  refine Runs.region ?_
  refine WR.seg hE 1 [] [0] (Lo := [(0, .int .i64 room)]) (obs := []) rfl (by kernel_rfl) trivial fun a hE => ?_
  refine WR.done rfl ?_
  refine Runs.seq ?_
  refine Runs.region ?_
  refine WR.seg hE 3 [] [5] (Lo := [(5, .int .i64 (if (if 4096 < room then 4096 else room) > 1 then (if 4096 < room then 4096 else room) else 1))]) (obs := []) rfl (by kernel_rfl) trivial fun a hE => ?_
  obtain ⟨m_, em_, hm⟩ := bind_some hm
  refine WR.eff hE rfl rfl rfl rfl (OpTo.makeCh vI em_ hE H rfl rfl rfl rfl rfl) ?_
  rintro _ w ⟨r, rfl, H⟩ a hE
  refine WR.seg hE 5 [] [7] (Lo := [(7, .agg #[.chan (some r)])]) (obs := []) rfl (by kernel_rfl) trivial fun a hE => ?_
  refine WR.eff hE rfl rfl rfl rfl (OpTo.new hE H [] (.cells #[.chan (some r)] 81 (0, 0)) (fun r => .pointer (some ⟨r, 0, none⟩)) (obs := []) rfl (fun _ => by kernel_rfl) trivial) ?_
  rintro _ w ⟨r1, rfl, H⟩ a hE
  refine WR.seg hE 7 [] [2] (Lo := [(2, .pointer (some ⟨r1, 0, none⟩))]) (obs := []) rfl (by kernel_rfl) trivial fun a hE => ?_
  refine WR.done rfl ?_
  replace H := mail_Box_int.shut (mail_Box_int.A.mk r) (mail_Box_int.mk m_) H.t1.t1
  refine Runs.ret hE Try.func25 rfl rfl ?_
  cases hm
  exact ⟨r1, mail_Box_int.A.mk r, rfl, H⟩

theorem mail_NewDesk_int_ok {w0 w : World} {As : List HP} {k : Nat} {boxes : Int} {room : Int} {t : mail_Desk_int}  (hm : mail_NewDesk_int k boxes room = some t) (H : St w0 (As) w) :
    CallsR Try.prog 15 #[.int .i64 boxes, .int .i64 room] w fun v w' => ∃ (q0 : Nat), ∃ (al0 : mail_Desk_int.A), v = .pointer (some ⟨q0, 0, none⟩) ∧ St w0 (mail_Desk_int.R q0 al0 t :: As) w' := by
  rw [mail_NewDesk_int] at hm
  refine enter (args := [.int .i64 boxes, .int .i64 room]) Try.func15 rfl rfl rfl fun a hE => ?_
  refine Runs.seq ?_
  refine Runs.region ?_
  refine WR.seg hE 1 [] [0, 1] (Lo := [(0, .int .i64 boxes), (1, .int .i64 room)]) (obs := []) rfl (by kernel_rfl) trivial fun a hE => ?_
  refine WR.done rfl ?_
  refine Runs.seq ?_
  refine Runs.region ?_
  refine WR.seg hE 1 [] [0, 1, 6] (Lo := [(0, .int .i64 boxes), (1, .int .i64 room), (6, .agg #[.slice none 0 0])]) (obs := []) rfl (by kernel_rfl) trivial fun a hE => ?_
  refine WR.eff hE rfl rfl rfl rfl (OpTo.new hE H [] (.cells #[.slice none 0 0] 62 (0, 0)) (fun r => .pointer (some ⟨r, 0, none⟩)) (obs := []) rfl (fun _ => by kernel_rfl) trivial) ?_
  rintro _ w ⟨r, rfl, H⟩ a hE
  refine WR.seg hE 3 [] [0, 1, 5] (Lo := [(0, .int .i64 boxes), (1, .int .i64 room), (5, .pointer (some ⟨r, 0, none⟩))]) (obs := []) rfl (by kernel_rfl) trivial fun a hE => ?_
  refine WR.done rfl ?_
  refine Runs.seq ?_
  refine Runs.seq ?_
  refine Runs.region ?_
  refine WR.seg hE 4 [] [1, 5, 10, 11] (Lo := [(1, .int .i64 room), (5, .pointer (some ⟨r, 0, none⟩)), (10, .int .i64 (if (if 4 < boxes then 4 else boxes) > 1 then (if 4 < boxes then 4 else boxes) else 1)), (11, .int .i64 0)]) (obs := []) rfl (by kernel_rfl) trivial fun a hE => ?_
  refine WR.done rfl ?_
  replace H := H.slxNil 63 mail_Box_int.encX mail_Box_int.RX
  replace H := mail_Desk_int.shut (mail_Desk_int.A.mk none 0) (mail_Desk_int.mk ([] : List mail_Box_int)) H.t1
  obtain ⟨s, es, hm⟩ := bind_some hm
  refine Runs.join (fun a w => ∃ (z2 : Option Addr), ∃ (z3 : Nat), EnvOk 26 a [(5, .pointer (some ⟨r, 0, none⟩))] ∧ St w0 (mail_Desk_int.R r (mail_Desk_int.A.mk z2 z3) s :: As) w) (fun hk => ?_) ?_
  · replace hm := es; clear es
    refine Runs.block ?_
    refine Runs.loop (fun m a w => ∃ (x : Int), ∃ (m_ : mail_Desk_int), ∃ (z4 : Option Addr), ∃ (z5 : Nat), EnvOk 26 a [(1, .int .i64 room), (5, .pointer (some ⟨r, 0, none⟩)), (10, .int .i64 (if (if 4 < boxes then 4 else boxes) > 1 then (if 4 < boxes then 4 else boxes) else 1)), (11, .int .i64 x)] ∧ St w0 (mail_Desk_int.R r (mail_Desk_int.A.mk z4 z5) m_ :: As) w ∧ mail_NewDesk_int_l0 room (if (if 4 < boxes then 4 else boxes) > 1 then (if 4 < boxes then 4 else boxes) else 1) m x m_ = some s) k ⟨0, mail_Desk_int.mk ([] : List mail_Box_int), none, 0, hE.sel [1, 5, 10, 11] (by kernel_rfl), H, hm⟩ ?_
    rintro m ih a w ⟨x, m_, z4, z5, hE, H, hm⟩
    cases m with
    | zero => simp [mail_NewDesk_int_l0] at hm
    | succ m =>
      rw [mail_NewDesk_int_l0] at hm
      refine Runs.seq ?_
      refine Runs.region ?_
      refine WR.seg hE 1 [] [1, 5, 10, 11, 12] (Lo := [(1, .int .i64 room), (5, .pointer (some ⟨r, 0, none⟩)), (10, .int .i64 (if (if 4 < boxes then 4 else boxes) > 1 then (if 4 < boxes then 4 else boxes) else 1)), (11, .int .i64 x), (12, .bool (decide (x < (if (if 4 < boxes then 4 else boxes) > 1 then (if 4 < boxes then 4 else boxes) else 1))))]) (obs := []) rfl (by kernel_rfl) trivial fun a hE => ?_
      refine WR.done rfl ?_
      refine Runs.seq ?_
      refine Runs.cond hE rfl (fun c => ?_) (fun c => ?_)
      · replace hm := cond_t c hm
        refine Runs.skip ?_
        refine Runs.seq ?_
        refine Runs.block ?_
        refine Runs.drawn mixed (by kernel_rfl) ?_
        replace H := H.drew
        replace H := mail_Desk_int.open H
        try dsimp only at H
        refine WQ.seg hE [0, 1, 2, 3, 4, 5] [.slice z4 m_.l.length z5] [1, 5, 10, 11, 13, 17, 18] (Lo := [(1, .int .i64 room), (5, .pointer (some ⟨r, 0, none⟩)), (10, .int .i64 (if (if 4 < boxes then 4 else boxes) > 1 then (if 4 < boxes then 4 else boxes) else 1)), (11, .int .i64 x), (13, .pointer (some ⟨r, 0, none⟩)), (17, .slice z4 m_.l.length z5), (18, .int .i64 room)]) (obs := [.cell ⟨r, 0, none⟩ (.slice z4 m_.l.length z5)]) (by kernel_rfl) (by kernel_rfl) ⟨H.cell 0 rfl rfl, trivial⟩ fun a hE => ?_
        obtain ⟨t_, et_, hm⟩ := bind_some hm
        refine WQ.eff (j := 6) (obs := [.cell ⟨r, 0, none⟩ (.slice z4 m_.l.length z5)]) hE (by kernel_rfl) rfl rfl rfl rfl (by kernel_rfl) (OpTo.fn hE rfl rfl Try.call25 (mail_NewBox_int_ok et_ H)) ?_
        rintro _ w ⟨p, al, rfl, H⟩
        refine ⟨⟨H.cell 1 rfl rfl, trivial⟩, fun a hE => ?_⟩
        refine WQ.eff (j := 7) (obs := [.cell ⟨r, 0, none⟩ (.slice z4 m_.l.length z5)]) hE (by kernel_rfl) rfl rfl rfl rfl (by kernel_rfl) (OpTo.buildSl (T := 63) hE H mail_Box_int.encX_ok ([(p, al)] : List (Nat × mail_Box_int.A)) rfl (fun _ => by kernel_rfl) rfl rfl rfl) ?_
        rintro _ w ⟨r1, rfl, H⟩
        replace H := St.slxOf (R := mail_Box_int.RX) ([(p, al)] : List (Nat × mail_Box_int.A)) ([t_] : List mail_Box_int) rfl H.t1.t1 rfl
        refine ⟨⟨H.cell 1 rfl rfl, trivial⟩, fun a hE => ?_⟩
        obtain ⟨l, el, hm⟩ := bind_some hm
        refine WQ.eff (j := 8) (obs := []) hE (by kernel_rfl) rfl rfl rfl rfl (by kernel_rfl) (OpTo.appendX el hE H.t2 mail_Box_int.encX_ok rfl rfl rfl rfl rfl rfl rfl rfl rfl rfl) ?_
        rintro _ w ⟨sb, sc, rfl, H⟩
        refine ⟨trivial, fun a hE => ?_⟩
        refine WQ.seg hE [9, 10] [] [1, 5, 10, 11, 21, 23] (Lo := [(1, .int .i64 room), (5, .pointer (some ⟨r, 0, none⟩)), (10, .int .i64 (if (if 4 < boxes then 4 else boxes) > 1 then (if 4 < boxes then 4 else boxes) else 1)), (11, .int .i64 x), (21, .slice sb l.length sc), (23, .pointer (some ⟨r, 0, none⟩))]) (obs := []) (by kernel_rfl) (by kernel_rfl) trivial fun a hE => ?_
        refine WQ.eff0 (j := 11) (obs := []) hE (by kernel_rfl) rfl rfl rfl (by kernel_rfl) (OpTo.store hE H.t1 rfl rfl rfl rfl rfl rfl (Nat.le_of_ble_eq_true rfl)) ?_
        rintro _ w H
        refine ⟨trivial, fun a hE => ?_⟩
        refine WQ.done (by kernel_rfl) ?_
        refine Runs.inBlock ?_
        refine Runs.region ?_
        refine WR.seg hE 2 [] [1, 5, 10, 11] (Lo := [(1, .int .i64 room), (5, .pointer (some ⟨r, 0, none⟩)), (10, .int .i64 (if (if 4 < boxes then 4 else boxes) > 1 then (if 4 < boxes then 4 else boxes) else 1)), (11, .int .i64 (w64 (x + 1)))]) (obs := []) rfl (by kernel_rfl) trivial fun a hE => ?_
        refine WR.done rfl ?_
        replace H := mail_Desk_int.shut (mail_Desk_int.A.mk sb sc) (mail_Desk_int.mk l) H.t1.t1
        exact ih m (Nat.lt_succ_self m) _ _ ⟨w64 (x + 1), mail_Desk_int.mk l, sb, sc, hE.sel [1, 5, 10, 11] (by kernel_rfl), H, hm⟩
      · replace hm := cond_f c hm
        refine Runs.exit rfl ?_
        cases hm
        exact hk _ _ ⟨z4, z5, hE.sel [5] (by kernel_rfl), H⟩
  rintro a w ⟨z2, z3, hE, H⟩
  refine Runs.seq ?_
  refine Runs.region ?_
  refine WR.seg hE 2 [] [4] (Lo := [(4, .pointer (some ⟨r, 0, none⟩))]) (obs := []) rfl (by kernel_rfl) trivial fun a hE => ?_
  refine WR.done rfl ?_
  refine Runs.ret hE Try.func15 rfl rfl ?_
  cases hm
  exact ⟨r, mail_Desk_int.A.mk z2 z3, rfl, H⟩

theorem mail_Box_int_Post_ok {w0 w : World} {As : List HP} {p_b : Nat} {al_b : mail_Box_int.A} {b : mail_Box_int} {v_ : Int} {t : Bool × mail_Box_int}  (hm : mail_Box_int_Post b v_ = some t) (H : St w0 (mail_Box_int.R p_b al_b b :: As) w) :
    CallsR Try.prog 26 #[.pointer (some ⟨p_b, 0, none⟩), .int .i64 v_] w fun v w' => v = .bool t.1 ∧ St w0 (mail_Box_int.R p_b al_b t.2 :: As) w' := by
  rw [mail_Box_int_Post] at hm
  refine enter (args := [.pointer (some ⟨p_b, 0, none⟩), .int .i64 v_]) Try.func26 rfl rfl rfl fun a hE => ?_
  refine Runs.seq ?_
  refine Runs.region ?_
  refine WR.seg hE 1 [] [0, 1] (Lo := [(0, .pointer (some ⟨p_b, 0, none⟩)), (1, .int .i64 v_)]) (obs := []) rfl (by kernel_rfl) trivial fun a hE => ?_
  refine WR.done rfl ?_
  refine Runs.seq ?_
  refine Runs.seq ?_
  refine Runs.region ?_
  replace H := mail_Box_int.open H
  refine WR.seg hE 4 [.chan (some al_b.c__p)] [1, 8] (Lo := [(1, .int .i64 v_), (8, .chan (some al_b.c__p))]) (obs := [.cell ⟨p_b, 0, none⟩ (.chan (some al_b.c__p))]) rfl (by kernel_rfl) ⟨H.cell 0 rfl rfl, trivial⟩ fun a hE => ?_
  refine WR.done rfl ?_
  refine Runs.region ?_
  refine WR.seg hE 1 [] [8, 9] (Lo := [(8, .chan (some al_b.c__p)), (9, .int .i64 v_)]) (obs := []) rfl (by kernel_rfl) trivial fun a hE => ?_
  refine WR.done rfl ?_
  refine Runs.seq ?_
  rcases Bool.eq_false_or_eq_true (MCh.room b.c_) with c | c
  · replace hm := cond_t c hm
    refine Runs.selSendT (u := v_) hE H.t1 rfl rfl rfl rfl rfl rfl rfl rfl rfl c fun a w hE H => ?_
    refine WR.seg hE 3 [] [12] (Lo := [(12, .bool true)]) (obs := []) rfl (by kernel_rfl) trivial fun a hE => ?_
    refine WR.done rfl ?_
    refine Runs.block ?_
    refine Runs.condT hE rfl ?_
    refine Runs.seq ?_
    refine Runs.region ?_
    refine WR.seg hE 1 [] [4] (Lo := [(4, .bool true)]) (obs := []) rfl (by kernel_rfl) trivial fun a hE => ?_
    refine WR.done rfl ?_
    replace H := mail_Box_int.shut al_b (mail_Box_int.mk (MCh.push b.c_ v_)) H.t1
    refine Runs.ret hE Try.func26 rfl rfl ?_
    cases hm
    exact ⟨rfl, H⟩
  · replace hm := cond_f c hm
    replace H := H.t1
    refine Runs.selSendF (u := v_) hE H rfl rfl rfl rfl rfl rfl rfl rfl rfl c fun a hE => ?_
    refine WR.seg hE 3 [] [12] (Lo := [(12, .bool false)]) (obs := []) rfl (by kernel_rfl) trivial fun a hE => ?_
    refine WR.done rfl ?_
    refine Runs.block ?_
    refine Runs.condF hE rfl ?_
    refine Runs.seq ?_
    refine Runs.region ?_
    refine WR.seg hE 1 [] [4] (Lo := [(4, .bool false)]) (obs := []) rfl (by kernel_rfl) trivial fun a hE => ?_
    refine WR.done rfl ?_
    replace H := mail_Box_int.shut al_b (b) H.t1
    refine Runs.ret hE Try.func26 rfl rfl ?_
    cases hm
    exact ⟨rfl, H⟩

theorem mail_Desk_int_Post_ok {w0 w : World} {As : List HP} {p_d : Nat} {al_d : mail_Desk_int.A} {d : mail_Desk_int} {box : Int} {v_ : Int} {t : Int × mail_Desk_int}  (hm : mail_Desk_int_Post d box v_ = some t) (H : St w0 (mail_Desk_int.R p_d al_d d :: As) w) :
    CallsR Try.prog 16 #[.pointer (some ⟨p_d, 0, none⟩), .int .i64 box, .int .i64 v_] w fun v w' => v = .int .i64 t.1 ∧ St w0 (mail_Desk_int.R p_d al_d t.2 :: As) w' := by
  rw [mail_Desk_int_Post] at hm
  refine enter (args := [.pointer (some ⟨p_d, 0, none⟩), .int .i64 box, .int .i64 v_]) Try.func16 rfl rfl rfl fun a hE => ?_
  refine Runs.seq ?_
  refine Runs.region ?_
  refine WR.seg hE 1 [] [0, 1, 2] (Lo := [(0, .pointer (some ⟨p_d, 0, none⟩)), (1, .int .i64 box), (2, .int .i64 v_)]) (obs := []) rfl (by kernel_rfl) trivial fun a hE => ?_
  refine WR.done rfl ?_
  refine Runs.seq ?_
  refine Runs.block ?_
  refine Runs.seq ?_
  obtain ⟨s, es, hm⟩ := bind_some hm
  refine Runs.join (fun a w => EnvOk 30 a [(0, .pointer (some ⟨p_d, 0, none⟩)), (1, .int .i64 box), (2, .int .i64 v_), (7, .bool s)] ∧ St w0 (mail_Desk_int.R p_d al_d d :: As) w) (fun hk => ?_) ?_
  · replace hm := es; clear es
    refine Runs.region ?_
    refine WR.seg hE 3 [] [0, 1, 2, 10] (Lo := [(0, .pointer (some ⟨p_d, 0, none⟩)), (1, .int .i64 box), (2, .int .i64 v_), (10, .bool (decide (box < 0)))]) (obs := []) rfl (by kernel_rfl) trivial fun a hE => ?_
    rcases Bool.eq_false_or_eq_true (decide (box < 0)) with c | c
    · replace hE := hE.dec 10 c (by kernel_rfl)
      replace hm := cond_t c hm
      have c_ := c
      refine WR.seg hE 12 [] [0, 1, 2, 7] (Lo := [(0, .pointer (some ⟨p_d, 0, none⟩)), (1, .int .i64 box), (2, .int .i64 v_), (7, .bool true)]) (obs := []) rfl (by kernel_rfl) trivial fun a hE => ?_
      refine WR.done rfl ?_
      cases hm
      exact hk _ _ ⟨hE.sel [0, 1, 2, 7] (by kernel_rfl), H⟩
    · replace hE := hE.dec 10 c (by kernel_rfl)
      replace hm := cond_f c hm
      have c_1 := c
      replace H := mail_Desk_int.open H
      refine WR.seg hE 12 [.slice al_d.l_b d.l.length al_d.l_c] [0, 1, 2, 7] (Lo := [(0, .pointer (some ⟨p_d, 0, none⟩)), (1, .int .i64 box), (2, .int .i64 v_), (7, .bool (decide (box ≥ (d.l.length : Int))))]) (obs := [.cell ⟨p_d, 0, none⟩ (.slice al_d.l_b d.l.length al_d.l_c)]) rfl (by kernel_rfl) ⟨H.cell 0 rfl rfl, trivial⟩ fun a hE => ?_
      refine WR.done rfl ?_
      replace H := mail_Desk_int.shut al_d (d) H.t1.t1
      cases hm
      exact hk _ _ ⟨hE.sel [0, 1, 2, 7] (by kernel_rfl), H⟩
  rintro a w ⟨hE, H⟩
  refine Runs.cond hE rfl (fun c => ?_) (fun c => ?_)
  · replace hm := cond_t c hm
    refine Runs.seq ?_
    refine Runs.region ?_
    refine WR.seg hE 1 [] [6] (Lo := [(6, .int .i64 30)]) (obs := []) rfl (by kernel_rfl) trivial fun a hE => ?_
    refine WR.done rfl ?_
    refine Runs.ret hE Try.func16 rfl rfl ?_
    cases hm
    exact ⟨rfl, H⟩
  · replace hm := cond_f c hm
    refine Runs.seq ?_
    refine Runs.region ?_
    replace H := mail_Desk_int.open H
    obtain ⟨x, ex, hm⟩ := bind_some hm
    obtain ⟨gs, ⟨p, al⟩, hgl, hg, H⟩ := St.slxTake (R := mail_Box_int.RX) H.t1 ex
    replace H : St w0 (mail_Box_int.R p al x :: Sl 63 mail_Box_int.encX 1 al_d.l_b al_d.l_c gs :: But mail_Box_int.RX gs d.l box :: _) w := H
    obtain ⟨b, o, hs, hb⟩ := SlRd.base (sl_rd 63 mail_Box_int.encX 1 _ _ _) mail_Box_int.encX_ok H 1 rfl hg
    refine WR.seg hE 8 [.slice al_d.l_b d.l.length al_d.l_c, .pointer (some ⟨b, o, none⟩), .pointer (some ⟨p, 0, none⟩)] [26, 27] (Lo := [(26, .pointer (some ⟨p, 0, none⟩)), (27, .int .i64 v_)]) (obs := [.cell ⟨p_d, 0, none⟩ (.slice al_d.l_b d.l.length al_d.l_c), .p ((al_d.l_b : Option Addr) = some ⟨b, o, none⟩), .p (0 ≤ (box : Int) ∧ (box : Int) < ((d.l.length : Nat) : Int)), .cell ⟨b, o + (Int.toNat box) * 1, none⟩ (.pointer (some ⟨p, 0, none⟩))]) rfl (by kernel_rfl) ⟨H.cell 3 rfl rfl, hs, (by have h_ := hb; rw [hgl] at h_; exact h_), SlRd.cells (sl_rd 63 mail_Box_int.encX 1 _ _ _) mail_Box_int.encX_ok H 1 rfl hs hg 0 _ rfl, trivial⟩ fun a hE => ?_
    obtain ⟨t_, et_, hm⟩ := bind_some hm
    refine WR.eff hE rfl rfl rfl rfl (OpTo.fn hE rfl rfl Try.call26 (mail_Box_int_Post_ok et_ H)) ?_
    rintro _ w ⟨rfl, H⟩ a hE
    refine WR.seg hE 11 [] [19] (Lo := [(19, .bool (!t_.1))]) (obs := []) rfl (by kernel_rfl) trivial fun a hE => ?_
    refine WR.done rfl ?_
    refine Runs.cond hE rfl (fun c => ?_) (fun c => ?_)
    · replace hm := cond_t c hm
      refine Runs.seq ?_
      refine Runs.region ?_
      refine WR.seg hE 1 [] [6] (Lo := [(6, .int .i64 13)]) (obs := []) rfl (by kernel_rfl) trivial fun a hE => ?_
      refine WR.done rfl ?_
      replace H := St.slxPut (R := mail_Box_int.RX) (g' := (p, al)) (x' := t_.2) H.t2.t2.t2 ex hgl hg rfl
      rw [← mSet_len d.l box t_.2] at H
      replace H := mail_Desk_int.shut al_d (mail_Desk_int.mk (mSet d.l box t_.2)) H.t1
      refine Runs.ret hE Try.func16 rfl rfl ?_
      cases hm
      exact ⟨rfl, H⟩
    · replace hm := cond_f c hm
      refine Runs.skip ?_
      refine Runs.inBlock ?_
      refine Runs.seq ?_
      refine Runs.region ?_
      refine WR.seg hE 1 [] [6] (Lo := [(6, .int .i64 0)]) (obs := []) rfl (by kernel_rfl) trivial fun a hE => ?_
      refine WR.done rfl ?_
      replace H := St.slxPut (R := mail_Box_int.RX) (g' := (p, al)) (x' := t_.2) H.t2.t2.t2 ex hgl hg rfl
      rw [← mSet_len d.l box t_.2] at H
      replace H := mail_Desk_int.shut al_d (mail_Desk_int.mk (mSet d.l box t_.2)) H.t1
      refine Runs.ret hE Try.func16 rfl rfl ?_
      cases hm
      exact ⟨rfl, H⟩

theorem mail_Box_int_Take_ok {w0 w : World} {As : List HP} {p_b : Nat} {al_b : mail_Box_int.A} {b : mail_Box_int} {t : Int × Bool × mail_Box_int}  (hm : mail_Box_int_Take b = some t) (H : St w0 (mail_Box_int.R p_b al_b b :: As) w) :
    CallsR Try.prog 27 #[.pointer (some ⟨p_b, 0, none⟩)] w fun v w' => v = .tuple #[.int .i64 t.1, .bool t.2.1] ∧ St w0 (mail_Box_int.R p_b al_b t.2.2 :: As) w' := by
  rw [mail_Box_int_Take] at hm
  refine enter (args := [.pointer (some ⟨p_b, 0, none⟩)]) Try.func27 rfl rfl rfl fun a hE => ?_
  refine Runs.seq ?_
  refine Runs.region ?_
  refine WR.seg hE 2 [] [0] (Lo := [(0, .pointer (some ⟨p_b, 0, none⟩))]) (obs := []) rfl (by kernel_rfl) trivial fun a hE => ?_
  refine WR.done rfl ?_
  refine Runs.seq ?_
  refine Runs.region ?_
  replace H := mail_Box_int.open H
  refine WR.seg hE 4 [.chan (some al_b.c__p)] [9] (Lo := [(9, .chan (some al_b.c__p))]) (obs := [.cell ⟨p_b, 0, none⟩ (.chan (some al_b.c__p))]) rfl (by kernel_rfl) ⟨H.cell 0 rfl rfl, trivial⟩ fun a hE => ?_
  refine WR.done rfl ?_
  refine Runs.seq ?_
  rcases hb : MCh.buf b.c_ with _ | ⟨u, r⟩
  · rw [hb] at hm; dsimp only at hm
    replace H := H.t1
    refine Runs.selRecvF hb hE H rfl rfl rfl rfl rfl rfl rfl rfl fun a hE => ?_
    refine WR.seg hE 3 [] [10, 12] (Lo := [(10, .tuple #[.int .i64 (-1), .bool false, .int .i64 0]), (12, .bool false)]) (obs := []) rfl (by kernel_rfl) trivial fun a hE => ?_
    refine WR.done rfl ?_
    refine Runs.block ?_
    refine Runs.condF hE rfl ?_
    refine Runs.seq ?_
    refine Runs.region ?_
    refine WR.seg hE 1 [] [5] (Lo := [(5, .int .i64 0)]) (obs := []) rfl (by kernel_rfl) trivial fun a hE => ?_
    refine WR.done rfl ?_
    refine Runs.seq ?_
    refine Runs.region ?_
    refine WR.seg hE 3 [] [2, 3] (Lo := [(2, .int .i64 0), (3, .bool false)]) (obs := []) rfl (by kernel_rfl) trivial fun a hE => ?_
    refine WR.done rfl ?_
    replace H := mail_Box_int.shut al_b (b) H.t1
    refine Runs.ret hE Try.func27 rfl rfl ?_
    cases hm
    exact ⟨rfl, H⟩
  · rw [hb] at hm; dsimp only at hm
    replace H := H.t1
    refine Runs.selRecvT hb hE H rfl rfl rfl rfl rfl rfl rfl rfl fun a w hE H => ?_
    refine WR.seg hE 3 [] [10, 12] (Lo := [(10, .tuple #[.int .i64 0, .bool true, .int .i64 u]), (12, .bool true)]) (obs := []) rfl (by kernel_rfl) trivial fun a hE => ?_
    refine WR.done rfl ?_
    refine Runs.block ?_
    refine Runs.condT hE rfl ?_
    refine Runs.seq ?_
    refine Runs.region ?_
    refine WR.seg hE 2 [] [4] (Lo := [(4, .int .i64 u)]) (obs := []) rfl (by kernel_rfl) trivial fun a hE => ?_
    refine WR.done rfl ?_
    refine Runs.seq ?_
    refine Runs.region ?_
    refine WR.seg hE 3 [] [2, 3] (Lo := [(2, .int .i64 u), (3, .bool true)]) (obs := []) rfl (by kernel_rfl) trivial fun a hE => ?_
    refine WR.done rfl ?_
    replace H := mail_Box_int.shut al_b (mail_Box_int.mk (MCh.rest b.c_ r)) H.t1
    refine Runs.ret hE Try.func27 rfl rfl ?_
    cases hm
    exact ⟨rfl, H⟩

theorem mail_Desk_int_Next_ok {w0 w : World} {As : List HP} {k : Nat} {p_d : Nat} {al_d : mail_Desk_int.A} {d : mail_Desk_int} {t : Int × Int × Bool × mail_Desk_int}  (hm : mail_Desk_int_Next k d = some t) (H : St w0 (mail_Desk_int.R p_d al_d d :: As) w) :
    CallsR Try.prog 17 #[.pointer (some ⟨p_d, 0, none⟩)] w fun v w' => v = .tuple #[.int .i64 t.1, .int .i64 t.2.1, .bool t.2.2.1] ∧ St w0 (mail_Desk_int.R p_d al_d t.2.2.2 :: As) w' := by
  rw [mail_Desk_int_Next] at hm
  refine enter (args := [.pointer (some ⟨p_d, 0, none⟩)]) Try.func17 rfl rfl rfl fun a hE => ?_
  refine Runs.seq ?_
  refine Runs.region ?_
  refine WR.seg hE 3 [] [0] (Lo := [(0, .pointer (some ⟨p_d, 0, none⟩))]) (obs := []) rfl (by kernel_rfl) trivial fun a hE => ?_
  refine WR.done rfl ?_
  refine Runs.seq ?_
  refine Runs.seq ?_
  refine Runs.region ?_
  replace H := mail_Desk_int.open H
  refine WR.seg hE 6 [.slice al_d.l_b d.l.length al_d.l_c] [13, 14, 15] (Lo := [(13, .slice al_d.l_b d.l.length al_d.l_c), (14, .int .i64 (d.l.length : Int)), (15, .int .i64 0)]) (obs := [.cell ⟨p_d, 0, none⟩ (.slice al_d.l_b d.l.length al_d.l_c)]) rfl (by kernel_rfl) ⟨H.cell 0 rfl rfl, trivial⟩ fun a hE => ?_
  refine WR.done rfl ?_
  replace H := mail_Desk_int.shut al_d (d) H.t1.t1
  obtain ⟨s, es, hR⟩ := bind_some hm
  refine Runs.join (fun a w => ∃ s1, s = Sum.inr s1 ∧ EnvOk 30 a [] ∧ St w0 (mail_Desk_int.R p_d al_d s1 :: As) w) (fun hk => ?_) ?_
  · replace hm := es; clear es
    refine Runs.block ?_
    refine Runs.loop (fun m a w => ∃ (x : Int), ∃ (m_ : mail_Desk_int), EnvOk 30 a [(13, .slice al_d.l_b m_.l.length al_d.l_c), (14, .int .i64 (d.l.length : Int)), (15, .int .i64 x)] ∧ St w0 (mail_Desk_int.R p_d al_d m_ :: As) w ∧ mail_Desk_int_Next_l0 (d.l.length : Int) m x m_ = some s) k ⟨0, d, hE.sel [13, 14, 15] (by kernel_rfl), H, hm⟩ ?_
    rintro m ih a w ⟨x, m_, hE, H, hm⟩
    cases m with
    | zero => simp [mail_Desk_int_Next_l0] at hm
    | succ m =>
      rw [mail_Desk_int_Next_l0] at hm
      refine Runs.seq ?_
      refine Runs.region ?_
      refine WR.seg hE 1 [] [13, 14, 15, 16] (Lo := [(13, .slice al_d.l_b m_.l.length al_d.l_c), (14, .int .i64 (d.l.length : Int)), (15, .int .i64 x), (16, .bool (decide (x < (d.l.length : Int))))]) (obs := []) rfl (by kernel_rfl) trivial fun a hE => ?_
      refine WR.done rfl ?_
      refine Runs.seq ?_
      refine Runs.cond hE rfl (fun c => ?_) (fun c => ?_)
      · replace hm := cond_t c hm
        refine Runs.skip ?_
        refine Runs.seq ?_
        refine Runs.block ?_
        refine Runs.seq ?_
        refine Runs.region ?_
        replace H := mail_Desk_int.open H
        obtain ⟨x2, ex2, hm⟩ := bind_some hm
        obtain ⟨gs, ⟨p, al⟩, hgl, hg, H⟩ := St.slxTake (R := mail_Box_int.RX) H.t1 ex2
        replace H : St w0 (mail_Box_int.R p al x2 :: Sl 63 mail_Box_int.encX 1 al_d.l_b al_d.l_c gs :: But mail_Box_int.RX gs m_.l x :: _) w := H
        obtain ⟨b, o, hs, hb⟩ := SlRd.base (sl_rd 63 mail_Box_int.encX 1 _ _ _) mail_Box_int.encX_ok H 1 rfl hg
        refine WR.seg hE 5 [.pointer (some ⟨b, o, none⟩), .pointer (some ⟨p, 0, none⟩)] [5, 6, 13, 14, 15] (Lo := [(5, .int .i64 x), (6, .pointer (some ⟨p, 0, none⟩)), (13, .slice al_d.l_b m_.l.length al_d.l_c), (14, .int .i64 (d.l.length : Int)), (15, .int .i64 x)]) (obs := [.p ((al_d.l_b : Option Addr) = some ⟨b, o, none⟩), .p (0 ≤ (x : Int) ∧ (x : Int) < ((m_.l.length : Nat) : Int)), .cell ⟨b, o + (Int.toNat x) * 1, none⟩ (.pointer (some ⟨p, 0, none⟩))]) rfl (by kernel_rfl) ⟨hs, (by have h_ := hb; rw [hgl] at h_; exact h_), SlRd.cells (sl_rd 63 mail_Box_int.encX 1 _ _ _) mail_Box_int.encX_ok H 1 rfl hs hg 0 _ rfl, trivial⟩ fun a hE => ?_
        refine WR.done rfl ?_
        refine Runs.seq ?_
        refine Runs.region ?_
        refine WR.seg hE 1 [] [5, 13, 14, 15, 21] (Lo := [(5, .int .i64 x), (13, .slice al_d.l_b m_.l.length al_d.l_c), (14, .int .i64 (d.l.length : Int)), (15, .int .i64 x), (21, .pointer (some ⟨p, 0, none⟩))]) (obs := []) rfl (by kernel_rfl) trivial fun a hE => ?_
        obtain ⟨t_, et_, hm⟩ := bind_some hm
        refine WR.eff hE rfl rfl rfl rfl (OpTo.fn hE rfl rfl Try.call27 (mail_Box_int_Take_ok et_ H)) ?_
        rintro _ w ⟨rfl, H⟩ a hE
        refine WR.seg hE 7 [] [5, 7, 8, 13, 14, 15] (Lo := [(5, .int .i64 x), (7, .int .i64 t_.1), (8, .bool t_.2.1), (13, .slice al_d.l_b m_.l.length al_d.l_c), (14, .int .i64 (d.l.length : Int)), (15, .int .i64 x)]) (obs := []) rfl (by kernel_rfl) trivial fun a hE => ?_
        refine WR.done rfl ?_
        refine Runs.seq ?_
        refine Runs.region ?_
        refine WR.seg hE 1 [] [5, 7, 13, 14, 15, 25] (Lo := [(5, .int .i64 x), (7, .int .i64 t_.1), (13, .slice al_d.l_b m_.l.length al_d.l_c), (14, .int .i64 (d.l.length : Int)), (15, .int .i64 x), (25, .bool t_.2.1)]) (obs := []) rfl (by kernel_rfl) trivial fun a hE => ?_
        refine WR.done rfl ?_
        refine Runs.cond hE rfl (fun c => ?_) (fun c => ?_)
        · replace hm := cond_t c hm
          refine Runs.seq ?_
          refine Runs.region ?_
          refine WR.seg hE 5 [] [2, 3, 4] (Lo := [(2, .int .i64 t_.1), (3, .int .i64 x), (4, .bool true)]) (obs := []) rfl (by kernel_rfl) trivial fun a hE => ?_
          refine WR.done rfl ?_
          replace H := St.slxPut (R := mail_Box_int.RX) (g' := (p, al)) (x' := t_.2.2) H.t2.t2.t2 ex2 hgl hg rfl
          rw [← mSet_len m_.l x t_.2.2] at H
          replace H := mail_Desk_int.shut al_d (mail_Desk_int.mk (mSet m_.l x t_.2.2)) H.t1
          refine Runs.ret hE Try.func17 rfl rfl ?_
          cases hm
          dsimp only at hR; cases hR
          exact ⟨rfl, H⟩
        · replace hm := cond_f c hm
          refine Runs.skip ?_
          refine Runs.inBlock ?_
          refine Runs.region ?_
          refine WR.seg hE 2 [] [13, 14, 15] (Lo := [(13, .slice al_d.l_b m_.l.length al_d.l_c), (14, .int .i64 (d.l.length : Int)), (15, .int .i64 (w64 (x + 1)))]) (obs := []) rfl (by kernel_rfl) trivial fun a hE => ?_
          refine WR.done rfl ?_
          replace H := St.slxPut (R := mail_Box_int.RX) (g' := (p, al)) (x' := t_.2.2) H.t2.t2.t2 ex2 hgl hg rfl
          rw [← mSet_len m_.l x t_.2.2] at H
          try rw [← mSet_len m_.l x t_.2.2] at hE
          replace H := mail_Desk_int.shut al_d (mail_Desk_int.mk (mSet m_.l x t_.2.2)) H.t1
          exact ih m (Nat.lt_succ_self m) _ _ ⟨w64 (x + 1), mail_Desk_int.mk (mSet m_.l x t_.2.2), hE.sel [13, 14, 15] (by kernel_rfl), H, hm⟩
      · replace hm := cond_f c hm
        refine Runs.exit rfl ?_
        cases hm
        exact hk _ _ ⟨_, rfl, hE.sel [] (by kernel_rfl), H⟩
  rintro a w ⟨s1, rfl, hE, H⟩
  replace hm := hR; dsimp only at hm
  refine Runs.seq ?_
  refine Runs.region ?_
  refine WR.seg hE 1 [] [9] (Lo := [(9, .int .i64 0)]) (obs := []) rfl (by kernel_rfl) trivial fun a hE => ?_
  refine WR.done rfl ?_
  refine Runs.seq ?_
  refine Runs.region ?_
  refine WR.seg hE 4 [] [2, 3, 4] (Lo := [(2, .int .i64 0), (3, .int .i64 0), (4, .bool false)]) (obs := []) rfl (by kernel_rfl) trivial fun a hE => ?_
  refine WR.done rfl ?_
  refine Runs.ret hE Try.func17 rfl rfl ?_
  cases hm
  exact ⟨rfl, H⟩

theorem mail_Box_int_Len_ok {w0 w : World} {As : List HP} {p_b : Nat} {al_b : mail_Box_int.A} {b : mail_Box_int} {t : Int}  (hm : mail_Box_int_Len b = some t) (H : St w0 (mail_Box_int.R p_b al_b b :: As) w) :
    CallsR Try.prog 28 #[.pointer (some ⟨p_b, 0, none⟩)] w fun v w' => v = .int .i64 t ∧ St w0 (mail_Box_int.R p_b al_b b :: As) w' := by
  rw [mail_Box_int_Len] at hm
  refine enter (args := [.pointer (some ⟨p_b, 0, none⟩)]) Try.func28 rfl rfl rfl fun a hE => ?_
  refine Runs.seq ?_
  refine Runs.region ?_
  refine WR.seg hE 1 [] [0] (Lo := [(0, .pointer (some ⟨p_b, 0, none⟩))]) (obs := []) rfl (by kernel_rfl) trivial fun a hE => ?_
  refine WR.done rfl ?_
  refine Runs.seq ?_
  refine Runs.region ?_
  replace H := mail_Box_int.open H
  refine WR.seg hE 4 [.chan (some al_b.c__p)] [6] (Lo := [(6, .chan (some al_b.c__p))]) (obs := [.cell ⟨p_b, 0, none⟩ (.chan (some al_b.c__p))]) rfl (by kernel_rfl) ⟨H.cell 0 rfl rfl, trivial⟩ fun a hE => ?_
  refine WR.eff hE rfl rfl rfl rfl (OpTo.lenChM 1 hE H rfl rfl rfl rfl) ?_
  rintro _ _ ⟨rfl, rfl⟩ a hE
  refine WR.seg hE 6 [] [2] (Lo := [(2, .int .i64 (b.c_.buf.length : Int))]) (obs := []) rfl (by kernel_rfl) trivial fun a hE => ?_
  refine WR.done rfl ?_
  replace H := mail_Box_int.shut al_b (b) H.t1.t1
  refine Runs.ret hE Try.func28 rfl rfl ?_
  cases hm
  exact ⟨rfl, H⟩

theorem mail_Desk_int_Len_ok {w0 w : World} {As : List HP} {k : Nat} {p_d : Nat} {al_d : mail_Desk_int.A} {d : mail_Desk_int} {t : Int}  (hm : mail_Desk_int_Len k d = some t) (H : St w0 (mail_Desk_int.R p_d al_d d :: As) w) :
    CallsR Try.prog 18 #[.pointer (some ⟨p_d, 0, none⟩)] w fun v w' => v = .int .i64 t ∧ St w0 (mail_Desk_int.R p_d al_d d :: As) w' := by
  rw [mail_Desk_int_Len] at hm
  refine enter (args := [.pointer (some ⟨p_d, 0, none⟩)]) Try.func18 rfl rfl rfl fun a hE => ?_
  refine Runs.seq ?_
  refine Runs.region ?_
  refine WR.seg hE 1 [] [0] (Lo := [(0, .pointer (some ⟨p_d, 0, none⟩))]) (obs := []) rfl (by kernel_rfl) trivial fun a hE => ?_
  refine WR.done rfl ?_
  refine Runs.seq ?_
  refine Runs.region ?_
  refine WR.seg hE 1 [] [0, 3] (Lo := [(0, .pointer (some ⟨p_d, 0, none⟩)), (3, .int .i64 0)]) (obs := []) rfl (by kernel_rfl) trivial fun a hE => ?_
  refine WR.done rfl ?_
  refine Runs.seq ?_
  refine Runs.seq ?_
  refine Runs.region ?_
  replace H := mail_Desk_int.open H
  refine WR.seg hE 6 [.slice al_d.l_b d.l.length al_d.l_c] [3, 9, 10, 11] (Lo := [(3, .int .i64 0), (9, .slice al_d.l_b d.l.length al_d.l_c), (10, .int .i64 (d.l.length : Int)), (11, .int .i64 0)]) (obs := [.cell ⟨p_d, 0, none⟩ (.slice al_d.l_b d.l.length al_d.l_c)]) rfl (by kernel_rfl) ⟨H.cell 0 rfl rfl, trivial⟩ fun a hE => ?_
  refine WR.done rfl ?_
  replace H := mail_Desk_int.shut al_d (d) H.t1.t1
  obtain ⟨s, es, hm⟩ := bind_some hm
  refine Runs.join (fun a w => EnvOk 21 a [(3, .int .i64 s)] ∧ St w0 (mail_Desk_int.R p_d al_d d :: As) w) (fun hk => ?_) ?_
  · replace hm := es; clear es
    refine Runs.block ?_
    refine Runs.loop (fun m a w => ∃ (n : Int), ∃ (x : Int), EnvOk 21 a [(3, .int .i64 n), (9, .slice al_d.l_b d.l.length al_d.l_c), (10, .int .i64 (d.l.length : Int)), (11, .int .i64 x)] ∧ St w0 (mail_Desk_int.R p_d al_d d :: As) w ∧ mail_Desk_int_Len_l0 (d.l.length : Int) d m n x = some s) k ⟨0, 0, hE.sel [3, 9, 10, 11] (by kernel_rfl), H, hm⟩ ?_
    rintro m ih a w ⟨n, x, hE, H, hm⟩
    cases m with
    | zero => simp [mail_Desk_int_Len_l0] at hm
    | succ m =>
      rw [mail_Desk_int_Len_l0] at hm
      refine Runs.seq ?_
      refine Runs.region ?_
      refine WR.seg hE 1 [] [3, 9, 10, 11, 12] (Lo := [(3, .int .i64 n), (9, .slice al_d.l_b d.l.length al_d.l_c), (10, .int .i64 (d.l.length : Int)), (11, .int .i64 x), (12, .bool (decide (x < (d.l.length : Int))))]) (obs := []) rfl (by kernel_rfl) trivial fun a hE => ?_
      refine WR.done rfl ?_
      refine Runs.seq ?_
      refine Runs.cond hE rfl (fun c => ?_) (fun c => ?_)
      · replace hm := cond_t c hm
        refine Runs.skip ?_
        refine Runs.seq ?_
        refine Runs.block ?_
        refine Runs.seq ?_
        refine Runs.region ?_
        replace H := mail_Desk_int.open H
        obtain ⟨x2, ex2, hm⟩ := bind_some hm
        obtain ⟨gs, ⟨p, al⟩, hgl, hg, H⟩ := St.slxTake (R := mail_Box_int.RX) H.t1 ex2
        replace H : St w0 (mail_Box_int.R p al x2 :: Sl 63 mail_Box_int.encX 1 al_d.l_b al_d.l_c gs :: But mail_Box_int.RX gs d.l x :: _) w := H
        obtain ⟨b, o, hs, hb⟩ := SlRd.base (sl_rd 63 mail_Box_int.encX 1 _ _ _) mail_Box_int.encX_ok H 1 rfl hg
        refine WR.seg hE 3 [.pointer (some ⟨b, o, none⟩), .pointer (some ⟨p, 0, none⟩)] [3, 5, 9, 10, 11] (Lo := [(3, .int .i64 n), (5, .pointer (some ⟨p, 0, none⟩)), (9, .slice al_d.l_b d.l.length al_d.l_c), (10, .int .i64 (d.l.length : Int)), (11, .int .i64 x)]) (obs := [.p ((al_d.l_b : Option Addr) = some ⟨b, o, none⟩), .p (0 ≤ (x : Int) ∧ (x : Int) < ((d.l.length : Nat) : Int)), .cell ⟨b, o + (Int.toNat x) * 1, none⟩ (.pointer (some ⟨p, 0, none⟩))]) rfl (by kernel_rfl) ⟨hs, (by have h_ := hb; rw [hgl] at h_; exact h_), SlRd.cells (sl_rd 63 mail_Box_int.encX 1 _ _ _) mail_Box_int.encX_ok H 1 rfl hs hg 0 _ rfl, trivial⟩ fun a hE => ?_
        refine WR.done rfl ?_
        refine Runs.region ?_
        refine WR.seg hE 2 [] [3, 9, 10, 11, 15, 16] (Lo := [(3, .int .i64 n), (9, .slice al_d.l_b d.l.length al_d.l_c), (10, .int .i64 (d.l.length : Int)), (11, .int .i64 x), (15, .int .i64 n), (16, .pointer (some ⟨p, 0, none⟩))]) (obs := []) rfl (by kernel_rfl) trivial fun a hE => ?_
        obtain ⟨t_, et_, hm⟩ := bind_some hm
        refine WR.eff hE rfl rfl rfl rfl (OpTo.fn hE rfl rfl Try.call28 (mail_Box_int_Len_ok et_ H)) ?_
        rintro _ w ⟨rfl, H⟩ a hE
        refine WR.seg hE 5 [] [3, 9, 10, 11] (Lo := [(3, .int .i64 (w64 (n + t_))), (9, .slice al_d.l_b d.l.length al_d.l_c), (10, .int .i64 (d.l.length : Int)), (11, .int .i64 x)]) (obs := []) rfl (by kernel_rfl) trivial fun a hE => ?_
        refine WR.done rfl ?_
        refine Runs.inBlock ?_
        refine Runs.region ?_
        refine WR.seg hE 2 [] [3, 9, 10, 11] (Lo := [(3, .int .i64 (w64 (n + t_))), (9, .slice al_d.l_b d.l.length al_d.l_c), (10, .int .i64 (d.l.length : Int)), (11, .int .i64 (w64 (x + 1)))]) (obs := []) rfl (by kernel_rfl) trivial fun a hE => ?_
        refine WR.done rfl ?_
        replace H := St.slxPut0 (R := mail_Box_int.RX) (g' := (p, al)) (x := x2) H.t2.t2.t2 ex2 hgl hg rfl
        replace H := mail_Desk_int.shut al_d (d) H.t1
        exact ih m (Nat.lt_succ_self m) _ _ ⟨w64 (n + t_), w64 (x + 1), hE.sel [3, 9, 10, 11] (by kernel_rfl), H, hm⟩
      · replace hm := cond_f c hm
        refine Runs.exit rfl ?_
        cases hm
        exact hk _ _ ⟨hE.sel [3] (by kernel_rfl), H⟩
  rintro a w ⟨hE, H⟩
  refine Runs.seq ?_
  refine Runs.region ?_
  refine WR.seg hE 2 [] [2] (Lo := [(2, .int .i64 s)]) (obs := []) rfl (by kernel_rfl) trivial fun a hE => ?_
  refine WR.done rfl ?_
  refine Runs.ret hE Try.func18 rfl rfl ?_
  cases hm
  exact ⟨rfl, H⟩

theorem thicketlaw23_MailFull_ok {w0 w : World} {As : List HP} {k : Nat} {boxes : Int} {room : Int} {sb_posts : Option Addr} {sc_posts : Nat} {posts : List Int} {X_posts : HP} {t : Bool} (hX_posts : SlRd X_posts encI 1 sb_posts posts) (hC_posts : posts.length ≤ sc_posts) (hm : thicketlaw23_MailFull k boxes room posts = some t) (H : St w0 (X_posts :: As) w) :
    CallsR Try.prog 4 #[.int .i64 boxes, .int .i64 room, .slice sb_posts posts.length sc_posts] w fun v w' => v = .bool t ∧ St w0 (X_posts :: As) w' := by
  rw [thicketlaw23_MailFull] at hm
  refine enter (args := [.int .i64 boxes, .int .i64 room, .slice sb_posts posts.length sc_posts]) Try.func4 rfl rfl rfl fun a hE => ?_
  refine Runs.seq ?_
  refine Runs.region ?_
  refine WR.seg hE 1 [] [0, 1, 2] (Lo := [(0, .int .i64 boxes), (1, .int .i64 room), (2, .slice sb_posts posts.length sc_posts)]) (obs := []) rfl (by kernel_rfl) trivial fun a hE => ?_
  refine WR.done rfl ?_
  refine Runs.seq ?_
  refine Runs.region ?_
  refine WR.seg hE 1 [] [1, 2, 23] (Lo := [(1, .int .i64 room), (2, .slice sb_posts posts.length sc_posts), (23, .int .i64 boxes)]) (obs := []) rfl (by kernel_rfl) trivial fun a hE => ?_
  obtain ⟨t_, et_, hm⟩ := bind_some hm
  refine WR.eff hE rfl rfl rfl rfl (OpTo.fn hE rfl rfl Try.call14 (thicketbook_Within_ok et_ H)) ?_
  rintro _ w ⟨rfl, H⟩ a hE
  refine WR.seg hE 3 [] [2, 24, 25] (Lo := [(2, .slice sb_posts posts.length sc_posts), (24, .int .i64 t_), (25, .int .i64 room)]) (obs := []) rfl (by kernel_rfl) trivial fun a hE => ?_
  obtain ⟨t_1, et_1, hm⟩ := bind_some hm
  refine WR.eff hE rfl rfl rfl rfl (OpTo.fn hE rfl rfl Try.call14 (thicketbook_Within_ok et_1 H)) ?_
  rintro _ w ⟨rfl, H⟩ a hE
  refine WR.seg hE 6 [] [2, 7, 8] (Lo := [(2, .slice sb_posts posts.length sc_posts), (7, .int .i64 t_), (8, .int .i64 t_1)]) (obs := []) rfl (by kernel_rfl) trivial fun a hE => ?_
  refine WR.done rfl ?_
  refine Runs.seq ?_
  refine Runs.region ?_
  refine WR.seg hE 2 [] [2, 7, 8, 27, 28] (Lo := [(2, .slice sb_posts posts.length sc_posts), (7, .int .i64 t_), (8, .int .i64 t_1), (27, .int .i64 t_), (28, .int .i64 t_1)]) (obs := []) rfl (by kernel_rfl) trivial fun a hE => ?_
  obtain ⟨t_2, et_2, hm⟩ := bind_some hm
  refine WR.eff hE rfl rfl rfl rfl (OpTo.fn hE rfl rfl Try.call15 (mail_NewDesk_int_ok et_2 H)) ?_
  rintro _ w ⟨p, al, rfl, H⟩ a hE
  refine WR.seg hE 4 [] [2, 7, 8, 9] (Lo := [(2, .slice sb_posts posts.length sc_posts), (7, .int .i64 t_), (8, .int .i64 t_1), (9, .pointer (some ⟨p, 0, none⟩))]) (obs := []) rfl (by kernel_rfl) trivial fun a hE => ?_
  refine WR.done rfl ?_
  refine Runs.seq ?_
  refine Runs.seq ?_
  refine Runs.region ?_
  refine WR.seg hE 2 [] [2, 7, 8, 9, 31] (Lo := [(2, .slice sb_posts posts.length sc_posts), (7, .int .i64 t_), (8, .int .i64 t_1), (9, .pointer (some ⟨p, 0, none⟩)), (31, .bool false)]) (obs := []) rfl (by kernel_rfl) trivial fun a hE => ?_
  refine WR.done rfl ?_
  refine Runs.condF hE rfl ?_
  refine Runs.skip ?_
  refine Runs.seq ?_
  refine Runs.region ?_
  refine WR.seg hE 1 [] [2, 7, 8, 9, 32] (Lo := [(2, .slice sb_posts posts.length sc_posts), (7, .int .i64 t_), (8, .int .i64 t_1), (9, .pointer (some ⟨p, 0, none⟩)), (32, .int .i64 t_)]) (obs := []) rfl (by kernel_rfl) trivial fun a hE => ?_
  obtain ⟨l, el, hm⟩ := bind_some hm
  refine WR.eff hE rfl rfl rfl rfl (OpTo.make el hE H encI_ok rfl rfl rfl rfl rfl rfl rfl rfl) ?_
  rintro _ w ⟨r, rfl, H⟩ a hE
  refine WR.seg hE 3 [] [2, 7, 8, 9, 10] (Lo := [(2, .slice sb_posts posts.length sc_posts), (7, .int .i64 t_), (8, .int .i64 t_1), (9, .pointer (some ⟨p, 0, none⟩)), (10, .slice (some ⟨r, 0, none⟩) l.length l.length)]) (obs := []) rfl (by kernel_rfl) trivial fun a hE => ?_
  refine WR.done rfl ?_
  refine Runs.seq ?_
  refine Runs.region ?_
  refine WR.seg hE 1 [] [2, 7, 8, 9, 10, 11] (Lo := [(2, .slice sb_posts posts.length sc_posts), (7, .int .i64 t_), (8, .int .i64 t_1), (9, .pointer (some ⟨p, 0, none⟩)), (10, .slice (some ⟨r, 0, none⟩) l.length l.length), (11, .int .i64 0)]) (obs := []) rfl (by kernel_rfl) trivial fun a hE => ?_
  refine WR.done rfl ?_
  refine Runs.seq ?_
  refine Runs.seq ?_
  refine Runs.region ?_
  refine WR.seg hE 1 [] [2, 7, 8, 9, 10, 11, 12] (Lo := [(2, .slice sb_posts posts.length sc_posts), (7, .int .i64 t_), (8, .int .i64 t_1), (9, .pointer (some ⟨p, 0, none⟩)), (10, .slice (some ⟨r, 0, none⟩) l.length l.length), (11, .int .i64 0), (12, .int .i64 0)]) (obs := []) rfl (by kernel_rfl) trivial fun a hE => ?_
  refine WR.done rfl ?_
  obtain ⟨s, es, hR⟩ := bind_some hm
  refine Runs.join (fun a w => ∃ s1, s = Sum.inr s1 ∧ EnvOk 117 a [(9, .pointer (some ⟨p, 0, none⟩)), (11, .int .i64 s1.1)] ∧ St w0 (mail_Desk_int.R p al s1.2 :: X_posts :: As) w) (fun hk => ?_) ?_
  · replace hm := es; clear es
    refine Runs.block ?_
    refine Runs.loop (fun m a w => ∃ (in_ : Int), ∃ (i : Int), ∃ (m_ : List Int), ∃ (m_1 : mail_Desk_int), EnvOk 117 a [(2, .slice sb_posts posts.length sc_posts), (7, .int .i64 t_), (8, .int .i64 t_1), (9, .pointer (some ⟨p, 0, none⟩)), (10, .slice (some ⟨r, 0, none⟩) m_.length l.length), (11, .int .i64 in_), (12, .int .i64 i)] ∧ St w0 (Sl 3 encI 1 (some ⟨r, 0, none⟩) l.length m_ :: mail_Desk_int.R p al m_1 :: X_posts :: As) w ∧ thicketlaw23_MailFull_l0 t_ t_1 posts m in_ i m_ m_1 = some s) k ⟨0, 0, l, t_2, hE.sel [2, 7, 8, 9, 10, 11, 12] (by kernel_rfl), H.t2.t2.t2, hm⟩ ?_
    rintro m ih a w ⟨in_, i, m_, m_1, hE, H, hm⟩
    cases m with
    | zero => simp [thicketlaw23_MailFull_l0] at hm
    | succ m =>
      rw [thicketlaw23_MailFull_l0] at hm
      refine Runs.seq ?_
      refine Runs.seq ?_
      refine Runs.join (fun a w => EnvOk 117 a [(2, .slice sb_posts posts.length sc_posts), (7, .int .i64 t_), (8, .int .i64 t_1), (9, .pointer (some ⟨p, 0, none⟩)), (10, .slice (some ⟨r, 0, none⟩) m_.length l.length), (11, .int .i64 in_), (12, .int .i64 i), (41, .bool ((decide (i < (posts.length : Int))) && (decide (i < 60))))] ∧ St w0 (Sl 3 encI 1 (some ⟨r, 0, none⟩) l.length m_ :: mail_Desk_int.R p al m_1 :: X_posts :: As) w) (fun hk => ?_) ?_
      · clear hm
        refine Runs.region ?_
        refine WR.seg hE 5 [] [2, 7, 8, 9, 10, 11, 12, 38] (Lo := [(2, .slice sb_posts posts.length sc_posts), (7, .int .i64 t_), (8, .int .i64 t_1), (9, .pointer (some ⟨p, 0, none⟩)), (10, .slice (some ⟨r, 0, none⟩) m_.length l.length), (11, .int .i64 in_), (12, .int .i64 i), (38, .bool (decide (i < (posts.length : Int))))]) (obs := []) rfl (by kernel_rfl) trivial fun a hE => ?_
        rcases Bool.eq_false_or_eq_true (decide (i < (posts.length : Int))) with c | c
        · replace hE := hE.dec 38 c (by kernel_rfl)
          have c_ := c
          refine WR.seg hE 8 [] [2, 7, 8, 9, 10, 11, 12, 41] (Lo := [(2, .slice sb_posts posts.length sc_posts), (7, .int .i64 t_), (8, .int .i64 t_1), (9, .pointer (some ⟨p, 0, none⟩)), (10, .slice (some ⟨r, 0, none⟩) m_.length l.length), (11, .int .i64 in_), (12, .int .i64 i), (41, .bool (decide (i < 60)))]) (obs := []) rfl (by kernel_rfl) trivial fun a hE => ?_
          refine WR.done rfl ?_
          refine hk _ _ ⟨?_, H.t2.t2.t2⟩
          try rw [c_] at hE
          try rw [c_]
          exact hE.sel [2, 7, 8, 9, 10, 11, 12, 41] (by kernel_rfl)
        · replace hE := hE.dec 38 c (by kernel_rfl)
          have c_1 := c
          refine WR.seg hE 8 [] [2, 7, 8, 9, 10, 11, 12, 41] (Lo := [(2, .slice sb_posts posts.length sc_posts), (7, .int .i64 t_), (8, .int .i64 t_1), (9, .pointer (some ⟨p, 0, none⟩)), (10, .slice (some ⟨r, 0, none⟩) m_.length l.length), (11, .int .i64 in_), (12, .int .i64 i), (41, .bool false)]) (obs := []) rfl (by kernel_rfl) trivial fun a hE => ?_
          refine WR.done rfl ?_
          refine hk _ _ ⟨?_, H.t2.t2.t2⟩
          try rw [c_1] at hE
          try rw [c_1]
          exact hE.sel [2, 7, 8, 9, 10, 11, 12, 41] (by kernel_rfl)
      rintro a w ⟨hE, H⟩
      refine Runs.cond hE rfl (fun c => ?_) (fun c => ?_)
      · replace hm := cond_t c hm
        refine Runs.skip ?_
        refine Runs.seq ?_
        obtain ⟨s2, es2, hR1⟩ := bind_some hm
        refine Runs.join (fun a w => ∃ s3, s2 = Sum.inr s3 ∧ EnvOk 117 a [(2, .slice sb_posts posts.length sc_posts), (7, .int .i64 t_), (8, .int .i64 t_1), (9, .pointer (some ⟨p, 0, none⟩)), (10, .slice (some ⟨r, 0, none⟩) s3.2.1.length l.length), (11, .int .i64 s3.1), (12, .int .i64 i)] ∧ St w0 (Sl 3 encI 1 (some ⟨r, 0, none⟩) l.length s3.2.1 :: mail_Desk_int.R p al s3.2.2 :: X_posts :: As) w) (fun hk => ?_) ?_
        · replace hm := es2; clear es2
          refine Runs.block ?_
          refine Runs.seq ?_
          refine Runs.region ?_
          obtain ⟨x, ex, hm⟩ := bind_some hm
          obtain ⟨b, o, hs, hb⟩ := SlRd.base hX_posts encI_ok H 2 rfl ex
          refine WR.seg hE 6 [.pointer (some ⟨b, o, none⟩), .int .i64 x] [2, 7, 8, 9, 10, 11, 12, 47, 49] (Lo := [(2, .slice sb_posts posts.length sc_posts), (7, .int .i64 t_), (8, .int .i64 t_1), (9, .pointer (some ⟨p, 0, none⟩)), (10, .slice (some ⟨r, 0, none⟩) m_.length l.length), (11, .int .i64 in_), (12, .int .i64 i), (47, .int .i64 x), (49, .int .i64 (w64 (t_ - 1)))]) (obs := [.p ((sb_posts : Option Addr) = some ⟨b, o, none⟩), .p (0 ≤ (i : Int) ∧ (i : Int) < ((posts.length : Nat) : Int)), .cell ⟨b, o + (Int.toNat i) * 1, none⟩ (.int .i64 x)]) rfl (by kernel_rfl) ⟨hs, hb, SlRd.cells hX_posts encI_ok H 2 rfl hs ex 0 _ rfl, trivial⟩ fun a hE => ?_
          obtain ⟨t_3, et_3, hm⟩ := bind_some hm
          refine WR.eff hE rfl rfl rfl rfl (OpTo.fn hE rfl rfl Try.call14 (thicketbook_Within_ok et_3 H)) ?_
          rintro _ w ⟨rfl, H⟩ a hE
          refine WR.seg hE 8 [] [2, 7, 8, 9, 10, 11, 12, 13] (Lo := [(2, .slice sb_posts posts.length sc_posts), (7, .int .i64 t_), (8, .int .i64 t_1), (9, .pointer (some ⟨p, 0, none⟩)), (10, .slice (some ⟨r, 0, none⟩) m_.length l.length), (11, .int .i64 in_), (12, .int .i64 i), (13, .int .i64 t_3)]) (obs := []) rfl (by kernel_rfl) trivial fun a hE => ?_
          refine WR.done rfl ?_
          refine Runs.seq ?_
          refine Runs.region ?_
          refine WR.seg hE 3 [] [2, 7, 8, 9, 10, 11, 12, 13, 51, 52, 53] (Lo := [(2, .slice sb_posts posts.length sc_posts), (7, .int .i64 t_), (8, .int .i64 t_1), (9, .pointer (some ⟨p, 0, none⟩)), (10, .slice (some ⟨r, 0, none⟩) m_.length l.length), (11, .int .i64 in_), (12, .int .i64 i), (13, .int .i64 t_3), (51, .pointer (some ⟨p, 0, none⟩)), (52, .int .i64 t_3), (53, .int .i64 i)]) (obs := []) rfl (by kernel_rfl) trivial fun a hE => ?_
          obtain ⟨t_4, et_4, hm⟩ := bind_some hm
          refine WR.eff hE rfl rfl rfl rfl (OpTo.fn hE rfl rfl Try.call16 (mail_Desk_int_Post_ok et_4 H.t1)) ?_
          rintro _ w ⟨rfl, H⟩ a hE
          refine WR.seg hE 5 [] [2, 7, 8, 9, 10, 11, 12, 13, 14] (Lo := [(2, .slice sb_posts posts.length sc_posts), (7, .int .i64 t_), (8, .int .i64 t_1), (9, .pointer (some ⟨p, 0, none⟩)), (10, .slice (some ⟨r, 0, none⟩) m_.length l.length), (11, .int .i64 in_), (12, .int .i64 i), (13, .int .i64 t_3), (14, .int .i64 t_4.1)]) (obs := []) rfl (by kernel_rfl) trivial fun a hE => ?_
          refine WR.done rfl ?_
          refine Runs.seq ?_
          refine Runs.seq ?_
          obtain ⟨s4, es4, hm⟩ := bind_some hm
          refine Runs.join (fun a w => EnvOk 117 a [(2, .slice sb_posts posts.length sc_posts), (7, .int .i64 t_), (8, .int .i64 t_1), (9, .pointer (some ⟨p, 0, none⟩)), (10, .slice (some ⟨r, 0, none⟩) m_.length l.length), (11, .int .i64 in_), (12, .int .i64 i), (13, .int .i64 t_3), (14, .int .i64 t_4.1), (71, .bool s4)] ∧ St w0 (mail_Desk_int.R p al t_4.2 :: Sl 3 encI 1 (some ⟨r, 0, none⟩) l.length m_ :: X_posts :: As) w) (fun hk => ?_) ?_
          · replace hm := es4; clear es4
            refine Runs.region ?_
            obtain ⟨x2, ex2, hm⟩ := bind_some hm
            obtain ⟨b2, o2, hs2, hb2⟩ := SlRd.base (sl_rd 3 encI 1 _ _ _) encI_ok H 1 rfl ex2
            refine WR.seg hE 10 [.pointer (some ⟨b2, o2, none⟩), .int .i64 x2] [2, 7, 8, 9, 10, 11, 12, 13, 14, 64] (Lo := [(2, .slice sb_posts posts.length sc_posts), (7, .int .i64 t_), (8, .int .i64 t_1), (9, .pointer (some ⟨p, 0, none⟩)), (10, .slice (some ⟨r, 0, none⟩) m_.length l.length), (11, .int .i64 in_), (12, .int .i64 i), (13, .int .i64 t_3), (14, .int .i64 t_4.1), (64, .bool (!((t_4.1 == 0) == (decide (x2 < t_1)))))]) (obs := [.p (((some ⟨r, 0, none⟩) : Option Addr) = some ⟨b2, o2, none⟩), .p (0 ≤ (t_3 : Int) ∧ (t_3 : Int) < ((m_.length : Nat) : Int)), .cell ⟨b2, o2 + (Int.toNat t_3) * 1, none⟩ (.int .i64 x2)]) rfl (by kernel_rfl) ⟨hs2, hb2, SlRd.cells (sl_rd 3 encI 1 _ _ _) encI_ok H 1 rfl hs2 ex2 0 _ rfl, trivial⟩ fun a hE => ?_
            rcases Bool.eq_false_or_eq_true (!((t_4.1 == 0) == (decide (x2 < t_1)))) with c | c
            · replace hE := hE.dec 64 c (by kernel_rfl)
              replace hm := cond_t c hm
              have c_2 := c
              refine WR.seg hE 17 [] [2, 7, 8, 9, 10, 11, 12, 13, 14, 71] (Lo := [(2, .slice sb_posts posts.length sc_posts), (7, .int .i64 t_), (8, .int .i64 t_1), (9, .pointer (some ⟨p, 0, none⟩)), (10, .slice (some ⟨r, 0, none⟩) m_.length l.length), (11, .int .i64 in_), (12, .int .i64 i), (13, .int .i64 t_3), (14, .int .i64 t_4.1), (71, .bool true)]) (obs := []) rfl (by kernel_rfl) trivial fun a hE => ?_
              refine WR.done rfl ?_
              cases hm
              exact hk _ _ ⟨hE.sel [2, 7, 8, 9, 10, 11, 12, 13, 14, 71] (by kernel_rfl), H.t2.t2.t2⟩
            · replace hE := hE.dec 64 c (by kernel_rfl)
              replace hm := cond_f c hm
              have c_3 := c
              refine WR.seg hE 13 [] [2, 7, 8, 9, 10, 11, 12, 13, 14, 64, 67] (Lo := [(2, .slice sb_posts posts.length sc_posts), (7, .int .i64 t_), (8, .int .i64 t_1), (9, .pointer (some ⟨p, 0, none⟩)), (10, .slice (some ⟨r, 0, none⟩) m_.length l.length), (11, .int .i64 in_), (12, .int .i64 i), (13, .int .i64 t_3), (14, .int .i64 t_4.1), (64, .bool false), (67, .bool (t_4.1 != 0))]) (obs := []) rfl (by kernel_rfl) trivial fun a hE => ?_
              rcases Bool.eq_false_or_eq_true (t_4.1 != 0) with c | c
              · replace hE := hE.dec 67 c (by kernel_rfl)
                replace hm := cond_t c hm
                have c_4 := c
                refine WR.seg hE 17 [] [2, 7, 8, 9, 10, 11, 12, 13, 14, 71] (Lo := [(2, .slice sb_posts posts.length sc_posts), (7, .int .i64 t_), (8, .int .i64 t_1), (9, .pointer (some ⟨p, 0, none⟩)), (10, .slice (some ⟨r, 0, none⟩) m_.length l.length), (11, .int .i64 in_), (12, .int .i64 i), (13, .int .i64 t_3), (14, .int .i64 t_4.1), (71, .bool (t_4.1 != 13))]) (obs := []) rfl (by kernel_rfl) trivial fun a hE => ?_
                refine WR.done rfl ?_
                cases hm
                exact hk _ _ ⟨hE.sel [2, 7, 8, 9, 10, 11, 12, 13, 14, 71] (by kernel_rfl), H.t2.t2.t2⟩
              · replace hE := hE.dec 67 c (by kernel_rfl)
                replace hm := cond_f c hm
                have c_5 := c
                refine WR.seg hE 17 [] [2, 7, 8, 9, 10, 11, 12, 13, 14, 71] (Lo := [(2, .slice sb_posts posts.length sc_posts), (7, .int .i64 t_), (8, .int .i64 t_1), (9, .pointer (some ⟨p, 0, none⟩)), (10, .slice (some ⟨r, 0, none⟩) m_.length l.length), (11, .int .i64 in_), (12, .int .i64 i), (13, .int .i64 t_3), (14, .int .i64 t_4.1), (71, .bool false)]) (obs := []) rfl (by kernel_rfl) trivial fun a hE => ?_
                refine WR.done rfl ?_
                cases hm
                exact hk _ _ ⟨hE.sel [2, 7, 8, 9, 10, 11, 12, 13, 14, 71] (by kernel_rfl), H.t2.t2.t2⟩
          rintro a w ⟨hE, H⟩
          refine Runs.cond hE rfl (fun c => ?_) (fun c => ?_)
          · replace hm := cond_t c hm
            refine Runs.seq ?_
            refine Runs.region ?_
            refine WR.seg hE 1 [] [6] (Lo := [(6, .bool false)]) (obs := []) rfl (by kernel_rfl) trivial fun a hE => ?_
            refine WR.done rfl ?_
            refine Runs.ret hE Try.func4 rfl rfl ?_
            cases hm
            dsimp only at hR1; cases hR1
            dsimp only at hR; cases hR
            exact ⟨rfl, H.x1.x0⟩
          · replace hm := cond_f c hm
            refine Runs.skip ?_
            refine Runs.seq ?_
            refine Runs.region ?_
            refine WR.seg hE 2 [] [2, 7, 8, 9, 10, 11, 12, 13, 73] (Lo := [(2, .slice sb_posts posts.length sc_posts), (7, .int .i64 t_), (8, .int .i64 t_1), (9, .pointer (some ⟨p, 0, none⟩)), (10, .slice (some ⟨r, 0, none⟩) m_.length l.length), (11, .int .i64 in_), (12, .int .i64 i), (13, .int .i64 t_3), (73, .bool (t_4.1 == 0))]) (obs := []) rfl (by kernel_rfl) trivial fun a hE => ?_
            refine WR.done rfl ?_
            refine Runs.cond hE rfl (fun c => ?_) (fun c => ?_)
            · replace hm := cond_t c hm
              refine Runs.seq ?_
              refine Runs.region ?_
              obtain ⟨x3, ex3, hm⟩ := bind_some hm
              obtain ⟨b3, o3, hs3, hb3⟩ := SlRd.base (sl_rd 3 encI 1 _ _ _) encI_ok H 1 rfl ex3
              obtain ⟨x4, ex4, hm⟩ := bind_some hm
              obtain ⟨b4, o4, hs4, hb4⟩ := SlRd.base (sl_rd 3 encI 1 _ _ _) encI_ok H 1 rfl ex4
              refine WR.seg hE 6 [.pointer (some ⟨b3, o3, none⟩), .int .i64 x3, .pointer (some ⟨b4, o4, none⟩)] [2, 7, 8, 9, 10, 11, 12, 78, 79] (Lo := [(2, .slice sb_posts posts.length sc_posts), (7, .int .i64 t_), (8, .int .i64 t_1), (9, .pointer (some ⟨p, 0, none⟩)), (10, .slice (some ⟨r, 0, none⟩) m_.length l.length), (11, .int .i64 in_), (12, .int .i64 i), (78, .int .i64 (w64 (x3 + 1))), (79, .pointer (some ⟨b4, o4 + (Int.toNat t_3) * 1, none⟩))]) (obs := [.p (((some ⟨r, 0, none⟩) : Option Addr) = some ⟨b3, o3, none⟩), .p (0 ≤ (t_3 : Int) ∧ (t_3 : Int) < ((m_.length : Nat) : Int)), .cell ⟨b3, o3 + (Int.toNat t_3) * 1, none⟩ (.int .i64 x3), .p (((some ⟨r, 0, none⟩) : Option Addr) = some ⟨b4, o4, none⟩), .p (0 ≤ (t_3 : Int) ∧ (t_3 : Int) < ((m_.length : Nat) : Int))]) rfl (by kernel_rfl) ⟨hs3, hb3, SlRd.cells (sl_rd 3 encI 1 _ _ _) encI_ok H 1 rfl hs3 ex3 0 _ rfl, hs4, hb4, trivial⟩ fun a hE => ?_
              refine WR.eff0 hE rfl rfl rfl (OpTo.storeSl (q := 0) (x' := (w64 (x3 + 1))) hE H.t1 encI_ok rfl hs4 ex4 rfl rfl rfl rfl rfl (Nat.le_of_ble_eq_true rfl) rfl) ?_
              rintro _ w H a hE
              try rw [← mSet_len m_ t_3 (w64 (x3 + 1))] at hE
              refine WR.done rfl ?_
              refine Runs.region ?_
              refine WR.seg hE 3 [] [2, 7, 8, 9, 10, 11, 12] (Lo := [(2, .slice sb_posts posts.length sc_posts), (7, .int .i64 t_), (8, .int .i64 t_1), (9, .pointer (some ⟨p, 0, none⟩)), (10, .slice (some ⟨r, 0, none⟩) ((mSet m_ t_3 (w64 (x3 + 1))).length) l.length), (11, .int .i64 (w64 (in_ + 1))), (12, .int .i64 i)]) (obs := []) rfl (by kernel_rfl) trivial fun a hE => ?_
              refine WR.done rfl ?_
              refine Runs.inBlock ?_
              cases hm
              exact hk _ _ ⟨_, rfl, hE.sel [2, 7, 8, 9, 10, 11, 12] (by kernel_rfl), H.t2.t2.t2⟩
            · replace hm := cond_f c hm
              refine Runs.skip ?_
              refine Runs.inBlock ?_
              cases hm
              exact hk _ _ ⟨_, rfl, hE.sel [2, 7, 8, 9, 10, 11, 12] (by kernel_rfl), H.t2.t1.t2⟩
        rintro a w ⟨s3, rfl, hE, H⟩
        replace hm := hR1; dsimp only at hm
        refine Runs.region ?_
        refine WR.seg hE 3 [] [2, 7, 8, 9, 10, 11, 12] (Lo := [(2, .slice sb_posts posts.length sc_posts), (7, .int .i64 t_), (8, .int .i64 t_1), (9, .pointer (some ⟨p, 0, none⟩)), (10, .slice (some ⟨r, 0, none⟩) s3.2.1.length l.length), (11, .int .i64 s3.1), (12, .int .i64 (w64 (i + 1)))]) (obs := []) rfl (by kernel_rfl) trivial fun a hE => ?_
        refine WR.done rfl ?_
        exact ih m (Nat.lt_succ_self m) _ _ ⟨s3.1, w64 (i + 1), s3.2.1, s3.2.2, hE.sel [2, 7, 8, 9, 10, 11, 12] (by kernel_rfl), H.t2.t2.t2, hm⟩
      · replace hm := cond_f c hm
        refine Runs.exit rfl ?_
        cases hm
        exact hk _ _ ⟨_, rfl, hE.sel [9, 11] (by kernel_rfl), H.x0.t1.t1⟩
  rintro a w ⟨s1, rfl, hE, H⟩
  replace hm := hR; dsimp only at hm
  refine Runs.seq ?_
  refine Runs.region ?_
  refine WR.seg hE 1 [] [9, 11, 15] (Lo := [(9, .pointer (some ⟨p, 0, none⟩)), (11, .int .i64 s1.1), (15, .int .i64 0)]) (obs := []) rfl (by kernel_rfl) trivial fun a hE => ?_
  refine WR.done rfl ?_
  refine Runs.seq ?_
  refine Runs.seq ?_
  refine Runs.region ?_
  refine WR.seg hE 1 [] [9, 11, 15, 16] (Lo := [(9, .pointer (some ⟨p, 0, none⟩)), (11, .int .i64 s1.1), (15, .int .i64 0), (16, .int .i64 0)]) (obs := []) rfl (by kernel_rfl) trivial fun a hE => ?_
  refine WR.done rfl ?_
  obtain ⟨s5, es5, hR2⟩ := bind_some hm
  refine Runs.join (fun a w => ∃ s6, s5 = Sum.inr s6 ∧ EnvOk 117 a [(9, .pointer (some ⟨p, 0, none⟩))] ∧ St w0 (mail_Desk_int.R p al s6 :: X_posts :: As) w) (fun hk => ?_) ?_
  · replace hm := es5; clear es5
    refine Runs.block ?_
    refine Runs.loop (fun m a w => ∃ (last : Int), ∃ (i1 : Int), ∃ (m_3 : mail_Desk_int), EnvOk 117 a [(9, .pointer (some ⟨p, 0, none⟩)), (11, .int .i64 s1.1), (15, .int .i64 last), (16, .int .i64 i1)] ∧ St w0 (mail_Desk_int.R p al m_3 :: X_posts :: As) w ∧ thicketlaw23_MailFull_l1 s1.1 posts m last i1 m_3 = some s5) k ⟨0, 0, s1.2, hE.sel [9, 11, 15, 16] (by kernel_rfl), H.t1.t1, hm⟩ ?_
    rintro m ih a w ⟨last, i1, m_3, hE, H, hm⟩
    cases m with
    | zero => simp [thicketlaw23_MailFull_l1] at hm
    | succ m =>
      rw [thicketlaw23_MailFull_l1] at hm
      refine Runs.seq ?_
      refine Runs.seq ?_
      refine Runs.region ?_
      refine WR.seg hE 3 [] [9, 11, 15, 16, 84] (Lo := [(9, .pointer (some ⟨p, 0, none⟩)), (11, .int .i64 s1.1), (15, .int .i64 last), (16, .int .i64 i1), (84, .bool (decide (i1 < s1.1)))]) (obs := []) rfl (by kernel_rfl) trivial fun a hE => ?_
      refine WR.done rfl ?_
      refine Runs.cond hE rfl (fun c => ?_) (fun c => ?_)
      · replace hm := cond_t c hm
        refine Runs.skip ?_
        refine Runs.seq ?_
        refine Runs.block ?_
        refine Runs.seq ?_
        refine Runs.region ?_
        refine WR.seg hE 1 [] [9, 11, 15, 16, 88] (Lo := [(9, .pointer (some ⟨p, 0, none⟩)), (11, .int .i64 s1.1), (15, .int .i64 last), (16, .int .i64 i1), (88, .pointer (some ⟨p, 0, none⟩))]) (obs := []) rfl (by kernel_rfl) trivial fun a hE => ?_
        obtain ⟨t_5, et_5, hm⟩ := bind_some hm
        refine WR.eff hE rfl rfl rfl rfl (OpTo.fn hE rfl rfl Try.call17 (mail_Desk_int_Next_ok et_5 H)) ?_
        rintro _ w ⟨rfl, H⟩ a hE
        refine WR.seg hE 9 [] [9, 11, 15, 16, 18, 19] (Lo := [(9, .pointer (some ⟨p, 0, none⟩)), (11, .int .i64 s1.1), (15, .int .i64 last), (16, .int .i64 i1), (18, .int .i64 t_5.2.1), (19, .bool t_5.2.2.1)]) (obs := []) rfl (by kernel_rfl) trivial fun a hE => ?_
        refine WR.done rfl ?_
        refine Runs.seq ?_
        refine Runs.seq ?_
        refine Runs.join (fun a w => EnvOk 117 a [(9, .pointer (some ⟨p, 0, none⟩)), (11, .int .i64 s1.1), (16, .int .i64 i1), (18, .int .i64 t_5.2.1), (99, .bool ((!t_5.2.2.1) || (decide (t_5.2.1 < last))))] ∧ St w0 (mail_Desk_int.R p al t_5.2.2.2 :: X_posts :: As) w) (fun hk => ?_) ?_
        · clear hm
          refine Runs.region ?_
          refine WR.seg hE 3 [] [9, 11, 15, 16, 18, 95] (Lo := [(9, .pointer (some ⟨p, 0, none⟩)), (11, .int .i64 s1.1), (15, .int .i64 last), (16, .int .i64 i1), (18, .int .i64 t_5.2.1), (95, .bool (!t_5.2.2.1))]) (obs := []) rfl (by kernel_rfl) trivial fun a hE => ?_
          rcases Bool.eq_false_or_eq_true (!t_5.2.2.1) with c | c
          · replace hE := hE.dec 95 c (by kernel_rfl)
            have c_6 := c
            refine WR.seg hE 7 [] [9, 11, 16, 18, 99] (Lo := [(9, .pointer (some ⟨p, 0, none⟩)), (11, .int .i64 s1.1), (16, .int .i64 i1), (18, .int .i64 t_5.2.1), (99, .bool true)]) (obs := []) rfl (by kernel_rfl) trivial fun a hE => ?_
            refine WR.done rfl ?_
            refine hk _ _ ⟨?_, H.t1.t1⟩
            try rw [c_6] at hE
            try rw [c_6]
            exact hE.sel [9, 11, 16, 18, 99] (by kernel_rfl)
          · replace hE := hE.dec 95 c (by kernel_rfl)
            have c_7 := c
            refine WR.seg hE 7 [] [9, 11, 16, 18, 99] (Lo := [(9, .pointer (some ⟨p, 0, none⟩)), (11, .int .i64 s1.1), (16, .int .i64 i1), (18, .int .i64 t_5.2.1), (99, .bool (decide (t_5.2.1 < last)))]) (obs := []) rfl (by kernel_rfl) trivial fun a hE => ?_
            refine WR.done rfl ?_
            refine hk _ _ ⟨?_, H.t1.t1⟩
            try rw [c_7] at hE
            try rw [c_7]
            exact hE.sel [9, 11, 16, 18, 99] (by kernel_rfl)
        rintro a w ⟨hE, H⟩
        refine Runs.cond hE rfl (fun c => ?_) (fun c => ?_)
        · replace hm := cond_t c hm
          refine Runs.seq ?_
          refine Runs.region ?_
          refine WR.seg hE 1 [] [6] (Lo := [(6, .bool false)]) (obs := []) rfl (by kernel_rfl) trivial fun a hE => ?_
          refine WR.done rfl ?_
          refine Runs.ret hE Try.func4 rfl rfl ?_
          cases hm
          dsimp only at hR2; cases hR2
          exact ⟨rfl, H.x0⟩
        · replace hm := cond_f c hm
          refine Runs.skip ?_
          refine Runs.region ?_
          refine WR.seg hE 2 [] [9, 11, 15, 16] (Lo := [(9, .pointer (some ⟨p, 0, none⟩)), (11, .int .i64 s1.1), (15, .int .i64 t_5.2.1), (16, .int .i64 i1)]) (obs := []) rfl (by kernel_rfl) trivial fun a hE => ?_
          refine WR.done rfl ?_
          refine Runs.inBlock ?_
          refine Runs.region ?_
          refine WR.seg hE 3 [] [9, 11, 15, 16] (Lo := [(9, .pointer (some ⟨p, 0, none⟩)), (11, .int .i64 s1.1), (15, .int .i64 t_5.2.1), (16, .int .i64 (w64 (i1 + 1)))]) (obs := []) rfl (by kernel_rfl) trivial fun a hE => ?_
          refine WR.done rfl ?_
          exact ih m (Nat.lt_succ_self m) _ _ ⟨t_5.2.1, w64 (i1 + 1), t_5.2.2.2, hE.sel [9, 11, 15, 16] (by kernel_rfl), H.t1.t1, hm⟩
      · replace hm := cond_f c hm
        refine Runs.exit rfl ?_
        cases hm
        exact hk _ _ ⟨_, rfl, hE.sel [9] (by kernel_rfl), H.t1.t1⟩
  rintro a w ⟨s6, rfl, hE, H⟩
  replace hm := hR2; dsimp only at hm
  refine Runs.seq ?_
  refine Runs.region ?_
  refine WR.seg hE 1 [] [9, 102] (Lo := [(9, .pointer (some ⟨p, 0, none⟩)), (102, .pointer (some ⟨p, 0, none⟩))]) (obs := []) rfl (by kernel_rfl) trivial fun a hE => ?_
  obtain ⟨t_6, et_6, hm⟩ := bind_some hm
  refine WR.eff hE rfl rfl rfl rfl (OpTo.fn hE rfl rfl Try.call17 (mail_Desk_int_Next_ok et_6 H)) ?_
  rintro _ w ⟨rfl, H⟩ a hE
  refine WR.seg hE 9 [] [9, 22] (Lo := [(9, .pointer (some ⟨p, 0, none⟩)), (22, .bool t_6.2.2.1)]) (obs := []) rfl (by kernel_rfl) trivial fun a hE => ?_
  refine WR.done rfl ?_
  refine Runs.seq ?_
  obtain ⟨s7, es7, hm⟩ := bind_some hm
  refine Runs.join (fun a w => EnvOk 117 a [(6, .bool s7)] ∧ St w0 (mail_Desk_int.R p al t_6.2.2.2 :: X_posts :: As) w) (fun hk => ?_) ?_
  · replace hm := es7; clear es7
    refine Runs.region ?_
    refine WR.seg hE 3 [] [9, 109] (Lo := [(9, .pointer (some ⟨p, 0, none⟩)), (109, .bool (!t_6.2.2.1))]) (obs := []) rfl (by kernel_rfl) trivial fun a hE => ?_
    rcases Bool.eq_false_or_eq_true (!t_6.2.2.1) with c | c
    · replace hE := hE.dec 109 c (by kernel_rfl)
      replace hm := cond_t c hm
      have c_8 := c
      refine WR.seg hE 4 [] [109, 110] (Lo := [(109, .bool true), (110, .pointer (some ⟨p, 0, none⟩))]) (obs := []) rfl (by kernel_rfl) trivial fun a hE => ?_
      obtain ⟨t_7, et_7, hm⟩ := bind_some hm
      refine WR.eff hE rfl rfl rfl rfl (OpTo.fn hE rfl rfl Try.call18 (mail_Desk_int_Len_ok et_7 H)) ?_
      rintro _ w ⟨rfl, H⟩ a hE
      refine WR.seg hE 8 [] [114] (Lo := [(114, .bool (t_7 == 0))]) (obs := []) rfl (by kernel_rfl) trivial fun a hE => ?_
      rcases Bool.eq_false_or_eq_true (t_7 == 0) with c | c
      · replace hE := hE.dec 114 c (by kernel_rfl)
        replace hm := cond_t c hm
        have c_9 := c
        obtain ⟨t_8, et_8, hm⟩ := bind_some hm
        refine WR.eff hE rfl rfl rfl rfl (OpTo.fn hE rfl rfl Try.call13 (thicketlaw23_known_ok et_8 H)) ?_
        rintro _ w ⟨rfl, H⟩ a hE
        refine WR.seg hE 11 [] [6] (Lo := [(6, .bool t_8)]) (obs := []) rfl (by kernel_rfl) trivial fun a hE => ?_
        refine WR.done rfl ?_
        cases hm
        exact hk _ _ ⟨hE.sel [6] (by kernel_rfl), H.t1.t1⟩
      · replace hE := hE.dec 114 c (by kernel_rfl)
        replace hm := cond_f c hm
        have c_10 := c
        refine WR.seg hE 11 [] [6] (Lo := [(6, .bool false)]) (obs := []) rfl (by kernel_rfl) trivial fun a hE => ?_
        refine WR.done rfl ?_
        cases hm
        exact hk _ _ ⟨hE.sel [6] (by kernel_rfl), H.t1.t1⟩
    · replace hE := hE.dec 109 c (by kernel_rfl)
      replace hm := cond_f c hm
      have c_11 := c
      refine WR.seg hE 11 [] [6] (Lo := [(6, .bool false)]) (obs := []) rfl (by kernel_rfl) trivial fun a hE => ?_
      refine WR.done rfl ?_
      cases hm
      exact hk _ _ ⟨hE.sel [6] (by kernel_rfl), H.t1.t1⟩
  rintro a w ⟨hE, H⟩
  refine Runs.ret hE Try.func4 rfl rfl ?_
  cases hm
  exact ⟨rfl, H.x0⟩

theorem mail_Desk_int64_In_ok {w0 w : World} {As : List HP} {p_d : Nat} {al_d : mail_Desk_int64.A} {d : mail_Desk_int64} {box : Int} {t : Int}  (hm : mail_Desk_int64_In d box = some t) (H : St w0 (mail_Desk_int64.R p_d al_d d :: As) w) :
    CallsR Try.prog 29 #[.pointer (some ⟨p_d, 0, none⟩), .int .i64 box] w fun v w' => v = .int .i64 t ∧ St w0 (mail_Desk_int64.R p_d al_d d :: As) w' := by
  rw [mail_Desk_int64_In] at hm
  refine enter (args := [.pointer (some ⟨p_d, 0, none⟩), .int .i64 box]) Try.func29 rfl rfl rfl fun a hE => ?_
  refine Runs.seq ?_
  refine Runs.region ?_
  refine WR.seg hE 1 [] [0, 1] (Lo := [(0, .pointer (some ⟨p_d, 0, none⟩)), (1, .int .i64 box)]) (obs := []) rfl (by kernel_rfl) trivial fun a hE => ?_
  refine WR.done rfl ?_
  refine Runs.seq ?_
  refine Runs.seq ?_
  obtain ⟨s, es, hm⟩ := bind_some hm
  refine Runs.join (fun a w => EnvOk 24 a [(0, .pointer (some ⟨p_d, 0, none⟩)), (1, .int .i64 box), (15, .bool s)] ∧ St w0 (mail_Desk_int64.R p_d al_d d :: As) w) (fun hk => ?_) ?_
  · replace hm := es; clear es
    refine Runs.region ?_
    refine WR.seg hE 3 [] [0, 1, 7] (Lo := [(0, .pointer (some ⟨p_d, 0, none⟩)), (1, .int .i64 box), (7, .bool (decide (box < 0)))]) (obs := []) rfl (by kernel_rfl) trivial fun a hE => ?_
    rcases Bool.eq_false_or_eq_true (decide (box < 0)) with c | c
    · replace hE := hE.dec 7 c (by kernel_rfl)
      replace hm := cond_t c hm
      have c_ := c
      refine WR.seg hE 11 [] [0, 1, 15] (Lo := [(0, .pointer (some ⟨p_d, 0, none⟩)), (1, .int .i64 box), (15, .bool true)]) (obs := []) rfl (by kernel_rfl) trivial fun a hE => ?_
      refine WR.done rfl ?_
      cases hm
      exact hk _ _ ⟨hE.sel [0, 1, 15] (by kernel_rfl), H⟩
    · replace hE := hE.dec 7 c (by kernel_rfl)
      replace hm := cond_f c hm
      have c_1 := c
      replace H := mail_Desk_int64.open H
      refine WR.seg hE 11 [.slice al_d.l_b d.l.length al_d.l_c] [0, 1, 15] (Lo := [(0, .pointer (some ⟨p_d, 0, none⟩)), (1, .int .i64 box), (15, .bool (decide (box ≥ (d.l.length : Int))))]) (obs := [.cell ⟨p_d, 0, none⟩ (.slice al_d.l_b d.l.length al_d.l_c)]) rfl (by kernel_rfl) ⟨H.cell 0 rfl rfl, trivial⟩ fun a hE => ?_
      refine WR.done rfl ?_
      replace H := mail_Desk_int64.shut al_d (d) H.t1.t1
      cases hm
      exact hk _ _ ⟨hE.sel [0, 1, 15] (by kernel_rfl), H⟩
  rintro a w ⟨hE, H⟩
  refine Runs.cond hE rfl (fun c => ?_) (fun c => ?_)
  · replace hm := cond_t c hm
    refine Runs.seq ?_
    refine Runs.region ?_
    refine WR.seg hE 1 [] [4] (Lo := [(4, .int .i64 0)]) (obs := []) rfl (by kernel_rfl) trivial fun a hE => ?_
    refine WR.done rfl ?_
    refine Runs.ret hE Try.func29 rfl rfl ?_
    cases hm
    exact ⟨rfl, H⟩
  · replace hm := cond_f c hm
    refine Runs.skip ?_
    refine Runs.seq ?_
    refine Runs.region ?_
    replace H := mail_Desk_int64.open H
    obtain ⟨x, ex, hm⟩ := bind_some hm
    obtain ⟨gs, ⟨p, al⟩, hgl, hg, H⟩ := St.slxTake (R := mail_Box_int64.RX) H.t1 ex
    replace H : St w0 (mail_Box_int64.R p al x :: Sl 74 mail_Box_int64.encX 1 al_d.l_b al_d.l_c gs :: But mail_Box_int64.RX gs d.l box :: _) w := H
    obtain ⟨b, o, hs, hb⟩ := SlRd.base (sl_rd 74 mail_Box_int64.encX 1 _ _ _) mail_Box_int64.encX_ok H 1 rfl hg
    refine WR.seg hE 7 [.slice al_d.l_b d.l.length al_d.l_c, .pointer (some ⟨b, o, none⟩), .pointer (some ⟨p, 0, none⟩)] [22] (Lo := [(22, .pointer (some ⟨p, 0, none⟩))]) (obs := [.cell ⟨p_d, 0, none⟩ (.slice al_d.l_b d.l.length al_d.l_c), .p ((al_d.l_b : Option Addr) = some ⟨b, o, none⟩), .p (0 ≤ (box : Int) ∧ (box : Int) < ((d.l.length : Nat) : Int)), .cell ⟨b, o + (Int.toNat box) * 1, none⟩ (.pointer (some ⟨p, 0, none⟩))]) rfl (by kernel_rfl) ⟨H.cell 3 rfl rfl, hs, (by have h_ := hb; rw [hgl] at h_; exact h_), SlRd.cells (sl_rd 74 mail_Box_int64.encX 1 _ _ _) mail_Box_int64.encX_ok H 1 rfl hs hg 0 _ rfl, trivial⟩ fun a hE => ?_
    obtain ⟨t_, et_, hm⟩ := bind_some hm
    refine WR.eff hE rfl rfl rfl rfl (OpTo.fn hE rfl rfl Try.call33 (mail_Box_int64_Len_ok et_ H)) ?_
    rintro _ w ⟨rfl, H⟩ a hE
    refine WR.seg hE 9 [] [4] (Lo := [(4, .int .i64 t_)]) (obs := []) rfl (by kernel_rfl) trivial fun a hE => ?_
    refine WR.done rfl ?_
    replace H := St.slxPut0 (R := mail_Box_int64.RX) (g' := (p, al)) (x := x) H.t2.t2.t2 ex hgl hg rfl
    replace H := mail_Desk_int64.shut al_d (d) H.t1
    refine Runs.ret hE Try.func29 rfl rfl ?_
    cases hm
    exact ⟨rfl, H⟩

end Go.Proofs.Ytlcllmgpmhjomaa
