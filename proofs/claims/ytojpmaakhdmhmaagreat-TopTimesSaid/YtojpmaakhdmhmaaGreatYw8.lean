/-
  The statements TopTimes of the program.
  Text 8 of 8: of what the proof needs (a row of the program: no condition is left); put together and made narrow by a program.
-/
import Derived.Below
import Derived.ChangeOld
import Derived.JoinedCond
import Derived.OpenShut
import Derived.ProofKit
import Derived.ShutString
import Derived.SliceStrings
import Derived.Test.YtojpmaakhdmhmaaGreatRows
import Derived.WalkKit
import Derived.Test.YtojpmaakhdmhmaaGreatYw7
set_option linter.unusedVariables false
set_option linter.unusedSimpArgs false
namespace Go.Proofs.YtojpmaakhdmhmaaGreat
open Go.Th
noncomputable section
set_option maxRecDepth 10000
set_option maxHeartbeats 4000000
abbrev nE : Nx El := nA zi.D [29,30] (fun e => ([e.L_c],[e.L_b]))
theorem AU (k : Nat) (i : Ins C3p) (m : Nat) : ((C3l0 i).at (bm k i) m).Sound pG 3 143 (C3r k i) :=
 lsn mixed (C3l0 i) (id := 0) (body := nav [1,1,1,1,0,1,0,0] (z6 pG 3)) (bm k i) (fun r => some (.inl r)) (fun u => .inr u) (gj (g2 (gI 10) (g2 (gO zi.D [29,30]) (gO za.D rg_21))) [nE,nq_9]) (gj (g2 (gO zi.D [29,30]) (gO za.D rg_21)) [nE,nq_9]) (fun m => (.g 5 (.pj 31 (Bool) mB (gB 34) (fun st x => ([(34,.bool x)] ++ kp [1,2,7,9,10] st,ka [29,30,0,1,2,3,4,5,6,7,8,9,10,11,12,13,14,15,16,17,18,19,20,21,22,23,24,25,26,27,28] st)) (.g 3 .leaf) (.g 3 .leaf) (.cond (.blk (.g 2 (.s (.idx true 0 (.tmp 38) 2) (.s (.seg 2 [.A 2,.R 2 0]) (.s (.gd 0 (.const (.i 100)) 2) (.s (.seg 2 [.Q 2]) (.join (Bool × za) 17 8 (gj (g2 (gB 53) (gO za.D rg_21)) [nq_9]) (fun l x e j => match (g2 (gP 0) (gA za.D rg_21)) l with | some t => ([(53,.bool x.1)] ++ kp [1,2,7,9,10,11] l,ka [29,30,22,23,24,25,26,27,28] l ++ zipL rg_21 (za.D.flat (t.1) (za.A.mk (t.2.q_p) (zn.A.mk (nn e 0) (zb.A.mk (na j 0) (nn e 1) (na j 1) (nn e 2) (nn e 3)) (nn e 4) (zj.A.mk (nn e 5) (zh.A.mk (na j 2) (nn e 6) (na j 3) (nn e 7)) (nn e 8) (zc.A.mk (na j 4) (nn e 9) (na j 5) (nn e 10)) (nn e 11)) (nn e 12)) (t.2.t__p) (zm.A.mk (nn e 13) (ze.A.mk (na j 6) (nn e 14) (na j 7) (nn e 15)) (nn e 16)) (t.2.when_p) (t.2.clock_p)) x.2)) | none => ([],[])) (.g 4 (.s (.call (K7 m) qw rg_21) (.g 3 (.split 49 (.g 1 (.s (.call K8 qw rg_21) (.g 2 .leaf))) (.g 4 .leaf))))) (.cond (.g 1 .ret) (.g 4 (.s (.call (K9 m) [.K 29,.K 30] [29,30]) (.g 3 .back))))))))))) .leaf)))) m
def C3l1 (t : Ins C3p) : BCon El (Bool) := ⟨nav [1,1,1,1,1,1,0,1,0,0,1,0,0,1,1,1,1] (z6 pG 3),Nat × za.A × Nat × Nat × zf.A × zf × Int,Int × za × zi,za × zi,(Bool) ⊕ (za × zi),fun r => r,fun _ _ => none,fun l => [(0,⟨8,t.2.1.1,t.2.1.2.1,t.2.1.2.2⟩),(1,⟨8,t.2.2.1.1,t.2.2.1.2.1,t.2.2.1.2.2⟩)],fun l v_ e j => [(2,.slice t.2.2.1.1 t.2.2.1.2.2.length t.2.2.1.2.1),(7,.pointer (some ⟨l.1,0,none⟩)),(9,.pointer (some ⟨l.2.2.1,0,none⟩)),(12,.i (l.2.2.2.2.2.2)),(14,.i v_.1)],fun l v_ e j => zipL rg_21 (za.D.flat (l.1) (za.A.mk (l.2.1.q_p) (zn.A.mk (nn e 0) (zb.A.mk (na j 0) (nn e 1) (na j 1) (nn e 2) (nn e 3)) (nn e 4) (zj.A.mk (nn e 5) (zh.A.mk (na j 2) (nn e 6) (na j 3) (nn e 7)) (nn e 8) (zc.A.mk (na j 4) (nn e 9) (na j 5) (nn e 10)) (nn e 11)) (nn e 12)) (l.2.1.t__p) (zm.A.mk (nn e 13) (ze.A.mk (na j 6) (nn e 14) (na j 7) (nn e 15)) (nn e 16)) (l.2.1.when_p) (l.2.1.clock_p)) v_.2.1) ++ zipL [29,30] (zi.D.flat (l.2.2.1) (zi.A.mk (na j 8) (nn e 17)) v_.2.2) ++ zipL [22,23,24,25,26,27,28] (zf.D.flat (l.2.2.2.1) (l.2.2.2.2.1) (l.2.2.2.2.2.1)),18,9,fun l u e j => [(2,.slice t.2.2.1.1 t.2.2.1.2.2.length t.2.2.1.2.1),(7,.pointer (some ⟨l.1,0,none⟩)),(9,.pointer (some ⟨l.2.2.1,0,none⟩)),(12,.i (l.2.2.2.2.2.2))],fun l u e j => zipL rg_21 (za.D.flat (l.1) (za.A.mk (l.2.1.q_p) (zn.A.mk (nn e 0) (zb.A.mk (na j 0) (nn e 1) (na j 1) (nn e 2) (nn e 3)) (nn e 4) (zj.A.mk (nn e 5) (zh.A.mk (na j 2) (nn e 6) (na j 3) (nn e 7)) (nn e 8) (zc.A.mk (na j 4) (nn e 9) (na j 5) (nn e 10)) (nn e 11)) (nn e 12)) (l.2.1.t__p) (zm.A.mk (nn e 13) (ze.A.mk (na j 6) (nn e 14) (na j 7) (nn e 15)) (nn e 16)) (l.2.1.when_p) (l.2.1.clock_p)) u.1) ++ zipL [29,30] (zi.D.flat (l.2.2.1) (zi.A.mk (na j 8) (nn e 17)) u.2) ++ zipL [22,23,24,25,26,27,28] (zf.D.flat (l.2.2.2.1) (l.2.2.2.2.1) (l.2.2.2.2.2.1))⟩
def bo (k : Nat) (e : Ins C3p) : Nat -> (C3l1 e).X -> (C3l1 e).V -> Option (C3l1 e).W := fun m_ (i : Nat × za.A × Nat × Nat × zf.A × zf × Int) (v_ : Int × za × zi) => xg e.2.2.1.2.2 (i.2.2.2.2.2.2) (i.2.2.2.2.2.1) e.2.1.2.2 m_ v_.1 v_.2.1 v_.2.2
theorem AV (k : Nat) (i : Ins C3p) (m : Nat) : ((C3l1 i).at (bo k i) m).Sound pG 3 143 (C3r k i) :=
 lsn mixed (C3l1 i) (id := 4) (body := nav [1,1,1,1,1,1,0,1,0,0,1,0,0,1,1,1,1,0,0] (z6 pG 3)) (bo k i) (fun r => some (.inl r)) (fun u => .inr u) (gj (g2 (gI 14) (g2 (gO za.D rg_21) (gO zi.D [29,30]))) [nq_9,nE]) (gj (g2 (gO za.D rg_21) (gO zi.D [29,30])) [nq_9,nE]) (fun m => (.g 2 (.cond (.blk (.g 2 (.s (.call (K7 m) qw rg_21) (.s (.new 65 []) (.s (.sto 65) (.g 1 (.s (.call K10 [.K 29,.K 30] [29,30]) (.g 3 (.s (.new 66 []) (.s (.sto 66) (.g 1 (.join (Bool) 0 0 (gj (gB 110) []) (fun j e t l => ([(110,.bool e)] ++ kp [2,7,9,12,14,15,16] j,ka [66,29,30,65,0,1,2,3,4,5,6,7,8,9,10,11,12,13,14,15,16,17,18,19,20,21,22,23,24,25,26,27,28] j)) (.drw (.q [0,1,2] [] (.split 104 (.q [3,4,5,6,7,8] [] .leaf) (.q [3,4,5] [.C 66 0] (.a 6 (.call K11 qw rg_21) [.C 66 0] (.q [7,8] [] .leaf)))))) (.cond (.s (.seg 2 [.C 65 0,.C 65 1,.C 65 2,.C 65 3,.C 65 4,.C 65 5]) (.s (.eqs zu.eqD) (.cond (.g 1 .ret) .leaf))) (.s (.seg 4 [.C 65 0]) (.pj 117 (Bool) mB (gB 130) (fun st e => ([(130,.bool e)] ++ kp [2,7,9,12,14] st,ka [66,29,30,65,0,1,2,3,4,5,6,7,8,9,10,11,12,13,14,15,16,17,18,19,20,21,22,23,24,25,26,27,28] st)) (.g 13 .leaf) (.s (.seg 7 [.C 65 3,.C 66 0]) (.pj 124 (Bool) mB (gB 130) (fun st e => ([(130,.bool e)] ++ kp [2,7,9,12,14] st,ka [66,29,30,65,0,1,2,3,4,5,6,7,8,9,10,11,12,13,14,15,16,17,18,19,20,21,22,23,24,25,26,27,28] st)) (.g 6 .leaf) (.s (.seg 6 [.C 65 4,.C 66 1]) .leaf) .leaf)) (.cond (.g 1 .ret) (.g 1 (.s (.call (K12 m) [.K 29,.K 30] [29,30]) (.g 3 .back))))))))))))))))))) .leaf))) m
def C3l2 (t : Ins C3p) : BCon El (Bool) := ⟨nav [1,1,1,1,1,1,0,1] (z6 pG 3),Nat × Nat × za.A × Nat × zf.A × zf,Int × zi × za,zi × za,(Bool) ⊕ (zi × za),fun r => r,fun _ _ => none,fun l => [(0,⟨8,t.2.1.1,t.2.1.2.1,t.2.1.2.2⟩),(1,⟨8,t.2.2.1.1,t.2.2.1.2.1,t.2.2.1.2.2⟩)],fun l v_ e j => [(2,.slice t.2.2.1.1 t.2.2.1.2.2.length t.2.2.1.2.1),(7,.pointer (some ⟨l.2.1,0,none⟩)),(9,.pointer (some ⟨l.1,0,none⟩)),(12,.i v_.1)],fun l v_ e j => zipL [29,30] (zi.D.flat (l.1) (zi.A.mk (na j 0) (nn e 0)) v_.2.1) ++ zipL rg_21 (za.D.flat (l.2.1) (za.A.mk (l.2.2.1.q_p) (zn.A.mk (nn e 1) (zb.A.mk (na j 1) (nn e 2) (na j 2) (nn e 3) (nn e 4)) (nn e 5) (zj.A.mk (nn e 6) (zh.A.mk (na j 3) (nn e 7) (na j 4) (nn e 8)) (nn e 9) (zc.A.mk (na j 5) (nn e 10) (na j 6) (nn e 11)) (nn e 12)) (nn e 13)) (l.2.2.1.t__p) (zm.A.mk (nn e 14) (ze.A.mk (na j 7) (nn e 15) (na j 8) (nn e 16)) (nn e 17)) (l.2.2.1.when_p) (l.2.2.1.clock_p)) v_.2.2) ++ zipL [22,23,24,25,26,27,28] (zf.D.flat (l.2.2.2.1) (l.2.2.2.2.1) (l.2.2.2.2.2)),18,9,fun l u e j => [(7,.pointer (some ⟨l.2.1,0,none⟩)),(9,.pointer (some ⟨l.1,0,none⟩))],fun l u e j => zipL [29,30] (zi.D.flat (l.1) (zi.A.mk (na j 0) (nn e 0)) u.1) ++ zipL rg_21 (za.D.flat (l.2.1) (za.A.mk (l.2.2.1.q_p) (zn.A.mk (nn e 1) (zb.A.mk (na j 1) (nn e 2) (na j 2) (nn e 3) (nn e 4)) (nn e 5) (zj.A.mk (nn e 6) (zh.A.mk (na j 3) (nn e 7) (na j 4) (nn e 8)) (nn e 9) (zc.A.mk (na j 5) (nn e 10) (na j 6) (nn e 11)) (nn e 12)) (nn e 13)) (l.2.2.1.t__p) (zm.A.mk (nn e 14) (ze.A.mk (na j 7) (nn e 15) (na j 8) (nn e 16)) (nn e 17)) (l.2.2.1.when_p) (l.2.2.1.clock_p)) u.2) ++ zipL [22,23,24,25,26,27,28] (zf.D.flat (l.2.2.2.1) (l.2.2.2.2.1) (l.2.2.2.2.2))⟩
def bp (k : Nat) (e : Ins C3p) : Nat -> (C3l2 e).X -> (C3l2 e).V -> Option (C3l2 e).W := fun m_ (i : Nat × Nat × za.A × Nat × zf.A × zf) (v_ : Int × zi × za) => xf e.2.2.1.2.2 (i.2.2.2.2.2) e.2.1.2.2 m_ v_.1 v_.2.1 v_.2.2
theorem AW (k : Nat) (i : Ins C3p) (m : Nat) : ((C3l2 i).at (bp k i) m).Sound pG 3 143 (C3r k i) :=
 lsn mixed (C3l2 i) (id := 2) (body := nav [1,1,1,1,1,1,0,1,0,0] (z6 pG 3)) (bp k i) (fun r => some (.inl r)) (fun u => .inr u) (gj (g2 (gI 12) (g2 (gO zi.D [29,30]) (gO za.D rg_21))) [nE,nq_9]) (gj (g2 (gO zi.D [29,30]) (gO za.D rg_21)) [nE,nq_9]) (fun m => (.g 5 (.pj 71 (Bool) mB (gB 74) (fun st t => ([(74,.bool t)] ++ kp [2,7,9,12] st,ka [29,30,0,1,2,3,4,5,6,7,8,9,10,11,12,13,14,15,16,17,18,19,20,21,22,23,24,25,26,27,28] st)) (.g 3 .leaf) (.g 3 .leaf) (.cond (.joinR (zi × za) 18 9 (gj (g2 (gO zi.D [29,30]) (gO za.D rg_21)) [nE,nq_9]) (fun l t e j => match (g2 (gP 29) (g2 (gP 0) (gA za.D rg_21))) l with | some x => ([] ++ kp [2,7,9,12] l,ka [22,23,24,25,26,27,28] l ++ zipL [29,30] (zi.D.flat (x.1) (zi.A.mk (na j 0) (nn e 0)) t.1) ++ zipL rg_21 (za.D.flat (x.2.1) (za.A.mk (x.2.2.q_p) (zn.A.mk (nn e 1) (zb.A.mk (na j 1) (nn e 2) (na j 2) (nn e 3) (nn e 4)) (nn e 5) (zj.A.mk (nn e 6) (zh.A.mk (na j 3) (nn e 7) (na j 4) (nn e 8)) (nn e 9) (zc.A.mk (na j 5) (nn e 10) (na j 6) (nn e 11)) (nn e 12)) (nn e 13)) (x.2.2.t__p) (zm.A.mk (nn e 14) (ze.A.mk (na j 7) (nn e 15) (na j 8) (nn e 16)) (nn e 17)) (x.2.2.when_p) (x.2.2.clock_p)) t.2)) | none => ([],[])) (.blk (.g 2 (.s (.idx true 1 (.tmp 78) 9) (.s (.seg 2 [.A 9,.R 9 0]) (.s (.gd 0 (.const (.i 30)) 9) (.s (.seg 2 [.Q 9]) (.g 2 (.join (Int) 0 0 (gj (gI 13) []) (fun l t e j => ([(13,.i t)] ++ kp [2,7,9,12] l,ka [29,30,0,1,2,3,4,5,6,7,8,9,10,11,12,13,14,15,16,17,18,19,20,21,22,23,24,25,26,27,28] l)) (.cond (.g 3 .leaf) .leaf) (.g 3 (.s (.call (K7 m) qw rg_21) (.g 1 (.loop ⟨(C3l1 i).at (bo k i) m,AV k i m⟩ (gl (g2 (gP 0) (g2 (gA za.D rg_21) (g2 (gP 29) (g2 (gP 22) (g2 (gA zf.D [22,23,24,25,26,27,28]) (g2 (gO zf.D [22,23,24,25,26,27,28]) (gI 12))))))) (g2 (gI 14) (g2 (gO za.D rg_21) (gO zi.D [29,30]))) [nq_9,nE]) .leaf)))))))))))) (.g 3 .back)) .leaf)))) m
theorem S3 (k : Nat) : (C3 k).Sound pG :=
 fsn mixed (C3 k) (n := 143) (rs := rsOf pG 3) [] [] (gj (gB 6) []) (fun i => (.g 1 (.g 1 (.s (.call (K6 k) [] [0,1,2,3,4,5,6,7,8,9,10,11,12,13,14,15,16,17,18,19,20,21,22,23,24,25,26,27,28]) (.g 5 (.g 2 (.uw (.g 1 (.s (.new 29 []) (.g 1 (.g 1 (.s (.nil 30 10 42) (.loop ⟨(C3l0 i).at (bm k i) k,AU k i k⟩ (gl (g2 (gP 29) (g2 (gP 0) (g2 (gA za.D rg_21) (g2 (gP 22) (g2 (gA zf.D [22,23,24,25,26,27,28]) (gO zf.D [22,23,24,25,26,27,28])))))) (g2 (gI 10) (g2 (gO zi.D [29,30]) (gO za.D rg_21))) [nE,nq_9]) (.drw (.q [0,2,3,4,5,6] [.C 29 0] (.a 1 (.call K8 qw rg_21) [.C 29 0] (.q [7] [] (.cond (.g 1 .ret) (.g 1 (.loop ⟨(C3l2 i).at (bp k i) k,AW k i k⟩ (gl (g2 (gP 29) (g2 (gP 0) (g2 (gA za.D rg_21) (g2 (gP 22) (g2 (gA zf.D [22,23,24,25,26,27,28]) (gO zf.D [22,23,24,25,26,27,28])))))) (g2 (gI 12) (g2 (gO zi.D [29,30]) (gO za.D rg_21))) [nE,nq_9]) (.join (Bool) 0 0 (gj (gB 6) []) (fun e t l j => ([(6,.bool t)] ++ kp [] e,ka [29,30,0,1,2,3,4,5,6,7,8,9,10,11,12,13,14,15,16,17,18,19,20,21,22,23,24,25,26,27,28] e)) (.drw (.q [0,2,3,4,5] [.C 29 0] (.a 1 (.call (K14 k) qw [84,0,1,2,3,4,5,6,7,8,9,10,11,12,13,14,15,16,17,18,19,20,21]) [.C 29 0] (.a 6 (.call (K13 k) [.O 84,.O 30] []) [] (.q [7] [] (.split 140 (.a 8 (.call (K15 k) [] []) [] (.q [9,10] [] .leaf)) (.q [8,9,10] [] .leaf))))))) .ret))))))))))))))))))))) Tryz.func3
def K3 (k : Nat) : SCon El pG := ⟨C3 k,S3 k,Tryz.call3⟩
theorem rD {w0 w : World} {As : List HP} {k : Nat} {B : Int} {j : Option Addr} {u : Nat} {times : List Int} {X_times : HP} {e : Option Addr} {l : Nat} {steps : List Int} {t : Bool} (A : SlRd X_times ecI 1 j times) (y : times.length <= u) (z : SlRd X_times ecI 1 e steps) (x : steps.length <= l) (hm : wD k B times steps = some t) (H : St w0 (X_times :: As) w) :
  xI pG 3 #[.i B,.slice j times.length u,.slice e steps.length l] w fun v w' => v = .bool t /\ St w0 (X_times :: As) w' := by
 refine (S3 k (B,(j,u,times),(e,l,steps),()) t hm w0 w (X_times :: As) (rdc (rdH 8 (.head _) A y) (rdc (rdH 8 (.head _) z x) rd0)) H).mono ?_;rintro v w' ⟨I,D,hn,ha,hv,H,F⟩;obtain rfl := ls0 hn;obtain rfl := ls0 ha;refine ⟨hv,?_⟩;exact H
end
end Go.Proofs.YtojpmaakhdmhmaaGreat
noncomputable section

end
namespace Go.Proofs.YtojpmaakhdmhmaaGreat.topTimes
open Go.ChangeShapes Go.WideShapes Go.ChangeAt Go.RowKit
noncomputable section
open Go.ChangeMaps (open_string shut_string)
set_option maxRecDepth 10000
theorem own : ownKnob Tryz.prog.godebug = none := by kernel_rfl
theorem laidOut : laidOutB Tryz.prog = true := by kernel_rfl
set_option maxRecDepth 100000 in
theorem lifted (os : Os) (started : os.Started) (H : Type) (enc : TypeId × Value -> H) :
  ReturnsInHanded {} Tryz.checked os 3 .any (Rows.topTimesSpec.pre6 enc Tryz.prog Tryz.f3 Rows.topTimesRow.domain false) (Rows.topTimesSpec.post enc Tryz.prog Tryz.f3 false true false false) := by
 refine returnsInHanded_of_change (C := Tryz.checked) own started (by kernel_rfl) Tryz.func3
  (ChangeSpec.witness6 (enc := enc) (C := Tryz.checked) false ⟨#[],#[.int .i64 0,.slice none 0 0,.slice none 0 0],[]⟩ 8 (by kernel_rfl) (by kernel_rfl) (by kernel_rfl) (by kernel_rfl)) ?_
 intro W base args ds gs before hval0 hW hcnd _;have hval : ∀ (j : Nat) t v,Tryz.f3.params[j]? = some t -> args[j]? = some v -> Value.okWide Tryz.prog W .any base t v := hval0;have hW' := hW;obtain ⟨p,q,hA0,hV,rfl,hfz,hnd⟩ := hW;have hA : DataW.TrodAll enc Tryz.prog W 0 (fun _ => true) true Tryz.f3.params.toList args.toList ds p := hA0;rw [Tryz.params3] at hA hval;obtain ⟨v0,vs0,d0,ds0,p0,q0,hargs,rfl,rfl,h0,r0⟩ := trodAll_cons hA;obtain ⟨v1,vs1,d1,ds1,p1,q1,rfl,rfl,rfl,h1,r1⟩ := trodAll_cons r0;obtain ⟨v2,vs2,d2,ds2,p2,q2,rfl,rfl,rfl,h2,r2⟩ := trodAll_cons r1;obtain ⟨rfl,rfl,rfl⟩ := trodAll_nil r2;obtain rfl : args = #[v0,v1,v2] := by cases args; simp_all
 obtain ⟨rfl,rfl⟩ := trodVars_none hV;obtain ⟨a0,rfl,rfl,rfl,w0⟩ := open_int Tryz.underlying3 (hval 0 3 v0 rfl rfl) h0;obtain ⟨a1,len1,cap1,rfl⟩ := okWide_slice Tryz.underlying22 (hval 1 22 v1 rfl rfl);have k1 := h1;have lt1 : ∀ x ∈ p1,x.block < W.heap.size := by obtain ⟨m,hm⟩ := k1; exact DataW.trod_lt m _ _ _ hm
 obtain ⟨l1,hl1,hC1,hX1⟩ : ∃ l : List Int,l.length = len1 /\ len1 <= cap1 /\ Th.SlRd (Th.Old W) Th.ecI 1 a1 l := by
  obtain ⟨fuel,hf⟩ := h1;obtain ⟨sb,len,cap,l,hcs,hl,hC,hX⟩ := Th.ed (α := Int) Tryz.underlying22 (by kernel_rfl) Th.wj (by decide) (Th.fq (by kernel_rfl)) hf;simp [Value.cells] at hcs;obtain ⟨rfl,rfl,rfl⟩ := hcs;exact ⟨l,hl,hC,hX⟩
 subst hl1;obtain ⟨a2,len2,cap2,rfl⟩ := okWide_slice Tryz.underlying22 (hval 2 22 v2 rfl rfl);have k2 := h2;have lt2 : ∀ x ∈ p2,x.block < W.heap.size := by obtain ⟨m,hm⟩ := k2; exact DataW.trod_lt m _ _ _ hm
 obtain ⟨l2,hl2,hC2,hX2⟩ : ∃ l : List Int,l.length = len2 /\ len2 <= cap2 /\ Th.SlRd (Th.Old W) Th.ecI 1 a2 l := by
  obtain ⟨fuel,hf⟩ := h2;obtain ⟨sb,len,cap,l,hcs,hl,hC,hX⟩ := Th.ed (α := Int) Tryz.underlying22 (by kernel_rfl) Th.wj (by decide) (Th.fq (by kernel_rfl)) hf;simp [Value.cells] at hcs;obtain ⟨rfl,rfl,rfl⟩ := hcs;exact ⟨l,hl,hC,hX⟩
 subst hl2;clear hA0 hval0;obtain ⟨k,hm⟩ := topTimes_plain a0 l1 l2;have hw := rD (X_times := Th.Old W)  hX1 hC1 hX2 hC2 hm (Th.St.begin W);refine Calls.mono hw fun e W' ⟨v,he,hv,HS⟩ => ?_
 subst hv; subst he;have bel := HS.below 0 rfl;exact ⟨_,rfl,_,_,_,[],_,[],hW',trodAll_mk1 (shut_bool Tryz.underlying4 _),(trodAll_cons_mk (shut_int Tryz.underlying3 w0) (trodAll_cons_mk (Below.trod laidOut (by kernel_rfl) (of_decide_eq_true (by kernel_rfl)) k1 bel lt1) (trodAll_cons_mk (Below.trod laidOut (by kernel_rfl) (of_decide_eq_true (by kernel_rfl)) k2 bel lt2) trodAll_mk0))),rfl,bel.frame _,fun h => by cases h⟩
end
end Go.Proofs.YtojpmaakhdmhmaaGreat.topTimes
namespace Go.Proofs.YtojpmaakhdmhmaaGreat.topTimes
noncomputable section
set_option maxRecDepth 10000
theorem fD : (Rows.topTimesRow.inPlace == Tryz.pinned.checked.prog.inPlace 3) = true := by kernel_rfl
end
noncomputable section
set_option maxRecDepth 10000
theorem kc : (Rows.topTimesRow.unfollowed == Tryz.pinned.checked.prog.unfollowed 3) = true := by kernel_rfl
end
noncomputable section
set_option maxRecDepth 10000
theorem iY : (Rows.topTimesRow.recurses == Tryz.pinned.checked.prog.recurses 3) = true := by kernel_rfl
end
noncomputable section
set_option maxRecDepth 10000
theorem bA : (Rows.topTimesRow.named == Tryz.pinned.checked.prog.varsNamed 3) = true := by kernel_rfl
end
noncomputable section
set_option maxRecDepth 10000
theorem closed : joinedFacts Tryz.pinned.checked.prog 3 Tryz.f3 Rows.topTimesSpec Rows.topTimesRow = true := by
 unfold joinedFacts;rw [fD,kc,iY,bA]
 kernel_rfl
end
end Go.Proofs.YtojpmaakhdmhmaaGreat.topTimes
namespace Go.Proofs.YtojpmaakhdmhmaaGreat.topTimes
open Go.ChangeShapes Go.WideShapes Go.ChangeAt Go.RowKit
noncomputable section
open Go.ChangeMaps (open_string shut_string)
set_option maxRecDepth 10000
theorem over : Rows.topTimesRow.holds Tryz.pinned (OpenSpec.ofChange Rows.topTimesSpec) :=
 OpenClaim.holds_of_wide 3 Tryz.f3 rfl rfl rfl rfl rfl rfl rfl ⟨rfl,rfl,rfl,rfl,rfl⟩ rfl rfl rfl rfl rfl (by kernel_rfl) Tryz.func3 closed
  (of_decide_eq_true (by kernel_rfl)) (by unfold Func.isWrapper; first | (rw [if_pos (by decide +kernel)]; kernel_rfl) | (rw [if_neg (by decide +kernel)]; exact ⟨rfl,rfl⟩))
  (fun os started H enc _ => lifted os started H enc)
theorem topTimes_holds : Rows.TopTimesSaid := over
end
end Go.Proofs.YtojpmaakhdmhmaaGreat.topTimes
