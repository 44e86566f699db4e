/-
  The statements TopScripts of the program.
  Text 5 of 9: of what the proof needs (a row of the program: no condition is left); put together and made narrow by a program.
-/
import Derived.Shelf.Slices.In.SortNone
import Derived.Shelf.Sort.Plain
import Derived.Test.YtcepppmiplonfaaGreatProg
import Derived.Test.YtcepppmiplonfaaGreatYb4
set_option linter.unusedVariables false
set_option linter.unusedSimpArgs false
namespace Go.Proofs
open Go.Shelf
noncomputable section
open Go.Sort Go.RowKit in
open Go.RowKit Go.Sort in
end
end Go.Proofs
noncomputable section
abbrev Go.Value.i (x:Int):Go.Value:=.int .i64 x
namespace Go.Th
abbrev ks_4:List ASrc:=[.K 0,.K 1,.K 2,.K 3,.K 4]
abbrev nP:List ASrc:=[.K 0,.K 1,.K 2,.K 3,.K 4,.K 5,.K 6,.K 7,.K 8,.K 9,.K 10,.K 11,.K 12,.K 13]
abbrev gm:List ASrc:=[.K 0,.K 1,.K 2,.K 3,.K 4,.K 5,.K 6,.K 7,.K 8,.K 9,.K 10,.K 11,.K 12,.K 13,.K 14,.K 15,.K 16,.K 17,.K 18,.K 19,.K 20,.K 21]
abbrev ks_6:List ASrc:=[.K 0,.K 1,.K 2,.K 3,.K 4,.K 5,.K 6]
end Go.Th
set_option maxRecDepth 10000
set_option maxHeartbeats 4000000
namespace Go.Proofs.YtcepppmiplonfaaGreat
open Go.Th
abbrev pG:=Tryz.prog
theorem mixed:pG.follows .mixedOrders=true:=by kernel_rfl
theorem zy.dY {x:zy}{i v:Int}(h:zy.pE x i=some v):(zy.enc x)[i.toNat*1]? = some (.i v):=by
  by_cases h0:i=0
  · subst h0;simp[zy.pE] at h;subst h;rfl
  by_cases h1:i=1
  · subst h1;simp[zy.pE] at h;subst h;rfl
  by_cases h2:i=2
  · subst h2;simp[zy.pE] at h;subst h;rfl
  by_cases h3:i=3
  · subst h3;simp[zy.pE] at h;subst h;rfl
  by_cases h4:i=4
  · subst h4;simp[zy.pE] at h;subst h;rfl
  by_cases e:i=5
  · subst e;simp[zy.pE] at h;subst h;rfl
  by_cases j:i=6
  · subst j;simp[zy.pE] at h;subst h;rfl
  by_cases l:i=7
  · subst l;simp[zy.pE] at h;subst h;rfl
  by_cases t:i=8
  · subst t;simp[zy.pE] at h;subst h;rfl
  by_cases u:i=9
  · subst u;simp[zy.pE] at h;subst h;rfl
  · simp[zy.pE,h0,h1,h2,h3,h4,e,j,l,t,u] at h
theorem zy.cA {x y:zy}{i v:Int}(h:zy.nk x i v=some y):zy.enc y=putAt (zy.enc x) (i.toNat*1) [.i v]:=by
  by_cases h0:i=0
  · subst h0;simp[zy.nk] at h;subst h;rfl
  by_cases h1:i=1
  · subst h1;simp[zy.nk] at h;subst h;rfl
  by_cases h2:i=2
  · subst h2;simp[zy.nk] at h;subst h;rfl
  by_cases h3:i=3
  · subst h3;simp[zy.nk] at h;subst h;rfl
  by_cases h4:i=4
  · subst h4;simp[zy.nk] at h;subst h;rfl
  by_cases e:i=5
  · subst e;simp[zy.nk] at h;subst h;rfl
  by_cases j:i=6
  · subst j;simp[zy.nk] at h;subst h;rfl
  by_cases l:i=7
  · subst l;simp[zy.nk] at h;subst h;rfl
  by_cases t:i=8
  · subst t;simp[zy.nk] at h;subst h;rfl
  by_cases u:i=9
  · subst u;simp[zy.nk] at h;subst h;rfl
  · simp[zy.nk,h0,h1,h2,h3,h4,e,j,l,t,u] at h
theorem zd.lQ (w:World)(d:Nat)(x y:zd):(Op.equalIn (d+2) 44 (.agg #[.i x.At,.i x.Gen]) (.agg #[.i y.At,.i y.Gen])).run pG w = .ok (zd.eq x y) w :=
  ir (d+1) rfl (by kernel_rfl) (vA (a:=.i x.At) (b:=.i y.At) rfl rfl (by kernel_rfl) (by kernel_rfl) (run_equalIn_int w _ _ _ _ _ _ rfl) (vA (a:=.i x.Gen) (b:=.i y.Gen) rfl rfl (by kernel_rfl) (by kernel_rfl) (run_equalIn_int w _ _ _ _ _ _ rfl) (iq rfl)))
theorem zd.rI (x y:zd):lF pG 44 #[.i x.At,.i x.Gen] #[.i y.At,.i y.Gen] (zd.eq x y):=fun w=>zd.lQ w 9998 x y
theorem zd.tA:qv pG 44 zd.val zd.eq :=
  qv.struct (fs:=pG.fieldsOf 44) rfl (fun w em x=>nj 9999 (fs:=pG.fieldsOf 44) rfl w em (bj (v:=.i x.At) rfl rfl (by kernel_rfl) (pD 9998 rfl _ _ _) (bj (v:=.i x.Gen) rfl rfl (by kernel_rfl) (pD 9998 rfl _ _ _) (CQ rfl)))) (fun w x y=>zd.rI x y w) (fun x=>by simp[zd.val,Instr.sameBits]) (fun x y h=>by cases x;cases y;simpa[zd.eq] using h)
theorem zn.lQ (w:World)(d:Nat)(x y:zn):(Op.equalIn (d+3) 46 (.agg #[.i x.Why,.i x.Job.At,.i x.Job.Gen,.i x.Time,.i x.Data,.i x.N]) (.agg #[.i y.Why,.i y.Job.At,.i y.Job.Gen,.i y.Time,.i y.Data,.i y.N])).run pG w = .ok (zn.eq x y) w :=
  ir (d+2) rfl (by kernel_rfl) (vA (a:=.i x.Why) (b:=.i y.Why) rfl rfl (by kernel_rfl) (by kernel_rfl) (run_equalIn_int w _ _ _ _ _ _ rfl) (vA (a:=.agg #[.i x.Job.At,.i x.Job.Gen]) (b:=.agg #[.i y.Job.At,.i y.Job.Gen]) rfl rfl (by kernel_rfl) (by kernel_rfl) (zd.lQ w d x.Job y.Job) (vA (a:=.i x.Time) (b:=.i y.Time) rfl rfl (by kernel_rfl) (by kernel_rfl) (run_equalIn_int w _ _ _ _ _ _ rfl) (vA (a:=.i x.Data) (b:=.i y.Data) rfl rfl (by kernel_rfl) (by kernel_rfl) (run_equalIn_int w _ _ _ _ _ _ rfl) (vA (a:=.i x.N) (b:=.i y.N) rfl rfl (by kernel_rfl) (by kernel_rfl) (run_equalIn_int w _ _ _ _ _ _ rfl) (iq rfl))))))
theorem zn.rI (x y:zn):lF pG 46 #[.i x.Why,.i x.Job.At,.i x.Job.Gen,.i x.Time,.i x.Data,.i x.N] #[.i y.Why,.i y.Job.At,.i y.Job.Gen,.i y.Time,.i y.Data,.i y.N] (zn.eq x y):=fun w=>zn.lQ w 9997 x y
theorem zk.lQ (w:World)(d:Nat)(x y:zk):(Op.equalIn (d+3) 50 (.agg #[.i x.Kind,.i x.Queue,.i x.Job.At,.i x.Job.Gen,.i x.Time,.i x.Data]) (.agg #[.i y.Kind,.i y.Queue,.i y.Job.At,.i y.Job.Gen,.i y.Time,.i y.Data])).run pG w = .ok (zk.eq x y) w :=
  ir (d+2) rfl (by kernel_rfl) (vA (a:=.i x.Kind) (b:=.i y.Kind) rfl rfl (by kernel_rfl) (by kernel_rfl) (run_equalIn_int w _ _ _ _ _ _ rfl) (vA (a:=.i x.Queue) (b:=.i y.Queue) rfl rfl (by kernel_rfl) (by kernel_rfl) (run_equalIn_int w _ _ _ _ _ _ rfl) (vA (a:=.agg #[.i x.Job.At,.i x.Job.Gen]) (b:=.agg #[.i y.Job.At,.i y.Job.Gen]) rfl rfl (by kernel_rfl) (by kernel_rfl) (zd.lQ w d x.Job y.Job) (vA (a:=.i x.Time) (b:=.i y.Time) rfl rfl (by kernel_rfl) (by kernel_rfl) (run_equalIn_int w _ _ _ _ _ _ rfl) (vA (a:=.i x.Data) (b:=.i y.Data) rfl rfl (by kernel_rfl) (by kernel_rfl) (run_equalIn_int w _ _ _ _ _ _ rfl) (iq rfl))))))
theorem zk.rI (x y:zk):lF pG 50 #[.i x.Kind,.i x.Queue,.i x.Job.At,.i x.Job.Gen,.i x.Time,.i x.Data] #[.i y.Kind,.i y.Queue,.i y.Job.At,.i y.Job.Gen,.i y.Time,.i y.Data] (zk.eq x y):=fun w=>zk.lQ w 9997 x y
theorem zx.lQ (w:World)(d:Nat)(x y:zx):(Op.equalIn (d+4) 52 (.agg #[.i x.Command.Kind,.i x.Command.Queue,.i x.Command.Job.At,.i x.Command.Job.Gen,.i x.Command.Time,.i x.Command.Data,.i x.Reply.Why,.i x.Reply.Job.At,.i x.Reply.Job.Gen,.i x.Reply.Time,.i x.Reply.Data,.i x.Reply.N,.i x.Now,.i x.Steps]) (.agg #[.i y.Command.Kind,.i y.Command.Queue,.i y.Command.Job.At,.i y.Command.Job.Gen,.i y.Command.Time,.i y.Command.Data,.i y.Reply.Why,.i y.Reply.Job.At,.i y.Reply.Job.Gen,.i y.Reply.Time,.i y.Reply.Data,.i y.Reply.N,.i y.Now,.i y.Steps])).run pG w = .ok (zx.eq x y) w :=
  ir (d+3) rfl (by kernel_rfl) (vA (a:=.agg #[.i x.Command.Kind,.i x.Command.Queue,.i x.Command.Job.At,.i x.Command.Job.Gen,.i x.Command.Time,.i x.Command.Data]) (b:=.agg #[.i y.Command.Kind,.i y.Command.Queue,.i y.Command.Job.At,.i y.Command.Job.Gen,.i y.Command.Time,.i y.Command.Data]) rfl rfl (by kernel_rfl) (by kernel_rfl) (zk.lQ w d x.Command y.Command) (vA (a:=.agg #[.i x.Reply.Why,.i x.Reply.Job.At,.i x.Reply.Job.Gen,.i x.Reply.Time,.i x.Reply.Data,.i x.Reply.N]) (b:=.agg #[.i y.Reply.Why,.i y.Reply.Job.At,.i y.Reply.Job.Gen,.i y.Reply.Time,.i y.Reply.Data,.i y.Reply.N]) rfl rfl (by kernel_rfl) (by kernel_rfl) (zn.lQ w d x.Reply y.Reply) (vA (a:=.i x.Now) (b:=.i y.Now) rfl rfl (by kernel_rfl) (by kernel_rfl) (run_equalIn_int w _ _ _ _ _ _ rfl) (vA (a:=.i x.Steps) (b:=.i y.Steps) rfl rfl (by kernel_rfl) (by kernel_rfl) (run_equalIn_int w _ _ _ _ _ _ rfl) (iq rfl)))))
theorem zx.rI (x y:zx):lF pG 52 #[.i x.Command.Kind,.i x.Command.Queue,.i x.Command.Job.At,.i x.Command.Job.Gen,.i x.Command.Time,.i x.Command.Data,.i x.Reply.Why,.i x.Reply.Job.At,.i x.Reply.Job.Gen,.i x.Reply.Time,.i x.Reply.Data,.i x.Reply.N,.i x.Now,.i x.Steps] #[.i y.Command.Kind,.i y.Command.Queue,.i y.Command.Job.At,.i y.Command.Job.Gen,.i y.Command.Time,.i y.Command.Data,.i y.Reply.Why,.i y.Reply.Job.At,.i y.Reply.Job.Gen,.i y.Reply.Time,.i y.Reply.Data,.i y.Reply.N,.i y.Now,.i y.Steps] (zx.eq x y):=fun w=>zx.lQ w 9996 x y
structure sZ.A where
  L_b:Option Addr
  L_c:Nat
  Kinds_b:Option Addr
  Kinds_c:Nat
  Acts_b:Option Addr
  Acts_c:Nat
instance:Inhabited sZ.A:=⟨sZ.A.mk default default default default default default⟩
structure zz.A where
  Acts_b:Option Addr
  Acts_c:Nat
instance:Inhabited zz.A:=⟨zz.A.mk default default⟩
structure za.A where
  l_b:Option Addr
  l_c:Nat
  free_b:Option Addr
  free_c:Nat
  m__p:Nat
instance:Inhabited za.A:=⟨za.A.mk default default default default default⟩
structure zi.A where
  l_b:Option Addr
  l_c:Nat
  free_b:Option Addr
  free_c:Nat
instance:Inhabited zi.A:=⟨zi.A.mk default default default default⟩
structure ze.A where
  l_b:Option Addr
  l_c:Nat
  free_b:Option Addr
  free_c:Nat
instance:Inhabited ze.A:=⟨ze.A.mk default default default default⟩
structure zm.A where
  heaps_p:Nat
  heaps_a:zi.A
  items_p:Nat
  items_a:ze.A
  at__p:Nat
instance:Inhabited zm.A:=⟨zm.A.mk default default default default default⟩
structure zr.A where
  a__p:Nat
  a__a:za.A
  t__p:Nat
  t__a:zm.A
  entries_p:Nat
instance:Inhabited zr.A:=⟨zr.A.mk default default default default default⟩
structure zf.A where
  l_b:Option Addr
  l_c:Nat
  free_b:Option Addr
  free_c:Nat
instance:Inhabited zf.A:=⟨zf.A.mk default default default default⟩
structure zq.A where
  p_p:Nat
  p_a:zf.A
  by__p:Nat
instance:Inhabited zq.A:=⟨zq.A.mk default default default⟩
structure zb.A where
  q_p:Nat
  q_a:zr.A
  t__p:Nat
  t__a:zq.A
  when_p:Nat
  clock_p:Nat
instance:Inhabited zb.A:=⟨zb.A.mk default default default default default default⟩
structure zg.A where
  c__p:Nat
instance:Inhabited zg.A:=⟨zg.A.mk default⟩
structure zj.A where
  l_b:Option Addr
  l_c:Nat
instance:Inhabited zj.A:=⟨zj.A.mk default default⟩
structure zh.A where
  d_p:Nat
  d_a:zb.A
  desk_p:Nat
  desk_a:zj.A
instance:Inhabited zh.A:=⟨zh.A.mk default default default default⟩
structure zw.A where
  s_p:Nat
  s_a:zh.A
  l_b:Option Addr
  l_c:Nat
instance:Inhabited zw.A:=⟨zw.A.mk default default default default⟩
structure xQ.A where
  Replies_b:Option Addr
  Replies_c:Nat
  Events_b:Option Addr
  Events_c:Nat
instance:Inhabited xQ.A:=⟨xQ.A.mk default default default default⟩
structure zo.A where
  Gens_b:Option Addr
  Gens_c:Nat
  In_b:Option Addr
  In_c:Nat
  V_b:Option Addr
  V_c:Nat
  Back_b:Option Addr
  Back_c:Nat
instance:Inhabited zo.A:=⟨zo.A.mk default default default default default default default default⟩
structure zc.A where
  Pool_p:Nat
  Pool_a:zo.A
  L_b:Option Addr
  L_c:Nat
instance:Inhabited zc.A:=⟨zc.A.mk default default default default⟩
structure zu.A where
  b_X:HP
  b_b:Option Addr
  b_c:Nat
instance:Inhabited zu.A:=⟨zu.A.mk (fun _=>True) default default⟩
def zz.R (p:Nat)(e:zz.A)(m:zz):HP:=sepL [Blk p 31 [.i m.Kind,.i m.Jobs,.i m.Boxes,.i m.Room,.slice e.Acts_b m.Acts.length e.Acts_c],Sl 88 zS.enc 8 e.Acts_b e.Acts_c m.Acts]
theorem zz.open {w0 w:World}{As:List HP}{p:Nat}{e:zz.A}{m:zz}(H:St w0 (zz.R p e m::As) w):St w0 (Blk p 31 [.i m.Kind,.i m.Jobs,.i m.Boxes,.i m.Room,.slice e.Acts_b m.Acts.length e.Acts_c]::Sl 88 zS.enc 8 e.Acts_b e.Acts_c m.Acts::As) w:=St.flat H
theorem zz.shut {w0 w:World}{As:List HP}{p:Nat}(e:zz.A)(m:zz)(H:St w0 (Blk p 31 [.i m.Kind,.i m.Jobs,.i m.Boxes,.i m.Room,.slice e.Acts_b m.Acts.length e.Acts_c]::Sl 88 zS.enc 8 e.Acts_b e.Acts_c m.Acts::As) w):St w0 (zz.R p e m::As) w:=St.group [Blk p 31 [.i m.Kind,.i m.Jobs,.i m.Boxes,.i m.Room,.slice e.Acts_b m.Acts.length e.Acts_c],Sl 88 zS.enc 8 e.Acts_b e.Acts_c m.Acts] H
def zI.R (p:Nat)(m:zI):HP:=sepL [Blk p 204 [.i m.steps,.i m.begun,.i m.most]]
theorem zI.open {w0 w:World}{As:List HP}{p:Nat}{m:zI}(H:St w0 (zI.R p m::As) w):St w0 (Blk p 204 [.i m.steps,.i m.begun,.i m.most]::As) w:=St.flat H
theorem zI.shut {w0 w:World}{As:List HP}{p:Nat}(m:zI)(H:St w0 (Blk p 204 [.i m.steps,.i m.begun,.i m.most]::As) w):St w0 (zI.R p m::As) w:=St.group [Blk p 204 [.i m.steps,.i m.begun,.i m.most]] H
def za.R (p:Nat)(e:za.A)(m:za):HP:=sepL [Blk p 191 [.slice e.l_b m.l.length e.l_c,.i m.never,.slice e.free_b m.free.length e.free_c,.pointer (some ⟨e.m__p,0,none⟩)],Sl 276 zy.enc 11 e.l_b e.l_c m.l,Sl 3 ecI 1 e.free_b e.free_c m.free,zI.R e.m__p m.m_]
theorem za.open {w0 w:World}{As:List HP}{p:Nat}{e:za.A}{m:za}(H:St w0 (za.R p e m::As) w):St w0 (Blk p 191 [.slice e.l_b m.l.length e.l_c,.i m.never,.slice e.free_b m.free.length e.free_c,.pointer (some ⟨e.m__p,0,none⟩)]::Sl 276 zy.enc 11 e.l_b e.l_c m.l::Sl 3 ecI 1 e.free_b e.free_c m.free::zI.R e.m__p m.m_::As) w:=St.flat H
theorem za.shut {w0 w:World}{As:List HP}{p:Nat}(e:za.A)(m:za)(H:St w0 (Blk p 191 [.slice e.l_b m.l.length e.l_c,.i m.never,.slice e.free_b m.free.length e.free_c,.pointer (some ⟨e.m__p,0,none⟩)]::Sl 276 zy.enc 11 e.l_b e.l_c m.l::Sl 3 ecI 1 e.free_b e.free_c m.free::zI.R e.m__p m.m_::As) w):St w0 (za.R p e m::As) w:=St.group [Blk p 191 [.slice e.l_b m.l.length e.l_c,.i m.never,.slice e.free_b m.free.length e.free_c,.pointer (some ⟨e.m__p,0,none⟩)],Sl 276 zy.enc 11 e.l_b e.l_c m.l,Sl 3 ecI 1 e.free_b e.free_c m.free,zI.R e.m__p m.m_] H
def zi.R (p:Nat)(e:zi.A)(m:zi):HP:=sepL [Blk p 242 [.i m.most,.slice e.l_b m.l.length e.l_c,.slice e.free_b m.free.length e.free_c],Sl 247 zA.enc 5 e.l_b e.l_c m.l,Sl 3 ecI 1 e.free_b e.free_c m.free]
theorem zi.open {w0 w:World}{As:List HP}{p:Nat}{e:zi.A}{m:zi}(H:St w0 (zi.R p e m::As) w):St w0 (Blk p 242 [.i m.most,.slice e.l_b m.l.length e.l_c,.slice e.free_b m.free.length e.free_c]::Sl 247 zA.enc 5 e.l_b e.l_c m.l::Sl 3 ecI 1 e.free_b e.free_c m.free::As) w:=St.flat H
theorem zi.shut {w0 w:World}{As:List HP}{p:Nat}(e:zi.A)(m:zi)(H:St w0 (Blk p 242 [.i m.most,.slice e.l_b m.l.length e.l_c,.slice e.free_b m.free.length e.free_c]::Sl 247 zA.enc 5 e.l_b e.l_c m.l::Sl 3 ecI 1 e.free_b e.free_c m.free::As) w):St w0 (zi.R p e m::As) w:=St.group [Blk p 242 [.i m.most,.slice e.l_b m.l.length e.l_c,.slice e.free_b m.free.length e.free_c],Sl 247 zA.enc 5 e.l_b e.l_c m.l,Sl 3 ecI 1 e.free_b e.free_c m.free] H
def ze.R (p:Nat)(e:ze.A)(m:ze):HP:=sepL [Blk p 245 [.i m.most,.slice e.l_b m.l.length e.l_c,.slice e.free_b m.free.length e.free_c],Sl 284 zs.enc 5 e.l_b e.l_c m.l,Sl 3 ecI 1 e.free_b e.free_c m.free]
theorem ze.open {w0 w:World}{As:List HP}{p:Nat}{e:ze.A}{m:ze}(H:St w0 (ze.R p e m::As) w):St w0 (Blk p 245 [.i m.most,.slice e.l_b m.l.length e.l_c,.slice e.free_b m.free.length e.free_c]::Sl 284 zs.enc 5 e.l_b e.l_c m.l::Sl 3 ecI 1 e.free_b e.free_c m.free::As) w:=St.flat H
theorem ze.shut {w0 w:World}{As:List HP}{p:Nat}(e:ze.A)(m:ze)(H:St w0 (Blk p 245 [.i m.most,.slice e.l_b m.l.length e.l_c,.slice e.free_b m.free.length e.free_c]::Sl 284 zs.enc 5 e.l_b e.l_c m.l::Sl 3 ecI 1 e.free_b e.free_c m.free::As) w):St w0 (ze.R p e m::As) w:=St.group [Blk p 245 [.i m.most,.slice e.l_b m.l.length e.l_c,.slice e.free_b m.free.length e.free_c],Sl 284 zs.enc 5 e.l_b e.l_c m.l,Sl 3 ecI 1 e.free_b e.free_c m.free] H
def zm.R (p:Nat)(e:zm.A)(m:zm):HP:=sepL [Blk p 202 [.pointer (some ⟨e.heaps_p,0,none⟩),.pointer (some ⟨e.items_p,0,none⟩),.map (some e.at__p)],zi.R e.heaps_p e.heaps_a m.heaps,ze.R e.items_p e.items_a m.items,MpA e.at__p vI zd.val m.at_]
theorem zm.open {w0 w:World}{As:List HP}{p:Nat}{e:zm.A}{m:zm}(H:St w0 (zm.R p e m::As) w):St w0 (Blk p 202 [.pointer (some ⟨e.heaps_p,0,none⟩),.pointer (some ⟨e.items_p,0,none⟩),.map (some e.at__p)]::zi.R e.heaps_p e.heaps_a m.heaps::ze.R e.items_p e.items_a m.items::MpA e.at__p vI zd.val m.at_::As) w:=St.flat H
theorem zm.shut {w0 w:World}{As:List HP}{p:Nat}(e:zm.A)(m:zm)(H:St w0 (Blk p 202 [.pointer (some ⟨e.heaps_p,0,none⟩),.pointer (some ⟨e.items_p,0,none⟩),.map (some e.at__p)]::zi.R e.heaps_p e.heaps_a m.heaps::ze.R e.items_p e.items_a m.items::MpA e.at__p vI zd.val m.at_::As) w):St w0 (zm.R p e m::As) w:=St.group [Blk p 202 [.pointer (some ⟨e.heaps_p,0,none⟩),.pointer (some ⟨e.items_p,0,none⟩),.map (some e.at__p)],zi.R e.heaps_p e.heaps_a m.heaps,ze.R e.items_p e.items_a m.items,MpA e.at__p vI zd.val m.at_] H
def zr.R (p:Nat)(e:zr.A)(m:zr):HP:=sepL [Blk p 146 [.i m.items,.pointer (some ⟨e.a__p,0,none⟩),.pointer (some ⟨e.t__p,0,none⟩),.map (some e.entries_p),.i m.serial],za.R e.a__p e.a__a m.a_,zm.R e.t__p e.t__a m.t_,MpA e.entries_p zd.val zJ.val m.entries]
theorem zr.open {w0 w:World}{As:List HP}{p:Nat}{e:zr.A}{m:zr}(H:St w0 (zr.R p e m::As) w):St w0 (Blk p 146 [.i m.items,.pointer (some ⟨e.a__p,0,none⟩),.pointer (some ⟨e.t__p,0,none⟩),.map (some e.entries_p),.i m.serial]::za.R e.a__p e.a__a m.a_::zm.R e.t__p e.t__a m.t_::MpA e.entries_p zd.val zJ.val m.entries::As) w:=St.flat H
theorem zr.shut {w0 w:World}{As:List HP}{p:Nat}(e:zr.A)(m:zr)(H:St w0 (Blk p 146 [.i m.items,.pointer (some ⟨e.a__p,0,none⟩),.pointer (some ⟨e.t__p,0,none⟩),.map (some e.entries_p),.i m.serial]::za.R e.a__p e.a__a m.a_::zm.R e.t__p e.t__a m.t_::MpA e.entries_p zd.val zJ.val m.entries::As) w):St w0 (zr.R p e m::As) w:=St.group [Blk p 146 [.i m.items,.pointer (some ⟨e.a__p,0,none⟩),.pointer (some ⟨e.t__p,0,none⟩),.map (some e.entries_p),.i m.serial],za.R e.a__p e.a__a m.a_,zm.R e.t__p e.t__a m.t_,MpA e.entries_p zd.val zJ.val m.entries] H
def zf.R (p:Nat)(e:zf.A)(m:zf):HP:=sepL [Blk p 238 [.i m.most,.slice e.l_b m.l.length e.l_c,.slice e.free_b m.free.length e.free_c],Sl 296 zt.enc 7 e.l_b e.l_c m.l,Sl 3 ecI 1 e.free_b e.free_c m.free]
theorem zf.open {w0 w:World}{As:List HP}{p:Nat}{e:zf.A}{m:zf}(H:St w0 (zf.R p e m::As) w):St w0 (Blk p 238 [.i m.most,.slice e.l_b m.l.length e.l_c,.slice e.free_b m.free.length e.free_c]::Sl 296 zt.enc 7 e.l_b e.l_c m.l::Sl 3 ecI 1 e.free_b e.free_c m.free::As) w:=St.flat H
theorem zf.shut {w0 w:World}{As:List HP}{p:Nat}(e:zf.A)(m:zf)(H:St w0 (Blk p 238 [.i m.most,.slice e.l_b m.l.length e.l_c,.slice e.free_b m.free.length e.free_c]::Sl 296 zt.enc 7 e.l_b e.l_c m.l::Sl 3 ecI 1 e.free_b e.free_c m.free::As) w):St w0 (zf.R p e m::As) w:=St.group [Blk p 238 [.i m.most,.slice e.l_b m.l.length e.l_c,.slice e.free_b m.free.length e.free_c],Sl 296 zt.enc 7 e.l_b e.l_c m.l,Sl 3 ecI 1 e.free_b e.free_c m.free] H
def zq.R (p:Nat)(e:zq.A)(m:zq):HP:=sepL [Blk p 184 [.pointer (some ⟨e.p_p,0,none⟩),.map (some e.by__p)],zf.R e.p_p e.p_a m.p,MpA e.by__p zd.val zd.val m.by_]
theorem zq.open {w0 w:World}{As:List HP}{p:Nat}{e:zq.A}{m:zq}(H:St w0 (zq.R p e m::As) w):St w0 (Blk p 184 [.pointer (some ⟨e.p_p,0,none⟩),.map (some e.by__p)]::zf.R e.p_p e.p_a m.p::MpA e.by__p zd.val zd.val m.by_::As) w:=St.flat H
theorem zq.shut {w0 w:World}{As:List HP}{p:Nat}(e:zq.A)(m:zq)(H:St w0 (Blk p 184 [.pointer (some ⟨e.p_p,0,none⟩),.map (some e.by__p)]::zf.R e.p_p e.p_a m.p::MpA e.by__p zd.val zd.val m.by_::As) w):St w0 (zq.R p e m::As) w:=St.group [Blk p 184 [.pointer (some ⟨e.p_p,0,none⟩),.map (some e.by__p)],zf.R e.p_p e.p_a m.p,MpA e.by__p zd.val zd.val m.by_] H
def zW.R (p:Nat)(m:zW):HP:=sepL [Blk p 180 [.i m.now]]
theorem zW.open {w0 w:World}{As:List HP}{p:Nat}{m:zW}(H:St w0 (zW.R p m::As) w):St w0 (Blk p 180 [.i m.now]::As) w:=St.flat H
theorem zW.shut {w0 w:World}{As:List HP}{p:Nat}(m:zW)(H:St w0 (Blk p 180 [.i m.now]::As) w):St w0 (zW.R p m::As) w:=St.group [Blk p 180 [.i m.now]] H
def zb.R (p:Nat)(e:zb.A)(m:zb):HP:=sepL [Blk p 131 [.i m.kind,.i m.most,.pointer (some ⟨e.q_p,0,none⟩),.i m.heaps0.At,.i m.heaps0.Gen,.i m.heaps1.At,.i m.heaps1.Gen,.pointer (some ⟨e.t__p,0,none⟩),.map (some e.when_p),.pointer (some ⟨e.clock_p,0,none⟩),.i m.budget,.i m.last,.i m.top],zr.R e.q_p e.q_a m.q,zq.R e.t__p e.t__a m.t_,MpA e.when_p zd.val vI m.when,zW.R e.clock_p m.clock]
theorem zb.open {w0 w:World}{As:List HP}{p:Nat}{e:zb.A}{m:zb}(H:St w0 (zb.R p e m::As) w):St w0 (Blk p 131 [.i m.kind,.i m.most,.pointer (some ⟨e.q_p,0,none⟩),.i m.heaps0.At,.i m.heaps0.Gen,.i m.heaps1.At,.i m.heaps1.Gen,.pointer (some ⟨e.t__p,0,none⟩),.map (some e.when_p),.pointer (some ⟨e.clock_p,0,none⟩),.i m.budget,.i m.last,.i m.top]::zr.R e.q_p e.q_a m.q::zq.R e.t__p e.t__a m.t_::MpA e.when_p zd.val vI m.when::zW.R e.clock_p m.clock::As) w:=St.flat H
theorem zb.shut {w0 w:World}{As:List HP}{p:Nat}(e:zb.A)(m:zb)(H:St w0 (Blk p 131 [.i m.kind,.i m.most,.pointer (some ⟨e.q_p,0,none⟩),.i m.heaps0.At,.i m.heaps0.Gen,.i m.heaps1.At,.i m.heaps1.Gen,.pointer (some ⟨e.t__p,0,none⟩),.map (some e.when_p),.pointer (some ⟨e.clock_p,0,none⟩),.i m.budget,.i m.last,.i m.top]::zr.R e.q_p e.q_a m.q::zq.R e.t__p e.t__a m.t_::MpA e.when_p zd.val vI m.when::zW.R e.clock_p m.clock::As) w):St w0 (zb.R p e m::As) w:=St.group [Blk p 131 [.i m.kind,.i m.most,.pointer (some ⟨e.q_p,0,none⟩),.i m.heaps0.At,.i m.heaps0.Gen,.i m.heaps1.At,.i m.heaps1.Gen,.pointer (some ⟨e.t__p,0,none⟩),.map (some e.when_p),.pointer (some ⟨e.clock_p,0,none⟩),.i m.budget,.i m.last,.i m.top],zr.R e.q_p e.q_a m.q,zq.R e.t__p e.t__a m.t_,MpA e.when_p zd.val vI m.when,zW.R e.clock_p m.clock] H
def zg.R (p:Nat)(e:zg.A)(m:zg):HP:=sepL [Blk p 230 [.chan (some e.c__p)],ChM e.c__p zk.val m.c_]
theorem zg.open {w0 w:World}{As:List HP}{p:Nat}{e:zg.A}{m:zg}(H:St w0 (zg.R p e m::As) w):St w0 (Blk p 230 [.chan (some e.c__p)]::ChM e.c__p zk.val m.c_::As) w:=St.flat H
theorem zg.shut {w0 w:World}{As:List HP}{p:Nat}(e:zg.A)(m:zg)(H:St w0 (Blk p 230 [.chan (some e.c__p)]::ChM e.c__p zk.val m.c_::As) w):St w0 (zg.R p e m::As) w:=St.group [Blk p 230 [.chan (some e.c__p)],ChM e.c__p zk.val m.c_] H
def zg.encX (g:Nat × zg.A):List Value:=[.pointer (some ⟨g.1,0,none⟩)]
def zg.RX (g:Nat × zg.A)(x:zg):HP:=zg.R g.1 g.2 x
theorem zg.pP:wg zg.encX 1:=⟨fun _=>rfl,fun x u hu=>by simp[zg.encX] at hu;subst hu;rfl⟩
def zj.R (p:Nat)(e:zj.A)(m:zj):HP:=sepL [Blk p 164 [.slice e.l_b m.l.length e.l_c],SlX 165 zg.encX zg.RX e.l_b e.l_c m.l]
theorem zj.open {w0 w:World}{As:List HP}{p:Nat}{e:zj.A}{m:zj}(H:St w0 (zj.R p e m::As) w):St w0 (Blk p 164 [.slice e.l_b m.l.length e.l_c]::SlX 165 zg.encX zg.RX e.l_b e.l_c m.l::As) w:=St.flat H
theorem zj.shut {w0 w:World}{As:List HP}{p:Nat}(e:zj.A)(m:zj)(H:St w0 (Blk p 164 [.slice e.l_b m.l.length e.l_c]::SlX 165 zg.encX zg.RX e.l_b e.l_c m.l::As) w):St w0 (zj.R p e m::As) w:=St.group [Blk p 164 [.slice e.l_b m.l.length e.l_c],SlX 165 zg.encX zg.RX e.l_b e.l_c m.l] H
def zh.R (p:Nat)(e:zh.A)(m:zh):HP:=sepL [Blk p 116 [.pointer (some ⟨e.d_p,0,none⟩),.pointer (some ⟨e.desk_p,0,none⟩)],zb.R e.d_p e.d_a m.d,zj.R e.desk_p e.desk_a m.desk]
theorem zh.open {w0 w:World}{As:List HP}{p:Nat}{e:zh.A}{m:zh}(H:St w0 (zh.R p e m::As) w):St w0 (Blk p 116 [.pointer (some ⟨e.d_p,0,none⟩),.pointer (some ⟨e.desk_p,0,none⟩)]::zb.R e.d_p e.d_a m.d::zj.R e.desk_p e.desk_a m.desk::As) w:=St.flat H
theorem zh.shut {w0 w:World}{As:List HP}{p:Nat}(e:zh.A)(m:zh)(H:St w0 (Blk p 116 [.pointer (some ⟨e.d_p,0,none⟩),.pointer (some ⟨e.desk_p,0,none⟩)]::zb.R e.d_p e.d_a m.d::zj.R e.desk_p e.desk_a m.desk::As) w):St w0 (zh.R p e m::As) w:=St.group [Blk p 116 [.pointer (some ⟨e.d_p,0,none⟩),.pointer (some ⟨e.desk_p,0,none⟩)],zb.R e.d_p e.d_a m.d,zj.R e.desk_p e.desk_a m.desk] H
def zw.R (p:Nat)(e:zw.A)(m:zw):HP:=sepL [Blk p 90 [.pointer (some ⟨e.s_p,0,none⟩),.slice e.l_b m.l.length e.l_c],zh.R e.s_p e.s_a m.s,Sl 52 zx.enc 14 e.l_b e.l_c m.l]
theorem zw.open {w0 w:World}{As:List HP}{p:Nat}{e:zw.A}{m:zw}(H:St w0 (zw.R p e m::As) w):St w0 (Blk p 90 [.pointer (some ⟨e.s_p,0,none⟩),.slice e.l_b m.l.length e.l_c]::zh.R e.s_p e.s_a m.s::Sl 52 zx.enc 14 e.l_b e.l_c m.l::As) w:=St.flat H
theorem zw.shut {w0 w:World}{As:List HP}{p:Nat}(e:zw.A)(m:zw)(H:St w0 (Blk p 90 [.pointer (some ⟨e.s_p,0,none⟩),.slice e.l_b m.l.length e.l_c]::zh.R e.s_p e.s_a m.s::Sl 52 zx.enc 14 e.l_b e.l_c m.l::As) w):St w0 (zw.R p e m::As) w:=St.group [Blk p 90 [.pointer (some ⟨e.s_p,0,none⟩),.slice e.l_b m.l.length e.l_c],zh.R e.s_p e.s_a m.s,Sl 52 zx.enc 14 e.l_b e.l_c m.l] H
def zo.R (p:Nat)(e:zo.A)(m:zo):HP:=sepL [Blk p 170 [.i m.Most,.slice e.Gens_b m.Gens.length e.Gens_c,.slice e.In_b m.In.length e.In_c,.slice e.V_b m.V.length e.V_c,.slice e.Back_b m.Back.length e.Back_c],Sl 3 ecI 1 e.Gens_b e.Gens_c m.Gens,Sl 4 ecB 1 e.In_b e.In_c m.In,Sl 2 ecI 1 e.V_b e.V_c m.V,Sl 3 ecI 1 e.Back_b e.Back_c m.Back]
theorem zo.open {w0 w:World}{As:List HP}{p:Nat}{e:zo.A}{m:zo}(H:St w0 (zo.R p e m::As) w):St w0 (Blk p 170 [.i m.Most,.slice e.Gens_b m.Gens.length e.Gens_c,.slice e.In_b m.In.length e.In_c,.slice e.V_b m.V.length e.V_c,.slice e.Back_b m.Back.length e.Back_c]::Sl 3 ecI 1 e.Gens_b e.Gens_c m.Gens::Sl 4 ecB 1 e.In_b e.In_c m.In::Sl 2 ecI 1 e.V_b e.V_c m.V::Sl 3 ecI 1 e.Back_b e.Back_c m.Back::As) w:=St.flat H
theorem zo.shut {w0 w:World}{As:List HP}{p:Nat}(e:zo.A)(m:zo)(H:St w0 (Blk p 170 [.i m.Most,.slice e.Gens_b m.Gens.length e.Gens_c,.slice e.In_b m.In.length e.In_c,.slice e.V_b m.V.length e.V_c,.slice e.Back_b m.Back.length e.Back_c]::Sl 3 ecI 1 e.Gens_b e.Gens_c m.Gens::Sl 4 ecB 1 e.In_b e.In_c m.In::Sl 2 ecI 1 e.V_b e.V_c m.V::Sl 3 ecI 1 e.Back_b e.Back_c m.Back::As) w):St w0 (zo.R p e m::As) w:=St.group [Blk p 170 [.i m.Most,.slice e.Gens_b m.Gens.length e.Gens_c,.slice e.In_b m.In.length e.In_c,.slice e.V_b m.V.length e.V_c,.slice e.Back_b m.Back.length e.Back_c],Sl 3 ecI 1 e.Gens_b e.Gens_c m.Gens,Sl 4 ecB 1 e.In_b e.In_c m.In,Sl 2 ecI 1 e.V_b e.V_c m.V,Sl 3 ecI 1 e.Back_b e.Back_c m.Back] H
def zc.R (p:Nat)(e:zc.A)(m:zc):HP:=sepL [Blk p 86 [.i m.Most,.i m.Now,.i m.Next,.pointer (some ⟨e.Pool_p,0,none⟩),.slice e.L_b m.L.length e.L_c],zo.R e.Pool_p e.Pool_a m.Pool,Sl 123 zH.enc 6 e.L_b e.L_c m.L]
theorem zc.open {w0 w:World}{As:List HP}{p:Nat}{e:zc.A}{m:zc}(H:St w0 (zc.R p e m::As) w):St w0 (Blk p 86 [.i m.Most,.i m.Now,.i m.Next,.pointer (some ⟨e.Pool_p,0,none⟩),.slice e.L_b m.L.length e.L_c]::zo.R e.Pool_p e.Pool_a m.Pool::Sl 123 zH.enc 6 e.L_b e.L_c m.L::As) w:=St.flat H
theorem zc.shut {w0 w:World}{As:List HP}{p:Nat}(e:zc.A)(m:zc)(H:St w0 (Blk p 86 [.i m.Most,.i m.Now,.i m.Next,.pointer (some ⟨e.Pool_p,0,none⟩),.slice e.L_b m.L.length e.L_c]::zo.R e.Pool_p e.Pool_a m.Pool::Sl 123 zH.enc 6 e.L_b e.L_c m.L::As) w):St w0 (zc.R p e m::As) w:=St.group [Blk p 86 [.i m.Most,.i m.Now,.i m.Next,.pointer (some ⟨e.Pool_p,0,none⟩),.slice e.L_b m.L.length e.L_c],zo.R e.Pool_p e.Pool_a m.Pool,Sl 123 zH.enc 6 e.L_b e.L_c m.L] H
def zu.R (p:Nat)(e:zu.A)(m:zu):HP:=sepL [Blk p 136 [.slice e.b_b m.b.length e.b_c,.bool m.bad],Pure (SlRd e.b_X ecU 1 e.b_b m.b/\m.b.length<=e.b_c)]
theorem zu.open {w0 w:World}{As:List HP}{p:Nat}{e:zu.A}{m:zu}(H:St w0 (zu.R p e m::As) w):St w0 (Blk p 136 [.slice e.b_b m.b.length e.b_c,.bool m.bad]::Pure (SlRd e.b_X ecU 1 e.b_b m.b/\m.b.length<=e.b_c)::As) w:=St.flat H
theorem zu.shut {w0 w:World}{As:List HP}{p:Nat}(e:zu.A)(m:zu)(H:St w0 (Blk p 136 [.slice e.b_b m.b.length e.b_c,.bool m.bad]::Pure (SlRd e.b_X ecU 1 e.b_b m.b/\m.b.length<=e.b_c)::As) w):St w0 (zu.R p e m::As) w:=St.group [Blk p 136 [.slice e.b_b m.b.length e.b_c,.bool m.bad],Pure (SlRd e.b_X ecU 1 e.b_b m.b/\m.b.length<=e.b_c)] H
def zk.dec (l:List Value):Option zk:=match l with
  | [.int _ x1,.int _ x2,.int _ x3,.int _ x4,.int _ x5,.int _ x6]=>some (zk.mk x1 x2 (zd.mk x3 x4) x5 x6)
  | _=>none
def zk.dv (v:Value):Option zk:=match v with
  | .agg cs=>zk.dec cs.toList
  | _=>none
def yw.dec (l:List Value):Option yw:=match l with
  | [.int _ x1,.int _ x2,.int _ x3,.int _ x4,.int _ x5,.int _ x6,.int _ x7,.int _ x8,.int _ x9,.int _ x10,.int _ x11]=>some (yw.mk x1 x2 x3 x4 x5 (zk.mk x6 x7 (zd.mk x8 x9) x10 x11))
  | _=>none
def yw.dv (v:Value):Option yw:=match v with
  | .agg cs=>yw.dec cs.toList
  | _=>none
def yk.dec (l:List Value):Option yk:=match l with
  | [.int _ x1,.int _ x2,.int _ x3,.int _ x4,.int _ x5,.int _ x6,.int _ x7,.int _ x8,.int _ x9]=>some (yk.mk x1 x2 (zd.mk x3 x4) (zd.mk x5 x6) (zd.mk x7 x8) x9)
  | _=>none
def yk.dv (v:Value):Option yk:=match v with
  | .agg cs=>yk.dec cs.toList
  | _=>none
def zd.dec (l:List Value):Option zd:=match l with
  | [.int _ x1,.int _ x2]=>some (zd.mk x1 x2)
  | _=>none
def zd.dv (v:Value):Option zd:=match v with
  | .agg cs=>zd.dec cs.toList
  | _=>none
def zG.dec (l:List Value):Option zG:=match l with
  | [.int _ x1,.int _ x2,.int _ x3]=>some (zG.mk x1 x2 x3)
  | _=>none
def zG.dv (v:Value):Option zG:=match v with
  | .agg cs=>zG.dec cs.toList
  | _=>none
def zR.dec (l:List Value):Option zR:=match l with
  | [.int _ x1,.int _ x2,.int _ x3,.int _ x4,.int _ x5,.int _ x6,.int _ x7,.int _ x8]=>some (zR.mk x1 (zd.mk x2 x3) (zd.mk x4 x5) (zJ.mk x6 x7) x8)
  | _=>none
def zR.dv (v:Value):Option zR:=match v with
  | .agg cs=>zR.dec cs.toList
  | _=>none
def zy.dec (l:List Value):Option zy:=match l with
  | [.int _ x1,.int _ x2,.int _ x3,.int _ x4,.int _ x5,.int _ x6,.int _ x7,.int _ x8,.int _ x9,.int _ x10,.bool x11]=>some (zy.mk x1 x2 x3 x4 x5 x6 x7 x8 x9 x10 x11)
  | _=>none
def zy.dv (v:Value):Option zy:=match v with
  | .agg cs=>zy.dec cs.toList
  | _=>none
def zJ.dec (l:List Value):Option zJ:=match l with
  | [.int _ x1,.int _ x2]=>some (zJ.mk x1 x2)
  | _=>none
def zJ.dv (v:Value):Option zJ:=match v with
  | .agg cs=>zJ.dec cs.toList
  | _=>none
def zp.dec (l:List Value):Option zp:=match l with
  | [.int _ x1,.int _ x2]=>some (zp.mk x1 x2)
  | _=>none
def zp.dv (v:Value):Option zp:=match v with
  | .agg cs=>zp.dec cs.toList
  | _=>none
def zD.dec (l:List Value):Option zD:=match l with
  | [.int _ x1,.int _ x2,.int _ x3]=>some (zD.mk x1 (zd.mk x2 x3))
  | _=>none
def zD.dv (v:Value):Option zD:=match v with
  | .agg cs=>zD.dec cs.toList
  | _=>none
def zn.dec (l:List Value):Option zn:=match l with
  | [.int _ x1,.int _ x2,.int _ x3,.int _ x4,.int _ x5,.int _ x6]=>some (zn.mk x1 (zd.mk x2 x3) x4 x5 x6)
  | _=>none
def zn.dv (v:Value):Option zn:=match v with
  | .agg cs=>zn.dec cs.toList
  | _=>none
def zS.dec (l:List Value):Option zS:=match l with
  | [.int _ x1,.int _ x2,.int _ x3,.int _ x4,.int _ x5,.int _ x6,.int _ x7,.int _ x8]=>some (zS.mk x1 x2 (zk.mk x3 x4 (zd.mk x5 x6) x7 x8))
  | _=>none
def zS.dv (v:Value):Option zS:=match v with
  | .agg cs=>zS.dec cs.toList
  | _=>none
def zF.dec (l:List Value):Option zF:=match l with
  | [.int _ x1,.int _ x2,.int _ x3,.int _ x4,.int _ x5]=>some (zF.mk x1 x2 x3 (zd.mk x4 x5))
  | _=>none
def zF.dv (v:Value):Option zF:=match v with
  | .agg cs=>zF.dec cs.toList
  | _=>none
def zH.dec (l:List Value):Option zH:=match l with
  | [.int _ x1,.int _ x2,.int _ x3,.int _ x4,.int _ x5,.int _ x6]=>some (zH.mk x1 x2 (zJ.mk x3 x4) (zd.mk x5 x6))
  | _=>none
def zH.dv (v:Value):Option zH:=match v with
  | .agg cs=>zH.dec cs.toList
  | _=>none
def zx.dec (l:List Value):Option zx:=match l with
  | [.int _ x1,.int _ x2,.int _ x3,.int _ x4,.int _ x5,.int _ x6,.int _ x7,.int _ x8,.int _ x9,.int _ x10,.int _ x11,.int _ x12,.int _ x13,.int _ x14]=>some (zx.mk (zk.mk x1 x2 (zd.mk x3 x4) x5 x6) (zn.mk x7 (zd.mk x8 x9) x10 x11 x12) x13 x14)
  | _=>none
def zx.dv (v:Value):Option zx:=match v with
  | .agg cs=>zx.dec cs.toList
  | _=>none
def zA.dec (l:List Value):Option zA:=match l with
  | [.int _ x1,.bool x2,.int _ x3,.int _ x4,.int _ x5]=>some (zA.mk x1 x2 (zG.mk x3 x4 x5))
  | _=>none
def zA.dv (v:Value):Option zA:=match v with
  | .agg cs=>zA.dec cs.toList
  | _=>none
def zs.dec (l:List Value):Option zs:=match l with
  | [.int _ x1,.bool x2,.int _ x3,.int _ x4,.int _ x5]=>some (zs.mk x1 x2 (zD.mk x3 (zd.mk x4 x5)))
  | _=>none
def zs.dv (v:Value):Option zs:=match v with
  | .agg cs=>zs.dec cs.toList
  | _=>none
def zt.dec (l:List Value):Option zt:=match l with
  | [.int _ x1,.bool x2,.int _ x3,.int _ x4,.int _ x5,.int _ x6,.int _ x7]=>some (zt.mk x1 x2 (zF.mk x3 x4 x5 (zd.mk x6 x7)))
  | _=>none
def zt.dv (v:Value):Option zt:=match v with
  | .agg cs=>zt.dec cs.toList
  | _=>none
def zE.dec (l:List Value):Option zE:=match l with
  | [.int _ x1,.int _ x2,.int _ x3,.int _ x4,.int _ x5,.int _ x6,.int _ x7,.int _ x8,.int _ x9,.int _ x10,.int _ x11,.int _ x12,.int _ x13]=>some (zE.mk x1 x2 (yw.mk x3 x4 x5 x6 x7 (zk.mk x8 x9 (zd.mk x10 x11) x12 x13)))
  | _=>none
def zE.dv (v:Value):Option zE:=match v with
  | .agg cs=>zE.dec cs.toList
  | _=>none
def elV:Nat->ElD
  | 0=>⟨zS,zS.enc,8,zS.zY,zS.dec⟩
  | 1=>⟨zd,zd.enc,2,zd.zY,zd.dec⟩
  | 2=>⟨Int,ecI,1,wY,dI⟩
  | 3=>⟨zy,zy.enc,11,zy.zY,zy.dec⟩
  | 4=>⟨zA,zA.enc,5,zA.zY,zA.dec⟩
  | 5=>⟨zs,zs.enc,5,zs.zY,zs.dec⟩
  | 6=>⟨zt,zt.enc,7,zt.zY,zt.dec⟩
  | 7=>⟨zp,zp.enc,2,zp.zY,zp.dec⟩
  | 8=>⟨zx,zx.enc,14,zx.zY,zx.dec⟩
  | 9=>⟨zn,zn.enc,6,zn.zY,zn.dec⟩
  | 10=>⟨Bool,ecB,1,CT,dB⟩
  | 11=>⟨Int,ecI,1,wY,dI⟩
  | 12=>⟨zH,zH.enc,6,zH.zY,zH.dec⟩
  | 13=>⟨zk,zk.enc,6,zk.zY,zk.dec⟩
  | 14=>⟨zE,zE.enc,13,zE.zY,zE.dec⟩
  | 15=>⟨Int,ecU,1,mZ,dI⟩
  | _=>⟨Int,ecI,1,wY,dI⟩
def mpV:Nat->MpD
  | 0=>⟨Int,zd,vI,zd.val,dvI,zd.dv,kI⟩
  | 1=>⟨zd,zJ,zd.val,zJ.val,zd.dv,zJ.dv,zd.eq⟩
  | 2=>⟨zd,zd,zd.val,zd.val,zd.dv,zd.dv,zd.eq⟩
  | 3=>⟨zd,Int,zd.val,vI,zd.dv,dvI,zd.eq⟩
  | _=>⟨Int,Int,vI,vI,dvI,dvI,kI⟩
def El:Ev:=⟨elV,mpV⟩
def zd.eqD:EqD pG:=⟨zd,44,fun x=>#[.i x.At,.i x.Gen],zd.dv,zd.eq,zd.rI⟩
def zn.eqD:EqD pG:=⟨zn,46,fun x=>#[.i x.Why,.i x.Job.At,.i x.Job.Gen,.i x.Time,.i x.Data,.i x.N],zn.dv,zn.eq,zn.rI⟩
def zk.eqD:EqD pG:=⟨zk,50,fun x=>#[.i x.Kind,.i x.Queue,.i x.Job.At,.i x.Job.Gen,.i x.Time,.i x.Data],zk.dv,zk.eq,zk.rI⟩
def zx.eqD:EqD pG:=⟨zx,52,fun x=>#[.i x.Command.Kind,.i x.Command.Queue,.i x.Command.Job.At,.i x.Command.Job.Gen,.i x.Command.Time,.i x.Command.Data,.i x.Reply.Why,.i x.Reply.Job.At,.i x.Reply.Job.Gen,.i x.Reply.Time,.i x.Reply.Data,.i x.Reply.N,.i x.Now,.i x.Steps],zx.dv,zx.eq,zx.rI⟩
def zz.D:OD El:=⟨zz.A,zz,fun p e m=>[.blk p 31 [.i m.Kind,.i m.Jobs,.i m.Boxes,.i m.Room,.slice e.Acts_b m.Acts.length e.Acts_c]]++[.sl 0 88 e.Acts_b e.Acts_c m.Acts],fun l=>match l with
  | .blk _ _ [.int _ x1,.int _ x2,.int _ x3,.int _ x4,_]::r=>(rS 0 r).bind fun (x5,x6)=>some (zz.A.mk x5.1 x5.2.1,zz.mk x1 x2 x3 x4 x5.2.2,x6)
  | _=>none⟩
def zI.D:OD El:=⟨Unit,zI,fun p e m=>[.blk p 204 [.i m.steps,.i m.begun,.i m.most]],fun l=>match l with
  | .blk _ _ [.int _ x1,.int _ x2,.int _ x3]::r=>some ((),zI.mk x1 x2 x3,r)
  | _=>none⟩
def za.D:OD El:=⟨za.A,za,fun p e m=>[.blk p 191 [.slice e.l_b m.l.length e.l_c,.i m.never,.slice e.free_b m.free.length e.free_c,.pointer (some ⟨e.m__p,0,none⟩)]]++[.sl 3 276 e.l_b e.l_c m.l]++[.sl 2 3 e.free_b e.free_c m.free]++zI.D.flat e.m__p () m.m_,fun l=>match l with
  | .blk _ _ [_,.int _ x2,_,.pointer (some ⟨x5,_,_⟩)]::r=>(rS 3 r).bind fun (x1,x6)=>(rS 2 x6).bind fun (x3,x7)=>(zI.D.rd x7).bind fun (t,j,x8)=>some (za.A.mk x1.1 x1.2.1 x3.1 x3.2.1 x5,za.mk x1.2.2 x2 x3.2.2 j,x8)
  | _=>none⟩
def zi.D:OD El:=⟨zi.A,zi,fun p e m=>[.blk p 242 [.i m.most,.slice e.l_b m.l.length e.l_c,.slice e.free_b m.free.length e.free_c]]++[.sl 4 247 e.l_b e.l_c m.l]++[.sl 2 3 e.free_b e.free_c m.free],fun l=>match l with
  | .blk _ _ [.int _ x1,_,_]::r=>(rS 4 r).bind fun (x2,x4)=>(rS 2 x4).bind fun (x3,x5)=>some (zi.A.mk x2.1 x2.2.1 x3.1 x3.2.1,zi.mk x1 x2.2.2 x3.2.2,x5)
  | _=>none⟩
def ze.D:OD El:=⟨ze.A,ze,fun p e m=>[.blk p 245 [.i m.most,.slice e.l_b m.l.length e.l_c,.slice e.free_b m.free.length e.free_c]]++[.sl 5 284 e.l_b e.l_c m.l]++[.sl 2 3 e.free_b e.free_c m.free],fun l=>match l with
  | .blk _ _ [.int _ x1,_,_]::r=>(rS 5 r).bind fun (x2,x4)=>(rS 2 x4).bind fun (x3,x5)=>some (ze.A.mk x2.1 x2.2.1 x3.1 x3.2.1,ze.mk x1 x2.2.2 x3.2.2,x5)
  | _=>none⟩
def zm.D:OD El:=⟨zm.A,zm,fun p e m=>[.blk p 202 [.pointer (some ⟨e.heaps_p,0,none⟩),.pointer (some ⟨e.items_p,0,none⟩),.map (some e.at__p)]]++zi.D.flat e.heaps_p e.heaps_a m.heaps++ze.D.flat e.items_p e.items_a m.items++[.mp 0 e.at__p m.at_],fun l=>match l with
  | .blk _ _ [.pointer (some ⟨x2,_,_⟩),.pointer (some ⟨x4,_,_⟩),_]::r=>(zi.D.rd r).bind fun (x11,x12,x6)=>(ze.D.rd x6).bind fun (i,j,x7)=>(rM 0 x7).bind fun (x5,x8)=>some (zm.A.mk x2 x11 x4 i x5.1,zm.mk x12 j x5.2,x8)
  | _=>none⟩
def zr.D:OD El:=⟨zr.A,zr,fun p e m=>[.blk p 146 [.i m.items,.pointer (some ⟨e.a__p,0,none⟩),.pointer (some ⟨e.t__p,0,none⟩),.map (some e.entries_p),.i m.serial]]++za.D.flat e.a__p e.a__a m.a_++zm.D.flat e.t__p e.t__a m.t_++[.mp 1 e.entries_p m.entries],fun l=>match l with
  | .blk _ _ [.int _ x1,.pointer (some ⟨x3,_,_⟩),.pointer (some ⟨x5,_,_⟩),_,.int _ x7]::r=>(za.D.rd r).bind fun (j,t,x8)=>(zm.D.rd x8).bind fun (u,x,x9)=>(rM 1 x9).bind fun (x6,x10)=>some (zr.A.mk x3 j x5 u x6.1,zr.mk x1 t x x6.2 x7,x10)
  | _=>none⟩
def zf.D:OD El:=⟨zf.A,zf,fun p e m=>[.blk p 238 [.i m.most,.slice e.l_b m.l.length e.l_c,.slice e.free_b m.free.length e.free_c]]++[.sl 6 296 e.l_b e.l_c m.l]++[.sl 2 3 e.free_b e.free_c m.free],fun l=>match l with
  | .blk _ _ [.int _ x1,_,_]::r=>(rS 6 r).bind fun (x2,x4)=>(rS 2 x4).bind fun (x3,x5)=>some (zf.A.mk x2.1 x2.2.1 x3.1 x3.2.1,zf.mk x1 x2.2.2 x3.2.2,x5)
  | _=>none⟩
def zq.D:OD El:=⟨zq.A,zq,fun p e m=>[.blk p 184 [.pointer (some ⟨e.p_p,0,none⟩),.map (some e.by__p)]]++zf.D.flat e.p_p e.p_a m.p++[.mp 2 e.by__p m.by_],fun l=>match l with
  | .blk _ _ [.pointer (some ⟨x2,_,_⟩),_]::r=>(zf.D.rd r).bind fun (x11,x12,x4)=>(rM 2 x4).bind fun (x3,x5)=>some (zq.A.mk x2 x11 x3.1,zq.mk x12 x3.2,x5)
  | _=>none⟩
def zW.D:OD El:=⟨Unit,zW,fun p e m=>[.blk p 180 [.i m.now]],fun l=>match l with
  | .blk _ _ [.int _ x1]::r=>some ((),zW.mk x1,r)
  | _=>none⟩
def zb.D:OD El:=⟨zb.A,zb,fun p e m=>[.blk p 131 [.i m.kind,.i m.most,.pointer (some ⟨e.q_p,0,none⟩),.i m.heaps0.At,.i m.heaps0.Gen,.i m.heaps1.At,.i m.heaps1.Gen,.pointer (some ⟨e.t__p,0,none⟩),.map (some e.when_p),.pointer (some ⟨e.clock_p,0,none⟩),.i m.budget,.i m.last,.i m.top]]++zr.D.flat e.q_p e.q_a m.q++zq.D.flat e.t__p e.t__a m.t_++[.mp 3 e.when_p m.when]++zW.D.flat e.clock_p () m.clock,fun l=>match l with
  | .blk _ _ [.int _ x1,.int _ x2,.pointer (some ⟨x4,_,_⟩),.int _ x5,.int _ x6,.int _ x7,.int _ x8,.pointer (some ⟨x10,_,_⟩),_,.pointer (some ⟨x13,_,_⟩),.int _ x14,.int _ t,.int _ u]::r=>(zr.D.rd r).bind fun (F,I,x)=>(zq.D.rd x).bind fun (J,O,y)=>(rM 3 y).bind fun (x11,z)=>(zW.D.rd z).bind fun (S,j,B)=>some (zb.A.mk x4 F x10 J x11.1 x13,zb.mk x1 x2 I (zd.mk x5 x6) (zd.mk x7 x8) O x11.2 j x14 t u,B)
  | _=>none⟩
def zo.D:OD El:=⟨zo.A,zo,fun p e m=>[.blk p 170 [.i m.Most,.slice e.Gens_b m.Gens.length e.Gens_c,.slice e.In_b m.In.length e.In_c,.slice e.V_b m.V.length e.V_c,.slice e.Back_b m.Back.length e.Back_c]]++[.sl 2 3 e.Gens_b e.Gens_c m.Gens]++[.sl 10 4 e.In_b e.In_c m.In]++[.sl 11 2 e.V_b e.V_c m.V]++[.sl 2 3 e.Back_b e.Back_c m.Back],fun l=>match l with
  | .blk _ _ [.int _ x1,_,_,_,_]::r=>(rS 2 r).bind fun (x2,x6)=>(rS 10 x6).bind fun (x3,x7)=>(rS 11 x7).bind fun (x4,x8)=>(rS 2 x8).bind fun (x5,x9)=>some (zo.A.mk x2.1 x2.2.1 x3.1 x3.2.1 x4.1 x4.2.1 x5.1 x5.2.1,zo.mk x1 x2.2.2 x3.2.2 x4.2.2 x5.2.2,x9)
  | _=>none⟩
def zc.D:OD El:=⟨zc.A,zc,fun p e m=>[.blk p 86 [.i m.Most,.i m.Now,.i m.Next,.pointer (some ⟨e.Pool_p,0,none⟩),.slice e.L_b m.L.length e.L_c]]++zo.D.flat e.Pool_p e.Pool_a m.Pool++[.sl 12 123 e.L_b e.L_c m.L],fun l=>match l with
  | .blk _ _ [.int _ x1,.int _ x2,.int _ x3,.pointer (some ⟨x5,_,_⟩),_]::r=>(zo.D.rd r).bind fun (j,t,x7)=>(rS 12 x7).bind fun (x6,x8)=>some (zc.A.mk x5 j x6.1 x6.2.1,zc.mk x1 x2 x3 t x6.2.2,x8)
  | _=>none⟩
theorem zz.D_st {w0 w:World}{As:List HP}{p:Nat}{e:zz.A}{m:zz}:St w0 (zz.R p e m::As) w ↔ St w0 ((zz.D.flat p e m).map Atom.den++As) w:=by
  refine Iff.trans ⟨fun H=>zz.open H,fun H=>zz.shut e m H⟩ ?_;exact Iff.rfl
theorem zI.D_st {w0 w:World}{As:List HP}{p:Nat}{m:zI}:St w0 (zI.R p m::As) w ↔ St w0 ((zI.D.flat p () m).map Atom.den++As) w:=by
  refine Iff.trans ⟨fun H=>zI.open H,fun H=>zI.shut m H⟩ ?_;exact Iff.rfl
theorem za.D_st {w0 w:World}{As:List HP}{p:Nat}{e:za.A}{m:za}:St w0 (za.R p e m::As) w ↔ St w0 ((za.D.flat p e m).map Atom.den++As) w:=by
  refine Iff.trans ⟨fun H=>za.open H,fun H=>za.shut e m H⟩ ?_;refine Iff.trans (fs3 fun As=>zI.D_st) ?_;exact Iff.rfl
theorem zi.D_st {w0 w:World}{As:List HP}{p:Nat}{e:zi.A}{m:zi}:St w0 (zi.R p e m::As) w ↔ St w0 ((zi.D.flat p e m).map Atom.den++As) w:=by
  refine Iff.trans ⟨fun H=>zi.open H,fun H=>zi.shut e m H⟩ ?_;exact Iff.rfl
theorem ze.D_st {w0 w:World}{As:List HP}{p:Nat}{e:ze.A}{m:ze}:St w0 (ze.R p e m::As) w ↔ St w0 ((ze.D.flat p e m).map Atom.den++As) w:=by
  refine Iff.trans ⟨fun H=>ze.open H,fun H=>ze.shut e m H⟩ ?_;exact Iff.rfl
theorem zm.D_st {w0 w:World}{As:List HP}{p:Nat}{e:zm.A}{m:zm}:St w0 (zm.R p e m::As) w ↔ St w0 ((zm.D.flat p e m).map Atom.den++As) w:=by
  refine Iff.trans ⟨fun H=>zm.open H,fun H=>zm.shut e m H⟩ ?_;refine Iff.trans (fs2 fun As=>ze.D_st) ?_;refine Iff.trans (fs1 fun As=>zi.D_st) ?_;exact Iff.rfl
theorem zr.D_st {w0 w:World}{As:List HP}{p:Nat}{e:zr.A}{m:zr}:St w0 (zr.R p e m::As) w ↔ St w0 ((zr.D.flat p e m).map Atom.den++As) w:=by
  refine Iff.trans ⟨fun H=>zr.open H,fun H=>zr.shut e m H⟩ ?_;refine Iff.trans (fs2 fun As=>zm.D_st) ?_;refine Iff.trans (fs1 fun As=>za.D_st) ?_;exact Iff.rfl
theorem zf.D_st {w0 w:World}{As:List HP}{p:Nat}{e:zf.A}{m:zf}:St w0 (zf.R p e m::As) w ↔ St w0 ((zf.D.flat p e m).map Atom.den++As) w:=by
  refine Iff.trans ⟨fun H=>zf.open H,fun H=>zf.shut e m H⟩ ?_;exact Iff.rfl
theorem zq.D_st {w0 w:World}{As:List HP}{p:Nat}{e:zq.A}{m:zq}:St w0 (zq.R p e m::As) w ↔ St w0 ((zq.D.flat p e m).map Atom.den++As) w:=by
  refine Iff.trans ⟨fun H=>zq.open H,fun H=>zq.shut e m H⟩ ?_;refine Iff.trans (fs1 fun As=>zf.D_st) ?_;exact Iff.rfl
theorem zW.D_st {w0 w:World}{As:List HP}{p:Nat}{m:zW}:St w0 (zW.R p m::As) w ↔ St w0 ((zW.D.flat p () m).map Atom.den++As) w:=by
  refine Iff.trans ⟨fun H=>zW.open H,fun H=>zW.shut m H⟩ ?_;exact Iff.rfl
theorem zb.D_st {w0 w:World}{As:List HP}{p:Nat}{e:zb.A}{m:zb}:St w0 (zb.R p e m::As) w ↔ St w0 ((zb.D.flat p e m).map Atom.den++As) w:=by
  refine Iff.trans ⟨fun H=>zb.open H,fun H=>zb.shut e m H⟩ ?_;refine Iff.trans (fs4 fun As=>zW.D_st) ?_;refine Iff.trans (fs2 fun As=>zq.D_st) ?_;refine Iff.trans (fs1 fun As=>zr.D_st) ?_;exact Iff.rfl
theorem zo.D_st {w0 w:World}{As:List HP}{p:Nat}{e:zo.A}{m:zo}:St w0 (zo.R p e m::As) w ↔ St w0 ((zo.D.flat p e m).map Atom.den++As) w:=by
  refine Iff.trans ⟨fun H=>zo.open H,fun H=>zo.shut e m H⟩ ?_;exact Iff.rfl
theorem zc.D_st {w0 w:World}{As:List HP}{p:Nat}{e:zc.A}{m:zc}:St w0 (zc.R p e m::As) w ↔ St w0 ((zc.D.flat p e m).map Atom.den++As) w:=by
  refine Iff.trans ⟨fun H=>zc.open H,fun H=>zc.shut e m H⟩ ?_;refine Iff.trans (fs1 fun As=>zo.D_st) ?_;exact Iff.rfl
abbrev C19p:List (PK El):=[pI .i64,pI .i64,pI .i64]
def C19:Con El:=zM 19 C19p (fun e=>yU e.1 e.2.1 e.2.2.1) 0 0 (fun e t l j=>.i t) (fun e t l j=>[])
theorem S19:(C19).Sound pG :=
  fsn mixed (C19) (n:=33) (rs:=rsOf pG 19) [] [] (gj (gI 6) []) (fun i=>(.g 1 (.g 4 (.pj 10 (Bool) mB (gB 14) (fun st j=>([(14,.bool j)]++kp [0,1,2] st,ka [] st)) (.g 4 .leaf) (.g 4 .leaf) (.cond (.g 2 .ret) (.g 5 (.s (.gd 0 (.tmp 20) 0) (.s (.seg 2 [.Q 0]) (.g 2 (.join (Int) 0 0 (gj (gI 0) []) (fun e j t l=>([(0,.i j)]++kp [1] e,ka [] e)) (.cond (.g 7 .leaf) .leaf) (.g 4 .ret))))))))))) Tryz.func19
def K19:SCon El pG:=⟨C19,S19,Tryz.call19⟩
theorem wG {w0 w:World}{As:List HP}{n:Int}{lo:Int}{hi:Int}{t:Int}  (hm:yU n lo hi=some t)(H:St w0 (As) w) :
    ym pG 19 #[.i n,.i lo,.i hi] w fun v w'=>v = .i t/\St w0 (As) w':=by
  refine (S19 (n,lo,hi,()) t hm w0 w (As) rd0 H).mono ?_;rintro v w' ⟨l,e,hn,ha,hv,H,j⟩;obtain rfl:=ls0 hn;obtain rfl:=ls0 ha;refine⟨hv,?_⟩;exact H
abbrev C24p:List (PK El):=[pV yw.dv yw.val,pR 1]
def C24:Con El:=zM 24 C24p (fun e=>tr e.1 e.2.1.2.2) 0 0 (fun e t l j=>.agg #[.i t.Kind,.i t.Queue,.i t.Job.At,.i t.Job.Gen,.i t.Time,.i t.Data]) (fun e t l j=>[])
theorem S24:(C24).Sound pG :=
  fsn mixed (C24) (n:=52) (rs:=rsOf pG 24) [.C 2000 0,.C 2000 1,.C 2000 2,.C 2000 3,.C 2000 4,.C 2000 5] [] (gj (gC 2000 0 6 zk.dec) []) (fun i=>(.s (.new 0 []) (.s (.new 1 []) (.s (.seg 2 [.C 0 2]) (.s (.gd 0 (.const (.i 16)) 0) (.s (.seg 2 [.Q 0]) (.cond (.s (.seg 2 [.C 0 5,.C 0 6,.C 0 7,.C 0 8,.C 0 9,.C 0 10]) (.s (.sto 1) (.rk (rb 2000 [1]) .ret))) (.s (.bld 2 2 3) (.g 1 (.jg (zk) 1 0 (gj (gC 5 0 6 zk.dec) [nPk 5]) (fun e l t u=>([(6,.pointer (some ⟨(nn t 0),0,none⟩))]++kp [1,2,4] e,ka [1,0] e++zipL [5] [.blk (nn t 0) 50 [.i l.Kind,.i l.Queue,.i l.Job.At,.i l.Job.Gen,.i l.Time,.i l.Data]])) (.drw (.q [0,1,2,7,8,11,12,13,14] [.C 0 0,.C 0 1,.C 0 3,.C 0 4] (.alt2 3 (.call K19 [] []) [.C 0 4,.C 0 3,.C 0 1] (.s (.gd 0 (.const (.i 11)) 3) (.q [4] [.Q 3] (.s (.idx false 2 (.tmp 18) 1) (.q [5,6] [.A 1,.X 1 2 0] (.alt2 9 (.call K19 [] []) [.X 1 2 0,.A 1,.Q 3,.C 0 4,.C 0 3] (.s (.gd 0 (.const (.i 2)) 4) (.q [10,15] [.Q 4] (.a 16 (.new 6 []) [.Q 4,.X 1 2 0,.A 1,.Q 3,.C 0 4,.C 0 3] (.a 17 (.sto 6) [] (.rk (rb 5 [6]) .leaf))))) 16 (.new 7 []) [.X 1 2 0,.A 1,.Q 3,.C 0 4,.C 0 3,.C 0 1] (.a 9 (.call K19 [] []) [.X 1 2 0,.A 1,.Q 3,.C 0 4,.C 0 3] (.s (.gd 0 (.const (.i 2)) 5) (.q [10,15] [.Q 5] (.a 17 (.sto 7) [] (.rk (rb 5 [7]) .leaf)))))))))) 16 (.new 8 []) [.C 0 4,.C 0 3,.C 0 1,.C 0 0] (.a 3 (.call K19 [] []) [.C 0 4,.C 0 3,.C 0 1] (.s (.gd 0 (.const (.i 11)) 6) (.q [4] [.Q 6] (.s (.idx false 2 (.tmp 18) 2) (.q [5,6] [.A 2,.X 2 2 0] (.a 9 (.call K19 [] []) [.X 2 2 0,.A 2,.Q 6,.C 0 4,.C 0 3] (.s (.gd 0 (.const (.i 2)) 7) (.q [10,15] [.Q 7] (.a 17 (.sto 8) [] (.rk (rb 5 [8]) .leaf))))))))))))) (.s (.seg 2 [.C 0 3]) (.s (.gd 0 (.const (.i 4)) 8) (.s (.seg 2 [.Q 8]) (.join (Int) 0 0 (gj (gC 5 4 1 dI) []) (fun e l t u=>match (g2 (gP 5) (g2 (gC 5 0 1 dI) (g2 (gC 5 1 1 dI) (g2 (gC 5 2 1 dI) (g2 (gC 5 3 1 dI) (gC 5 5 1 dI)))))) e with|some j=>([]++kp [1,2,4,6] e,ka [1,0] e++zipL [5] [.blk (j.1) 50 [.i (j.2.1),.i (j.2.2.1),.i (j.2.2.2.1),.i (j.2.2.2.2.1),.i l,.i (j.2.2.2.2.2)]])|none=>([],[])) (.cond (.s (.seg 2 [.C 5 4]) (.s (.gd 0 (.const (.i 30)) 10) (.s (.seg 2 [.Q 10]) (.s (.sto 5) .leaf)))) .leaf) (.g 3 (.join (Int × Int) 0 0 (gj (g2 (gC 5 2 1 dI) (gC 5 3 1 dI)) []) (fun e l t u=>match (g2 (gP 5) (g2 (gC 5 0 1 dI) (g2 (gC 5 1 1 dI) (g2 (gC 5 4 1 dI) (gC 5 5 1 dI))))) e with|some j=>([]++kp [4,6] e,ka [1] e++zipL [5] [.blk (j.1) 50 [.i (j.2.1),.i (j.2.2.1),.i l.1,.i l.2,.i (j.2.2.2.1),.i (j.2.2.2.2)]])|none=>([],[])) (.cond (.s (.seg 6 [.C 0 2]) (.s (.call K19 [] []) (.s (.idx true 0 (.tmp 47) 4) (.s (.seg 3 [.A 4,.R 4 0,.R 4 1]) (.s (.sto 5) .leaf))))) .leaf) (.s (.seg 1 [.C 5 0,.C 5 1,.C 5 2,.C 5 3,.C 5 4,.C 5 5]) (.s (.sto 1) (.rk (rb 2000 [1]) .ret))))))))))))))))))) Tryz.func24
theorem pH {w0 w:World}{As:List HP}{x:yw}{j:Option Addr}{l:Nat}{u:List zd}{e:HP}{t:zk}(hX_jobs:SlRd e zd.enc 2 j u)(hC_jobs:u.length<=l)(hm:tr x u=some t)(H:St w0 (e::As) w) :
    ym pG 24 #[.agg #[.i x.Kind,.i x.Queue,.i x.Job,.i x.Data,.i x.Time,.i x.Raw.Kind,.i x.Raw.Queue,.i x.Raw.Job.At,.i x.Raw.Job.Gen,.i x.Raw.Time,.i x.Raw.Data],.slice j u.length l] w fun v w'=>v = .agg #[.i t.Kind,.i t.Queue,.i t.Job.At,.i t.Job.Gen,.i t.Time,.i t.Data]/\St w0 (e::As) w':=by
  refine (S24 (x,(j,l,u),()) t hm w0 w (e::As) (rdc (rdH 1 (.head _) hX_jobs hC_jobs) rd0) H).mono ?_;rintro v w' ⟨A,y,hn,ha,hv,H,z⟩;obtain rfl:=ls0 hn;obtain rfl:=ls0 ha;refine⟨hv,?_⟩;exact H
abbrev C78p:List (PK El):=[pI .i64]
def C78:Con El:=zM 78 C78p (fun i=>vh i.1) 0 0 (fun i t j e=>.bool t) (fun i t j e=>[])
theorem S78:(C78).Sound pG :=
  fsn mixed (C78) (n:=9) (rs:=rsOf pG 78) [] [] (gj (gB 2) []) (fun i=>(.g 1 (.g 3 (.pj 5 (Bool) mB (gB 2) (fun st e=>([(2,.bool e)]++kp [] st,ka [] st)) (.g 4 .leaf) (.g 4 .leaf) .ret)))) Tryz.func78
def K78:SCon El pG:=⟨C78,S78,Tryz.call78⟩
theorem ie {w0 w:World}{As:List HP}{x:Int}{t:Int}  (hm:bits_Len64 x=some t)(H:St w0 (As) w) :
    ym pG 268 #[.int .u64 x] w fun v w'=>v = .i t/\St w0 (As) w':=by
 rw[bits_Len64] at hm;refine enter (args:=[.int .u64 x]) Tryz.func268 rfl rfl rfl fun a j=>?_
 refine Runs.sr ?_;refine WR.seg j 1 [] [0,2] (Lo:=[(0,.int .u64 x),(2,.i 0)]) (obs:=[]) rfl (by kernel_rfl) trivial fun a j=>?_
 refine WR.done rfl ?_;refine Runs.seq ?_;refine Runs.sr ?_;refine WR.e0 j [(4,.bool (decide (x >= 4294967296)))] fun a j=>?_
 obtain⟨s,es,hm⟩:=bind_some hm;refine Runs.join (fun a w=>zN 25 a [(0,.int .u64 s.1),(2,.i s.2)]/\St w0 (As) w) (fun hk=>?_) ?_
 ·replace hm:=es;clear es;refine Runs.cond j rfl (fun c=>?_) (fun c=>?_)
  ·replace hm:=zU c hm;refine Runs.sr ?_;refine WR.e j [] [(0,.int .u64 (Int.fdiv x (2 ^ (min (Int.toNat 32) 64))))] (obs:=[.p (0<=(32:Int))]) ⟨(by show _<=_;decide),trivial⟩ fun a j=>?_
   refine Runs.region ?_;refine WR.e0 j [(2,.i 32)] fun a j=>?_
   cases hm;exact hk _ _ ⟨j.sel [0,2] (by kernel_rfl),H⟩
  ·replace hm:=zT c hm;refine Runs.skip ?_;cases hm;exact hk _ _ ⟨j.sel [0,2] (by kernel_rfl),H⟩
 rintro a w ⟨j,H⟩;refine Runs.seq ?_;refine Runs.sr ?_;refine WR.seg j 2 [] [0,2,8] (Lo:=[(0,.int .u64 s.1),(2,.i s.2),(8,.bool (decide (s.1 >= 65536)))]) (obs:=[]) rfl (by kernel_rfl) trivial fun a j=>?_
 refine WR.done rfl ?_;obtain⟨s1,l,hm⟩:=bind_some hm;refine Runs.join (fun a w=>zN 25 a [(0,.int .u64 s1.1),(2,.i s1.2)]/\St w0 (As) w) (fun hk=>?_) ?_
 ·replace hm:=l;clear l;refine Runs.cond j rfl (fun c=>?_) (fun c=>?_)
  ·replace hm:=zU c hm;refine Runs.sr ?_;refine WR.e j [] [(0,.int .u64 (Int.fdiv s.1 (2 ^ (min (Int.toNat 16) 64))))] (obs:=[.p (0<=(16:Int))]) ⟨(by show _<=_;decide),trivial⟩ fun a j=>?_
   refine Runs.region ?_;refine WR.e0 j [(2,.i (w64 (s.2+16)))] fun a j=>?_
   cases hm;exact hk _ _ ⟨j.sel [0,2] (by kernel_rfl),H⟩
  ·replace hm:=zT c hm;refine Runs.skip ?_;cases hm;exact hk _ _ ⟨j.sel [0,2] (by kernel_rfl),H⟩
 rintro a w ⟨j,H⟩;refine Runs.seq ?_;refine Runs.sr ?_;refine WR.seg j 2 [] [0,2,14] (Lo:=[(0,.int .u64 s1.1),(2,.i s1.2),(14,.bool (decide (s1.1 >= 256)))]) (obs:=[]) rfl (by kernel_rfl) trivial fun a j=>?_
 refine WR.done rfl ?_;obtain⟨s2,y,hm⟩:=bind_some hm;refine Runs.join (fun a w=>zN 25 a [(0,.int .u64 s2.1),(2,.i s2.2)]/\St w0 (As) w) (fun hk=>?_) ?_
 ·replace hm:=y;clear y;refine Runs.cond j rfl (fun c=>?_) (fun c=>?_)
  ·replace hm:=zU c hm;refine Runs.sr ?_;refine WR.e j [] [(0,.int .u64 (Int.fdiv s1.1 (2 ^ (min (Int.toNat 8) 64))))] (obs:=[.p (0<=(8:Int))]) ⟨(by show _<=_;decide),trivial⟩ fun a j=>?_
   refine Runs.region ?_;refine WR.e0 j [(2,.i (w64 (s1.2+8)))] fun a j=>?_
   cases hm;exact hk _ _ ⟨j.sel [0,2] (by kernel_rfl),H⟩
  ·replace hm:=zT c hm;refine Runs.skip ?_;cases hm;exact hk _ _ ⟨j.sel [0,2] (by kernel_rfl),H⟩
 rintro a w ⟨j,H⟩;refine Runs.sr ?_;obtain⟨c_,z,hm⟩:=bind_some hm;refine WR.seg j 7 [.int .u8 c_] [2] (Lo:=[(2,.i (w64 (s2.2+(w64 (c_)))))]) (obs:=[.p (0<=(IntKind.wrap .u8 (s2.1)) /\ ∃ u,(ByteArray.mk #[0,1,2,2,3,3,3,3,4,4,4,4,4,4,4,4,5,5,5,5,5,5,5,5,5,5,5,5,5,5,5,5,6,6,6,6,6,6,6,6,6,6,6,6,6,6,6,6,6,6,6,6,6,6,6,6,6,6,6,6,6,6,6,6,7,7,7,7,7,7,7,7,7,7,7,7,7,7,7,7,7,7,7,7,7,7,7,7,7,7,7,7,7,7,7,7,7,7,7,7,7,7,7,7,7,7,7,7,7,7,7,7,7,7,7,7,7,7,7,7,7,7,7,7,7,7,7,7,8,8,8,8,8,8,8,8,8,8,8,8,8,8,8,8,8,8,8,8,8,8,8,8,8,8,8,8,8,8,8,8,8,8,8,8,8,8,8,8,8,8,8,8,8,8,8,8,8,8,8,8,8,8,8,8,8,8,8,8,8,8,8,8,8,8,8,8,8,8,8,8,8,8,8,8,8,8,8,8,8,8,8,8,8,8,8,8,8,8,8,8,8,8,8,8,8,8,8,8,8,8,8,8,8,8,8,8,8,8,8,8,8,8,8,8,8,8,8,8,8,8,8,8,8,8,8,8])[Int.toNat (IntKind.wrap .u8 (s2.1))]? = some u/\c_=(u.toNat:Int))]) rfl (by kernel_rfl) ⟨bg z,trivial⟩ fun a j=>?_
 refine WR.done rfl ?_;refine Runs.ret j Tryz.func268 rfl rfl ?_;cases hm;exact⟨rfl,H⟩
abbrev CD:List (PK El):=[pI .u64]
def C268:Con El:=zM 268 CD (fun j=>bits_Len64 j.1) 0 0 (fun j t l e=>.i t) (fun j t l e=>[])
theorem S268:(C268).Sound pG:=fun i t hm w0 w F j H=>by
  obtain⟨x0,_⟩:=i;have e:St w0 (F) w:=by
    exact H
  refine (ie (show bits_Len64 x0=some t from hm) e).mono ?_;rintro v w' ⟨hv,H⟩;refine⟨[],[],rfl,rfl,hv,?_,fun _ h=>by cases h⟩;exact H
def K268:SCon El pG:=⟨C268,S268,Tryz.call268⟩
def C230:Con El:=zM 230 CD (fun j=>bits_Len j.1) 0 0 (fun j t l e=>.i t) (fun j t l e=>[])
theorem S230:(C230).Sound pG :=
  fsn mixed (C230) (n:=8) (rs:=rsOf pG 230) [] [] (gj (gI 2) []) (fun i=>(.g 1 (.tD (.g 1 (.s (.call K268 [] []) (.g 1 .ret)))))) Tryz.func230
def K230:SCon El pG:=⟨C230,S230,Tryz.call230⟩
def C182:Con El:=zM 182 C78p (fun j=>oC j.1) 0 0 (fun j t l e=>.i t) (fun j t l e=>[])
theorem S182:(C182).Sound pG :=
  fsn mixed (C182) (n:=7) (rs:=rsOf pG 182) [] [] (gj (gI 2) []) (fun i=>(.g 1 (.g 3 (.s (.call K230 [] []) (.g 1 .ret))))) Tryz.func182
def K182:SCon El pG:=⟨C182,S182,Tryz.call182⟩
abbrev cJ:List (PK El):=[pI .i64,pI .i64]
def C183:Con El:=zM 183 cJ (fun e=>uD e.1 e.2.1) 0 0 (fun e t l j=>.i t) (fun e t l j=>[])
theorem S183:(C183).Sound pG :=
  fsn mixed (C183) (n:=26) (rs:=rsOf pG 183) [] [] (gj (gI 4) []) (fun i=>(.g 1 (.blk (.g 3 (.pj 8 (Bool) mB (gB 5) (fun st e=>([(5,.bool e)]++kp [0,1] st,ka [] st)) (.g 6 .leaf) (.g 6 .leaf) (.cond (.g 1 .ret) (.g 3 (.pj 17 (Bool) mB (gB 14) (fun st e=>([(14,.bool e)]++kp [0,1] st,ka [] st)) (.g 6 .leaf) (.g 6 .leaf) (.cond (.g 1 .ret) (.g 4 .ret)))))))))) Tryz.func183
def K183:SCon El pG:=⟨C183,S183,Tryz.call183⟩
def C121 (k:Nat):Con El:=zM 121 C19p (fun e=>ph k e.1 e.2.1 e.2.2.1) 0 0 (fun e t l j=>.i t) (fun e t l j=>[])
abbrev DG (k:Nat)(i:Ins C19p):Kn El->VC (C121 k).T:=retC pG (C121 k) (rsOf pG 121) [] [] (gj (gI 6) []) i
def kU (x:Ins C19p):BCon El (Int):=⟨nav [1,0,1] (yA pG 121),Int,Int × Int,Int,Int,fun u=>.inr u,fun _ _=>none,fun l=>[],fun l v_ j e=>[(0,.i v_.1),(1,.i x.2.1),(8,.i (l)),(9,.i v_.2)],fun l v_ j e=>[],0,0,fun l t j e=>[(0,.i t)],fun l t j e=>[]⟩
def fh (k:Nat)(e:Ins C19p):Nat->(kU e).X->(kU e).V->Option (kU e).W:=fun m_ (i:Int) (v_:Int × Int)=>ud e.2.1 (i) m_ v_.1 v_.2
theorem Bo (k:Nat)(i:Ins C19p)(m:Nat):((kU i).at (fh k i) m).Sound pG 121 16 (DG k i) :=
  lsn mixed (kU i) (id:=0) (body:=nav [1,0,1,0,0] (yA pG 121)) (fh k i) (fun _=>none) (fun u=>u) (gj (g2 (gI 0) (gI 9)) []) (gj (gI 0) []) (fun m=>(.g 1 (.cond (.blk (.g 2 (.s (.call K183 [] []) (.g 1 (.g 2 .back))))) .leaf))) m
theorem S121 (k:Nat):(C121 k).Sound pG :=
  fsn mixed (C121 k) (n:=16) (rs:=rsOf pG 121) [] [] (gj (gI 6) []) (fun i=>(.g 1 (.g 1 (.s (.call K182 [] []) (.g 1 (.loop ⟨(kU i).at (fh k i) k,Bo k i k⟩ (gl (gI 8) (g2 (gI 0) (gI 9)) []) (.g 2 .ret))))))) Tryz.func121
def K121 (k:Nat):SCon El pG:=⟨C121 k,S121 k,Tryz.call121⟩
def C80 (k:Nat):Con El:=zM 80 cJ (fun e=>tx k e.1 e.2.1) 0 0 (fun e t l j=>.tuple #[.i t.1,.bool t.2]) (fun e t l j=>[])
theorem S80 (k:Nat):(C80 k).Sound pG :=
  fsn mixed (C80 k) (n:=20) (rs:=rsOf pG 80) [] [] (gj (g2 (gI 4) (gB 5)) []) (fun i=>(.g 2 (.join (Bool) 0 0 (gj (gB 16) []) (fun e t l j=>([(16,.bool t)]++kp [1] e,ka [] e)) (.g 1 (.s (.call K78 [] []) (.g 2 (.split 9 (.g 7 .leaf) (.g 4 (.split 13 (.g 3 .leaf) (.g 3 .leaf))))))) (.cond (.g 2 .ret) (.g 2 (.s (.call (K121 k) [] []) (.g 2 .ret))))))) Tryz.func80
def K80 (k:Nat):SCon El pG:=⟨C80 k,S80 k,Tryz.call80⟩
abbrev C96p:List (PK El):=[]
def C96:Con El:=zM 96 C96p (fun j=>kb) 1 0 (fun j t e i=>.pointer (some ⟨(nn e 0),0,none⟩)) (fun j t e i=>zI.D.flat (nn e 0) () t)
theorem S96:(C96).Sound pG :=
  fsn mixed (C96) (n:=3) (rs:=rsOf pG 96) [] [1000] (gj (gO zI.D [1000]) [nPk 1000]) (fun i=>(.g 1 (.g 1 (.s (.new 0 []) (.g 1 (.rk (rb 1000 [0]) .ret)))))) Tryz.func96
def K96:SCon El pG:=⟨C96,S96,Tryz.call96⟩
def C63:Con El:=zM 63 C78p (fun j=>nz j.1) 4 2 (fun j t e i=>.pointer (some ⟨(nn e 0),0,none⟩)) (fun j t e i=>za.D.flat (nn e 0) (za.A.mk (na i 0) (nn e 1) (na i 1) (nn e 2) (nn e 3)) t)
theorem S63:(C63).Sound pG :=
  fsn mixed (C63) (n:=10) (rs:=rsOf pG 63) [] [1000,1001,1002,1003] (gj (gO za.D [1000,1001,1002,1003]) [nPk 1000,nA za.D [1000,1001,1002,1003] (fun e=>([e.l_c,e.free_c,e.m__p],[e.l_b,e.free_b]))]) (fun i=>(.g 1 (.jg (za) 4 2 (gj (gO za.D [8,9,10,11]) [nPk 8,nA za.D [8,9,10,11] (fun e=>([e.l_c,e.free_c,e.m__p],[e.l_b,e.free_b]))]) (fun t u j l=>([(2,.pointer (some ⟨(nn j 0),0,none⟩))]++kp [] t,ka [] t++zipL [8,9,10,11] (za.D.flat (nn j 0) (za.A.mk (na l 0) (nn j 1) (na l 1) (nn j 2) (nn j 3)) u))) (.drw (.q [0,1,2] [] (.alt2 3 (.mk 12 3 276) [] (.a 4 (.call K96 [] [13]) [] (.q [5] [] (.a 6 (.new 14 []) [] (.q [7] [] (.s (.nil 15 2 3) (.rk (rb 8 [14,12,15,13]) .leaf)))))) 4 (.call K96 [] [16]) [] (.a 3 (.mk 17 3 276) [] (.q [5] [] (.a 6 (.new 18 []) [] (.q [7] [] (.s (.nil 19 2 3) (.rk (rb 8 [18,17,19,16]) .leaf))))))))) (.rk (rb 1000 [8,9,10,11]) .ret)))) Tryz.func63
def K63:SCon El pG:=⟨C63,S63,Tryz.call63⟩
def C97:Con El:=zM 97 C78p (fun j=>tp j.1) 3 2 (fun j t e i=>.pointer (some ⟨(nn e 0),0,none⟩)) (fun j t e i=>zi.D.flat (nn e 0) (zi.A.mk (na i 0) (nn e 1) (na i 1) (nn e 2)) t)
theorem S97:(C97).Sound pG :=
  fsn mixed (C97) (n:=8) (rs:=rsOf pG 97) [] [1000,1001,1002] (gj (gO zi.D [1000,1001,1002]) [nPk 1000,nA zi.D [1000,1001,1002] (fun e=>([e.l_c,e.free_c],[e.l_b,e.free_b]))]) (fun i=>(.g 1 (.g 4 (.s (.new 0 []) (.g 1 (.s (.nil 1 4 247) (.s (.nil 2 2 3) (.rk (rb 1000 [0,1,2]) .ret)))))))) Tryz.func97
def K97:SCon El pG:=⟨C97,S97,Tryz.call97⟩
def C98:Con El:=zM 98 C78p (fun j=>uM j.1) 3 2 (fun j t e i=>.pointer (some ⟨(nn e 0),0,none⟩)) (fun j t e i=>ze.D.flat (nn e 0) (ze.A.mk (na i 0) (nn e 1) (na i 1) (nn e 2)) t)
theorem S98:(C98).Sound pG :=
  fsn mixed (C98) (n:=8) (rs:=rsOf pG 98) [] [1000,1001,1002] (gj (gO ze.D [1000,1001,1002]) [nPk 1000,nA ze.D [1000,1001,1002] (fun e=>([e.l_c,e.free_c],[e.l_b,e.free_b]))]) (fun i=>(.g 1 (.g 4 (.s (.new 0 []) (.g 1 (.s (.nil 1 5 284) (.s (.nil 2 2 3) (.rk (rb 1000 [0,1,2]) .ret)))))))) Tryz.func98
def K98:SCon El pG:=⟨C98,S98,Tryz.call98⟩
def C64:Con El:=zM 64 C78p (fun j=>kH j.1) 8 4 (fun j t e i=>.pointer (some ⟨(nn e 0),0,none⟩)) (fun j t e i=>zm.D.flat (nn e 0) (zm.A.mk (nn e 1) (zi.A.mk (na i 0) (nn e 2) (na i 1) (nn e 3)) (nn e 4) (ze.A.mk (na i 2) (nn e 5) (na i 3) (nn e 6)) (nn e 7)) t)
theorem S64:(C64).Sound pG :=
  fsn mixed (C64) (n:=11) (rs:=rsOf pG 64) [] [1000,1001,1002,1003,1004,1005,1006,1007] (gj (gO zm.D [1000,1001,1002,1003,1004,1005,1006,1007]) [nPk 1000,nA zm.D [1000,1001,1002,1003,1004,1005,1006,1007] (fun e=>([e.heaps_p,e.heaps_a.l_c,e.heaps_a.free_c,e.items_p,e.items_a.l_c,e.items_a.free_c,e.at__p],[e.heaps_a.l_b,e.heaps_a.free_b,e.items_a.l_b,e.items_a.free_b]))]) (fun i=>(.g 1 (.s (.call K97 [] [0,1,2]) (.g 3 (.s (.call K98 [] [3,4,5]) (.s (.mnew 6 0) (.g 1 (.s (.new 7 []) (.g 1 (.rk (rb 1000 [7,0,1,2,3,4,5,6]) .ret)))))))))) Tryz.func64
def K64:SCon El pG:=⟨C64,S64,Tryz.call64⟩
def C41:Con El:=AZ 41 C78p (fun l=>gF l.1) 14 6 (fun l t e j=>.tuple #[.pointer none,.i t.2]) (fun l t e j=>[]) (fun l t=>t.1) 14 (fun l t m_ e j=>.tuple #[.pointer (some ⟨(nn e 0),0,none⟩),.i t.2]) (fun l t m_ e j=>zr.D.flat (nn e 0) (zr.A.mk (nn e 1) (za.A.mk (na j 0) (nn e 2) (na j 1) (nn e 3) (nn e 4)) (nn e 5) (zm.A.mk (nn e 6) (zi.A.mk (na j 2) (nn e 7) (na j 3) (nn e 8)) (nn e 9) (ze.A.mk (na j 4) (nn e 10) (na j 5) (nn e 11)) (nn e 12)) (nn e 13)) m_)
theorem S41:(C41).Sound pG :=
  fsn mixed (C41) (n:=19) (rs:=rsOf pG 41) [] [1000,1001,1002,1003,1004,1005,1006,1007,1008,1009,1010,1011,1012,1013] (gj (g2 (gOo zr.D [1000,1001,1002,1003,1004,1005,1006,1007,1008,1009,1010,1011,1012,1013] 2) (gI 3)) [nPo 1000,nAo zr.D [1000,1001,1002,1003,1004,1005,1006,1007,1008,1009,1010,1011,1012,1013] (fun e=>([e.a__p,e.a__a.l_c,e.a__a.free_c,e.a__a.m__p,e.t__p,e.t__a.heaps_p,e.t__a.heaps_a.l_c,e.t__a.heaps_a.free_c,e.t__a.items_p,e.t__a.items_a.l_c,e.t__a.items_a.free_c,e.t__a.at__p,e.entries_p],[e.a__a.l_b,e.a__a.free_b,e.t__a.heaps_a.l_b,e.t__a.heaps_a.free_b,e.t__a.items_a.l_b,e.t__a.items_a.free_b])) 13 6]) (fun i=>(.g 2 (.g 3 (.pj 6 (Bool) mB (gB 9) (fun st j=>([(9,.bool j)]++kp [0] st,ka [] st)) (.g 3 .leaf) (.g 3 .leaf) (.cond (.g 2 .ret) (.g 3 (.s (.call K63 [] [0,1,2,3]) (.g 1 (.s (.call K64 [] [4,5,6,7,8,9,10,11]) (.s (.mnew 12 1) (.g 1 (.s (.new 13 []) (.g 2 (.rk (rb 1000 [13,0,1,2,3,4,5,6,7,8,9,10,11,12]) .ret)))))))))))))) Tryz.func41
def K41:SCon El pG:=⟨C41,S41,Tryz.call41⟩
def C122:Con El:=zM 122 C78p (fun j=>sj j.1) 3 2 (fun j t e i=>.pointer (some ⟨(nn e 0),0,none⟩)) (fun j t e i=>zf.D.flat (nn e 0) (zf.A.mk (na i 0) (nn e 1) (na i 1) (nn e 2)) t)
theorem S122:(C122).Sound pG :=
  fsn mixed (C122) (n:=8) (rs:=rsOf pG 122) [] [1000,1001,1002] (gj (gO zf.D [1000,1001,1002]) [nPk 1000,nA zf.D [1000,1001,1002] (fun e=>([e.l_c,e.free_c],[e.l_b,e.free_b]))]) (fun i=>(.g 1 (.g 4 (.s (.new 0 []) (.g 1 (.s (.nil 1 6 296) (.s (.nil 2 2 3) (.rk (rb 1000 [0,1,2]) .ret)))))))) Tryz.func122
def K122:SCon El pG:=⟨C122,S122,Tryz.call122⟩
def C81:Con El:=zM 81 C78p (fun j=>nK j.1) 5 2 (fun j t e i=>.pointer (some ⟨(nn e 0),0,none⟩)) (fun j t e i=>zq.D.flat (nn e 0) (zq.A.mk (nn e 1) (zf.A.mk (na i 0) (nn e 2) (na i 1) (nn e 3)) (nn e 4)) t)
theorem S81:(C81).Sound pG :=
  fsn mixed (C81) (n:=10) (rs:=rsOf pG 81) [] [1000,1001,1002,1003,1004] (gj (gO zq.D [1000,1001,1002,1003,1004]) [nPk 1000,nA zq.D [1000,1001,1002,1003,1004] (fun e=>([e.p_p,e.p_a.l_c,e.p_a.free_c,e.by__p],[e.p_a.l_b,e.p_a.free_b]))]) (fun i=>(.g 1 (.g 3 (.s (.call K122 [] [0,1,2]) (.s (.mnew 3 2) (.g 1 (.s (.new 4 []) (.g 1 (.rk (rb 1000 [4,0,1,2,3]) .ret))))))))) Tryz.func81
def K81:SCon El pG:=⟨C81,S81,Tryz.call81⟩
def C82:Con El:=zM 82 C96p (fun j=>nC) 1 0 (fun j t e i=>.pointer (some ⟨(nn e 0),0,none⟩)) (fun j t e i=>zW.D.flat (nn e 0) () t)
theorem S82:(C82).Sound pG :=
  fsn mixed (C82) (n:=3) (rs:=rsOf pG 82) [] [1000] (gj (gO zW.D [1000]) [nPk 1000]) (fun i=>(.g 1 (.g 1 (.s (.new 0 []) (.g 1 (.rk (rb 1000 [0]) .ret)))))) Tryz.func82
def K82:SCon El pG:=⟨C82,S82,Tryz.call82⟩
theorem oL {w0 w:World}{As:List HP}{c_:yk}{t:zR}  (hm:wV c_=some t)(H:St w0 (As) w) :
    ym pG 42 #[.pointer none,.agg #[.i c_.Op,.i c_.Kind,.i c_.Heap.At,.i c_.Heap.Gen,.i c_.Other.At,.i c_.Other.Gen,.i c_.Item.At,.i c_.Item.Gen,.i c_.Key]] w fun v w'=>v = .agg #[.i t.Why,.i t.Heap.At,.i t.Heap.Gen,.i t.Item.At,.i t.Item.Gen,.i t.Entry.Key,.i t.Entry.Serial,.i t.N]/\St w0 (As) w':=by
 rw[wV] at hm;refine enter (args:=[.pointer none,.agg #[.i c_.Op,.i c_.Kind,.i c_.Heap.At,.i c_.Heap.Gen,.i c_.Other.At,.i c_.Other.Gen,.i c_.Item.At,.i c_.Item.Gen,.i c_.Key]]) Tryz.func42 rfl rfl rfl fun a e=>?_
 refine Runs.sr ?_;refine WR.eff e rfl rfl rfl rfl (OpTo.new e H [] (.cells #[.i c_.Op,.i c_.Kind,.i c_.Heap.At,.i c_.Heap.Gen,.i c_.Other.At,.i c_.Other.Gen,.i c_.Item.At,.i c_.Item.Gen,.i c_.Key] 109 (0,0)) (fun r=>.pointer (some ⟨r,0,none⟩)) (obs:=[]) rfl (fun _=>by kernel_rfl) trivial) ?_;rintro _ w ⟨r,rfl,H⟩ a e;refine WR.eff e rfl rfl rfl rfl (OpTo.new e H [] (.cells #[.i 0,.i 0,.i 0,.i 0,.i 0,.i 0,.i 0,.i 0] 106 (0,0)) (fun r=>.pointer (some ⟨r,0,none⟩)) (obs:=[]) rfl (fun _=>by kernel_rfl) trivial) ?_;rintro _ w ⟨r1,rfl,H⟩ a e;refine WR.done rfl ?_;refine Runs.sr ?_;cases hm
abbrev C42p:List (PK El):=[pK (.pointer none),pV yk.dv yk.val]
def C42:Con El:=zM 42 C42p (fun j=>wV j.2.1) 0 0 (fun j t l e=>.agg #[.i t.Why,.i t.Heap.At,.i t.Heap.Gen,.i t.Item.At,.i t.Item.Gen,.i t.Entry.Key,.i t.Entry.Serial,.i t.N]) (fun j t l e=>[])
theorem S42:(C42).Sound pG:=fun i t hm w0 w F j H=>by
  obtain⟨_,x1,_⟩:=i;have e:St w0 (F) w:=by
    exact H
  refine (oL (show wV x1=some t from hm) e).mono ?_;rintro v w' ⟨hv,H⟩;refine⟨[],[],rfl,rfl,hv,?_,fun _ h=>by cases h⟩;exact H
def K42:SCon El pG:=⟨C42,S42,Tryz.call42⟩
abbrev C65p:List (PK El):=[pO za.D]
def C65:Con El:=zM 65 C65p (fun e=>sa e.1.2.2) 0 0 (fun e t j i=>.pointer (some ⟨e.1.2.1.m__p,0,none⟩)) (fun e t j i=>za.D.flat e.1.1 e.1.2.1 e.1.2.2)
theorem S65:(C65).Sound pG :=
  fsn mixed (C65) (n:=7) (rs:=rsOf pG 65) [] [0,1,2,3] (gj gU []) (fun i=>(.g 1 (.s (.seg 5 [.C 0 3]) .ret))) Tryz.func65
def K65:SCon El pG:=⟨C65,S65,Tryz.call65⟩
abbrev aU:List (PK El):=[pO zI.D]
def C132:Con El:=zM 132 aU (fun e=>qG e.1.2.2) 0 0 (fun e t l j=>.i t) (fun e t l j=>zI.D.flat e.1.1 e.1.2.1 e.1.2.2)
theorem S132:(C132).Sound pG :=
  fsn mixed (C132) (n:=12) (rs:=rsOf pG 132) [] [0] (gj (gI 2) []) (fun i=>(.g 1 (.drw (.q [0,1,2,3,4,5,6,7,8,9] [.C 0 0,.C 0 1] .ret)))) Tryz.func132
def K132:SCon El pG:=⟨C132,S132,Tryz.call132⟩
def C99:Con El:=zM 99 aU (fun e=>pz e.1.2.2) 0 0 (fun e t l j=>.i t) (fun e t l j=>zI.D.flat e.1.1 e.1.2.1 e.1.2.2)
theorem S99:(C99).Sound pG :=
  fsn mixed (C99) (n:=10) (rs:=rsOf pG 99) [] [0] (gj (gI 2) []) (fun i=>(.g 1 (.drw (.q [0,1,2,3,4] [.C 0 2] (.a 5 (.call K132 [.K 0] [0]) [.C 0 2] (.q [6,7] [] .ret)))))) Tryz.func99
def K99:SCon El pG:=⟨C99,S99,Tryz.call99⟩
def C66:Con El:=zM 66 aU (fun e=>sg e.1.2.2) 0 0 (fun e t j i=>.tuple #[]) (fun e t j i=>zI.D.flat e.1.1 e.1.2.1 t)
theorem S66:(C66).Sound pG :=
  fsn mixed (C66) (n:=14) (rs:=rsOf pG 66) [] [0] (gj (gO zI.D [0]) []) (fun i=>(.drw (.q [0,1,2,4,5,6,7] [.C 0 0] (.a 3 (.call K99 [.K 0] [0]) [.C 0 0] (.q [8,9] [] (.a 10 (.sto 0) [] (.q [11,12] [] (.a 13 (.sto 0) [] .leaf)))))))) Tryz.func66
def K66:SCon El pG:=⟨C66,S66,Tryz.call66⟩
def C76:Con El:=zM 76 C78p (fun i=>qE i.1) 0 0 (fun i t j e=>.bool t) (fun i t j e=>[])
theorem S76:(C76).Sound pG :=
  fsn mixed (C76) (n:=9) (rs:=rsOf pG 76) [] [] (gj (gB 2) []) (fun i=>(.g 1 (.g 3 (.pj 5 (Bool) mB (gB 2) (fun st e=>([(2,.bool e)]++kp [] st,ka [] st)) (.g 4 .leaf) (.g 4 .leaf) .ret)))) Tryz.func76
def K76:SCon El pG:=⟨C76,S76,Tryz.call76⟩
abbrev Dy:List (PK El):=[pO zi.D,pV zG.dv zG.val]
def C100:Con El:=zM 100 Dy (fun l=>yN l.1.2.2 l.2.1) 2 2 (fun l t j e=>.tuple #[.agg #[.i t.1.At,.i t.1.Gen],.bool t.2.1]) (fun l t j e=>zi.D.flat l.1.1 (zi.A.mk (na e 0) (nn j 0) (na e 1) (nn j 1)) t.2.2)
abbrev nq_0:Nx El:=nA zi.D [0,1,2] (fun e=>([e.l_c,e.free_c],[e.l_b,e.free_b]))
theorem S100:(C100).Sound pG :=
  fsn mixed (C100) (n:=81) (rs:=rsOf pG 100) [.C 2000 0,.C 2000 1] [0,1,2] (gj (g2 (gC 2000 0 2 zd.dec) (g2 (gB 5) (gO zi.D [0,1,2]))) [nq_0]) (fun i=>(.s (.new 3 []) (.s (.new 4 []) (.g 1 (.s (.seg 6 [.C 0 1]) (.s (.seg 7 [.C 0 2]) (.g 2 (.joinR (Int × zi) 2 2 (gj (g2 (gI 6) (gO zi.D [0,1,2])) [nq_0]) (fun e t l j=>match (gP 0) e with|some u=>([(6,.i t.1)]++kp [0,3,4] e,ka [4,3] e++zipL [0,1,2] (zi.D.flat (u) (zi.A.mk (na j 0) (nn l 0) (na j 1) (nn l 1)) t.2))|none=>([],[])) (.cond (.s (.seg 5 [.C 0 2]) (.s (.idx false 2 (.tmp 26) 2) (.s (.seg 3 [.A 2,.X 2 2 0]) (.s (.seg 6 [.C 0 2]) (.s (.cut false 2 none (some (.tmp 34)) 1003) (.s (.seg 3 [.W 1003]) (.s (.sto 0) (.s (.own 1003 2) .leaf)))))))) (.s (.seg 6 [.C 0 0]) (.cond (.g 1 (.s (.sto 4) (.g 1 (.rk (rb 2000 [4]) .ret)))) (.s (.seg 6 [.C 0 1]) (.s (.bld 6 4 247) (.s (.app 1 (.O 6)) (.g 2 (.s (.sto 0) .leaf)))))))) (.s (.seg 5 [.C 0 1]) (.s (.idx false 1 (.tmp 59) 4) (.s (.seg 2 [.A 4]) (.s (.seg 7 [.X 4 1 0]) (.s (.sset 1 4 0) (.s (.rlc 4 0 1) (.drw (.q [0,1,2,3,4] [.C 3 0,.C 3 1,.C 3 2] (.a 5 (.sset 1 4 1) [.C 3 0,.C 3 1,.C 3 2] (.s (.rlc 4 0 1) (.q [6,7] [] (.a 8 (.sset 1 4 2) [] (.s (.rlc 4 0 1) (.s (.seg 6 [.X 4 1 0]) (.s (.sto 4) (.g 1 (.rk (rb 2000 [4]) .ret))))))))))))))))))))))))) Tryz.func100
def K100:SCon El pG:=⟨C100,S100,Tryz.call100⟩
abbrev C67p:List (PK El):=[pO zm.D,pI .i64]
def C67:Con El:=zM 67 C67p (fun e=>te e.1.2.2 e.2.1) 2 2 (fun e t l j=>.tuple #[.agg #[.i t.1.At,.i t.1.Gen],.i t.2.1]) (fun e t l j=>zm.D.flat e.1.1 (zm.A.mk e.1.2.1.heaps_p (zi.A.mk (na j 0) (nn l 0) (na j 1) (nn l 1)) e.1.2.1.items_p e.1.2.1.items_a e.1.2.1.at__p) t.2.2)
abbrev nq_1:Nx El:=nA zm.D rg_7 (fun e=>([e.heaps_a.l_c,e.heaps_a.free_c],[e.heaps_a.l_b,e.heaps_a.free_b]))
theorem S67:(C67).Sound pG :=
  fsn mixed (C67) (n:=26) (rs:=rsOf pG 67) [.C 2000 0,.C 2000 1] rg_7 (gj (g2 (gC 2000 0 2 zd.dec) (g2 (gI 5) (gO zm.D rg_7))) [nq_1]) (fun i=>(.s (.new 8 []) (.g 1 (.g 1 (.s (.call K76 [] []) (.g 1 (.cond (.g 1 (.s (.sto 8) (.g 1 (.rk (rb 2000 [8]) .ret)))) (.s (.seg 6 [.C 0 0]) (.s (.call K100 [.K 1,.K 2,.K 3] [1,2,3]) (.g 3 (.s (.new 9 []) (.s (.sto 9) (.g 1 (.g 2 (.cond (.g 1 (.s (.sto 8) (.g 1 (.rk (rb 2000 [8]) .ret)))) (.s (.seg 1 [.C 9 0,.C 9 1]) (.s (.sto 8) (.g 1 (.rk (rb 2000 [8]) .ret))))))))))))))))))) Tryz.func67
def K67:SCon El pG:=⟨C67,S67,Tryz.call67⟩
abbrev Bq:List (PK El):=[pO zi.D,pV zd.dv zd.val]
def C175:Con El:=bX 175 Bq (fun e=>xd e.1.2.2 e.2.1) 0 0 (fun e t l j=>.tuple #[elemV e.1.2.1.l_b 5 t.1,.i t.2]) (fun e t l j=>zi.D.flat e.1.1 e.1.2.1 e.1.2.2) (fun e t=>t.1)
theorem S175:(C175).Sound pG :=
  fsn mixed (C175) (n:=61) (rs:=rsOf pG 175) [] [0,1,2] (gj (g2 gE (gI 5)) []) (fun i=>(.s (.new 3 []) (.g 2 (.join (Bool) 0 0 (gj (gB 38) []) (fun e j t l=>([(38,.bool j)]++kp [0,3] e,ka [3,0,1,2] e)) (.drw (.q [0,1,2,3] [.C 3 0] (.split 10 (.q [4,5,6,7,8,9,10,11,12,13,14,15,16,17,18,19,20,21,22,23,24,25,26,27,28,29,30,31] [] .leaf) (.q [4,5,6,7,8,9,10,11,12,13] [.C 3 0,.C 0 1] (.split 20 (.q [14,15,16,17,18,19,20,21,22,23,24,25,26,27,28,29,30,31] [] .leaf) (.q [14,15,16,17,18] [.C 3 1] (.split 25 (.q [19,20,21,22,23,24,25,26,27,28,29,30,31] [] .leaf) (.q [19,20,21,22,23,24,25,26] [.C 3 1,.C 0 1,.C 3 0] (.s (.idx false 1 (.tmp 33) 2) (.q [27,28,29,30,31] [.A 2,.X 2 1 0] .leaf)))))))))) (.cond (.g 2 .ret) (.drw (.q [0,1,2,3,4,5] [.C 0 1,.C 3 0] (.s (.idx false 1 (.tmp 44) 4) (.q [6,7] [.A 4] (.drw (.q rg_7 [.C 3 1,.X 4 1 0] (.pj 53 (Bool) mB (gB 59) (fun st j=>([(59,.bool j)]++kp [6] st,ka [0,1,2,3] st)) (.q [8,9,10,11,12,13] [] .leaf) (.q [8,9,10,11,12,13] [.X 4 1 1] .leaf) (.cond (.g 2 .ret) (.g 3 (.s (.el 4 4) .ret))))))))))))))) Tryz.func175
def K175:SCon El pG:=⟨C175,S175,Tryz.call175⟩
def C117:Con El:=zM 117 Bq (fun e=>yH e.1.2.2 e.2.1) 0 0 (fun e t l j=>.tuple #[.agg #[.i t.1.kind,.i t.1.root,.i t.1.n],.i t.2]) (fun e t l j=>zi.D.flat e.1.1 e.1.2.1 e.1.2.2)
theorem S117:(C117).Sound pG :=
  fsn mixed (C117) (n:=23) (rs:=rsOf pG 117) [.C 2000 0,.C 2000 1,.C 2000 2] [0,1,2] (gj (g2 (gC 2000 0 3 zG.dec) (gI 5)) []) (fun i=>(.s (.new 3 []) (.s (.new 4 []) (.g 1 (.s (.seg 2 [.C 3 0,.C 3 1]) (.s (.call K175 [.K 0,.K 1,.K 2] [0,1,2]) (.eo 12 0 1 0 (.g 5 (.g 2 (.cond (.s (.new 5 []) (.s (.seg 2 [.C 5 0,.C 5 1,.C 5 2]) (.s (.sto 4) (.g 1 (.rk (rb 2000 [4]) .ret))))) .dead))) (.g 5 (.g 2 (.cond (.s (.new 6 []) (.s (.seg 2 [.C 6 0,.C 6 1,.C 6 2]) (.s (.sto 4) (.g 1 (.rk (rb 2000 [4]) .ret))))) (.s (.seg 4 [.X 0 1 2,.X 0 1 3,.X 0 1 4]) (.s (.sto 4) (.g 1 (.rk (rb 2000 [4]) .ret)))))))))))))) Tryz.func117
def K117:SCon El pG:=⟨C117,S117,Tryz.call117⟩
abbrev C73p:List (PK El):=[pO zm.D,pV zd.dv zd.val]
def C73:Con El:=zM 73 C73p (fun e=>xq e.1.2.2 e.2.1) 0 0 (fun e t l j=>.tuple #[.i t.1,.i t.2.1,.i t.2.2.1,.i t.2.2.2]) (fun e t l j=>zm.D.flat e.1.1 e.1.2.1 e.1.2.2)
theorem S73:(C73).Sound pG :=
  fsn mixed (C73) (n:=26) (rs:=rsOf pG 73) [] rg_7 (gj (g2 (gI 4) (g2 (gI 5) (g2 (gI 6) (gI 7)))) []) (fun i=>(.s (.new 8 []) (.g 4 (.jg (zG × Int) 1 0 (gj (g2 (gC 11 0 3 zG.dec) (gI 9)) [nPk 11]) (fun j l e t=>([(8,.pointer (some ⟨(nn e 0),0,none⟩)),(9,.i l.2)]++kp [] j,ka rg_7 j++zipL [11] [.blk (nn e 0) 195 [.i l.1.kind,.i l.1.root,.i l.1.n]])) (.drw (.q [0,1,2,3,4] [.C 0 0,.C 8 0,.C 8 1] (.alt2 5 (.call K117 [.K 1,.K 2,.K 3] [1,2,3]) [] (.q [6,7,8] [] (.a 9 (.new 12 []) [] (.a 10 (.sto 12) [] (.q [11] [] (.rk (rb 11 [12]) .leaf))))) 9 (.new 13 []) [.C 8 0,.C 8 1,.C 0 0] (.a 5 (.call K117 [.K 1,.K 2,.K 3] [1,2,3]) [] (.q [6,7,8] [] (.a 10 (.sto 13) [] (.q [11] [] (.rk (rb 11 [13]) .leaf)))))))) (.drw (.q [0,1,2,3,4,5,6,7,8,9,10] [.C 11 0,.C 11 1,.C 11 2] .ret)))))) Tryz.func73
def K73:SCon El pG:=⟨C73,S73,Tryz.call73⟩
def C75:Con El:=zM 75 C78p (fun j=>ue j.1) 0 0 (fun j t l e=>.agg #[.i t.Why,.i t.Heap.At,.i t.Heap.Gen,.i t.Item.At,.i t.Item.Gen,.i t.Entry.Key,.i t.Entry.Serial,.i t.N]) (fun j t l e=>[])
theorem S75:(C75).Sound pG :=
  fsn mixed (C75) (n:=5) (rs:=rsOf pG 75) [.C 2000 0,.C 2000 1,.C 2000 2,.C 2000 3,.C 2000 4,.C 2000 5,.C 2000 6,.C 2000 7] [] (gj (gC 2000 0 8 zR.dec) []) (fun i=>(.s (.new 0 []) (.g 2 (.s (.sto 0) (.rk (rb 2000 [0]) .ret))))) Tryz.func75
def K75:SCon El pG:=⟨C75,S75,Tryz.call75⟩
abbrev fj:List (PK El):=[pO ze.D]
def C133:Con El:=zM 133 fj (fun e=>xe e.1.2.2) 0 0 (fun e t l j=>.i t) (fun e t l j=>ze.D.flat e.1.1 e.1.2.1 e.1.2.2)
theorem S133:(C133).Sound pG :=
  fsn mixed (C133) (n:=14) (rs:=rsOf pG 133) [] [0,1,2] (gj (gI 2) []) (fun i=>(.g 1 (.drw (.q rg_11 [.C 0 1,.C 0 2] .ret)))) Tryz.func133
def K133:SCon El pG:=⟨C133,S133,Tryz.call133⟩
abbrev Dz:List (PK El):=[pO zm.D]
def C101:Con El:=zM 101 Dz (fun e=>uJ e.1.2.2) 0 0 (fun e t l j=>.i t) (fun e t l j=>zm.D.flat e.1.1 e.1.2.1 e.1.2.2)
theorem S101:(C101).Sound pG :=
  fsn mixed (C101) (n:=8) (rs:=rsOf pG 101) [] rg_7 (gj (gI 2) []) (fun i=>(.g 1 (.s (.seg 4 [.C 0 1]) (.s (.call K133 [.K 4,.K 5,.K 6] [4,5,6]) (.g 1 .ret))))) Tryz.func101
def K101:SCon El pG:=⟨C101,S101,Tryz.call101⟩
abbrev DU:List (PK El):=[pO zI.D,pI .i64]
def C194:Con El:=zM 194 DU (fun e=>xE e.1.2.2 e.2.1) 0 0 (fun e t j i=>.tuple #[]) (fun e t j i=>zI.D.flat e.1.1 e.1.2.1 t)
theorem S194:(C194).Sound pG :=
  fsn mixed (C194) (n:=14) (rs:=rsOf pG 194) [] [0] (gj (gO zI.D [0]) []) (fun i=>(.s (.seg 7 [.C 0 0]) (.s (.call K183 [] []) (.g 2 (.s (.sto 0) .leaf))))) Tryz.func194
def K194:SCon El pG:=⟨C194,S194,Tryz.call194⟩
theorem rP {w0 w:World}{As:List HP}{e:Nat}{m_:zI}{n:Int}{t:zI}  (hm:xE m_ n=some t)(H:St w0 (zI.R e m_::As) w) :
    ym pG 194 #[.pointer (some ⟨e,0,none⟩),.i n] w fun v w'=>v = .tuple #[]/\St w0 (zI.R e t::As) w':=by
  replace H:=(fs0 fun As=>zI.D_st).1 H;refine (S194 ((e,(),m_),n,()) t hm w0 w (As) rd0 H).mono ?_;rintro v w' ⟨u,j,hn,ha,hv,H,l⟩;obtain rfl:=ls0 hn;obtain rfl:=ls0 ha;refine⟨hv,?_⟩;refine (fs0 fun As=>zI.D_st).2 ?_;exact H
def C195:Con El:=zM 195 C96p (fun l=>qR) 0 0 (fun l t j e=>.agg #[.i t.f0,.i t.f1,.i t.f2,.i t.f3,.i t.f4,.i t.f5,.i t.f6,.i t.f7,.i t.f8,.i t.f9,.bool t.taken]) (fun l t j e=>[])
theorem S195:(C195).Sound pG :=
  fsn mixed (C195) (n:=16) (rs:=rsOf pG 195) [.C 2000 0,.C 2000 1,.C 2000 2,.C 2000 3,.C 2000 4,.C 2000 5,.C 2000 6,.C 2000 7,.C 2000 8,.C 2000 9,.C 2000 10] [] (gj (gC 2000 0 11 zy.dec) []) (fun i=>(.s (.new 0 []) (.g 1 (.s (.new 1 []) (.s (.sto 1) (.s (.bld 2 2 3) (.g 2 (.unr (.g 1 (.rF (.blk (.s (.idk false 2 (.tmp 7) 0) (.s (.seg 3 [.A 0,.X 0 2 0]) (.g 2 (.s (.gd 12 (.tmp 11) 0) (.s (.seg 1 [.Q 0]) (.s (.sto 1) (.g 2 (.unr (.g 1 (.rF (.blk (.s (.idk false 2 (.tmp 7) 1) (.s (.seg 3 [.A 1,.X 1 2 0]) (.g 2 (.s (.gd 12 (.tmp 11) 1) (.s (.seg 1 [.Q 1]) (.s (.sto 1) (.g 2 (.unr (.g 1 (.rF (.blk (.s (.idk false 2 (.tmp 7) 2) (.s (.seg 3 [.A 2,.X 2 2 0]) (.g 2 (.s (.gd 12 (.tmp 11) 2) (.s (.seg 1 [.Q 2]) (.s (.sto 1) (.g 2 (.unr (.g 1 (.rF (.blk (.s (.idk false 2 (.tmp 7) 3) (.s (.seg 3 [.A 3,.X 3 2 0]) (.g 2 (.s (.gd 12 (.tmp 11) 3) (.s (.seg 1 [.Q 3]) (.s (.sto 1) (.g 2 (.unr (.g 1 (.rF (.blk (.s (.idk false 2 (.tmp 7) 4) (.s (.seg 3 [.A 4,.X 4 2 0]) (.g 2 (.s (.gd 12 (.tmp 11) 4) (.s (.seg 1 [.Q 4]) (.s (.sto 1) (.g 2 (.unr (.g 1 (.rF (.blk (.s (.idk false 2 (.tmp 7) 5) (.s (.seg 3 [.A 5,.X 5 2 0]) (.g 2 (.s (.gd 12 (.tmp 11) 5) (.s (.seg 1 [.Q 5]) (.s (.sto 1) (.g 2 (.unr (.g 1 (.tD (.s (.seg 1 [.C 1 0,.C 1 1,.C 1 2,.C 1 3,.C 1 4,.C 1 5,.C 1 6,.C 1 7,.C 1 8,.C 1 9,.C 1 10]) (.s (.sto 0) (.rk (rb 2000 [0]) .ret))))))))))))))))))))))))))))))))))))))))))))))))))))))))))))))))))))))))))))))) Tryz.func195
def K195:SCon El pG:=⟨C195,S195,Tryz.call195⟩
def C134:Con El:=zM 134 C65p (fun e=>vX e.1.2.2) 1 1 (fun e t l j=>.tuple #[.i t.1,.bool t.2.1]) (fun e t l j=>za.D.flat e.1.1 (za.A.mk e.1.2.1.l_b e.1.2.1.l_c (na j 0) (nn l 0) e.1.2.1.m__p) t.2.2)
abbrev nq_2:Nx El:=nA za.D [0,1,2,3] (fun e=>([e.free_c],[e.free_b]))
theorem S134:(C134).Sound pG :=
  fsn mixed (C134) (n:=61) (rs:=rsOf pG 134) [] [0,1,2,3] (gj (g2 (gI 2) (g2 (gB 3) (gO za.D [0,1,2,3]))) [nq_2]) (fun i=>(.g 2 (.s (.seg 4 [.C 0 3]) (.s (.call K194 [.K 3] [3]) (.s (.seg 5 [.C 0 1]) (.s (.seg 7 [.C 0 2]) (.g 2 (.joinR (Int × za) 1 1 (gj (g2 (gI 4) (gO za.D [0,1,2,3])) [nq_2]) (fun e u t l=>match (g2 (gP 0) (gA za.D [0,1,2,3])) e with|some j=>([(4,.i u.1)]++kp [0] e,ka [] e++zipL [0,1,2,3] (za.D.flat (j.1) (za.A.mk (j.2.l_b) (j.2.l_c) (na l 0) (nn t 0) (j.2.m__p)) u.2))|none=>([],[])) (.cond (.s (.seg 5 [.C 0 2]) (.s (.idx false 2 (.tmp 27) 2) (.s (.seg 3 [.A 2,.X 2 2 0]) (.s (.seg 6 [.C 0 2]) (.s (.cut false 2 none (some (.tmp 35)) 1003) (.s (.seg 3 [.W 1003]) (.s (.sto 0) (.s (.own 1003 2) .leaf)))))))) (.s (.seg 7 [.C 0 0]) (.cond (.g 2 .ret) (.s (.seg 7 [.C 0 1]) (.s (.sto 0) .leaf))))) (.drw (.q [0,1,2,3,4] [.C 0 0] (.a 5 (.call K195 [] []) [.C 0 0] (.s (.idx false 1 (.tmp 57) 5) (.q [6] [.A 5] (.a 7 (.sset 1 5 0) [] (.s (.rlc 5 0 0) (.g 3 .ret)))))))))))))))) Tryz.func134
def K134:SCon El pG:=⟨C134,S134,Tryz.call134⟩
abbrev sG:List (PK El):=[pO za.D,pI .i64]
def C208:Con El:=zM 208 sG (fun e=>yr e.1.2.2 e.2.1) 0 0 (fun e t j i=>.bool t) (fun e t j i=>za.D.flat e.1.1 e.1.2.1 e.1.2.2)
theorem S208:(C208).Sound pG :=
  fsn mixed (C208) (n:=26) (rs:=rsOf pG 208) [] [0,1,2,3] (gj (gB 4) []) (fun i=>(.g 1 (.join (Bool) 0 0 (gj (gB 4) []) (fun e t l j=>([(4,.bool t)]++kp [] e,ka [0,1,2,3] e)) (.g 3 (.split 7 (.s (.seg 9 [.C 0 0]) (.split 16 (.s (.seg 5 [.C 0 0]) (.s (.idx false 1 (.tmp 21) 2) (.s (.seg 5 [.A 2,.X 2 1 10]) .leaf))) (.g 10 .leaf))) (.g 19 .leaf))) .ret))) Tryz.func208
def K208:SCon El pG:=⟨C208,S208,Tryz.call208⟩
abbrev vi:List (PK El):=[pO za.D,pI .i64,pI .i64]
def C196:Con El:=zM 196 vi (fun e=>wB e.1.2.2 e.2.1 e.2.2.1) 0 0 (fun e t j i=>.bool t) (fun e t j i=>za.D.flat e.1.1 e.1.2.1 e.1.2.2)
theorem S196:(C196).Sound pG :=
  fsn mixed (C196) (n:=18) (rs:=rsOf pG 196) [] [0,1,2,3] (gj (gB 6) []) (fun i=>(.g 1 (.join (Bool) 0 0 (gj (gB 6) []) (fun e t l j=>([(6,.bool t)]++kp [] e,ka [0,1,2,3] e)) (.g 2 (.s (.call K208 [.K 0,.K 1,.K 2,.K 3] [0,1,2,3]) (.g 1 (.split 10 (.g 4 (.split 14 (.g 4 .leaf) (.g 4 .leaf))) (.g 8 .leaf))))) .ret))) Tryz.func196
theorem qb {w0 w:World}{As:List HP}{j:Nat}{e:za.A}{a_:za}{c_:Int}{field:Int}{t:Bool}  (hm:wB a_ c_ field=some t)(H:St w0 (za.R j e a_::As) w) :
    ym pG 196 #[.pointer (some ⟨j,0,none⟩),.i c_,.i field] w fun v w'=>v = .bool t/\St w0 (za.R j e a_::As) w':=by
  replace H:=(fs0 fun As=>za.D_st).1 H;refine (S196 ((j,e,a_),c_,field,()) t hm w0 w (As) rd0 H).mono ?_;rintro v w' ⟨x,l,hn,ha,hv,H,u⟩;obtain rfl:=ls0 hn;obtain rfl:=ls0 ha;refine⟨hv,?_⟩;refine (fs0 fun As=>za.D_st).2 ?_;exact H
theorem ny {w0 w:World}{As:List HP}{z:Nat}{e:za.A}{a_:za}{c_:Int}{field:Int}{v_:Int}{t:Bool × za}  (hm:zC a_ c_ field v_=some t)(H:St w0 (za.R z e a_::As) w) :
    ym pG 135 #[.pointer (some ⟨z,0,none⟩),.i c_,.i field,.i v_] w fun v w'=>v = .bool t.1/\St w0 (za.R z e t.2::As) w':=by
 rw[zC] at hm;refine enter (args:=[.pointer (some ⟨z,0,none⟩),.i c_,.i field,.i v_]) Tryz.func135 rfl rfl rfl fun a j=>?_
 refine Runs.sr ?_;refine WR.seg j 1 [] [0,1,2,3] (Lo:=[(0,.pointer (some ⟨z,0,none⟩)),(1,.i c_),(2,.i field),(3,.i v_)]) (obs:=[]) rfl (by kernel_rfl) trivial fun a j=>?_
 refine WR.done rfl ?_;refine Runs.sr ?_;replace H:=za.open H;refine WR.d j 4 [.pointer (some ⟨e.m__p,0,none⟩)] [(12,.pointer (some ⟨e.m__p,0,none⟩))] (obs:=[.cell ⟨z,3,none⟩ (.pointer (some ⟨e.m__p,0,none⟩))]) ⟨H.cell 0 rfl rfl,trivial⟩ fun a j=>?_
 obtain⟨t_,D,hm⟩:=bind_some hm;refine WR.eff j rfl rfl rfl rfl (OpTo.fn j rfl rfl Tryz.call194 (rP D H.t3)) ?_;rintro _ w ⟨rfl,H⟩ a j;refine WR.done rfl ?_;refine Runs.seq ?_;refine Runs.sr ?_;refine WR.d0 j 3 [(14,.pointer (some ⟨z,0,none⟩)),(15,.i c_),(16,.i field)] fun a j=>?_
 replace H:=za.shut e (za.mk a_.l a_.never a_.free t_) H.t3.t3.t3;obtain⟨F,B,hm⟩:=bind_some hm;refine WR.eff j rfl rfl rfl rfl (OpTo.fn j rfl rfl Tryz.call196 (qb B H)) ?_;rintro _ w ⟨rfl,H⟩ a j;refine WR.e0 j [(18,.bool (!F))] fun a j=>?_
 refine Runs.cond j rfl (fun c=>?_) (fun c=>?_)
 ·replace hm:=zU c hm;refine Runs.sr ?_;refine WR.e0 j [(8,.bool false)] fun a j=>?_
  refine Runs.ret j Tryz.func135 rfl rfl ?_;cases hm;exact⟨rfl,H⟩
 ·replace hm:=zT c hm;refine Runs.skip ?_;refine Runs.sr ?_;replace H:=za.open H
  try dsimp only at H
  obtain⟨x,ex,hm⟩:=bind_some hm;obtain⟨b,o,hs,O⟩:=SlRd.base (yP 276 zy.enc 11 _ _ _) zy.zY H 1 rfl ex;obtain⟨u,I,hm⟩:=bind_some hm;refine WR.d j 10 [.slice e.l_b a_.l.length e.l_c,.pointer (some ⟨b,o,none⟩)] [(25,.i v_),(28,.pointer (some ⟨b,o+(Int.toNat c_)*11+(Int.toNat field)*1,none⟩))] (obs:=[.cell ⟨z,0,none⟩ (.slice e.l_b a_.l.length e.l_c),.p ((e.l_b:Option Addr)=some ⟨b,o,none⟩),.p (0<=(c_:Int)/\(c_:Int)<((a_.l.length:Nat):Int)),.p (0<=(field:Int)/\(field:Int)<((10:Nat):Int))]) ⟨H.cell 0 rfl rfl,hs,O,iy I,trivial⟩ fun a j=>?_
  obtain⟨y,J,hm⟩:=bind_some hm;refine WR.eff0 j rfl rfl rfl (OpTo.oj (q:=(Int.toNat field)*1) (x':=y) j H.t1 zy.zY rfl hs ex rfl rfl rfl rfl rfl (by have:=iy I;show (Int.toNat field)*1+1<=11;omega) (zy.cA J)) ?_;rintro _ w H a j;rw[<- uH a_.l c_ y] at H;refine WR.done rfl ?_;refine Runs.sr ?_;refine WR.e0 j [(8,.bool true)] fun a j=>?_
  replace H:=za.shut e (za.mk (mSet a_.l c_ y) a_.never a_.free t_) H.t3.t3.t2.t3;refine Runs.ret j Tryz.func135 rfl rfl ?_;cases hm;exact⟨rfl,H⟩
abbrev Cw:List (PK El):=[pO za.D,pI .i64,pI .i64,pI .i64]
def C135:Con El:=zM 135 Cw (fun e=>zC e.1.2.2 e.2.1 e.2.2.1 e.2.2.2.1) 0 0 (fun e t j i=>.bool t.1) (fun e t j i=>za.D.flat e.1.1 e.1.2.1 t.2)
theorem S135:(C135).Sound pG:=fun i t hm w0 w F j H=>by
  obtain⟨⟨p0,l0,x0⟩,x1,x2,x3,_⟩:=i;have e:St w0 (za.R p0 l0 x0::F) w:=by
    refine (fs0 fun As=>za.D_st).2 ?_;exact H
  refine (ny (show zC x0 x1 x2 x3=some t from hm) e).mono ?_;rintro v w' ⟨hv,H⟩;refine⟨[],[],rfl,rfl,hv,?_,fun _ h=>by cases h⟩;replace H:=(fs0 fun As=>za.D_st).1 H;exact H
def K135:SCon El pG:=⟨C135,S135,Tryz.call135⟩
def C102:Con El:=zM 102 vi (fun e=>lq e.1.2.2 e.2.1 e.2.2.1) 1 1 (fun e t l j=>.tuple #[.i t.1,.bool t.2.1]) (fun e t l j=>za.D.flat e.1.1 (za.A.mk e.1.2.1.l_b e.1.2.1.l_c (na j 0) (nn l 0) e.1.2.1.m__p) t.2.2)
theorem S102:(C102).Sound pG :=
  fsn mixed (C102) (n:=28) (rs:=rsOf pG 102) [] [0,1,2,3] (gj (g2 (gI 6) (g2 (gB 7) (gO za.D [0,1,2,3]))) [nq_2]) (fun i=>(.g 2 (.g 2 (.tD (.g 1 (.s (.call K134 [.K 0,.K 1,.K 2,.K 3] [0,1,2,3]) (.g 5 (.g 1 (.join (za) 0 0 (gj (gO za.D [0,1,2,3]) []) (fun e u t l=>match (g2 (gP 0) (gA za.D [0,1,2,3])) e with|some j=>([]++kp [8,9] e,ka [] e++zipL [0,1,2,3] (za.D.flat (j.1) (za.A.mk (j.2.l_b) (j.2.l_c) (j.2.free_b) (j.2.free_c) (j.2.m__p)) u))|none=>([],[])) (.cond (.g 3 (.s (.call K135 [.K 0,.K 1,.K 2,.K 3] [0,1,2,3]) (.g 3 (.s (.call K135 [.K 0,.K 1,.K 2,.K 3] [0,1,2,3]) .leaf)))) .leaf) (.g 4 .ret)))))))))) Tryz.func102
def K102:SCon El pG:=⟨C102,S102,Tryz.call102⟩
def C236:Con El:=zM 236 vi (fun e=>oy e.1.2.2 e.2.1 e.2.2.1) 0 0 (fun e t j i=>.tuple #[]) (fun e t j i=>za.D.flat e.1.1 e.1.2.1 t)
theorem S236:(C236).Sound pG :=
  fsn mixed (C236) (n:=16) (rs:=rsOf pG 236) [] [0,1,2,3] (gj (gO za.D [0,1,2,3]) []) (fun i=>(.g 2 (.rF (.g 3 (.s (.call K135 [.K 0,.K 1,.K 2,.K 3] [0,1,2,3]) (.g 3 (.s (.call K135 [.K 0,.K 1,.K 2,.K 3] [0,1,2,3]) .leaf))))))) Tryz.func236
def K236:SCon El pG:=⟨C236,S236,Tryz.call236⟩
def C197:Con El:=zM 197 sG (fun e=>oB e.1.2.2 e.2.1) 1 1 (fun e t l j=>.tuple #[.i t.1,.bool t.2.1]) (fun e t l j=>za.D.flat e.1.1 (za.A.mk e.1.2.1.l_b e.1.2.1.l_c (na j 0) (nn l 0) e.1.2.1.m__p) t.2.2)
theorem S197:(C197).Sound pG :=
  fsn mixed (C197) (n:=20) (rs:=rsOf pG 197) [] [0,1,2,3] (gj (g2 (gI 4) (g2 (gB 5) (gO za.D [0,1,2,3]))) [nq_2]) (fun i=>(.g 2 (.g 1 (.s (.call K134 [.K 0,.K 1,.K 2,.K 3] [0,1,2,3]) (.g 5 (.g 1 (.join (za) 0 0 (gj (gO za.D [0,1,2,3]) []) (fun e u t l=>match (g2 (gP 0) (gA za.D [0,1,2,3])) e with|some j=>([]++kp [6,7] e,ka [] e++zipL [0,1,2,3] (za.D.flat (j.1) (za.A.mk (j.2.l_b) (j.2.l_c) (j.2.free_b) (j.2.free_c) (j.2.m__p)) u))|none=>([],[])) (.cond (.g 3 (.s (.call K236 [.K 0,.K 1,.K 2,.K 3] [0,1,2,3]) .leaf)) .leaf) (.g 4 .ret)))))))) Tryz.func197
def K197:SCon El pG:=⟨C197,S197,Tryz.call197⟩
def C237:Con El:=zM 237 C65p (fun e=>wh e.1.2.2) 0 0 (fun e t l j=>.i t) (fun e t l j=>za.D.flat e.1.1 e.1.2.1 e.1.2.2)
theorem S237:(C237).Sound pG :=
  fsn mixed (C237) (n:=8) (rs:=rsOf pG 237) [] [0,1,2,3] (gj (gI 2) []) (fun i=>(.g 1 (.s (.seg 6 [.C 0 0]) .ret))) Tryz.func237
def K237:SCon El pG:=⟨C237,S237,Tryz.call237⟩
theorem qa {w0 w:World}{As:List HP}{y:Nat}{j:za.A}{a_:za}{c_:Int}{field:Int}{t:Int × za}  (hm:yd a_ c_ field=some t)(H:St w0 (za.R y j a_::As) w) :
    ym pG 157 #[.pointer (some ⟨y,0,none⟩),.i c_,.i field] w fun v w'=>v = .i t.1/\St w0 (za.R y j t.2::As) w':=by
 rw[yd] at hm;refine enter (args:=[.pointer (some ⟨y,0,none⟩),.i c_,.i field]) Tryz.func157 rfl rfl rfl fun a z=>?_
 refine Runs.sr ?_;refine WR.seg z 1 [] [0,1,2] (Lo:=[(0,.pointer (some ⟨y,0,none⟩)),(1,.i c_),(2,.i field)]) (obs:=[]) rfl (by kernel_rfl) trivial fun a z=>?_
 refine WR.done rfl ?_;refine Runs.sr ?_;replace H:=za.open H;refine WR.d z 4 [.pointer (some ⟨j.m__p,0,none⟩)] [(10,.pointer (some ⟨j.m__p,0,none⟩))] (obs:=[.cell ⟨y,3,none⟩ (.pointer (some ⟨j.m__p,0,none⟩))]) ⟨H.cell 0 rfl rfl,trivial⟩ fun a z=>?_
 obtain⟨t_,D,hm⟩:=bind_some hm;refine WR.eff z rfl rfl rfl rfl (OpTo.fn z rfl rfl Tryz.call194 (rP D H.t3)) ?_;rintro _ w ⟨rfl,H⟩ a z;refine WR.done rfl ?_;refine Runs.seq ?_;refine Runs.sr ?_;refine WR.d0 z 3 [(12,.pointer (some ⟨y,0,none⟩)),(13,.i c_),(14,.i field)] fun a z=>?_
 replace H:=za.shut j (za.mk a_.l a_.never a_.free t_) H.t3.t3.t3;obtain⟨I,B,hm⟩:=bind_some hm;refine WR.eff z rfl rfl rfl rfl (OpTo.fn z rfl rfl Tryz.call196 (qb B H)) ?_;rintro _ w ⟨rfl,H⟩ a z;refine WR.e0 z [(16,.bool (!I))] fun a z=>?_
 refine Runs.cond z rfl (fun c=>?_) (fun c=>?_)
 ·replace hm:=zU c hm;refine Runs.sr ?_;refine WR.e0 z [(6,.i (-1))] fun a z=>?_
  refine Runs.ret z Tryz.func157 rfl rfl ?_;cases hm;exact⟨rfl,H⟩
 ·replace hm:=zT c hm;refine Runs.skip ?_;refine Runs.sr ?_;replace H:=za.open H
  try dsimp only at H
  obtain⟨x,ex,hm⟩:=bind_some hm;obtain⟨b,o,hs,O⟩:=SlRd.base (yP 276 zy.enc 11 _ _ _) zy.zY H 1 rfl ex;obtain⟨u,J,hm⟩:=bind_some hm;obtain⟨v_,F,hm⟩:=bind_some hm;refine WR.e z [.slice j.l_b a_.l.length j.l_c,.pointer (some ⟨b,o,none⟩),.i v_] [(6,.i v_)] (obs:=[.cell ⟨y,0,none⟩ (.slice j.l_b a_.l.length j.l_c),.p ((j.l_b:Option Addr)=some ⟨b,o,none⟩),.p (0<=(c_:Int)/\(c_:Int)<((a_.l.length:Nat):Int)),.p (0<=(field:Int)/\(field:Int)<((10:Nat):Int)),.cell ⟨b,o+(Int.toNat c_)*11+(Int.toNat field)*1,none⟩ (.i v_)]) ⟨H.cell 0 rfl rfl,hs,O,iy J,SlRd.cells (yP 276 zy.enc 11 _ _ _) zy.zY H 1 rfl hs ex ((Int.toNat field)*1) _ (zy.dY F),trivial⟩ fun a z=>?_
  replace H:=za.shut j (za.mk a_.l a_.never a_.free t_) H.t3.t3.t3.t3;refine Runs.ret z Tryz.func157 rfl rfl ?_;cases hm;exact⟨rfl,H⟩
def C157:Con El:=zM 157 vi (fun e=>yd e.1.2.2 e.2.1 e.2.2.1) 0 0 (fun e t l j=>.i t.1) (fun e t l j=>za.D.flat e.1.1 e.1.2.1 t.2)
theorem S157:(C157).Sound pG:=fun i t hm w0 w F j H=>by
  obtain⟨⟨p0,l0,x0⟩,x1,x2,_⟩:=i;have e:St w0 (za.R p0 l0 x0::F) w:=by
    refine (fs0 fun As=>za.D_st).2 ?_;exact H
  refine (qa (show yd x0 x1 x2=some t from hm) e).mono ?_;rintro v w' ⟨hv,H⟩;refine⟨[],[],rfl,rfl,hv,?_,fun _ h=>by cases h⟩;replace H:=(fs0 fun As=>za.D_st).1 H;exact H
def K157:SCon El pG:=⟨C157,S157,Tryz.call157⟩
def C206:Con El:=zM 206 vi (fun e=>zK e.1.2.2 e.2.1 e.2.2.1) 0 0 (fun e t l j=>.i t.1) (fun e t l j=>za.D.flat e.1.1 e.1.2.1 t.2)
theorem S206:(C206).Sound pG :=
  fsn mixed (C206) (n:=24) (rs:=rsOf pG 206) [] [0,1,2,3] (gj (g2 (gI 6) (gO za.D [0,1,2,3])) []) (fun i=>(.g 1 (.g 3 (.s (.call K157 [.K 0,.K 1,.K 2,.K 3] [0,1,2,3]) (.g 1 (.join (Bool) 0 0 (gj (gB 22) []) (fun e t l j=>([(22,.bool t)]++kp [7] e,ka [0,1,2,3] e)) (.g 3 (.split 14 (.g 8 .leaf) (.s (.seg 8 [.C 0 0]) .leaf))) (.cond (.g 1 .ret) (.g 2 .ret)))))))) Tryz.func206
def K206:SCon El pG:=⟨C206,S206,Tryz.call206⟩
def C280:Con El:=zM 280 sG (fun e=>qC e.1.2.2 e.2.1) 0 0 (fun e t l j=>.agg #[.i t.1.Key,.i t.1.Serial]) (fun e t l j=>za.D.flat e.1.1 e.1.2.1 t.2)
theorem S280:(C280).Sound pG :=
  fsn mixed (C280) (n:=15) (rs:=rsOf pG 280) [.C 2000 0,.C 2000 1] [0,1,2,3] (gj (g2 (gC 2000 0 2 zJ.dec) (gO za.D [0,1,2,3])) []) (fun i=>(.s (.new 4 []) (.g 2 (.tD (.g 2 (.s (.call K157 [.K 0,.K 1,.K 2,.K 3] [0,1,2,3]) (.g 2 (.s (.call K157 [.K 0,.K 1,.K 2,.K 3] [0,1,2,3]) (.g 1 (.s (.sto 4) (.rk (rb 2000 [4]) .ret))))))))))) Tryz.func280
def K280:SCon El pG:=⟨C280,S280,Tryz.call280⟩
def C291:Con El:=zM 291 C78p (fun i=>ux i.1) 0 0 (fun i t j e=>.bool t) (fun i t j e=>[])
theorem S291:(C291).Sound pG :=
  fsn mixed (C291) (n:=6) (rs:=rsOf pG 291) [] [] (gj (gB 2) []) (fun i=>(.g 1 (.g 4 .ret))) Tryz.func291
def K291:SCon El pG:=⟨C291,S291,Tryz.call291⟩
def C287:Con El:=zM 287 cJ (fun e=>vD e.1 e.2.1) 0 0 (fun e t l j=>.i t) (fun e t l j=>[])
theorem S287:(C287).Sound pG :=
  fsn mixed (C287) (n:=20) (rs:=rsOf pG 287) [] [] (gj (gI 4) []) (fun i=>(.g 1 (.g 1 (.s (.call K291 [] []) (.g 1 (.g 1 (.s (.call K291 [] []) (.g 1 (.g 1 (.cond (.g 1 (.cond (.g 1 .ret) (.g 1 .ret))) (.g 1 (.cond (.g 1 .ret) (.g 3 (.cond (.g 1 .ret) (.g 3 (.cond (.g 1 .ret) (.g 1 .ret))))))))))))))))) Tryz.func287
def K287:SCon El pG:=⟨C287,S287,Tryz.call287⟩
abbrev cM:List (PK El):=[pR 2]
def C286 (k:Nat):Con El:=zM 286 cM (fun j=>ov k j.1.2.2) 0 0 (fun j t l e=>.i t) (fun j t l e=>[])
abbrev D7 (k:Nat)(i:Ins cM):Kn El->VC (C286 k).T:=retC pG (C286 k) (rsOf pG 286) [] [] (gj (gI 2) []) i
def ju (l:Ins cM):BCon El (Int):=⟨nav [1,1,0,1] (yA pG 286),Int,Int,Unit,(Int) ⊕ (Unit),fun r=>r,fun _ _=>none,fun t=>[(0,⟨2,l.1.1,l.1.2.1,l.1.2.2⟩)],fun t v_ j e=>[(3,.i 0),(6,.slice l.1.1 l.1.2.2.length l.1.2.1),(7,.i (t)),(8,.i v_)],fun t v_ j e=>[],0,0,fun t u j e=>[(3,.i 0)],fun t u j e=>[]⟩
def fJ (k:Nat)(e:Ins cM):Nat->(ju e).X->(ju e).V->Option (ju e).W:=fun m_ (i:Int) (v_:Int)=>uG (i) e.1.2.2 m_ v_
theorem BU (k:Nat)(i:Ins cM)(m:Nat):((ju i).at (fJ k i) m).Sound pG 286 18 (D7 k i) :=
  lsn mixed (ju i) (id:=0) (body:=nav [1,1,0,1,0,0] (yA pG 286)) (fJ k i) (fun r=>some (.inl r)) (fun u=>.inr u) (gj (gI 8) []) (gj gU []) (fun m=>(.g 1 (.cond (.blk (.s (.idx true 0 (.tmp 8) 2) (.s (.seg 3 [.A 2,.R 2 0]) (.g 3 (.cond (.g 2 .ret) (.g 2 .back)))))) .leaf))) m
theorem S286 (k:Nat):(C286 k).Sound pG :=
  fsn mixed (C286 k) (n:=18) (rs:=rsOf pG 286) [] [] (gj (gI 2) []) (fun i=>(.g 1 (.g 1 (.g 3 (.loop ⟨(ju i).at (fJ k i) k,BU k i k⟩ (gl (gI 7) (gI 8) []) (.g 2 .ret)))))) Tryz.func286
def K286 (k:Nat):SCon El pG:=⟨C286 k,S286 k,Tryz.call286⟩
abbrev CE:List (PK El):=[pV zJ.dv zJ.val,pV zJ.dv zJ.val]
def C279 (k:Nat):Con El:=zM 279 CE (fun e=>rr k e.1 e.2.1) 0 0 (fun e t l j=>.i t) (fun e t l j=>[])
theorem S279 (k:Nat):(C279 k).Sound pG :=
  fsn mixed (C279 k) (n:=17) (rs:=rsOf pG 279) [] [] (gj (gI 4) []) (fun i=>(.s (.new 0 []) (.s (.new 1 []) (.g 1 (.drw (.q [0,1,2,3,5,6,7,8] [.C 0 0,.C 1 0,.C 0 1,.C 1 1] (.a 4 (.call K287 [] []) [.C 1 1,.C 0 1] (.a 9 (.call K287 [] []) [] (.a 10 (.bld 3 2 3) [] (.a 11 (.call (K286 k) [.O 3] []) [] (.q [12] [] .ret))))))))))) Tryz.func279
def K279 (k:Nat):SCon El pG:=⟨C279 k,S279 k,Tryz.call279⟩
def C257 (k:Nat):Con El:=zM 257 vi (fun e=>qT k e.1.2.2 e.2.1 e.2.2.1) 0 0 (fun e t j i=>.bool t.1) (fun e t j i=>za.D.flat e.1.1 e.1.2.1 t.2)
theorem S257 (k:Nat):(C257 k).Sound pG :=
  fsn mixed (C257 k) (n:=26) (rs:=rsOf pG 257) [] [0,1,2,3] (gj (g2 (gB 6) (gO za.D [0,1,2,3])) []) (fun i=>(.g 1 (.g 2 (.s (.call K280 [.K 0,.K 1,.K 2,.K 3] [0,1,2,3]) (.g 2 (.s (.call K280 [.K 0,.K 1,.K 2,.K 3] [0,1,2,3]) (.s (.call (K279 k) [] []) (.g 1 (.g 3 (.pj 17 (Bool) mB (gB 6) (fun st e=>([(6,.bool e)]++kp [] st,ka [0,1,2,3] st)) (.g 9 .leaf) (.g 3 (.pj 20 (Bool) mB (gB 6) (fun st e=>([(6,.bool e)]++kp [] st,ka [0,1,2,3] st)) (.g 6 .leaf) (.g 6 .leaf) .leaf)) .ret)))))))))) Tryz.func257
def K257 (k:Nat):SCon El pG:=⟨C257 k,S257 k,Tryz.call257⟩
def C220 (k:Nat):Con El:=zM 220 vi (fun e=>uC k e.1.2.2 e.2.1 e.2.2.1) 0 0 (fun e t j i=>.bool t.1) (fun e t j i=>za.D.flat e.1.1 e.1.2.1 t.2)
theorem S220 (k:Nat):(C220 k).Sound pG :=
  fsn mixed (C220 k) (n:=15) (rs:=rsOf pG 220) [] [0,1,2,3] (gj (g2 (gB 6) (gO za.D [0,1,2,3])) []) (fun i=>(.g 1 (.g 3 (.s (.call K206 [.K 0,.K 1,.K 2,.K 3] [0,1,2,3]) (.g 2 (.s (.call K206 [.K 0,.K 1,.K 2,.K 3] [0,1,2,3]) (.s (.call (K257 k) [.K 0,.K 1,.K 2,.K 3] [0,1,2,3]) (.g 1 .ret)))))))) Tryz.func220
def K220 (k:Nat):SCon El pG:=⟨C220 k,S220 k,Tryz.call220⟩
def C270:Con El:=zM 270 sG (fun e=>sL e.1.2.2 e.2.1) 0 0 (fun e t l j=>.i t.1) (fun e t l j=>za.D.flat e.1.1 e.1.2.1 t.2)
theorem S270:(C270).Sound pG :=
  fsn mixed (C270) (n:=10) (rs:=rsOf pG 270) [] [0,1,2,3] (gj (g2 (gI 4) (gO za.D [0,1,2,3])) []) (fun i=>(.g 1 (.g 2 (.cond (.g 1 .ret) (.g 2 (.s (.call K157 [.K 0,.K 1,.K 2,.K 3] [0,1,2,3]) (.g 1 .ret))))))) Tryz.func270
def K270:SCon El pG:=⟨C270,S270,Tryz.call270⟩
def C238:Con El:=zM 238 sG (fun e=>rL e.1.2.2 e.2.1) 0 0 (fun e t j i=>.bool t.1) (fun e t j i=>za.D.flat e.1.1 e.1.2.1 t.2)
theorem S238:(C238).Sound pG :=
  fsn mixed (C238) (n:=46) (rs:=rsOf pG 238) [] [0,1,2,3] (gj (g2 (gB 4) (gO za.D [0,1,2,3])) []) (fun i=>(.g 1 (.g 2 (.s (.call K206 [.K 0,.K 1,.K 2,.K 3] [0,1,2,3]) (.g 2 (.s (.call K206 [.K 0,.K 1,.K 2,.K 3] [0,1,2,3]) (.g 2 (.g 2 (.s (.call K270 [.K 0,.K 1,.K 2,.K 3] [0,1,2,3]) (.g 2 (.s (.call K270 [.K 0,.K 1,.K 2,.K 3] [0,1,2,3]) (.g 2 (.g 3 (.join (Int × za) 0 0 (gj (g2 (gI 8) (gO za.D [0,1,2,3])) []) (fun e j u t=>match (g2 (gP 0) (gA za.D [0,1,2,3])) e with|some l=>([(8,.i j.1)]++kp [0,1] e,ka [] e++zipL [0,1,2,3] (za.D.flat (l.1) (l.2) j.2))|none=>([],[])) (.cond (.g 3 (.s (.call K135 [.K 0,.K 1,.K 2,.K 3] [0,1,2,3]) (.g 3 (.s (.call K135 [.K 0,.K 1,.K 2,.K 3] [0,1,2,3]) (.g 2 .leaf))))) .leaf) (.g 2 (.s (.call K157 [.K 0,.K 1,.K 2,.K 3] [0,1,2,3]) (.g 1 (.g 4 (.s (.call K135 [.K 0,.K 1,.K 2,.K 3] [0,1,2,3]) (.g 5 .ret)))))))))))))))))))) Tryz.func238
def K238:SCon El pG:=⟨C238,S238,Tryz.call238⟩
def C198 (k:Nat):Con El:=zM 198 vi (fun e=>vN k e.1.2.2 e.2.1 e.2.2.1) 0 0 (fun e t l j=>.i t.1) (fun e t l j=>za.D.flat e.1.1 e.1.2.1 t.2)
abbrev CB (k:Nat)(i:Ins vi):Kn El->VC (C198 k).T:=retC pG (C198 k) (rsOf pG 198) [] [0,1,2,3] (gj (g2 (gI 6) (gO za.D [0,1,2,3])) []) i
def kZ (l:Ins vi):BCon El (Int × za):=⟨nav [1,1,1,0] (yA pG 198),Unit,Int × Int × (List Int) × za,Int × Int × (List Int) × za,Int × Int × (List Int) × za,fun u=>.inr u,fun _ _=>none,fun x=>[],fun x v_ j e=>[(0,.pointer (some ⟨l.1.1,0,none⟩)),(1,.i v_.1),(2,.i v_.2.1),(7,.slice (na e 0) v_.2.2.1.length (nn j 0))],fun x v_ j e=>zipL [9] [.sl 2 3 (na e 0) (nn j 0) v_.2.2.1]++zipL [0,1,2,3] (za.D.flat l.1.1 l.1.2.1 v_.2.2.2),1,1,fun x t j e=>[(0,.pointer (some ⟨l.1.1,0,none⟩)),(1,.i t.1),(2,.i t.2.1),(7,.slice (na e 0) t.2.2.1.length (nn j 0))],fun x t j e=>zipL [8] [.sl 2 3 (na e 0) (nn j 0) t.2.2.1]++zipL [0,1,2,3] (za.D.flat l.1.1 l.1.2.1 t.2.2.2)⟩
def fo (k:Nat)(e:Ins vi):Nat->(kZ e).X->(kZ e).V->Option (kZ e).W:=fun m_ (i:Unit) (v_:Int × Int × (List Int) × za)=>vG m_ v_.1 v_.2.1 v_.2.2.1 v_.2.2.2
theorem Bw (k:Nat)(i:Ins vi)(m:Nat):((kZ i).at (fo k i) m).Sound pG 198 75 (CB k i) :=
  lsn mixed (kZ i) (id:=0) (body:=nav [1,1,1,0,0,0] (yA pG 198)) (fo k i) (fun _=>none) (fun u=>u) (gj (g2 (gI 1) (g2 (gI 2) (g2 (gL 2 9) (gO za.D [0,1,2,3])))) [nSk 9]) (gj (g2 (gI 1) (g2 (gI 2) (g2 (gL 2 8) (gO za.D [0,1,2,3])))) [nSk 8]) (fun m=>(.join (Bool) 0 0 (gj (gB 26) []) (fun e j t l=>([(26,.bool j)]++kp [0,1,2,7] e,ka [9,0,1,2,3] e)) (.g 3 (.split 16 (.g 4 (.split 20 (.g 3 (.s (.call K237 [.K 0,.K 1,.K 2,.K 3] [0,1,2,3]) (.g 2 .leaf))) (.g 6 .leaf))) (.g 10 .leaf))) (.cond (.blk (.g 3 (.s (.call (K220 m) [.K 0,.K 1,.K 2,.K 3] [0,1,2,3]) (.join (Int × Int) 0 0 (gj (g2 (gI 1) (gI 2)) []) (fun e j t l=>([(1,.i j.1),(2,.i j.2)]++kp [0,7] e,ka [0,1,2,3,9] e)) (.cond (.g 4 .leaf) .leaf) (.g 2 (.s (.bld 11 2 3) (.s (.app 9 (.O 11)) (.g 1 (.g 2 (.s (.call K206 [.K 0,.K 1,.K 2,.K 3] [0,1,2,3]) (.g 1 .back))))))))))) (.rk (rb 8 [9]) .leaf)))) m
def ja (t:Ins vi):BCon El (Int × za):=⟨nav [1,1,1,1,1,0,1] (yA pG 198),(List Int) × (Option Addr × Nat),Int × Int × za,Int × za,Int × za,fun u=>.inr u,fun _ _=>none,fun e=>[],fun e v_ l j=>[(0,.pointer (some ⟨t.1.1,0,none⟩)),(7,.slice (e.2.1) (e.1).length (e.2.2)),(8,.i v_.1),(9,.i v_.2.1)],fun e v_ l j=>zipL [8] [.sl 2 3 (e.2.1) (e.2.2) (e.1)]++zipL [0,1,2,3] (za.D.flat t.1.1 t.1.2.1 v_.2.2),0,0,fun e x l j=>[(0,.pointer (some ⟨t.1.1,0,none⟩)),(8,.i x.1)],fun e x l j=>zipL [0,1,2,3] (za.D.flat t.1.1 t.1.2.1 x.2)⟩
def fp (k:Nat)(e:Ins vi):Nat->(ja e).X->(ja e).V->Option (ja e).W:=fun m_ (i:(List Int) × (Option Addr × Nat)) (v_:Int × Int × za)=>wC (i.1) m_ v_.1 v_.2.1 v_.2.2
theorem Bx (k:Nat)(i:Ins vi)(m:Nat):((ja i).at (fp k i) m).Sound pG 198 75 (CB k i) :=
  lsn mixed (ja i) (id:=2) (body:=nav [1,1,1,1,1,0,1,0,0] (yA pG 198)) (fp k i) (fun _=>none) (fun u=>u) (gj (g2 (gI 8) (g2 (gI 9) (gO za.D [0,1,2,3]))) []) (gj (g2 (gI 8) (gO za.D [0,1,2,3])) []) (fun m=>(.g 2 (.cond (.blk (.g 3 (.s (.idx false 8 (.tmp 52) 6) (.s (.seg 3 [.A 6,.X 6 8 0]) (.s (.call K135 [.K 0,.K 1,.K 2,.K 3] [0,1,2,3]) (.g 4 (.s (.idx false 8 (.tmp 60) 7) (.s (.seg 2 [.A 7,.X 7 8 0]) (.s (.call K135 [.K 0,.K 1,.K 2,.K 3] [0,1,2,3]) (.g 2 (.s (.idx false 8 (.tmp 65) 8) (.s (.seg 3 [.A 8,.X 8 8 0]) (.g 2 (.s (.call K238 [.K 0,.K 1,.K 2,.K 3] [0,1,2,3]) (.g 3 .back))))))))))))))) .leaf))) m
theorem S198 (k:Nat):(C198 k).Sound pG :=
  fsn mixed (C198 k) (n:=75) (rs:=rsOf pG 198) [] [0,1,2,3] (gj (g2 (gI 6) (gO za.D [0,1,2,3])) []) (fun i=>(.g 1 (.g 3 (.cond (.g 2 .ret) (.g 1 (.s (.nil 10 2 3) (.rk (rb 9 [10]) (.loop ⟨(kZ i).at (fo k i) k,Bw k i k⟩ (gl gU (g2 (gI 1) (g2 (gI 2) (g2 (gL 2 9) (gO za.D [0,1,2,3])))) [nSk 9]) (.g 4 (.g 4 (.loop ⟨(ja i).at (fp k i) k,Bx k i k⟩ (gl (g2 (gL 2 8) (gh 8)) (g2 (gI 8) (g2 (gI 9) (gO za.D [0,1,2,3]))) []) (.g 2 (.s (.call K135 [.K 0,.K 1,.K 2,.K 3] [0,1,2,3]) (.g 2 .ret)))))))))))))) Tryz.func198
def K198 (k:Nat):SCon El pG:=⟨C198 k,S198 k,Tryz.call198⟩
def C136 (k:Nat):Con El:=zM 136 vi (fun e=>qh k e.1.2.2 e.2.1 e.2.2.1) 1 1 (fun e t l j=>.tuple #[.i t.1,.bool t.2.1]) (fun e t l j=>za.D.flat e.1.1 (za.A.mk e.1.2.1.l_b e.1.2.1.l_c (na j 0) (nn l 0) e.1.2.1.m__p) t.2.2)
theorem S136 (k:Nat):(C136 k).Sound pG :=
  fsn mixed (C136 k) (n:=28) (rs:=rsOf pG 136) [] [0,1,2,3] (gj (g2 (gI 6) (g2 (gB 7) (gO za.D [0,1,2,3]))) [nq_2]) (fun i=>(.g 2 (.g 2 (.tD (.g 2 (.s (.call K197 [.K 0,.K 1,.K 2,.K 3] [0,1,2,3]) (.g 5 (.g 2 (.cond (.g 3 .ret) (.g 2 (.s (.call K135 [.K 0,.K 1,.K 2,.K 3] [0,1,2,3]) (.g 3 (.s (.call (K198 k) [.K 0,.K 1,.K 2,.K 3] [0,1,2,3]) (.g 2 .ret)))))))))))))) Tryz.func136
def K136 (k:Nat):SCon El pG:=⟨C136 k,S136 k,Tryz.call136⟩
def C244 (k:Nat):Con El:=zM 244 vi (fun i=>nU k i.1.2.2 i.2.1 i.2.2.1) 1 1 (fun i t j e=>.slice (na e 0) t.1.length (nn j 0)) (fun i t j e=>[.sl 2 3 (na e 0) (nn j 0) t.1]++za.D.flat i.1.1 i.1.2.1 t.2)
abbrev D5 (k:Nat)(i:Ins vi):Kn El->VC (C244 k).T:=retC pG (C244 k) (rsOf pG 244) [] [1000,0,1,2,3] (gj (g2 (gL 2 1000) (gO za.D [0,1,2,3])) [nSk 1000]) i
def jj (l:Ins vi):BCon El ((List Int) × za):=⟨nav [1,1,0] (yA pG 244),Unit,Int × (List Int) × za,(List Int) × za,(List Int) × za,fun u=>.inr u,fun _ _=>none,fun x=>[],fun x v_ j e=>[(0,.pointer (some ⟨l.1.1,0,none⟩)),(1,.i v_.1),(2,.i l.2.2.1),(7,.slice (na e 0) v_.2.1.length (nn j 0))],fun x v_ j e=>zipL [9] [.sl 2 3 (na e 0) (nn j 0) v_.2.1]++zipL [0,1,2,3] (za.D.flat l.1.1 l.1.2.1 v_.2.2),1,1,fun x t j e=>[(7,.slice (na e 0) t.1.length (nn j 0))],fun x t j e=>zipL [8] [.sl 2 3 (na e 0) (nn j 0) t.1]++zipL [0,1,2,3] (za.D.flat l.1.1 l.1.2.1 t.2)⟩
def fC (k:Nat)(e:Ins vi):Nat->(jj e).X->(jj e).V->Option (jj e).W:=fun m_ (i:Unit) (v_:Int × (List Int) × za)=>si e.2.2.1 m_ v_.1 v_.2.1 v_.2.2
theorem BL (k:Nat)(i:Ins vi)(m:Nat):((jj i).at (fC k i) m).Sound pG 244 27 (D5 k i) :=
  lsn mixed (jj i) (id:=0) (body:=nav [1,1,0,0,0] (yA pG 244)) (fC k i) (fun _=>none) (fun u=>u) (gj (g2 (gI 1) (g2 (gL 2 9) (gO za.D [0,1,2,3]))) [nSk 9]) (gj (g2 (gL 2 8) (gO za.D [0,1,2,3])) [nSk 8]) (fun m=>(.join (Bool) 0 0 (gj (gB 17) []) (fun e t l j=>([(17,.bool t)]++kp [0,1,2,7] e,ka [9,0,1,2,3] e)) (.g 2 (.s (.call K208 [.K 0,.K 1,.K 2,.K 3] [0,1,2,3]) (.g 1 (.split 11 (.g 3 (.s (.call K237 [.K 0,.K 1,.K 2,.K 3] [0,1,2,3]) (.g 2 .leaf))) (.g 6 .leaf))))) (.cond (.blk (.g 2 (.s (.bld 11 2 3) (.s (.app 9 (.O 11)) (.g 1 (.g 3 (.s (.call K206 [.K 0,.K 1,.K 2,.K 3] [0,1,2,3]) (.g 1 .back)))))))) (.rk (rb 8 [9]) .leaf)))) m
theorem S244 (k:Nat):(C244 k).Sound pG :=
  fsn mixed (C244 k) (n:=27) (rs:=rsOf pG 244) [] [1000,0,1,2,3] (gj (g2 (gL 2 1000) (gO za.D [0,1,2,3])) [nSk 1000]) (fun i=>(.g 1 (.g 1 (.s (.nil 10 2 3) (.rk (rb 9 [10]) (.loop ⟨(jj i).at (fC k i) k,BL k i k⟩ (gl gU (g2 (gI 1) (g2 (gL 2 9) (gO za.D [0,1,2,3]))) [nSk 9]) (.g 2 (.rk (rb 1000 [8]) .ret)))))))) Tryz.func244
def K244 (k:Nat):SCon El pG:=⟨C244 k,S244 k,Tryz.call244⟩
def C200 (k:Nat):Con El:=zM 200 sG (fun j=>wM k j.1.2.2 j.2.1) 1 1 (fun j t i e=>.slice (na e 0) t.1.length (nn i 0)) (fun j t i e=>[.sl 2 3 (na e 0) (nn i 0) t.1]++za.D.flat j.1.1 j.1.2.1 t.2)
theorem S200 (k:Nat):(C200 k).Sound pG :=
  fsn mixed (C200 k) (n:=8) (rs:=rsOf pG 200) [] [1000,0,1,2,3] (gj (g2 (gL 2 1000) (gO za.D [0,1,2,3])) [nSk 1000]) (fun i=>(.g 1 (.g 2 (.s (.call (K244 k) [.K 0,.K 1,.K 2,.K 3] [4,0,1,2,3]) (.g 1 (.rk (rb 1000 [4]) .ret)))))) Tryz.func200
def K200 (k:Nat):SCon El pG:=⟨C200 k,S200 k,Tryz.call200⟩
abbrev D2:List (PK El):=[pV zp.dv zp.val,pV zp.dv zp.val]
def C240:Con El:=zM 240 D2 (fun e=>uW e.1 e.2.1) 0 0 (fun e t l j=>.i t) (fun e t l j=>[])
theorem S240:(C240).Sound pG :=
  fsn mixed (C240) (n:=12) (rs:=rsOf pG 240) [] [] (gj (gI 4) []) (fun i=>(.s (.new 0 []) (.s (.new 1 []) (.g 1 (.s (.seg 8 [.C 0 1,.C 1 1]) .ret))))) Tryz.func240
def K240:SCon El pG:=⟨C240,S240,Tryz.call240⟩
abbrev iZ:List (PK El):=[pW 7 303,pI .i64,pI .i64,pK (.func (.func 240) #[] #[])]
def C283 (k:Nat):Con El:=bW 283 iZ (fun e=>zX k e.1.2.2 e.2.1 e.2.2.1) 0 0 (fun e t j i=>.tuple #[]) (fun e t j i=>[.sl 7 303 e.1.1 e.1.2.1 t]) (fun e t=>[t.length=e.1.2.2.length])
abbrev CF (k:Nat)(i:Ins iZ):Kn El->VC (C283 k).T:=retC pG (C283 k) (rsOf pG 283) [] [5000] (gj (gL 7 5000) []) i
def js (e:Ins iZ):BCon El ((List zp)):=⟨nav [1,0,0,1,0,0,1] (yA pG 283),Int,Int × (List zp),(List zp),(List zp),fun u=>.inr u,fun _ _=>none,fun t=>[],fun t v_ l j=>[(0,.slice e.1.1 v_.2.length e.1.2.1),(1,.i e.2.1),(2,.i e.2.2.1),(3,.func (.func 240) #[] #[]),(8,.i (t)),(9,.i v_.1)],fun t v_ l j=>zipL [0] [.sl 7 303 e.1.1 e.1.2.1 v_.2],0,0,fun t x l j=>[(0,.slice e.1.1 x.length e.1.2.1),(1,.i e.2.1),(2,.i e.2.2.1),(3,.func (.func 240) #[] #[]),(8,.i (t))],fun t x l j=>zipL [0] [.sl 7 303 e.1.1 e.1.2.1 x]⟩
def fH (k:Nat)(e:Ins iZ):Nat->(js e).X->(js e).V->Option (js e).W:=fun m_ (i:Int) (v_:Int × (List zp))=>ya e.2.1 e.2.2.1 (i) m_ v_.1 v_.2
theorem BR (k:Nat)(i:Ins iZ)(m:Nat):((js i).at (fH k i) m).Sound pG 283 53 (CF k i) :=
  lsn mixed (js i) (id:=2) (body:=nav [1,0,0,1,0,0,1,0,0] (yA pG 283)) (fH k i) (fun _=>none) (fun u=>u) (gj (g2 (gI 9) (gL 7 0)) []) (gj (gL 7 0) []) (fun m=>(.join (Bool) 0 0 (gj (gB 34) []) (fun e t l j=>([(34,.bool t)]++kp [0,1,2,3,8,9] e,ka [0] e)) (.drw (.q [0,1,2,3] [] (.split 21 (.q [4,5,6] [] (.s (.idx false 0 (.tmp 24) 107) (.q [7,8,9,10,11] [.A 107,.X 107 0 0,.X 107 0 1] (.s (.idx false 0 (.tmp 29) 108) (.q [12,13] [.A 108,.X 108 0 0,.X 108 0 1] (.a 14 (.call K240 [] []) [] (.q [15,16] [] .leaf))))))) (.q [4,5,6,7,8,9,10,11,12,13,14,15,16] [] .leaf)))) (.cond (.blk (.drw (.q rg_7 [] (.s (.idx false 0 (.tmp 44) 113) (.q [8,9,10,11] [.A 113,.X 113 0 0,.X 113 0 1] (.s (.idx false 0 (.tmp 48) 114) (.q [12,13] [.A 114,.X 114 0 0,.X 114 0 1] (.s (.idx false 0 (.tmp 38) 115) (.q [14] [.A 115] (.a 15 (.sset 0 115 0) [] (.s (.rls 115 0) (.s (.rls 115 39) (.s (.idx false 0 (.tmp 41) 116) (.q [16] [.A 116] (.a 17 (.sset 0 116 0) [] (.s (.rls 116 0) (.g 3 .back))))))))))))))))) .leaf))) m
def jt (e:Ins iZ):BCon El ((List zp)):=⟨nav [1] (yA pG 283),Unit,Int × (List zp),(List zp),(List zp),fun u=>.inr u,fun _ _=>none,fun t=>[],fun t v_ l j=>[(0,.slice e.1.1 v_.2.length e.1.2.1),(1,.i e.2.1),(2,.i e.2.2.1),(3,.func (.func 240) #[] #[]),(8,.i v_.1)],fun t v_ l j=>zipL [0] [.sl 7 303 e.1.1 e.1.2.1 v_.2],0,0,fun t x l j=>[],fun t x l j=>zipL [0] [.sl 7 303 e.1.1 e.1.2.1 x]⟩
def fI (k:Nat)(e:Ins iZ):Nat->(jt e).X->(jt e).V->Option (jt e).W:=fun m_ (i:Unit) (v_:Int × (List zp))=>zL e.2.1 e.2.2.1 m_ v_.1 v_.2
theorem BS (k:Nat)(i:Ins iZ)(m:Nat):((jt i).at (fI k i) m).Sound pG 283 53 (CF k i) :=
  lsn mixed (jt i) (id:=0) (body:=nav [1,0,0] (yA pG 283)) (fI k i) (fun _=>none) (fun u=>u) (gj (g2 (gI 8) (gL 7 0)) []) (gj (gL 7 0) []) (fun m=>(.g 3 (.cond (.blk (.g 2 (.loop ⟨(js i).at (fH k i) m,BR k i m⟩ (gl (gI 8) (g2 (gI 9) (gL 7 0)) []) (.g 3 .back)))) .leaf))) m
theorem S283 (k:Nat):(C283 k).Sound pG :=
  fsn mixed (C283 k) (n:=53) (rs:=rsOf pG 283) [] [5000] (gj (gL 7 5000) []) (fun i=>(.g 3 (.loop ⟨(jt i).at (fI k i) k,BS k i k⟩ (gl gU (g2 (gI 8) (gL 7 0)) []) (.s (.same 0 (i.1.2.2.length)) (.rk (rb 5000 [0]) .leaf))))) Tryz.func283
def K283 (k:Nat):SCon El pG:=⟨C283 k,S283 k,Tryz.call283⟩
abbrev lE:List (PK El):=[pW 7 303,pI .i64,pK (.func (.func 240) #[] #[])]
def C271 (k:Nat):Con El:=bW 271 lE (fun e=>xx k e.1.2.2 e.2.1) 0 0 (fun e t j i=>.tuple #[]) (fun e t j i=>[.sl 7 303 e.1.1 e.1.2.1 t]) (fun e t=>[t.length=e.1.2.2.length])
abbrev BQ (k:Nat)(i:Ins lE):Kn El->VC (C271 k).T:=retC pG (C271 k) (rsOf pG 271) [] [5000] (gj (gL 7 5000) []) i
def jn (e:Ins lE):BCon El ((List zp)):=⟨nav [1,1,0] (yA pG 271),Unit,Int × Int × (List zp),Int × (List zp),Int × (List zp),fun u=>.inr u,fun _ _=>none,fun x=>[],fun x v_ l j=>[(0,.slice e.1.1 v_.2.2.length e.1.2.1),(1,.i e.2.1),(2,.func (.func 240) #[] #[]),(6,.i 20),(7,.i v_.1),(8,.i v_.2.1)],fun x v_ l j=>zipL [0] [.sl 7 303 e.1.1 e.1.2.1 v_.2.2],0,0,fun x t l j=>[(0,.slice e.1.1 t.2.length e.1.2.1),(1,.i e.2.1),(2,.func (.func 240) #[] #[]),(6,.i 20),(7,.i t.1)],fun x t l j=>zipL [0] [.sl 7 303 e.1.1 e.1.2.1 t.2]⟩
def fE (k:Nat)(e:Ins lE):Nat->(jn e).X->(jn e).V->Option (jn e).W:=fun m_ (i:Unit) (v_:Int × Int × (List zp))=>yj e.2.1 m_ v_.1 v_.2.1 v_.2.2
theorem BN (k:Nat)(i:Ins lE)(m:Nat):((jn i).at (fE k i) m).Sound pG 271 63 (BQ k i) :=
  lsn mixed (jn i) (id:=0) (body:=nav [1,1,0,0,0] (yA pG 271)) (fE k i) (fun _=>none) (fun u=>u) (gj (g2 (gI 7) (g2 (gI 8) (gL 7 0))) []) (gj (g2 (gI 7) (gL 7 0)) []) (fun m=>(.g 3 (.cond (.blk (.g 4 (.s (.call (K283 m) [.K 0] [0]) (.s (.rlp 0 0) (.s (.rlp 14 0) (.g 2 (.g 4 .back))))))) .leaf))) m
def jo (e:Ins lE):BCon El ((List zp)):=⟨nav [1,1,1,1,0,0,1,0,1,0] (yA pG 271),(List zp) × Int,Int × Int,Int,Int,fun u=>.inr u,fun _ _=>none,fun j=>[],fun j v_ t l=>[(0,.slice e.1.1 (j.1).length e.1.2.1),(1,.i e.2.1),(2,.func (.func 240) #[] #[]),(6,.i (j.2)),(7,.i v_.1),(8,.i v_.2)],fun j v_ t l=>zipL [0] [.sl 7 303 e.1.1 e.1.2.1 (j.1)],0,0,fun j x t l=>[(0,.slice e.1.1 (j.1).length e.1.2.1),(1,.i e.2.1),(2,.func (.func 240) #[] #[]),(6,.i (j.2)),(7,.i x)],fun j x t l=>zipL [0] [.sl 7 303 e.1.1 e.1.2.1 (j.1)]⟩
def fF (k:Nat)(e:Ins lE):Nat->(jo e).X->(jo e).V->Option (jo e).W:=fun m_ (i:(List zp) × Int) (v_:Int × Int)=>we e.2.1 (i.2) (i.1) m_ v_.1 v_.2
theorem BO (k:Nat)(i:Ins lE)(m:Nat):((jo i).at (fF k i) m).Sound pG 271 63 (BQ k i) :=
  lsn mixed (jo i) (id:=4) (body:=nav [1,1,1,1,0,0,1,0,1,0,0,0] (yA pG 271)) (fF k i) (fun _=>none) (fun u=>u) (gj (g2 (gI 7) (gI 8)) []) (gj (gI 7) []) (fun m=>(.g 3 (.cond (.blk .dead) .leaf))) m
def jr (j:Ins lE):BCon El ((List zp)):=⟨nav [1,1,1,1] (yA pG 271),(List zp),Int,Unit,Unit,fun u=>.inr u,fun _ _=>none,fun t=>[],fun t v_ l e=>[(0,.slice j.1.1 (t).length j.1.2.1),(1,.i j.2.1),(2,.func (.func 240) #[] #[]),(6,.i v_)],fun t v_ l e=>zipL [0] [.sl 7 303 j.1.1 j.1.2.1 (t)],0,0,fun t x l e=>[],fun t x l e=>zipL [0] [.sl 7 303 j.1.1 j.1.2.1 (t)]⟩
def fG (k:Nat)(e:Ins lE):Nat->(jr e).X->(jr e).V->Option (jr e).W:=fun m_ (i:(List zp)) (v_:Int)=>yq e.2.1 (i) m_ v_
theorem BP (k:Nat)(i:Ins lE)(m:Nat):((jr i).at (fG k i) m).Sound pG 271 63 (BQ k i) :=
  lsn mixed (jr i) (id:=2) (body:=nav [1,1,1,1,0,0] (yA pG 271)) (fG k i) (fun _=>none) (fun u=>u) (gj (gI 6) []) (gj gU []) (fun m=>(.g 3 (.cond (.blk (.g 4 (.loop ⟨(jo i).at (fF k i) m,BO k i m⟩ (gl (g2 (gL 7 0) (gI 6)) (g2 (gI 7) (gI 8)) []) (.g 4 (.g 3 (.join (Unit) 0 0 (gj gU []) (fun e t l j=>([]++kp [0,1,2,6] e,ka [0] e)) (.cond .dead .leaf) (.g 3 .back))))))) .leaf))) m
theorem S271 (k:Nat):(C271 k).Sound pG :=
  fsn mixed (C271 k) (n:=63) (rs:=rsOf pG 271) [] [5000] (gj (gL 7 5000) []) (fun i=>(.g 1 (.g 3 (.loop ⟨(jn i).at (fE k i) k,BN k i k⟩ (gl gU (g2 (gI 7) (g2 (gI 8) (gL 7 0))) []) (.g 4 (.s (.call (K283 k) [.K 0] [0]) (.s (.rlp 0 0) (.s (.rlp 23 0) (.loop ⟨(jr i).at (fG k i) k,BP k i k⟩ (gl (gL 7 0) (gI 6) []) (.s (.same 0 (i.1.2.2.length)) (.rk (rb 5000 [0]) .leaf))))))))))) Tryz.func271
def K271 (k:Nat):SCon El pG:=⟨C271 k,S271 k,Tryz.call271⟩
abbrev D1:List (PK El):=[pW 7 303,pK (.func (.func 240) #[] #[])]
def C239 (k:Nat):Con El:=bW 239 D1 (fun e=>yM k e.1.2.2) 0 0 (fun e t j i=>.tuple #[]) (fun e t j i=>[.sl 7 303 e.1.1 e.1.2.1 t]) (fun e t=>[t.length=e.1.2.2.length])
theorem S239 (k:Nat):(C239 k).Sound pG :=
  fsn mixed (C239 k) (n:=9) (rs:=rsOf pG 239) [] [5000] (gj (gL 7 5000) []) (fun i=>(.g 4 (.s (.call (K271 k) [.K 0] [0]) (.s (.rlp 4 0) (.s (.same 0 (i.1.2.2.length)) (.rk (rb 5000 [0]) .leaf)))))) Tryz.func239
def K239 (k:Nat):SCon El pG:=⟨C239 k,S239 k,Tryz.call239⟩
def C246:Con El:=zM 246 vi (fun e=>tv e.1.2.2 e.2.1 e.2.2.1) 0 0 (fun e t j i=>.tuple #[]) (fun e t j i=>za.D.flat e.1.1 e.1.2.1 t)
theorem S246:(C246).Sound pG :=
  fsn mixed (C246) (n:=20) (rs:=rsOf pG 246) [] [0,1,2,3] (gj (gO za.D [0,1,2,3]) []) (fun i=>(.g 4 (.s (.call K206 [.K 0,.K 1,.K 2,.K 3] [0,1,2,3]) (.s (.call K135 [.K 0,.K 1,.K 2,.K 3] [0,1,2,3]) (.g 3 (.s (.call K135 [.K 0,.K 1,.K 2,.K 3] [0,1,2,3]) (.g 3 (.s (.call K135 [.K 0,.K 1,.K 2,.K 3] [0,1,2,3]) .leaf)))))))) Tryz.func246
def K246:SCon El pG:=⟨C246,S246,Tryz.call246⟩
def C241 (k:Nat):Con El:=zM 241 Cw (fun e=>sy k e.1.2.2 e.2.1 e.2.2.1 e.2.2.2.1) 0 0 (fun e t l j=>.i t.1) (fun e t l j=>za.D.flat e.1.1 e.1.2.1 t.2)
theorem S241 (k:Nat):(C241 k).Sound pG :=
  fsn mixed (C241 k) (n:=25) (rs:=rsOf pG 241) [] [0,1,2,3] (gj (g2 (gI 8) (gO za.D [0,1,2,3])) []) (fun i=>(.g 1 (.g 3 (.s (.call (K220 k) [.K 0,.K 1,.K 2,.K 3] [0,1,2,3]) (.join (Int × Int) 0 0 (gj (g2 (gI 1) (gI 2)) []) (fun e j t l=>([(1,.i j.1),(2,.i j.2)]++kp [0,3] e,ka [0,1,2,3] e)) (.cond (.g 4 .leaf) .leaf) (.g 3 (.s (.call K246 [.K 0,.K 1,.K 2,.K 3] [0,1,2,3]) (.g 4 (.s (.call K135 [.K 0,.K 1,.K 2,.K 3] [0,1,2,3]) (.g 2 .ret)))))))))) Tryz.func241
def K241 (k:Nat):SCon El pG:=⟨C241 k,S241 k,Tryz.call241⟩
theorem sW {w0 w:World}{As:List HP}{x:Option Addr}{l:Nat}{s:List zp}{i:Int}{B:Option Addr}{z:Nat}{v:List zp}{t:List zp}(hm:nc s i v=some t)(H:St w0 (Sl 303 zp.enc 2 x l s::Sl 303 zp.enc 2 B z v::As) w) :
    ym pG 242 #[.slice x s.length l,.i i,.slice B v.length z] w fun u w'=>∃ (c6:Option Addr) (c7:Nat),u = .slice c6 t.length c7/\St w0 (Sl 303 zp.enc 2 c6 c7 t::As) w':=by
  unfold nc at hm;split at hm
  · rename_i hI;cases hm;obtain⟨h0,h1,e3⟩:=hI;obtain⟨q,rfl⟩:=Int.eq_ofNat_of_zero_le h0;have hq:q<=s.length:=by omega
    have he:=zp.zY;have hcs:=(H.pF 0 rfl)
    have f7:=(H.pF 1 rfl)
    refine enter (args:=[.slice x s.length l,.i (q:Int),.slice B v.length z]) Tryz.func242 rfl rfl rfl fun a y=>?_
    refine Runs.seq ?_;refine Runs.region ?_;refine WR.seg y 1 [] [0,1,2] (Lo:=[(0,.slice x s.length l),(1,.i (q:Int)),(2,.slice B v.length z)]) (obs:=[]) rfl (by kernel_rfl) trivial fun a y=>?_
    refine WR.done rfl ?_;refine Runs.seq ?_;refine Runs.region ?_;refine WR.seg y 3 [.slice (yv x l q 2) (s.length - q) (l - q)] [0,1,2] (Lo:=[(0,.slice x s.length l),(1,.i (q:Int)),(2,.slice B v.length z)])
      (obs:=[.p (yv x l q 2=yv x l q 2),.p (s.length - q=s.length - q),.p (l - q=l - q),.p (0<=(q:Int)/\(q:Int)<=(s.length:Int))]) rfl (by kernel_rfl) ⟨rfl,rfl,rfl,⟨h0,h1⟩,trivial⟩ fun a y=>?_
    refine WR.done rfl ?_;refine Runs.seq ?_;refine Runs.region ?_;refine WR.seg y 3 [] [0,1,2,7] (Lo:=[(0,.slice x s.length l),(1,.i (q:Int)),(2,.slice B v.length z),(7,.i (v.length:Int))]) (obs:=[]) rfl (by kernel_rfl) trivial fun a y=>?_
    refine WR.done rfl ?_;refine Runs.seq ?_;refine Runs.seq ?_;refine Runs.region ?_;refine WR.seg y 2 [] [0,1,2,7,16] (Lo:=[(0,.slice x s.length l),(1,.i (q:Int)),(2,.slice B v.length z),(7,.i (v.length:Int)),(16,.bool ((v.length:Int) == 0))]) (obs:=[]) rfl (by kernel_rfl) trivial fun a y=>?_
    refine WR.done rfl ?_;refine Runs.cond y rfl (fun c=>?_) (fun c=>?_)
    · have hv:v=[]:=List.eq_nil_of_length_eq_zero (by simpa using c);refine Runs.seq ?_;refine Runs.region ?_;refine WR.seg y 2 [] [6] (Lo:=[(6,.slice x s.length l)]) (obs:=[]) rfl (by kernel_rfl) trivial fun a y=>?_
      refine WR.done rfl ?_;refine Runs.ret y Tryz.func242 rfl rfl ?_;subst hv;have e:s.take q++([]++s.drop q)=s:=by simp
      simp only[tN];rw[e];exact⟨_,_,rfl,H.x1⟩
    · have e6:0<v.length:=by have:=c;simp at this;exact List.length_pos_iff.2 this
      refine Runs.skip ?_;refine Runs.seq ?_;refine Runs.region ?_;refine WR.seg y 3 [] [0,1,2,7,8] (Lo:=[(0,.slice x s.length l),(1,.i (q:Int)),(2,.slice B v.length z),(7,.i (v.length:Int)),(8,.i (s.length:Int))]) (obs:=[]) rfl (by kernel_rfl) trivial fun a y=>?_
      refine WR.done rfl ?_;refine Runs.seq ?_;refine Runs.seq ?_;refine Runs.region ?_;refine WR.seg y 3 [] [0,1,2,7,8,22] (Lo:=[(0,.slice x s.length l),(1,.i (q:Int)),(2,.slice B v.length z),(7,.i (v.length:Int)),(8,.i (s.length:Int)),(22,.bool ((q:Int) == (s.length:Int)))]) (obs:=[]) rfl (by kernel_rfl) trivial fun a y=>?_
      refine WR.done rfl ?_;refine Runs.cond y rfl (fun c2=>?_) (fun c2=>?_)
      · have b9:q=s.length:=by have:=c2;simp at this;omega
        refine Runs.seq ?_;refine Runs.region ?_;refine WR.seg y 2 [] [23,24] (Lo:=[(23,.slice x s.length l),(24,.slice B v.length z)]) (obs:=[]) rfl (by kernel_rfl) trivial fun a y=>?_
        have b6:mApp s v=some (s++v):=by unfold mApp;rw[if_pos e3]
        refine WR.eff y rfl rfl rfl rfl (OpTo.vP b6 y H he rfl rfl rfl rfl rfl rfl rfl rfl rfl rfl (SlRd.all (yP 303 zp.enc 2 B z v) he H 1 rfl) rfl) ?_;rintro _ w ⟨sb,sc,rfl,H⟩ a y;refine WR.seg y 4 [] [6] (Lo:=[(6,.slice sb (s++v).length sc)]) (obs:=[]) rfl (by kernel_rfl) trivial fun a y=>?_
        refine WR.done rfl ?_;refine Runs.ret y Tryz.func242 rfl rfl ?_;subst b9;have e:s.take s.length++(v++s.drop s.length)=s++v:=by simp
        simp only[tN];rw[e];exact⟨_,_,rfl,H.x1⟩
      · have b9:q<s.length:=by have:=c2;simp at this;omega
        have a0:w64 ((s.length:Int)+(v.length:Int))=((s.length+v.length:Nat):Int):=by unfold w64;rw[nJ (by omega) (by omega)];omega
        have F:w64 ((q:Int)+(v.length:Int))=((q+v.length:Nat):Int):=by unfold w64;rw[nJ (by omega) (by omega)];omega
        have e7:w64 (((s.length+v.length:Nat):Int) - (q:Int))=((s.length+v.length - q:Nat):Int):=by unfold w64;rw[nJ (by omega) (by omega)];omega
        have a9:=yB he s;have O:=yB he v;have D:=yB he (s.take q);have J:=yB he (s.drop q);have a3:s.flatMap zp.enc=(s.take q).flatMap zp.enc++(s.drop q).flatMap zp.enc:=by rw[<- List.flatMap_append,List.take_append_drop]
        simp only[List.length_take,List.length_drop] at D J;rw[Nat.min_eq_left hq] at D;refine Runs.skip ?_;refine Runs.seq ?_;refine Runs.seq ?_;refine Runs.region ?_;refine WR.seg y 6 [] [0,1,2,7,8,31] (Lo:=[(0,.slice x s.length l),(1,.i (q:Int)),(2,.slice B v.length z),(7,.i (v.length:Int)),(8,.i (s.length:Int)),(31,.bool (decide (w64 ((s.length:Int)+(v.length:Int)) > (l:Int))))]) (obs:=[]) rfl (by kernel_rfl) trivial fun a y=>?_
        refine WR.done rfl ?_;refine Runs.cond y rfl (fun c3=>?_) (fun c3=>?_)
        · have f8:l<s.length+v.length:=by have:=c3;rw[a0] at this;simp only[decide_eq_true_eq] at this;omega
          refine Runs.seq ?_;refine Runs.region ?_;refine WR.seg y 8 [.slice (yv x l 0 2) q l] [0,1,2,7,34,39] (Lo:=[(0,.slice x s.length l),(1,.i (q:Int)),(2,.slice B v.length z),(7,.i (v.length:Int)),(34,.slice (yv x l 0 2) q l),(39,.i (w64 (w64 ((s.length:Int)+(v.length:Int)) - (q:Int))))])
            (obs:=[.p (yv x l 0 2=yv x l 0 2),.p (q - 0=q),.p (l - 0=l),.p (0<=(q:Int)/\(q:Int)<=(l:Int))]) rfl (by kernel_rfl) ⟨rfl,rfl,rfl,⟨h0,by omega⟩,trivial⟩ fun a y=>?_
          rw[a0,e7] at y;have e5:yv x l 0 2=x:=by
            unfold yv;split
            · rfl
            · cases x <;> simp[Addr.add]
          rw[e5] at y;have c4:Rd w x ((s.take q).flatMap zp.enc):=by
            rcases SlRd.all (yP 303 zp.enc 2 x l s) he H 0 rfl with h|⟨xa,h1,h2⟩
            · exfalso;have f4:s.length*2=0:=by rw[<- a9,h];rfl
              omega
            · exact .inr ⟨xa,h1,fun j u hj=>h2 j u (by rw[a3];exact List.getElem?_append_left (List.getElem?_eq_some_iff.1 hj).1 ▸ hj)⟩
          refine WR.eff y rfl rfl rfl rfl (OpTo.BX (sz:=2) ((s.take q).flatMap zp.enc) y H rfl rfl rfl rfl rfl rfl rfl rfl rfl (by decide) c4 (by rw[D]) (by omega) (by omega) (by omega) rfl) ?_;rintro _ w ⟨r,I,Z,rfl,b7,e2,hZ,H⟩ a y;have hlen:q+(s.length+v.length - q)=s.length+v.length:=by omega
          rw[hlen] at y b7;refine WR.seg y 10 [] [0,1,2,7,9] (Lo:=[(0,.slice x s.length l),(1,.i (q:Int)),(2,.slice B v.length z),(7,.i (v.length:Int)),(9,.slice (some ⟨r,0,none⟩) (s.length+v.length) I)]) (obs:=[]) rfl (by kernel_rfl) trivial fun a y=>?_
          refine WR.done rfl ?_;obtain⟨Z1,Z2,Z3,e1,a6,a7⟩:∃ Z1 Z2 Z3:List Value,Z=Z1++(Z2++Z3)/\Z1.length=v.length*2/\Z2.length=(s.length - q)*2:=by
            refine⟨Z.take (v.length*2),(Z.drop (v.length*2)).take ((s.length - q)*2),(Z.drop (v.length*2)).drop ((s.length - q)*2),by rw[List.take_append_drop,List.take_append_drop],?_,?_⟩ <;> simp only[List.length_take,List.length_drop,hZ] <;> omega
          subst e1;refine Runs.seq ?_;refine Runs.region ?_;refine WR.seg y 4 [.slice (some ⟨r,0+q*2,none⟩) (s.length+v.length - q) (I - q)] [0,1,2,7,9,43,44] (Lo:=[(0,.slice x s.length l),(1,.i (q:Int)),(2,.slice B v.length z),(7,.i (v.length:Int)),(9,.slice (some ⟨r,0,none⟩) (s.length+v.length) I),(43,.slice (some ⟨r,0+q*2,none⟩) (s.length+v.length - q) (I - q)),(44,.slice B v.length z)])
            (obs:=[.p (yv (some ⟨r,0,none⟩) I q 2=some ⟨r,0+q*2,none⟩),.p (s.length+v.length - q=s.length+v.length - q),.p (I - q=I - q),.p (0<=(q:Int)/\(q:Int)<=((s.length+v.length:Nat):Int))]) rfl (by kernel_rfl) ⟨(by show _=_;unfold yv;rw[if_neg (by omega)];simp[uF]),rfl,rfl,⟨h0,by omega⟩,trivial⟩ fun a y=>?_
          refine WR.eff y rfl rfl rfl rfl (OpTo.ik (sz:=2) (v.flatMap zp.enc) y H rfl rfl rfl rfl rfl rfl (SlRd.all (yP 303 zp.enc 2 B z v) he H 2 rfl) (by rw[O];congr 1;simp only[Nat.min_def];split <;> omega) (ox he v) (by simp only[lA,D,O,a6];omega)) ?_;rintro _ w ⟨⟨kk,rfl⟩,H⟩ a y;rw[oE _ _ _ _ _ (by rw[D];omega) (by rw[O,a6])] at H;refine WR.done rfl ?_;replace y:=y.sel [0,1,2,7,9] (Lo:=[(0,.slice x s.length l),(1,.i (q:Int)),(2,.slice B v.length z),(7,.i (v.length:Int)),(9,.slice (some ⟨r,0,none⟩) (s.length+v.length) I)]) (by kernel_rfl);refine Runs.seq ?_;refine Runs.drawn mixed (by kernel_rfl) ?_;replace H:=H.drew;obtain⟨b,off,A,R,rfl,hA,_,_,hR,H2⟩:=(H.t1).eu he (by omega);have c1:yv (some ⟨b,off,none⟩:Option Addr) l q 2=some ⟨b,off+q*2,none⟩:=by unfold yv;rw[if_neg (by omega)];simp[uF]
          refine WQ.seg y rg_7 [.slice (some ⟨r,0+(q+v.length)*2,none⟩) (s.length - q) (I - (q+v.length)),.slice (some ⟨b,off+q*2,none⟩) (s.length - q) (l - q)] [9,50,53] (Lo:=[(9,.slice (some ⟨r,0,none⟩) (s.length+v.length) I),(50,.slice (some ⟨r,0+(q+v.length)*2,none⟩) (s.length - q) (I - (q+v.length))),(53,.slice (some ⟨b,off+q*2,none⟩) (s.length - q) (l - q))])
            (obs:=[.p (yv (some ⟨r,0,none⟩) I (Int.toNat (w64 ((q:Int)+(v.length:Int)))) 2=some ⟨r,0+(q+v.length)*2,none⟩),.p (s.length+v.length - Int.toNat (w64 ((q:Int)+(v.length:Int)))=s.length - q),.p (I - Int.toNat (w64 ((q:Int)+(v.length:Int)))=I - (q+v.length)),.p (0<=w64 ((q:Int)+(v.length:Int))/\w64 ((q:Int)+(v.length:Int))<=((s.length+v.length:Nat):Int)),
              .p (yv (some ⟨b,off,none⟩) l q 2=some ⟨b,off+q*2,none⟩),.p (s.length - q=s.length - q),.p (l - q=l - q),.p (0<=(q:Int)/\(q:Int)<=(s.length:Int))]) (by kernel_rfl) (by kernel_rfl)
            ⟨(by show _=_;rw[F,tN];unfold yv;rw[if_neg (by omega)];simp[uF]),(by show _ - _=_;rw[F,tN];omega),(by show _ - _=_;rw[F,tN]),(by show _/\_;rw[F];constructor <;> omega),c1,rfl,rfl,⟨h0,h1⟩,trivial⟩ fun a y=>?_
          have Y:Rd { w with drawn:=w.drawn+1 } (some ⟨b,off+q*2,none⟩) ((s.drop q).flatMap zp.enc):=Ci (H2) 0 rfl (off:=off+q*2) fun j u hj=>by
            rw[a3,aA,<- aA A,List.getElem?_append_right (by simp only[lA,hA,D];omega)];simp only[lA,hA,D];rw[List.getElem?_append_left (by have:=(List.getElem?_eq_some_iff.1 hj).1;omega)];rw[<- hj];congr 1;omega
          refine WQ.eff (j:=8) (obs:=[]) y (by kernel_rfl) rfl rfl rfl rfl (by kernel_rfl) (OpTo.ik (sz:=2) ((s.drop q).flatMap zp.enc) y H2.t1 rfl rfl rfl rfl rfl rfl Y (by rw[J];congr 1;simp only[Nat.min_def];split <;> omega) (ox he _) (by simp only[lA,D,O,a7,J,Nat.add_mul];omega)) ?_;rintro _ w ⟨⟨e8,rfl⟩,H⟩;refine⟨trivial,fun a y=>?_⟩;refine WQ.done (by kernel_rfl) ?_;rw[<- aA,oE _ _ _ _ _ (by simp only[lA,D,O,Nat.add_mul];omega) (by rw[J,a7])] at H;refine Runs.seq ?_;refine Runs.region ?_;refine WR.seg y 2 [] [6] (Lo:=[(6,.slice (some ⟨r,0,none⟩) (s.length+v.length) I)]) (obs:=[]) rfl (by kernel_rfl) trivial fun a y=>?_
          refine WR.done rfl ?_;refine Runs.ret y Tryz.func242 rfl rfl ?_;simp only[tN];have U:(s.take q++(v++s.drop q)).length=s.length+v.length:=by simp;omega
          have X:(s.take q).flatMap zp.enc++v.flatMap zp.enc++((s.drop q).flatMap zp.enc++Z3)=[]++((s.take q++(v++s.drop q)).flatMap zp.enc++Z3):=by simp[aA]
          rw[X] at H;have e0:(I - (s.take q++(v++s.drop q)).length)*2<=Z3.length:=by
            simp only[lA,a6,a7] at hZ;rw[U];omega
          have H3:=St.Bg H he (sc:=I) (by rw[U];exact b7) e2 e0;exact⟨some ⟨r,0,none⟩,I,by rw[U];rfl,H3.x1.x1⟩
        · have b0:s.length+v.length<=l:=by have:=c3;rw[a0] at this;simp only[decide_eq_false_iff_not] at this;omega
          obtain⟨b,off,A,R,rfl,hA,_,b8,hR,H1⟩:=H.eu he (by omega);obtain⟨R1,W,d8,a4⟩:∃ R1 W:List Value,R=R1++W/\R1.length=v.length*2:=by
            have:v.length*2<=(l - s.length)*2:=Nat.mul_le_mul_right _ (by omega);exact⟨R.take (v.length*2),R.drop (v.length*2),by rw[List.take_append_drop],by simp only[List.length_take];omega⟩
          subst d8;have S:∀ k:Nat,k<l->yv (some ⟨b,off,none⟩:Option Addr) l k 2=some ⟨b,off+k*2,none⟩:=fun k hk=>by unfold yv;rw[if_neg (by omega)];simp[uF]
          have c0:yv (some ⟨b,off,none⟩:Option Addr) l 0 2=some ⟨b,off,none⟩:=by rw[S 0 (by omega)];simp
          refine Runs.skip ?_;refine Runs.seq ?_;refine Runs.region ?_;refine WR.seg y 6 [.slice (some ⟨b,off,none⟩) (s.length+v.length) l] [0,1,2,7] (Lo:=[(0,.slice (some ⟨b,off,none⟩) (s.length+v.length) l),(1,.i (q:Int)),(2,.slice B v.length z),(7,.i (v.length:Int))])
            (obs:=[.p (yv (some ⟨b,off,none⟩) l 0 2=some ⟨b,off,none⟩),.p (Int.toNat (w64 ((s.length:Int)+(v.length:Int))) - 0=s.length+v.length),.p (l - 0=l),.p (0<=w64 ((s.length:Int)+(v.length:Int))/\w64 ((s.length:Int)+(v.length:Int))<=(l:Int))]) rfl (by kernel_rfl)
            ⟨c0,(by show _ - 0=_;rw[a0,tN];rfl),rfl,(by show _/\_;rw[a0];constructor <;> omega),trivial⟩ fun a y=>?_
          refine WR.done rfl ?_;obtain⟨vb,vo,Av,Rv,rfl,d4,_,_,f6,Hv⟩:=(H1.t1).eu he e6;have e4:vb≠b:=by
            obtain⟨g1,g2,gd,s1,s2,d5,g3,g4,f3,s3,s4,d6,_⟩:=Hv.heap;intro h;subst h;rcases gd vb with e|e
            · have:g1 vb=_:=d5;rw[this] at e;cases e
            · have:g3 vb=_:=d6;have:=s3 _ _ this;rw[e] at this;cases this
          refine Runs.seq ?_;refine Runs.seq ?_;refine Runs.region ?_;refine WR.seg y 6 [.slice (yv (some ⟨b,off,none⟩) l (q+v.length) 2) (s.length - q) (l - (q+v.length))] [0,1,2,7,61,66] (Lo:=[(0,.slice (some ⟨b,off,none⟩) (s.length+v.length) l),(1,.i (q:Int)),(2,.slice (some ⟨vb,vo,none⟩) v.length z),(7,.i (v.length:Int)),(61,.slice (some ⟨vb,vo,none⟩) v.length z),(66,.slice (yv (some ⟨b,off,none⟩) l (q+v.length) 2) (s.length - q) (l - (q+v.length)))])
            (obs:=[.p (yv (some ⟨b,off,none⟩) l (Int.toNat (w64 ((q:Int)+(v.length:Int)))) 2=yv (some ⟨b,off,none⟩) l (q+v.length) 2),.p (s.length+v.length - Int.toNat (w64 ((q:Int)+(v.length:Int)))=s.length - q),.p (l - Int.toNat (w64 ((q:Int)+(v.length:Int)))=l - (q+v.length)),.p (0<=w64 ((q:Int)+(v.length:Int))/\w64 ((q:Int)+(v.length:Int))<=((s.length+v.length:Nat):Int))]) rfl (by kernel_rfl)
            ⟨(by show _=_;rw[F,tN]),(by show _ - _=_;rw[F,tN];omega),(by show _ - _=_;rw[F,tN]),(by show _/\_;rw[F];constructor <;> omega),trivial⟩ fun a y=>?_
          rw[S (q+v.length) (by omega)] at y;refine WR.eff y rfl rfl rfl rfl (OpTo.cj (tS:=301) (tR:=4) (e:=303) y Hv 0 1 rfl rfl e4 (by simp only[List.size_toArray,lA,a9];omega) rfl rfl (fn:=Tryz.f272) (by kernel_rfl) (by kernel_rfl) (by kernel_rfl) (by kernel_rfl) (by kernel_rfl) rfl rfl) ?_;rintro _ w ⟨rfl,ew⟩ a y;subst ew;refine WR.seg y 8 [] [0,1,2,7,68] (Lo:=[(0,.slice (some ⟨b,off,none⟩) (s.length+v.length) l),(1,.i (q:Int)),(2,.slice (some ⟨vb,vo,none⟩) v.length z),(7,.i (v.length:Int)),(68,.bool true)]) (obs:=[]) rfl (by kernel_rfl) trivial fun a y=>?_
          refine WR.done rfl ?_;refine Runs.rF y rfl ?_;refine Runs.seq ?_;refine Runs.drawn mixed (by kernel_rfl) ?_;replace Hv:=Hv.drew;refine WQ.seg y rg_7 [.slice (some ⟨b,off+(q+v.length)*2,none⟩) (s.length - q) (l - (q+v.length)),.slice (some ⟨b,off+q*2,none⟩) (s.length+v.length - q) (l - q)] [0,1,2,73,76] (Lo:=[(0,.slice (some ⟨b,off,none⟩) (s.length+v.length) l),(1,.i (q:Int)),(2,.slice (some ⟨vb,vo,none⟩) v.length z),(73,.slice (some ⟨b,off+(q+v.length)*2,none⟩) (s.length - q) (l - (q+v.length))),(76,.slice (some ⟨b,off+q*2,none⟩) (s.length+v.length - q) (l - q))])
            (obs:=[.p (yv (some ⟨b,off,none⟩) l (Int.toNat (w64 ((q:Int)+(v.length:Int)))) 2=some ⟨b,off+(q+v.length)*2,none⟩),.p (s.length+v.length - Int.toNat (w64 ((q:Int)+(v.length:Int)))=s.length - q),.p (l - Int.toNat (w64 ((q:Int)+(v.length:Int)))=l - (q+v.length)),.p (0<=w64 ((q:Int)+(v.length:Int))/\w64 ((q:Int)+(v.length:Int))<=((s.length+v.length:Nat):Int)),
              .p (yv (some ⟨b,off,none⟩) l q 2=some ⟨b,off+q*2,none⟩),.p (s.length+v.length - q=s.length+v.length - q),.p (l - q=l - q),.p (0<=(q:Int)/\(q:Int)<=((s.length+v.length:Nat):Int))]) (by kernel_rfl) (by kernel_rfl)
            ⟨(by show _=_;rw[F,tN];exact S _ (by omega)),(by show _ - _=_;rw[F,tN];omega),(by show _ - _=_;rw[F,tN]),(by show _/\_;rw[F];constructor <;> omega),S q (by omega),rfl,rfl,⟨h0,by omega⟩,trivial⟩ fun a y=>?_
          have Y:Rd { w with drawn:=w.drawn+1 } (some ⟨b,off+q*2,none⟩) ((s.drop q).flatMap zp.enc):=Ci Hv 1 rfl (off:=off+q*2) fun j u hj=>by
            rw[a3,aA,<- aA A,List.getElem?_append_right (by simp only[lA,hA,D];omega)];simp only[lA,hA,D];rw[List.getElem?_append_left (by have:=(List.getElem?_eq_some_iff.1 hj).1;omega)];rw[<- hj];congr 1;omega
          refine WQ.eff (j:=8) (obs:=[]) y (by kernel_rfl) rfl rfl rfl rfl (by kernel_rfl) (OpTo.ik (sz:=2) ((s.drop q).flatMap zp.enc) y Hv.t1 rfl rfl rfl rfl rfl rfl Y (by rw[J];congr 1;simp only[Nat.min_def];split <;> omega) (ox he _) (by simp only[lA,hA,a9,a4,J,Nat.add_mul];rw[Nat.sub_mul];have:q*2<=s.length*2:=Nat.mul_le_mul_right _ hq;omega)) ?_;rintro _ w ⟨⟨e8,rfl⟩,H⟩;refine⟨trivial,fun a y=>?_⟩;refine WQ.done (by kernel_rfl) ?_;obtain⟨X1,X2,hX,a5,d9⟩:∃ X1 X2:List Value,(s.drop q).flatMap zp.enc++R1=X1++X2/\X1.length=v.length*2/\X2.length=(s.length - q)*2:=by
            refine⟨((s.drop q).flatMap zp.enc++R1).take (v.length*2),((s.drop q).flatMap zp.enc++R1).drop (v.length*2),by rw[List.take_append_drop],?_,?_⟩ <;> simp only[List.length_take,List.length_drop,lA,J,a4] <;> omega
          have b5:A++(s.flatMap zp.enc++(R1++W))=(A++((s.take q).flatMap zp.enc++X1))++(X2++W):=by
            rw[a3]
            calc A++(((s.take q).flatMap zp.enc++(s.drop q).flatMap zp.enc)++(R1++W))=A++((s.take q).flatMap zp.enc++(((s.drop q).flatMap zp.enc++R1)++W)):=by simp[aA]
              _=_:=by rw[hX];simp[aA]
          rw[b5,oE _ _ _ _ _ (by simp only[lA,hA,D,a5,Nat.add_mul,Nat.add_assoc]) (by rw[J,d9])] at H;have a8:(A++((s.take q).flatMap zp.enc++X1))++((s.drop q).flatMap zp.enc++W)=(A++(s.take q).flatMap zp.enc)++(X1++((s.drop q).flatMap zp.enc++W)):=by simp[aA]
          rw[a8] at H;refine Runs.seq ?_;refine Runs.region ?_;refine WR.seg y 4 [.slice (some ⟨b,off+q*2,none⟩) (s.length+v.length - q) (l - q)] [0,80,81] (Lo:=[(0,.slice (some ⟨b,off,none⟩) (s.length+v.length) l),(80,.slice (some ⟨b,off+q*2,none⟩) (s.length+v.length - q) (l - q)),(81,.slice (some ⟨vb,vo,none⟩) v.length z)])
            (obs:=[.p (yv (some ⟨b,off,none⟩) l q 2=some ⟨b,off+q*2,none⟩),.p (s.length+v.length - q=s.length+v.length - q),.p (l - q=l - q),.p (0<=(q:Int)/\(q:Int)<=((s.length+v.length:Nat):Int))]) rfl (by kernel_rfl) ⟨S q (by omega),rfl,rfl,⟨h0,by omega⟩,trivial⟩ fun a y=>?_
          have c5:Rd w (some ⟨vb,vo,none⟩) (v.flatMap zp.enc):=Ci H 1 rfl fun j u hj=>by
            rw[List.getElem?_append_right (by omega),d4,Nat.add_sub_cancel_left,List.getElem?_append_left (List.getElem?_eq_some_iff.1 hj).1];exact hj
          refine WR.eff y rfl rfl rfl rfl (OpTo.ik (sz:=2) (v.flatMap zp.enc) y H rfl rfl rfl rfl rfl rfl c5 (by rw[O];congr 1;simp only[Nat.min_def];split <;> omega) (ox he v) (by simp only[lA,hA,D,a5,O];omega)) ?_;rintro _ w ⟨⟨f9,rfl⟩,H⟩ a y;rw[oE _ _ _ _ _ (by simp only[lA,hA,D]) (by rw[O,a5])] at H;refine WR.done rfl ?_;refine Runs.seq ?_;refine Runs.region ?_;refine WR.seg y 2 [] [6] (Lo:=[(6,.slice (some ⟨b,off,none⟩) (s.length+v.length) l)]) (obs:=[]) rfl (by kernel_rfl) trivial fun a y=>?_
          refine WR.done rfl ?_;refine Runs.ret y Tryz.func242 rfl rfl ?_;simp only[tN];have U:(s.take q++(v++s.drop q)).length=s.length+v.length:=by simp;omega
          have X:(A++(s.take q).flatMap zp.enc)++(v.flatMap zp.enc++((s.drop q).flatMap zp.enc++W))=A++((s.take q++(v++s.drop q)).flatMap zp.enc++W):=by simp[aA]
          rw[X] at H;have d7:(l - (s.take q++(v++s.drop q)).length)*2<=W.length:=by
            simp only[lA,a4] at hR;rw[U];omega
          have H3:=St.Bg H he (sc:=l) (by rw[U];exact b0) b8 d7;rw[hA] at H3;exact⟨some ⟨b,off,none⟩,l,by rw[U];rfl,H3.x1⟩
  · cases hm
abbrev D3:List (PK El):=[pW 7 303,pI .i64,pW 7 303]
def C242:Con El:=zM 242 D3 (fun j=>nc j.1.2.2 j.2.1 j.2.2.1.2.2) 1 1 (fun j t i e=>.slice (na e 0) t.length (nn i 0)) (fun j t i e=>[.sl 7 303 (na e 0) (nn i 0) t])
theorem S242:(C242).Sound pG:=fun x t hm w0 w F y H=>by
  obtain⟨⟨b0,j,x0⟩,x1,⟨i,l,x2⟩,_⟩:=x;have e:St w0 (Sl 303 zp.enc 2 b0 j x0::Sl 303 zp.enc 2 i l x2::F) w:=by
    exact H
  refine (sW (show nc x0 x1 x2=some t from hm) e).mono ?_;rintro v w' ⟨e0,u,hv,H⟩;refine⟨[u],[e0],rfl,rfl,hv,?_,fun _ h=>by cases h⟩;exact H
def K242:SCon El pG:=⟨C242,S242,Tryz.call242⟩
abbrev qm:List (PK El):=[pO za.D,pR 2]
def C243 (k:Nat):Con El:=zM 243 qm (fun e=>ml k e.1.2.2 e.2.1.2.2) 0 0 (fun e t l j=>.i t.1) (fun e t l j=>za.D.flat e.1.1 e.1.2.1 t.2)
abbrev D4 (k:Nat)(i:Ins qm):Kn El->VC (C243 k).T:=retC pG (C243 k) (rsOf pG 243) [] [0,1,2,3] (gj (g2 (gI 4) (gO za.D [0,1,2,3])) []) i
def ji (e:Ins qm):BCon El (Int × za):=⟨nav [1,1,0,1] (yA pG 243),Unit,Int × Int × za,Int × za,Int × za,fun u=>.inr u,fun _ _=>none,fun t=>[(0,⟨2,e.2.1.1,e.2.1.2.1,e.2.1.2.2⟩)],fun t v_ l j=>[(0,.pointer (some ⟨e.1.1,0,none⟩)),(1,.slice e.2.1.1 e.2.1.2.2.length e.2.1.2.1),(5,.i v_.1),(6,.i v_.2.1)],fun t v_ l j=>zipL [0,1,2,3] (za.D.flat e.1.1 e.1.2.1 v_.2.2),0,0,fun t x l j=>[(5,.i x.1)],fun t x l j=>zipL [0,1,2,3] (za.D.flat e.1.1 e.1.2.1 x.2)⟩
def fB (k:Nat)(e:Ins qm):Nat->(ji e).X->(ji e).V->Option (ji e).W:=fun m_ (i:Unit) (v_:Int × Int × za)=>tC e.2.1.2.2 m_ v_.1 v_.2.1 v_.2.2
theorem BK (k:Nat)(i:Ins qm)(m:Nat):((ji i).at (fB k i) m).Sound pG 243 32 (D4 k i) :=
  lsn mixed (ji i) (id:=0) (body:=nav [1,1,0,1,0,0] (yA pG 243)) (fB k i) (fun _=>none) (fun u=>u) (gj (g2 (gI 5) (g2 (gI 6) (gO za.D [0,1,2,3]))) []) (gj (g2 (gI 5) (gO za.D [0,1,2,3])) []) (fun m=>(.g 2 (.cond (.blk (.g 3 (.s (.idx true 0 (.tmp 16) 6) (.s (.seg 3 [.A 6,.R 6 0]) (.s (.call K135 [.K 0,.K 1,.K 2,.K 3] [0,1,2,3]) (.g 3 (.s (.idx true 0 (.tmp 23) 7) (.s (.seg 2 [.A 7,.R 7 0]) (.s (.call K135 [.K 0,.K 1,.K 2,.K 3] [0,1,2,3]) (.g 2 (.s (.idx true 0 (.tmp 28) 8) (.s (.seg 3 [.A 8,.R 8 0]) (.g 3 .back))))))))))))) .leaf))) m
theorem S243 (k:Nat):(C243 k).Sound pG :=
  fsn mixed (C243 k) (n:=32) (rs:=rsOf pG 243) [] [0,1,2,3] (gj (g2 (gI 4) (gO za.D [0,1,2,3])) []) (fun i=>(.g 1 (.g 1 (.g 4 (.loop ⟨(ji i).at (fB k i) k,BK k i k⟩ (gl gU (g2 (gI 5) (g2 (gI 6) (gO za.D [0,1,2,3]))) []) (.g 2 .ret)))))) Tryz.func243
def K243 (k:Nat):SCon El pG:=⟨C243 k,S243 k,Tryz.call243⟩
def C199 (k:Nat):Con El:=zM 199 qm (fun e=>vU k e.1.2.2 e.2.1.2.2) 0 0 (fun e t l j=>.i t.1) (fun e t l j=>za.D.flat e.1.1 e.1.2.1 t.2)
abbrev BC (k:Nat)(i:Ins qm):Kn El->VC (C199 k).T:=retC pG (C199 k) (rsOf pG 199) [] [0,1,2,3] (gj (g2 (gI 4) (gO za.D [0,1,2,3])) []) i
def jb (l:Ins qm):BCon El (Int × za):=⟨nav [1,1,0,1] (yA pG 199),Int,(List zp) × Int × za,(List zp) × za,(List zp) × za,fun u=>.inr u,fun _ _=>none,fun t=>[(0,⟨2,l.2.1.1,l.2.1.2.1,l.2.1.2.2⟩)],fun t v_ j e=>[(0,.pointer (some ⟨l.1.1,0,none⟩)),(5,.slice (na e 0) v_.1.length (nn j 0)),(12,.slice l.2.1.1 l.2.1.2.2.length l.2.1.2.1),(13,.i (t)),(14,.i v_.2.1)],fun t v_ j e=>zipL [9] [.sl 7 303 (na e 0) (nn j 0) v_.1]++zipL [0,1,2,3] (za.D.flat l.1.1 l.1.2.1 v_.2.2),1,1,fun t x j e=>[(0,.pointer (some ⟨l.1.1,0,none⟩)),(5,.slice (na e 0) x.1.length (nn j 0))],fun t x j e=>zipL [8] [.sl 7 303 (na e 0) (nn j 0) x.1]++zipL [0,1,2,3] (za.D.flat l.1.1 l.1.2.1 x.2)⟩
def fq (k:Nat)(e:Ins qm):Nat->(jb e).X->(jb e).V->Option (jb e).W:=fun m_ (i:Int) (v_:(List zp) × Int × za)=>uh (i) e.2.1.2.2 m_ v_.1 v_.2.1 v_.2.2
theorem Bz (k:Nat)(i:Ins qm)(m:Nat):((jb i).at (fq k i) m).Sound pG 199 94 (BC k i) :=
  lsn mixed (jb i) (id:=0) (body:=nav [1,1,0,1,0,0] (yA pG 199)) (fq k i) (fun _=>none) (fun u=>u) (gj (g2 (gL 7 9) (g2 (gI 14) (gO za.D [0,1,2,3]))) [nSk 9]) (gj (g2 (gL 7 8) (gO za.D [0,1,2,3])) [nSk 8]) (fun m=>(.g 1 (.cond (.blk (.s (.idx true 0 (.tmp 14) 2) (.s (.seg 3 [.A 2,.R 2 0]) (.g 4 (.s (.call K157 [.K 0,.K 1,.K 2,.K 3] [0,1,2,3]) (.g 1 (.s (.bld 11 7 303) (.s (.app 9 (.O 11)) (.g 1 (.g 2 .back)))))))))) (.rk (rb 8 [9]) .leaf)))) m
def jc (j:Ins qm):BCon El (Int × za):=⟨nav [1,1,1,1,1,0,0,0,1,0,1,1,1,1,1,0] (yA pG 199),(List zp) × (Option Addr × Nat) × Nat × Int × Int × (List Int) × (Option Addr × Nat) × za,Int,Int,Int,fun u=>.inr u,fun _ _=>none,fun e=>[(0,⟨2,j.2.1.1,j.2.1.2.1,j.2.1.2.2⟩)],fun e v_ t l=>[(0,.pointer (some ⟨j.1.1,0,none⟩)),(5,.slice (e.2.1.1) (e.1).length (e.2.1.2)),(8,.slice (e.2.2.2.2.2.2.1.1) (e.2.2.2.2.2.1).length (e.2.2.2.2.2.2.1.2)),(10,.pointer (some ⟨e.2.2.1,0,none⟩)),(11,.i v_)],fun e v_ t l=>zipL [36] [.sl 7 303 (e.2.1.1) (e.2.1.2) (e.1)]++zipL [44] [.blk (e.2.2.1) 303 [.i (e.2.2.2.1),.i (e.2.2.2.2.1)]]++zipL [37] [.sl 2 3 (e.2.2.2.2.2.2.1.1) (e.2.2.2.2.2.2.1.2) (e.2.2.2.2.2.1)]++zipL [0,1,2,3] (za.D.flat j.1.1 j.1.2.1 (e.2.2.2.2.2.2.2)),0,0,fun e x t l=>[(0,.pointer (some ⟨j.1.1,0,none⟩)),(5,.slice (e.2.1.1) (e.1).length (e.2.1.2)),(8,.slice (e.2.2.2.2.2.2.1.1) (e.2.2.2.2.2.1).length (e.2.2.2.2.2.2.1.2)),(10,.pointer (some ⟨e.2.2.1,0,none⟩)),(11,.i x)],fun e x t l=>zipL [36] [.sl 7 303 (e.2.1.1) (e.2.1.2) (e.1)]++zipL [44] [.blk (e.2.2.1) 303 [.i (e.2.2.2.1),.i (e.2.2.2.2.1)]]++zipL [37] [.sl 2 3 (e.2.2.2.2.2.2.1.1) (e.2.2.2.2.2.2.1.2) (e.2.2.2.2.2.1)]++zipL [0,1,2,3] (za.D.flat j.1.1 j.1.2.1 (e.2.2.2.2.2.2.2))⟩
def ft (k:Nat)(i:Ins qm):Nat->(jc i).X->(jc i).V->Option (jc i).W:=fun m_ (e:(List zp) × (Option Addr × Nat) × Nat × Int × Int × (List Int) × (Option Addr × Nat) × za) (v_:Int)=>ui (e.1) (e.2.2.2.1) (e.2.2.2.2.1) (e.2.2.2.2.2.1) (e.2.2.2.2.2.2.2) i.2.1.2.2 m_ v_
theorem BA (k:Nat)(i:Ins qm)(m:Nat):((jc i).at (ft k i) m).Sound pG 199 94 (BC k i) :=
  lsn mixed (jc i) (id:=4) (body:=nav [1,1,1,1,1,0,0,0,1,0,1,1,1,1,1,0,0,0] (yA pG 199)) (ft k i) (fun _=>none) (fun u=>u) (gj (gI 11) []) (gj (gI 11) []) (fun m=>(.join (Bool) 0 0 (gj (gB 83) []) (fun e t l j=>([(83,.bool t)]++kp [0,5,8,10,11] e,ka [36,44,37,0,1,2,3] e)) (.drw (.q [0,1,2,3,4] [] (.split 74 (.q [5,6] [] (.s (.idx false 36 (.tmp 76) 60) (.q [7,8,9,10,11,12,13] [.A 60,.X 60 36 1,.C 44 1] .leaf))) (.q [5,6,7,8,9,10,11,12,13] [] .leaf)))) (.cond (.blk (.g 3 .back)) .leaf))) m
def jd (j:Ins qm):BCon El (Int × za):=⟨nav [1,1,1,1,1,0] (yA pG 199),Unit,(List zp) × (List Int) × za,(List Int) × za,(List Int) × za,fun u=>.inr u,fun _ _=>none,fun t=>[(0,⟨2,j.2.1.1,j.2.1.2.1,j.2.1.2.2⟩)],fun t v_ i e=>[(0,.pointer (some ⟨j.1.1,0,none⟩)),(5,.slice (na e 0) v_.1.length (nn i 0)),(8,.slice (na e 1) v_.2.1.length (nn i 1))],fun t v_ i e=>zipL [36] [.sl 7 303 (na e 0) (nn i 0) v_.1]++zipL [37] [.sl 2 3 (na e 1) (nn i 1) v_.2.1]++zipL [0,1,2,3] (za.D.flat j.1.1 j.1.2.1 v_.2.2),1,1,fun t l i e=>[(0,.pointer (some ⟨j.1.1,0,none⟩)),(8,.slice (na e 0) l.1.length (nn i 0))],fun t l i e=>zipL [35] [.sl 2 3 (na e 0) (nn i 0) l.1]++zipL [0,1,2,3] (za.D.flat j.1.1 j.1.2.1 l.2)⟩
def fw (k:Nat)(e:Ins qm):Nat->(jd e).X->(jd e).V->Option (jd e).W:=fun m_ (i:Unit) (v_:(List zp) × (List Int) × za)=>wT e.2.1.2.2 m_ v_.1 v_.2.1 v_.2.2
theorem BB (k:Nat)(i:Ins qm)(m:Nat):((jd i).at (fw k i) m).Sound pG 199 94 (BC k i) :=
  lsn mixed (jd i) (id:=2) (body:=nav [1,1,1,1,1,0,0,0] (yA pG 199)) (fw k i) (fun _=>none) (fun u=>u) (gj (g2 (gL 7 36) (g2 (gL 2 37) (gO za.D [0,1,2,3]))) [nSk 36,nSk 37]) (gj (g2 (gL 2 35) (gO za.D [0,1,2,3])) [nSk 35]) (fun m=>(.g 3 (.cond (.blk (.g 1 (.s (.idx false 36 (.const (.i 0)) 42) (.s (.seg 2 [.A 42,.X 42 36 0,.X 42 36 1]) (.s (.new 39 []) (.s (.sto 39) (.join (Bool) 0 0 (gj (gB 46) []) (fun e l j t=>([(46,.bool l)]++kp [0,5,8,9] e,ka [39,36,37,0,1,2,3] e)) (.drw (.q [0,1,2,3] [] (.split 38 (.q [4,5,6,7,8,9,10,11] [] .leaf) (.q [4] [] (.s (.idx false 36 (.const (.i 1)) 45) (.q [5,6,7,8,9,10,11] [.A 45,.X 45 36 1,.C 39 1] .leaf)))))) (.cond (.drw (.q [0,1,2,5] [.C 39 0] (.s (.cut false 36 (some (.const (.i 1))) none 1047) (.q [6] [.W 1047] (.a 3 (.bld 41 2 3) [.W 1047] (.a 4 (.app 37 (.O 41)) [.W 1047] (.q [7,8] [] (.s (.own 1047 36) .back)))))))) (.jg (zp × za) 1 0 (gj (g2 (gC 44 0 2 zp.dec) (gO za.D [0,1,2,3])) [nPk 44]) (fun e l j t=>match (g2 (gP 0) (gA za.D [0,1,2,3])) e with|some x=>([(10,.pointer (some ⟨(nn j 0),0,none⟩))]++kp [0,5,8] e,ka [36,37] e++zipL [44] [.blk (nn j 0) 303 [.i l.1.n,.i l.1.rank]]++zipL [0,1,2,3] (za.D.flat (x.1) (x.2) l.2))|none=>([],[])) (.drw (.q [0,1,2,3] [.C 39 0] (.s (.idx false 36 (.const (.i 1)) 50) (.q [4,5,6,7,8,10,11,12] [.A 50,.X 50 36 0,.C 39 1,.C 39 1] (.alt2 9 (.call (K241 m) [.K 0,.K 1,.K 2,.K 3] [0,1,2,3]) [.C 39 1] (.q [13] [] (.a 14 (.new 45 []) [.C 39 1] (.a 15 (.sto 45) [] (.rk (rb 44 [45]) .leaf)))) 14 (.new 46 []) [.C 39 1,.C 39 1,.X 50 36 0,.A 50,.C 39 0] (.a 9 (.call (K241 m) [.K 0,.K 1,.K 2,.K 3] [0,1,2,3]) [.C 39 1] (.q [13] [] (.a 15 (.sto 46) [] (.rk (rb 44 [46]) .leaf))))))))) (.g 1 (.s (.cut false 36 (some (.const (.i 2))) none 1051) (.s (.seg 2 [.W 1051]) (.g 1 (.s (.own 1051 36) (.loop ⟨(jc i).at (ft k i) m,BA k i m⟩ (gl (g2 (gL 7 36) (g2 (gh 36) (g2 (gP 44) (g2 (gC 44 0 1 dI) (g2 (gC 44 1 1 dI) (g2 (gL 2 37) (g2 (gh 37) (gO za.D [0,1,2,3])))))))) (gI 11) []) (.s (.seg 3 [.C 44 0,.C 44 1]) (.s (.bld 47 7 303) (.s (.call K242 [.K 36,.K 47] [48]) (.g 1 (.rk (rb 36 [48]) .back)))))))))))))))))))) (.rk (rb 35 [37]) .leaf)))) m
theorem S199 (k:Nat):(C199 k).Sound pG :=
  fsn mixed (C199 k) (n:=94) (rs:=rsOf pG 199) [] [0,1,2,3] (gj (g2 (gI 4) (gO za.D [0,1,2,3])) []) (fun i=>(.g 1 (.g 1 (.g 3 (.s (.nil 10 7 303) (.rk (rb 9 [10]) (.loop ⟨(jb i).at (fq k i) k,Bz k i k⟩ (gl (gI 13) (g2 (gL 7 9) (g2 (gI 14) (gO za.D [0,1,2,3]))) [nSk 9]) (.g 1 (.s (.call (K239 k) [.K 8] [8]) (.s (.rlp 5 8) (.s (.rlp 27 8) (.g 1 (.s (.nil 38 2 3) (.rk (rb 36 [8,38]) (.loop ⟨(jd i).at (fw k i) k,BB k i k⟩ (gl gU (g2 (gL 7 36) (g2 (gL 2 37) (gO za.D [0,1,2,3]))) [nSk 36,nSk 37]) (.g 2 (.s (.call (K243 k) [.K 0,.K 1,.K 2,.K 3,.O 35] [0,1,2,3]) (.g 1 .ret)))))))))))))))))) Tryz.func199
def K199 (k:Nat):SCon El pG:=⟨C199 k,S199 k,Tryz.call199⟩
theorem oU {w0 w:World}{As:List HP}{k:Nat}{j:Nat}{e:za.A}{a_:za}{u:Option Addr}{x:Nat}{l:List Int}{y:HP}{t:Int × za}(hX_l:SlRd y ecI 1 u l)(hC_l:l.length<=x)(hm:vU k a_ l=some t)(H:St w0 (za.R j e a_::y::As) w) :
    ym pG 199 #[.pointer (some ⟨j,0,none⟩),.slice u l.length x] w fun v w'=>v = .i t.1/\St w0 (za.R j e t.2::y::As) w':=by
  replace H:=H.t1.t1;replace H:=(fs0 fun As=>za.D_st).1 H;refine (S199 k ((j,e,a_),(u,x,l),()) t hm w0 w (y::As) (rdc (rdH 2 (.head _) hX_l hC_l) rd0) H).mono ?_;rintro v w' ⟨D,z,hn,ha,hv,H,B⟩;obtain rfl:=ls0 hn;obtain rfl:=ls0 ha;refine⟨hv,?_⟩;refine (fs0 fun As=>za.D_st).2 ?_;exact H
def C137 (k:Nat):Con El:=zM 137 vi (fun e=>tG k e.1.2.2 e.2.1 e.2.2.1) 1 1 (fun e t l j=>.tuple #[.i t.1,.bool t.2.1]) (fun e t l j=>za.D.flat e.1.1 (za.A.mk e.1.2.1.l_b e.1.2.1.l_c (na j 0) (nn l 0) e.1.2.1.m__p) t.2.2)
theorem S137 (k:Nat):(C137 k).Sound pG :=
  fsn mixed (C137 k) (n:=29) (rs:=rsOf pG 137) [] [0,1,2,3] (gj (g2 (gI 6) (g2 (gB 7) (gO za.D [0,1,2,3]))) [nq_2]) (fun i=>(.g 2 (.g 2 (.tD (.g 2 (.s (.call K197 [.K 0,.K 1,.K 2,.K 3] [0,1,2,3]) (.g 5 (.g 2 (.cond (.g 3 .ret) (.g 2 (.s (.bld 4 2 3) (.g 2 (.s (.call (K200 k) [.K 0,.K 1,.K 2,.K 3] [5,0,1,2,3]) (.s (.app 4 (.O 5)) (.s (.call (K199 k) [.K 0,.K 1,.K 2,.K 3,.O 4] [0,1,2,3]) (.g 2 .ret)))))))))))))))) Tryz.func137
def K137 (k:Nat):SCon El pG:=⟨C137 k,S137 k,Tryz.call137⟩
def C245:Con El:=zM 245 vi (fun e=>qD e.1.2.2 e.2.1 e.2.2.1) 0 0 (fun e t j i=>.tuple #[]) (fun e t j i=>za.D.flat e.1.1 e.1.2.1 t)
theorem S245:(C245).Sound pG :=
  fsn mixed (C245) (n:=24) (rs:=rsOf pG 245) [] [0,1,2,3] (gj (gO za.D [0,1,2,3]) []) (fun i=>(.g 2 (.tD (.g 2 (.s (.call K206 [.K 0,.K 1,.K 2,.K 3] [0,1,2,3]) (.g 2 (.s (.call K206 [.K 0,.K 1,.K 2,.K 3] [0,1,2,3]) (.g 2 (.g 3 (.s (.call K236 [.K 0,.K 1,.K 2,.K 3] [0,1,2,3]) (.g 3 (.s (.call K236 [.K 0,.K 1,.K 2,.K 3] [0,1,2,3]) .leaf)))))))))))) Tryz.func245
def K245:SCon El pG:=⟨C245,S245,Tryz.call245⟩
def C201 (k:Nat):Con El:=zM 201 vi (fun e=>sv k e.1.2.2 e.2.1 e.2.2.1) 0 0 (fun e t l j=>.i t.1) (fun e t l j=>za.D.flat e.1.1 e.1.2.1 t.2)
theorem S201 (k:Nat):(C201 k).Sound pG :=
  fsn mixed (C201 k) (n:=61) (rs:=rsOf pG 201) [] [0,1,2,3] (gj (g2 (gI 6) (gO za.D [0,1,2,3])) []) (fun i=>(.g 1 (.g 1 (.g 2 (.join (Int × za) 0 0 (gj (g2 (gI 7) (gO za.D [0,1,2,3])) []) (fun e l u t=>match (g2 (gP 0) (gA za.D [0,1,2,3])) e with|some j=>([(7,.i l.1)]++kp [0,1,2] e,ka [] e++zipL [0,1,2,3] (za.D.flat (j.1) (j.2) l.2))|none=>([],[])) (.cond (.g 2 (.s (.call K206 [.K 0,.K 1,.K 2,.K 3] [0,1,2,3]) (.g 1 .leaf))) .leaf) (.g 2 (.s (.call K157 [.K 0,.K 1,.K 2,.K 3] [0,1,2,3]) (.g 1 (.join (Bool × za) 0 0 (gj (g2 (gB 27) (gO za.D [0,1,2,3])) []) (fun e l u t=>match (g2 (gP 0) (gA za.D [0,1,2,3])) e with|some j=>([(27,.bool l.1)]++kp [0,1,2,7,8] e,ka [] e++zipL [0,1,2,3] (za.D.flat (j.1) (j.2) l.2))|none=>([],[])) (.g 3 (.split 21 (.g 6 .leaf) (.g 2 (.s (.call K157 [.K 0,.K 1,.K 2,.K 3] [0,1,2,3]) (.g 3 .leaf))))) (.cond (.g 3 (.s (.call K135 [.K 0,.K 1,.K 2,.K 3] [0,1,2,3]) (.g 2 (.s (.call K135 [.K 0,.K 1,.K 2,.K 3] [0,1,2,3]) (.g 2 .ret))))) (.g 2 (.s (.call K206 [.K 0,.K 1,.K 2,.K 3] [0,1,2,3]) (.g 1 (.g 4 (.s (.call (K241 k) [.K 0,.K 1,.K 2,.K 3] [0,1,2,3]) (.g 1 (.g 3 (.s (.call (K220 k) [.K 0,.K 1,.K 2,.K 3] [0,1,2,3]) (.join (za) 0 0 (gj (gO za.D [0,1,2,3]) []) (fun e l u t=>match (g2 (gP 0) (gA za.D [0,1,2,3])) e with|some j=>([]++kp [0,2,9,10] e,ka [] e++zipL [0,1,2,3] (za.D.flat (j.1) (j.2) l))|none=>([],[])) (.cond (.g 3 (.s (.call K245 [.K 0,.K 1,.K 2,.K 3] [0,1,2,3]) .leaf)) .leaf) (.g 3 (.s (.call K246 [.K 0,.K 1,.K 2,.K 3] [0,1,2,3]) (.g 3 (.s (.call K135 [.K 0,.K 1,.K 2,.K 3] [0,1,2,3]) (.g 2 .ret)))))))))))))))))))))))) Tryz.func201
def K201 (k:Nat):SCon El pG:=⟨C201 k,S201 k,Tryz.call201⟩
theorem kQ {w0 w:World}{As:List HP}{k:Nat}{j:Nat}{e:za.A}{a_:za}{r:Int}{n:Int}{t:Int × za}  (hm:sv k a_ r n=some t)(H:St w0 (za.R j e a_::As) w) :
    ym pG 201 #[.pointer (some ⟨j,0,none⟩),.i r,.i n] w fun v w'=>v = .i t.1/\St w0 (za.R j e t.2::As) w':=by
  replace H:=(fs0 fun As=>za.D_st).1 H;refine (S201 k ((j,e,a_),r,n,()) t hm w0 w (As) rd0 H).mono ?_;rintro v w' ⟨x,l,hn,ha,hv,H,u⟩;obtain rfl:=ls0 hn;obtain rfl:=ls0 ha;refine⟨hv,?_⟩;refine (fs0 fun As=>za.D_st).2 ?_;exact H
def C138 (k:Nat):Con El:=zM 138 vi (fun e=>og k e.1.2.2 e.2.1 e.2.2.1) 1 1 (fun e t l j=>.tuple #[.i t.1,.bool t.2.1]) (fun e t l j=>za.D.flat e.1.1 (za.A.mk e.1.2.1.l_b e.1.2.1.l_c (na j 0) (nn l 0) e.1.2.1.m__p) t.2.2)
theorem S138 (k:Nat):(C138 k).Sound pG :=
  fsn mixed (C138 k) (n:=25) (rs:=rsOf pG 138) [] [0,1,2,3] (gj (g2 (gI 6) (g2 (gB 7) (gO za.D [0,1,2,3]))) [nq_2]) (fun i=>(.g 2 (.g 2 (.tD (.g 2 (.s (.call K197 [.K 0,.K 1,.K 2,.K 3] [0,1,2,3]) (.g 5 (.g 2 (.cond (.g 3 .ret) (.g 3 (.s (.call (K201 k) [.K 0,.K 1,.K 2,.K 3] [0,1,2,3]) (.g 2 .ret)))))))))))) Tryz.func138
def K138 (k:Nat):SCon El pG:=⟨C138 k,S138 k,Tryz.call138⟩
def C139:Con El:=zM 139 vi (fun e=>eQ e.1.2.2 e.2.1 e.2.2.1) 0 0 (fun e t l j=>.tuple #[.i t.1,.bool t.2]) (fun e t l j=>za.D.flat e.1.1 e.1.2.1 e.1.2.2)
theorem S139:(C139).Sound pG:=wU _ fun _=>rfl
def K139:SCon El pG:=⟨C139,S139,Tryz.call139⟩
def C140:Con El:=zM 140 vi (fun e=>lh e.1.2.2 e.2.1 e.2.2.1) 0 0 (fun e t l j=>.tuple #[.i t.1,.bool t.2]) (fun e t l j=>za.D.flat e.1.1 e.1.2.1 e.1.2.2)
theorem S140:(C140).Sound pG:=wU _ fun _=>rfl
def K140:SCon El pG:=⟨C140,S140,Tryz.call140⟩
abbrev aR:List (PK El):=[pI .i64,pO za.D,pI .i64,pI .i64]
def C103 (k:Nat):Con El:=zM 103 aR (fun e=>nO k e.1 e.2.1.2.2 e.2.2.1 e.2.2.2.1) 1 1 (fun e t l j=>.tuple #[.i t.1,.bool t.2.1]) (fun e t l j=>za.D.flat e.2.1.1 (za.A.mk e.2.1.2.1.l_b e.2.1.2.1.l_c (na j 0) (nn l 0) e.2.1.2.1.m__p) t.2.2)
theorem S103 (k:Nat):(C103 k).Sound pG :=
  fsn mixed (C103 k) (n:=52) (rs:=rsOf pG 103) [] [0,1,2,3] (gj (g2 (gI 8) (g2 (gB 9) (gO za.D [0,1,2,3]))) [nq_2]) (fun i=>(.g 2 (.g 1 (.blk (.g 2 (.cond (.g 3 (.s (.call (K136 k) [.K 0,.K 1,.K 2,.K 3] [0,1,2,3]) (.g 4 .ret))) (.g 2 (.cond (.g 3 (.s (.call (K137 k) [.K 0,.K 1,.K 2,.K 3] [0,1,2,3]) (.g 4 .ret))) (.g 2 (.cond (.g 3 (.s (.call (K138 k) [.K 0,.K 1,.K 2,.K 3] [0,1,2,3]) (.g 4 .ret))) (.g 2 (.cond (.g 3 (.s (.call K139 [.K 0,.K 1,.K 2,.K 3] [0,1,2,3]) (.g 4 .ret))) (.g 2 (.cond (.g 3 (.s (.call K140 [.K 0,.K 1,.K 2,.K 3] [0,1,2,3]) (.g 4 .ret))) (.g 3 .ret))))))))))))))) Tryz.func103
def K103 (k:Nat):SCon El pG:=⟨C103 k,S103 k,Tryz.call103⟩
def C141:Con El:=zM 141 fj (fun e=>wQ e.1.2.2) 0 0 (fun e t l j=>.i t) (fun e t l j=>ze.D.flat e.1.1 e.1.2.1 e.1.2.2)
theorem S141:(C141).Sound pG :=
  fsn mixed (C141) (n:=7) (rs:=rsOf pG 141) [] [0,1,2] (gj (gI 2) []) (fun i=>(.g 1 (.s (.seg 5 [.C 0 0]) .ret))) Tryz.func141
def K141:SCon El pG:=⟨C141,S141,Tryz.call141⟩
abbrev DK:List (PK El):=[pO ze.D,pV zD.dv zD.val]
def C142:Con El:=zM 142 DK (fun l=>yI l.1.2.2 l.2.1) 2 2 (fun l t j e=>.tuple #[.agg #[.i t.1.At,.i t.1.Gen],.bool t.2.1]) (fun l t j e=>ze.D.flat l.1.1 (ze.A.mk (na e 0) (nn j 0) (na e 1) (nn j 1)) t.2.2)
abbrev nq_3:Nx El:=nA ze.D [0,1,2] (fun e=>([e.l_c,e.free_c],[e.l_b,e.free_b]))
theorem S142:(C142).Sound pG :=
  fsn mixed (C142) (n:=81) (rs:=rsOf pG 142) [.C 2000 0,.C 2000 1] [0,1,2] (gj (g2 (gC 2000 0 2 zd.dec) (g2 (gB 5) (gO ze.D [0,1,2]))) [nq_3]) (fun i=>(.s (.new 3 []) (.s (.new 4 []) (.g 1 (.s (.seg 6 [.C 0 1]) (.s (.seg 7 [.C 0 2]) (.g 2 (.joinR (Int × ze) 2 2 (gj (g2 (gI 6) (gO ze.D [0,1,2])) [nq_3]) (fun e t l j=>match (gP 0) e with|some u=>([(6,.i t.1)]++kp [0,3,4] e,ka [4,3] e++zipL [0,1,2] (ze.D.flat (u) (ze.A.mk (na j 0) (nn l 0) (na j 1) (nn l 1)) t.2))|none=>([],[])) (.cond (.s (.seg 5 [.C 0 2]) (.s (.idx false 2 (.tmp 26) 2) (.s (.seg 3 [.A 2,.X 2 2 0]) (.s (.seg 6 [.C 0 2]) (.s (.cut false 2 none (some (.tmp 34)) 1003) (.s (.seg 3 [.W 1003]) (.s (.sto 0) (.s (.own 1003 2) .leaf)))))))) (.s (.seg 6 [.C 0 0]) (.cond (.g 1 (.s (.sto 4) (.g 1 (.rk (rb 2000 [4]) .ret)))) (.s (.seg 6 [.C 0 1]) (.s (.bld 6 5 284) (.s (.app 1 (.O 6)) (.g 2 (.s (.sto 0) .leaf)))))))) (.s (.seg 5 [.C 0 1]) (.s (.idx false 1 (.tmp 59) 4) (.s (.seg 2 [.A 4]) (.s (.seg 7 [.X 4 1 0]) (.s (.sset 1 4 0) (.s (.rlc 4 0 1) (.drw (.q [0,1,2,3,4] [.C 3 0,.C 3 1,.C 3 2] (.a 5 (.sset 1 4 1) [.C 3 0,.C 3 1,.C 3 2] (.s (.rlc 4 0 1) (.q [6,7] [] (.a 8 (.sset 1 4 2) [] (.s (.rlc 4 0 1) (.s (.seg 6 [.X 4 1 0]) (.s (.sto 4) (.g 1 (.rk (rb 2000 [4]) .ret))))))))))))))))))))))))) Tryz.func142
def K142:SCon El pG:=⟨C142,S142,Tryz.call142⟩
abbrev DC:List (PK El):=[pO zm.D,pV zd.dv zd.val,pI .i64]
def C104:Con El:=zM 104 DC (fun e=>tQ e.1.2.2 e.2.1 e.2.2.1) 2 2 (fun e t l j=>.tuple #[.agg #[.i t.1.At,.i t.1.Gen],.i t.2.1]) (fun e t l j=>zm.D.flat e.1.1 (zm.A.mk e.1.2.1.heaps_p e.1.2.1.heaps_a e.1.2.1.items_p (ze.A.mk (na j 0) (nn l 0) (na j 1) (nn l 1)) e.1.2.1.at__p) t.2.2)
abbrev nq_4:Nx El:=nA zm.D rg_7 (fun e=>([e.items_a.l_c,e.items_a.free_c],[e.items_a.l_b,e.items_a.free_b]))
theorem S104:(C104).Sound pG :=
  fsn mixed (C104) (n:=70) (rs:=rsOf pG 104) [.C 2000 0,.C 2000 1] rg_7 (gj (g2 (gC 2000 0 2 zd.dec) (g2 (gI 7) (gO zm.D rg_7))) [nq_4]) (fun i=>(.s (.new 8 []) (.s (.new 9 []) (.g 1 (.jg (Int) 0 0 (gj (gI 9) []) (fun e t j l=>([(9,.i t)]++kp [0,2,4,6] e,ka [9,8,0,1,2,3,4,5,6,7] e)) (.drw (.q [0,1,2,3,4] [.C 0 0,.C 8 0,.C 8 1] (.alt2 5 (.call K117 [.K 1,.K 2,.K 3] [1,2,3]) [] (.q [6,7,8] [] (.a 9 (.new 11 []) [] (.a 10 (.sto 11) [] (.q [11] [] .leaf)))) 9 (.new 12 []) [.C 8 0,.C 8 1,.C 0 0] (.a 5 (.call K117 [.K 1,.K 2,.K 3] [1,2,3]) [] (.q [6,7,8] [] (.a 10 (.sto 12) [] (.q [11] [] .leaf))))))) (.g 2 (.cond (.g 2 (.s (.sto 9) (.g 1 (.rk (rb 2000 [9]) .ret)))) (.s (.seg 5 [.C 0 2]) (.s (.mget 7 0 3 (qv.int rfl) (zd.mk 0 0)) (.g 3 (.s (.new 13 []) (.s (.sto 13) (.g 1 (.blk (.drw (.q [0,1,2,3,5,6,7,8] [.C 0 1,.C 0 1] (.a 4 (.call K133 [.K 4,.K 5,.K 6] [4,5,6]) [.C 0 1] (.a 9 (.call K141 [.K 4,.K 5,.K 6] [4,5,6]) [] (.q [10,11] [] (.cond (.g 1 (.s (.sto 9) (.g 1 (.rk (rb 2000 [9]) .ret)))) (.g 2 (.cond (.g 1 (.s (.sto 9) (.g 1 (.rk (rb 2000 [9]) .ret)))) (.jg (zd × zm) 3 2 (gj (g2 (gC 16 0 2 zd.dec) (gO zm.D rg_7)) [nPk 16,nq_4]) (fun e t j l=>match (g2 (gP 0) (gA zm.D rg_7)) e with|some u=>([(12,.pointer (some ⟨(nn j 0),0,none⟩))]++kp [0,2,6] e,ka [9] e++zipL [16] [.blk (nn j 0) 44 [.i t.1.At,.i t.1.Gen]]++zipL rg_7 (zm.D.flat (u.1) (zm.A.mk (u.2.heaps_p) (u.2.heaps_a) (u.2.items_p) (ze.A.mk (na l 0) (nn j 1) (na l 1) (nn j 2)) (u.2.at__p)) t.2))|none=>([],[])) (.drw (.q rg_6 [.C 0 1,.C 8 0,.C 8 1] (.alt2 7 (.call K142 [.K 4,.K 5,.K 6] [4,5,6]) [] (.q [8,9,10] [] (.a 11 (.new 17 []) [] (.a 12 (.sto 17) [] (.q [13] [] (.rk (rb 16 [17]) .leaf))))) 11 (.new 18 []) [.C 8 0,.C 8 1,.C 0 1] (.a 7 (.call K142 [.K 4,.K 5,.K 6] [4,5,6]) [] (.q [8,9,10] [] (.a 12 (.sto 18) [] (.q [13] [] (.rk (rb 16 [18]) .leaf)))))))) (.drw (.q [0,1,2,3,4,5] [.C 0 2,.C 16 0,.C 16 1] (.a 6 (.mput 7 0 3 (qv.int rfl)) [] (.s (.seg 1 [.C 16 0,.C 16 1]) (.s (.sto 9) (.g 1 (.rk (rb 2000 [9]) .ret)))))))))))))))))))))))))))))) Tryz.func104
def K104:SCon El pG:=⟨C104,S104,Tryz.call104⟩
abbrev DL:List (PK El):=[pO zi.D,pV zd.dv zd.val,pV zG.dv zG.val]
def C143:Con El:=zM 143 DL (fun e=>xJ e.1.2.2 e.2.1 e.2.2.1) 0 0 (fun e t l j=>.i t.1) (fun e t l j=>zi.D.flat e.1.1 e.1.2.1 t.2)
theorem S143:(C143).Sound pG :=
  fsn mixed (C143) (n:=22) (rs:=rsOf pG 143) [] [0,1,2] (gj (g2 (gI 6) (gO zi.D [0,1,2])) []) (fun i=>(.s (.new 3 []) (.s (.new 4 []) (.g 1 (.s (.seg 2 [.C 3 0,.C 3 1]) (.s (.call K175 [.K 0,.K 1,.K 2] [0,1,2]) (.eo 12 0 1 0 (.g 5 (.g 2 (.join (Unit) 0 0 (gj gU []) (fun e t l j=>([]++kp [8] e,ka [0,1,2] e)) (.cond .dead .leaf) (.g 2 .ret)))) (.g 5 (.g 2 (.join (zi) 0 0 (gj (gO zi.D [0,1,2]) []) (fun e t l j=>match (g2 (gP 0) (gA zi.D [0,1,2])) e with|some u=>([]++kp [8] e,ka [] e++zipL [0,1,2] (zi.D.flat (u.1) (u.2) t))|none=>([],[])) (.cond (.s (.seg 4 [.C 4 0,.C 4 1,.C 4 2]) (.s (.sset 1 0 2) (.s (.rlc 0 0 1) .leaf))) .leaf) (.g 2 .ret))))))))))) Tryz.func143
def K143:SCon El pG:=⟨C143,S143,Tryz.call143⟩
abbrev DD:List (PK El):=[pO zm.D,pV zd.dv zd.val,pI .i64,pI .i64]
def C105:Con El:=zM 105 DD (fun e=>xF e.1.2.2 e.2.1 e.2.2.1 e.2.2.2.1) 0 0 (fun e t l j=>.i t.1) (fun e t l j=>zm.D.flat e.1.1 e.1.2.1 t.2)
theorem S105:(C105).Sound pG :=
  fsn mixed (C105) (n:=34) (rs:=rsOf pG 105) [] rg_7 (gj (g2 (gI 8) (gO zm.D rg_7)) []) (fun i=>(.s (.new 8 []) (.g 1 (.jg (zG × Int) 1 0 (gj (g2 (gC 11 0 3 zG.dec) (gI 10)) [nPk 11]) (fun e l j t=>([(9,.pointer (some ⟨(nn j 0),0,none⟩)),(10,.i l.2)]++kp [0,2,3,5] e,ka [8,0,1,2,3,4,5,6,7] e++zipL [11] [.blk (nn j 0) 195 [.i l.1.kind,.i l.1.root,.i l.1.n]])) (.drw (.q [0,1,2,3,4] [.C 0 0,.C 8 0,.C 8 1] (.alt2 5 (.call K117 [.K 1,.K 2,.K 3] [1,2,3]) [] (.q [6,7,8] [] (.a 9 (.new 12 []) [] (.a 10 (.sto 12) [] (.q [11] [] (.rk (rb 11 [12]) .leaf))))) 9 (.new 13 []) [.C 8 0,.C 8 1,.C 0 0] (.a 5 (.call K117 [.K 1,.K 2,.K 3] [1,2,3]) [] (.q [6,7,8] [] (.a 10 (.sto 13) [] (.q [11] [] (.rk (rb 11 [13]) .leaf)))))))) (.g 2 (.join (zm) 0 0 (gj (gO zm.D rg_7) []) (fun e l j t=>match (g2 (gP 0) (gA zm.D rg_7)) e with|some u=>([]++kp [10] e,ka [] e++zipL rg_7 (zm.D.flat (u.1) (u.2) l))|none=>([],[])) (.cond (.g 3 (.s (.sto 11) (.g 1 (.s (.sto 11) (.drw (.q [0,1,2,3,4,5] [.C 0 0,.C 8 0,.C 8 1,.C 11 0,.C 11 1,.C 11 2] (.a 6 (.call K143 [.K 1,.K 2,.K 3] [1,2,3]) [] .leaf))))))) .leaf) (.g 2 .ret))))))) Tryz.func105
def K105:SCon El pG:=⟨C105,S105,Tryz.call105⟩
abbrev C68p:List (PK El):=[pO zr.D,pV yk.dv yk.val]
def C68 (k:Nat):Con El:=zM 68 C68p (fun l=>uY k l.1.2.2 l.2.1) 10 6 (fun l t e j=>.agg #[.i t.1.Why,.i t.1.Heap.At,.i t.1.Heap.Gen,.i t.1.Item.At,.i t.1.Item.Gen,.i t.1.Entry.Key,.i t.1.Entry.Serial,.i t.1.N]) (fun l t e j=>zr.D.flat l.1.1 (zr.A.mk l.1.2.1.a__p (za.A.mk (na j 0) (nn e 0) (na j 1) (nn e 1) (nn e 2)) l.1.2.1.t__p (zm.A.mk (nn e 3) (zi.A.mk (na j 2) (nn e 4) (na j 3) (nn e 5)) (nn e 6) (ze.A.mk (na j 4) (nn e 7) (na j 5) (nn e 8)) (nn e 9)) l.1.2.1.entries_p) t.2)
end Go.Proofs.YtcepppmiplonfaaGreat
end
