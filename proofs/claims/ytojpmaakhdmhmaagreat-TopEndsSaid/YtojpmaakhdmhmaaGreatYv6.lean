/-
  The statements TopEnds, TopClock of the program.
  Text 6 of 8: of what the proof needs (a row of the program: no condition is left); put together and made narrow by a program.
-/
import Derived.Test.YtojpmaakhdmhmaaGreatProg
import Derived.Test.YtojpmaakhdmhmaaGreatYv5
set_option linter.unusedVariables false
set_option linter.unusedSimpArgs false
noncomputable section
abbrev Go.Value.i (x:Int):Go.Value:=.int .i64 x
namespace Go.Th
abbrev ks_4:List ASrc:=[.K 0,.K 1,.K 2,.K 3,.K 4]
abbrev pe:List ASrc:=[.K 0,.K 1,.K 2,.K 3,.K 4,.K 5,.K 6,.K 7,.K 8,.K 9,.K 10,.K 11,.K 12,.K 13]
abbrev vR:List ASrc:=[.K 0,.K 1,.K 2,.K 3,.K 4,.K 5,.K 6,.K 7,.K 8,.K 9,.K 10,.K 11,.K 12,.K 13,.K 14,.K 15,.K 16,.K 17,.K 18,.K 19,.K 20,.K 21]
abbrev ks_6:List ASrc:=[.K 0,.K 1,.K 2,.K 3,.K 4,.K 5,.K 6]
end Go.Th
set_option maxRecDepth 10000
set_option maxHeartbeats 4000000
namespace Go.Proofs.YtojpmaakhdmhmaaGreat
open Go.Th
abbrev pG:=Tryz.prog
theorem mixed:pG.follows .mixedOrders=true:=by kernel_rfl
theorem zs.gp {x:zs}{i v:Int}(h:zs.rH x i=some v):(zs.enc x)[i.toNat*1]? = some (.i v):=by
  by_cases h0:i=0
  · subst h0;simp[zs.rH] at h;subst h;rfl
  by_cases h1:i=1
  · subst h1;simp[zs.rH] at h;subst h;rfl
  by_cases h2:i=2
  · subst h2;simp[zs.rH] at h;subst h;rfl
  by_cases h3:i=3
  · subst h3;simp[zs.rH] at h;subst h;rfl
  by_cases h4:i=4
  · subst h4;simp[zs.rH] at h;subst h;rfl
  by_cases e:i=5
  · subst e;simp[zs.rH] at h;subst h;rfl
  by_cases j:i=6
  · subst j;simp[zs.rH] at h;subst h;rfl
  by_cases l:i=7
  · subst l;simp[zs.rH] at h;subst h;rfl
  by_cases t:i=8
  · subst t;simp[zs.rH] at h;subst h;rfl
  by_cases u:i=9
  · subst u;simp[zs.rH] at h;subst h;rfl
  · simp[zs.rH,h0,h1,h2,h3,h4,e,j,l,t,u] at h
theorem zs.gR {x y:zs}{i v:Int}(h:zs.qJ x i v=some y):zs.enc y=putAt (zs.enc x) (i.toNat*1) [.i v]:=by
  by_cases h0:i=0
  · subst h0;simp[zs.qJ] at h;subst h;rfl
  by_cases h1:i=1
  · subst h1;simp[zs.qJ] at h;subst h;rfl
  by_cases h2:i=2
  · subst h2;simp[zs.qJ] at h;subst h;rfl
  by_cases h3:i=3
  · subst h3;simp[zs.qJ] at h;subst h;rfl
  by_cases h4:i=4
  · subst h4;simp[zs.qJ] at h;subst h;rfl
  by_cases e:i=5
  · subst e;simp[zs.qJ] at h;subst h;rfl
  by_cases j:i=6
  · subst j;simp[zs.qJ] at h;subst h;rfl
  by_cases l:i=7
  · subst l;simp[zs.qJ] at h;subst h;rfl
  by_cases t:i=8
  · subst t;simp[zs.qJ] at h;subst h;rfl
  by_cases u:i=9
  · subst u;simp[zs.qJ] at h;subst h;rfl
  · simp[zs.qJ,h0,h1,h2,h3,h4,e,j,l,t,u] at h
theorem ze.gn (w:World)(d:Nat)(x y:ze):(Op.equalIn (d+2) 33 (.agg #[.i x.At,.i x.Gen]) (.agg #[.i y.At,.i y.Gen])).run pG w = .ok (ze.eq x y) w :=
  jx (d+1) rfl (by kernel_rfl) (tA (a:=.i x.At) (b:=.i y.At) rfl rfl (by kernel_rfl) (by kernel_rfl) (run_equalIn_int w _ _ _ _ _ _ rfl) (tA (a:=.i x.Gen) (b:=.i y.Gen) rfl rfl (by kernel_rfl) (by kernel_rfl) (run_equalIn_int w _ _ _ _ _ _ rfl) (jw rfl)))
theorem ze.mK (x y:ze):mw pG 33 #[.i x.At,.i x.Gen] #[.i y.At,.i y.Gen] (ze.eq x y):=fun w=>ze.gn w 9998 x y
theorem ze.vW:sM pG 33 ze.val ze.eq :=
  sM.struct (fs:=pG.fieldsOf 33) rfl (fun w em x=>qI 9999 (fs:=pG.fieldsOf 33) rfl w em (fN (v:=.i x.At) rfl rfl (by kernel_rfl) (rG 9998 rfl _ _ _) (fN (v:=.i x.Gen) rfl rfl (by kernel_rfl) (rG 9998 rfl _ _ _) (Ac rfl)))) (fun w x y=>ze.mK x y w) (fun x=>by simp[ze.val,Instr.sameBits]) (fun x y h=>by cases x;cases y;simpa[ze.eq] using h)
theorem zr.gn (w:World)(d:Nat)(x y:zr):(Op.equalIn (d+3) 35 (.agg #[.i x.Why,.i x.Job.At,.i x.Job.Gen,.i x.Time,.i x.Data,.i x.N]) (.agg #[.i y.Why,.i y.Job.At,.i y.Job.Gen,.i y.Time,.i y.Data,.i y.N])).run pG w = .ok (zr.eq x y) w :=
  jx (d+2) rfl (by kernel_rfl) (tA (a:=.i x.Why) (b:=.i y.Why) rfl rfl (by kernel_rfl) (by kernel_rfl) (run_equalIn_int w _ _ _ _ _ _ rfl) (tA (a:=.agg #[.i x.Job.At,.i x.Job.Gen]) (b:=.agg #[.i y.Job.At,.i y.Job.Gen]) rfl rfl (by kernel_rfl) (by kernel_rfl) (ze.gn w d x.Job y.Job) (tA (a:=.i x.Time) (b:=.i y.Time) rfl rfl (by kernel_rfl) (by kernel_rfl) (run_equalIn_int w _ _ _ _ _ _ rfl) (tA (a:=.i x.Data) (b:=.i y.Data) rfl rfl (by kernel_rfl) (by kernel_rfl) (run_equalIn_int w _ _ _ _ _ _ rfl) (tA (a:=.i x.N) (b:=.i y.N) rfl rfl (by kernel_rfl) (by kernel_rfl) (run_equalIn_int w _ _ _ _ _ _ rfl) (jw rfl))))))
theorem zr.mK (x y:zr):mw pG 35 #[.i x.Why,.i x.Job.At,.i x.Job.Gen,.i x.Time,.i x.Data,.i x.N] #[.i y.Why,.i y.Job.At,.i y.Job.Gen,.i y.Time,.i y.Data,.i y.N] (zr.eq x y):=fun w=>zr.gn w 9997 x y
theorem zi.gn (w:World)(d:Nat)(x y:zi):(Op.equalIn (d+2) 42 (.agg #[.i x.Key,.i x.Serial]) (.agg #[.i y.Key,.i y.Serial])).run pG w = .ok (zi.eq x y) w :=
  jx (d+1) rfl (by kernel_rfl) (tA (a:=.i x.Key) (b:=.i y.Key) rfl rfl (by kernel_rfl) (by kernel_rfl) (run_equalIn_int w _ _ _ _ _ _ rfl) (tA (a:=.i x.Serial) (b:=.i y.Serial) rfl rfl (by kernel_rfl) (by kernel_rfl) (run_equalIn_int w _ _ _ _ _ _ rfl) (jw rfl)))
theorem zi.mK (x y:zi):mw pG 42 #[.i x.Key,.i x.Serial] #[.i y.Key,.i y.Serial] (zi.eq x y):=fun w=>zi.gn w 9998 x y
structure zb.A where
  l_b:Option Addr
  l_c:Nat
  free_b:Option Addr
  free_c:Nat
  m__p:Nat
instance:Inhabited zb.A:=⟨zb.A.mk default default default default default⟩
structure zg.A where
  l_b:Option Addr
  l_c:Nat
  free_b:Option Addr
  free_c:Nat
instance:Inhabited zg.A:=⟨zg.A.mk default default default default⟩
structure zd.A where
  l_b:Option Addr
  l_c:Nat
  free_b:Option Addr
  free_c:Nat
instance:Inhabited zd.A:=⟨zd.A.mk default default default default⟩
structure zj.A where
  heaps_p:Nat
  heaps_a:zg.A
  items_p:Nat
  items_a:zd.A
  at__p:Nat
instance:Inhabited zj.A:=⟨zj.A.mk default default default default default⟩
structure zo.A where
  a__p:Nat
  a__a:zb.A
  t__p:Nat
  t__a:zj.A
  entries_p:Nat
instance:Inhabited zo.A:=⟨zo.A.mk default default default default default⟩
structure zf.A where
  l_b:Option Addr
  l_c:Nat
  free_b:Option Addr
  free_c:Nat
instance:Inhabited zf.A:=⟨zf.A.mk default default default default⟩
structure zn.A where
  p_p:Nat
  p_a:zf.A
  by__p:Nat
instance:Inhabited zn.A:=⟨zn.A.mk default default default⟩
structure za.A where
  q_p:Nat
  q_a:zo.A
  t__p:Nat
  t__a:zn.A
  when_p:Nat
  clock_p:Nat
instance:Inhabited za.A:=⟨za.A.mk default default default default default default⟩
structure zk.A where
  Gens_b:Option Addr
  Gens_c:Nat
  In_b:Option Addr
  In_c:Nat
  V_b:Option Addr
  V_c:Nat
  Back_b:Option Addr
  Back_c:Nat
instance:Inhabited zk.A:=⟨zk.A.mk default default default default default default default default⟩
structure zc.A where
  Pool_p:Nat
  Pool_a:zk.A
  L_b:Option Addr
  L_c:Nat
instance:Inhabited zc.A:=⟨zc.A.mk default default default default⟩
structure zh.A where
  L_b:Option Addr
  L_c:Nat
instance:Inhabited zh.A:=⟨zh.A.mk default default⟩
def zD.R (p:Nat)(m:zD):HP:=sepL [Blk p 155 [.i m.steps,.i m.begun,.i m.most]]
theorem zD.open {w0 w:World}{As:List HP}{p:Nat}{m:zD}(H:St w0 (zD.R p m::As) w):St w0 (Blk p 155 [.i m.steps,.i m.begun,.i m.most]::As) w:=St.flat H
theorem zD.shut {w0 w:World}{As:List HP}{p:Nat}(m:zD)(H:St w0 (Blk p 155 [.i m.steps,.i m.begun,.i m.most]::As) w):St w0 (zD.R p m::As) w:=St.group [Blk p 155 [.i m.steps,.i m.begun,.i m.most]] H
def zb.R (p:Nat)(e:zb.A)(m:zb):HP:=sepL [Blk p 153 [.slice e.l_b m.l.length e.l_c,.i m.never,.slice e.free_b m.free.length e.free_c,.pointer (some ⟨e.m__p,0,none⟩)],Sl 235 zs.enc 11 e.l_b e.l_c m.l,Sl 3 ecI 1 e.free_b e.free_c m.free,zD.R e.m__p m.m_]
theorem zb.open {w0 w:World}{As:List HP}{p:Nat}{e:zb.A}{m:zb}(H:St w0 (zb.R p e m::As) w):St w0 (Blk p 153 [.slice e.l_b m.l.length e.l_c,.i m.never,.slice e.free_b m.free.length e.free_c,.pointer (some ⟨e.m__p,0,none⟩)]::Sl 235 zs.enc 11 e.l_b e.l_c m.l::Sl 3 ecI 1 e.free_b e.free_c m.free::zD.R e.m__p m.m_::As) w:=St.flat H
theorem zb.shut {w0 w:World}{As:List HP}{p:Nat}(e:zb.A)(m:zb)(H:St w0 (Blk p 153 [.slice e.l_b m.l.length e.l_c,.i m.never,.slice e.free_b m.free.length e.free_c,.pointer (some ⟨e.m__p,0,none⟩)]::Sl 235 zs.enc 11 e.l_b e.l_c m.l::Sl 3 ecI 1 e.free_b e.free_c m.free::zD.R e.m__p m.m_::As) w):St w0 (zb.R p e m::As) w:=St.group [Blk p 153 [.slice e.l_b m.l.length e.l_c,.i m.never,.slice e.free_b m.free.length e.free_c,.pointer (some ⟨e.m__p,0,none⟩)],Sl 235 zs.enc 11 e.l_b e.l_c m.l,Sl 3 ecI 1 e.free_b e.free_c m.free,zD.R e.m__p m.m_] H
def zg.R (p:Nat)(e:zg.A)(m:zg):HP:=sepL [Blk p 208 [.i m.most,.slice e.l_b m.l.length e.l_c,.slice e.free_b m.free.length e.free_c],Sl 213 zu.enc 5 e.l_b e.l_c m.l,Sl 3 ecI 1 e.free_b e.free_c m.free]
theorem zg.open {w0 w:World}{As:List HP}{p:Nat}{e:zg.A}{m:zg}(H:St w0 (zg.R p e m::As) w):St w0 (Blk p 208 [.i m.most,.slice e.l_b m.l.length e.l_c,.slice e.free_b m.free.length e.free_c]::Sl 213 zu.enc 5 e.l_b e.l_c m.l::Sl 3 ecI 1 e.free_b e.free_c m.free::As) w:=St.flat H
theorem zg.shut {w0 w:World}{As:List HP}{p:Nat}(e:zg.A)(m:zg)(H:St w0 (Blk p 208 [.i m.most,.slice e.l_b m.l.length e.l_c,.slice e.free_b m.free.length e.free_c]::Sl 213 zu.enc 5 e.l_b e.l_c m.l::Sl 3 ecI 1 e.free_b e.free_c m.free::As) w):St w0 (zg.R p e m::As) w:=St.group [Blk p 208 [.i m.most,.slice e.l_b m.l.length e.l_c,.slice e.free_b m.free.length e.free_c],Sl 213 zu.enc 5 e.l_b e.l_c m.l,Sl 3 ecI 1 e.free_b e.free_c m.free] H
def zd.R (p:Nat)(e:zd.A)(m:zd):HP:=sepL [Blk p 211 [.i m.most,.slice e.l_b m.l.length e.l_c,.slice e.free_b m.free.length e.free_c],Sl 243 zp.enc 5 e.l_b e.l_c m.l,Sl 3 ecI 1 e.free_b e.free_c m.free]
theorem zd.open {w0 w:World}{As:List HP}{p:Nat}{e:zd.A}{m:zd}(H:St w0 (zd.R p e m::As) w):St w0 (Blk p 211 [.i m.most,.slice e.l_b m.l.length e.l_c,.slice e.free_b m.free.length e.free_c]::Sl 243 zp.enc 5 e.l_b e.l_c m.l::Sl 3 ecI 1 e.free_b e.free_c m.free::As) w:=St.flat H
theorem zd.shut {w0 w:World}{As:List HP}{p:Nat}(e:zd.A)(m:zd)(H:St w0 (Blk p 211 [.i m.most,.slice e.l_b m.l.length e.l_c,.slice e.free_b m.free.length e.free_c]::Sl 243 zp.enc 5 e.l_b e.l_c m.l::Sl 3 ecI 1 e.free_b e.free_c m.free::As) w):St w0 (zd.R p e m::As) w:=St.group [Blk p 211 [.i m.most,.slice e.l_b m.l.length e.l_c,.slice e.free_b m.free.length e.free_c],Sl 243 zp.enc 5 e.l_b e.l_c m.l,Sl 3 ecI 1 e.free_b e.free_c m.free] H
def zj.R (p:Nat)(e:zj.A)(m:zj):HP:=sepL [Blk p 182 [.pointer (some ⟨e.heaps_p,0,none⟩),.pointer (some ⟨e.items_p,0,none⟩),.map (some e.at__p)],zg.R e.heaps_p e.heaps_a m.heaps,zd.R e.items_p e.items_a m.items,MpA e.at__p vI ze.val m.at_]
theorem zj.open {w0 w:World}{As:List HP}{p:Nat}{e:zj.A}{m:zj}(H:St w0 (zj.R p e m::As) w):St w0 (Blk p 182 [.pointer (some ⟨e.heaps_p,0,none⟩),.pointer (some ⟨e.items_p,0,none⟩),.map (some e.at__p)]::zg.R e.heaps_p e.heaps_a m.heaps::zd.R e.items_p e.items_a m.items::MpA e.at__p vI ze.val m.at_::As) w:=St.flat H
theorem zj.shut {w0 w:World}{As:List HP}{p:Nat}(e:zj.A)(m:zj)(H:St w0 (Blk p 182 [.pointer (some ⟨e.heaps_p,0,none⟩),.pointer (some ⟨e.items_p,0,none⟩),.map (some e.at__p)]::zg.R e.heaps_p e.heaps_a m.heaps::zd.R e.items_p e.items_a m.items::MpA e.at__p vI ze.val m.at_::As) w):St w0 (zj.R p e m::As) w:=St.group [Blk p 182 [.pointer (some ⟨e.heaps_p,0,none⟩),.pointer (some ⟨e.items_p,0,none⟩),.map (some e.at__p)],zg.R e.heaps_p e.heaps_a m.heaps,zd.R e.items_p e.items_a m.items,MpA e.at__p vI ze.val m.at_] H
def zo.R (p:Nat)(e:zo.A)(m:zo):HP:=sepL [Blk p 116 [.i m.items,.pointer (some ⟨e.a__p,0,none⟩),.pointer (some ⟨e.t__p,0,none⟩),.map (some e.entries_p),.i m.serial],zb.R e.a__p e.a__a m.a_,zj.R e.t__p e.t__a m.t_,MpA e.entries_p ze.val zi.val m.entries]
theorem zo.open {w0 w:World}{As:List HP}{p:Nat}{e:zo.A}{m:zo}(H:St w0 (zo.R p e m::As) w):St w0 (Blk p 116 [.i m.items,.pointer (some ⟨e.a__p,0,none⟩),.pointer (some ⟨e.t__p,0,none⟩),.map (some e.entries_p),.i m.serial]::zb.R e.a__p e.a__a m.a_::zj.R e.t__p e.t__a m.t_::MpA e.entries_p ze.val zi.val m.entries::As) w:=St.flat H
theorem zo.shut {w0 w:World}{As:List HP}{p:Nat}(e:zo.A)(m:zo)(H:St w0 (Blk p 116 [.i m.items,.pointer (some ⟨e.a__p,0,none⟩),.pointer (some ⟨e.t__p,0,none⟩),.map (some e.entries_p),.i m.serial]::zb.R e.a__p e.a__a m.a_::zj.R e.t__p e.t__a m.t_::MpA e.entries_p ze.val zi.val m.entries::As) w):St w0 (zo.R p e m::As) w:=St.group [Blk p 116 [.i m.items,.pointer (some ⟨e.a__p,0,none⟩),.pointer (some ⟨e.t__p,0,none⟩),.map (some e.entries_p),.i m.serial],zb.R e.a__p e.a__a m.a_,zj.R e.t__p e.t__a m.t_,MpA e.entries_p ze.val zi.val m.entries] H
def zf.R (p:Nat)(e:zf.A)(m:zf):HP:=sepL [Blk p 163 [.i m.most,.slice e.l_b m.l.length e.l_c,.slice e.free_b m.free.length e.free_c],Sl 165 zq.enc 7 e.l_b e.l_c m.l,Sl 3 ecI 1 e.free_b e.free_c m.free]
theorem zf.open {w0 w:World}{As:List HP}{p:Nat}{e:zf.A}{m:zf}(H:St w0 (zf.R p e m::As) w):St w0 (Blk p 163 [.i m.most,.slice e.l_b m.l.length e.l_c,.slice e.free_b m.free.length e.free_c]::Sl 165 zq.enc 7 e.l_b e.l_c m.l::Sl 3 ecI 1 e.free_b e.free_c m.free::As) w:=St.flat H
theorem zf.shut {w0 w:World}{As:List HP}{p:Nat}(e:zf.A)(m:zf)(H:St w0 (Blk p 163 [.i m.most,.slice e.l_b m.l.length e.l_c,.slice e.free_b m.free.length e.free_c]::Sl 165 zq.enc 7 e.l_b e.l_c m.l::Sl 3 ecI 1 e.free_b e.free_c m.free::As) w):St w0 (zf.R p e m::As) w:=St.group [Blk p 163 [.i m.most,.slice e.l_b m.l.length e.l_c,.slice e.free_b m.free.length e.free_c],Sl 165 zq.enc 7 e.l_b e.l_c m.l,Sl 3 ecI 1 e.free_b e.free_c m.free] H
def zn.R (p:Nat)(e:zn.A)(m:zn):HP:=sepL [Blk p 125 [.pointer (some ⟨e.p_p,0,none⟩),.map (some e.by__p)],zf.R e.p_p e.p_a m.p,MpA e.by__p ze.val ze.val m.by_]
theorem zn.open {w0 w:World}{As:List HP}{p:Nat}{e:zn.A}{m:zn}(H:St w0 (zn.R p e m::As) w):St w0 (Blk p 125 [.pointer (some ⟨e.p_p,0,none⟩),.map (some e.by__p)]::zf.R e.p_p e.p_a m.p::MpA e.by__p ze.val ze.val m.by_::As) w:=St.flat H
theorem zn.shut {w0 w:World}{As:List HP}{p:Nat}(e:zn.A)(m:zn)(H:St w0 (Blk p 125 [.pointer (some ⟨e.p_p,0,none⟩),.map (some e.by__p)]::zf.R e.p_p e.p_a m.p::MpA e.by__p ze.val ze.val m.by_::As) w):St w0 (zn.R p e m::As) w:=St.group [Blk p 125 [.pointer (some ⟨e.p_p,0,none⟩),.map (some e.by__p)],zf.R e.p_p e.p_a m.p,MpA e.by__p ze.val ze.val m.by_] H
def zL.R (p:Nat)(m:zL):HP:=sepL [Blk p 128 [.i m.now]]
theorem zL.open {w0 w:World}{As:List HP}{p:Nat}{m:zL}(H:St w0 (zL.R p m::As) w):St w0 (Blk p 128 [.i m.now]::As) w:=St.flat H
theorem zL.shut {w0 w:World}{As:List HP}{p:Nat}(m:zL)(H:St w0 (Blk p 128 [.i m.now]::As) w):St w0 (zL.R p m::As) w:=St.group [Blk p 128 [.i m.now]] H
def za.R (p:Nat)(e:za.A)(m:za):HP:=sepL [Blk p 78 [.i m.kind,.i m.most,.pointer (some ⟨e.q_p,0,none⟩),.i m.heaps0.At,.i m.heaps0.Gen,.i m.heaps1.At,.i m.heaps1.Gen,.pointer (some ⟨e.t__p,0,none⟩),.map (some e.when_p),.pointer (some ⟨e.clock_p,0,none⟩),.i m.budget,.i m.last,.i m.top],zo.R e.q_p e.q_a m.q,zn.R e.t__p e.t__a m.t_,MpA e.when_p ze.val vI m.when,zL.R e.clock_p m.clock]
theorem za.open {w0 w:World}{As:List HP}{p:Nat}{e:za.A}{m:za}(H:St w0 (za.R p e m::As) w):St w0 (Blk p 78 [.i m.kind,.i m.most,.pointer (some ⟨e.q_p,0,none⟩),.i m.heaps0.At,.i m.heaps0.Gen,.i m.heaps1.At,.i m.heaps1.Gen,.pointer (some ⟨e.t__p,0,none⟩),.map (some e.when_p),.pointer (some ⟨e.clock_p,0,none⟩),.i m.budget,.i m.last,.i m.top]::zo.R e.q_p e.q_a m.q::zn.R e.t__p e.t__a m.t_::MpA e.when_p ze.val vI m.when::zL.R e.clock_p m.clock::As) w:=St.flat H
theorem za.shut {w0 w:World}{As:List HP}{p:Nat}(e:za.A)(m:za)(H:St w0 (Blk p 78 [.i m.kind,.i m.most,.pointer (some ⟨e.q_p,0,none⟩),.i m.heaps0.At,.i m.heaps0.Gen,.i m.heaps1.At,.i m.heaps1.Gen,.pointer (some ⟨e.t__p,0,none⟩),.map (some e.when_p),.pointer (some ⟨e.clock_p,0,none⟩),.i m.budget,.i m.last,.i m.top]::zo.R e.q_p e.q_a m.q::zn.R e.t__p e.t__a m.t_::MpA e.when_p ze.val vI m.when::zL.R e.clock_p m.clock::As) w):St w0 (za.R p e m::As) w:=St.group [Blk p 78 [.i m.kind,.i m.most,.pointer (some ⟨e.q_p,0,none⟩),.i m.heaps0.At,.i m.heaps0.Gen,.i m.heaps1.At,.i m.heaps1.Gen,.pointer (some ⟨e.t__p,0,none⟩),.map (some e.when_p),.pointer (some ⟨e.clock_p,0,none⟩),.i m.budget,.i m.last,.i m.top],zo.R e.q_p e.q_a m.q,zn.R e.t__p e.t__a m.t_,MpA e.when_p ze.val vI m.when,zL.R e.clock_p m.clock] H
def zk.R (p:Nat)(e:zk.A)(m:zk):HP:=sepL [Blk p 146 [.i m.Most,.slice e.Gens_b m.Gens.length e.Gens_c,.slice e.In_b m.In.length e.In_c,.slice e.V_b m.V.length e.V_c,.slice e.Back_b m.Back.length e.Back_c],Sl 3 ecI 1 e.Gens_b e.Gens_c m.Gens,Sl 4 ecB 1 e.In_b e.In_c m.In,Sl 2 ecI 1 e.V_b e.V_c m.V,Sl 3 ecI 1 e.Back_b e.Back_c m.Back]
theorem zk.open {w0 w:World}{As:List HP}{p:Nat}{e:zk.A}{m:zk}(H:St w0 (zk.R p e m::As) w):St w0 (Blk p 146 [.i m.Most,.slice e.Gens_b m.Gens.length e.Gens_c,.slice e.In_b m.In.length e.In_c,.slice e.V_b m.V.length e.V_c,.slice e.Back_b m.Back.length e.Back_c]::Sl 3 ecI 1 e.Gens_b e.Gens_c m.Gens::Sl 4 ecB 1 e.In_b e.In_c m.In::Sl 2 ecI 1 e.V_b e.V_c m.V::Sl 3 ecI 1 e.Back_b e.Back_c m.Back::As) w:=St.flat H
theorem zk.shut {w0 w:World}{As:List HP}{p:Nat}(e:zk.A)(m:zk)(H:St w0 (Blk p 146 [.i m.Most,.slice e.Gens_b m.Gens.length e.Gens_c,.slice e.In_b m.In.length e.In_c,.slice e.V_b m.V.length e.V_c,.slice e.Back_b m.Back.length e.Back_c]::Sl 3 ecI 1 e.Gens_b e.Gens_c m.Gens::Sl 4 ecB 1 e.In_b e.In_c m.In::Sl 2 ecI 1 e.V_b e.V_c m.V::Sl 3 ecI 1 e.Back_b e.Back_c m.Back::As) w):St w0 (zk.R p e m::As) w:=St.group [Blk p 146 [.i m.Most,.slice e.Gens_b m.Gens.length e.Gens_c,.slice e.In_b m.In.length e.In_c,.slice e.V_b m.V.length e.V_c,.slice e.Back_b m.Back.length e.Back_c],Sl 3 ecI 1 e.Gens_b e.Gens_c m.Gens,Sl 4 ecB 1 e.In_b e.In_c m.In,Sl 2 ecI 1 e.V_b e.V_c m.V,Sl 3 ecI 1 e.Back_b e.Back_c m.Back] H
def zc.R (p:Nat)(e:zc.A)(m:zc):HP:=sepL [Blk p 65 [.i m.Most,.i m.Now,.i m.Next,.pointer (some ⟨e.Pool_p,0,none⟩),.slice e.L_b m.L.length e.L_c],zk.R e.Pool_p e.Pool_a m.Pool,Sl 102 zC.enc 6 e.L_b e.L_c m.L]
theorem zc.open {w0 w:World}{As:List HP}{p:Nat}{e:zc.A}{m:zc}(H:St w0 (zc.R p e m::As) w):St w0 (Blk p 65 [.i m.Most,.i m.Now,.i m.Next,.pointer (some ⟨e.Pool_p,0,none⟩),.slice e.L_b m.L.length e.L_c]::zk.R e.Pool_p e.Pool_a m.Pool::Sl 102 zC.enc 6 e.L_b e.L_c m.L::As) w:=St.flat H
theorem zc.shut {w0 w:World}{As:List HP}{p:Nat}(e:zc.A)(m:zc)(H:St w0 (Blk p 65 [.i m.Most,.i m.Now,.i m.Next,.pointer (some ⟨e.Pool_p,0,none⟩),.slice e.L_b m.L.length e.L_c]::zk.R e.Pool_p e.Pool_a m.Pool::Sl 102 zC.enc 6 e.L_b e.L_c m.L::As) w):St w0 (zc.R p e m::As) w:=St.group [Blk p 65 [.i m.Most,.i m.Now,.i m.Next,.pointer (some ⟨e.Pool_p,0,none⟩),.slice e.L_b m.L.length e.L_c],zk.R e.Pool_p e.Pool_a m.Pool,Sl 102 zC.enc 6 e.L_b e.L_c m.L] H
def zh.R (p:Nat)(e:zh.A)(m:zh):HP:=sepL [Blk p 30 [.slice e.L_b m.L.length e.L_c],Sl 42 zi.enc 2 e.L_b e.L_c m.L]
theorem zh.open {w0 w:World}{As:List HP}{p:Nat}{e:zh.A}{m:zh}(H:St w0 (zh.R p e m::As) w):St w0 (Blk p 30 [.slice e.L_b m.L.length e.L_c]::Sl 42 zi.enc 2 e.L_b e.L_c m.L::As) w:=St.flat H
theorem zh.shut {w0 w:World}{As:List HP}{p:Nat}(e:zh.A)(m:zh)(H:St w0 (Blk p 30 [.slice e.L_b m.L.length e.L_c]::Sl 42 zi.enc 2 e.L_b e.L_c m.L::As) w):St w0 (zh.R p e m::As) w:=St.group [Blk p 30 [.slice e.L_b m.L.length e.L_c],Sl 42 zi.enc 2 e.L_b e.L_c m.L] H
def zY.dec (l:List Value):Option zY:=match l with
  | [.int _ x1,.int _ x2,.int _ x3,.int _ x4,.int _ x5,.int _ x6,.int _ x7,.int _ x8,.int _ x9]=>some (zY.mk x1 x2 (ze.mk x3 x4) (ze.mk x5 x6) (ze.mk x7 x8) x9)
  | _=>none
def zY.dv (v:Value):Option zY:=match v with
  | .agg cs=>zY.dec cs.toList
  | _=>none
def ze.dec (l:List Value):Option ze:=match l with
  | [.int _ x1,.int _ x2]=>some (ze.mk x1 x2)
  | _=>none
def ze.dv (v:Value):Option ze:=match v with
  | .agg cs=>ze.dec cs.toList
  | _=>none
def zB.dec (l:List Value):Option zB:=match l with
  | [.int _ x1,.int _ x2,.int _ x3]=>some (zB.mk x1 x2 x3)
  | _=>none
def zB.dv (v:Value):Option zB:=match v with
  | .agg cs=>zB.dec cs.toList
  | _=>none
def zJ.dec (l:List Value):Option zJ:=match l with
  | [.int _ x1,.int _ x2,.int _ x3,.int _ x4,.int _ x5,.int _ x6,.int _ x7,.int _ x8]=>some (zJ.mk x1 (ze.mk x2 x3) (ze.mk x4 x5) (zi.mk x6 x7) x8)
  | _=>none
def zJ.dv (v:Value):Option zJ:=match v with
  | .agg cs=>zJ.dec cs.toList
  | _=>none
def zs.dec (l:List Value):Option zs:=match l with
  | [.int _ x1,.int _ x2,.int _ x3,.int _ x4,.int _ x5,.int _ x6,.int _ x7,.int _ x8,.int _ x9,.int _ x10,.bool x11]=>some (zs.mk x1 x2 x3 x4 x5 x6 x7 x8 x9 x10 x11)
  | _=>none
def zs.dv (v:Value):Option zs:=match v with
  | .agg cs=>zs.dec cs.toList
  | _=>none
def zi.dec (l:List Value):Option zi:=match l with
  | [.int _ x1,.int _ x2]=>some (zi.mk x1 x2)
  | _=>none
def zi.dv (v:Value):Option zi:=match v with
  | .agg cs=>zi.dec cs.toList
  | _=>none
def zm.dec (l:List Value):Option zm:=match l with
  | [.int _ x1,.int _ x2]=>some (zm.mk x1 x2)
  | _=>none
def zm.dv (v:Value):Option zm:=match v with
  | .agg cs=>zm.dec cs.toList
  | _=>none
def zA.dec (l:List Value):Option zA:=match l with
  | [.int _ x1,.int _ x2,.int _ x3]=>some (zA.mk x1 (ze.mk x2 x3))
  | _=>none
def zA.dv (v:Value):Option zA:=match v with
  | .agg cs=>zA.dec cs.toList
  | _=>none
def zr.dec (l:List Value):Option zr:=match l with
  | [.int _ x1,.int _ x2,.int _ x3,.int _ x4,.int _ x5,.int _ x6]=>some (zr.mk x1 (ze.mk x2 x3) x4 x5 x6)
  | _=>none
def zr.dv (v:Value):Option zr:=match v with
  | .agg cs=>zr.dec cs.toList
  | _=>none
def zz.dec (l:List Value):Option zz:=match l with
  | [.int _ x1,.int _ x2,.int _ x3,.int _ x4,.int _ x5]=>some (zz.mk x1 x2 x3 (ze.mk x4 x5))
  | _=>none
def zz.dv (v:Value):Option zz:=match v with
  | .agg cs=>zz.dec cs.toList
  | _=>none
def zt.dec (l:List Value):Option zt:=match l with
  | [.int _ x1,.int _ x2,.int _ x3,.int _ x4,.int _ x5,.int _ x6]=>some (zt.mk x1 x2 (ze.mk x3 x4) x5 x6)
  | _=>none
def zt.dv (v:Value):Option zt:=match v with
  | .agg cs=>zt.dec cs.toList
  | _=>none
def zF.dec (l:List Value):Option zF:=match l with
  | [.int _ x1,.int _ x2,.int _ x3,.int _ x4,.int _ x5,.int _ x6,.int _ x7,.int _ x8,.int _ x9,.int _ x10,.int _ x11]=>some (zF.mk x1 x2 x3 x4 x5 (zt.mk x6 x7 (ze.mk x8 x9) x10 x11))
  | _=>none
def zF.dv (v:Value):Option zF:=match v with
  | .agg cs=>zF.dec cs.toList
  | _=>none
def zC.dec (l:List Value):Option zC:=match l with
  | [.int _ x1,.int _ x2,.int _ x3,.int _ x4,.int _ x5,.int _ x6]=>some (zC.mk x1 x2 (zi.mk x3 x4) (ze.mk x5 x6))
  | _=>none
def zC.dv (v:Value):Option zC:=match v with
  | .agg cs=>zC.dec cs.toList
  | _=>none
def zu.dec (l:List Value):Option zu:=match l with
  | [.int _ x1,.bool x2,.int _ x3,.int _ x4,.int _ x5]=>some (zu.mk x1 x2 (zB.mk x3 x4 x5))
  | _=>none
def zu.dv (v:Value):Option zu:=match v with
  | .agg cs=>zu.dec cs.toList
  | _=>none
def zp.dec (l:List Value):Option zp:=match l with
  | [.int _ x1,.bool x2,.int _ x3,.int _ x4,.int _ x5]=>some (zp.mk x1 x2 (zA.mk x3 (ze.mk x4 x5)))
  | _=>none
def zp.dv (v:Value):Option zp:=match v with
  | .agg cs=>zp.dec cs.toList
  | _=>none
def zq.dec (l:List Value):Option zq:=match l with
  | [.int _ x1,.bool x2,.int _ x3,.int _ x4,.int _ x5,.int _ x6,.int _ x7]=>some (zq.mk x1 x2 (zz.mk x3 x4 x5 (ze.mk x6 x7)))
  | _=>none
def zq.dv (v:Value):Option zq:=match v with
  | .agg cs=>zq.dec cs.toList
  | _=>none
def elV:Nat->ElD
  | 0=>⟨zs,zs.enc,11,zs.yN,zs.dec⟩
  | 1=>⟨Int,ecI,1,xZ,dI⟩
  | 2=>⟨zu,zu.enc,5,zu.yN,zu.dec⟩
  | 3=>⟨zp,zp.enc,5,zp.yN,zp.dec⟩
  | 4=>⟨zq,zq.enc,7,zq.yN,zq.dec⟩
  | 5=>⟨zm,zm.enc,2,zm.yN,zm.dec⟩
  | 6=>⟨ze,ze.enc,2,ze.yN,ze.dec⟩
  | 7=>⟨Bool,ecB,1,Ae,dB⟩
  | 8=>⟨Int,ecI,1,xZ,dI⟩
  | 9=>⟨zC,zC.enc,6,zC.yN,zC.dec⟩
  | 10=>⟨zi,zi.enc,2,zi.yN,zi.dec⟩
  | 11=>⟨zF,zF.enc,11,zF.yN,zF.dec⟩
  | 12=>⟨zt,zt.enc,6,zt.yN,zt.dec⟩
  | 13=>⟨zr,zr.enc,6,zr.yN,zr.dec⟩
  | _=>⟨Int,ecI,1,xZ,dI⟩
def mpV:Nat->MpD
  | 0=>⟨Int,ze,vI,ze.val,dvI,ze.dv,kI⟩
  | 1=>⟨ze,zi,ze.val,zi.val,ze.dv,zi.dv,ze.eq⟩
  | 2=>⟨ze,ze,ze.val,ze.val,ze.dv,ze.dv,ze.eq⟩
  | 3=>⟨ze,Int,ze.val,vI,ze.dv,dvI,ze.eq⟩
  | _=>⟨Int,Int,vI,vI,dvI,dvI,kI⟩
def El:Ev:=⟨elV,mpV⟩
def ze.eqD:EqD pG:=⟨ze,33,fun x=>#[.i x.At,.i x.Gen],ze.dv,ze.eq,ze.mK⟩
def zr.eqD:EqD pG:=⟨zr,35,fun x=>#[.i x.Why,.i x.Job.At,.i x.Job.Gen,.i x.Time,.i x.Data,.i x.N],zr.dv,zr.eq,zr.mK⟩
def zi.eqD:EqD pG:=⟨zi,42,fun x=>#[.i x.Key,.i x.Serial],zi.dv,zi.eq,zi.mK⟩
def zD.D:OD El:=⟨Unit,zD,fun p e m=>[.blk p 155 [.i m.steps,.i m.begun,.i m.most]],fun l=>match l with
  | .blk _ _ [.int _ x1,.int _ x2,.int _ x3]::r=>some ((),zD.mk x1 x2 x3,r)
  | _=>none⟩
def zb.D:OD El:=⟨zb.A,zb,fun p e m=>[.blk p 153 [.slice e.l_b m.l.length e.l_c,.i m.never,.slice e.free_b m.free.length e.free_c,.pointer (some ⟨e.m__p,0,none⟩)]]++[.sl 0 235 e.l_b e.l_c m.l]++[.sl 1 3 e.free_b e.free_c m.free]++zD.D.flat e.m__p () m.m_,fun l=>match l with
  | .blk _ _ [_,.int _ x2,_,.pointer (some ⟨x5,_,_⟩)]::r=>(rS 0 r).bind fun (x1,x6)=>(rS 1 x6).bind fun (x3,x7)=>(zD.D.rd x7).bind fun (t,j,x8)=>some (zb.A.mk x1.1 x1.2.1 x3.1 x3.2.1 x5,zb.mk x1.2.2 x2 x3.2.2 j,x8)
  | _=>none⟩
def zg.D:OD El:=⟨zg.A,zg,fun p e m=>[.blk p 208 [.i m.most,.slice e.l_b m.l.length e.l_c,.slice e.free_b m.free.length e.free_c]]++[.sl 2 213 e.l_b e.l_c m.l]++[.sl 1 3 e.free_b e.free_c m.free],fun l=>match l with
  | .blk _ _ [.int _ x1,_,_]::r=>(rS 2 r).bind fun (x2,x4)=>(rS 1 x4).bind fun (x3,x5)=>some (zg.A.mk x2.1 x2.2.1 x3.1 x3.2.1,zg.mk x1 x2.2.2 x3.2.2,x5)
  | _=>none⟩
def zd.D:OD El:=⟨zd.A,zd,fun p e m=>[.blk p 211 [.i m.most,.slice e.l_b m.l.length e.l_c,.slice e.free_b m.free.length e.free_c]]++[.sl 3 243 e.l_b e.l_c m.l]++[.sl 1 3 e.free_b e.free_c m.free],fun l=>match l with
  | .blk _ _ [.int _ x1,_,_]::r=>(rS 3 r).bind fun (x2,x4)=>(rS 1 x4).bind fun (x3,x5)=>some (zd.A.mk x2.1 x2.2.1 x3.1 x3.2.1,zd.mk x1 x2.2.2 x3.2.2,x5)
  | _=>none⟩
def zj.D:OD El:=⟨zj.A,zj,fun p e m=>[.blk p 182 [.pointer (some ⟨e.heaps_p,0,none⟩),.pointer (some ⟨e.items_p,0,none⟩),.map (some e.at__p)]]++zg.D.flat e.heaps_p e.heaps_a m.heaps++zd.D.flat e.items_p e.items_a m.items++[.mp 0 e.at__p m.at_],fun l=>match l with
  | .blk _ _ [.pointer (some ⟨x2,_,_⟩),.pointer (some ⟨x4,_,_⟩),_]::r=>(zg.D.rd r).bind fun (x11,x12,x6)=>(zd.D.rd x6).bind fun (i,j,x7)=>(rM 0 x7).bind fun (x5,x8)=>some (zj.A.mk x2 x11 x4 i x5.1,zj.mk x12 j x5.2,x8)
  | _=>none⟩
def zo.D:OD El:=⟨zo.A,zo,fun p e m=>[.blk p 116 [.i m.items,.pointer (some ⟨e.a__p,0,none⟩),.pointer (some ⟨e.t__p,0,none⟩),.map (some e.entries_p),.i m.serial]]++zb.D.flat e.a__p e.a__a m.a_++zj.D.flat e.t__p e.t__a m.t_++[.mp 1 e.entries_p m.entries],fun l=>match l with
  | .blk _ _ [.int _ x1,.pointer (some ⟨x3,_,_⟩),.pointer (some ⟨x5,_,_⟩),_,.int _ x7]::r=>(zb.D.rd r).bind fun (j,t,x8)=>(zj.D.rd x8).bind fun (u,x,x9)=>(rM 1 x9).bind fun (x6,x10)=>some (zo.A.mk x3 j x5 u x6.1,zo.mk x1 t x x6.2 x7,x10)
  | _=>none⟩
def zf.D:OD El:=⟨zf.A,zf,fun p e m=>[.blk p 163 [.i m.most,.slice e.l_b m.l.length e.l_c,.slice e.free_b m.free.length e.free_c]]++[.sl 4 165 e.l_b e.l_c m.l]++[.sl 1 3 e.free_b e.free_c m.free],fun l=>match l with
  | .blk _ _ [.int _ x1,_,_]::r=>(rS 4 r).bind fun (x2,x4)=>(rS 1 x4).bind fun (x3,x5)=>some (zf.A.mk x2.1 x2.2.1 x3.1 x3.2.1,zf.mk x1 x2.2.2 x3.2.2,x5)
  | _=>none⟩
def zn.D:OD El:=⟨zn.A,zn,fun p e m=>[.blk p 125 [.pointer (some ⟨e.p_p,0,none⟩),.map (some e.by__p)]]++zf.D.flat e.p_p e.p_a m.p++[.mp 2 e.by__p m.by_],fun l=>match l with
  | .blk _ _ [.pointer (some ⟨x2,_,_⟩),_]::r=>(zf.D.rd r).bind fun (x11,x12,x4)=>(rM 2 x4).bind fun (x3,x5)=>some (zn.A.mk x2 x11 x3.1,zn.mk x12 x3.2,x5)
  | _=>none⟩
def zL.D:OD El:=⟨Unit,zL,fun p e m=>[.blk p 128 [.i m.now]],fun l=>match l with
  | .blk _ _ [.int _ x1]::r=>some ((),zL.mk x1,r)
  | _=>none⟩
def za.D:OD El:=⟨za.A,za,fun p e m=>[.blk p 78 [.i m.kind,.i m.most,.pointer (some ⟨e.q_p,0,none⟩),.i m.heaps0.At,.i m.heaps0.Gen,.i m.heaps1.At,.i m.heaps1.Gen,.pointer (some ⟨e.t__p,0,none⟩),.map (some e.when_p),.pointer (some ⟨e.clock_p,0,none⟩),.i m.budget,.i m.last,.i m.top]]++zo.D.flat e.q_p e.q_a m.q++zn.D.flat e.t__p e.t__a m.t_++[.mp 3 e.when_p m.when]++zL.D.flat e.clock_p () m.clock,fun l=>match l with
  | .blk _ _ [.int _ x1,.int _ x2,.pointer (some ⟨x4,_,_⟩),.int _ x5,.int _ x6,.int _ x7,.int _ x8,.pointer (some ⟨x10,_,_⟩),_,.pointer (some ⟨x13,_,_⟩),.int _ x14,.int _ t,.int _ u]::r=>(zo.D.rd r).bind fun (F,I,x)=>(zn.D.rd x).bind fun (J,O,y)=>(rM 3 y).bind fun (x11,z)=>(zL.D.rd z).bind fun (S,j,B)=>some (za.A.mk x4 F x10 J x11.1 x13,za.mk x1 x2 I (ze.mk x5 x6) (ze.mk x7 x8) O x11.2 j x14 t u,B)
  | _=>none⟩
def zk.D:OD El:=⟨zk.A,zk,fun p e m=>[.blk p 146 [.i m.Most,.slice e.Gens_b m.Gens.length e.Gens_c,.slice e.In_b m.In.length e.In_c,.slice e.V_b m.V.length e.V_c,.slice e.Back_b m.Back.length e.Back_c]]++[.sl 1 3 e.Gens_b e.Gens_c m.Gens]++[.sl 7 4 e.In_b e.In_c m.In]++[.sl 8 2 e.V_b e.V_c m.V]++[.sl 1 3 e.Back_b e.Back_c m.Back],fun l=>match l with
  | .blk _ _ [.int _ x1,_,_,_,_]::r=>(rS 1 r).bind fun (x2,x6)=>(rS 7 x6).bind fun (x3,x7)=>(rS 8 x7).bind fun (x4,x8)=>(rS 1 x8).bind fun (x5,x9)=>some (zk.A.mk x2.1 x2.2.1 x3.1 x3.2.1 x4.1 x4.2.1 x5.1 x5.2.1,zk.mk x1 x2.2.2 x3.2.2 x4.2.2 x5.2.2,x9)
  | _=>none⟩
def zc.D:OD El:=⟨zc.A,zc,fun p e m=>[.blk p 65 [.i m.Most,.i m.Now,.i m.Next,.pointer (some ⟨e.Pool_p,0,none⟩),.slice e.L_b m.L.length e.L_c]]++zk.D.flat e.Pool_p e.Pool_a m.Pool++[.sl 9 102 e.L_b e.L_c m.L],fun l=>match l with
  | .blk _ _ [.int _ x1,.int _ x2,.int _ x3,.pointer (some ⟨x5,_,_⟩),_]::r=>(zk.D.rd r).bind fun (j,t,x7)=>(rS 9 x7).bind fun (x6,x8)=>some (zc.A.mk x5 j x6.1 x6.2.1,zc.mk x1 x2 x3 t x6.2.2,x8)
  | _=>none⟩
def zh.D:OD El:=⟨zh.A,zh,fun p e m=>[.blk p 30 [.slice e.L_b m.L.length e.L_c]]++[.sl 10 42 e.L_b e.L_c m.L],fun l=>match l with
  | .blk _ _ [_]::r=>(rS 10 r).bind fun (x1,x2)=>some (zh.A.mk x1.1 x1.2.1,zh.mk x1.2.2,x2)
  | _=>none⟩
theorem zD.D_st {w0 w:World}{As:List HP}{p:Nat}{m:zD}:St w0 (zD.R p m::As) w ↔ St w0 ((zD.D.flat p () m).map Atom.den++As) w:=by
  refine Iff.trans ⟨fun H=>zD.open H,fun H=>zD.shut m H⟩ ?_;exact Iff.rfl
theorem zb.D_st {w0 w:World}{As:List HP}{p:Nat}{e:zb.A}{m:zb}:St w0 (zb.R p e m::As) w ↔ St w0 ((zb.D.flat p e m).map Atom.den++As) w:=by
  refine Iff.trans ⟨fun H=>zb.open H,fun H=>zb.shut e m H⟩ ?_;refine Iff.trans (fs3 fun As=>zD.D_st) ?_;exact Iff.rfl
theorem zg.D_st {w0 w:World}{As:List HP}{p:Nat}{e:zg.A}{m:zg}:St w0 (zg.R p e m::As) w ↔ St w0 ((zg.D.flat p e m).map Atom.den++As) w:=by
  refine Iff.trans ⟨fun H=>zg.open H,fun H=>zg.shut e m H⟩ ?_;exact Iff.rfl
theorem zd.D_st {w0 w:World}{As:List HP}{p:Nat}{e:zd.A}{m:zd}:St w0 (zd.R p e m::As) w ↔ St w0 ((zd.D.flat p e m).map Atom.den++As) w:=by
  refine Iff.trans ⟨fun H=>zd.open H,fun H=>zd.shut e m H⟩ ?_;exact Iff.rfl
theorem zj.D_st {w0 w:World}{As:List HP}{p:Nat}{e:zj.A}{m:zj}:St w0 (zj.R p e m::As) w ↔ St w0 ((zj.D.flat p e m).map Atom.den++As) w:=by
  refine Iff.trans ⟨fun H=>zj.open H,fun H=>zj.shut e m H⟩ ?_;refine Iff.trans (fs2 fun As=>zd.D_st) ?_;refine Iff.trans (fs1 fun As=>zg.D_st) ?_;exact Iff.rfl
theorem zo.D_st {w0 w:World}{As:List HP}{p:Nat}{e:zo.A}{m:zo}:St w0 (zo.R p e m::As) w ↔ St w0 ((zo.D.flat p e m).map Atom.den++As) w:=by
  refine Iff.trans ⟨fun H=>zo.open H,fun H=>zo.shut e m H⟩ ?_;refine Iff.trans (fs2 fun As=>zj.D_st) ?_;refine Iff.trans (fs1 fun As=>zb.D_st) ?_;exact Iff.rfl
theorem zf.D_st {w0 w:World}{As:List HP}{p:Nat}{e:zf.A}{m:zf}:St w0 (zf.R p e m::As) w ↔ St w0 ((zf.D.flat p e m).map Atom.den++As) w:=by
  refine Iff.trans ⟨fun H=>zf.open H,fun H=>zf.shut e m H⟩ ?_;exact Iff.rfl
theorem zn.D_st {w0 w:World}{As:List HP}{p:Nat}{e:zn.A}{m:zn}:St w0 (zn.R p e m::As) w ↔ St w0 ((zn.D.flat p e m).map Atom.den++As) w:=by
  refine Iff.trans ⟨fun H=>zn.open H,fun H=>zn.shut e m H⟩ ?_;refine Iff.trans (fs1 fun As=>zf.D_st) ?_;exact Iff.rfl
theorem zL.D_st {w0 w:World}{As:List HP}{p:Nat}{m:zL}:St w0 (zL.R p m::As) w ↔ St w0 ((zL.D.flat p () m).map Atom.den++As) w:=by
  refine Iff.trans ⟨fun H=>zL.open H,fun H=>zL.shut m H⟩ ?_;exact Iff.rfl
theorem za.D_st {w0 w:World}{As:List HP}{p:Nat}{e:za.A}{m:za}:St w0 (za.R p e m::As) w ↔ St w0 ((za.D.flat p e m).map Atom.den++As) w:=by
  refine Iff.trans ⟨fun H=>za.open H,fun H=>za.shut e m H⟩ ?_;refine Iff.trans (fs4 fun As=>zL.D_st) ?_;refine Iff.trans (fs2 fun As=>zn.D_st) ?_;refine Iff.trans (fs1 fun As=>zo.D_st) ?_;exact Iff.rfl
theorem zk.D_st {w0 w:World}{As:List HP}{p:Nat}{e:zk.A}{m:zk}:St w0 (zk.R p e m::As) w ↔ St w0 ((zk.D.flat p e m).map Atom.den++As) w:=by
  refine Iff.trans ⟨fun H=>zk.open H,fun H=>zk.shut e m H⟩ ?_;exact Iff.rfl
theorem zc.D_st {w0 w:World}{As:List HP}{p:Nat}{e:zc.A}{m:zc}:St w0 (zc.R p e m::As) w ↔ St w0 ((zc.D.flat p e m).map Atom.den++As) w:=by
  refine Iff.trans ⟨fun H=>zc.open H,fun H=>zc.shut e m H⟩ ?_;refine Iff.trans (fs1 fun As=>zk.D_st) ?_;exact Iff.rfl
theorem zh.D_st {w0 w:World}{As:List HP}{p:Nat}{e:zh.A}{m:zh}:St w0 (zh.R p e m::As) w ↔ St w0 ((zh.D.flat p e m).map Atom.den++As) w:=by
  refine Iff.trans ⟨fun H=>zh.open H,fun H=>zh.shut e m H⟩ ?_;exact Iff.rfl
abbrev C23p:List (PK El):=[pI .i64,pI .i64,pI .i64]
def C23:Con El:=zG 23 C23p (fun e=>yP e.1 e.2.1 e.2.2.1) 0 0 (fun e t l j=>.i t) (fun e t l j=>[])
theorem S23:(C23).Sound pG :=
  fsn mixed (C23) (n:=33) (rs:=rsOf pG 23) [] [] (gj (gI 6) []) (fun i=>(.g 1 (.g 4 (.pj 10 (Bool) mB (gB 14) (fun st j=>([(14,.bool j)]++kp [0,1,2] st,ka [] st)) (.g 4 .leaf) (.g 4 .leaf) (.cond (.g 2 .ret) (.g 5 (.s (.gd 0 (.tmp 20) 0) (.s (.seg 2 [.Q 0]) (.g 2 (.join (Int) 0 0 (gj (gI 0) []) (fun e j t l=>([(0,.i j)]++kp [1] e,ka [] e)) (.cond (.g 7 .leaf) .leaf) (.g 4 .ret))))))))))) Tryz.func23
def K23:SCon El pG:=⟨C23,S23,Tryz.call23⟩
abbrev C46p:List (PK El):=[pI .i64]
def C46:Con El:=zG 46 C46p (fun i=>uz i.1) 0 0 (fun i t j e=>.bool t) (fun i t j e=>[])
theorem S46:(C46).Sound pG :=
  fsn mixed (C46) (n:=9) (rs:=rsOf pG 46) [] [] (gj (gB 2) []) (fun i=>(.g 1 (.g 3 (.pj 5 (Bool) mB (gB 2) (fun st e=>([(2,.bool e)]++kp [] st,ka [] st)) (.g 4 .leaf) (.g 4 .leaf) .ret)))) Tryz.func46
def K46:SCon El pG:=⟨C46,S46,Tryz.call46⟩
theorem lj {w0 w:World}{As:List HP}{x:Int}{t:Int}  (hm:bits_Len64 x=some t)(H:St w0 (As) w) :
    xw pG 222 #[.int .u64 x] w fun v w'=>v = .i t/\St w0 (As) w':=by
 rw[bits_Len64] at hm;refine enter (args:=[.int .u64 x]) Tryz.func222 rfl rfl rfl fun a j=>?_
 refine Runs.sr ?_;refine WR.seg j 1 [] [0,2] (Lo:=[(0,.int .u64 x),(2,.i 0)]) (obs:=[]) rfl (by kernel_rfl) trivial fun a j=>?_
 refine WR.done rfl ?_;refine Runs.seq ?_;refine Runs.sr ?_;refine WR.e0 j [(4,.bool (decide (x >= 4294967296)))] fun a j=>?_
 obtain⟨s,es,hm⟩:=bind_some hm;refine Runs.join (fun a w=>zZ 25 a [(0,.int .u64 s.1),(2,.i s.2)]/\St w0 (As) w) (fun hk=>?_) ?_
 ·replace hm:=es;clear es;refine Runs.cond j rfl (fun c=>?_) (fun c=>?_)
  ·replace hm:=uF c hm;refine Runs.sr ?_;refine WR.e j [] [(0,.int .u64 (Int.fdiv x (2 ^ (min (Int.toNat 32) 64))))] (obs:=[.p (0<=(32:Int))]) ⟨(by show _<=_;decide),trivial⟩ fun a j=>?_
   refine Runs.region ?_;refine WR.e0 j [(2,.i 32)] fun a j=>?_
   cases hm;exact hk _ _ ⟨j.sel [0,2] (by kernel_rfl),H⟩
  ·replace hm:=uE c hm;refine Runs.skip ?_;cases hm;exact hk _ _ ⟨j.sel [0,2] (by kernel_rfl),H⟩
 rintro a w ⟨j,H⟩;refine Runs.seq ?_;refine Runs.sr ?_;refine WR.seg j 2 [] [0,2,8] (Lo:=[(0,.int .u64 s.1),(2,.i s.2),(8,.bool (decide (s.1 >= 65536)))]) (obs:=[]) rfl (by kernel_rfl) trivial fun a j=>?_
 refine WR.done rfl ?_;obtain⟨s1,l,hm⟩:=bind_some hm;refine Runs.join (fun a w=>zZ 25 a [(0,.int .u64 s1.1),(2,.i s1.2)]/\St w0 (As) w) (fun hk=>?_) ?_
 ·replace hm:=l;clear l;refine Runs.cond j rfl (fun c=>?_) (fun c=>?_)
  ·replace hm:=uF c hm;refine Runs.sr ?_;refine WR.e j [] [(0,.int .u64 (Int.fdiv s.1 (2 ^ (min (Int.toNat 16) 64))))] (obs:=[.p (0<=(16:Int))]) ⟨(by show _<=_;decide),trivial⟩ fun a j=>?_
   refine Runs.region ?_;refine WR.e0 j [(2,.i (w64 (s.2+16)))] fun a j=>?_
   cases hm;exact hk _ _ ⟨j.sel [0,2] (by kernel_rfl),H⟩
  ·replace hm:=uE c hm;refine Runs.skip ?_;cases hm;exact hk _ _ ⟨j.sel [0,2] (by kernel_rfl),H⟩
 rintro a w ⟨j,H⟩;refine Runs.seq ?_;refine Runs.sr ?_;refine WR.seg j 2 [] [0,2,14] (Lo:=[(0,.int .u64 s1.1),(2,.i s1.2),(14,.bool (decide (s1.1 >= 256)))]) (obs:=[]) rfl (by kernel_rfl) trivial fun a j=>?_
 refine WR.done rfl ?_;obtain⟨s2,y,hm⟩:=bind_some hm;refine Runs.join (fun a w=>zZ 25 a [(0,.int .u64 s2.1),(2,.i s2.2)]/\St w0 (As) w) (fun hk=>?_) ?_
 ·replace hm:=y;clear y;refine Runs.cond j rfl (fun c=>?_) (fun c=>?_)
  ·replace hm:=uF c hm;refine Runs.sr ?_;refine WR.e j [] [(0,.int .u64 (Int.fdiv s1.1 (2 ^ (min (Int.toNat 8) 64))))] (obs:=[.p (0<=(8:Int))]) ⟨(by show _<=_;decide),trivial⟩ fun a j=>?_
   refine Runs.region ?_;refine WR.e0 j [(2,.i (w64 (s1.2+8)))] fun a j=>?_
   cases hm;exact hk _ _ ⟨j.sel [0,2] (by kernel_rfl),H⟩
  ·replace hm:=uE c hm;refine Runs.skip ?_;cases hm;exact hk _ _ ⟨j.sel [0,2] (by kernel_rfl),H⟩
 rintro a w ⟨j,H⟩;refine Runs.sr ?_;obtain⟨z,A,hm⟩:=bind_some hm;refine WR.seg j 7 [.int .u8 z] [2] (Lo:=[(2,.i (w64 (s2.2+(w64 (z)))))]) (obs:=[.p (0<=(IntKind.wrap .u8 (s2.1)) /\ ∃ u,(ByteArray.mk #[0,1,2,2,3,3,3,3,4,4,4,4,4,4,4,4,5,5,5,5,5,5,5,5,5,5,5,5,5,5,5,5,6,6,6,6,6,6,6,6,6,6,6,6,6,6,6,6,6,6,6,6,6,6,6,6,6,6,6,6,6,6,6,6,7,7,7,7,7,7,7,7,7,7,7,7,7,7,7,7,7,7,7,7,7,7,7,7,7,7,7,7,7,7,7,7,7,7,7,7,7,7,7,7,7,7,7,7,7,7,7,7,7,7,7,7,7,7,7,7,7,7,7,7,7,7,7,7,8,8,8,8,8,8,8,8,8,8,8,8,8,8,8,8,8,8,8,8,8,8,8,8,8,8,8,8,8,8,8,8,8,8,8,8,8,8,8,8,8,8,8,8,8,8,8,8,8,8,8,8,8,8,8,8,8,8,8,8,8,8,8,8,8,8,8,8,8,8,8,8,8,8,8,8,8,8,8,8,8,8,8,8,8,8,8,8,8,8,8,8,8,8,8,8,8,8,8,8,8,8,8,8,8,8,8,8,8,8,8,8,8,8,8,8,8,8,8,8,8,8,8,8,8,8,8,8])[Int.toNat (IntKind.wrap .u8 (s2.1))]? = some u/\z=(u.toNat:Int))]) rfl (by kernel_rfl) ⟨fL A,trivial⟩ fun a j=>?_
 refine WR.done rfl ?_;refine Runs.ret j Tryz.func222 rfl rfl ?_;cases hm;exact⟨rfl,H⟩
abbrev aF:List (PK El):=[pI .u64]
def C222:Con El:=zG 222 aF (fun j=>bits_Len64 j.1) 0 0 (fun j t l e=>.i t) (fun j t l e=>[])
theorem S222:(C222).Sound pG:=fun i t hm w0 w F hr H=>by
  obtain⟨x0,_⟩:=i;have e:St w0 (F) w:=by
    exact H
  refine (lj (show bits_Len64 x0=some t from hm) e).mono ?_;rintro v w' ⟨hv,H⟩;refine⟨[],[],rfl,rfl,hv,?_,fun _ h=>by cases h⟩;exact H
def K222:SCon El pG:=⟨C222,S222,Tryz.call222⟩
def C182:Con El:=zG 182 aF (fun j=>bits_Len j.1) 0 0 (fun j t l e=>.i t) (fun j t l e=>[])
theorem S182:(C182).Sound pG :=
  fsn mixed (C182) (n:=8) (rs:=rsOf pG 182) [] [] (gj (gI 2) []) (fun i=>(.g 1 (.vQ (.g 1 (.s (.call K222 [] []) (.g 1 .ret)))))) Tryz.func182
def K182:SCon El pG:=⟨C182,S182,Tryz.call182⟩
def C124:Con El:=zG 124 C46p (fun j=>qj j.1) 0 0 (fun j t l e=>.i t) (fun j t l e=>[])
theorem S124:(C124).Sound pG :=
  fsn mixed (C124) (n:=7) (rs:=rsOf pG 124) [] [] (gj (gI 2) []) (fun i=>(.g 1 (.g 3 (.s (.call K182 [] []) (.g 1 .ret))))) Tryz.func124
def K124:SCon El pG:=⟨C124,S124,Tryz.call124⟩
abbrev C92p:List (PK El):=[pI .i64,pI .i64]
def C92:Con El:=zG 92 C92p (fun e=>wS e.1 e.2.1) 0 0 (fun e t l j=>.i t) (fun e t l j=>[])
theorem S92:(C92).Sound pG :=
  fsn mixed (C92) (n:=26) (rs:=rsOf pG 92) [] [] (gj (gI 4) []) (fun i=>(.g 1 (.blk (.g 3 (.pj 8 (Bool) mB (gB 5) (fun st e=>([(5,.bool e)]++kp [0,1] st,ka [] st)) (.g 6 .leaf) (.g 6 .leaf) (.cond (.g 1 .ret) (.g 3 (.pj 17 (Bool) mB (gB 14) (fun st e=>([(14,.bool e)]++kp [0,1] st,ka [] st)) (.g 6 .leaf) (.g 6 .leaf) (.cond (.g 1 .ret) (.g 4 .ret)))))))))) Tryz.func92
def K92:SCon El pG:=⟨C92,S92,Tryz.call92⟩
def C86 (k:Nat):Con El:=zG 86 C23p (fun e=>rz k e.1 e.2.1 e.2.2.1) 0 0 (fun e t l j=>.i t) (fun e t l j=>[])
abbrev C86r (k:Nat)(i:Ins C23p):Kn El->VC (C86 k).T:=retC pG (C86 k) (rsOf pG 86) [] [] (gj (gI 6) []) i
def hO (x:Ins C23p):BCon El (Int):=⟨nav [1,0,1] (zK pG 86),Int,Int × Int,Int,Int,fun u=>.inr u,fun _ _=>none,fun l=>[],fun l v_ j e=>[(0,.i v_.1),(1,.i x.2.1),(8,.i (l)),(9,.i v_.2)],fun l v_ j e=>[],0,0,fun l t j e=>[(0,.i t)],fun l t j e=>[]⟩
def ft (k:Nat)(e:Ins C23p):Nat->(hO e).X->(hO e).V->Option (hO e).W:=fun m_ (i:Int) (v_:Int × Int)=>w9 e.2.1 (i) m_ v_.1 v_.2
theorem aT (k:Nat)(i:Ins C23p)(m:Nat):((hO i).at (ft k i) m).Sound pG 86 16 (C86r k i) :=
  lsn mixed (hO i) (id:=0) (body:=nav [1,0,1,0,0] (zK pG 86)) (ft k i) (fun _=>none) (fun u=>u) (gj (g2 (gI 0) (gI 9)) []) (gj (gI 0) []) (fun m=>(.g 1 (.cond (.blk (.g 2 (.s (.call K92 [] []) (.g 1 (.g 2 .back))))) .leaf))) m
theorem S86 (k:Nat):(C86 k).Sound pG :=
  fsn mixed (C86 k) (n:=16) (rs:=rsOf pG 86) [] [] (gj (gI 6) []) (fun i=>(.g 1 (.g 1 (.s (.call K124 [] []) (.g 1 (.loop ⟨(hO i).at (ft k i) k,aT k i k⟩ (gl (gI 8) (g2 (gI 0) (gI 9)) []) (.g 2 .ret))))))) Tryz.func86
def K86 (k:Nat):SCon El pG:=⟨C86 k,S86 k,Tryz.call86⟩
def C47 (k:Nat):Con El:=zG 47 C92p (fun e=>si k e.1 e.2.1) 0 0 (fun e t l j=>.tuple #[.i t.1,.bool t.2]) (fun e t l j=>[])
theorem S47 (k:Nat):(C47 k).Sound pG :=
  fsn mixed (C47 k) (n:=20) (rs:=rsOf pG 47) [] [] (gj (g2 (gI 4) (gB 5)) []) (fun i=>(.g 2 (.join (Bool) 0 0 (gj (gB 16) []) (fun e t l j=>([(16,.bool t)]++kp [1] e,ka [] e)) (.g 1 (.s (.call K46 [] []) (.g 2 (.split 9 (.g 7 .leaf) (.g 4 (.split 13 (.g 3 .leaf) (.g 3 .leaf))))))) (.cond (.g 2 .ret) (.g 2 (.s (.call (K86 k) [] []) (.g 2 .ret))))))) Tryz.func47
def K47 (k:Nat):SCon El pG:=⟨C47 k,S47 k,Tryz.call47⟩
abbrev C99p:List (PK El):=[]
def C99:Con El:=zG 99 C99p (fun j=>o9) 1 0 (fun j t e i=>.pointer (some ⟨(nn e 0),0,none⟩)) (fun j t e i=>zD.D.flat (nn e 0) () t)
theorem S99:(C99).Sound pG :=
  fsn mixed (C99) (n:=3) (rs:=rsOf pG 99) [] [1000] (gj (gO zD.D [1000]) [nPk 1000]) (fun i=>(.g 1 (.g 1 (.s (.new 0 []) (.g 1 (.rk (rb 1000 [0]) .ret)))))) Tryz.func99
def K99:SCon El pG:=⟨C99,S99,Tryz.call99⟩
def C67:Con El:=zG 67 C46p (fun j=>qS j.1) 4 2 (fun j t e i=>.pointer (some ⟨(nn e 0),0,none⟩)) (fun j t e i=>zb.D.flat (nn e 0) (zb.A.mk (na i 0) (nn e 1) (na i 1) (nn e 2) (nn e 3)) t)
theorem S67:(C67).Sound pG :=
  fsn mixed (C67) (n:=10) (rs:=rsOf pG 67) [] [1000,1001,1002,1003] (gj (gO zb.D [1000,1001,1002,1003]) [nPk 1000,nA zb.D [1000,1001,1002,1003] (fun e=>([e.l_c,e.free_c,e.m__p],[e.l_b,e.free_b]))]) (fun i=>(.g 1 (.jg (zb) 4 2 (gj (gO zb.D [8,9,10,11]) [nPk 8,nA zb.D [8,9,10,11] (fun e=>([e.l_c,e.free_c,e.m__p],[e.l_b,e.free_b]))]) (fun t u j l=>([(2,.pointer (some ⟨(nn j 0),0,none⟩))]++kp [] t,ka [] t++zipL [8,9,10,11] (zb.D.flat (nn j 0) (zb.A.mk (na l 0) (nn j 1) (na l 1) (nn j 2) (nn j 3)) u))) (.drw (.q [0,1,2] [] (.alt2 3 (.mk 12 0 235) [] (.a 4 (.call K99 [] [13]) [] (.q [5] [] (.a 6 (.new 14 []) [] (.q [7] [] (.s (.nil 15 1 3) (.rk (rb 8 [14,12,15,13]) .leaf)))))) 4 (.call K99 [] [16]) [] (.a 3 (.mk 17 0 235) [] (.q [5] [] (.a 6 (.new 18 []) [] (.q [7] [] (.s (.nil 19 1 3) (.rk (rb 8 [18,17,19,16]) .leaf))))))))) (.rk (rb 1000 [8,9,10,11]) .ret)))) Tryz.func67
def K67:SCon El pG:=⟨C67,S67,Tryz.call67⟩
def C100:Con El:=zG 100 C46p (fun j=>uo j.1) 3 2 (fun j t e i=>.pointer (some ⟨(nn e 0),0,none⟩)) (fun j t e i=>zg.D.flat (nn e 0) (zg.A.mk (na i 0) (nn e 1) (na i 1) (nn e 2)) t)
theorem S100:(C100).Sound pG :=
  fsn mixed (C100) (n:=8) (rs:=rsOf pG 100) [] [1000,1001,1002] (gj (gO zg.D [1000,1001,1002]) [nPk 1000,nA zg.D [1000,1001,1002] (fun e=>([e.l_c,e.free_c],[e.l_b,e.free_b]))]) (fun i=>(.g 1 (.g 4 (.s (.new 0 []) (.g 1 (.s (.nil 1 2 213) (.s (.nil 2 1 3) (.rk (rb 1000 [0,1,2]) .ret)))))))) Tryz.func100
def K100:SCon El pG:=⟨C100,S100,Tryz.call100⟩
def C101:Con El:=zG 101 C46p (fun j=>vS j.1) 3 2 (fun j t e i=>.pointer (some ⟨(nn e 0),0,none⟩)) (fun j t e i=>zd.D.flat (nn e 0) (zd.A.mk (na i 0) (nn e 1) (na i 1) (nn e 2)) t)
theorem S101:(C101).Sound pG :=
  fsn mixed (C101) (n:=8) (rs:=rsOf pG 101) [] [1000,1001,1002] (gj (gO zd.D [1000,1001,1002]) [nPk 1000,nA zd.D [1000,1001,1002] (fun e=>([e.l_c,e.free_c],[e.l_b,e.free_b]))]) (fun i=>(.g 1 (.g 4 (.s (.new 0 []) (.g 1 (.s (.nil 1 3 243) (.s (.nil 2 1 3) (.rk (rb 1000 [0,1,2]) .ret)))))))) Tryz.func101
def K101:SCon El pG:=⟨C101,S101,Tryz.call101⟩
def C68:Con El:=zG 68 C46p (fun j=>nE j.1) 8 4 (fun j t e i=>.pointer (some ⟨(nn e 0),0,none⟩)) (fun j t e i=>zj.D.flat (nn e 0) (zj.A.mk (nn e 1) (zg.A.mk (na i 0) (nn e 2) (na i 1) (nn e 3)) (nn e 4) (zd.A.mk (na i 2) (nn e 5) (na i 3) (nn e 6)) (nn e 7)) t)
theorem S68:(C68).Sound pG :=
  fsn mixed (C68) (n:=11) (rs:=rsOf pG 68) [] [1000,1001,1002,1003,1004,1005,1006,1007] (gj (gO zj.D [1000,1001,1002,1003,1004,1005,1006,1007]) [nPk 1000,nA zj.D [1000,1001,1002,1003,1004,1005,1006,1007] (fun e=>([e.heaps_p,e.heaps_a.l_c,e.heaps_a.free_c,e.items_p,e.items_a.l_c,e.items_a.free_c,e.at__p],[e.heaps_a.l_b,e.heaps_a.free_b,e.items_a.l_b,e.items_a.free_b]))]) (fun i=>(.g 1 (.s (.call K100 [] [0,1,2]) (.g 3 (.s (.call K101 [] [3,4,5]) (.s (.mnew 6 0) (.g 1 (.s (.new 7 []) (.g 1 (.rk (rb 1000 [7,0,1,2,3,4,5,6]) .ret)))))))))) Tryz.func68
def K68:SCon El pG:=⟨C68,S68,Tryz.call68⟩
def C37:Con El:=cw 37 C46p (fun l=>kA l.1) 14 6 (fun l t e j=>.tuple #[.pointer none,.i t.2]) (fun l t e j=>[]) (fun l t=>t.1) 14 (fun l t m_ e j=>.tuple #[.pointer (some ⟨(nn e 0),0,none⟩),.i t.2]) (fun l t m_ e j=>zo.D.flat (nn e 0) (zo.A.mk (nn e 1) (zb.A.mk (na j 0) (nn e 2) (na j 1) (nn e 3) (nn e 4)) (nn e 5) (zj.A.mk (nn e 6) (zg.A.mk (na j 2) (nn e 7) (na j 3) (nn e 8)) (nn e 9) (zd.A.mk (na j 4) (nn e 10) (na j 5) (nn e 11)) (nn e 12)) (nn e 13)) m_)
theorem S37:(C37).Sound pG :=
  fsn mixed (C37) (n:=19) (rs:=rsOf pG 37) [] [1000,1001,1002,1003,1004,1005,1006,1007,1008,1009,1010,1011,1012,1013] (gj (g2 (gOo zo.D [1000,1001,1002,1003,1004,1005,1006,1007,1008,1009,1010,1011,1012,1013] 2) (gI 3)) [nPo 1000,nAo zo.D [1000,1001,1002,1003,1004,1005,1006,1007,1008,1009,1010,1011,1012,1013] (fun e=>([e.a__p,e.a__a.l_c,e.a__a.free_c,e.a__a.m__p,e.t__p,e.t__a.heaps_p,e.t__a.heaps_a.l_c,e.t__a.heaps_a.free_c,e.t__a.items_p,e.t__a.items_a.l_c,e.t__a.items_a.free_c,e.t__a.at__p,e.entries_p],[e.a__a.l_b,e.a__a.free_b,e.t__a.heaps_a.l_b,e.t__a.heaps_a.free_b,e.t__a.items_a.l_b,e.t__a.items_a.free_b])) 13 6]) (fun i=>(.g 2 (.g 3 (.pj 6 (Bool) mB (gB 9) (fun st j=>([(9,.bool j)]++kp [0] st,ka [] st)) (.g 3 .leaf) (.g 3 .leaf) (.cond (.g 2 .ret) (.g 3 (.s (.call K67 [] [0,1,2,3]) (.g 1 (.s (.call K68 [] [4,5,6,7,8,9,10,11]) (.s (.mnew 12 1) (.g 1 (.s (.new 13 []) (.g 2 (.rk (rb 1000 [13,0,1,2,3,4,5,6,7,8,9,10,11,12]) .ret)))))))))))))) Tryz.func37
def K37:SCon El pG:=⟨C37,S37,Tryz.call37⟩
def C87:Con El:=zG 87 C46p (fun j=>uX j.1) 3 2 (fun j t e i=>.pointer (some ⟨(nn e 0),0,none⟩)) (fun j t e i=>zf.D.flat (nn e 0) (zf.A.mk (na i 0) (nn e 1) (na i 1) (nn e 2)) t)
theorem S87:(C87).Sound pG :=
  fsn mixed (C87) (n:=8) (rs:=rsOf pG 87) [] [1000,1001,1002] (gj (gO zf.D [1000,1001,1002]) [nPk 1000,nA zf.D [1000,1001,1002] (fun e=>([e.l_c,e.free_c],[e.l_b,e.free_b]))]) (fun i=>(.g 1 (.g 4 (.s (.new 0 []) (.g 1 (.s (.nil 1 4 165) (.s (.nil 2 1 3) (.rk (rb 1000 [0,1,2]) .ret)))))))) Tryz.func87
def K87:SCon El pG:=⟨C87,S87,Tryz.call87⟩
def C48:Con El:=zG 48 C46p (fun j=>q7 j.1) 5 2 (fun j t e i=>.pointer (some ⟨(nn e 0),0,none⟩)) (fun j t e i=>zn.D.flat (nn e 0) (zn.A.mk (nn e 1) (zf.A.mk (na i 0) (nn e 2) (na i 1) (nn e 3)) (nn e 4)) t)
theorem S48:(C48).Sound pG :=
  fsn mixed (C48) (n:=10) (rs:=rsOf pG 48) [] [1000,1001,1002,1003,1004] (gj (gO zn.D [1000,1001,1002,1003,1004]) [nPk 1000,nA zn.D [1000,1001,1002,1003,1004] (fun e=>([e.p_p,e.p_a.l_c,e.p_a.free_c,e.by__p],[e.p_a.l_b,e.p_a.free_b]))]) (fun i=>(.g 1 (.g 3 (.s (.call K87 [] [0,1,2]) (.s (.mnew 3 2) (.g 1 (.s (.new 4 []) (.g 1 (.rk (rb 1000 [4,0,1,2,3]) .ret))))))))) Tryz.func48
def K48:SCon El pG:=⟨C48,S48,Tryz.call48⟩
def C49:Con El:=zG 49 C99p (fun j=>qU) 1 0 (fun j t e i=>.pointer (some ⟨(nn e 0),0,none⟩)) (fun j t e i=>zL.D.flat (nn e 0) () t)
theorem S49:(C49).Sound pG :=
  fsn mixed (C49) (n:=3) (rs:=rsOf pG 49) [] [1000] (gj (gO zL.D [1000]) [nPk 1000]) (fun i=>(.g 1 (.g 1 (.s (.new 0 []) (.g 1 (.rk (rb 1000 [0]) .ret)))))) Tryz.func49
def K49:SCon El pG:=⟨C49,S49,Tryz.call49⟩
theorem qs {w0 w:World}{As:List HP}{e:zY}{t:zJ}  (hm:wk e=some t)(H:St w0 (As) w) :
    xw pG 38 #[.pointer none,.agg #[.i e.Op,.i e.Kind,.i e.Heap.At,.i e.Heap.Gen,.i e.Other.At,.i e.Other.Gen,.i e.Item.At,.i e.Item.Gen,.i e.Key]] w fun v w'=>v = .agg #[.i t.Why,.i t.Heap.At,.i t.Heap.Gen,.i t.Item.At,.i t.Item.Gen,.i t.Entry.Key,.i t.Entry.Serial,.i t.N]/\St w0 (As) w':=by
 rw[wk] at hm;refine enter (args:=[.pointer none,.agg #[.i e.Op,.i e.Kind,.i e.Heap.At,.i e.Heap.Gen,.i e.Other.At,.i e.Other.Gen,.i e.Item.At,.i e.Item.Gen,.i e.Key]]) Tryz.func38 rfl rfl rfl fun a j=>?_
 refine Runs.sr ?_;refine WR.eff j rfl rfl rfl rfl (OpTo.new j H [] (.cells #[.i e.Op,.i e.Kind,.i e.Heap.At,.i e.Heap.Gen,.i e.Other.At,.i e.Other.Gen,.i e.Item.At,.i e.Item.Gen,.i e.Key] 95 (0,0)) (fun r=>.pointer (some ⟨r,0,none⟩)) (obs:=[]) rfl (fun _=>by kernel_rfl) trivial) ?_;rintro _ w ⟨r,rfl,H⟩ a j;refine WR.eff j rfl rfl rfl rfl (OpTo.new j H [] (.cells #[.i 0,.i 0,.i 0,.i 0,.i 0,.i 0,.i 0,.i 0] 92 (0,0)) (fun r=>.pointer (some ⟨r,0,none⟩)) (obs:=[]) rfl (fun _=>by kernel_rfl) trivial) ?_;rintro _ w ⟨r1,rfl,H⟩ a j;refine WR.done rfl ?_;refine Runs.sr ?_;cases hm
abbrev C38p:List (PK El):=[pK (.pointer none),pV zY.dv zY.val]
def C38:Con El:=zG 38 C38p (fun j=>wk j.2.1) 0 0 (fun j t l e=>.agg #[.i t.Why,.i t.Heap.At,.i t.Heap.Gen,.i t.Item.At,.i t.Item.Gen,.i t.Entry.Key,.i t.Entry.Serial,.i t.N]) (fun j t l e=>[])
theorem S38:(C38).Sound pG:=fun i t hm w0 w F hr H=>by
  obtain⟨_,x1,_⟩:=i;have e:St w0 (F) w:=by
    exact H
  refine (qs (show wk x1=some t from hm) e).mono ?_;rintro v w' ⟨hv,H⟩;refine⟨[],[],rfl,rfl,hv,?_,fun _ h=>by cases h⟩;exact H
def K38:SCon El pG:=⟨C38,S38,Tryz.call38⟩
abbrev C51p:List (PK El):=[pO zb.D]
def C51:Con El:=zG 51 C51p (fun e=>uR e.1.2.2) 0 0 (fun e t j i=>.pointer (some ⟨e.1.2.1.m__p,0,none⟩)) (fun e t j i=>zb.D.flat e.1.1 e.1.2.1 e.1.2.2)
theorem S51:(C51).Sound pG :=
  fsn mixed (C51) (n:=7) (rs:=rsOf pG 51) [] [0,1,2,3] (gj gU []) (fun i=>(.g 1 (.s (.seg 5 [.C 0 3]) .ret))) Tryz.func51
def K51:SCon El pG:=⟨C51,S51,Tryz.call51⟩
abbrev du:List (PK El):=[pO zD.D]
def C132:Con El:=zG 132 du (fun e=>sX e.1.2.2) 0 0 (fun e t l j=>.i t) (fun e t l j=>zD.D.flat e.1.1 e.1.2.1 e.1.2.2)
theorem S132:(C132).Sound pG :=
  fsn mixed (C132) (n:=12) (rs:=rsOf pG 132) [] [0] (gj (gI 2) []) (fun i=>(.g 1 (.drw (.q [0,1,2,3,4,5,6,7,8,9] [.C 0 0,.C 0 1] .ret)))) Tryz.func132
def K132:SCon El pG:=⟨C132,S132,Tryz.call132⟩
def C102:Con El:=zG 102 du (fun e=>rF e.1.2.2) 0 0 (fun e t l j=>.i t) (fun e t l j=>zD.D.flat e.1.1 e.1.2.1 e.1.2.2)
theorem S102:(C102).Sound pG :=
  fsn mixed (C102) (n:=10) (rs:=rsOf pG 102) [] [0] (gj (gI 2) []) (fun i=>(.g 1 (.drw (.q [0,1,2,3,4] [.C 0 2] (.a 5 (.call K132 [.K 0] [0]) [.C 0 2] (.q [6,7] [] .ret)))))) Tryz.func102
def K102:SCon El pG:=⟨C102,S102,Tryz.call102⟩
def C69:Con El:=zG 69 du (fun e=>uV e.1.2.2) 0 0 (fun e t j i=>.tuple #[]) (fun e t j i=>zD.D.flat e.1.1 e.1.2.1 t)
theorem S69:(C69).Sound pG :=
  fsn mixed (C69) (n:=14) (rs:=rsOf pG 69) [] [0] (gj (gO zD.D [0]) []) (fun i=>(.drw (.q [0,1,2,4,5,6,7] [.C 0 0] (.a 3 (.call K102 [.K 0] [0]) [.C 0 0] (.q [8,9] [] (.a 10 (.sto 0) [] (.q [11,12] [] (.a 13 (.sto 0) [] .leaf)))))))) Tryz.func69
def K69:SCon El pG:=⟨C69,S69,Tryz.call69⟩
def C79:Con El:=zG 79 C46p (fun i=>sU i.1) 0 0 (fun i t j e=>.bool t) (fun i t j e=>[])
theorem S79:(C79).Sound pG :=
  fsn mixed (C79) (n:=9) (rs:=rsOf pG 79) [] [] (gj (gB 2) []) (fun i=>(.g 1 (.g 3 (.pj 5 (Bool) mB (gB 2) (fun st e=>([(2,.bool e)]++kp [] st,ka [] st)) (.g 4 .leaf) (.g 4 .leaf) .ret)))) Tryz.func79
def K79:SCon El pG:=⟨C79,S79,Tryz.call79⟩
abbrev AR:List (PK El):=[pO zg.D,pV zB.dv zB.val]
def C103:Con El:=zG 103 AR (fun l=>yy l.1.2.2 l.2.1) 2 2 (fun l t j e=>.tuple #[.agg #[.i t.1.At,.i t.1.Gen],.bool t.2.1]) (fun l t j e=>zg.D.flat l.1.1 (zg.A.mk (na e 0) (nn j 0) (na e 1) (nn j 1)) t.2.2)
abbrev nq_0:Nx El:=nA zg.D [0,1,2] (fun e=>([e.l_c,e.free_c],[e.l_b,e.free_b]))
theorem S103:(C103).Sound pG :=
  fsn mixed (C103) (n:=81) (rs:=rsOf pG 103) [.C 2000 0,.C 2000 1] [0,1,2] (gj (g2 (gC 2000 0 2 ze.dec) (g2 (gB 5) (gO zg.D [0,1,2]))) [nq_0]) (fun i=>(.s (.new 3 []) (.s (.new 4 []) (.g 1 (.s (.seg 6 [.C 0 1]) (.s (.seg 7 [.C 0 2]) (.g 2 (.joinR (Int × zg) 2 2 (gj (g2 (gI 6) (gO zg.D [0,1,2])) [nq_0]) (fun e t l j=>match (gP 0) e with|some u=>([(6,.i t.1)]++kp [0,3,4] e,ka [4,3] e++zipL [0,1,2] (zg.D.flat (u) (zg.A.mk (na j 0) (nn l 0) (na j 1) (nn l 1)) t.2))|none=>([],[])) (.cond (.s (.seg 5 [.C 0 2]) (.s (.idx false 2 (.tmp 26) 2) (.s (.seg 3 [.A 2,.X 2 2 0]) (.s (.seg 6 [.C 0 2]) (.s (.cut false 2 none (some (.tmp 34)) 1003) (.s (.seg 3 [.W 1003]) (.s (.sto 0) (.s (.own 1003 2) .leaf)))))))) (.s (.seg 6 [.C 0 0]) (.cond (.g 1 (.s (.sto 4) (.g 1 (.rk (rb 2000 [4]) .ret)))) (.s (.seg 6 [.C 0 1]) (.s (.bld 6 2 213) (.s (.app 1 (.O 6)) (.g 2 (.s (.sto 0) .leaf)))))))) (.s (.seg 5 [.C 0 1]) (.s (.idx false 1 (.tmp 59) 4) (.s (.seg 2 [.A 4]) (.s (.seg 7 [.X 4 1 0]) (.s (.sset 1 4 0) (.s (.rlc 4 0 1) (.drw (.q [0,1,2,3,4] [.C 3 0,.C 3 1,.C 3 2] (.a 5 (.sset 1 4 1) [.C 3 0,.C 3 1,.C 3 2] (.s (.rlc 4 0 1) (.q [6,7] [] (.a 8 (.sset 1 4 2) [] (.s (.rlc 4 0 1) (.s (.seg 6 [.X 4 1 0]) (.s (.sto 4) (.g 1 (.rk (rb 2000 [4]) .ret))))))))))))))))))))))))) Tryz.func103
def K103:SCon El pG:=⟨C103,S103,Tryz.call103⟩
abbrev C70p:List (PK El):=[pO zj.D,pI .i64]
def C70:Con El:=zG 70 C70p (fun e=>uh e.1.2.2 e.2.1) 2 2 (fun e t l j=>.tuple #[.agg #[.i t.1.At,.i t.1.Gen],.i t.2.1]) (fun e t l j=>zj.D.flat e.1.1 (zj.A.mk e.1.2.1.heaps_p (zg.A.mk (na j 0) (nn l 0) (na j 1) (nn l 1)) e.1.2.1.items_p e.1.2.1.items_a e.1.2.1.at__p) t.2.2)
abbrev nq_1:Nx El:=nA zj.D rg_7 (fun e=>([e.heaps_a.l_c,e.heaps_a.free_c],[e.heaps_a.l_b,e.heaps_a.free_b]))
theorem S70:(C70).Sound pG :=
  fsn mixed (C70) (n:=26) (rs:=rsOf pG 70) [.C 2000 0,.C 2000 1] rg_7 (gj (g2 (gC 2000 0 2 ze.dec) (g2 (gI 5) (gO zj.D rg_7))) [nq_1]) (fun i=>(.s (.new 8 []) (.g 1 (.g 1 (.s (.call K79 [] []) (.g 1 (.cond (.g 1 (.s (.sto 8) (.g 1 (.rk (rb 2000 [8]) .ret)))) (.s (.seg 6 [.C 0 0]) (.s (.call K103 [.K 1,.K 2,.K 3] [1,2,3]) (.g 3 (.s (.new 9 []) (.s (.sto 9) (.g 1 (.g 2 (.cond (.g 1 (.s (.sto 8) (.g 1 (.rk (rb 2000 [8]) .ret)))) (.s (.seg 1 [.C 9 0,.C 9 1]) (.s (.sto 8) (.g 1 (.rk (rb 2000 [8]) .ret))))))))))))))))))) Tryz.func70
def K70:SCon El pG:=⟨C70,S70,Tryz.call70⟩
abbrev cU:List (PK El):=[pO zg.D,pV ze.dv ze.val]
def C175:Con El:=eF 175 cU (fun e=>yL e.1.2.2 e.2.1) 0 0 (fun e t l j=>.tuple #[elemV e.1.2.1.l_b 5 t.1,.i t.2]) (fun e t l j=>zg.D.flat e.1.1 e.1.2.1 e.1.2.2) (fun e t=>t.1)
theorem S175:(C175).Sound pG :=
  fsn mixed (C175) (n:=61) (rs:=rsOf pG 175) [] [0,1,2] (gj (g2 gE (gI 5)) []) (fun i=>(.s (.new 3 []) (.g 2 (.join (Bool) 0 0 (gj (gB 38) []) (fun e j t l=>([(38,.bool j)]++kp [0,3] e,ka [3,0,1,2] e)) (.drw (.q [0,1,2,3] [.C 3 0] (.split 10 (.q [4,5,6,7,8,9,10,11,12,13,14,15,16,17,18,19,20,21,22,23,24,25,26,27,28,29,30,31] [] .leaf) (.q [4,5,6,7,8,9,10,11,12,13] [.C 3 0,.C 0 1] (.split 20 (.q [14,15,16,17,18,19,20,21,22,23,24,25,26,27,28,29,30,31] [] .leaf) (.q [14,15,16,17,18] [.C 3 1] (.split 25 (.q [19,20,21,22,23,24,25,26,27,28,29,30,31] [] .leaf) (.q [19,20,21,22,23,24,25,26] [.C 3 1,.C 0 1,.C 3 0] (.s (.idx false 1 (.tmp 33) 2) (.q [27,28,29,30,31] [.A 2,.X 2 1 0] .leaf)))))))))) (.cond (.g 2 .ret) (.drw (.q [0,1,2,3,4,5] [.C 0 1,.C 3 0] (.s (.idx false 1 (.tmp 44) 4) (.q [6,7] [.A 4] (.drw (.q rg_7 [.C 3 1,.X 4 1 0] (.pj 53 (Bool) mB (gB 59) (fun st j=>([(59,.bool j)]++kp [6] st,ka [0,1,2,3] st)) (.q [8,9,10,11,12,13] [] .leaf) (.q [8,9,10,11,12,13] [.X 4 1 1] .leaf) (.cond (.g 2 .ret) (.g 3 (.s (.el 4 4) .ret))))))))))))))) Tryz.func175
def K175:SCon El pG:=⟨C175,S175,Tryz.call175⟩
def C120:Con El:=zG 120 cU (fun e=>ym e.1.2.2 e.2.1) 0 0 (fun e t l j=>.tuple #[.agg #[.i t.1.kind,.i t.1.root,.i t.1.n],.i t.2]) (fun e t l j=>zg.D.flat e.1.1 e.1.2.1 e.1.2.2)
theorem S120:(C120).Sound pG :=
  fsn mixed (C120) (n:=23) (rs:=rsOf pG 120) [.C 2000 0,.C 2000 1,.C 2000 2] [0,1,2] (gj (g2 (gC 2000 0 3 zB.dec) (gI 5)) []) (fun i=>(.s (.new 3 []) (.s (.new 4 []) (.g 1 (.s (.seg 2 [.C 3 0,.C 3 1]) (.s (.call K175 [.K 0,.K 1,.K 2] [0,1,2]) (.eo 12 0 1 0 (.g 5 (.g 2 (.cond (.s (.new 5 []) (.s (.seg 2 [.C 5 0,.C 5 1,.C 5 2]) (.s (.sto 4) (.g 1 (.rk (rb 2000 [4]) .ret))))) .dead))) (.g 5 (.g 2 (.cond (.s (.new 6 []) (.s (.seg 2 [.C 6 0,.C 6 1,.C 6 2]) (.s (.sto 4) (.g 1 (.rk (rb 2000 [4]) .ret))))) (.s (.seg 4 [.X 0 1 2,.X 0 1 3,.X 0 1 4]) (.s (.sto 4) (.g 1 (.rk (rb 2000 [4]) .ret)))))))))))))) Tryz.func120
def K120:SCon El pG:=⟨C120,S120,Tryz.call120⟩
abbrev C76p:List (PK El):=[pO zj.D,pV ze.dv ze.val]
def C76:Con El:=zG 76 C76p (fun e=>yY e.1.2.2 e.2.1) 0 0 (fun e t l j=>.tuple #[.i t.1,.i t.2.1,.i t.2.2.1,.i t.2.2.2]) (fun e t l j=>zj.D.flat e.1.1 e.1.2.1 e.1.2.2)
theorem S76:(C76).Sound pG :=
  fsn mixed (C76) (n:=26) (rs:=rsOf pG 76) [] rg_7 (gj (g2 (gI 4) (g2 (gI 5) (g2 (gI 6) (gI 7)))) []) (fun i=>(.s (.new 8 []) (.g 4 (.jg (zB × Int) 1 0 (gj (g2 (gC 11 0 3 zB.dec) (gI 9)) [nPk 11]) (fun j l e t=>([(8,.pointer (some ⟨(nn e 0),0,none⟩)),(9,.i l.2)]++kp [] j,ka rg_7 j++zipL [11] [.blk (nn e 0) 175 [.i l.1.kind,.i l.1.root,.i l.1.n]])) (.drw (.q [0,1,2,3,4] [.C 0 0,.C 8 0,.C 8 1] (.alt2 5 (.call K120 [.K 1,.K 2,.K 3] [1,2,3]) [] (.q [6,7,8] [] (.a 9 (.new 12 []) [] (.a 10 (.sto 12) [] (.q [11] [] (.rk (rb 11 [12]) .leaf))))) 9 (.new 13 []) [.C 8 0,.C 8 1,.C 0 0] (.a 5 (.call K120 [.K 1,.K 2,.K 3] [1,2,3]) [] (.q [6,7,8] [] (.a 10 (.sto 13) [] (.q [11] [] (.rk (rb 11 [13]) .leaf)))))))) (.drw (.q [0,1,2,3,4,5,6,7,8,9,10] [.C 11 0,.C 11 1,.C 11 2] .ret)))))) Tryz.func76
def K76:SCon El pG:=⟨C76,S76,Tryz.call76⟩
def C78:Con El:=zG 78 C46p (fun j=>vc j.1) 0 0 (fun j t l e=>.agg #[.i t.Why,.i t.Heap.At,.i t.Heap.Gen,.i t.Item.At,.i t.Item.Gen,.i t.Entry.Key,.i t.Entry.Serial,.i t.N]) (fun j t l e=>[])
theorem S78:(C78).Sound pG :=
  fsn mixed (C78) (n:=5) (rs:=rsOf pG 78) [.C 2000 0,.C 2000 1,.C 2000 2,.C 2000 3,.C 2000 4,.C 2000 5,.C 2000 6,.C 2000 7] [] (gj (gC 2000 0 8 zJ.dec) []) (fun i=>(.s (.new 0 []) (.g 2 (.s (.sto 0) (.rk (rb 2000 [0]) .ret))))) Tryz.func78
def K78:SCon El pG:=⟨C78,S78,Tryz.call78⟩
abbrev kX:List (PK El):=[pO zd.D]
def C133:Con El:=zG 133 kX (fun e=>yM e.1.2.2) 0 0 (fun e t l j=>.i t) (fun e t l j=>zd.D.flat e.1.1 e.1.2.1 e.1.2.2)
theorem S133:(C133).Sound pG :=
  fsn mixed (C133) (n:=14) (rs:=rsOf pG 133) [] [0,1,2] (gj (gI 2) []) (fun i=>(.g 1 (.drw (.q rg_11 [.C 0 1,.C 0 2] .ret)))) Tryz.func133
def K133:SCon El pG:=⟨C133,S133,Tryz.call133⟩
abbrev AU:List (PK El):=[pO zj.D]
def C104:Con El:=zG 104 AU (fun e=>vN e.1.2.2) 0 0 (fun e t l j=>.i t) (fun e t l j=>zj.D.flat e.1.1 e.1.2.1 e.1.2.2)
theorem S104:(C104).Sound pG :=
  fsn mixed (C104) (n:=8) (rs:=rsOf pG 104) [] rg_7 (gj (gI 2) []) (fun i=>(.g 1 (.s (.seg 4 [.C 0 1]) (.s (.call K133 [.K 4,.K 5,.K 6] [4,5,6]) (.g 1 .ret))))) Tryz.func104
def K104:SCon El pG:=⟨C104,S104,Tryz.call104⟩
abbrev A7:List (PK El):=[pO zD.D,pI .i64]
def C185:Con El:=zG 185 A7 (fun e=>xg e.1.2.2 e.2.1) 0 0 (fun e t j i=>.tuple #[]) (fun e t j i=>zD.D.flat e.1.1 e.1.2.1 t)
theorem S185:(C185).Sound pG :=
  fsn mixed (C185) (n:=14) (rs:=rsOf pG 185) [] [0] (gj (gO zD.D [0]) []) (fun i=>(.s (.seg 7 [.C 0 0]) (.s (.call K92 [] []) (.g 2 (.s (.sto 0) .leaf))))) Tryz.func185
def K185:SCon El pG:=⟨C185,S185,Tryz.call185⟩
theorem tU {w0 w:World}{As:List HP}{e:Nat}{m_:zD}{n:Int}{t:zD}  (hm:xg m_ n=some t)(H:St w0 (zD.R e m_::As) w) :
    xw pG 185 #[.pointer (some ⟨e,0,none⟩),.i n] w fun v w'=>v = .tuple #[]/\St w0 (zD.R e t::As) w':=by
  replace H:=(fs0 fun As=>zD.D_st).1 H;refine (S185 ((e,(),m_),n,()) t hm w0 w (As) rd0 H).mono ?_;rintro v w' ⟨u,j,hn,ha,hv,H,l⟩;obtain rfl:=ls0 hn;obtain rfl:=ls0 ha;refine⟨hv,?_⟩;refine (fs0 fun As=>zD.D_st).2 ?_;exact H
def C186:Con El:=zG 186 C99p (fun l=>ra) 0 0 (fun l t j e=>.agg #[.i t.f0,.i t.f1,.i t.f2,.i t.f3,.i t.f4,.i t.f5,.i t.f6,.i t.f7,.i t.f8,.i t.f9,.bool t.taken]) (fun l t j e=>[])
theorem S186:(C186).Sound pG :=
  fsn mixed (C186) (n:=16) (rs:=rsOf pG 186) [.C 2000 0,.C 2000 1,.C 2000 2,.C 2000 3,.C 2000 4,.C 2000 5,.C 2000 6,.C 2000 7,.C 2000 8,.C 2000 9,.C 2000 10] [] (gj (gC 2000 0 11 zs.dec) []) (fun i=>(.s (.new 0 []) (.g 1 (.s (.new 1 []) (.s (.sto 1) (.s (.bld 2 1 3) (.g 2 (.unr (.g 1 (.sF (.blk (.s (.idk false 2 (.tmp 7) 0) (.s (.seg 3 [.A 0,.X 0 2 0]) (.g 2 (.s (.gd 12 (.tmp 11) 0) (.s (.seg 1 [.Q 0]) (.s (.sto 1) (.g 2 (.unr (.g 1 (.sF (.blk (.s (.idk false 2 (.tmp 7) 1) (.s (.seg 3 [.A 1,.X 1 2 0]) (.g 2 (.s (.gd 12 (.tmp 11) 1) (.s (.seg 1 [.Q 1]) (.s (.sto 1) (.g 2 (.unr (.g 1 (.sF (.blk (.s (.idk false 2 (.tmp 7) 2) (.s (.seg 3 [.A 2,.X 2 2 0]) (.g 2 (.s (.gd 12 (.tmp 11) 2) (.s (.seg 1 [.Q 2]) (.s (.sto 1) (.g 2 (.unr (.g 1 (.sF (.blk (.s (.idk false 2 (.tmp 7) 3) (.s (.seg 3 [.A 3,.X 3 2 0]) (.g 2 (.s (.gd 12 (.tmp 11) 3) (.s (.seg 1 [.Q 3]) (.s (.sto 1) (.g 2 (.unr (.g 1 (.sF (.blk (.s (.idk false 2 (.tmp 7) 4) (.s (.seg 3 [.A 4,.X 4 2 0]) (.g 2 (.s (.gd 12 (.tmp 11) 4) (.s (.seg 1 [.Q 4]) (.s (.sto 1) (.g 2 (.unr (.g 1 (.sF (.blk (.s (.idk false 2 (.tmp 7) 5) (.s (.seg 3 [.A 5,.X 5 2 0]) (.g 2 (.s (.gd 12 (.tmp 11) 5) (.s (.seg 1 [.Q 5]) (.s (.sto 1) (.g 2 (.unr (.g 1 (.vQ (.s (.seg 1 [.C 1 0,.C 1 1,.C 1 2,.C 1 3,.C 1 4,.C 1 5,.C 1 6,.C 1 7,.C 1 8,.C 1 9,.C 1 10]) (.s (.sto 0) (.rk (rb 2000 [0]) .ret))))))))))))))))))))))))))))))))))))))))))))))))))))))))))))))))))))))))))))))) Tryz.func186
def K186:SCon El pG:=⟨C186,S186,Tryz.call186⟩
def C134:Con El:=zG 134 C51p (fun e=>w6 e.1.2.2) 1 1 (fun e t l j=>.tuple #[.i t.1,.bool t.2.1]) (fun e t l j=>zb.D.flat e.1.1 (zb.A.mk e.1.2.1.l_b e.1.2.1.l_c (na j 0) (nn l 0) e.1.2.1.m__p) t.2.2)
abbrev nq_2:Nx El:=nA zb.D [0,1,2,3] (fun e=>([e.free_c],[e.free_b]))
theorem S134:(C134).Sound pG :=
  fsn mixed (C134) (n:=61) (rs:=rsOf pG 134) [] [0,1,2,3] (gj (g2 (gI 2) (g2 (gB 3) (gO zb.D [0,1,2,3]))) [nq_2]) (fun i=>(.g 2 (.s (.seg 4 [.C 0 3]) (.s (.call K185 [.K 3] [3]) (.s (.seg 5 [.C 0 1]) (.s (.seg 7 [.C 0 2]) (.g 2 (.joinR (Int × zb) 1 1 (gj (g2 (gI 4) (gO zb.D [0,1,2,3])) [nq_2]) (fun e u t l=>match (g2 (gP 0) (gA zb.D [0,1,2,3])) e with|some j=>([(4,.i u.1)]++kp [0] e,ka [] e++zipL [0,1,2,3] (zb.D.flat (j.1) (zb.A.mk (j.2.l_b) (j.2.l_c) (na l 0) (nn t 0) (j.2.m__p)) u.2))|none=>([],[])) (.cond (.s (.seg 5 [.C 0 2]) (.s (.idx false 2 (.tmp 27) 2) (.s (.seg 3 [.A 2,.X 2 2 0]) (.s (.seg 6 [.C 0 2]) (.s (.cut false 2 none (some (.tmp 35)) 1003) (.s (.seg 3 [.W 1003]) (.s (.sto 0) (.s (.own 1003 2) .leaf)))))))) (.s (.seg 7 [.C 0 0]) (.cond (.g 2 .ret) (.s (.seg 7 [.C 0 1]) (.s (.sto 0) .leaf))))) (.drw (.q [0,1,2,3,4] [.C 0 0] (.a 5 (.call K186 [] []) [.C 0 0] (.s (.idx false 1 (.tmp 57) 5) (.q [6] [.A 5] (.a 7 (.sset 1 5 0) [] (.s (.rlc 5 0 0) (.g 3 .ret)))))))))))))))) Tryz.func134
def K134:SCon El pG:=⟨C134,S134,Tryz.call134⟩
abbrev u9:List (PK El):=[pO zb.D,pI .i64]
def C199:Con El:=zG 199 u9 (fun e=>yb e.1.2.2 e.2.1) 0 0 (fun e t j i=>.bool t) (fun e t j i=>zb.D.flat e.1.1 e.1.2.1 e.1.2.2)
theorem S199:(C199).Sound pG :=
  fsn mixed (C199) (n:=26) (rs:=rsOf pG 199) [] [0,1,2,3] (gj (gB 4) []) (fun i=>(.g 1 (.join (Bool) 0 0 (gj (gB 4) []) (fun e t l j=>([(4,.bool t)]++kp [] e,ka [0,1,2,3] e)) (.g 3 (.split 7 (.s (.seg 9 [.C 0 0]) (.split 16 (.s (.seg 5 [.C 0 0]) (.s (.idx false 1 (.tmp 21) 2) (.s (.seg 5 [.A 2,.X 2 1 10]) .leaf))) (.g 10 .leaf))) (.g 19 .leaf))) .ret))) Tryz.func199
def K199:SCon El pG:=⟨C199,S199,Tryz.call199⟩
abbrev wD:List (PK El):=[pO zb.D,pI .i64,pI .i64]
def C187:Con El:=zG 187 wD (fun e=>xN e.1.2.2 e.2.1 e.2.2.1) 0 0 (fun e t j i=>.bool t) (fun e t j i=>zb.D.flat e.1.1 e.1.2.1 e.1.2.2)
theorem S187:(C187).Sound pG :=
  fsn mixed (C187) (n:=18) (rs:=rsOf pG 187) [] [0,1,2,3] (gj (gB 6) []) (fun i=>(.g 1 (.join (Bool) 0 0 (gj (gB 6) []) (fun e t l j=>([(6,.bool t)]++kp [] e,ka [0,1,2,3] e)) (.g 2 (.s (.call K199 [.K 0,.K 1,.K 2,.K 3] [0,1,2,3]) (.g 1 (.split 10 (.g 4 (.split 14 (.g 4 .leaf) (.g 4 .leaf))) (.g 8 .leaf))))) .ret))) Tryz.func187
theorem sg {w0 w:World}{As:List HP}{j:Nat}{e:zb.A}{a_:zb}{l:Int}{field:Int}{t:Bool}  (hm:xN a_ l field=some t)(H:St w0 (zb.R j e a_::As) w) :
    xw pG 187 #[.pointer (some ⟨j,0,none⟩),.i l,.i field] w fun v w'=>v = .bool t/\St w0 (zb.R j e a_::As) w':=by
  replace H:=(fs0 fun As=>zb.D_st).1 H;refine (S187 ((j,e,a_),l,field,()) t hm w0 w (As) rd0 H).mono ?_;rintro v w' ⟨y,u,hn,ha,hv,H,x⟩;obtain rfl:=ls0 hn;obtain rfl:=ls0 ha;refine⟨hv,?_⟩;refine (fs0 fun As=>zb.D_st).2 ?_;exact H
theorem qR {w0 w:World}{As:List HP}{z:Nat}{e:zb.A}{a_:zb}{B:Int}{field:Int}{v_:Int}{t:Bool × zb}  (hm:zx a_ B field v_=some t)(H:St w0 (zb.R z e a_::As) w) :
    xw pG 135 #[.pointer (some ⟨z,0,none⟩),.i B,.i field,.i v_] w fun v w'=>v = .bool t.1/\St w0 (zb.R z e t.2::As) w':=by
 rw[zx] at hm;refine enter (args:=[.pointer (some ⟨z,0,none⟩),.i B,.i field,.i v_]) Tryz.func135 rfl rfl rfl fun a j=>?_
 refine Runs.sr ?_;refine WR.seg j 1 [] [0,1,2,3] (Lo:=[(0,.pointer (some ⟨z,0,none⟩)),(1,.i B),(2,.i field),(3,.i v_)]) (obs:=[]) rfl (by kernel_rfl) trivial fun a j=>?_
 refine WR.done rfl ?_;refine Runs.sr ?_;replace H:=zb.open H;refine WR.d j 4 [.pointer (some ⟨e.m__p,0,none⟩)] [(12,.pointer (some ⟨e.m__p,0,none⟩))] (obs:=[.cell ⟨z,3,none⟩ (.pointer (some ⟨e.m__p,0,none⟩))]) ⟨H.cell 0 rfl rfl,trivial⟩ fun a j=>?_
 obtain⟨t_,F,hm⟩:=bind_some hm;refine WR.eff j rfl rfl rfl rfl (OpTo.fn j rfl rfl Tryz.call185 (tU F H.t3)) ?_;rintro _ w ⟨rfl,H⟩ a j;refine WR.done rfl ?_;refine Runs.seq ?_;refine Runs.sr ?_;refine WR.d0 j 3 [(14,.pointer (some ⟨z,0,none⟩)),(15,.i B),(16,.i field)] fun a j=>?_
 replace H:=zb.shut e (zb.mk a_.l a_.never a_.free t_) H.t3.t3.t3;obtain⟨I,D,hm⟩:=bind_some hm;refine WR.eff j rfl rfl rfl rfl (OpTo.fn j rfl rfl Tryz.call187 (sg D H)) ?_;rintro _ w ⟨rfl,H⟩ a j;refine WR.e0 j [(18,.bool (!I))] fun a j=>?_
 refine Runs.cond j rfl (fun c=>?_) (fun c=>?_)
 ·replace hm:=uF c hm;refine Runs.sr ?_;refine WR.e0 j [(8,.bool false)] fun a j=>?_
  refine Runs.ret j Tryz.func135 rfl rfl ?_;cases hm;exact⟨rfl,H⟩
 ·replace hm:=uE c hm;refine Runs.skip ?_;refine Runs.sr ?_;replace H:=zb.open H
  try dsimp only at H
  obtain⟨x,ex,hm⟩:=bind_some hm;obtain⟨b,o,hs,S⟩:=SlRd.base (wZ 235 zs.enc 11 _ _ _) zs.yN H 1 rfl ex;obtain⟨u,J,hm⟩:=bind_some hm;refine WR.d j 10 [.slice e.l_b a_.l.length e.l_c,.pointer (some ⟨b,o,none⟩)] [(25,.i v_),(28,.pointer (some ⟨b,o+(Int.toNat B)*11+(Int.toNat field)*1,none⟩))] (obs:=[.cell ⟨z,0,none⟩ (.slice e.l_b a_.l.length e.l_c),.p ((e.l_b:Option Addr)=some ⟨b,o,none⟩),.p (0<=(B:Int)/\(B:Int)<((a_.l.length:Nat):Int)),.p (0<=(field:Int)/\(field:Int)<((10:Nat):Int))]) ⟨H.cell 0 rfl rfl,hs,S,lz J,trivial⟩ fun a j=>?_
  obtain⟨y,O,hm⟩:=bind_some hm;refine WR.eff0 j rfl rfl rfl (OpTo.lW (q:=(Int.toNat field)*1) (x':=y) j H.t1 zs.yN rfl hs ex rfl rfl rfl rfl rfl (by have:=lz J;show (Int.toNat field)*1+1<=11;omega) (zs.gR O)) ?_;rintro _ w H a j;rw[<- oJ a_.l B y] at H;refine WR.done rfl ?_;refine Runs.sr ?_;refine WR.e0 j [(8,.bool true)] fun a j=>?_
  replace H:=zb.shut e (zb.mk (mSet a_.l B y) a_.never a_.free t_) H.t3.t3.t2.t3;refine Runs.ret j Tryz.func135 rfl rfl ?_;cases hm;exact⟨rfl,H⟩
abbrev aw:List (PK El):=[pO zb.D,pI .i64,pI .i64,pI .i64]
def C135:Con El:=zG 135 aw (fun e=>zx e.1.2.2 e.2.1 e.2.2.1 e.2.2.2.1) 0 0 (fun e t j i=>.bool t.1) (fun e t j i=>zb.D.flat e.1.1 e.1.2.1 t.2)
theorem S135:(C135).Sound pG:=fun i t hm w0 w F hr H=>by
  obtain⟨⟨p0,j,x0⟩,x1,x2,x3,_⟩:=i;have e:St w0 (zb.R p0 j x0::F) w:=by
    refine (fs0 fun As=>zb.D_st).2 ?_;exact H
  refine (qR (show zx x0 x1 x2 x3=some t from hm) e).mono ?_;rintro v w' ⟨hv,H⟩;refine⟨[],[],rfl,rfl,hv,?_,fun _ h=>by cases h⟩;replace H:=(fs0 fun As=>zb.D_st).1 H;exact H
def K135:SCon El pG:=⟨C135,S135,Tryz.call135⟩
def C105:Con El:=zG 105 wD (fun e=>oE e.1.2.2 e.2.1 e.2.2.1) 1 1 (fun e t l j=>.tuple #[.i t.1,.bool t.2.1]) (fun e t l j=>zb.D.flat e.1.1 (zb.A.mk e.1.2.1.l_b e.1.2.1.l_c (na j 0) (nn l 0) e.1.2.1.m__p) t.2.2)
theorem S105:(C105).Sound pG :=
  fsn mixed (C105) (n:=28) (rs:=rsOf pG 105) [] [0,1,2,3] (gj (g2 (gI 6) (g2 (gB 7) (gO zb.D [0,1,2,3]))) [nq_2]) (fun i=>(.g 2 (.g 2 (.vQ (.g 1 (.s (.call K134 [.K 0,.K 1,.K 2,.K 3] [0,1,2,3]) (.g 5 (.g 1 (.join (zb) 0 0 (gj (gO zb.D [0,1,2,3]) []) (fun e u t l=>match (g2 (gP 0) (gA zb.D [0,1,2,3])) e with|some j=>([]++kp [8,9] e,ka [] e++zipL [0,1,2,3] (zb.D.flat (j.1) (zb.A.mk (j.2.l_b) (j.2.l_c) (j.2.free_b) (j.2.free_c) (j.2.m__p)) u))|none=>([],[])) (.cond (.g 3 (.s (.call K135 [.K 0,.K 1,.K 2,.K 3] [0,1,2,3]) (.g 3 (.s (.call K135 [.K 0,.K 1,.K 2,.K 3] [0,1,2,3]) .leaf)))) .leaf) (.g 4 .ret)))))))))) Tryz.func105
def K105:SCon El pG:=⟨C105,S105,Tryz.call105⟩
def C224:Con El:=zG 224 wD (fun e=>qf e.1.2.2 e.2.1 e.2.2.1) 0 0 (fun e t j i=>.tuple #[]) (fun e t j i=>zb.D.flat e.1.1 e.1.2.1 t)
theorem S224:(C224).Sound pG :=
  fsn mixed (C224) (n:=16) (rs:=rsOf pG 224) [] [0,1,2,3] (gj (gO zb.D [0,1,2,3]) []) (fun i=>(.g 2 (.sF (.g 3 (.s (.call K135 [.K 0,.K 1,.K 2,.K 3] [0,1,2,3]) (.g 3 (.s (.call K135 [.K 0,.K 1,.K 2,.K 3] [0,1,2,3]) .leaf))))))) Tryz.func224
def K224:SCon El pG:=⟨C224,S224,Tryz.call224⟩
def C188:Con El:=zG 188 u9 (fun e=>qi e.1.2.2 e.2.1) 1 1 (fun e t l j=>.tuple #[.i t.1,.bool t.2.1]) (fun e t l j=>zb.D.flat e.1.1 (zb.A.mk e.1.2.1.l_b e.1.2.1.l_c (na j 0) (nn l 0) e.1.2.1.m__p) t.2.2)
theorem S188:(C188).Sound pG :=
  fsn mixed (C188) (n:=20) (rs:=rsOf pG 188) [] [0,1,2,3] (gj (g2 (gI 4) (g2 (gB 5) (gO zb.D [0,1,2,3]))) [nq_2]) (fun i=>(.g 2 (.g 1 (.s (.call K134 [.K 0,.K 1,.K 2,.K 3] [0,1,2,3]) (.g 5 (.g 1 (.join (zb) 0 0 (gj (gO zb.D [0,1,2,3]) []) (fun e u t l=>match (g2 (gP 0) (gA zb.D [0,1,2,3])) e with|some j=>([]++kp [6,7] e,ka [] e++zipL [0,1,2,3] (zb.D.flat (j.1) (zb.A.mk (j.2.l_b) (j.2.l_c) (j.2.free_b) (j.2.free_c) (j.2.m__p)) u))|none=>([],[])) (.cond (.g 3 (.s (.call K224 [.K 0,.K 1,.K 2,.K 3] [0,1,2,3]) .leaf)) .leaf) (.g 4 .ret)))))))) Tryz.func188
def K188:SCon El pG:=⟨C188,S188,Tryz.call188⟩
def C225:Con El:=zG 225 C51p (fun e=>xz e.1.2.2) 0 0 (fun e t l j=>.i t) (fun e t l j=>zb.D.flat e.1.1 e.1.2.1 e.1.2.2)
theorem S225:(C225).Sound pG :=
  fsn mixed (C225) (n:=8) (rs:=rsOf pG 225) [] [0,1,2,3] (gj (gI 2) []) (fun i=>(.g 1 (.s (.seg 6 [.C 0 0]) .ret))) Tryz.func225
def K225:SCon El pG:=⟨C225,S225,Tryz.call225⟩
theorem sf {w0 w:World}{As:List HP}{y:Nat}{j:zb.A}{a_:zb}{B:Int}{field:Int}{t:Int × zb}  (hm:zR a_ B field=some t)(H:St w0 (zb.R y j a_::As) w) :
    xw pG 157 #[.pointer (some ⟨y,0,none⟩),.i B,.i field] w fun v w'=>v = .i t.1/\St w0 (zb.R y j t.2::As) w':=by
 rw[zR] at hm;refine enter (args:=[.pointer (some ⟨y,0,none⟩),.i B,.i field]) Tryz.func157 rfl rfl rfl fun a z=>?_
 refine Runs.sr ?_;refine WR.seg z 1 [] [0,1,2] (Lo:=[(0,.pointer (some ⟨y,0,none⟩)),(1,.i B),(2,.i field)]) (obs:=[]) rfl (by kernel_rfl) trivial fun a z=>?_
 refine WR.done rfl ?_;refine Runs.sr ?_;replace H:=zb.open H;refine WR.d z 4 [.pointer (some ⟨j.m__p,0,none⟩)] [(10,.pointer (some ⟨j.m__p,0,none⟩))] (obs:=[.cell ⟨y,3,none⟩ (.pointer (some ⟨j.m__p,0,none⟩))]) ⟨H.cell 0 rfl rfl,trivial⟩ fun a z=>?_
 obtain⟨t_,F,hm⟩:=bind_some hm;refine WR.eff z rfl rfl rfl rfl (OpTo.fn z rfl rfl Tryz.call185 (tU F H.t3)) ?_;rintro _ w ⟨rfl,H⟩ a z;refine WR.done rfl ?_;refine Runs.seq ?_;refine Runs.sr ?_;refine WR.d0 z 3 [(12,.pointer (some ⟨y,0,none⟩)),(13,.i B),(14,.i field)] fun a z=>?_
 replace H:=zb.shut j (zb.mk a_.l a_.never a_.free t_) H.t3.t3.t3;obtain⟨J,D,hm⟩:=bind_some hm;refine WR.eff z rfl rfl rfl rfl (OpTo.fn z rfl rfl Tryz.call187 (sg D H)) ?_;rintro _ w ⟨rfl,H⟩ a z;refine WR.e0 z [(16,.bool (!J))] fun a z=>?_
 refine Runs.cond z rfl (fun c=>?_) (fun c=>?_)
 ·replace hm:=uF c hm;refine Runs.sr ?_;refine WR.e0 z [(6,.i (-1))] fun a z=>?_
  refine Runs.ret z Tryz.func157 rfl rfl ?_;cases hm;exact⟨rfl,H⟩
 ·replace hm:=uE c hm;refine Runs.skip ?_;refine Runs.sr ?_;replace H:=zb.open H
  try dsimp only at H
  obtain⟨x,ex,hm⟩:=bind_some hm;obtain⟨b,o,hs,S⟩:=SlRd.base (wZ 235 zs.enc 11 _ _ _) zs.yN H 1 rfl ex;obtain⟨u,O,hm⟩:=bind_some hm;obtain⟨v_,I,hm⟩:=bind_some hm;refine WR.e z [.slice j.l_b a_.l.length j.l_c,.pointer (some ⟨b,o,none⟩),.i v_] [(6,.i v_)] (obs:=[.cell ⟨y,0,none⟩ (.slice j.l_b a_.l.length j.l_c),.p ((j.l_b:Option Addr)=some ⟨b,o,none⟩),.p (0<=(B:Int)/\(B:Int)<((a_.l.length:Nat):Int)),.p (0<=(field:Int)/\(field:Int)<((10:Nat):Int)),.cell ⟨b,o+(Int.toNat B)*11+(Int.toNat field)*1,none⟩ (.i v_)]) ⟨H.cell 0 rfl rfl,hs,S,lz O,SlRd.cells (wZ 235 zs.enc 11 _ _ _) zs.yN H 1 rfl hs ex ((Int.toNat field)*1) _ (zs.gp I),trivial⟩ fun a z=>?_
  replace H:=zb.shut j (zb.mk a_.l a_.never a_.free t_) H.t3.t3.t3.t3;refine Runs.ret z Tryz.func157 rfl rfl ?_;cases hm;exact⟨rfl,H⟩
def C157:Con El:=zG 157 wD (fun e=>zR e.1.2.2 e.2.1 e.2.2.1) 0 0 (fun e t l j=>.i t.1) (fun e t l j=>zb.D.flat e.1.1 e.1.2.1 t.2)
theorem S157:(C157).Sound pG:=fun i t hm w0 w F hr H=>by
  obtain⟨⟨p0,j,x0⟩,x1,x2,_⟩:=i;have e:St w0 (zb.R p0 j x0::F) w:=by
    refine (fs0 fun As=>zb.D_st).2 ?_;exact H
  refine (sf (show zR x0 x1 x2=some t from hm) e).mono ?_;rintro v w' ⟨hv,H⟩;refine⟨[],[],rfl,rfl,hv,?_,fun _ h=>by cases h⟩;replace H:=(fs0 fun As=>zb.D_st).1 H;exact H
def K157:SCon El pG:=⟨C157,S157,Tryz.call157⟩
def C197:Con El:=zG 197 wD (fun e=>zE e.1.2.2 e.2.1 e.2.2.1) 0 0 (fun e t l j=>.i t.1) (fun e t l j=>zb.D.flat e.1.1 e.1.2.1 t.2)
theorem S197:(C197).Sound pG :=
  fsn mixed (C197) (n:=24) (rs:=rsOf pG 197) [] [0,1,2,3] (gj (g2 (gI 6) (gO zb.D [0,1,2,3])) []) (fun i=>(.g 1 (.g 3 (.s (.call K157 [.K 0,.K 1,.K 2,.K 3] [0,1,2,3]) (.g 1 (.join (Bool) 0 0 (gj (gB 22) []) (fun e t l j=>([(22,.bool t)]++kp [7] e,ka [0,1,2,3] e)) (.g 3 (.split 14 (.g 8 .leaf) (.s (.seg 8 [.C 0 0]) .leaf))) (.cond (.g 1 .ret) (.g 2 .ret)))))))) Tryz.func197
def K197:SCon El pG:=⟨C197,S197,Tryz.call197⟩
def C264:Con El:=zG 264 u9 (fun e=>sS e.1.2.2 e.2.1) 0 0 (fun e t l j=>.agg #[.i t.1.Key,.i t.1.Serial]) (fun e t l j=>zb.D.flat e.1.1 e.1.2.1 t.2)
theorem S264:(C264).Sound pG :=
  fsn mixed (C264) (n:=15) (rs:=rsOf pG 264) [.C 2000 0,.C 2000 1] [0,1,2,3] (gj (g2 (gC 2000 0 2 zi.dec) (gO zb.D [0,1,2,3])) []) (fun i=>(.s (.new 4 []) (.g 2 (.vQ (.g 2 (.s (.call K157 [.K 0,.K 1,.K 2,.K 3] [0,1,2,3]) (.g 2 (.s (.call K157 [.K 0,.K 1,.K 2,.K 3] [0,1,2,3]) (.g 1 (.s (.sto 4) (.rk (rb 2000 [4]) .ret))))))))))) Tryz.func264
def K264:SCon El pG:=⟨C264,S264,Tryz.call264⟩
def C131:Con El:=zG 131 C46p (fun i=>vC i.1) 0 0 (fun i t j e=>.bool t) (fun i t j e=>[])
theorem S131:(C131).Sound pG :=
  fsn mixed (C131) (n:=6) (rs:=rsOf pG 131) [] [] (gj (gB 2) []) (fun i=>(.g 1 (.g 4 .ret))) Tryz.func131
def K131:SCon El pG:=⟨C131,S131,Tryz.call131⟩
def C98:Con El:=zG 98 C92p (fun e=>wO e.1 e.2.1) 0 0 (fun e t l j=>.i t) (fun e t l j=>[])
theorem S98:(C98).Sound pG :=
  fsn mixed (C98) (n:=20) (rs:=rsOf pG 98) [] [] (gj (gI 4) []) (fun i=>(.g 1 (.g 1 (.s (.call K131 [] []) (.g 1 (.g 1 (.s (.call K131 [] []) (.g 1 (.g 1 (.cond (.g 1 (.cond (.g 1 .ret) (.g 1 .ret))) (.g 1 (.cond (.g 1 .ret) (.g 3 (.cond (.g 1 .ret) (.g 3 (.cond (.g 1 .ret) (.g 1 .ret))))))))))))))))) Tryz.func98
def K98:SCon El pG:=⟨C98,S98,Tryz.call98⟩
abbrev C97p:List (PK El):=[pR 1]
def C97 (k:Nat):Con El:=zG 97 C97p (fun j=>qb k j.1.2.2) 0 0 (fun j t l e=>.i t) (fun j t l e=>[])
abbrev C97r (k:Nat)(i:Ins C97p):Kn El->VC (C97 k).T:=retC pG (C97 k) (rsOf pG 97) [] [] (gj (gI 2) []) i
def gb (l:Ins C97p):BCon El (Int):=⟨nav [1,1,0,1] (zK pG 97),Int,Int,Unit,(Int) ⊕ (Unit),fun r=>r,fun _ _=>none,fun t=>[(0,⟨1,l.1.1,l.1.2.1,l.1.2.2⟩)],fun t v_ j e=>[(3,.i 0),(6,.slice l.1.1 l.1.2.2.length l.1.2.1),(7,.i (t)),(8,.i v_)],fun t v_ j e=>[],0,0,fun t u j e=>[(3,.i 0)],fun t u j e=>[]⟩
def fB (k:Nat)(e:Ins C97p):Nat->(gb e).X->(gb e).V->Option (gb e).W:=fun m_ (i:Int) (v_:Int)=>vJ (i) e.1.2.2 m_ v_
theorem aY (k:Nat)(i:Ins C97p)(m:Nat):((gb i).at (fB k i) m).Sound pG 97 18 (C97r k i) :=
  lsn mixed (gb i) (id:=0) (body:=nav [1,1,0,1,0,0] (zK pG 97)) (fB k i) (fun r=>some (.inl r)) (fun u=>.inr u) (gj (gI 8) []) (gj gU []) (fun m=>(.g 1 (.cond (.blk (.s (.idx true 0 (.tmp 8) 2) (.s (.seg 3 [.A 2,.R 2 0]) (.g 3 (.cond (.g 2 .ret) (.g 2 .back)))))) .leaf))) m
theorem S97 (k:Nat):(C97 k).Sound pG :=
  fsn mixed (C97 k) (n:=18) (rs:=rsOf pG 97) [] [] (gj (gI 2) []) (fun i=>(.g 1 (.g 1 (.g 3 (.loop ⟨(gb i).at (fB k i) k,aY k i k⟩ (gl (gI 7) (gI 8) []) (.g 2 .ret)))))) Tryz.func97
def K97 (k:Nat):SCon El pG:=⟨C97 k,S97 k,Tryz.call97⟩
abbrev C66p:List (PK El):=[pV zi.dv zi.val,pV zi.dv zi.val]
def C66 (k:Nat):Con El:=zG 66 C66p (fun e=>wF k e.1 e.2.1) 0 0 (fun e t l j=>.i t) (fun e t l j=>[])
theorem S66 (k:Nat):(C66 k).Sound pG :=
  fsn mixed (C66 k) (n:=17) (rs:=rsOf pG 66) [] [] (gj (gI 4) []) (fun i=>(.s (.new 0 []) (.s (.new 1 []) (.g 1 (.drw (.q [0,1,2,3,5,6,7,8] [.C 0 0,.C 1 0,.C 0 1,.C 1 1] (.a 4 (.call K98 [] []) [.C 1 1,.C 0 1] (.a 9 (.call K98 [] []) [] (.a 10 (.bld 3 1 3) [] (.a 11 (.call (K97 k) [.O 3] []) [] (.q [12] [] .ret))))))))))) Tryz.func66
def K66 (k:Nat):SCon El pG:=⟨C66 k,S66 k,Tryz.call66⟩
def C245 (k:Nat):Con El:=zG 245 wD (fun e=>rh k e.1.2.2 e.2.1 e.2.2.1) 0 0 (fun e t j i=>.bool t.1) (fun e t j i=>zb.D.flat e.1.1 e.1.2.1 t.2)
theorem S245 (k:Nat):(C245 k).Sound pG :=
  fsn mixed (C245 k) (n:=26) (rs:=rsOf pG 245) [] [0,1,2,3] (gj (g2 (gB 6) (gO zb.D [0,1,2,3])) []) (fun i=>(.g 1 (.g 2 (.s (.call K264 [.K 0,.K 1,.K 2,.K 3] [0,1,2,3]) (.g 2 (.s (.call K264 [.K 0,.K 1,.K 2,.K 3] [0,1,2,3]) (.s (.call (K66 k) [] []) (.g 1 (.g 3 (.pj 17 (Bool) mB (gB 6) (fun st e=>([(6,.bool e)]++kp [] st,ka [0,1,2,3] st)) (.g 9 .leaf) (.g 3 (.pj 20 (Bool) mB (gB 6) (fun st e=>([(6,.bool e)]++kp [] st,ka [0,1,2,3] st)) (.g 6 .leaf) (.g 6 .leaf) .leaf)) .ret)))))))))) Tryz.func245
def K245 (k:Nat):SCon El pG:=⟨C245 k,S245 k,Tryz.call245⟩
def C211 (k:Nat):Con El:=zG 211 wD (fun e=>vF k e.1.2.2 e.2.1 e.2.2.1) 0 0 (fun e t j i=>.bool t.1) (fun e t j i=>zb.D.flat e.1.1 e.1.2.1 t.2)
theorem S211 (k:Nat):(C211 k).Sound pG :=
  fsn mixed (C211 k) (n:=15) (rs:=rsOf pG 211) [] [0,1,2,3] (gj (g2 (gB 6) (gO zb.D [0,1,2,3])) []) (fun i=>(.g 1 (.g 3 (.s (.call K197 [.K 0,.K 1,.K 2,.K 3] [0,1,2,3]) (.g 2 (.s (.call K197 [.K 0,.K 1,.K 2,.K 3] [0,1,2,3]) (.s (.call (K245 k) [.K 0,.K 1,.K 2,.K 3] [0,1,2,3]) (.g 1 .ret)))))))) Tryz.func211
def K211 (k:Nat):SCon El pG:=⟨C211 k,S211 k,Tryz.call211⟩
def C255:Con El:=zG 255 u9 (fun e=>tf e.1.2.2 e.2.1) 0 0 (fun e t l j=>.i t.1) (fun e t l j=>zb.D.flat e.1.1 e.1.2.1 t.2)
theorem S255:(C255).Sound pG :=
  fsn mixed (C255) (n:=10) (rs:=rsOf pG 255) [] [0,1,2,3] (gj (g2 (gI 4) (gO zb.D [0,1,2,3])) []) (fun i=>(.g 1 (.g 2 (.cond (.g 1 .ret) (.g 2 (.s (.call K157 [.K 0,.K 1,.K 2,.K 3] [0,1,2,3]) (.g 1 .ret))))))) Tryz.func255
def K255:SCon El pG:=⟨C255,S255,Tryz.call255⟩
def C226:Con El:=zG 226 u9 (fun e=>tQ e.1.2.2 e.2.1) 0 0 (fun e t j i=>.bool t.1) (fun e t j i=>zb.D.flat e.1.1 e.1.2.1 t.2)
theorem S226:(C226).Sound pG :=
  fsn mixed (C226) (n:=46) (rs:=rsOf pG 226) [] [0,1,2,3] (gj (g2 (gB 4) (gO zb.D [0,1,2,3])) []) (fun i=>(.g 1 (.g 2 (.s (.call K197 [.K 0,.K 1,.K 2,.K 3] [0,1,2,3]) (.g 2 (.s (.call K197 [.K 0,.K 1,.K 2,.K 3] [0,1,2,3]) (.g 2 (.g 2 (.s (.call K255 [.K 0,.K 1,.K 2,.K 3] [0,1,2,3]) (.g 2 (.s (.call K255 [.K 0,.K 1,.K 2,.K 3] [0,1,2,3]) (.g 2 (.g 3 (.join (Int × zb) 0 0 (gj (g2 (gI 8) (gO zb.D [0,1,2,3])) []) (fun e j u t=>match (g2 (gP 0) (gA zb.D [0,1,2,3])) e with|some l=>([(8,.i j.1)]++kp [0,1] e,ka [] e++zipL [0,1,2,3] (zb.D.flat (l.1) (l.2) j.2))|none=>([],[])) (.cond (.g 3 (.s (.call K135 [.K 0,.K 1,.K 2,.K 3] [0,1,2,3]) (.g 3 (.s (.call K135 [.K 0,.K 1,.K 2,.K 3] [0,1,2,3]) (.g 2 .leaf))))) .leaf) (.g 2 (.s (.call K157 [.K 0,.K 1,.K 2,.K 3] [0,1,2,3]) (.g 1 (.g 4 (.s (.call K135 [.K 0,.K 1,.K 2,.K 3] [0,1,2,3]) (.g 5 .ret)))))))))))))))))))) Tryz.func226
def K226:SCon El pG:=⟨C226,S226,Tryz.call226⟩
def C189 (k:Nat):Con El:=zG 189 wD (fun e=>wV k e.1.2.2 e.2.1 e.2.2.1) 0 0 (fun e t l j=>.i t.1) (fun e t l j=>zb.D.flat e.1.1 e.1.2.1 t.2)
abbrev aB (k:Nat)(i:Ins wD):Kn El->VC (C189 k).T:=retC pG (C189 k) (rsOf pG 189) [] [0,1,2,3] (gj (g2 (gI 6) (gO zb.D [0,1,2,3])) []) i
def nZ (l:Ins wD):BCon El (Int × zb):=⟨nav [1,1,1,0] (zK pG 189),Unit,Int × Int × (List Int) × zb,Int × Int × (List Int) × zb,Int × Int × (List Int) × zb,fun u=>.inr u,fun _ _=>none,fun x=>[],fun x v_ j e=>[(0,.pointer (some ⟨l.1.1,0,none⟩)),(1,.i v_.1),(2,.i v_.2.1),(7,.slice (na e 0) v_.2.2.1.length (nn j 0))],fun x v_ j e=>zipL [9] [.sl 1 3 (na e 0) (nn j 0) v_.2.2.1]++zipL [0,1,2,3] (zb.D.flat l.1.1 l.1.2.1 v_.2.2.2),1,1,fun x t j e=>[(0,.pointer (some ⟨l.1.1,0,none⟩)),(1,.i t.1),(2,.i t.2.1),(7,.slice (na e 0) t.2.2.1.length (nn j 0))],fun x t j e=>zipL [8] [.sl 1 3 (na e 0) (nn j 0) t.2.2.1]++zipL [0,1,2,3] (zb.D.flat l.1.1 l.1.2.1 t.2.2.2)⟩
def k0 (k:Nat)(e:Ins wD):Nat->(nZ e).X->(nZ e).V->Option (nZ e).W:=fun m_ (i:Unit) (v_:Int × Int × (List Int) × zb)=>wQ m_ v_.1 v_.2.1 v_.2.2.1 v_.2.2.2
theorem cX (k:Nat)(i:Ins wD)(m:Nat):((nZ i).at (k0 k i) m).Sound pG 189 75 (aB k i) :=
  lsn mixed (nZ i) (id:=0) (body:=nav [1,1,1,0,0,0] (zK pG 189)) (k0 k i) (fun _=>none) (fun u=>u) (gj (g2 (gI 1) (g2 (gI 2) (g2 (gL 1 9) (gO zb.D [0,1,2,3])))) [nSk 9]) (gj (g2 (gI 1) (g2 (gI 2) (g2 (gL 1 8) (gO zb.D [0,1,2,3])))) [nSk 8]) (fun m=>(.join (Bool) 0 0 (gj (gB 26) []) (fun e j t l=>([(26,.bool j)]++kp [0,1,2,7] e,ka [9,0,1,2,3] e)) (.g 3 (.split 16 (.g 4 (.split 20 (.g 3 (.s (.call K225 [.K 0,.K 1,.K 2,.K 3] [0,1,2,3]) (.g 2 .leaf))) (.g 6 .leaf))) (.g 10 .leaf))) (.cond (.blk (.g 3 (.s (.call (K211 m) [.K 0,.K 1,.K 2,.K 3] [0,1,2,3]) (.join (Int × Int) 0 0 (gj (g2 (gI 1) (gI 2)) []) (fun e j t l=>([(1,.i j.1),(2,.i j.2)]++kp [0,7] e,ka [0,1,2,3,9] e)) (.cond (.g 4 .leaf) .leaf) (.g 2 (.s (.bld 11 1 3) (.s (.app 9 (.O 11)) (.g 1 (.g 2 (.s (.call K197 [.K 0,.K 1,.K 2,.K 3] [0,1,2,3]) (.g 1 .back))))))))))) (.rk (rb 8 [9]) .leaf)))) m
def n0 (t:Ins wD):BCon El (Int × zb):=⟨nav [1,1,1,1,1,0,1] (zK pG 189),(List Int) × (Option Addr × Nat),Int × Int × zb,Int × zb,Int × zb,fun u=>.inr u,fun _ _=>none,fun e=>[],fun e v_ l j=>[(0,.pointer (some ⟨t.1.1,0,none⟩)),(7,.slice (e.2.1) (e.1).length (e.2.2)),(8,.i v_.1),(9,.i v_.2.1)],fun e v_ l j=>zipL [8] [.sl 1 3 (e.2.1) (e.2.2) (e.1)]++zipL [0,1,2,3] (zb.D.flat t.1.1 t.1.2.1 v_.2.2),0,0,fun e x l j=>[(0,.pointer (some ⟨t.1.1,0,none⟩)),(8,.i x.1)],fun e x l j=>zipL [0,1,2,3] (zb.D.flat t.1.1 t.1.2.1 x.2)⟩
def k5 (k:Nat)(e:Ins wD):Nat->(n0 e).X->(n0 e).V->Option (n0 e).W:=fun m_ (i:(List Int) × (Option Addr × Nat)) (v_:Int × Int × zb)=>xO (i.1) m_ v_.1 v_.2.1 v_.2.2
theorem cY (k:Nat)(i:Ins wD)(m:Nat):((n0 i).at (k5 k i) m).Sound pG 189 75 (aB k i) :=
  lsn mixed (n0 i) (id:=2) (body:=nav [1,1,1,1,1,0,1,0,0] (zK pG 189)) (k5 k i) (fun _=>none) (fun u=>u) (gj (g2 (gI 8) (g2 (gI 9) (gO zb.D [0,1,2,3]))) []) (gj (g2 (gI 8) (gO zb.D [0,1,2,3])) []) (fun m=>(.g 2 (.cond (.blk (.g 3 (.s (.idx false 8 (.tmp 52) 6) (.s (.seg 3 [.A 6,.X 6 8 0]) (.s (.call K135 [.K 0,.K 1,.K 2,.K 3] [0,1,2,3]) (.g 4 (.s (.idx false 8 (.tmp 60) 7) (.s (.seg 2 [.A 7,.X 7 8 0]) (.s (.call K135 [.K 0,.K 1,.K 2,.K 3] [0,1,2,3]) (.g 2 (.s (.idx false 8 (.tmp 65) 8) (.s (.seg 3 [.A 8,.X 8 8 0]) (.g 2 (.s (.call K226 [.K 0,.K 1,.K 2,.K 3] [0,1,2,3]) (.g 3 .back))))))))))))))) .leaf))) m
theorem S189 (k:Nat):(C189 k).Sound pG :=
  fsn mixed (C189 k) (n:=75) (rs:=rsOf pG 189) [] [0,1,2,3] (gj (g2 (gI 6) (gO zb.D [0,1,2,3])) []) (fun i=>(.g 1 (.g 3 (.cond (.g 2 .ret) (.g 1 (.s (.nil 10 1 3) (.rk (rb 9 [10]) (.loop ⟨(nZ i).at (k0 k i) k,cX k i k⟩ (gl gU (g2 (gI 1) (g2 (gI 2) (g2 (gL 1 9) (gO zb.D [0,1,2,3])))) [nSk 9]) (.g 4 (.g 4 (.loop ⟨(n0 i).at (k5 k i) k,cY k i k⟩ (gl (g2 (gL 1 8) (gh 8)) (g2 (gI 8) (g2 (gI 9) (gO zb.D [0,1,2,3]))) []) (.g 2 (.s (.call K135 [.K 0,.K 1,.K 2,.K 3] [0,1,2,3]) (.g 2 .ret)))))))))))))) Tryz.func189
def K189 (k:Nat):SCon El pG:=⟨C189 k,S189 k,Tryz.call189⟩
def C136 (k:Nat):Con El:=zG 136 wD (fun e=>sx k e.1.2.2 e.2.1 e.2.2.1) 1 1 (fun e t l j=>.tuple #[.i t.1,.bool t.2.1]) (fun e t l j=>zb.D.flat e.1.1 (zb.A.mk e.1.2.1.l_b e.1.2.1.l_c (na j 0) (nn l 0) e.1.2.1.m__p) t.2.2)
theorem S136 (k:Nat):(C136 k).Sound pG :=
  fsn mixed (C136 k) (n:=28) (rs:=rsOf pG 136) [] [0,1,2,3] (gj (g2 (gI 6) (g2 (gB 7) (gO zb.D [0,1,2,3]))) [nq_2]) (fun i=>(.g 2 (.g 2 (.vQ (.g 2 (.s (.call K188 [.K 0,.K 1,.K 2,.K 3] [0,1,2,3]) (.g 5 (.g 2 (.cond (.g 3 .ret) (.g 2 (.s (.call K135 [.K 0,.K 1,.K 2,.K 3] [0,1,2,3]) (.g 3 (.s (.call (K189 k) [.K 0,.K 1,.K 2,.K 3] [0,1,2,3]) (.g 2 .ret)))))))))))))) Tryz.func136
def K136 (k:Nat):SCon El pG:=⟨C136 k,S136 k,Tryz.call136⟩
def C232 (k:Nat):Con El:=zG 232 wD (fun i=>pt k i.1.2.2 i.2.1 i.2.2.1) 1 1 (fun i t j e=>.slice (na e 0) t.1.length (nn j 0)) (fun i t j e=>[.sl 1 3 (na e 0) (nn j 0) t.1]++zb.D.flat i.1.1 i.1.2.1 t.2)
abbrev Bg (k:Nat)(i:Ins wD):Kn El->VC (C232 k).T:=retC pG (C232 k) (rsOf pG 232) [] [1000,0,1,2,3] (gj (g2 (gL 1 1000) (gO zb.D [0,1,2,3])) [nSk 1000]) i
def mg (l:Ins wD):BCon El ((List Int) × zb):=⟨nav [1,1,0] (zK pG 232),Unit,Int × (List Int) × zb,(List Int) × zb,(List Int) × zb,fun u=>.inr u,fun _ _=>none,fun x=>[],fun x v_ j e=>[(0,.pointer (some ⟨l.1.1,0,none⟩)),(1,.i v_.1),(2,.i l.2.2.1),(7,.slice (na e 0) v_.2.1.length (nn j 0))],fun x v_ j e=>zipL [9] [.sl 1 3 (na e 0) (nn j 0) v_.2.1]++zipL [0,1,2,3] (zb.D.flat l.1.1 l.1.2.1 v_.2.2),1,1,fun x t j e=>[(7,.slice (na e 0) t.1.length (nn j 0))],fun x t j e=>zipL [8] [.sl 1 3 (na e 0) (nn j 0) t.1]++zipL [0,1,2,3] (zb.D.flat l.1.1 l.1.2.1 t.2)⟩
def je (k:Nat)(e:Ins wD):Nat->(mg e).X->(mg e).V->Option (mg e).W:=fun m_ (i:Unit) (v_:Int × (List Int) × zb)=>uW e.2.2.1 m_ v_.1 v_.2.1 v_.2.2
theorem bo (k:Nat)(i:Ins wD)(m:Nat):((mg i).at (je k i) m).Sound pG 232 27 (Bg k i) :=
  lsn mixed (mg i) (id:=0) (body:=nav [1,1,0,0,0] (zK pG 232)) (je k i) (fun _=>none) (fun u=>u) (gj (g2 (gI 1) (g2 (gL 1 9) (gO zb.D [0,1,2,3]))) [nSk 9]) (gj (g2 (gL 1 8) (gO zb.D [0,1,2,3])) [nSk 8]) (fun m=>(.join (Bool) 0 0 (gj (gB 17) []) (fun e t l j=>([(17,.bool t)]++kp [0,1,2,7] e,ka [9,0,1,2,3] e)) (.g 2 (.s (.call K199 [.K 0,.K 1,.K 2,.K 3] [0,1,2,3]) (.g 1 (.split 11 (.g 3 (.s (.call K225 [.K 0,.K 1,.K 2,.K 3] [0,1,2,3]) (.g 2 .leaf))) (.g 6 .leaf))))) (.cond (.blk (.g 2 (.s (.bld 11 1 3) (.s (.app 9 (.O 11)) (.g 1 (.g 3 (.s (.call K197 [.K 0,.K 1,.K 2,.K 3] [0,1,2,3]) (.g 1 .back)))))))) (.rk (rb 8 [9]) .leaf)))) m
theorem S232 (k:Nat):(C232 k).Sound pG :=
  fsn mixed (C232 k) (n:=27) (rs:=rsOf pG 232) [] [1000,0,1,2,3] (gj (g2 (gL 1 1000) (gO zb.D [0,1,2,3])) [nSk 1000]) (fun i=>(.g 1 (.g 1 (.s (.nil 10 1 3) (.rk (rb 9 [10]) (.loop ⟨(mg i).at (je k i) k,bo k i k⟩ (gl gU (g2 (gI 1) (g2 (gL 1 9) (gO zb.D [0,1,2,3]))) [nSk 9]) (.g 2 (.rk (rb 1000 [8]) .ret)))))))) Tryz.func232
def K232 (k:Nat):SCon El pG:=⟨C232 k,S232 k,Tryz.call232⟩
def C191 (k:Nat):Con El:=zG 191 u9 (fun j=>xX k j.1.2.2 j.2.1) 1 1 (fun j t i e=>.slice (na e 0) t.1.length (nn i 0)) (fun j t i e=>[.sl 1 3 (na e 0) (nn i 0) t.1]++zb.D.flat j.1.1 j.1.2.1 t.2)
theorem S191 (k:Nat):(C191 k).Sound pG :=
  fsn mixed (C191 k) (n:=8) (rs:=rsOf pG 191) [] [1000,0,1,2,3] (gj (g2 (gL 1 1000) (gO zb.D [0,1,2,3])) [nSk 1000]) (fun i=>(.g 1 (.g 2 (.s (.call (K232 k) [.K 0,.K 1,.K 2,.K 3] [4,0,1,2,3]) (.g 1 (.rk (rb 1000 [4]) .ret)))))) Tryz.func191
def K191 (k:Nat):SCon El pG:=⟨C191 k,S191 k,Tryz.call191⟩
abbrev Bd:List (PK El):=[pV zm.dv zm.val,pV zm.dv zm.val]
def C228:Con El:=zG 228 Bd (fun e=>ua e.1 e.2.1) 0 0 (fun e t l j=>.i t) (fun e t l j=>[])
theorem S228:(C228).Sound pG :=
  fsn mixed (C228) (n:=12) (rs:=rsOf pG 228) [] [] (gj (gI 4) []) (fun i=>(.s (.new 0 []) (.s (.new 1 []) (.g 1 (.s (.seg 8 [.C 0 1,.C 1 1]) .ret))))) Tryz.func228
def K228:SCon El pG:=⟨C228,S228,Tryz.call228⟩
abbrev l0:List (PK El):=[pW 5 259,pI .i64,pI .i64,pK (.func (.func 228) #[] #[])]
def C267 (k:Nat):Con El:=pn 267 l0 (fun e=>zM k e.1.2.2 e.2.1 e.2.2.1) 0 0 (fun e t j i=>.tuple #[]) (fun e t j i=>[.sl 5 259 e.1.1 e.1.2.1 t]) (fun e t=>[t.length=e.1.2.2.length])
abbrev aH (k:Nat)(i:Ins l0):Kn El->VC (C267 k).T:=retC pG (C267 k) (rsOf pG 267) [] [5000] (gj (gL 5 5000) []) i
def mq (e:Ins l0):BCon El ((List zm)):=⟨nav [1,0,0,1,0,0,1] (zK pG 267),Int,Int × (List zm),(List zm),(List zm),fun u=>.inr u,fun _ _=>none,fun t=>[],fun t v_ l j=>[(0,.slice e.1.1 v_.2.length e.1.2.1),(1,.i e.2.1),(2,.i e.2.2.1),(3,.func (.func 228) #[] #[]),(8,.i (t)),(9,.i v_.1)],fun t v_ l j=>zipL [0] [.sl 5 259 e.1.1 e.1.2.1 v_.2],0,0,fun t x l j=>[(0,.slice e.1.1 x.length e.1.2.1),(1,.i e.2.1),(2,.i e.2.2.1),(3,.func (.func 228) #[] #[]),(8,.i (t))],fun t x l j=>zipL [0] [.sl 5 259 e.1.1 e.1.2.1 x]⟩
def jk (k:Nat)(e:Ins l0):Nat->(mq e).X->(mq e).V->Option (mq e).W:=fun m_ (i:Int) (v_:Int × (List zm))=>zO e.2.1 e.2.2.1 (i) m_ v_.1 v_.2
theorem bz (k:Nat)(i:Ins l0)(m:Nat):((mq i).at (jk k i) m).Sound pG 267 53 (aH k i) :=
  lsn mixed (mq i) (id:=2) (body:=nav [1,0,0,1,0,0,1,0,0] (zK pG 267)) (jk k i) (fun _=>none) (fun u=>u) (gj (g2 (gI 9) (gL 5 0)) []) (gj (gL 5 0) []) (fun m=>(.join (Bool) 0 0 (gj (gB 34) []) (fun e t l j=>([(34,.bool t)]++kp [0,1,2,3,8,9] e,ka [0] e)) (.drw (.q [0,1,2,3] [] (.split 21 (.q [4,5,6] [] (.s (.idx false 0 (.tmp 24) 107) (.q [7,8,9,10,11] [.A 107,.X 107 0 0,.X 107 0 1] (.s (.idx false 0 (.tmp 29) 108) (.q [12,13] [.A 108,.X 108 0 0,.X 108 0 1] (.a 14 (.call K228 [] []) [] (.q [15,16] [] .leaf))))))) (.q [4,5,6,7,8,9,10,11,12,13,14,15,16] [] .leaf)))) (.cond (.blk (.drw (.q rg_7 [] (.s (.idx false 0 (.tmp 44) 113) (.q [8,9,10,11] [.A 113,.X 113 0 0,.X 113 0 1] (.s (.idx false 0 (.tmp 48) 114) (.q [12,13] [.A 114,.X 114 0 0,.X 114 0 1] (.s (.idx false 0 (.tmp 38) 115) (.q [14] [.A 115] (.a 15 (.sset 0 115 0) [] (.s (.rls 115 0) (.s (.rls 115 39) (.s (.idx false 0 (.tmp 41) 116) (.q [16] [.A 116] (.a 17 (.sset 0 116 0) [] (.s (.rls 116 0) (.g 3 .back))))))))))))))))) .leaf))) m
def mu (e:Ins l0):BCon El ((List zm)):=⟨nav [1] (zK pG 267),Unit,Int × (List zm),(List zm),(List zm),fun u=>.inr u,fun _ _=>none,fun t=>[],fun t v_ l j=>[(0,.slice e.1.1 v_.2.length e.1.2.1),(1,.i e.2.1),(2,.i e.2.2.1),(3,.func (.func 228) #[] #[]),(8,.i v_.1)],fun t v_ l j=>zipL [0] [.sl 5 259 e.1.1 e.1.2.1 v_.2],0,0,fun t x l j=>[],fun t x l j=>zipL [0] [.sl 5 259 e.1.1 e.1.2.1 x]⟩
def jn (k:Nat)(e:Ins l0):Nat->(mu e).X->(mu e).V->Option (mu e).W:=fun m_ (i:Unit) (v_:Int × (List zm))=>zH e.2.1 e.2.2.1 m_ v_.1 v_.2
theorem bA (k:Nat)(i:Ins l0)(m:Nat):((mu i).at (jn k i) m).Sound pG 267 53 (aH k i) :=
  lsn mixed (mu i) (id:=0) (body:=nav [1,0,0] (zK pG 267)) (jn k i) (fun _=>none) (fun u=>u) (gj (g2 (gI 8) (gL 5 0)) []) (gj (gL 5 0) []) (fun m=>(.g 3 (.cond (.blk (.g 2 (.loop ⟨(mq i).at (jk k i) m,bz k i m⟩ (gl (gI 8) (g2 (gI 9) (gL 5 0)) []) (.g 3 .back)))) .leaf))) m
theorem S267 (k:Nat):(C267 k).Sound pG :=
  fsn mixed (C267 k) (n:=53) (rs:=rsOf pG 267) [] [5000] (gj (gL 5 5000) []) (fun i=>(.g 3 (.loop ⟨(mu i).at (jn k i) k,bA k i k⟩ (gl gU (g2 (gI 8) (gL 5 0)) []) (.s (.same 0 (i.1.2.2.length)) (.rk (rb 5000 [0]) .leaf))))) Tryz.func267
def K267 (k:Nat):SCon El pG:=⟨C267 k,S267 k,Tryz.call267⟩
abbrev oM:List (PK El):=[pW 5 259,pI .i64,pK (.func (.func 228) #[] #[])]
def C256 (k:Nat):Con El:=pn 256 oM (fun e=>y1 k e.1.2.2 e.2.1) 0 0 (fun e t j i=>.tuple #[]) (fun e t j i=>[.sl 5 259 e.1.1 e.1.2.1 t]) (fun e t=>[t.length=e.1.2.2.length])
abbrev bx (k:Nat)(i:Ins oM):Kn El->VC (C256 k).T:=retC pG (C256 k) (rsOf pG 256) [] [5000] (gj (gL 5 5000) []) i
def mj (e:Ins oM):BCon El ((List zm)):=⟨nav [1,1,0] (zK pG 256),Unit,Int × Int × (List zm),Int × (List zm),Int × (List zm),fun u=>.inr u,fun _ _=>none,fun x=>[],fun x v_ l j=>[(0,.slice e.1.1 v_.2.2.length e.1.2.1),(1,.i e.2.1),(2,.func (.func 228) #[] #[]),(6,.i 20),(7,.i v_.1),(8,.i v_.2.1)],fun x v_ l j=>zipL [0] [.sl 5 259 e.1.1 e.1.2.1 v_.2.2],0,0,fun x t l j=>[(0,.slice e.1.1 t.2.length e.1.2.1),(1,.i e.2.1),(2,.func (.func 228) #[] #[]),(6,.i 20),(7,.i t.1)],fun x t l j=>zipL [0] [.sl 5 259 e.1.1 e.1.2.1 t.2]⟩
def jh (k:Nat)(e:Ins oM):Nat->(mj e).X->(mj e).V->Option (mj e).W:=fun m_ (i:Unit) (v_:Int × Int × (List zm))=>zX e.2.1 m_ v_.1 v_.2.1 v_.2.2
theorem bq (k:Nat)(i:Ins oM)(m:Nat):((mj i).at (jh k i) m).Sound pG 256 63 (bx k i) :=
  lsn mixed (mj i) (id:=0) (body:=nav [1,1,0,0,0] (zK pG 256)) (jh k i) (fun _=>none) (fun u=>u) (gj (g2 (gI 7) (g2 (gI 8) (gL 5 0))) []) (gj (g2 (gI 7) (gL 5 0)) []) (fun m=>(.g 3 (.cond (.blk (.g 4 (.s (.call (K267 m) [.K 0] [0]) (.s (.rlp 0 0) (.s (.rlp 14 0) (.g 2 (.g 4 .back))))))) .leaf))) m
def ml (e:Ins oM):BCon El ((List zm)):=⟨nav [1,1,1,1,0,0,1,0,1,0] (zK pG 256),(List zm) × Int,Int × Int,Int,Int,fun u=>.inr u,fun _ _=>none,fun j=>[],fun j v_ t l=>[(0,.slice e.1.1 (j.1).length e.1.2.1),(1,.i e.2.1),(2,.func (.func 228) #[] #[]),(6,.i (j.2)),(7,.i v_.1),(8,.i v_.2)],fun j v_ t l=>zipL [0] [.sl 5 259 e.1.1 e.1.2.1 (j.1)],0,0,fun j x t l=>[(0,.slice e.1.1 (j.1).length e.1.2.1),(1,.i e.2.1),(2,.func (.func 228) #[] #[]),(6,.i (j.2)),(7,.i x)],fun j x t l=>zipL [0] [.sl 5 259 e.1.1 e.1.2.1 (j.1)]⟩
def ji (k:Nat)(e:Ins oM):Nat->(ml e).X->(ml e).V->Option (ml e).W:=fun m_ (i:(List zm) × Int) (v_:Int × Int)=>xy e.2.1 (i.2) (i.1) m_ v_.1 v_.2
theorem bt (k:Nat)(i:Ins oM)(m:Nat):((ml i).at (ji k i) m).Sound pG 256 63 (bx k i) :=
  lsn mixed (ml i) (id:=4) (body:=nav [1,1,1,1,0,0,1,0,1,0,0,0] (zK pG 256)) (ji k i) (fun _=>none) (fun u=>u) (gj (g2 (gI 7) (gI 8)) []) (gj (gI 7) []) (fun m=>(.g 3 (.cond (.blk .dead) .leaf))) m
def mn (j:Ins oM):BCon El ((List zm)):=⟨nav [1,1,1,1] (zK pG 256),(List zm),Int,Unit,Unit,fun u=>.inr u,fun _ _=>none,fun t=>[],fun t v_ l e=>[(0,.slice j.1.1 (t).length j.1.2.1),(1,.i j.2.1),(2,.func (.func 228) #[] #[]),(6,.i v_)],fun t v_ l e=>zipL [0] [.sl 5 259 j.1.1 j.1.2.1 (t)],0,0,fun t x l e=>[],fun t x l e=>zipL [0] [.sl 5 259 j.1.1 j.1.2.1 (t)]⟩
def jj (k:Nat)(e:Ins oM):Nat->(mn e).X->(mn e).V->Option (mn e).W:=fun m_ (i:(List zm)) (v_:Int)=>ya e.2.1 (i) m_ v_
theorem bw (k:Nat)(i:Ins oM)(m:Nat):((mn i).at (jj k i) m).Sound pG 256 63 (bx k i) :=
  lsn mixed (mn i) (id:=2) (body:=nav [1,1,1,1,0,0] (zK pG 256)) (jj k i) (fun _=>none) (fun u=>u) (gj (gI 6) []) (gj gU []) (fun m=>(.g 3 (.cond (.blk (.g 4 (.loop ⟨(ml i).at (ji k i) m,bt k i m⟩ (gl (g2 (gL 5 0) (gI 6)) (g2 (gI 7) (gI 8)) []) (.g 4 (.g 3 (.join (Unit) 0 0 (gj gU []) (fun e t l j=>([]++kp [0,1,2,6] e,ka [0] e)) (.cond .dead .leaf) (.g 3 .back))))))) .leaf))) m
theorem S256 (k:Nat):(C256 k).Sound pG :=
  fsn mixed (C256 k) (n:=63) (rs:=rsOf pG 256) [] [5000] (gj (gL 5 5000) []) (fun i=>(.g 1 (.g 3 (.loop ⟨(mj i).at (jh k i) k,bq k i k⟩ (gl gU (g2 (gI 7) (g2 (gI 8) (gL 5 0))) []) (.g 4 (.s (.call (K267 k) [.K 0] [0]) (.s (.rlp 0 0) (.s (.rlp 23 0) (.loop ⟨(mn i).at (jj k i) k,bw k i k⟩ (gl (gL 5 0) (gI 6) []) (.s (.same 0 (i.1.2.2.length)) (.rk (rb 5000 [0]) .leaf))))))))))) Tryz.func256
def K256 (k:Nat):SCon El pG:=⟨C256 k,S256 k,Tryz.call256⟩
abbrev Bc:List (PK El):=[pW 5 259,pK (.func (.func 228) #[] #[])]
def C227 (k:Nat):Con El:=pn 227 Bc (fun e=>yu k e.1.2.2) 0 0 (fun e t j i=>.tuple #[]) (fun e t j i=>[.sl 5 259 e.1.1 e.1.2.1 t]) (fun e t=>[t.length=e.1.2.2.length])
theorem S227 (k:Nat):(C227 k).Sound pG :=
  fsn mixed (C227 k) (n:=9) (rs:=rsOf pG 227) [] [5000] (gj (gL 5 5000) []) (fun i=>(.g 4 (.s (.call (K256 k) [.K 0] [0]) (.s (.rlp 4 0) (.s (.same 0 (i.1.2.2.length)) (.rk (rb 5000 [0]) .leaf)))))) Tryz.func227
def K227 (k:Nat):SCon El pG:=⟨C227 k,S227 k,Tryz.call227⟩
def C234:Con El:=zG 234 wD (fun e=>uv e.1.2.2 e.2.1 e.2.2.1) 0 0 (fun e t j i=>.tuple #[]) (fun e t j i=>zb.D.flat e.1.1 e.1.2.1 t)
theorem S234:(C234).Sound pG :=
  fsn mixed (C234) (n:=20) (rs:=rsOf pG 234) [] [0,1,2,3] (gj (gO zb.D [0,1,2,3]) []) (fun i=>(.g 4 (.s (.call K197 [.K 0,.K 1,.K 2,.K 3] [0,1,2,3]) (.s (.call K135 [.K 0,.K 1,.K 2,.K 3] [0,1,2,3]) (.g 3 (.s (.call K135 [.K 0,.K 1,.K 2,.K 3] [0,1,2,3]) (.g 3 (.s (.call K135 [.K 0,.K 1,.K 2,.K 3] [0,1,2,3]) .leaf)))))))) Tryz.func234
def K234:SCon El pG:=⟨C234,S234,Tryz.call234⟩
def C229 (k:Nat):Con El:=zG 229 aw (fun e=>u1 k e.1.2.2 e.2.1 e.2.2.1 e.2.2.2.1) 0 0 (fun e t l j=>.i t.1) (fun e t l j=>zb.D.flat e.1.1 e.1.2.1 t.2)
theorem S229 (k:Nat):(C229 k).Sound pG :=
  fsn mixed (C229 k) (n:=25) (rs:=rsOf pG 229) [] [0,1,2,3] (gj (g2 (gI 8) (gO zb.D [0,1,2,3])) []) (fun i=>(.g 1 (.g 3 (.s (.call (K211 k) [.K 0,.K 1,.K 2,.K 3] [0,1,2,3]) (.join (Int × Int) 0 0 (gj (g2 (gI 1) (gI 2)) []) (fun e j t l=>([(1,.i j.1),(2,.i j.2)]++kp [0,3] e,ka [0,1,2,3] e)) (.cond (.g 4 .leaf) .leaf) (.g 3 (.s (.call K234 [.K 0,.K 1,.K 2,.K 3] [0,1,2,3]) (.g 4 (.s (.call K135 [.K 0,.K 1,.K 2,.K 3] [0,1,2,3]) (.g 2 .ret)))))))))) Tryz.func229
def K229 (k:Nat):SCon El pG:=⟨C229 k,S229 k,Tryz.call229⟩
theorem tu {w0 w:World}{As:List HP}{x:Option Addr}{l:Nat}{s:List zm}{i:Int}{B:Option Addr}{z:Nat}{v:List zm}{t:List zm}(hm:qE s i v=some t)(H:St w0 (Sl 259 zm.enc 2 x l s::Sl 259 zm.enc 2 B z v::As) w) :
    xw pG 230 #[.slice x s.length l,.i i,.slice B v.length z] w fun u w'=>∃ (c4:Option Addr) (c5:Nat),u = .slice c4 t.length c5/\St w0 (Sl 259 zm.enc 2 c4 c5 t::As) w':=by
  unfold qE at hm;split at hm
  · rename_i hI;cases hm;obtain⟨h0,h1,d9⟩:=hI;obtain⟨q,rfl⟩:=Int.eq_ofNat_of_zero_le h0;have hq:q<=s.length:=by omega
    have he:=zm.yN;have hcs:=(H.ot 0 rfl)
    have f3:=(H.ot 1 rfl)
    refine enter (args:=[.slice x s.length l,.i (q:Int),.slice B v.length z]) Tryz.func230 rfl rfl rfl fun a y=>?_
    refine Runs.seq ?_;refine Runs.region ?_;refine WR.seg y 1 [] [0,1,2] (Lo:=[(0,.slice x s.length l),(1,.i (q:Int)),(2,.slice B v.length z)]) (obs:=[]) rfl (by kernel_rfl) trivial fun a y=>?_
    refine WR.done rfl ?_;refine Runs.seq ?_;refine Runs.region ?_;refine WR.seg y 3 [.slice (yt x l q 2) (s.length - q) (l - q)] [0,1,2] (Lo:=[(0,.slice x s.length l),(1,.i (q:Int)),(2,.slice B v.length z)])
      (obs:=[.p (yt x l q 2=yt x l q 2),.p (s.length - q=s.length - q),.p (l - q=l - q),.p (0<=(q:Int)/\(q:Int)<=(s.length:Int))]) rfl (by kernel_rfl) ⟨rfl,rfl,rfl,⟨h0,h1⟩,trivial⟩ fun a y=>?_
    refine WR.done rfl ?_;refine Runs.seq ?_;refine Runs.region ?_;refine WR.seg y 3 [] [0,1,2,7] (Lo:=[(0,.slice x s.length l),(1,.i (q:Int)),(2,.slice B v.length z),(7,.i (v.length:Int))]) (obs:=[]) rfl (by kernel_rfl) trivial fun a y=>?_
    refine WR.done rfl ?_;refine Runs.seq ?_;refine Runs.seq ?_;refine Runs.region ?_;refine WR.seg y 2 [] [0,1,2,7,16] (Lo:=[(0,.slice x s.length l),(1,.i (q:Int)),(2,.slice B v.length z),(7,.i (v.length:Int)),(16,.bool ((v.length:Int) == 0))]) (obs:=[]) rfl (by kernel_rfl) trivial fun a y=>?_
    refine WR.done rfl ?_;refine Runs.cond y rfl (fun c=>?_) (fun c=>?_)
    · have hv:v=[]:=List.eq_nil_of_length_eq_zero (by simpa using c);refine Runs.seq ?_;refine Runs.region ?_;refine WR.seg y 2 [] [6] (Lo:=[(6,.slice x s.length l)]) (obs:=[]) rfl (by kernel_rfl) trivial fun a y=>?_
      refine WR.done rfl ?_;refine Runs.ret y Tryz.func230 rfl rfl ?_;subst hv;have e:s.take q++([]++s.drop q)=s:=by simp
      simp only[tN];rw[e];exact⟨_,_,rfl,H.x1⟩
    · have e2:0<v.length:=by have:=c;simp at this;exact List.length_pos_iff.2 this
      refine Runs.skip ?_;refine Runs.seq ?_;refine Runs.region ?_;refine WR.seg y 3 [] [0,1,2,7,8] (Lo:=[(0,.slice x s.length l),(1,.i (q:Int)),(2,.slice B v.length z),(7,.i (v.length:Int)),(8,.i (s.length:Int))]) (obs:=[]) rfl (by kernel_rfl) trivial fun a y=>?_
      refine WR.done rfl ?_;refine Runs.seq ?_;refine Runs.seq ?_;refine Runs.region ?_;refine WR.seg y 3 [] [0,1,2,7,8,22] (Lo:=[(0,.slice x s.length l),(1,.i (q:Int)),(2,.slice B v.length z),(7,.i (v.length:Int)),(8,.i (s.length:Int)),(22,.bool ((q:Int) == (s.length:Int)))]) (obs:=[]) rfl (by kernel_rfl) trivial fun a y=>?_
      refine WR.done rfl ?_;refine Runs.cond y rfl (fun c2=>?_) (fun c2=>?_)
      · have b7:q=s.length:=by have:=c2;simp at this;omega
        refine Runs.seq ?_;refine Runs.region ?_;refine WR.seg y 2 [] [23,24] (Lo:=[(23,.slice x s.length l),(24,.slice B v.length z)]) (obs:=[]) rfl (by kernel_rfl) trivial fun a y=>?_
        have b4:mApp s v=some (s++v):=by unfold mApp;rw[if_pos d9]
        refine WR.eff y rfl rfl rfl rfl (OpTo.tj b4 y H he rfl rfl rfl rfl rfl rfl rfl rfl rfl rfl (SlRd.all (wZ 259 zm.enc 2 B z v) he H 1 rfl) rfl) ?_;rintro _ w ⟨sb,sc,rfl,H⟩ a y;refine WR.seg y 4 [] [6] (Lo:=[(6,.slice sb (s++v).length sc)]) (obs:=[]) rfl (by kernel_rfl) trivial fun a y=>?_
        refine WR.done rfl ?_;refine Runs.ret y Tryz.func230 rfl rfl ?_;subst b7;have e:s.take s.length++(v++s.drop s.length)=s++v:=by simp
        simp only[tN];rw[e];exact⟨_,_,rfl,H.x1⟩
      · have b7:q<s.length:=by have:=c2;simp at this;omega
        have a0:w64 ((s.length:Int)+(v.length:Int))=((s.length+v.length:Nat):Int):=by unfold w64;rw[q5 (by omega) (by omega)];omega
        have F:w64 ((q:Int)+(v.length:Int))=((q+v.length:Nat):Int):=by unfold w64;rw[q5 (by omega) (by omega)];omega
        have e3:w64 (((s.length+v.length:Nat):Int) - (q:Int))=((s.length+v.length - q:Nat):Int):=by unfold w64;rw[q5 (by omega) (by omega)];omega
        have a7:=yi he s;have O:=yi he v;have D:=yi he (s.take q);have J:=yi he (s.drop q);have a3:s.flatMap zm.enc=(s.take q).flatMap zm.enc++(s.drop q).flatMap zm.enc:=by rw[<- List.flatMap_append,List.take_append_drop]
        simp only[List.length_take,List.length_drop] at D J;rw[Nat.min_eq_left hq] at D;refine Runs.skip ?_;refine Runs.seq ?_;refine Runs.seq ?_;refine Runs.region ?_;refine WR.seg y 6 [] [0,1,2,7,8,31] (Lo:=[(0,.slice x s.length l),(1,.i (q:Int)),(2,.slice B v.length z),(7,.i (v.length:Int)),(8,.i (s.length:Int)),(31,.bool (decide (w64 ((s.length:Int)+(v.length:Int)) > (l:Int))))]) (obs:=[]) rfl (by kernel_rfl) trivial fun a y=>?_
        refine WR.done rfl ?_;refine Runs.cond y rfl (fun c3=>?_) (fun c3=>?_)
        · have f4:l<s.length+v.length:=by have:=c3;rw[a0] at this;simp only[decide_eq_true_eq] at this;omega
          refine Runs.seq ?_;refine Runs.region ?_;refine WR.seg y 8 [.slice (yt x l 0 2) q l] [0,1,2,7,34,39] (Lo:=[(0,.slice x s.length l),(1,.i (q:Int)),(2,.slice B v.length z),(7,.i (v.length:Int)),(34,.slice (yt x l 0 2) q l),(39,.i (w64 (w64 ((s.length:Int)+(v.length:Int)) - (q:Int))))])
            (obs:=[.p (yt x l 0 2=yt x l 0 2),.p (q - 0=q),.p (l - 0=l),.p (0<=(q:Int)/\(q:Int)<=(l:Int))]) rfl (by kernel_rfl) ⟨rfl,rfl,rfl,⟨h0,by omega⟩,trivial⟩ fun a y=>?_
          rw[a0,e3] at y;have e1:yt x l 0 2=x:=by
            unfold yt;split
            · rfl
            · cases x <;> simp[Addr.add]
          rw[e1] at y;have c0:Rd w x ((s.take q).flatMap zm.enc):=by
            rcases SlRd.all (wZ 259 zm.enc 2 x l s) he H 0 rfl with h|⟨xa,h1,h2⟩
            · exfalso;have f0:s.length*2=0:=by rw[<- a7,h];rfl
              omega
            · exact .inr ⟨xa,h1,fun j u hj=>h2 j u (by rw[a3];exact List.getElem?_append_left (List.getElem?_eq_some_iff.1 hj).1 ▸ hj)⟩
          refine WR.eff y rfl rfl rfl rfl (OpTo.bL (sz:=2) ((s.take q).flatMap zm.enc) y H rfl rfl rfl rfl rfl rfl rfl rfl rfl (by decide) c0 (by rw[D]) (by omega) (by omega) (by omega) rfl) ?_;rintro _ w ⟨r,I,Z,rfl,b5,d8,hZ,H⟩ a y;have hlen:q+(s.length+v.length - q)=s.length+v.length:=by omega
          rw[hlen] at y b5;refine WR.seg y 10 [] [0,1,2,7,9] (Lo:=[(0,.slice x s.length l),(1,.i (q:Int)),(2,.slice B v.length z),(7,.i (v.length:Int)),(9,.slice (some ⟨r,0,none⟩) (s.length+v.length) I)]) (obs:=[]) rfl (by kernel_rfl) trivial fun a y=>?_
          refine WR.done rfl ?_;obtain⟨Z1,Z2,Z3,d7,a4,a5⟩:∃ Z1 Z2 Z3:List Value,Z=Z1++(Z2++Z3)/\Z1.length=v.length*2/\Z2.length=(s.length - q)*2:=by
            refine⟨Z.take (v.length*2),(Z.drop (v.length*2)).take ((s.length - q)*2),(Z.drop (v.length*2)).drop ((s.length - q)*2),by rw[List.take_append_drop,List.take_append_drop],?_,?_⟩ <;> simp only[List.length_take,List.length_drop,hZ] <;> omega
          subst d7;refine Runs.seq ?_;refine Runs.region ?_;refine WR.seg y 4 [.slice (some ⟨r,0+q*2,none⟩) (s.length+v.length - q) (I - q)] [0,1,2,7,9,43,44] (Lo:=[(0,.slice x s.length l),(1,.i (q:Int)),(2,.slice B v.length z),(7,.i (v.length:Int)),(9,.slice (some ⟨r,0,none⟩) (s.length+v.length) I),(43,.slice (some ⟨r,0+q*2,none⟩) (s.length+v.length - q) (I - q)),(44,.slice B v.length z)])
            (obs:=[.p (yt (some ⟨r,0,none⟩) I q 2=some ⟨r,0+q*2,none⟩),.p (s.length+v.length - q=s.length+v.length - q),.p (I - q=I - q),.p (0<=(q:Int)/\(q:Int)<=((s.length+v.length:Nat):Int))]) rfl (by kernel_rfl) ⟨(by show _=_;unfold yt;rw[if_neg (by omega)];simp[vH]),rfl,rfl,⟨h0,by omega⟩,trivial⟩ fun a y=>?_
          refine WR.eff y rfl rfl rfl rfl (OpTo.lp (sz:=2) (v.flatMap zm.enc) y H rfl rfl rfl rfl rfl rfl (SlRd.all (wZ 259 zm.enc 2 B z v) he H 2 rfl) (by rw[O];congr 1;simp only[Nat.min_def];split <;> omega) (qe he v) (by simp only[lA,D,O,a4];omega)) ?_;rintro _ w ⟨⟨kk,rfl⟩,H⟩ a y;rw[ql _ _ _ _ _ (by rw[D];omega) (by rw[O,a4])] at H;refine WR.done rfl ?_;replace y:=y.sel [0,1,2,7,9] (Lo:=[(0,.slice x s.length l),(1,.i (q:Int)),(2,.slice B v.length z),(7,.i (v.length:Int)),(9,.slice (some ⟨r,0,none⟩) (s.length+v.length) I)]) (by kernel_rfl);refine Runs.seq ?_;refine Runs.drawn mixed (by kernel_rfl) ?_;replace H:=H.drew;obtain⟨b,off,A,R,rfl,hA,_,_,hR,H2⟩:=(H.t1).jP he (by omega);have b9:yt (some ⟨b,off,none⟩:Option Addr) l q 2=some ⟨b,off+q*2,none⟩:=by unfold yt;rw[if_neg (by omega)];simp[vH]
          refine WQ.seg y rg_7 [.slice (some ⟨r,0+(q+v.length)*2,none⟩) (s.length - q) (I - (q+v.length)),.slice (some ⟨b,off+q*2,none⟩) (s.length - q) (l - q)] [9,50,53] (Lo:=[(9,.slice (some ⟨r,0,none⟩) (s.length+v.length) I),(50,.slice (some ⟨r,0+(q+v.length)*2,none⟩) (s.length - q) (I - (q+v.length))),(53,.slice (some ⟨b,off+q*2,none⟩) (s.length - q) (l - q))])
            (obs:=[.p (yt (some ⟨r,0,none⟩) I (Int.toNat (w64 ((q:Int)+(v.length:Int)))) 2=some ⟨r,0+(q+v.length)*2,none⟩),.p (s.length+v.length - Int.toNat (w64 ((q:Int)+(v.length:Int)))=s.length - q),.p (I - Int.toNat (w64 ((q:Int)+(v.length:Int)))=I - (q+v.length)),.p (0<=w64 ((q:Int)+(v.length:Int))/\w64 ((q:Int)+(v.length:Int))<=((s.length+v.length:Nat):Int)),
              .p (yt (some ⟨b,off,none⟩) l q 2=some ⟨b,off+q*2,none⟩),.p (s.length - q=s.length - q),.p (l - q=l - q),.p (0<=(q:Int)/\(q:Int)<=(s.length:Int))]) (by kernel_rfl) (by kernel_rfl)
            ⟨(by show _=_;rw[F,tN];unfold yt;rw[if_neg (by omega)];simp[vH]),(by show _ - _=_;rw[F,tN];omega),(by show _ - _=_;rw[F,tN]),(by show _/\_;rw[F];constructor <;> omega),b9,rfl,rfl,⟨h0,h1⟩,trivial⟩ fun a y=>?_
          have Y:Rd { w with drawn:=w.drawn+1 } (some ⟨b,off+q*2,none⟩) ((s.drop q).flatMap zm.enc):=ae (H2) 0 rfl (off:=off+q*2) fun j u hj=>by
            rw[a3,aA,<- aA A,List.getElem?_append_right (by simp only[lA,hA,D];omega)];simp only[lA,hA,D];rw[List.getElem?_append_left (by have:=(List.getElem?_eq_some_iff.1 hj).1;omega)];rw[<- hj];congr 1;omega
          refine WQ.eff (j:=8) (obs:=[]) y (by kernel_rfl) rfl rfl rfl rfl (by kernel_rfl) (OpTo.lp (sz:=2) ((s.drop q).flatMap zm.enc) y H2.t1 rfl rfl rfl rfl rfl rfl Y (by rw[J];congr 1;simp only[Nat.min_def];split <;> omega) (qe he _) (by simp only[lA,D,O,a5,J,Nat.add_mul];omega)) ?_;rintro _ w ⟨⟨e4,rfl⟩,H⟩;refine⟨trivial,fun a y=>?_⟩;refine WQ.done (by kernel_rfl) ?_;rw[<- aA,ql _ _ _ _ _ (by simp only[lA,D,O,Nat.add_mul];omega) (by rw[J,a5])] at H;refine Runs.seq ?_;refine Runs.region ?_;refine WR.seg y 2 [] [6] (Lo:=[(6,.slice (some ⟨r,0,none⟩) (s.length+v.length) I)]) (obs:=[]) rfl (by kernel_rfl) trivial fun a y=>?_
          refine WR.done rfl ?_;refine Runs.ret y Tryz.func230 rfl rfl ?_;simp only[tN];have U:(s.take q++(v++s.drop q)).length=s.length+v.length:=by simp;omega
          have X:(s.take q).flatMap zm.enc++v.flatMap zm.enc++((s.drop q).flatMap zm.enc++Z3)=[]++((s.take q++(v++s.drop q)).flatMap zm.enc++Z3):=by simp[aA]
          rw[X] at H;have d6:(I - (s.take q++(v++s.drop q)).length)*2<=Z3.length:=by
            simp only[lA,a4,a5] at hZ;rw[U];omega
          have H3:=St.cD H he (sc:=I) (by rw[U];exact b5) d8 d6;exact⟨some ⟨r,0,none⟩,I,by rw[U];rfl,H3.x1.x1⟩
        · have a8:s.length+v.length<=l:=by have:=c3;rw[a0] at this;simp only[decide_eq_false_iff_not] at this;omega
          obtain⟨b,off,A,R,rfl,hA,_,b6,hR,H1⟩:=H.jP he (by omega);obtain⟨R1,W,d5,hR1⟩:∃ R1 W:List Value,R=R1++W/\R1.length=v.length*2:=by
            have:v.length*2<=(l - s.length)*2:=Nat.mul_le_mul_right _ (by omega);exact⟨R.take (v.length*2),R.drop (v.length*2),by rw[List.take_append_drop],by simp only[List.length_take];omega⟩
          subst d5;have S:∀ k:Nat,k<l->yt (some ⟨b,off,none⟩:Option Addr) l k 2=some ⟨b,off+k*2,none⟩:=fun k hk=>by unfold yt;rw[if_neg (by omega)];simp[vH]
          have b8:yt (some ⟨b,off,none⟩:Option Addr) l 0 2=some ⟨b,off,none⟩:=by rw[S 0 (by omega)];simp
          refine Runs.skip ?_;refine Runs.seq ?_;refine Runs.region ?_;refine WR.seg y 6 [.slice (some ⟨b,off,none⟩) (s.length+v.length) l] [0,1,2,7] (Lo:=[(0,.slice (some ⟨b,off,none⟩) (s.length+v.length) l),(1,.i (q:Int)),(2,.slice B v.length z),(7,.i (v.length:Int))])
            (obs:=[.p (yt (some ⟨b,off,none⟩) l 0 2=some ⟨b,off,none⟩),.p (Int.toNat (w64 ((s.length:Int)+(v.length:Int))) - 0=s.length+v.length),.p (l - 0=l),.p (0<=w64 ((s.length:Int)+(v.length:Int))/\w64 ((s.length:Int)+(v.length:Int))<=(l:Int))]) rfl (by kernel_rfl)
            ⟨b8,(by show _ - 0=_;rw[a0,tN];rfl),rfl,(by show _/\_;rw[a0];constructor <;> omega),trivial⟩ fun a y=>?_
          refine WR.done rfl ?_;obtain⟨vb,vo,Av,Rv,rfl,d2,_,_,f2,Hv⟩:=(H1.t1).jP he e2;have e0:vb≠b:=by
            obtain⟨g1,g2,gd,s1,s2,d3,g3,g4,e9,s3,s4,d4,_⟩:=Hv.heap;intro h;subst h;rcases gd vb with e|e
            · have:g1 vb=_:=d3;rw[this] at e;cases e
            · have:g3 vb=_:=d4;have:=s3 _ _ this;rw[e] at this;cases this
          refine Runs.seq ?_;refine Runs.seq ?_;refine Runs.region ?_;refine WR.seg y 6 [.slice (yt (some ⟨b,off,none⟩) l (q+v.length) 2) (s.length - q) (l - (q+v.length))] [0,1,2,7,61,66] (Lo:=[(0,.slice (some ⟨b,off,none⟩) (s.length+v.length) l),(1,.i (q:Int)),(2,.slice (some ⟨vb,vo,none⟩) v.length z),(7,.i (v.length:Int)),(61,.slice (some ⟨vb,vo,none⟩) v.length z),(66,.slice (yt (some ⟨b,off,none⟩) l (q+v.length) 2) (s.length - q) (l - (q+v.length)))])
            (obs:=[.p (yt (some ⟨b,off,none⟩) l (Int.toNat (w64 ((q:Int)+(v.length:Int)))) 2=yt (some ⟨b,off,none⟩) l (q+v.length) 2),.p (s.length+v.length - Int.toNat (w64 ((q:Int)+(v.length:Int)))=s.length - q),.p (l - Int.toNat (w64 ((q:Int)+(v.length:Int)))=l - (q+v.length)),.p (0<=w64 ((q:Int)+(v.length:Int))/\w64 ((q:Int)+(v.length:Int))<=((s.length+v.length:Nat):Int))]) rfl (by kernel_rfl)
            ⟨(by show _=_;rw[F,tN]),(by show _ - _=_;rw[F,tN];omega),(by show _ - _=_;rw[F,tN]),(by show _/\_;rw[F];constructor <;> omega),trivial⟩ fun a y=>?_
          rw[S (q+v.length) (by omega)] at y;refine WR.eff y rfl rfl rfl rfl (OpTo.gD (tS:=257) (tR:=4) (e:=259) y Hv 0 1 rfl rfl e0 (by simp only[List.size_toArray,lA,a7];omega) rfl rfl (fn:=Tryz.f257) (by kernel_rfl) (by kernel_rfl) (by kernel_rfl) (by kernel_rfl) (by kernel_rfl) rfl rfl) ?_;rintro _ w ⟨rfl,ew⟩ a y;subst ew;refine WR.seg y 8 [] [0,1,2,7,68] (Lo:=[(0,.slice (some ⟨b,off,none⟩) (s.length+v.length) l),(1,.i (q:Int)),(2,.slice (some ⟨vb,vo,none⟩) v.length z),(7,.i (v.length:Int)),(68,.bool true)]) (obs:=[]) rfl (by kernel_rfl) trivial fun a y=>?_
          refine WR.done rfl ?_;refine Runs.sF y rfl ?_;refine Runs.seq ?_;refine Runs.drawn mixed (by kernel_rfl) ?_;replace Hv:=Hv.drew;refine WQ.seg y rg_7 [.slice (some ⟨b,off+(q+v.length)*2,none⟩) (s.length - q) (l - (q+v.length)),.slice (some ⟨b,off+q*2,none⟩) (s.length+v.length - q) (l - q)] [0,1,2,73,76] (Lo:=[(0,.slice (some ⟨b,off,none⟩) (s.length+v.length) l),(1,.i (q:Int)),(2,.slice (some ⟨vb,vo,none⟩) v.length z),(73,.slice (some ⟨b,off+(q+v.length)*2,none⟩) (s.length - q) (l - (q+v.length))),(76,.slice (some ⟨b,off+q*2,none⟩) (s.length+v.length - q) (l - q))])
            (obs:=[.p (yt (some ⟨b,off,none⟩) l (Int.toNat (w64 ((q:Int)+(v.length:Int)))) 2=some ⟨b,off+(q+v.length)*2,none⟩),.p (s.length+v.length - Int.toNat (w64 ((q:Int)+(v.length:Int)))=s.length - q),.p (l - Int.toNat (w64 ((q:Int)+(v.length:Int)))=l - (q+v.length)),.p (0<=w64 ((q:Int)+(v.length:Int))/\w64 ((q:Int)+(v.length:Int))<=((s.length+v.length:Nat):Int)),
              .p (yt (some ⟨b,off,none⟩) l q 2=some ⟨b,off+q*2,none⟩),.p (s.length+v.length - q=s.length+v.length - q),.p (l - q=l - q),.p (0<=(q:Int)/\(q:Int)<=((s.length+v.length:Nat):Int))]) (by kernel_rfl) (by kernel_rfl)
            ⟨(by show _=_;rw[F,tN];exact S _ (by omega)),(by show _ - _=_;rw[F,tN];omega),(by show _ - _=_;rw[F,tN]),(by show _/\_;rw[F];constructor <;> omega),S q (by omega),rfl,rfl,⟨h0,by omega⟩,trivial⟩ fun a y=>?_
          have Y:Rd { w with drawn:=w.drawn+1 } (some ⟨b,off+q*2,none⟩) ((s.drop q).flatMap zm.enc):=ae Hv 1 rfl (off:=off+q*2) fun j u hj=>by
            rw[a3,aA,<- aA A,List.getElem?_append_right (by simp only[lA,hA,D];omega)];simp only[lA,hA,D];rw[List.getElem?_append_left (by have:=(List.getElem?_eq_some_iff.1 hj).1;omega)];rw[<- hj];congr 1;omega
          refine WQ.eff (j:=8) (obs:=[]) y (by kernel_rfl) rfl rfl rfl rfl (by kernel_rfl) (OpTo.lp (sz:=2) ((s.drop q).flatMap zm.enc) y Hv.t1 rfl rfl rfl rfl rfl rfl Y (by rw[J];congr 1;simp only[Nat.min_def];split <;> omega) (qe he _) (by simp only[lA,hA,a7,hR1,J,Nat.add_mul];rw[Nat.sub_mul];have:q*2<=s.length*2:=Nat.mul_le_mul_right _ hq;omega)) ?_;rintro _ w ⟨⟨e4,rfl⟩,H⟩;refine⟨trivial,fun a y=>?_⟩;refine WQ.done (by kernel_rfl) ?_;obtain⟨X1,X2,hX,hX1,hX2⟩:∃ X1 X2:List Value,(s.drop q).flatMap zm.enc++R1=X1++X2/\X1.length=v.length*2/\X2.length=(s.length - q)*2:=by
            refine⟨((s.drop q).flatMap zm.enc++R1).take (v.length*2),((s.drop q).flatMap zm.enc++R1).drop (v.length*2),by rw[List.take_append_drop],?_,?_⟩ <;> simp only[List.length_take,List.length_drop,lA,J,hR1] <;> omega
          have b3:A++(s.flatMap zm.enc++(R1++W))=(A++((s.take q).flatMap zm.enc++X1))++(X2++W):=by
            rw[a3]
            calc A++(((s.take q).flatMap zm.enc++(s.drop q).flatMap zm.enc)++(R1++W))=A++((s.take q).flatMap zm.enc++(((s.drop q).flatMap zm.enc++R1)++W)):=by simp[aA]
              _=_:=by rw[hX];simp[aA]
          rw[b3,ql _ _ _ _ _ (by simp only[lA,hA,D,hX1,Nat.add_mul,Nat.add_assoc]) (by rw[J,hX2])] at H;have a6:(A++((s.take q).flatMap zm.enc++X1))++((s.drop q).flatMap zm.enc++W)=(A++(s.take q).flatMap zm.enc)++(X1++((s.drop q).flatMap zm.enc++W)):=by simp[aA]
          rw[a6] at H;refine Runs.seq ?_;refine Runs.region ?_;refine WR.seg y 4 [.slice (some ⟨b,off+q*2,none⟩) (s.length+v.length - q) (l - q)] [0,80,81] (Lo:=[(0,.slice (some ⟨b,off,none⟩) (s.length+v.length) l),(80,.slice (some ⟨b,off+q*2,none⟩) (s.length+v.length - q) (l - q)),(81,.slice (some ⟨vb,vo,none⟩) v.length z)])
            (obs:=[.p (yt (some ⟨b,off,none⟩) l q 2=some ⟨b,off+q*2,none⟩),.p (s.length+v.length - q=s.length+v.length - q),.p (l - q=l - q),.p (0<=(q:Int)/\(q:Int)<=((s.length+v.length:Nat):Int))]) rfl (by kernel_rfl) ⟨S q (by omega),rfl,rfl,⟨h0,by omega⟩,trivial⟩ fun a y=>?_
          have c1:Rd w (some ⟨vb,vo,none⟩) (v.flatMap zm.enc):=ae H 1 rfl fun j u hj=>by
            rw[List.getElem?_append_right (by omega),d2,Nat.add_sub_cancel_left,List.getElem?_append_left (List.getElem?_eq_some_iff.1 hj).1];exact hj
          refine WR.eff y rfl rfl rfl rfl (OpTo.lp (sz:=2) (v.flatMap zm.enc) y H rfl rfl rfl rfl rfl rfl c1 (by rw[O];congr 1;simp only[Nat.min_def];split <;> omega) (qe he v) (by simp only[lA,hA,D,hX1,O];omega)) ?_;rintro _ w ⟨⟨f5,rfl⟩,H⟩ a y;rw[ql _ _ _ _ _ (by simp only[lA,hA,D]) (by rw[O,hX1])] at H;refine WR.done rfl ?_;refine Runs.seq ?_;refine Runs.region ?_;refine WR.seg y 2 [] [6] (Lo:=[(6,.slice (some ⟨b,off,none⟩) (s.length+v.length) l)]) (obs:=[]) rfl (by kernel_rfl) trivial fun a y=>?_
          refine WR.done rfl ?_;refine Runs.ret y Tryz.func230 rfl rfl ?_;simp only[tN];have U:(s.take q++(v++s.drop q)).length=s.length+v.length:=by simp;omega
          have X:(A++(s.take q).flatMap zm.enc)++(v.flatMap zm.enc++((s.drop q).flatMap zm.enc++W))=A++((s.take q++(v++s.drop q)).flatMap zm.enc++W):=by simp[aA]
          rw[X] at H;have hR2:(l - (s.take q++(v++s.drop q)).length)*2<=W.length:=by
            simp only[lA,hR1] at hR;rw[U];omega
          have H3:=St.cD H he (sc:=l) (by rw[U];exact a8) b6 hR2;rw[hA] at H3;exact⟨some ⟨b,off,none⟩,l,by rw[U];rfl,H3.x1⟩
  · cases hm
abbrev Be:List (PK El):=[pW 5 259,pI .i64,pW 5 259]
def C230:Con El:=zG 230 Be (fun j=>qE j.1.2.2 j.2.1 j.2.2.1.2.2) 1 1 (fun j t i e=>.slice (na e 0) t.length (nn i 0)) (fun j t i e=>[.sl 5 259 (na e 0) (nn i 0) t])
theorem S230:(C230).Sound pG:=fun x t hm w0 w F hr H=>by
  obtain⟨⟨b0,j,x0⟩,x1,⟨i,l,x2⟩,_⟩:=x;have e:St w0 (Sl 259 zm.enc 2 b0 j x0::Sl 259 zm.enc 2 i l x2::F) w:=by
    exact H
  refine (tu (show qE x0 x1 x2=some t from hm) e).mono ?_;rintro v w' ⟨e0,u,hv,H⟩;refine⟨[u],[e0],rfl,rfl,hv,?_,fun _ h=>by cases h⟩;exact H
def K230:SCon El pG:=⟨C230,S230,Tryz.call230⟩
abbrev sD:List (PK El):=[pO zb.D,pR 1]
def C231 (k:Nat):Con El:=zG 231 sD (fun e=>pQ k e.1.2.2 e.2.1.2.2) 0 0 (fun e t l j=>.i t.1) (fun e t l j=>zb.D.flat e.1.1 e.1.2.1 t.2)
abbrev Bf (k:Nat)(i:Ins sD):Kn El->VC (C231 k).T:=retC pG (C231 k) (rsOf pG 231) [] [0,1,2,3] (gj (g2 (gI 4) (gO zb.D [0,1,2,3])) []) i
def mf (e:Ins sD):BCon El (Int × zb):=⟨nav [1,1,0,1] (zK pG 231),Unit,Int × Int × zb,Int × zb,Int × zb,fun u=>.inr u,fun _ _=>none,fun t=>[(0,⟨1,e.2.1.1,e.2.1.2.1,e.2.1.2.2⟩)],fun t v_ l j=>[(0,.pointer (some ⟨e.1.1,0,none⟩)),(1,.slice e.2.1.1 e.2.1.2.2.length e.2.1.2.1),(5,.i v_.1),(6,.i v_.2.1)],fun t v_ l j=>zipL [0,1,2,3] (zb.D.flat e.1.1 e.1.2.1 v_.2.2),0,0,fun t x l j=>[(5,.i x.1)],fun t x l j=>zipL [0,1,2,3] (zb.D.flat e.1.1 e.1.2.1 x.2)⟩
def jd (k:Nat)(e:Ins sD):Nat->(mf e).X->(mf e).V->Option (mf e).W:=fun m_ (i:Unit) (v_:Int × Int × zb)=>uA e.2.1.2.2 m_ v_.1 v_.2.1 v_.2.2
theorem bm (k:Nat)(i:Ins sD)(m:Nat):((mf i).at (jd k i) m).Sound pG 231 32 (Bf k i) :=
  lsn mixed (mf i) (id:=0) (body:=nav [1,1,0,1,0,0] (zK pG 231)) (jd k i) (fun _=>none) (fun u=>u) (gj (g2 (gI 5) (g2 (gI 6) (gO zb.D [0,1,2,3]))) []) (gj (g2 (gI 5) (gO zb.D [0,1,2,3])) []) (fun m=>(.g 2 (.cond (.blk (.g 3 (.s (.idx true 0 (.tmp 16) 6) (.s (.seg 3 [.A 6,.R 6 0]) (.s (.call K135 [.K 0,.K 1,.K 2,.K 3] [0,1,2,3]) (.g 3 (.s (.idx true 0 (.tmp 23) 7) (.s (.seg 2 [.A 7,.R 7 0]) (.s (.call K135 [.K 0,.K 1,.K 2,.K 3] [0,1,2,3]) (.g 2 (.s (.idx true 0 (.tmp 28) 8) (.s (.seg 3 [.A 8,.R 8 0]) (.g 3 .back))))))))))))) .leaf))) m
theorem S231 (k:Nat):(C231 k).Sound pG :=
  fsn mixed (C231 k) (n:=32) (rs:=rsOf pG 231) [] [0,1,2,3] (gj (g2 (gI 4) (gO zb.D [0,1,2,3])) []) (fun i=>(.g 1 (.g 1 (.g 4 (.loop ⟨(mf i).at (jd k i) k,bm k i k⟩ (gl gU (g2 (gI 5) (g2 (gI 6) (gO zb.D [0,1,2,3]))) []) (.g 2 .ret)))))) Tryz.func231
def K231 (k:Nat):SCon El pG:=⟨C231 k,S231 k,Tryz.call231⟩
def C190 (k:Nat):Con El:=zG 190 sD (fun e=>w3 k e.1.2.2 e.2.1.2.2) 0 0 (fun e t l j=>.i t.1) (fun e t l j=>zb.D.flat e.1.1 e.1.2.1 t.2)
abbrev bc (k:Nat)(i:Ins sD):Kn El->VC (C190 k).T:=retC pG (C190 k) (rsOf pG 190) [] [0,1,2,3] (gj (g2 (gI 4) (gO zb.D [0,1,2,3])) []) i
def n2 (l:Ins sD):BCon El (Int × zb):=⟨nav [1,1,0,1] (zK pG 190),Int,(List zm) × Int × zb,(List zm) × zb,(List zm) × zb,fun u=>.inr u,fun _ _=>none,fun t=>[(0,⟨1,l.2.1.1,l.2.1.2.1,l.2.1.2.2⟩)],fun t v_ j e=>[(0,.pointer (some ⟨l.1.1,0,none⟩)),(5,.slice (na e 0) v_.1.length (nn j 0)),(12,.slice l.2.1.1 l.2.1.2.2.length l.2.1.2.1),(13,.i (t)),(14,.i v_.2.1)],fun t v_ j e=>zipL [9] [.sl 5 259 (na e 0) (nn j 0) v_.1]++zipL [0,1,2,3] (zb.D.flat l.1.1 l.1.2.1 v_.2.2),1,1,fun t x j e=>[(0,.pointer (some ⟨l.1.1,0,none⟩)),(5,.slice (na e 0) x.1.length (nn j 0))],fun t x j e=>zipL [8] [.sl 5 259 (na e 0) (nn j 0) x.1]++zipL [0,1,2,3] (zb.D.flat l.1.1 l.1.2.1 x.2)⟩
def k6 (k:Nat)(e:Ins sD):Nat->(n2 e).X->(n2 e).V->Option (n2 e).W:=fun m_ (i:Int) (v_:(List zm) × Int × zb)=>ve (i) e.2.1.2.2 m_ v_.1 v_.2.1 v_.2.2
theorem cZ (k:Nat)(i:Ins sD)(m:Nat):((n2 i).at (k6 k i) m).Sound pG 190 94 (bc k i) :=
  lsn mixed (n2 i) (id:=0) (body:=nav [1,1,0,1,0,0] (zK pG 190)) (k6 k i) (fun _=>none) (fun u=>u) (gj (g2 (gL 5 9) (g2 (gI 14) (gO zb.D [0,1,2,3]))) [nSk 9]) (gj (g2 (gL 5 8) (gO zb.D [0,1,2,3])) [nSk 8]) (fun m=>(.g 1 (.cond (.blk (.s (.idx true 0 (.tmp 14) 2) (.s (.seg 3 [.A 2,.R 2 0]) (.g 4 (.s (.call K157 [.K 0,.K 1,.K 2,.K 3] [0,1,2,3]) (.g 1 (.s (.bld 11 5 259) (.s (.app 9 (.O 11)) (.g 1 (.g 2 .back)))))))))) (.rk (rb 8 [9]) .leaf)))) m
def n4 (j:Ins sD):BCon El (Int × zb):=⟨nav [1,1,1,1,1,0,0,0,1,0,1,1,1,1,1,0] (zK pG 190),(List zm) × (Option Addr × Nat) × Nat × Int × Int × (List Int) × (Option Addr × Nat) × zb,Int,Int,Int,fun u=>.inr u,fun _ _=>none,fun e=>[(0,⟨1,j.2.1.1,j.2.1.2.1,j.2.1.2.2⟩)],fun e v_ t l=>[(0,.pointer (some ⟨j.1.1,0,none⟩)),(5,.slice (e.2.1.1) (e.1).length (e.2.1.2)),(8,.slice (e.2.2.2.2.2.2.1.1) (e.2.2.2.2.2.1).length (e.2.2.2.2.2.2.1.2)),(10,.pointer (some ⟨e.2.2.1,0,none⟩)),(11,.i v_)],fun e v_ t l=>zipL [36] [.sl 5 259 (e.2.1.1) (e.2.1.2) (e.1)]++zipL [44] [.blk (e.2.2.1) 259 [.i (e.2.2.2.1),.i (e.2.2.2.2.1)]]++zipL [37] [.sl 1 3 (e.2.2.2.2.2.2.1.1) (e.2.2.2.2.2.2.1.2) (e.2.2.2.2.2.1)]++zipL [0,1,2,3] (zb.D.flat j.1.1 j.1.2.1 (e.2.2.2.2.2.2.2)),0,0,fun e x t l=>[(0,.pointer (some ⟨j.1.1,0,none⟩)),(5,.slice (e.2.1.1) (e.1).length (e.2.1.2)),(8,.slice (e.2.2.2.2.2.2.1.1) (e.2.2.2.2.2.1).length (e.2.2.2.2.2.2.1.2)),(10,.pointer (some ⟨e.2.2.1,0,none⟩)),(11,.i x)],fun e x t l=>zipL [36] [.sl 5 259 (e.2.1.1) (e.2.1.2) (e.1)]++zipL [44] [.blk (e.2.2.1) 259 [.i (e.2.2.2.1),.i (e.2.2.2.2.1)]]++zipL [37] [.sl 1 3 (e.2.2.2.2.2.2.1.1) (e.2.2.2.2.2.2.1.2) (e.2.2.2.2.2.1)]++zipL [0,1,2,3] (zb.D.flat j.1.1 j.1.2.1 (e.2.2.2.2.2.2.2))⟩
def k7 (k:Nat)(i:Ins sD):Nat->(n4 i).X->(n4 i).V->Option (n4 i).W:=fun m_ (e:(List zm) × (Option Addr × Nat) × Nat × Int × Int × (List Int) × (Option Addr × Nat) × zb) (v_:Int)=>vf (e.1) (e.2.2.2.1) (e.2.2.2.2.1) (e.2.2.2.2.2.1) (e.2.2.2.2.2.2.2) i.2.1.2.2 m_ v_
theorem ba (k:Nat)(i:Ins sD)(m:Nat):((n4 i).at (k7 k i) m).Sound pG 190 94 (bc k i) :=
  lsn mixed (n4 i) (id:=4) (body:=nav [1,1,1,1,1,0,0,0,1,0,1,1,1,1,1,0,0,0] (zK pG 190)) (k7 k i) (fun _=>none) (fun u=>u) (gj (gI 11) []) (gj (gI 11) []) (fun m=>(.join (Bool) 0 0 (gj (gB 83) []) (fun e t l j=>([(83,.bool t)]++kp [0,5,8,10,11] e,ka [36,44,37,0,1,2,3] e)) (.drw (.q [0,1,2,3,4] [] (.split 74 (.q [5,6] [] (.s (.idx false 36 (.tmp 76) 60) (.q [7,8,9,10,11,12,13] [.A 60,.X 60 36 1,.C 44 1] .leaf))) (.q [5,6,7,8,9,10,11,12,13] [] .leaf)))) (.cond (.blk (.g 3 .back)) .leaf))) m
def n8 (j:Ins sD):BCon El (Int × zb):=⟨nav [1,1,1,1,1,0] (zK pG 190),Unit,(List zm) × (List Int) × zb,(List Int) × zb,(List Int) × zb,fun u=>.inr u,fun _ _=>none,fun t=>[(0,⟨1,j.2.1.1,j.2.1.2.1,j.2.1.2.2⟩)],fun t v_ i e=>[(0,.pointer (some ⟨j.1.1,0,none⟩)),(5,.slice (na e 0) v_.1.length (nn i 0)),(8,.slice (na e 1) v_.2.1.length (nn i 1))],fun t v_ i e=>zipL [36] [.sl 5 259 (na e 0) (nn i 0) v_.1]++zipL [37] [.sl 1 3 (na e 1) (nn i 1) v_.2.1]++zipL [0,1,2,3] (zb.D.flat j.1.1 j.1.2.1 v_.2.2),1,1,fun t l i e=>[(0,.pointer (some ⟨j.1.1,0,none⟩)),(8,.slice (na e 0) l.1.length (nn i 0))],fun t l i e=>zipL [35] [.sl 1 3 (na e 0) (nn i 0) l.1]++zipL [0,1,2,3] (zb.D.flat j.1.1 j.1.2.1 l.2)⟩
def k8 (k:Nat)(e:Ins sD):Nat->(n8 e).X->(n8 e).V->Option (n8 e).W:=fun m_ (i:Unit) (v_:(List zm) × (List Int) × zb)=>wi e.2.1.2.2 m_ v_.1 v_.2.1 v_.2.2
theorem bb (k:Nat)(i:Ins sD)(m:Nat):((n8 i).at (k8 k i) m).Sound pG 190 94 (bc k i) :=
  lsn mixed (n8 i) (id:=2) (body:=nav [1,1,1,1,1,0,0,0] (zK pG 190)) (k8 k i) (fun _=>none) (fun u=>u) (gj (g2 (gL 5 36) (g2 (gL 1 37) (gO zb.D [0,1,2,3]))) [nSk 36,nSk 37]) (gj (g2 (gL 1 35) (gO zb.D [0,1,2,3])) [nSk 35]) (fun m=>(.g 3 (.cond (.blk (.g 1 (.s (.idx false 36 (.const (.i 0)) 42) (.s (.seg 2 [.A 42,.X 42 36 0,.X 42 36 1]) (.s (.new 39 []) (.s (.sto 39) (.join (Bool) 0 0 (gj (gB 46) []) (fun e l j t=>([(46,.bool l)]++kp [0,5,8,9] e,ka [39,36,37,0,1,2,3] e)) (.drw (.q [0,1,2,3] [] (.split 38 (.q [4,5,6,7,8,9,10,11] [] .leaf) (.q [4] [] (.s (.idx false 36 (.const (.i 1)) 45) (.q [5,6,7,8,9,10,11] [.A 45,.X 45 36 1,.C 39 1] .leaf)))))) (.cond (.drw (.q [0,1,2,5] [.C 39 0] (.s (.cut false 36 (some (.const (.i 1))) none 1047) (.q [6] [.W 1047] (.a 3 (.bld 41 1 3) [.W 1047] (.a 4 (.app 37 (.O 41)) [.W 1047] (.q [7,8] [] (.s (.own 1047 36) .back)))))))) (.jg (zm × zb) 1 0 (gj (g2 (gC 44 0 2 zm.dec) (gO zb.D [0,1,2,3])) [nPk 44]) (fun e l j t=>match (g2 (gP 0) (gA zb.D [0,1,2,3])) e with|some x=>([(10,.pointer (some ⟨(nn j 0),0,none⟩))]++kp [0,5,8] e,ka [36,37] e++zipL [44] [.blk (nn j 0) 259 [.i l.1.n,.i l.1.rank]]++zipL [0,1,2,3] (zb.D.flat (x.1) (x.2) l.2))|none=>([],[])) (.drw (.q [0,1,2,3] [.C 39 0] (.s (.idx false 36 (.const (.i 1)) 50) (.q [4,5,6,7,8,10,11,12] [.A 50,.X 50 36 0,.C 39 1,.C 39 1] (.alt2 9 (.call (K229 m) [.K 0,.K 1,.K 2,.K 3] [0,1,2,3]) [.C 39 1] (.q [13] [] (.a 14 (.new 45 []) [.C 39 1] (.a 15 (.sto 45) [] (.rk (rb 44 [45]) .leaf)))) 14 (.new 46 []) [.C 39 1,.C 39 1,.X 50 36 0,.A 50,.C 39 0] (.a 9 (.call (K229 m) [.K 0,.K 1,.K 2,.K 3] [0,1,2,3]) [.C 39 1] (.q [13] [] (.a 15 (.sto 46) [] (.rk (rb 44 [46]) .leaf))))))))) (.g 1 (.s (.cut false 36 (some (.const (.i 2))) none 1051) (.s (.seg 2 [.W 1051]) (.g 1 (.s (.own 1051 36) (.loop ⟨(n4 i).at (k7 k i) m,ba k i m⟩ (gl (g2 (gL 5 36) (g2 (gh 36) (g2 (gP 44) (g2 (gC 44 0 1 dI) (g2 (gC 44 1 1 dI) (g2 (gL 1 37) (g2 (gh 37) (gO zb.D [0,1,2,3])))))))) (gI 11) []) (.s (.seg 3 [.C 44 0,.C 44 1]) (.s (.bld 47 5 259) (.s (.call K230 [.K 36,.K 47] [48]) (.g 1 (.rk (rb 36 [48]) .back)))))))))))))))))))) (.rk (rb 35 [37]) .leaf)))) m
theorem S190 (k:Nat):(C190 k).Sound pG :=
  fsn mixed (C190 k) (n:=94) (rs:=rsOf pG 190) [] [0,1,2,3] (gj (g2 (gI 4) (gO zb.D [0,1,2,3])) []) (fun i=>(.g 1 (.g 1 (.g 3 (.s (.nil 10 5 259) (.rk (rb 9 [10]) (.loop ⟨(n2 i).at (k6 k i) k,cZ k i k⟩ (gl (gI 13) (g2 (gL 5 9) (g2 (gI 14) (gO zb.D [0,1,2,3]))) [nSk 9]) (.g 1 (.s (.call (K227 k) [.K 8] [8]) (.s (.rlp 5 8) (.s (.rlp 27 8) (.g 1 (.s (.nil 38 1 3) (.rk (rb 36 [8,38]) (.loop ⟨(n8 i).at (k8 k i) k,bb k i k⟩ (gl gU (g2 (gL 5 36) (g2 (gL 1 37) (gO zb.D [0,1,2,3]))) [nSk 36,nSk 37]) (.g 2 (.s (.call (K231 k) [.K 0,.K 1,.K 2,.K 3,.O 35] [0,1,2,3]) (.g 1 .ret)))))))))))))))))) Tryz.func190
def K190 (k:Nat):SCon El pG:=⟨C190 k,S190 k,Tryz.call190⟩
theorem qx {w0 w:World}{As:List HP}{k:Nat}{j:Nat}{e:zb.A}{a_:zb}{u:Option Addr}{x:Nat}{l:List Int}{X_l:HP}{t:Int × zb}(hX_l:SlRd X_l ecI 1 u l)(hC_l:l.length<=x)(hm:w3 k a_ l=some t)(H:St w0 (zb.R j e a_::X_l::As) w) :
    xw pG 190 #[.pointer (some ⟨j,0,none⟩),.slice u l.length x] w fun v w'=>v = .i t.1/\St w0 (zb.R j e t.2::X_l::As) w':=by
  replace H:=H.t1.t1;replace H:=(fs0 fun As=>zb.D_st).1 H;refine (S190 k ((j,e,a_),(u,x,l),()) t hm w0 w (X_l::As) (rdc (rdH 1 (.head _) hX_l hC_l) rd0) H).mono ?_;rintro v w' ⟨B,y,hn,ha,hv,H,z⟩;obtain rfl:=ls0 hn;obtain rfl:=ls0 ha;refine⟨hv,?_⟩;refine (fs0 fun As=>zb.D_st).2 ?_;exact H
def C137 (k:Nat):Con El:=zG 137 wD (fun e=>uD k e.1.2.2 e.2.1 e.2.2.1) 1 1 (fun e t l j=>.tuple #[.i t.1,.bool t.2.1]) (fun e t l j=>zb.D.flat e.1.1 (zb.A.mk e.1.2.1.l_b e.1.2.1.l_c (na j 0) (nn l 0) e.1.2.1.m__p) t.2.2)
theorem S137 (k:Nat):(C137 k).Sound pG :=
  fsn mixed (C137 k) (n:=29) (rs:=rsOf pG 137) [] [0,1,2,3] (gj (g2 (gI 6) (g2 (gB 7) (gO zb.D [0,1,2,3]))) [nq_2]) (fun i=>(.g 2 (.g 2 (.vQ (.g 2 (.s (.call K188 [.K 0,.K 1,.K 2,.K 3] [0,1,2,3]) (.g 5 (.g 2 (.cond (.g 3 .ret) (.g 2 (.s (.bld 4 1 3) (.g 2 (.s (.call (K191 k) [.K 0,.K 1,.K 2,.K 3] [5,0,1,2,3]) (.s (.app 4 (.O 5)) (.s (.call (K190 k) [.K 0,.K 1,.K 2,.K 3,.O 4] [0,1,2,3]) (.g 2 .ret)))))))))))))))) Tryz.func137
def K137 (k:Nat):SCon El pG:=⟨C137 k,S137 k,Tryz.call137⟩
def C233:Con El:=zG 233 wD (fun e=>sT e.1.2.2 e.2.1 e.2.2.1) 0 0 (fun e t j i=>.tuple #[]) (fun e t j i=>zb.D.flat e.1.1 e.1.2.1 t)
theorem S233:(C233).Sound pG :=
  fsn mixed (C233) (n:=24) (rs:=rsOf pG 233) [] [0,1,2,3] (gj (gO zb.D [0,1,2,3]) []) (fun i=>(.g 2 (.vQ (.g 2 (.s (.call K197 [.K 0,.K 1,.K 2,.K 3] [0,1,2,3]) (.g 2 (.s (.call K197 [.K 0,.K 1,.K 2,.K 3] [0,1,2,3]) (.g 2 (.g 3 (.s (.call K224 [.K 0,.K 1,.K 2,.K 3] [0,1,2,3]) (.g 3 (.s (.call K224 [.K 0,.K 1,.K 2,.K 3] [0,1,2,3]) .leaf)))))))))))) Tryz.func233
def K233:SCon El pG:=⟨C233,S233,Tryz.call233⟩
def C192 (k:Nat):Con El:=zG 192 wD (fun e=>uZ k e.1.2.2 e.2.1 e.2.2.1) 0 0 (fun e t l j=>.i t.1) (fun e t l j=>zb.D.flat e.1.1 e.1.2.1 t.2)
theorem S192 (k:Nat):(C192 k).Sound pG :=
  fsn mixed (C192 k) (n:=61) (rs:=rsOf pG 192) [] [0,1,2,3] (gj (g2 (gI 6) (gO zb.D [0,1,2,3])) []) (fun i=>(.g 1 (.g 1 (.g 2 (.join (Int × zb) 0 0 (gj (g2 (gI 7) (gO zb.D [0,1,2,3])) []) (fun e l u t=>match (g2 (gP 0) (gA zb.D [0,1,2,3])) e with|some j=>([(7,.i l.1)]++kp [0,1,2] e,ka [] e++zipL [0,1,2,3] (zb.D.flat (j.1) (j.2) l.2))|none=>([],[])) (.cond (.g 2 (.s (.call K197 [.K 0,.K 1,.K 2,.K 3] [0,1,2,3]) (.g 1 .leaf))) .leaf) (.g 2 (.s (.call K157 [.K 0,.K 1,.K 2,.K 3] [0,1,2,3]) (.g 1 (.join (Bool × zb) 0 0 (gj (g2 (gB 27) (gO zb.D [0,1,2,3])) []) (fun e l u t=>match (g2 (gP 0) (gA zb.D [0,1,2,3])) e with|some j=>([(27,.bool l.1)]++kp [0,1,2,7,8] e,ka [] e++zipL [0,1,2,3] (zb.D.flat (j.1) (j.2) l.2))|none=>([],[])) (.g 3 (.split 21 (.g 6 .leaf) (.g 2 (.s (.call K157 [.K 0,.K 1,.K 2,.K 3] [0,1,2,3]) (.g 3 .leaf))))) (.cond (.g 3 (.s (.call K135 [.K 0,.K 1,.K 2,.K 3] [0,1,2,3]) (.g 2 (.s (.call K135 [.K 0,.K 1,.K 2,.K 3] [0,1,2,3]) (.g 2 .ret))))) (.g 2 (.s (.call K197 [.K 0,.K 1,.K 2,.K 3] [0,1,2,3]) (.g 1 (.g 4 (.s (.call (K229 k) [.K 0,.K 1,.K 2,.K 3] [0,1,2,3]) (.g 1 (.g 3 (.s (.call (K211 k) [.K 0,.K 1,.K 2,.K 3] [0,1,2,3]) (.join (zb) 0 0 (gj (gO zb.D [0,1,2,3]) []) (fun e l u t=>match (g2 (gP 0) (gA zb.D [0,1,2,3])) e with|some j=>([]++kp [0,2,9,10] e,ka [] e++zipL [0,1,2,3] (zb.D.flat (j.1) (j.2) l))|none=>([],[])) (.cond (.g 3 (.s (.call K233 [.K 0,.K 1,.K 2,.K 3] [0,1,2,3]) .leaf)) .leaf) (.g 3 (.s (.call K234 [.K 0,.K 1,.K 2,.K 3] [0,1,2,3]) (.g 3 (.s (.call K135 [.K 0,.K 1,.K 2,.K 3] [0,1,2,3]) (.g 2 .ret)))))))))))))))))))))))) Tryz.func192
def K192 (k:Nat):SCon El pG:=⟨C192 k,S192 k,Tryz.call192⟩
theorem nL {w0 w:World}{As:List HP}{k:Nat}{j:Nat}{e:zb.A}{a_:zb}{r:Int}{n:Int}{t:Int × zb}  (hm:uZ k a_ r n=some t)(H:St w0 (zb.R j e a_::As) w) :
    xw pG 192 #[.pointer (some ⟨j,0,none⟩),.i r,.i n] w fun v w'=>v = .i t.1/\St w0 (zb.R j e t.2::As) w':=by
  replace H:=(fs0 fun As=>zb.D_st).1 H;refine (S192 k ((j,e,a_),r,n,()) t hm w0 w (As) rd0 H).mono ?_;rintro v w' ⟨x,l,hn,ha,hv,H,u⟩;obtain rfl:=ls0 hn;obtain rfl:=ls0 ha;refine⟨hv,?_⟩;refine (fs0 fun As=>zb.D_st).2 ?_;exact H
def C138 (k:Nat):Con El:=zG 138 wD (fun e=>rZ k e.1.2.2 e.2.1 e.2.2.1) 1 1 (fun e t l j=>.tuple #[.i t.1,.bool t.2.1]) (fun e t l j=>zb.D.flat e.1.1 (zb.A.mk e.1.2.1.l_b e.1.2.1.l_c (na j 0) (nn l 0) e.1.2.1.m__p) t.2.2)
theorem S138 (k:Nat):(C138 k).Sound pG :=
  fsn mixed (C138 k) (n:=25) (rs:=rsOf pG 138) [] [0,1,2,3] (gj (g2 (gI 6) (g2 (gB 7) (gO zb.D [0,1,2,3]))) [nq_2]) (fun i=>(.g 2 (.g 2 (.vQ (.g 2 (.s (.call K188 [.K 0,.K 1,.K 2,.K 3] [0,1,2,3]) (.g 5 (.g 2 (.cond (.g 3 .ret) (.g 3 (.s (.call (K192 k) [.K 0,.K 1,.K 2,.K 3] [0,1,2,3]) (.g 2 .ret)))))))))))) Tryz.func138
def K138 (k:Nat):SCon El pG:=⟨C138 k,S138 k,Tryz.call138⟩
def C139:Con El:=zG 139 wD (fun e=>j8 e.1.2.2 e.2.1 e.2.2.1) 0 0 (fun e t l j=>.tuple #[.i t.1,.bool t.2]) (fun e t l j=>zb.D.flat e.1.1 e.1.2.1 e.1.2.2)
theorem S139:(C139).Sound pG:=xV _ fun _=>rfl
def K139:SCon El pG:=⟨C139,S139,Tryz.call139⟩
def C140:Con El:=zG 140 wD (fun e=>oz e.1.2.2 e.2.1 e.2.2.1) 0 0 (fun e t l j=>.tuple #[.i t.1,.bool t.2]) (fun e t l j=>zb.D.flat e.1.1 e.1.2.1 e.1.2.2)
theorem S140:(C140).Sound pG:=xV _ fun _=>rfl
def K140:SCon El pG:=⟨C140,S140,Tryz.call140⟩
abbrev dt:List (PK El):=[pI .i64,pO zb.D,pI .i64,pI .i64]
def C106 (k:Nat):Con El:=zG 106 dt (fun e=>pd k e.1 e.2.1.2.2 e.2.2.1 e.2.2.2.1) 1 1 (fun e t l j=>.tuple #[.i t.1,.bool t.2.1]) (fun e t l j=>zb.D.flat e.2.1.1 (zb.A.mk e.2.1.2.1.l_b e.2.1.2.1.l_c (na j 0) (nn l 0) e.2.1.2.1.m__p) t.2.2)
theorem S106 (k:Nat):(C106 k).Sound pG :=
  fsn mixed (C106 k) (n:=52) (rs:=rsOf pG 106) [] [0,1,2,3] (gj (g2 (gI 8) (g2 (gB 9) (gO zb.D [0,1,2,3]))) [nq_2]) (fun i=>(.g 2 (.g 1 (.blk (.g 2 (.cond (.g 3 (.s (.call (K136 k) [.K 0,.K 1,.K 2,.K 3] [0,1,2,3]) (.g 4 .ret))) (.g 2 (.cond (.g 3 (.s (.call (K137 k) [.K 0,.K 1,.K 2,.K 3] [0,1,2,3]) (.g 4 .ret))) (.g 2 (.cond (.g 3 (.s (.call (K138 k) [.K 0,.K 1,.K 2,.K 3] [0,1,2,3]) (.g 4 .ret))) (.g 2 (.cond (.g 3 (.s (.call K139 [.K 0,.K 1,.K 2,.K 3] [0,1,2,3]) (.g 4 .ret))) (.g 2 (.cond (.g 3 (.s (.call K140 [.K 0,.K 1,.K 2,.K 3] [0,1,2,3]) (.g 4 .ret))) (.g 3 .ret))))))))))))))) Tryz.func106
def K106 (k:Nat):SCon El pG:=⟨C106 k,S106 k,Tryz.call106⟩
def C141:Con El:=zG 141 kX (fun e=>we e.1.2.2) 0 0 (fun e t l j=>.i t) (fun e t l j=>zd.D.flat e.1.1 e.1.2.1 e.1.2.2)
theorem S141:(C141).Sound pG :=
  fsn mixed (C141) (n:=7) (rs:=rsOf pG 141) [] [0,1,2] (gj (gI 2) []) (fun i=>(.g 1 (.s (.seg 5 [.C 0 0]) .ret))) Tryz.func141
def K141:SCon El pG:=⟨C141,S141,Tryz.call141⟩
abbrev A2:List (PK El):=[pO zd.D,pV zA.dv zA.val]
def C142:Con El:=zG 142 A2 (fun l=>yn l.1.2.2 l.2.1) 2 2 (fun l t j e=>.tuple #[.agg #[.i t.1.At,.i t.1.Gen],.bool t.2.1]) (fun l t j e=>zd.D.flat l.1.1 (zd.A.mk (na e 0) (nn j 0) (na e 1) (nn j 1)) t.2.2)
abbrev nq_3:Nx El:=nA zd.D [0,1,2] (fun e=>([e.l_c,e.free_c],[e.l_b,e.free_b]))
theorem S142:(C142).Sound pG :=
  fsn mixed (C142) (n:=81) (rs:=rsOf pG 142) [.C 2000 0,.C 2000 1] [0,1,2] (gj (g2 (gC 2000 0 2 ze.dec) (g2 (gB 5) (gO zd.D [0,1,2]))) [nq_3]) (fun i=>(.s (.new 3 []) (.s (.new 4 []) (.g 1 (.s (.seg 6 [.C 0 1]) (.s (.seg 7 [.C 0 2]) (.g 2 (.joinR (Int × zd) 2 2 (gj (g2 (gI 6) (gO zd.D [0,1,2])) [nq_3]) (fun e t l j=>match (gP 0) e with|some u=>([(6,.i t.1)]++kp [0,3,4] e,ka [4,3] e++zipL [0,1,2] (zd.D.flat (u) (zd.A.mk (na j 0) (nn l 0) (na j 1) (nn l 1)) t.2))|none=>([],[])) (.cond (.s (.seg 5 [.C 0 2]) (.s (.idx false 2 (.tmp 26) 2) (.s (.seg 3 [.A 2,.X 2 2 0]) (.s (.seg 6 [.C 0 2]) (.s (.cut false 2 none (some (.tmp 34)) 1003) (.s (.seg 3 [.W 1003]) (.s (.sto 0) (.s (.own 1003 2) .leaf)))))))) (.s (.seg 6 [.C 0 0]) (.cond (.g 1 (.s (.sto 4) (.g 1 (.rk (rb 2000 [4]) .ret)))) (.s (.seg 6 [.C 0 1]) (.s (.bld 6 3 243) (.s (.app 1 (.O 6)) (.g 2 (.s (.sto 0) .leaf)))))))) (.s (.seg 5 [.C 0 1]) (.s (.idx false 1 (.tmp 59) 4) (.s (.seg 2 [.A 4]) (.s (.seg 7 [.X 4 1 0]) (.s (.sset 1 4 0) (.s (.rlc 4 0 1) (.drw (.q [0,1,2,3,4] [.C 3 0,.C 3 1,.C 3 2] (.a 5 (.sset 1 4 1) [.C 3 0,.C 3 1,.C 3 2] (.s (.rlc 4 0 1) (.q [6,7] [] (.a 8 (.sset 1 4 2) [] (.s (.rlc 4 0 1) (.s (.seg 6 [.X 4 1 0]) (.s (.sto 4) (.g 1 (.rk (rb 2000 [4]) .ret))))))))))))))))))))))))) Tryz.func142
def K142:SCon El pG:=⟨C142,S142,Tryz.call142⟩
abbrev AV:List (PK El):=[pO zj.D,pV ze.dv ze.val,pI .i64]
def C107:Con El:=zG 107 AV (fun e=>uL e.1.2.2 e.2.1 e.2.2.1) 2 2 (fun e t l j=>.tuple #[.agg #[.i t.1.At,.i t.1.Gen],.i t.2.1]) (fun e t l j=>zj.D.flat e.1.1 (zj.A.mk e.1.2.1.heaps_p e.1.2.1.heaps_a e.1.2.1.items_p (zd.A.mk (na j 0) (nn l 0) (na j 1) (nn l 1)) e.1.2.1.at__p) t.2.2)
abbrev nq_4:Nx El:=nA zj.D rg_7 (fun e=>([e.items_a.l_c,e.items_a.free_c],[e.items_a.l_b,e.items_a.free_b]))
theorem S107:(C107).Sound pG :=
  fsn mixed (C107) (n:=70) (rs:=rsOf pG 107) [.C 2000 0,.C 2000 1] rg_7 (gj (g2 (gC 2000 0 2 ze.dec) (g2 (gI 7) (gO zj.D rg_7))) [nq_4]) (fun i=>(.s (.new 8 []) (.s (.new 9 []) (.g 1 (.jg (Int) 0 0 (gj (gI 9) []) (fun e t j l=>([(9,.i t)]++kp [0,2,4,6] e,ka [9,8,0,1,2,3,4,5,6,7] e)) (.drw (.q [0,1,2,3,4] [.C 0 0,.C 8 0,.C 8 1] (.alt2 5 (.call K120 [.K 1,.K 2,.K 3] [1,2,3]) [] (.q [6,7,8] [] (.a 9 (.new 11 []) [] (.a 10 (.sto 11) [] (.q [11] [] .leaf)))) 9 (.new 12 []) [.C 8 0,.C 8 1,.C 0 0] (.a 5 (.call K120 [.K 1,.K 2,.K 3] [1,2,3]) [] (.q [6,7,8] [] (.a 10 (.sto 12) [] (.q [11] [] .leaf))))))) (.g 2 (.cond (.g 2 (.s (.sto 9) (.g 1 (.rk (rb 2000 [9]) .ret)))) (.s (.seg 5 [.C 0 2]) (.s (.mget 7 0 3 (sM.int rfl) (ze.mk 0 0)) (.g 3 (.s (.new 13 []) (.s (.sto 13) (.g 1 (.blk (.drw (.q [0,1,2,3,5,6,7,8] [.C 0 1,.C 0 1] (.a 4 (.call K133 [.K 4,.K 5,.K 6] [4,5,6]) [.C 0 1] (.a 9 (.call K141 [.K 4,.K 5,.K 6] [4,5,6]) [] (.q [10,11] [] (.cond (.g 1 (.s (.sto 9) (.g 1 (.rk (rb 2000 [9]) .ret)))) (.g 2 (.cond (.g 1 (.s (.sto 9) (.g 1 (.rk (rb 2000 [9]) .ret)))) (.jg (ze × zj) 3 2 (gj (g2 (gC 16 0 2 ze.dec) (gO zj.D rg_7)) [nPk 16,nq_4]) (fun e t j l=>match (g2 (gP 0) (gA zj.D rg_7)) e with|some u=>([(12,.pointer (some ⟨(nn j 0),0,none⟩))]++kp [0,2,6] e,ka [9] e++zipL [16] [.blk (nn j 0) 33 [.i t.1.At,.i t.1.Gen]]++zipL rg_7 (zj.D.flat (u.1) (zj.A.mk (u.2.heaps_p) (u.2.heaps_a) (u.2.items_p) (zd.A.mk (na l 0) (nn j 1) (na l 1) (nn j 2)) (u.2.at__p)) t.2))|none=>([],[])) (.drw (.q rg_6 [.C 0 1,.C 8 0,.C 8 1] (.alt2 7 (.call K142 [.K 4,.K 5,.K 6] [4,5,6]) [] (.q [8,9,10] [] (.a 11 (.new 17 []) [] (.a 12 (.sto 17) [] (.q [13] [] (.rk (rb 16 [17]) .leaf))))) 11 (.new 18 []) [.C 8 0,.C 8 1,.C 0 1] (.a 7 (.call K142 [.K 4,.K 5,.K 6] [4,5,6]) [] (.q [8,9,10] [] (.a 12 (.sto 18) [] (.q [13] [] (.rk (rb 16 [18]) .leaf)))))))) (.drw (.q [0,1,2,3,4,5] [.C 0 2,.C 16 0,.C 16 1] (.a 6 (.mput 7 0 3 (sM.int rfl)) [] (.s (.seg 1 [.C 16 0,.C 16 1]) (.s (.sto 9) (.g 1 (.rk (rb 2000 [9]) .ret)))))))))))))))))))))))))))))) Tryz.func107
def K107:SCon El pG:=⟨C107,S107,Tryz.call107⟩
abbrev A3:List (PK El):=[pO zg.D,pV ze.dv ze.val,pV zB.dv zB.val]
def C143:Con El:=zG 143 A3 (fun e=>xl e.1.2.2 e.2.1 e.2.2.1) 0 0 (fun e t l j=>.i t.1) (fun e t l j=>zg.D.flat e.1.1 e.1.2.1 t.2)
theorem S143:(C143).Sound pG :=
  fsn mixed (C143) (n:=22) (rs:=rsOf pG 143) [] [0,1,2] (gj (g2 (gI 6) (gO zg.D [0,1,2])) []) (fun i=>(.s (.new 3 []) (.s (.new 4 []) (.g 1 (.s (.seg 2 [.C 3 0,.C 3 1]) (.s (.call K175 [.K 0,.K 1,.K 2] [0,1,2]) (.eo 12 0 1 0 (.g 5 (.g 2 (.join (Unit) 0 0 (gj gU []) (fun e t l j=>([]++kp [8] e,ka [0,1,2] e)) (.cond .dead .leaf) (.g 2 .ret)))) (.g 5 (.g 2 (.join (zg) 0 0 (gj (gO zg.D [0,1,2]) []) (fun e t l j=>match (g2 (gP 0) (gA zg.D [0,1,2])) e with|some u=>([]++kp [8] e,ka [] e++zipL [0,1,2] (zg.D.flat (u.1) (u.2) t))|none=>([],[])) (.cond (.s (.seg 4 [.C 4 0,.C 4 1,.C 4 2]) (.s (.sset 1 0 2) (.s (.rlc 0 0 1) .leaf))) .leaf) (.g 2 .ret))))))))))) Tryz.func143
def K143:SCon El pG:=⟨C143,S143,Tryz.call143⟩
abbrev AW:List (PK El):=[pO zj.D,pV ze.dv ze.val,pI .i64,pI .i64]
def C108:Con El:=zG 108 AW (fun e=>xh e.1.2.2 e.2.1 e.2.2.1 e.2.2.2.1) 0 0 (fun e t l j=>.i t.1) (fun e t l j=>zj.D.flat e.1.1 e.1.2.1 t.2)
theorem S108:(C108).Sound pG :=
  fsn mixed (C108) (n:=34) (rs:=rsOf pG 108) [] rg_7 (gj (g2 (gI 8) (gO zj.D rg_7)) []) (fun i=>(.s (.new 8 []) (.g 1 (.jg (zB × Int) 1 0 (gj (g2 (gC 11 0 3 zB.dec) (gI 10)) [nPk 11]) (fun e l j t=>([(9,.pointer (some ⟨(nn j 0),0,none⟩)),(10,.i l.2)]++kp [0,2,3,5] e,ka [8,0,1,2,3,4,5,6,7] e++zipL [11] [.blk (nn j 0) 175 [.i l.1.kind,.i l.1.root,.i l.1.n]])) (.drw (.q [0,1,2,3,4] [.C 0 0,.C 8 0,.C 8 1] (.alt2 5 (.call K120 [.K 1,.K 2,.K 3] [1,2,3]) [] (.q [6,7,8] [] (.a 9 (.new 12 []) [] (.a 10 (.sto 12) [] (.q [11] [] (.rk (rb 11 [12]) .leaf))))) 9 (.new 13 []) [.C 8 0,.C 8 1,.C 0 0] (.a 5 (.call K120 [.K 1,.K 2,.K 3] [1,2,3]) [] (.q [6,7,8] [] (.a 10 (.sto 13) [] (.q [11] [] (.rk (rb 11 [13]) .leaf)))))))) (.g 2 (.join (zj) 0 0 (gj (gO zj.D rg_7) []) (fun e l j t=>match (g2 (gP 0) (gA zj.D rg_7)) e with|some u=>([]++kp [10] e,ka [] e++zipL rg_7 (zj.D.flat (u.1) (u.2) l))|none=>([],[])) (.cond (.g 3 (.s (.sto 11) (.g 1 (.s (.sto 11) (.drw (.q [0,1,2,3,4,5] [.C 0 0,.C 8 0,.C 8 1,.C 11 0,.C 11 1,.C 11 2] (.a 6 (.call K143 [.K 1,.K 2,.K 3] [1,2,3]) [] .leaf))))))) .leaf) (.g 2 .ret))))))) Tryz.func108
def K108:SCon El pG:=⟨C108,S108,Tryz.call108⟩
abbrev C71p:List (PK El):=[pO zo.D,pV zY.dv zY.val]
def C71 (k:Nat):Con El:=zG 71 C71p (fun l=>uc k l.1.2.2 l.2.1) 10 6 (fun l t e j=>.agg #[.i t.1.Why,.i t.1.Heap.At,.i t.1.Heap.Gen,.i t.1.Item.At,.i t.1.Item.Gen,.i t.1.Entry.Key,.i t.1.Entry.Serial,.i t.1.N]) (fun l t e j=>zo.D.flat l.1.1 (zo.A.mk l.1.2.1.a__p (zb.A.mk (na j 0) (nn e 0) (na j 1) (nn e 1) (nn e 2)) l.1.2.1.t__p (zj.A.mk (nn e 3) (zg.A.mk (na j 2) (nn e 4) (na j 3) (nn e 5)) (nn e 6) (zd.A.mk (na j 4) (nn e 7) (na j 5) (nn e 8)) (nn e 9)) l.1.2.1.entries_p) t.2)
abbrev nq_5:Nx El:=nA zo.D rg_13 (fun e=>([e.a__a.l_c,e.a__a.free_c,e.a__a.m__p,e.t__a.heaps_p,e.t__a.heaps_a.l_c,e.t__a.heaps_a.free_c,e.t__a.items_p,e.t__a.items_a.l_c,e.t__a.items_a.free_c,e.t__a.at__p],[e.a__a.l_b,e.a__a.free_b,e.t__a.heaps_a.l_b,e.t__a.heaps_a.free_b,e.t__a.items_a.l_b,e.t__a.items_a.free_b]))
abbrev nq_6:Nx El:=nA zo.D rg_13 (fun e=>([e.t__a.heaps_p,e.t__a.heaps_a.l_c,e.t__a.heaps_a.free_c,e.t__a.items_p,e.t__a.items_a.l_c,e.t__a.items_a.free_c,e.t__a.at__p],[e.t__a.heaps_a.l_b,e.t__a.heaps_a.free_b,e.t__a.items_a.l_b,e.t__a.items_a.free_b]))
theorem S71 (k:Nat):(C71 k).Sound pG :=
  fsn mixed (C71 k) (n:=110) (rs:=rsOf pG 71) [.C 2000 0,.C 2000 1,.C 2000 2,.C 2000 3,.C 2000 4,.C 2000 5,.C 2000 6,.C 2000 7] rg_13 (gj (g2 (gC 2000 0 8 zJ.dec) (gO zo.D rg_13)) [nq_5]) (fun i=>(.s (.new 14 []) (.s (.new 15 []) (.drw (.q [0,1,2,3,4,5] [.C 0 2,.C 14 2,.C 14 3] (.a 6 (.call K76 [.K 5,.K 6,.K 7,.K 8,.K 9,.K 10,.K 11,.K 12] [5,6,7,8,9,10,11,12]) [] (.q [7,8,9,10,11,12,13,14,15] [] (.blk (.g 3 (.cond (.g 1 (.s (.call K78 [] []) (.s (.sto 15) (.rk (rb 2000 [15]) .ret)))) (.drw (.q [0,1,2,3,5,6,7,8] [.C 0 2,.C 0 0] (.a 4 (.call K104 [.K 5,.K 6,.K 7,.K 8,.K 9,.K 10,.K 11,.K 12] [5,6,7,8,9,10,11,12]) [.C 0 0] (.q [9,10] [] (.cond (.s (.call K78 [] []) (.s (.sto 15) (.rk (rb 2000 [15]) .ret))) (.drw (.q rg_6 [.C 14 8,.C 0 4] (.a 7 (.new 17 []) [.C 0 4,.C 14 8] (.a 8 (.sto 17) [] (.drw (.q rg_7 [.C 0 1,.C 17 0,.C 17 1] (.a 8 (.call K105 [.K 1,.K 2,.K 3,.K 4] [1,2,3,4]) [] (.q [9,10,11,12,13] [] (.s (.seg 7 [.C 0 1]) (.s (.call (K106 k) [.K 1,.K 2,.K 3,.K 4] [1,2,3,4]) (.g 4 (.jg (ze × zo) 8 4 (gj (g2 (gC 20 0 2 ze.dec) (gO zo.D rg_13)) [nPk 20,nq_6]) (fun l u e j=>match (g2 (gP 0) (gA zo.D rg_13)) l with|some t=>([(12,.pointer (some ⟨(nn e 0),0,none⟩))]++kp [0,3,4,6,7,9] l,ka [17,15,14] l++zipL [20] [.blk (nn e 0) 33 [.i u.1.At,.i u.1.Gen]]++zipL rg_13 (zo.D.flat (t.1) (zo.A.mk (t.2.a__p) (t.2.a__a) (t.2.t__p) (zj.A.mk (nn e 1) (zg.A.mk (na j 0) (nn e 2) (na j 1) (nn e 3)) (nn e 4) (zd.A.mk (na j 2) (nn e 5) (na j 3) (nn e 6)) (nn e 7)) (t.2.entries_p)) u.2))|none=>([],[])) (.drw (.q rg_6 [.C 0 2,.C 14 2,.C 14 3] (.alt2 7 (.call K107 [.K 5,.K 6,.K 7,.K 8,.K 9,.K 10,.K 11,.K 12] [5,6,7,8,9,10,11,12]) [] (.q [8,9,10] [] (.a 11 (.new 21 []) [] (.a 12 (.sto 21) [] (.q [13] [] (.rk (rb 20 [21]) .leaf))))) 11 (.new 22 []) [.C 14 2,.C 14 3,.C 0 2] (.a 7 (.call K107 [.K 5,.K 6,.K 7,.K 8,.K 9,.K 10,.K 11,.K 12] [5,6,7,8,9,10,11,12]) [] (.q [8,9,10] [] (.a 12 (.sto 22) [] (.q [13] [] (.rk (rb 20 [22]) .leaf)))))))) (.drw (.q rg_8 [.C 0 2,.C 14 2,.C 14 3] (.a 9 (.call K108 [.K 5,.K 6,.K 7,.K 8,.K 9,.K 10,.K 11,.K 12] [5,6,7,8,9,10,11,12]) [] (.drw (.q [0,1,2,3,4,5] [.C 0 3,.C 20 0,.C 20 1,.C 17 0,.C 17 1] (.a 6 (.mput 13 1 33 ze.vW) [] (.s (.seg 7 [.C 0 4]) (.s (.sto 0) (.s (.seg 3 [.C 20 0,.C 20 1,.C 17 0,.C 17 1]) (.s (.sto 15) (.rk (rb 2000 [15]) .ret)))))))))))))))))))))))))))))))))))))) Tryz.func71
def K71 (k:Nat):SCon El pG:=⟨C71 k,S71 k,Tryz.call71⟩
def C144:Con El:=zG 144 u9 (fun e=>rm e.1.2.2 e.2.1) 0 0 (fun e t l j=>.i t.1) (fun e t l j=>zb.D.flat e.1.1 e.1.2.1 t.2)
theorem S144:(C144).Sound pG :=
  fsn mixed (C144) (n:=10) (rs:=rsOf pG 144) [] [0,1,2,3] (gj (g2 (gI 4) (gO zb.D [0,1,2,3])) []) (fun i=>(.g 1 (.g 2 (.vQ (.g 2 (.s (.call K197 [.K 0,.K 1,.K 2,.K 3] [0,1,2,3]) (.g 1 .ret))))))) Tryz.func144
def K144:SCon El pG:=⟨C144,S144,Tryz.call144⟩
def C198 (k:Nat):Con El:=zG 198 sD (fun e=>vd k e.1.2.2 e.2.1.2.2) 0 0 (fun e t l j=>.i t.1) (fun e t l j=>zb.D.flat e.1.1 e.1.2.1 t.2)
abbrev A8 (k:Nat)(i:Ins sD):Kn El->VC (C198 k).T:=retC pG (C198 k) (rsOf pG 198) [] [0,1,2,3] (gj (g2 (gI 4) (gO zb.D [0,1,2,3])) []) i
def n9 (e:Ins sD):BCon El (Int × zb):=⟨nav [1,1,0,1] (zK pG 198),Int,Int × Int × zb,Int × zb,Int × zb,fun u=>.inr u,fun _ _=>none,fun t=>[(0,⟨1,e.2.1.1,e.2.1.2.1,e.2.1.2.2⟩)],fun t v_ l j=>[(0,.pointer (some ⟨e.1.1,0,none⟩)),(5,.i v_.1),(8,.slice e.2.1.1 e.2.1.2.2.length e.2.1.2.1),(9,.i (t)),(10,.i v_.2.1)],fun t v_ l j=>zipL [0,1,2,3] (zb.D.flat e.1.1 e.1.2.1 v_.2.2),0,0,fun t x l j=>[(5,.i x.1)],fun t x l j=>zipL [0,1,2,3] (zb.D.flat e.1.1 e.1.2.1 x.2)⟩
def k9 (k:Nat)(e:Ins sD):Nat->(n9 e).X->(n9 e).V->Option (n9 e).W:=fun m_ (i:Int) (v_:Int × Int × zb)=>wJ (i) e.2.1.2.2 m_ v_.1 v_.2.1 v_.2.2
theorem bf (k:Nat)(i:Ins sD)(m:Nat):((n9 i).at (k9 k i) m).Sound pG 198 25 (A8 k i) :=
  lsn mixed (n9 i) (id:=0) (body:=nav [1,1,0,1,0,0] (zK pG 198)) (k9 k i) (fun _=>none) (fun u=>u) (gj (g2 (gI 5) (g2 (gI 10) (gO zb.D [0,1,2,3]))) []) (gj (g2 (gI 5) (gO zb.D [0,1,2,3])) []) (fun m=>(.g 1 (.cond (.join (Int × zb) 0 0 (gj (g2 (gI 5) (gO zb.D [0,1,2,3])) []) (fun e j x t=>match (g2 (gP 0) (gA zb.D [0,1,2,3])) e with|some l=>([(5,.i j.1)]++kp [0,8,9,10] e,ka [] e++zipL [0,1,2,3] (zb.D.flat (l.1) (l.2) j.2))|none=>([],[])) (.blk (.s (.idx true 0 (.tmp 10) 5) (.s (.seg 3 [.A 5,.R 5 0]) (.join (Bool × zb) 0 0 (gj (g2 (gB 21) (gO zb.D [0,1,2,3])) []) (fun e j x t=>match (g2 (gP 0) (gA zb.D [0,1,2,3])) e with|some l=>([(21,.bool j.1)]++kp [0,5,7,8,9,10] e,ka [] e++zipL [0,1,2,3] (zb.D.flat (l.1) (l.2) j.2))|none=>([],[])) (.g 3 (.split 16 (.g 5 .leaf) (.g 3 (.s (.call (K211 m) [.K 0,.K 1,.K 2,.K 3] [0,1,2,3]) (.g 1 .leaf))))) (.cond (.g 2 .leaf) .leaf))))) (.g 2 .back)) .leaf))) m
theorem S198 (k:Nat):(C198 k).Sound pG :=
  fsn mixed (C198 k) (n:=25) (rs:=rsOf pG 198) [] [0,1,2,3] (gj (g2 (gI 4) (gO zb.D [0,1,2,3])) []) (fun i=>(.g 1 (.g 1 (.g 3 (.loop ⟨(n9 i).at (k9 k i) k,bf k i k⟩ (gl (gI 9) (g2 (gI 5) (g2 (gI 10) (gO zb.D [0,1,2,3]))) []) (.g 2 .ret)))))) Tryz.func198
def K198 (k:Nat):SCon El pG:=⟨C198 k,S198 k,Tryz.call198⟩
def C145 (k:Nat):Con El:=zG 145 u9 (fun e=>tc k e.1.2.2 e.2.1) 0 0 (fun e t l j=>.i t.1) (fun e t l j=>zb.D.flat e.1.1 e.1.2.1 t.2)
theorem S145 (k:Nat):(C145 k).Sound pG :=
  fsn mixed (C145 k) (n:=14) (rs:=rsOf pG 145) [] [0,1,2,3] (gj (g2 (gI 4) (gO zb.D [0,1,2,3])) []) (fun i=>(.g 1 (.g 2 (.vQ (.g 4 (.s (.call (K191 k) [.K 0,.K 1,.K 2,.K 3] [4,0,1,2,3]) (.s (.call (K198 k) [.K 0,.K 1,.K 2,.K 3,.O 4] [0,1,2,3]) (.s (.call K197 [.K 0,.K 1,.K 2,.K 3] [0,1,2,3]) (.g 1 .ret))))))))) Tryz.func145
def K145 (k:Nat):SCon El pG:=⟨C145 k,S145 k,Tryz.call145⟩
def C146 (k:Nat):Con El:=zG 146 u9 (fun e=>pJ k e.1.2.2 e.2.1) 0 0 (fun e t l j=>.i t.1) (fun e t l j=>zb.D.flat e.1.1 e.1.2.1 t.2)
theorem S146 (k:Nat):(C146 k).Sound pG :=
  fsn mixed (C146 k) (n:=14) (rs:=rsOf pG 146) [] [0,1,2,3] (gj (g2 (gI 4) (gO zb.D [0,1,2,3])) []) (fun i=>(.g 1 (.g 2 (.vQ (.g 4 (.s (.call (K191 k) [.K 0,.K 1,.K 2,.K 3] [4,0,1,2,3]) (.s (.call (K198 k) [.K 0,.K 1,.K 2,.K 3,.O 4] [0,1,2,3]) (.s (.call K197 [.K 0,.K 1,.K 2,.K 3] [0,1,2,3]) (.g 1 .ret))))))))) Tryz.func146
def K146 (k:Nat):SCon El pG:=⟨C146 k,S146 k,Tryz.call146⟩
def C147:Con El:=zG 147 u9 (fun e=>fZ e.1.2.2 e.2.1) 0 0 (fun e t l j=>.i t) (fun e t l j=>zb.D.flat e.1.1 e.1.2.1 e.1.2.2)
theorem S147:(C147).Sound pG:=xV _ fun _=>rfl
def K147:SCon El pG:=⟨C147,S147,Tryz.call147⟩
def C148:Con El:=zG 148 u9 (fun e=>nk e.1.2.2 e.2.1) 0 0 (fun e t l j=>.i t) (fun e t l j=>zb.D.flat e.1.1 e.1.2.1 e.1.2.2)
theorem S148:(C148).Sound pG:=xV _ fun _=>rfl
def K148:SCon El pG:=⟨C148,S148,Tryz.call148⟩
abbrev au:List (PK El):=[pI .i64,pO zb.D,pI .i64]
def C110 (k:Nat):Con El:=zG 110 au (fun e=>oG k e.1 e.2.1.2.2 e.2.2.1) 0 0 (fun e t l j=>.i t.1) (fun e t l j=>zb.D.flat e.2.1.1 e.2.1.2.1 t.2)
theorem S110 (k:Nat):(C110 k).Sound pG :=
  fsn mixed (C110 k) (n:=33) (rs:=rsOf pG 110) [] [0,1,2,3] (gj (g2 (gI 6) (gO zb.D [0,1,2,3])) []) (fun i=>(.g 1 (.g 1 (.blk (.g 2 (.cond (.g 2 (.s (.call K144 [.K 0,.K 1,.K 2,.K 3] [0,1,2,3]) (.g 1 .ret))) (.g 2 (.cond (.g 2 (.s (.call (K145 k) [.K 0,.K 1,.K 2,.K 3] [0,1,2,3]) (.g 1 .ret))) (.g 2 (.cond (.g 2 (.s (.call (K146 k) [.K 0,.K 1,.K 2,.K 3] [0,1,2,3]) (.g 1 .ret))) (.g 2 (.cond (.g 2 (.s (.call K147 [.K 0,.K 1,.K 2,.K 3] [0,1,2,3]) (.g 1 .ret))) (.g 2 (.cond (.g 2 (.s (.call K148 [.K 0,.K 1,.K 2,.K 3] [0,1,2,3]) (.g 1 .ret))) (.g 1 .ret))))))))))))))) Tryz.func110
def K110 (k:Nat):SCon El pG:=⟨C110 k,S110 k,Tryz.call110⟩
def C109:Con El:=zG 109 C70p (fun e=>v7 e.1.2.2 e.2.1) 0 0 (fun e t l j=>.tuple #[.agg #[.i t.1.At,.i t.1.Gen],.bool t.2]) (fun e t l j=>zj.D.flat e.1.1 e.1.2.1 e.1.2.2)
theorem S109:(C109).Sound pG :=
  fsn mixed (C109) (n:=19) (rs:=rsOf pG 109) [.C 2000 0,.C 2000 1] rg_7 (gj (g2 (gC 2000 0 2 ze.dec) (gB 5)) []) (fun i=>(.s (.new 8 []) (.g 1 (.s (.seg 5 [.C 0 2]) (.s (.mget 7 0 3 (sM.int rfl) (ze.mk 0 0)) (.g 3 (.s (.new 9 []) (.s (.sto 9) (.g 1 (.s (.seg 2 [.C 9 0,.C 9 1]) (.s (.sto 8) (.g 1 (.rk (rb 2000 [8]) .ret))))))))))))) Tryz.func109
def K109:SCon El pG:=⟨C109,S109,Tryz.call109⟩
def C200 (k:Nat):Con El:=zG 200 u9 (fun e=>rO k e.1.2.2 e.2.1) 0 0 (fun e t l j=>.i t.1) (fun e t l j=>zb.D.flat e.1.1 e.1.2.1 t.2)
theorem S200 (k:Nat):(C200 k).Sound pG :=
  fsn mixed (C200 k) (n:=13) (rs:=rsOf pG 200) [] [0,1,2,3] (gj (g2 (gI 4) (gO zb.D [0,1,2,3])) []) (fun i=>(.g 1 (.g 3 (.s (.call K197 [.K 0,.K 1,.K 2,.K 3] [0,1,2,3]) (.g 2 (.s (.call K197 [.K 0,.K 1,.K 2,.K 3] [0,1,2,3]) (.s (.call (K189 k) [.K 0,.K 1,.K 2,.K 3] [0,1,2,3]) (.g 1 .ret)))))))) Tryz.func200
def K200 (k:Nat):SCon El pG:=⟨C200 k,S200 k,Tryz.call200⟩
def C155:Con El:=zG 155 u9 (fun e=>w5 e.1.2.2 e.2.1) 1 1 (fun e t j i=>.bool t.1) (fun e t j i=>zb.D.flat e.1.1 (zb.A.mk e.1.2.1.l_b e.1.2.1.l_c (na i 0) (nn j 0) e.1.2.1.m__p) t.2)
theorem S155:(C155).Sound pG :=
  fsn mixed (C155) (n:=31) (rs:=rsOf pG 155) [] [0,1,2,3] (gj (g2 (gB 4) (gO zb.D [0,1,2,3])) [nq_2]) (fun i=>(.g 1 (.s (.seg 4 [.C 0 3]) (.s (.call K185 [.K 3] [3]) (.g 2 (.s (.call K199 [.K 0,.K 1,.K 2,.K 3] [0,1,2,3]) (.g 1 (.cond (.g 1 .ret) (.s (.seg 5 [.C 0 0]) (.s (.idx false 1 (.tmp 18) 0) (.s (.seg 2 [.A 0]) (.s (.sset 1 0 10) (.s (.rlc 0 0 0) (.s (.seg 6 [.C 0 2]) (.s (.bld 4 1 3) (.s (.app 2 (.O 4)) (.g 2 (.s (.sto 0) (.g 1 .ret))))))))))))))))))) Tryz.func155
def K155:SCon El pG:=⟨C155,S155,Tryz.call155⟩
def C201:Con El:=zG 201 u9 (fun e=>ru e.1.2.2 e.2.1) 1 1 (fun e t l j=>.i t.1) (fun e t l j=>zb.D.flat e.1.1 (zb.A.mk e.1.2.1.l_b e.1.2.1.l_c (na j 0) (nn l 0) e.1.2.1.m__p) t.2)
theorem S201:(C201).Sound pG :=
  fsn mixed (C201) (n:=16) (rs:=rsOf pG 201) [] [0,1,2,3] (gj (g2 (gI 4) (gO zb.D [0,1,2,3])) [nq_2]) (fun i=>(.g 1 (.g 2 (.s (.call K197 [.K 0,.K 1,.K 2,.K 3] [0,1,2,3]) (.g 1 (.g 2 (.s (.call K135 [.K 0,.K 1,.K 2,.K 3] [0,1,2,3]) (.g 2 (.s (.call K155 [.K 0,.K 1,.K 2,.K 3] [0,1,2,3]) (.g 2 .ret)))))))))) Tryz.func201
def K201:SCon El pG:=⟨C201,S201,Tryz.call201⟩
theorem nc {w0 w:World}{As:List HP}{u:Nat}{e:zb.A}{a_:zb}{n:Int}{t:Int × zb}  (hm:ru a_ n=some t)(H:St w0 (zb.R u e a_::As) w) :
    xw pG 201 #[.pointer (some ⟨u,0,none⟩),.i n] w fun v w'=>∃ (j:Option Addr),∃ (l:Nat),v = .i t.1/\St w0 (zb.R u (zb.A.mk e.l_b e.l_c j l e.m__p) t.2::As) w':=by
  replace H:=(fs0 fun As=>zb.D_st).1 H;refine (S201 ((u,e,a_),n,()) t hm w0 w (As) rd0 H).mono ?_;rintro v w' ⟨J,B,hn,ha,hv,H,D⟩;obtain⟨F,I,rfl,y⟩:=lsS hn;obtain rfl:=ls0 y;obtain⟨a0,z,rfl,x⟩:=lsS ha;obtain rfl:=ls0 x;refine⟨a0,F,hv,?_⟩;refine (fs0 fun As=>zb.D_st).2 ?_;exact H
def C149 (k:Nat):Con El:=zG 149 u9 (fun e=>uk k e.1.2.2 e.2.1) 1 1 (fun e t l j=>.tuple #[.i t.1,.i t.2.1]) (fun e t l j=>zb.D.flat e.1.1 (zb.A.mk e.1.2.1.l_b e.1.2.1.l_c (na j 0) (nn l 0) e.1.2.1.m__p) t.2.2)
theorem S149 (k:Nat):(C149 k).Sound pG :=
  fsn mixed (C149 k) (n:=25) (rs:=rsOf pG 149) [] [0,1,2,3] (gj (g2 (gI 4) (g2 (gI 5) (gO zb.D [0,1,2,3]))) [nq_2]) (fun i=>(.g 2 (.join (Bool) 0 0 (gj (gB 14) []) (fun e t l j=>([(14,.bool t)]++kp [0,1] e,ka [0,1,2,3] e)) (.g 5 (.s (.call K199 [.K 0,.K 1,.K 2,.K 3] [0,1,2,3]) (.g 2 .leaf))) (.cond (.g 2 .ret) (.g 2 (.s (.call (K200 k) [.K 0,.K 1,.K 2,.K 3] [0,1,2,3]) (.g 1 (.g 2 (.s (.call K135 [.K 0,.K 1,.K 2,.K 3] [0,1,2,3]) (.g 3 (.s (.call K201 [.K 0,.K 1,.K 2,.K 3] [0,1,2,3]) (.g 2 .ret)))))))))))) Tryz.func149
def K149 (k:Nat):SCon El pG:=⟨C149 k,S149 k,Tryz.call149⟩
theorem uO {w0 w:World}{As:List HP}{x:Int}{v_:Int}{r:Nat}{t:Bool}  (hm:wm x v_=some t)(H:St w0 (Blk r 3 [.i v_]::As) w) :
    xw pG 237 #[.i x,.pointer (some ⟨r,0,none⟩)] w fun v w'=>v = .bool t/\St w0 (Blk r 3 [.i v_]::As) w':=by
 rw[wm] at hm;refine enter (args:=[.i x,.pointer (some ⟨r,0,none⟩)]) Tryz.func237 rfl rfl rfl fun a j=>?_
 refine Runs.sr ?_;refine WR.seg j 1 [] [0,1] (Lo:=[(0,.i x),(1,.pointer (some ⟨r,0,none⟩))]) (obs:=[]) rfl (by kernel_rfl) trivial fun a j=>?_
 refine WR.done rfl ?_;refine Runs.sr ?_;refine WR.e j [.i v_] [(3,.bool (x == v_))] (obs:=[.cell ⟨r,0,none⟩ (.i v_)]) ⟨H.cell 0 rfl rfl,trivial⟩ fun a j=>?_
 refine Runs.ret j Tryz.func237 rfl rfl ?_;cases hm;exact⟨rfl,H⟩
theorem tC {w0 w:World}{As:List HP}{k:Nat}{j:Option Addr}{l:Nat}{s:List Int}{u:HP}{v_:Int}{r:Nat}{t:Int}(hX_s:SlRd u ecI 1 j s)(hC_s:s.length<=l)(hm:xK k s v_=some t)(H:St w0 (u::Blk r 3 [.i v_]::As) w) :
    xw pG 259 #[.slice j s.length l,.func (.func 237) #[] #[.pointer (some ⟨r,0,none⟩)]] w fun v w'=>v = .i t/\St w0 (u::Blk r 3 [.i v_]::As) w':=by
 rw[xK] at hm;refine enter (args:=[.slice j s.length l,.func (.func 237) #[] #[.pointer (some ⟨r,0,none⟩)]]) Tryz.func259 rfl rfl rfl fun a e=>?_
 refine Runs.sr ?_;refine WR.seg e 1 [] [0,1] (Lo:=[(0,.slice j s.length l),(1,.func (.func 237) #[] #[.pointer (some ⟨r,0,none⟩)])]) (obs:=[]) rfl (by kernel_rfl) trivial fun a e=>?_
 refine WR.done rfl ?_;refine Runs.seq ?_;refine Runs.sr ?_;refine WR.e0 e [(7,.i (s.length:Int)),(8,.i 0)] fun a e=>?_
 obtain⟨s1,y,B⟩:=bind_some hm;refine Runs.join (fun a w=>∃ s2,s1=Sum.inr s2/\zZ 19 a []/\St w0 (u::Blk r 3 [.i v_]::As) w) (fun hk=>?_) ?_
 ·replace hm:=y;clear y;refine Runs.block ?_;refine Runs.loop (fun m a w=>∃ (x:Int),zZ 19 a [(0,.slice j s.length l),(1,.func (.func 237) #[] #[.pointer (some ⟨r,0,none⟩)]),(7,.i (s.length:Int)),(8,.i x)]/\St w0 (u::Blk r 3 [.i v_]::As) w/\zT (s.length:Int) s v_ m x=some s1) k ⟨0,e.sel [0,1,7,8] (by kernel_rfl),H.t1.t1,hm⟩ ?_;rintro m ih a w ⟨x,e,H,hm⟩;cases m with
  | zero=>simp[zT] at hm
  | succ m =>
   rw[zT] at hm;refine Runs.sr ?_;refine WR.seg e 1 [] [0,1,7,8,9] (Lo:=[(0,.slice j s.length l),(1,.func (.func 237) #[] #[.pointer (some ⟨r,0,none⟩)]),(7,.i (s.length:Int)),(8,.i x),(9,.bool (decide (x<(s.length:Int))))]) (obs:=[]) rfl (by kernel_rfl) trivial fun a e=>?_
   refine WR.done rfl ?_;refine Runs.seq ?_;refine Runs.cond e rfl (fun c=>?_) (fun c=>?_)
   ·replace hm:=uF c hm;refine Runs.skip ?_;refine Runs.seq ?_;refine Runs.block ?_;refine Runs.sr ?_;refine WR.e0 e [(5,.i x)] fun a e=>?_
    refine Runs.sr ?_;obtain⟨x2,z,hm⟩:=bind_some hm;obtain⟨b,o,hs,D⟩:=SlRd.base hX_s xZ H 0 rfl z;refine WR.d e 5 [.pointer (some ⟨b,o,none⟩),.i x2] [(11,.func (.func 237) #[] #[.pointer (some ⟨r,0,none⟩)]),(15,.i x2)] (obs:=[.p ((j:Option Addr)=some ⟨b,o,none⟩),.p (0<=(x:Int)/\(x:Int)<((s.length:Nat):Int)),.cell ⟨b,o+(Int.toNat x)*1,none⟩ (.i x2)]) ⟨hs,D,SlRd.cells hX_s xZ H 0 rfl hs z 0 _ rfl,trivial⟩ fun a e=>?_
    obtain⟨t_,A,hm⟩:=bind_some hm;refine WR.eff e rfl rfl rfl rfl (OpTo.fv e rfl rfl rfl Tryz.call237 (uO A H.t1)) ?_;rintro _ w ⟨rfl,H⟩ a e;refine WR.done rfl ?_;refine Runs.cond e rfl (fun c=>?_) (fun c=>?_)
    ·replace hm:=uF c hm;refine Runs.sr ?_;refine WR.e0 e [(4,.i x)] fun a e=>?_
     refine Runs.ret e Tryz.func259 rfl rfl ?_;cases hm;dsimp only at B;cases B;exact⟨rfl,H.t1⟩
    ·replace hm:=uE c hm;refine Runs.skip ?_;refine Runs.inBlock ?_;refine Runs.region ?_;refine WR.e0 e [(8,.i (w64 (x+1)))] fun a e=>?_
     exact ih m (Nat.lt_succ_self m) _ _ ⟨w64 (x+1),e.sel [0,1,7,8] (by kernel_rfl),H.t1,hm⟩
   ·replace hm:=uE c hm;refine Runs.exit rfl ?_;cases hm;exact hk _ _ ⟨_,rfl,e.sel [] (by kernel_rfl),H.t1.t1⟩
 rintro a w ⟨s2,rfl,e,H⟩;replace hm:=B;dsimp only at hm;refine Runs.sr ?_;refine WR.seg e 1 [] [4] (Lo:=[(4,.i (-1))]) (obs:=[]) rfl (by kernel_rfl) trivial fun a e=>?_
 refine WR.done rfl ?_;refine Runs.ret e Tryz.func259 rfl rfl ?_;cases hm;exact⟨rfl,H.t1.t1⟩
theorem tp {w0 w:World}{As:List HP}{k:Nat}{y:Option Addr}{u:Nat}{s:List Int}{v_:Int}{r:Nat}{t:(List Int)}  (hm:y2 k s v_=some t)(H:St w0 (Sl 3 ecI 1 y u s::Blk r 3 [.i v_]::As) w) :
    xw pG 236 #[.slice y s.length u,.func (.func 237) #[] #[.pointer (some ⟨r,0,none⟩)]] w fun v w'=>∃ (W:Option Addr),∃ (X:Nat),v = .slice W t.length X/\St w0 (Sl 3 ecI 1 W X t::Blk r 3 [.i v_]::As) w':=by
 rw[y2] at hm;refine enter (args:=[.slice y s.length u,.func (.func 237) #[] #[.pointer (some ⟨r,0,none⟩)]]) Tryz.func236 rfl rfl rfl fun a A=>?_
 refine Runs.sr ?_;refine WR.seg A 1 [] [0,1] (Lo:=[(0,.slice y s.length u),(1,.func (.func 237) #[] #[.pointer (some ⟨r,0,none⟩)])]) (obs:=[]) rfl (by kernel_rfl) trivial fun a A=>?_
 refine WR.done rfl ?_;refine Runs.sr ?_;refine WR.d0 A 2 [(8,.slice y s.length u),(9,.func (.func 237) #[] #[.pointer (some ⟨r,0,none⟩)])] fun a A=>?_
 obtain⟨t_,Z,hm⟩:=bind_some hm;replace H:=H.t1.t1;refine WR.eff A rfl rfl rfl rfl (OpTo.fn A rfl rfl Tryz.call259 (tC (hX_s:=(wZ 3 ecI 1 _ _ _)) (hC_s:=(H.ot 0 rfl).1) Z H)) ?_;rintro _ w ⟨rfl,H⟩ a A;refine WR.e0 A [(5,.i t_)] fun a A=>?_
 refine Runs.seq ?_;refine Runs.sr ?_;refine WR.e0 A [(12,.bool (t_ == (-1)))] fun a A=>?_
 refine Runs.cond A rfl (fun c=>?_) (fun c=>?_)
 ·replace hm:=uF c hm;refine Runs.sr ?_;refine WR.e0 A [(4,.slice y s.length u)] fun a A=>?_
  refine Runs.ret A Tryz.func236 rfl rfl ?_;cases hm;exact⟨y,u,rfl,H.t1.t1⟩
 ·replace hm:=uE c hm;refine Runs.skip ?_;refine Runs.seq ?_;refine Runs.sr ?_;refine WR.e0 A [(6,.i (w64 (t_+1)))] fun a A=>?_
  obtain⟨s1,I,hm⟩:=bind_some hm;refine Runs.join (fun a w=>zZ 42 a [(0,.slice y s1.2.length u),(5,.i s1.1)]/\St w0 (Sl 3 ecI 1 y u s1.2::Blk r 3 [.i v_]::As) w) (fun hk=>?_) ?_
  ·replace hm:=I;clear I;refine Runs.block ?_;refine Runs.loop (fun m a w=>∃ (i:Int),∃ (j:Int),∃ (m_:List Int),zZ 42 a [(0,.slice y m_.length u),(1,.func (.func 237) #[] #[.pointer (some ⟨r,0,none⟩)]),(5,.i i),(6,.i j)]/\St w0 (Sl 3 ecI 1 y u m_::Blk r 3 [.i v_]::As) w/\z6 v_ m i j m_=some s1) k ⟨t_,w64 (t_+1),s,A.sel [0,1,5,6] (by kernel_rfl),H.t1.t1,hm⟩ ?_;rintro m ih a w ⟨i,j,m_,A,H,hm⟩;cases m with
   | zero=>simp[z6] at hm
   | succ m =>
    rw[z6] at hm;refine Runs.seq ?_;refine Runs.sr ?_;refine WR.seg A 4 [] [0,1,5,6,19] (Lo:=[(0,.slice y m_.length u),(1,.func (.func 237) #[] #[.pointer (some ⟨r,0,none⟩)]),(5,.i i),(6,.i j),(19,.bool (decide (j<(m_.length:Int))))]) (obs:=[]) rfl (by kernel_rfl) trivial fun a A=>?_
    refine WR.done rfl ?_;refine Runs.cond A rfl (fun c=>?_) (fun c=>?_)
    ·replace hm:=uF c hm;refine Runs.skip ?_;refine Runs.seq ?_;obtain⟨s2,J,hm⟩:=bind_some hm;refine Runs.join (fun a w=>zZ 42 a [(0,.slice y s2.2.length u),(1,.func (.func 237) #[] #[.pointer (some ⟨r,0,none⟩)]),(5,.i s2.1),(6,.i j)]/\St w0 (Sl 3 ecI 1 y u s2.2::Blk r 3 [.i v_]::As) w) (fun hk=>?_) ?_
     ·replace hm:=J;clear J;refine Runs.block ?_;refine Runs.sr ?_;obtain⟨x,ex,hm⟩:=bind_some hm;obtain⟨b,o,hs,hb⟩:=SlRd.base (wZ 3 ecI 1 _ _ _) xZ H 0 rfl ex;refine WR.e A [.pointer (some ⟨b,o,none⟩),.i x] [(7,.i x)] (obs:=[.p ((y:Option Addr)=some ⟨b,o,none⟩),.p (0<=(j:Int)/\(j:Int)<((m_.length:Nat):Int)),.cell ⟨b,o+(Int.toNat j)*1,none⟩ (.i x)]) ⟨hs,hb,SlRd.cells (wZ 3 ecI 1 _ _ _) xZ H 0 rfl hs ex 0 _ rfl,trivial⟩ fun a A=>?_
      refine Runs.sr ?_;refine WR.d0 A 2 [(26,.func (.func 237) #[] #[.pointer (some ⟨r,0,none⟩)]),(27,.i x)] fun a A=>?_
      obtain⟨a2,O,hm⟩:=bind_some hm;refine WR.eff A rfl rfl rfl rfl (OpTo.fv A rfl rfl rfl Tryz.call237 (uO O H.t1)) ?_;rintro _ w ⟨rfl,H⟩ a A;refine WR.e0 A [(29,.bool (!a2))] fun a A=>?_
      refine Runs.cond A rfl (fun c=>?_) (fun c=>?_)
      ·replace hm:=uF c hm;refine Runs.sr ?_;obtain⟨x1,S,hm⟩:=bind_some hm;obtain⟨Y,o1,U,a0⟩:=SlRd.base (wZ 3 ecI 1 _ _ _) xZ H 1 rfl S;refine WR.d A 4 [.pointer (some ⟨Y,o1,none⟩)] [(32,.i x),(33,.pointer (some ⟨Y,o1+(Int.toNat i)*1,none⟩))] (obs:=[.p ((y:Option Addr)=some ⟨Y,o1,none⟩),.p (0<=(i:Int)/\(i:Int)<((m_.length:Nat):Int))]) ⟨U,a0,trivial⟩ fun a A=>?_
       refine WR.eff0 A rfl rfl rfl (OpTo.lW (q:=0) (x':=x) A H.t1 xZ rfl U S rfl rfl rfl rfl rfl (Nat.le_of_ble_eq_true rfl) rfl) ?_;rintro _ w H a A
       try rw[<- oJ m_ i x] at A
       refine WR.done rfl ?_;refine Runs.region ?_;refine WR.seg A 3 [] [0,1,5,6] (Lo:=[(0,.slice y ((mSet m_ i x).length) u),(1,.func (.func 237) #[] #[.pointer (some ⟨r,0,none⟩)]),(5,.i (w64 (i+1))),(6,.i j)]) (obs:=[]) rfl (by kernel_rfl) trivial fun a A=>?_
       refine WR.done rfl ?_;refine Runs.inBlock ?_;cases hm;exact hk _ _ ⟨A.sel [0,1,5,6] (by kernel_rfl),H.t1.t1⟩
      ·replace hm:=uE c hm;refine Runs.skip ?_;refine Runs.inBlock ?_;cases hm;exact hk _ _ ⟨A.sel [0,1,5,6] (by kernel_rfl),H.t1⟩
     rintro a w ⟨A,H⟩;refine Runs.region ?_;refine WR.seg A 3 [] [0,1,5,6] (Lo:=[(0,.slice y s2.2.length u),(1,.func (.func 237) #[] #[.pointer (some ⟨r,0,none⟩)]),(5,.i s2.1),(6,.i (w64 (j+1)))]) (obs:=[]) rfl (by kernel_rfl) trivial fun a A=>?_
     refine WR.done rfl ?_;exact ih m (Nat.lt_succ_self m) _ _ ⟨s2.1,w64 (j+1),s2.2,A.sel [0,1,5,6] (by kernel_rfl),H.t1.t1,hm⟩
    ·replace hm:=uE c hm;refine Runs.exit rfl ?_;cases hm;exact hk _ _ ⟨A.sel [0,5] (by kernel_rfl),H.t1.t1⟩
  rintro a w ⟨A,H⟩;refine Runs.sr ?_;obtain⟨l,el,hm⟩:=bind_some hm;obtain⟨sb,q⟩:∃ z,yt y u (Int.toNat s1.1) 1=z:=⟨_,rfl⟩
  obtain⟨sc,q1⟩:∃ z,u - (Int.toNat s1.1)=z:=⟨_,rfl⟩
  refine WR.seg A 3 [.slice sb l.length sc] [0,5,38] (Lo:=[(0,.slice y s1.2.length u),(5,.i s1.1),(38,.slice sb l.length sc)]) (obs:=[.p (yt y u (Int.toNat s1.1) 1=sb),.p (s1.2.length - (Int.toNat s1.1)=l.length),.p (u - (Int.toNat s1.1)=sc),.p (0<=(s1.1:Int)/\(s1.1:Int)<=((s1.2.length:Nat):Int))]) rfl (by kernel_rfl) ⟨q,qz el,q1,lu el,trivial⟩ fun a A=>?_
  refine WR.eff0 A rfl rfl rfl (OpTo.fO (z:=0) A H xZ el q q1 rfl rfl rfl rfl rfl rfl) ?_;rintro _ w ⟨_,H⟩ a A
  try rw[<- p9 (z:=0) el] at A
  refine WR.done rfl ?_;refine Runs.sr ?_;obtain⟨l1,F,hm⟩:=bind_some hm;obtain⟨B,q2⟩:∃ z,yt y u (Int.toNat 0) 1=z:=⟨_,rfl⟩
  obtain⟨D,q3⟩:∃ z,u - (Int.toNat 0)=z:=⟨_,rfl⟩
  refine WR.seg A 4 [.slice B l1.length D] [4] (Lo:=[(4,.slice B l1.length D)]) (obs:=[.p (yt y u 0 1=B),.p ((Int.toNat s1.1) - 0=l1.length),.p (u - 0=D),.p (0<=(s1.1:Int)/\(s1.1:Int)<=((u:Nat):Int))]) rfl (by kernel_rfl) ⟨q2,qz F,q3,jv F (H.ot 0 rfl).1,trivial⟩ fun a A=>?_
  refine WR.done rfl ?_;replace H:=H.dc xZ F q2 q3;refine Runs.ret A Tryz.func236 rfl rfl ?_;cases hm;exact⟨B,D,rfl,H.t1.t1⟩
def C238 (k:Nat):Con El:=zG 238 u9 (fun j=>tI k j.1.2.2 j.2.1) 1 1 (fun j t i e=>.slice (na e 0) t.1.length (nn i 0)) (fun j t i e=>[.sl 1 3 (na e 0) (nn i 0) t.1]++zb.D.flat j.1.1 j.1.2.1 t.2)
theorem S238 (k:Nat):(C238 k).Sound pG :=
  fsn mixed (C238 k) (n:=10) (rs:=rsOf pG 238) [] [1000,0,1,2,3] (gj (g2 (gL 1 1000) (gO zb.D [0,1,2,3])) [nSk 1000]) (fun i=>(.g 1 (.g 3 (.s (.call K197 [.K 0,.K 1,.K 2,.K 3] [0,1,2,3]) (.s (.call (K232 k) [.K 0,.K 1,.K 2,.K 3] [4,0,1,2,3]) (.g 1 (.rk (rb 1000 [4]) .ret))))))) Tryz.func238
theorem pP {w0 w:World}{As:List HP}{k:Nat}{j:Nat}{e:zb.A}{a_:zb}{n:Int}{t:(List Int) × zb}  (hm:tI k a_ n=some t)(H:St w0 (zb.R j e a_::As) w) :
    xw pG 238 #[.pointer (some ⟨j,0,none⟩),.i n] w fun v w'=>∃ (l:Option Addr),∃ (u:Nat),v = .slice l t.1.length u/\St w0 (Sl 3 ecI 1 l u t.1::zb.R j e t.2::As) w':=by
  replace H:=(fs0 fun As=>zb.D_st).1 H;refine (S238 k ((j,e,a_),n,()) t hm w0 w (As) rd0 H).mono ?_;rintro v w' ⟨J,B,hn,ha,hv,H,D⟩;obtain⟨F,I,rfl,y⟩:=lsS hn;obtain rfl:=ls0 y;obtain⟨a0,z,rfl,x⟩:=lsS ha;obtain rfl:=ls0 x;refine⟨a0,F,hv,?_⟩;refine (fs1 fun As=>zb.D_st).2 ?_;exact H
theorem qy {w0 w:World}{As:List HP}{k:Nat}{j:Nat}{u:zb.A}{a_:zb}{B:Option Addr}{D:Nat}{l:List Int}{n:Int}{t:Int × Int × zb}  (hm:xq k a_ l n=some t)(H:St w0 (zb.R j u a_::Sl 3 ecI 1 B D l::As) w) :
    xw pG 202 #[.pointer (some ⟨j,0,none⟩),.slice B l.length D,.i n] w fun v w'=>∃ (x:Option Addr),∃ (y:Nat),v = .tuple #[.i t.1,.i t.2.1]/\St w0 (zb.R j (zb.A.mk u.l_b u.l_c x y u.m__p) t.2.2::As) w':=by
 rw[xq] at hm;refine enter (args:=[.pointer (some ⟨j,0,none⟩),.slice B l.length D,.i n]) Tryz.func202 rfl rfl rfl fun a e=>?_
 refine Runs.sr ?_;refine WR.eff e rfl rfl rfl rfl (OpTo.new e H [] (.cells #[.i n] 3 (0,0)) (fun r=>.pointer (some ⟨r,0,none⟩)) (obs:=[]) rfl (fun _=>by kernel_rfl) trivial) ?_;rintro _ w ⟨r,rfl,H⟩ a e;refine WR.seg e 3 [] [0,1,5] (Lo:=[(0,.pointer (some ⟨j,0,none⟩)),(1,.slice B l.length D),(5,.pointer (some ⟨r,0,none⟩))]) (obs:=[]) rfl (by kernel_rfl) trivial fun a e=>?_
 refine WR.done rfl ?_;refine Runs.sr ?_;refine WR.d0 e 2 [(10,.slice B l.length D),(11,.func (.func 237) #[] #[.pointer (some ⟨r,0,none⟩)])] fun a e=>?_
 obtain⟨t_,X,hm⟩:=bind_some hm;refine WR.eff e rfl rfl rfl rfl (OpTo.fn e rfl rfl Tryz.call236 (tp X H.t2)) ?_;rintro _ w ⟨sb,sc,rfl,H⟩ a e;refine WR.e0 e [(8,.slice sb t_.length sc)] fun a e=>?_
 refine Runs.sr ?_;refine WR.d e 3 [.i n] [(13,.slice sb t_.length sc),(14,.pointer (some ⟨j,0,none⟩)),(15,.i n)] (obs:=[.cell ⟨r,0,none⟩ (.i n)]) ⟨H.cell 1 rfl rfl,trivial⟩ fun a e=>?_
 obtain⟨a1,F,hm⟩:=bind_some hm;refine WR.eff e rfl rfl rfl rfl (OpTo.fn e rfl rfl Tryz.call238 (pP F H.t2)) ?_;rintro _ w ⟨Z,a0,rfl,H⟩ a e;obtain⟨l1,W,hm⟩:=bind_some hm;replace H:=H.t2;refine WR.eff e rfl rfl rfl rfl (OpTo.tj W e H xZ rfl rfl rfl rfl rfl rfl rfl rfl rfl rfl (SlRd.all (wZ 3 ecI 1 _ _ _) xZ H 1 rfl) rfl) ?_;rintro _ w ⟨O,S,rfl,H⟩ a e;refine WR.e0 e [(8,.slice O l1.length S)] fun a e=>?_
 refine Runs.sr ?_;refine WR.d e 2 [.i n] [(18,.pointer (some ⟨j,0,none⟩)),(19,.i n)] (obs:=[.cell ⟨r,0,none⟩ (.i n)]) ⟨H.cell 3 rfl rfl,trivial⟩ fun a e=>?_
 obtain⟨U,I,hm⟩:=bind_some hm;refine WR.eff e rfl rfl rfl rfl (OpTo.fn e rfl rfl Tryz.call201 (nc I H.t2)) ?_;rintro _ w ⟨z,z1,rfl,H⟩ a e;refine WR.e0 e [(9,.i U.1)] fun a e=>?_
 refine Runs.sr ?_;refine WR.d0 e 2 [(21,.pointer (some ⟨j,0,none⟩)),(22,.slice O l1.length S)] fun a e=>?_
 obtain⟨Y,J,hm⟩:=bind_some hm;replace H:=H.t1.t1;refine WR.eff e rfl rfl rfl rfl (OpTo.fn e rfl rfl Tryz.call190 (qx (hX_l:=(wZ 3 ecI 1 _ _ _)) (hC_l:=(H.ot 1 rfl).1) J H)) ?_;rintro _ w ⟨rfl,H⟩ a e;refine WR.e0 e [(6,.i Y.1),(7,.i U.1)] fun a e=>?_
 refine Runs.ret e Tryz.func202 rfl rfl ?_;cases hm;exact⟨z,z1,rfl,H.x3.x2.x1⟩
abbrev aE:List (PK El):=[pO zb.D,pW 1 3,pI .i64]
def C202 (k:Nat):Con El:=zG 202 aE (fun e=>xq k e.1.2.2 e.2.1.2.2 e.2.2.1) 1 1 (fun e t l j=>.tuple #[.i t.1,.i t.2.1]) (fun e t l j=>zb.D.flat e.1.1 (zb.A.mk e.1.2.1.l_b e.1.2.1.l_c (na j 0) (nn l 0) e.1.2.1.m__p) t.2.2)
theorem S202 (k:Nat):(C202 k).Sound pG:=fun u t hm w0 w F hr H=>by
  obtain⟨⟨p0,x,x0⟩,⟨i,j,x1⟩,x2,_⟩:=u;have e:St w0 (zb.R p0 x x0::Sl 3 ecI 1 i j x1::F) w:=by
    refine (fs0 fun As=>zb.D_st).2 ?_;exact H
  refine (qy (show xq k x0 x1 x2=some t from hm) e).mono ?_;rintro v w' ⟨e0,l,hv,H⟩;refine⟨[l],[e0],rfl,rfl,hv,?_,fun _ h=>by cases h⟩;replace H:=(fs0 fun As=>zb.D_st).1 H;exact H
def K202 (k:Nat):SCon El pG:=⟨C202 k,S202 k,Tryz.call202⟩
def C150 (k:Nat):Con El:=zG 150 u9 (fun e=>td k e.1.2.2 e.2.1) 1 1 (fun e t l j=>.tuple #[.i t.1,.i t.2.1]) (fun e t l j=>zb.D.flat e.1.1 (zb.A.mk e.1.2.1.l_b e.1.2.1.l_c (na j 0) (nn l 0) e.1.2.1.m__p) t.2.2)
theorem S150 (k:Nat):(C150 k).Sound pG :=
  fsn mixed (C150 k) (n:=26) (rs:=rsOf pG 150) [] [0,1,2,3] (gj (g2 (gI 4) (g2 (gI 5) (gO zb.D [0,1,2,3]))) [nq_2]) (fun i=>(.g 2 (.join (Bool) 0 0 (gj (gB 14) []) (fun e t l j=>([(14,.bool t)]++kp [0,1] e,ka [0,1,2,3] e)) (.g 5 (.s (.call K199 [.K 0,.K 1,.K 2,.K 3] [0,1,2,3]) (.g 2 .leaf))) (.cond (.g 2 .ret) (.g 2 (.s (.call (K191 k) [.K 0,.K 1,.K 2,.K 3] [4,0,1,2,3]) (.g 1 (.g 4 (.s (.call (K198 k) [.K 0,.K 1,.K 2,.K 3,.O 4] [0,1,2,3]) (.s (.call (K202 k) ks_4 [0,1,2,3]) (.g 4 .ret))))))))))) Tryz.func150
def K150 (k:Nat):SCon El pG:=⟨C150 k,S150 k,Tryz.call150⟩
theorem sC {w0 w:World}{As:List HP}{x:Int}{v_:Int}{r:Nat}{t:Bool}  (hm:vG x v_=some t)(H:St w0 (Blk r 3 [.i v_]::As) w) :
    xw pG 239 #[.i x,.pointer (some ⟨r,0,none⟩)] w fun v w'=>v = .bool t/\St w0 (Blk r 3 [.i v_]::As) w':=by
 rw[vG] at hm;refine enter (args:=[.i x,.pointer (some ⟨r,0,none⟩)]) Tryz.func239 rfl rfl rfl fun a j=>?_
 refine Runs.sr ?_;refine WR.seg j 1 [] [0,1] (Lo:=[(0,.i x),(1,.pointer (some ⟨r,0,none⟩))]) (obs:=[]) rfl (by kernel_rfl) trivial fun a j=>?_
 refine WR.done rfl ?_;refine Runs.sr ?_;refine WR.e j [.i v_] [(3,.bool (x == v_))] (obs:=[.cell ⟨r,0,none⟩ (.i v_)]) ⟨H.cell 0 rfl rfl,trivial⟩ fun a j=>?_
 refine Runs.ret j Tryz.func239 rfl rfl ?_;cases hm;exact⟨rfl,H⟩
theorem tD {w0 w:World}{As:List HP}{k:Nat}{j:Option Addr}{l:Nat}{s:List Int}{u:HP}{v_:Int}{r:Nat}{t:Int}(hX_s:SlRd u ecI 1 j s)(hC_s:s.length<=l)(hm:xL k s v_=some t)(H:St w0 (u::Blk r 3 [.i v_]::As) w) :
    xw pG 259 #[.slice j s.length l,.func (.func 239) #[] #[.pointer (some ⟨r,0,none⟩)]] w fun v w'=>v = .i t/\St w0 (u::Blk r 3 [.i v_]::As) w':=by
 rw[xL] at hm;refine enter (args:=[.slice j s.length l,.func (.func 239) #[] #[.pointer (some ⟨r,0,none⟩)]]) Tryz.func259 rfl rfl rfl fun a e=>?_
 refine Runs.sr ?_;refine WR.seg e 1 [] [0,1] (Lo:=[(0,.slice j s.length l),(1,.func (.func 239) #[] #[.pointer (some ⟨r,0,none⟩)])]) (obs:=[]) rfl (by kernel_rfl) trivial fun a e=>?_
 refine WR.done rfl ?_;refine Runs.seq ?_;refine Runs.sr ?_;refine WR.e0 e [(7,.i (s.length:Int)),(8,.i 0)] fun a e=>?_
 obtain⟨s1,y,B⟩:=bind_some hm;refine Runs.join (fun a w=>∃ s2,s1=Sum.inr s2/\zZ 19 a []/\St w0 (u::Blk r 3 [.i v_]::As) w) (fun hk=>?_) ?_
 ·replace hm:=y;clear y;refine Runs.block ?_;refine Runs.loop (fun m a w=>∃ (x:Int),zZ 19 a [(0,.slice j s.length l),(1,.func (.func 239) #[] #[.pointer (some ⟨r,0,none⟩)]),(7,.i (s.length:Int)),(8,.i x)]/\St w0 (u::Blk r 3 [.i v_]::As) w/\zU (s.length:Int) s v_ m x=some s1) k ⟨0,e.sel [0,1,7,8] (by kernel_rfl),H.t1.t1,hm⟩ ?_;rintro m ih a w ⟨x,e,H,hm⟩;cases m with
  | zero=>simp[zU] at hm
  | succ m =>
   rw[zU] at hm;refine Runs.sr ?_;refine WR.seg e 1 [] [0,1,7,8,9] (Lo:=[(0,.slice j s.length l),(1,.func (.func 239) #[] #[.pointer (some ⟨r,0,none⟩)]),(7,.i (s.length:Int)),(8,.i x),(9,.bool (decide (x<(s.length:Int))))]) (obs:=[]) rfl (by kernel_rfl) trivial fun a e=>?_
   refine WR.done rfl ?_;refine Runs.seq ?_;refine Runs.cond e rfl (fun c=>?_) (fun c=>?_)
   ·replace hm:=uF c hm;refine Runs.skip ?_;refine Runs.seq ?_;refine Runs.block ?_;refine Runs.sr ?_;refine WR.e0 e [(5,.i x)] fun a e=>?_
    refine Runs.sr ?_;obtain⟨x2,z,hm⟩:=bind_some hm;obtain⟨b,o,hs,D⟩:=SlRd.base hX_s xZ H 0 rfl z;refine WR.d e 5 [.pointer (some ⟨b,o,none⟩),.i x2] [(11,.func (.func 239) #[] #[.pointer (some ⟨r,0,none⟩)]),(15,.i x2)] (obs:=[.p ((j:Option Addr)=some ⟨b,o,none⟩),.p (0<=(x:Int)/\(x:Int)<((s.length:Nat):Int)),.cell ⟨b,o+(Int.toNat x)*1,none⟩ (.i x2)]) ⟨hs,D,SlRd.cells hX_s xZ H 0 rfl hs z 0 _ rfl,trivial⟩ fun a e=>?_
    obtain⟨t_,A,hm⟩:=bind_some hm;refine WR.eff e rfl rfl rfl rfl (OpTo.fv e rfl rfl rfl Tryz.call239 (sC A H.t1)) ?_;rintro _ w ⟨rfl,H⟩ a e;refine WR.done rfl ?_;refine Runs.cond e rfl (fun c=>?_) (fun c=>?_)
    ·replace hm:=uF c hm;refine Runs.sr ?_;refine WR.e0 e [(4,.i x)] fun a e=>?_
     refine Runs.ret e Tryz.func259 rfl rfl ?_;cases hm;dsimp only at B;cases B;exact⟨rfl,H.t1⟩
    ·replace hm:=uE c hm;refine Runs.skip ?_;refine Runs.inBlock ?_;refine Runs.region ?_;refine WR.e0 e [(8,.i (w64 (x+1)))] fun a e=>?_
     exact ih m (Nat.lt_succ_self m) _ _ ⟨w64 (x+1),e.sel [0,1,7,8] (by kernel_rfl),H.t1,hm⟩
   ·replace hm:=uE c hm;refine Runs.exit rfl ?_;cases hm;exact hk _ _ ⟨_,rfl,e.sel [] (by kernel_rfl),H.t1.t1⟩
 rintro a w ⟨s2,rfl,e,H⟩;replace hm:=B;dsimp only at hm;refine Runs.sr ?_;refine WR.seg e 1 [] [4] (Lo:=[(4,.i (-1))]) (obs:=[]) rfl (by kernel_rfl) trivial fun a e=>?_
 refine WR.done rfl ?_;refine Runs.ret e Tryz.func259 rfl rfl ?_;cases hm;exact⟨rfl,H.t1.t1⟩
theorem tq {w0 w:World}{As:List HP}{k:Nat}{y:Option Addr}{u:Nat}{s:List Int}{v_:Int}{r:Nat}{t:(List Int)}  (hm:y3 k s v_=some t)(H:St w0 (Sl 3 ecI 1 y u s::Blk r 3 [.i v_]::As) w) :
    xw pG 236 #[.slice y s.length u,.func (.func 239) #[] #[.pointer (some ⟨r,0,none⟩)]] w fun v w'=>∃ (W:Option Addr),∃ (X:Nat),v = .slice W t.length X/\St w0 (Sl 3 ecI 1 W X t::Blk r 3 [.i v_]::As) w':=by
 rw[y3] at hm;refine enter (args:=[.slice y s.length u,.func (.func 239) #[] #[.pointer (some ⟨r,0,none⟩)]]) Tryz.func236 rfl rfl rfl fun a A=>?_
 refine Runs.sr ?_;refine WR.seg A 1 [] [0,1] (Lo:=[(0,.slice y s.length u),(1,.func (.func 239) #[] #[.pointer (some ⟨r,0,none⟩)])]) (obs:=[]) rfl (by kernel_rfl) trivial fun a A=>?_
 refine WR.done rfl ?_;refine Runs.sr ?_;refine WR.d0 A 2 [(8,.slice y s.length u),(9,.func (.func 239) #[] #[.pointer (some ⟨r,0,none⟩)])] fun a A=>?_
 obtain⟨t_,Z,hm⟩:=bind_some hm;replace H:=H.t1.t1;refine WR.eff A rfl rfl rfl rfl (OpTo.fn A rfl rfl Tryz.call259 (tD (hX_s:=(wZ 3 ecI 1 _ _ _)) (hC_s:=(H.ot 0 rfl).1) Z H)) ?_;rintro _ w ⟨rfl,H⟩ a A;refine WR.e0 A [(5,.i t_)] fun a A=>?_
 refine Runs.seq ?_;refine Runs.sr ?_;refine WR.e0 A [(12,.bool (t_ == (-1)))] fun a A=>?_
 refine Runs.cond A rfl (fun c=>?_) (fun c=>?_)
 ·replace hm:=uF c hm;refine Runs.sr ?_;refine WR.e0 A [(4,.slice y s.length u)] fun a A=>?_
  refine Runs.ret A Tryz.func236 rfl rfl ?_;cases hm;exact⟨y,u,rfl,H.t1.t1⟩
 ·replace hm:=uE c hm;refine Runs.skip ?_;refine Runs.seq ?_;refine Runs.sr ?_;refine WR.e0 A [(6,.i (w64 (t_+1)))] fun a A=>?_
  obtain⟨s1,I,hm⟩:=bind_some hm;refine Runs.join (fun a w=>zZ 42 a [(0,.slice y s1.2.length u),(5,.i s1.1)]/\St w0 (Sl 3 ecI 1 y u s1.2::Blk r 3 [.i v_]::As) w) (fun hk=>?_) ?_
  ·replace hm:=I;clear I;refine Runs.block ?_;refine Runs.loop (fun m a w=>∃ (i:Int),∃ (j:Int),∃ (m_:List Int),zZ 42 a [(0,.slice y m_.length u),(1,.func (.func 239) #[] #[.pointer (some ⟨r,0,none⟩)]),(5,.i i),(6,.i j)]/\St w0 (Sl 3 ecI 1 y u m_::Blk r 3 [.i v_]::As) w/\z7 v_ m i j m_=some s1) k ⟨t_,w64 (t_+1),s,A.sel [0,1,5,6] (by kernel_rfl),H.t1.t1,hm⟩ ?_;rintro m ih a w ⟨i,j,m_,A,H,hm⟩;cases m with
   | zero=>simp[z7] at hm
   | succ m =>
    rw[z7] at hm;refine Runs.seq ?_;refine Runs.sr ?_;refine WR.seg A 4 [] [0,1,5,6,19] (Lo:=[(0,.slice y m_.length u),(1,.func (.func 239) #[] #[.pointer (some ⟨r,0,none⟩)]),(5,.i i),(6,.i j),(19,.bool (decide (j<(m_.length:Int))))]) (obs:=[]) rfl (by kernel_rfl) trivial fun a A=>?_
    refine WR.done rfl ?_;refine Runs.cond A rfl (fun c=>?_) (fun c=>?_)
    ·replace hm:=uF c hm;refine Runs.skip ?_;refine Runs.seq ?_;obtain⟨s2,J,hm⟩:=bind_some hm;refine Runs.join (fun a w=>zZ 42 a [(0,.slice y s2.2.length u),(1,.func (.func 239) #[] #[.pointer (some ⟨r,0,none⟩)]),(5,.i s2.1),(6,.i j)]/\St w0 (Sl 3 ecI 1 y u s2.2::Blk r 3 [.i v_]::As) w) (fun hk=>?_) ?_
     ·replace hm:=J;clear J;refine Runs.block ?_;refine Runs.sr ?_;obtain⟨x,ex,hm⟩:=bind_some hm;obtain⟨b,o,hs,hb⟩:=SlRd.base (wZ 3 ecI 1 _ _ _) xZ H 0 rfl ex;refine WR.e A [.pointer (some ⟨b,o,none⟩),.i x] [(7,.i x)] (obs:=[.p ((y:Option Addr)=some ⟨b,o,none⟩),.p (0<=(j:Int)/\(j:Int)<((m_.length:Nat):Int)),.cell ⟨b,o+(Int.toNat j)*1,none⟩ (.i x)]) ⟨hs,hb,SlRd.cells (wZ 3 ecI 1 _ _ _) xZ H 0 rfl hs ex 0 _ rfl,trivial⟩ fun a A=>?_
      refine Runs.sr ?_;refine WR.d0 A 2 [(26,.func (.func 239) #[] #[.pointer (some ⟨r,0,none⟩)]),(27,.i x)] fun a A=>?_
      obtain⟨a2,O,hm⟩:=bind_some hm;refine WR.eff A rfl rfl rfl rfl (OpTo.fv A rfl rfl rfl Tryz.call239 (sC O H.t1)) ?_;rintro _ w ⟨rfl,H⟩ a A;refine WR.e0 A [(29,.bool (!a2))] fun a A=>?_
      refine Runs.cond A rfl (fun c=>?_) (fun c=>?_)
      ·replace hm:=uF c hm;refine Runs.sr ?_;obtain⟨x1,S,hm⟩:=bind_some hm;obtain⟨Y,o1,U,a0⟩:=SlRd.base (wZ 3 ecI 1 _ _ _) xZ H 1 rfl S;refine WR.d A 4 [.pointer (some ⟨Y,o1,none⟩)] [(32,.i x),(33,.pointer (some ⟨Y,o1+(Int.toNat i)*1,none⟩))] (obs:=[.p ((y:Option Addr)=some ⟨Y,o1,none⟩),.p (0<=(i:Int)/\(i:Int)<((m_.length:Nat):Int))]) ⟨U,a0,trivial⟩ fun a A=>?_
       refine WR.eff0 A rfl rfl rfl (OpTo.lW (q:=0) (x':=x) A H.t1 xZ rfl U S rfl rfl rfl rfl rfl (Nat.le_of_ble_eq_true rfl) rfl) ?_;rintro _ w H a A
       try rw[<- oJ m_ i x] at A
       refine WR.done rfl ?_;refine Runs.region ?_;refine WR.seg A 3 [] [0,1,5,6] (Lo:=[(0,.slice y ((mSet m_ i x).length) u),(1,.func (.func 239) #[] #[.pointer (some ⟨r,0,none⟩)]),(5,.i (w64 (i+1))),(6,.i j)]) (obs:=[]) rfl (by kernel_rfl) trivial fun a A=>?_
       refine WR.done rfl ?_;refine Runs.inBlock ?_;cases hm;exact hk _ _ ⟨A.sel [0,1,5,6] (by kernel_rfl),H.t1.t1⟩
      ·replace hm:=uE c hm;refine Runs.skip ?_;refine Runs.inBlock ?_;cases hm;exact hk _ _ ⟨A.sel [0,1,5,6] (by kernel_rfl),H.t1⟩
     rintro a w ⟨A,H⟩;refine Runs.region ?_;refine WR.seg A 3 [] [0,1,5,6] (Lo:=[(0,.slice y s2.2.length u),(1,.func (.func 239) #[] #[.pointer (some ⟨r,0,none⟩)]),(5,.i s2.1),(6,.i (w64 (j+1)))]) (obs:=[]) rfl (by kernel_rfl) trivial fun a A=>?_
     refine WR.done rfl ?_;exact ih m (Nat.lt_succ_self m) _ _ ⟨s2.1,w64 (j+1),s2.2,A.sel [0,1,5,6] (by kernel_rfl),H.t1.t1,hm⟩
    ·replace hm:=uE c hm;refine Runs.exit rfl ?_;cases hm;exact hk _ _ ⟨A.sel [0,5] (by kernel_rfl),H.t1.t1⟩
  rintro a w ⟨A,H⟩;refine Runs.sr ?_;obtain⟨l,el,hm⟩:=bind_some hm;obtain⟨sb,q⟩:∃ z,yt y u (Int.toNat s1.1) 1=z:=⟨_,rfl⟩
  obtain⟨sc,q1⟩:∃ z,u - (Int.toNat s1.1)=z:=⟨_,rfl⟩
  refine WR.seg A 3 [.slice sb l.length sc] [0,5,38] (Lo:=[(0,.slice y s1.2.length u),(5,.i s1.1),(38,.slice sb l.length sc)]) (obs:=[.p (yt y u (Int.toNat s1.1) 1=sb),.p (s1.2.length - (Int.toNat s1.1)=l.length),.p (u - (Int.toNat s1.1)=sc),.p (0<=(s1.1:Int)/\(s1.1:Int)<=((s1.2.length:Nat):Int))]) rfl (by kernel_rfl) ⟨q,qz el,q1,lu el,trivial⟩ fun a A=>?_
  refine WR.eff0 A rfl rfl rfl (OpTo.fO (z:=0) A H xZ el q q1 rfl rfl rfl rfl rfl rfl) ?_;rintro _ w ⟨_,H⟩ a A
  try rw[<- p9 (z:=0) el] at A
  refine WR.done rfl ?_;refine Runs.sr ?_;obtain⟨l1,F,hm⟩:=bind_some hm;obtain⟨B,q2⟩:∃ z,yt y u (Int.toNat 0) 1=z:=⟨_,rfl⟩
  obtain⟨D,q3⟩:∃ z,u - (Int.toNat 0)=z:=⟨_,rfl⟩
  refine WR.seg A 4 [.slice B l1.length D] [4] (Lo:=[(4,.slice B l1.length D)]) (obs:=[.p (yt y u 0 1=B),.p ((Int.toNat s1.1) - 0=l1.length),.p (u - 0=D),.p (0<=(s1.1:Int)/\(s1.1:Int)<=((u:Nat):Int))]) rfl (by kernel_rfl) ⟨q2,qz F,q3,jv F (H.ot 0 rfl).1,trivial⟩ fun a A=>?_
  refine WR.done rfl ?_;replace H:=H.dc xZ F q2 q3;refine Runs.ret A Tryz.func236 rfl rfl ?_;cases hm;exact⟨B,D,rfl,H.t1.t1⟩
end Go.Proofs.YtojpmaakhdmhmaaGreat
end
