/-
  The statements TopScripts of the program.
  Text 9 of 9: of what the proof needs (a row of the program: no condition is left); put together and made narrow by a program.
-/
import Derived.Below
import Derived.ChangeOld
import Derived.JoinedCond
import Derived.OpenShut
import Derived.ProofKit
import Derived.ShutString
import Derived.SliceStrings
import Derived.Test.YtcepppmiplonfaaGreatRows
import Derived.WalkKit
import Derived.Test.YtcepppmiplonfaaGreatYb8
set_option linter.unusedVariables false
set_option linter.unusedSimpArgs false
namespace Go.Proofs.YtcepppmiplonfaaGreat.topScripts
open Go.ChangeShapes Go.WideShapes Go.ChangeAt Go.RowKit
noncomputable section
open Go.ChangeMaps (open_string shut_string)
set_option maxRecDepth 10000
theorem own:ownKnob Tryz.prog.godebug=none:=by kernel_rfl
theorem laidOut:laidOutB Tryz.prog=true:=by kernel_rfl
set_option maxRecDepth 100000 in
theorem lifted (os:Os)(started:os.Started)(H:Type)(enc:TypeId × Value->H) :
  ReturnsInHanded {} Tryz.checked os 6 .any (Rows.topScriptsSpec.pre6 enc Tryz.prog Tryz.f6 Rows.topScriptsRow.domain false) (Rows.topScriptsSpec.post enc Tryz.prog Tryz.f6 false true false false):=by
 refine returnsInHanded_of_change (C:=Tryz.checked) own started (by kernel_rfl) Tryz.func6
  (ChangeSpec.witness6 (enc:=enc) (C:=Tryz.checked) false ⟨#[],#[.slice none 0 0],[]⟩ 8 (by kernel_rfl) (by kernel_rfl) (by kernel_rfl) (by kernel_rfl)) ?_
 intro W base args ds gs before hval0 hW hcnd _;have hval:∀ (j:Nat) t v,Tryz.f6.params[j]? = some t->args[j]? = some v->Value.okWide Tryz.prog W .any base t v:=hval0;have hW':=hW;obtain⟨p,q,hA0,hV,rfl,hfz,hnd⟩:=hW;have hA:DataW.TrodAll enc Tryz.prog W 0 (fun _=>true) true Tryz.f6.params.toList args.toList ds p:=hA0;rw[Tryz.params6] at hA hval;obtain⟨v0,vs0,d0,ds0,p0,q0,hargs,rfl,rfl,h0,r0⟩:=trodAll_cons hA;obtain⟨rfl,rfl,rfl⟩:=trodAll_nil r0;obtain rfl:args = #[v0]:=by cases args;simp_all
 obtain⟨rfl,rfl⟩:=trodVars_none hV;obtain⟨a0,len0,cap0,rfl⟩:=okWide_slice Tryz.underlying54 (hval 0 54 v0 rfl rfl);have k0:=h0;have lt0:∀ x∈p0,x.block<W.heap.size:=by obtain⟨m,hm⟩:=k0;exact DataW.trod_lt m _ _ _ hm
 obtain⟨l0,hl0,hC0,hX0⟩:∃ l:List Int,l.length=len0/\len0<=cap0/\Th.SlRd (Th.Old W) Th.ecU 1 a0 l:=by
  obtain⟨fuel,hf⟩:=h0;obtain⟨sb,len,cap,l,hcs,hl,hC,hX⟩:=Th.Cf (α:=Int) Tryz.underlying54 (by kernel_rfl) Th.mZ (by decide) (Th.Ad (by kernel_rfl)) hf;simp[Value.cells] at hcs;obtain⟨rfl,rfl,rfl⟩:=hcs;exact⟨l,hl,hC,hX⟩
 subst hl0;clear hA0 hval0;obtain⟨k,hm⟩:=topScripts_plain l0;have hw:=qQ (X_b:=Th.Old W)  hX0 hC0 hm (Th.St.begin W);refine Calls.mono hw fun e W' ⟨v,he,hv,HS⟩=>?_
 subst hv;subst he;have bel:=HS.below 0 rfl;exact⟨_,rfl,_,_,_,[],_,[],hW',trodAll_mk1 (shut_bool Tryz.underlying4 _),(trodAll_cons_mk (Below.trod laidOut (by kernel_rfl) (of_decide_eq_true (by kernel_rfl)) k0 bel lt0) trodAll_mk0),rfl,bel.frame _,fun h=>by cases h⟩
end
end Go.Proofs.YtcepppmiplonfaaGreat.topScripts
namespace Go.Proofs.YtcepppmiplonfaaGreat.topScripts
noncomputable section
set_option maxRecDepth 10000
theorem bC:(Rows.topScriptsRow.inPlace == Tryz.pinned.checked.prog.inPlace 6)=true:=by kernel_rfl
end
noncomputable section
set_option maxRecDepth 10000
theorem gf:(Rows.topScriptsRow.unfollowed == Tryz.pinned.checked.prog.unfollowed 6)=true:=by kernel_rfl
end
noncomputable section
set_option maxRecDepth 10000
theorem dX:(Rows.topScriptsRow.recurses == Tryz.pinned.checked.prog.recurses 6)=true:=by kernel_rfl
end
noncomputable section
set_option maxRecDepth 10000
theorem B2:(Rows.topScriptsRow.named == Tryz.pinned.checked.prog.varsNamed 6)=true:=by kernel_rfl
end
noncomputable section
set_option maxRecDepth 10000
theorem closed:joinedFacts Tryz.pinned.checked.prog 6 Tryz.f6 Rows.topScriptsSpec Rows.topScriptsRow=true:=by
 unfold joinedFacts;rw[bC,gf,dX,B2]
 kernel_rfl
end
end Go.Proofs.YtcepppmiplonfaaGreat.topScripts
namespace Go.Proofs.YtcepppmiplonfaaGreat.topScripts
open Go.ChangeShapes Go.WideShapes Go.ChangeAt Go.RowKit
noncomputable section
open Go.ChangeMaps (open_string shut_string)
set_option maxRecDepth 10000
theorem over:Rows.topScriptsRow.holds Tryz.pinned (OpenSpec.ofChange Rows.topScriptsSpec) :=
 OpenClaim.holds_of_wide 6 Tryz.f6 rfl rfl rfl rfl rfl rfl rfl ⟨rfl,rfl,rfl,rfl,rfl⟩ rfl rfl rfl rfl rfl (by kernel_rfl) Tryz.func6 closed
  (of_decide_eq_true (by kernel_rfl)) (by unfold Func.isWrapper;first|(rw[if_pos (by decide +kernel)];kernel_rfl)|(rw[if_neg (by decide +kernel)];exact⟨rfl,rfl⟩))
  (fun os started H enc _=>lifted os started H enc)
theorem topScripts_holds:Rows.TopScriptsSaid:=over
end
end Go.Proofs.YtcepppmiplonfaaGreat.topScripts
