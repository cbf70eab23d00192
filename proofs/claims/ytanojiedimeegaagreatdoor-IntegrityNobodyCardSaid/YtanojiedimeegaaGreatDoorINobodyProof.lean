/-
 PROVED: IntegrityNobody returns true for all values: for a value that is no object Seal and Freeze do nothing and answer false, and so do Sealed and Frozen. The listed package variable holds what the text lays. No other condition.
-/
import Derived.Test.YtanojiedimeegaaGreatDoorG10
import Derived.Test.YtanojiedimeegaaGreatDoorRows
import Derived.Test.YtanojiedimeegaaGreatDoorCards
import Derived.Test.YtanojiedimeegaaGreatDoorTie
import Derived.ProofKit
import Derived.LaidMore
import Derived.Stop.Joined
import Derived.SevenTiedAt
import Derived.OpenShut
import Derived.ShutString
import Derived.ChangeOld
namespace Go.Proofs.YtanojiedimeegaaGreatDoor
open Go.ChangeShapes Go.WideShapes Go.ChangeAt Go.RowKit Go.Deep
open Go.ChangeMaps (open_string shut_string)
namespace integrityNobody
theorem yM:ownKnob Tryz.prog.godebug=none:=by kernel_rfl
theorem Aj:laidOutB Tryz.prog=true:=by kernel_rfl
theorem zk (os:Os)(args:Array Value):laidMetH Tryz.prog [("pantomime/array.hole",Rows.laid_pantomime_array_hole)] ((World.doorLaid Tryz.prog 400 os).forCall (fun _ _=>0) ⟨#[],args,[]⟩).memory:=
 laidMetH_of_parts3 (fuel:=8) (laidMet_of_run' 8 O O) O O
set_option maxRecDepth 100000 in
theorem BS (os:Os)(started:os.Started)(H:Type)(enc:TypeId×Value→H):
  ReturnsInHanded {} Tryz.checked os 6 .any (fun w args=>(Rows.integrityNobodySpec.pre enc Tryz.prog Tryz.f6 [] false w args∧laidMetH Tryz.prog [("pantomime/array.hole",Rows.laid_pantomime_array_hole)] w)∧sizedMet enc Tryz.prog Tryz.f6 (OpenSpec.ofChange Rows.integrityNobodySpec) false w args) (Rows.integrityNobodySpec.post enc Tryz.prog Tryz.f6 false true false false):=by
 refine returnsInHanded_of_change_and (C:=Tryz.checked) (X:=fun w _=>laidMetH Tryz.prog [("pantomime/array.hole",Rows.laid_pantomime_array_hole)] w) (fun _ _ _ hh h=>h.of_heap hh) yM started O DV
  (ChangeSpec.witness_shaped (enc:=enc) (C:=Tryz.checked) (os:=os) (X:=fun w _=>laidMetH Tryz.prog [("pantomime/array.hole",Rows.laid_pantomime_array_hole)] w) false (World.doorLaid Tryz.prog 400 os) #[.agg #[.int .i64 0,.int .i64 0,.string ⟨#[]⟩]] 8 rfl (World.shaped_of_RefB O O) O O O (zk os _)) ?_
 intro W base args ds gs before hval0 hW hcnd _ hL _;have hval: ∀(j:Nat) t v,Tryz.f6.params[j]? =some t→args[j]? =some v→Value.okWide Tryz.prog W .any base t v:=hval0;have hW':=hW;obtain ⟨p,q,hA0,hV,rfl,hfz,hnd⟩:=hW;have hA:DataW.TrodAll enc Tryz.prog W 0 (fun _=>true) true Tryz.f6.params.toList args.toList ds p:=hA0;rw [Tryz.params6] at hA hval;obtain ⟨v0,vs0,d0,ds0,p0,q0,hargs,rfl,rfl,h0,r0⟩:=trodAll_cons hA;obtain ⟨rfl,rfl,rfl⟩:=trodAll_nil r0
 obtain rfl:args= #[v0]:=by cases args;simp_all
 obtain ⟨rfl,rfl⟩:=trodVars_none hV
 have lt0: ∀x∈p0,x.block<W.heap.size:=by obtain ⟨m,hm⟩:=h0;exact DataW.trod_lt m _ _ _ hm
 obtain ⟨a0,rfl,y0⟩:=Cq (hval 0 30 v0 rfl rfl) h0;clear hA0 hval0
 have walk:Calls Tryz.prog 6 #[.agg #[.int .i64 a0.Kind,.int .i64 a0.N,.string a0.S]] W fun e W'=>e=.returned (.bool true)∧Ext W W':=uR (nw (vL a0)) (wk (xV W) (yh hL))
 refine walk.mono fun e W' ⟨he,bel⟩=> ?_
 subst he;exact ⟨_,J,_,_,_,[],_,[],hW',trodAll_mk1 (shut_bool Tryz.underlying4 _),(trodAll_cons_mk (Below.trod Aj O (of_decide_eq_true O) h0 bel lt0) trodAll_mk0),J,bel.frame _,fun h=>by cases h⟩
theorem c1:Tryz.prog.inPlace 6=Rows.integrityNobodyRow.inPlace:=by kernel_rfl
theorem c2:Tryz.prog.unfollowed 6=Rows.integrityNobodyRow.unfollowed:=by kernel_rfl
theorem c3:Tryz.prog.recurses 6=Rows.integrityNobodyRow.recurses:=by kernel_rfl
theorem c4:Tryz.prog.varsNamed 6=Rows.integrityNobodyRow.named:=by kernel_rfl
theorem Cc:joinedFacts Tryz.prog 6 Tryz.f6 Rows.integrityNobodySpec Rows.integrityNobodyRow=true:=by
 unfold joinedFacts;rw [c1,c2,c3,c4];refine Eq.trans ?_ (Eq.refl _);kernel_rfl
theorem C3:Rows.integrityNobodyRow.holds Tryz.pinned (OpenSpec.ofChange Rows.integrityNobodySpec):=
 OpenClaim.holds_of_wide 6 Tryz.f6 rfl rfl rfl rfl rfl rfl rfl ⟨rfl,rfl,rfl,rfl,rfl⟩ rfl rfl rfl rfl rfl O DV Cc
  (of_decide_eq_true O) (by unfold Func.isWrapper;first|(rw [if_pos (by decide+kernel)];kernel_rfl)|(rw [if_neg (by decide+kernel)];exact ⟨rfl,rfl⟩))
  (fun os started H enc _=>BS os started H enc)
theorem proved:Rows.IntegrityNobodyCardSaid:=
 Claim7.holds_tied_plain_at .later [] [.data] true (true, "e7e1e7431076a73998c07bb4cbfdb4e3cab7964ba4666738c74b5ee9a220ac5f") false
  C3 (fun _ h=>by cases h) O (fun _ h=>by cases h) integrityNobody_row_tie rfl ⟨rfl,rfl⟩ O rfl
  (fun f fn hf hfn=>by
   obtain rfl:f=6:=Option.some.inj ((show Tryz.prog.funcNamed "pantomime/pantomimelaw35.IntegrityNobody" =some 6 by kernel_rfl).symm.trans hf)|>.symm;obtain rfl:fn=Tryz.f6:=(Option.some.inj (DV.symm.trans hfn)).symm
   exact ⟨by kernel_rfl,fun j t ht=>by
    rw [Tryz.params6] at ht
    have hm:t∈[30]:=by simpa using Array.mem_of_getElem? ht
    have hall:([30].all fun u=> !Tryz.prog.wantsStandIn u)=true:=by kernel_rfl
    exact (show Tryz.prog.wantsStandIn t=false by simpa using List.all_eq_true.1 hall t hm)⟩)
  O
#print axioms proved
end integrityNobody
end Go.Proofs.YtanojiedimeegaaGreatDoor