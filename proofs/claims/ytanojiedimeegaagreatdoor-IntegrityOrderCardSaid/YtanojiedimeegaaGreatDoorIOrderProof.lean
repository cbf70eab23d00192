/-
 PROVED: IntegrityOrder returns true for every thing: a frozen object is sealed, a sealed one is not extensible, and preventing extensions leaves the properties unchanged. The listed package variable holds what the text lays. No other condition.
-/
import Derived.Test.YtanojiedimeegaaGreatDoorG11
import Derived.Test.YtanojiedimeegaaGreatDoorG12
import Derived.Test.YtanojiedimeegaaGreatDoorRows
import Derived.Test.YtanojiedimeegaaGreatDoorCards
import Derived.Test.YtanojiedimeegaaGreatDoorTie
import Derived.ProofKit
import Derived.LaidMore
import Derived.Stop.Joined
import Derived.SevenTiedAt
import Derived.OpenShut
import Derived.ShutString
import Derived.ChangeOld
namespace Go.Proofs.YtanojiedimeegaaGreatDoor
open Go.ChangeShapes Go.WideShapes Go.ChangeAt Go.RowKit Go.Deep
open Go.ChangeMaps (open_string shut_string)
namespace integrityOrder
theorem Cp:ownKnob Tryz.prog.godebug=none:=by kernel_rfl
theorem E5:laidOutB Tryz.prog=true:=by kernel_rfl
theorem DR (os:Os)(args:Array Value):laidMetH Tryz.prog [("pantomime/array.hole",Rows.laid_pantomime_array_hole)] ((World.doorLaid Tryz.prog 400 os).forCall (fun _ _=>0) ⟨#[],args,[]⟩).memory:=
 laidMetH_of_parts3 (fuel:=8) (laidMet_of_run' 8 V V) V V
set_option maxRecDepth 100000 in
theorem Hd (os:Os)(started:os.Started)(H:Type)(enc:TypeId×Value→H):
  ReturnsInHanded {} Tryz.checked os 7 .any (fun w args=>(Rows.integrityOrderSpec.pre enc Tryz.prog Tryz.f7 [] false w args∧laidMetH Tryz.prog [("pantomime/array.hole",Rows.laid_pantomime_array_hole)] w)∧sizedMet enc Tryz.prog Tryz.f7 (OpenSpec.ofChange Rows.integrityOrderSpec) false w args) (Rows.integrityOrderSpec.post enc Tryz.prog Tryz.f7 false true false false):=by
 refine returnsInHanded_of_change_and (C:=Tryz.checked) (X:=fun w _=>laidMetH Tryz.prog [("pantomime/array.hole",Rows.laid_pantomime_array_hole)] w) (fun _ _ _ hh h=>h.of_heap hh) Cp started V JB
  (ChangeSpec.witness_shaped (enc:=enc) (C:=Tryz.checked) (os:=os) (X:=fun w _=>laidMetH Tryz.prog [("pantomime/array.hole",Rows.laid_pantomime_array_hole)] w) false (World.doorLaid Tryz.prog 400 os) #[.agg #[.bool false,.int .i64 0,I none 0 0,.bool false]] 8 rfl (World.shaped_of_RefB V V) V V V (DR os _)) ?_
 intro W base args ds gs before hval0 hW hcnd hsz hL _;have hval: ∀(j:Nat) t v,Tryz.f7.params[j]? =some t→args[j]? =some v→Value.okWide Tryz.prog W .any base t v:=hval0;have hW':=hW;obtain ⟨p,q,hA0,hV,rfl,hfz,hnd⟩:=hW;have hA:DataW.TrodAll enc Tryz.prog W 0 (fun _=>true) true Tryz.f7.params.toList args.toList ds p:=hA0;rw [Tryz.params7] at hA hval;obtain ⟨v0,vs0,d0,ds0,p0,q0,hargs,rfl,rfl,h0,r0⟩:=trodAll_cons hA;obtain ⟨rfl,rfl,rfl⟩:=trodAll_nil r0
 obtain rfl:args= #[v0]:=by cases args;simp_all
 obtain ⟨rfl,rfl⟩:=trodVars_none hV
 have lt0: ∀x∈p0,x.block<W.heap.size:=by obtain ⟨m,hm⟩:=h0;exact DataW.trod_lt m _ _ _ hm
 obtain ⟨a0,A0_0,n0_0,c0_0,rfl,y0,s0_0⟩:=HO (hval 0 84 v0 rfl rfl) h0 ⟨fun n hn=>of_decide_eq_true (List.all_eq_true.1 hsz n (DataW.weights_mem_each (j:=0) (t:=84) rfl rfl n hn))⟩;clear hA0 hval0
 have walk:Calls Tryz.prog 7 #[.agg #[.bool a0.Array,.int .i64 a0.Elements,I A0_0 n0_0 c0_0,.bool a0.Shut]] W fun e W'=>e=.returned (.bool true)∧Ext W W':=yl (pM (zg a0 (E6 y0))) (uO (uO (Cg W) (Cz hL)) s0_0)
 refine walk.mono fun e W' ⟨he,bel⟩=> ?_
 subst he;exact ⟨_,J,_,_,_,[],_,[],hW',trodAll_mk1 (shut_bool EM _),(trodAll_cons_mk (Below.trod E5 V (of_decide_eq_true V) h0 bel lt0) trodAll_mk0),J,bel.frame _,fun h=>by cases h⟩
theorem c1:Tryz.prog.inPlace 7=Rows.integrityOrderRow.inPlace:=by kernel_rfl
theorem c2:Tryz.prog.unfollowed 7=Rows.integrityOrderRow.unfollowed:=by kernel_rfl
theorem c3:Tryz.prog.recurses 7=Rows.integrityOrderRow.recurses:=by kernel_rfl
theorem c4:Tryz.prog.varsNamed 7=Rows.integrityOrderRow.named:=by kernel_rfl
theorem Hs:joinedFacts Tryz.prog 7 Tryz.f7 Rows.integrityOrderSpec Rows.integrityOrderRow=true:=by
 unfold joinedFacts;rw [c1,c2,c3,c4];refine Eq.trans ?_ (Eq.refl _);kernel_rfl
theorem IB:Rows.integrityOrderRow.holds Tryz.pinned (OpenSpec.ofChange Rows.integrityOrderSpec):=
 OpenClaim.holds_of_wide 7 Tryz.f7 rfl rfl rfl rfl rfl rfl rfl ⟨rfl,rfl,rfl,rfl,rfl⟩ rfl rfl rfl rfl rfl V JB Hs
  (of_decide_eq_true V) (by unfold Func.isWrapper;first|(rw [if_pos (by decide+kernel)];kernel_rfl)|(rw [if_neg (by decide+kernel)];exact ⟨rfl,rfl⟩))
  (fun os started H enc _=>Hd os started H enc)
theorem proved:Rows.IntegrityOrderCardSaid:=
 Claim7.holds_tied_plain_at .later [] [.data] true (true, "e7e1e7431076a73998c07bb4cbfdb4e3cab7964ba4666738c74b5ee9a220ac5f") false
  IB (fun _ h=>by cases h) V (fun _ h=>by cases h) integrityOrder_row_tie rfl ⟨rfl,rfl⟩ V rfl
  (fun f fn hf hfn=>by
   obtain rfl:f=7:=Option.some.inj ((show Tryz.prog.funcNamed "pantomime/pantomimelaw35.IntegrityOrder" =some 7 by kernel_rfl).symm.trans hf)|>.symm;obtain rfl:fn=Tryz.f7:=(Option.some.inj (JB.symm.trans hfn)).symm
   exact ⟨by kernel_rfl,fun j t ht=>by
    rw [Tryz.params7] at ht
    have hm:t∈[84]:=by simpa using Array.mem_of_getElem? ht
    have hall:([84].all fun u=> !Tryz.prog.wantsStandIn u)=true:=by kernel_rfl
    exact (show Tryz.prog.wantsStandIn t=false by simpa using List.all_eq_true.1 hall t hm)⟩)
  V
#print axioms proved
end integrityOrder
end Go.Proofs.YtanojiedimeegaaGreatDoor