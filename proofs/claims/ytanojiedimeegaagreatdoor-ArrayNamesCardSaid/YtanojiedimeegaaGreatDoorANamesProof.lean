/-
 PROVED: ArrayNames returns true for all operations: properties of an array whose keys are neither indices nor the length key behave like those of a plain object. The listed package variable holds what the text lays. No other condition.
-/
import Derived.Test.YtanojiedimeegaaGreatDoorG10
import Derived.Test.YtanojiedimeegaaGreatDoorG11
import Derived.Test.YtanojiedimeegaaGreatDoorRows
import Derived.Test.YtanojiedimeegaaGreatDoorCards
import Derived.Test.YtanojiedimeegaaGreatDoorTie
import Derived.ProofKit
import Derived.LaidMore
import Derived.Stop.Joined
import Derived.SevenTiedAt
import Derived.OpenShut
import Derived.ShutString
import Derived.ChangeOld
namespace Go.Proofs.YtanojiedimeegaaGreatDoor
open Go.ChangeShapes Go.WideShapes Go.ChangeAt Go.RowKit Go.Deep
open Go.ChangeMaps (open_string shut_string)
namespace arrayNames
theorem own:ownKnob Tryz.prog.godebug=none:=by kernel_rfl
theorem GA:laidOutB Tryz.prog=true:=by kernel_rfl
theorem Fh (os:Os)(args:Array Value):laidMetH Tryz.prog [("pantomime/array.hole",Rows.laid_pantomime_array_hole)] ((World.doorLaid Tryz.prog 400 os).forCall (fun _ _=>0) ⟨#[],args,[]⟩).memory:=
 laidMetH_of_parts3 (fuel:=8) (laidMet_of_run' 8 O O) O O
set_option maxRecDepth 100000 in
theorem IE (os:Os)(started:os.Started)(H:Type)(enc:TypeId×Value→H):
  ReturnsInHanded {} Tryz.checked os 5 .any (fun w args=>(Rows.arrayNamesSpec.pre enc Tryz.prog Tryz.f5 [] false w args∧laidMetH Tryz.prog [("pantomime/array.hole",Rows.laid_pantomime_array_hole)] w)∧sizedMet enc Tryz.prog Tryz.f5 (OpenSpec.ofChange Rows.arrayNamesSpec) false w args) (Rows.arrayNamesSpec.post enc Tryz.prog Tryz.f5 false true false false):=by
 refine returnsInHanded_of_change_and (C:=Tryz.checked) (X:=fun w _=>laidMetH Tryz.prog [("pantomime/array.hole",Rows.laid_pantomime_array_hole)] w) (fun _ _ _ hh h=>h.of_heap hh) own started O KW
  (ChangeSpec.witness_shaped (enc:=enc) (C:=Tryz.checked) (os:=os) (X:=fun w _=>laidMetH Tryz.prog [("pantomime/array.hole",Rows.laid_pantomime_array_hole)] w) false (World.doorLaid Tryz.prog 400 os) #[U none 0 0] 8 rfl (World.shaped_of_RefB O O) O O O (Fh os _)) ?_
 intro hH base args ds gs before hval0 hW hcnd hsz hL _;have hval: ∀(j:Nat) t v,Tryz.f5.params[j]? =some t→args[j]? =some v→Value.okWide Tryz.prog hH .any base t v:=hval0;have hW':=hW;obtain ⟨p,q,hA0,hV,rfl,hfz,hnd⟩:=hW;have hA:DataW.TrodAll enc Tryz.prog hH 0 (fun _=>true) true Tryz.f5.params.toList args.toList ds p:=hA0;rw [Tryz.params5] at hA hval;obtain ⟨v0,vs0,d0,ds0,p0,q0,hargs,rfl,rfl,h0,r0⟩:=trodAll_cons hA;obtain ⟨rfl,rfl,rfl⟩:=trodAll_nil r0
 obtain rfl:args= #[v0]:=by cases args;simp_all
 obtain ⟨rfl,rfl⟩:=trodVars_none hV
 have lt0: ∀x∈p0,x.block<hH.heap.size:=by obtain ⟨m,hm⟩:=h0;exact DataW.trod_lt m _ _ _ hm
 obtain ⟨a0,A0_0,n0_0,c0_0,rfl,y0,s0_0⟩:=I6 (hval 0 59 v0 rfl rfl) h0 ⟨fun n hn=>of_decide_eq_true (List.all_eq_true.1 hsz n (DataW.weights_mem_each (j:=0) (t:=59) rfl rfl n hn))⟩;clear hA0 hval0
 have walk:Calls Tryz.prog 5 #[U A0_0 n0_0 c0_0] hH fun e W'=>e=.returned (.bool true)∧Ext hH W':=zC (sw (AJ a0 (GB y0))) (vE (vE (DE hH) (D0 hL)) s0_0)
 refine walk.mono fun e W' ⟨he,bel⟩=> ?_
 subst he;exact ⟨_,J,_,_,_,[],_,[],hW',trodAll_mk1 (shut_bool KU _),(trodAll_cons_mk (Below.trod GA O (of_decide_eq_true O) h0 bel lt0) trodAll_mk0),J,bel.frame _,fun h=>by cases h⟩
theorem c1:Tryz.prog.inPlace 5=Rows.arrayNamesRow.inPlace:=by kernel_rfl
theorem c2:Tryz.prog.unfollowed 5=Rows.arrayNamesRow.unfollowed:=by kernel_rfl
theorem c3:Tryz.prog.recurses 5=Rows.arrayNamesRow.recurses:=by kernel_rfl
theorem c4:Tryz.prog.varsNamed 5=Rows.arrayNamesRow.named:=by kernel_rfl
theorem IS:joinedFacts Tryz.prog 5 Tryz.f5 Rows.arrayNamesSpec Rows.arrayNamesRow=true:=by
 unfold joinedFacts;rw [c1,c2,c3,c4];refine Eq.trans ?_ (Eq.refl _);kernel_rfl
theorem JQ:Rows.arrayNamesRow.holds Tryz.pinned (OpenSpec.ofChange Rows.arrayNamesSpec):=
 OpenClaim.holds_of_wide 5 Tryz.f5 rfl rfl rfl rfl rfl rfl rfl ⟨rfl,rfl,rfl,rfl,rfl⟩ rfl rfl rfl rfl rfl O KW IS
  (of_decide_eq_true O) (by unfold Func.isWrapper;first|(rw [if_pos (by decide+kernel)];kernel_rfl)|(rw [if_neg (by decide+kernel)];exact ⟨rfl,rfl⟩))
  (fun os started H enc _=>IE os started H enc)
theorem proved:Rows.ArrayNamesCardSaid:=
 Claim7.holds_tied_plain_at .later [] [.data] true (true, "e7e1e7431076a73998c07bb4cbfdb4e3cab7964ba4666738c74b5ee9a220ac5f") false
  JQ (fun _ h=>by cases h) O (fun _ h=>by cases h) arrayNames_row_tie rfl ⟨rfl,rfl⟩ O rfl
  (fun f fn hf hfn=>by
   obtain rfl:f=5:=Option.some.inj ((show Tryz.prog.funcNamed "pantomime/pantomimelaw33.ArrayNames" =some 5 by kernel_rfl).symm.trans hf)|>.symm;obtain rfl:fn=Tryz.f5:=(Option.some.inj (KW.symm.trans hfn)).symm
   exact ⟨by kernel_rfl,fun j t ht=>by
    rw [Tryz.params5] at ht
    have hm:t∈[59]:=by simpa using Array.mem_of_getElem? ht
    have hall:([59].all fun u=> !Tryz.prog.wantsStandIn u)=true:=by kernel_rfl
    exact (show Tryz.prog.wantsStandIn t=false by simpa using List.all_eq_true.1 hall t hm)⟩)
  O
#print axioms proved
end arrayNames
end Go.Proofs.YtanojiedimeegaaGreatDoor