/-
 PROVED: ArrayOrder returns true for all values and operations: after any operations the keys of an array come in order: the indices ascending and below the length, then the strings with the length key first, then the symbols. The listed package variable holds what the text lays. No other condition.
-/
import Derived.Test.YtmcifcmlojonnaaGreatDoorG7
import Derived.Test.YtmcifcmlojonnaaGreatDoorG10
import Derived.Test.YtmcifcmlojonnaaGreatDoorRows
import Derived.Test.YtmcifcmlojonnaaGreatDoorCards
import Derived.Test.YtmcifcmlojonnaaGreatDoorTie
import Derived.ProofKit
import Derived.LaidMore
import Derived.Stop.Joined
import Derived.SevenTiedAt
import Derived.OpenShut
import Derived.ShutString
import Derived.ChangeOld
namespace Go.Proofs.YtmcifcmlojonnaaGreatDoor
open Go.ChangeShapes Go.WideShapes Go.ChangeAt Go.RowKit Go.Deep
open Go.ChangeMaps (open_string shut_string)
namespace arrayOrder
theorem own:ownKnob Tryz.prog.godebug=none:=by kernel_rfl
theorem Mb:laidOutB Tryz.prog=true:=by kernel_rfl
theorem PI (os:Os)(args:Array Value):laidMetH Tryz.prog [("pantomime/array.hole",Rows.laid_pantomime_array_hole)] ((World.doorLaid Tryz.prog 400 os).forCall (fun _ _=>0) ⟨#[],args,[]⟩).memory:=
 laidMetH_of_parts3 (fuel:=8) (laidMet_of_run' 8 O O) O O
set_option maxRecDepth 100000 in
theorem Ti (os:Os)(started:os.Started)(H:Type)(enc:TypeId×Value→H):
  ReturnsInHanded {} Tryz.checked os 4 .any (fun w args=>(Rows.arrayOrderSpec.pre enc Tryz.prog Tryz.f4 [] false w args∧laidMetH Tryz.prog [("pantomime/array.hole",Rows.laid_pantomime_array_hole)] w)∧sizedMet enc Tryz.prog Tryz.f4 (OpenSpec.ofChange Rows.arrayOrderSpec) false w args) (Rows.arrayOrderSpec.post enc Tryz.prog Tryz.f4 false true false false):=by
 refine returnsInHanded_of_change_and (C:=Tryz.checked) (X:=fun w _=>laidMetH Tryz.prog [("pantomime/array.hole",Rows.laid_pantomime_array_hole)] w) (fun _ _ _ hh h=>h.of_heap hh) own started O WB
  (ChangeSpec.witness_shaped (enc:=enc) (C:=Tryz.checked) (os:=os) (X:=fun w _=>laidMetH Tryz.prog [("pantomime/array.hole",Rows.laid_pantomime_array_hole)] w) false (World.doorLaid Tryz.prog 400 os) #[W none 0 0,W none 0 0] 8 rfl (World.shaped_of_RefB O O) O O O (PI os _)) ?_
 intro hJ base args ds gs before hval0 hW hcnd hsz hL _;have hval: ∀(j:Nat) t v,Tryz.f4.params[j]? =some t→args[j]? =some v→Value.okWide Tryz.prog hJ .any base t v:=hval0;have hW':=hW;obtain ⟨p,q,hA0,hV,rfl,hfz,hnd⟩:=hW;have hA:DataW.TrodAll enc Tryz.prog hJ 0 (fun _=>true) true Tryz.f4.params.toList args.toList ds p:=hA0;rw [Tryz.params4] at hA hval;obtain ⟨v0,vs0,d0,ds0,p0,q0,hargs,rfl,rfl,h0,r0⟩:=trodAll_cons hA;obtain ⟨v1,vs1,d1,ds1,p1,q1,rfl,rfl,rfl,h1,r1⟩:=trodAll_cons r0;obtain ⟨rfl,rfl,rfl⟩:=trodAll_nil r1
 obtain rfl:args= #[v0,v1]:=by cases args;simp_all
 obtain ⟨rfl,rfl⟩:=trodVars_none hV
 have lt0: ∀x∈p0,x.block<hJ.heap.size:=by obtain ⟨m,hm⟩:=h0;exact DataW.trod_lt m _ _ _ hm
 obtain ⟨a0,A0_0,n0_0,c0_0,rfl,y0,s0_0⟩:=TG (hval 0 22 v0 rfl rfl) h0 ⟨fun n hn=>YU (Xo.1 hsz n (DataW.weights_mem_each (j:=0) (t:=22) rfl rfl n hn))⟩
 have lt1: ∀x∈p1,x.block<hJ.heap.size:=by obtain ⟨m,hm⟩:=h1;exact DataW.trod_lt m _ _ _ hm
 obtain ⟨a1,A1_0,n1_0,c1_0,rfl,y1,s1_0⟩:=TF (hval 1 23 v1 rfl rfl) h1 ⟨fun n hn=>YU (Xo.1 hsz n (DataW.weights_mem_each (j:=1) (t:=23) rfl rfl n hn))⟩;clear hA0 hval0
 have walk:Calls Tryz.prog 4 #[W A0_0 n0_0 c0_0,W A1_0 n1_0 c1_0] hJ fun e W'=>e=.returned (.bool true)∧Ext hJ W':=IJ (AX (Nt y0 y1)) (Al (Al (Al (MY hJ) (NQ hL)) s1_0) s0_0)
 refine walk.mono fun e W' ⟨he,bel⟩=> ?_
 subst he;exact ⟨_,J,_,_,_,[],_,[],hW',trodAll_mk1 (shut_bool Wt _),(trodAll_cons_mk (Below.trod Mb O (YU O) h0 bel lt0) (trodAll_cons_mk (Below.trod Mb O (YU O) h1 bel lt1) trodAll_mk0)),J,bel.frame _,fun h=>by cases h⟩
theorem c1:Tryz.prog.inPlace 4=Rows.arrayOrderRow.inPlace:=by kernel_rfl
theorem c2:Tryz.prog.unfollowed 4=Rows.arrayOrderRow.unfollowed:=by kernel_rfl
theorem c3:Tryz.prog.recurses 4=Rows.arrayOrderRow.recurses:=by kernel_rfl
theorem c4:Tryz.prog.varsNamed 4=Rows.arrayOrderRow.named:=by kernel_rfl
theorem closed:joinedFacts Tryz.prog 4 Tryz.f4 Rows.arrayOrderSpec Rows.arrayOrderRow=true:=by
 unfold joinedFacts;rw [c1,c2,c3,c4];refine Eq.trans ?_ (Eq.refl _);kernel_rfl
theorem Vg:Rows.arrayOrderRow.holds Tryz.pinned (OpenSpec.ofChange Rows.arrayOrderSpec):=
 OpenClaim.holds_of_wide 4 Tryz.f4 rfl rfl rfl rfl rfl rfl rfl ⟨rfl,rfl,rfl,rfl,rfl⟩ rfl rfl rfl rfl rfl O WB closed
  (YU O) (by unfold Func.isWrapper;first|(rw [if_pos (by decide+kernel)];kernel_rfl)|(rw [if_neg (by decide+kernel)];exact ⟨rfl,rfl⟩))
  (fun os started H enc _=>Ti os started H enc)
theorem proved:Rows.ArrayOrderCardSaid:=
 Claim7.holds_tied_plain_at .later [] [.data] true (true, "8fc4081e70bb5996687453d3cb1d4762edd71ca6124e00e1c00d80897b3a306e") false
  Vg (fun _ h=>by cases h) O (fun _ h=>by cases h) arrayOrder_row_tie rfl ⟨rfl,rfl⟩ O rfl
  (fun f fn hf hfn=>by
   obtain rfl:f=4:=YL ((show Tryz.prog.funcNamed "pantomime/pantomimelaw33.ArrayOrder" =some 4 by kernel_rfl).symm.trans hf)|>.symm;obtain rfl:fn=Tryz.f4:=(YL (WB.symm.trans hfn)).symm
   exact ⟨by kernel_rfl,fun j t ht=>by
    rw [Tryz.params4] at ht
    have hm:t∈[22,23]:=by simpa using Array.mem_of_getElem? ht
    have hall:([22,23].all fun u=> !Tryz.prog.wantsStandIn u)=true:=by kernel_rfl
    exact (show Tryz.prog.wantsStandIn t=false by simpa using Xo.1 hall t hm)⟩)
  O
#print axioms proved
end arrayOrder
end Go.Proofs.YtmcifcmlojonnaaGreatDoor