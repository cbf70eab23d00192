/-
 PROVED: ArrayLength returns true for all values, operations and lengths: after any operations setting the length removes just the keys at or above the length that the array then has, leaves all other properties as they were, and answers whether that length is the one asked for. The listed package variable holds what the text lays. No other condition.
-/
import Derived.Test.YtmcifcmlojonnaaGreatDoorG8
import Derived.Test.YtmcifcmlojonnaaGreatDoorG10
import Derived.Test.YtmcifcmlojonnaaGreatDoorRows
import Derived.Test.YtmcifcmlojonnaaGreatDoorCards
import Derived.Test.YtmcifcmlojonnaaGreatDoorTie
import Derived.ProofKit
import Derived.LaidMore
import Derived.Stop.Joined
import Derived.SevenTiedAt
import Derived.OpenShut
import Derived.ShutString
import Derived.ChangeOld
namespace Go.Proofs.YtmcifcmlojonnaaGreatDoor
open Go.ChangeShapes Go.WideShapes Go.ChangeAt Go.RowKit Go.Deep
open Go.ChangeMaps (open_string shut_string)
namespace arrayLength
theorem own:ownKnob Tryz.prog.godebug=none:=by kernel_rfl
theorem LX:laidOutB Tryz.prog=true:=by kernel_rfl
theorem PI (os:Os)(args:Array Value):laidMetH Tryz.prog [("pantomime/array.hole",Rows.laid_pantomime_array_hole)] ((World.doorLaid Tryz.prog 400 os).forCall (fun _ _=>0) ⟨#[],args,[]⟩).memory:=
 laidMetH_of_parts3 (fuel:=8) (laidMet_of_run' 8 O O) O O
set_option maxRecDepth 100000 in
theorem Ti (os:Os)(started:os.Started)(H:Type)(enc:TypeId×Value→H):
  ReturnsInHanded {} Tryz.checked os 3 .any (fun w args=>(Rows.arrayLengthSpec.pre enc Tryz.prog Tryz.f3 [] false w args∧laidMetH Tryz.prog [("pantomime/array.hole",Rows.laid_pantomime_array_hole)] w)∧sizedMet enc Tryz.prog Tryz.f3 (OpenSpec.ofChange Rows.arrayLengthSpec) false w args) (Rows.arrayLengthSpec.post enc Tryz.prog Tryz.f3 false true false false):=by
 refine returnsInHanded_of_change_and (C:=Tryz.checked) (X:=fun w _=>laidMetH Tryz.prog [("pantomime/array.hole",Rows.laid_pantomime_array_hole)] w) (fun _ _ _ hh h=>h.of_heap hh) own started O Wy
  (ChangeSpec.witness_shaped (enc:=enc) (C:=Tryz.checked) (os:=os) (X:=fun w _=>laidMetH Tryz.prog [("pantomime/array.hole",Rows.laid_pantomime_array_hole)] w) false (World.doorLaid Tryz.prog 400 os) #[W none 0 0,W none 0 0,.int .i64 0] 8 rfl (World.shaped_of_RefB O O) O O O (PI os _)) ?_
 intro hJ base args ds gs before hval0 hW hcnd hsz hL _;have hval: ∀(j:Nat) t v,Tryz.f3.params[j]? =some t→args[j]? =some v→Value.okWide Tryz.prog hJ .any base t v:=hval0;have hW':=hW;obtain ⟨p,q,hA0,hV,rfl,hfz,hnd⟩:=hW;have hA:DataW.TrodAll enc Tryz.prog hJ 0 (fun _=>true) true Tryz.f3.params.toList args.toList ds p:=hA0;rw [Tryz.params3] at hA hval;obtain ⟨v0,vs0,d0,ds0,p0,q0,hargs,rfl,rfl,h0,r0⟩:=trodAll_cons hA;obtain ⟨v1,vs1,d1,ds1,p1,q1,rfl,rfl,rfl,h1,r1⟩:=trodAll_cons r0;obtain ⟨v2,vs2,d2,ds2,p2,q2,rfl,rfl,rfl,h2,r2⟩:=trodAll_cons r1;obtain ⟨rfl,rfl,rfl⟩:=trodAll_nil r2
 obtain rfl:args= #[v0,v1,v2]:=by cases args;simp_all
 obtain ⟨rfl,rfl⟩:=trodVars_none hV
 have lt0: ∀x∈p0,x.block<hJ.heap.size:=by obtain ⟨m,hm⟩:=h0;exact DataW.trod_lt m _ _ _ hm
 obtain ⟨a0,A0_0,n0_0,c0_0,rfl,y0,s0_0⟩:=TF (hval 0 22 v0 rfl rfl) h0 ⟨fun n hn=>YV (Xq.1 hsz n (DataW.weights_mem_each (j:=0) (t:=22) rfl rfl n hn))⟩
 have lt1: ∀x∈p1,x.block<hJ.heap.size:=by obtain ⟨m,hm⟩:=h1;exact DataW.trod_lt m _ _ _ hm
 obtain ⟨a1,A1_0,n1_0,c1_0,rfl,y1,s1_0⟩:=TE (hval 1 23 v1 rfl rfl) h1 ⟨fun n hn=>YV (Xq.1 hsz n (DataW.weights_mem_each (j:=1) (t:=23) rfl rfl n hn))⟩;obtain ⟨a2,rfl,rfl,rfl,w2⟩:=open_int Wp (hval 2 3 v2 rfl rfl) h2;have y2:=Ea w2;clear hA0 hval0
 have walk:Calls Tryz.prog 3 #[W A0_0 n0_0 c0_0,W A1_0 n1_0 c1_0,.int .i64 a2] hJ fun e W'=>e=.returned (.bool true)∧Ext hJ W':=Iw (Ae (KQ y0 y1)) (Ag (Ag (Ag (MU hJ) (NJ hL)) s1_0) s0_0)
 refine walk.mono fun e W' ⟨he,bel⟩=> ?_
 subst he;exact ⟨_,J,_,_,_,[],_,[],hW',trodAll_mk1 (shut_bool Wu _),(trodAll_cons_mk (Below.trod LX O (YV O) h0 bel lt0) (trodAll_cons_mk (Below.trod LX O (YV O) h1 bel lt1) (trodAll_cons_mk (shut_int Wp w2) trodAll_mk0))),J,bel.frame _,fun h=>by cases h⟩
theorem c1:Tryz.prog.inPlace 3=Rows.arrayLengthRow.inPlace:=by kernel_rfl
theorem c2:Tryz.prog.unfollowed 3=Rows.arrayLengthRow.unfollowed:=by kernel_rfl
theorem c3:Tryz.prog.recurses 3=Rows.arrayLengthRow.recurses:=by kernel_rfl
theorem c4:Tryz.prog.varsNamed 3=Rows.arrayLengthRow.named:=by kernel_rfl
theorem closed:joinedFacts Tryz.prog 3 Tryz.f3 Rows.arrayLengthSpec Rows.arrayLengthRow=true:=by
 unfold joinedFacts;rw [c1,c2,c3,c4];refine Eq.trans ?_ (Eq.refl _);kernel_rfl
theorem Vg:Rows.arrayLengthRow.holds Tryz.pinned (OpenSpec.ofChange Rows.arrayLengthSpec):=
 OpenClaim.holds_of_wide 3 Tryz.f3 rfl rfl rfl rfl rfl rfl rfl ⟨rfl,rfl,rfl,rfl,rfl⟩ rfl rfl rfl rfl rfl O Wy closed
  (YV O) (by unfold Func.isWrapper;first|(rw [if_pos (by decide+kernel)];kernel_rfl)|(rw [if_neg (by decide+kernel)];exact ⟨rfl,rfl⟩))
  (fun os started H enc _=>Ti os started H enc)
theorem proved:Rows.ArrayLengthCardSaid:=
 Claim7.holds_tied_plain_at .later [] [.data] true (true, "8fc4081e70bb5996687453d3cb1d4762edd71ca6124e00e1c00d80897b3a306e") false
  Vg (fun _ h=>by cases h) O (fun _ h=>by cases h) arrayLength_row_tie rfl ⟨rfl,rfl⟩ O rfl
  (fun f fn hf hfn=>by
   obtain rfl:f=3:=YM ((show Tryz.prog.funcNamed "pantomime/pantomimelaw33.ArrayLength" =some 3 by kernel_rfl).symm.trans hf)|>.symm;obtain rfl:fn=Tryz.f3:=(YM (Wy.symm.trans hfn)).symm
   exact ⟨by kernel_rfl,fun j t ht=>by
    rw [Tryz.params3] at ht
    have hm:t∈[22,23,3]:=by simpa using Array.mem_of_getElem? ht
    have hall:([22,23,3].all fun u=> !Tryz.prog.wantsStandIn u)=true:=by kernel_rfl
    exact (show Tryz.prog.wantsStandIn t=false by simpa using Xq.1 hall t hm)⟩)
  O
#print axioms proved
end arrayLength
end Go.Proofs.YtmcifcmlojonnaaGreatDoor