/-
 PROVED: IntegrityTells returns true for every thing and number: Sealed and Frozen report what the reference defines, for any object or array. The listed package variable holds what the text lays. No other condition.
-/
import Derived.Test.YtanojiedimeegaaGreatDoorG12
import Derived.Test.YtanojiedimeegaaGreatDoorRows
import Derived.Test.YtanojiedimeegaaGreatDoorCards
import Derived.Test.YtanojiedimeegaaGreatDoorTie
import Derived.ProofKit
import Derived.LaidMore
import Derived.Stop.Joined
import Derived.SevenTiedAt
import Derived.OpenShut
import Derived.ShutString
import Derived.ChangeOld
namespace Go.Proofs.YtanojiedimeegaaGreatDoor
open Go.ChangeShapes Go.WideShapes Go.ChangeAt Go.RowKit Go.Deep
open Go.ChangeMaps (open_string shut_string)
namespace integrityTells
theorem E7:ownKnob Tryz.prog.godebug=none:=by kernel_rfl
theorem HR:laidOutB Tryz.prog=true:=by kernel_rfl
theorem GE (os:Os)(args:Array Value):laidMetH Tryz.prog [("pantomime/array.hole",Rows.laid_pantomime_array_hole)] ((World.doorLaid Tryz.prog 400 os).forCall (fun _ _=>0) ⟨#[],args,[]⟩).memory:=
 laidMetH_of_parts3 (fuel:=8) (laidMet_of_run' 8 V V) V V
set_option maxRecDepth 100000 in
theorem JJ (os:Os)(started:os.Started)(H:Type)(enc:TypeId×Value→H):
  ReturnsInHanded {} Tryz.checked os 8 .any (fun w args=>(Rows.integrityTellsSpec.pre enc Tryz.prog Tryz.f8 [] false w args∧laidMetH Tryz.prog [("pantomime/array.hole",Rows.laid_pantomime_array_hole)] w)∧sizedMet enc Tryz.prog Tryz.f8 (OpenSpec.ofChange Rows.integrityTellsSpec) false w args) (Rows.integrityTellsSpec.post enc Tryz.prog Tryz.f8 false true false false):=by
 refine returnsInHanded_of_change_and (C:=Tryz.checked) (X:=fun w _=>laidMetH Tryz.prog [("pantomime/array.hole",Rows.laid_pantomime_array_hole)] w) (fun _ _ _ hh h=>h.of_heap hh) E7 started V LV
  (ChangeSpec.witness_shaped (enc:=enc) (C:=Tryz.checked) (os:=os) (X:=fun w _=>laidMetH Tryz.prog [("pantomime/array.hole",Rows.laid_pantomime_array_hole)] w) false (World.doorLaid Tryz.prog 400 os) #[.agg #[.bool false,.int .i64 0,I none 0 0,.bool false],.int .i64 0] 8 rfl (World.shaped_of_RefB V V) V V V (GE os _)) ?_
 intro W base args ds gs before hval0 hW hcnd hsz hL _;have hval: ∀(j:Nat) t v,Tryz.f8.params[j]? =some t→args[j]? =some v→Value.okWide Tryz.prog W .any base t v:=hval0;have hW':=hW;obtain ⟨p,q,hA0,hV,rfl,hfz,hnd⟩:=hW;have hA:DataW.TrodAll enc Tryz.prog W 0 (fun _=>true) true Tryz.f8.params.toList args.toList ds p:=hA0;rw [Tryz.params8] at hA hval;obtain ⟨v0,vs0,d0,ds0,p0,q0,hargs,rfl,rfl,h0,r0⟩:=trodAll_cons hA;obtain ⟨v1,vs1,d1,ds1,p1,q1,rfl,rfl,rfl,h1,r1⟩:=trodAll_cons r0;obtain ⟨rfl,rfl,rfl⟩:=trodAll_nil r1
 obtain rfl:args= #[v0,v1]:=by cases args;simp_all
 obtain ⟨rfl,rfl⟩:=trodVars_none hV
 have lt0: ∀x∈p0,x.block<W.heap.size:=by obtain ⟨m,hm⟩:=h0;exact DataW.trod_lt m _ _ _ hm
 obtain ⟨a0,A0_0,n0_0,c0_0,rfl,y0,s0_0⟩:=Ka (hval 0 84 v0 rfl rfl) h0 ⟨fun n hn=>of_decide_eq_true (List.all_eq_true.1 hsz n (DataW.weights_mem_each (j:=0) (t:=84) rfl rfl n hn))⟩;obtain ⟨a1,rfl,rfl,rfl,w1⟩:=open_int EM (hval 1 3 v1 rfl rfl) h1;have y1:=xv w1;clear hA0 hval0
 have walk:Calls Tryz.prog 8 #[.agg #[.bool a0.Array,.int .i64 a0.Elements,I A0_0 n0_0 c0_0,.bool a0.Shut],.int .i64 a1] W fun e W'=>e=.returned (.bool true)∧Ext W W':=Bg (rS (BJ a0 (HS y0) a1)) (xX (xX (EY W) (Fh hL)) s0_0)
 refine walk.mono fun e W' ⟨he,bel⟩=> ?_
 subst he;exact ⟨_,J,_,_,_,[],_,[],hW',trodAll_mk1 (shut_bool LP _),(trodAll_cons_mk (Below.trod HR V (of_decide_eq_true V) h0 bel lt0) (trodAll_cons_mk (shut_int EM w1) trodAll_mk0)),J,bel.frame _,fun h=>by cases h⟩
theorem c1:Tryz.prog.inPlace 8=Rows.integrityTellsRow.inPlace:=by kernel_rfl
theorem c2:Tryz.prog.unfollowed 8=Rows.integrityTellsRow.unfollowed:=by kernel_rfl
theorem c3:Tryz.prog.recurses 8=Rows.integrityTellsRow.recurses:=by kernel_rfl
theorem c4:Tryz.prog.varsNamed 8=Rows.integrityTellsRow.named:=by kernel_rfl
theorem JW:joinedFacts Tryz.prog 8 Tryz.f8 Rows.integrityTellsSpec Rows.integrityTellsRow=true:=by
 unfold joinedFacts;rw [c1,c2,c3,c4];refine Eq.trans ?_ (Eq.refl _);kernel_rfl
theorem KT:Rows.integrityTellsRow.holds Tryz.pinned (OpenSpec.ofChange Rows.integrityTellsSpec):=
 OpenClaim.holds_of_wide 8 Tryz.f8 rfl rfl rfl rfl rfl rfl rfl ⟨rfl,rfl,rfl,rfl,rfl⟩ rfl rfl rfl rfl rfl V LV JW
  (of_decide_eq_true V) (by unfold Func.isWrapper;first|(rw [if_pos (by decide+kernel)];kernel_rfl)|(rw [if_neg (by decide+kernel)];exact ⟨rfl,rfl⟩))
  (fun os started H enc _=>JJ os started H enc)
theorem proved:Rows.IntegrityTellsCardSaid:=
 Claim7.holds_tied_plain_at .later [] [.data] true (true, "e7e1e7431076a73998c07bb4cbfdb4e3cab7964ba4666738c74b5ee9a220ac5f") false
  KT (fun _ h=>by cases h) V (fun _ h=>by cases h) integrityTells_row_tie rfl ⟨rfl,rfl⟩ V rfl
  (fun f fn hf hfn=>by
   obtain rfl:f=8:=Option.some.inj ((show Tryz.prog.funcNamed "pantomime/pantomimelaw35.IntegrityTells" =some 8 by kernel_rfl).symm.trans hf)|>.symm;obtain rfl:fn=Tryz.f8:=(Option.some.inj (LV.symm.trans hfn)).symm
   exact ⟨by kernel_rfl,fun j t ht=>by
    rw [Tryz.params8] at ht
    have hm:t∈[84,3]:=by simpa using Array.mem_of_getElem? ht
    have hall:([84,3].all fun u=> !Tryz.prog.wantsStandIn u)=true:=by kernel_rfl
    exact (show Tryz.prog.wantsStandIn t=false by simpa using List.all_eq_true.1 hall t hm)⟩)
  V
#print axioms proved
end integrityTells
end Go.Proofs.YtanojiedimeegaaGreatDoor