/-
 PROVED: IntegrityStays returns true for every thing, key and number: a frozen object or array stays frozen and sealed, and its properties cannot be deleted, added or changed. The listed package variable holds what the text lays. No other condition.
-/
import Derived.Test.YtanojiedimeegaaGreatDoorG9
import Derived.Test.YtanojiedimeegaaGreatDoorG11
import Derived.Test.YtanojiedimeegaaGreatDoorRows
import Derived.Test.YtanojiedimeegaaGreatDoorCards
import Derived.Test.YtanojiedimeegaaGreatDoorTie
import Derived.ProofKit
import Derived.LaidMore
import Derived.Stop.Joined
import Derived.SevenTiedAt
import Derived.OpenShut
import Derived.ShutString
import Derived.ChangeOld
namespace Go.Proofs.YtanojiedimeegaaGreatDoor
open Go.ChangeShapes Go.WideShapes Go.ChangeAt Go.RowKit Go.Deep
open Go.ChangeMaps (open_string shut_string)
namespace integrityStays
theorem own:ownKnob Tryz.prog.godebug=none:=by kernel_rfl
theorem Dm:laidOutB Tryz.prog=true:=by kernel_rfl
theorem Gl (os:Os)(args:Array Value):laidMetH Tryz.prog [("pantomime/array.hole",Rows.laid_pantomime_array_hole)] ((World.doorLaid Tryz.prog 400 os).forCall (fun _ _=>0) ⟨#[],args,[]⟩).memory:=
 laidMetH_of_parts3 (fuel:=8) (laidMet_of_run' 8 V V) V V
set_option maxRecDepth 100000 in
theorem JY (os:Os)(started:os.Started)(H:Type)(enc:TypeId×Value→H):
  ReturnsInHanded {} Tryz.checked os 9 .any (fun w args=>(Rows.integrityStaysSpec.pre enc Tryz.prog Tryz.f9 [] false w args∧laidMetH Tryz.prog [("pantomime/array.hole",Rows.laid_pantomime_array_hole)] w)∧sizedMet enc Tryz.prog Tryz.f9 (OpenSpec.ofChange Rows.integrityStaysSpec) false w args) (Rows.integrityStaysSpec.post enc Tryz.prog Tryz.f9 false true false false):=by
 refine returnsInHanded_of_change_and (C:=Tryz.checked) (X:=fun w _=>laidMetH Tryz.prog [("pantomime/array.hole",Rows.laid_pantomime_array_hole)] w) (fun _ _ _ hh h=>h.of_heap hh) own started V MF
  (ChangeSpec.witness_shaped (enc:=enc) (C:=Tryz.checked) (os:=os) (X:=fun w _=>laidMetH Tryz.prog [("pantomime/array.hole",Rows.laid_pantomime_array_hole)] w) false (World.doorLaid Tryz.prog 400 os) #[.agg #[.bool false,.int .i64 0,I none 0 0,.bool false],.agg #[.int .i64 0,.int .i64 0,.string ⟨#[]⟩],.int .i64 0] 8 rfl (World.shaped_of_RefB V V) V V V (Gl os _)) ?_
 intro W iu args ds gs before hval0 hW hcnd hsz hL _;have hval: ∀(j:Nat) t v,Tryz.f9.params[j]? =some t→args[j]? =some v→Value.okWide Tryz.prog W .any iu t v:=hval0;have hW':=hW;obtain ⟨p,q,hA0,hV,rfl,hfz,hnd⟩:=hW;have hA:DataW.TrodAll enc Tryz.prog W 0 (fun _=>true) true Tryz.f9.params.toList args.toList ds p:=hA0;rw [Tryz.params9] at hA hval;obtain ⟨v0,vs0,d0,ds0,p0,q0,hargs,rfl,rfl,h0,r0⟩:=trodAll_cons hA;obtain ⟨v1,vs1,d1,ds1,p1,q1,rfl,rfl,rfl,h1,r1⟩:=trodAll_cons r0;obtain ⟨v2,vs2,d2,ds2,p2,q2,rfl,rfl,rfl,h2,r2⟩:=trodAll_cons r1;obtain ⟨rfl,rfl,rfl⟩:=trodAll_nil r2
 obtain rfl:args= #[v0,v1,v2]:=by cases args;simp_all
 obtain ⟨rfl,rfl⟩:=trodVars_none hV
 have lt0: ∀x∈p0,x.block<W.heap.size:=by obtain ⟨m,hm⟩:=h0;exact DataW.trod_lt m _ _ _ hm
 obtain ⟨a0,A0_0,n0_0,c0_0,rfl,y0,s0_0⟩:=KD (hval 0 84 v0 rfl rfl) h0 ⟨fun n hn=>of_decide_eq_true (List.all_eq_true.1 hsz n (DataW.weights_mem_each (j:=0) (t:=84) rfl rfl n hn))⟩
 have lt1: ∀x∈p1,x.block<W.heap.size:=by obtain ⟨m,hm⟩:=h1;exact DataW.trod_lt m _ _ _ hm
 obtain ⟨a1,rfl,y1⟩:=KE (hval 1 24 v1 rfl rfl) h1 ⟨fun n hn=>of_decide_eq_true (List.all_eq_true.1 hsz n (DataW.weights_mem_each (j:=1) (t:=24) rfl rfl n hn))⟩;obtain ⟨a2,rfl,rfl,rfl,w2⟩:=open_int hJ (hval 2 3 v2 rfl rfl) h2;have y2:=wi w2;clear hA0 hval0
 have walk:Calls Tryz.prog 9 #[.agg #[.bool a0.Array,.int .i64 a0.Elements,I A0_0 n0_0 c0_0,.bool a0.Shut],.agg #[.int .i64 a1.Kind,.int .i64 a1.N,.string a1.S],.int .i64 a2] W fun e W'=>e=.returned (.bool true)∧Ext W W':=Au (qJ (Bc a0 (HG y0) a1 a2)) (wF (wF (Ef W) (EH hL)) s0_0)
 refine walk.mono fun e W' ⟨he,bel⟩=> ?_
 subst he;exact ⟨_,J,_,_,_,[],_,[],hW',trodAll_mk1 (shut_bool Mz _),(trodAll_cons_mk (Below.trod Dm V (of_decide_eq_true V) h0 bel lt0) (trodAll_cons_mk (Below.trod Dm V (of_decide_eq_true V) h1 bel lt1) (trodAll_cons_mk (shut_int hJ w2) trodAll_mk0))),J,bel.frame _,fun h=>by cases h⟩
theorem c1:Tryz.prog.inPlace 9=Rows.integrityStaysRow.inPlace:=by kernel_rfl
theorem c2:Tryz.prog.unfollowed 9=Rows.integrityStaysRow.unfollowed:=by kernel_rfl
theorem c3:Tryz.prog.recurses 9=Rows.integrityStaysRow.recurses:=by kernel_rfl
theorem c4:Tryz.prog.varsNamed 9=Rows.integrityStaysRow.named:=by kernel_rfl
theorem Kd:joinedFacts Tryz.prog 9 Tryz.f9 Rows.integrityStaysSpec Rows.integrityStaysRow=true:=by
 unfold joinedFacts;rw [c1,c2,c3,c4];refine Eq.trans ?_ (Eq.refl _);kernel_rfl
theorem Lv:Rows.integrityStaysRow.holds Tryz.pinned (OpenSpec.ofChange Rows.integrityStaysSpec):=
 OpenClaim.holds_of_wide 9 Tryz.f9 rfl rfl rfl rfl rfl rfl rfl ⟨rfl,rfl,rfl,rfl,rfl⟩ rfl rfl rfl rfl rfl V MF Kd
  (of_decide_eq_true V) (by unfold Func.isWrapper;first|(rw [if_pos (by decide+kernel)];kernel_rfl)|(rw [if_neg (by decide+kernel)];exact ⟨rfl,rfl⟩))
  (fun os started H enc _=>JY os started H enc)
theorem proved:Rows.IntegrityStaysCardSaid:=
 Claim7.holds_tied_plain_at .later [] [.data] true (true, "e7e1e7431076a73998c07bb4cbfdb4e3cab7964ba4666738c74b5ee9a220ac5f") false
  Lv (fun _ h=>by cases h) V (fun _ h=>by cases h) integrityStays_row_tie rfl ⟨rfl,rfl⟩ V rfl
  (fun f fn hf hfn=>by
   obtain rfl:f=9:=Option.some.inj ((show Tryz.prog.funcNamed "pantomime/pantomimelaw35.IntegrityStays" =some 9 by kernel_rfl).symm.trans hf)|>.symm;obtain rfl:fn=Tryz.f9:=(Option.some.inj (MF.symm.trans hfn)).symm
   exact ⟨by kernel_rfl,fun j t ht=>by
    rw [Tryz.params9] at ht
    have hm:t∈[84,24,3]:=by simpa using Array.mem_of_getElem? ht
    have hall:([84,24,3].all fun u=> !Tryz.prog.wantsStandIn u)=true:=by kernel_rfl
    exact (show Tryz.prog.wantsStandIn t=false by simpa using List.all_eq_true.1 hall t hm)⟩)
  V
#print axioms proved
end integrityStays
end Go.Proofs.YtanojiedimeegaaGreatDoor