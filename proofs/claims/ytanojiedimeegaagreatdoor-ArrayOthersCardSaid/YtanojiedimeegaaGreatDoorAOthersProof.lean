/-
 PROVED: ArrayOthers returns true for all operations and values: a value that is no array has no properties of an array, and operations on it do nothing. The listed package variable holds what the text lays. No other condition.
-/
import Derived.Test.YtanojiedimeegaaGreatDoorG9
import Derived.Test.YtanojiedimeegaaGreatDoorRows
import Derived.Test.YtanojiedimeegaaGreatDoorCards
import Derived.Test.YtanojiedimeegaaGreatDoorTie
import Derived.ProofKit
import Derived.LaidMore
import Derived.Stop.Joined
import Derived.SevenTiedAt
import Derived.OpenShut
import Derived.ShutString
import Derived.ChangeOld
namespace Go.Proofs.YtanojiedimeegaaGreatDoor
open Go.ChangeShapes Go.WideShapes Go.ChangeAt Go.RowKit Go.Deep
open Go.ChangeMaps (open_string shut_string)
namespace arrayOthers
theorem xL:ownKnob Tryz.prog.godebug=none:=by kernel_rfl
theorem uO:laidOutB Tryz.prog=true:=by kernel_rfl
theorem xf (os:Os)(args:Array Value):laidMetH Tryz.prog [("pantomime/array.hole",Rows.laid_pantomime_array_hole)] ((World.doorLaid Tryz.prog 400 os).forCall (fun _ _=>0) ⟨#[],args,[]⟩).memory:=
 laidMetH_of_parts3 (fuel:=8) (laidMet_of_run' 8 O O) O O
set_option maxRecDepth 100000 in
theorem Ad (os:Os)(started:os.Started)(H:Type)(enc:TypeId×Value→H):
  ReturnsInHanded {} Tryz.checked os 4 .any (fun w args=>(Rows.arrayOthersSpec.pre enc Tryz.prog Tryz.f4 [] false w args∧laidMetH Tryz.prog [("pantomime/array.hole",Rows.laid_pantomime_array_hole)] w)∧sizedMet enc Tryz.prog Tryz.f4 (OpenSpec.ofChange Rows.arrayOthersSpec) false w args) (Rows.arrayOthersSpec.post enc Tryz.prog Tryz.f4 false true false false):=by
 refine returnsInHanded_of_change_and (C:=Tryz.checked) (X:=fun w _=>laidMetH Tryz.prog [("pantomime/array.hole",Rows.laid_pantomime_array_hole)] w) (fun _ _ _ hh h=>h.of_heap hh) xL started O Cj
  (ChangeSpec.witness_shaped (enc:=enc) (C:=Tryz.checked) (os:=os) (X:=fun w _=>laidMetH Tryz.prog [("pantomime/array.hole",Rows.laid_pantomime_array_hole)] w) false (World.doorLaid Tryz.prog 400 os) #[.agg #[.int .i64 0,.int .i64 0,.int .i64 0,.int .i64 0,.string ⟨#[]⟩,.int .i64 0,.int .i64 0,.int .i64 0,.int .i64 0,.string ⟨#[]⟩,.int .i64 0,.int .i64 0,.string ⟨#[]⟩,.int .i64 0,.int .i64 0,.string ⟨#[]⟩,.int .i64 0,.int .i64 0,.string ⟨#[]⟩],.agg #[.int .i64 0,.int .i64 0,.string ⟨#[]⟩]] 8 rfl (World.shaped_of_RefB O O) O O O (xf os _)) ?_
 intro W base args ds gs before hval0 hW hcnd _ hL _;have hval: ∀(j:Nat) t v,Tryz.f4.params[j]? =some t→args[j]? =some v→Value.okWide Tryz.prog W .any base t v:=hval0;have hW':=hW;obtain ⟨p,q,hA0,hV,rfl,hfz,hnd⟩:=hW;have hA:DataW.TrodAll enc Tryz.prog W 0 (fun _=>true) true Tryz.f4.params.toList args.toList ds p:=hA0;rw [Tryz.params4] at hA hval;obtain ⟨v0,vs0,d0,ds0,p0,q0,hargs,rfl,rfl,h0,r0⟩:=trodAll_cons hA;obtain ⟨v1,vs1,d1,ds1,p1,q1,rfl,rfl,rfl,h1,r1⟩:=trodAll_cons r0;obtain ⟨rfl,rfl,rfl⟩:=trodAll_nil r1
 obtain rfl:args= #[v0,v1]:=by cases args;simp_all
 obtain ⟨rfl,rfl⟩:=trodVars_none hV
 have lt0: ∀x∈p0,x.block<W.heap.size:=by obtain ⟨m,hm⟩:=h0;exact DataW.trod_lt m _ _ _ hm
 obtain ⟨a0,rfl,y0⟩:=AB (hval 0 52 v0 rfl rfl) h0
 have lt1: ∀x∈p1,x.block<W.heap.size:=by obtain ⟨m,hm⟩:=h1;exact DataW.trod_lt m _ _ _ hm
 obtain ⟨a1,rfl,y1⟩:=AC (hval 1 30 v1 rfl rfl) h1;clear hA0 hval0
 have walk:Calls Tryz.prog 4 #[.agg #[.int .i64 a0.Kind,.int .i64 a0.N,.int .i64 a0.K.Kind,.int .i64 a0.K.N,.string a0.K.S,.int .i64 a0.D.Has,.int .i64 a0.D.Attrs,.int .i64 a0.D.Value.Kind,.int .i64 a0.D.Value.N,.string a0.D.Value.S,.int .i64 a0.D.Get.Kind,.int .i64 a0.D.Get.N,.string a0.D.Get.S,.int .i64 a0.D.Set.Kind,.int .i64 a0.D.Set.N,.string a0.D.Set.S,.int .i64 a0.V.Kind,.int .i64 a0.V.N,.string a0.V.S],.agg #[.int .i64 a1.Kind,.int .i64 a1.N,.string a1.S]] W fun e W'=>e=.returned (.bool true)∧Ext W W':=sJ (nZ (t9 a0 a1)) (t3 (vO W) (wc hL))
 refine walk.mono fun e W' ⟨he,bel⟩=> ?_
 subst he;exact ⟨_,J,_,_,_,[],_,[],hW',trodAll_mk1 (shut_bool Tryz.underlying4 _),(trodAll_cons_mk (Below.trod uO O (of_decide_eq_true O) h0 bel lt0) (trodAll_cons_mk (Below.trod uO O (of_decide_eq_true O) h1 bel lt1) trodAll_mk0)),J,bel.frame _,fun h=>by cases h⟩
theorem c1:Tryz.prog.inPlace 4=Rows.arrayOthersRow.inPlace:=by kernel_rfl
theorem c2:Tryz.prog.unfollowed 4=Rows.arrayOthersRow.unfollowed:=by kernel_rfl
theorem c3:Tryz.prog.recurses 4=Rows.arrayOthersRow.recurses:=by kernel_rfl
theorem c4:Tryz.prog.varsNamed 4=Rows.arrayOthersRow.named:=by kernel_rfl
theorem Ao:joinedFacts Tryz.prog 4 Tryz.f4 Rows.arrayOthersSpec Rows.arrayOthersRow=true:=by
 unfold joinedFacts;rw [c1,c2,c3,c4];refine Eq.trans ?_ (Eq.refl _);kernel_rfl
theorem Bl:Rows.arrayOthersRow.holds Tryz.pinned (OpenSpec.ofChange Rows.arrayOthersSpec):=
 OpenClaim.holds_of_wide 4 Tryz.f4 rfl rfl rfl rfl rfl rfl rfl ⟨rfl,rfl,rfl,rfl,rfl⟩ rfl rfl rfl rfl rfl O Cj Ao
  (of_decide_eq_true O) (by unfold Func.isWrapper;first|(rw [if_pos (by decide+kernel)];kernel_rfl)|(rw [if_neg (by decide+kernel)];exact ⟨rfl,rfl⟩))
  (fun os started H enc _=>Ad os started H enc)
theorem proved:Rows.ArrayOthersCardSaid:=
 Claim7.holds_tied_plain_at .later [] [.data] true (true, "e7e1e7431076a73998c07bb4cbfdb4e3cab7964ba4666738c74b5ee9a220ac5f") false
  Bl (fun _ h=>by cases h) O (fun _ h=>by cases h) arrayOthers_row_tie rfl ⟨rfl,rfl⟩ O rfl
  (fun f fn hf hfn=>by
   obtain rfl:f=4:=Option.some.inj ((show Tryz.prog.funcNamed "pantomime/pantomimelaw33.ArrayOthers" =some 4 by kernel_rfl).symm.trans hf)|>.symm;obtain rfl:fn=Tryz.f4:=(Option.some.inj (Cj.symm.trans hfn)).symm
   exact ⟨by kernel_rfl,fun j t ht=>by
    rw [Tryz.params4] at ht
    have hm:t∈[52,30]:=by simpa using Array.mem_of_getElem? ht
    have hall:([52,30].all fun u=> !Tryz.prog.wantsStandIn u)=true:=by kernel_rfl
    exact (show Tryz.prog.wantsStandIn t=false by simpa using List.all_eq_true.1 hall t hm)⟩)
  O
#print axioms proved
end arrayOthers
end Go.Proofs.YtanojiedimeegaaGreatDoor