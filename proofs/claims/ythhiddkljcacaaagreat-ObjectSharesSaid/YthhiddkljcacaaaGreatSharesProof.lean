/-
 PROVED: ObjectShares returns true for all lists of operations: two objects on which the same operations are performed, with collections in between, answer alike and end with the same shape, the same properties and the same extensibility. No condition.
-/
import Derived.Test.YthhiddkljcacaaaGreatG8
import Derived.Test.YthhiddkljcacaaaGreatG10
import Derived.Test.YthhiddkljcacaaaGreatRows
import Derived.ProofKit
import Derived.OpenShut
import Derived.ShutString
import Derived.ChangeOld
namespace Go.Proofs.YthhiddkljcacaaaGreat
open Go.ChangeShapes Go.WideShapes Go.ChangeAt Go.RowKit Go.Deep
open Go.ChangeMaps (open_string shut_string)
namespace objectShares
theorem NP:ownKnob Tryz.prog.godebug=none:=by kernel_rfl
theorem P3:laidOutB Tryz.prog=true:=by kernel_rfl
set_option maxRecDepth 100000 in
theorem RV (os:Os)(started:os.Started)(H:Type)(enc:TypeId×Value→H):
  ReturnsInHanded {} Tryz.checked os 3 .any (Rows.objectSharesSpec.pre6 enc Tryz.prog Tryz.f3 Rows.objectSharesRow.domain false) (Rows.objectSharesSpec.post enc Tryz.prog Tryz.f3 false true false false):=by
 refine returnsInHanded_of_change_sized (C:=Tryz.checked) NP started I Tryz.func3
  (ChangeSpec.witness6 (enc:=enc) (C:=Tryz.checked) false ⟨#[], #[W none 0 0],[]⟩ 8 I I I I) ?_
 intro hJ base args ds gs before hval0 hW hcnd hsz _;have hval: ∀(j:Nat) t v,Tryz.f3.params[j]? =some t→args[j]? =some v→Value.okWide Tryz.prog hJ .any base t v:=hval0;have hW':=hW;obtain ⟨p,q,hA0,hV,rfl,hfz,hnd⟩:=hW;have hA:DataW.TrodAll enc Tryz.prog hJ 0 (fun _=>true) true Tryz.f3.params.toList args.toList ds p:=hA0;rw [Tryz.params3] at hA hval;obtain ⟨v0,vs0,d0,ds0,p0,q0,hargs,rfl,rfl,h0,r0⟩:=trodAll_cons hA;obtain ⟨rfl,rfl,rfl⟩:=trodAll_nil r0
 obtain rfl:args= #[v0]:=by cases args;simp_all
 obtain ⟨rfl,rfl⟩:=trodVars_none hV
 have lt0: ∀x∈p0,x.block<hJ.heap.size:=by obtain ⟨m,hm⟩:=h0;exact DataW.trod_lt m _ _ _ hm
 obtain ⟨a0,A0_0,n0_0,c0_0,rfl,y0,s0_0⟩:=Sd (hval 0 22 v0 rfl rfl) h0 ⟨fun n hn=>Xn (VY.1 hsz n (DataW.weights_mem_each (j:=0) (t:=22) rfl rfl n hn))⟩;clear hA0 hval0
 have walk:Calls Tryz.prog 3 #[W A0_0 n0_0 c0_0] hJ fun e W'=>e=.returned (.bool true)∧Ext hJ W':=Ii (zm (J6 y0)) (J3 (LW hJ) s0_0)
 refine walk.mono fun e W' ⟨he,bel⟩=> ?_
 subst he;exact ⟨_,J,_,_,_,[],_,[],hW',trodAll_mk1 (shut_bool U2 _),(trodAll_cons_mk (Below.trod P3 I (Xn I) h0 bel lt0) trodAll_mk0),J,bel.frame _,fun h=>by cases h⟩
theorem c1:Tryz.prog.inPlace 3=Rows.objectSharesRow.inPlace:=by kernel_rfl
theorem c2:Tryz.prog.unfollowed 3=Rows.objectSharesRow.unfollowed:=by kernel_rfl
theorem c3:Tryz.prog.recurses 3=Rows.objectSharesRow.recurses:=by kernel_rfl
theorem c4:Tryz.prog.varsNamed 3=Rows.objectSharesRow.named:=by kernel_rfl
theorem closed:joinedFacts Tryz.prog 3 Tryz.f3 Rows.objectSharesSpec Rows.objectSharesRow=true:=by
 unfold joinedFacts;rw [c1,c2,c3,c4];refine Eq.trans ?_ (Eq.refl _);kernel_rfl
theorem TL:Rows.objectSharesRow.holds Tryz.pinned (OpenSpec.ofChange Rows.objectSharesSpec):=
 OpenClaim.holds_of_wide 3 Tryz.f3 rfl rfl rfl rfl rfl rfl rfl ⟨rfl,rfl,rfl,rfl,rfl⟩ rfl rfl rfl rfl rfl I Tryz.func3 closed
  (Xn I) (by unfold Func.isWrapper;first|(rw [if_pos (by decide+kernel)];kernel_rfl)|(rw [if_neg (by decide+kernel)];exact ⟨rfl,rfl⟩))
  (fun os started H enc _=>RV os started H enc)
theorem proved:Rows.ObjectSharesSaid:=TL
#print axioms proved
end objectShares
end Go.Proofs.YthhiddkljcacaaaGreat