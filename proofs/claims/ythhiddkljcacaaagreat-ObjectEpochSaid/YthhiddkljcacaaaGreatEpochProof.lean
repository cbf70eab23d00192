/-
 PROVED: ObjectEpoch returns true for all flags and lists of operations: the epoch rises just if the shape or the prototype of an object changes that is a prototype. No condition.
-/
import Derived.Test.YthhiddkljcacaaaGreatG8
import Derived.Test.YthhiddkljcacaaaGreatG10
import Derived.Test.YthhiddkljcacaaaGreatRows
import Derived.ProofKit
import Derived.OpenShut
import Derived.ShutString
import Derived.ChangeOld
namespace Go.Proofs.YthhiddkljcacaaaGreat
open Go.ChangeShapes Go.WideShapes Go.ChangeAt Go.RowKit Go.Deep
open Go.ChangeMaps (open_string shut_string)
namespace objectEpoch
theorem N2:ownKnob Tryz.prog.godebug=none:=by kernel_rfl
theorem Lq:laidOutB Tryz.prog=true:=by kernel_rfl
set_option maxRecDepth 100000 in
theorem Sg (os:Os)(started:os.Started)(H:Type)(enc:TypeId×Value→H):
  ReturnsInHanded {} Tryz.checked os 4 .any (Rows.objectEpochSpec.pre6 enc Tryz.prog Tryz.f4 Rows.objectEpochRow.domain false) (Rows.objectEpochSpec.post enc Tryz.prog Tryz.f4 false true false false):=by
 refine returnsInHanded_of_change_sized (C:=Tryz.checked) N2 started I Tryz.func4
  (ChangeSpec.witness6 (enc:=enc) (C:=Tryz.checked) false ⟨#[], #[.bool false,Y none 0 0],[]⟩ 8 I I I I) ?_
 intro W base args ds gs before hval0 hW hcnd hsz _;have hval: ∀(j:Nat) t v,Tryz.f4.params[j]? =some t→args[j]? =some v→Value.okWide Tryz.prog W .any base t v:=hval0;have hW':=hW;obtain ⟨p,q,hA0,hV,rfl,hfz,hnd⟩:=hW;have hA:DataW.TrodAll enc Tryz.prog W 0 (fun _=>true) true Tryz.f4.params.toList args.toList ds p:=hA0;rw [Tryz.params4] at hA hval;obtain ⟨v0,vs0,d0,ds0,p0,q0,hargs,rfl,rfl,h0,r0⟩:=trodAll_cons hA;obtain ⟨v1,vs1,d1,ds1,p1,q1,rfl,rfl,rfl,h1,r1⟩:=trodAll_cons r0;obtain ⟨rfl,rfl,rfl⟩:=trodAll_nil r1
 obtain rfl:args= #[v0,v1]:=by cases args;simp_all
 obtain ⟨rfl,rfl⟩:=trodVars_none hV
 have lt0: ∀x∈p0,x.block<W.heap.size:=by obtain ⟨m,hm⟩:=h0;exact DataW.trod_lt m _ _ _ hm
 obtain ⟨a0,rfl,y0⟩:=TC (hval 0 4 v0 rfl rfl) h0 ⟨fun n hn=>XQ (Wu.1 hsz n (DataW.weights_mem_each (j:=0) (t:=4) rfl rfl n hn))⟩
 have lt1: ∀x∈p1,x.block<W.heap.size:=by obtain ⟨m,hm⟩:=h1;exact DataW.trod_lt m _ _ _ hm
 obtain ⟨a1,A1_0,n1_0,c1_0,rfl,y1,s1_0⟩:=SA (hval 1 22 v1 rfl rfl) h1 ⟨fun n hn=>XQ (Wu.1 hsz n (DataW.weights_mem_each (j:=1) (t:=22) rfl rfl n hn))⟩;clear hA0 hval0
 have walk:Calls Tryz.prog 4 #[.bool a0,Y A1_0 n1_0 c1_0] W fun e W'=>e=.returned (.bool true)∧Ext W W':=Ij (Am (Nj a0 y1)) (J5 (Mc W) s1_0)
 refine walk.mono fun e W' ⟨he,bel⟩=> ?_
 subst he;exact ⟨_,J,_,_,_,[],_,[],hW',trodAll_mk1 (shut_bool Vu _),(trodAll_cons_mk (Below.trod Lq I (XQ I) h0 bel lt0) (trodAll_cons_mk (Below.trod Lq I (XQ I) h1 bel lt1) trodAll_mk0)),J,bel.frame _,fun h=>by cases h⟩
theorem c1:Tryz.prog.inPlace 4=Rows.objectEpochRow.inPlace:=by kernel_rfl
theorem c2:Tryz.prog.unfollowed 4=Rows.objectEpochRow.unfollowed:=by kernel_rfl
theorem c3:Tryz.prog.recurses 4=Rows.objectEpochRow.recurses:=by kernel_rfl
theorem c4:Tryz.prog.varsNamed 4=Rows.objectEpochRow.named:=by kernel_rfl
theorem closed:joinedFacts Tryz.prog 4 Tryz.f4 Rows.objectEpochSpec Rows.objectEpochRow=true:=by
 unfold joinedFacts;rw [c1,c2,c3,c4];refine Eq.trans ?_ (Eq.refl _);kernel_rfl
theorem Uk:Rows.objectEpochRow.holds Tryz.pinned (OpenSpec.ofChange Rows.objectEpochSpec):=
 OpenClaim.holds_of_wide 4 Tryz.f4 rfl rfl rfl rfl rfl rfl rfl ⟨rfl,rfl,rfl,rfl,rfl⟩ rfl rfl rfl rfl rfl I Tryz.func4 closed
  (XQ I) (by unfold Func.isWrapper;first|(rw [if_pos (by decide+kernel)];kernel_rfl)|(rw [if_neg (by decide+kernel)];exact ⟨rfl,rfl⟩))
  (fun os started H enc _=>Sg os started H enc)
theorem proved:Rows.ObjectEpochSaid:=Uk
#print axioms proved
end objectEpoch
end Go.Proofs.YthhiddkljcacaaaGreat