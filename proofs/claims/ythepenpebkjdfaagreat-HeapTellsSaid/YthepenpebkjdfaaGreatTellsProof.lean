/-
 PROVED: HeapTells returns true for every list of operations: what each operation tells, and the cells and roots at the end, are those of the reference heap. No condition.
-/
import Derived.Test.YthepenpebkjdfaaGreatG3
import Derived.Test.YthepenpebkjdfaaGreatG11
import Derived.Test.YthepenpebkjdfaaGreatRows
import Derived.ProofKit
import Derived.OpenShut
import Derived.ShutString
import Derived.ChangeOld
namespace Go.Proofs.YthepenpebkjdfaaGreat
open Go.ChangeShapes Go.WideShapes Go.ChangeAt Go.RowKit Go.Deep
open Go.ChangeMaps (open_string shut_string)
namespace heapTells
theorem Jz:ownKnob Tryz.prog.godebug=none:=by kernel_rfl
theorem Lv:laidOutB Tryz.prog=true:=by kernel_rfl
set_option maxRecDepth 100000 in
theorem MU (os:Os)(started:os.Started)(H:Type)(enc:TypeId×Value→H):
  ReturnsInHanded {} Tryz.checked os 3 .any (Rows.heapTellsSpec.pre6 enc Tryz.prog Tryz.f3 Rows.heapTellsRow.domain false) (Rows.heapTellsSpec.post enc Tryz.prog Tryz.f3 false true false false):=by
 refine returnsInHanded_of_change_sized (C:=Tryz.checked) Jz started I Tryz.func3
  (ChangeSpec.witness6 (enc:=enc) (C:=Tryz.checked) false ⟨#[], #[W none 0 0],[]⟩ 8 I I I I) ?_
 intro hJ base args ds gs before hval0 hW hcnd hsz _;have hval: ∀(j:Nat) t v,Tryz.f3.params[j]? =some t→args[j]? =some v→Value.okWide Tryz.prog hJ .any base t v:=hval0;have hW':=hW;obtain ⟨p,q,hA0,hV,rfl,hfz,hnd⟩:=hW;have hA:DataW.TrodAll enc Tryz.prog hJ 0 (fun _=>true) true Tryz.f3.params.toList args.toList ds p:=hA0;rw [Tryz.params3] at hA hval;obtain ⟨v0,vs0,d0,ds0,p0,q0,hargs,rfl,rfl,h0,r0⟩:=trodAll_cons hA;obtain ⟨rfl,rfl,rfl⟩:=trodAll_nil r0
 obtain rfl:args= #[v0]:=by cases args;simp_all
 obtain ⟨rfl,rfl⟩:=trodVars_none hV
 have lt0: ∀x∈p0,x.block<hJ.heap.size:=by obtain ⟨m,hm⟩:=h0;exact DataW.trod_lt m _ _ _ hm
 obtain ⟨a0,A0_0,n0_0,c0_0,rfl,y0,s0_0⟩:=Nj (hval 0 22 v0 rfl rfl) h0 ⟨fun n hn=>of_decide_eq_true (List.all_eq_true.1 hsz n (DataW.weights_mem_each (j:=0) (t:=22) rfl rfl n hn))⟩;clear hA0 hval0
 have walk:Calls Tryz.prog 3 #[W A0_0 n0_0 c0_0] hJ fun e W'=>e=.returned (.bool true)∧Ext hJ W':=FG (Aq (Iw a0 y0)) (GT (ID hJ) s0_0)
 refine walk.mono fun e W' ⟨he,bel⟩=> ?_
 subst he;exact ⟨_,J,_,_,_,[],_,[],hW',trodAll_mk1 (shut_bool P6 _),(trodAll_cons_mk (Below.trod Lv I (of_decide_eq_true I) h0 bel lt0) trodAll_mk0),J,bel.frame _,fun h=>by cases h⟩
theorem c1:Tryz.prog.inPlace 3=Rows.heapTellsRow.inPlace:=by kernel_rfl
theorem c2:Tryz.prog.unfollowed 3=Rows.heapTellsRow.unfollowed:=by kernel_rfl
theorem c3:Tryz.prog.recurses 3=Rows.heapTellsRow.recurses:=by kernel_rfl
theorem c4:Tryz.prog.varsNamed 3=Rows.heapTellsRow.named:=by kernel_rfl
theorem closed:joinedFacts Tryz.prog 3 Tryz.f3 Rows.heapTellsSpec Rows.heapTellsRow=true:=by
 unfold joinedFacts;rw [c1,c2,c3,c4];refine Eq.trans ?_ (Eq.refl _);kernel_rfl
theorem Oc:Rows.heapTellsRow.holds Tryz.pinned (OpenSpec.ofChange Rows.heapTellsSpec):=
 OpenClaim.holds_of_wide 3 Tryz.f3 rfl rfl rfl rfl rfl rfl rfl ⟨rfl,rfl,rfl,rfl,rfl⟩ rfl rfl rfl rfl rfl I Tryz.func3 closed
  (of_decide_eq_true I) (by unfold Func.isWrapper;first|(rw [if_pos (by decide+kernel)];kernel_rfl)|(rw [if_neg (by decide+kernel)];exact ⟨rfl,rfl⟩))
  (fun os started H enc _=>MU os started H enc)
theorem proved:Rows.HeapTellsSaid:=Oc
#print axioms proved
end heapTells
end Go.Proofs.YthepenpebkjdfaaGreat