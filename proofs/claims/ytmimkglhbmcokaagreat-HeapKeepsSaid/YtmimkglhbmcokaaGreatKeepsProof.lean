/-
 PROVED: HeapKeeps returns true for every list of operations: a collection keeps the graph that is reachable from the roots, up to the addresses, and the heap stays consistent. No condition.
-/
import Derived.Test.YtmimkglhbmcokaaGreatG3
import Derived.Test.YtmimkglhbmcokaaGreatG11
import Derived.Test.YtmimkglhbmcokaaGreatRows
import Derived.ProofKit
import Derived.OpenShut
import Derived.ShutString
import Derived.ChangeOld
namespace Go.Proofs.YtmimkglhbmcokaaGreat
open Go.ChangeShapes Go.WideShapes Go.ChangeAt Go.RowKit Go.Deep
open Go.ChangeMaps (open_string shut_string)
namespace heapKeeps
theorem Kq:ownKnob Tryz.prog.godebug=none:=by kernel_rfl
theorem Ih:laidOutB Tryz.prog=true:=by kernel_rfl
set_option maxRecDepth 100000 in
theorem OW (os:Os)(started:os.Started)(H:Type)(enc:TypeId×Value→H):
  ReturnsInHanded {} Tryz.checked os 13 .any (Rows.heapKeepsSpec.pre6 enc Tryz.prog Tryz.f13 Rows.heapKeepsRow.domain false) (Rows.heapKeepsSpec.post enc Tryz.prog Tryz.f13 false true false false):=by
 refine returnsInHanded_of_change_sized (C:=Tryz.checked) Kq started W Tryz.func13
  (ChangeSpec.witness6 (enc:=enc) (C:=Tryz.checked) false ⟨#[], #[O none 0 0,.bool false],[]⟩ 8 W W W W) ?_
 intro f6 base args ds gs before hval0 hW hcnd hsz _;have hval: ∀(j:Nat) t v,Tryz.f13.params[j]? =some t→args[j]? =some v→Value.okWide Tryz.prog f6 .any base t v:=hval0;have hW':=hW;obtain ⟨p,q,hA0,hV,rfl,hfz,hnd⟩:=hW;have hA:DataW.TrodAll enc Tryz.prog f6 0 (fun _=>true) true Tryz.f13.params.toList args.toList ds p:=hA0;rw [Tryz.params13] at hA hval;obtain ⟨v0,vs0,d0,ds0,p0,q0,hargs,rfl,rfl,h0,r0⟩:=trodAll_cons hA;obtain ⟨v1,vs1,d1,ds1,p1,q1,rfl,rfl,rfl,h1,r1⟩:=trodAll_cons r0;obtain ⟨rfl,rfl,rfl⟩:=trodAll_nil r1
 obtain rfl:args= #[v0,v1]:=by cases args;simp_all
 obtain ⟨rfl,rfl⟩:=trodVars_none hV
 have lt0: ∀x∈p0,x.block<f6.heap.size:=by obtain ⟨m,hm⟩:=h0;exact DataW.trod_lt m _ _ _ hm
 obtain ⟨a0,A0_0,n0_0,c0_0,rfl,y0,s0_0⟩:=Pm (hval 0 71 v0 rfl rfl) h0 ⟨fun n hn=>of_decide_eq_true (List.all_eq_true.1 hsz n (DataW.weights_mem_each (j:=0) (t:=71) rfl rfl n hn))⟩
 have lt1: ∀x∈p1,x.block<f6.heap.size:=by obtain ⟨m,hm⟩:=h1;exact DataW.trod_lt m _ _ _ hm
 obtain ⟨a1,rfl,y1⟩:=PR (hval 1 4 v1 rfl rfl) h1 ⟨fun n hn=>of_decide_eq_true (List.all_eq_true.1 hsz n (DataW.weights_mem_each (j:=1) (t:=4) rfl rfl n hn))⟩;clear hA0 hval0
 have walk:Calls Tryz.prog 13 #[O A0_0 n0_0 c0_0,.bool a1] f6 fun e W'=>e=.returned (.bool true)∧Ext f6 W':=Fs (yZ (JU a0 a1 y0)) (G4 (Jl f6) s0_0)
 refine walk.mono fun e W' ⟨he,bel⟩=> ?_
 subst he;exact ⟨_,U,_,_,_,[],_,[],hW',trodAll_mk1 (shut_bool QT _),(trodAll_cons_mk (Below.trod Ih W (of_decide_eq_true W) h0 bel lt0) (trodAll_cons_mk (Below.trod Ih W (of_decide_eq_true W) h1 bel lt1) trodAll_mk0)),U,bel.frame _,fun h=>by cases h⟩
theorem P4:Rows.heapKeepsRow.holds Tryz.pinned (OpenSpec.ofChange Rows.heapKeepsSpec):=
 OpenClaim.holds_of_wide 13 Tryz.f13 rfl rfl rfl rfl rfl rfl rfl ⟨rfl,rfl,rfl,rfl,rfl⟩ rfl rfl rfl rfl rfl W Tryz.func13 W
  (of_decide_eq_true W) (by unfold Func.isWrapper;first|(rw [if_pos (by decide+kernel)];kernel_rfl)|(rw [if_neg (by decide+kernel)];exact ⟨rfl,rfl⟩))
  (fun os started H enc _=>OW os started H enc)
theorem proved:Rows.HeapKeepsSaid:=P4
#print axioms proved
end heapKeeps
end Go.Proofs.YtmimkglhbmcokaaGreat