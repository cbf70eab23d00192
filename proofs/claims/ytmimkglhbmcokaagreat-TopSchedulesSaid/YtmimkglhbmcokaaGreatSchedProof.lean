/-
 PROVED: TopSchedules returns true for all operations and any two schedules of collections: the graphs are isomorphic at the end, and behind a major collection both heaps have the same number of cells. No condition.
-/
import Derived.Test.YtmimkglhbmcokaaGreatG3
import Derived.Test.YtmimkglhbmcokaaGreatG12
import Derived.Test.YtmimkglhbmcokaaGreatRows
import Derived.ProofKit
import Derived.OpenShut
import Derived.ShutString
import Derived.ChangeOld
namespace Go.Proofs.YtmimkglhbmcokaaGreat
open Go.ChangeShapes Go.WideShapes Go.ChangeAt Go.RowKit Go.Deep
open Go.ChangeMaps (open_string shut_string)
namespace topSchedules
theorem KM:ownKnob Tryz.prog.godebug=none:=by kernel_rfl
theorem Gp:laidOutB Tryz.prog=true:=by kernel_rfl
set_option maxRecDepth 100000 in
theorem P0 (os:Os)(started:os.Started)(H:Type)(enc:TypeId×Value→H):
  ReturnsInHanded {} Tryz.checked os 3 .any (Rows.topSchedulesSpec.pre6 enc Tryz.prog Tryz.f3 Rows.topSchedulesRow.domain false) (Rows.topSchedulesSpec.post enc Tryz.prog Tryz.f3 false true false false):=by
 refine returnsInHanded_of_change_sized (C:=Tryz.checked) KM started Y Tryz.func3
  (ChangeSpec.witness6 (enc:=enc) (C:=Tryz.checked) false ⟨#[], #[O none 0 0,O none 0 0,O none 0 0],[]⟩ 8 Y Y Y Y) ?_
 intro hJ base args ds gs before hval0 hW hcnd hsz _;have hval: ∀(j:Nat) t v,Tryz.f3.params[j]? =some t→args[j]? =some v→Value.okWide Tryz.prog hJ .any base t v:=hval0;have hW':=hW;obtain ⟨p,q,hA0,hV,rfl,hfz,hnd⟩:=hW;have hA:DataW.TrodAll enc Tryz.prog hJ 0 (fun _=>true) true Tryz.f3.params.toList args.toList ds p:=hA0;rw [Tryz.params3] at hA hval;obtain ⟨v0,vs0,d0,ds0,p0,q0,hargs,rfl,rfl,h0,r0⟩:=trodAll_cons hA;obtain ⟨v1,vs1,d1,ds1,p1,q1,rfl,rfl,rfl,h1,r1⟩:=trodAll_cons r0;obtain ⟨v2,vs2,d2,ds2,p2,q2,rfl,rfl,rfl,h2,r2⟩:=trodAll_cons r1;obtain ⟨rfl,rfl,rfl⟩:=trodAll_nil r2
 obtain rfl:args= #[v0,v1,v2]:=by cases args;simp_all
 obtain ⟨rfl,rfl⟩:=trodVars_none hV
 have lt0: ∀x∈p0,x.block<hJ.heap.size:=by obtain ⟨m,hm⟩:=h0;exact DataW.trod_lt m _ _ _ hm
 obtain ⟨a0,A0_0,n0_0,c0_0,rfl,y0,s0_0⟩:=Qp (hval 0 22 v0 rfl rfl) h0 ⟨fun n hn=>of_decide_eq_true (List.all_eq_true.1 hsz n (DataW.weights_mem_each (j:=0) (t:=22) rfl rfl n hn))⟩
 have lt1: ∀x∈p1,x.block<hJ.heap.size:=by obtain ⟨m,hm⟩:=h1;exact DataW.trod_lt m _ _ _ hm
 obtain ⟨a1,A1_0,n1_0,c1_0,rfl,y1,s1_0⟩:=NG (hval 1 23 v1 rfl rfl) h1 ⟨fun n hn=>of_decide_eq_true (List.all_eq_true.1 hsz n (DataW.weights_mem_each (j:=1) (t:=23) rfl rfl n hn))⟩
 have lt2: ∀x∈p2,x.block<hJ.heap.size:=by obtain ⟨m,hm⟩:=h2;exact DataW.trod_lt m _ _ _ hm
 obtain ⟨a2,A2_0,n2_0,c2_0,rfl,y2,s2_0⟩:=NG (hval 2 23 v2 rfl rfl) h2 ⟨fun n hn=>of_decide_eq_true (List.all_eq_true.1 hsz n (DataW.weights_mem_each (j:=2) (t:=23) rfl rfl n hn))⟩;clear hA0 hval0
 have walk:Calls Tryz.prog 3 #[O A0_0 n0_0 c0_0,O A1_0 n1_0 c1_0,O A2_0 n2_0 c2_0] hJ fun e W'=>e=.returned (.bool true)∧Ext hJ W':=GF (pW (Kw a0 a1 a2)) (xP (xP (xP (Ks hJ) s2_0) s1_0) s0_0)
 refine walk.mono fun e W' ⟨he,bel⟩=> ?_
 subst he;exact ⟨_,U,_,_,_,[],_,[],hW',trodAll_mk1 (shut_bool R5 _),(trodAll_cons_mk (Below.trod Gp Y (of_decide_eq_true Y) h0 bel lt0) (trodAll_cons_mk (Below.trod Gp Y (of_decide_eq_true Y) h1 bel lt1) (trodAll_cons_mk (Below.trod Gp Y (of_decide_eq_true Y) h2 bel lt2) trodAll_mk0))),U,bel.frame _,fun h=>by cases h⟩
theorem Q6:Rows.topSchedulesRow.holds Tryz.pinned (OpenSpec.ofChange Rows.topSchedulesSpec):=
 OpenClaim.holds_of_wide 3 Tryz.f3 rfl rfl rfl rfl rfl rfl rfl ⟨rfl,rfl,rfl,rfl,rfl⟩ rfl rfl rfl rfl rfl Y Tryz.func3 Y
  (of_decide_eq_true Y) (by unfold Func.isWrapper;first|(rw [if_pos (by decide+kernel)];kernel_rfl)|(rw [if_neg (by decide+kernel)];exact ⟨rfl,rfl⟩))
  (fun os started H enc _=>P0 os started H enc)
theorem proved:Rows.TopSchedulesSaid:=Q6
#print axioms proved
end topSchedules
end Go.Proofs.YtmimkglhbmcokaaGreat