/-
 PROVED: RealmCounts returns true for all configurations and operations: results, counters, events and jobs are those of the model, the heap stays consistent, and configurations out of range are refused. No condition.
-/
import Derived.Test.YtjmonlcchlkdhaaGreatG9
import Derived.Test.YtjmonlcchlkdhaaGreatG11
import Derived.Test.YtjmonlcchlkdhaaGreatRows
import Derived.ProofKit
import Derived.OpenShut
import Derived.ShutString
import Derived.ChangeOld
namespace Go.Proofs.YtjmonlcchlkdhaaGreat
open Go.ChangeShapes Go.WideShapes Go.ChangeAt Go.RowKit Go.Deep
open Go.ChangeMaps (open_string shut_string)
namespace realmCounts
theorem Kx:ownKnob Tryz.prog.godebug=none:=by kernel_rfl
theorem IK:laidOutB Tryz.prog=true:=by kernel_rfl
set_option maxRecDepth 100000 in
theorem Pg (os:Os)(started:os.Started)(H:Type)(enc:TypeId×Value→H):
  ReturnsInHanded {} Tryz.checked os 6 .any (Rows.realmCountsSpec.pre6 enc Tryz.prog Tryz.f6 Rows.realmCountsRow.domain false) (Rows.realmCountsSpec.post enc Tryz.prog Tryz.f6 false true false false):=by
 refine returnsInHanded_of_change_sized (C:=Tryz.checked) Kx started I Tryz.func6
  (ChangeSpec.witness6 (enc:=enc) (C:=Tryz.checked) false ⟨#[], #[.agg #[.int .i64 0,.int .i64 0,.int .i64 0,.int .i64 0,.int .i64 0,.int .i64 0,.int .i64 0],U none 0 0],[]⟩ 8 I I I I) ?_
 intro W base args ds gs before hval0 hW hcnd hsz _;have hval: ∀(j:Nat) t v,Tryz.f6.params[j]? =some t→args[j]? =some v→Value.okWide Tryz.prog W .any base t v:=hval0;have hW':=hW;obtain ⟨p,q,hA0,hV,rfl,hfz,hnd⟩:=hW;have hA:DataW.TrodAll enc Tryz.prog W 0 (fun _=>true) true Tryz.f6.params.toList args.toList ds p:=hA0;rw [Tryz.params6] at hA hval;obtain ⟨v0,vs0,d0,ds0,p0,q0,hargs,rfl,rfl,h0,r0⟩:=trodAll_cons hA;obtain ⟨v1,vs1,d1,ds1,p1,q1,rfl,rfl,rfl,h1,r1⟩:=trodAll_cons r0;obtain ⟨rfl,rfl,rfl⟩:=trodAll_nil r1
 obtain rfl:args= #[v0,v1]:=by cases args;simp_all
 obtain ⟨rfl,rfl⟩:=trodVars_none hV
 have lt0: ∀x∈p0,x.block<W.heap.size:=by obtain ⟨m,hm⟩:=h0;exact DataW.trod_lt m _ _ _ hm
 obtain ⟨a0,rfl,y0⟩:=Px (hval 0 29 v0 rfl rfl) h0 ⟨fun n hn=>of_decide_eq_true (List.all_eq_true.1 hsz n (DataW.weights_mem_each (j:=0) (t:=29) rfl rfl n hn))⟩
 have lt1: ∀x∈p1,x.block<W.heap.size:=by obtain ⟨m,hm⟩:=h1;exact DataW.trod_lt m _ _ _ hm
 obtain ⟨a1,A1_0,n1_0,c1_0,rfl,y1,s1_0⟩:=Pw (hval 1 50 v1 rfl rfl) h1 ⟨fun n hn=>of_decide_eq_true (List.all_eq_true.1 hsz n (DataW.weights_mem_each (j:=1) (t:=50) rfl rfl n hn))⟩;clear hA0 hval0
 have walk:Calls Tryz.prog 6 #[.agg #[.int .i64 a0.UD,.int .i64 a0.Uu,.int .i64 a0.Uq,.int .i64 a0.Ut,.int .i64 a0.Uj,.int .i64 a0.UC,.int .i64 a0.UE],U A1_0 n1_0 c1_0] W fun e W'=>e=.returned (.bool true)∧Ext W W':=FZ (yx (H6 a0 a1 y1)) (Ht (Jp W) s1_0)
 refine walk.mono fun e W' ⟨he,bel⟩=> ?_
 subst he;exact ⟨_,J,_,_,_,[],_,[],hW',trodAll_mk1 (shut_bool Tg _),(trodAll_cons_mk (Below.trod IK I (of_decide_eq_true I) h0 bel lt0) (trodAll_cons_mk (Below.trod IK I (of_decide_eq_true I) h1 bel lt1) trodAll_mk0)),J,bel.frame _,fun h=>by cases h⟩
theorem c1:Tryz.prog.inPlace 6=Rows.realmCountsRow.inPlace:=by kernel_rfl
theorem c2:Tryz.prog.unfollowed 6=Rows.realmCountsRow.unfollowed:=by kernel_rfl
theorem c3:Tryz.prog.recurses 6=Rows.realmCountsRow.recurses:=by kernel_rfl
theorem c4:Tryz.prog.varsNamed 6=Rows.realmCountsRow.named:=by kernel_rfl
theorem closed:joinedFacts Tryz.prog 6 Tryz.f6 Rows.realmCountsSpec Rows.realmCountsRow=true:=by
 unfold joinedFacts;rw [c1,c2,c3,c4];refine Eq.trans ?_ (Eq.refl _);kernel_rfl
theorem QY:Rows.realmCountsRow.holds Tryz.pinned (OpenSpec.ofChange Rows.realmCountsSpec):=
 OpenClaim.holds_of_wide 6 Tryz.f6 rfl rfl rfl rfl rfl rfl rfl ⟨rfl,rfl,rfl,rfl,rfl⟩ rfl rfl rfl rfl rfl I Tryz.func6 closed
  (of_decide_eq_true I) (by unfold Func.isWrapper;first|(rw [if_pos (by decide+kernel)];kernel_rfl)|(rw [if_neg (by decide+kernel)];exact ⟨rfl,rfl⟩))
  (fun os started H enc _=>Pg os started H enc)
theorem proved:Rows.RealmCountsSaid:=QY
#print axioms proved
end realmCounts
end Go.Proofs.YtjmonlcchlkdhaaGreat