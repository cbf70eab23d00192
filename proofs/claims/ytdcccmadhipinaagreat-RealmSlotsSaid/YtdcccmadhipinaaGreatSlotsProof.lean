/-
 PROVED: RealmSlots returns true for all numbers and values: SetIntrinsic replaces exactly one intrinsic object, numbers out of range have no effect, and the completions for spent budgets are as specified. No condition.
-/
import Derived.Test.YtdcccmadhipinaaGreatG5
import Derived.Test.YtdcccmadhipinaaGreatRows
import Derived.ProofKit
import Derived.OpenShut
import Derived.ShutString
import Derived.ChangeOld
namespace Go.Proofs.YtdcccmadhipinaaGreat
open Go.ChangeShapes Go.WideShapes Go.ChangeAt Go.RowKit Go.Deep
open Go.ChangeMaps (open_string shut_string)
namespace realmSlots
theorem sE:ownKnob Tryz.prog.godebug=none:=by kernel_rfl
theorem qn:laidOutB Tryz.prog=true:=by kernel_rfl
set_option maxRecDepth 100000 in
theorem rQ (os:Os)(started:os.Started)(H:Type)(enc:TypeId×Value→H):
  ReturnsInHanded {} Tryz.checked os 3 .any (Rows.realmSlotsSpec.pre6 enc Tryz.prog Tryz.f3 Rows.realmSlotsRow.domain false) (Rows.realmSlotsSpec.post enc Tryz.prog Tryz.f3 false true false false):=by
 refine returnsInHanded_of_change (C:=Tryz.checked) sE started V Tryz.func3
  (ChangeSpec.witness6 (enc:=enc) (C:=Tryz.checked) false ⟨#[], #[.int .i64 0,.agg #[.int .i64 0,.int .i64 0,.string ⟨#[]⟩]],[]⟩ 8 V V V V) ?_
 intro W base args ds gs before hval0 hW hcnd _;have hval: ∀(j:Nat) t v,Tryz.f3.params[j]? =some t→args[j]? =some v→Value.okWide Tryz.prog W .any base t v:=hval0;have hW':=hW;obtain ⟨p,q,hA0,hV,rfl,hfz,hnd⟩:=hW;have hA:DataW.TrodAll enc Tryz.prog W 0 (fun _=>true) true Tryz.f3.params.toList args.toList ds p:=hA0;rw [Tryz.params3] at hA hval;obtain ⟨v0,vs0,d0,ds0,p0,q0,hargs,rfl,rfl,h0,r0⟩:=trodAll_cons hA;obtain ⟨v1,vs1,d1,ds1,p1,q1,rfl,rfl,rfl,h1,r1⟩:=trodAll_cons r0;obtain ⟨rfl,rfl,rfl⟩:=trodAll_nil r1
 obtain rfl:args= #[v0,v1]:=by cases args;simp_all
 obtain ⟨rfl,rfl⟩:=trodVars_none hV;obtain ⟨a0,rfl,rfl,rfl,w0⟩:=open_int hH (hval 0 3 v0 rfl rfl) h0;have y0:=kd w0
 have lt1: ∀x∈p1,x.block<W.heap.size:=by obtain ⟨m,hm⟩:=h1;exact DataW.trod_lt m _ _ _ hm
 obtain ⟨a1,rfl,y1⟩:=sp (hval 1 23 v1 rfl rfl) h1;clear hA0 hval0
 have walk:Calls Tryz.prog 3 #[.int .i64 a0,.agg #[.int .i64 a1.Kind,.int .i64 a1.N,.string a1.S]] W fun e W'=>e=.returned (.bool true)∧Ext W W':=lU (iT (ov a0 a1)) (ou W)
 refine walk.mono fun e W' ⟨he,bel⟩=> ?_
 subst he;exact ⟨_,J,_,_,_,[],_,[],hW',trodAll_mk1 (shut_bool Tryz.underlying4 _),(trodAll_cons_mk (shut_int hH w0) (trodAll_cons_mk (Below.trod qn V (of_decide_eq_true V) h1 bel lt1) trodAll_mk0)),J,bel.frame _,fun h=>by cases h⟩
theorem c1:Tryz.prog.inPlace 3=Rows.realmSlotsRow.inPlace:=by kernel_rfl
theorem c2:Tryz.prog.unfollowed 3=Rows.realmSlotsRow.unfollowed:=by kernel_rfl
theorem c3:Tryz.prog.recurses 3=Rows.realmSlotsRow.recurses:=by kernel_rfl
theorem c4:Tryz.prog.varsNamed 3=Rows.realmSlotsRow.named:=by kernel_rfl
theorem rZ:joinedFacts Tryz.prog 3 Tryz.f3 Rows.realmSlotsSpec Rows.realmSlotsRow=true:=by
 unfold joinedFacts;rw [c1,c2,c3,c4];refine Eq.trans ?_ (Eq.refl _);kernel_rfl
theorem tC:Rows.realmSlotsRow.holds Tryz.pinned (OpenSpec.ofChange Rows.realmSlotsSpec):=
 OpenClaim.holds_of_wide 3 Tryz.f3 rfl rfl rfl rfl rfl rfl rfl ⟨rfl,rfl,rfl,rfl,rfl⟩ rfl rfl rfl rfl rfl V Tryz.func3 rZ
  (of_decide_eq_true V) (by unfold Func.isWrapper;first|(rw [if_pos (by decide+kernel)];kernel_rfl)|(rw [if_neg (by decide+kernel)];exact ⟨rfl,rfl⟩))
  (fun os started H enc _=>rQ os started H enc)
theorem proved:Rows.RealmSlotsSaid:=tC
#print axioms proved
end realmSlots
end Go.Proofs.YtdcccmadhipinaaGreat