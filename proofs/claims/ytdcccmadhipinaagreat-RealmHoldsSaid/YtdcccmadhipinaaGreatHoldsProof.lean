/-
 PROVED: RealmHolds returns true for all numbers and lists: what is pushed as a root keeps its contents across any steps and collections, and the intrinsic objects have the specified prototypes. No condition.
-/
import Derived.Test.YtdcccmadhipinaaGreatG10
import Derived.Test.YtdcccmadhipinaaGreatG12
import Derived.Test.YtdcccmadhipinaaGreatRows
import Derived.ProofKit
import Derived.OpenShut
import Derived.ShutString
import Derived.ChangeOld
namespace Go.Proofs.YtdcccmadhipinaaGreat
open Go.ChangeShapes Go.WideShapes Go.ChangeAt Go.RowKit Go.Deep
open Go.ChangeMaps (open_string shut_string)
namespace realmHolds
theorem Kw:ownKnob Tryz.prog.godebug=none:=by kernel_rfl
theorem N4:laidOutB Tryz.prog=true:=by kernel_rfl
set_option maxRecDepth 100000 in
theorem PP (os:Os)(started:os.Started)(H:Type)(enc:TypeId×Value→H):
  ReturnsInHanded {} Tryz.checked os 4 .any (Rows.realmHoldsSpec.pre6 enc Tryz.prog Tryz.f4 Rows.realmHoldsRow.domain false) (Rows.realmHoldsSpec.post enc Tryz.prog Tryz.f4 false true false false):=by
 refine returnsInHanded_of_change (C:=Tryz.checked) Kw started I Tryz.func4
  (ChangeSpec.witness6 (enc:=enc) (C:=Tryz.checked) false ⟨#[], #[.int .i64 0,.int .i64 0,U none 0 0],[]⟩ 8 I I I I) ?_
 intro W base args ds gs before hval0 hW hcnd _;have hval: ∀(j:Nat) t v,Tryz.f4.params[j]? =some t→args[j]? =some v→Value.okWide Tryz.prog W .any base t v:=hval0;have hW':=hW;obtain ⟨p,q,hA0,hV,rfl,hfz,hnd⟩:=hW;have hA:DataW.TrodAll enc Tryz.prog W 0 (fun _=>true) true Tryz.f4.params.toList args.toList ds p:=hA0;rw [Tryz.params4] at hA hval;obtain ⟨v0,vs0,d0,ds0,p0,q0,hargs,rfl,rfl,h0,r0⟩:=trodAll_cons hA;obtain ⟨v1,vs1,d1,ds1,p1,q1,rfl,rfl,rfl,h1,r1⟩:=trodAll_cons r0;obtain ⟨v2,vs2,d2,ds2,p2,q2,rfl,rfl,rfl,h2,r2⟩:=trodAll_cons r1;obtain ⟨rfl,rfl,rfl⟩:=trodAll_nil r2
 obtain rfl:args= #[v0,v1,v2]:=by cases args;simp_all
 obtain ⟨rfl,rfl⟩:=trodVars_none hV;obtain ⟨a0,rfl,rfl,rfl,w0⟩:=open_int hP (hval 0 3 v0 rfl rfl) h0;have y0:=zq w0;obtain ⟨a1,rfl,rfl,rfl,w1⟩:=open_int hP (hval 1 3 v1 rfl rfl) h1;have y1:=zq w1
 have lt2: ∀x∈p2,x.block<W.heap.size:=by obtain ⟨m,hm⟩:=h2;exact DataW.trod_lt m _ _ _ hm
 obtain ⟨a2,A2_0,n2_0,c2_0,rfl,y2,s2_0⟩:=Qw (hval 2 39 v2 rfl rfl) h2;clear hA0 hval0
 have walk:Calls Tryz.prog 4 #[.int .i64 a0,.int .i64 a1,U A2_0 n2_0 c2_0] W fun e W'=>e=.returned (.bool true)∧Ext W W':=F3 (yp (N6 a0 a1 a2)) (HN (Kd W) s2_0)
 refine walk.mono fun e W' ⟨he,bel⟩=> ?_
 subst he;exact ⟨_,J,_,_,_,[],_,[],hW',trodAll_mk1 (shut_bool Tryz.underlying4 _),(trodAll_cons_mk (shut_int hP w0) (trodAll_cons_mk (shut_int hP w1) (trodAll_cons_mk (Below.trod N4 I (of_decide_eq_true I) h2 bel lt2) trodAll_mk0))),J,bel.frame _,fun h=>by cases h⟩
theorem c1:Tryz.prog.inPlace 4=Rows.realmHoldsRow.inPlace:=by kernel_rfl
theorem c2:Tryz.prog.unfollowed 4=Rows.realmHoldsRow.unfollowed:=by kernel_rfl
theorem c3:Tryz.prog.recurses 4=Rows.realmHoldsRow.recurses:=by kernel_rfl
theorem c4:Tryz.prog.varsNamed 4=Rows.realmHoldsRow.named:=by kernel_rfl
theorem closed:joinedFacts Tryz.prog 4 Tryz.f4 Rows.realmHoldsSpec Rows.realmHoldsRow=true:=by
 unfold joinedFacts;rw [c1,c2,c3,c4];refine Eq.trans ?_ (Eq.refl _);kernel_rfl
theorem RB:Rows.realmHoldsRow.holds Tryz.pinned (OpenSpec.ofChange Rows.realmHoldsSpec):=
 OpenClaim.holds_of_wide 4 Tryz.f4 rfl rfl rfl rfl rfl rfl rfl ⟨rfl,rfl,rfl,rfl,rfl⟩ rfl rfl rfl rfl rfl I Tryz.func4 closed
  (of_decide_eq_true I) (by unfold Func.isWrapper;first|(rw [if_pos (by decide+kernel)];kernel_rfl)|(rw [if_neg (by decide+kernel)];exact ⟨rfl,rfl⟩))
  (fun os started H enc _=>PP os started H enc)
theorem proved:Rows.RealmHoldsSaid:=RB
#print axioms proved
end realmHolds
end Go.Proofs.YtdcccmadhipinaaGreat