/-
 PROVED: ObjectNobody returns true for all values, keys, descriptors and attributes: for a value that is no object every function of the package returns its zero value and has no effect. No condition.
-/
import Derived.Test.YtanojiedimeegaaGreatG8
import Derived.Test.YtanojiedimeegaaGreatRows
import Derived.ProofKit
import Derived.OpenShut
import Derived.ShutString
import Derived.ChangeOld
namespace Go.Proofs.YtanojiedimeegaaGreat
open Go.ChangeShapes Go.WideShapes Go.ChangeAt Go.RowKit Go.Deep
open Go.ChangeMaps (open_string shut_string)
namespace objectNobody
theorem wj:ownKnob Tryz.prog.godebug=none:=by kernel_rfl
theorem qS:laidOutB Tryz.prog=true:=by kernel_rfl
set_option maxRecDepth 100000 in
theorem xK (os:Os)(started:os.Started)(H:Type)(enc:TypeId×Value→H):
  ReturnsInHanded {} Tryz.checked os 4 .any (Rows.objectNobodySpec.pre6 enc Tryz.prog Tryz.f4 Rows.objectNobodyRow.domain false) (Rows.objectNobodySpec.post enc Tryz.prog Tryz.f4 false true false false):=by
 refine returnsInHanded_of_change (C:=Tryz.checked) wj started V Tryz.func4
  (ChangeSpec.witness6 (enc:=enc) (C:=Tryz.checked) false ⟨#[], #[.agg #[.int .i64 0,.int .i64 0,.string ⟨#[]⟩],.agg #[.int .i64 0,.int .i64 0,.string ⟨#[]⟩],.agg #[.int .i64 0,.int .i64 0,.int .i64 0,.int .i64 0,.string ⟨#[]⟩,.int .i64 0,.int .i64 0,.string ⟨#[]⟩,.int .i64 0,.int .i64 0,.string ⟨#[]⟩],.int .i64 0],[]⟩ 8 V V V V) ?_
 intro W base args ds gs before hval0 hW hcnd _;have hval: ∀(j:Nat) t v,Tryz.f4.params[j]? =some t→args[j]? =some v→Value.okWide Tryz.prog W .any base t v:=hval0;have hW':=hW;obtain ⟨p,q,hA0,hV,rfl,hfz,hnd⟩:=hW;have hA:DataW.TrodAll enc Tryz.prog W 0 (fun _=>true) true Tryz.f4.params.toList args.toList ds p:=hA0;rw [Tryz.params4] at hA hval;obtain ⟨v0,vs0,d0,ds0,p0,q0,hargs,rfl,rfl,h0,r0⟩:=trodAll_cons hA;obtain ⟨v1,vs1,d1,ds1,p1,q1,rfl,rfl,rfl,h1,r1⟩:=trodAll_cons r0;obtain ⟨v2,vs2,d2,ds2,p2,q2,rfl,rfl,rfl,h2,r2⟩:=trodAll_cons r1;obtain ⟨v3,vs3,d3,ds3,p3,q3,rfl,rfl,rfl,h3,r3⟩:=trodAll_cons r2;obtain ⟨rfl,rfl,rfl⟩:=trodAll_nil r3
 obtain rfl:args= #[v0,v1,v2,v3]:=by cases args;simp_all
 obtain ⟨rfl,rfl⟩:=trodVars_none hV
 have lt0: ∀x∈p0,x.block<W.heap.size:=by obtain ⟨m,hm⟩:=h0;exact DataW.trod_lt m _ _ _ hm
 obtain ⟨a0,rfl,y0⟩:=yG (hval 0 29 v0 rfl rfl) h0
 have lt1: ∀x∈p1,x.block<W.heap.size:=by obtain ⟨m,hm⟩:=h1;exact DataW.trod_lt m _ _ _ hm
 obtain ⟨a1,rfl,y1⟩:=yF (hval 1 44 v1 rfl rfl) h1
 have lt2: ∀x∈p2,x.block<W.heap.size:=by obtain ⟨m,hm⟩:=h2;exact DataW.trod_lt m _ _ _ hm
 obtain ⟨a2,rfl,y2⟩:=yE (hval 2 46 v2 rfl rfl) h2;obtain ⟨a3,rfl,rfl,rfl,w3⟩:=open_int hJ (hval 3 3 v3 rfl rfl) h3;have y3:=pc w3;clear hA0 hval0
 have walk:Calls Tryz.prog 4 #[.agg #[.int .i64 a0.Kind,.int .i64 a0.N,.string a0.S],.agg #[.int .i64 a1.Kind,.int .i64 a1.N,.string a1.S],.agg #[.int .i64 a2.Has,.int .i64 a2.Attrs,.int .i64 a2.Value.Kind,.int .i64 a2.Value.N,.string a2.Value.S,.int .i64 a2.Get.Kind,.int .i64 a2.Get.N,.string a2.Get.S,.int .i64 a2.Set.Kind,.int .i64 a2.Set.N,.string a2.Set.S],.int .i64 a3] W fun e W'=>e=.returned (.bool true)∧Ext W W':=ri (md (sj a0 a1 a2 a3)) (tO W)
 refine walk.mono fun e W' ⟨he,bel⟩=> ?_
 subst he;exact ⟨_,J,_,_,_,[],_,[],hW',trodAll_mk1 (shut_bool Tryz.underlying4 _),(trodAll_cons_mk (Below.trod qS V (of_decide_eq_true V) h0 bel lt0) (trodAll_cons_mk (Below.trod qS V (of_decide_eq_true V) h1 bel lt1) (trodAll_cons_mk (Below.trod qS V (of_decide_eq_true V) h2 bel lt2) (trodAll_cons_mk (shut_int hJ w3) trodAll_mk0)))),J,bel.frame _,fun h=>by cases h⟩
theorem zu:Rows.objectNobodyRow.holds Tryz.pinned (OpenSpec.ofChange Rows.objectNobodySpec):=
 OpenClaim.holds_of_wide 4 Tryz.f4 rfl rfl rfl rfl rfl rfl rfl ⟨rfl,rfl,rfl,rfl,rfl⟩ rfl rfl rfl rfl rfl V Tryz.func4 V
  (of_decide_eq_true V) (by unfold Func.isWrapper;first|(rw [if_pos (by decide+kernel)];kernel_rfl)|(rw [if_neg (by decide+kernel)];exact ⟨rfl,rfl⟩))
  (fun os started H enc _=>xK os started H enc)
theorem proved:Rows.ObjectNobodySaid:=zu
#print axioms proved
end objectNobody
end Go.Proofs.YtanojiedimeegaaGreat