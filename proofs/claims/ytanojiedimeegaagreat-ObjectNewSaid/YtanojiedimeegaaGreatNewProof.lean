/-
 PROVED: ObjectNew returns true for all kinds, prototypes and budgets: New makes a well-formed, empty, extensible object of the kind and prototype that are asked, or fails as specified, and the allocation is counted. No condition.
-/
import Derived.Test.YtanojiedimeegaaGreatG8
import Derived.Test.YtanojiedimeegaaGreatRows
import Derived.ProofKit
import Derived.OpenShut
import Derived.ShutString
import Derived.ChangeOld
namespace Go.Proofs.YtanojiedimeegaaGreat
open Go.ChangeShapes Go.WideShapes Go.ChangeAt Go.RowKit Go.Deep
open Go.ChangeMaps (open_string shut_string)
namespace objectNew
theorem vz:ownKnob Tryz.prog.godebug=none:=by kernel_rfl
theorem yu:laidOutB Tryz.prog=true:=by kernel_rfl
set_option maxRecDepth 100000 in
theorem wY (os:Os)(started:os.Started)(H:Type)(enc:TypeId×Value→H):
  ReturnsInHanded {} Tryz.checked os 3 .any (Rows.objectNewSpec.pre6 enc Tryz.prog Tryz.f3 Rows.objectNewRow.domain false) (Rows.objectNewSpec.post enc Tryz.prog Tryz.f3 false true false false):=by
 refine returnsInHanded_of_change (C:=Tryz.checked) vz started V Tryz.func3
  (ChangeSpec.witness6 (enc:=enc) (C:=Tryz.checked) false ⟨#[], #[.int .i64 0,.int .i64 0,.int .i64 0],[]⟩ 8 V V V V) ?_
 intro W base args ds gs before hval0 hW hcnd _;have hval: ∀(j:Nat) t v,Tryz.f3.params[j]? =some t→args[j]? =some v→Value.okWide Tryz.prog W .any base t v:=hval0;have hW':=hW;obtain ⟨p,q,hA0,hV,rfl,hfz,hnd⟩:=hW;have hA:DataW.TrodAll enc Tryz.prog W 0 (fun _=>true) true Tryz.f3.params.toList args.toList ds p:=hA0;rw [Tryz.params3] at hA hval;obtain ⟨v0,vs0,d0,ds0,p0,q0,hargs,rfl,rfl,h0,r0⟩:=trodAll_cons hA;obtain ⟨v1,vs1,d1,ds1,p1,q1,rfl,rfl,rfl,h1,r1⟩:=trodAll_cons r0;obtain ⟨v2,vs2,d2,ds2,p2,q2,rfl,rfl,rfl,h2,r2⟩:=trodAll_cons r1;obtain ⟨rfl,rfl,rfl⟩:=trodAll_nil r2
 obtain rfl:args= #[v0,v1,v2]:=by cases args;simp_all
 obtain ⟨rfl,rfl⟩:=trodVars_none hV;obtain ⟨a0,rfl,rfl,rfl,w0⟩:=open_int hJ (hval 0 3 v0 rfl rfl) h0;have y0:=qC w0;obtain ⟨a1,rfl,rfl,rfl,w1⟩:=open_int hJ (hval 1 3 v1 rfl rfl) h1;have y1:=qC w1;obtain ⟨a2,rfl,rfl,rfl,w2⟩:=open_int hJ (hval 2 3 v2 rfl rfl) h2;have y2:=qC w2;clear hA0 hval0
 have walk:Calls Tryz.prog 3 #[.int .i64 a0,.int .i64 a1,.int .i64 a2] W fun e W'=>e=.returned (.bool true)∧Ext W W':=qT (nz (vD a0 a1 a2)) (tj W)
 refine walk.mono fun e W' ⟨he,bel⟩=> ?_
 subst he;exact ⟨_,J,_,_,_,[],_,[],hW',trodAll_mk1 (shut_bool hP _),(trodAll_cons_mk (shut_int hJ w0) (trodAll_cons_mk (shut_int hJ w1) (trodAll_cons_mk (shut_int hJ w2) trodAll_mk0))),J,bel.frame _,fun h=>by cases h⟩
theorem yB:Rows.objectNewRow.holds Tryz.pinned (OpenSpec.ofChange Rows.objectNewSpec):=
 OpenClaim.holds_of_wide 3 Tryz.f3 rfl rfl rfl rfl rfl rfl rfl ⟨rfl,rfl,rfl,rfl,rfl⟩ rfl rfl rfl rfl rfl V Tryz.func3 V
  (of_decide_eq_true V) (by unfold Func.isWrapper;first|(rw [if_pos (by decide+kernel)];kernel_rfl)|(rw [if_neg (by decide+kernel)];exact ⟨rfl,rfl⟩))
  (fun os started H enc _=>wY os started H enc)
theorem proved:Rows.ObjectNewSaid:=yB
#print axioms proved
end objectNew
end Go.Proofs.YtanojiedimeegaaGreat