/-
 PROVED: RealmBlind returns true for all operations and schedules: realms with different schedules of collections answer the same, count the same and print the same, and their heaps stay consistent. No condition.
-/
import Derived.Test.YtjmonlcchlkdhaaGreatG7
import Derived.Test.YtjmonlcchlkdhaaGreatG10
import Derived.Test.YtjmonlcchlkdhaaGreatRows
import Derived.ProofKit
import Derived.OpenShut
import Derived.ShutString
import Derived.ChangeOld
namespace Go.Proofs.YtjmonlcchlkdhaaGreat
open Go.ChangeShapes Go.WideShapes Go.ChangeAt Go.RowKit Go.Deep
open Go.ChangeMaps (open_string shut_string)
namespace realmBlind
theorem Jo:ownKnob Tryz.prog.godebug=none:=by kernel_rfl
theorem Lq:laidOutB Tryz.prog=true:=by kernel_rfl
set_option maxRecDepth 100000 in
theorem Ny (os:Os)(started:os.Started)(H:Type)(enc:TypeId×Value→H):
  ReturnsInHanded {} Tryz.checked os 5 .any (Rows.realmBlindSpec.pre6 enc Tryz.prog Tryz.f5 Rows.realmBlindRow.domain false) (Rows.realmBlindSpec.post enc Tryz.prog Tryz.f5 false true false false):=by
 refine returnsInHanded_of_change_sized (C:=Tryz.checked) Jo started I Tryz.func5
  (ChangeSpec.witness6 (enc:=enc) (C:=Tryz.checked) false ⟨#[], #[U none 0 0,.int .i64 0,.int .i64 0],[]⟩ 8 I I I I) ?_
 intro hE base args ds gs before hval0 hW hcnd hsz _;have hval: ∀(j:Nat) t v,Tryz.f5.params[j]? =some t→args[j]? =some v→Value.okWide Tryz.prog hE .any base t v:=hval0;have hW':=hW;obtain ⟨p,q,hA0,hV,rfl,hfz,hnd⟩:=hW;have hA:DataW.TrodAll enc Tryz.prog hE 0 (fun _=>true) true Tryz.f5.params.toList args.toList ds p:=hA0;rw [Tryz.params5] at hA hval;obtain ⟨v0,vs0,d0,ds0,p0,q0,hargs,rfl,rfl,h0,r0⟩:=trodAll_cons hA;obtain ⟨v1,vs1,d1,ds1,p1,q1,rfl,rfl,rfl,h1,r1⟩:=trodAll_cons r0;obtain ⟨v2,vs2,d2,ds2,p2,q2,rfl,rfl,rfl,h2,r2⟩:=trodAll_cons r1;obtain ⟨rfl,rfl,rfl⟩:=trodAll_nil r2
 obtain rfl:args= #[v0,v1,v2]:=by cases args;simp_all
 obtain ⟨rfl,rfl⟩:=trodVars_none hV
 have lt0: ∀x∈p0,x.block<hE.heap.size:=by obtain ⟨m,hm⟩:=h0;exact DataW.trod_lt m _ _ _ hm
 obtain ⟨a0,A0_0,n0_0,c0_0,rfl,y0,s0_0⟩:=NM (hval 0 50 v0 rfl rfl) h0 ⟨fun n hn=>of_decide_eq_true (List.all_eq_true.1 hsz n (DataW.weights_mem_each (j:=0) (t:=50) rfl rfl n hn))⟩;obtain ⟨a1,rfl,rfl,rfl,w1⟩:=open_int hP (hval 1 3 v1 rfl rfl) h1;have y1:=yu w1;obtain ⟨a2,rfl,rfl,rfl,w2⟩:=open_int hP (hval 2 3 v2 rfl rfl) h2;have y2:=yu w2;clear hA0 hval0
 have walk:Calls Tryz.prog 5 #[U A0_0 n0_0 c0_0,.int .i64 a1,.int .i64 a2] hE fun e W'=>e=.returned (.bool true)∧Ext hE W':=EJ (xJ (IR a0 a1 a2 y0)) (Gd (HU hE) s0_0)
 refine walk.mono fun e W' ⟨he,bel⟩=> ?_
 subst he;exact ⟨_,J,_,_,_,[],_,[],hW',trodAll_mk1 (shut_bool Rb _),(trodAll_cons_mk (Below.trod Lq I (of_decide_eq_true I) h0 bel lt0) (trodAll_cons_mk (shut_int hP w1) (trodAll_cons_mk (shut_int hP w2) trodAll_mk0))),J,bel.frame _,fun h=>by cases h⟩
theorem c1:Tryz.prog.inPlace 5=Rows.realmBlindRow.inPlace:=by kernel_rfl
theorem c2:Tryz.prog.unfollowed 5=Rows.realmBlindRow.unfollowed:=by kernel_rfl
theorem c3:Tryz.prog.recurses 5=Rows.realmBlindRow.recurses:=by kernel_rfl
theorem c4:Tryz.prog.varsNamed 5=Rows.realmBlindRow.named:=by kernel_rfl
theorem closed:joinedFacts Tryz.prog 5 Tryz.f5 Rows.realmBlindSpec Rows.realmBlindRow=true:=by
 unfold joinedFacts;rw [c1,c2,c3,c4];refine Eq.trans ?_ (Eq.refl _);kernel_rfl
theorem Pe:Rows.realmBlindRow.holds Tryz.pinned (OpenSpec.ofChange Rows.realmBlindSpec):=
 OpenClaim.holds_of_wide 5 Tryz.f5 rfl rfl rfl rfl rfl rfl rfl ⟨rfl,rfl,rfl,rfl,rfl⟩ rfl rfl rfl rfl rfl I Tryz.func5 closed
  (of_decide_eq_true I) (by unfold Func.isWrapper;first|(rw [if_pos (by decide+kernel)];kernel_rfl)|(rw [if_neg (by decide+kernel)];exact ⟨rfl,rfl⟩))
  (fun os started H enc _=>Ny os started H enc)
theorem proved:Rows.RealmBlindSaid:=Pe
#print axioms proved
end realmBlind
end Go.Proofs.YtjmonlcchlkdhaaGreat