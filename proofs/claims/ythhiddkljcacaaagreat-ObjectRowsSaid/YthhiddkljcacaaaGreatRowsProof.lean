/-
 PROVED: ObjectRows returns true for all numbers of objects and lists of operations: results and objects are those of property lists, wherever cells are moved in between. No condition.
-/
import Derived.Test.YthhiddkljcacaaaGreatG8
import Derived.Test.YthhiddkljcacaaaGreatG11
import Derived.Test.YthhiddkljcacaaaGreatRows
import Derived.ProofKit
import Derived.OpenShut
import Derived.ShutString
import Derived.ChangeOld
namespace Go.Proofs.YthhiddkljcacaaaGreat
open Go.ChangeShapes Go.WideShapes Go.ChangeAt Go.RowKit Go.Deep
open Go.ChangeMaps (open_string shut_string)
namespace objectRows
theorem kF:ownKnob Tryz.prog.godebug=none:=by kernel_rfl
theorem abI:laidOutB Tryz.prog=true:=by kernel_rfl
set_option maxRecDepth 100000 in
theorem acH (os:Os)(started:os.Started)(H:Type)(enc:TypeId×Value→H):
  ReturnsInHanded {} Tryz.checked os 5 .any (Rows.objectRowsSpec.pre6 enc Tryz.prog Tryz.f5 Rows.objectRowsRow.domain false) (Rows.objectRowsSpec.post enc Tryz.prog Tryz.f5 false true false false):=by
 refine returnsInHanded_of_change_sized (C:=Tryz.checked) kF started I Tryz.func5
  (ChangeSpec.witness6 (enc:=enc) (C:=Tryz.checked) false ⟨#[], #[.int .i64 0,Y none 0 0],[]⟩ 8 I I I I) ?_
 intro a base args ds T before hval0 o hcnd d _;have hval: ∀(j:Nat) t v,Tryz.f5.params[j]? =some t→args[j]? =some v→Value.okWide Tryz.prog a .any base t v:=hval0;have hW':=o;obtain ⟨p,q,c,N,rfl,L,F⟩:=o;have u:DataW.TrodAll enc Tryz.prog a 0 (fun _=>true) true Tryz.f5.params.toList args.toList ds p:=c;rw [Tryz.params5] at u hval;obtain ⟨v0,vs0,V,ds0,S,R,hargs,rfl,rfl,O,D⟩:=trodAll_cons u;obtain ⟨l,vs1,U,ds1,E,Q,rfl,rfl,rfl,f,r1⟩:=trodAll_cons D;obtain ⟨rfl,rfl,rfl⟩:=trodAll_nil r1;obtain rfl:args= #[v0,l]:=by cases args;simp_all
 obtain ⟨rfl,rfl⟩:=trodVars_none N;obtain ⟨z,rfl,rfl,rfl,i⟩:=open_int Ex (hval 0 3 v0 rfl rfl) O;have P:=Bv i
 have lt1: ∀x∈E,x.block<a.heap.size:=by obtain ⟨m,hm⟩:=f;exact DataW.trod_lt m _ _ _ hm
 obtain ⟨a1,A1_0,n1_0,c1_0,rfl,B,s1_0⟩:=acG (hval 1 22 l rfl rfl) f ⟨fun n K=>XG (Wi.1 d n (DataW.weights_mem_each (j:=1) (t:=22) rfl rfl n K))⟩;clear c hval0
 have walk:Calls Tryz.prog 5 #[.int .i64 z,Y A1_0 n1_0 c1_0] a fun e A=>e=.returned (.bool true)∧Ext a A:=Rp (P7 (aav z B)) (Ss (SY a) s1_0)
 refine walk.mono fun e A ⟨M,bel⟩=> ?_
 subst M;exact ⟨_,J,_,_,_,[],_,[],hW',trodAll_mk1 (shut_bool Vk _),(trodAll_cons_mk (shut_int Ex i) (trodAll_cons_mk (Below.trod abI I (XG I) f bel lt1) trodAll_mk0)),J,bel.frame _,fun h=>by cases h⟩
theorem c1:Tryz.prog.inPlace 5=Rows.objectRowsRow.inPlace:=by kernel_rfl
theorem c2:Tryz.prog.unfollowed 5=Rows.objectRowsRow.unfollowed:=by kernel_rfl
theorem c3:Tryz.prog.recurses 5=Rows.objectRowsRow.recurses:=by kernel_rfl
theorem c4:Tryz.prog.varsNamed 5=Rows.objectRowsRow.named:=by kernel_rfl
theorem closed:joinedFacts Tryz.prog 5 Tryz.f5 Rows.objectRowsSpec Rows.objectRowsRow=true:=by
 unfold joinedFacts;rw [c1,c2,c3,c4];refine Eq.trans ?_ (Eq.refl _);kernel_rfl
theorem adk:Rows.objectRowsRow.holds Tryz.pinned (OpenSpec.ofChange Rows.objectRowsSpec):=
 OpenClaim.holds_of_wide 5 Tryz.f5 rfl rfl rfl rfl rfl rfl rfl ⟨rfl,rfl,rfl,rfl,rfl⟩ rfl rfl rfl rfl rfl I Tryz.func5 closed
  (XG I) (by unfold Func.isWrapper;first|(rw [if_pos (by decide+kernel)];kernel_rfl)|(rw [if_neg (by decide+kernel)];exact ⟨rfl,rfl⟩))
  (fun os started H enc _=>acH os started H enc)
theorem proved:Rows.ObjectRowsSaid:=adk
#print axioms proved
end objectRows
