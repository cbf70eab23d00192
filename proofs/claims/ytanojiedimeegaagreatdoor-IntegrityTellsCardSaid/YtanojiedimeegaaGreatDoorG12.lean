/- Merged texts: part 12. No conditions of their own. -/
import Derived.Test.YtanojiedimeegaaGreatDoorG2
import Derived.Test.YtanojiedimeegaaGreatDoorG11
import Derived.Test.YtanojiedimeegaaGreatDoorG1
import Derived.KernelRfl
import Derived.Test.YtanojiedimeegaaGreatDoorRows
import Derived.ProofKit
import Derived.LaidMore
import Derived.OpenShut
import Derived.Stop.Joined
namespace Go.Proofs.YtanojiedimeegaaGreatDoor
section
open Go.RowKit Go.ChangeShapes Go.WideShapes Go.Deep
theorem LZ:type_of% Tryz.underlying84:=Tryz.underlying84
theorem LY:type_of% Tryz.underlying42:=Tryz.underlying42
theorem LX:type_of% Tryz.underlying30:=Tryz.underlying30
theorem LW:type_of% Tryz.underlying24:=Tryz.underlying24
def Dx (x:Mn):Prop:=(bK x.Kind)∧(bK x.N)∧(x.S.size≤reachBytes)
set_option maxRecDepth 100000 in
theorem E4:CO Tryz.prog 24 kc Dx:=fun {_ enc w base spare held _ cs y} h hw=>by
 obtain ⟨xs,m, -,hy,hl,hx,hf⟩:=DataW.trod_struct LW h
 have hc:Tryz.prog.cellsOf 24=3:=by kernel_rfl
 rw [hc] at hl
 match cs,hl,hf with
 | [c0,c1,c2],_,hf=>
  have k0:DataW.trod enc Tryz.prog w base spare held m 3 (List.take (Tryz.prog.cellsOf 3) (List.drop 0 [c0,c1,c2]))=xs[0]? :=hf 0 _ rfl
  have z0:Tryz.prog.cellsOf 3=1:=by kernel_rfl
  simp only [z0,List.drop_succ_cons,List.drop_zero,List.take_succ_cons,List.take_zero] at k0
  have l0:0<xs.length:=by rw [hx];decide
  obtain ⟨a0,r0,w0⟩:=(Rdr.w (tn EM)) (k0.trans (List.getElem?_eq_getElem l0)) (fb LW hy hw (i:=0) rfl (List.getElem?_eq_getElem l0));have k1:DataW.trod enc Tryz.prog w base spare held m 3 (List.take (Tryz.prog.cellsOf 3) (List.drop 1 [c0,c1,c2]))=xs[1]? :=hf 1 _ rfl
  have z1:Tryz.prog.cellsOf 3=1:=by kernel_rfl
  simp only [z1,List.drop_succ_cons,List.drop_zero,List.take_succ_cons,List.take_zero] at k1
  have l1:1<xs.length:=by rw [hx];decide
  obtain ⟨a1,r1,w1⟩:=(Rdr.w (tn EM)) (k1.trans (List.getElem?_eq_getElem l1)) (fb LW hy hw (i:=1) rfl (List.getElem?_eq_getElem l1));have k2:DataW.trod enc Tryz.prog w base spare held m 9 (List.take (Tryz.prog.cellsOf 9) (List.drop 2 [c0,c1,c2]))=xs[2]? :=hf 2 _ rfl
  have z2:Tryz.prog.cellsOf 9=1:=by kernel_rfl
  simp only [z2,List.drop_succ_cons,List.drop_zero,List.take_succ_cons,List.take_zero] at k2
  have l2:2<xs.length:=by rw [hx];decide
  obtain ⟨a2,r2,w2⟩:=(BU Ex) (k2.trans (List.getElem?_eq_getElem l2)) (fb LW hy hw (i:=2) rfl (List.getElem?_eq_getElem l2));obtain ⟨rfl, -⟩:=List.cons.inj (show [c0]=[_] from r0);obtain ⟨rfl, -⟩:=List.cons.inj (show [c1]=[_] from r1);obtain ⟨rfl, -⟩:=List.cons.inj (show [c2]=[_] from r2);exact ⟨⟨a0,a1,a2⟩,J,⟨w0,w1,w2⟩⟩
def tf (x:Mg):Prop:=(bK x.Kind)∧(bK x.N)∧(x.S.size≤reachBytes)
set_option maxRecDepth 100000 in
theorem ss:CO Tryz.prog 30 bS tf:=fun {_ enc w base spare held _ cs y} h hw=>by
 obtain ⟨xs,m, -,hy,hl,hx,hf⟩:=DataW.trod_struct LX h
 have hc:Tryz.prog.cellsOf 30=3:=by kernel_rfl
 rw [hc] at hl
 match cs,hl,hf with
 | [c0,c1,c2],_,hf=>
  have k0:DataW.trod enc Tryz.prog w base spare held m 3 (List.take (Tryz.prog.cellsOf 3) (List.drop 0 [c0,c1,c2]))=xs[0]? :=hf 0 _ rfl
  have z0:Tryz.prog.cellsOf 3=1:=by kernel_rfl
  simp only [z0,List.drop_succ_cons,List.drop_zero,List.take_succ_cons,List.take_zero] at k0
  have l0:0<xs.length:=by rw [hx];decide
  obtain ⟨a0,r0,w0⟩:=(Rdr.w (tn EM)) (k0.trans (List.getElem?_eq_getElem l0)) (fb LX hy hw (i:=0) rfl (List.getElem?_eq_getElem l0));have k1:DataW.trod enc Tryz.prog w base spare held m 3 (List.take (Tryz.prog.cellsOf 3) (List.drop 1 [c0,c1,c2]))=xs[1]? :=hf 1 _ rfl
  have z1:Tryz.prog.cellsOf 3=1:=by kernel_rfl
  simp only [z1,List.drop_succ_cons,List.drop_zero,List.take_succ_cons,List.take_zero] at k1
  have l1:1<xs.length:=by rw [hx];decide
  obtain ⟨a1,r1,w1⟩:=(Rdr.w (tn EM)) (k1.trans (List.getElem?_eq_getElem l1)) (fb LX hy hw (i:=1) rfl (List.getElem?_eq_getElem l1));have k2:DataW.trod enc Tryz.prog w base spare held m 9 (List.take (Tryz.prog.cellsOf 9) (List.drop 2 [c0,c1,c2]))=xs[2]? :=hf 2 _ rfl
  have z2:Tryz.prog.cellsOf 9=1:=by kernel_rfl
  simp only [z2,List.drop_succ_cons,List.drop_zero,List.take_succ_cons,List.take_zero] at k2
  have l2:2<xs.length:=by rw [hx];decide
  obtain ⟨a2,r2,w2⟩:=(BU Ex) (k2.trans (List.getElem?_eq_getElem l2)) (fb LX hy hw (i:=2) rfl (List.getElem?_eq_getElem l2));obtain ⟨rfl, -⟩:=List.cons.inj (show [c0]=[_] from r0);obtain ⟨rfl, -⟩:=List.cons.inj (show [c1]=[_] from r1);obtain ⟨rfl, -⟩:=List.cons.inj (show [c2]=[_] from r2);exact ⟨⟨a0,a1,a2⟩,J,⟨w0,w1,w2⟩⟩
def xR (x:Me):Prop:=(Dx x.Key)∧(bK x.Attrs)∧(tf x.Value)∧(tf x.Get)∧(tf x.Set)
set_option maxRecDepth 100000 in
theorem C4:CO Tryz.prog 42 kM xR:=fun {_ enc w base spare held _ cs y} h hw=>by
 obtain ⟨xs,m, -,hy,hl,hx,hf⟩:=DataW.trod_struct LY h
 have hc:Tryz.prog.cellsOf 42=13:=by kernel_rfl
 rw [hc] at hl
 match cs,hl,hf with
 | [c0,c1,c2,c3,c4,c5,c6,c7,c8,c9,c10,c11,c12],_,hf=>
  have k0:DataW.trod enc Tryz.prog w base spare held m 24 (List.take (Tryz.prog.cellsOf 24) (List.drop 0 [c0,c1,c2,c3,c4,c5,c6,c7,c8,c9,c10,c11,c12]))=xs[0]? :=hf 0 _ rfl
  have z0:Tryz.prog.cellsOf 24=3:=by kernel_rfl
  simp only [z0,List.drop_succ_cons,List.drop_zero,List.take_succ_cons,List.take_zero] at k0
  have l0:0<xs.length:=by rw [hx];decide
  obtain ⟨a0,r0,w0⟩:=E4 (k0.trans (List.getElem?_eq_getElem l0)) (fb LY hy hw (i:=0) rfl (List.getElem?_eq_getElem l0));have k1:DataW.trod enc Tryz.prog w base spare held m 3 (List.take (Tryz.prog.cellsOf 3) (List.drop 3 [c0,c1,c2,c3,c4,c5,c6,c7,c8,c9,c10,c11,c12]))=xs[1]? :=hf 1 _ rfl
  have z1:Tryz.prog.cellsOf 3=1:=by kernel_rfl
  simp only [z1,List.drop_succ_cons,List.drop_zero,List.take_succ_cons,List.take_zero] at k1
  have l1:1<xs.length:=by rw [hx];decide
  obtain ⟨a1,r1,w1⟩:=(Rdr.w (tn EM)) (k1.trans (List.getElem?_eq_getElem l1)) (fb LY hy hw (i:=1) rfl (List.getElem?_eq_getElem l1));have k2:DataW.trod enc Tryz.prog w base spare held m 30 (List.take (Tryz.prog.cellsOf 30) (List.drop 4 [c0,c1,c2,c3,c4,c5,c6,c7,c8,c9,c10,c11,c12]))=xs[2]? :=hf 2 _ rfl
  have z2:Tryz.prog.cellsOf 30=3:=by kernel_rfl
  simp only [z2,List.drop_succ_cons,List.drop_zero,List.take_succ_cons,List.take_zero] at k2
  have l2:2<xs.length:=by rw [hx];decide
  obtain ⟨a2,r2,w2⟩:=ss (k2.trans (List.getElem?_eq_getElem l2)) (fb LY hy hw (i:=2) rfl (List.getElem?_eq_getElem l2));have k3:DataW.trod enc Tryz.prog w base spare held m 30 (List.take (Tryz.prog.cellsOf 30) (List.drop 7 [c0,c1,c2,c3,c4,c5,c6,c7,c8,c9,c10,c11,c12]))=xs[3]? :=hf 3 _ rfl
  have z3:Tryz.prog.cellsOf 30=3:=by kernel_rfl
  simp only [z3,List.drop_succ_cons,List.drop_zero,List.take_succ_cons,List.take_zero] at k3
  have l3:3<xs.length:=by rw [hx];decide
  obtain ⟨a3,r3,w3⟩:=ss (k3.trans (List.getElem?_eq_getElem l3)) (fb LY hy hw (i:=3) rfl (List.getElem?_eq_getElem l3));have k4:DataW.trod enc Tryz.prog w base spare held m 30 (List.take (Tryz.prog.cellsOf 30) (List.drop 10 [c0,c1,c2,c3,c4,c5,c6,c7,c8,c9,c10,c11,c12]))=xs[4]? :=hf 4 _ rfl
  have z4:Tryz.prog.cellsOf 30=3:=by kernel_rfl
  simp only [z4,List.drop_succ_cons,List.drop_zero,List.take_succ_cons,List.take_zero] at k4
  have l4:4<xs.length:=by rw [hx];decide
  obtain ⟨a4,r4,w4⟩:=ss (k4.trans (List.getElem?_eq_getElem l4)) (fb LY hy hw (i:=4) rfl (List.getElem?_eq_getElem l4));have e0:[c0,c1,c2]=[.int .i64 a0.Kind,.int .i64 a0.N,.string a0.S]:=r0;simp only [List.cons.injEq,and_true] at e0;obtain ⟨rfl,rfl,rfl⟩:=e0;obtain ⟨rfl, -⟩:=List.cons.inj (show [c3]=[_] from r1);have e2:[c4,c5,c6]=[.int .i64 a2.Kind,.int .i64 a2.N,.string a2.S]:=r2;simp only [List.cons.injEq,and_true] at e2;obtain ⟨rfl,rfl,rfl⟩:=e2;have e3:[c7,c8,c9]=[.int .i64 a3.Kind,.int .i64 a3.N,.string a3.S]:=r3;simp only [List.cons.injEq,and_true] at e3;obtain ⟨rfl,rfl,rfl⟩:=e3;have e4:[c10,c11,c12]=[.int .i64 a4.Kind,.int .i64 a4.N,.string a4.S]:=r4;simp only [List.cons.injEq,and_true] at e4;obtain ⟨rfl,rfl,rfl⟩:=e4;exact ⟨⟨a0,a1,a2,a3,a4⟩,J,⟨w0,w1,w2,w3,w4⟩⟩
def vO (x:Mr):Prop:=(True)∧(bK x.Elements)∧(Lp (fun z82=>xR z82) x.Props)∧(True)
set_option maxRecDepth 100000 in
theorem BV:CO Tryz.prog 84 HF vO:=fun {_ enc w base spare held _ cs y} h hw=>by
 obtain ⟨xs,m, -,hy,hl,hx,hf⟩:=DataW.trod_struct LZ h
 have hc:Tryz.prog.cellsOf 84=4:=by kernel_rfl
 rw [hc] at hl
 match cs,hl,hf with
 | [c0,c1,c2,c3],_,hf=>
  have k0:DataW.trod enc Tryz.prog w base spare held m 4 (List.take (Tryz.prog.cellsOf 4) (List.drop 0 [c0,c1,c2,c3]))=xs[0]? :=hf 0 _ rfl
  have z0:Tryz.prog.cellsOf 4=1:=by kernel_rfl
  simp only [z0,List.drop_succ_cons,List.drop_zero,List.take_succ_cons,List.take_zero] at k0
  have l0:0<xs.length:=by rw [hx];decide
  obtain ⟨a0,r0,w0⟩:=(Rdr.w (BW LP)) (k0.trans (List.getElem?_eq_getElem l0)) (fb LZ hy hw (i:=0) rfl (List.getElem?_eq_getElem l0));have k1:DataW.trod enc Tryz.prog w base spare held m 3 (List.take (Tryz.prog.cellsOf 3) (List.drop 1 [c0,c1,c2,c3]))=xs[1]? :=hf 1 _ rfl
  have z1:Tryz.prog.cellsOf 3=1:=by kernel_rfl
  simp only [z1,List.drop_succ_cons,List.drop_zero,List.take_succ_cons,List.take_zero] at k1
  have l1:1<xs.length:=by rw [hx];decide
  obtain ⟨a1,r1,w1⟩:=(Rdr.w (tn EM)) (k1.trans (List.getElem?_eq_getElem l1)) (fb LZ hy hw (i:=1) rfl (List.getElem?_eq_getElem l1));have k2:DataW.trod enc Tryz.prog w base spare held m 82 (List.take (Tryz.prog.cellsOf 82) (List.drop 2 [c0,c1,c2,c3]))=xs[2]? :=hf 2 _ rfl
  have z2:Tryz.prog.cellsOf 82=1:=by kernel_rfl
  simp only [z2,List.drop_succ_cons,List.drop_zero,List.take_succ_cons,List.take_zero] at k2
  have l2:2<xs.length:=by rw [hx];decide
  obtain ⟨a2,r2,w2⟩:=(HC LO V (by decide) (of_decide_eq_true V) C4) (k2.trans (List.getElem?_eq_getElem l2)) (fb LZ hy hw (i:=2) rfl (List.getElem?_eq_getElem l2));have k3:DataW.trod enc Tryz.prog w base spare held m 4 (List.take (Tryz.prog.cellsOf 4) (List.drop 3 [c0,c1,c2,c3]))=xs[3]? :=hf 3 _ rfl
  have z3:Tryz.prog.cellsOf 4=1:=by kernel_rfl
  simp only [z3,List.drop_succ_cons,List.drop_zero,List.take_succ_cons,List.take_zero] at k3
  have l3:3<xs.length:=by rw [hx];decide
  obtain ⟨a3,r3,w3⟩:=(Rdr.w (BW LP)) (k3.trans (List.getElem?_eq_getElem l3)) (fb LZ hy hw (i:=3) rfl (List.getElem?_eq_getElem l3));obtain ⟨rfl, -⟩:=List.cons.inj (show [c0]=[_] from r0);obtain ⟨rfl, -⟩:=List.cons.inj (show [c1]=[_] from r1);obtain ⟨v2,e2,b2⟩:=r2;obtain ⟨rfl, -⟩:=List.cons.inj e2;obtain ⟨A2,q2,rfl,d2⟩:=b2;have b2:SlR kM _ _ (.slice A2 a2.length q2) a2:=⟨_,_,rfl,d2⟩;obtain ⟨rfl, -⟩:=List.cons.inj (show [c3]=[_] from r3);exact ⟨⟨a0,a1,a2,a3⟩,⟨_,_,_,J,b2⟩,⟨w0,w1,w2,w3⟩⟩
set_option maxRecDepth 100000 in
theorem Ka {H:Type}{enc:TypeId×Value→H}{W:World}{r:Reach}{b0:Nat}{base:Nat}{spare:Nat→Bool}{held:Bool}{v:Value}{d:DataW H}{p:List MemPlace}
  (hv:Value.okWide Tryz.prog W r b0 84 v) (h:DataW.Trod enc Tryz.prog W base spare held 84 v d p) (hz:Light Tryz.prog 84 d): ∃(m:Mr) (Aq_0:Option Addr) (nq_0 cq_0:Nat),v=.agg #[.bool m.Array,.int .i64 m.Elements,I Aq_0 nq_0 cq_0,.bool m.Shut]∧(vO m)∧(pc kM (I Aq_0 nq_0 cq_0) m.Props).ok (fun _=>False) (fun q=>q<W.heap.size) W:=by
 obtain ⟨cs,rfl, -⟩:=okWide_struct LZ hv;obtain ⟨fuel,hf⟩:=h;obtain ⟨m,⟨Aq_0,nq_0,cq_0,e,hq_0⟩,hw⟩:=BV hf hz;obtain ⟨l⟩:=cs;have hx:l=[.bool m.Array,.int .i64 m.Elements,I Aq_0 nq_0 cq_0,.bool m.Shut]:=e;exact ⟨m,Aq_0,nq_0,cq_0,by rw [hx],hw,hq_0⟩
open Go.RowKit
def Sat {ρ:Type}(m:Option ρ)(R:ρ→Prop):Prop:= ∃r,m=some r∧R r
theorem ak {ρ:Type}{x:ρ}{R:ρ→Prop}(h:R x):Sat (some x) R:=⟨x,rfl,h⟩
theorem Sat.eq {ρ:Type}{m:Option ρ}{x:ρ}(h:Sat m (· =x)):m=some x:=by obtain ⟨r,h1,rfl⟩:=h;exact h1
theorem Sat.mono {ρ:Type}{m:Option ρ}{R Q:ρ→Prop}(h:Sat m R)(k: ∀x,R x→Q x):Sat m Q:=by obtain ⟨r,h1,h2⟩:=h;exact ⟨r,h1,k _ h2⟩
theorem Sat.bind {ρ σ:Type}{m:Option σ}{f:σ→Option ρ}{P:σ→Prop}{R:ρ→Prop}(h:Sat m P)(k: ∀x,P x→Sat (f x) R):Sat (m.bind f) R:=by obtain ⟨x,rfl,h2⟩:=h;exact k x h2
theorem aX {ρ:Type}{b:Bool}{x y:Option ρ}{R:ρ→Prop}(h1:b=true→Sat x R)(h2:b=false→Sat y R):Sat (bif b then x else y) R:=by cases b with|true=>exact h1 rfl|false=>exact h2 rfl
theorem bn {ρ:Type}{p:Prop}[Decidable p]{x y:Option ρ}{R:ρ→Prop}(h1:p→Sat x R)(h2: ¬p→Sat y R):Sat (bif decide p then x else y) R:=by
 by_cases h:p
 ·rw [Mu h];exact h1 h
 rw [Mv h];exact h2 h
theorem eH {ρ:Type}{b:Bool}{x y:Option ρ}{R:ρ→Prop}(h1:b=false→Sat x R)(h2:b=true→Sat y R):Sat (bif !b then x else y) R:=by cases b with|true=>exact h2 rfl|false=>exact h1 rfl
theorem aT {ρ:Type}{b:Prop}[Decidable b]{m:Option ρ}{R:ρ→Prop}(h:b)(k:Sat m R):Sat (cR b m) R:=by unfold cR;rw [if_pos h];exact k
theorem bI {α ρ:Type}{xs:List α}{i:Int}{f:α→Option ρ}{R:ρ→Prop}(h0:0≤i)(h1:i<xs.length)(k: ∀x,xs[i.toNat]? =some x→Sat (f x) R):Sat ((bU xs i).bind f) R:=by
 unfold bU;rw [if_neg O,List.getElem?_eq_getElem O];exact k _ (List.getElem?_eq_getElem O)
theorem bs {ρ σ:Type}{x:σ}{f:σ→Option ρ}:(some x).bind f=f x:=Eq.trans rfl rfl
theorem ct {ρ:Type}{x y:ρ}:(bif true then x else y)=x:=Eq.trans rfl rfl
theorem cf {ρ:Type}{x y:ρ}:(bif false then x else y)=y:=Eq.trans rfl rfl
theorem nt:(!true)=false:=Eq.trans rfl rfl
theorem nf:(!false)=true:=Eq.trans rfl rfl
theorem cs {ρ:Type}{b:Bool}{x y:ρ}:(bif b then some x else some y)=some (bif b then x else y):=by cases b<;>rfl
theorem jC {ρ:Type}{b:Prop}[Decidable b]{m:Option ρ}(h:b):cR b m=m:=if_pos h
theorem km {α:Type}{xs:List α}{i:Nat}(h1:i<xs.length):bU xs (i:Int)=some xs[i]:=by
 unfold bU;rw [if_neg O,Int.toNat_natCast,List.getElem?_eq_getElem h1]
theorem rJ {α:Type}: ∀{l:List α} {i:Nat} {a:α},l.Nodup→l[i]? =some a→ ∀x,x∈l.eraseIdx i↔x∈l∧x≠a
 | [],_,_,_,h,_=>by simp at h
 |y::l,0,a,hn,h,x=>by
  simp only [List.getElem?_cons_zero,Option.some.injEq] at h;subst h;rw [List.eraseIdx_cons_zero];obtain ⟨h1, -⟩:=List.nodup_cons.1 hn;constructor
  ·intro hx;exact ⟨by simp [hx],fun e=>h1 (e▸hx)⟩
  rintro ⟨hx,hne⟩;rcases List.mem_cons.1 hx with e|hx
  ·exact absurd e hne
  exact hx
 | y::l,i+1,a,hn,h,x=>by
  simp only [List.getElem?_cons_succ] at h;obtain ⟨h1,h2⟩:=List.nodup_cons.1 hn;rw [List.eraseIdx_cons_succ,List.mem_cons,List.mem_cons,rJ h2 h x];have ha:a∈l:=List.mem_of_getElem? h;constructor
  ·rintro (rfl|⟨h3,h4⟩)
   ·exact ⟨.inl J,fun e=>h1 (e▸ha)⟩
   exact ⟨.inr h3,h4⟩
  rintro ⟨rfl|h3,h4⟩
  ·exact .inl J
  exact .inr ⟨h3,h4⟩
theorem Fe {α ρ:Type}(L:Nat→Int→Option ρ)(l:List α)(p:α→Bool)(bad k:Option ρ)
  (step: ∀m (i:Nat) (h:i<l.length),L (m+1) (i:Int)=bif p l[i] then L m ((i:Int)+1) else bad)
  (fin: ∀m,L (m+1) (l.length:Int)=k) (N:Nat) (hN:l.length<N):L N 0=bif l.all p then k else bad:=by
 have key: ∀m i:Nat,l.length<m+i→i≤l.length→L m (i:Int)=bif (l.drop i).all p then k else bad:=by
  intro m
  induction m with
  |zero=>intro i h1 h2;omega
  | succ m ih=>
   intro i h1 h2;by_cases hi:i<l.length
   ·rw [step m i hi,List.drop_eq_getElem_cons hi,List.all_cons];have h3:=ih (i+1) O hi;rw [show (((i+1:Nat)):Int)=(i:Int)+1 by omega] at h3;rw [h3];cases p l[i]<;>rfl
   have e:i=l.length:=by omega
   subst e;rw [fin,List.drop_length];rfl
 have:=key N 0 O O;simpa using this
theorem Cg {α:Type}(L:Nat→Int→Option Bool)(l:List α)(p:α→Bool)
  (step: ∀m (i:Nat) (h:i<l.length),L (m+1) (i:Int)=bif p l[i] then L m ((i:Int)+1) else some false)
  (fin: ∀m,L (m+1) (l.length:Int)=some true) (N:Nat) (hN:l.length<N):L N 0=some (l.all p):=by
 rw [Fe L l p _ _ step fin N hN];cases l.all p<;>rfl
theorem Gg {α ρ:Type}[DecidableEq α](L:Nat→Int→Option ρ)(a b:List α)(bad k:Option ρ)(hl:a.length=b.length)
  (step: ∀m (i:Nat) (h:i<a.length) (h':i<b.length),L (m+1) (i:Int)=bif decide (a[i]=b[i]) then L m ((i:Int)+1) else bad)
  (fin: ∀m,L (m+1) (a.length:Int)=k) (N:Nat) (hN:a.length<N):L N 0=bif decide (a=b) then k else bad:=by
 have key: ∀m i:Nat,a.length<m+i→i≤a.length→L m (i:Int)=bif decide (a.drop i=b.drop i) then k else bad:=by
  intro m
  induction m with
  |zero=>intro i h1 h2;omega
  | succ m ih=>
   intro i h1 h2;by_cases hi:i<a.length
   ·have hi':i<b.length:=by omega
    rw [step m i hi hi',List.drop_eq_getElem_cons hi,List.drop_eq_getElem_cons hi'];have h3:=ih (i+1) O hi;rw [show (((i+1:Nat)):Int)=(i:Int)+1 by omega] at h3;rw [h3];by_cases e:a[i]=b[i]
    ·rw [Mu e,cond_true,e];by_cases e2:a.drop (i+1)=b.drop (i+1)
     ·rw [Mu e2,e2,Mu rfl]
     rw [Mv e2,Mv (fun h=>e2 (List.cons.inj h).2)]
    rw [Mv e,Mv (fun h=>e (List.cons.inj h).1)];rfl
   have e:i=a.length:=by omega
   subst e;rw [fin,List.drop_length,hl,List.drop_length,Mu rfl];rfl
 have:=key N 0 O O;simpa using this
def Ho {α β:Type}[DecidableEq α](a:α)(b:β):List (α×β)→List (α×β)
 | []=> [(a,b)]
 |p::l=>if p.1=a then (a,b)::l else p::Ho a b l
theorem Hp {α β:Type}[DecidableEq α](L:List (α×β))(a:α)(b:β):CU L a b=Ho a b L:=by
 have key: ∀(L:List (α×β)) (j:Nat),(∃i c,fp a L j=some (i,c)∧j≤i∧L.set (i - j) (a,b)=Ho a b L)∨(fp a L j=none∧L++ [(a,b)]=Ho a b L):=by
  intro L
  induction L with
  |nil=>intro j;exact .inr ⟨J,J⟩
  | cons p l ih=>
   intro j;obtain ⟨x,y⟩:=p;by_cases e:a=x
   ·refine .inl ⟨j,y,by simp [fp,e],Nat.le_refl _,?_⟩;rw [Nat.sub_self];simp [Ho,e]
   have e': ¬x=a:=fun h=>e h.symm
   rcases ih (j+1) with ⟨i,c,h1,h2,h3⟩|⟨h1,h2⟩
   ·refine .inl ⟨i,c,by simp [fp,e,h1],by omega,?_⟩;rw [show i - j=(i - (j+1))+1 by omega,List.set_cons_succ,h3];simp [Ho,e']
   exact .inr ⟨by simp [fp,e,h1],by simp [Ho,e',h2]⟩
 unfold CU;rcases key L 0 with ⟨i,c,h1, -,h3⟩|⟨h1,h2⟩
 ·rw [h1];exact h3
 rw [h1];exact h2
theorem uU {α β:Type}[DecidableEq α](p:α×β)(l:List (α×β))(x:α):lk (p::l) x=if p.1=x then some p.2 else lk l x:=by
 unfold lk;rw [List.find?_cons];by_cases e:p.1=x<;>simp [e]
theorem KB {α β:Type}[DecidableEq α](L:List (α×β))(a:α)(b:β)(x:α):lk (CU L a b) x=if a=x then some b else lk L x:=by
 rw [Hp]
 induction L with
 |nil=>rw [Ho,uU]
 | cons p l ih=>
  unfold Ho;by_cases e:p.1=a
  ·rw [if_pos e,uU,uU,e];by_cases e2:a=x<;>simp [e2]
  rw [if_neg e,uU,uU,ih];by_cases e2:p.1=x
  ·rw [if_pos e2,if_pos e2,if_neg (fun h=>e (by rw [e2,h]))]
  rw [if_neg e2,if_neg e2]
theorem bC {ρ σ:Type}{b:Bool}{x y:Option σ}{f:σ→Option ρ}{P:σ→Prop}{R:ρ→Prop}(h1:b=true→Sat x P)(h2:b=false→Sat y P)(k: ∀z,P z→Sat (f z) R):Sat ((bif b then x else y).bind f) R:=Sat.bind (aX h1 h2) k
def Gl (k:Mn):Prop:=k.Kind=0→0≤k.N∧k.N≤4294967294
def qO (a:Int):Prop:=0≤a∧a≤15∧aM .i64 a 9≠9
theorem JF (N:Nat)(a:Int):Sat (lH N a) fun b=>b=true→qO a:=by
 unfold lH
 refine Sat.bind (P:=fun b=>b=true→0≤a∧a≤15) (bn (fun h=>ak fun h1=>⟨h,of_decide_eq_true h1⟩) fun h=>ak fun h=>by cases h) fun b hb=> ?_
 refine bC (P:=fun c=>c=true→qO a) (fun e=>ak fun h=>⟨(hb e).1,(hb e).2,fun h1=> ?_⟩) (fun _=>ak fun h=>by cases h) fun c hc=>ak hc
 rw [Mu h1] at h;cases h
theorem tt {b:ByteArray}{i:Int}(h0:0≤i)(h1:i<(b.size:Int)):Sat (xe b i) fun x=>0≤x∧x≤255:=by
 have h2:i.toNat<b.size:=by omega
 unfold xe;rw [if_pos h0,getElem?_pos b i.toNat h2];exact ⟨((b[i.toNat]).toNat:Int),J,by omega,by have:=(b[i.toNat]).toNat_lt;omega⟩
theorem Ko (x:Int):0≤IntKind.u8.wrap x∧IntKind.u8.wrap x≤255:=by
 have:IntKind.u8.wrap x=x%256:=by rfl
 omega
theorem yE (N:Nat)(s:ByteArray)(hs:s.size≤10): ∀(m i:Nat) (p:Int),s.size<m+i→i≤s.size→0≤p→p+29≤29*(10:Int) ^ i→Sat (oP N s m p (i:Int)) fun _=>True
 |0,i,p,h,h1,_,_=>by omega
 | m+1,i,p,h,h1,h2,h3=>by
  rw [oP.eq_2]
  have h10:(10:Int) ^ i≤10 ^ 10:=by
   have:(10:Nat) ^ i≤10 ^ 10:=Nat.pow_le_pow_right O O
   exact_mod_cast this
  rw [show (10:Int) ^ 10=10000000000 from rfl] at h10
  refine bn (fun h7=> ?_) fun h7=> ?_
  ·refine (tt O h7).bind fun x hx=> ?_
   refine bC (P:=fun _=>True) (fun _=>ak trivial) (fun _=>(tt O h7).bind fun y _=>ak trivial) fun c _=> ?_
   refine aX (fun _=>ak trivial) fun _=> ?_
   refine aT (by constructor<;>omega) ((tt O h7).bind fun y hy=> ?_);have h8:=Ko (y - 48);rw [show IntKind.i64.wrap (IntKind.u8.wrap (y - 48))=IntKind.u8.wrap (y - 48) from IntWalk.i64_in _ ⟨by omega,by omega⟩];generalize IntKind.u8.wrap (y - 48)=d at h8;refine aT (by constructor<;>omega) (aT (by constructor<;>omega) ?_);exact yE N s hs m (i+1) _ O O O (by rw [Int.pow_succ];omega)
  unfold rt
  exact bn (fun _=>ak trivial) fun _=>ak trivial
theorem Gq (N:Nat)(hN:5000≤N)(s:ByteArray):Sat (qa N s) fun _=>True:=by
 unfold qa;by_cases h10:s.size≤10
 ·cases e:(s.toList==(⟨#[]⟩:ByteArray).toList) with
  |true=>exact ak trivial
  | false=>
   have hs:0<s.size:=by
    rcases Nat.eq_zero_or_pos s.size with h|h
    ·exfalso
     have:s=⟨#[]⟩:=by
      obtain ⟨d⟩:=s;have:d= #[]:=Array.eq_empty_of_size_eq_zero h;rw [this]
     rw [this] at e;rw [beq_self_eq_true] at e;cases e
    exact h
   show Sat (Option.bind (some (decide (10<(s.size:Int)))) _) _;rw [bs,Mv O];show Sat (Option.bind ((xe s 0).bind _) _) _
   refine Sat.bind (P:=fun _=>True) ((tt O O).bind fun x _=>bC (P:=fun _=>True) (fun _=>ak trivial) (fun _=>ak trivial) fun _ _=>ak trivial) fun b _=> ?_
   exact aX (fun _=>ak trivial) fun _=>yE N s h10 N 0 0 O O O (by decide)
 have:(bif s.toList==(⟨#[]⟩:ByteArray).toList then (some true) else (some (decide (10<(s.size:Int)))))=some true:=by
  cases s.toList==(⟨#[]⟩:ByteArray).toList with
  |true=>rfl
  |false=>show some _=_;rw [Mu O]
 rw [this];exact ak trivial
theorem mP (N:Nat)(hN:5000≤N)(k:Mn):Sat (er N k) fun b=>b=true→Gl k:=by
 unfold er
 refine bn (fun h=> ?_) fun h=> ?_
 ·refine bC (P:=fun b=>b=true→0≤k.N) (fun _=>ak fun h=>of_decide_eq_true h) (fun _=>ak fun h=>by cases h) fun b hb=> ?_
  refine bC (P:=fun c=>c=true→Gl k) (fun e=>ak fun h _=>⟨hb e,of_decide_eq_true h⟩) (fun _=>ak fun h=>by cases h) fun c hc=>ak hc
 refine Sat.mono (R:=fun _=>True) ?_ fun _ _ _ h'=>absurd h' h
 refine bn (fun _=> ?_) fun _=> ?_
 ·refine (Gq N hN k.S).bind fun y _=> ?_
  refine bC (P:=fun _=>True) (fun _=>ak trivial) (fun _=>ak trivial) fun b _=> ?_
  exact bC (P:=fun _=>True) (fun _=>ak trivial) (fun _=>ak trivial) fun b _=>ak trivial
 refine bn (fun _=> ?_) fun _=>ak trivial
 exact bC (P:=fun _=>True) (fun _=>ak trivial) (fun _=>ak trivial) fun b _=>ak trivial
theorem HP (N:Nat){a:Int}(h:qO a):lH N a=some true:=by
 unfold lH;rw [Mu h.1,ct,bs,Mu h.2.1,ct,Mv h.2.2];rfl
def keyR (N:Nat)(k:Mn):Prop:=er N k=some true
theorem keyR.b {N:Nat}(hN:5000≤N){k:Mn}(h:keyR N k):Gl k:=by
 obtain ⟨b,h1,h2⟩:=mP N hN k;rw [h] at h1;cases h1;exact h2 J
def JB (N:Nat)(x:Mn×Int):Prop:=keyR N x.1∧qO x.2
def ka (s:Mo):Mn×Int:=(s.Key,s.Attrs)
def Has (t:Mh)(i:Int)(s:Mo):Prop:=0≤i∧t.shapes_[i.toNat]? =some s
theorem Has.lt {t:Mh}{i:Int}{s:Mo}(h:Has t i s):0≤i∧i<t.shapes_.length:=by
 have:=(List.getElem?_eq_some_iff.1 h.2).1;exact ⟨h.1,by have:=h.1;omega⟩
theorem Has.get {t:Mh}{i:Int}{s:Mo}(h:Has t i s):bU t.shapes_ i=some s:=by
 unfold bU;rw [if_neg (by have:=h.1;omega)];exact h.2
theorem Has.one {t:Mh}{i:Int}{s s':Mo}(h:Has t i s)(h':Has t i s'):s=s':=Option.some.inj (h.2.symm.trans h'.2)
def Le (t t':Mh):Prop:= ∀i s,Has t i s→Has t' i s
theorem Le.refl (t:Mh):Le t t:=fun _ _ h=>h
structure TI (N:Nat) (t:Mh):Prop where
 sh: ∀i s,Has t i s→0≤s.Len∧s.Len≤1024∧(0<s.Len→JB N (ka s)∧ ∃u,Has t s.Up u∧u.Len=s.Len - 1)
 nx: ∀k j,lk t.next_ k=some j→ ∃a b,Has t k.up_ a∧Has t j b∧b.Len=a.Len+1∧b.Up=k.up_∧b.Key=k.key_∧b.Attrs=k.attrs_
inductive Row (t:Mh):Int→List (Mn×Int)→Prop
 |nil {i:Int} {s:Mo}:Has t i s→s.Len=0→Row t i []
 |snoc {i:Int} {s:Mo} {l:List (Mn×Int)}:Has t i s→0<s.Len→Row t s.Up l→Row t i (l++ [ka s])
theorem Row.mono {t t':Mh}(h:Le t t'){i:Int}{l:List (Mn×Int)}(r:Row t i l):Row t' i l:=by
 induction r with
 |nil h1 h2=>exact .nil (h _ _ h1) h2
 |snoc h1 h2 _ ih=>exact .snoc (h _ _ h1) h2 ih
theorem Row.has {N:Nat}{t:Mh}(ti:TI N t){i:Int}{l:List (Mn×Int)}(r:Row t i l): ∃s,Has t i s∧s.Len=l.length:=by
 induction r with
 |nil h1 h2=>exact ⟨_,h1,h2⟩
 |snoc h1 h2 _ ih=>
  obtain ⟨u,u1,u2⟩:=ih;obtain ⟨-, -,a3⟩:=ti.sh _ _ h1;obtain ⟨-,u',b1,b2⟩:=a3 h2;have:=u1.one b1;subst this;exact ⟨_,h1,by rw [List.length_append,List.length_singleton];omega⟩
theorem Row.le {N:Nat}{t:Mh}(ti:TI N t){i:Int}{l:List (Mn×Int)}(r:Row t i l):l.length≤1024:=by
 obtain ⟨s,s1,s2⟩:=r.has ti;have:=(ti.sh _ _ s1).2.1;omega
theorem Row.ok {N:Nat}{t:Mh}(ti:TI N t){i:Int}{l:List (Mn×Int)}(r:Row t i l): ∀x∈l,JB N x:=by
 induction r with
 |nil h1 h2=>simp
 |snoc h1 h2 _ ih=>
  intro x hx;rcases List.mem_append.1 hx with hx|hx
  ·exact ih x hx
  rw [List.mem_singleton] at hx;subst hx;exact ((ti.sh _ _ h1).2.2 h2).1
theorem JM (N:Nat)(t:Mh)(i:Int):eF N t i=some (decide (0≤i)&&decide (i<(t.shapes_.length:Int))):=by
 unfold eF;cases decide (0≤i)<;>rfl
theorem Has.has (N:Nat){t:Mh}{i:Int}{s:Mo}(h:Has t i s):eF N t i=some true:=by
 rw [JM,Mu h.lt.1,Mu h.lt.2];rfl
theorem KH (N:Nat){t:Mh}{i:Int}{s:Mo}(h:Has t i s):kx N t i=some (s,true):=by
 unfold kx;rw [h.has N,bs,nt,cf,h.get,bs]
theorem C7 (N:Nat){t:Mh}{i:Int}{s:Mo}(h:Has t i s):eG N t i=some s.Len:=by
 unfold eG;rw [KH N h,bs]
theorem BT (N:Nat){t:Mh}(ti:TI N t)(lf:List (Mn×Int))(hL:lf.length≤1024): ∀(m:Nat) (p11:Int) (p12:List Mo) (l0 rest:List (Mn×Int)),l0.length<m→lf=l0++rest→p12.length=lf.length→Row t p11 l0→
  (p12.drop l0.length).map ka=rest→Sat (im N t m p11 p12 ((l0.length:Int) - 1)) fun l=>l.map ka=lf
 |0,_,_,l0,_,h,_,_,_,_=>by omega
 | m+1,p11,p12,l0,rest,h,h1,h2,h3,h4=>by
  rw [im.eq_2]
  cases h3 with
  |nil h5 h6=>
   rw [Mv (by rw [List.length_nil];omega),cf];exact ak (by rw [h1, ←h4];rfl)
  | @snoc _ s l h5 h6 h7=>
   have e1:((((l++ [ka s]).length:Nat):Int) - 1)=(l.length:Int):=by rw [List.length_append,List.length_singleton];omega
   have e2:lf.length=l.length+1+rest.length:=by rw [h1,List.length_append,List.length_append,List.length_singleton]
   rw [e1,Mu O,ct,h5.get,bs]
   refine bI O O fun x16 _=> ?_
   refine bI O (by rw [List.length_set];omega) fun x17 h8=> ?_
   rw [Int.toNat_natCast,List.getElem?_set_self O] at h8;cases h8;refine aT (by constructor<;>omega) ?_;refine BT N ti lf hL m _ _ l (ka s::rest) (by rw [List.length_append,List.length_singleton] at h;omega) (by rw [h1,Mx];rfl) (by rw [List.length_set];exact h2) h7 ?_;rw [Int.toNat_natCast,List.drop_set,if_neg O,Nat.sub_self,List.drop_eq_getElem_cons (show l.length<p12.length by omega)];rw [List.length_append,List.length_singleton] at h4;rw [List.set_cons_zero,List.map_cons,h4]
theorem AF (N:Nat)(hN:5000≤N){t:Mh}(ti:TI N t){i:Int}{l:List (Mn×Int)}(h:Row t i l):Sat (eE N t i) fun r=>r.map ka=l:=by
 obtain ⟨s,s1,s2⟩:=h.has ti;have:=h.le ti;unfold eE;rw [C7 N s1,bs,s2];refine aT (by constructor<;>omega) (aT (by rw [List.length_replicate];constructor<;>omega) ?_);rw [List.length_replicate,Int.toNat_natCast];refine BT N ti l this N i _ l [] O (by simp) (by simp) h (by simp)
theorem Ac (N:Nat)(y:List Mo)(hy:y.length≤1024): ∀(m i:Nat) (p:List Mn),y.length<m+i→i≤y.length→p=(y.take i).map (·.Key)→Sat (ip N y m p (i:Int)) fun l=>l=y.map (·.Key)
 |0,i,p,h,h1,_=>by omega
 | m+1,i,p,h,h1,h2=>by
  rw [ip.eq_2]
  have hp:p.length≤i:=by rw [h2,List.length_map,List.length_take];omega
  refine bn (fun h7=> ?_) fun h7=> ?_
  ·refine bI O h7 fun x hx=> ?_
   refine aT (by unfold fu;rw [List.length_singleton];omega) (aT (by constructor<;>omega) ?_);refine Ac N y hy m (i+1) _ O O ?_;rw [Int.toNat_natCast] at hx;rw [h2,List.take_add_one,hx,List.map_append];rfl
  exact ak (by rw [h2,List.take_of_length_le O])
theorem DW (N:Nat)(hN:5000≤N){t:Mh}(ti:TI N t){i:Int}{l:List (Mn×Int)}(h:Row t i l):ec N t i=some (l.map (·.1)):=by
 have:=h.le ti;refine Sat.eq ?_;unfold ec
 refine (AF N hN ti h).bind fun r hr=> ?_
 have e:r.length=l.length:=by rw [←hr,List.length_map]
 exact (Ac N r O N 0 [] O O J).mono fun x hx=>by rw [hx, ←hr,List.map_map];rfl
theorem zn (N:Nat)(y:List Mo)(hy:y.length≤1024): ∀(m i:Nat) (p:List Int),y.length<m+i→i≤y.length→p=(y.take i).map (·.Attrs)→Sat (gU N y m p (i:Int)) fun l=>l=y.map (·.Attrs)
 |0,i,p,h,h1,_=>by omega
 | m+1,i,p,h,h1,h2=>by
  rw [gU.eq_2]
  have hp:p.length≤i:=by rw [h2,List.length_map,List.length_take];omega
  refine bn (fun h7=> ?_) fun h7=> ?_
  ·refine bI O h7 fun x hx=> ?_
   refine aT (by unfold fu;rw [List.length_singleton];omega) (aT (by constructor<;>omega) ?_);refine zn N y hy m (i+1) _ O O ?_;rw [Int.toNat_natCast] at hx;rw [h2,List.take_add_one,hx,List.map_append];rfl
  exact ak (by rw [h2,List.take_of_length_le O])
theorem G3 (N:Nat)(hN:5000≤N){t:Mh}(ti:TI N t){i:Int}{l:List (Mn×Int)}(h:Row t i l):fQ N t i=some (l.map (·.2)):=by
 have:=h.le ti;refine Sat.eq ?_;unfold fQ
 refine (AF N hN ti h).bind fun r hr=> ?_
 have e:r.length=l.length:=by rw [←hr,List.length_map]
 exact (zn N r O N 0 [] O O J).mono fun x hx=>by rw [hx, ←hr,List.map_map];rfl
def Js (l:List (Mn×Int))(k:Mn)(r:Int×Int×Bool):Prop:=(r=(0,0,false)∧ ∀x∈l,x.1≠k)∨ ∃n:Nat,r.1=n∧r.2.2=true∧l[n]? =some (k,r.2.1)
theorem Af (N:Nat){t:Mh}(ti:TI N t)(k:Mn): ∀(m:Nat) (i:Int) (s:Mo) (l:List (Mn×Int)),l.length<m→Has t i s→Row t i l→Sat (gS N t k m s.Up s.Key.Kind s.Key.N s.Key.S s.Attrs s.Len) (Js l k)
 |0,i,s,l,h,h1,h2=>by omega
 | m+1,i,s,l,h,h1,h2=>by
  rw [gS.eq_2];have hle:=h2.le ti
  cases h2 with
  |nil h5 h6=>
   have:=h1.one h5;subst this;rw [Mv O,cf];exact ak (.inl ⟨J,by simp⟩)
  | @snoc _ s' l h5 h6 h7=>
   have:=h1.one h5;subst this;rw [List.length_append,List.length_singleton] at h hle;obtain ⟨u,u1,u2⟩:=h7.has ti;obtain ⟨a1,a2,a3⟩:=ti.sh _ _ h1;obtain ⟨b1,u',b2,b3⟩:=a3 h6;have:=u1.one b2;subst this;rw [Mu h6,ct]
   refine bn (fun e=>aT (by constructor<;>omega) (ak (.inr ⟨l.length,by show s.Len - 1=_;omega,rfl,?_⟩))) fun e=> ?_
   ·rw [List.getElem?_append_right (Nat.le_refl _),Nat.sub_self];show some (ka s)=_;rw [show k=s.Key from e.symm];rfl
   rw [u1.get,bs]
   refine (Af N ti k m _ u l O u1 h7).mono fun r hr=> ?_
   rcases hr with ⟨r1,r2⟩|⟨n,r1,r2,r3⟩
   ·refine .inl ⟨r1,fun x hx=> ?_⟩;rcases List.mem_append.1 hx with hx|hx
    ·exact r2 x hx
    rw [List.mem_singleton] at hx;subst hx;exact e
   exact .inr ⟨n,r1,r2,by rw [List.getElem?_append_left (List.getElem?_eq_some_iff.1 r3).1];exact r3⟩
theorem xy (N:Nat)(hN:5000≤N){t:Mh}(ti:TI N t){i:Int}{l:List (Mn×Int)}(h:Row t i l)(k:Mn):Sat (ed N t i k) (Js l k):=by
 obtain ⟨s,s1,s2⟩:=h.has ti;have:=h.le ti;unfold ed;rw [s1.has N,bs,nt,cf,s1.get,bs];exact Af N ti k N i s l O s1 h
theorem wQ (N:Nat){t:Mh}(ti:TI N t)(n:Nat): ∀(m:Nat) (i:Int) (l:List (Mn×Int)),l.length<m→Row t i l→n≤l.length→Sat (gq N (n:Int) t m i) fun r=>Row t r (l.take n)
 |0,i,l,h,h1,h2=>by omega
 | m+1,i,l,h,h1,h2=>by
  obtain ⟨s,s1,s2⟩:=h1.has ti;rw [gq.eq_2,s1.get,bs]
  refine bn (fun h7=> ?_) fun h7=>ak (by rw [List.take_of_length_le O];exact h1)
  rw [bs]
  cases h1 with
  |nil h5 h6=>rw [List.length_nil] at s2;omega
  | @snoc _ s' l h5 h6 h8=>
   have:=s1.one h5;subst this;rw [List.length_append,List.length_singleton] at h s2 h2;rw [List.take_append_of_le_length O];exact wQ N ti n m _ l O h8 O
theorem Ao (N:Nat)(hN:5000≤N){t:Mh}(ti:TI N t){i:Int}{l:List (Mn×Int)}(h:Row t i l)(n:Nat)(h2:n≤l.length):Sat (fC N t i (n:Int)) fun r=>Row t r (l.take n):=by
 have:=h.le ti;unfold fC;exact wQ N ti n N i l O h h2
structure Grow (N:Nat) (t t':Mh) (n:Nat):Prop where
 ti:TI N t'
 le:Le t t'
 num:t'.shapes_.length≤t.shapes_.length+n
def CQ (N:Nat)(t:Mh)(l:List (Mn×Int))(n:Nat)(r:Int×Int×Mh):Prop:=r.2.1=0∧Grow N t r.2.2 n∧Row r.2.2 r.1 l
theorem Has.app {t:Mh}{i:Int}{s x:Mo}{n:List (Mm×Int)}(h:Has t i s):Has ⟨t.shapes_++ [x],n⟩ i s:=
 ⟨h.1,by rw [List.getElem?_append_left (List.getElem?_eq_some_iff.1 h.2).1];exact h.2⟩
theorem DT (N:Nat)(t:Mh)(l:List Mo)(hl: ∀x∈l,JB N (ka x))(lf:List (Mn×Int))(hT:lf.length≤1024)(hb:t.shapes_.length+l.length≤1073741824): ∀(m i:Nat) (p24:Int) (t':Mh) (l0:List (Mn×Int)),l.length<m+i→i≤l.length→TI N t'→Le t t'→t'.shapes_.length=t.shapes_.length+i→Row t' p24 l0→lf=l0++(l.drop i).map ka→Sat (io N l m p24 (i:Int) t'.shapes_ t'.next_) (CQ N t lf l.length)
 |0,i,_,_,_,h,h1,_,_,_,_,_=>by omega
 | m+1,i,p24,t',l0,h,h1,ti,le,h2,h3,h4=>by
  rw [io.eq_2]
  refine bn (fun h7=> ?_) fun h7=>ak ⟨J,⟨ti,le,by show t'.shapes_.length≤_;omega⟩,by rw [h4,List.drop_of_length_le O,List.map_nil,List.append_nil];exact h3⟩
  obtain ⟨a,h3a,h3b⟩:=h3.has ti;rw [km (show i<l.length by omega),bs];rw [h3a.get,bs];obtain ⟨a1,a2,a3⟩:=ti.sh _ _ h3a;have hox:=hl l[i] (List.getElem_mem _);have e4:l.drop i=l[i]::l.drop (i+1):=List.drop_eq_getElem_cons _
  have e5:l0.length+1≤lf.length:=by rw [h4,e4,List.length_append,List.map_cons,List.length_cons];omega
  generalize l[i]=x at*
  have e1:(t'.shapes_++ [(⟨p24,x.Key,x.Attrs,a.Len+1⟩:Mo)]).length=t'.shapes_.length+1:=by rw [List.length_append,List.length_singleton]
  have e2:((((t'.shapes_++ [(⟨p24,x.Key,x.Attrs,a.Len+1⟩:Mo)]).length:Nat):Int) - 1)=(t'.shapes_.length:Int):=by omega
  refine aT (by constructor<;>omega) (aT (by unfold fu;rw [List.length_singleton];omega) (aT (by rw [e2];constructor<;>omega) (aT (by constructor<;>omega) ?_)));rw [e2]
  have hnew:Has ⟨t'.shapes_++ [(⟨p24,x.Key,x.Attrs,a.Len+1⟩:Mo)],CU t'.next_ ⟨p24,x.Key,x.Attrs⟩ (t'.shapes_.length:Int)⟩ (t'.shapes_.length:Int) ⟨p24,x.Key,x.Attrs,a.Len+1⟩:=
   ⟨by omega,by simp⟩
  refine DT N t l hl lf hT hb m (i+1) _ ⟨_,CU t'.next_ ⟨p24,x.Key,x.Attrs⟩ (t'.shapes_.length:Int)⟩ (l0++ [ka x]) O O ⟨?_,?_⟩ (fun j s hs=>(le j s hs).app) (by show (t'.shapes_++_).length=_;omega) (Row.snoc (s:=⟨p24,x.Key,x.Attrs,a.Len+1⟩) hnew (by show 0<a.Len+1;omega) (h3.mono fun j s hs=>hs.app)) (by rw [h4,e4,List.map_cons,Mx];rfl)
  ·intro j s hs;by_cases e:j.toNat<t'.shapes_.length
   ·have hs':Has t' j s:=⟨hs.1,by have:=hs.2;rwa [List.getElem?_append_left e] at this⟩;obtain ⟨b1,b2,b3⟩:=ti.sh _ _ hs';exact ⟨b1,b2,fun h=>let ⟨c1,u,c2,c3⟩:=b3 h;⟨c1,u,c2.app,c3⟩⟩
   have hlt:=hs.lt
   have e3:j=(t'.shapes_.length:Int):=by
    have:(j.toNat:Int)<(t'.shapes_++ [(⟨p24,x.Key,x.Attrs,a.Len+1⟩:Mo)]).length:=by have:=hlt.2;simp only at this;omega
    have:=hlt.1;omega
   subst e3;have:=hs.one hnew;subst this;exact ⟨by show 0≤a.Len+1;omega,by show a.Len+1≤1024;omega,fun _=>⟨hox,a,h3a.app,by show a.Len=a.Len+1 - 1;omega⟩⟩
  intro k j hk;change lk (CU t'.next_ ⟨p24,x.Key,x.Attrs⟩ (t'.shapes_.length:Int)) k=some j at hk;rw [KB] at hk;split at hk
  ·rename_i e
   cases hk;subst e;exact ⟨a,_,h3a.app,hnew,J,J,J,J⟩
  obtain ⟨c,d,c1,c2,c3⟩:=ti.nx k j hk;exact ⟨c,d,c1.app,c2.app,c3⟩
theorem JK (N:Nat)(hN:5000≤N){t:Mh}(ti:TI N t)(at_:Int)(l:List Mo)(hl: ∀x∈l,JB N (ka x))(l0:List (Mn×Int))(hT:l0.length+l.length≤1024)(hb:t.shapes_.length+l.length≤1073741824)(h:Row t at_ l0):Sat (fi N t at_ l) (CQ N t (l0++l.map ka) l.length):=by
 unfold fi;refine aT (by constructor<;>omega) (bn (fun h7=>by omega) fun h7=> ?_);exact DT N t l hl _ (by rw [List.length_append,List.length_map];exact hT) hb N 0 at_ t l0 O O ti (Le.refl t) J h J
theorem Ci (N:Nat)(hN:5000≤N){t:Mh}(ti:TI N t)(n:Nat): ∀(m:Nat) (at_:Int) (l:List Mo) (l0:List (Mn×Int)),l.length<m→l.length≤n→l0.length+l.length≤1024→t.shapes_.length+n≤1073741824→(∀x∈l,JB N (ka x))→Row t at_ l0→Sat (iR N t m at_ l) (CQ N t (l0++l.map ka) n)
 |0,_,_,_,h,_,_,_,_,_=>by omega
 | m +1,at_,l,l0,h,hn,h0,hb,hl,ha=>by
  rw [iR.eq_2]
  have h5:Sat (fi N t at_ l) (CQ N t (l0++l.map ka) n):=(JK N hN ti at_ l hl l0 h0 O ha).mono fun r hr=>⟨hr.1,⟨hr.2.1.ti,hr.2.1.le,by have:=hr.2.1.num;omega⟩,hr.2.2⟩
  refine bn (fun h7=> ?_) fun h7=>h5
  cases l with
  |nil=>rw [List.length_nil] at h7;omega
  | cons x l=>
   rw [show bU (x::l) 0=some x from rfl,bs,bs]
   cases e:lk t.next_ (⟨at_,x.Key,x.Attrs⟩:Mm) with
   |none=>exact h5
   | some j=>
    show Sat (cR _ _) _;refine aT ⟨by decide,by show 1≤l.length+1;omega,Nat.le_refl _⟩ ?_;obtain ⟨c,d,c1,c2,c3,c4,c5,c6⟩:=ti.nx _ _ e
    have e5:(((x::l).drop ((1:Int).toNat)).take ((x::l).length - (1:Int).toNat))=l:=by
     show (l.take (l.length+1 - 1))=l;exact List.take_of_length_le O
    rw [e5]
    have hd:0<d.Len:=by have:=(ti.sh _ _ c1).1;omega
    have hr:Row t j (l0++ [ka x]):=by
     have:=Row.snoc c2 hd (by rw [c4];exact ha)
     rwa [show ka d=ka x by unfold ka;rw [c5,c6]] at this
    rw [List.length_cons] at h hn h0;have:=Ci N hN ti n m j l (l0++ [ka x]) O O (by rw [List.length_append,List.length_singleton];omega) hb (fun z hz=>hl z (List.mem_cons_of_mem _ hz)) hr
    rwa [Mx] at this
theorem C8 (N:Nat)(hN:5000≤N){t:Mh}(ti:TI N t)(at_:Int)(l:List Mo)(hl: ∀x∈l,JB N (ka x))(l0:List (Mn×Int))(hT:l0.length+l.length≤1024)(hb:t.shapes_.length+1024≤1073741824)(ha:Row t at_ l0):Sat (gQ N t at_ l) (CQ N t (l0++l.map ka) 1024):=
 Ci N hN ti 1024 N at_ l l0 O O hT hb hl ha
theorem zo (N:Nat)(hN:5000≤N){t:Mh}{i:Int}{s:Mo}(h:Has t i s)(k:Mn)(a:Int):Sat (eO N t i k a) fun r=>(r=0∧keyR N k∧qO a)∨(r≠0∧ ¬(keyR N k∧qO a)):=by
 unfold eO;rw [h.has N,bs,nt,cf];obtain ⟨b,h1, -⟩:=mP N hN k;obtain ⟨c,h2,h3⟩:=JF N a;rw [h1,bs,h2]
 cases b with
 |false=>exact ak (.inr ⟨by decide,fun h=>by have:=h.1;unfold keyR at this;rw [h1] at this;cases this⟩)
 |true=>
  cases c with
  |false=>exact ak (.inr ⟨by decide,fun h=>by have:=HP N h.2;rw [h2] at this;cases this⟩)
  |true=>exact ak (.inl ⟨rfl,h1,h3 rfl⟩)
theorem HO (N:Nat)(hN:5000≤N){t:Mh}(ti:TI N t)(hb:t.shapes_.length+1024≤1073741824){i:Int}{l:List (Mn×Int)}(h:Row t i l)(k:Mn)(a:Int)(hk: ∀x∈l,x.1≠k)(hl:l.length<1024):Sat (iT N t i k a) fun r=>(keyR N k∧qO a∧CQ N t (l++ [(k,a)]) 1024 r)∨(¬(keyR N k∧qO a)∧r.2.1≠0∧r.2.2=t):=by
 obtain ⟨s,s1,s2⟩:=h.has ti;unfold iT
 refine (zo N hN s1 k a).bind fun y hy=> ?_
 rcases hy with ⟨rfl,h1,h2⟩|⟨h1,h2⟩
 ·show Sat (Option.bind _ _) _
  refine (xy N hN ti h k).bind fun z hz=> ?_
  rcases hz with ⟨rfl, -⟩|⟨n,z1,z2,z3⟩
  ·show Sat (Option.bind _ _) _;rw [C7 N s1,bs]
   refine bn (fun _=>by omega) fun _=> ?_
   refine (C8 N hN ti i [(⟨0,k,a,0⟩:Mo)] (fun x hx=>by rw [List.mem_singleton] at hx;subst hx;exact ⟨h1,h2⟩) l (by rw [List.length_singleton];omega) hb h).bind fun r hr=>ak (.inl ⟨h1,h2,hr⟩)
  exact absurd J (hk _ (List.mem_of_getElem? z3))
 rw [Mv h1,nf,ct];exact ak (.inr ⟨h2,h1,J⟩)
theorem FB (N:Nat)(hN:5000≤N){t:Mh}(ti:TI N t)(hb:t.shapes_.length+1024≤1073741824){i:Int}{l:List (Mn×Int)}(h:Row t i l)(hd:(l.map (·.1)).Nodup)(k:Mn)(a:Int)(n:Nat)(a0:Int)(hn:l[n]? =some (k,a0)):Sat (gT N t i k a) fun r=>(qO a∧CQ N t (l.set n (k,a)) 1024 r)∨(¬qO a∧r.2.1≠0∧r.2.2=t):=by
 obtain ⟨s,s1,s2⟩:=h.has ti;have hle:=h.le ti;have hlt:=(List.getElem?_eq_some_iff.1 hn).1;unfold gT
 refine (zo N hN s1 k a).bind fun y hy=> ?_
 rcases hy with ⟨rfl,h1,h2⟩|⟨h1,h2⟩
 ·show Sat (Option.bind _ _) _
  refine (xy N hN ti h k).bind fun z hz=> ?_
  rcases hz with ⟨rfl,z1⟩|⟨n',z1,z2,z3⟩
  ·exact absurd J (z1 _ (List.mem_of_getElem? hn))
  have:n'=n:=by
   have g1:(l.map (·.1))[n']? =some k:=by rw [List.getElem?_map,z3];rfl
   have g2:(l.map (·.1))[n]? =some k:=by rw [List.getElem?_map,hn];rfl
   exact (List.getElem?_inj (by rw [List.length_map];exact (List.getElem?_eq_some_iff.1 z3).1) hd).1 (g1.trans g2.symm)
  subst this;rw [z2];show Sat (Option.bind _ _) _
  refine (AF N hN ti h).bind fun r hr=> ?_
  have e:r.length=l.length:=by rw [←hr,List.length_map]
  rw [z1,Int.toNat_natCast];refine aT ⟨by omega,by omega⟩ ?_
  refine bI O (by rw [List.length_drop];omega) fun x hx=> ?_
  refine (Ao N hN ti h n' O).bind fun b hbf=> ?_
  have hx2:ka x=(k,z.2.1):=by
   rw [show (0:Int).toNat=0 from rfl,List.getElem?_drop,Nat.add_zero] at hx
   have:(r.map ka)[n']? =some (ka x):=by rw [List.getElem?_map,hx];rfl
   rw [hr,z3] at this;exact (Option.some.inj this).symm
  have hxk:x.Key=k:=congrArg Prod.fst hx2
  have hm: ∀q∈List.set (List.drop n' r) ((0:Int).toNat) (⟨x.Up,(⟨x.Key.Kind,x.Key.N,x.Key.S⟩:Mn),a,x.Len⟩:Mo),JB N (ka q):=fun q hq=>by
   rcases List.mem_or_eq_of_mem_set hq with hq|rfl
   ·exact h.ok ti _ (by rw [←hr];exact List.mem_map_of_mem (List.mem_of_mem_drop hq))
   exact ⟨by show keyR N x.Key;rw [hxk];exact h1,h2⟩
  have e6:(List.set (List.drop n' r) ((0:Int).toNat) (⟨x.Up,(⟨x.Key.Kind,x.Key.N,x.Key.S⟩:Mn),a,x.Len⟩:Mo)).map ka=(l.drop n').set 0 (k,a):=by
   rw [show (0:Int).toNat=0 from rfl,List.map_set,List.map_drop,hr];show (l.drop n').set 0 (x.Key,a)=_;rw [hxk]
  refine (C8 N hN ti b _ hm (l.take n') (by rw [List.length_set,List.length_drop,List.length_take];omega) hb hbf).bind fun q hq=>ak (.inl ⟨h2,?_⟩)
  rw [e6] at hq
  have e7:l.take n'++(l.drop n').set 0 (k,a)=l.set n' (k,a):=by
   rw [List.drop_eq_getElem_cons hlt,List.set_cons_zero,List.set_eq_take_append_cons_drop,if_pos hlt]
  rw [e7] at hq;exact hq
 rw [Mv h1,nf,ct];exact ak (.inr ⟨fun h3=>h2 ⟨(h.ok ti _ (List.mem_of_getElem? hn)).1,h3⟩,h1,J⟩)
theorem CS (N:Nat)(hN:5000≤N){t:Mh}(ti:TI N t)(hb:t.shapes_.length+1024≤1073741824){i:Int}{l:List (Mn×Int)}(h:Row t i l)(hd:(l.map (·.1)).Nodup)(k:Mn)(n:Nat)(a0:Int)(hn:l[n]? =some (k,a0)):Sat (eW N t i k) (CQ N t (l.eraseIdx n) 1024):=by
 obtain ⟨s,s1,s2⟩:=h.has ti;have hle:=h.le ti;have hlt:=(List.getElem?_eq_some_iff.1 hn).1;unfold eW
 refine (zo N hN s1 k 0).bind fun y hy=> ?_
 rcases hy with ⟨rfl,h1,h2⟩|⟨h1,h2⟩
 ·show Sat (Option.bind _ _) _
  refine (xy N hN ti h k).bind fun z hz=> ?_
  rcases hz with ⟨rfl,z1⟩|⟨n',z1,z2,z3⟩
  ·exact absurd J (z1 _ (List.mem_of_getElem? hn))
  have:n'=n:=by
   have g1:(l.map (·.1))[n']? =some k:=by rw [List.getElem?_map,z3];rfl
   have g2:(l.map (·.1))[n]? =some k:=by rw [List.getElem?_map,hn];rfl
   exact (List.getElem?_inj (by rw [List.length_map];exact (List.getElem?_eq_some_iff.1 z3).1) hd).1 (g1.trans g2.symm)
  subst this;rw [z2,z1];show Sat (Option.bind _ _) _
  refine (Ao N hN ti h n' O).bind fun b hbf=> ?_
  refine (AF N hN ti h).bind fun r hr=> ?_
  have e:r.length=l.length:=by rw [←hr,List.length_map]
  have e8:((n':Int)+1).toNat=n'+1:=by omega
  refine aT (by constructor<;>omega) (aT ⟨by omega,by omega,Nat.le_refl _⟩ ?_);rw [e8];have e6:((r.drop (n'+1)).take (r.length - (n'+1)))=r.drop (n'+1):=List.take_of_length_le (by rw [List.length_drop];omega);rw [e6]
  refine (C8 N hN ti b _ (fun q hq=>h.ok ti _ (by rw [←hr];exact List.mem_map_of_mem (List.mem_of_mem_drop hq))) (l.take n') (by rw [List.length_drop,List.length_take];omega) hb hbf).bind fun q hq=>ak ?_
  rw [List.map_drop,hr, ←List.eraseIdx_eq_take_drop_succ] at hq;exact hq
 exact absurd ⟨(h.ok ti _ (List.mem_of_getElem? hn)).1,by decide,by decide,by decide⟩ h2
theorem GH (N:Nat)(a b:Int):Sat (lj N a b) fun _=>True:=by
 unfold lj qh;rw [bs,bs,Mu rfl,Mu rfl];simp only [nt,cf]
 exact aX (fun _=>ak trivial) fun _=>aX (fun _=>ak trivial) fun _=>ak trivial
theorem uK (N:Nat)(a b:Mn):Sat (kk N a b) fun _=>True:=by
 unfold kk
 refine bC (P:=fun _=>True) (fun _=>ak trivial) (fun _=>ak trivial) fun c _=> ?_
 exact aX (fun _=>(GH N _ _).bind fun _ _=>ak trivial) fun _=>(GH N _ _).bind fun _ _=>ak trivial
theorem nG {a b:Int}(h0:0≤a)(h1:a≤b)(h2:b≤100000):IntKind.i64.wrap ((IntKind.u64.wrap (a+b)).fdiv (2 ^ 1))=(a+b) / 2:=by
 rw [IntWalk.u64_in _ ⟨by omega,by omega⟩,Int.fdiv_eq_ediv_of_nonneg _ O,show (2:Int) ^ 1=2 from rfl,IntWalk.i64_in _ ⟨by omega,by omega⟩]
section
variable (N:Nat) (hN:20000≤N) (n:Nat) (hn:n≤6000)
include hN hn
theorem Gp (kb:List Mn→Int→Option (List Mn))(a b p5:Int)(ha:0≤a)(h5:p5<n)(hk: ∀l:List Mn,l.length=n→Sat (kb l (p5+1)) fun r=>r.length=n):
  ∀(m:Nat) (l:List Mn) (j:Int),j<m→a≤j→j≤p5→l.length=n→Sat (cW N kb a b p5 m l j) fun r=>r.length=n
 |0,l,j,h,h1,_,_=>by have:=hN;omega
 | m+1,l,j,h,h1,h2,h3=>by
  rw [cW.eq_2]
  refine bC (P:=fun c=>c=true→a<j) (fun e=> ?_) (fun _=>ak fun h=>by cases h) fun c hc=>aX (fun e=> ?_) fun _=> ?_
  ·have h4:=of_decide_eq_true e
   refine bI O O fun x _=>aT (by constructor<;>omega) (bI O O fun y _=>(uK N _ _).bind fun z _=>ak fun _=>h4)
  ·have h4:=hc e;refine aT (by constructor<;>omega) (aT (by constructor<;>omega) (bI O O fun x _=>bI O O fun y _=>bI O O fun z _=>bI O (by rw [List.length_set];omega) fun u _=>aT (by constructor<;>omega) ?_));exact Gp kb a b p5 ha h5 hk m _ _ O O O (by rw [List.length_set,List.length_set];exact h3)
  unfold dR;exact aT (by constructor<;>omega) (hk l h3)
theorem DX (a b:Int)(ha:0≤a)(hb:b≤n): ∀(m:Nat) (l:List Mn) (i:Int),(b - i).toNat<m→a≤i→l.length=n→Sat (cg N a b m l i) fun r=>r.length=n
 |0,l,i,h,h1,h2=>by omega
 |m+1,l,i,h,h1,h2=>by
  rw [cg.eq_2]
  refine bn (fun h3=> ?_) fun _=>ak h2
  exact Gp N hN n hn _ a b i ha O (fun l' hl'=>DX a b ha hb m l' (i+1) O O hl') N l i O h1 O h2
theorem Gn (l:List Mn)(a b:Int)(ha:0≤a)(ha':a≤n)(hb:b≤n)(hl:l.length=n):Sat (cj N l a b) fun r=>r.length=n:=by
 unfold cj;exact aT (by constructor<;>omega) (DX N hN n hn a b ha hb N l _ O O hl)
theorem zX (x y k:Int)(hx:0≤x)(hy:0≤y)(hx2:x+k≤n)(hy2:y+k≤n): ∀(m:Nat) (l:List Mn) (i:Int),k - i<m→0≤i→i≤k→l.length=n→Sat (du N x y k m l i) fun r=>r.length=n
 |0,l,i,h,h1,h3,h2=>by have:=hN;omega
 |m+1,l,i,h,h1,h3,h2=>by
  rw [du.eq_2]
  refine bn (fun h4=> ?_) fun _=>ak h2
  refine aT (by constructor<;>omega) (aT (by constructor<;>omega) (aT (by constructor<;>omega) (bI O O fun _ _=>aT (by constructor<;>omega) (bI O O fun _ _=>bI O O fun _ _=>bI O (by rw [List.length_set];omega) fun _ _=>aT (by constructor<;>omega) ?_))));exact zX x y k hx hy hx2 hy2 m _ _ O O O (by rw [List.length_set,List.length_set];exact h2)
theorem Az (l:List Mn)(x y k:Int)(hk:0≤k)(hx:0≤x)(hy:0≤y)(hx2:x+k≤n)(hy2:y+k≤n)(hl:l.length=n):Sat (cV N l x y k) fun r=>r.length=n:=
 zX N hN n hn x y k hx hy hx2 hy2 N l 0 O O O hl
theorem yc (q:Int): ∀(m:Nat) (l:List Mn) (i j:Int),i+j<m→0<i→0<j→i≤q→q+j≤n→l.length=n→Sat (df N q m l i j) fun r=>r.length=n
 |0,l,i,j,h,h1,h2,h3,h4,h5=>by omega
 | m+1,l,i,j,h,h1,h2,h3,h4,h5=>by
  rw [df.eq_2]
  refine eH (fun e=>bn (fun h6=> ?_) fun h6=> ?_) fun e=> ?_
  ·refine aT (by constructor<;>omega) ((Az N hN n hn l _ _ _ O O O O O h5).bind fun r hr=>aT (by constructor<;>omega) ?_);exact yc q m r _ _ O O h2 O h4 hr
  ·have:=of_decide_eq_false e;refine aT (by constructor<;>omega) (aT (by constructor<;>omega) (aT (by constructor<;>omega) ((Az N hN n hn l _ _ _ O O O O O h5).bind fun r hr=>aT (by constructor<;>omega) ?_)));exact yc q m r _ _ O h1 O h3 O hr
  have:=of_decide_eq_true e;unfold fB;exact aT (by constructor<;>omega) ((Az N hN n hn l _ _ _ O O O O O h5).bind fun r hr=>ak hr)
theorem Ju (l:List Mn)(a q b:Int)(h0:0≤a)(h1:a<q)(h2:q<b)(h3:b≤n)(hl:l.length=n):Sat (d4 N l a q b) fun r=>r.length=n:=by
 unfold d4;exact aT (by constructor<;>omega) (aT (by constructor<;>omega) (yc N hN n hn q N l _ _ O O O O O hl))
section
variable (kb:List Mn→Int→Int→Int→Option (List Mn)) (a q b:Int) (h0:0≤a) (h1:a<q) (h2:q<b) (h3:b≤n)
variable (hk: ∀(l:List Mn) (x y z:Int),a≤x→x<y→y<z→z≤b→z - x<b - a→l.length=n→Sat (kb l x y z) fun r=>r.length=n)
include h0 h1 h2 h3
theorem DF (p7:Int)(h7:p7≤b)(h7':q≤p7): ∀(m:Nat) (l:List Mn) (k:Int),(p7 - k).toNat<m→a≤k→l.length=n→Sat (dp N kb a q b p7 m l k) fun r=>r.length=n
 |0,l,k,h,h4,h5=>by have:=hN;omega
 |m+1,l,k,h,h4,h5=>by
  rw [dp.eq_2];refine aT (by constructor<;>omega) (bn (fun h6=> ?_) fun _=>ak h5);refine aT (by constructor<;>omega) (aT (by constructor<;>omega) (bI O O fun _ _=>bI O O fun _ _=>bI O O fun _ _=>bI O (by rw [List.length_set];omega) fun _ _=>aT (by constructor<;>omega) ?_));exact DF p7 h7 h7' m _ _ O O (by rw [List.length_set,List.length_set];exact h5)
theorem CW (l:List Mn)(hl:l.length=n): ∀(m:Nat) (i j:Int),j - i<m→q≤i→i≤j→j≤b→Sat (cz N kb a q b l m i j) fun r=>r.length=n
 |0,i,j,h,h4,h5,h6=>by omega
 |m+1,i,j,h,h4,h5,h6=>by
  rw [cz.eq_2]
  refine bn (fun h7=> ?_) fun _=>DF N hN n hn kb a q b h0 h1 h2 h3 i O h4 N l a O O hl
  rw [nG O O O];refine aT (by constructor<;>omega) (bI O O fun _ _=>bI O O fun _ _=>(uK N _ _).bind fun _ _=>aX (fun _=>aT (by constructor<;>omega) ?_) fun _=> ?_)
  ·exact CW l hl m _ _ O O O h6
  exact CW l hl m _ _ O h4 O O
theorem DE (p34:Int)(h7:a≤p34): ∀(m:Nat) (l:List Mn) (k:Int),k<m→0≤k→k≤q→l.length=n→Sat (dn N kb a q b p34 m l k) fun r=>r.length=n
 |0,l,k,h,h4,h5,h6=>by have:=hN;have:=h1;omega
 |m+1,l,k,h,h4,h5,h6=>by
  rw [dn.eq_2]
  refine bn (fun h8=> ?_) fun _=>ak h6
  refine aT (by constructor<;>omega) (aT (by constructor<;>omega) (bI O O fun _ _=>bI O O fun _ _=>bI O O fun _ _=>bI O (by rw [List.length_set];omega) fun _ _=>aT (by constructor<;>omega) ?_));exact DE p34 h7 m _ _ O O O (by rw [List.length_set,List.length_set];exact h6)
theorem Ay (l:List Mn)(hl:l.length=n): ∀(m:Nat) (i j:Int),j - i<m→a≤i→i≤j→j≤q→Sat (cL N kb a q b l m i j) fun r=>r.length=n
 |0,i,j,h,h4,h5,h6=>by omega
 |m+1,i,j,h,h4,h5,h6=>by
  rw [cL.eq_2]
  refine bn (fun h7=> ?_) fun _=>DE N hN n hn kb a q b h0 h1 h2 h3 i h4 N l q O O O hl
  rw [nG O O O];refine aT (by constructor<;>omega) (bI O O fun _ _=>bI O O fun _ _=>(uK N _ _).bind fun _ _=>eH (fun _=>aT (by constructor<;>omega) ?_) fun _=> ?_)
  ·exact Ay l hl m _ _ O O O h6
  exact Ay l hl m _ _ O h4 O O
include hk
theorem DG (p:Int)(hp:p≤q)(hp2:(a+b) / 2+q - b≤p)(hp3:a≤p)(l:List Mn)(hl:l.length=n):Sat (cM N kb b a q p l) fun r=>r.length=n:=by
 have:=hN;unfold cM;rw [nG O O O]
 refine bC (P:=fun c=>c=true→(a+b) / 2<(a+b) / 2+q - p∧(a+b) / 2+q - p<b) (fun e=>ak fun e2=>⟨of_decide_eq_true e,of_decide_eq_true e2⟩) (fun _=>ak fun h=>by cases h) fun c hc=>aX (fun e=> ?_) fun _=>ak hl
 obtain ⟨h4,h5⟩:=hc e
 exact (hk l _ _ _ O h4 h5 O O hl).bind fun r hr=>ak hr
theorem DH (p:Int)(hp:p≤q)(hp2:(a+b) / 2+q - b≤p)(hp3:a≤p)(l:List Mn)(hl:l.length=n):Sat (cN N kb a b p q l) fun r=>r.length=n:=by
 unfold cN;rw [nG O O O]
 refine bC (P:=fun c=>c=true→a<p∧p<(a+b) / 2) (fun e=>ak fun e2=>⟨of_decide_eq_true e,of_decide_eq_true e2⟩) (fun _=>ak fun h=>by cases h) fun c hc=>aX (fun e=> ?_) fun _=>DG N hN n hn kb a q b h0 h1 h2 h3 hk p hp hp2 hp3 l hl
 obtain ⟨h4,h5⟩:=hc e
 exact (hk l _ _ _ O h4 h5 O O hl).bind fun r hr=>DG N hN n hn kb a q b h0 h1 h2 h3 hk p hp hp2 hp3 r hr
theorem Hs (p:Int)(hp:p≤q)(hp2:(a+b) / 2+q - b≤p)(hp3:a≤p)(l:List Mn)(hl:l.length=n):Sat (dq N kb a q b l p) fun r=>r.length=n:=by
 unfold dq;rw [nG O O O];refine aT (by constructor<;>omega) (bC (P:=fun c=>c=true→p<q∧q<(a+b) / 2+q - p) (fun e=>ak fun e2=>⟨of_decide_eq_true e,of_decide_eq_true e2⟩) (fun _=>ak fun h=>by cases h) fun c hc=>aX (fun e=> ?_) fun _=>DH N hN n hn kb a q b h0 h1 h2 h3 hk p hp hp2 hp3 l hl);obtain ⟨h4,h5⟩:=hc e
 exact (Ju N hN n hn l _ _ _ O h4 h5 O hl).bind fun r hr=>DH N hN n hn kb a q b h0 h1 h2 h3 hk p hp hp2 hp3 r hr
theorem xp (l:List Mn)(hl:l.length=n): ∀(m:Nat) (i j:Int),j - i<m→a≤i→(a+b) / 2+q - b≤i→i≤j→j≤q→j≤(a+b) / 2∨q≤(a+b) / 2→Sat (cK N kb a q b l m i j) fun r=>r.length=n
 |0,i,j,h,h4,h4',h5,h6,h7=>by omega
 |m+1,i,j,h,h4,h4',h5,h6,h7=>by
  rw [cK.eq_2]
  refine bn (fun h8=> ?_) fun _=>Hs N hN n hn kb a q b h0 h1 h2 h3 hk i O h4' h4 l hl
  rw [nG (a:=a) (b:=b) O O O,nG (a:=i) (b:=j) O O O];refine aT (by constructor<;>omega) (aT (by constructor<;>omega) (bI O O fun _ _=>bI O O fun _ _=>(uK N _ _).bind fun _ _=>eH (fun _=>aT (by constructor<;>omega) ?_) fun _=> ?_))
  ·exact xp l hl m _ _ O O O O h6 h7
  exact xp l hl m _ _ O h4 h4' O O O
theorem Ht (l:List Mn)(hl:l.length=n):Sat (dt N kb a q b l) fun r=>r.length=n:=by
 unfold dt dr;rw [nG O O O];refine aT (by constructor<;>omega) (aT (by constructor<;>omega) (bn (fun h4=> ?_) fun h4=> ?_))
 ·exact aT (by constructor<;>omega) (aT (by constructor<;>omega) (xp N hN n hn kb a q b h0 h1 h2 h3 hk l hl N _ _ O O O O O O))
 exact aT (by constructor<;>omega) (xp N hN n hn kb a q b h0 h1 h2 h3 hk l hl N _ _ O O O O O O)
end
theorem Jd: ∀(m:Nat) (l:List Mn) (a q b:Int),b - a<m→0≤a→a<q→q<b→b≤n→l.length=n→Sat (aQ N m l a q b) fun r=>r.length=n
 |0,l,a,q,b,h,h0,h1,h2,h3,h4=>by omega
 |m+1,l,a,q,b,h,h0,h1,h2,h3,h4=>by
  have hk: ∀(l:List Mn) (x y z:Int),a≤x→x<y→y<z→z≤b→z - x<b - a→l.length=n→Sat (aQ N m l x y z) fun r=>r.length=n:=fun l x y z g1 g2 g3 g4 g5 g6=>Jd m l x y z O O g2 g3 O g6
  rw [gM];refine aT (by constructor<;>omega) (bn (fun _=>CW N hN n hn _ a q b h0 h1 h2 h3 l h4 N q b O O O O) fun _=> ?_);unfold dC;refine aT (by constructor<;>omega) (bn (fun _=>Ay N hN n hn _ a q b h0 h1 h2 h3 l h4 N a q O O O O) fun _=>Ht N hN n hn _ a q b h0 h1 h2 h3 hk l h4)
theorem FP (l:List Mn)(a q b:Int)(h0:0≤a)(h1:a<q)(h2:q<b)(h3:b≤n)(h4:l.length=n):Sat (bY N l a q b) fun r=>r.length=n:=
 Jd N hN n hn N l a q b O h0 h1 h2 h3 h4
theorem BN (kb:List Mn→Int→Option (List Mn))(z:Int)(hz:0<z)(hz2:z≤n)(hk: ∀l:List Mn,l.length=n→Sat (kb l (z*2)) fun r=>r.length=n): ∀(m:Nat) (l:List Mn) (a b:Int),(n:Int) - a<m→0≤a→a≤n→b=a+2*z→l.length=n→Sat (dK N kb n z m l a b) fun r=>r.length=n
 |0,l,a,b,h,h0,h1,h2,h3=>by omega
 | m+1,l,a,b,h,h0,h1,h2,h3=>by
  rw [dK.eq_2]
  refine bn (fun h4=> ?_) fun h4=> ?_
  ·refine aT (by constructor<;>omega) ((FP N hN n hn l _ _ _ h0 O O h4 h3).bind fun r hr=>aT (by constructor<;>omega) (aT (by constructor<;>omega) ?_));exact BN kb z hz hz2 hk m r _ _ O O h4 J hr
  unfold fe dL;refine aT (by constructor<;>omega) (bn (fun h5=> ?_) fun _=>aT (by constructor<;>omega) (hk l h3))
  exact (FP N hN n hn l _ _ _ h0 O h5 O h3).bind fun r hr=>aT (by constructor<;>omega) (hk r hr)
theorem BO: ∀(m:Nat) (l:List Mn) (z:Int),((n:Int) - z).toNat<m→0<z→l.length=n→Sat (bM N n m l z) fun r=>r.length=n
 |0,l,z,h,h0,h1=>by omega
 |m+1,l,z,h,h0,h1=>by
  rw [bM.eq_2]
  refine bn (fun h4=> ?_) fun h4=>ak h1
  exact aT (by constructor<;>omega) (BN N hN n hn _ z h0 O (fun l' hl'=>BO m l' (z*2) O O hl') N l 0 _ O O O O h1)
theorem DI: ∀(m:Nat) (l:List Mn) (a b:Int),(n:Int) - a<m→0≤a→a≤n→b=a+20→l.length=n→Sat (dT N n m l a b) fun r=>r.length=n
 |0,l,a,b,h,h0,h1,h2,h3=>by omega
 | m+1,l,a,b,h,h0,h1,h2,h3=>by
  rw [dT.eq_2]
  refine bn (fun h4=> ?_) fun h4=> ?_
  ·refine (Gn N hN n hn l a b h0 h1 h4 h3).bind fun r hr=>aT (by constructor<;>omega) ?_
   exact DI m r _ _ O O h4 J hr
  unfold fA
  exact (Gn N hN n hn l a n h0 h1 O h3).bind fun r hr=>BO N hN n hn N r 20 O O hr
end
theorem Hw (N:Nat)(hN:20000≤N)(l:List Mn)(hl:l.length≤6000):Sat (dU N l) fun r=>r.length=l.length:=by
 unfold dU fM
 exact (DI N hN l.length hl N l 0 20 O O O O J).bind fun r hr=>ak hr
theorem sE (N:Nat)(hN:20000≤N)(a:List Mn)(ha:a.length≤6000): ∀(m i:Nat) (p:List Mn),a.length<m+i→i≤a.length→p.length≤i→Sat (kA N a m p (i:Int)) fun r=>r.length≤6000
 |0,i,p,h,h1,h2=>by omega
 | m+1,i,p,h,h1,h2=>by
  rw [kA.eq_2]
  refine bn (fun h4=> ?_) fun h4=> ?_
  ·refine bI O h4 fun x _=>(mP N O x).bind fun b _=> ?_
   unfold oO
   refine aX (fun _=>aT (by unfold fu;rw [List.length_singleton];omega) (aT (by constructor<;>omega) ?_)) fun _=>aT (by constructor<;>omega) ?_
   ·exact sE N hN a ha m (i+1) _ O O (by rw [List.length_append,List.length_singleton];omega)
   exact sE N hN a ha m (i+1) _ O O O
  unfold rq
  exact (Hw N hN p O).bind fun r hr=>ak O
theorem Ab (N:Nat)(hN:20000≤N)(a:List Mn)(ha:a.length≤6000):Sat (nH N a) fun r=>r.length≤6000:=
 sE N hN a ha N 0 [] O O (by simp)
end
section
open Go.RowKit
def pO (x:Mg):Prop:= -9223372036854775808≤x.N∧x.N≤9223372036854775807
theorem qt:pO ⟨0,0,⟨#[]⟩⟩:=⟨by decide,by decide⟩
structure goodC (c:Mb):Prop where
 sl:c.Slots.length≤5000
 ml:c.More.length≤5000
 sv: ∀x∈c.Slots,pO x
 mv: ∀x∈c.More,pO x
theorem Jg:goodC ⟨0,0,0,0,[],[]⟩:=⟨by decide,by decide,by simp,by simp⟩
theorem vl (N:Nat){c:Mb}(h:goodC c):fZ N c=some c:=by
 have h1: ∀l:List Mg,l.length≤5000→jU N l=some l:=fun l hl=>by
  unfold jU;rw [jC (by unfold fu;simp;omega),List.nil_append]
 unfold fZ;rw [h1 _ h.sl,bs,h1 _ h.ml,bs]
theorem Ih (N:Nat)(x:Mg):Sat (ii N x) fun _=>True:=by
 unfold ii iP
 refine bn (fun _=>bC (P:=fun _=>True) (fun _=>ak trivial) (fun _=>ak trivial) fun _ _=>ak trivial) fun _=>eH (fun _=>ak trivial) fun _=> ?_
 have hj: ∀p:Bool,Sat (bif p then some (decide (1≤x.N)) else ((bif decide (x.N=0) then (some (decide (0≤x.Kind))) else (some false)).bind fun b14=>(bif b14 then (some (decide (x.Kind≤9))) else (some false)).bind fun b15=>some b15)) fun _=>True:=fun p=>
  aX (fun _=>ak trivial) fun _=>bC (P:=fun _=>True) (fun _=>ak trivial) (fun _=>ak trivial) fun _ _=>bC (P:=fun _=>True) (fun _=>ak trivial) (fun _=>ak trivial) fun _ _=>ak trivial
 refine bn (fun _=>bC (P:=fun _=>True) (fun _=>ak trivial) (fun _=>ak trivial) fun _ _=>ak trivial) fun _=> ?_
 refine bn (fun _=>bC (P:=fun _=>True) (fun _=>ak trivial) (fun _=>ak trivial) fun _ _=>ak trivial) fun _=> ?_
 exact bn (fun _=>hj _) fun _=>bn (fun _=>hj _) fun _=>hj _
def K5 (r:Option Exit×Unit):Prop:=r.1=none∨r.1=some Exit.ret
theorem DR (N:Nat)(c:Mb)(x:Bool×Mg):Sat (kj (fun x st=>db N c x st) x (none,())) fun r=>K5 r.2∧(r.1=true→r.2=(none,())):=by
 obtain ⟨y,hy, -⟩:=Ih N x.2;unfold kj db;simp only [hy,bs]
 cases y with
 |true=>exact ⟨_,rfl,.inl rfl,fun _=>rfl⟩
 |false=>exact ⟨_,rfl,.inr rfl,fun h=>by cases h⟩
theorem CL (N:Nat)(c:Mb)(hc:c.More.length≤5000): ∀(m i:Nat),c.More.length<m+i→i≤c.More.length→Sat (jr N (kj (fun x st=>db N c x st)) c m (i:Int) (none,())) K5
 |0,i,h,h1=>by omega
 |m+1,i,h,h1=>by
  rw [jr.eq_2]
  refine bn (fun h2=>bI O h2 fun x _=> ?_) fun _=>ak (.inl J)
  refine bC (P:=fun _=>True) (fun _=>bC (P:=fun _=>True) (fun _=>ak trivial) (fun _=>ak trivial) fun _ _=>ak trivial) (fun _=>ak trivial) fun b _=> ?_
  refine (DR N c (b,x)).bind fun y hy=>eH (fun _=>ak hy.1) fun e=> ?_
  rw [hy.2 e];exact aT (by constructor<;>omega) (CL N c hc m (i+1) O O)
theorem Ap (N:Nat)(hN:20000≤N)(c:Mb)(hs:c.Slots.length≤5000)(hc:c.More.length≤5000): ∀(m i:Nat),c.Slots.length<m+i→i≤c.Slots.length→Sat (kq N (kj (fun x st=>db N c x st)) c m (i:Int) (none,())) K5
 |0,i,h,h1=>by omega
 |m+1,i,h,h1=>by
  rw [kq.eq_2]
  refine bn (fun h2=>bI O h2 fun x _=> ?_) fun _=>CL N c hc N 0 O O
  refine (DR N c (true,x)).bind fun y hy=>eH (fun _=>ak hy.1) fun e=> ?_
  rw [hy.2 e];exact aT (by constructor<;>omega) (Ap N hN c hs hc m (i+1) O O)
theorem FR (N:Nat)(c:Mb)(hk:c.Kind=1∨c.Kind=2∨c.Kind=5):Sat (eK N c) fun _=>True:=by
 unfold eK
 have h1:mV N c.Kind=some (decide (c.Kind=1∨c.Kind=2)):=by
  unfold mV fY;rcases hk with h|h|h<;>rw [h]<;>rfl
 have hor: ∀x k,Sat (fw N x k) fun _=>True:=fun x k=>by
  unfold fw
  exact bC (P:=fun _=>True) (fun _=>ak trivial) (fun _=>ak trivial) fun _ _=>ak trivial
 rw [h1,bs]
 refine bC (P:=fun _=>True) (fun _=>ak trivial) (fun _=>bC (P:=fun _=>True) (fun _=>ak trivial) (fun _=>ak trivial) fun _ _=>ak trivial) fun b _=>aX (fun _=> ?_) fun _=> ?_
 ·refine bC (P:=fun b=>b=true→1≤(c.Slots.length:Int)) (fun e=>ak fun _=>of_decide_eq_true e) (fun _=>ak fun h=>by cases h) fun b hb=> ?_
  refine bC (P:=fun _=>True) (fun e=> ?_) (fun _=>ak trivial) fun _ _=>ak trivial
  have:=hb e
  exact bI O O fun x _=>bC (P:=fun _=>True) (fun _=>ak trivial) (fun _=>bI O O fun x _=>ak trivial) fun _ _=>ak trivial
 refine bn (fun _=>ak trivial) fun _=>bC (P:=fun _=>True) (fun _=>ak trivial) (fun _=>ak trivial) fun _ _=>aX (fun _=>ak trivial) fun _=>bn (fun _=> ?_) fun _=>ak trivial
 refine bC (P:=fun b=>b=true→(c.Slots.length:Int)=2) (fun e=> ?_) (fun _=>ak fun h=>by cases h) fun b hb=> ?_
 ·have:=of_decide_eq_true e
  exact bI O O fun x _=>(hor _ _).bind fun _ _=>ak fun _=>this
 refine bC (P:=fun _=>True) (fun e=> ?_) (fun _=>ak trivial) fun _ _=>ak trivial
 have:=hb e
 exact bI O O fun x _=>(hor _ _).bind fun _ _=>ak trivial
theorem Ce (N:Nat)(k:Int)(l:List Mg)(hk:k=1∨k=2∨k=5):iI N k l=some (decide ((l.length:Int)≤1048576)&&bif decide (k=2) then decide ((l.length:Int)≤4096) else decide ((l.length:Int)=0)):=by
 unfold iI jP;by_cases h:(1048576:Int)<l.length
 ·rw [Mu h,ct,Mv (show¬(l.length:Int)≤1048576 by omega)];rfl
 rw [Mv h,cf,Mu (show (l.length:Int)≤1048576 by omega)];rcases hk with rfl|rfl|rfl<;>rfl
theorem FY (N:Nat)(hN:20000≤N)(c:Mb)(hk:c.Kind=1∨c.Kind=2∨c.Kind=5)(hs:c.Slots.length≤5000)(hc:c.More.length≤5000):Sat (dO N c) fun b=>b=true→(0≤c.Flags∧c.Flags≤63)∧(c.Kind=2→c.More.length≤4096)∧(c.Kind=1→c.More=[]):=by
 unfold dO
 refine bC (P:=fun _=>True) (fun _=>ak trivial) (fun _=>ak trivial) fun b5 _=> ?_
 refine bC (P:=fun _=>True) (fun _=>ak trivial) (fun _=>ak trivial) fun b6 _=> ?_
 refine bC (P:=fun b=>b=false→0≤c.Flags) (fun _=>ak fun h=>by cases h) (fun _=>ak fun h=>by have:=of_decide_eq_false h;omega) fun b7 h7=> ?_
 refine bC (P:=fun b=>b=false→0≤c.Flags∧c.Flags≤63) (fun _=>ak fun h=>by cases h) (fun e=>ak fun h=>⟨h7 e,by have:=of_decide_eq_false h;omega⟩) fun b8 h8=> ?_
 refine bC (P:=fun b=>b=false→0≤c.Flags∧c.Flags≤63) (fun _=>ak fun h=>by cases h) (fun e=>bC (P:=fun _=>True) (fun _=>ak trivial) (fun _=>ak trivial) fun _ _=>ak fun _=>h8 e) fun b9 h9=> ?_
 refine aX (fun _=>ak fun h=>by cases h) fun e=> ?_
 show Sat (Option.bind (some ()) _) _;rw [bs]
 refine (Ap N hN c hs hc N 0 O O).bind fun y hy=> ?_
 rcases hy with hy|hy
 ·rw [hy];show Sat (Option.bind _ _) _
  refine (FR N c hk).bind fun z _=> ?_
  rw [Ce N _ _ hk,bs]
  refine bC (P:=fun b=>b=true→(0≤c.Flags∧c.Flags≤63)∧(c.Kind=2→c.More.length≤4096)∧(c.Kind=1→c.More=[])) (fun _=>ak fun h=>⟨h9 e,fun h2=> ?_,fun h2=> ?_⟩) (fun _=>ak fun h=>by cases h) fun b hb=>ak hb
  ·rw [Mu h2,ct,Bool.and_eq_true] at h;have:=of_decide_eq_true h.2;omega
  rw [Mv (show¬c.Kind=2 by omega),cf,Bool.and_eq_true] at h;exact List.eq_nil_of_length_eq_zero (by have:=of_decide_eq_true h.2;omega)
 rw [hy]
 exact ak fun h=>by cases h
def qN (N:Nat)(x:Mg):Prop:=ii N x=some true
def vK (N:Nat)(x:Mg):Prop:=pO x∧qN N x
theorem yz (N:Nat)(k n:Int)(h5:k≠5):ii N ⟨k,n,⟨#[]⟩⟩=(bif decide (k=2) then ((bif decide (n=0) then (some true) else (some (decide (n=1)))).bind fun b6=>some b6) else (bif decide (k=3) then ((bif decide ((-9007199254740992)≤n) then (some (decide (n≤9007199254740992))) else (some false)).bind fun b8=>some b8) else (bif decide (k=6) then (iP N ⟨k,n,⟨#[]⟩⟩ (decide (k=6))) else (bif decide (k=7) then (iP N ⟨k,n,⟨#[]⟩⟩ (decide (k=7))) else (iP N ⟨k,n,⟨#[]⟩⟩ (decide (k=9))))))):=by
 unfold ii;rw [Mv (show¬(⟨k,n,⟨#[]⟩⟩:Mg).Kind=5 from h5),cf,show ((⟨k,n,⟨#[]⟩⟩:Mg).S.toList==(⟨#[]⟩:ByteArray).toList)=true from beq_self_eq_true _,nt,cf]
theorem JE (N:Nat):qN N ⟨0,0,⟨#[]⟩⟩:=by
 unfold qN;rw [yz N 0 0 (by decide)];rfl
theorem xV (N:Nat):vK N ⟨0,0,⟨#[]⟩⟩:=⟨qt,JE N⟩
theorem DQ (N:Nat){n:Int}(h0: -9007199254740992≤n)(h1:n≤9007199254740992):qN N ⟨3,n,⟨#[]⟩⟩:=by
 unfold qN;rw [yz N 3 n (by decide)];show (Option.bind (bif decide (-9007199254740992≤n) then some (decide (n≤9007199254740992)) else some false) _)=_;rw [Mu h0,Mu h1];rfl
theorem Gd (N:Nat){n:Int}(h:1≤n):qN N ⟨9,n,⟨#[]⟩⟩:=by
 unfold qN;rw [yz N 9 n (by decide)];show some (decide (1≤n))=_;rw [Mu h]
structure RC (N:Nat) (c:Mb):Prop where
 kind:c.Kind=1∨c.Kind=2
 sh:0≤c.Shape
 fl:0≤c.Flags∧c.Flags≤63
 age:c.Age=0∨c.Age=1
 sv: ∀x∈c.Slots,qN N x
 mv: ∀x∈c.More,qN N x
 sl:c.Slots.length≤1025
 proto: ∃z,c.Slots[0]? =some z∧(z.Kind=1∨z.Kind=7)
 more:c.More.length≤4096
 plain:c.Kind=1→c.More=[]
theorem Ch (N:Nat)(c:Mb)(b:Bool)(x:Mg)(h:qN N x):kj (fun x st=>db N c x st) (b,x) (none,())=some (true,(none,())):=by
 show Option.map _ (db N c (b,x) ())=_;unfold db;simp only;rw [show ii N x=some true from h];rfl
theorem Cd (N:Nat)(c:Mb)(hc:c.More.length≤5000)(hm: ∀x∈c.More,qN N x): ∀(m i:Nat),c.More.length<m+i→i≤c.More.length→Sat (jr N (kj (fun x st=>db N c x st)) c m (i:Int) (none,())) (· =(none,()))
 |0,i,h,h1=>by omega
 |m+1,i,h,h1=>by
  rw [jr.eq_2]
  refine bn (fun h2=>bI O h2 fun x hx=> ?_) fun _=>ak J
  refine bC (P:=fun _=>True) (fun _=>bC (P:=fun _=>True) (fun _=>ak trivial) (fun _=>ak trivial) fun _ _=>ak trivial) (fun _=>ak trivial) fun b _=> ?_
  rw [Ch N c b x (hm x (List.mem_of_getElem? hx)),bs,nt,cf];exact aT (by constructor<;>omega) (Cd N c hc hm m (i+1) O O)
theorem zY (N:Nat)(hN:20000≤N)(c:Mb)(hs:c.Slots.length≤5000)(hc:c.More.length≤5000)(hv: ∀x∈c.Slots,qN N x)(hm: ∀x∈c.More,qN N x): ∀(m i:Nat),c.Slots.length<m+i→i≤c.Slots.length→Sat (kq N (kj (fun x st=>db N c x st)) c m (i:Int) (none,())) (· =(none,()))
 |0,i,h,h1=>by omega
 |m+1,i,h,h1=>by
  rw [kq.eq_2]
  refine bn (fun h2=>bI O h2 fun x hx=> ?_) fun _=>Cd N c hc hm N 0 O O
  rw [Ch N c true x (hv x (List.mem_of_getElem? hx)),bs,nt,cf];exact aT (by constructor<;>omega) (zY N hN c hs hc hv hm m (i+1) O O)
theorem RC.right {N:Nat}(hN:20000≤N){c:Mb}(h:RC N c):dO N c=some true:=by
 have h0:=h.fl;have h1:=h.sl;have h2:=h.more;have h3:=h.sh;obtain ⟨z,z1,z2⟩:=h.proto;have hl:=(List.getElem?_eq_some_iff.1 z1).1
 have hz:bU c.Slots 0=some z:=by unfold bU;exact z1
 have hk:1≤c.Kind∧c.Kind≤2:=by rcases h.kind with e|e<;>omega
 have hh:mV N c.Kind=some true:=by
  unfold mV fY;rcases h.kind with e|e<;>rw [e]<;>rfl
 have ha:=(zY N hN c O O h.sv h.mv N 0 O O).eq
 have hage:(bif !decide (c.Age=0) then some (!decide (c.Age=1)) else some false:Option Bool)=some false:=by rcases h.age with e|e<;>rw [e]<;>rfl
 have hsl:eK N c=some true:=by
  unfold eK;rw [hh,bs,ct,bs,ct,Mu (show 1≤(c.Slots.length:Int) by omega),ct,Mu (show (c.Slots.length:Int)≤1025 by omega),bs,ct,hz,bs];rcases z2 with e|e
  ·rw [e];rfl
  rw [e];show some (decide (z.Kind=7))=_;rw [e];rfl
 have hmr:iI N c.Kind c.More=some true:=by
  rw [Ce N _ _ (by rcases h.kind with e|e<;>omega),Mu (show (c.More.length:Int)≤1048576 by omega),Bool.true_and];rcases h.kind with e|e
  ·rw [Mv O,cf,h.plain e];rfl
  rw [Mu e,ct,Mu O]
 unfold dO;rw [Mv (show¬c.Kind<1 by omega),cf,Mv (show¬11<c.Kind by omega),bs,cf,Mv (show¬c.Shape<0 by omega),bs,cf,Mv (show¬c.Flags<0 by omega),bs,cf,Mv (show¬63<c.Flags by omega),bs,cf,hage,bs,bs,cf];show Option.bind (ll N c _ _) _=_;rw [show ll N c (kj (fun x st=>db N c x st)) (none,())=some (none,()) from ha,bs];show Option.bind (eK N c) _=_;rw [hsl,bs,ct,hmr];rfl
theorem DD {a:Int}(h0: -9223372036854775808≤a)(h1:a≤9223372036854775807):bK (a.tdiv 2)∧bK (a.tdiv 2 - 1):=by
 have: -4611686018427387904≤a.tdiv 2∧a.tdiv 2≤4611686018427387904:=by
  by_cases h:0≤a
  ·rw [Int.tdiv_eq_ediv_of_nonneg h];omega
  have e:a.tdiv 2= -((-a).tdiv 2):=by rw [Int.neg_tdiv,Int.neg_neg]
  rw [e,Int.tdiv_eq_ediv_of_nonneg O];omega
 unfold bK;omega
def zu (w:Md)(hB:List Mb):Md:=⟨w.spent_,w.config_,(),⟨⟨hB,w.heap_.m_.Old⟩,w.heap_.roots_,w.heap_.pending_,w.heap_.set_⟩,w.shapes_,w.symbols_,w.epoch_,w.serial_,w.sleepers_,w.events_,w.out_⟩
def FT (w:Md)(t:Mh):Md:=⟨w.spent_,w.config_,(),w.heap_,t,w.symbols_,w.epoch_,w.serial_,w.sleepers_,w.events_,w.out_⟩
theorem JC {a:Int}(h:a.tmod 2≠0)(h0:0<a): ∃j:Nat,a=2*j+1∧a.tdiv 2=(j:Int)∧a.tmod 2=1:=by
 rw [Int.tmod_eq_emod_of_nonneg O] at h⊢;rw [Int.tdiv_eq_ediv_of_nonneg O];exact ⟨(a / 2).toNat,by omega,by omega,by omega⟩
theorem AP (j:Nat):(2*(j:Int)+1).tmod 2=1∧(2*(j:Int)+1).tdiv 2=(j:Int):=by
 rw [Int.tmod_eq_emod_of_nonneg O,Int.tdiv_eq_ediv_of_nonneg O];omega
theorem DY (N:Nat)(h:Ma)(hO:h.m_.Old=[])(a:Int)(h0: -9223372036854775808≤a)(h1:a≤9223372036854775807):d8 N h a=some false∨(d8 N h a=some true∧ ∃(j:Nat) (c:Mb),a=2*j+1∧h.m_.Young[j]? =some c):=by
 obtain ⟨t1,t2⟩:=DD h0 h1;unfold d8 cm pS ni jZ;simp only [bs,nf,ct];rw [jC t1];by_cases hp:0<a
 ·by_cases e:a.tmod 2=0
  ·left
   have e2: ¬(a.tdiv 2 - 1<0):=by
    rw [Int.tmod_eq_emod_of_nonneg O] at e;rw [Int.tdiv_eq_ediv_of_nonneg O];omega
   rw [Mu e,ct,jC t1,jC t2,hO,Mu hp,ct,bs];simp [e2,bs]
  obtain ⟨j,j1,j2,j3⟩:=JC e hp;rw [Mv e,cf,Mu hp,ct,bs,j2];by_cases hj:j<h.m_.Young.length
  ·right;rw [Mu O];exact ⟨J,j,h.m_.Young[j],j1,List.getElem?_eq_getElem hj⟩
  left;rw [Mv O];rfl
 left;rw [Mv hp];by_cases e:a.tmod 2=0
 ·rw [Mu e,ct,jC t1,jC t2];rfl
 rw [Mv e,cf];rfl
theorem DZ (N:Nat)(h:Ma)(j:Nat)(hj:j<h.m_.Young.length)(hb:j≤1000000000):d8 N h (2*j+1)=some true:=by
 obtain ⟨t1,t2⟩:=DD (a:=2*(j:Int)+1) O O;obtain ⟨o1,o2⟩:=AP j;unfold d8 cm pS ni jZ;simp only [bs,nf,ct];rw [jC t1,Mv O,cf,Mu O,ct,bs,o2,Mu O];rfl
theorem we (N:Nat)(h:Ma)(j:Nat)(hj:j<h.m_.Young.length)(hb:j≤9223372036854775807):fK N h (2*j+1)=some (.inl (j:Int)):=by
 obtain ⟨o1,o2⟩:=AP j;unfold fK;rw [Mu o1,ct,o2,jC (by constructor<;>omega),km hj,bs]
theorem sD (N:Nat)(x:Mg):jv N x=some (decide (x.Kind=7)||decide (x.Kind=9)):=by
 unfold jv;cases decide (x.Kind=7)<;>rfl
structure Mem (w:Md) (k:Nat):Prop where
 old:w.heap_.m_.Old=[]
 good: ∀x∈w.heap_.m_.Young,goodC x
 len:w.heap_.m_.Young.length≤k
theorem Ed (N:Nat){w:Md}(hg: ∀x∈w.heap_.m_.Young,goodC x){x:Mg}{j:Nat}{c:Mb}(hk:x.Kind=7∨x.Kind=9)(hx:x.N=2*j+1)(hb:j≤1000000000)(hj:w.heap_.m_.Young[j]? =some c):cG N w x=some c:=by
 have hlt:=(List.getElem?_eq_some_iff.1 hj).1;have hc:=hg c (List.mem_of_getElem? hj);unfold cG mn gW;rw [sD,bs,show (decide (x.Kind=7)||decide (x.Kind=9))=true by rcases hk with h|h<;>rw [h]<;>rfl,nt,cf,hx,DZ N _ j hlt hb,bs,nt,cf,we N _ j hlt O,bs];show Option.bind (Option.bind (bU w.heap_.m_.Young (j:Int)) _) _=_;rw [km hlt,bs,(List.getElem?_eq_some_iff.1 hj).2,vl N hc,bs];rfl
theorem CG (N:Nat){w:Md}{k:Nat}(hw:Mem w k)(hk:k≤1000000000){x:Mg}(hx:pO x):Sat (cG N w x) fun c=>goodC c∧(c=⟨0,0,0,0,[],[]⟩∨ ∃j:Nat,x.N=2*j+1∧w.heap_.m_.Young[j]? =some c):=by
 by_cases hl:x.Kind=7∨x.Kind=9
 ·rcases DY N w.heap_ hw.old x.N hx.1 hx.2 with h|⟨-,j,c,h1,h2⟩
  ·refine ⟨⟨0,0,0,0,[],[]⟩,?_,Jg,.inl J⟩;unfold cG mn gW;rw [sD,bs,show (decide (x.Kind=7)||decide (x.Kind=9))=true by rcases hl with h|h<;>rw [h]<;>rfl,nt,cf,h];rfl
  have:=(List.getElem?_eq_some_iff.1 h2).1;exact ⟨c,Ed N hw.good hl h1 (by have:=hw.len;omega) h2,hw.good c (List.mem_of_getElem? h2),.inr ⟨j,h1,h2⟩⟩
 refine ⟨⟨0,0,0,0,[],[]⟩,?_,Jg,.inl J⟩;unfold cG;rw [sD,bs,Mv fun h=>hl (.inl h),Mv fun h=>hl (.inr h)];rfl
theorem DN (N:Nat)(w:Md)(x:Mg)(c:Mb):fR N w x c=bH N w x c:=rfl
theorem Jv (N:Nat){w:Md}{k:Nat}(hw:Mem w k)(hk:k≤1000000000){x:Mg}(hx:pO x){c:Mb}(hc:goodC c)(hr:Sat (dO N c) fun _=>True):Sat (bH N w x c) fun w'=>w'=w∨ ∃(j:Nat) (o:Mb),x.N=2*j+1∧w.heap_.m_.Young[j]? =some o∧dO N c=some true∧w'=zu w (w.heap_.m_.Young.set j ⟨c.Kind,c.Shape,c.Flags,o.Age,c.Slots,c.More⟩):=by
 unfold bH;rw [sD,bs]
 refine aX (fun _=> ?_) fun _=>ak (.inl J)
 unfold lr;rw [show cm N w.heap_=some false from rfl,bs,cf];rcases DY N w.heap_ hw.old x.N hx.1 hx.2 with h|⟨h,j,o,h1,h2⟩
 ·rw [h];exact ak (.inl J)
 have hlt:=(List.getElem?_eq_some_iff.1 h2).1;have:=hw.len;obtain ⟨b,hb, -⟩:=hr;rw [h,bs,nt,cf,hb,bs]
 cases b with
 |false=>exact ak (.inl rfl)
 |true=>
  rw [nt,cf,h1,we N _ j hlt O,bs];show Sat (Option.bind (Option.bind (bU w.heap_.m_.Young (j:Int)) _) _) _;rw [km hlt,bs,(List.getElem?_eq_some_iff.1 h2).2,vl N hc,bs,Mv (by have:=(AP j).1;omega),cf];refine ⟨_,J,.inr ⟨j,o,J,h2,J,?_⟩⟩;unfold zu;simp only [Int.toNat_natCast,List.set_set]
theorem F2 (N:Nat){w:Md}(hg: ∀x∈w.heap_.m_.Young,goodC x){x:Mg}{j:Nat}{o c:Mb}(hk:x.Kind=7)(hx:x.N=2*j+1)(hb:j≤1000000000)(hj:w.heap_.m_.Young[j]? =some o)(hc:goodC c)(hr:dO N c=some true):bH N w x c=some (zu w (w.heap_.m_.Young.set j ⟨c.Kind,c.Shape,c.Flags,o.Age,c.Slots,c.More⟩)):=by
 have hlt:=(List.getElem?_eq_some_iff.1 hj).1;unfold bH lr;rw [sD,bs,Mu hk,Bool.true_or,ct,show cm N w.heap_=some false from rfl,bs,cf,hx,DZ N _ j hlt hb,bs,nt,cf,hr,bs,nt,cf,we N _ j hlt O,bs];show Option.bind (Option.bind (bU w.heap_.m_.Young (j:Int)) _) _=_;rw [km hlt,bs,(List.getElem?_eq_some_iff.1 hj).2,vl N hc,bs,Mv (by have:=(AP j).1;omega),cf];unfold jN zu;simp only [Int.toNat_natCast,List.set_set,bs]
theorem HT (N:Nat){w:Md}{k:Nat}(hw:Mem w k)(hk:k≤1000000000){c:Mb}(hc:goodC c)(hr:Sat (dO N c) fun _=>True):Sat (fk N w c) fun r=>vK N r.1∧(r.2=w∨r.2=zu w (w.heap_.m_.Young++ [⟨c.Kind,c.Shape,c.Flags,0,c.Slots,c.More⟩])):=by
 unfold fk f5;obtain ⟨b,hb, -⟩:=hr;have:=hw.len;rw [show cm N w.heap_=some false from rfl,bs,cf,hb,bs]
 cases b with
 |false=>exact ak ⟨xV N,.inl rfl⟩
 |true=>
  rw [nt,cf,vl N hc,bs];rw [jC (by unfold fu;rw [List.length_singleton];omega),jC (by rw [List.length_append,List.length_singleton];constructor<;>omega),jC (by rw [List.length_append,List.length_singleton];constructor<;>omega),bs];refine ak ⟨?_,.inr J⟩;refine ⟨?_,Gd N (by rw [List.length_append,List.length_singleton];omega)⟩;show pO ⟨9,_,_⟩;constructor
  ·show _≤2*(((w.heap_.m_.Young++_:List Mb).length:Nat):Int) - 1;rw [List.length_append,List.length_singleton];omega
  show 2*(((w.heap_.m_.Young++_:List Mb).length:Nat):Int) - 1≤_;rw [List.length_append,List.length_singleton];omega
structure propV (N:Nat) (p:Me):Prop where
 v:vK N p.Value
 g:pO p.Get
 s:pO p.Set
structure descV (N:Nat) (d:Mi):Prop where
 v:vK N d.Value
 g:pO d.Get
 s:pO d.Set
theorem yo (N:Nat)(k:Mn)(a:Int):propV N ⟨k,a,⟨0,0,⟨#[]⟩⟩,⟨0,0,⟨#[]⟩⟩,⟨0,0,⟨#[]⟩⟩⟩:=⟨xV N,qt,qt⟩
theorem JG:qO 0:=⟨by decide,by decide,by decide⟩
theorem KX:qO 1:=⟨by decide,by decide,by decide⟩
theorem KW:qO 7:=⟨by decide,by decide,by decide⟩
theorem Ak (N:Nat)(d:Mi):Sat (ms N d) fun _=>True:=by
 unfold ms np nm mr bQ
 (repeat' first|exact ak trivial|refine Sat.bind (P:=fun _=>True) ?_ (fun _ _=> ?_)|refine aX (fun _=> ?_) (fun _=> ?_))
theorem IY (N:Nat)(p:Me)(d:Mi):Sat (qf N p d) fun _=>True:=by
 unfold qf bQ mt
 (repeat' first|exact ak trivial|refine Sat.bind (P:=fun _=>True) ?_ (fun _ _=> ?_)|refine aX (fun _=> ?_) (fun _=> ?_))
theorem Fz (N:Nat)(d:Mi):Sat (oS N d) fun _=>True:=by
 unfold oS bQ qe
 repeat' first|exact ak trivial|exact Ak N d|refine Sat.bind (P:=fun _=>True) ?_ (fun _ _=> ?_)|refine aX (fun _=> ?_) (fun _=> ?_)
abbrev Jf (n:Int):Prop:= -9223372036854775808≤n∧n≤9223372036854775807
theorem zd (N:Nat){d:Mi}(hd:descV N d)(a1:Mn)(p27 y29 p31 p32:Int)(p33:ByteArray)(p14 p15:Int)(p16:ByteArray)(p37 p38:Int)(p39:ByteArray)(h1:vK N ⟨p31,p32,p33⟩)(h2:Jf p15)(h3:Jf p38):Sat (jm N d a1 p27 y29 p31 p32 p33 p14 p15 p16 p37 p38 p39) fun r=>propV N r∧r.Key=a1:=by
 unfold jm lu bQ;rw [bs]
 exact aX (fun _=>ak ⟨⟨h1,h3,hd.s⟩,J⟩) fun _=>ak ⟨⟨h1,h3,h2⟩,J⟩
theorem ze (N:Nat){d:Mi}(hd:descV N d)(a1:Mn)(p27 y29 p11 p12:Int)(p13:ByteArray)(p14 p15:Int)(p16:ByteArray)(p31 p32:Int)(p33:ByteArray)(h1:vK N ⟨p31,p32,p33⟩)(h2:Jf p15)(h3:Jf p12):Sat (jn N d a1 p27 y29 p11 p12 p13 p14 p15 p16 p31 p32 p33) fun r=>propV N r∧r.Key=a1:=by
 unfold jn bQ;rw [bs]
 exact aX (fun _=>zd N hd _ _ _ _ _ _ _ _ _ _ _ _ h1 h2 hd.g) fun _=>zd N hd _ _ _ _ _ _ _ _ _ _ _ _ h1 h2 h3
theorem rx (N:Nat){d:Mi}(hd:descV N d)(a1:Mn)(p21 p22:Int)(p23:ByteArray)(p11 p12:Int)(p13:ByteArray)(p14 p15:Int)(p16:ByteArray)(p27:Int)(h1:vK N ⟨p21,p22,p23⟩)(h2:Jf p15)(h3:Jf p12):Sat (jo N d a1 p21 p22 p23 p11 p12 p13 p14 p15 p16 p27) fun r=>propV N r∧r.Key=a1:=by
 unfold jo
 refine (Ak N d).bind fun y _=> ?_
 unfold bQ;rw [bs]
 exact aX (fun _=>ze N hd _ _ _ _ _ _ _ _ _ _ _ _ hd.v h2 h3) fun _=>ze N hd _ _ _ _ _ _ _ _ _ _ _ _ h1 h2 h3
theorem zf (N:Nat){d:Mi}(hd:descV N d){p:Me}(hp:propV N p)(b:Bool)(a1:Mn)(p11 p12:Int)(p13:ByteArray)(p14 p15:Int)(p16:ByteArray)(h2:Jf p15)(h3:Jf p12):Sat (jp N p b d a1 p11 p12 p13 p14 p15 p16) fun r=>propV N r∧r.Key=a1:=by
 unfold jp lv
 refine Sat.bind (P:=fun _=>True) (by repeat' first|exact ak trivial|refine Sat.bind (P:=fun _=>True) ?_ (fun _ _=> ?_)|refine aX (fun _=> ?_) (fun _=> ?_)) fun c _=>aX (fun _=>aX (fun _=> ?_) fun _=> ?_) fun _=>aX (fun _=> ?_) fun _=> ?_
 ·exact rx N hd _ _ _ _ _ _ _ _ _ _ _ hp.v h2 h3
 ·exact rx N hd _ _ _ _ _ _ _ _ _ _ _ hp.v h2 h3
 ·exact rx N hd _ _ _ _ _ _ _ _ _ _ _ (xV N) h2 h3
 exact rx N hd _ _ _ _ _ _ _ _ _ _ _ (xV N) h2 h3
theorem yZ (N:Nat){p:Me}(hp:propV N p)(k:Mn){d:Mi}(hd:descV N d):Sat (lh N p k d) fun r=>propV N r∧r.Key=k:=by
 unfold lh bQ;rw [bs]
 refine Sat.bind (P:=fun _=>True) (by repeat' first|exact ak trivial|refine Sat.bind (P:=fun _=>True) ?_ (fun _ _=> ?_)|refine aX (fun _=> ?_) (fun _=> ?_)) fun b _=>Sat.bind (P:=fun _=>True) (by repeat' first|exact ak trivial|refine Sat.bind (P:=fun _=>True) ?_ (fun _ _=> ?_)|refine aX (fun _=> ?_) (fun _=> ?_)) fun c _=>aX (fun _=> ?_) fun _=> ?_
 ·exact zf N hd hp b k _ _ _ _ _ _ hp.s hp.g
 exact zf N hd hp b k _ _ _ _ _ _ ⟨by decide,by decide⟩ ⟨by decide,by decide⟩
theorem sZ (N:Nat){p:Me}(hp:propV N p)(has ext:Bool)(k:Mn){d:Mi}(hd:descV N d):Sat (ia N p has ext k d) fun r=>propV N r.1∧(r.2=true→r.1.Key=k):=by
 unfold ia sO
 refine eH (fun _=>eH (fun _=>ak ⟨yo N _ _,fun h=>by cases h⟩) fun _=> ?_) fun _=> ?_
 ·exact Sat.bind ((yZ N (yo N _ _) k hd).bind fun y hy=>ak hy) fun y hy=>ak ⟨hy.1,fun _=>hy.2⟩
 refine Sat.bind (P:=fun _=>True) (aX (fun _=>(IY N p d).bind fun _ _=>ak trivial) fun _=>ak trivial) fun b _=>aX (fun _=>ak ⟨yo N _ _,fun h=>by cases h⟩) fun _=> ?_
 exact (yZ N hp k hd).bind fun y hy=>ak ⟨hy.1,fun _=>hy.2⟩
structure ObjC (N:Nat) (t:Mh) (c:Mb) (l:List (Mn×Int)):Prop where
 rc:RC N c
 row:Row t c.Shape l
 num:c.Slots.length=l.length+1
 nd:(l.map (·.1)).Nodup
 noP:aM .i64 c.Flags 16=0
 idx:c.Kind=2→ ∀x∈l,x.1.Kind=0→x.1.N<c.More.length
structure InvC (N i k:Nat) (w:Md) (c:Mb) (l:List (Mn×Int)):Prop where
 mem:Mem w k
 ti:TI N w.shapes_
 tb:w.shapes_.shapes_.length≤k
 at_:w.heap_.m_.Young[i]? =some c
 obj:ObjC N w.shapes_ c l
theorem InvC.good {N i k:Nat}{w:Md}{c:Mb}{l:List (Mn×Int)}(h:InvC N i k w c l):goodC c:=h.mem.good c (List.mem_of_getElem? h.at_)
theorem InvC.lt {N i k:Nat}{w:Md}{c:Mb}{l:List (Mn×Int)}(h:InvC N i k w c l):i<k:=by
 have:=(List.getElem?_eq_some_iff.1 h.at_).1;have:=h.mem.len;omega
section
variable {N:Nat} (hN:20000≤N) {v:Mg} {i:Nat} (hv:v.Kind=7) (hvN:v.N=2*i+1) {k:Nat} (hk:k≤1000000000) {w:Md} {c:Mb} {l:List (Mn×Int)} (h:InvC N i k w c l)
include hN hv hvN hk h
theorem Ja:cG N w v=some c:=by
 have:=hN;exact Ed N h.mem.good (.inl hv) hvN (by have:=h.lt;omega) h.at_
theorem uM:dc N w v=some (.inr ⟨c,w,v⟩):=by
 obtain ⟨z,z1,z2⟩:=h.obj.rc.proto;have hl:=(List.getElem?_eq_some_iff.1 z1).1
 have hg:bU c.Slots 0=some z:=by unfold bU;exact z1
 unfold dc;rw [Mu hv,nt,cf,Ja hN hv hvN hk h,bs,Mv (show¬(c.Slots.length:Int)=0 by omega),cf,hg,bs,bs];rcases z2 with z2|z2<;>rw [z2]<;>rfl
theorem HN:i2 N w v=some (!decide (aM .i64 c.Flags 1=0)):=by
 unfold i2;rw [uM hN hv hvN hk h,bs];rfl
theorem Jx: ∃z,lY N w v=some z∧(z.Kind=1∨z.Kind=7):=by
 obtain ⟨z,z1,z2⟩:=h.obj.rc.proto
 have hg:bU c.Slots 0=some z:=by unfold bU;exact z1
 refine ⟨z,?_,z2⟩;unfold lY;rw [uM hN hv hvN hk h,bs];show Option.bind (bU c.Slots 0) _=_;rw [hg,bs]
theorem KP:gg N w v=some true:=by
 obtain ⟨z,z1,z2⟩:=Jx hN hv hvN hk h;unfold gg;rw [Mu hv,ct,z1,bs];rcases z2 with z2|z2<;>rw [z2]<;>rfl
theorem vI:dy N w v=some (c,decide (c.Kind=2)):=by
 unfold dy;rw [Mu hv,nt,cf,Ja hN hv hvN hk h,bs]
theorem KQ:lE N w v=some (decide (c.Kind=2)):=by
 unfold lE;rw [vI hN hv hvN hk h,bs]
omit hv hvN in
theorem Jb (place:Int)(h0:0≤place)(h1:place≤5000)(key:Mn)(a:Int):Sat (fU N ⟨c,w,v⟩ place key a) fun p=>propV N p∧p.Key=key∧p.Attrs=a:=by
 have:=hN;unfold fU;refine aT (by constructor<;>omega) (bn (fun _=>ak ⟨yo N _ _,J,J⟩) fun h2=>aT (by constructor<;>omega) ?_)
 refine bI O (by show place+1<c.Slots.length;have: ¬(c.Slots.length:Int)≤place+1:=h2;omega) fun x hx=> ?_
 have hx':=h.good.sv x (List.mem_of_getElem? hx)
 refine bn (fun _=>ak ⟨⟨⟨hx',h.obj.rc.sv x (List.mem_of_getElem? hx)⟩,qt,qt⟩,J,J⟩) fun _=> ?_
 refine (CG N h.mem hk hx').bind fun p hp=>bn (fun h3=> ?_) fun _=>ak ⟨yo N _ _,J,J⟩
 exact bI O O fun y hy=>bI O O fun z hz=>ak ⟨⟨xV N,hp.1.sv y (List.mem_of_getElem? hy),hp.1.sv z (List.mem_of_getElem? hz)⟩,J,J⟩
def K7 (N:Nat)(l:List (Mn×Int))(key:Mn)(r:Me×Int×Bool):Prop:=propV N r.1∧qO r.1.Attrs∧((r.2.2=false∧ ∀x∈l,x.1≠key)∨ ∃n:Nat,r.2.1=n∧r.2.2=true∧l[n]? =some (key,r.1.Attrs))
omit hv hvN in
theorem Hq (key:Mn):Sat (cH N ⟨c,w,v⟩ key) (K7 N l key):=by
 unfold cH dg;rw [bs];have hle:=h.obj.row.le h.ti
 refine (xy N O h.ti h.obj.row key).bind fun z hz=> ?_
 rcases hz with ⟨rfl,hz⟩|⟨n,z1,z2,z3⟩
 ·exact ak ⟨yo N _ _,JG,.inl ⟨J,hz⟩⟩
 have hlt:=(List.getElem?_eq_some_iff.1 z3).1;rw [z2];show Sat (Option.bind _ _) _
 refine (Jb hN hk h z.1 O O key z.2.1).bind fun p hp=>ak ⟨hp.1,by rw [hp.2.2];exact (h.obj.row.ok h.ti _ (List.mem_of_getElem? z3)).2,.inr ⟨n,z1,rfl,by rw [hp.2.2];exact z3⟩⟩
theorem HK (key:Mn):Sat (i1 N w v key) fun r=>propV N r.1∧qO r.1.Attrs∧(r.2=true↔key∈l.map (·.1)):=by
 unfold i1;rw [uM hN hv hvN hk h,bs];show Sat (Option.bind (cH N ⟨c,w,v⟩ key) _) _
 refine (Hq hN hk h key).bind fun r hr=>ak ⟨hr.1,hr.2.1,?_⟩
 rcases hr.2.2 with ⟨r1,r2⟩|⟨n,r1,r2,r3⟩
 ·refine ⟨fun e=> ?_,fun e=> ?_⟩
  ·change r.2.2=true at e;rw [r1] at e;cases e
  obtain ⟨x,x1,x2⟩:=List.mem_map.1 e;exact absurd x2 (r2 x x1)
 exact ⟨fun _=>List.mem_map.2 ⟨_,List.mem_of_getElem? r3,J⟩,fun _=>r2⟩
omit hN hv hvN hk h in
theorem EQ (N:Nat)(c:Mb)(hc:c.More.length≤4096):Sat (iJ N c) fun p=>propV N p∧qO p.Attrs:=by
 have hx:vK N ⟨3,(c.More.length:Int),⟨#[]⟩⟩:=⟨⟨by show _≤(c.More.length:Int);omega,by show (c.More.length:Int)≤_;omega⟩,DQ N O O⟩;unfold iJ cQ lw;rw [bs]
 exact eH (fun _=>ak ⟨⟨hx,qt,qt⟩,JG⟩) fun _=>ak ⟨⟨hx,qt,qt⟩,KX⟩
theorem I0 (key:Mn):Sat (kr N w v key) fun r=>propV N r.1∧qO r.1.Attrs:=by
 unfold kr cQ;rw [vI hN hv hvN hk h,bs]
 refine eH (fun _=>ak ⟨yo N _ _,JG⟩) fun _=> ?_
 rw [bs]
 refine bn (fun _=>(EQ N c h.obj.rc.more).bind fun y hy=>ak hy) fun _=> ?_
 refine bC (P:=fun b=>b=true→0≤key.N) (fun e=>(mP N O key).bind fun y hy=>ak fun h=>(hy h (of_decide_eq_true e)).1) (fun _=>ak fun h=>by cases h) fun b hb=> ?_
 refine bC (P:=fun b=>b=true→0≤key.N∧key.N<c.More.length) (fun e=> ?_) (fun _=>ak fun h=>by cases h) fun d hd=>aX (fun e=> ?_) fun _=> ?_
 ·unfold nq
  refine Sat.bind (P:=fun b=>b=true→0≤key.N∧key.N<c.More.length) (bC (P:=fun b=>b=true→0≤key.N∧key.N<c.More.length) (fun e2=> ?_) (fun _=>ak fun h=>by cases h) fun z hz=>ak hz) fun z hz=>ak hz
  have h3:=of_decide_eq_true e2
  exact bI (hb e) h3 fun x _=>ak fun _=>⟨hb e,h3⟩
 ·obtain ⟨h2,h3⟩:=hd e
  exact bI h2 h3 fun x hx=>ak ⟨⟨⟨h.good.mv x (List.mem_of_getElem? hx),h.obj.rc.mv x (List.mem_of_getElem? hx)⟩,qt,qt⟩,KW⟩
 exact (HK hN hv hvN hk h key).bind fun r hr=>ak ⟨hr.1,hr.2.1⟩
theorem Gf (key:Mn):Sat (d7 N w v key) fun r=>propV N r.1∧qO r.1.Attrs:=by
 unfold d7;rw [KQ hN hv hvN hk h,bs]
 exact aX (fun _=>(I0 hN hv hvN hk h key).bind fun r hr=>ak hr) fun _=>(HK hN hv hvN hk h key).bind fun r hr=>ak ⟨hr.1,hr.2.1⟩
omit hv hvN in
theorem yn: ∀(m j:Nat) (p:List Me),l.length<m+j→j≤l.length→p.map (fun x=>(x.Key,x.Attrs))=l.take j→Sat (ky N (l.map (·.1)) (l.map (·.2)) ⟨c,w,v⟩ w m p (l.map (·.1)) (j:Int)) fun r=>r.map (fun x=>(x.Key,x.Attrs))=l
 |0,j,p,h1,h2,_=>by omega
 | m+1,j,p,h1,h2,h3=>by
  have hle:=h.obj.row.le h.ti
  have hp:p.length=j:=by
   have:=congrArg List.length h3;rw [List.length_map,List.length_take] at this;omega
  rw [ky.eq_2]
  refine bn (fun h5=> ?_) fun h5=>ak (by rw [List.length_map] at h5;rw [h3,List.take_of_length_le O])
  rw [List.length_map] at h5
  have hj:j<l.length:=by omega
  have e1:bU (l.map (·.1)) (j:Int)=some l[j].1:=by rw [km (by rw [List.length_map];exact hj),List.getElem_map]
  have e2:bU (l.map (·.2)) (j:Int)=some l[j].2:=by rw [km (by rw [List.length_map];exact hj),List.getElem_map]
  rw [e1,bs,e2,bs]
  refine (Jb hN hk h j O O _ _).bind fun q hq=> ?_
  refine aT (by rw [List.length_singleton];omega) (aT (by constructor<;>omega) ?_);refine yn m (j+1) _ O O ?_;rw [List.map_append,h3,List.take_add_one,List.getElem?_eq_getElem hj];show _++ [(q.Key,q.Attrs)]=_;rw [hq.2.1,hq.2.2];rfl
theorem yr:Sat (fE N w v) fun r=>r.map (fun x=>(x.Key,x.Attrs))=l:=by
 unfold fE;have hle:=h.obj.row.le h.ti;rw [uM hN hv hvN hk h,bs];show Sat (Option.bind (fQ N w.shapes_ c.Shape) _) _;rw [G3 N O h.ti h.obj.row,bs];show Sat (Option.bind (ec N w.shapes_ c.Shape) _) _;rw [DW N O h.ti h.obj.row,bs];exact yn hN hk h N 0 [] O O J
theorem Kx:Sat (nk N w v) fun l=>l.length≤6000:=by
 unfold nk;have hle:=h.obj.row.le h.ti;rw [uM hN hv hvN hk h,bs];show Sat (Option.bind (ec N w.shapes_ c.Shape) _) _;rw [DW N O h.ti h.obj.row,bs]
 exact (Ab N hN _ (by rw [List.length_map];omega)).bind fun r hr=>ak hr
omit hN hv hvN hk h in
theorem ur (N:Nat)(c:Mb)(hc:c.More.length≤4096)(w':Md)(v':Mg): ∀(m j:Nat) (l:List Mn),c.More.length<m+j→j≤c.More.length→l.length≤j→Sat (fG N (kj (fun x st=>gp N w' v' x st)) c m (j:Int) (none,l)) fun r=>r.1=none∧r.2.length≤4096
 |0,j,l,h1,h2,_=>by omega
 | m+1,j,l,h1,h2,h3=>by
  rw [fG.eq_2]
  refine bn (fun h4=>bI O h4 fun x _=>eH (fun _=> ?_) fun _=> ?_) fun _=>ak ⟨J,by show l.length≤4096;omega⟩
  ·have e:kj (fun x st=>gp N w' v' x st) ((j:Int),x) (none,l)=some (true,(none,l++([(⟨0,(j:Int),⟨#[]⟩⟩:Mn)]:List Mn))):=by
    show Option.map _ (gp N w' v' ((j:Int),x) l)=_;unfold gp;simp only;rw [jC (by unfold fu;rw [List.length_singleton];omega)];rfl
   rw [e,bs,nt,cf];exact aT (by constructor<;>omega) (ur N c hc w' v' m (j+1) _ O O (by rw [List.length_append,List.length_singleton];omega))
  exact aT (by constructor<;>omega) (ur N c hc w' v' m (j+1) _ O O O)
omit hv hvN hk h in
theorem zr (y:List Me)(hy:y.length≤1024): ∀(m j:Nat) (l:List Mn),y.length<m+j→j≤y.length→l.length≤4097+j→Sat (mC N y w m (j:Int) l) fun r=>r.length≤6000
 |0,j,l,h1,h2,_=>by omega
 |m+1,j,l,h1,h2,h3=>by
  rw [mC.eq_2]
  refine bn (fun h4=>bI O h4 fun x _=> ?_) fun _=> ?_
  ·exact aT (by unfold fu;rw [List.length_singleton];omega) (aT (by constructor<;>omega) (zr y hy m (j+1) _ O O (by rw [List.length_append,List.length_singleton];omega)))
  unfold pJ
  exact (Ab N hN l O).bind fun r hr=>ak hr
omit hN hv hvN hk h in
theorem Ii {ρ:Type}{n r:Option ρ}{x:Nat→Option ρ}:wP none n r x=n:=rfl
theorem KK:Sat (oX N w v) fun l=>l.length≤6000:=by
 unfold oX kF;have hle:=h.obj.row.le h.ti;rw [vI hN hv hvN hk h,bs]
 refine eH (fun _=>ak (by simp)) fun _=> ?_
 rw [bs]
 refine (ur N c h.obj.rc.more w v N 0 [] (by have:=h.obj.rc.more;omega) O (by simp)).bind fun y hy=> ?_
 rw [hy.1];rw [Ii];have:=hy.2;unfold cQ;rw [bs];refine aT (by unfold fu;rw [List.length_singleton];omega) ((yr hN hv hvN hk h).bind fun q hq=> ?_)
 have e:q.length=l.length:=by rw [←hq,List.length_map]
 exact zr hN q O N 0 _ O O (by rw [List.length_append,List.length_singleton];omega)
theorem Gi:Sat (dF N w v) fun l=>l.length≤6000:=by
 unfold dF;rw [KQ hN hv hvN hk h,bs]
 exact aX (fun _=>(KK hN hv hvN hk h).bind fun r hr=>ak hr) fun _=>(Kx hN hv hvN hk h).bind fun r hr=>ak hr
end
end
section
open Go.RowKit
theorem Gw: ∀f:_root_.Fin 64,aM .i64 (f.val:Int) 16=0→(0≤cp .i64 (f.val:Int) 32∧cp .i64 (f.val:Int) 32≤63)∧aM .i64 (cp .i64 (f.val:Int) 32) 16=0:=by decide+kernel
theorem Fq: ∀f:_root_.Fin 64,aM .i64 (f.val:Int) 16=0→(0≤bw .i64 (f.val:Int) 1∧bw .i64 (f.val:Int) 1≤63)∧aM .i64 (bw .i64 (f.val:Int) 1) 16=0∧aM .i64 (bw .i64 (f.val:Int) 1) 1=0:=by decide+kernel
theorem FS {α:Type}{q:List α}{n:Nat}{a:α}(h:q[n]? =some a):q.set n a=q:=by
 apply List.ext_getElem?;intro j;by_cases e:n=j
 ·subst e;rw [List.getElem?_set_self (List.getElem?_eq_some_iff.1 h).1,h]
 rw [List.getElem?_set_ne e]
theorem qM {w:Md}{k k':Nat}(h:Mem w k)(hk:k≤k'):Mem w k':=⟨h.old,h.good,Nat.le_trans h.len hk⟩
theorem InvC.more {N i k k':Nat}{w:Md}{c:Mb}{l:List (Mn×Int)}(h:InvC N i k w c l)(hk:k≤k'):InvC N i k' w c l:=⟨qM h.mem hk,h.ti,Nat.le_trans h.tb hk,h.at_,h.obj⟩
section
variable {N:Nat} (hN:20000≤N) {v:Mg} {i:Nat} (hv:v.Kind=7) (hvN:v.N=2*i+1)
include hN hv hvN
theorem store {k:Nat}(hk:k≤1000000000){w:Md}{c c':Mb}{l':List (Mn×Int)}(hm:Mem w k)(hti:TI N w.shapes_)(htb:w.shapes_.shapes_.length≤k)(hat:w.heap_.m_.Young[i]? =some c)(hage:c'.Age=c.Age)(hg:goodC c')(ho:ObjC N w.shapes_ c' l'): ∃w',bH N w v c'=some w'∧InvC N i k w' c' l'∧w'.shapes_=w.shapes_:=by
 have hlt:=(List.getElem?_eq_some_iff.1 hat).1;have:=hm.len
 have e:(⟨c'.Kind,c'.Shape,c'.Flags,c.Age,c'.Slots,c'.More⟩:Mb)=c':=by rw [←hage]
 refine ⟨_,F2 N hm.good hv hvN O hat hg (ho.rc.right hN),?_,J⟩;rw [e];refine ⟨⟨hm.old,fun x hx=> ?_,?_⟩,hti,htb,?_,ho⟩
 ·rcases List.mem_or_eq_of_mem_set hx with hx|rfl
  ·exact hm.good x hx
  exact hg
 ·show (w.heap_.m_.Young.set i c').length≤k;rw [List.length_set];exact hm.len
 show (w.heap_.m_.Young.set i c')[i]? =some c';exact List.getElem?_set_self hlt
omit hv hvN in
theorem DJ {k:Nat}(hk:k+1≤1000000000){w:Md}{c:Mb}(hm:Mem w k)(hat:w.heap_.m_.Young[i]? =some c)(hkind:c.Kind=1∨c.Kind=2){c':Mb}{v':Mg}{p:Me}(hp:propV N p){old:Mg}(ho:vK N old):Sat (fT N ⟨c',w,v'⟩ p old) fun r=>vK N r.1∧Mem r.2 (k+1)∧r.2.shapes_=w.shapes_∧r.2.heap_.m_.Young[i]? =some c:=by
 have hlt:=(List.getElem?_eq_some_iff.1 hat).1;unfold fT
 refine bn (fun _=>ak ⟨hp.v,qM hm O,J,hat⟩) fun _=> ?_
 have hgp:goodC ⟨5,0,0,0,[p.Get,p.Set],[]⟩:=⟨by show 2≤5000;decide,by show 0≤5000;decide,fun x hx=>by
  rcases List.mem_cons.1 hx with rfl|hx
  ·exact hp.g
  ·rw [List.mem_singleton] at hx;subst hx;exact hp.s,by simp⟩
 have hrp:Sat (dO N (⟨5,0,0,0,([p.Get,p.Set]:List Mg),[]⟩:Mb)) fun _=>True:=(FY N hN _ (.inr (.inr rfl)) hgp.sl hgp.ml).mono fun _ _=>trivial
 refine bC (P:=fun b=>b=true→ ∃(j:Nat) (o:Mb),old.N=2*j+1∧w.heap_.m_.Young[j]? =some o∧o.Kind=5) (fun _=> ?_) (fun _=>ak fun h=>by cases h) fun b hb=>aX (fun e=> ?_) fun _=> ?_
 ·refine (CG N hm O ho.1).bind fun q hq=>ak fun h=> ?_
  have h5:q.Kind=5:=of_decide_eq_true h;rcases hq.2 with rfl|⟨j,j1,j2⟩
  ·cases h5
  exact ⟨j,q,j1,j2,h5⟩
 ·obtain ⟨j,o,j1,j2,j3⟩:=hb e
  refine (Jv N hm O ho.1 hgp hrp).bind fun w' hw'=>ak ⟨ho,?_⟩
  rcases hw' with rfl|⟨j',o',g1,g2, -,rfl⟩
  ·exact ⟨qM hm O,J,hat⟩
  have:j'=j:=by omega
  subst this;have:o'=o:=Option.some.inj (g2.symm.trans j2);subst this
  have hne:j'≠i:=fun e=>by
   subst e;have:o'=c:=Option.some.inj (g2.symm.trans hat);subst this;rcases hkind with h|h<;>omega
  refine ⟨⟨hm.old,fun x hx=> ?_,?_⟩,J,?_⟩
  ·rcases List.mem_or_eq_of_mem_set hx with hx|rfl
   ·exact hm.good x hx
   exact ⟨hgp.sl,hgp.ml,hgp.sv,hgp.mv⟩
  ·show (w.heap_.m_.Young.set j' _).length≤_;rw [List.length_set];have:=hm.len;omega
  show (w.heap_.m_.Young.set j' _)[i]? =some c;rw [List.getElem?_set_ne hne];exact hat
 refine (HT N hm O hgp hrp).bind fun r hr=>ak ⟨hr.1,?_⟩
 rcases hr.2 with e|e<;>rw [e]
 ·exact ⟨qM hm O,J,hat⟩
 refine ⟨⟨hm.old,fun x hx=> ?_,?_⟩,J,?_⟩
 ·rcases List.mem_append.1 hx with hx|hx
  ·exact hm.good x hx
  rw [List.mem_singleton] at hx;subst hx;exact hgp
 ·show (w.heap_.m_.Young++ [_]).length≤_;rw [List.length_append,List.length_singleton];have:=hm.len;omega
 show (w.heap_.m_.Young++ [_])[i]? =some c;rw [List.getElem?_append_left hlt];exact hat
theorem zc {k:Nat}(hk:k≤1000000000){w:Md}{c c':Mb}{l':List (Mn×Int)}(hm:Mem w k)(hti:TI N w.shapes_)(htb:w.shapes_.shapes_.length≤k)(hat:w.heap_.m_.Young[i]? =some c)(hage:c'.Age=c.Age)(hg:goodC c')(ho:ObjC N w.shapes_ c' l')(b:Bool):Sat (dh N ⟨c',w,v⟩ b) fun r=>InvC N i k r.w_ c' l':=by
 obtain ⟨w',h1,h2, -⟩:=store hN hv hvN hk hm hti htb hat hage hg ho;unfold dh;rw [DN];show Sat (Option.bind (bH N w v c') _) _;rw [h1,bs]
 have e:(!decide (aM .i64 (⟨c',w,v⟩:Ml).Cell.Flags 16=0))=false:=by
  show (!decide (aM .i64 c'.Flags 16=0))=false;rw [Mu ho.noP];rfl
 rw [e];cases b<;>exact ak h2
variable {k:Nat} {w:Md} {c:Mb} {l:List (Mn×Int)} (h:InvC N i k w c l)
include h
theorem Kp (hk:k+1100≤1000000000){p:Me}(hp:propV N p)(hidx:c.Kind=2→p.Key.Kind=0→p.Key.N<c.More.length):Sat (gb N ⟨c,w,v⟩ p) fun r=> ∃c' l',InvC N i (k+1024) r.2.w_ c' l'∧c'.Kind=c.Kind∧c'.More=c.More:=by
 have hle:=h.obj.row.le h.ti
 have hb:w.shapes_.shapes_.length+1024≤1073741824:=by have:=h.tb;omega
 obtain ⟨z,z1,z2⟩:=h.obj.rc.proto;have hrc:=h.obj.rc;have hg:=h.good;unfold gb;show Sat (Option.bind (cH N ⟨c,w,v⟩ p.Key) _) _
 refine (Hq hN O h p.Key).bind fun y hy=> ?_
 obtain ⟨hy1,hy2,hy3⟩:=hy;rcases hy3 with ⟨e1,hno⟩|⟨n,e1,e2,hn⟩
 ·rw [e1];obtain ⟨s,s1,s2⟩:=h.obj.row.has h.ti;show Sat (Option.bind (eG N w.shapes_ c.Shape) _) _;rw [C7 N s1,bs]
  refine bn (fun _=>ak ⟨c,l,h.more O,J,J⟩) fun h3=> ?_
  refine (HO N O h.ti hb h.obj.row p.Key p.Attrs hno O).bind fun r hr=> ?_
  rcases hr with ⟨r1,r2,r3,r4,r5⟩|⟨r1,r2,r3⟩
  ·rw [r3];show Sat (Option.bind _ _) _;have hm1:Mem (FT w r.2.2) k:=⟨h.mem.old,h.mem.good,h.mem.len⟩
   refine (DJ (w:=FT w r.2.2) hN O hm1 h.at_ hrc.kind (c':=⟨c.Kind,r.1,c.Flags,c.Age,c.Slots,c.More⟩) (v':=v) hp (xV N)).bind fun q hq=> ?_
   obtain ⟨q1,q2,q3,q4⟩:=hq;have hsl:=h.obj.num;refine aT (by unfold fu;rw [List.length_singleton];show c.Slots.length+1≤_;omega) ?_;unfold kf
   have hlen:(c.Slots++ [q.1]).length=c.Slots.length+1:=by rw [List.length_append,List.length_singleton]
   have hgc:goodC ⟨c.Kind,r.1,c.Flags,c.Age,c.Slots++ [q.1],c.More⟩:=⟨by show (c.Slots++ [q.1]).length≤5000;omega,hg.ml,fun x hx=>by
    rcases List.mem_append.1 hx with hx|hx
    ·exact hg.sv x hx
    ·rw [List.mem_singleton] at hx;subst hx;exact q1.1,hg.mv⟩
   have hoc:ObjC N q.2.shapes_ ⟨c.Kind,r.1,c.Flags,c.Age,c.Slots++ [q.1],c.More⟩ (l++ [(p.Key,p.Attrs)]):=by
    rw [q3];refine ⟨⟨hrc.kind,?_,hrc.fl,hrc.age,fun x hx=> ?_,hrc.mv,by show (c.Slots++ [q.1]).length≤1025;omega,⟨z,?_,z2⟩,hrc.more,hrc.plain⟩,r5,by show (c.Slots++ [q.1]).length=_;rw [hlen,hsl,List.length_append,List.length_singleton],?_,h.obj.noP,fun hk2 x hx h0=> ?_⟩
    ·obtain ⟨s',s1', -⟩:=r5.has r4.ti;exact s1'.1
    ·rcases List.mem_append.1 hx with hx|hx
     ·exact hrc.sv x hx
     rw [List.mem_singleton] at hx;subst hx;exact q1.2
    ·show (c.Slots++ [q.1])[0]? =some z;rw [List.getElem?_append_left (List.getElem?_eq_some_iff.1 z1).1];exact z1
    ·rw [List.map_append];refine List.nodup_append.2 ⟨h.obj.nd,by simp,fun a ha b hb' e=> ?_⟩;rw [List.map_singleton,List.mem_singleton] at hb';obtain ⟨x,x1,x2⟩:=List.mem_map.1 ha;exact hno x x1 (by rw [x2,e,hb'])
    rcases List.mem_append.1 hx with hx|hx
    ·exact h.obj.idx hk2 x hx h0
    rw [List.mem_singleton] at hx;subst hx;exact hidx hk2 h0
   refine (zc (w:=q.2) hN hv hvN (k:=k+1024) O (qM q2 O) (by rw [q3];exact r4.ti) (by rw [q3];have:=r4.num;have:=h.tb;show r.2.2.shapes_.length≤_;omega) q4 (by rfl) hgc hoc true).bind fun u hu=>ak ⟨_,_,hu,J,J⟩
  rw [Mv r2];refine ak ⟨c,l,?_,J,J⟩;rw [r3];exact h.more O
 rw [e2];have hlt:=(List.getElem?_eq_some_iff.1 hn).1;have hsl:=h.obj.num
 have hj81: ∀(sh:Int) (t':Mh) (l':List (Mn×Int)),Grow N w.shapes_ t' 1024→Row t' sh l'→l'.length=l.length→l'.map (·.1)=l.map (·.1)→Sat (fD N y p ⟨c,w,v⟩ sh t'.shapes_ t'.next_) fun r=> ∃c' l',InvC N i (k+1024) r.2.w_ c' l'∧c'.Kind=c.Kind∧c'.More=c.More:=by
  intro sh t' l' hgr hrow hl1 hl2;unfold fD;rw [e1];refine aT (by constructor<;>omega) (aT (by constructor<;>omega) (bI O (by show (n:Int)+1<c.Slots.length;omega) fun x hx=> ?_));have hxm:x∈c.Slots:=List.mem_of_getElem? hx;have hm1:Mem (FT w t') k:=⟨h.mem.old,h.mem.good,h.mem.len⟩
  refine (DJ (w:=FT w t') hN O hm1 h.at_ hrc.kind (c':=⟨c.Kind,sh,c.Flags,c.Age,c.Slots,c.More⟩) (v':=v) hp ⟨hg.sv x hxm,hrc.sv x hxm⟩).bind fun q hq=> ?_
  obtain ⟨q1,q2,q3,q4⟩:=hq
  refine bI O (by show (n:Int)+1<c.Slots.length;omega) fun x' _=> ?_
  have hlen:(List.set c.Slots (((n:Int)+1).toNat) q.1).length=c.Slots.length:=List.length_set ..
  have hgc:goodC ⟨c.Kind,sh,c.Flags,c.Age,List.set c.Slots (((n:Int)+1).toNat) q.1,c.More⟩:=⟨by show (List.set c.Slots _ q.1).length≤5000;rw [hlen];exact hg.sl,hg.ml,fun x hx=>by
   rcases List.mem_or_eq_of_mem_set hx with hx|rfl
   ·exact hg.sv x hx
   ·exact q1.1,hg.mv⟩
  have hoc:ObjC N q.2.shapes_ ⟨c.Kind,sh,c.Flags,c.Age,List.set c.Slots (((n:Int)+1).toNat) q.1,c.More⟩ l':=by
   rw [q3];refine ⟨⟨hrc.kind,?_,hrc.fl,hrc.age,fun x hx=> ?_,hrc.mv,by show (List.set c.Slots _ q.1).length≤1025;rw [hlen];exact hrc.sl,⟨z,?_,z2⟩,hrc.more,hrc.plain⟩,hrow,by show (List.set c.Slots _ q.1).length=_;rw [hlen,hsl,hl1],by rw [hl2];exact h.obj.nd,h.obj.noP,fun hk2 x hx h0=> ?_⟩
   ·obtain ⟨s',s1', -⟩:=hrow.has hgr.ti;exact s1'.1
   ·rcases List.mem_or_eq_of_mem_set hx with hx|rfl
    ·exact hrc.sv x hx
    exact q1.2
   ·show (List.set c.Slots _ q.1)[0]? =some z;rw [List.getElem?_set_ne O];exact z1
   have:x.1∈l.map (·.1):=by rw [←hl2];exact List.mem_map_of_mem hx
   obtain ⟨x',x1,x2⟩:=List.mem_map.1 this;have:=h.obj.idx hk2 x' x1 (by rw [x2];exact h0);rw [x2] at this;exact this
  refine (zc (w:=q.2) hN hv hvN (k:=k+1024) O (qM q2 O) (by rw [q3];exact hgr.ti) (by rw [q3];have:=hgr.num;have:=h.tb;show t'.shapes_.length≤_;omega) q4 (by rfl) hgc hoc _).bind fun u hu=>ak ⟨_,_,hu,J,J⟩
 show Sat (bif !decide (y.1.Attrs=p.Attrs) then _ else _) _
 refine eH (fun e=> ?_) fun e=> ?_
 ·refine (FB N O h.ti hb h.obj.row h.obj.nd p.Key p.Attrs n y.1.Attrs hn).bind fun r hr=> ?_
  rcases hr with ⟨r1,r3,r4,r5⟩|⟨r1,r2,r3⟩
  ·rw [r3];refine hj81 r.1 r.2.2 _ r4 r5 (by rw [List.length_set]) ?_;rw [List.map_set];refine FS ?_;rw [List.getElem?_map,hn];rfl
  rw [Mv r2];refine ak ⟨c,l,?_,J,J⟩;rw [r3];exact h.more O
 exact hj81 c.Shape w.shapes_ l ⟨h.ti,Le.refl _,by omega⟩ h.obj.row J J
end
end
section
open Go.RowKit
theorem xw (N:Nat):vK N ⟨8,0,⟨#[]⟩⟩:=⟨⟨by decide,by decide⟩,by unfold qN;rw [yz N 8 0 (by decide)];rfl⟩
def After (N i k:Nat)(c:Mb)(w':Md):Prop:= ∃c' l',InvC N i k w' c' l'∧c'.Kind=c.Kind
def AfterM (N i k:Nat)(c:Mb)(w':Md):Prop:= ∃c' l',InvC N i k w' c' l'∧c'.Kind=c.Kind∧c'.More=c.More
theorem AfterM.a {N i k k':Nat}{c:Mb}{w':Md}(h:AfterM N i k c w')(hk:k≤k'):After N i k' c w':=let ⟨c',l',h1,h2,_⟩:=h;⟨c',l',h1.more hk,h2⟩
theorem After.more {N i k k':Nat}{c:Mb}{w':Md}(h:After N i k c w')(hk:k≤k'):After N i k' c w':=let ⟨c',l',h1,h2⟩:=h;⟨c',l',h1.more hk,h2⟩
section
variable {N:Nat} (hN:20000≤N) {v:Mg} {i:Nat} (hv:v.Kind=7) (hvN:v.N=2*i+1) {k:Nat} {w:Md} {c:Mb} {l:List (Mn×Int)} (h:InvC N i k w c l)
include hN hv hvN h
theorem AO (hk:k+1100≤1000000000)(key:Mn){d:Mi}(hd:descV N d)(hidx:c.Kind=2→key.Kind=0→key.N<c.More.length):Sat (gH N w v key d) fun r=>AfterM N i (k+1024) c r.2:=by
 unfold gH;rw [uM hN hv hvN O h,bs];show Sat (Option.bind (er N key) _) _
 refine (mP N O key).bind fun b _=>eH (fun _=>ak ⟨c,l,h.more O,J,J⟩) fun _=> ?_
 show Sat (Option.bind (cH N ⟨c,w,v⟩ key) _) _
 refine (Hq hN O h key).bind fun y hy=> ?_
 refine (sZ N hy.1 _ _ key hd).bind fun p hp=>aX (fun e=> ?_) fun _=>ak ⟨c,l,h.more O,J,J⟩
 have hk2:=hp.2 e
 exact (Kp hN hv hvN h hk hp.1 (by rw [hk2];exact hidx)).bind fun r hr=>ak hr
theorem KU (hk:k+1100≤1000000000)(key:Mn){x:Mg}(hx:vK N x)(a:Int)(hidx:c.Kind=2→key.Kind=0→key.N<c.More.length):Sat (oL N w v key x a) fun r=>AfterM N i (k+1024) c r.2:=by
 unfold oL;rw [uM hN hv hvN O h,bs];show Sat (Option.bind (er N key) _) _
 refine (mP N O key).bind fun b _=>bC (P:=fun _=>True) (fun _=>ak trivial) (fun _=>ak trivial) fun _ _=>bC (P:=fun _=>True) (fun _=>ak trivial) (fun _=>ak trivial) fun _ _=>aX (fun _=>ak ⟨c,l,h.more O,J,J⟩) fun _=> ?_
 exact (Kp hN hv hvN h hk (p:=⟨key,a,x,⟨0,0,⟨#[]⟩⟩,⟨0,0,⟨#[]⟩⟩⟩) ⟨hx,qt,qt⟩ hidx).bind fun r hr=>ak hr
theorem DP (hk:k+1100≤1000000000)(key:Mn):Sat (jh N w v key) fun r=> ∃c' l',InvC N i (k+1024) r.2 c' l'∧c'.Kind=c.Kind∧c'.More=c.More∧((l'=l∧((∀x∈l,x.1≠key)∨ ∃a,(key,a)∈l∧aM .i64 a 4=0))∨ ∃n a,l[n]? =some (key,a)∧l'=l.eraseIdx n):=by
 have hle:=h.obj.row.le h.ti
 have hb:w.shapes_.shapes_.length+1024≤1073741824:=by have:=h.tb;omega
 obtain ⟨z,z1,z2⟩:=h.obj.rc.proto;have hrc:=h.obj.rc;have hg:=h.good;have hsl:=h.obj.num;unfold jh;rw [uM hN hv hvN O h,bs];show Sat (Option.bind (cH N ⟨c,w,v⟩ key) _) _
 refine (Hq hN O h key).bind fun y hy=> ?_
 obtain ⟨hy1,hy2,hy3⟩:=hy;rcases hy3 with ⟨e1,hno⟩|⟨n,e1,e2,hn⟩
 ·rw [e1];exact ak ⟨c,l,h.more O,J,J,.inl ⟨J,.inl hno⟩⟩
 have hlt:=(List.getElem?_eq_some_iff.1 hn).1;rw [e2]
 refine bn (fun h4=>ak ⟨c,l,h.more O,J,J,.inl ⟨J,.inr ⟨_,List.mem_of_getElem? hn,h4⟩⟩⟩) fun _=> ?_
 show Sat (Option.bind (eW N w.shapes_ c.Shape key) _) _
 refine (CS N O h.ti hb h.obj.row h.obj.nd key n _ hn).bind fun r hr=> ?_
 obtain ⟨r3,r4,r5⟩:=hr;rw [r3];refine aT (by rw [e1];constructor<;>omega) (aT (by rw [e1];constructor<;>omega) ?_);rw [e1];show Sat (Option.bind (ln N c.Slots ((n:Int)+1) ((n:Int)+2)) _) _;unfold ln;rw [jC O,bs]
 have e3:c.Slots.take ((n:Int)+1).toNat++c.Slots.drop ((n:Int)+2).toNat=c.Slots.eraseIdx (n+1):=by
  rw [List.eraseIdx_eq_take_drop_succ];congr 1
 rw [e3]
 have hm: ∀x∈c.Slots.eraseIdx (n+1),x∈c.Slots:=fun x hx=>List.mem_of_mem_eraseIdx hx
 have hlen:(c.Slots.eraseIdx (n+1)).length=c.Slots.length - 1:=List.length_eraseIdx_of_lt O;have hlen2:(l.eraseIdx n).length=l.length - 1:=List.length_eraseIdx_of_lt hlt;have hgc:goodC ⟨c.Kind,r.1,c.Flags,c.Age,c.Slots.eraseIdx (n+1),c.More⟩:=⟨by show (c.Slots.eraseIdx (n+1)).length≤5000;omega,hg.ml,fun x hx=>hg.sv x (hm x hx),hg.mv⟩
 have hoc:ObjC N r.2.2 ⟨c.Kind,r.1,c.Flags,c.Age,c.Slots.eraseIdx (n+1),c.More⟩ (l.eraseIdx n):=by
  refine ⟨⟨hrc.kind,?_,hrc.fl,hrc.age,fun x hx=>hrc.sv x (hm x hx),hrc.mv,by show (c.Slots.eraseIdx (n+1)).length≤1025;have:=hrc.sl;omega,⟨z,?_,z2⟩,hrc.more,hrc.plain⟩,r5,by show (c.Slots.eraseIdx (n+1)).length=_;omega,?_,h.obj.noP,fun hk2 x hx h0=>h.obj.idx hk2 x (List.mem_of_mem_eraseIdx hx) h0⟩
  ·obtain ⟨s',s1', -⟩:=r5.has r4.ti;exact s1'.1
  ·show (c.Slots.eraseIdx (n+1))[0]? =some z;rw [List.getElem?_eraseIdx_of_lt O];exact z1
  rw [List.eraseIdx_eq_take_drop_succ,List.map_append,List.map_take,List.map_drop, ←List.eraseIdx_eq_take_drop_succ];exact List.Nodup.sublist (List.eraseIdx_sublist ..) h.obj.nd
 refine (zc (w:=FT w r.2.2) hN hv hvN (k:=k+1024) O ⟨h.mem.old,h.mem.good,by have:=h.mem.len;show w.heap_.m_.Young.length≤_;omega⟩ r4.ti (by have:=r4.num;have:=h.tb;show r.2.2.shapes_.length≤_;omega) h.at_ (by rfl) hgc hoc true).bind fun u hu=>ak ⟨_,_,hu,J,J,.inr ⟨n,_,hn,J⟩⟩
theorem K2 (hk:k+3000≤1000000000){p:Me}(hp:propV N p)(hidx:c.Kind=2→p.Key.Kind=0→p.Key.N<c.More.length):Sat (nR N w v p) fun w'=>AfterM N i (k+2048) c w':=by
 unfold nR
 refine (KU hN hv hvN h O p.Key (xV N) 7 hidx).bind fun r hr=> ?_
 obtain ⟨c',l',h1,h2,h3⟩:=hr
 refine Sat.bind (P:=descV N) ?_ fun d hd=> ?_
 ·unfold ra qg
  exact eH (fun _=>ak ⟨xV N,hp.g,hp.s⟩) fun _=>ak ⟨hp.v,qt,qt⟩
 refine (AO hN hv hvN h1 O p.Key hd (by rw [h2,h3];exact hidx)).bind fun r hr=>ak ?_
 obtain ⟨c2,l2,g1,g2,g3⟩:=hr;exact ⟨c2,l2,g1.more O,g2.trans h2,g3.trans h3⟩
theorem C3 (hk:k≤1000000000)(hk2:c.Kind=2)(m:List Mg)(hm:m.length≤4096)(hmv: ∀x∈m,vK N x)(hidx: ∀x∈l,x.1.Kind=0→x.1.N<m.length)(f:Int)(hf:(0≤f∧f≤63)∧aM .i64 f 16=0): ∃w',bH N w v ⟨c.Kind,c.Shape,f,c.Age,c.Slots,m⟩=some w'∧InvC N i k w' ⟨c.Kind,c.Shape,f,c.Age,c.Slots,m⟩ l:=by
 have hg:=h.good;have hrc:=h.obj.rc
 obtain ⟨w',h1,h2, -⟩:=store hN hv hvN hk h.mem h.ti h.tb h.at_ (c':=⟨c.Kind,c.Shape,f,c.Age,c.Slots,m⟩) (l':=l) rfl ⟨hg.sl,by show m.length≤5000;omega,hg.sv,fun x hx=>(hmv x hx).1⟩
  ⟨⟨hrc.kind,hrc.sh,hf.1,hrc.age,hrc.sv,fun x hx=>(hmv x hx).2,hrc.sl,hrc.proto,hm,fun e=>by have:c.Kind=1:=e;omega⟩,h.obj.row,h.obj.num,h.obj.nd,hf.2,fun _=>hidx⟩
 exact ⟨w',h1,h2⟩
theorem C6: ∀x∈c.More,vK N x:=by
 have:=And.intro hN (And.intro hv hvN)
 exact fun x hx=>⟨h.good.mv x hx,h.obj.rc.mv x hx⟩
section
variable (hk:k+5000≤1000000000) (hk2:c.Kind=2) (key:Mn) (hkey:0≤key.N∧key.N<4096) (y29:Me×Bool) (y23:Me×Bool) (hp:propV N y23.1) (hpk:y23.1.Key=key)
include hk hk2 hkey hp hpk
theorem G6 (m:List Mg)(hm:m.length≤4096)(hm1:c.More.length≤m.length)(hm2:key.N<m.length)(hmv: ∀x∈m,vK N x):Sat (gm N y29 w v c key y23 m) fun r=>After N i (k+4096) c r.2.2:=by
 have:=hkey;obtain ⟨w',h1,h2⟩:=C3 hN hv hvN h O hk2 m hm hmv (fun x hx h0=>by have:=h.obj.idx hk2 x hx h0;omega) c.Flags ⟨h.obj.rc.fl,h.obj.noP⟩;unfold gm;rw [h1,bs]
 refine bn (fun _=> ?_) fun _=> ?_
 ·unfold oV
  refine Sat.bind (P:=fun w2=>After N i (k+4096) c w2) (aX (fun _=>(DP hN hv hvN h2 O key).bind fun r hr=>ak ?_) fun _=>ak ⟨_,_,h2.more O,J⟩) fun u hu=>ak hu
  obtain ⟨c',l',g1,g2, -⟩:=hr;exact ⟨c',l',g1.more O,g2⟩
 refine (K2 hN hv hvN h2 O hp (fun _ _=>by rw [hpk];exact hm2)).bind fun u hu=>ak ?_
 obtain ⟨c',l',g1,g2, -⟩:=hu;exact ⟨c',l',g1.more O,g2⟩
theorem J9 (m:List Mg)(hm:m.length≤4096)(hm1:c.More.length≤m.length)(hm2:key.N<m.length)(hmv: ∀x∈m,vK N x):Sat (ja N y29 w v c key y23 m) fun r=>After N i (k+4096) c r.2.2:=by
 unfold ja
 have hset: ∀(q:List Mg) (n:Nat) (x:Mg),(∀x∈q,vK N x)→vK N x→ ∀y∈q.set n x,vK N y:=fun q n x hq hx y hy=>by
  rcases List.mem_or_eq_of_mem_set hy with hy|rfl
  ·exact hq y hy
  exact hx
 refine bI O hm2 fun _ _=>bn (fun _=>bI O (by rw [List.length_set];exact hm2) fun _ _=> ?_) fun _=> ?_
 ·exact G6 hN hv hvN h hk hk2 key hkey y29 y23 hp hpk _ (by rw [List.length_set,List.length_set];exact hm) (by rw [List.length_set,List.length_set];exact hm1) (by rw [List.length_set,List.length_set];exact hm2) (hset _ _ _ (hset _ _ _ hmv (xw N)) hp.v)
 exact G6 hN hv hvN h hk hk2 key hkey y29 y23 hp hpk _ (by rw [List.length_set];exact hm) (by rw [List.length_set];exact hm1) (by rw [List.length_set];exact hm2) (hset _ _ _ hmv (xw N))
theorem G4: ∀(n:Nat) (m:List Mg),4097<n+m.length→m.length≤4096→c.More.length≤m.length→(∀x∈m,vK N x)→Sat (gl N y29 w v c key y23 n m) fun r=>After N i (k+4096) c r.2.2
 |0,m,h0,h1,_,_=>by omega
 |n+1,m,h0,h1,h2,h3=>by
  rw [gl.eq_2]
  refine bn (fun h4=>aT (by unfold fu;rw [List.length_singleton];omega) ?_) fun h4=>J9 hN hv hvN h hk hk2 key hkey y29 y23 hp hpk m h1 h2 O h3
  refine G4 n _ (by rw [List.length_append,List.length_singleton];omega) (by rw [List.length_append,List.length_singleton];omega) (by rw [List.length_append,List.length_singleton];omega) fun x hx=> ?_
  rcases List.mem_append.1 hx with hx|hx
  ·exact h3 x hx
  rw [List.mem_singleton] at hx;subst hx;exact xw N
theorem G5: ∀(n:Nat) (m:List Mg),i9 N y29 w v c key y23 n m=gl N y29 w v c key y23 n m
 |0,m=>by
  have:=And.intro hN (And.intro hv (And.intro hvN (And.intro h (And.intro hk (And.intro hk2 (And.intro hkey (And.intro hp hpk)))))));rfl
 |n+1,m=>by
  rw [i9.eq_2,gl.eq_2,G5 n];rfl
end
theorem Lv (hk:k+5000≤1000000000)(hk2:c.Kind=2)(key:Mn)(hkey:0≤key.N){d:Mi}(hd:descV N d):Sat (kG N w v c key d) fun r=>After N i (k+4096) c r.2.2:=by
 have hst:After N i (k+4096) c w:=⟨c,l,h.more O,rfl⟩;have hmo:=h.obj.rc.more;unfold kG
 refine (I0 hN hv hvN O h key).bind fun y hy=>(sZ N hy.1 _ _ key hd).bind fun p hp=>eH (fun _=>ak hst) fun e=> ?_
 refine bn (fun _=>ak hst) fun h4=>bC (P:=fun _=>True) (fun _=>ak trivial) (fun _=>ak trivial) fun _ _=>aX (fun _=>ak hst) fun _=> ?_
 refine (HK hN hv hvN O h key).bind fun q hq=> ?_
 have hl:=G4 hN hv hvN h hk hk2 key ⟨hkey,by omega⟩ q p hp.1 (hp.2 e) N c.More O hmo (Nat.le_refl _) (C6 hN hv hvN h)
 refine bC (P:=fun _=>True) (fun _=>ak trivial) (fun _=>ak trivial) fun _ _=>aX (fun _=> ?_) fun _=>hl
 refine (yr hN hv hvN O h).bind fun _ _=>bn (fun _=>ak hst) fun _=> ?_
 rw [G5 hN hv hvN h hk hk2 key ⟨hkey,by omega⟩ q p hp.1 (hp.2 e)];exact hl
end
end
section
open Go.RowKit
theorem KC {f:Int}(h:0≤f∧f≤63)(h2:aM .i64 f 16=0):(0≤cp .i64 f 32∧cp .i64 f 32≤63)∧aM .i64 (cp .i64 f 32) 16=0:=by
 have:=Gw ⟨f.toNat,by omega⟩;simp only [Int.toNat_of_nonneg h.1] at this;exact this h2
section
variable {N:Nat} (hN:20000≤N) {v:Mg} {i:Nat} (hv:v.Kind=7) (hvN:v.N=2*i+1)
include hN hv hvN
section
variable (n stop:Int) (y:List Me) (l0:List (Mn×Int)) (hy:y.map (fun x=>(x.Key,x.Attrs))=l0) (hnd:(l0.map (·.1)).Nodup) (hl0:l0.length≤1024) (p26:List Mg) (y16:Mb×Bool) (h26:p26.length≤4096) (h26v: ∀x∈p26,vK N x) (hs0:0≤stop) (hs1:stop.toNat≤p26.length) (hloose: ∀x∈l0,x.1.Kind=0→stop≤x.1.N→aM .i64 x.2 4≠0) {k:Nat} (hk:k+2000000≤1000000000)
include hy hnd hl0 h26 h26v hs0 hs1 hloose hk
theorem AQ: ∀(m j:Nat) (w:Md) (c:Mb) (l:List (Mn×Int)),y.length<m+j→j≤y.length→InvC N i (k+1024*j) w c l→c.Kind=2→(∀x∈l,x∈l0)→(∀x∈l,x.1.Kind=0→stop≤x.1.N→x∈l0.drop j)→Sat (f9 N n stop y v y16 p26 m (j:Int) w.spent_.steps_ w.spent_.made_ w.spent_.calls_ w.config_.Way w.config_.Steps w.config_.Calls w.config_.Made w.config_.Young w.config_.Full w.config_.Sites w.symbols_ w.epoch_ w.serial_ w.sleepers_ w.events_ w.out_ w.heap_.m_.Young w.heap_.m_.Old w.heap_.roots_ w.heap_.pending_ w.shapes_.shapes_ w.shapes_.next_ w.heap_.set_.at_) fun r=> ∃c' l',InvC N i (k+1048576) r.2 c' l'∧c'.Kind=2
 |0,j,w,c,l,h0,h1,_,_,_,_=>by have:=hnd;omega
 | m +1,j,w,c,l,h0,h1,h,hc2,hsub,hbad=>by
  have hyl:y.length=l0.length:=by rw [←hy,List.length_map]
  rw [f9.eq_2]
  refine bn (fun h3=> ?_) fun h3=> ?_
  ·have hj:j<y.length:=by omega
   have hj0:j<l0.length:=by omega
   have hxe:l0[j]=(y[j].Key,y[j].Attrs):=by
    have:(y.map (fun x=>(x.Key,x.Attrs)))[j]'(by rw [List.length_map];exact hj)=(y[j].Key,y[j].Attrs):=List.getElem_map ..;rw [←this];congr 1;exact hy.symm
   have hdrop:l0.drop j=l0[j]::l0.drop (j+1):=List.drop_eq_getElem_cons hj0;rw [km hj,bs]
   refine bC (P:=fun b=>(b=true→y[j].Key.Kind=0∧stop≤y[j].Key.N)∧(b=false→ ¬(y[j].Key.Kind=0∧stop≤y[j].Key.N))) (fun e=>ak ⟨fun h=>⟨of_decide_eq_true e,of_decide_eq_true h⟩,fun h h2=>of_decide_eq_false h h2.2⟩) (fun e=>ak ⟨fun h=>(Bool.noConfusion h),fun _ h2=>of_decide_eq_false e h2.1⟩) fun b hb=>aX (fun e=> ?_) fun e=> ?_
   ·obtain ⟨hb1,hb2⟩:=hb.1 e
    refine (DP hN hv hvN h O y[j].Key).bind fun r hr=> ?_
    obtain ⟨c',l',g1,g2,g3,g4⟩:=hr;unfold ic;refine aT (by constructor<;>omega) ?_;have hl0m:l0[j]∈l0:=List.getElem_mem _;refine AQ m (j+1) r.2 c' l' O O (by rw [Nat.mul_add, ←Nat.add_assoc];exact g1) (g2.trans hc2) ?_ ?_
    ·rcases g4 with ⟨rfl, -⟩|⟨q,a, -,rfl⟩
     ·exact hsub
     exact fun x hx=>hsub x (List.mem_of_mem_eraseIdx hx)
    intro x hx hx0 hxs
    have hxl:x∈l:=by
     rcases g4 with ⟨rfl, -⟩|⟨q,a, -,rfl⟩
     ·exact hx
     exact List.mem_of_mem_eraseIdx hx
    have hne:x.1≠y[j].Key:=by
     rcases g4 with ⟨rfl,g5|⟨a,g5,g6⟩⟩|⟨q,a,g5,rfl⟩
     ·exact g5 x hx
     ·exfalso;exact hloose _ (hsub _ g5) hb1 hb2 g6
     intro e2;have hnl:=h.obj.nd;have:x.1∈(l.eraseIdx q).map (·.1):=List.mem_map_of_mem hx
     have e3:(l.eraseIdx q).map (·.1)=(l.map (·.1)).eraseIdx q:=by
      rw [List.eraseIdx_eq_take_drop_succ,List.map_append,List.map_take,List.map_drop, ←List.eraseIdx_eq_take_drop_succ]
     rw [e3] at this;have:=(rJ hnl (show (l.map (·.1))[q]? =some y[j].Key by rw [List.getElem?_map,g5];rfl) x.1).1 this;exact this.2 e2
    have:=hbad x hxl hx0 hxs;rw [hdrop] at this;rcases List.mem_cons.1 this with e2|this
    ·exact absurd (by rw [e2,hxe]) hne
    exact this
   have hnb:=hb.2 e;unfold ic;refine aT (by constructor<;>omega) ?_
   refine AQ m (j+1) w c l O O (h.more O) hc2 hsub fun x hxl hx0 hxs=> ?_
   have:=hbad x hxl hx0 hxs;rw [hdrop] at this;rcases List.mem_cons.1 this with e2|this
   ·rw [hxe] at e2;rw [e2] at hx0 hxs;exact absurd ⟨hx0,hxs⟩ hnb
   exact this
  unfold mY;show Sat (Option.bind (dy N w v) _) _;rw [vI hN hv hvN O h,bs];refine aT ⟨hs0,hs1⟩ ?_
  obtain ⟨w',g1,g2⟩:=C3 hN hv hvN h O hc2 (p26.take stop.toNat) (by rw [List.length_take];omega) (fun x hx=>h26v x (List.mem_of_mem_take hx)) (fun x hx hx0=>by
   rw [List.length_take,Nat.min_eq_left hs1];apply Int.lt_of_not_ge;intro hge;have:=hbad x hx hx0 O;rw [List.drop_of_length_le O] at this
   cases this) c.Flags ⟨h.obj.rc.fl,h.obj.noP⟩
  show Sat (Option.bind (bH N w v ⟨c.Kind,c.Shape,c.Flags,c.Age,c.Slots,p26.take stop.toNat⟩) _) _;rw [g1,bs];exact ak ⟨_,_,g2.more O,hc2⟩
end
variable {k:Nat} {w:Md} {c:Mb} {l:List (Mn×Int)} (h:InvC N i k w c l)
include h
theorem AR (hk:k+2000000≤1000000000)(hc2:c.Kind=2)(n:Int)(y:List Me)(hy:y.map (fun x=>(x.Key,x.Attrs))=l)(y16:Mb×Bool)(p26:List Mg)(h26:p26.length≤4096)(h26v: ∀x∈p26,vK N x)(hmp:c.More.length≤p26.length): ∀(m j:Nat) (stop:Int),y.length<m+j→j≤y.length→0≤stop→stop≤p26.length→(∀x∈l.take j,x.1.Kind=0→aM .i64 x.2 4=0→x.1.N<stop)→Sat (ga N n y w v y16 p26 m stop (j:Int)) fun r=> ∃c' l',InvC N i (k+1048576) r.2 c' l'∧c'.Kind=2
 |0,j,stop,h0,h1,_,_,_=>by omega
 | m +1,j,stop,h0,h1,h2,h3,h4=>by
  have hyl:y.length=l.length:=by rw [←hy,List.length_map]
  have hle:=h.obj.row.le h.ti;rw [ga.eq_2]
  refine bn (fun h5=> ?_) fun h5=> ?_
  ·have hj:j<y.length:=by omega
   have hj0:j<l.length:=by omega
   have hx:l[j]=(y[j].Key,y[j].Attrs):=by
    have:(y.map (fun x=>(x.Key,x.Attrs)))[j]'(by rw [List.length_map];exact hj)=(y[j].Key,y[j].Attrs):=List.getElem_map ..;rw [←this];congr 1;exact hy.symm
   have hmem:(y[j].Key,y[j].Attrs)∈l:=by rw [←hx];exact List.getElem_mem _
   have htk:l.take (j+1)=l.take j++ [(y[j].Key,y[j].Attrs)]:=by rw [List.take_add_one,List.getElem?_eq_getElem hj0,hx];rfl
   rw [km hj,bs]
   refine bC (P:=fun b=>(b=true→y[j].Key.Kind=0)∧(b=false→ ¬(y[j].Key.Kind=0∧aM .i64 y[j].Attrs 4=0))) (fun e=>ak ⟨fun _=>of_decide_eq_true e,fun h h2=>of_decide_eq_false h h2.2⟩) (fun e=>ak ⟨fun h=>(Bool.noConfusion h),fun _ h2=>of_decide_eq_false e h2.1⟩) fun b hb=>aX (fun e=> ?_) fun e=> ?_
   ·have hb1:=hb.1 e;have h6:=h.obj.idx hc2 _ hmem hb1;have h7:=(h.obj.row.ok h.ti _ hmem).1.b O hb1;simp only at h6 h7;unfold iK;refine aT (by constructor<;>omega) (aT (by constructor<;>omega) ?_)
    refine AR hk hc2 n y hy y16 p26 h26 h26v hmp m (j+1) _ O O O O fun x hx0=> ?_
    rw [htk] at hx0;rcases List.mem_append.1 hx0 with hx0|hx0
    ·intro g1 g2;have:=h4 x hx0 g1 g2;omega
    rw [List.mem_singleton] at hx0;subst hx0;intro _ _;show y[j].Key.N<_;omega
   have hnb:=hb.2 e;unfold iK;refine aT (by constructor<;>omega) ?_
   refine AR hk hc2 n y hy y16 p26 h26 h26v hmp m (j+1) _ O O h2 h3 fun x hx0=> ?_
   rw [htk] at hx0;rcases List.mem_append.1 hx0 with hx0|hx0
   ·exact h4 x hx0
   rw [List.mem_singleton] at hx0;subst hx0;intro g1 g2;exact absurd ⟨g1,g2⟩ hnb
  unfold mZ
  refine (yr hN hv hvN O h).bind fun z hz=> ?_
  rw [List.take_of_length_le O] at h4
  have hzl:z.length=l.length:=by rw [←hz,List.length_map]
  exact AQ hN hv hvN n stop z l hz h.obj.nd hle p26 y16 h26 h26v h2 O (fun x hx g1 g2 g3=>by have:=h4 x hx g1 g3;omega) hk N 0 w c l O O (h.more O) hc2 (fun _ hx=>hx) fun x hx _ _=>hx
theorem DS (hk:k+2000000≤1000000000)(hc2:c.Kind=2)(n:Int)(hn0:0≤n)(hn:n≤4096)(y16:Mb×Bool): ∀(m:Nat) (p:List Mg),4097<m+p.length→p.length≤4096→c.More.length≤p.length→(∀x∈p,vK N x)→Sat (kH N n w v y16 m p) fun r=> ∃c' l',InvC N i (k+1048576) r.2 c' l'∧c'.Kind=2
 |0,p,h0,h1,_,_=>by omega
 | m+1,p,h0,h1,h2,h3=>by
  rw [kH.eq_2]
  refine bn (fun h4=>aT (by unfold fu;rw [List.length_singleton];omega) ?_) fun h4=> ?_
  ·refine DS hk hc2 n hn0 hn y16 m _ (by rw [List.length_append,List.length_singleton];omega) (by rw [List.length_append,List.length_singleton];omega) (by rw [List.length_append,List.length_singleton];omega) fun x hx=> ?_
   rcases List.mem_append.1 hx with hx|hx
   ·exact h3 x hx
   rw [List.mem_singleton] at hx;subst hx;exact xw N
  unfold na;have hle:=h.obj.row.le h.ti
  refine (yr hN hv hvN O h).bind fun z hz=> ?_
  have hzl:z.length=l.length:=by rw [←hz,List.length_map]
  exact AR hN hv hvN h hk hc2 n z hz y16 p h1 h3 h2 N 0 n O O hn0 O (by simp)
theorem Jt (hk:k+2000000≤1000000000)(n:Int):Sat (mB N w v n) fun r=>After N i (k+1048576) c r.2:=by
 have hst:After N i (k+1048576) c w:=⟨c,l,h.more O,rfl⟩;have hmo:=h.obj.rc.more;unfold mB;rw [vI hN hv hvN O h,bs]
 refine bC (P:=fun b=>b=false→c.Kind=2∧0≤n) (fun _=>ak fun h=>(Bool.noConfusion h)) (fun e=>ak fun h=> ?_) fun b20 h20=> ?_
 ·have:=of_decide_eq_false h;refine ⟨?_,by omega⟩;have e2:(!decide (c.Kind=2))=false:=e;rw [Bool.not_eq_false'] at e2;exact of_decide_eq_true e2
 refine bC (P:=fun b=>b=false→c.Kind=2∧0≤n∧n≤4096) (fun _=>ak fun h=>(Bool.noConfusion h)) (fun e=>ak fun h=> ?_) fun b21 h21=> ?_
 ·have:=of_decide_eq_false h;exact ⟨(h20 e).1,(h20 e).2,by omega⟩
 refine bC (P:=fun b=>b=false→c.Kind=2∧0≤n∧n≤4096) (fun _=>ak fun h=>(Bool.noConfusion h)) (fun e=>bC (P:=fun _=>True) (fun _=>ak trivial) (fun _=>ak trivial) fun _ _=>ak fun _=>h21 e) fun b22 h22=> ?_
 refine aX (fun _=>ak hst) fun e=> ?_
 obtain ⟨h5,h6,h7⟩:=h22 e
 refine (DS hN hv hvN h hk h5 n h6 h7 _ N c.More O hmo (Nat.le_refl _) (C6 hN hv hvN h)).mono fun r hr=> ?_
 obtain ⟨c',l',g1,g2⟩:=hr;exact ⟨c',l',g1,by omega⟩
theorem Jj (hk:k≤1000000000)(hc2:c.Kind=2): ∃w',bH N w v ⟨c.Kind,c.Shape,cp .i64 c.Flags 32,c.Age,c.Slots,c.More⟩=some w'∧After N i k c w':=by
 obtain ⟨w',h1,h2⟩:=C3 hN hv hvN h hk hc2 c.More h.obj.rc.more (C6 hN hv hvN h) (h.obj.idx hc2) _ (KC h.obj.rc.fl h.obj.noP);exact ⟨w',h1,_,_,h2,J⟩
theorem I1 (hk:k+2000000≤1000000000)(hc2:c.Kind=2){d:Mi}(hd:descV N d)(K:Nat)(hK1:4096≤K)(hK2:aM .i64 d.Has 1≠0→1048576≤K):Sat (jR N w v c d) fun r=>After N i (k+K) c r.2.2:=by
 have hst:After N i (k+K) c w:=⟨c,l,h.more O,rfl⟩;unfold jR
 refine bC (P:=fun _=>True) (fun _=>by (repeat' first|exact ak trivial|refine Sat.bind (P:=fun _=>True) ?_ (fun _ _=> ?_)|refine aX (fun _=> ?_) (fun _=> ?_))) (fun _=>ak trivial) fun b _=>aX (fun _=>ak hst) fun _=> ?_
 refine (EQ N c h.obj.rc.more).bind fun y hy=> ?_
 show Sat (Option.bind (some _) _) _;rw [bs]
 refine (sZ N hy.1 true true _ hd).bind fun p hp=>eH (fun _=>ak hst) fun _=> ?_
 refine eH (fun _=>bn (fun _=> ?_) fun _=>ak hst) fun _=> ?_
 ·rw [vI hN hv hvN O h,bs];obtain ⟨w',h1,h2⟩:=Jj hN hv hvN h O hc2;show Sat (Option.bind (bH N w v ⟨c.Kind,c.Shape,cp .i64 c.Flags 32,c.Age,c.Slots,c.More⟩) _) _;rw [h1,bs];exact ak (h2.more O)
 rename_i e
 have hK:=hK2 (fun e2=>by rw [Mu e2] at e;exact Bool.noConfusion e)
 refine (Jt hN hv hvN h hk d.Value.N).bind fun r hr=>bn (fun _=> ?_) fun _=>ak (hr.more O)
 obtain ⟨c',l',g1,g2⟩:=hr;rw [vI hN hv hvN O g1,bs];obtain ⟨w',h1,h2⟩:=Jj hN hv hvN g1 O (g2.trans hc2);show Sat (Option.bind (bH N r.2 v ⟨c'.Kind,c'.Shape,cp .i64 c'.Flags 32,c'.Age,c'.Slots,c'.More⟩) _) _;rw [h1,bs];obtain ⟨c2,l2,q1,q2⟩:=h2;exact ak ⟨c2,l2,q1.more O,q2.trans g2⟩
theorem I2 (hk:k+2000000≤1000000000)(key:Mn){d:Mi}(hd:descV N d)(K:Nat)(hK1:4096≤K)(hK2:aM .i64 d.Has 1≠0→1048576≤K):Sat (mD N w v key d) fun r=>After N i (k+K) c r.2.2:=by
 have hst:After N i (k+K) c w:=⟨c,l,h.more O,rfl⟩;unfold mD;rw [vI hN hv hvN O h,bs]
 refine bC (P:=fun b=>b=false→c.Kind=2∧Gl key) (fun _=>ak fun h=>(Bool.noConfusion h)) (fun e=>(mP N O key).bind fun y hy=>ak fun h=> ?_) fun b hb=> ?_
 ·have e2:(!decide (c.Kind=2))=false:=e;rw [Bool.not_eq_false'] at e2 h;exact ⟨of_decide_eq_true e2,hy h⟩
 refine bC (P:=fun b=>b=false→c.Kind=2∧Gl key) (fun _=>ak fun h=>(Bool.noConfusion h)) (fun e=>(Fz N d).bind fun _ _=>ak fun _=>hb e) fun b2 hb2=>aX (fun _=>ak hst) fun e=> ?_
 obtain ⟨h5,h6⟩:=hb2 e;show Sat (Option.bind (some _) _) _;rw [bs]
 refine bn (fun _=>(I1 hN hv hvN h hk h5 hd K hK1 hK2).bind fun r hr=>ak hr) fun _=>bn (fun h7=> ?_) fun h7=> ?_
 ·exact (Lv hN hv hvN h O h5 key (h6 h7).1 hd).bind fun r hr=>ak (hr.more O)
 exact (AO hN hv hvN h O key hd (fun _ g=>absurd g h7)).bind fun r hr=>ak (hr.a O)
theorem BF (hk:k≤1000000000)(key:Mn){d:Mi}(hd:descV N d):Sat (kg N w v key d) fun _=>True:=by
 unfold kg
 refine (Gf hN hv hvN hk h key).bind fun y hy=> ?_
 rw [HN hN hv hvN hk h,bs]
 refine (sZ N hy.1 _ _ key hd).bind fun p hp=>Sat.bind (P:=fun _=>True) (by repeat' first|exact ak trivial|refine Sat.bind (P:=fun _=>True) ?_ (fun _ _=> ?_)|refine aX (fun _=> ?_) (fun _=> ?_)) fun _ _=>aX (fun _=>ak trivial) fun _=>aX (fun _=>ak trivial) fun _=> ?_
 refine (yr hN hv hvN hk h).bind fun z hz=> ?_
 rw [KQ hN hv hvN hk h,bs]
 refine Sat.bind (P:=fun _=>True) (by repeat' first|exact ak trivial|refine Sat.bind (P:=fun _=>True) ?_ (fun _ _=> ?_)|refine aX (fun _=> ?_) (fun _=> ?_)) fun _ _=>aX (fun _=>by (repeat' first|exact ak trivial|refine Sat.bind (P:=fun _=>True) ?_ (fun _ _=> ?_)|refine aX (fun _=> ?_) (fun _=> ?_))) fun _=> ?_
 unfold jA eR;rw [bs]
 refine Sat.bind (P:=fun _=>True) ?_ fun _ _=>ak trivial
 refine (I0 hN hv hvN hk h _).bind fun s hs=>(HK hN hv hvN hk h key).bind fun q hq=>aX (fun _=>ak trivial) fun _=> ?_
 refine Sat.bind (P:=fun _=>True) ?_ fun _ _=>by (repeat' first|exact ak trivial|refine Sat.bind (P:=fun _=>True) ?_ (fun _ _=> ?_)|refine aX (fun _=> ?_) (fun _=> ?_))
 unfold qn;rw [vI hN hv hvN hk h,bs]
 (repeat' first|exact ak trivial|refine Sat.bind (P:=fun _=>True) ?_ (fun _ _=> ?_)|refine aX (fun _=> ?_) (fun _=> ?_))
theorem BG (hk:k≤1000000000){d:Mi}(hd:descV N d):Sat (gX N w v d) fun _=>True:=by
 unfold gX eR
 refine Sat.bind (P:=fun _=>True) (by repeat' first|exact ak trivial|refine Sat.bind (P:=fun _=>True) ?_ (fun _ _=> ?_)|refine aX (fun _=> ?_) (fun _=> ?_)) fun _ _=>aX (fun _=>ak trivial) fun _=> ?_
 rw [bs]
 refine (I0 hN hv hvN hk h _).bind fun s hs=> ?_
 rw [bs]
 exact (sZ N hs.1 _ _ _ hd).bind fun _ _=>by (repeat' first|exact ak trivial|refine Sat.bind (P:=fun _=>True) ?_ (fun _ _=> ?_)|refine aX (fun _=> ?_) (fun _=> ?_))
theorem AS (hk:k+2000000≤1000000000)(key:Mn){d:Mi}(hd:descV N d)(K:Nat)(hK1:4096≤K)(hK2:aM .i64 d.Has 1≠0→1048576≤K):Sat (gJ N w v key d) fun r=>After N i (k+K) c r.2.2:=by
 have hst:After N i (k+K) c w:=⟨c,l,h.more O,rfl⟩
 have htold: ∀(b:Bool) (w':Md),After N i (k+K) c w'→Sat ((la N b).bind fun y=>some (y.1,y.2,w')) fun r=>After N i (k+K) c r.2.2:=fun b w' hw'=>by
  unfold la
  exact Sat.bind (P:=fun _=>True) (by repeat' first|exact ak trivial|refine Sat.bind (P:=fun _=>True) ?_ (fun _ _=> ?_)|refine aX (fun _=> ?_) (fun _=> ?_)) fun _ _=>ak hw'
 have hj: ∀p,Sat (gZ N w v key d p) fun r=>After N i (k+K) c r.2.2:=fun p=>by
  unfold gZ
  exact eH (fun _=>ak hst) fun _=>(I2 hN hv hvN h hk key hd K hK1 hK2).bind fun r hr=>htold _ _ hr
 unfold gJ;rw [Mu hv,nt,cf,KQ hN hv hvN O h,bs]
 refine eH (fun e=> ?_) fun e=> ?_
 ·refine (BF hN hv hvN h O key hd).bind fun _ _=>eH (fun _=>ak hst) fun _=> ?_
  exact (AO hN hv hvN h O key hd (fun g=>absurd g (of_decide_eq_false e))).bind fun r hr=>htold _ _ (hr.a O)
 unfold eR;rw [bs]
 exact bn (fun _=>(BG hN hv hvN h O hd).bind fun p _=>hj p) fun _=>(BF hN hv hvN h O key hd).bind fun p _=>hj p
end
end
section
open Go.RowKit
def CA:Nat→List Mg→List Mn
 |_,[]=> []
 |j,x::m=>bif decide (x=(⟨8,0,(⟨#[]⟩:ByteArray)⟩:Mg)) then CA (j+1) m else ⟨0,(j:Int),⟨#[]⟩⟩::CA (j+1) m
def pQ (c:Mb):Mb:=⟨c.Kind,c.Shape,bw .i64 c.Flags 1,c.Age,c.Slots,c.More⟩
theorem JN {f:Int}(h:0≤f∧f≤63)(h2:aM .i64 f 16=0):(0≤bw .i64 f 1∧bw .i64 f 1≤63)∧aM .i64 (bw .i64 f 1) 16=0∧aM .i64 (bw .i64 f 1) 1=0:=by
 have:=Fq ⟨f.toNat,by omega⟩;simp only [Int.toNat_of_nonneg h.1] at this;exact this h2
def po (N:Nat)(w:Md)(v:Mg)(key:Mn):Me:=((d7 N w v key).getD default).1
section
variable {N:Nat} (hN:20000≤N) {v:Mg} {i:Nat} (hv:v.Kind=7) (hvN:v.N=2*i+1) {k:Nat} (hk:k≤1000000000) {w:Md} {c:Mb} {l:List (Mn×Int)} (h:InvC N i k w c l)
include hN hv hvN hk h
theorem AB:f4 N w v=some (zu w (w.heap_.m_.Young.set i (pQ c)))∧InvC N i k (zu w (w.heap_.m_.Young.set i (pQ c))) (pQ c) l:=by
 have hg:=h.good;have hrc:=h.obj.rc;have hf:=JN hrc.fl h.obj.noP;have hlt:=h.lt;have hgc:goodC (pQ c):=⟨hg.sl,hg.ml,hg.sv,hg.mv⟩;have hoc:ObjC N w.shapes_ (pQ c) l:=⟨⟨hrc.kind,hrc.sh,hf.1,hrc.age,hrc.sv,hrc.mv,hrc.sl,hrc.proto,hrc.more,hrc.plain⟩,h.obj.row,h.obj.num,h.obj.nd,hf.2.1,h.obj.idx⟩;obtain ⟨w',h1,h2, -⟩:=store hN hv hvN hk h.mem h.ti h.tb h.at_ (c':=pQ c) (l':=l) rfl hgc hoc;have h3:=F2 N h.mem.good hv hvN O h.at_ hgc (hoc.rc.right hN);rw [h1] at h3;have e:w'=zu w (w.heap_.m_.Young.set i (pQ c)):=Option.some.inj h3;rw [e] at h1 h2;refine ⟨?_,h2⟩;unfold f4 pw;rw [uM hN hv hvN hk h,bs];unfold dh;show Option.bind (Option.bind (Option.bind (fR N w v (pQ c)) _) _) _=_;rw [DN,h1];rfl
theorem yq (key:Mn): ∃b,d7 N w v key=some (po N w v key,b):=by
 obtain ⟨r,h1, -⟩:=Gf hN hv hvN hk h key;exact ⟨r.2,by unfold po;rw [h1];rfl⟩
theorem HH (key:Mn):qO (po N w v key).Attrs:=by
 obtain ⟨r,h1,h2⟩:=Gf hN hv hvN hk h key;unfold po;rw [h1];exact h2.2
theorem E5 (ks:List Mn)(hks:dF N w v=some ks)(hl:ks.length≤6000):pL N w v=some (ks.map (po N w v)):=by
 have key: ∀(m j:Nat) (p:List Me),ks.length<m+j→j≤ks.length→p.length=j→ng N ks w v m p (j:Int)=some (p++(ks.drop j).map (po N w v)):=by
  intro m
  induction m with
  |zero=>intro j p h1 h2;omega
  | succ m ih=>
   intro j p h1 h2 h3;rw [ng.eq_2];by_cases h4:j<ks.length
   ·obtain ⟨b,hb⟩:=yq hN hv hvN hk h ks[j];rw [Mu O,ct,km h4,bs,hb,bs,jC (by rw [List.length_singleton];omega),jC (by constructor<;>omega),List.drop_eq_getElem_cons h4];have:=ih (j+1) (p++ [po N w v ks[j]]) O O (by rw [List.length_append,List.length_singleton];omega);simp only [Int.natCast_add,Int.cast_ofNat_Int] at this;rw [this,Mx];rfl
   rw [Mv O,cf,List.drop_of_length_le O,List.map_nil,List.append_nil];rfl
 unfold pL;rw [hks,bs];exact key N 0 [] O O J
theorem CY (ks:List Mn)(hks:dF N w v=some ks)(hl:ks.length≤6000):i6 N w v=some (decide (aM .i64 c.Flags 1=0)&&ks.all fun key=>decide (aM .i64 (po N w v key).Attrs 4=0)):=by
 have key:=Cg (dw N ks w v) ks (fun key=>decide (aM .i64 (po N w v key).Attrs 4=0)) (fun m j hj=>by
  obtain ⟨b,hb⟩:=yq hN hv hvN hk h ks[j];rw [dw.eq_2,Mu O,ct,km hj,bs,hb,bs];unfold gx;rw [bs,jC (by constructor<;>omega)]
  cases decide (aM .i64 (po N w v ks[j]).Attrs 4=0)<;>rfl) (fun m=>by
  rw [dw.eq_2,Mv O,cf];rfl) N O
 unfold i6 gC;rw [KP hN hv hvN hk h,bs,nt,cf,HN hN hv hvN hk h,bs,hks];cases decide (aM .i64 c.Flags 1=0)
 ·rfl
 show Option.bind (dw N ks w v N 0) _=_;rw [key];rfl
theorem Df (ks:List Mn)(hks:dF N w v=some ks)(hl:ks.length≤6000):gi N w v=some (decide (aM .i64 c.Flags 1=0)&&ks.all fun key=>decide (aM .i64 (po N w v key).Attrs 5=0)):=by
 have key:=Cg (dx N ks w v) ks (fun key=>decide (aM .i64 (po N w v key).Attrs 5=0)) (fun m j hj=>by
  obtain ⟨b,hb⟩:=yq hN hv hvN hk h ks[j];rw [dx.eq_2,Mu O,ct,km hj,bs,hb,bs];unfold gy;rw [bs,jC (by constructor<;>omega)]
  cases decide (aM .i64 (po N w v ks[j]).Attrs 5=0)<;>rfl) (fun m=>by
  rw [dx.eq_2,Mv O,cf];rfl) N O
 unfold gi gF;rw [KP hN hv hvN hk h,bs,nt,cf,HN hN hv hvN hk h,bs,hks];cases decide (aM .i64 c.Flags 1=0)
 ·rfl
 show Option.bind (dx N ks w v N 0) _=_;rw [key];rfl
theorem Ff: ∃ks,dF N w v=some ks∧ks.length≤6000:=by
 obtain ⟨ks,h1,h2⟩:=Gi hN hv hvN hk h;exact ⟨ks,h1,h2⟩
end
theorem FV (N:Nat)(a b:List Me)(hl:a.length<N)(hl2:a.length≤100000):rk N a b=some (decide (a=b)):=by
 unfold rk;by_cases e:a.length=b.length
 ·rw [Mu O,nt,cf]
  rw [Gg (pU N a b) a b (some false) (some true) e (fun m j h1 h2=>by
   rw [pU.eq_2,Mu O,ct,km h1,bs,km h2,bs,jC (by constructor<;>omega)]
   cases decide (a[j]=b[j])<;>rfl) (fun m=>by rw [pU.eq_2,Mv O,cf];rfl) N hl]
  cases decide (a=b)<;>rfl
 rw [Mv O,nf,ct,Mv fun h=>e (by rw [h])]
def yG (fr:Bool)(a:Int):Int:=bif fr&&decide (aM .i64 (bw .i64 a 4) 8=0) then bw .i64 (bw .i64 a 4) 1 else bw .i64 a 4
def t4 (fr:Bool)(p:Me):Me:=⟨p.Key,yG fr p.Attrs,p.Value,p.Get,p.Set⟩
theorem Gr (N:Nat)(a:List Me)(fr:Bool)(hl:a.length<N)(hl2:a.length≤100000):ui N a fr=some (a.map (t4 fr)):=by
 have key: ∀(m j:Nat) (p:List Me),a.length<m+j→j≤a.length→p.length=j→kd N fr a m p (j:Int)=some (p++(a.drop j).map (t4 fr)):=by
  intro m
  induction m with
  |zero=>intro j p h1 h2;omega
  | succ m ih=>
   intro j p h1 h2 h3;rw [kd.eq_2];by_cases h4:j<a.length
   ·rw [Mu O,ct,km h4,bs,List.drop_eq_getElem_cons h4,cs,bs];have:=ih (j+1) (p++ [t4 fr a[j]]) O O (by rw [List.length_append,List.length_singleton];omega);simp only [Int.natCast_add,Int.cast_ofNat_Int] at this;unfold oK;rw [Mx] at this;cases hfr:fr<;>cases hd:decide (aM .i64 (bw .i64 a[j].Attrs 4) 8=0)<;>(subst hfr;simp only [ct,cf];rw [jC (by simp only [List.length_singleton];omega),jC (by constructor<;>omega)];refine Eq.trans (congrArg (fun z=>kd N _ a m (p++ [z]) ((j:Int)+1)) (?_:_=t4 _ a[j])) this;unfold t4 yG;rw [hd];rfl)
   rw [Mv O,cf,List.drop_of_length_le O,List.map_nil,List.append_nil];rfl
 exact key N 0 [] O O J
theorem Gm (N:Nat)(a:List Me)(ext fr:Bool)(hl:a.length<N)(hl2:a.length≤100000):pm N a ext fr=some (!ext&&decide (a.map (t4 fr)=a)):=by
 unfold pm rl;cases ext
 ·rw [nf,ct,Gr N a fr hl hl2,bs,FV N _ _ (by rw [List.length_map];exact hl) (by rw [List.length_map];exact hl2)];rfl
 rfl
theorem Ge {α:Type}{f:α→α}: ∀{l:List α},l.map f=l↔ ∀x∈l,f x=x
 | []=>by simp
 |x::l=>by rw [List.map_cons,List.cons.injEq,Ge,List.forall_mem_cons]
theorem Gs: ∀a:_root_.Fin 16,aM .i64 (a.val:Int) 9≠9→(yG false (a.val:Int)=(a.val:Int)↔aM .i64 (a.val:Int) 4=0)∧(yG true (a.val:Int)=(a.val:Int)↔aM .i64 (a.val:Int) 5=0):=by decide+kernel
theorem Cl {a:Int}(h:qO a):(yG false a=a↔aM .i64 a 4=0)∧(yG true a=a↔aM .i64 a 5=0):=by
 have h0:=h.1;have h1:=h.2.1;have:=Gs ⟨a.toNat,by omega⟩;simp only [Int.toNat_of_nonneg h0] at this;exact this h.2.2
theorem Cm (fr:Bool)(b:Int)(P:Mn→Me)(hb: ∀k,yG fr (P k).Attrs=(P k).Attrs↔aM .i64 (P k).Attrs b=0)(ks:List Mn):(ks.all fun k=>decide (aM .i64 (P k).Attrs b=0))=decide ((ks.map P).map (t4 fr)=ks.map P):=by
 rw [Bool.eq_iff_iff,List.all_eq_true,decide_eq_true_iff,Ge];constructor
 ·intro h x hx;obtain ⟨k,hk,rfl⟩:=List.mem_map.1 hx;have:=(hb k).2 (of_decide_eq_true (h k hk));unfold t4;rw [this]
 intro h k hk;have:=congrArg Me.Attrs (h (P k) (List.mem_map_of_mem hk));exact Mu ((hb k).1 this)
end
section
open Go.RowKit
section
variable {N:Nat} (hN:20000≤N) {v:Mg} {i:Nat} (hv:v.Kind=7) (hvN:v.N=2*i+1) {k:Nat} (hk:k≤1000000000) {w:Md} {c:Mb} {l:List (Mn×Int)} (h:InvC N i k w c l)
 (h':InvC N i k (zu w (w.heap_.m_.Young.set i (pQ c))) (pQ c) l)
include hN hv hvN hk h h'
end
theorem FU:aM .i64 32 1=0:=by decide+kernel
theorem Cp:aM .i64 (aM .i64 34 60) 1=0:=by decide+kernel
theorem Co:aM .i64 (aM .i64 34 51) 1=0:=by decide+kernel
theorem Fm (N:Nat)(p:Me):Sat (eY N p) fun d=>descV N d∧aM .i64 d.Has 1=0:=by
 unfold eY ra qg
 refine Sat.bind (P:=fun d=>d.Has=60∨d.Has=51) (eH (fun _=>ak (.inl J)) fun _=>ak (.inr J)) fun d hd=>ak ⟨⟨xV N,qt,qt⟩,?_⟩
 rcases hd with e|e<;>rw [e]
 ·exact Cp
 exact Co
section
variable {N:Nat} (hN:20000≤N) {v:Mg} {i:Nat} (hv:v.Kind=7) (hvN:v.N=2*i+1) {k:Nat} (hk:k+100000000≤1000000000)
include hN hv hvN hk
theorem sL (ks:List Mn)(hks:ks.length≤6000): ∀(m j:Nat) (b:Bool) (w:Md) (c:Mb) (l:List (Mn×Int)),ks.length<m+j→j≤ks.length→InvC N i (k+4096*j) w c l→Sat (eV N ks v m b (j:Int) w.spent_.steps_ w.spent_.made_ w.spent_.calls_ w.config_.Way w.config_.Steps w.config_.Calls w.config_.Made w.config_.Young w.config_.Full w.config_.Sites w.symbols_ w.epoch_ w.serial_ w.sleepers_ w.events_ w.out_ w.heap_.m_.Young w.heap_.m_.Old w.heap_.roots_ w.heap_.pending_ w.shapes_.shapes_ w.shapes_.next_ w.heap_.set_.at_) fun r=> ∃c' l',InvC N i (k+30000000) r.2 c' l'
 |0,j,b,w,c,l,h0,h1,_=>by omega
 |m+1,j,b,w,c,l,h0,h1,h=>by
  rw [eV.eq_2]
  refine bn (fun hj=>bI O hj fun x _=> ?_) fun _=>ak ⟨c,l,h.more O⟩
  refine (Gf hN hv hvN O h x).bind fun y hy=> ?_
  refine Sat.bind (P:=fun d=>descV N d∧aM .i64 d.Has 1=0) (ak ⟨⟨xV N,qt,qt⟩,FU⟩) fun d hd=> ?_
  refine (AS hN hv hvN h O x hd.1 4096 (Nat.le_refl _) (fun e=>absurd hd.2 e)).bind fun r hr=>Sat.bind (P:=fun _=>True) (by repeat' first|exact ak trivial|refine Sat.bind (P:=fun _=>True) ?_ (fun _ _=> ?_)|refine aX (fun _=> ?_) (fun _=> ?_)) fun b' _=> ?_
  obtain ⟨c',l',g1,g2⟩:=hr;exact aT (by constructor<;>omega) (sL ks hks m (j+1) b' r.2.2 c' l' O O (by rw [Nat.mul_add, ←Nat.add_assoc];exact g1))
theorem Fy {w:Md}{c:Mb}{l:List (Mn×Int)}(h:InvC N i k w c l):Sat (kB N w v) fun r=> ∃c' l',InvC N i (k+30000000) r.2 c' l':=by
 unfold kB iE;obtain ⟨h1,h2⟩:=AB hN hv hvN O h;rw [KP hN hv hvN O h,bs,nt,cf,h1,bs]
 refine Sat.bind ((Gi hN hv hvN O h2).bind fun ks hks=>sL hN hv hvN hk ks hks N 0 true _ (pQ c) l O O h2) fun r hr=>ak hr
theorem qY (ks:List Mn)(hks:ks.length≤6000): ∀(m j:Nat) (b:Bool) (w:Md) (c:Mb) (l:List (Mn×Int)),ks.length<m+j→j≤ks.length→InvC N i (k+4096*j) w c l→Sat (ew N ks v m b (j:Int) w.spent_.steps_ w.spent_.made_ w.spent_.calls_ w.config_.Way w.config_.Steps w.config_.Calls w.config_.Made w.config_.Young w.config_.Full w.config_.Sites w.symbols_ w.epoch_ w.serial_ w.sleepers_ w.events_ w.out_ w.heap_.m_.Young w.heap_.m_.Old w.heap_.roots_ w.heap_.pending_ w.shapes_.shapes_ w.shapes_.next_ w.heap_.set_.at_) fun r=> ∃c' l',InvC N i (k+30000000) r.2 c' l'
 |0,j,b,w,c,l,h0,h1,_=>by omega
 |m+1,j,b,w,c,l,h0,h1,h=>by
  rw [ew.eq_2]
  refine bn (fun hj=>bI O hj fun x _=> ?_) fun _=>ak ⟨c,l,h.more O⟩
  refine (Gf hN hv hvN O h x).bind fun y hy=> ?_
  refine Sat.bind (P:=fun d=>descV N d∧aM .i64 d.Has 1=0) (Fm N y.1) fun d hd=> ?_
  refine (AS hN hv hvN h O x hd.1 4096 (Nat.le_refl _) (fun e=>absurd hd.2 e)).bind fun r hr=>Sat.bind (P:=fun _=>True) (by repeat' first|exact ak trivial|refine Sat.bind (P:=fun _=>True) ?_ (fun _ _=> ?_)|refine aX (fun _=> ?_) (fun _=> ?_)) fun b' _=> ?_
  obtain ⟨c',l',g1,g2⟩:=hr;exact aT (by constructor<;>omega) (qY ks hks m (j+1) b' r.2.2 c' l' O O (by rw [Nat.mul_add, ←Nat.add_assoc];exact g1))
theorem CB {w:Md}{c:Mb}{l:List (Mn×Int)}(h:InvC N i k w c l):Sat (gj N w v) fun r=> ∃c' l',InvC N i (k+30000000) r.2 c' l':=by
 unfold gj gG;obtain ⟨h1,h2⟩:=AB hN hv hvN O h;rw [KP hN hv hvN O h,bs,nt,cf,h1,bs]
 refine Sat.bind ((Gi hN hv hvN O h2).bind fun ks hks=>qY hN hv hvN hk ks hks N 0 true _ (pQ c) l O O h2) fun r hr=>ak hr
end
end
section
open Go.RowKit
theorem FN (N:Nat){x:Int}(h0:0≤x)(h1:x≤255):Sat (pY N x 10) fun y=> -1≤y∧y≤1000:=by
 have e:IntKind.i64.wrap x=x:=IntWalk.i64_in _ ⟨by omega,by omega⟩
 have h12: ∀p:Int, -1≤p→p≤1000→Sat (kY N 10 p) fun y=> -1≤y∧y≤1000:=fun p h0 h1=>by
  unfold kY
  exact aX (fun _=>ak ⟨by omega,by omega⟩) fun _=>ak ⟨h0,h1⟩
 have h6: ∀p:Int, -1≤p→p≤1000→Sat (lS N x 10 p) fun y=> -1≤y∧y≤1000:=fun p g0 g1=>by
  unfold lS
  refine bC (P:=fun b=>b=true→65≤x) (fun e=>ak fun _=>of_decide_eq_true e) (fun _=>ak fun h=>by cases h) fun b hb=>aX (fun eb=> ?_) fun _=>h12 p g0 g1
  have:=hb eb;rw [e];exact aT (by constructor<;>omega) (aT (by constructor<;>omega) (h12 _ O O))
 have hj1: ∀p:Int, -1≤p→p≤1000→Sat (lT N x 10 p) fun y=> -1≤y∧y≤1000:=fun p g0 g1=>by
  unfold lT
  refine bC (P:=fun b=>b=true→97≤x) (fun e=>ak fun _=>of_decide_eq_true e) (fun _=>ak fun h=>by cases h) fun b hb=>aX (fun eb=> ?_) fun _=>h6 p g0 g1
  have:=hb eb;rw [e];exact aT (by constructor<;>omega) (aT (by constructor<;>omega) (h6 _ O O))
 unfold pY
 refine bC (P:=fun b=>b=true→48≤x) (fun e=>ak fun _=>of_decide_eq_true e) (fun _=>ak fun h=>by cases h) fun b hb=>aX (fun eb=> ?_) fun _=>hj1 _ O O
 have:=hb eb;rw [e];exact aT (by constructor<;>omega) (hj1 _ O O)
theorem zb (N:Nat)(s:ByteArray)(hs:s.size≤10): ∀(m i:Nat) (p:Int),s.size<m+i→i≤s.size→ -1≤p→p≤9007199254740992→Sat (fW N s 10 m p (i:Int)) fun _=>True
 |0,i,p,h,h1,_,_=>by omega
 | m+1,i,p,h,h1,h2,h3=>by
  have h7:i<s.size→ ∀q:Int, -1≤q→q≤9007199254740992→Sat (lU N (fW N s 10 m) s 10 (i:Int) q) fun _=>True:=fun hi q g0 g1=>by
   unfold lU;exact aT (by constructor<;>omega) (zb N s hs m (i+1) q O O g0 g1)
  have h12:i<s.size→ ∀q:Int, -1≤q→Sat (kZ N (fW N s 10 m) s 10 (i:Int) q) fun _=>True:=fun hi q g0=>by
   unfold kZ
   exact bn (fun _=>h7 hi _ O O) fun h=>h7 hi _ g0 O
  rw [fW.eq_2]
  refine bn (fun hi=>(tt O hi).bind fun x hx=>(FN N hx.1 hx.2).bind fun y hy=>bn (fun _=>ak trivial) fun hy0=>bn (fun hp=> ?_) fun hp=>h12 O p h2) fun _=>ak trivial
  exact aT (by constructor<;>omega) (aT (by constructor<;>omega) (h12 O _ O))
theorem Da (N:Nat)(hN:5000≤N)(s:ByteArray):Sat (pX N s) fun _=>True:=by
 unfold pX;by_cases h10:s.size≤10
 ·cases e:(s.toList==(⟨#[]⟩:ByteArray).toList) with
  |true=>exact ak trivial
  | false=>
   have hs:0<s.size:=by
    rcases Nat.eq_zero_or_pos s.size with h|h
    ·exfalso
     have:s=⟨#[]⟩:=by
      obtain ⟨d⟩:=s;have:d= #[]:=Array.eq_empty_of_size_eq_zero h;rw [this]
     rw [this] at e;rw [beq_self_eq_true] at e;cases e
    exact h
   show Sat (Option.bind (some (decide (10<(s.size:Int)))) _) _;rw [bs,Mv O];show Sat (Option.bind ((xe s 0).bind _) _) _
   refine Sat.bind (P:=fun _=>True) ((tt O O).bind fun x _=>bC (P:=fun _=>True) (fun _=>ak trivial) (fun _=>ak trivial) fun _ _=>ak trivial) fun b _=> ?_
   refine aX (fun _=>ak trivial) fun _=>Sat.bind (P:=fun _=>True) (zb N s h10 N 0 0 O O O O) fun y _=> ?_
   (repeat' first|exact ak trivial|refine Sat.bind (P:=fun _=>True) ?_ (fun _ _=> ?_)|refine aX (fun _=> ?_) (fun _=> ?_))
 have:(bif s.toList==(⟨#[]⟩:ByteArray).toList then (some true) else (some (decide (10<(s.size:Int)))))=some true:=by
  cases s.toList==(⟨#[]⟩:ByteArray).toList with
  |true=>rfl
  |false=>show some _=_;rw [Mu O]
 rw [this];exact ak trivial
theorem C1 (N:Nat)(hN:5000≤N)(k:Mn):Sat (pW N k) fun _=>True:=by
 unfold pW
 refine bn (fun _=>by (repeat' first|exact ak trivial|refine Sat.bind (P:=fun _=>True) ?_ (fun _ _=> ?_)|refine aX (fun _=> ?_) (fun _=> ?_))) fun _=>bn (fun _=>Sat.bind (P:=fun _=>True) (Da N hN k.S) fun _ _=>by (repeat' first|exact ak trivial|refine Sat.bind (P:=fun _=>True) ?_ (fun _ _=> ?_)|refine aX (fun _=> ?_) (fun _=> ?_))) fun _=>bn (fun _=>by (repeat' first|exact ak trivial|refine Sat.bind (P:=fun _=>True) ?_ (fun _ _=> ?_)|refine aX (fun _=> ?_) (fun _=> ?_))) fun _=>ak trivial
theorem Dq (N:Nat){a:Int}(h0:0≤a)(h1:a≤15){b:Int}(hb:1≤b):Sat (oZ N a b) fun _=>True:=by
 unfold oZ;refine aT ⟨by omega,?_⟩ (ak trivial);rw [Int.tdiv_eq_ediv_of_nonneg h0];have:=Int.ediv_nonneg h0 (show 0≤b by omega);have:=Int.ediv_le_self b h0;constructor<;>omega
theorem D0 (N:Nat)(v:Mg)(b:Bool):Sat (pn N v b) fun _=>True:=by
 unfold pn
 (repeat' first|exact ak trivial|refine Sat.bind (P:=fun _=>True) ?_ (fun _ _=> ?_)|refine aX (fun _=> ?_) (fun _=> ?_))
theorem E3 (N:Nat)(p:Me):Sat (lp N p) fun b=>b=true→0≤p.Attrs∧p.Attrs≤15:=by
 unfold lp
 refine bC (P:=fun b=>b=false→0≤p.Attrs∧p.Attrs≤15) (fun _=>ak fun h=>by cases h) (fun e=>ak fun h=> ?_) fun b hb=>aX (fun _=>ak fun h=>by cases h) fun e=> ?_
 ·have h1:=of_decide_eq_false e;have h2:=of_decide_eq_false h;omega
 obtain ⟨h0,h1⟩:=hb e
 refine Sat.mono (R:=fun _=>True) ?_ fun _ _ _=>⟨h0,h1⟩
 refine (Dq N h0 h1 O).bind fun y _=>aX (fun _=> ?_) fun _=>by (repeat' first|exact ak trivial|refine Sat.bind (P:=fun _=>True) ?_ (fun _ _=> ?_)|refine aX (fun _=> ?_) (fun _=> ?_))
 refine (Dq N h0 h1 O).bind fun z _=>Sat.bind (P:=fun _=>True) (by repeat' first|exact ak trivial|refine Sat.bind (P:=fun _=>True) ?_ (fun _ _=> ?_)|refine aX (fun _=> ?_) (fun _=> ?_)) fun _ _=>Sat.bind (P:=fun _=>True) (aX (fun _=>(D0 N _ _).bind fun _ _=>ak trivial) fun _=>ak trivial) fun _ _=>Sat.bind (P:=fun _=>True) (aX (fun _=>(D0 N _ _).bind fun _ _=>ak trivial) fun _=>ak trivial) fun _ _=>ak trivial
structure inP (p:Me):Prop where
 vn:pO p.Value
 gn:pO p.Get
 sn:pO p.Set
 ks:p.Key.S.size≤140737488355328
 vs:p.Value.S.size≤140737488355328
def t5 (N:Nat)(p:Me):Prop:=(0≤p.Attrs∧p.Attrs≤15)∧propV N p
theorem Cf (N:Nat){k:Int}(h:k=0∨k=1∨k=4):qN N ⟨k,0,⟨#[]⟩⟩:=by
 unfold qN;rcases h with h|h|h<;>subst h<;>rw [yz N _ 0 (by decide)]<;>rfl
theorem yd (N:Nat)(hN:20000≤N)(x:Mr)(hx: ∀p∈x.Props,inP p)(hl:x.Props.length≤30): ∀(m j:Nat) (n:Int),x.Props.length<m+j→j≤x.Props.length→0≤n→n≤70000→(∀p∈x.Props.take j,t5 N p)→Sat (fv N x m n (j:Int)) fun b=>b=true→ ∀p∈x.Props,t5 N p
 |0,j,n,h,h1,_,_,_=>by omega
 | m+1,j,n,h,h1,h2,h3,h4=>by
  rw [fv.eq_2]
  refine bn (fun hj=> ?_) fun hj=>ak fun _=>by rw [List.take_of_length_le O] at h4;exact h4
  have hj':j<x.Props.length:=by omega
  rw [km hj',bs];have hin:=hx _ (List.getElem_mem hj')
  have htk:x.Props.take (j+1)=x.Props.take j++ [x.Props[j]]:=by rw [List.take_add_one,List.getElem?_eq_getElem hj'];rfl
  generalize x.Props[j]=p at hin htk;have hks:=hin.ks;have hvs:=hin.vs;refine aT (by constructor<;>omega) (aT (by constructor<;>omega) ?_)
  refine bC (P:=fun b=>b=false→n+((p.Key.S.size:Int)+(p.Value.S.size:Int))≤70000) (fun _=>ak fun h=>by cases h) (fun e=>(C1 N O p.Key).bind fun y _=>ak fun _=>by have:=of_decide_eq_false e;omega) fun b15 h15=> ?_
  refine bC (P:=fun b=>b=false→n+((p.Key.S.size:Int)+(p.Value.S.size:Int))≤70000∧0≤p.Attrs∧p.Attrs≤15) (fun _=>ak fun h=>by cases h) (fun e=>(E3 N p).bind fun y hy=>ak fun h=>⟨h15 e,hy (by cases y<;>first|rfl|cases h)⟩) fun b17 h17=> ?_
  refine bC (P:=fun b=>b=false→b17=false) (fun _=>ak fun h=>by cases h) (fun e=>ak fun _=>e) fun b19 h19=> ?_
  refine bC (P:=fun b=>b=false→b17=false) (fun _=>ak fun h=>by cases h) (fun e=>ak fun _=>h19 e) fun b20 h20=> ?_
  refine bC (P:=fun b=>b=false→b17=false) (fun _=>ak fun h=>by cases h) (fun e=>ak fun _=>h20 e) fun b21 h21=> ?_
  refine bC (P:=fun b=>b=false→b17=false) (fun _=>ak fun h=>by cases h) (fun e=>Sat.bind (P:=fun _=>True) (by repeat' first|exact ak trivial|refine Sat.bind (P:=fun _=>True) ?_ (fun _ _=> ?_)|refine aX (fun _=> ?_) (fun _=> ?_)) fun _ _=>ak fun _=>h21 e) fun b22 h22=> ?_
  refine aX (fun _=>ak fun h=>by cases h) fun e=> ?_
  obtain ⟨q1,q2,q3⟩:=h17 (h22 e)
  have hrec:qN N p.Value→Sat (ku N (fv N x m) (j:Int) x (n+((p.Key.S.size:Int)+(p.Value.S.size:Int)))) fun b=>b=true→ ∀p∈x.Props,t5 N p:=fun hm=>by
   unfold ku;refine aT (by constructor<;>omega) ?_
   refine yd N hN x hx hl m (j+1) _ O O O q1 fun z hz=> ?_
   rw [htk] at hz;rcases List.mem_append.1 hz with hz|hz
   ·exact h4 z hz
   rw [List.mem_singleton] at hz;subst hz;exact ⟨⟨q2,q3⟩,⟨hin.vn,hm⟩,hin.gn,hin.sn⟩
  have h25: ∀b:Bool,(b=true→p.Value.Kind=0∨p.Value.Kind=1∨p.Value.Kind=4)→Sat (jt N (fv N x m) n p (j:Int) x b) fun b=>b=true→ ∀p∈x.Props,t5 N p:=fun b hb=>by
   unfold jt
   refine aX (fun eb=>eH (fun _=>ak fun h=>by cases h) fun ev=>hrec ?_) fun _=>bn (fun h3k=> ?_) fun _=>bn (fun h5k=> ?_) fun _=>ak fun h=>by cases h
   ·have e3:=of_decide_eq_true ev;rw [e3];exact Cf N (hb eb)
   ·refine bC (P:=fun b=>b=false→p.Value.S.toList==(⟨#[]⟩:ByteArray).toList∧ -9007199254740992≤p.Value.N) (fun _=>ak fun h=>by cases h) (fun e=>ak fun h=>⟨by cases hh:(p.Value.S.toList==(⟨#[]⟩:ByteArray).toList)<;>first|rfl|(rw [hh] at e;cases e),by have:=of_decide_eq_false h;omega⟩) fun b32 h32=> ?_
    refine bC (P:=fun b=>b=false→(p.Value.S.toList==(⟨#[]⟩:ByteArray).toList∧ -9007199254740992≤p.Value.N)∧p.Value.N≤9007199254740992) (fun _=>ak fun h=>by cases h) (fun e=>ak fun h=>⟨h32 e,by have:=of_decide_eq_false h;omega⟩) fun b33 h33=> ?_
    refine aX (fun _=>ak fun h=>by cases h) fun e=>hrec ?_
    obtain ⟨⟨g1,g2⟩,g3⟩:=h33 e;unfold qN ii;rw [Mv (show¬p.Value.Kind=5 by omega),cf,g1,nt,cf,Mv (show¬p.Value.Kind=2 by omega),cf,Mu h3k,ct,Mu g2,ct,Mu g3];rfl
   refine bC (P:=fun b=>b=false→p.Value.N=0∧(p.Value.S.size:Int)≤65536) (fun _=>ak fun h=>by cases h) (fun e=>ak fun h=>⟨by rw [Bool.not_eq_false'] at e;exact of_decide_eq_true e,by have:=of_decide_eq_false h;omega⟩) fun b36 h36=> ?_
   refine aX (fun _=>ak fun h=>by cases h) fun e=>hrec ?_
   obtain ⟨g1,g2⟩:=h36 e;unfold qN ii;rw [Mu h5k,ct,Mu g1,ct,Mu g2];rfl
  exact bn (fun hk=>h25 _ fun _=> .inl hk) fun _=>bn (fun hk=>h25 _ fun _=> .inr (.inl hk)) fun _=>h25 _ fun hk=> .inr (.inr (of_decide_eq_true hk))
theorem C0 (N:Nat)(hN:20000≤N)(x:Mr)(hx: ∀p∈x.Props,inP p):Sat (lF N x) fun b=>b=true→x.Props.length≤30∧ ∀p∈x.Props,t5 N p:=by
 unfold lF
 refine bn (fun _=>ak fun h=>by cases h) fun h=> ?_
 exact (yd N hN x hx O N 0 0 O O O O (by simp)).mono fun b hb hb2=>⟨by omega,hb hb2⟩
theorem Kz (N:Nat){p:Me}(h:t5 N p):Sat (sw N p) (descV N):=by
 obtain ⟨⟨h0,h1⟩,hp⟩:=h;unfold sw
 refine (Dq N h0 h1 O).bind fun y _=>aX (fun _=>aT (by constructor<;>omega) (ak ⟨xV N,hp.g,hp.s⟩)) fun _=>ak ⟨hp.v,qt,qt⟩
set_option maxRecDepth 20000
section
variable {N:Nat} (hN:20000≤N)
include hN
theorem Aa (x:Mr)(hx:x.Props.length≤30)(hg: ∀p∈x.Props,t5 N p){v:Mg}{i:Nat}(hv:v.Kind=7)(hvN:v.N=2*i+1){k:Nat}(hk:k≤1000): ∀(m j:Nat) (w:Md) (c:Mb) (l:List (Mn×Int)),x.Props.length<m+j→j≤x.Props.length→InvC N i (k+1048576*j) w c l→Sat (lP N x v.Kind v.N v.S m (j:Int) w.spent_.steps_ w.spent_.made_ w.spent_.calls_ w.config_.Way w.config_.Steps w.config_.Calls w.config_.Made w.config_.Young w.config_.Full w.config_.Sites w.symbols_ w.epoch_ w.serial_ w.sleepers_ w.events_ w.out_ w.heap_.m_.Young w.heap_.m_.Old w.heap_.roots_ w.heap_.pending_ w.shapes_.shapes_ w.shapes_.next_ w.heap_.set_.at_) fun r=>r.1=v∧r.2.1=true∧ ∃c' l',InvC N i (k+40000000) r.2.2 c' l'
 |0,j,w,c,l,h0,h1,_=>by omega
 | m+1,j,w,c,l,h0,h1,h=>by
  rw [lP.eq_2]
  refine bn (fun hj=> ?_) fun hj=> ?_
  ·have hj':j<x.Props.length:=by omega
   have hp:=hg _ (List.getElem_mem hj');rw [km hj',bs,bs]
   refine (Kz N hp).bind fun d hd=> ?_
   refine (AS hN hv hvN h O x.Props[j].Key hd 1048576 O (fun _=>Nat.le_refl _)).bind fun r hr=> ?_
   obtain ⟨c',l',g1,g2⟩:=hr;exact aT (by constructor<;>omega) (Aa x hx hg hv hvN hk m (j+1) r.2.2 c' l' O O (by rw [Nat.mul_add, ←Nat.add_assoc];exact g1))
  unfold sc oJ
  refine aX (fun _=> ?_) fun _=>ak ⟨J,J,c,l,h.more O⟩
  obtain ⟨s1,s2⟩:=AB hN hv hvN O h
  refine Sat.bind ⟨_,s1,J⟩ fun w' hw'=> ?_
  have e:zu w (w.heap_.m_.Young.set i (pQ c))=w':=hw';subst e;exact ak ⟨J,J,pQ c,l,s2.more O⟩
theorem K1 {w:Md}{k:Nat}(hk:k≤1000)(hm:Mem w k)(hti:TI N w.shapes_)(htb:w.shapes_.shapes_.length≤k)(hrow:Row w.shapes_ 0 [])(hmade:0≤w.spent_.made_∧w.spent_.made_<w.config_.Made∧w.config_.Made≤1000000){p:Mg}(hp:ep N w 2=some p)(hpk:p.Kind=7)(hpv:vK N p)(q:List Mg)(hq:q.length≤100)(hqv: ∀x∈q,vK N x):Sat (nT N w q) fun r=>r.2.1=true∧r.1.Kind=7∧ ∃i c,r.1.N=2*(i:Nat)+1∧InvC N i (k+1) r.2.2 c []:=by
 have hrc:RC N ⟨2,0,1,0,[p],q⟩:=⟨.inr rfl,by show (0:Int)≤0;decide,⟨by show (0:Int)≤1;decide,by show (1:Int)≤63;decide⟩,.inl rfl,fun x hx=>by rw [List.mem_singleton.1 hx];exact hpv.2,fun x hx=>(hqv x hx).2,by show 1≤1025;decide,⟨p,rfl,.inr hpk⟩,by show q.length≤4096;omega,fun e=>by exact absurd e (by show¬(2:Int)=1;decide)⟩;have hgc:goodC ⟨2,0,1,0,[p],q⟩:=⟨by show 1≤5000;decide,by show q.length≤5000;omega,fun x hx=>by rw [List.mem_singleton.1 hx];exact hpv.1,fun x hx=>(hqv x hx).1⟩;have hlen:=hm.len;unfold nT iW f5;rw [hp,bs,Mv O,cf,show cm N w.heap_=some false from rfl,bs,cf,hrc.right hN,bs,nt,cf,vl N hgc,bs];rw [jC (by unfold fu;rw [List.length_singleton];omega),jC (by rw [List.length_append,List.length_singleton];constructor<;>omega),jC (by rw [List.length_append,List.length_singleton];constructor<;>omega),bs];show Sat (Option.bind (cR _ _) _) _;rw [jC (by constructor<;>omega),bs];refine ak ⟨J,J,w.heap_.m_.Young.length,⟨2,0,1,0,[p],q⟩,?_,⟨⟨hm.old,fun x hx=> ?_,?_⟩,hti,by show w.shapes_.shapes_.length≤k+1;omega,?_,hrc,hrow,rfl,by simp,by show aM .i64 1 16=0;decide+kernel,fun _ x hx=>by cases hx⟩⟩
 ·show 2*((((w.heap_.m_.Young++ [_]).length:Nat)):Int) - 1=_;rw [List.length_append,List.length_singleton];omega
 ·rcases List.mem_append.1 hx with hx|hx
  ·exact hm.good x hx
  rw [List.mem_singleton] at hx;subst hx;exact hgc
 ·show (w.heap_.m_.Young++ [_]).length≤k+1;rw [List.length_append,List.length_singleton];omega
 show (w.heap_.m_.Young++ [_])[w.heap_.m_.Young.length]? =_;simp
theorem KJ (a:Int):0≤aM .i64 a 15∧aM .i64 a 15≤15:=by
 have:=hN
 have h:(BitVec.ofInt IntKind.i64.bits a&&&BitVec.ofInt IntKind.i64.bits 15).toNat≤15:=by
  rw [BitVec.toNat_and];exact Nat.and_le_right
 unfold aM;rw [IntWalk.i64_in _ ⟨by omega,by omega⟩];omega
def He (N:Nat)(r:Mg×Bool×Md):Prop:=r.2.1=true∧ ∃i c l,r.1.Kind=7∧r.1.N=2*(i:Nat)+1∧InvC N i 50000000 r.2.2 c l
theorem DU (x:Mr)(hx:x.Props.length≤30)(hg: ∀p∈x.Props,t5 N p){v:Mg}{i:Nat}(hv:v.Kind=7)(hvN:v.N=2*i+1){k:Nat}(hk:k≤1000){w:Md}{c:Mb}{l:List (Mn×Int)}(h:InvC N i k w c l):Sat (lP N x v.Kind v.N v.S N 0 w.spent_.steps_ w.spent_.made_ w.spent_.calls_ w.config_.Way w.config_.Steps w.config_.Calls w.config_.Made w.config_.Young w.config_.Full w.config_.Sites w.symbols_ w.epoch_ w.serial_ w.sleepers_ w.events_ w.out_ w.heap_.m_.Young w.heap_.m_.Old w.heap_.roots_ w.heap_.pending_ w.shapes_.shapes_ w.shapes_.next_ w.heap_.set_.at_) (He N):=
 (Aa hN x hx hg hv hvN hk N 0 w c l O O h).mono fun r hr=>by
  obtain ⟨h1,h2,c',l',h3⟩:=hr;exact ⟨h2,i,c',l',by rw [h1];exact hv,by rw [h1];exact hvN,h3.more O⟩
theorem DV (x:Mr)(hx:x.Props.length≤30)(hg: ∀p∈x.Props,t5 N p)(y:Mg×Bool×Md){k:Nat}(hk:k≤900)(hm:Mem y.2.2 k)(hti:TI N y.2.2.shapes_)(htb:y.2.2.shapes_.shapes_.length≤k)(hrow:Row y.2.2.shapes_ 0 [])(hmade:0≤y.2.2.spent_.made_∧y.2.2.spent_.made_<y.2.2.config_.Made∧y.2.2.config_.Made≤1000000){p:Mg}(hp:ep N y.2.2 2=some p)(hpk:p.Kind=7)(hpv:vK N p): ∀(m j:Nat) (q:List Mg),20<m+j→j≤15→q.length=j→(∀x∈q,vK N x)→Sat (pN N y x m q (j:Int)) (He N)
 |0,j,q,h0,h1,_,_=>by omega
 | m+1,j,q,h0,h1,h2,h3=>by
  have h15:=KJ hN x.Elements;rw [pN.eq_2]
  refine bn (fun hj=> ?_) fun hj=> ?_
  ·unfold lG;rw [bs];refine aT (by unfold fu;rw [List.length_singleton];omega) (aT (by constructor<;>omega) ?_)
   refine DV x hx hg y hk hm hti htb hrow hmade hp hpk hpv m (j+1) _ O O (by rw [List.length_append,List.length_singleton];omega) fun z hz=> ?_
   rcases List.mem_append.1 hz with hz|hz
   ·exact h3 z hz
   rw [List.mem_singleton] at hz;subst hz;exact ⟨⟨by show _≤(j:Int);omega,by show (j:Int)≤_;omega⟩,DQ N O O⟩
  unfold sd
  refine (K1 hN O hm hti htb hrow hmade hp hpk hpv q O h3).bind fun r hr=> ?_
  obtain ⟨r1,r2,i,c,r3,r4⟩:=hr;unfold nu;rw [r1,nt,cf];exact DU hN x hx hg r2 r3 O r4
structure Fresh (N:Nat) (w0 w1:Md) (v:Mg) (c:Mb) (p:Mg):Prop where
 made:o7 N=some (.inr w0)
 new:oM N w0 ⟨1,0,⟨#[]⟩⟩ 1=some (v,true,w1)
 vk:v.Kind=7
 vn:v.N=2*(20:Nat)+1
 inv:InvC N 20 100 w1 c []
 row:Row w1.shapes_ 0 []
 bud:0≤w1.spent_.made_∧w1.spent_.made_<w1.config_.Made∧w1.config_.Made≤1000000
 prt:ep N w1 2=some p
 pk:p.Kind=7
 pv:vK N p
theorem Gk {w0 w1:Md}{v:Mg}{c:Mb}{p:Mg}(hf:Fresh N w0 w1 v c p)(x:Mr)(hx:x.Props.length≤30)(hg: ∀p∈x.Props,t5 N p):Sat (qE N w0 x) (He N):=by
 unfold qE;rw [hf.new,bs]
 refine aX (fun _=> ?_) fun _=> ?_
 ·exact DV hN x hx hg (v,true,w1) (k:=100) O hf.inv.mem hf.inv.ti hf.inv.tb hf.row hf.bud hf.prt hf.pk hf.pv N 0 [] O O J (by simp)
 unfold nu;show Sat (bif !true then _ else _) _;rw [nt,cf];exact DU hN x hx hg hf.vk hf.vn O hf.inv
theorem vQ (hlv:gK N=some true)(y:Mg×Bool×Md){i:Nat}(hv:y.1.Kind=7)(hvN:y.1.N=2*i+1){k:Nat}(hk:k≤1000000000){w:Md}{c:Mb}{l:List (Mn×Int)}(h:InvC N i k w c l):Sat (dI N y w.spent_.steps_ w.spent_.made_ w.spent_.calls_ w.config_.Way w.config_.Steps w.config_.Calls w.config_.Made w.config_.Young w.config_.Full w.config_.Sites w.symbols_ w.epoch_ w.serial_ w.sleepers_ w.events_ w.out_ w.heap_.m_.Young w.heap_.m_.Old w.heap_.roots_ w.heap_.pending_ w.shapes_.shapes_ w.shapes_.next_ w.heap_.set_.at_) (· =true):=by
 obtain ⟨ks,hk1,hk2⟩:=Ff hN hv hvN hk h
 have hm:=fun key=>HH hN hv hvN hk h key
 have e1:=Cm false 4 (po N w y.1) (fun key=>(Cl (hm key)).1) ks;have e2:=Cm true 5 (po N w y.1) (fun key=>(Cl (hm key)).2) ks
 have hlen:(ks.map (po N w y.1)).length≤6000:=by rw [List.length_map];exact hk2
 unfold dI
 refine Sat.bind ⟨_,E5 hN hv hvN hk h ks hk1 hk2,J⟩ fun P hP=> ?_
 have hP':ks.map (po N w y.1)=P:=hP;subst hP'
 refine Sat.bind ⟨_,HN hN hv hvN hk h,J⟩ fun E hE=> ?_
 have hE':(!decide (aM .i64 c.Flags 1=0))=E:=hE
 refine Sat.bind ⟨_,CY hN hv hvN hk h ks hk1 hk2,J⟩ fun S hS=> ?_
 have hS':(decide (aM .i64 c.Flags 1=0)&&ks.all fun key=>decide (aM .i64 (po N w y.1 key).Attrs 4=0))=S:=hS;rw [Gm N _ E false O O,bs]
 have q1:S=(!E&&decide ((ks.map (po N w y.1)).map (t4 false)=ks.map (po N w y.1))):=by
  rw [←hS', ←hE',e1,Bool.not_not]
 rw [←q1,beq_self_eq_true,ct]
 refine Sat.bind (P:=(· =true)) ?_ fun b hb=> ?_
 ·refine Sat.bind ⟨_,Df hN hv hvN hk h ks hk1 hk2,J⟩ fun F hF=> ?_
  have hF':(decide (aM .i64 c.Flags 1=0)&&ks.all fun key=>decide (aM .i64 (po N w y.1 key).Attrs 5=0))=F:=hF;rw [Gm N _ E true O O,bs]
  have q2:F=(!E&&decide ((ks.map (po N w y.1)).map (t4 true)=ks.map (po N w y.1))):=by
   rw [←hF', ←hE',e2,Bool.not_not]
  rw [←q2,beq_self_eq_true];exact ak J
 rw [hb,ct,hlv,bs,bs];exact ak J
theorem Hr {w0 w1:Md}{v:Mg}{c:Mb}{p:Mg}(hf:Fresh N w0 w1 v c p)(hlv:gK N=some true)(x:Mr)(hx: ∀p∈x.Props,inP p)(n:Int):gL N x n=some true:=by
 refine Sat.eq ?_;unfold gL;rw [hf.made,bs];show Sat (Option.bind (lF N x) _) _
 refine (C0 N hN x hx).bind fun b hb=> ?_
 cases b with
 |false=>
  show Sat (Option.bind (gK N) _) _;rw [hlv,bs];exact ak J
 | true=>
  obtain ⟨h1,h2⟩:=hb rfl;show Sat (Option.bind (qE N w0 x) _) _
  refine (Gk hN hf x h1 h2).bind fun r hr=> ?_
  obtain ⟨r1,i,c,l,r2,r3,r4⟩:=hr;rw [r1,nt,cf]
  refine bn (fun _=> ?_) fun _=>bn (fun _=> ?_) fun _=>vQ hN hlv r r2 r3 (k:=50000000) O r4
  ·refine (Fy hN r2 r3 (k:=50000000) O r4).bind fun q hq=> ?_
   obtain ⟨c',l',q1⟩:=hq;exact vQ hN hlv r r2 r3 O q1
  refine (CB hN r2 r3 (k:=50000000) O r4).bind fun q hq=> ?_
  obtain ⟨c',l',q1⟩:=hq;exact vQ hN hlv r r2 r3 O q1
end
end
section
open Go.RowKit
set_option maxRecDepth 20000
theorem Gj:gK 20000=some true:=by kernel_rfl
def Kn:Md:=match o7 20000 with
 |some (.inr w)=>w
 |_=>default
def w35b:Md:=match oM 20000 Kn ⟨1,0,⟨#[]⟩⟩ 1 with
 |some (_,_,w)=>w
 |_=>default
def Dc (c:Mb):Bool:=Nat.ble c.Slots.length 5000&&Nat.ble c.More.length 5000&&c.Slots.all (fun x=>decide (-9223372036854775808≤x.N)&&decide (x.N≤9223372036854775807))&&c.More.all (fun x=>decide (-9223372036854775808≤x.N)&&decide (x.N≤9223372036854775807))
theorem Fk {c:Mb}(h:Dc c=true):goodC c:=by
 unfold Dc at h;simp only [Bool.and_eq_true,List.all_eq_true,decide_eq_true_eq] at h;exact ⟨Nat.le_of_ble_eq_true h.1.1.1,Nat.le_of_ble_eq_true h.1.1.2,h.1.2,h.2⟩
theorem Hm:(w35b.heap_.m_.Young.all Dc)=true:=by kernel_rfl
theorem Hl:w35b.heap_.m_.Young.length=21:=by kernel_rfl
theorem Dz:w35b.shapes_=⟨[⟨-1,⟨0,0,⟨#[]⟩⟩,0,0⟩],[]⟩:=by kernel_rfl
theorem Lq (N:Nat):TI N ⟨[⟨-1,⟨0,0,⟨#[]⟩⟩,0,0⟩],[]⟩:=by
 refine ⟨fun i s h=> ?_,fun k j h=>by cases h⟩;have hlt:=h.lt
 have:i=0:=by
  have h1:i<((1:Nat):Int):=hlt.2;have:=hlt.1;omega
 subst this;have:s=⟨-1,⟨0,0,⟨#[]⟩⟩,0,0⟩:=(Option.some.inj h.2).symm;subst this;exact ⟨by decide,by decide,fun h=>by exact absurd h (by decide)⟩
theorem HU:Fresh 20000 Kn w35b ⟨7,41,⟨#[]⟩⟩ ⟨1,0,1,0,[⟨1,0,⟨#[]⟩⟩],[]⟩ ⟨7,5,⟨#[]⟩⟩ where
 made:=by kernel_rfl
 new:=by kernel_rfl
 vk:=rfl
 vn:=rfl
 inv:=by
  have hrow:Row w35b.shapes_ 0 []:=by rw [Dz];exact .nil (s:=⟨-1,⟨0,0,⟨#[]⟩⟩,0,0⟩) ⟨by decide,rfl⟩ J
  refine ⟨⟨by kernel_rfl,fun x hx=>Fk (List.all_eq_true.1 Hm x hx),by rw [Hl];decide⟩,by rw [Dz];exact Lq _,by rw [Dz];decide,by kernel_rfl,?_⟩;refine ⟨⟨.inl J,by decide,⟨by decide,by decide⟩,.inl rfl,fun x hx=> ?_,(fun x hx=>by cases hx),by show 1≤1025;decide,⟨_,rfl,.inl rfl⟩,by show 0≤4096;decide,fun _=>rfl⟩,hrow,J,by simp,by show aM .i64 1 16=0;decide+kernel,fun e=>by exact absurd e (by show¬(1:Int)=2;decide)⟩;rw [List.mem_singleton.1 hx];exact Cf 20000 (.inr (.inl J))
 row:=by rw [Dz];exact .nil (s:=⟨-1,⟨0,0,⟨#[]⟩⟩,0,0⟩) ⟨by decide,rfl⟩ J
 bud:=by
  have h1:w35b.spent_.made_=1:=by kernel_rfl
  have h2:w35b.config_.Made=1000:=by kernel_rfl
  rw [h1,h2];decide
 prt:=by kernel_rfl
 pk:=rfl
 pv:=⟨⟨by decide,by decide⟩,by unfold qN;kernel_rfl⟩
theorem BJ (x:Mr)(hx: ∀p∈x.Props,inP p)(n:Int):gL 20000 x n=some true:=Hr (by decide) HU Gj x hx n
theorem JL {p:Me}(h:xR p):inP p:=by
 have hr:reachBytes≤140737488355328:=by decide
 obtain ⟨⟨-, -,h1⟩, -,⟨-,h2,h3⟩,⟨-,h4, -⟩,⟨-,h5, -⟩⟩:=h;exact ⟨h2,h4,h5,Nat.le_trans h1 hr,Nat.le_trans h3 hr⟩
theorem HS {x:Mr}(h:vO x): ∀p∈x.Props,inP p:=fun p hp=>JL (h.2.2.1.2 p hp)
open Go.ChangeShapes Go.WideShapes Go.ChangeAt Go.RowKit Go.Deep
theorem gHole:Tryz.prog.globalNamed "pantomime/array.hole" =some 0:=by kernel_rfl
theorem tHole:(Tryz.prog.globals[0]?).map (·.type)=some 30:=by kernel_rfl
set_option maxRecDepth 100000 in
theorem Fh {W:World}(h:laidMetH Tryz.prog [("pantomime/array.hole",Rows.laid_pantomime_array_hole)] W):(aR 0 30 [.int .i64 8,.int .i64 0,.string ⟨#[]⟩]).ok (fun _=>False) (fun q=>q<W.heap.size) W:=by
 rw [MakeChecks.laidMetH_plain _ _ _ V] at h;obtain ⟨ps,⟨g0,t0,cs0,f0,p0,q0,hg0,ht0,hv0,hd0, -⟩, -, -⟩:=h;obtain rfl:=Option.some.inj (gHole.symm.trans hg0);obtain rfl:=Option.some.inj (tHole.symm.trans ht0);obtain ⟨xs,m,rfl,hx,hl,hn,hf⟩:=DataW.trod_struct LX hd0
 have hc:Tryz.prog.cellsOf 30=3:=by kernel_rfl
 have z3:Tryz.prog.cellsOf 3=1:=by kernel_rfl
 have z9:Tryz.prog.cellsOf 9=1:=by kernel_rfl
 rw [hc] at hl;obtain ⟨l⟩:=cs0;have hn':xs.length=3:=hn
 match l,xs,hl,hn',hf,hv0,hx with
 | [c0,c1,c2],[x0,x1,x2],_,_,hf,hv0,hx=>
  have k0:DataW.trod (fun _=>()) Tryz.prog W 0 (fun _=>true) false m 3 (List.take (Tryz.prog.cellsOf 3) (List.drop 0 [c0,c1,c2]))=[x0,x1,x2][0]? :=hf 0 _ rfl;have k1:DataW.trod (fun _=>()) Tryz.prog W 0 (fun _=>true) false m 3 (List.take (Tryz.prog.cellsOf 3) (List.drop 1 [c0,c1,c2]))=[x0,x1,x2][1]? :=hf 1 _ rfl;have k2:DataW.trod (fun _=>()) Tryz.prog W 0 (fun _=>true) false m 9 (List.take (Tryz.prog.cellsOf 9) (List.drop 2 [c0,c1,c2]))=[x0,x1,x2][2]? :=hf 2 _ rfl;simp only [z3,z9,List.drop_succ_cons,List.drop_zero,List.take_succ_cons,List.take_zero,List.getElem?_cons_zero,List.getElem?_cons_succ] at k0 k1 k2;obtain ⟨n0,e0,d0, -⟩:=DataW.trod_int EM k0;obtain ⟨n1,e1,d1, -⟩:=DataW.trod_int EM k1;obtain ⟨s2,e2,d2, -⟩:=DataW.trod_string Ex k2
  have hx':[(DataW.lit (.int .i64 8):DataW Unit),.lit (.int .i64 0),.lit (.string [])]=[x0.1,x1.1,x2.1]:=by
   have:=congrArg Prod.fst hx;exact DataW.agg.inj this
  rw [d0,d1,d2] at hx';simp only [List.cons.injEq,DataW.lit.injEq,Lit.int.injEq,Lit.string.injEq,and_true,true_and] at hx';obtain ⟨rfl,rfl,hs⟩:=hx';obtain rfl:=(List.cons.inj e0).1;obtain rfl:=(List.cons.inj e1).1;obtain rfl:=(List.cons.inj e2).1
  have hs2:s2=⟨#[]⟩:=by
   obtain ⟨⟨a⟩⟩:=s2;simp only at hs;rw [←hs]
  subst hs2;simp only [World.var?,gHole,Option.bind_some] at hv0;split at hv0
  ·rename_i cs t p hh
   obtain rfl:=ap hv0;have hr:RBlk W 0 #[.int .i64 8,.int .i64 0,.string ⟨#[]⟩]:=⟨t,p,hh⟩;exact ⟨hr.lt,hr⟩
  cases hv0
end
end Go.Proofs.YtanojiedimeegaaGreatDoor