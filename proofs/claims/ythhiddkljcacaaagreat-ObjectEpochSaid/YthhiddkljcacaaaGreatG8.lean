/- Merged texts: part 8. No conditions of their own. -/
import Derived.Test.YthhiddkljcacaaaGreatG2
import Derived.Test.YthhiddkljcacaaaGreatG7
import Derived.Test.YthhiddkljcacaaaGreatG1
import Derived.ProofKit
namespace Go.Proofs.YthhiddkljcacaaaGreat
variable (N:Nat){b held:Bool}{a x:Int}{p:Int->Bool}{met:List (Int×Unit)}{f l live row:List Int}{b0 i k:Nat}{spare:Nat->Bool}{H α β σ:Type}{c:VJ}{v:VN}{m:VR}{W:World}
section
open Go.RowKit Go.ChangeShapes Go.WideShapes Go.Deep
theorem VE:type_of% Tryz.underlying38:=Tryz.underlying38
theorem VD:type_of% Tryz.underlying36:=Tryz.underlying36
theorem VC:type_of% Tryz.underlying29:=Tryz.underlying29
theorem VB:type_of% Tryz.underlying34:=Tryz.underlying34
def K5 (x:VI):Prop:=(in64 x.XZ)/\(in64 x.N)/\(x.S.size<=reachBytes)
set_option maxRecDepth 100000 in
theorem Mn:JS Wc 34 Bq K5:=fun {_ enc w base spare held _ cs y} h hw=>by
 obtain ⟨xs,m, -,hy,hl,hx,hf⟩:=DataW.trod_struct VB h
 have hc:Tryz.prog.cellsOf 34=3:=by kernel_rfl
 rw [hc] at hl
 match cs,hl,hf with
 | [c0,c1,c2],_,hf=>
  have k0:DataW.trod enc Wc w base spare held m 3 (List.take (Tryz.prog.cellsOf 3) (List.drop 0 [c0,c1,c2]))=xs[0]? :=hf 0 _ rfl
  have z0:Tryz.prog.cellsOf 3=1:=by kernel_rfl
  simp only [z0,WB,WC,Xo,Xp] at k0
  have l0:0<xs.length:=by rw [hx];decide
  obtain ⟨a0,r0,w0⟩:=(Rdr.w (ra Ex)) (k0.trans (WO l0)) (dV VB hy hw (i:=0) rfl (WO l0));have k1:DataW.trod enc Wc w base spare held m 3 (List.take (Tryz.prog.cellsOf 3) (List.drop 1 [c0,c1,c2]))=xs[1]? :=hf 1 _ rfl
  have z1:Tryz.prog.cellsOf 3=1:=by kernel_rfl
  simp only [z1,WB,WC,Xo,Xp] at k1
  have l1:1<xs.length:=by rw [hx];decide
  obtain ⟨a1,r1,w1⟩:=(Rdr.w (ra Ex)) (k1.trans (WO l1)) (dV VB hy hw (i:=1) rfl (WO l1));have k2:DataW.trod enc Wc w base spare held m 9 (List.take (Tryz.prog.cellsOf 9) (List.drop 2 [c0,c1,c2]))=xs[2]? :=hf 2 _ rfl
  have z2:Tryz.prog.cellsOf 9=1:=by kernel_rfl
  simp only [z2,WB,WC,Xo,Xp] at k2
  have l2:2<xs.length:=by rw [hx];decide
  obtain ⟨a2,r2,w2⟩:=(IQ Vs) (k2.trans (WO l2)) (dV VB hy hw (i:=2) rfl (WO l2));obtain ⟨rfl, -⟩:=Ww (show [c0]=[_] from r0);obtain ⟨rfl, -⟩:=Ww (show [c1]=[_] from r1);obtain ⟨rfl, -⟩:=Ww (show [c2]=[_] from r2);exact ⟨⟨a0,a1,a2⟩,J,⟨w0,w1,w2⟩⟩
def vG (x:VN):Prop:=(in64 x.XZ)/\(in64 x.N)/\(x.S.size<=reachBytes)
set_option maxRecDepth 100000 in
theorem uP:JS Wc 29 av vG:=fun {_ enc w base spare held _ cs y} h hw=>by
 obtain ⟨xs,m, -,hy,hl,hx,hf⟩:=DataW.trod_struct VC h
 have hc:Tryz.prog.cellsOf 29=3:=by kernel_rfl
 rw [hc] at hl
 match cs,hl,hf with
 | [c0,c1,c2],_,hf=>
  have k0:DataW.trod enc Wc w base spare held m 3 (List.take (Tryz.prog.cellsOf 3) (List.drop 0 [c0,c1,c2]))=xs[0]? :=hf 0 _ rfl
  have z0:Tryz.prog.cellsOf 3=1:=by kernel_rfl
  simp only [z0,WB,WC,Xo,Xp] at k0
  have l0:0<xs.length:=by rw [hx];decide
  obtain ⟨a0,r0,w0⟩:=(Rdr.w (ra Ex)) (k0.trans (WO l0)) (dV VC hy hw (i:=0) rfl (WO l0));have k1:DataW.trod enc Wc w base spare held m 3 (List.take (Tryz.prog.cellsOf 3) (List.drop 1 [c0,c1,c2]))=xs[1]? :=hf 1 _ rfl
  have z1:Tryz.prog.cellsOf 3=1:=by kernel_rfl
  simp only [z1,WB,WC,Xo,Xp] at k1
  have l1:1<xs.length:=by rw [hx];decide
  obtain ⟨a1,r1,w1⟩:=(Rdr.w (ra Ex)) (k1.trans (WO l1)) (dV VC hy hw (i:=1) rfl (WO l1));have k2:DataW.trod enc Wc w base spare held m 9 (List.take (Tryz.prog.cellsOf 9) (List.drop 2 [c0,c1,c2]))=xs[2]? :=hf 2 _ rfl
  have z2:Tryz.prog.cellsOf 9=1:=by kernel_rfl
  simp only [z2,WB,WC,Xo,Xp] at k2
  have l2:2<xs.length:=by rw [hx];decide
  obtain ⟨a2,r2,w2⟩:=(IQ Vs) (k2.trans (WO l2)) (dV VC hy hw (i:=2) rfl (WO l2));obtain ⟨rfl, -⟩:=Ww (show [c0]=[_] from r0);obtain ⟨rfl, -⟩:=Ww (show [c1]=[_] from r1);obtain ⟨rfl, -⟩:=Ww (show [c2]=[_] from r2);exact ⟨⟨a0,a1,a2⟩,J,⟨w0,w1,w2⟩⟩
def Iz (x:VF):Prop:=(in64 x.Has)/\(in64 x.Yh)/\(vG x.Value)/\(vG x.Yp)/\(vG x.Yr)
set_option maxRecDepth 100000 in
theorem Ki:JS Wc 36 NV Iz:=fun {_ enc w base spare held _ cs y} h hw=>by
 obtain ⟨xs,m, -,hy,hl,hx,hf⟩:=DataW.trod_struct VD h
 have hc:Tryz.prog.cellsOf 36=11:=by kernel_rfl
 rw [hc] at hl
 match cs,hl,hf with
 | [c0,c1,c2,c3,c4,c5,c6,c7,c8,c9,a6],_,hf=>
  have k0:DataW.trod enc Wc w base spare held m 3 (List.take (Tryz.prog.cellsOf 3) (List.drop 0 [c0,c1,c2,c3,c4,c5,c6,c7,c8,c9,a6]))=xs[0]? :=hf 0 _ rfl
  have z0:Tryz.prog.cellsOf 3=1:=by kernel_rfl
  simp only [z0,WB,WC,Xo,Xp] at k0
  have l0:0<xs.length:=by rw [hx];decide
  obtain ⟨a0,r0,w0⟩:=(Rdr.w (ra Ex)) (k0.trans (WO l0)) (dV VD hy hw (i:=0) rfl (WO l0));have k1:DataW.trod enc Wc w base spare held m 3 (List.take (Tryz.prog.cellsOf 3) (List.drop 1 [c0,c1,c2,c3,c4,c5,c6,c7,c8,c9,a6]))=xs[1]? :=hf 1 _ rfl
  have z1:Tryz.prog.cellsOf 3=1:=by kernel_rfl
  simp only [z1,WB,WC,Xo,Xp] at k1
  have l1:1<xs.length:=by rw [hx];decide
  obtain ⟨a1,r1,w1⟩:=(Rdr.w (ra Ex)) (k1.trans (WO l1)) (dV VD hy hw (i:=1) rfl (WO l1));have k2:DataW.trod enc Wc w base spare held m 29 (List.take (Tryz.prog.cellsOf 29) (List.drop 2 [c0,c1,c2,c3,c4,c5,c6,c7,c8,c9,a6]))=xs[2]? :=hf 2 _ rfl
  have z2:Tryz.prog.cellsOf 29=3:=by kernel_rfl
  simp only [z2,WB,WC,Xo,Xp] at k2
  have l2:2<xs.length:=by rw [hx];decide
  obtain ⟨a2,r2,w2⟩:=uP (k2.trans (WO l2)) (dV VD hy hw (i:=2) rfl (WO l2));have k3:DataW.trod enc Wc w base spare held m 29 (List.take (Tryz.prog.cellsOf 29) (List.drop 5 [c0,c1,c2,c3,c4,c5,c6,c7,c8,c9,a6]))=xs[3]? :=hf 3 _ rfl
  have z3:Tryz.prog.cellsOf 29=3:=by kernel_rfl
  simp only [z3,WB,WC,Xo,Xp] at k3
  have l3:3<xs.length:=by rw [hx];decide
  obtain ⟨a3,r3,w3⟩:=uP (k3.trans (WO l3)) (dV VD hy hw (i:=3) rfl (WO l3));have k4:DataW.trod enc Wc w base spare held m 29 (List.take (Tryz.prog.cellsOf 29) (List.drop 8 [c0,c1,c2,c3,c4,c5,c6,c7,c8,c9,a6]))=xs[4]? :=hf 4 _ rfl
  have z4:Tryz.prog.cellsOf 29=3:=by kernel_rfl
  simp only [z4,WB,WC,Xo,Xp] at k4
  have l4:4<xs.length:=by rw [hx];decide
  obtain ⟨a4,r4,w4⟩:=uP (k4.trans (WO l4)) (dV VD hy hw (i:=4) rfl (WO l4));obtain ⟨rfl, -⟩:=Ww (show [c0]=[_] from r0);obtain ⟨rfl, -⟩:=Ww (show [c1]=[_] from r1);have e2:[c2,c3,c4]=[.int .i64 a2.XZ,.int .i64 a2.N,.string a2.S]:=r2;simp only [Wx,and_true] at e2;obtain ⟨rfl,rfl,rfl⟩:=e2;have e3:[c5,c6,c7]=[.int .i64 a3.XZ,.int .i64 a3.N,.string a3.S]:=r3;simp only [Wx,and_true] at e3;obtain ⟨rfl,rfl,rfl⟩:=e3;have e4:[c8,c9,a6]=[.int .i64 a4.XZ,.int .i64 a4.N,.string a4.S]:=r4;simp only [Wx,and_true] at e4;obtain ⟨rfl,rfl,rfl⟩:=e4;exact ⟨⟨a0,a1,a2,a3,a4⟩,J,⟨w0,w1,w2,w3,w4⟩⟩
def Hq (x:VM):Prop:=(in64 x.XZ)/\(in64 x.O)/\(in64 x.P)/\(K5 x.K)/\(Iz x.D)/\(vG x.V)/\(in64 x.Yh)
set_option maxRecDepth 100000 in
theorem NR:JS Wc 38 EQ Hq:=fun {_ enc w base spare held _ cs y} h hw=>by
 obtain ⟨xs,m, -,hy,hl,hx,hf⟩:=DataW.trod_struct VE h
 have hc:Tryz.prog.cellsOf 38=21:=by kernel_rfl
 rw [hc] at hl
 match cs,hl,hf with
 | [c0,c1,c2,c3,c4,c5,c6,c7,c8,c9,a8,b0,b5,b6,b7,b9,d0,d1,d2,d3,d4],_,hf=>
  have k0:DataW.trod enc Wc w base spare held m 3 (List.take (Tryz.prog.cellsOf 3) (List.drop 0 [c0,c1,c2,c3,c4,c5,c6,c7,c8,c9,a8,b0,b5,b6,b7,b9,d0,d1,d2,d3,d4]))=xs[0]? :=hf 0 _ rfl
  have z0:Tryz.prog.cellsOf 3=1:=by kernel_rfl
  simp only [z0,WB,WC,Xo,Xp] at k0
  have l0:0<xs.length:=by rw [hx];decide
  obtain ⟨a0,r0,w0⟩:=(Rdr.w (ra Ex)) (k0.trans (WO l0)) (dV VE hy hw (i:=0) rfl (WO l0));have k1:DataW.trod enc Wc w base spare held m 3 (List.take (Tryz.prog.cellsOf 3) (List.drop 1 [c0,c1,c2,c3,c4,c5,c6,c7,c8,c9,a8,b0,b5,b6,b7,b9,d0,d1,d2,d3,d4]))=xs[1]? :=hf 1 _ rfl
  have z1:Tryz.prog.cellsOf 3=1:=by kernel_rfl
  simp only [z1,WB,WC,Xo,Xp] at k1
  have l1:1<xs.length:=by rw [hx];decide
  obtain ⟨a1,r1,w1⟩:=(Rdr.w (ra Ex)) (k1.trans (WO l1)) (dV VE hy hw (i:=1) rfl (WO l1));have k2:DataW.trod enc Wc w base spare held m 3 (List.take (Tryz.prog.cellsOf 3) (List.drop 2 [c0,c1,c2,c3,c4,c5,c6,c7,c8,c9,a8,b0,b5,b6,b7,b9,d0,d1,d2,d3,d4]))=xs[2]? :=hf 2 _ rfl
  have z2:Tryz.prog.cellsOf 3=1:=by kernel_rfl
  simp only [z2,WB,WC,Xo,Xp] at k2
  have l2:2<xs.length:=by rw [hx];decide
  obtain ⟨a2,r2,w2⟩:=(Rdr.w (ra Ex)) (k2.trans (WO l2)) (dV VE hy hw (i:=2) rfl (WO l2));have k3:DataW.trod enc Wc w base spare held m 34 (List.take (Tryz.prog.cellsOf 34) (List.drop 3 [c0,c1,c2,c3,c4,c5,c6,c7,c8,c9,a8,b0,b5,b6,b7,b9,d0,d1,d2,d3,d4]))=xs[3]? :=hf 3 _ rfl
  have z3:Tryz.prog.cellsOf 34=3:=by kernel_rfl
  simp only [z3,WB,WC,Xo,Xp] at k3
  have l3:3<xs.length:=by rw [hx];decide
  obtain ⟨a3,r3,w3⟩:=Mn (k3.trans (WO l3)) (dV VE hy hw (i:=3) rfl (WO l3));have k4:DataW.trod enc Wc w base spare held m 36 (List.take (Tryz.prog.cellsOf 36) (List.drop 6 [c0,c1,c2,c3,c4,c5,c6,c7,c8,c9,a8,b0,b5,b6,b7,b9,d0,d1,d2,d3,d4]))=xs[4]? :=hf 4 _ rfl
  have z4:Tryz.prog.cellsOf 36=11:=by kernel_rfl
  simp only [z4,WB,WC,Xo,Xp] at k4
  have l4:4<xs.length:=by rw [hx];decide
  obtain ⟨a4,r4,w4⟩:=Ki (k4.trans (WO l4)) (dV VE hy hw (i:=4) rfl (WO l4));have k5:DataW.trod enc Wc w base spare held m 29 (List.take (Tryz.prog.cellsOf 29) (List.drop 17 [c0,c1,c2,c3,c4,c5,c6,c7,c8,c9,a8,b0,b5,b6,b7,b9,d0,d1,d2,d3,d4]))=xs[5]? :=hf 5 _ rfl
  have z5:Tryz.prog.cellsOf 29=3:=by kernel_rfl
  simp only [z5,WB,WC,Xo,Xp] at k5
  have l5:5<xs.length:=by rw [hx];decide
  obtain ⟨a5,r5,w5⟩:=uP (k5.trans (WO l5)) (dV VE hy hw (i:=5) rfl (WO l5));have k6:DataW.trod enc Wc w base spare held m 3 (List.take (Tryz.prog.cellsOf 3) (List.drop 20 [c0,c1,c2,c3,c4,c5,c6,c7,c8,c9,a8,b0,b5,b6,b7,b9,d0,d1,d2,d3,d4]))=xs[6]? :=hf 6 _ rfl
  have z6:Tryz.prog.cellsOf 3=1:=by kernel_rfl
  simp only [z6,WB,WC,Xo,Xp] at k6
  have l6:6<xs.length:=by rw [hx];decide
  obtain ⟨a6,r6,w6⟩:=(Rdr.w (ra Ex)) (k6.trans (WO l6)) (dV VE hy hw (i:=6) rfl (WO l6));obtain ⟨rfl, -⟩:=Ww (show [c0]=[_] from r0);obtain ⟨rfl, -⟩:=Ww (show [c1]=[_] from r1);obtain ⟨rfl, -⟩:=Ww (show [c2]=[_] from r2);have e3:[c3,c4,c5]=[.int .i64 a3.XZ,.int .i64 a3.N,.string a3.S]:=r3;simp only [Wx,and_true] at e3;obtain ⟨rfl,rfl,rfl⟩:=e3;have e4:[c6,c7,c8,c9,a8,b0,b5,b6,b7,b9,d0]=[.int .i64 a4.Has,.int .i64 a4.Yh,.int .i64 a4.Value.XZ,.int .i64 a4.Value.N,.string a4.Value.S,.int .i64 a4.Yp.XZ,.int .i64 a4.Yp.N,.string a4.Yp.S,.int .i64 a4.Yr.XZ,.int .i64 a4.Yr.N,.string a4.Yr.S]:=r4;simp only [Wx,and_true] at e4;obtain ⟨rfl,rfl,rfl,rfl,rfl,rfl,rfl,rfl,rfl,rfl,rfl⟩:=e4;have e5:[d1,d2,d3]=[.int .i64 a5.XZ,.int .i64 a5.N,.string a5.S]:=r5;simp only [Wx,and_true] at e5;obtain ⟨rfl,rfl,rfl⟩:=e5;obtain ⟨rfl, -⟩:=Ww (show [d4]=[_] from r6);exact ⟨⟨a0,a1,a2,a3,a4,a5,a6⟩,J,⟨w0,w1,w2,w3,w4,w5,w6⟩⟩
set_option maxRecDepth 100000 in
theorem SA {enc:TypeId×Value->H}{r:Reach}{base:Nat}{v:Value}{d:DataW H}{p:List MemPlace}(hv:Value.okWide Wc W r b0 22 v)(h:DataW.Trod enc Wc W base spare held 22 v d p)(hz:Light Wc 22 d): ∃(m:List VM) (Aq_0:Option Addr) (nq_0 cq_0:Nat),v=Y Aq_0 nq_0 cq_0/\(TY (fun z22=>Hq z22) m)/\(iD EQ (Y Aq_0 nq_0 cq_0) m).ok (fun _=>False) (fun q=>q<W.heap.size) W:=by
 obtain ⟨A,n,c,rfl⟩:=okWide_slice EM hv;obtain ⟨fuel,hf⟩:=h;obtain ⟨m,⟨u,e,h1⟩,hw⟩:=(PS EM I (by decide) (XQ I) NR) hf hz;obtain ⟨rfl, -⟩:=Ww (show [_]=[_] from e);exact ⟨m,A,n,c,J,hw,h1⟩
set_option maxRecDepth 100000 in
theorem TC {enc:TypeId×Value->H}{r:Reach}{base:Nat}{v:Value}{d:DataW H}{p:List MemPlace}(hv:Value.okWide Wc W r b0 4 v)(h:DataW.Trod enc Wc W base spare held 4 v d p)(hz:Light Wc 4 d): ∃(m:Bool),v=.bool m/\(True):=by
 obtain ⟨fuel,hf⟩:=h;obtain ⟨m,e,hw⟩:=(Rdr.w (NS Vu)) hf hz;obtain ⟨s,rfl⟩:=okWide_bool Vu hv;obtain ⟨e1, -⟩:=Ww (show [_]=[_] from e);cases e1;exact ⟨_,J,hw⟩
open Go.RowKit
def Sat {ρ:Type}(m:Option ρ)(R:ρ->Prop):Prop:= ∃r,m=some r/\R r
theorem ad {ρ:Type}{x:ρ}{R:ρ->Prop}(h:R x):Sat (some x) R:=⟨x,rfl,h⟩
theorem Sat.eq {ρ:Type}{m:Option ρ}{x:ρ}(h:Sat m (· =x)):m=some x:=by obtain ⟨r,h1,rfl⟩:=h;exact h1
theorem Sat.mono {ρ:Type}{m:Option ρ}{R Q:ρ->Prop}(h:Sat m R)(k:∀x,R x->Q x):Sat m Q:=by obtain ⟨r,h1,h2⟩:=h;exact ⟨r,h1,k _ h2⟩
theorem Sat.bind {ρ:Type}{m:Option σ}{f:σ->Option ρ}{P:σ->Prop}{R:ρ->Prop}(h:Sat m P)(k:∀x,P x->Sat (f x) R):Sat (m.bind f) R:=by obtain ⟨x,rfl,h2⟩:=h;exact k x h2
theorem jI {ρ:Type}{x y:Option ρ}{R:ρ->Prop}(h1:b=true->Sat x R)(h2:b=false->Sat y R):Sat (bif b then x else y) R:=by cases b with|true=>exact h1 rfl|false=>exact h2 rfl
theorem aK {ρ:Type}{p:Prop}[Decidable p]{x y:Option ρ}{R:ρ->Prop}(h1:p->Sat x R)(h2:¬p->Sat y R):Sat (bif decide p then x else y) R:=by
 by_cases h:p
 ·rw [V0 h];exact h1 h
 rw [V1 h];exact h2 h
theorem PP {ρ:Type}{x y:Option ρ}{R:ρ->Prop}(h1:b=false->Sat x R)(h2:b=true->Sat y R):Sat (bif !b then x else y) R:=by cases b with|true=>exact h2 rfl|false=>exact h1 rfl
theorem dN {ρ:Type}{b:Prop}[Decidable b]{m:Option ρ}{R:ρ->Prop}(h:b)(k:Sat m R):Sat (aE b m) R:=by unfold aE;rw [if_pos h];exact k
theorem t6 {ρ:Type}{xs:List α}{i:Int}{f:α->Option ρ}{R:ρ->Prop}(h0:0<=i)(h1:i<xs.length)(k:∀x,xs[i.toNat]? =some x->Sat (f x) R):Sat ((ap xs i).bind f) R:=by
 unfold ap;rw [if_neg U,WO U];exact k _ (WO U)
theorem bs {ρ:Type}{x:σ}{f:σ->Option ρ}:(some x).bind f=f x:=Eq.trans rfl rfl
theorem ct {ρ:Type}{x y:ρ}:(bif true then x else y)=x:=Eq.trans rfl rfl
theorem cf {ρ:Type}{x y:ρ}:(bif false then x else y)=y:=Eq.trans rfl rfl
theorem nt:(!true)=false:=Eq.trans rfl rfl
theorem nf:(!false)=true:=Eq.trans rfl rfl
theorem dr {b:Int}(h:a<b):decide (a<b)=true:=V0 h
theorem db {b:Int}(h:b<=a):decide (a<b)=false:=V1 U
theorem Oy {b:Int}(h:a<=b):decide (a<=b)=true:=V0 h
theorem Oz {b:Int}(h:b<a):decide (a<=b)=false:=V1 U
theorem th {b:Int}(h:a=b):decide (a=b)=true:=V0 h
theorem iX {b:Int}(h:a≠b):decide (a=b)=false:=V1 h
theorem gp {ρ:Type}{b:Prop}[Decidable b]{m:Option ρ}(h:b):aE b m=m:=if_pos h
theorem r64 {ρ:Type}{m:Option ρ}(h1:-9000000000000000000<=a)(h2:a<=9000000000000000000):aE (in64 a) m=m:=if_pos ⟨by omega,by omega⟩
theorem rF {ρ:Type}{n:Nat}{m:Option ρ}(h:n<=1000000):aE (ci n) m=m:=if_pos (by unfold ci;omega)
theorem Qq {xs:List α}{i:Int}(h0:0<=i)(h1:i.toNat<xs.length):ap xs i=some xs[i.toNat]:=by
 unfold ap;rw [if_neg U,WO h1]
theorem aI {xs:List α}(h1:i<xs.length):ap xs (i:Int)=some xs[i]:=by
 unfold ap;rw [if_neg U,Ws,WO h1]
theorem cD {ρ:Type}(L:Nat->Nat->σ->Option ρ)(n:Nat)(Inv:Nat->σ->Prop)(R:ρ->Prop)(round:∀m i s,i<n->Inv i s->(∀s',Inv (i+1) s'->Sat (L m (i+1) s') R)->Sat (L (m+1) i s) R)(fin:∀m s,Inv n s->Sat (L (m+1) n s) R): ∀m i s,n<m+i->i<=n->Inv i s->Sat (L m i s) R
 |0,i,s,h,h2,_=>by omega
 |m+1,i,s,h,h2,hi=>by
  by_cases e:i=n
  ·subst e;exact fin m s hi
  exact round m i s U hi fun s' h'=>cD L n Inv R round fin m (i+1) s' U U h'
theorem rP {ρ:Type}(L:Nat->σ->Option ρ)(v:σ->Nat)(Inv:σ->Prop)(R:ρ->Prop)(round:∀m s,Inv s->(∀s',v s'<v s->Inv s'->Sat (L m s') R)->Sat (L (m+1) s) R): ∀m s,v s<m->Inv s->Sat (L m s) R
 |0,_,h,_=>by omega
 |m+1,s,h,hi=>round m s hi fun s' h1 h2=>rP L v Inv R round m s' U h2
theorem ay {l:List α}(h:i<l.length):l.take (i+1)=l.take i++ [l[i]]:=by
 rw [List.take_add_one,WO h];rfl
theorem LN: ∀{a b:List Int},a.Pairwise (· < ·)->b.Pairwise (· < ·)->(∀x,x∈a↔x∈b)->a=b
 | [],[],_,_,_=>rfl
 | [],y::b,_,_,h=>by have:=(h y).2 (by simp);cases this
 |x::a,[],_,_,h=>by have:=(h x).1 (by simp);cases this
 | x::a,y::b,ha,hb,h=>by
  obtain ⟨ha1,ha2⟩:=List.pairwise_cons.1 ha;obtain ⟨a6,a8⟩:=List.pairwise_cons.1 hb
  have e:x=y:=by
   rcases W9.1 ((h x).1 (by simp)) with e|h1
   ·exact e
   rcases W9.1 ((h y).2 (by simp)) with e|h2
   ·exact e.symm
   have:=a6 x h1;have:=ha1 y h2;omega
  subst e;rw [LN ha2 a8 fun z=> ?_];constructor
  ·intro hz;rcases W9.1 ((h z).1 (by simp [hz])) with e|h1
   ·subst e;exact absurd (ha1 z hz) U
   exact h1
  intro hz;rcases W9.1 ((h z).2 (by simp [hz])) with e|h1
  ·subst e;exact absurd (a6 z hz) U
  exact h1
theorem KN [DecidableEq α](a:α)(L:List (α×β)):(∃i b,fp a L 0=some (i,b)/\L[i]? =some (a,b))\/(fp a L 0=none/\a∉L.map (·.1)):=by
 cases h:fp a L 0 with
 | none=>exact .inr ⟨rfl,fun h1=>by
   obtain ⟨p,h2,h3⟩:=Xc.1 h1
   exact (Qs a L).1 h p h2 h3⟩
 |some q=>obtain ⟨i,b⟩:=q;exact .inl ⟨i,b,J,(Ly a L 0 i b h).2⟩
theorem Bc [DecidableEq α](L:List (α×β))(a:α)(b:β):(wT L a b).map (·.1)=if a∈L.map (·.1) then L.map (·.1) else L.map (·.1)++ [a]:=by
 unfold wT;rcases KN a L with ⟨i,c,h1,h2⟩|⟨h1,h2⟩
 ·have hm:a∈L.map (·.1):=Xc.2 ⟨_,Xd h2,rfl⟩;rw [h1,if_pos hm];show (L.set i (a,b)).map (·.1)=_;rw [List.map_set];apply WE;intro j;by_cases e:i=j
  ·subst e;have hlt:=(WQ.1 h2).1;rw [WT (by simpa using hlt),WR,h2];rfl
  rw [WS e]
 rw [h1,if_neg h2];show (L++ [(a,b)]).map (·.1)=_;rw [W5];rfl
theorem PH [DecidableEq α](L:List (α×β))(a:α)(b:β)(x:α):x∈(wT L a b).map (·.1)↔x=a\/x∈L.map (·.1):=by
 rw [Bc];split
 ·constructor
  ·exact .inr
  rintro (rfl|h)<;>assumption
 rw [W8,Xf];exact Or.comm
theorem wX: ∀{l:List α} {i:Nat} {a:α},l.Nodup->l[i]? =some a-> ∀x,x∈l.eraseIdx i↔x∈l/\x≠a
 | [],_,_,_,h,_=>by simp at h
 |y::l,0,a,hn,h,x=>by
  simp only [WM,XI] at h;subst h;rw [List.eraseIdx_cons_zero];obtain ⟨h1, -⟩:=List.nodup_cons.1 hn;constructor
  ·intro hx;exact ⟨by simp [hx],fun e=>h1 (e▸hx)⟩
  rintro ⟨hx,hne⟩;rcases W9.1 hx with e|hx
  ·exact absurd e hne
  exact hx
 | y::l,i+1,a,hn,h,x=>by
  simp only [WL] at h;obtain ⟨h1,h2⟩:=List.nodup_cons.1 hn;rw [List.eraseIdx_cons_succ,W9,W9,wX h2 h x];have ha:a∈l:=Xd h;constructor
  ·rintro (rfl|⟨h3,h4⟩)
   ·exact ⟨.inl J,fun e=>h1 (e▸ha)⟩
   exact ⟨.inr h3,h4⟩
  rintro ⟨rfl|h3,h4⟩
  ·exact .inl J
  exact .inr ⟨h3,h4⟩
theorem G9 [DecidableEq α]{L:List (α×β)}(h:(L.map (·.1)).Nodup)(a:α):(∀x,x∈(Dd L a).map (·.1)↔x∈L.map (·.1)/\x≠a)/\((Dd L a).map (·.1)).Nodup/\(Dd L a).length<=L.length:=by
 unfold Dd;rcases KN a L with ⟨i,c,h1,h2⟩|⟨h1,h2⟩
 ·rw [h1]
  have h3:(L.map (·.1))[i]? =some a:=by rw [WR,h2];rfl
  show (∀x,x∈(L.eraseIdx i).map (·.1)↔_)/\((L.eraseIdx i).map (·.1)).Nodup/\(L.eraseIdx i).length<=_;rw [<-Dc];exact ⟨wX h h3,h.sublist (List.eraseIdx_sublist _ _),(List.eraseIdx_sublist _ _).length_le⟩
 rw [h1];exact ⟨fun x=>⟨fun hx=>⟨hx,fun e=>h2 (e▸hx)⟩,fun hx=>hx.1⟩,h,Xx _⟩
theorem oB (xs:List α)(i:Nat):ap xs (i:Int)=xs[i]? :=by
 unfold ap;rw [if_neg U];simp
theorem Ea {ρ:Type}{b:Prop}[Decidable b]{m:Option ρ}(h:b):aE b m=m:=if_pos h
def bd (v:VN):Bool:=decide (v.XZ=7)||decide (v.XZ=9)
def mC (k:Int)(i:Nat):Bool:=!decide (k=8)&&(!decide (k=10)||decide ((i:Int).tmod 2=0))
def pick (f:Nat->VN->Bool):Nat->List VN->List Int
 |_,[]=> []
 |i,v::l=>(bif f i v then [v.N] else [])++pick f (i+1) l
theorem pp (f:Nat->VN->Bool)(i:Nat)(v:VN)(l:List VN):pick f i (v::l)=(bif f i v then [v.N] else [])++pick f (i+1) l:=rfl
theorem Bz (f:Nat->VN->Bool): ∀(i:Nat) (l:List VN),(pick f i l).length<=l.length
 |_,[]=>Xx _
 |i,v::l=>by
  have:=Bz f (i+1) l;unfold pick;cases f i v<;>simp<;>omega
theorem GE: ∀(i:Nat) (l:List VN),pick (fun _ _=>false) i l=[]
 |_,[]=>rfl
 |i,v::l=>by unfold pick;simp [GE (i+1) l]
theorem sE (N:Nat)(v:VN):nM N v=some (bd v):=by
 unfold nM bd;cases decide (v.XZ=7)<;>rfl
theorem Bk (N:Nat)(v:VN):zf N v=some (bd v):=by
 unfold zf bd;cases decide (v.XZ=7)<;>rfl
theorem Hf (N:Nat)(a b:Bool)(x:VN)(p:List Int)(h:p.length<=5000):cM (fun x st=>fc N a x st) (b,x) (none,p)=some (true,(none,p++(bif (b==a)&&bd x then [x.N] else []))):=by
 unfold cM fc;simp only [sE,XE];cases b==a
 ·simp
 cases bd x
 ·simp
 have:ci (p.length+ [x.N].length):=by unfold ci;simp only [WY,W2];omega
 simp only [cond_true,XE,Bool.and_self];rw [Ea this];rfl
theorem LO (N:Nat)(a:Bool)(c:VJ)(hc:c.Ya.length<=2900)(K:Nat)(hK:K<=1000): ∀(m i:Nat) (p:List Int),c.Ya.length<m+i->i<=c.Ya.length->p.length<=K+i->lX N (cM (fun x st=>fc N a x st)) c m (i:Int) (none,p)=some (none,p++pick (fun i v=>(mC c.XZ i==a)&&bd v) i (c.Ya.drop i))
 |0,i,p,h,h2,_=>by omega
 | m+1,i,p,h,h2,h3=>by
  rw [lX.eq_2];by_cases hi:i<c.Ya.length
  ·rw [show (decide ((i:Int)<(c.Ya.length:Int)))=true from V0 U,oB,WO hi,Wz hi];simp only [cond_true,XE]
   have hs:(bif !decide (c.XZ=8) then ((bif !decide (c.XZ=10) then (some true) else (some (decide ((i:Int).tmod 2=0)))).bind fun a6=>some a6) else (some false))=some (mC c.XZ i):=by
    unfold mC;cases decide (c.XZ=8)<;>cases decide (c.XZ=10)<;>rfl
   rw [hs];simp only [XE];rw [Hf N a _ _ _ U];rw [XE]
   dsimp only
   rw [Bool.not_true,cond_false];rw [Ea (by unfold in64;omega)]
   have hlen:(p++(bif (mC c.XZ i==a)&&bd c.Ya[i] then [c.Ya[i].N] else [])).length<=K+(i+1):=by
    cases (mC c.XZ i==a)&&bd c.Ya[i]<;>simp<;>omega
   have:=LO N a c hc K hK m (i+1) _ U hi hlen;simp only [Wn,Wm] at this;rw [this];rw [pp,V3]
  rw [show (decide ((i:Int)<(c.Ya.length:Int)))=false from V1 U,WA U];simp [pick]
theorem Pt (N:Nat)(hN:6500<N)(a:Bool)(c:VJ)(hS:c.Yb.length<=1000)(hc:c.Ya.length<=2900): ∀(m i:Nat) (p:List Int),c.Yb.length<m+i->i<=c.Yb.length->p.length<=i->lc N (cM (fun x st=>fc N a x st)) c m (i:Int) (none,p)=some (none,(p++pick (fun _ v=>(true==a)&&bd v) i (c.Yb.drop i))++pick (fun i v=>(mC c.XZ i==a)&&bd v) 0 c.Ya)
 |0,i,p,h,h2,_=>by omega
 | m+1,i,p,h,h2,h3=>by
  rw [lc.eq_2];by_cases hi:i<c.Yb.length
  ·rw [show (decide ((i:Int)<(c.Yb.length:Int)))=true from V0 U,oB,WO hi,Wz hi];simp only [cond_true,XE];rw [Hf N a _ _ _ U];rw [XE]
   dsimp only
   rw [Bool.not_true,cond_false];rw [Ea (by unfold in64;omega)]
   have hlen:(p++(bif (true==a)&&bd c.Yb[i] then [c.Yb[i].N] else [])).length<=(i+1):=by
    cases (true==a)&&bd c.Yb[i]<;>simp<;>omega
   have:=Pt N hN a c hS hc m (i+1) _ U hi hlen;simp only [Wn,Wm] at this;rw [this];rw [pp,V3 p]
  rw [show (decide ((i:Int)<(c.Yb.length:Int)))=false from V1 U,WA U];simp only [cond_false,uC];have:=LO N a c hc p.length U N 0 p U U U;simp only [Int.natCast_zero,Wm] at this;rw [this];simp [pick]
theorem yL (N:Nat)(hN:6500<N)(a:Bool)(c:VJ)(hS:c.Yb.length<=1000)(hc:c.Ya.length<=2900):ld N c a=some (pick (fun _ v=>(true==a)&&bd v) 0 c.Yb++pick (fun i v=>(mC c.XZ i==a)&&bd v) 0 c.Ya):=by
 unfold ld uD oE;have:=Pt N hN a c hS hc N 0 [] U U (by simp);simp only [Int.natCast_zero,Wm] at this;rw [XE,this,XE];show some _=some _;simp
def om (k:Int)(i:Nat):Bool:=decide (k=8)||(decide (k=10)&&(decide (0<(i:Int))&&decide ((((i:Int) - 1).tmod 4).tmod 2=0)))
theorem LU (N:Nat)(k:Int)(i:Nat)(hi:i<=5000):Au N k (i:Int)=some (om k i):=by
 unfold Au om;by_cases h1:k=8
 ·simp [h1]
 by_cases h2:k=10
 ·by_cases h3:(0:Int)<i
  ·subst h2;simp only [h3,decide_true,ct,bs,r64 (a:=(i:Int) - 1) U U,show decide ((10:Int)=8)=false from rfl,cf,Bool.false_or,Wl]
  subst h2;simp only [h3,decide_true,decide_false,ct,bs,show decide ((10:Int)=8)=false from rfl,cf,Bool.false_or,Wl,Wj]
 simp [h1,h2]
theorem EK (N:Nat)(hN:6500<N)(c:VJ)(hS:c.Yb.length<=1000)(hc:c.Ya.length<=2900):uS N c=some (pick (fun _ v=>bd v) 0 c.Yb++pick (fun i v=> !om c.XZ i&&bd v) 0 c.Ya):=by
 apply Sat.eq;unfold uS;refine cD (fun m i s=>nI N c m s (i:Int)) c.Yb.length (fun i s=>s++pick (fun _ v=>bd v) i (c.Yb.drop i)=pick (fun _ v=>bd v) 0 c.Yb/\s.length<=i) _ ?_ ?_ N 0 [] U U ⟨by simp,by simp⟩
 ·rintro m i s hi ⟨h1,h2⟩ k;show Sat (nI N c (m+1) s i) _;rw [Wz hi,pp] at h1;rw [nI.eq_2,dr U,cond_true,aI hi,bs,Bk,bs];simp only [bs];cases hh:bd c.Yb[i]
  all_goals
   simp only [hh,ct,cf,bs,XX] at h1⊢
   first
   |(unfold rc
     rw [r64 U U]
     exact k s ⟨h1,by omega⟩)
   |(rw [rF (by simp;omega)]
     unfold rc;rw [r64 U U]
     exact k _ ⟨by rw [V3];exact h1,by simp;omega⟩)
 rintro m s ⟨h1,h2⟩;show Sat (nI N c (m+1) s _) _;rw [List.drop_length] at h1
 have h1:s=pick (fun _ v=>bd v) 0 c.Yb:=by rw [<-h1];simp [pick]
 rw [nI.eq_2,db U,cond_false, <-h1];unfold Bu;clear h1;refine cD (fun m i s=>md N c m s (i:Int)) c.Ya.length (fun i t=>t++pick (fun i v=> !om c.XZ i&&bd v) i (c.Ya.drop i)=s++pick (fun i v=> !om c.XZ i&&bd v) 0 c.Ya/\t.length<=1000+i) _ ?_ ?_ N 0 s U U ⟨by simp,by omega⟩
 ·rintro m i s hi ⟨h1,h2⟩ k;show Sat (md N c (m+1) s i) _;rw [Wz hi,pp] at h1;rw [md.eq_2,dr U,cond_true,aI hi,bs,Bk,bs,LU _ _ _ U];simp only [bs];cases hh:bd c.Ya[i]<;>cases hw:om c.XZ i
  all_goals
   simp only [hh,hw,Bool.and_true,Wi,nt,nf,ct,cf,bs,XX] at h1⊢
   first
   |(unfold rb
     rw [r64 U U]
     exact k s ⟨h1,by omega⟩)
   |(rw [rF (by simp;omega)]
     unfold rb;rw [r64 U U]
     exact k _ ⟨by rw [V3];exact h1,by simp;omega⟩)
 rintro m s ⟨h1,h2⟩;show Sat (md N c (m+1) s _) _;rw [List.drop_length] at h1;rw [md.eq_2,db U,cond_false];exact ad (by rw [<-h1];simp [pick])
theorem Dq (k:Int)(i:Nat):mC k i=!om k i:=by
 unfold mC om;by_cases h8:k=8
 ·subst h8;rfl
 by_cases h10:k=10
 ·subst h10;have e0:(i:Int).tmod 2=(i:Int)%2:=Wp U;by_cases hi:(0:Int)<i
  ·have e1:((i:Int) - 1).tmod 4=((i:Int) - 1)%4:=Wp U;have e2:(((i:Int) - 1)%4).tmod 2=(((i:Int) - 1)%4)%2:=Wp U;rw [e0,e1,e2];by_cases h:(i:Int)%2=0
   ·have h2: ¬(((i:Int) - 1)%4)%2=0:=by omega
    rw [V0 h,V1 h2,V0 hi];rfl
   have h2:(((i:Int) - 1)%4)%2=0:=by omega
   rw [V1 h,V0 h2,V0 hi];rfl
  have:i=0:=by omega
  subst this;rfl
 simp [h8,h10]
def ce (c:VJ):List Int:=pick (fun _ v=>bd v) 0 c.Yb++pick (fun i v=> !om c.XZ i&&bd v) 0 c.Ya
theorem qL (N:Nat)(hN:6500<N)(c:VJ)(hS:c.Yb.length<=1000)(hc:c.Ya.length<=2900):iH N c=some (ce c):=by
 unfold iH ce;rw [yL N hN true c hS hc,bs]
 have e1:(fun (_:Nat) (v:VN)=>(true==true)&&bd v)=fun _ v=>bd v:=by funext i v;rfl
 have e2:(fun (i:Nat) (v:VN)=>(mC c.XZ i==true)&&bd v)=fun i v=> !om c.XZ i&&bd v:=by funext i v;rw [Dq];cases om c.XZ i<;>rfl
 rw [e1,e2]
theorem MS (N:Nat)(hN:6500<N)(c:VJ)(hS:c.Yb.length<=1000)(hc:c.Ya.length<=2900):uS N c=some (ce c):=EK N hN c hS hc
theorem np (c:VJ):(ce c).length<=c.Yb.length+c.Ya.length:=by
 unfold ce;have h1:=Bz (fun _ v=>bd v) 0 c.Yb;have h2:=Bz (fun i v=> !om c.XZ i&&bd v) 0 c.Ya;rw [XS];omega
theorem By {f:Nat->VN->Bool}: ∀{i:Nat} {l:List VN},x∈pick f i l-> ∃v∈l,v.N=x
 |_,[],h=>by cases h
 | i,v::l,h=>by
  rw [pp,W8] at h;rcases h with h|h
  ·cases hf:f i v
   ·rw [hf] at h;cases h
   rw [hf] at h;exact ⟨v,by simp,(Xf.1 h).symm⟩
  obtain ⟨w,h1,h2⟩:=By h;exact ⟨w,by simp [h1],h2⟩
theorem Ft (h:x∈ce c): ∃v∈c.Yb++c.Ya,v.N=x:=by
 unfold ce at h;rcases W8.1 h with h|h
 ·obtain ⟨v,h1,h2⟩:=By h;exact ⟨v,by simp [h1],h2⟩
 obtain ⟨v,h1,h2⟩:=By h;exact ⟨v,by simp [h1],h2⟩
def Gt:VJ:=⟨0,0,0,0,[],[]⟩
def jr (m:VR)(a:Int):Option VJ:=if a<1 then none else if a%2=1 then m.Yd[((a - 1) / 2).toNat]? else m.Yc[((a - 2) / 2).toNat]?
def aw (m:VR)(a:Int):Bool:=(jr m a).isSome
def aJ (m:VR)(a:Int):VJ:=(jr m a).getD Gt
structure Small (m:VR) (roots:List VN):Prop where
 young:m.Yd.length<=600
 old:m.Yc.length<=600
 roots:roots.length<=600
 cells: ∀c∈m.Yd++m.Yc,c.Yb.length<=600/\c.Ya.length<=2900
theorem uI (h:jr m a=some c):c∈m.Yd++m.Yc:=by
 unfold jr at h;split at h
 ·cases h
 split at h
 ·exact V4 _ (Xd h)
 exact V5 _ (Xd h)
theorem Small.at_ {roots:List VN}(h:Small m roots)(a:Int):(aJ m a).Yb.length<=600/\(aJ m a).Ya.length<=2900:=by
 unfold aJ
 cases hc:jr m a with
 |none=>exact ⟨by simp [Gt],by simp [Gt]⟩
 |some c=>exact h.cells c (uI hc)
theorem uu (h:aw m a=true):0<a:=by
 unfold aw jr at h;split at h
 ·cases h
 omega
theorem zo {roots:List VN}(hs:Small m roots)(h:aw m a=true):a<=1200:=by
 have h1:=hs.young;have h2:=hs.old;unfold aw jr at h;split at h
 ·cases h
 split at h
 ·have:=(WQ.1 (Option.isSome_iff_exists.1 h).choose_spec).1;omega
 have:=(WQ.1 (Option.isSome_iff_exists.1 h).choose_spec).1;omega
theorem zM (h:0<=a):a.tdiv 2=a / 2:=Wo h
theorem tL (h:0<=a):a.tmod 2=a%2:=Wp h
theorem zn (l:List α)(i:Nat):(l[i]?).isSome=decide ((i:Int)<(l.length:Int)):=by
 by_cases h:i<l.length
 ·rw [WO h,V0 U];rfl
 rw [WP U,V1 U];rfl
theorem wO (m:VR)(a:Int):(a<1/\jr m a=none)\/(∃k:Nat,a=2*(k:Int)+1/\jr m a=m.Yd[k]?)\/(∃k:Nat,a=2*(k:Int)+2/\jr m a=m.Yc[k]?):=by
 by_cases h:a<1
 ·exact .inl ⟨h,by unfold jr;rw [if_pos h]⟩
 by_cases h2:a%2=1
 ·refine .inr (.inl ⟨((a - 1) / 2).toNat,by omega,?_⟩);unfold jr;rw [if_neg h,if_pos h2]
 refine .inr (.inr ⟨((a - 2) / 2).toNat,by omega,?_⟩);unfold jr;rw [if_neg h,if_neg h2]
theorem LY (h:in64 a): -4611686018427387904<=a.tdiv 2/\a.tdiv 2<=4611686018427387904:=by
 unfold in64 at h;by_cases h0:0<=a
 ·rw [zM h0];omega
 have h1:(-a).tdiv 2= -(a.tdiv 2):=Int.neg_tdiv a 2;rw [zM U] at h1;omega
theorem EZ (N:Nat)(m:VR)(a:Int)(h:in64 a):Sat (ou N m a) fun r=>r.2.2=aw m a/\(aw m a=true->ap r.1 r.2.1=jr m a):=by
 have hd:=LY h;unfold ou;rw [r64 U U];unfold pJ aw;rcases wO m a with ⟨h1,h2⟩|⟨k,h1,h2⟩|⟨k,h1,h2⟩
 ·rw [h2]
  refine aK (fun _=> ?_) fun _=> ?_
  ·rw [r64 U U,r64 U U,db (a:=0) (b:=a) U,cf,bs];exact ad ⟨J,fun h=>by cases h⟩
  rw [db (a:=0) (b:=a) U,cf,bs];exact ad ⟨J,fun h=>by cases h⟩
 ·subst h1;rw [h2,tL U,zM U,iX U,cf,dr U,ct,bs,show (2*(k:Int)+1) / 2=k by omega];exact ad ⟨(zn _ _).symm,fun _=>oB _ _⟩
 subst h1;rw [h2,tL U,zM U,th U,ct,dr U,ct,bs,show (2*(k:Int)+2) / 2 - 1=k by omega];rw [r64 U U,r64 U U];exact ad ⟨(zn _ _).symm,fun _=>oB _ _⟩
theorem we (N:Nat)(m:VR)(a:Int)(h:in64 a):jL N m a=some (aw m a):=by
 obtain ⟨r,h1,h2, -⟩:=EZ N m a h;unfold jL;rw [h1,bs,h2]
theorem qV (N:Nat)(c:VJ)(h:c.Yb.length<=600/\c.Ya.length<=2900):dt N c=some c:=by
 unfold dt cu;rw [rF (by simp;omega),bs,rF (by simp;omega),bs];rfl
theorem In (N:Nat){roots:List VN}(hs:Small m roots)(a:Int)(h:in64 a):lG N m a=some (aJ m a):=by
 obtain ⟨r,h1,h2,h3⟩:=EZ N m a h;unfold lG aJ;rw [h1,bs,h2];unfold aw at*
 cases hc:jr m a with
 |none=>rfl
 |some c=>
  have h4:=h3 (by rw [hc];rfl);rw [hc] at h4;have h5:=qV N c (hs.cells c (uI hc));simp only [Option.isSome_some,nt,cf,h4,bs,h5];rfl
theorem Lu (N:Nat)(m:VR)(a:Int)(h:in64 a):ze N m a=some (aw m a):=by
 unfold in64 at h;unfold ze aw;rcases wO m a with ⟨h1,h2⟩|⟨k,h1,h2⟩|⟨k,h1,h2⟩
 ·rw [h2,dr h1];rfl
 ·subst h1;rw [h2,db U,cf,tL U,th U,ct,zM U,show (2*(k:Int)+1 - 1) / 2=k by omega,zn];rw [gp (by unfold in64;omega),gp (by unfold in64;omega)]
 subst h1;rw [h2,db U,cf,tL U,iX U,cf,zM U,show (2*(k:Int)+2 - 2) / 2=k by omega,zn];rw [gp (by unfold in64;omega),gp (by unfold in64;omega)]
theorem Pn (N:Nat)(m:VR)(a:Int)(h:in64 a):Br N m a=some (aJ m a):=by
 have hh:=Lu N m a h;unfold in64 at h;unfold Br aJ;rw [hh,bs];unfold aw;rcases wO m a with ⟨h1,h2⟩|⟨k,h1,h2⟩|⟨k,h1,h2⟩
 ·rw [h2];rfl
 ·cases hc:m.Yd[k]? with
  |none=>rw [h2,hc];rfl
  |some c=>
   rw [h2,hc];subst h1;simp only [Option.isSome_some,nt,cf];rw [tL U,th U,ct,zM U,show (2*(k:Int)+1 - 1) / 2=k by omega,oB,hc,bs];rw [gp (by unfold in64;omega),gp (by unfold in64;omega)];rfl
 cases hc:m.Yc[k]? with
 |none=>rw [h2,hc];rfl
 |some c=>
  rw [h2,hc];subst h1;simp only [Option.isSome_some,nt,cf];rw [tL U,iX U,cf,zM U,show (2*(k:Int)+2 - 2) / 2=k by omega,oB,hc,bs];rw [gp (by unfold in64;omega),gp (by unfold in64;omega)];rfl
theorem MW (N:Nat)(k:Int):wN N k=lq N k:=by
 unfold wN lq jZ;by_cases h1:k=1
 ·subst h1;rfl
 by_cases h2:k=2
 ·subst h2;rfl
 by_cases h3:k=3
 ·subst h3;rfl
 by_cases h6:k=6
 ·subst h6;rfl
 by_cases h8:k=8
 ·subst h8;rfl
 by_cases h9:k=9
 ·subst h9;rfl
 by_cases h10:k=10
 ·subst h10;rfl
 rw [iX h1,iX h2,iX h3,iX h6,iX h8,iX h9,iX h10];rfl
theorem NI (N:Nat)(c:VJ):jX N c=jO N c:=by
 unfold jX jO;rw [MW];rfl
theorem Sa (N:Nat)(v:VN):wM N v=fV N v:=by
 unfold wM fV rU;by_cases h5:v.XZ=5
 ·rw [h5];rfl
 rw [iX h5];simp only [cf];by_cases hr:v.XZ<0\/9<v.XZ
 ·have h2:v.XZ≠2:=by omega
  have h3:v.XZ≠3:=by omega
  have h6:v.XZ≠6:=by omega
  have h7:v.XZ≠7:=by omega
  have h9:v.XZ≠9:=by omega
  have e1:((bif decide (v.XZ<0) then (some true) else (some (decide (9<v.XZ)))):Option Bool)=some true:=by
   rcases hr with h|h
   ·rw [dr h];rfl
   rw [dr (a:=9) h];cases decide (v.XZ<0)<;>rfl
  rw [e1,bs,ct,iX h2,iX h3,iX h6,iX h7,iX h9];simp only [cf]
  have e2:(((bif decide (v.N=0) then (some (decide (0<=v.XZ))) else (some false)).bind fun a6=>(bif a6 then (some (decide (v.XZ<=9))) else (some false)).bind fun a8=>some a8):Option Bool)=some false:=by
   cases decide (v.N=0)
   ·rfl
   rcases hr with h|h
   ·rw [Oz (a:=0) (b:=v.XZ) U];rfl
   rw [Oz (a:=v.XZ) (b:=9) U];cases decide (0<=v.XZ)<;>rfl
  rw [e2];cases s:(v.S.toList==(⟨#[]⟩:ByteArray).toList)<;>rfl
 have e1:((bif decide (v.XZ<0) then (some true) else (some (decide (9<v.XZ)))):Option Bool)=some false:=by
  rw [db (a:=v.XZ) (b:=0) U,db (a:=9) (b:=v.XZ) U];rfl
 rw [e1,bs,cf];cases hs:(v.S.toList==(⟨#[]⟩:ByteArray).toList)
 ·rfl
 simp only [nt,cf];by_cases h2:v.XZ=2
 ·rw [h2];rfl
 rw [iX h2];simp only [cf];by_cases h3:v.XZ=3
 ·rw [h3];rfl
 rw [iX h3];simp only [cf];by_cases h6:v.XZ=6
 ·rw [h6];rfl
 rw [iX h6];simp only [cf];by_cases h7:v.XZ=7
 ·rw [h7];rfl
 rw [iX h7];simp only [cf];by_cases h9:v.XZ=9
 ·rw [h9];rfl
 rw [iX h9,Oy (a:=0) U,Oy (a:=v.XZ) U];cases decide (v.N=0)<;>rfl
theorem I5 (N:Nat)(v:VN): ∃b,fV N v=some b:=by
 unfold fV;cases decide (v.XZ<0)<;>cases decide (9<v.XZ)<;>cases decide (v.XZ=5)<;>cases decide (v.N=0)<;>cases (v.S.toList==(⟨#[]⟩:ByteArray).toList)<;>cases decide (v.XZ=2)<;>cases decide (v.XZ=3)<;>cases decide ((-9007199254740992)<=v.N)<;>cases decide (v.XZ=6)<;>cases decide (v.XZ=7)<;>cases decide (v.XZ=9)<;>exact ⟨_,rfl⟩
theorem Cn (N k:Nat)(hk:k=2\/k=4)(l:List VN)(hl:l.length<=2900): ∀(m i:Nat),l.length<m+i->i<=l.length->(l.length - i)%k=0-> ∃b,gw N (k:Int) l m (i:Int)=some b/\
  ju N (cM (fun x st=>bJ N (k:Int) x st)) l (k:Int) m (i:Int) (none,())=some (bif b then (none,()) else (some .ret,()))
 |0,i,h,h2,_=>by omega
 | m + 1,i,h,h2,h3=>by
  by_cases hi:i<l.length
  ·have hik:i+k<=l.length:=by
    rcases hk with rfl|rfl<;>omega
   have hmin:(min (k:Int) (((l.drop (i:Int).toNat).take (l.length - (i:Int).toNat)).length:Int))=k:=by
    rw [XT,WZ,Ws];omega
   have hto:((i:Int)+(k:Int)).toNat=i+k:=by omega
   have hx: ∀j,j<k->ap ((l.drop i).take k) (j:Int)=l[i+j]? :=fun j hj=>by
    rw [oB,WU,if_pos hj,WN]
   have a6:=hx 0 U;have a8:=hx 1 U;rw [WO U] at a6 a8;have c7:ap l (i:Int)=some l[i]:=aI hi
   have c8:ap l ((i:Int)+1)=some (l[i+1]'U):=by
    have:=aI (xs:=l) (i:=i+1) U;simpa using this
   obtain ⟨b,b5,b6⟩:=Cn N k hk l hl m (i+k) U hik (by rcases hk with rfl|rfl<;>omega);simp only [Wn] at b5 b6
   have fin: ∀b',(bif b' then some false else aE (in64 ((i:Int)+(k:Int))) (gw N (k:Int) l m ((i:Int)+(k:Int))))=some (bif b' then false else b):=fun b'=>by
    cases b'
    ·rw [cf,r64 U U,b5];rfl
    rfl
   have fin2: ∀b':Bool,((bif b' then (some (some Exit.ret,())) else (some (none,())):Option (Option Exit×Unit)).map fun r=>(r.1.isNone,r))=some (!b',(bif b' then some Exit.ret else none,())):=fun b'=>by cases b'<;>rfl
   have goal: ∀b',((some (!b',((bif b' then some Exit.ret else none:Option Exit),())):Option (Bool×(Option Exit×Unit))).bind fun b0=>bif !b0.1 then (some b0.2) else (aE (in64 ((i:Int)+(k:Int))) ((ju N (cM (fun x st=>bJ N (k:Int) x st)) l (k:Int) m) ((i:Int)+(k:Int)) b0.2)))=some (bif (bif b' then false else b) then (none,()) else (some .ret,())):=fun b'=>by
    cases b'
    ·rw [bs];simp only [nf,nt,cf];rw [r64 U U];exact b6
    rfl
   have lift: ∀(x:List VN) (b':Bool),bJ N (k:Int) x ()=(bif b' then (some (some Exit.ret,())) else (some (none,())))->cM (fun x st=>bJ N (k:Int) x st) x (none,())=some (!b',(bif b' then some Exit.ret else none,())):=fun x b' hb=>by
    unfold cM;simp only [hb];exact fin2 b'
   have key: ∃b',((ap l (i:Int)).bind fun x8=>(bif !decide (x8.XZ=7) then (some true) else (aE (in64 ((i:Int)+1)) ((ap l ((i:Int)+1)).bind fun c9=>some (decide (c9.XZ=8))))).bind fun b9=>bif b9 then (some false) else ((bif decide ((k:Int)=4) then (aE (in64 ((i:Int)+2)) ((ap l ((i:Int)+2)).bind fun d0=>(dG N d0 7).bind fun d1=>(bif !d1 then (some true) else (aE (in64 ((i:Int)+3)) ((ap l ((i:Int)+3)).bind fun d2=>(gX N d2 0 9007199254740992).bind fun d3=>some (!d3)))).bind fun d4=>some d4)) else (some false)).bind fun d6=>bif d6 then (some false) else (aE (in64 ((i:Int)+(k:Int))) ((gw N (k:Int) l m) ((i:Int)+(k:Int))))))=some (bif b' then false else b)/\bJ N (k:Int) ((l.drop i).take k) ()=(bif b' then (some (some Exit.ret,())) else (some (none,()))):=by
    unfold bJ;simp only [Wm,Int.natCast_zero,Int.natCast_one] at a6 a8;rw [c7,bs,r64 (a:=(i:Int)+1) U U,c8,bs];have hk0':ap ((l.drop i).take k) 0=some l[i]:=a6;have hk1':ap ((l.drop i).take k) 1=some (l[i+1]'U):=a8;simp only [hk0',bs,hk1'];cases h7:(!decide (l[i].XZ=7))
    ·simp only [cf,bs];cases h8:decide ((l[i+1]'U).XZ=8)
     ·simp only [cf];rcases hk with rfl|rfl
      ·simp only [show decide (((2:Nat):Int)=4)=false from rfl,cf,bs];have f:=fin false;rw [cf] at f;refine ⟨false,?_,J⟩;exact f
      have b7:=hx 2 U;have c0:=hx 3 U;rw [WO U] at b7 c0;have hk2':ap ((l.drop i).take 4) 2=some (l[i+2]'U):=b7;have hk3':ap ((l.drop i).take 4) 3=some (l[i+3]'U):=c0
      have e0:ap l ((i:Int)+2)=some (l[i+2]'U):=by
       have:=aI (xs:=l) (i:=i+2) U;simpa using this
      have e3:ap l ((i:Int)+3)=some (l[i+3]'U):=by
       have:=aI (xs:=l) (i:=i+3) U;simpa using this
      simp only [show decide (((4:Nat):Int)=4)=true from rfl,ct];rw [r64 (a:=(i:Int)+2) U U,e0,bs,hk2',bs,r64 (a:=(i:Int)+3) U U,e3,bs,hk3']
      have en: ∀v,iP N v 7=dG N v 7:=fun v=>rfl
      have em: ∀v,iQ N v 0 9007199254740992=gX N v 0 9007199254740992:=fun v=>rfl
      have hn: ∃b1,dG N (l[i+2]'U) 7=some b1:=by unfold dG;cases decide ((l[i+2]'U).XZ=0)<;>exact ⟨_,rfl⟩
      have hm: ∃b1,gX N (l[i+3]'U) 0 9007199254740992=some b1:=by unfold gX;cases decide ((l[i+3]'U).XZ=3)<;>cases decide (0<=(l[i+3]'U).N)<;>exact ⟨_,rfl⟩
      obtain ⟨b1,hn⟩:=hn;obtain ⟨b2,hm⟩:=hm;simp only [bs,en,em,hn,hm];cases b1
      ·simp only [nf,ct,bs];exact ⟨true,J,J⟩
      simp only [nt,cf,bs];exact ⟨!b2,fin (!b2),by cases b2<;>rfl⟩
     exact ⟨true,J,J⟩
    exact ⟨true,J,J⟩
   obtain ⟨b',e1,e2⟩:=key;refine ⟨bif b' then false else b,?_,?_⟩
   ·rw [gw.eq_2,dr U,ct];exact e1
   rw [ju.eq_2,dr U,ct,hmin,gp (show (0:Int)<=(i:Int)/\(i:Int).toNat<=l.length/\l.length<=l.length from ⟨by omega,by omega,Xx _⟩),r64 (a:=(i:Int)+(k:Int)) U U,r64 (a:=(i:Int)+(k:Int)) U U];rw [gp (show (0:Int)<=(i:Int)/\(0:Int)<=(i:Int)+(k:Int)/\(i:Int).toNat<=((i:Int)+(k:Int)).toNat/\((i:Int)+(k:Int)).toNat<=l.length from ⟨by omega,by omega,by omega,by omega⟩),hto,Ws,show i+k - i=k by omega,lift _ b' e2];exact goal b'
  rw [gw.eq_2,ju.eq_2,db U,cf,cf];exact ⟨true,J,J⟩
theorem uA (N:Nat)(hN:6500<N)(k:Nat)(hk:k=2\/k=4)(l:List VN)(hl:l.length<=2900): ∃b,dJ N l (k:Int)=some b/\cP N l (k:Int)=some b/\(b=true->l.length%k=0):=by
 unfold dJ cP
 have a6:(k:Int)≠0:=by rcases hk with rfl|rfl<;>decide
 rw [gp a6,gp a6]
 have ht:(l.length:Int).tmod (k:Int)=((l.length%k:Nat):Int):=by
  rw [Wp U];rfl
 rw [ht];by_cases h:l.length%k=0
 ·rw [th U];obtain ⟨b,h1,h2⟩:=Cn N k hk l hl N 0 U U (by simpa using h)
  have e:ly N l (k:Int)=some ():=by
   unfold ly;rw [db (by rcases hk with rfl|rfl<;>omega),cf]
  unfold tV;simp only [nt,cf,e,bs];have h1':gw N (k:Int) l N 0=some b:=h1;have h2':ju N (cM (fun x st=>bJ N (k:Int) x st)) l (k:Int) N 0 (none,())=some (bif b then (none,()) else (some .ret,())):=h2;rw [h1',h2',bs];exact ⟨b,by cases b<;>rfl,rfl,fun _=>h⟩
 rw [iX U];exact ⟨false,J,J,fun h=>by cases h⟩
theorem Qd (N:Nat)(hN:6500<N)(c:VJ)(hc:c.Ya.length<=2900):lb N c.XZ c.Ya=lH N c:=by
 obtain ⟨b2,h2,h2', -⟩:=uA N hN 2 (.inl rfl) c.Ya hc;obtain ⟨b4,h4,h4', -⟩:=uA N hN 4 (.inr rfl) ((c.Ya.drop ((1:Int).toNat)).take (c.Ya.length - (1:Int).toNat)) (by rw [XT,WZ];omega);have e2:dJ N c.Ya 2=cP N c.Ya 2:=h2.trans h2'.symm;have e4:dJ N ((c.Ya.drop ((1:Int).toNat)).take (c.Ya.length - (1:Int).toNat)) 4=cP N ((c.Ya.drop ((1:Int).toNat)).take (c.Ya.length - (1:Int).toNat)) 4:=h4.trans h4'.symm;unfold lb lH mO lp;rw [e2,e4];rfl
theorem I6 (N:Nat)(c:VJ)(b:Bool)(v:VN): ∃y,fV N v=some y/\cM (fun x st=>gM N c x st) (b,v) (none,())=some (y,(bif y then none else some Exit.ret,())):=by
 obtain ⟨y,hy⟩:=I5 N v;refine ⟨y,hy,?_⟩;unfold cM gM;simp only [Sa,hy,bs];cases y<;>rfl
theorem EH (N:Nat)(c:VJ)(hc:c.Ya.length<=2900): ∀(m i:Nat),c.Ya.length<m+i->i<=c.Ya.length-> ∃b,oz N c m (i:Int)=(bif b then cQ N c else some false)/\
  lX N (cM (fun x st=>gM N c x st)) c m (i:Int) (none,())=some (bif b then none else some Exit.ret,())
 |0,i,h,h2=>by omega
 | m+1,i,h,h2=>by
  rw [oz.eq_2,lX.eq_2];by_cases hi:i<c.Ya.length
  ·rw [dr U,ct,ct,aI hi,bs,bs]
   have hs:(bif !decide (c.XZ=8) then ((bif !decide (c.XZ=10) then (some true) else (some (decide ((i:Int).tmod 2=0)))).bind fun a6=>some a6) else (some false))=some (mC c.XZ i):=by
    unfold mC;cases decide (c.XZ=8)<;>cases decide (c.XZ=10)<;>rfl
   obtain ⟨y,h3,h4⟩:=I6 N c (mC c.XZ i) c.Ya[i];rw [hs,bs,h3,h4,bs,bs];cases y
   ·simp only [nf,nt,ct,cf];exact ⟨false,cf.symm,by rw [cf]⟩
   obtain ⟨b,h5,h6⟩:=EH N c hc m (i+1) U hi;simp only [Wn,Wm] at h5 h6;simp only [nt,cf,ct];rw [r64 U U,r64 U U];exact ⟨b,h5,h6⟩
  rw [db U,cf,cf];exact ⟨true,ct.symm,by rw [ct]⟩
theorem uL (N:Nat)(hN:6500<N)(c:VJ)(hS:c.Yb.length<=1000)(hc:c.Ya.length<=2900): ∀(m i:Nat),c.Yb.length<m+i->i<=c.Yb.length-> ∃b,iL N c m (i:Int)=(bif b then cQ N c else some false)/\
  lc N (cM (fun x st=>gM N c x st)) c m (i:Int) (none,())=some (bif b then none else some Exit.ret,())
 |0,i,h,h2=>by omega
 | m+1,i,h,h2=>by
  rw [iL.eq_2,lc.eq_2];by_cases hi:i<c.Yb.length
  ·rw [dr U,ct,ct,aI hi,bs,bs];obtain ⟨y,h3,h4⟩:=I6 N c true c.Yb[i];rw [h3,h4,bs,bs];cases y
   ·simp only [nf,nt,ct,cf];exact ⟨false,cf.symm,by rw [cf]⟩
   obtain ⟨b,h5,h6⟩:=uL N hN c hS hc m (i+1) U hi;simp only [Wn,Wm] at h5 h6;simp only [nt,cf,ct];rw [r64 U U,r64 U U];exact ⟨b,h5,h6⟩
  rw [db U,cf,cf];exact EH N c hc N 0 U U
theorem xJ (N:Nat)(hN:6500<N)(c:VJ)(hS:c.Yb.length<=1000)(hc:c.Ya.length<=2900):fd N c=eu N c:=by
 unfold fd eu oE
 have hAge:((bif !decide (c.Yg=0) then (some (!decide (c.Yg=1))) else (some false)).bind fun a6=>some a6)=(some (decide (c.Yg<0)||decide (1<c.Yg)):Option Bool):=by
  by_cases h0:c.Yg=0
  ·rw [h0];rfl
  by_cases h1:c.Yg=1
  ·rw [h1];rfl
  rw [iX h0,iX h1];by_cases h2:c.Yg<0
  ·rw [dr h2];rfl
  rw [dr (a:=1) (b:=c.Yg) U,db (a:=c.Yg) U];rfl
 obtain ⟨b,h1,h2⟩:=uL N hN c hS hc N 0 U U;have h1':iL N c N 0=(bif b then cQ N c else some false):=h1;have h2':lc N (cM (fun x st=>gM N c x st)) c N 0 (none,())=some (bif b then none else some Exit.ret,()):=h2;have e:uD N c=some ():=rfl;rw [hAge,h1',h2',e]
 have tail:((some ()).bind fun (b7:Unit)=>(some ((bif b then none else some Exit.ret:Option Exit),())).bind fun a8=>sS a8.1 ((jX N c).bind fun b0=>(bif b0 then ((lb N c.XZ c.Ya).bind fun b5=>some b5) else (some false)).bind fun b6=>some b6) (some false) (fun _=>none))=(bif b then cQ N c else some false):=by
  cases b
  ·rfl
  rw [NI,Qd N hN c hc];rfl
 rw [tail];cases decide (c.XZ<1)<;>cases decide (11<c.XZ)<;>cases decide (c.Yf<0)<;>cases decide (c.Ye<0)<;>cases decide (63<c.Ye)<;>cases decide (c.Yg<0)<;>cases decide (1<c.Yg)<;>rfl
theorem N5 {m:Option Bool}{x:Bool}:m=some x->(m.bind fun b=>some b)=some x:=fun h=>by rw [h];rfl
theorem Kg (N:Nat)(hN:6500<N)(c:VJ)(hS:c.Yb.length<=1000)(hc:c.Ya.length<=2900)(h8:c.XZ=8): ∃b,eu N c=some b/\(b=true->c.Ya.length%2=0):=by
 obtain ⟨b1,g1, -⟩:=uL N hN c hS hc N 0 U U;have g1':iL N c N 0=(bif b1 then cQ N c else some false):=g1;obtain ⟨b2, -,h2,h3⟩:=uA N hN 2 (.inl rfl) c.Ya hc
 have hm:lH N c=some b2:=by
  unfold lH lp;rw [h8,db U];show ((cP N c.Ya 2).bind fun a6=>some a6)=_;exact N5 h2
 have hs: ∃b3,jO N c=some b3:=by
  unfold jO;rw [h8];have:lq N 8=some true:=rfl;rw [this,bs,ct,bs,ct];by_cases hl:1<=(c.Yb.length:Int)
  ·rw [Oy hl,ct,bs,Qq (xs:=c.Yb) (i:=0) U U,bs];cases decide ((c.Yb.length:Int)<=1025)
   ·exact ⟨_,J⟩
   cases decide (c.Yb[(0:Int).toNat].XZ=1)<;>exact ⟨_,rfl⟩
  rw [Oz U];exact ⟨_,J⟩
 obtain ⟨b3,hs⟩:=hs
 have hj:cQ N c=some (b3&&b2):=by
  unfold cQ;rw [hs,hm];cases b3<;>rfl
 unfold eu;rw [g1',hj]
 have fin: ∃b,((bif b1 then some (b3&&b2) else some false):Option Bool)=some b/\(b=true->c.Ya.length%2=0):=by
  cases b1
  ·exact ⟨false,J,fun h=>by cases h⟩
  exact ⟨b3&&b2,J,fun h=>h3 (by cases b3<;>cases b2<;>first|rfl|cases h)⟩
 obtain ⟨b,e1,e2⟩:=fin;rw [e1];have ff: ∃b',(some false:Option Bool)=some b'/\(b'=true->c.Ya.length%2=0):=⟨false,rfl,fun h=>by cases h⟩
 cases decide (c.XZ<1)<;>cases decide (11<c.XZ)<;>cases decide (c.Yf<0)<;>cases decide (c.Ye<0)<;>cases decide (63<c.Ye)<;>cases decide (c.Yg<0)<;>cases decide (1<c.Yg)<;>first|exact ff|exact ⟨b,rfl,e2⟩
def sv (c:VJ):Bool:=decide (c.XZ=8)&&(eu N c).getD false
theorem KG (N:Nat)(hN:6500<N)(c:VJ)(hS:c.Yb.length<=1000)(hc:c.Ya.length<=2900):EV N c=some (sv N c)/\vH N c=some (sv N c)/\(sv N c=true->c.Ya.length%2=0):=by
 unfold EV vH sv;rw [xJ N hN c hS hc];by_cases h8:c.XZ=8
 ·obtain ⟨b,h1,h2⟩:=Kg N hN c hS hc h8;rw [h1,h8];exact ⟨J,J,h2⟩
 rw [iX h8];exact ⟨J,J,fun h=>by cases h⟩
abbrev Ip {ρ:Type}(m:Option ρ):Prop:=Sat m fun _=>True
theorem aW {ρ:Type}(x:ρ):Ip (some x):=ad trivial
theorem my {ρ:Type}{x y:Option ρ}(hx:b=true->Ip x)(hy:b=false->Ip y):Ip (bif b then x else y):=jI hx hy
theorem BG (N:Nat)(v:VN)(a b:Int):Ip (gX N v a b):=by
 unfold gX
 refine Sat.bind (P:=fun _=>True) (my (fun _=>aW _) fun _=>aW _) fun x _=>Sat.bind (P:=fun _=>True) (my (fun _=>aW _) fun _=>aW _) fun y _=>aW _
theorem ye (N:Nat)(v:VN)(a:Int):Ip (dG N v a):=by
 unfold dG
 exact Sat.bind (P:=fun _=>True) (my (fun _=>aW _) fun _=>aW _) fun x _=>aW _
theorem yW {c:Bool}{m:Option Bool}(h:c=true->Ip m):Ip (bif c then m else some false):=my h fun _=>aW _
theorem xy {l:List VN}{f:VN->Option Bool}(hi:i<l.length)(h:∀v,Ip (f v)):Ip ((ap l (i:Int)).bind f):=by
 rw [aI hi,bs];exact h _
theorem eH {m:Option Bool}{f:Bool->Option Bool}(h:Ip m)(k:∀b,Ip (f b)):Ip (m.bind f):=Sat.bind h fun b _=>k b
theorem tt {m:Option Bool}{p:Prop}{f:Bool->Option Bool}(h:Sat m fun b=>b=true->p)(k:∀b,(b=true->p)->Ip (f b)):Ip (m.bind f):=Sat.bind h k
theorem Me (N:Nat)(c:VJ):Ip (jO N c):=by
 unfold jO
 have hp:Ip (lq N c.XZ):=by
  unfold lq
  iterate 6 refine eH (my (fun _=>aW _) fun _=>aW _) fun _=> ?_
  exact aW _
 refine eH hp fun y=>eH (my (fun _=>aW _) fun _=>eH (my (fun _=>aW _) fun _=>aW _) fun _=>aW _) fun b=> ?_
 refine my (fun _=> ?_) fun _=> ?_
 ·refine tt (p:=0<c.Yb.length) (aK (fun h=>ad fun _=>by omega) fun _=>ad fun h=>by cases h) fun b hb=>eH (yW fun h=> ?_) fun _=>aW _
  have h0:=hb h
  refine xy (i:=0) h0 fun v=>eH (my (fun _=>aW _) fun _=>xy (i:=0) h0 fun _=>aW _) fun _=>aW _
 refine my (fun _=>aW _) fun _=>eH (my (fun _=>aW _) fun _=>aW _) fun _=>my (fun _=>aW _) fun _=>jI (fun _=> ?_) fun _=>aW _
 refine tt (p:=1<c.Yb.length) (aK (fun h=> ?_) fun _=>ad fun h=>by cases h) fun b hb=>eH (yW fun h=> ?_) fun _=>aW _
 ·rw [show ((0:Int))=((0:Nat):Int) from rfl,aI U,bs];obtain ⟨x,hx, -⟩:=ye N c.Yb[0] 7
  rw [hx,bs];exact ad fun _=>by omega
 refine xy (i:=1) (hb h) fun v=>eH (ye N v 7) fun _=>aW _
theorem KX {l:List VN}{m:VN->Option Bool}(hi:i<l.length)(h:∀v,Ip (m v)){p:Prop}(hp:p):Sat ((ap l (i:Int)).bind fun x=>(m x).bind fun y=>some y) fun b=>b=true->p:=by
 rw [aI hi,bs];obtain ⟨x,hx, -⟩:=h l[i]
 rw [hx,bs];exact ad fun _=>hp
def AT (c:VJ):Prop:=(c.XZ=8->c.Ya.length%2=0)/\(c.XZ=10->1<=c.Ya.length/\(c.Ya.length - 1)%4=0)
theorem Oj (N:Nat)(hN:6500<N)(c:VJ)(hc:c.Ya.length<=2900):Sat (lH N c) fun b=>b=true->AT c:=by
 have j6: ∀p,(p=true->c.XZ=1\/c.XZ=5)->Sat (lp N c p) fun b=>b=true->AT c:=by
  intro p hp
  have other: ∀{m:Option Bool},c.XZ≠8->c.XZ≠10->Ip m->Sat m fun b=>b=true->AT c:=fun h8 h10 h=>h.mono fun _ _ _=>⟨fun e=>absurd e h8,fun e=>absurd e h10⟩
  unfold lp
  refine jI (fun h=>other (by rcases hp h with e|e<;>omega) (by rcases hp h with e|e<;>omega) (aW _)) fun _=> ?_
  refine aK (fun hk=>other U U ?_) fun _=> ?_
  ·refine tt (p:=1<c.Ya.length) (aK (fun h=>KX (i:=0) U (fun v=>BG N v _ _) U) fun _=>ad fun h=>by cases h) fun b hb=>eH (yW fun h=>xy (i:=1) (hb h) fun v=>eH (ye N v 9) fun _=>aW _) fun _=>aW _
  refine aK (fun hk=>other U U ?_) fun _=> ?_
  ·refine tt (p:=0<c.Ya.length) (aK (fun h=>ad fun _=>by omega) fun _=>ad fun h=>by cases h) fun b hb=>eH (yW fun h=>xy (i:=0) (hb h) fun v=>eH (ye N v 9) fun _=>aW _) fun _=>aW _
  refine aK (fun hk=>other U U ?_) fun _=> ?_
  ·refine tt (p:=1<c.Ya.length) (aK (fun h=>KX (i:=0) U (fun v=>BG N v _ _) U) fun _=>ad fun h=>by cases h) fun b hb=>eH (yW fun h=>xy (i:=1) (hb h) fun v=>eH (ye N v 9) fun _=>aW _) fun _=>aW _
  refine aK (fun hk=>other U U ?_) fun _=> ?_
  ·refine tt (p:=3<c.Ya.length) (aK (fun h=>KX (i:=2) U (fun v=>BG N v _ _) U) fun _=>ad fun h=>by cases h) fun b hb=>eH (yW fun h=>xy (i:=3) (hb h) fun v=>eH (BG N v _ _) fun _=>aW _) fun _=>aW _
  refine aK (fun hk=> ?_) fun a8=> ?_
  ·obtain ⟨b, -,h2,h3⟩:=uA N hN 2 (.inl rfl) c.Ya hc;have h2':cP N c.Ya 2=some b:=h2;rw [h2',bs]
   exact ad fun hb=>⟨fun _=>h3 hb,fun e=>absurd e U⟩
  refine aK (fun hk=> ?_) fun a6=> ?_
  ·refine Sat.bind (P:=fun b=>b=true->1<=c.Ya.length) (aK (fun h=> ?_) fun _=>ad fun h=>by cases h) fun b hb=> ?_
   ·rw [show ((0:Int))=((0:Nat):Int) from rfl,aI U,bs];exact ad fun _=>by omega
   refine Sat.bind (P:=fun b=>b=true->AT c) (jI (fun h=> ?_) fun _=>ad fun h=>by cases h) fun b' hb'=>ad hb'
   have h1:=hb h;rw [Ea ⟨by omega,by show (1:Int).toNat<=_;exact h1,Xx _⟩]
   have hl:((c.Ya.drop ((1:Int).toNat)).take (c.Ya.length - (1:Int).toNat)).length=c.Ya.length - 1:=by
    rw [XT,WZ];show min (c.Ya.length - 1) (c.Ya.length - 1)=_;omega
   obtain ⟨b2, -,h2,h3⟩:=uA N hN 4 (.inr rfl) ((c.Ya.drop ((1:Int).toNat)).take (c.Ya.length - (1:Int).toNat)) (by rw [hl];omega);have h2':cP N ((c.Ya.drop ((1:Int).toNat)).take (c.Ya.length - (1:Int).toNat)) 4=some b2:=h2;rw [h2',bs]
   exact ad fun b0=>⟨fun e=>absurd e U,fun _=>⟨h1,by have:=h3 b0;rw [hl] at this;exact this⟩⟩
  refine aK (fun hk=>other U U ?_) fun _=>other a8 a6 (aW _)
  refine eH ?_ fun _=>aW _
  exact my (fun h=>xy (i:=0) (by have:=XQ h;omega) fun v=>eH (BG N v _ _) fun _=>aW _) fun _=>aW _
 unfold lH
 refine aK (fun _=>ad fun h=>by cases h) fun _=>aK (fun hk=>ad fun _=>⟨fun e=>absurd e U,fun e=>absurd e U⟩) fun _=>aK (fun hk=>j6 _ fun _=> .inl hk) fun _=>j6 _ fun h=> .inr (XQ h)
theorem CK (N:Nat)(hN:6500<N)(c:VJ)(hS:c.Yb.length<=1000)(hc:c.Ya.length<=2900):Sat (eu N c) fun b=>b=true->AT c:=by
 obtain ⟨b1,g1, -⟩:=uL N hN c hS hc N 0 U U;have g1':iL N c N 0=(bif b1 then cQ N c else some false):=g1
 have hj:Sat (cQ N c) fun b=>b=true->AT c:=by
  unfold cQ
  refine Sat.bind (Me N c) fun y _=> ?_
  refine Sat.bind (P:=fun b=>b=true->AT c) (jI (fun _=>Sat.bind (Oj N hN c hc) fun _ h=>ad h) fun _=>ad fun h=>by cases h) fun _ h=>ad h
 unfold eu;rw [g1']
 iterate 6 refine Sat.bind (P:=fun _=>True) (my (fun _=>aW _) fun _=>aW _) fun _ _=> ?_
 refine jI (fun _=>ad fun h=>by cases h) fun _=>jI (fun _=>hj) fun _=>ad fun h=>by cases h
theorem zk {ρ:Type}(L:Nat->Int->Option ρ)(l:List α)(p:α->Bool)(bad k:Option ρ)(step:∀m (i:Nat) (h:i<l.length),L (m+1) (i:Int)=bif p l[i] then L m ((i:Int)+1) else bad)(fin:∀m,L (m+1) (l.length:Int)=k)(N:Nat)(hN:l.length<N):L N 0=bif l.all p then k else bad:=by
 have key: ∀m i:Nat,l.length<m+i->i<=l.length->L m (i:Int)=bif (l.drop i).all p then k else bad:=by
  intro m
  induction m with
  |zero=>intro i h1 h2;omega
  | succ m ih=>
   intro i h1 h2;by_cases hi:i<l.length
   ·rw [step m i hi,Wz hi,List.all_cons];have h3:=ih (i+1) U hi;rw [show (((i+1:Nat)):Int)=(i:Int)+1 by omega] at h3;rw [h3];cases p l[i]<;>rfl
   have e:i=l.length:=by omega
   subst e;rw [fin,List.drop_length];rfl
 have:=key N 0 U U;simpa using this
theorem I7 (L:Nat->Int->Option Bool)(l:List α)(p:α->Bool)(step:∀m (i:Nat) (h:i<l.length),L (m+1) (i:Int)=bif p l[i] then L m ((i:Int)+1) else some false)(fin:∀m,L (m+1) (l.length:Int)=some true)(N:Nat)(hN:l.length<N):L N 0=some (l.all p):=by
 rw [zk L l p _ _ step fin N hN];cases l.all p<;>rfl
theorem all_map (f:α->β)(p:β->Bool)(l:List α):(l.map f).all p=l.all fun x=>p (f x):=by rw [List.all_map];rfl
theorem F1 (q p:α->Bool): ∀l:List α,(l.filter q).all p=l.all fun x=> !q x||p x
 | []=>rfl
 |x::l=>by
  rw [WF,List.all_cons, <-F1 q p l];cases h:q x<;>simp
def PF {α β:Type}[DecidableEq α](a:α)(b:β):List (α×β)->List (α×β)
 | []=> [(a,b)]
 |p::l=>if p.1=a then (a,b)::l else p::PF a b l
theorem PG [DecidableEq α](L:List (α×β))(a:α)(b:β):wT L a b=PF a b L:=by
 have key: ∀(L:List (α×β)) (j:Nat),(∃i c,fp a L j=some (i,c)/\j<=i/\L.set (i - j) (a,b)=PF a b L)\/(fp a L j=none/\L++ [(a,b)]=PF a b L):=by
  intro L
  induction L with
  |nil=>intro j;exact .inr ⟨J,J⟩
  | cons p l ih=>
   intro j;obtain ⟨x,y⟩:=p;by_cases e:a=x
   ·refine .inl ⟨j,y,by simp [fp,e],Xx _,?_⟩;rw [Nat.sub_self];simp [PF,e]
   have e': ¬x=a:=fun h=>e h.symm
   rcases ih (j+1) with ⟨i,c,h1,h2,h3⟩|⟨h1,h2⟩
   ·refine .inl ⟨i,c,by simp [fp,e,h1],by omega,?_⟩;rw [show i - j=(i - (j+1))+1 by omega,List.set_cons_succ,h3];simp [PF,e']
   exact .inr ⟨by simp [fp,e,h1],by simp [PF,e',h2]⟩
 unfold wT;rcases key L 0 with ⟨i,c,h1, -,h3⟩|⟨h1,h2⟩
 ·rw [h1];exact h3
 rw [h1];exact h2
theorem BN [DecidableEq α](p:α×β)(l:List (α×β))(x:α):lk (p::l) x=if p.1=x then some p.2 else lk l x:=by
 unfold lk;rw [List.find?_cons];by_cases e:p.1=x<;>simp [e]
theorem DA [DecidableEq α](L:List (α×β))(a:α)(b:β)(x:α):lk (wT L a b) x=if a=x then some b else lk L x:=by
 rw [PG]
 induction L with
 |nil=>rw [PF,BN]
 | cons p l ih=>
  unfold PF;by_cases e:p.1=a
  ·rw [if_pos e,BN,BN,e];by_cases e2:a=x<;>simp [e2]
  rw [if_neg e,BN,BN,ih];by_cases e2:p.1=x
  ·rw [if_pos e2,if_pos e2,if_neg (fun h=>e (by rw [e2,h]))]
  rw [if_neg e2,if_neg e2]
abbrev vZ:VN:=⟨0,0,⟨#[]⟩⟩
def rv (l:List VN)(i:Nat):VN:=l.getD i vZ
theorem lW {l:List VN}(h:i<l.length):ap l (i:Int)=some (rv l i):=by
 rw [aI h];unfold rv;simp [List.getD,h]
def mQ (v:VN):Bool:=(fV 0 v).getD false
theorem I4 (N:Nat)(v:VN):fV N v=some (mQ v):=by
 obtain ⟨b,hb⟩:=I5 0 v;have e:fV N v=fV 0 v:=Eq.trans rfl rfl;unfold mQ;rw [e,hb];rfl
def numB (v:VN)(a b:Int):Bool:=decide (v.XZ=3)&&(decide (a<=v.N)&&decide (v.N<=b))
def noneB (v:VN)(k:Int):Bool:=decide (v.XZ=0)||decide (v.XZ=k)
theorem yd (N:Nat)(v:VN)(a b:Int):gX N v a b=some (numB v a b):=by
 unfold gX numB;cases decide (v.XZ=3)<;>cases decide (a<=v.N)<;>cases decide (v.N<=b)<;>rfl
theorem vX (N:Nat)(v:VN)(k:Int):dG N v k=some (noneB v k):=by
 unfold dG noneB;cases decide (v.XZ=0)<;>cases decide (v.XZ=k)<;>rfl
def CR (k:Int):Bool:=decide (k=1)||decide (k=2)||decide (k=3)||decide (k=6)||decide (k=8)||decide (k=9)||decide (k=10)
theorem Km (N:Nat)(k:Int):lq N k=some (CR k):=by
 unfold lq CR;cases decide (k=1)<;>cases decide (k=2)<;>cases decide (k=3)<;>cases decide (k=6)<;>cases decide (k=8)<;>cases decide (k=9)<;>cases decide (k=10)<;>rfl
def mX (k sh fl:Int)(l:List VN):Bool:=
 bif CR k||(decide (k=7)&&decide (0<l.length)) then decide (1<=l.length)&&decide (l.length<=1025)&&(decide ((rv l 0).XZ=1)||decide ((rv l 0).XZ=7))
 else bif decide (k=7) then decide (sh=0) else bif !decide (sh=0)|| !decide (fl=0) then false else bif decide (k=5) then decide (l.length=2)&&noneB (rv l 0) 7&&noneB (rv l 1) 7 else decide (l.length=0)
theorem iA {p q:Prop}[Decidable p][Decidable q](h:p↔q):decide p=decide q:=by
 by_cases hp:p
 ·rw [V0 hp,V0 (h.1 hp)]
 rw [V1 hp,V1 fun hq=>hp (h.2 hq)]
theorem J7 (N:Nat)(c:VJ):jO N c=some (mX c.XZ c.Yf c.Ye c.Yb):=by
 unfold jO mX;rw [Km,bs,iA (p:=(0:Int)<(c.Yb.length:Int)) (q:=0<c.Yb.length) U,iA (p:=(1:Int)<=(c.Yb.length:Int)) (q:=1<=c.Yb.length) U,iA (p:=(c.Yb.length:Int)<=1025) (q:=c.Yb.length<=1025) U,iA (p:=(c.Yb.length:Int)=2) (q:=c.Yb.length=2) U,iA (p:=(c.Yb.length:Int)=0) (q:=c.Yb.length=0) U]
 have hA: ∀b:Bool,((bif decide (1<=c.Yb.length) then some (decide (c.Yb.length<=1025)) else some false).bind fun b8=>(bif b8 then ((ap c.Yb 0).bind fun a6=>(bif decide (a6.XZ=1) then (some true) else ((ap c.Yb 0).bind fun a8=>some (decide (a8.XZ=7)))).bind fun b0=>some b0) else (some false)).bind fun b9=>some b9)=some (decide (1<=c.Yb.length)&&decide (c.Yb.length<=1025)&&(decide ((rv c.Yb 0).XZ=1)||decide ((rv c.Yb 0).XZ=7))):=fun _=>by
  by_cases h:1<=c.Yb.length
  ·have g:ap c.Yb 0=some (rv c.Yb 0):=lW (i:=0) U;rw [V0 h,g];simp only [bs];cases decide (c.Yb.length<=1025)<;>cases decide ((rv c.Yb 0).XZ=1)<;>cases decide ((rv c.Yb 0).XZ=7)<;>rfl
  rw [V1 h];rfl
 have hB:((bif decide (c.Yb.length=2) then ((ap c.Yb 0).bind fun b5=>(dG N b5 7).bind fun b6=>some b6) else (some false)).bind fun b7=>(bif b7 then ((ap c.Yb 1).bind fun c0=>(dG N c0 7).bind fun c7=>some c7) else (some false)).bind fun c8=>some c8)=some (decide (c.Yb.length=2)&&noneB (rv c.Yb 0) 7&&noneB (rv c.Yb 1) 7):=by
  by_cases h:c.Yb.length=2
  ·have g:ap c.Yb 0=some (rv c.Yb 0):=lW (i:=0) U;have g1:ap c.Yb 1=some (rv c.Yb 1):=lW (i:=1) U;rw [V0 h,g,g1];simp only [bs,vX];cases noneB (rv c.Yb 0) 7<;>cases noneB (rv c.Yb 1) 7<;>rfl
  rw [V1 h];rfl
 rw [hA true,hB];cases CR c.XZ<;>cases decide (c.XZ=7)<;>cases decide (0<c.Yb.length)<;>cases decide (c.Yf=0)<;>cases decide (c.Ye=0)<;>cases decide (c.XZ=5)<;>rfl
def sQ:List VN->Bool
 |k::v::r=>decide (k.XZ=7)&& !decide (v.XZ=8)&&sQ r
 | [_]=>false
 | []=>true
def nQ:List VN->Bool
 |t::h::k::s::r=>decide (t.XZ=7)&& !decide (h.XZ=8)&&(noneB k 7&&numB s 0 9007199254740992)&&nQ r
 | []=>true
 |_=>false
theorem pi (k v:VN)(r:List VN):sQ (k::v::r)=(decide (k.XZ=7)&& !decide (v.XZ=8)&&sQ r):=Eq.trans rfl rfl
theorem ph (t h k s:VN)(r:List VN):nQ (t::h::k::s::r)=(decide (t.XZ=7)&& !decide (h.XZ=8)&&(noneB k 7&&numB s 0 9007199254740992)&&nQ r):=Eq.trans rfl rfl
theorem G3: ∀{l:List VN},sQ l=true->l.length%2=0
 | [],_=>rfl
 | [_],h=>by cases h
 |k::v::r,h=>by
  rw [pi] at h;rw [XW] at h;have:=G3 h.2;simp only [WY];omega
theorem G2: ∀{l:List VN},nQ l=true->l.length%4=0
 | [],_=>rfl
 | [_],h=>by cases h
 | [_,_],h=>by cases h
 | [_,_,_],h=>by cases h
 |t::a::k::s::r,h=>by
  rw [ph] at h;rw [XW] at h;have:=G2 h.2;simp only [WY];omega
theorem zv {l r:List VN}(h:l.drop i=v::r):ap l (i:Int)=some v/\l.drop (i+1)=r:=by
 have hl:i<l.length:=by
  rcases XA i l.length with h1|h1
  ·exact h1
  rw [WA h1] at h;cases h
 rw [Wz hl] at h;obtain ⟨e1,e2⟩:=Ww h;exact ⟨by rw [aI hl,e1],e2⟩
theorem G6 (N:Nat)(l:List VN)(hl:l.length<=2900): ∀(m i:Nat),l.length<m+i->i<=l.length->(l.length - i)%2=0->gw N 2 l m (i:Int)=some (sQ (l.drop i))
 |0,i,h,h2,_=>by omega
 | m+1,i,h,h2,h3=>by
  rw [gw.eq_2]
  match hd:l.drop i with
  | []=>
   have hi:l.length<=i:=by have:=congrArg List.length hd;rw [WZ] at this;simp at this;omega
   rw [db U,cf];rfl
  | [x]=>have:=congrArg List.length hd;rw [WZ] at this;simp at this;omega
  |k::v::r=>
   have hlen:=congrArg List.length hd;rw [WZ] at hlen;simp only [WY] at hlen;obtain ⟨g1,d1⟩:=zv hd;obtain ⟨g2,d2⟩:=zv d1;rw [show (((i+1:Nat)):Int)=(i:Int)+1 by omega] at g2;have ih:=G6 N l hl m (i+2) U U U;rw [show (((i+2:Nat)):Int)=(i:Int)+2 by omega,d2] at ih;rw [dr U,ct,g1,bs,r64 U U,g2,bs,V1 (p:=(2:Int)=4) (by decide),cf,bs,cf,r64 U U,ih];simp only [pi];cases decide (k.XZ=7)<;>cases decide (v.XZ=8)<;>rfl
theorem G4 (N:Nat)(l:List VN)(hl:l.length<=2900): ∀(m i:Nat),l.length<m+i->i<=l.length->(l.length - i)%4=0->gw N 4 l m (i:Int)=some (nQ (l.drop i))
 |0,i,h,h2,_=>by omega
 | m+1,i,h,h2,h3=>by
  rw [gw.eq_2]
  match hd:l.drop i with
  | []=>
   have hi:l.length<=i:=by have:=congrArg List.length hd;rw [WZ] at this;simp at this;omega
   rw [db U,cf];rfl
  | [x]=>have:=congrArg List.length hd;rw [WZ] at this;simp at this;omega
  | [x,y]=>have:=congrArg List.length hd;rw [WZ] at this;simp at this;omega
  | [x,y,z]=>have:=congrArg List.length hd;rw [WZ] at this;simp at this;omega
  |t::v::k::s::r=>
   have hlen:=congrArg List.length hd;rw [WZ] at hlen;simp only [WY] at hlen;obtain ⟨g1,d1⟩:=zv hd;obtain ⟨g2,d2⟩:=zv d1;obtain ⟨g3,d3⟩:=zv d2;obtain ⟨g4,d4⟩:=zv d3;rw [show (((i+1:Nat)):Int)=(i:Int)+1 by omega] at g2;rw [show (((i+1+1:Nat)):Int)=(i:Int)+2 by omega] at g3;rw [show (((i+1+1+1:Nat)):Int)=(i:Int)+3 by omega] at g4;have ih:=G4 N l hl m (i+4) U U U;rw [show (((i+4:Nat)):Int)=(i:Int)+4 by omega,d4] at ih;rw [dr U,ct,g1,bs,r64 U U,g2,bs,V0 (p:=(4:Int)=4) rfl,ct,r64 U U,g3,bs,vX,bs,r64 U U,g4,bs,yd,bs,r64 U U,ih];simp only [ph];cases decide (t.XZ=7)<;>cases decide (v.XZ=8)<;>cases noneB k 7<;>cases numB s 0 9007199254740992<;>rfl
theorem O5 (N:Nat)(hN:6500<N)(l:List VN)(hl:l.length<=2900):cP N l 2=some (sQ l):=by
 unfold cP;rw [gp (by decide)]
 have e:(l.length:Int).tmod 2=((l.length%2:Nat):Int):=by rw [Wp U];omega
 rw [e];by_cases h:l.length%2=0
 ·rw [h,V0 (p:=((0:Nat):Int)=0) rfl,nt,cf];exact G6 N l hl N 0 U U U
 rw [V1 U,nf,ct]
 cases hb:sQ l with
 |false=>rfl
 |true=>exact absurd (G3 hb) h
theorem O4 (N:Nat)(hN:6500<N)(l:List VN)(hl:l.length<=2900):cP N l 4=some (nQ l):=by
 unfold cP;rw [gp (by decide)]
 have e:(l.length:Int).tmod 4=((l.length%4:Nat):Int):=by rw [Wp U];omega
 rw [e];by_cases h:l.length%4=0
 ·rw [h,V0 (p:=((0:Nat):Int)=0) rfl,nt,cf];exact G4 N l hl N 0 U U U
 rw [V1 U,nf,ct]
 cases hb:nQ l with
 |false=>rfl
 |true=>exact absurd (G2 hb) h
def rM (k:Int)(l:List VN):Bool:=
 bif decide (k=2) then decide (l.length<=4096)
 else bif decide (k=1)||decide (k=5) then decide (l.length=0)
 else bif decide (k=3) then decide (l.length=3)&&numB (rv l 0) 0 9007199254740992&&noneB (rv l 1) 9
 else bif decide (k=4) then decide (1<=l.length)&&decide (l.length<=4097)&&noneB (rv l 0) 9
 else bif decide (k=6) then decide (l.length=2)&&numB (rv l 0) 0 3&&noneB (rv l 1) 9
 else bif decide (k=7) then decide (4<=l.length)&&numB (rv l 2) 0 1&&numB (rv l 3) 0 9007199254740992
 else bif decide (k=8) then sQ l
 else bif decide (k=10) then decide (1<=l.length)&&decide ((rv l 0).XZ=7)&&nQ (l.drop 1)
 else bif decide (k=9) then decide (2<=l.length)&&numB (rv l 0) 0 2
 else true
theorem ML (N:Nat)(hN:6500<N)(c:VJ)(hc:c.Ya.length<=2900):lH N c=some (rM c.XZ c.Ya):=by
 have h6: ∀p:Bool,p=(decide (c.XZ=1)||decide (c.XZ=5))->c.XZ≠2->lp N c p=some (rM c.XZ c.Ya):=by
  intro p hp h2;subst hp;unfold lp rM;rw [iX h2,cf];rcases Bool.eq_false_or_eq_true (decide (c.XZ=1)||decide (c.XZ=5)) with h15|h15
  ·rw [h15,ct,ct,iA (p:=(c.Ya.length:Int)=0) (q:=c.Ya.length=0) U]
  rw [h15,cf,cf];by_cases k3:c.XZ=3
  ·rw [th k3,ct,ct,iA (p:=(c.Ya.length:Int)=3) (q:=c.Ya.length=3) U];by_cases h:c.Ya.length=3
   ·have g0:ap c.Ya 0=some (rv c.Ya 0):=lW (i:=0) U;have g1:ap c.Ya 1=some (rv c.Ya 1):=lW (i:=1) U;rw [V0 h,g0,g1];simp only [bs,yd,vX];cases numB (rv c.Ya 0) 0 9007199254740992<;>cases noneB (rv c.Ya 1) 9<;>rfl
   rw [V1 h];rfl
  rw [iX k3,cf,cf];by_cases k4:c.XZ=4
  ·rw [th k4,ct,ct,iA (p:=(1:Int)<=(c.Ya.length:Int)) (q:=1<=c.Ya.length) U,iA (p:=(c.Ya.length:Int)<=4097) (q:=c.Ya.length<=4097) U];by_cases h:1<=c.Ya.length
   ·have g0:ap c.Ya 0=some (rv c.Ya 0):=lW (i:=0) U;rw [V0 h,g0];simp only [bs,vX];cases decide (c.Ya.length<=4097)<;>cases noneB (rv c.Ya 0) 9<;>rfl
   rw [V1 h];rfl
  rw [iX k4,cf,cf];by_cases k6:c.XZ=6
  ·rw [th k6,ct,ct,iA (p:=(c.Ya.length:Int)=2) (q:=c.Ya.length=2) U];by_cases h:c.Ya.length=2
   ·have g0:ap c.Ya 0=some (rv c.Ya 0):=lW (i:=0) U;have g1:ap c.Ya 1=some (rv c.Ya 1):=lW (i:=1) U;rw [V0 h,g0,g1];simp only [bs,yd,vX];cases numB (rv c.Ya 0) 0 3<;>cases noneB (rv c.Ya 1) 9<;>rfl
   rw [V1 h];rfl
  rw [iX k6,cf,cf];by_cases k7:c.XZ=7
  ·rw [th k7,ct,ct,iA (p:=(4:Int)<=(c.Ya.length:Int)) (q:=4<=c.Ya.length) U];by_cases h:4<=c.Ya.length
   ·have g2:ap c.Ya 2=some (rv c.Ya 2):=lW (i:=2) U;have g3:ap c.Ya 3=some (rv c.Ya 3):=lW (i:=3) U;rw [V0 h,g2,g3];simp only [bs,yd];cases numB (rv c.Ya 2) 0 1<;>cases numB (rv c.Ya 3) 0 9007199254740992<;>rfl
   rw [V1 h];rfl
  rw [iX k7,cf,cf];by_cases k8:c.XZ=8
  ·rw [th k8,ct,ct,O5 N hN _ hc,bs]
  rw [iX k8,cf,cf];by_cases a6:c.XZ=10
  ·rw [th a6,ct,ct,iA (p:=(1:Int)<=(c.Ya.length:Int)) (q:=1<=c.Ya.length) U];by_cases h:1<=c.Ya.length
   ·have g0:ap c.Ya 0=some (rv c.Ya 0):=lW (i:=0) U;have hd:((c.Ya.drop ((1:Int).toNat)).take (c.Ya.length - (1:Int).toNat))=c.Ya.drop 1:=Xn (by rw [WZ];exact Xx _);rw [V0 h,g0,hd,gp ⟨by omega,by show 1<=_;omega,Xx _⟩,O4 N hN _ (by rw [WZ];omega)];simp only [bs];cases decide ((rv c.Ya 0).XZ=7)<;>cases nQ (c.Ya.drop 1)<;>rfl
   rw [V1 h];rfl
  rw [iX a6,cf,cf];by_cases k9:c.XZ=9
  ·rw [th k9,ct,ct,iA (p:=(2:Int)<=(c.Ya.length:Int)) (q:=2<=c.Ya.length) U];by_cases h:2<=c.Ya.length
   ·have g0:ap c.Ya 0=some (rv c.Ya 0):=lW (i:=0) U;rw [V0 h,g0];simp only [bs,yd];cases numB (rv c.Ya 0) 0 2<;>rfl
   rw [V1 h];rfl
  rw [iX k9,cf,cf]
 unfold lH;rw [db U,cf];by_cases k2:c.XZ=2
 ·rw [th k2,ct];unfold rM;rw [th k2,ct,iA (p:=(c.Ya.length:Int)<=4096) (q:=c.Ya.length<=4096) U]
 rw [iX k2,cf];by_cases k1:c.XZ=1
 ·rw [th k1,ct];exact h6 _ (by rw [th k1];rfl) k2
 rw [iX k1,cf];exact h6 _ (by rw [iX k1];rfl) k2
def bj (c:VJ):Bool:=
 (!decide (c.XZ<1)&& !decide (11<c.XZ)&& !decide (c.Yf<0)&& !decide (c.Ye<0)&& !decide (63<c.Ye)&& !decide (c.Yg<0)&& !decide (1<c.Yg))&&(c.Yb.all mQ&&(c.Ya.all mQ&&(mX c.XZ c.Yf c.Ye c.Yb&&rM c.XZ c.Ya)))
theorem qC (N:Nat)(hN:6500<N)(c:VJ)(hS:c.Yb.length<=1000)(hc:c.Ya.length<=2900):eu N c=some (bj c):=by
 have h19:cQ N c=some (mX c.XZ c.Yf c.Ye c.Yb&&rM c.XZ c.Ya):=by
  unfold cQ;rw [J7,ML N hN c hc,bs];cases mX c.XZ c.Yf c.Ye c.Yb<;>rfl
 have h20:oz N c N 0=some (c.Ya.all mQ&&(mX c.XZ c.Yf c.Ye c.Yb&&rM c.XZ c.Ya)):=by
  rw [zk (fun k i=>oz N c k i) c.Ya mQ (some false) (some (mX c.XZ c.Yf c.Ye c.Yb&&rM c.XZ c.Ya)) (fun k i h=> ?_) (fun k=> ?_) N U]
  ·cases c.Ya.all mQ<;>rfl
  ·rw [oz.eq_2,dr U,ct,aI h,bs,I4,bs,r64 U U];cases mQ c.Ya[i]<;>rfl
  rw [oz.eq_2,db U,cf,h19]
 have h12:iL N c N 0=some (c.Yb.all mQ&&(c.Ya.all mQ&&(mX c.XZ c.Yf c.Ye c.Yb&&rM c.XZ c.Ya))):=by
  rw [zk (fun k i=>iL N c k i) c.Yb mQ (some false) (some (c.Ya.all mQ&&(mX c.XZ c.Yf c.Ye c.Yb&&rM c.XZ c.Ya))) (fun k i h=> ?_) (fun k=> ?_) N U]
  ·cases c.Yb.all mQ<;>rfl
  ·rw [iL.eq_2,dr U,ct,aI h,bs,I4,bs,r64 U U];cases mQ c.Yb[i]<;>rfl
  rw [iL.eq_2,db U,cf];unfold zW;exact h20
 unfold eu bj;rw [h12];cases decide (c.XZ<1)<;>cases decide (11<c.XZ)<;>cases decide (c.Yf<0)<;>cases decide (c.Ye<0)<;>cases decide (63<c.Ye)<;>cases decide (c.Yg<0)<;>cases decide (1<c.Yg)<;>rfl
theorem Fy (N:Nat)(x:Int)(l:List Int)(hl:l.length<=5000): ∀(m i:Nat),l.length<m+i->i<=l.length->Sat (lQ N x l m (i:Int)) fun r=>decide (0<=r)=decide (x∈l.drop i)
 |0,i,h,h2=>by omega
 | m+1,i,h,h2=>by
  rw [lQ.eq_2];by_cases hi:i<l.length
  ·rw [dr U,ct,aI hi,bs,Wz hi]
   refine aK (fun e=> ?_) fun e=> ?_
   ·exact ad (by rw [V0 U,V0];rw [e];exact List.mem_cons_self ..)
   rw [r64 U U];have:=Fy N x l hl m (i+1) U hi;simp only [Wn,Wm] at this
   refine this.mono fun r hr=> ?_
   rw [hr];have:(x∈l[i]::l.drop (i+1))↔x∈l.drop (i+1):=⟨fun h=>(W9.1 h).resolve_left (fun e2=>e e2),Xa _⟩;rw [decide_eq_decide];exact this.symm
  rw [db U,cf,WA U];exact ad (by simp)
theorem rt (N:Nat)(hN:6500<N)(l:List Int)(hl:l.length<=5000)(x:Int):dM N l x=some (decide (x∈l)):=by
 obtain ⟨r,h1,h2⟩:=Fy N x l hl N 0 U U;unfold dM tT;rw [show lQ N x l N 0=some r from h1,bs,h2];rfl
theorem Uz (N:Nat)(hN:6500<N)(l:List Int)(hl:l.length<=5000)(x:Int):EW N x l=some (decide (x∈l)):=by
 apply Sat.eq;unfold EW
 have key: ∀(m i:Nat),l.length<m+i->i<=l.length->Sat (CQ N x l m (i:Int)) (· =decide (x∈l.drop i)):=by
  intro m
  induction m with
  |zero=>intro i h h2;omega
  | succ m ih=>
   intro i h h2;rw [CQ.eq_2];by_cases hi:i<l.length
   ·rw [dr U,ct,aI hi,bs,Wz hi]
    refine aK (fun e=> ?_) fun e=> ?_
    ·exact ad (by rw [V0];rw [e];exact List.mem_cons_self ..)
    rw [r64 U U];have:=ih (i+1) U hi;simp only [Wn,Wm] at this
    refine this.mono fun r hr=> ?_
    rw [hr];have:(x∈l[i]::l.drop (i+1))↔x∈l.drop (i+1):=⟨fun h=>(W9.1 h).resolve_left (fun e2=>e e2.symm),Xa _⟩;rw [decide_eq_decide];exact this.symm
   rw [db U,cf,WA U];exact ad (by simp)
 exact key N 0 U U
theorem Uy (N:Nat)(hN:6500<N)(l:List Int)(hl:l.length<=5000)(x:Int):EU N l x=some (decide (x∈l)):=by
 apply Sat.eq;unfold EU
 have key: ∀(m i:Nat),l.length<m+i->i<=l.length->Sat (CP N x l m (i:Int)) (· =decide (x∈l.drop i)):=by
  intro m
  induction m with
  |zero=>intro i h h2;omega
  | succ m ih=>
   intro i h h2;rw [CP.eq_2];by_cases hi:i<l.length
   ·rw [dr U,ct,aI hi,bs,Wz hi]
    refine aK (fun e=> ?_) fun e=> ?_
    ·exact ad (by rw [V0];rw [e];exact List.mem_cons_self ..)
    rw [r64 U U];have:=ih (i+1) U hi;simp only [Wn,Wm] at this
    refine this.mono fun r hr=> ?_
    rw [hr];have:(x∈l[i]::l.drop (i+1))↔x∈l.drop (i+1):=⟨fun h=>(W9.1 h).resolve_left (fun e2=>e e2.symm),Xa _⟩;rw [decide_eq_decide];exact this.symm
   rw [db U,cf,WA U];exact ad (by simp)
 exact key N 0 U U
def opens (p:Int->Bool):List VN->List Int
 |k::v::l=>(bif bd v&&p k.N then [v.N] else [])++opens p l
 |_=> []
theorem qI (p:Int->Bool)(k v:VN)(l:List VN):opens p (k::v::l)=(bif bd v&&p k.N then [v.N] else [])++opens p l:=rfl
theorem GL (p:Int->Bool): ∀l:List VN,(opens p l).length<=l.length
 | []=>Xx _
 | [_]=>XD _
 |k::v::l=>by
  have:=GL p l;rw [qI,XS];cases bd v&&p k.N<;>simp<;>omega
theorem GK: ∀{l:List VN},x∈opens p l-> ∃v∈l,v.N=x
 | [],h=>by cases h
 | [_],h=>by cases h
 | k::v::l,h=>by
  rw [qI,W8] at h;rcases h with h|h
  ·cases hb:bd v&&p k.N
   ·rw [hb] at h;cases h
   rw [hb] at h;exact ⟨v,by simp,(Xf.1 h).symm⟩
  obtain ⟨w,h1,h2⟩:=GK h;exact ⟨w,by simp [h1],h2⟩
theorem IW {q:Int->Bool}(h:∀x,p x=q x)(l:List VN):opens p l=opens q l:=by rw [show p=q from funext h]
theorem uo (v:VN):((bif decide (v.XZ=7) then (some true) else (some (decide (v.XZ=9)))):Option Bool)=some (bd v):=by unfold bd;cases decide (v.XZ=7)<;>rfl
def dH (c:VJ)(l:List Int):List Int:=bif sv N c then opens (fun x=>decide (x∈l)) c.Ya else []
theorem E4 (N:Nat)(c:VJ)(l:List Int):(dH N c l).length<=c.Ya.length:=by
 unfold dH;cases sv N c
 ·exact XD _
 exact GL _ _
theorem Kr {N:Nat}(h:x∈dH N c l): ∃v∈c.Yb++c.Ya,v.N=x:=by
 unfold dH at h;cases hw:sv N c
 ·rw [hw] at h;cases h
 rw [hw] at h;obtain ⟨v,h1,h2⟩:=GK h;exact ⟨v,by simp [h1],h2⟩
theorem Kp (N:Nat)(hN:6500<N)(l:List Int)(hl:l.length<=5000)(k v:VN)(s:List Int)(hs:s.length<=5000):cM (fun x st=>iZ N l x st) (k,v) (none,s)=some (true,(none,s++(bif bd v&&decide (k.N∈l) then [v.N] else []))):=by
 unfold cM iZ;simp only [uo,bs,rt N hN l hl];cases bd v
 ·simp only [cf,bs,Wj,Wv];rfl
 simp only [ct,bs,Wl];cases decide (k.N∈l)
 ·simp only [cf,Wv];rfl
 simp only [ct];rw [rF (by simp;omega)];rfl
theorem Cm (N:Nat)(hN:6500<N)(l:List Int)(hl:l.length<=5000)(c:VJ)(hc:c.Ya.length<=2900)(he:c.Ya.length%2=0): ∀(m i:Nat) (s:List Int),c.Ya.length<m+i->i<=c.Ya.length->i%2=0->s.length<=i->eh N (cM (fun x st=>iZ N l x st)) c m (i:Int) (none,s)=some (none,s++opens (fun x=>decide (x∈l)) (c.Ya.drop i))
 |0,i,s,h,h2,_,_=>by omega
 | m+1,i,s,h,h2,h3,h4=>by
  rw [eh.eq_2,r64 (a:=(i:Int)+1) U U];by_cases hi:i<c.Ya.length
  ·have hi1:i+1<c.Ya.length:=by omega
   have a6:ap c.Ya ((i:Int)+1)=some c.Ya[i+1]:=by
    have:=aI hi1;simpa using this
   rw [dr U,ct,aI hi,bs,r64 (a:=(i:Int)+1) U U,a6,bs,Kp N hN l hl _ _ s U,bs];simp only [nt,cf];rw [r64 U U]
   have hlen:(s++(bif bd c.Ya[i+1]&&decide (c.Ya[i].N∈l) then [c.Ya[i+1].N] else [])).length<=i+2:=by
    cases bd c.Ya[i+1]&&decide (c.Ya[i].N∈l)<;>simp<;>omega
   have:=Cm N hN l hl c hc he m (i+2) _ U U U hlen;simp only [Wn,Wm] at this;rw [this,Wz hi,Wz hi1,qI,V3]
  rw [db U,cf,WA U];simp [opens]
theorem E3 (N:Nat)(hN:6500<N)(l:List Int)(hl:l.length<=5000)(c:VJ)(hS:c.Yb.length<=1000)(hc:c.Ya.length<=2900):pz N c l=some (dH N c l):=by
 obtain ⟨-,h1,h2⟩:=KG N U c hS hc;unfold pz dH jA;rw [h1,bs];cases hw:sv N c
 ·rfl
 have e:mV N c=some ():=rfl;have:=Cm N hN l hl c hc (h2 hw) N 0 [] U U rfl (by simp);simp only [nt,cf,ct,e,bs];have h3:eh N (cM (fun x st=>iZ N l x st)) c N 0 (none,[])=some (none,[]++opens (fun x=>decide (x∈l)) (c.Ya.drop 0)):=this;rw [h3,bs];rfl
theorem Mz (N:Nat)(hN:6500<N)(l:List Int)(hl:l.length<=5000)(c:VJ)(hS:c.Yb.length<=1000)(hc:c.Ya.length<=2900):xY N c l=some (dH N c l):=by
 obtain ⟨h1, -,h2⟩:=KG N U c hS hc;unfold xY dH;cases hw:sv N c
 ·obtain ⟨n,rfl⟩: ∃n,N=n+1:=⟨N - 1,by omega⟩;rw [ta.eq_2,h1,bs,hw];simp only [cf,bs];rfl
 have he:=h2 hw
 have key: ∀(m i:Nat) (s:List Int),c.Ya.length<m+i->i<=c.Ya.length->i%2=0->s.length<=i->ta N l c m s (i:Int)=some (s++opens (fun x=>decide (x∈l)) (c.Ya.drop i)):=by
  intro m
  induction m with
  |zero=>intro i s h h2;omega
  | succ m ih=>
   intro i s h h2 h3 h4;rw [ta.eq_2,h1,bs,hw,ct,bs];by_cases hi:i<c.Ya.length
   ·have hi1:i+1<c.Ya.length:=by omega
    have a6:ap c.Ya ((i:Int)+1)=some c.Ya[i+1]:=by
     have:=aI hi1;simpa using this
    rw [dr U,ct,r64 (a:=(i:Int)+1) U U,a6,bs,aI hi,bs,Uz N hN l hl,bs];simp only [uo,bs]
    have hlen:(s++(bif bd c.Ya[i+1]&&decide (c.Ya[i].N∈l) then [c.Ya[i+1].N] else [])).length<=i+2:=by
     cases bd c.Ya[i+1]&&decide (c.Ya[i].N∈l)<;>simp<;>omega
    have:=ih (i+2) _ U U U hlen;simp only [Wn,Wm] at this;rw [Wz hi,Wz hi1,qI, <-V3, <-this];unfold vi;rw [r64 (a:=(i:Int)+2) U U,r64 (a:=(i:Int)+2) U U];cases decide (c.Ya[i].N∈l)
    ·simp only [cf,bs,Wi,Wv]
    cases bd c.Ya[i+1]
    ·simp only [ct,cf,bs,Bool.and_true,Wv]
    simp only [ct,bs,Bool.and_true];rw [rF (by simp;omega)]
   rw [db U,cf,WA U];simp [opens,Bt]
 have:=key N 0 [] U U rfl (by simp);simpa using this
theorem BI: ∀(b:Nat) {l:List Int},l.Nodup->(∀x∈l,1<=x/\x<=(b:Int))->l.length<=b
 |0,l,_,h=>by
  cases l with
  |nil=>exact Xx _
  |cons x l=>have:=h x (by simp);omega
 | b+1,l,hn,h=>by
  have h1:=BI b (hn.erase ((b:Int)+1)) fun x hx=>by
   obtain ⟨h2,h3⟩:=hn.mem_erase_iff.1 hx;have:=h x h3;omega
  have h2:=List.length_erase (a:=(b:Int)+1) (l:=l);split at h2<;>omega
theorem Sf (kv:List (Int×Unit))(a:Int):(lk kv a).isSome=decide (a∈kv.map (·.1)):=by
 unfold lk;rw [Bool.eq_iff_iff];simp [List.find?_isSome,Xc]
def W64 (m:VR):Prop:= ∀c∈m.Yd++m.Yc, ∀v∈c.Yb++c.Ya,in64 v.N
theorem W64.at_ (h:W64 m)(a:Int): ∀v∈(aJ m a).Yb++(aJ m a).Ya,in64 v.N:=by
 unfold aJ
 cases hc:jr m a with
 |none=>intro v hv;simp [Gt] at hv
 |some c=>exact h c (uI hc)
structure Tr (m:VR) (all:List Int) (met:List (Int×Unit)):Prop where
 nd:all.Nodup
 mem: ∀x,x∈met.map (·.1)↔x∈all
 has: ∀x∈all,aw m x=true
theorem Tr.len {roots:List VN}(hs:Small m roots){all:List Int}(h:Tr m all met):all.length<=1200:=BI 1200 h.nd fun x hx=>⟨by have:=uu (h.has x hx);omega,by have:=zo hs (h.has x hx);omega⟩
theorem Tr.in64 {roots:List VN}(hs:Small m roots){all:List Int}(h:Tr m all met)(hx:x∈all):in64 x:=by
 have h1:=uu (h.has x hx);have h2:=zo hs (h.has x hx);unfold Go.Proofs.YthhiddkljcacaaaGreat.in64;omega
theorem Tr.add {all:List Int}(h:Tr m all met)(hx:x∉all)(hh:aw m x=true):Tr m (all++ [x]) (wT met x ()):=⟨Xg.2 ⟨h.nd,by simp,fun a ha b hb e=>by rw [Xf] at hb;subst hb;subst e;exact hx ha⟩,fun y=>by
 rw [PH,W8,Xf,h.mem y];exact Or.comm,fun y hy=>by
 rcases W8.1 hy with hy|hy
 ·exact h.has y hy
 ·rw [Xf] at hy;subst hy;exact hh⟩
theorem I8 {roots:List VN}(hs:Small m roots)(hw:W64 m)(a:Int):(ce (aJ m a)).length<=3600/\ ∀x∈ce (aJ m a),in64 x:=by
 have h1:=hs.at_ a;have h2:=np (aJ m a);refine ⟨by omega,fun x hx=> ?_⟩;obtain ⟨v,h3,rfl⟩:=Ft hx;exact hw.at_ a v h3
structure Gr where
 has:Int->Bool
 leads:Int->List Int
 opens:List Int->Int->List Int
def dw (has:Int->Bool):List Int->List Int->List Int
 |row,[]=>row
 |row,x::l=>dw has (bif has x&& !decide (x∈row) then row++ [x] else row) l
inductive Thr (g:Gr):List Int->Nat->List Int->Prop
 |done {row:List Int} {k:Nat}:row.length<=k->Thr g row k row
 |step {row:List Int} {k:Nat} {a:Int} {r:List Int}:row[k]? =some a->Thr g (dw g.has row (g.leads a)) (k+1) r->Thr g row k r
def pt (g:Gr):List Int->List Int->List Int
 |row,[]=>row
 |row,a::avs=>pt g (dw g.has row (g.opens row a)) avs
inductive Ord (g:Gr):List Int->List Int->Prop
 |done {row:List Int}:pt g row row=row->Ord g row row
 |step {row r1 r:List Int}:pt g row row≠row->Thr g (pt g row row) row.length r1->Ord g r1 r->Ord g row r
structure IsOrder (g:Gr) (roots:List Int) (b l:List Int):Prop where
 strong:Thr g (dw g.has [] roots) 0 b
 all:Ord g b l
theorem jb (has:Int->Bool): ∀(row l:List Int), ∃t,dw has row l=row++t/\(∀x∈t,has x=true/\x∈l)
 |row,[]=>⟨[],by simp [dw],by simp⟩
 | row,x::l=>by
  unfold dw
  cases h:has x&& !decide (x∈row) with
  |false=>
   obtain ⟨t,h1,h2⟩:=jb has row l;exact ⟨t,h1,fun y hy=>⟨(h2 y hy).1,by simp [(h2 y hy).2]⟩⟩
  |true=>
   obtain ⟨t,h1,h2⟩:=jb has (row++ [x]) l;refine ⟨x::t,by rw [cond_true,h1];simp,fun y hy=> ?_⟩;rw [XW] at h;rcases W9.1 hy with e|hy
   ·subst e;exact ⟨h.1,by simp⟩
   exact ⟨(h2 y hy).1,by simp [(h2 y hy).2]⟩
theorem um (has:Int->Bool): ∀(row l l':List Int),dw has row (l++l')=dw has (dw has row l) l'
 |_,[],_=>rfl
 |row,x::l,l'=>by
  show dw has _ (l++l')=_;rw [um has _ l l'];rfl
theorem qM {has:Int->Bool}: ∀{row:List Int} (l:List Int),row.Nodup->(dw has row l).Nodup
 |_,[],h=>h
 | row,x::l,h=>by
  unfold dw
  cases h2:has x&& !decide (x∈row) with
  |false=>exact qM l h
  |true=>
   rw [XW] at h2
   have hx:x∉row:=by simpa using h2.2
   exact qM l (Xg.2 ⟨h,by simp,fun a ha b hb e=>by rw [Xf] at hb;subst hb;subst e;exact hx ha⟩)
theorem wc {has:Int->Bool}: ∀(row l:List Int) {x:Int},x∈l->has x=true->x∈dw has row l
 | row,y::l,x,h,hx=>by
  unfold dw;rcases W9.1 h with e|h
  ·subst e;obtain ⟨t,h1, -⟩:=jb has (bif has x&& !decide (x∈row) then row++ [x] else row) l;rw [h1];refine V4 _ ?_;rw [hx,Wl];by_cases hm:x∈row<;>simp [hm]
  exact wc _ l h hx
theorem BP {has:Int->Bool}(h:x∈dw has row l):x∈row\/(has x=true/\x∈l):=by
 obtain ⟨t,h1,h2⟩:=jb has row l;rw [h1] at h;rcases W8.1 h with h|h
 ·exact .inl h
 exact .inr (h2 x h)
theorem vR (g:Gr): ∀(row avs:List Int), ∃t,pt g row avs=row++t
 |row,[]=>⟨[],by simp [pt]⟩
 |row,a::avs=>by
  obtain ⟨t,h1, -⟩:=jb g.has row (g.opens row a);obtain ⟨t2,h2⟩:=vR g (dw g.has row (g.opens row a)) avs;exact ⟨t++t2,by unfold pt;rw [h2,h1,V3]⟩
theorem CS (g:Gr): ∀(row avs bs:List Int),pt g row (avs++bs)=pt g (pt g row avs) bs
 |_,[],_=>rfl
 |row,a::avs,bs=>by
  show pt g _ (avs++bs)=_;rw [CS g _ avs bs];rfl
theorem Dv {g:Gr}: ∀{row:List Int} (avs:List Int),row.Nodup->(pt g row avs).Nodup
 |_,[],h=>h
 |_,_::avs,h=>Dv avs (qM _ h)
theorem GF {g:Gr}: ∀{row:List Int} (avs:List Int),(∀x∈row,g.has x=true)-> ∀x∈pt g row avs,g.has x=true
 |_,[],h=>h
 |_,_::avs,h=>GF avs fun x hx=>(BP hx).elim (h x) (·.1)
theorem Thr.app {g:Gr}{r:List Int}(h:Thr g row k r): ∃t,r=row++t:=by
 induction h with
 |done _=>exact ⟨[],by simp⟩
 |step _ _ ih=>
  rename_i row _ a _ _ _
  obtain ⟨t,rfl⟩:=ih;obtain ⟨t2,h1, -⟩:=jb g.has row (g.leads a);exact ⟨t2++t,by rw [h1,V3]⟩
theorem Thr.nodup {g:Gr}{r:List Int}(h:Thr g row k r)(hn:row.Nodup):r.Nodup:=by
 induction h with
 |done _=>exact hn
 |step _ _ ih=>exact ih (qM _ hn)
theorem Thr.has {g:Gr}{r:List Int}(h:Thr g row k r)(hn:∀x∈row,g.has x=true): ∀x∈r,g.has x=true:=by
 induction h with
 |done _=>exact hn
 |step _ _ ih=>exact ih fun x hx=>(BP hx).elim (hn x) (·.1)
theorem Thr.det {g:Gr}{r r':List Int}(h:Thr g row k r)(h':Thr g row k r'):r=r':=by
 induction h with
 |done hk=>
  cases h' with
  |done _=>rfl
  |step ha _=>rw [WP hk] at ha;cases ha
 |step ha _ ih=>
  cases h' with
  |done hk=>rw [WP hk] at ha;cases ha
  |step ha' h2=>rw [ha] at ha';cases ha';exact ih h2
theorem Ord.det {g:Gr}{r r':List Int}(h:Ord g row r)(h':Ord g row r'):r=r':=by
 induction h with
 |done hk=>
  cases h' with
  |done _=>rfl
  |step ha _ _=>exact absurd hk ha
 |step ha h1 _ ih=>
  cases h' with
  |done hk=>exact absurd hk ha
  |step _ h1' h2=>exact ih (h1.det h1'▸h2)
theorem IsOrder.det {g:Gr}{roots b b' l':List Int}(h:IsOrder g roots b l)(h':IsOrder g roots b' l'):b=b'/\l=l':=by
 obtain ⟨h1,h2⟩:=h;obtain ⟨h3,h4⟩:=h';have e:=h1.det h3;subst e;exact ⟨J,h2.det h4⟩
theorem Ord.app {g:Gr}{r:List Int}(h:Ord g row r): ∃t,r=row++t:=by
 induction h with
 |done _=>exact ⟨[],by simp⟩
 |step _ h1 _ ih=>
  rename_i row r1 _ _ _
  obtain ⟨t,rfl⟩:=ih;obtain ⟨t1,rfl⟩:=h1.app;obtain ⟨t2,h2⟩:=vR g row row;exact ⟨t2++t1++t,by rw [h2];simp [V3]⟩
theorem Ord.nodup {g:Gr}{r:List Int}(h:Ord g row r)(hn:row.Nodup):r.Nodup:=by
 induction h with
 |done _=>exact hn
 |step _ h1 _ ih=>exact ih (h1.nodup (Dv _ hn))
theorem Ord.has {g:Gr}{r:List Int}(h:Ord g row r)(hn:∀x∈row,g.has x=true): ∀x∈r,g.has x=true:=by
 induction h with
 |done _=>exact hn
 |step _ h1 _ ih=>exact ih (h1.has (GF _ hn))
theorem IsOrder.nodup {g:Gr}{roots b:List Int}(h:IsOrder g roots b l):b.Nodup/\l.Nodup:=
 have hb:=h.strong.nodup (qM _ List.nodup_nil)
 ⟨hb,h.all.nodup hb⟩
theorem IsOrder.has {g:Gr}{roots b:List Int}(h:IsOrder g roots b l):(∀x∈b,g.has x=true)/\ ∀x∈l,g.has x=true:=
 have hb:=h.strong.has fun x hx=>(BP hx).elim (fun h=>by cases h) (·.1)
 ⟨hb,h.all.has hb⟩
theorem IsOrder.sub {g:Gr}{roots b:List Int}(h:IsOrder g roots b l)(hx:x∈b):x∈l:=by
 obtain ⟨t,e⟩:=h.all.app;rw [e];exact V4 _ hx
theorem IsOrder.roots {g:Gr}{roots b:List Int}(h:IsOrder g roots b l)(hx:x∈roots)(hh:g.has x=true):x∈b:=by
 obtain ⟨t,e⟩:=h.strong.app;rw [e];exact V4 _ (wc _ _ hx hh)
def CloG (g:Gr)(row:List Int)(k:Nat):Prop:= ∀(i:Nat) (a x:Int),i<k->row[i]? =some a->x∈g.leads a->g.has x=true->x∈row
theorem CloG.app {g:Gr}{t:List Int}(hk:k<=row.length)(h:CloG g row k):CloG g (row++t) k:=fun i a x hi ha hx hh=>by
 rw [WJ U] at ha;exact V4 _ (h i a x hi ha hx hh)
theorem Thr.clo {g:Gr}{r:List Int}(h:Thr g row k r)(hk:k<=row.length)(hc:CloG g row k):CloG g r r.length:=by
 induction h with
 |done a6=>intro i a x hi ha hx hh;exact hc i a x U ha hx hh
 | step ha _ ih=>
  rename_i row k a _ _
  have hlt:=(WQ.1 ha).1;obtain ⟨t,h1, -⟩:=jb g.has row (g.leads a)
  refine ih (by rw [h1,XS];omega) fun i b x hi hb hx hh=> ?_
  by_cases e:i=k
  ·subst e;rw [h1,WJ hlt,ha] at hb;cases hb;exact wc _ _ hx hh
  rw [h1] at hb⊢;exact (CloG.app hk hc (t:=t)) i b x U hb hx hh
theorem GG {g:Gr}: ∀{row avs:List Int},pt g row avs=row-> ∀a∈avs, ∀x∈g.opens row a,g.has x=true->x∈row
 | row,b::avs,h,a,ha,x,hx,hh=>by
  have h1:dw g.has row (g.opens row b)=row:=by
   obtain ⟨t,e1, -⟩:=jb g.has row (g.opens row b);obtain ⟨t2,e2⟩:=vR g (dw g.has row (g.opens row b)) avs
   have h3:row++t++t2=row:=by rw [<-e1, <-e2];exact h
   have h4:=congrArg List.length h3;simp only [XS] at h4;have h5:t=[]:=WD U;rw [e1,h5,Wv]
  rcases W9.1 ha with e|ha
  ·subst e;have:=wc row _ hx hh;rwa [h1] at this
  refine GG (avs:=avs) ?_ a ha x hx hh;unfold pt at h;rw [h1] at h;exact h
theorem Ord.closed {g:Gr}{r:List Int}(h:Ord g row r)(hc:CloG g row row.length):CloG g r r.length/\ ∀a∈r, ∀x∈g.opens r a,g.has x=true->x∈r:=by
 induction h with
 |done hp=>exact ⟨hc,GG hp⟩
 |step _ h1 _ ih=>
  rename_i row _ _ _ _
  obtain ⟨t,e⟩:=vR g row row;refine ih (h1.clo (by rw [e,XS];omega) ?_);rw [e];exact hc.app (Xx _)
theorem IsOrder.closed {g:Gr}{roots b:List Int}(h:IsOrder g roots b l):(∀a∈l, ∀x∈g.leads a,g.has x=true->x∈l)/\ ∀a∈l, ∀x∈g.opens l a,g.has x=true->x∈l:=by
 obtain ⟨h1,h2⟩:=h.all.closed (h.strong.clo (XD _) fun i _ _ hi=>absurd hi U);refine ⟨fun a ha x hx hh=> ?_,h2⟩;obtain ⟨i,hi,e⟩:=WX ha;exact h1 i a x hi (by rw [WO hi,e]) hx hh
def F5 (m:VR):Gr:=⟨aw m,fun a=>ce (aJ m a),fun row a=>dH N (aJ m a) row⟩
def bP (l:List VN):List Int:=(l.filter bd).map (·.N)
theorem zw (l l':List VN):bP (l++l')=bP l++bP l':=by unfold bP;simp
theorem qW {l:List VN}:x∈bP l↔ ∃v∈l,bd v=true/\v.N=x:=by
 unfold bP;simp only [Xc,Xb];constructor
 ·rintro ⟨v,⟨h1,h2⟩,h3⟩;exact ⟨v,h1,h2,h3⟩
 rintro ⟨v,h1,h2,h3⟩;exact ⟨v,⟨h1,h2⟩,h3⟩
theorem HU (N:Nat){roots:List VN}(hN:6500<N)(hs:Small m roots)(d:Int)(l:List Int)(hl:l.length<=3600)(h64:∀x∈l,in64 x){all:List Int}(ht:Tr m all met):
  Sat (ee N ⟨m,all,met,d⟩ l) fun r=>r.m_=m/\r.YH=d/\Tr m r.Yz r.Yq/\r.Yz=dw (aw m) all l:=by
 unfold ee;refine cD (fun k i (s:List Int×List (Int×Unit))=>cO N l ⟨m,all,met,d⟩ k (i:Int) s.1 s.2) l.length (fun i s=>Tr m s.1 s.2/\s.1=dw (aw m) all (l.take i)) _ ?_ ?_ N 0 (all,met) U U ⟨ht,J⟩
 ·rintro k i ⟨al,mt⟩ hi ⟨h1,h2⟩ go;show Sat (cO N l ⟨m,all,met,d⟩ (k+1) i al mt) _;simp only at h1 h2;have a6:=h64 l[i] (XY _)
  have hnext:dw (aw m) all (l.take (i+1))=(bif aw m l[i]&& !decide (l[i]∈al) then al++ [l[i]] else al):=by
   rw [ay hi,um, <-h2];rfl
  rw [cO.eq_2,dr U,ct,aI hi,bs,Sf];unfold jK;rw [r64 (a:=(i:Int)+1) U U,r64 (a:=(i:Int)+1) U U];by_cases hm:l[i]∈al
  ·rw [V0 ((h1.mem _).2 hm)];simp only [nt,cf,bs];exact go (al,mt) ⟨h1,by rw [hnext,V0 hm];simp⟩
  rw [V1 (fun h=>hm ((h1.mem _).1 h))];simp only [nf,ct,bs,we N m _ a6];cases hh:aw m l[i]
  ·simp only [cf];exact go (al,mt) ⟨h1,by rw [hnext,hh];rfl⟩
  simp only [ct];have hlen:=h1.len hs;rw [rF (by simp;omega)];exact go (al++ [l[i]],wT mt l[i] ()) ⟨h1.add hm hh,by rw [hnext,hh,V1 hm];rfl⟩
 rintro k ⟨al,mt⟩ ⟨h1,h2⟩;show Sat (cO N l ⟨m,all,met,d⟩ (k+1) _ al mt) _;rw [cO.eq_2,db U,cf];exact ad ⟨J,J,h1,by simpa using h2⟩
theorem Do (N:Nat)(hN:6500<N){roots:List VN}(hs:Small m roots)(hw:W64 m){all:List Int}(ht:Tr m all met)(k:Nat)(hk:k<=all.length):
  Sat (iu N ⟨m,all,met,(k:Int)⟩) fun r=>r.m_=m/\r.YH=(r.Yz.length:Int)/\Tr m r.Yz r.Yq/\Thr (F5 N m) all k r.Yz:=by
 unfold iu;refine rP (fun f (s:List Int×List (Int×Unit)×Nat)=>gv N f m.Yd m.Yc s.1 s.2.1 (s.2.2:Int)) (fun s=>1300 - s.2.2) (fun s=>Tr m s.1 s.2.1/\s.2.2<=s.1.length/\ ∀r,Thr (F5 N m) s.1 s.2.2 r->Thr (F5 N m) all k r) _ ?_ N (all,met,k) (by show 1300 - k<N;omega) ⟨ht,hk,fun _ h=>h⟩;rintro f ⟨al,mt,j⟩ ⟨h1,h3,h4⟩ go;show Sat (gv N (f+1) m.Yd m.Yc al mt (j:Int)) _;simp only at h1 h3 h4;have hlen:=h1.len hs;rw [gv.eq_2];by_cases hj:j<al.length
 ·have hx:=XY hj;have hat:=In N hs al[j] (h1.in64 hs hx);have hsm:=hs.at_ al[j];obtain ⟨a6,a8⟩:=I8 hs hw al[j];rw [dr U,ct,aI hj,bs];have hat':lG N ⟨m.Yd,m.Yc⟩ al[j]=some (aJ m al[j]):=hat;rw [hat',bs,qL N U _ U U,bs];refine Sat.bind (HU N hN hs (j:Int) _ a6 a8 h1) ?_;rintro ⟨m',al',mt',d'⟩ ⟨e1,e2,h5,h6⟩;simp only at e1 e2 h5 h6;subst e1 e2;have hlen':=h5.len hs
  dsimp only
  rw [r64 U U]
  have hge:al.length<=al'.length:=by
   obtain ⟨t,e, -⟩:=jb (aw m') al (ce (aJ m' al[j]));rw [h6,e,XS];omega
  have hgo:=go (al',mt',j+1) (by show 1300 - (j+1)<1300 - j;omega) ⟨h5,by show j+1<=al'.length;omega,fun r hr=>h4 r (.step (WO hj) (by rw [h6] at hr;exact hr))⟩;simpa using hgo
 have:j=al.length:=by omega
 subst this;rw [db U,cf];exact ad ⟨J,J,h1,h4 _ (.done (Xx _))⟩
theorem Nt (N:Nat)(hN:6500<N){roots:List VN}(hs:Small m roots)(hw:W64 m)(hr:∀v∈roots,in64 v.N):
  Sat (ov N m roots) fun r=>r.m_=m/\r.YH=(r.Yz.length:Int)/\Tr m r.Yz r.Yq/\Thr (F5 N m) (dw (aw m) [] (bP roots)) 0 r.Yz:=by
 have hrl:=hs.roots;unfold ov;refine cD (fun k i (s:List Int×List (Int×Unit))=>jv N roots k (i:Int) m.Yd m.Yc s.1 s.2 0) roots.length (fun i s=>Tr m s.1 s.2/\s.1=dw (aw m) [] (bP (roots.take i))) _ ?_ ?_ N 0 ([],[]) U U ⟨⟨by simp,by simp,by simp⟩,J⟩
 ·rintro k i ⟨al,mt⟩ hi ⟨h1,h2⟩ go;show Sat (jv N roots (k+1) (i:Int) m.Yd m.Yc al mt 0) _;simp only at h1 h2;have a6:=hr roots[i] (XY _)
  have ha:oH N roots[i]=some (roots[i].N,bd roots[i]):=by
   unfold oH;rw [uo,bs]
  have hnext:dw (aw m) [] (bP (roots.take (i+1)))=dw (aw m) al (bP [roots[i]]):=by
   rw [ay hi,zw,um, <-h2]
  rw [jv.eq_2,dr U,ct,aI hi,bs];unfold qD;rw [ha,bs];cases hb:bd roots[i]
  ·simp only [cf,bs];rw [r64 U U];refine go (al,mt) ⟨h1,?_⟩;rw [hnext];simp [bP,hb,dw]
  simp only [ct];obtain ⟨⟨m',al',mt',d'⟩,e0,e1,e2,h5,h6⟩:=HU N hN hs 0 [roots[i].N] (by simp) (by intro x hx;rw [Xf] at hx;subst hx;exact a6) h1;simp only at e1 e2 h5 h6;subst e1 e2;have e0':ee N ⟨⟨m'.Yd,m'.Yc⟩,al,mt,0⟩ [roots[i].N]=some ⟨m',al',mt',0⟩:=e0;rw [e0',bs,bs]
  dsimp only
  rw [r64 U U];refine go (al',mt') ⟨h5,?_⟩;show al'=_;rw [hnext,h6];simp [bP,hb]
 rintro k ⟨al,mt⟩ ⟨h1,h2⟩;show Sat (jv N roots (k+1) _ m.Yd m.Yc al mt 0) _;rw [jv.eq_2,db U,cf];unfold t8;refine Sat.bind (Do N hN hs hw h1 0 (XD _)) ?_;rintro r ⟨e1,e2,h5,h6⟩;simp only [XV] at h2;exact ad ⟨e1,e2,h5,by rw [<-h2];exact h6⟩
theorem IV (N:Nat){roots:List VN}(hs:Small m roots)(hw:W64 m)(a:Int)(l:List Int):(dH N (aJ m a) l).length<=3600/\ ∀x∈dH N (aJ m a) l,in64 x:=by
 have h1:=hs.at_ a;have h2:=E4 N (aJ m a) l;refine ⟨by omega,fun x hx=> ?_⟩;obtain ⟨v,h3,rfl⟩:=Kr hx;exact hw.at_ a v h3
theorem N0 (N:Nat)(hN:6500<N){roots:List VN}(hs:Small m roots)(hw:W64 m){all:List Int}(ht:Tr m all met)(d:Int):
  Sat (kQ N ⟨m,all,met,d⟩) fun r=>r.2.m_=m/\r.2.YH=d/\Tr m r.2.Yz r.2.Yq/\r.1=decide ((all.length:Int)<(r.2.Yz.length:Int))/\r.2.Yz=pt (F5 N m) all all:=by
 have hlen:=ht.len hs;unfold kQ;refine cD (fun k i (s:List Int×List (Int×Unit))=>dn N ⟨m,all,met,d⟩ k (i:Int) m.Yd m.Yc s.1 s.2 d) all.length (fun i s=>Tr m s.1 s.2/\(∃t,s.1=all++t)/\s.1=pt (F5 N m) all (all.take i)) _ ?_ ?_ N 0 (all,met) U U ⟨ht,⟨[],by simp⟩,J⟩
 ·rintro k i ⟨al,mt⟩ hi ⟨h1,⟨t,h2⟩,h3⟩ go;show Sat (dn N ⟨m,all,met,d⟩ (k+1) (i:Int) m.Yd m.Yc al mt d) _;simp only at h1 h2 h3;have hlen1:=h1.len hs
  have htk:List.take all.length al=all:=by rw [h2,List.take_left'];rfl
  have hx:=XY hi;have hsm:=hs.at_ all[i];have hat:lG N ⟨m.Yd,m.Yc⟩ all[i]=some (aJ m all[i]):=In N hs all[i] (ht.in64 hs hx)
  have hnext:pt (F5 N m) all (all.take (i+1))=dw (aw m) al (dH N (aJ m all[i]) al):=by
   rw [ay hi,CS, <-h3];rfl
  rw [dn.eq_2];simp only [XV];rw [dr U,ct,htk,aI hi,bs,hat,bs];unfold lE;by_cases h8:(aJ m all[i]).XZ=8
  ·rw [th h8,ct,E3 N hN al U _ U U,bs];obtain ⟨a6,a8⟩:=IV N hs hw all[i] al;obtain ⟨⟨m',al',mt',d'⟩,e0,e1,e2,h5,h6⟩:=HU N hN hs d _ a6 a8 h1;simp only at e1 e2 h5 h6;subst e1 e2;have e0':ee N ⟨⟨m'.Yd,m'.Yc⟩,al,mt,d'⟩ (dH N (aJ m' all[i]) al)=some ⟨m',al',mt',d'⟩:=e0;rw [e0',bs]
   dsimp only
   rw [r64 U U];obtain ⟨t',e', -⟩:=jb (aw m') al (dH N (aJ m' all[i]) al);exact go (al',mt') ⟨h5,⟨t++t',by show al'=_;rw [h6,e',h2,V3]⟩,by show al'=_;rw [hnext,h6]⟩
  rw [iX h8,cf,r64 U U];refine go (al,mt) ⟨h1,⟨t,h2⟩,?_⟩
  have h0:dH N (aJ m all[i]) al=[]:=by
   unfold dH sv;rw [iX h8];rfl
  show al=_;rw [hnext,h0];rfl
 rintro k ⟨al,mt⟩ ⟨h1,⟨t,h2⟩,h3⟩;show Sat (dn N ⟨m,all,met,d⟩ (k+1) _ m.Yd m.Yc al mt d) _;rw [dn.eq_2];simp only [XV] at h3⊢;rw [db U,cf];exact ad ⟨J,J,h1,J,h3⟩
theorem My (N:Nat)(hN:6500<N){roots:List VN}(hs:Small m roots)(hw:W64 m)(hr:∀v∈roots,in64 v.N):
  ∃b all,IsOrder (F5 N m) (bP roots) b.Yz all/\all.length<=1200/\b.Yz.length<=1200/\ov N m roots=some b/\ma N m roots=some all:=by
 obtain ⟨⟨m',al0,mt0,d0⟩,e0,e1,e2,h1,h2⟩:=Nt N hN hs hw hr;simp only at e1 e2 h1 h2;subst e1 e2;have hlen0:=h1.len hs
 have key:Sat (ma N m' roots) fun all=>Ord (F5 N m') al0 all/\all.length<=1200:=by
  unfold ma;rw [e0,bs];refine rP (fun f (s:List Int×List (Int×Unit))=>lS N f m'.Yd m'.Yc s.1 s.2 (s.1.length:Int)) (fun s=>1300 - s.1.length) (fun s=>Tr m' s.1 s.2/\ ∀r,Ord (F5 N m') s.1 r->Ord (F5 N m') al0 r) _ ?_ N (al0,mt0) (by show 1300 - al0.length<N;omega) ⟨h1,fun _ h=>h⟩;rintro f ⟨al,mt⟩ ⟨h4,h5⟩ go;show Sat (lS N (f+1) m'.Yd m'.Yc al mt (al.length:Int)) _;simp only at h4 h5;have hlen:=h4.len hs;rw [lS.eq_2];obtain ⟨⟨b,m2,al2,mt2,d2⟩,g0,g1,g2,g3,g5,g6⟩:=N0 N hN hs hw h4 (al.length:Int);simp only at g1 g2 g3 g5 g6;subst g1 g2;have hlen2:=g3.len hs;have g0':kQ N ⟨⟨m2.Yd,m2.Yc⟩,al,mt,(al.length:Int)⟩=some (b,⟨m2,al2,mt2,(al.length:Int)⟩):=g0;obtain ⟨t2,ht2⟩:=vR (F5 N m2) al al;rw [g0',bs]
  dsimp only
  rw [g5]
  refine aK (fun hlt=> ?_) fun hge=> ?_
  ·refine Sat.bind (Do N hN hs hw g3 al.length U) ?_;rintro ⟨m3,al3,mt3,d3⟩ ⟨k1,k2,k3,k4⟩;simp only at k1 k2 k3 k4;subst k1 k2;have hlen3:=k3.len hs;refine go (al3,mt3) ?_ ⟨k3,fun r h=>h5 r (.step ?_ (by rw [<-g6];exact k4) h)⟩
   ·show 1300 - al3.length<1300 - al.length;obtain ⟨t3,e3⟩:=k4.app
    have:al2.length<=al3.length:=by rw [e3,XS];omega
    omega
   rw [<-g6];intro e;rw [e] at hlt;omega
  have e:al2=al:=by
   rw [ht2] at g6;have h0:t2=[]:=WD (by rw [g6,XS] at hge;omega);rw [g6,h0,Wv]
  subst e;unfold si;exact ad ⟨h5 _ (.done g6.symm),by omega⟩
 obtain ⟨all,k1,k2,k3⟩:=key;exact ⟨⟨m',al0,mt0,(al0.length:Int)⟩,all,⟨h2,k2⟩,k3,hlen0,e0,k1⟩
theorem tv (l:List Int)(x:Int):x∈kq l↔x∈l:=by unfold kq;exact List.mem_mergeSort
theorem Gy (h:l.Nodup):(kq l).Pairwise (· < ·):=by
 have h1:(kq l).Pairwise fun a b=>decide (a<=b)=true:=List.pairwise_mergeSort (by intro a b c h1 h2;simp at*;omega) (by intro a b;simp;omega) l
 have h2:(kq l).Nodup:=(List.mergeSort_perm l _).nodup_iff.2 h;rw [List.nodup_iff_pairwise_ne] at h2;exact h1.imp₂ (fun a b h3 h4=>by simp at h3;omega) h2
theorem EB {s:List Int}(h:l.Nodup)(hs:s.Pairwise (· < ·))(he:∀x,x∈l↔x∈s):kq l=s:=LN (Gy h) hs fun x=>(tv l x).trans (he x)
theorem Md (N:Nat)(l:List Int)(h:l.length<=5000):qY N l=some (kq l):=by
 unfold qY;rw [rF U]
def obj (n:Int):VN:=⟨7,n,⟨#[]⟩⟩
theorem Qh {N:Nat}{roots:List VN}{s:List Int}(h:ma N m roots=some l)(hl:l.length<=5000)(hs:kq l=s):nG N m roots=some s:=by
 unfold nG;rw [h,bs,Md N l hl,bs,hs]
structure Tq (m:VR) (all:List Int):Prop where
 nd:all.Nodup
 has: ∀x∈all,aw m x=true
theorem Tq.len {roots:List VN}(hs:Small m roots){all:List Int}(h:Tq m all):all.length<=1200:=BI 1200 h.nd fun x hx=>⟨by have:=uu (h.has x hx);omega,by have:=zo hs (h.has x hx);omega⟩
theorem Tq.in64 {roots:List VN}(hs:Small m roots){all:List Int}(h:Tq m all)(hx:x∈all):in64 x:=by
 have h1:=uu (h.has x hx);have h2:=zo hs (h.has x hx);unfold Go.Proofs.YthhiddkljcacaaaGreat.in64;omega
theorem Tq.lay {all:List Int}(h:Tq m all)(l:List Int):Tq m (dw (aw m) all l):=⟨qM l h.nd,fun x hx=>(BP hx).elim (h.has x) (·.1)⟩
theorem EF (N:Nat){roots:List VN}(hN:6500<N)(hs:Small m roots)(l:List Int)(hl:l.length<=3600)(h64:∀x∈l,in64 x){all:List Int}(ht:Tq m all):tx N m all l=some (dw (aw m) all l):=by
 apply Sat.eq;unfold tx;refine cD (fun k i (s:List Int)=>qG N l m k s (i:Int)) l.length (fun i s=>Tq m s/\s=dw (aw m) all (l.take i)) _ ?_ ?_ N 0 all U U ⟨ht,J⟩
 ·rintro k i s hi ⟨h0,h1⟩ go;show Sat (qG N l m (k+1) s (i:Int)) _;have a6:=h64 l[i] (XY _);have hsl:=h0.len hs
  have hnext:dw (aw m) all (l.take (i+1))=(bif aw m l[i]&& !decide (l[i]∈s) then s++ [l[i]] else s):=by
   rw [ay hi,um, <-h1];rfl
  have hT:Tq m (dw (aw m) all (l.take (i+1))):=ht.lay _;rw [qG.eq_2,dr U,ct];simp only [aI hi,bs,Lu N m _ a6,Uy N hN s U l[i]];unfold xX;cases hh:aw m l[i]
  ·simp only [cf,bs];rw [r64 U U];exact go s ⟨h0,by rw [hnext,hh];rfl⟩
  simp only [ct,bs];by_cases hm:l[i]∈s
  ·rw [V0 hm];simp only [nt,cf];rw [r64 U U];exact go s ⟨h0,by rw [hnext,hh,V0 hm];rfl⟩
  have e:dw (aw m) all (l.take (i+1))=s++ [l[i]]:=by rw [hnext,hh,V1 hm];rfl
  rw [V1 hm];simp only [nf,ct];rw [rF (by simp;omega),r64 U U];exact go (s++ [l[i]]) ⟨e▸hT,e.symm⟩
 rintro k s ⟨h0,h1⟩;show Sat (qG N l m (k+1) s _) _;rw [qG.eq_2,db U,cf];exact ad (by simpa using h1)
theorem Mo (N:Nat)(hN:6500<N)(l:List VN)(hl:l.length<=3600):oI N l=some (bP l):=by
 apply Sat.eq;unfold oI;refine cD (fun k i (s:List Int)=>iR N l k s (i:Int)) l.length (fun i s=>s=bP (l.take i)) _ ?_ ?_ N 0 [] U U J
 ·rintro k i s hi h1 go;show Sat (iR N l (k+1) s (i:Int)) _
  have hsl:s.length<=3600:=by
   rw [h1];unfold bP;rw [XU];exact Xy (W0 _ _) (by rw [XT];omega)
  have hnext:bP (l.take (i+1))=s++bP [l[i]]:=by rw [ay hi,zw,h1]
  rw [iR.eq_2,dr U,ct];simp only [aI hi,bs,uo];unfold qH;cases hb:bd l[i]
  ·simp only [cf];rw [r64 U U];exact go s (by rw [hnext];simp [bP,hb])
  simp only [ct];rw [rF (by simp;omega),r64 U U];exact go (s++ [l[i].N]) (by rw [hnext];simp [bP,hb])
 rintro k s h1;show Sat (iR N l (k+1) s _) _;rw [iR.eq_2,db U,cf];exact ad (by simpa using h1)
theorem Bg (N:Nat)(hN:6500<N){roots:List VN}(hs:Small m roots)(hw:W64 m){all:List Int}(ht:Tq m all)(k:Nat)(hk:k<=all.length):
  Sat (mc N m all (k:Int)) fun r=>Tq m r/\Thr (F5 N m) all k r:=by
 unfold mc;refine rP (fun f (s:List Int×Nat)=>pK N m f s.1 (s.2:Int)) (fun s=>1300 - s.2) (fun s=>Tq m s.1/\s.2<=s.1.length/\ ∀r,Thr (F5 N m) s.1 s.2 r->Thr (F5 N m) all k r) _ ?_ N (all,k) (by show 1300 - k<N;omega) ⟨ht,hk,fun _ h=>h⟩;rintro f ⟨al,j⟩ ⟨h1,h3,h4⟩ go;show Sat (pK N m (f+1) al (j:Int)) _;simp only at h1 h3 h4;have hlen:=h1.len hs;rw [pK.eq_2];by_cases hj:j<al.length
 ·have hx:=XY hj;have hsm:=hs.at_ al[j];obtain ⟨a6,a8⟩:=I8 hs hw al[j];rw [dr U,ct,aI hj,bs,Pn N m _ (h1.in64 hs hx),bs,MS N U _ U U,bs,EF N hN hs _ a6 a8 h1,bs,r64 U U]
  have hge:al.length<=(dw (aw m) al (ce (aJ m al[j]))).length:=by
   obtain ⟨t,e, -⟩:=jb (aw m) al (ce (aJ m al[j]));rw [e,XS];omega
  exact go (dw (aw m) al (ce (aJ m al[j])),j+1) (by show 1300 - (j+1)<1300 - j;omega) ⟨h1.lay _,by show j+1<=(dw (aw m) al (ce (aJ m al[j]))).length;omega,fun r hr=>h4 r (.step (WO hj) hr)⟩
 have:j=al.length:=by omega
 subst this;rw [db U,cf];exact ad ⟨h1,h4 _ (.done (Xx _))⟩
theorem Kd (N:Nat)(hN:6500<N){roots:List VN}(hs:Small m roots)(hw:W64 m)(hr:∀v∈roots,in64 v.N):
  ∃b all,IsOrder (F5 N m) (bP roots) b all/\uR N m roots=some all/\((oI N roots).bind fun y5=>(tx N m ([]:List Int) y5).bind fun y8=>mc N m y8 0)=some b:=by
 have hrl:=hs.roots;have ha:=Mo N hN roots U
 have h64: ∀x∈bP roots,in64 x:=fun x hx=>by
  obtain ⟨v,h1, -,rfl⟩:=qW.1 hx;exact hr v h1
 have hal:(bP roots).length<=3600:=by
  unfold bP;rw [XU];exact Xy (W0 _ _) U
 have hT0:Tq m []:=⟨List.nodup_nil,by simp⟩;have hlay:=EF N hN hs (bP roots) hal h64 hT0;obtain ⟨b,b0,b1,b2⟩:=Bg N hN hs hw (hT0.lay (bP roots)) 0 (XD _);have b0':mc N m (dw (aw m) [] (bP roots)) 0=some b:=b0
 have key:Sat (uR N m roots) fun all=>Ord (F5 N m) b all:=by
  unfold uR;rw [ha,bs,hlay,bs,b0',bs];refine rP (fun f (s:List Int)=>ki N m f s) (fun s=>1300 - s.length) (fun s=>Tq m s/\ ∀r,Ord (F5 N m) s r->Ord (F5 N m) b r) _ ?_ N b (by show 1300 - b.length<N;omega) ⟨b1,fun _ h=>h⟩;rintro f al ⟨h4,h5⟩ go;show Sat (ki N m (f+1) al) _;have hlen:=h4.len hs;rw [ki.eq_2];refine cD (fun k i (s:List Int)=>oy N (ki N m f) al m k s (i:Int)) al.length (fun i s=>Tq m s/\(∃t,s=al++t)/\s=pt (F5 N m) al (al.take i)) _ ?_ ?_ N 0 al U U ⟨h4,⟨[],by simp⟩,J⟩
  ·rintro k i s hi ⟨h0,⟨t,h1⟩,h2⟩ go2;show Sat (oy N (ki N m f) al m (k+1) s (i:Int)) _;have hsl:=h0.len hs
   have hg:ap s (i:Int)=some al[i]:=by
    rw [oB,h1,WJ hi,WO hi]
   have hx:=XY hi;have hsm:=hs.at_ al[i];obtain ⟨a6,a8⟩:=IV N hs hw al[i] s
   have hnext:pt (F5 N m) al (al.take (i+1))=dw (aw m) s (dH N (aJ m al[i]) s):=by
    rw [ay hi,CS, <-h2];rfl
   rw [oy.eq_2,dr U,ct,hg,bs,Pn N m _ (h4.in64 hs hx),bs,Mz N hN s U _ U U,bs,EF N hN hs _ a6 a8 h0,bs,r64 U U];obtain ⟨t',e', -⟩:=jb (aw m) s (dH N (aJ m al[i]) s);exact go2 _ ⟨h0.lay _,⟨t++t',by rw [e',h1,V3]⟩,hnext.symm⟩
  rintro k s ⟨h0,⟨t,h1⟩,h2⟩;show Sat (oy N (ki N m f) al m (k+1) s _) _;have hsl:=h0.len hs;simp only [XV] at h2;rw [oy.eq_2,db U,cf];unfold zV
  refine aK (fun he=> ?_) fun hne=> ?_
  ·have h6:t=[]:=WD (by rw [h1,XS] at he;omega)
   have h7:s=al:=by rw [h1,h6,Wv]
   exact ad (by rw [h7] at h2⊢;exact h5 _ (.done h2.symm))
  have hle:al.length<=s.length:=by rw [h1,XS];omega
  refine Sat.bind (Bg N hN hs hw h0 al.length hle) fun r ⟨r1,r2⟩=> ?_
  obtain ⟨t3,e3⟩:=r2.app;have b5:=r1.len hs;refine go r ?_ ⟨r1,fun r' hr'=>h5 r' (.step ?_ (by rw [<-h2];exact r2) hr')⟩
  ·show 1300 - r.length<1300 - al.length
   have:s.length<=r.length:=by rw [e3,XS];omega
   omega
  rw [<-h2];intro e;rw [e] at hne;omega
 obtain ⟨all,k1,k2⟩:=key;exact ⟨b,all,⟨b2,k2⟩,k1,by rw [ha,bs,hlay,bs];exact b0'⟩
theorem Gw: ∀{s:List Int} {k:Nat} (h:k+1<s.length),((s.set (k+1) (s[k]'U)).set k s[k+1]).Perm s
 |a::b::r,0,_=>List.Perm.swap a b r
 |a::r,k+1,h=>by
  have ih:=Gw (s:=r) (k:=k) (by simpa using h);simp only [List.set_cons_succ,List.getElem_cons_succ];exact ih.cons a
def UN (s:List Int)(i k:Nat):Prop:= ∀a b:Nat,a<b->b<=i->b≠k->s.getD a 0<=s.getD b 0
theorem BY (s:List Int)(i j:Nat)(x:Int)(hi:i<s.length):(s.set i x).getD j 0=if j=i then x else s.getD j 0:=by
 by_cases e:j=i
 ·subst e;simp [List.getD,hi]
 rw [if_neg e];simp only [List.getD];rw [WS (fun h=>e h.symm)]
theorem zp (s:List Int)(i:Nat)(hi:i<s.length):s.getD i 0=s[i]:=by simp [List.getD,hi]
theorem Kf (N:Nat)(hN:6500<N)(l:List Int)(hl:l.length<=3600)(hn:l.Nodup):wx N l=some (kq l):=by
 apply Sat.eq;unfold wx;rw [rF (by simp;omega),XX]
 have fin: ∀s:List Int,s.Perm l->UN s (l.length - 1) l.length->s=kq l:=fun s hp hi=>by
  have hlen:=hp.length_eq;have hnd:s.Nodup:=hp.nodup_iff.2 hn;refine (EB hn (Xh.2 fun a b ha hb hab=> ?_) fun x=>(hp.mem_iff).symm).symm;have h1:=hi a b hab U U;rw [zp s a ha,zp s b hb] at h1;have h2:=Xh.1 (List.nodup_iff_pairwise_ne.1 hnd) a b ha hb hab;omega
 by_cases h0:l.length=0
 ·have e:l=[]:=WD h0;subst e;obtain ⟨n,rfl⟩: ∃n,N=n+1:=⟨N - 1,by omega⟩;rw [iK.eq_2,db (by simp),cf];exact ad (by unfold kq;simp)
 refine cD (fun k i (s:List Int)=>iK N k s (i:Int)) l.length (fun i s=>s.Perm l/\UN s (i - 1) l.length) _ ?_ ?_ N 1 l U U ⟨List.Perm.refl _,fun a b h1 h2=>absurd h2 U⟩
 ·rintro f i s hi ⟨h1,h2⟩ go;show Sat (iK N (f+1) s (i:Int)) _;have hlen:=h1.length_eq;rw [iK.eq_2,hlen,dr U,ct]
  have hi0:i<=l.length:=by omega
  refine rP (fun k (st:List Int×Nat)=>pL N (iK N f) (i:Int) k st.1 (st.2:Int)) (fun st=>st.2) (fun st=>st.1.Perm l/\st.2<=i/\UN st.1 i st.2) _ ?_ N (s,i) (by show i<N;omega) ⟨h1,Xx _,fun a b q1 q2 q3=>h2 a b q1 (by show b<=i - 1;simp only at q3;omega) U⟩;rintro k ⟨t,j⟩ ⟨g1,g2,g3⟩ go2;simp only at g1 g2 g3;show Sat (pL N (iK N f) (i:Int) (k+1) t (j:Int)) _;have hlt:=g1.length_eq
  have stop:(j=0\/t.getD (j - 1) 0<=t.getD j 0)->Sat (uc N (iK N f) (i:Int) t) (· =kq l):=fun hst=>by
   unfold uc;rw [r64 U U];refine go t ⟨g1,fun a b q1 q2 q3=> ?_⟩
   have q2':b<=i:=by omega
   by_cases e:b=j
   ·subst e;rcases hst with h|h
    ·omega
    by_cases e2:a=b - 1
    ·subst e2;exact h
    have:=g3 a (b - 1) U U U;omega
   exact g3 a b q1 q2' e
  rw [pL.eq_2];by_cases hj:0<j
  ·have hp:ap t ((j:Int) - 1)=some (t[j - 1]'U):=by
    have:=aI (xs:=t) (i:=j - 1) U;rw [show (((j - 1:Nat)):Int)=(j:Int) - 1 by omega] at this;exact this
   have hq:ap t (j:Int)=some (t[j]'U):=aI U;rw [dr U,ct,r64 U U,hp,bs,hq,bs,bs];by_cases hc:t[j]'U<t[j - 1]'U
   ·rw [dr hc,ct,bs,r64 (a:=(j:Int) - 1) U U,bs,bs,r64 (a:=(j:Int) - 1) U U]
    have hs2:ap (List.set t (j:Int).toNat (t[j - 1]'U)) ((j:Int) - 1)=some ((List.set t (j:Int).toNat (t[j - 1]'U))[j - 1]'(by simp;omega)):=by
     have:=aI (xs:=List.set t (j:Int).toNat (t[j - 1]'U)) (i:=j - 1) (by simp;omega);rw [show (((j - 1:Nat)):Int)=(j:Int) - 1 by omega] at this;exact this
    rw [hs2,bs,r64 (a:=(j:Int) - 1) U U,Ws,show ((j:Int) - 1).toNat=j - 1 by omega,show (j:Int) - 1=((j - 1:Nat):Int) by omega];obtain ⟨q,rfl⟩: ∃q,j=q+1:=⟨j - 1,by omega⟩;simp only [Nat.add_sub_cancel] at*;refine go2 ((t.set (q+1) (t[q]'U)).set q (t[q+1]'U),q) (by show q<q+1;omega) ⟨(Gw U).trans g1,by show q<=i;omega,fun a b q1 q2 q3=> ?_⟩;have q3':b≠q:=q3;have hqa:=zp t q U;have hqb:=zp t (q+1) U;show ((t.set (q+1) (t[q]'U)).set q (t[q+1]'U)).getD a 0<=((t.set (q+1) (t[q]'U)).set q (t[q+1]'U)).getD b 0;rw [BY _ q _ _ (by simp;omega),BY _ q _ _ (by simp;omega),BY t (q+1) _ _ U,BY t (q+1) _ _ U,if_neg q3'];by_cases b1:b=q+1
    ·rw [if_pos b1];by_cases a1:a=q
     ·rw [if_pos a1];omega
     rw [if_neg a1,if_neg U, <-hqa];exact g3 a q U U U
    rw [if_neg b1];by_cases a1:a=q
    ·rw [if_pos a1, <-hqb];exact g3 (q+1) b U q2 b1
    rw [if_neg a1];by_cases a2:a=q+1
    ·rw [if_pos a2, <-hqa];exact g3 q b U q2 b1
    rw [if_neg a2];exact g3 a b q1 q2 b1
   rw [db U,cf];refine stop (.inr ?_);rw [zp t (j - 1) U,zp t j U];omega
  rw [db U,cf,bs,cf];exact stop (.inl U)
 rintro f s ⟨h1,h2⟩;show Sat (iK N (f+1) s _) _;rw [iK.eq_2,h1.length_eq,db U,cf];unfold zU;exact ad (fin s h1 h2)
def mw (c:VJ):List Int:=pick (fun i v=>om c.XZ i&&bd v) 0 c.Ya
theorem xv (N:Nat)(hN:6500<N)(c:VJ)(hS:c.Yb.length<=1000)(hc:c.Ya.length<=2900):mj N c=some (mw c):=by
 unfold mj mw;rw [yL N hN false c hS hc,bs]
 have e1:(fun (_:Nat) (v:VN)=>(true==false)&&bd v)=fun _ _=>false:=by funext i v;rfl
 have e2:(fun (i:Nat) (v:VN)=>(mC c.XZ i==false)&&bd v)=fun i v=>om c.XZ i&&bd v:=by funext i v;rw [Dq];cases om c.XZ i<;>rfl
 rw [e1,e2,GE,XX]
theorem rz (c:VJ):(mw c).length<=c.Ya.length:=Bz _ 0 c.Ya
theorem IA (h:x∈mw c): ∃v∈c.Yb++c.Ya,v.N=x:=by
 obtain ⟨v,h1,h2⟩:=By h;exact ⟨v,V5 _ h1,h2⟩
def iY (m:VR)(l:List Int):Bool:=l.all (aw m)
def FH (m:VR)(c:VJ):Bool:=(eu N c).getD false&&(iY m (ce c)&&iY m (mw c))
theorem Cz {roots:List VN}(hs:Small m roots)(hw:W64 m)(hc:c∈m.Yd++m.Yc):((ce c).length<=3500/\ ∀x∈ce c,in64 x)/\(mw c).length<=2900/\ ∀x∈mw c,in64 x:=by
 have h1:=hs.cells c hc;have h2:=np c;have h3:=rz c;refine ⟨⟨by omega,fun x hx=> ?_⟩,by omega,fun x hx=> ?_⟩
 ·obtain ⟨v,h4,rfl⟩:=Ft hx;exact hw c hc v h4
 obtain ⟨v,h4,rfl⟩:=IA hx;exact hw c hc v h4
def wt:List VJ->Nat
 | []=>0
 |c::l=>1+c.Yb.length+c.Ya.length+wt l
theorem Es: ∀a b:List VJ,wt (a++b)=wt a+wt b
 | [],b=>by simp [wt]
 |c::a,b=>by rw [Wy,wt,wt,Es a b];omega
theorem PD {l:List VJ}(h:i<l.length):wt (l.take (i+1))=wt (l.take i)+(1+l[i].Yb.length+l[i].Ya.length):=by
 rw [ay h,Es];simp [wt]
structure Wtd (m:VR) (roots:List VN):Prop where
 le:roots.length+wt m.Yd+wt m.Yc<=2900
 cnt:m.Yd.length+m.Yc.length<=600
def jd (p:Int->Bool):List VN->List VN
 |k::v::r=>(bif p k.N then [k,v] else [])++jd p r
 |_=> []
theorem FW (p:Int->Bool): ∀l:List VN,(jd p l).length<=l.length
 | []=>by simp [jd]
 | [_]=>by simp [jd]
 |k::v::r=>by
  have:=FW p r;unfold jd;cases p k.N<;>simp<;>omega
theorem AR {x:VN}: ∀{l:List VN},x∈jd p l->x∈l
 | [],h=>by simp [jd] at h
 | [_],h=>by simp [jd] at h
 | k::v::r,h=>by
  unfold jd at h;rcases W8.1 h with h|h
  ·cases hp:p k.N with
   |false=>rw [hp] at h;cases h
   |true=>rw [hp] at h;simp at h;rcases h with h|h<;>simp [h]
  have:=AR h;simp [this]
def sD (l:List Int)(c:VJ):VJ:=bif sv N c then ⟨c.XZ,c.Yf,c.Ye,c.Yg,c.Yb,jd (fun x=>decide (x∈l)) c.Ya⟩ else c
theorem MT (N:Nat)(hN:6500<N)(l:List Int)(hl:l.length<=5000)(y:VJ)(k v:VN)(s:List VN)(hs:s.length<=5000):cM (fun x st=>kf N (fun x=>jt N x l) y x st) (k,v) (none,s)=some (true,(none,s++(bif decide (k.N∈l) then [k,v] else []))):=by
 unfold cM kf jt;simp only [bs,rt N hN l hl];cases decide (k.N∈l)
 ·simp only [cf,Wv];rfl
 simp only [ct];rw [rF (by simp;omega)];rfl
theorem GU (N:Nat)(hN:6500<N)(l:List Int)(hl:l.length<=5000)(y c:VJ)(hc:c.Ya.length<=2900)(he:c.Ya.length%2=0): ∀(m i:Nat) (s:List VN),c.Ya.length<m+i->i<=c.Ya.length->i%2=0->s.length<=i->eh N (cM (fun x st=>kf N (fun x=>jt N x l) y x st)) c m (i:Int) (none,s)=some (none,s++jd (fun x=>decide (x∈l)) (c.Ya.drop i))
 |0,i,s,h,h2,_,_=>by omega
 | m+1,i,s,h,h2,h3,h4=>by
  rw [eh.eq_2,r64 (a:=(i:Int)+1) U U];by_cases hi:i<c.Ya.length
  ·have hi1:i+1<c.Ya.length:=by omega
   have a6:ap c.Ya ((i:Int)+1)=some c.Ya[i+1]:=by
    have:=aI hi1;simpa using this
   rw [dr U,ct,aI hi,bs,r64 (a:=(i:Int)+1) U U,a6,bs,MT N hN l hl y _ _ s U,bs];simp only [nt,cf];rw [r64 U U]
   have hlen:(s++(bif decide (c.Ya[i].N∈l) then [c.Ya[i],c.Ya[i+1]] else [])).length<=i+2:=by
    cases decide (c.Ya[i].N∈l)<;>simp<;>omega
   have:=GU N hN l hl y c hc he m (i+2) _ U U U hlen;simp only [Wn,Wm] at this;rw [this,Wz hi,Wz hi1,V3];rfl
  rw [db U,cf,WA U];simp [jd]
theorem FV (N:Nat)(hN:6500<N)(l:List Int)(hl:l.length<=5000)(c:VJ)(hS:c.Yb.length<=600)(hc:c.Ya.length<=2900):nD N c l=some (bif sv N c then sD N l c else Gt):=by
 obtain ⟨-,h1,h2⟩:=KG N U c U U;unfold nD xw jA sD;rw [h1,bs];cases hw:sv N c
 ·rfl
 have e:mV N c=some ():=rfl;have:=GU N hN l hl c c U (h2 hw) N 0 [] U U rfl (by simp);simp only [nt,cf,ct,e,bs,qV N c ⟨hS,hc⟩];have h3:eh N (cM (fun x st=>kf N (fun x=>jt N x l) c x st)) c N 0 (none,[])=some (none,[]++jd (fun x=>decide (x∈l)) (c.Ya.drop 0)):=this;rw [h3,bs];rfl
theorem KU (N:Nat)(l:List Int)(c:VJ):(sD N l c).Yb.length=c.Yb.length/\(sD N l c).Ya.length<=c.Ya.length:=by
 unfold sD;cases sv N c
 ·exact ⟨J,Xx _⟩
 exact ⟨J,FW _ _⟩
theorem KT {N:Nat}(h:v∈(sD N l c).Yb++(sD N l c).Ya):v∈c.Yb++c.Ya:=by
 unfold sD at h;cases hw:sv N c
 ·rw [hw] at h;exact h
 rw [hw] at h;rcases W8.1 h with h|h
 ·exact V4 _ h
 exact V5 _ (AR h)
def Gj (c:VJ):Bool:=decide (c.XZ=10)&&(eu N c).getD false
theorem rl {roots:List VN}(hs:Small m roots)(h:aw m x=true):in64 x:=by
 have h2:=uu h;have h3:=zo hs h;unfold in64;omega
def mU:VN:=⟨0,0,⟨#[]⟩⟩
def ey (l:List Int):List VN->List VN
 |t::h::k::s::r=>(bif decide (t.N∈l) then [t,h,(bif decide (k.XZ=7)&& !decide (k.N∈l) then mU else k),s] else [])++ey l r
 |_=> []
def nO (l:List Int)(cb:VN):List VN->List VN
 |t::h::_::s::r=>(bif decide (t.N∈l) then [] else [cb,h,s])++nO l cb r
 |_=> []
theorem wI (l:List Int)(t h k s:VN)(r:List VN):ey l (t::h::k::s::r)=(bif decide (t.N∈l) then [t,h,(bif decide (k.XZ=7)&& !decide (k.N∈l) then mU else k),s] else [])++ey l r:=Eq.trans rfl rfl
theorem J3 (l:List Int)(cb t h k s:VN)(r:List VN):nO l cb (t::h::k::s::r)=(bif decide (t.N∈l) then [] else [cb,h,s])++nO l cb r:=Eq.trans rfl rfl
theorem yG (p:Int->Bool)(k v:VN)(r:List VN):jd p (k::v::r)=(bif p k.N then [k,v] else [])++jd p r:=Eq.trans rfl rfl
theorem OA (l:List Int)(cb:VN): ∀xs:List VN,(ey l xs).length+(nO l cb xs).length<=xs.length
 | []=>by simp [ey,nO]
 | [_]=>by simp [ey,nO]
 | [_,_]=>by simp [ey,nO]
 | [_,_,_]=>by simp [ey,nO]
 |t::h::k::s::r=>by
  have:=OA l cb r;unfold ey nO;cases decide (t.N∈l)<;>simp<;>omega
def yH (l:List Int)(c:VJ):VJ×List VN:=(⟨c.XZ,c.Yf,c.Ye,c.Yg,c.Yb,c.Ya.take 1++ey l (c.Ya.drop 1)⟩,nO l (c.Ya.headD mU) (c.Ya.drop 1))
theorem four {l:List VN}(h:4<=l.length): ∃t a k s r,l=t::a::k::s::r:=by
 match l,h with
 |t::a::k::s::r,_=>exact ⟨t,a,k,s,r,rfl⟩
theorem Jk (N:Nat)(hN:6500<N)(l:List Int)(p:List (Int×Bool))(hp:∀x,(lk p x).getD false=decide (x∈l))(c y:VJ)(cb:VN)(hcb:c.Ya[0]? =some cb)(hc:c.Ya.length<=2900): ∀(m i:Nat) (o t:List VN),c.Ya.length<m+i->i<=c.Ya.length->(c.Ya.length - i)%4=0->o.length<=i->t.length<=i->gK N (cM (fun x st=>fZ N c p y x st)) c m (i:Int) (none,(o,t))=some (none,(o++ey l (c.Ya.drop i),t++nO l cb (c.Ya.drop i)))
 |0,i,o,t,h,h2,_,_,_=>by omega
 | m +1,i,o,t,h,h2,h3,h4,h5=>by
  rw [gK.eq_2,r64 (a:=(i:Int)+4) U U];by_cases hi:i+4<=c.Ya.length
  ·obtain ⟨v1,v2,v3,v4,r,hd⟩:=four (l:=c.Ya.drop i) (by rw [WZ];omega)
   have hd4:c.Ya.drop (i+4)=r:=by rw [<-List.drop_drop,hd];rfl
   have hx:(c.Ya.drop (i:Int).toNat).take (((i:Int)+4).toNat - (i:Int).toNat)=[v1,v2,v3,v4]:=by
    rw [Ws,show ((i:Int)+4).toNat - i=4 by omega,hd];rfl
   have h0:ap c.Ya 0=some cb:=by
    have:=oB c.Ya 0;rw [hcb] at this;exact this
   have e0:ap [v1,v2,v3,v4] 0=some v1:=rfl;have e1:ap [v1,v2,v3,v4] 1=some v2:=rfl;have e2:ap [v1,v2,v3,v4] 2=some v3:=rfl;have e3:ap [v1,v2,v3,v4] 3=some v4:=rfl;rw [Oy U,ct,r64 U U,r64 U U,gp ⟨by omega,by omega,by omega,by omega⟩,hx]
   have hb:cM (fun x st=>fZ N c p y x st) ((i:Int),[v1,v2,v3,v4]) (none,(o,t))=some (true,(none,(o++(bif decide (v1.N∈l) then [v1,v2,(bif decide (v3.XZ=7)&& !decide (v3.N∈l) then mU else v3),v4] else []),t++(bif decide (v1.N∈l) then [] else [cb,v2,v4])))):=by
    unfold cM fZ;simp only [e0,e1,e2,e3,bs,hp,h0];unfold nK;simp only [e0,e1,e2,e3,bs];cases decide (v1.N∈l)
    ·simp only [nf,ct,cf,Wv];rw [rF (by simp;omega)];rfl
    simp only [nt,ct,cf,Wv];rw [rF (by simp;omega),rF (by simp;omega)];cases decide (v3.XZ=7)<;>cases decide (v3.N∈l)<;>rfl
   rw [hb,bs];simp only [nt,cf];rw [r64 U U];have:=Jk N hN l p hp c y cb hcb hc m (i+4) (o++(bif decide (v1.N∈l) then [v1,v2,(bif decide (v3.XZ=7)&& !decide (v3.N∈l) then mU else v3),v4] else [])) (t++(bif decide (v1.N∈l) then [] else [cb,v2,v4])) U hi U (by cases decide (v1.N∈l)<;>simp<;>omega) (by cases decide (v1.N∈l)<;>simp<;>omega);rw [show (((i+4:Nat)):Int)=(i:Int)+4 by omega] at this;rw [this,hd4,hd,V3,V3];rfl
  rw [Oz U,cf,WA U];simp [ey,nO]
theorem Qm (N:Nat)(hN:6500<N)(c:VJ)(hS:c.Yb.length<=1000)(hc:c.Ya.length<=2900):uY N c=some (Gj N c)/\(Gj N c=true->1<=c.Ya.length/\(c.Ya.length - 1)%4=0):=by
 obtain ⟨b,hb,a6⟩:=CK N hN c hS hc;unfold uY Gj;rw [xJ N hN c hS hc,hb];refine ⟨by cases decide (c.XZ=10)<;>cases b<;>rfl,fun h=> ?_⟩;rw [XW,XO] at h;exact (a6 h.2).2 h.1
theorem Ag (N:Nat)(hN:6500<N)(l:List Int)(hl:l.length<=5000)(c:VJ)(hS:c.Yb.length<=600)(hc:c.Ya.length<=2900):kY N c l=some (bif Gj N c then yH l c else (Gt,[])):=by
 obtain ⟨h1,h2⟩:=Qm N U c U U;unfold kY;rw [h1,bs];cases hw:Gj N c
 ·rfl
 obtain ⟨g1,g2⟩:=h2 hw;simp only [nt,cf,ct]
 have hcb:c.Ya[0]? =some (c.Ya.headD mU):=by
  cases hm:c.Ya with
  |nil=>rw [hm] at g1;simp at g1
  |cons a r=>rfl
 apply Sat.eq;refine cD (fun k i (s:List (Int×Bool))=>iW N l c k (i:Int) s) l.length (fun i s=> ∀x,(lk s x).getD false=decide (x∈l.take i)) _ ?_ ?_ N 0 [] U U (fun x=>by simp;rfl)
 ·intro k i s hi h3 go;show Sat (iW N l c (k+1) (i:Int) s) _;rw [iW.eq_2,dr U,ct,aI hi,bs,r64 U U]
  refine go _ fun x=> ?_
  rw [DA,ay hi];by_cases e:l[i]=x
  ·rw [if_pos e,V0 (by simp [e])];rfl
  rw [if_neg e,h3 x];by_cases hm:x∈l.take i
  ·rw [V0 hm,V0 (V4 _ hm)]
  rw [V1 hm,V1 (by simp only [W8,Xf];exact fun h=>h.elim hm fun h=>e h.symm)]
 intro k s h3;show Sat (iW N l c (k+1) _ s) _;rw [XV] at h3;rw [iW.eq_2,db U,cf];unfold qS vt cu qQ og
 have h0:ap c.Ya 0=some (c.Ya.headD mU):=by
  have:=oB c.Ya 0;rw [hcb] at this;exact this
 rw [rF (by simp;omega),bs,h0,bs,bs,bs];have:=Jk N hN l s h3 c ⟨c.XZ,c.Yf,c.Ye,c.Yg,[]++c.Yb,[c.Ya.headD mU]⟩ _ hcb U N 1 [c.Ya.headD mU] [] U g1 g2 (by simp) (by simp);have this':gK N (cM (fun x st=>fZ N c s ⟨c.XZ,c.Yf,c.Ye,c.Yg,[]++c.Yb,[c.Ya.headD mU]⟩ x st)) c N 1 (none,([c.Ya.headD mU],[]))=_:=this;rw [this',bs];refine ad ?_
 have ht:c.Ya.take 1=[c.Ya.headD mU]:=by
  cases hm:c.Ya with
  |nil=>rw [hm] at g1;simp at g1
  |cons a r=>rfl
 unfold yH;rw [ht];rfl
def xa (a:Int):Bool:=decide (a.tmod 2=0)
def Gh (a:Int):Bool:=decide (a.tmod 2=1)
def pO (live:List Int):List Int:=live.filter xa++live.filter Gh
theorem zq: ∀{l:List Int} {i:Nat} (hi:i<l.length),p l[i]=true->(l.filter p)[((l.take i).filter p).length]? =some l[i]
 |x::l,0,hi,h=>by
  simp only [List.getElem_cons_zero] at h;simp [h]
 |x::l,i+1,hi,h=>by
  simp only [List.getElem_cons_succ] at h;have ih:=zq (l:=l) (i:=i) (by simpa using hi) h;rw [Xo]
  cases hx:p x with
  |true=>simp only [WF,hx,if_true,WY,WL,List.getElem_cons_succ];exact ih
  |false=>simp only [WF,hx,Wk,if_false,List.getElem_cons_succ];exact ih
theorem Jl (hi:i<l.length):((l.take (i+1)).filter p).length=((l.take i).filter p).length+(bif p l[i] then 1 else 0):=by
 rw [ay hi,List.filter_append,XS];cases h:p l[i]<;>simp [h]
theorem E0 (N:Nat)(φ:Int×Int->σ->Option (Option Exit×σ))(live:List Int)(hl:live.length<=2000)(hN:6500<N)(kb:Int->Int->Option Exit×σ->Option (Option Exit×σ))(b:Int)(p:Int->Bool)(hp:∀a,p a=decide (a.tmod 2=b))(p6:Int)(h6:0<=p6/\p6<=2)(n0:Nat)(hn0:n0<=2000)(Inv:Nat->σ->Prop)(R:Option Exit×σ->Prop)(hstep:∀i (hi:i<live.length) s,p live[i]=true->Inv (n0+((live.take i).filter p).length) s->Sat (φ (((n0+((live.take i).filter p).length:Nat):Int),live[i]) s) fun r=>r.1=none/\Inv (n0+((live.take i).filter p).length+1) r.2)(hk:∀s,Inv (n0+(live.filter p).length) s->Sat (kb ((n0+(live.filter p).length:Nat):Int) (p6+1) (none,s)) R)(s:σ)(hs:Inv n0 s):Sat (cK N kb (cM φ) b p6 live N (n0:Int) 0 (none,s)) R:=by
 have hfl: ∀i,((live.take i).filter p).length<=2000:=fun i=>Xy (W0 _ _) (by rw [XT];omega)
 refine cD (fun k i (st:Nat×σ)=>cK N kb (cM φ) b p6 live k (st.1:Int) (i:Int) (none,st.2)) live.length (fun i st=>st.1=n0+((live.take i).filter p).length/\Inv st.1 st.2) _ ?_ ?_ N 0 (n0,s) U U ⟨by simp,hs⟩
 ·rintro k i ⟨n,st⟩ hi ⟨h1,h2⟩ go;simp only at h1 h2;have hb:=hfl i;show Sat (cK N kb (cM φ) b p6 live (k+1) (n:Int) (i:Int) (none,st)) _;have hnx:=Jl (p:=p) hi;rw [cK.eq_2,dr U,ct,aI hi,bs, <-hp];unfold lJ;rw [r64 (a:=(i:Int)+1) U U];cases hq:p live[i]
  ·simp only [nf,ct];rw [hq] at hnx;have hg:=go (n,st) ⟨by show n=_;rw [hnx];exact h1,h2⟩
   first|rw [r64 (a:=(i:Int)+1) U U]|skip
   exact hg
  simp only [nt,cf];rw [hq] at hnx;obtain ⟨⟨e,s'⟩,g1,g2,g3⟩:=hstep i hi st hq (by rw [<-h1];exact h2);simp only at g2 g3;subst g2
  have hf:cM φ ((n:Int),live[i]) (none,st)=some (true,(none,s')):=by
   unfold cM;simp only;rw [h1,g1];rfl
  rw [hf,bs];simp only [nt,cf];rw [r64 (a:=(n:Int)+1) U U];have hg:=go (n+1,s') ⟨by show n+1=_;rw [hnx];show n+1=_+(_+1);omega,by show Inv (n+1) s';rw [h1];exact g3⟩
  first|rw [r64 (a:=(i:Int)+1) U U]|skip
  exact hg
 rintro k ⟨n,st⟩ ⟨h1,h2⟩;simp only [XV] at h1 h2;show Sat (cK N kb (cM φ) b p6 live (k+1) (n:Int) _ (none,st)) _;rw [cK.eq_2,db U,cf];unfold pU;rw [r64 U U,h1];exact hk st (by rw [<-h1];exact h2)
theorem E1 (N:Nat)(φ:Int×Int->σ->Option (Option Exit×σ))(live:List Int)(hl:live.length<=2000)(hN:6500<N)(Inv:Nat->σ->Prop)(hstep:∀n a s,(pO live)[n]? =some a->Inv n s->Sat (φ ((n:Int),a) s) fun r=>r.1=none/\Inv (n+1) r.2)(s:σ)(hs:Inv 0 s):Sat (fX N live (cM φ) (none,s)) fun r=>r.1=none/\Inv (pO live).length r.2:=by
 obtain ⟨k,rfl⟩: ∃k,N=k+3:=⟨N - 3,by omega⟩;have hev:(live.filter xa).length<=2000:=Xy (W0 _ _) hl;unfold fX;rw [fa.eq_2,show ((([0,1]:List Int).length:Int))=2 from rfl,dr U,ct,show ap ([0,1]:List Int) 0=some 0 from rfl,bs];refine E0 (k+3) φ live hl U _ 0 xa (fun _=>J) 0 U 0 U Inv _ (fun i hi st hp hi2=> ?_) (fun st hst=> ?_) s hs
 ·refine hstep _ _ _ ?_ hi2;unfold pO;rw [WJ]
  ·rw [XC];exact zq hi hp
  have:=(WQ.1 (zq hi hp)).1;omega
 rw [fa.eq_2,show ((([0,1]:List Int).length:Int))=2 from rfl,dr U,ct,show ap ([0,1]:List Int) (0+1)=some 1 from rfl,bs];refine E0 (k+3) φ live hl U _ 1 Gh (fun _=>J) (0+1) U (0+(live.filter xa).length) U Inv _ (fun i hi st hp hi2=> ?_) (fun st hst=> ?_) st hst
 ·refine hstep _ _ _ ?_ hi2;unfold pO;rw [WK U,show 0+(live.filter xa).length+((live.take i).filter Gh).length - (live.filter xa).length=((live.take i).filter Gh).length by omega];exact zq hi hp
 rw [fa.eq_2,show ((([0,1]:List Int).length:Int))=2 from rfl,db U,cf];refine ad ⟨J,?_⟩;unfold pO;rw [XS]
 have e:0+(live.filter xa).length+(live.filter Gh).length=(live.filter xa).length+(live.filter Gh).length:=by omega
 rw [<-e];exact hst
theorem MX {w:VN}(h:v.XZ=w.XZ):bd v=bd w:=by unfold bd;rw [h]
def cp (c:VJ):List Int:=ce c++mw c
def se (c:VJ):Bool:=(eu N c).getD false
theorem Nv (c:VJ):(cp c).length<=c.Yb.length+2*c.Ya.length:=by
 have h1:=np c;have h2:=rz c;unfold cp;rw [XS];omega
theorem Ca: ∀l:List VJ,(l.flatMap cp).length<=2*wt l
 | []=>by simp [wt]
 |c::l=>by
  have h1:=Ca l;have h2:=Nv c;rw [WH,XS,wt];omega
theorem Kv (N:Nat)(m:VR)(l:List Int)(hl:l.length<N)(a6:l.length<=6000)(h64:∀x∈l,in64 x):bD N l (fun x=>iT N x m)=some (!iY m l):=by
 have key: ∀k i:Nat,l.length<k+i->i<=l.length->Sat (dD N (fun x=>iT N x m) l k (i:Int)) fun r=>decide (0<=r)=!(l.drop i).all (aw m):=by
  intro k
  induction k with
  |zero=>intro i h1 h2;omega
  | succ k ih=>
   intro i h1 h2;rw [dD.eq_2];by_cases hi:i<l.length
   ·have h3:=ih (i+1) U hi;rw [show (((i+1:Nat)):Int)=(i:Int)+1 by omega] at h3;rw [dr U,ct,aI hi,bs,Wz hi,List.all_cons];unfold iT;rw [we N m _ (h64 _ (XY _)),bs,bs,r64 U U];cases aw m l[i]
    ·exact ad (by rw [V0 U];rfl)
    exact h3
   rw [db U,cf,WA U];exact ad J
 obtain ⟨r,h1,h2⟩:=key N 0 U U;have h1':dD N (fun x=>iT N x m) l N 0=some r:=h1;unfold bD ls;rw [h1',bs,h2];unfold iY;simp
def oh (m:VR)(roots:List VN):Int:=
 bif (m.Yd++m.Yc).all (se N) then bif iY m ((m.Yd++m.Yc).flatMap cp++bP roots) then 0 else 50 else 51
theorem FY (N:Nat)(hN:6500<N){roots:List VN}(hs:Small m roots)(ht:Wtd m roots)(hw:W64 m)(hr:∀v∈roots,in64 v.N):mh N m roots=some (oh N m roots):=by
 have hle:=ht.le;have h1:=hs.young;have h2:=hs.old;have h3:=hs.roots
 have a64: ∀(l:List VJ),(∀c∈l,c∈m.Yd++m.Yc)-> ∀x∈l.flatMap cp,in64 x:=fun l hl x hx=>by
  obtain ⟨c,hc,hx⟩:=List.mem_flatMap.1 hx;obtain ⟨⟨-,g1⟩, -,g2⟩:=Cz hs hw (hl c hc);exact (W8.1 hx).elim (g1 x) (g2 x)
 have r64': ∀x∈bP roots,in64 x:=fun x hx=>by
  obtain ⟨v,h1, -,rfl⟩:=qW.1 hx;exact hr v h1
 have hal: ∀k,(bP (roots.take k)).length<=roots.length:=fun k=>by
  unfold bP;rw [XU];exact Xy (W0 _ _) (by rw [XT];omega)
 -- the roots
 have hroots: ∀q:List Int,q.length+roots.length<=5800->(∀x∈q,in64 x)->pX N roots m q=some (bif iY m (q++bP roots) then 0 else 50):=by
  intro q hq a6;apply Sat.eq;unfold pX;refine cD (fun k i (s:List Int)=>fA N roots m k s (i:Int)) roots.length (fun i s=>s=q++bP (roots.take i)) _ ?_ ?_ N 0 q U U (by simp [bP])
  ·rintro k i s hi h1 go;show Sat (fA N roots m (k+1) s (i:Int)) _
   have hnext:q++bP (roots.take (i+1))=s++bP [roots[i]]:=by rw [ay hi,zw,h1,V3]
   have hsl:s.length<=5800:=by have:=hal i;rw [h1,XS];omega
   rw [fA.eq_2,dr U,ct,aI hi,bs,uo,bs];unfold oL;cases hb:bd roots[i]
   ·rw [cf,r64 U U];exact go s (by rw [hnext];simp [bP,hb])
   rw [ct,rF (by simp;omega),r64 U U];exact go _ (by rw [hnext];simp [bP,hb])
  rintro k s h1;show Sat (fA N roots m (k+1) s _) _;rw [XV] at h1
  have hsl:s.length<=5800:=by have:=hal roots.length;rw [XV] at this;rw [h1,XS];omega
  rw [fA.eq_2,db U,cf];unfold sq;rw [Kv N m s U U (fun x hx=>by rw [h1] at hx;exact (W8.1 hx).elim (a6 x) (r64' x)),bs, <-h1];cases iY m s<;>exact ad rfl
 -- one row
 have row: ∀(kb:List Int->Int->Option Int) (p:Int) (l:List VJ) (q:List Int),in64 (p+1)->l.length<=600->wt l<=2900->(∀c∈l,c∈m.Yd++m.Yc)->q.length<=6000->lU N kb m p l roots N q 0=bif l.all (se N) then kb (q++l.flatMap cp) (p+1) else some 51:=by
  intro kb p l q hp hll hl a8 hq
  have key: ∀(k i:Nat),l.length<k+i->i<=l.length->lU N kb m p l roots k (q++(l.take i).flatMap cp) (i:Int)=bif (l.drop i).all (se N) then kb (q++l.flatMap cp) (p+1) else some 51:=by
   intro k
   induction k with
   |zero=>intro i h1 h2;omega
   | succ k ih=>
    intro i h4 h5;have hfl:=Ca (l.take i)
    have hwt:wt (l.take i)<=wt l:=by
     have:=Es (l.take i) (l.drop i);rw [Xm] at this;omega
    by_cases hi:i<l.length
    ·have hm:=a8 l[i] (XY _);have hc:=hs.cells _ hm;have hwi:=PD hi
     have hwt2:wt (l.take (i+1))<=wt l:=by
      have:=Es (l.take (i+1)) (l.drop (i+1));rw [Xm] at this;omega
     obtain ⟨b,hb, -⟩:=CK N U l[i] U U
     have hrc:se N l[i]=b:=by unfold se;rw [hb];rfl
     have e1:=np l[i];have e2:=rz l[i];have h6:=ih (i+1) U hi;rw [show (((i+1:Nat)):Int)=(i:Int)+1 by omega] at h6;rw [lU.eq_2,dr U,ct,aI hi,bs,xJ N U _ U U,hb,bs,qL N U _ U U,bs,XS,rF U,xv N U _ U U,bs,XS,XS,rF U,r64 U U]
     have hap:q++(l.take i).flatMap cp++ce l[i]++mw l[i]=q++(l.take (i+1)).flatMap cp:=by
      rw [ay hi,WG];simp [cp,V3]
     rw [hap,h6,Wz hi,List.all_cons,hrc];cases b<;>rfl
    have e:i=l.length:=by omega
    subst e;rw [lU.eq_2,db U,cf,List.drop_length,XV];unfold sr;rw [gp hp];rfl
  have:=key N 0 U U;simpa using this
 have hwy:wt m.Yd<=2900:=by omega
 have hwo:wt m.Yc<=2900:=by omega
 have hfy:=Ca m.Yd;have hfo:=Ca m.Yc;obtain ⟨k,rfl⟩: ∃k,N=k+3:=⟨N - 3,by omega⟩;unfold mh oh;rw [nm.eq_2,show ((([m.Yd,m.Yc]:List V7).length:Int))=2 from rfl,dr U,ct,show ap ([m.Yd,m.Yc]:List V7) 0=some m.Yd from rfl,bs,row _ 0 m.Yd [] (by unfold in64;omega) h1 hwy (fun c hc=>V4 _ hc) (by simp)];rw [nm.eq_2,show ((([m.Yd,m.Yc]:List V7).length:Int))=2 from rfl,dr U,ct,show ap ([m.Yd,m.Yc]:List V7) (0+1)=some m.Yc from rfl,bs,XX,row _ (0+1) m.Yc (m.Yd.flatMap cp) (by unfold in64;omega) h2 hwo (fun c hc=>V5 _ hc) U]
 rw [nm.eq_2,show ((([m.Yd,m.Yc]:List V7).length:Int))=2 from rfl,db U,cf,hroots _ (by rw [XS];omega) (fun x hx=>by
  rw [<-WG] at hx
  exact a64 _ (fun c hc=>hc) x hx),List.all_append,WG]
 cases m.Yd.all (se (k+3))<;>cases m.Yc.all (se (k+3))<;>rfl
def tw (f:List Int)(a:Int):Int:=2*((f.idxOf a:Nat):Int)+2
def bG (ρ:Int->Int)(f:List Int)(v:VN):VN:=bif bd v&&decide (v.N∈f) then ⟨v.XZ,ρ v.N,v.S⟩ else v
def lI (ρ:Int->Int)(f:List Int)(c:VJ):VJ:=⟨c.XZ,c.Yf,c.Ye,c.Yg,c.Yb.map (bG ρ f),c.Ya.map (bG ρ f)⟩
def RhoM (kv:List (Int×Int))(f:List Int):Prop:= ∀x,lk kv x=if x∈f then some (tw f x) else none
theorem wz (N:Nat)(hN:6500<N)(l:List VN)(hl:l.length<=6000)(kv:List (Int×Int))(f:List Int)(hk:RhoM kv f):d8 N l kv=some (l.map (bG (tw f) f)):=by
 apply Sat.eq;unfold d8;refine cD (fun k i (s:List VN)=>gA N l kv k s (i:Int)) l.length (fun i s=>s=(l.take i).map (bG (tw f) f)) _ ?_ ?_ N 0 [] U U J
 ·rintro k i s hi h1 go;show Sat (gA N l kv (k+1) s (i:Int)) _
  have hsl:s.length<=i:=by rw [h1,XU,XT];omega
  have hnext:(l.take (i+1)).map (bG (tw f) f)=s++ [bG (tw f) f l[i]]:=by rw [ay hi,W5,h1];rfl
  rw [gA.eq_2,dr U,ct,aI hi,bs,hk l[i].N,uo];unfold oK;by_cases hm:l[i].N∈f
  ·rw [if_pos hm];simp only [bs,Option.isSome_some,ct];cases hb:bd l[i]
   ·rw [cf,rF (by simp;omega),r64 U U];refine go _ ?_;rw [hnext];unfold bG;rw [hb];rfl
   rw [ct,rF (by simp;omega),r64 U U];refine go _ ?_;rw [hnext];unfold bG;rw [hb,V0 hm];rfl
  rw [if_neg hm];simp only [bs,Option.isSome_none,cf];rw [rF (by simp;omega),r64 U U];refine go _ ?_;rw [hnext];unfold bG;rw [V1 hm,Wi];rfl
 rintro k s h1;show Sat (gA N l kv (k+1) s _) _;rw [gA.eq_2,db U,cf];exact ad (by rw [h1,XV])
def mN (l:List Int)(c:VJ):VJ:=bif decide (c.XZ=8) then sD N l c else bif decide (c.XZ=10) then (yH l c).1 else c
def i3 (l:List Int)(c:VJ):List VN:=bif decide (c.XZ=10) then (yH l c).2 else []
theorem tp (N:Nat)(l:List Int)(c:VJ):(mN N l c).Yb.length=c.Yb.length/\(mN N l c).Ya.length+(i3 l c).length<=c.Ya.length:=by
 unfold mN i3;by_cases h8:c.XZ=8
 ·rw [V0 h8,V1 (p:=c.XZ=10) U];have:=KU N l c;simp only [cond_true,cond_false,W2];omega
 rw [V1 h8];by_cases h10:c.XZ=10
 ·rw [V0 h10];have:=OA l (c.Ya.headD mU) (c.Ya.drop 1);rw [WZ] at this;unfold yH;refine ⟨J,?_⟩;show (c.Ya.take 1++ey l (c.Ya.drop 1)).length+(nO l (c.Ya.headD mU) (c.Ya.drop 1)).length<=c.Ya.length;rw [XS,XT]
  cases hm:c.Ya with
  |nil=>rw [hm] at this;simp [ey,nO]
  |cons a r=>rw [hm] at this;simp only [WY] at this⊢;omega
 rw [V1 h10];simp
theorem RhoM.nil:RhoM [] []:=fun x=>rfl
theorem RhoM.add {kv:List (Int×Int)}(hi:i<f.length)(h:RhoM kv (f.take i))(hn:f.Nodup):RhoM (wT kv f[i] (2*(i:Int)+2)) (f.take (i+1)):=by
 intro x
 have hlen:(f.take i).length=i:=by rw [XT];omega
 have hni:f[i]∉f.take i:=by
  intro hm;obtain ⟨j,hj,e⟩:=WX hm;rw [XT] at hj;rw [List.getElem_take] at e;exact Xh.1 (List.nodup_iff_pairwise_ne.1 hn) j i U hi U e
 rw [DA,ay hi];unfold tw;rw [List.idxOf_append];by_cases e:f[i]=x
 ·rw [if_pos e, <-e,if_pos (V5 _ (by simp)),if_neg hni];simp [hlen]
 rw [if_neg e,h x];by_cases hm:x∈f.take i
 ·rw [if_pos hm,if_pos (V4 _ hm),if_pos hm];rfl
 rw [if_neg hm,if_neg (by simp only [W8,Xf];exact fun hh=>hh.elim hm fun hh=>e hh.symm)]
structure Coll where
 next:VR
 now:List VN
 gone:List VN
def JC (m:VR)(roots:List VN)(live f:List Int):Coll:=
 ⟨⟨[],f.map fun a=>lI (tw f) f (mN N live (aJ m a))⟩,roots.map (bG (tw f) f),(f.flatMap fun a=>i3 live (aJ m a)).map (bG (tw f) f)⟩
structure Mild (g:VN->VN):Prop where
 z:g vZ=vZ
 kind: ∀v,(g v).XZ=v.XZ
 num: ∀v,v.XZ=3->g v=v
 may: ∀v,mQ v=true->mQ (g v)=true
section
variable {g:VN->VN}(h:Mild g)
include h
theorem Mild.at_ (l:List VN)(i:Nat):rv (l.map g) i=g (rv l i):=by
 unfold rv;simp only [List.getD,WR]
 cases l[i]? with
 |none=>exact h.z.symm
 |some v=>rfl
theorem Mild.numB (v:VN)(a b:Int):Go.Proofs.YthhiddkljcacaaaGreat.numB (g v) a b=Go.Proofs.YthhiddkljcacaaaGreat.numB v a b:=by
 unfold Go.Proofs.YthhiddkljcacaaaGreat.numB;by_cases h3:v.XZ=3
 ·rw [h.num v h3]
 rw [h.kind,V1 h3];rfl
theorem Mild.noneB (v:VN)(k:Int):Go.Proofs.YthhiddkljcacaaaGreat.noneB (g v) k=Go.Proofs.YthhiddkljcacaaaGreat.noneB v k:=by
 unfold Go.Proofs.YthhiddkljcacaaaGreat.noneB;rw [h.kind]
theorem Mild.ent2: ∀l:List VN,sQ (l.map g)=sQ l
 | []=>rfl
 | [_]=>rfl
 |k::v::r=>by
  simp only [W6];simp only [pi];rw [h.kind,h.kind,Mild.ent2 r]
theorem Mild.ent4: ∀l:List VN,nQ (l.map g)=nQ l
 | []=>rfl
 | [_]=>rfl
 | [_,_]=>rfl
 | [_,_,_]=>rfl
 |t::v::k::s::r=>by
  simp only [W6];simp only [ph];rw [h.kind,h.kind,h.noneB,h.numB,Mild.ent4 r]
theorem Mild.slots (k sh fl:Int)(l:List VN):mX k sh fl (l.map g)=mX k sh fl l:=by
 unfold mX;simp only [XU,h.at_,h.kind,h.noneB]
theorem Mild.more (k:Int)(l:List VN):rM k (l.map g)=rM k l:=by
 unfold rM;rw [<-List.map_drop,h.ent2,h.ent4];simp only [XU,h.at_,h.kind,h.noneB,h.numB]
theorem Mild.all {l:List VN}(hl:l.all mQ=true):(l.map g).all mQ=true:=by
 rw [Wu] at hl⊢;intro v hv;obtain ⟨w,hw,rfl⟩:=Xc.1 hv;exact h.may w (hl w hw)
theorem Mild.right (hc:bj c=true):bj ⟨c.XZ,c.Yf,c.Ye,c.Yg,c.Yb.map g,c.Ya.map g⟩=true:=by
 unfold bj at hc⊢;simp only [XW] at hc;obtain ⟨h1,h2,h3,h4,h5⟩:=hc;simp only [h.slots,h.more,h.all h2,h.all h3,h4,h5,Bool.and_true];simp only [XW];exact h1
end
theorem Ln (hb:bd v=true):mQ v=((v.S.toList==(⟨#[]⟩:ByteArray).toList)&&decide (1<=v.N)):=by
 have hk:v.XZ=7\/v.XZ=9:=by
  unfold bd at hb;rw [Bool.or_eq_true,XO,XO] at hb;exact hb
 unfold mQ fV;rcases hk with hk|hk<;>rw [hk]<;>cases (v.S.toList==(⟨#[]⟩:ByteArray).toList)<;>rfl
structure Ren (ρ:Int->Int) (f:List Int):Prop where
 inj: ∀a b,a∈f->b∈f->ρ a=ρ b->a=b
 pos: ∀a∈f,1<=ρ a
theorem Oi {ρ:Int->Int}(hρ:Ren ρ f):Mild (bG ρ f) where
 z:=rfl
 kind v:=by unfold bG;cases bd v&&decide (v.N∈f)<;>rfl
 num v h:=by
  have:bd v=false:=by unfold bd;rw [h];rfl
  unfold bG;rw [this];rfl
 may v h:=by
  cases hb:bd v&&decide (v.N∈f) with
  |false=>unfold bG;rw [hb];exact h
  |true=>
   have a6:=(XW _ _▸hb:bd v=true/\decide (v.N∈f)=true);have a8:=a6.1
   have e:bG ρ f v=⟨v.XZ,ρ v.N,v.S⟩:=by unfold bG;rw [hb];rfl
   have b0:bd (⟨v.XZ,ρ v.N,v.S⟩:VN)=true:=a8;rw [e,Ln b0];rw [Ln a8,XW] at h;rw [XW];exact ⟨h.1,V0 (hρ.pos _ (XQ a6.2))⟩
theorem MK {ρ:Int->Int}(hρ:Ren ρ f)(h:bj c=true):bj (lI ρ f c)=true:=(Oi hρ).right h
theorem uM (h:bj c=true):c.Yb.all mQ=true/\c.Ya.all mQ=true/\rM c.XZ c.Ya=true:=by
 unfold bj at h;simp only [XW] at h;exact ⟨h.2.1,h.2.2.1,h.2.2.2.2⟩
theorem EG (h:bj c=true){m:List VN}(h1:m.all mQ=true)(h2:rM c.XZ m=true):bj ⟨c.XZ,c.Yf,c.Ye,c.Yg,c.Yb,m⟩=true:=by
 unfold bj at h⊢;simp only [XW] at h;obtain ⟨g1,g2,g3,g4,g5⟩:=h;simp only [g2,h1,g4,h2,Bool.and_true];simp only [XW];exact g1
theorem FQ (p:Int->Bool): ∀{l:List VN},sQ l=true->sQ (jd p l)=true
 | [],_=>rfl
 | [_],h=>by cases h
 |k::v::r,h=>by
  rw [pi] at h;rw [XW] at h;have ih:=FQ p h.2;simp only [yG];cases p k.N
  ·exact ih
  show sQ (k::v::jd p r)=true;simp only [pi];rw [h.1,ih];rfl
theorem G5 (lv:List Int): ∀{l:List VN},nQ l=true->nQ (ey lv l)=true
 | [],_=>rfl
 | [_],h=>by cases h
 | [_,_],h=>by cases h
 | [_,_,_],h=>by cases h
 | t::v::k::s::r,h=>by
  rw [ph] at h;rw [XW,XW,XW,XW] at h;obtain ⟨⟨⟨h1,h2⟩,h3,h4⟩,h5⟩:=h;have ih:=G5 lv h5;simp only [wI];cases decide (t.N∈lv)
  ·exact ih
  show nQ (t::v::(bif decide (k.XZ=7)&& !decide (k.N∈lv) then mU else k)::s::ey lv r)=true;simp only [ph]
  have h6:noneB (bif decide (k.XZ=7)&& !decide (k.N∈lv) then mU else k) 7=true:=by
   cases decide (k.XZ=7)&& !decide (k.N∈lv)
   ·exact h3
   rfl
  rw [h1,h2,h6,h4,ih];rfl
theorem Fv (lv:List Int){x:VN}: ∀{l:List VN},x∈ey lv l->x∈l\/x=mU
 | [],h=>by simp [ey] at h
 | [_],h=>by simp [ey] at h
 | [_,_],h=>by simp [ey] at h
 | [_,_,_],h=>by simp [ey] at h
 | t::v::k::s::r,h=>by
  simp only [wI] at h;rcases W8.1 h with h|h
  ·cases hd:decide (t.N∈lv) with
   |false=>rw [hd] at h;cases h
   |true=>
    rw [hd] at h
    cases hk:decide (k.XZ=7)&& !decide (k.N∈lv) with
    |false=>rw [hk] at h;simp at h;rcases h with h|h|h|h<;>subst h<;>simp
    |true=>rw [hk] at h;simp at h;rcases h with h|h|h|h<;>subst h<;>simp
  rcases Fv lv h with h|h
  ·exact .inl (by simp [h])
  exact .inr h
theorem Oo:mQ mU=true:=by kernel_rfl
theorem Np (N:Nat)(lv:List Int)(h:bj c=true):bj (mN N lv c)=true:=by
 obtain ⟨h1,h2,h3⟩:=uM h;unfold mN;by_cases h8:c.XZ=8
 ·rw [th h8,cond_true];unfold sD;cases sv N c
  ·exact h
  refine EG h (m:=jd (fun x=>decide (x∈lv)) c.Ya) ?_ ?_
  ·rw [Wu] at h2⊢
   exact fun v hv=>h2 v (AR hv)
  rw [h8] at h3⊢;exact FQ _ h3
 rw [iX h8,cond_false];by_cases h10:c.XZ=10
 ·rw [th h10,cond_true];rw [h10] at h3;have h3':(decide (1<=c.Ya.length)&&decide ((rv c.Ya 0).XZ=7)&&nQ (c.Ya.drop 1))=true:=h3;simp only [XW,XO] at h3';obtain ⟨⟨g1,g2⟩,g3⟩:=h3';refine EG h (m:=c.Ya.take 1++ey lv (c.Ya.drop 1)) ?_ ?_
  ·rw [Wu] at h2⊢;intro v hv;rcases W8.1 hv with hv|hv
   ·exact h2 v (List.mem_of_mem_take hv)
   rcases Fv lv hv with hv|rfl
   ·exact h2 v (List.mem_of_mem_drop hv)
   exact Oo
  rw [h10];show (decide (1<=(c.Ya.take 1++ey lv (c.Ya.drop 1)).length)&&decide ((rv (c.Ya.take 1++ey lv (c.Ya.drop 1)) 0).XZ=7)&&nQ ((c.Ya.take 1++ey lv (c.Ya.drop 1)).drop 1))=true
  obtain ⟨a,r,hr⟩: ∃a r,c.Ya=a::r:=by
   cases hm:c.Ya with
   |nil=>rw [hm] at g1;simp at g1
   |cons a r=>exact ⟨a,r,rfl⟩
  rw [hr] at g2 g3⊢;have e1:(a::r).take 1++ey lv ((a::r).drop 1)=a::ey lv r:=rfl;rw [e1];have g3':nQ r=true:=g3;have g2':a.XZ=7:=g2;simp only [XW,XO];exact ⟨⟨by simp,g2'⟩,G5 lv g3'⟩
 rw [iX h10,cond_false];exact h
end
section
open Go.RowKit
def bw {α:Type}(g:α->Nat):List α->Nat
 | []=>0
 |a::l=>g a+bw g l
theorem tS (g:α->Nat): ∀a b:List α,bw g (a++b)=bw g a+bw g b
 | [],b=>by simp [bw]
 |c::a,b=>by rw [Wy,bw,bw,tS g a b];omega
theorem Mb (g:α->Nat){a b:List α}(h:a.Perm b):bw g a=bw g b:=by
 induction h with
 |nil=>rfl
 |cons x _ ih=>rw [bw,bw,ih]
 |swap x y l=>rw [bw,bw,bw,bw];omega
 |trans _ _ h1 h2=>rw [h1,h2]
theorem rC (g:Int->Nat): ∀{l L:List Int},l.Nodup->(∀x∈l,x∈L)->bw g l<=bw g L
 | [],_,_,_=>XD _
 |a::l,L,hn,hs=>by
  obtain ⟨h1,h2⟩:=List.nodup_cons.1 hn;have hp:=List.perm_cons_erase (hs a (by simp));rw [Mb g hp,bw,bw]
  have:=rC g (l:=l) (L:=L.erase a) h2 fun x hx=>(List.mem_erase_of_ne (fun e:x=a=>h1 (by rw [<-e];exact hx))).2 (hs x (by simp [hx]))
  omega
theorem pA (g:β->Nat)(f:α->β): ∀l:List α,bw g (l.map f)=bw (fun x=>g (f x)) l
 | []=>rfl
 |x::l=>by rw [W6,bw,bw,pA g f l]
theorem D7 {g h:α->Nat}: ∀{l:List α},(∀x∈l,g x<=h x)->bw g l<=bw h l
 | [],_=>Xx _
 |x::l,hh=>by
  rw [bw,bw];have h1:=hh x (by simp)
  have h2:=D7 (l:=l) fun y hy=>hh y (by simp [hy])
  omega
theorem yw (f:α->List β): ∀l:List α,(l.flatMap f).length=bw (fun x=>(f x).length) l
 | []=>rfl
 |x::l=>by rw [WH,XS,bw,yw f l]
theorem Be (g h:α->Nat): ∀l:List α,bw (fun x=>g x+h x) l=bw g l+bw h l
 | []=>rfl
 |x::l=>by rw [bw,bw,bw,Be g h l];omega
def wC (c:VJ):Nat:=1+c.Yb.length+c.Ya.length
theorem xt: ∀l:List VJ,wt l=bw wC l
 | []=>rfl
 |c::l=>by rw [wt,bw,xt l];rfl
def Dh (m:VR):List Int:=(List.range m.Yd.length).map (fun i:Nat=>2*(i:Int)+1)++(List.range m.Yc.length).map (fun i:Nat=>2*(i:Int)+2)
theorem wi (m:VR)(i:Nat)(h:i<m.Yd.length):aJ m (2*(i:Int)+1)=m.Yd[i]:=by
 unfold aJ jr;rw [if_neg U,if_pos U,show ((2*(i:Int)+1 - 1) / 2).toNat=i by omega,WO h];rfl
theorem rY (m:VR)(i:Nat)(h:i<m.Yc.length):aJ m (2*(i:Int)+2)=m.Yc[i]:=by
 unfold aJ jr;rw [if_neg U,if_neg U,show ((2*(i:Int)+2 - 2) / 2).toNat=i by omega,WO h];rfl
theorem AL (m:VR)(i:Nat):aw m (2*(i:Int)+1)=decide (i<m.Yd.length):=by
 unfold aw jr;rw [if_neg U,if_pos U,show ((2*(i:Int)+1 - 1) / 2).toNat=i by omega];by_cases h:i<m.Yd.length
 ·rw [WO h,V0 h];rfl
 rw [WP U,V1 h];rfl
theorem sy (m:VR)(i:Nat):aw m (2*(i:Int)+2)=decide (i<m.Yc.length):=by
 unfold aw jr;rw [if_neg U,if_neg U,show ((2*(i:Int)+2 - 2) / 2).toNat=i by omega];by_cases h:i<m.Yc.length
 ·rw [WO h,V0 h];rfl
 rw [WP U,V1 h];rfl
theorem F2 (m:VR):(Dh m).map (aJ m)=m.Yd++m.Yc:=by
 unfold Dh;rw [W5,List.map_map,List.map_map]
 congr 1
 ·refine List.ext_getElem (by simp) fun i h1 h2=> ?_
  simp only [WW,List.getElem_range,Function.comp];exact wi m i h2
 refine List.ext_getElem (by simp) fun i h1 h2=> ?_
 simp only [WW,List.getElem_range,Function.comp];exact rY m i h2
theorem fu (h:aw m a=true):(∃i:Nat,i<m.Yd.length/\a=2*(i:Int)+1)\/ ∃i:Nat,i<m.Yc.length/\a=2*(i:Int)+2:=by
 rcases wO m a with ⟨h1,h2⟩|⟨k,h1, -⟩|⟨k,h1, -⟩
 ·unfold aw at h;rw [h2] at h;cases h
 ·subst h1;rw [AL] at h;exact .inl ⟨k,XQ h,J⟩
 subst h1;rw [sy] at h;exact .inr ⟨k,XQ h,J⟩
theorem wa (h:aw m a=true):a∈Dh m:=by
 unfold Dh;rcases fu h with ⟨i,h1,rfl⟩|⟨i,h1,rfl⟩
 ·exact V4 _ (Xc.2 ⟨i,Xe.2 h1,J⟩)
 exact V5 _ (Xc.2 ⟨i,Xe.2 h1,J⟩)
theorem NG (hn:l.Nodup)(hh:∀a∈l,aw m a=true):bw (fun a=>wC (aJ m a)) l<=wt m.Yd+wt m.Yc:=by
 have h1:=rC (fun a=>wC (aJ m a)) hn fun a ha=>wa (hh a ha)
 have h2:=pA wC (aJ m) (Dh m);rw [F2, <-xt,Es] at h2;omega
theorem mP (h:aw m a=true):aJ m a∈m.Yd++m.Yc:=by
 unfold aw at h;unfold aJ
 cases hc:jr m a with
 |none=>rw [hc] at h;cases h
 |some c=>exact uI hc
theorem ID (h:0<a):a.tmod 2=0\/a.tmod 2=1:=by
 rw [tL U];omega
theorem Kw (hp:∀a∈live,0<a)(a:Int):a∈pO live↔a∈live:=by
 unfold pO xa Gh;rw [W8,Xb,Xb,XO,XO];constructor
 ·rintro (h|h)<;>exact h.1
 intro h;rcases ID (hp a h) with h2|h2
 ·exact .inl ⟨h,h2⟩
 exact .inr ⟨h,h2⟩
theorem Fh: ∀{live:List Int},(∀a∈live,0<a)->(pO live).length=live.length
 | [],_=>rfl
 | a::l,hp=>by
  have ih:=Fh (live:=l) fun b hb=>hp b (by simp [hb])
  unfold pO at ih⊢;rw [XS] at ih⊢;rcases ID (hp a (by simp)) with h|h
  ·have e1:xa a=true:=V0 h;have e2:Gh a=false:=V1 U;simp only [WF,e1,e2,if_true,Wk,if_false,WY];omega
  have e1:xa a=false:=V1 U;have e2:Gh a=true:=V0 h;simp only [WF,e1,e2,if_true,Wk,if_false,WY];omega
theorem MH (h:live.Pairwise (· < ·)):(pO live).Pairwise fun a b=> ¬(a.tmod 2=1/\b.tmod 2=0)/\(a.tmod 2=b.tmod 2->a<b):=by
 have hev: ∀a∈live.filter xa,a.tmod 2=0:=fun a ha=>XQ (Xb.1 ha).2
 have hod: ∀a∈live.filter Gh,a.tmod 2=1:=fun a ha=>XQ (Xb.1 ha).2
 unfold pO;refine List.pairwise_append.2 ⟨(h.filter _).imp_of_mem fun {a b} ha hb hlt=>⟨fun hh=> ?_,fun _=>hlt⟩,(h.filter _).imp_of_mem fun {a b} ha hb hlt=>⟨fun hh=> ?_,fun _=>hlt⟩,fun a ha b hb=>⟨fun hh=> ?_,fun hh=> ?_⟩⟩
 ·have:=hev a ha;omega
 ·have:=hod b hb;omega
 ·have:=hev a ha;omega
 have:=hev a ha;have:=hod b hb;omega
theorem tq {p:α->Bool}{l:List α}(h:l.all p=true){x:α}(hx:x∈l):p x=true:=Wu.1 h x hx
theorem Hd {N:Nat}{roots:List VN}(h:oh N m roots=0):(∀c∈m.Yd++m.Yc,se N c=true)/\(∀c∈m.Yd++m.Yc, ∀x∈cp c,aw m x=true)/\ ∀x∈bP roots,aw m x=true:=by
 unfold oh at h
 cases h1:(m.Yd++m.Yc).all (se N) with
 |false=>rw [h1] at h;cases h
 | true=>
  rw [h1] at h
  cases h2:iY m ((m.Yd++m.Yc).flatMap cp++bP roots) with
  |false=>rw [h2] at h;cases h
  |true=>
   unfold iY at h2;refine ⟨fun c hc=>tq h1 hc,fun c hc x hx=>tq h2 (V4 _ (List.mem_flatMap.2 ⟨c,hc,hx⟩)),fun x hx=>tq h2 (V5 _ hx)⟩
structure Live (N:Nat) (m:VR) (roots:List VN) (live f:List Int):Prop where
 ord: ∃b all,IsOrder (F5 N m) (bP roots) b all/\live=kq all/\f=pO live
 prog:nG N m roots=some live
 ref:ET N m roots=some live
 mem: ∀a,a∈f↔a∈live
 len:f.length=live.length
 small:live.length<=1200
 nd:f.Nodup
 asc:live.Pairwise (· < ·)
 has: ∀a∈live,aw m a=true
theorem MI (h:live.Pairwise (· < ·)):(pO live).Nodup:=by
 rw [List.nodup_iff_pairwise_ne]
 refine (MH h).imp fun {a b} hab e=> ?_
 have:=hab.2 (by rw [e]);omega
theorem Qg (N:Nat)(hN:6500<N){roots:List VN}(hs:Small m roots)(hw:W64 m)(hr:∀v∈roots,in64 v.N): ∃live f,Live N m roots live f:=by
 obtain ⟨bg,all,ho,hlen, -, -,o0⟩:=My N hN hs hw hr;obtain ⟨b',all',ho',r0, -⟩:=Kd N hN hs hw hr;obtain ⟨-,e2⟩:=ho.det ho';subst e2;have hll:(kq all).length=all.length:=vJ all;have hmem:=tv all;have hasc:=Gy ho.nodup.2
 have hhas: ∀a∈kq all,aw m a=true:=fun a ha=>ho.has.2 a ((hmem a).1 ha)
 have hpos: ∀a∈kq all,0<a:=fun a ha=>uu (hhas a ha)
 refine ⟨kq all,pO (kq all),⟨⟨_,all,ho,J,J⟩,Qh o0 U J,?_,Kw hpos,Fh hpos,by omega,MI hasc,hasc,hhas⟩⟩;unfold ET;rw [r0,bs,Kf N hN all U ho.nodup.2,bs]
theorem Live.fhas {N:Nat}{roots:List VN}(h:Live N m roots live f)(ha:a∈f):aw m a=true:=h.has a ((h.mem a).1 ha)
theorem IC {N:Nat}{roots:List VN}(h:Live N m roots live f):(f.flatMap fun a=>i3 live (aJ m a)).length+wt (f.map fun a=>lI (tw f) f (mN N live (aJ m a)))<=wt m.Yd+wt m.Yc:=by
 have h1:=NG h.nd fun a ha=>h.fhas ha
 rw [yw,xt,pA, <-Be];refine Xy (D7 fun a ha=> ?_) h1;have:=tp N live (aJ m a);unfold wC lI;simp only [XU];omega
theorem CB {N:Nat}{roots:List VN}(h:Live N m roots live f)(n:Nat):((f.take n).flatMap fun a=>i3 live (aJ m a)).length<=wt m.Yd+wt m.Yc:=by
 have h1:=IC h
 have h2:(f.flatMap fun a=>i3 live (aJ m a))=((f.take n).flatMap fun a=>i3 live (aJ m a))++((f.drop n).flatMap fun a=>i3 live (aJ m a)):=by rw [<-WG,Xm]
 rw [h2,XS] at h1;omega
def Pd (m:VR)(roots:List VN)(live f:List Int):VR×List VN×List VN×Int:=
 bif decide (oh N m roots=0) then ((JC N m roots live f).next,(JC N m roots live f).now,(JC N m roots live f).gone,0) else (⟨[],[]⟩,[],[],oh N m roots)
theorem Ih (N:Nat)(hN:6500<N){roots:List VN}(hs:Small m roots)(ht:Wtd m roots)(hw:W64 m)(hr:∀v∈roots,in64 v.N)(hl:Live N m roots live f):oM N m roots=some (Pd N m roots live f):=by
 apply Sat.eq;have hle:=ht.le;have hlen:=hl.small;have hfl:=hl.len;unfold oM Pd;rw [FY N hN hs ht hw hr,bs];by_cases h0: ¬oh N m roots=0
 ·rw [iX h0];exact ad J
 replace h0:oh N m roots=0:=by omega
 rw [th h0];simp only [nt,cf,ct];obtain ⟨c1,c2,c3⟩:=Hd h0;obtain ⟨_,_,_,hlv,hff⟩:=hl.ord;rw [hl.prog,bs];unfold mg;rw [bs];refine Sat.bind (E1 N (fun x st=>mJ N roots m live x st) live U hN (fun n s=>RhoM s (f.take n)) ?_ [] ?_) ?_
 ·intro n a s ha h1;rw [<-hff] at ha;have hn:=(WQ.1 ha).1;rw [WO hn,XI] at ha;unfold mJ;simp only;rw [r64 U U,r64 U U];refine ad ⟨J,?_⟩;rw [<-ha];exact h1.add hn hl.nd
 ·simpa using RhoM.nil
 rintro ⟨e,kv⟩ ⟨g1,g2⟩;simp only at g1 g2;subst g1;rw [<-hff,XV] at g2;unfold sS;simp only [bs]
 have hG: ∀a∈f,(mN N live (aJ m a)).Yb.length<=600/\(mN N live (aJ m a)).Ya.length<=2900:=fun a ha=>by
  have h1:=tp N live (aJ m a);have h2:=hs.at_ a;omega
 refine Sat.bind (E1 N (fun x st=>mI N roots m live (none,kv) x st) live U hN (fun n s=>s.1=(f.take n).map (fun a=>lI (tw f) f (mN N live (aJ m a)))/\s.2=(f.take n).flatMap fun a=>i3 live (aJ m a)) ?_ ([],[]) ⟨by simp,by simp⟩) ?_
 ·rintro n a ⟨p,q⟩ ha ⟨h1,h2⟩;rw [<-hff] at ha;simp only at h1 h2;have hn:=(WQ.1 ha).1;have ham:a∈f:=Xd ha;rw [WO hn,XI] at ha
  have hpl:p.length<=2000:=by rw [h1,XU,XT];omega
  have hql:q.length<=2900:=by have:=CB hl n;rw [h2];omega
  have hq2:=CB hl (n+1);have hat:=In N hs a (rl hs (hl.fhas ham));have hsm:=hs.at_ a;have hrt:=c1 _ (mP (hl.fhas ham));have hc:=hG a ham;rw [ay hn,ha,WG, <-h2,XS] at hq2;simp only [WH,List.flatMap_nil,Wv] at hq2
  -- the last part
  have last: ∀q',q'=q++i3 live (aJ m a)->Sat (jT N roots m p live (none,kv) q' (mN N live (aJ m a)).XZ (mN N live (aJ m a)).Yf (mN N live (aJ m a)).Ye (mN N live (aJ m a)).Yg (mN N live (aJ m a)).Yb (mN N live (aJ m a)).Ya) fun r=>r.1=none/\r.2.1=(f.take (n+1)).map (fun a=>lI (tw f) f (mN N live (aJ m a)))/\r.2.2=(f.take (n+1)).flatMap fun a=>i3 live (aJ m a):=by
   intro q' hq';unfold jT;rw [wz N hN _ U kv f g2,bs,wz N hN _ U kv f g2,bs,rF (by simp;omega)];refine ad ⟨J,?_,?_⟩
   ·rw [ay hn,W5, <-h1,ha];rfl
   rw [ay hn,WG, <-h2,ha,hq'];simp
  unfold mI;simp only;rw [hat,bs];unfold mN i3 at last;unfold i3 at hq2;by_cases h8:(aJ m a).XZ=8
  ·have hwm:sv N (aJ m a)=true:=by unfold sv;rw [V0 h8];exact hrt
   rw [th h8,ct,FV N hN live U _ hsm.1 hsm.2,bs,hwm,ct];rw [V0 h8,V1 (p:=(aJ m a).XZ=10) U] at last;simp only [cond_true,cond_false,Wv] at last;exact last q J
  by_cases h10:(aJ m a).XZ=10
  ·have hwm:Gj N (aJ m a)=true:=by unfold Gj;rw [V0 h10];exact hrt
   rw [iX h8,cf,th h10,ct,Ag N hN live U _ hsm.1 hsm.2,bs,hwm,ct];rw [V0 h10] at hq2;rw [V1 h8,V0 h10] at last;simp only [cond_true,cond_false] at last hq2;rw [rF U];exact last _ J
  rw [iX h8,cf,iX h10,cf];rw [V1 h8,V1 h10] at last;simp only [cond_true,cond_false,Wv] at last;exact last q J
 rintro ⟨e,p,q⟩ ⟨g1,g3,g4⟩;simp only at g1 g3 g4;subst g1;rw [<-hff,XV] at g3 g4;have hrl:=hs.roots
 have hql:q.length<=2900:=by have:=CB hl f.length;rw [XV] at this;rw [g4];omega
 simp only;rw [wz N hN _ U kv f g2,bs,wz N hN _ U kv f g2,bs];refine ad ?_;unfold JC;rw [g3,g4]
theorem vq (h:a∈f):f.idxOf a<f.length:=List.idxOf_lt_length_iff.2 h
theorem rn (h:a∈f):f[f.idxOf a]'(vq h)=a:=List.getElem_idxOf (vq h)
theorem Lf {b:Int}(ha:a∈f)(hb:b∈f)(h:tw f a=tw f b):a=b:=by
 unfold tw at h
 have e:f.idxOf a=f.idxOf b:=by omega
 have h1:=rn ha;have h2:=rn hb;rw [<-h1, <-h2]
 congr 1
theorem Ld (f:List Int):Ren (tw f) f:=⟨fun _ _ h1 h2 h3=>Lf h1 h2 h3,fun a _=>by unfold tw;omega⟩
theorem HN (ρ:Int->Int)(f:List Int)(v:VN):bd (bG ρ f v)=bd v:=MX (by unfold bG;cases bd v&&decide (v.N∈f)<;>rfl)
theorem sm {ρ:Int->Int}(h1:bd v=true)(h2:v.N∈f):bG ρ f v=⟨v.XZ,ρ v.N,v.S⟩:=by
 unfold bG;rw [h1,V0 h2];rfl
theorem Ec {F:Nat->VN->Bool}: ∀{i:Nat} {l:List VN} {j:Nat} {v:VN},l[j]? =some v->F (i+j) v=true->v.N∈pick F i l
 |i,w::l,0,v,h,hF=>by
  simp only [WM,XI] at h;subst h;rw [pp];rw [Nat.add_zero] at hF;rw [hF];simp
 |i,w::l,j+1,v,h,hF=>by
  simp only [WL] at h;rw [pp];exact V5 _ (Ec (i:=i+1) h (by rw [show i+1+j=i+(j+1) by omega];exact hF))
 |i,[],j,v,h,_=>by simp at h
def js (f:List Int)(l:List VN):Prop:= ∀v∈l,bd v=true->v.N∈f
theorem II (h:∀x∈ce c,x∈f):js f c.Yb:=fun v hv hb=>by
 obtain ⟨j,hj,e⟩:=WX hv;refine h _ (V4 _ (Ec (j:=j) (by rw [WO hj,e]) hb))
theorem Ef (h:∀x∈ce c,x∈f){j:Nat}(hj:c.Ya[j]? =some v)(hw:om c.XZ j=false)(hb:bd v=true):v.N∈f:=
 h _ (V5 _ (Ec (j:=j) hj (by rw [XC,hw,hb];rfl)))
theorem JZ {k:Int}(h8:k≠8)(h10:k≠10)(i:Nat):om k i=false:=by
 unfold om;rw [iX h8,iX h10];rfl
theorem Hc {lv:List Int}(hlv:∀x,x∈lv↔x∈f): ∀{l:List VN},sQ l=true->(∀x∈opens (fun x=>decide (x∈lv)) l,x∈f)->js f (jd (fun x=>decide (x∈lv)) l)
 | [],_,_=>fun v hv=>by simp [jd] at hv
 | [_],h,_=>by cases h
 | k::v::r,h,ho=>by
  rw [pi] at h;rw [XW] at h;rw [qI] at ho
  have ih:=Hc hlv h.2 fun x hx=>ho x (V5 _ hx)
  intro w hw hb;simp only [yG] at hw;rcases W8.1 hw with hw|hw
  ·cases hd:decide (k.N∈lv) with
   |false=>rw [hd] at hw;cases hw
   |true=>
    rw [hd] at hw;simp only [cond_true,W9,List.not_mem_nil,or_false] at hw;rcases hw with rfl|rfl
    ·exact (hlv _).1 (XQ hd)
    exact ho _ (V4 _ (by rw [hb,hd];simp))
  exact ih w hw hb
theorem Ls {lv:List Int}(hlv:∀x,x∈lv↔x∈f): ∀{l:List VN},nQ l=true->(∀j v,l[4*j+1]? =some v->bd v=true->v.N∈f)->js f (ey lv l)
 | [],_,_=>fun v hv=>by simp [ey] at hv
 | [_],h,_=>by cases h
 | [_,_],h,_=>by cases h
 | [_,_,_],h,_=>by cases h
 | t ::a::k::s::r,h,ho=>by
  rw [ph] at h;simp only [XW,XO] at h;obtain ⟨⟨⟨h1, -⟩,h3,h4⟩,h5⟩:=h
  have ih:=Ls hlv h5 fun j v hj hb=>ho (j+1) v (by rw [show 4*(j+1)+1=4*j+1+4 by omega];simpa using hj) hb
  intro w hw hb;simp only [wI] at hw;rcases W8.1 hw with hw|hw
  ·cases hd:decide (t.N∈lv) with
   |false=>rw [hd] at hw;cases hw
   | true=>
    rw [hd] at hw;simp only [cond_true,W9,List.not_mem_nil,or_false] at hw;rcases hw with rfl|rfl|rfl|rfl
    ·exact (hlv _).1 (XQ hd)
    ·exact ho 0 w J hb
    ·cases hk:decide (k.XZ=7)&& !decide (k.N∈lv) with
     |true=>rw [hk] at hb;cases hb
     | false=>
      rw [hk] at hb;simp only [cond_false] at hb⊢
      have a6:k.XZ=7:=by
       unfold noneB at h3;rw [Bool.or_eq_true,XO,XO] at h3;rcases h3 with h3|h3
       ·unfold bd at hb;rw [h3] at hb;cases hb
       exact h3
      rw [V0 a6,Wl] at hk;exact (hlv _).1 (by by_cases hm:k.N∈lv;exact hm;rw [V1 hm] at hk;cases hk)
    have:w.XZ=3:=by
     unfold numB at h4;rw [XW,XO] at h4;exact h4.1
    unfold bd at hb;rw [this] at hb;cases hb
  exact ih w hw hb
structure CellOk (N:Nat) (lv f:List Int) (c:VJ):Prop where
 big:6500<N
 right:bj c=true
 slots:c.Yb.length<=600
 more:c.Ya.length<=2900
 leads: ∀x∈ce c,x∈f
 opens: ∀x∈dH N c lv,x∈f
 mem: ∀x,x∈lv↔x∈f
theorem KH {N:Nat}(hN:6500<N)(h:bj c=true)(hS:c.Yb.length<=600)(hM:c.Ya.length<=2900):sv N c=decide (c.XZ=8):=by
 unfold sv;rw [qC N hN c U U,h];cases decide (c.XZ=8)<;>rfl
theorem KI {N:Nat}(hN:6500<N)(h:bj c=true)(hS:c.Yb.length<=600)(hM:c.Ya.length<=2900):Gj N c=decide (c.XZ=10):=by
 unfold Gj;rw [qC N hN c U U,h];cases decide (c.XZ=10)<;>rfl
theorem IP {N:Nat}(hN:6500<N)(hS:c.Yb.length<=600)(hM:c.Ya.length<=2900):se N c=bj c:=by
 unfold se;rw [qC N hN c U U];rfl
section
variable {N:Nat}{ρ:Int->Int}{lv:List Int}
theorem JD:(mN N lv c).XZ=c.XZ/\(mN N lv c).Yf=c.Yf/\(mN N lv c).Ye=c.Ye/\(mN N lv c).Yb=c.Yb:=by
 unfold mN sD;cases decide (c.XZ=8)<;>cases decide (c.XZ=10)<;>cases sv N c<;>exact ⟨rfl,rfl,rfl,rfl⟩
theorem CellOk.new (hρ:Ren ρ f)(h:CellOk N lv f c):bj (lI ρ f (mN N lv c))=true/\(lI ρ f (mN N lv c)).Yb.length<=600/\(lI ρ f (mN N lv c)).Ya.length<=2900/\(lI ρ f (mN N lv c)).XZ=c.XZ:=by
 have h1:=tp N lv c;have h2:=h.slots;have h3:=h.more;exact ⟨MK hρ (Np N lv h.right),by unfold lI;simp only [XU];omega,by unfold lI;simp only [XU];omega,JD.1⟩
theorem CellOk.ent2 (h:CellOk N lv f c)(h8:c.XZ=8):sQ c.Ya=true:=by
 have:=(uM h.right).2.2;rw [h8] at this;exact this
theorem CellOk.ent4 (h:CellOk N lv f c)(h10:c.XZ=10):1<=c.Ya.length/\(rv c.Ya 0).XZ=7/\nQ (c.Ya.drop 1)=true:=by
 have:=(uM h.right).2.2;rw [h10] at this;have h3':(decide (1<=c.Ya.length)&&decide ((rv c.Ya 0).XZ=7)&&nQ (c.Ya.drop 1))=true:=this;simp only [XW,XO] at h3';exact ⟨h3'.1.1,h3'.1.2,h3'.2⟩
theorem CellOk.wm (h:CellOk N lv f c):sv N c=decide (c.XZ=8):=KH h.big h.right h.slots h.more
theorem CellOk.fr (h:CellOk N lv f c):Gj N c=decide (c.XZ=10):=KI h.big h.right h.slots h.more
theorem CellOk.clC8 (h:CellOk N lv f c)(h8:c.XZ=8):mN N lv c=⟨c.XZ,c.Yf,c.Ye,c.Yg,c.Yb,jd (fun x=>decide (x∈lv)) c.Ya⟩:=by
 unfold mN sD;rw [h.wm,V0 h8];rfl
theorem CellOk.clC10 (h10:c.XZ=10):mN N lv c=⟨c.XZ,c.Yf,c.Ye,c.Yg,c.Yb,c.Ya.take 1++ey lv (c.Ya.drop 1)⟩:=by
 unfold mN;rw [V1 (p:=c.XZ=8) U,V0 h10];rfl
theorem CellOk.clC0 (h8:c.XZ≠8)(h10:c.XZ≠10):mN N lv c=c:=by
 unfold mN;rw [V1 h8,V1 h10];rfl
theorem CellOk.inC (h:CellOk N lv f c):js f (mN N lv c).Yb/\js f (mN N lv c).Ya:=by
 refine ⟨by rw [JD.2.2.2];exact II h.leads,?_⟩;by_cases h8:c.XZ=8
 ·rw [h.clC8 h8];have ho:=h.opens;unfold dH at ho;rw [h.wm,V0 h8,cond_true] at ho;exact Hc h.mem (h.ent2 h8) ho
 by_cases h10:c.XZ=10
 ·rw [CellOk.clC10 h10];obtain ⟨q1,q2,q3⟩:=h.ent4 h10
  obtain ⟨a,r,hr⟩: ∃a r,c.Ya=a::r:=by
   cases hm:c.Ya with
   |nil=>rw [hm] at q1;simp at q1
   |cons a r=>exact ⟨a,r,rfl⟩
  rw [hr] at q3;have q3':nQ r=true:=q3;intro v hv hb
  have hv':v=a\/v∈ey lv r:=by
   have:v∈a::ey lv r:=by rw [hr] at hv;exact hv
   exact W9.1 this
  rcases hv' with rfl|hv'
  ·refine Ef h.leads (j:=0) (by rw [hr];rfl) ?_ hb;unfold om;rw [h10];rfl
  refine Ls h.mem q3' (fun j w hj hw=>Ef h.leads (j:=4*j+2) (by rw [hr,show 4*j+2=(4*j+1)+1 by omega,WL];exact hj) ?_ hw) v hv' hb;unfold om;rw [h10]
  have e1:(((4*j+2:Nat):Int) - 1).tmod 4=1:=by rw [Wp U];omega
  have e2:((1:Int)).tmod 2=1:=rfl;rw [e1,e2];cases decide ((0:Int)<((4*j+2:Nat):Int))<;>rfl
 rw [CellOk.clC0 h8 h10];intro v hv hb;obtain ⟨j,hj,e⟩:=WX hv;exact Ef h.leads (j:=j) (by rw [WO hj,e]) (JZ h8 h10 j) hb
end
end
end Go.Proofs.YthhiddkljcacaaaGreat