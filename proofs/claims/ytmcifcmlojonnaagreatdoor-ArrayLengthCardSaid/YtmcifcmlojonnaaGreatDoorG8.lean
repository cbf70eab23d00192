/- Merged texts: part 8. No conditions of their own. -/
import Derived.Test.YtmcifcmlojonnaaGreatDoorG2
import Derived.Test.YtmcifcmlojonnaaGreatDoorG7
import Derived.Test.YtmcifcmlojonnaaGreatDoorG1
import Derived.ProofKit
namespace Go.Proofs.YtmcifcmlojonnaaGreatDoor
variable (N:Nat){held:Bool}{a x:Int}{p:Int->Bool}{met:List (Int×Unit)}{f l live row:List Int}{b0 i k:Nat}{spare:Nat->Bool}{H α β σ:Type}{c:WI}{m:WK}{v:WV}{hJ:World}
section
open Go.RowKit Go.ChangeShapes Go.WideShapes Go.Deep
theorem WC:type_of% Tryz.underlying43:=Tryz.underlying43
theorem WB:type_of% Tryz.underlying41:=Tryz.underlying41
theorem WA:type_of% Tryz.underlying28:=Tryz.underlying28
def qU (x:WV):Prop:=(in64 x.Za)/\(in64 x.N)/\(x.S.size<=reachBytes)
set_option maxRecDepth 100000 in
theorem rU:J3 Xa 28 ay qU:=fun {_ enc w base spare held _ cs y} h hw=>by
 obtain ⟨xs,m, -,hy,hl,hx,hf⟩:=DataW.trod_struct WA h
 have hc:Tryz.prog.cellsOf 28=3:=by kernel_rfl
 rw [hc] at hl
 match cs,hl,hf with
 | [c0,c1,c2],_,hf=>
  have k0:DataW.trod enc Xa w base spare held m 3 (List.take (Tryz.prog.cellsOf 3) (List.drop 0 [c0,c1,c2]))=xs[0]? :=hf 0 _ rfl
  have z0:Tryz.prog.cellsOf 3=1:=by kernel_rfl
  simp only [z0,Xx,Xy,Ys,Yt] at k0
  have l0:0<xs.length:=by rw [hx];decide
  obtain ⟨a0,r0,w0⟩:=(Rdr.w (uA Wp)) (k0.trans (XM l0)) (fH WA hy hw (i:=0) rfl (XM l0));have k1:DataW.trod enc Xa w base spare held m 3 (List.take (Tryz.prog.cellsOf 3) (List.drop 1 [c0,c1,c2]))=xs[1]? :=hf 1 _ rfl
  have z1:Tryz.prog.cellsOf 3=1:=by kernel_rfl
  simp only [z1,Xx,Xy,Ys,Yt] at k1
  have l1:1<xs.length:=by rw [hx];decide
  obtain ⟨a1,r1,w1⟩:=(Rdr.w (uA Wp)) (k1.trans (XM l1)) (fH WA hy hw (i:=1) rfl (XM l1));have k2:DataW.trod enc Xa w base spare held m 9 (List.take (Tryz.prog.cellsOf 9) (List.drop 2 [c0,c1,c2]))=xs[2]? :=hf 2 _ rfl
  have z2:Tryz.prog.cellsOf 9=1:=by kernel_rfl
  simp only [z2,Xx,Xy,Ys,Yt] at k2
  have l2:2<xs.length:=by rw [hx];decide
  obtain ⟨a2,r2,w2⟩:=(I7 Wn) (k2.trans (XM l2)) (fH WA hy hw (i:=2) rfl (XM l2));obtain ⟨rfl, -⟩:=Xs (show [c0]=[_] from r0);obtain ⟨rfl, -⟩:=Xs (show [c1]=[_] from r1);obtain ⟨rfl, -⟩:=Xs (show [c2]=[_] from r2);exact ⟨⟨a0,a1,a2⟩,J,⟨w0,w1,w2⟩⟩
def Lw (x:WL):Prop:=(in64 x.Za)/\(in64 x.N)/\(x.S.size<=reachBytes)
set_option maxRecDepth 100000 in
theorem Nf:J3 Xa 39 nY Lw:=fun {_ enc w base spare held _ cs y} h hw=>by
 obtain ⟨xs,m, -,hy,hl,hx,hf⟩:=DataW.trod_struct z5 h
 have hc:Tryz.prog.cellsOf 39=3:=by kernel_rfl
 rw [hc] at hl
 match cs,hl,hf with
 | [c0,c1,c2],_,hf=>
  have k0:DataW.trod enc Xa w base spare held m 3 (List.take (Tryz.prog.cellsOf 3) (List.drop 0 [c0,c1,c2]))=xs[0]? :=hf 0 _ rfl
  have z0:Tryz.prog.cellsOf 3=1:=by kernel_rfl
  simp only [z0,Xx,Xy,Ys,Yt] at k0
  have l0:0<xs.length:=by rw [hx];decide
  obtain ⟨a0,r0,w0⟩:=(Rdr.w (uA Wp)) (k0.trans (XM l0)) (fH z5 hy hw (i:=0) rfl (XM l0));have k1:DataW.trod enc Xa w base spare held m 3 (List.take (Tryz.prog.cellsOf 3) (List.drop 1 [c0,c1,c2]))=xs[1]? :=hf 1 _ rfl
  have z1:Tryz.prog.cellsOf 3=1:=by kernel_rfl
  simp only [z1,Xx,Xy,Ys,Yt] at k1
  have l1:1<xs.length:=by rw [hx];decide
  obtain ⟨a1,r1,w1⟩:=(Rdr.w (uA Wp)) (k1.trans (XM l1)) (fH z5 hy hw (i:=1) rfl (XM l1));have k2:DataW.trod enc Xa w base spare held m 9 (List.take (Tryz.prog.cellsOf 9) (List.drop 2 [c0,c1,c2]))=xs[2]? :=hf 2 _ rfl
  have z2:Tryz.prog.cellsOf 9=1:=by kernel_rfl
  simp only [z2,Xx,Xy,Ys,Yt] at k2
  have l2:2<xs.length:=by rw [hx];decide
  obtain ⟨a2,r2,w2⟩:=(I7 Wn) (k2.trans (XM l2)) (fH z5 hy hw (i:=2) rfl (XM l2));obtain ⟨rfl, -⟩:=Xs (show [c0]=[_] from r0);obtain ⟨rfl, -⟩:=Xs (show [c1]=[_] from r1);obtain ⟨rfl, -⟩:=Xs (show [c2]=[_] from r2);exact ⟨⟨a0,a1,a2⟩,J,⟨w0,w1,w2⟩⟩
def IN (x:WG):Prop:=(in64 x.Has)/\(in64 x.Zd)/\(qU x.Value)/\(qU x.Zq)/\(qU x.Zr)
set_option maxRecDepth 100000 in
theorem Kr:J3 Xa 41 OH IN:=fun {_ enc w base spare held _ cs y} h hw=>by
 obtain ⟨xs,m, -,hy,hl,hx,hf⟩:=DataW.trod_struct WB h
 have hc:Tryz.prog.cellsOf 41=11:=by kernel_rfl
 rw [hc] at hl
 match cs,hl,hf with
 | [c0,c1,c2,c3,c4,c5,c6,c7,c8,c9,a6],_,hf=>
  have k0:DataW.trod enc Xa w base spare held m 3 (List.take (Tryz.prog.cellsOf 3) (List.drop 0 [c0,c1,c2,c3,c4,c5,c6,c7,c8,c9,a6]))=xs[0]? :=hf 0 _ rfl
  have z0:Tryz.prog.cellsOf 3=1:=by kernel_rfl
  simp only [z0,Xx,Xy,Ys,Yt] at k0
  have l0:0<xs.length:=by rw [hx];decide
  obtain ⟨a0,r0,w0⟩:=(Rdr.w (uA Wp)) (k0.trans (XM l0)) (fH WB hy hw (i:=0) rfl (XM l0));have k1:DataW.trod enc Xa w base spare held m 3 (List.take (Tryz.prog.cellsOf 3) (List.drop 1 [c0,c1,c2,c3,c4,c5,c6,c7,c8,c9,a6]))=xs[1]? :=hf 1 _ rfl
  have z1:Tryz.prog.cellsOf 3=1:=by kernel_rfl
  simp only [z1,Xx,Xy,Ys,Yt] at k1
  have l1:1<xs.length:=by rw [hx];decide
  obtain ⟨a1,r1,w1⟩:=(Rdr.w (uA Wp)) (k1.trans (XM l1)) (fH WB hy hw (i:=1) rfl (XM l1));have k2:DataW.trod enc Xa w base spare held m 28 (List.take (Tryz.prog.cellsOf 28) (List.drop 2 [c0,c1,c2,c3,c4,c5,c6,c7,c8,c9,a6]))=xs[2]? :=hf 2 _ rfl
  have z2:Tryz.prog.cellsOf 28=3:=by kernel_rfl
  simp only [z2,Xx,Xy,Ys,Yt] at k2
  have l2:2<xs.length:=by rw [hx];decide
  obtain ⟨a2,r2,w2⟩:=rU (k2.trans (XM l2)) (fH WB hy hw (i:=2) rfl (XM l2));have k3:DataW.trod enc Xa w base spare held m 28 (List.take (Tryz.prog.cellsOf 28) (List.drop 5 [c0,c1,c2,c3,c4,c5,c6,c7,c8,c9,a6]))=xs[3]? :=hf 3 _ rfl
  have z3:Tryz.prog.cellsOf 28=3:=by kernel_rfl
  simp only [z3,Xx,Xy,Ys,Yt] at k3
  have l3:3<xs.length:=by rw [hx];decide
  obtain ⟨a3,r3,w3⟩:=rU (k3.trans (XM l3)) (fH WB hy hw (i:=3) rfl (XM l3));have k4:DataW.trod enc Xa w base spare held m 28 (List.take (Tryz.prog.cellsOf 28) (List.drop 8 [c0,c1,c2,c3,c4,c5,c6,c7,c8,c9,a6]))=xs[4]? :=hf 4 _ rfl
  have z4:Tryz.prog.cellsOf 28=3:=by kernel_rfl
  simp only [z4,Xx,Xy,Ys,Yt] at k4
  have l4:4<xs.length:=by rw [hx];decide
  obtain ⟨a4,r4,w4⟩:=rU (k4.trans (XM l4)) (fH WB hy hw (i:=4) rfl (XM l4));obtain ⟨rfl, -⟩:=Xs (show [c0]=[_] from r0);obtain ⟨rfl, -⟩:=Xs (show [c1]=[_] from r1);have e2:[c2,c3,c4]=[.int .i64 a2.Za,.int .i64 a2.N,.string a2.S]:=r2;simp only [Xt,and_true] at e2;obtain ⟨rfl,rfl,rfl⟩:=e2;have e3:[c5,c6,c7]=[.int .i64 a3.Za,.int .i64 a3.N,.string a3.S]:=r3;simp only [Xt,and_true] at e3;obtain ⟨rfl,rfl,rfl⟩:=e3;have e4:[c8,c9,a6]=[.int .i64 a4.Za,.int .i64 a4.N,.string a4.S]:=r4;simp only [Xt,and_true] at e4;obtain ⟨rfl,rfl,rfl⟩:=e4;exact ⟨⟨a0,a1,a2,a3,a4⟩,J,⟨w0,w1,w2,w3,w4⟩⟩
def HF (x:WS):Prop:=(in64 x.Za)/\(in64 x.N)/\(Lw x.K)/\(IN x.D)/\(qU x.V)
set_option maxRecDepth 100000 in
theorem Ng:J3 Xa 43 vv HF:=fun {_ enc w base spare held _ cs y} h hw=>by
 obtain ⟨xs,m, -,hy,hl,hx,hf⟩:=DataW.trod_struct WC h
 have hc:Tryz.prog.cellsOf 43=19:=by kernel_rfl
 rw [hc] at hl
 match cs,hl,hf with
 | [c0,c1,c2,c3,c4,c5,c6,c7,c8,c9,a6,a7,a8,b0,b5,b6,b7,b9,d0],_,hf=>
  have k0:DataW.trod enc Xa w base spare held m 3 (List.take (Tryz.prog.cellsOf 3) (List.drop 0 [c0,c1,c2,c3,c4,c5,c6,c7,c8,c9,a6,a7,a8,b0,b5,b6,b7,b9,d0]))=xs[0]? :=hf 0 _ rfl
  have z0:Tryz.prog.cellsOf 3=1:=by kernel_rfl
  simp only [z0,Xx,Xy,Ys,Yt] at k0
  have l0:0<xs.length:=by rw [hx];decide
  obtain ⟨a0,r0,w0⟩:=(Rdr.w (uA Wp)) (k0.trans (XM l0)) (fH WC hy hw (i:=0) rfl (XM l0));have k1:DataW.trod enc Xa w base spare held m 3 (List.take (Tryz.prog.cellsOf 3) (List.drop 1 [c0,c1,c2,c3,c4,c5,c6,c7,c8,c9,a6,a7,a8,b0,b5,b6,b7,b9,d0]))=xs[1]? :=hf 1 _ rfl
  have z1:Tryz.prog.cellsOf 3=1:=by kernel_rfl
  simp only [z1,Xx,Xy,Ys,Yt] at k1
  have l1:1<xs.length:=by rw [hx];decide
  obtain ⟨a1,r1,w1⟩:=(Rdr.w (uA Wp)) (k1.trans (XM l1)) (fH WC hy hw (i:=1) rfl (XM l1));have k2:DataW.trod enc Xa w base spare held m 39 (List.take (Tryz.prog.cellsOf 39) (List.drop 2 [c0,c1,c2,c3,c4,c5,c6,c7,c8,c9,a6,a7,a8,b0,b5,b6,b7,b9,d0]))=xs[2]? :=hf 2 _ rfl
  have z2:Tryz.prog.cellsOf 39=3:=by kernel_rfl
  simp only [z2,Xx,Xy,Ys,Yt] at k2
  have l2:2<xs.length:=by rw [hx];decide
  obtain ⟨a2,r2,w2⟩:=Nf (k2.trans (XM l2)) (fH WC hy hw (i:=2) rfl (XM l2));have k3:DataW.trod enc Xa w base spare held m 41 (List.take (Tryz.prog.cellsOf 41) (List.drop 5 [c0,c1,c2,c3,c4,c5,c6,c7,c8,c9,a6,a7,a8,b0,b5,b6,b7,b9,d0]))=xs[3]? :=hf 3 _ rfl
  have z3:Tryz.prog.cellsOf 41=11:=by kernel_rfl
  simp only [z3,Xx,Xy,Ys,Yt] at k3
  have l3:3<xs.length:=by rw [hx];decide
  obtain ⟨a3,r3,w3⟩:=Kr (k3.trans (XM l3)) (fH WC hy hw (i:=3) rfl (XM l3));have k4:DataW.trod enc Xa w base spare held m 28 (List.take (Tryz.prog.cellsOf 28) (List.drop 16 [c0,c1,c2,c3,c4,c5,c6,c7,c8,c9,a6,a7,a8,b0,b5,b6,b7,b9,d0]))=xs[4]? :=hf 4 _ rfl
  have z4:Tryz.prog.cellsOf 28=3:=by kernel_rfl
  simp only [z4,Xx,Xy,Ys,Yt] at k4
  have l4:4<xs.length:=by rw [hx];decide
  obtain ⟨a4,r4,w4⟩:=rU (k4.trans (XM l4)) (fH WC hy hw (i:=4) rfl (XM l4));obtain ⟨rfl, -⟩:=Xs (show [c0]=[_] from r0);obtain ⟨rfl, -⟩:=Xs (show [c1]=[_] from r1);have e2:[c2,c3,c4]=[.int .i64 a2.Za,.int .i64 a2.N,.string a2.S]:=r2;simp only [Xt,and_true] at e2;obtain ⟨rfl,rfl,rfl⟩:=e2;have e3:[c5,c6,c7,c8,c9,a6,a7,a8,b0,b5,b6]=[.int .i64 a3.Has,.int .i64 a3.Zd,.int .i64 a3.Value.Za,.int .i64 a3.Value.N,.string a3.Value.S,.int .i64 a3.Zq.Za,.int .i64 a3.Zq.N,.string a3.Zq.S,.int .i64 a3.Zr.Za,.int .i64 a3.Zr.N,.string a3.Zr.S]:=r3;simp only [Xt,and_true] at e3;obtain ⟨rfl,rfl,rfl,rfl,rfl,rfl,rfl,rfl,rfl,rfl,rfl⟩:=e3;have e4:[b7,b9,d0]=[.int .i64 a4.Za,.int .i64 a4.N,.string a4.S]:=r4;simp only [Xt,and_true] at e4;obtain ⟨rfl,rfl,rfl⟩:=e4;exact ⟨⟨a0,a1,a2,a3,a4⟩,J,⟨w0,w1,w2,w3,w4⟩⟩
set_option maxRecDepth 100000 in
theorem TF {enc:TypeId×Value->H}{r:Reach}{base:Nat}{v:Value}{d:DataW H}{p:List MemPlace}(hv:Value.okWide Xa hJ r b0 22 v)(h:DataW.Trod enc Xa hJ base spare held 22 v d p)(hz:Light Xa 22 d): ∃(m:WW) (Aq_0:Option Addr) (nq_0 cq_0:Nat),v=W Aq_0 nq_0 cq_0/\(UJ (fun z22=>qU z22) m)/\(gK ay (W Aq_0 nq_0 cq_0) m).ok (fun _=>False) (fun q=>q<hJ.heap.size) hJ:=by
 obtain ⟨A,n,c,rfl⟩:=okWide_slice t9 hv;obtain ⟨fuel,hf⟩:=h;obtain ⟨m,⟨u,e,h1⟩,hw⟩:=(LI t9 O (by decide) (YV O) rU) hf hz;obtain ⟨rfl, -⟩:=Xs (show [_]=[_] from e);exact ⟨m,A,n,c,J,hw,h1⟩
set_option maxRecDepth 100000 in
theorem TE {enc:TypeId×Value->H}{r:Reach}{base:Nat}{v:Value}{d:DataW H}{p:List MemPlace}(hv:Value.okWide Xa hJ r b0 23 v)(h:DataW.Trod enc Xa hJ base spare held 23 v d p)(hz:Light Xa 23 d): ∃(m:List WS) (Aq_0:Option Addr) (nq_0 cq_0:Nat),v=W Aq_0 nq_0 cq_0/\(UJ (fun z23=>HF z23) m)/\(gK vv (W Aq_0 nq_0 cq_0) m).ok (fun _=>False) (fun q=>q<hJ.heap.size) hJ:=by
 obtain ⟨A,n,c,rfl⟩:=okWide_slice Ex hv;obtain ⟨fuel,hf⟩:=h;obtain ⟨m,⟨u,e,h1⟩,hw⟩:=(LI Ex O (by decide) (YV O) Ng) hf hz;obtain ⟨rfl, -⟩:=Xs (show [_]=[_] from e);exact ⟨m,A,n,c,J,hw,h1⟩
open Go.RowKit
def Sat {ρ:Type}(m:Option ρ)(R:ρ->Prop):Prop:= ∃r,m=some r/\R r
theorem ac {ρ:Type}{x:ρ}{R:ρ->Prop}(h:R x):Sat (some x) R:=⟨x,rfl,h⟩
theorem Sat.eq {ρ:Type}{m:Option ρ}{x:ρ}(h:Sat m (· =x)):m=some x:=by obtain ⟨r,h1,rfl⟩:=h;exact h1
theorem Sat.mono {ρ:Type}{m:Option ρ}{R Q:ρ->Prop}(h:Sat m R)(k:∀x,R x->Q x):Sat m Q:=by obtain ⟨r,h1,h2⟩:=h;exact ⟨r,h1,k _ h2⟩
theorem Sat.bind {ρ:Type}{m:Option σ}{f:σ->Option ρ}{P:σ->Prop}{R:ρ->Prop}(h:Sat m P)(k:∀x,P x->Sat (f x) R):Sat (m.bind f) R:=by obtain ⟨x,rfl,h2⟩:=h;exact k x h2
theorem dM {ρ:Type}{b:Bool}{x y:Option ρ}{R:ρ->Prop}(h1:b=true->Sat x R)(h2:b=false->Sat y R):Sat (bif b then x else y) R:=by cases b with|true=>exact h1 rfl|false=>exact h2 rfl
theorem aC {ρ:Type}{p:Prop}[Decidable p]{x y:Option ρ}{R:ρ->Prop}(h1:p->Sat x R)(h2:¬p->Sat y R):Sat (bif decide p then x else y) R:=by
 by_cases h:p
 ·rw [WY h];exact h1 h
 rw [WZ h];exact h2 h
theorem D0 {ρ:Type}{b:Bool}{x y:Option ρ}{R:ρ->Prop}(h1:b=false->Sat x R)(h2:b=true->Sat y R):Sat (bif !b then x else y) R:=by cases b with|true=>exact h2 rfl|false=>exact h1 rfl
theorem aw {ρ:Type}{b:Prop}[Decidable b]{m:Option ρ}{R:ρ->Prop}(h:b)(k:Sat m R):Sat (aL b m) R:=by unfold aL;rw [if_pos h];exact k
theorem pX {ρ:Type}{xs:List α}{i:Int}{f:α->Option ρ}{R:ρ->Prop}(h0:0<=i)(h1:i<xs.length)(k:∀x,xs[i.toNat]? =some x->Sat (f x) R):Sat ((aq xs i).bind f) R:=by
 unfold aq;rw [if_neg I,XM I];exact k _ (XM I)
theorem bs {ρ:Type}{x:σ}{f:σ->Option ρ}:(some x).bind f=f x:=Eq.trans rfl rfl
theorem ct {ρ:Type}{x y:ρ}:(bif true then x else y)=x:=Eq.trans rfl rfl
theorem cf {ρ:Type}{x y:ρ}:(bif false then x else y)=y:=Eq.trans rfl rfl
theorem nt:(!true)=false:=Eq.trans rfl rfl
theorem nf:(!false)=true:=Eq.trans rfl rfl
theorem fN {b:Int}(h:a<b):decide (a<b)=true:=WY h
theorem fC {b:Int}(h:b<=a):decide (a<b)=false:=WZ I
theorem Rc {b:Int}(h:a<=b):decide (a<=b)=true:=WY h
theorem Re {b:Int}(h:b<a):decide (a<=b)=false:=WZ I
theorem sX {b:Int}(h:a=b):decide (a=b)=true:=WY h
theorem jo {b:Int}(h:a≠b):decide (a=b)=false:=WZ h
theorem cU {ρ:Type}{b:Prop}[Decidable b]{m:Option ρ}(h:b):aL b m=m:=if_pos h
theorem r64 {ρ:Type}{m:Option ρ}(h1:-9000000000000000000<=a)(h2:a<=9000000000000000000):aL (in64 a) m=m:=if_pos ⟨by omega,by omega⟩
theorem rF {ρ:Type}{n:Nat}{m:Option ρ}(h:n<=1000000):aL (cF n) m=m:=if_pos (by unfold cF;omega)
theorem Rn {xs:List α}{i:Int}(h0:0<=i)(h1:i.toNat<xs.length):aq xs i=some xs[i.toNat]:=by
 unfold aq;rw [if_neg I,XM h1]
theorem aK {xs:List α}(h1:i<xs.length):aq xs (i:Int)=some xs[i]:=by
 unfold aq;rw [if_neg I,Xo,XM h1]
theorem jv {ρ:Type}(L:Nat->Nat->σ->Option ρ)(n:Nat)(Inv:Nat->σ->Prop)(R:ρ->Prop)(round:∀m i s,i<n->Inv i s->(∀s',Inv (i+1) s'->Sat (L m (i+1) s') R)->Sat (L (m+1) i s) R)(fin:∀m s,Inv n s->Sat (L (m+1) n s) R): ∀m i s,n<m+i->i<=n->Inv i s->Sat (L m i s) R
 |0,i,s,h,h2,_=>by omega
 |m+1,i,s,h,h2,hi=>by
  by_cases e:i=n
  ·subst e;exact fin m s hi
  exact round m i s I hi fun s' h'=>jv L n Inv R round fin m (i+1) s' I I h'
theorem vI {ρ:Type}(L:Nat->σ->Option ρ)(v:σ->Nat)(Inv:σ->Prop)(R:ρ->Prop)(round:∀m s,Inv s->(∀s',v s'<v s->Inv s'->Sat (L m s') R)->Sat (L (m+1) s) R): ∀m s,v s<m->Inv s->Sat (L m s) R
 |0,_,h,_=>by omega
 |m+1,s,h,hi=>round m s hi fun s' h1 h2=>vI L v Inv R round m s' I h2
theorem cj {l:List α}(h:i<l.length):l.take (i+1)=l.take i++ [l[i]]:=by
 rw [List.take_add_one,XM h];rfl
theorem MC: ∀{a b:List Int},a.Pairwise (· < ·)->b.Pairwise (· < ·)->(∀x,x∈a↔x∈b)->a=b
 | [],[],_,_,_=>rfl
 | [],y::b,_,_,h=>by have:=(h y).2 (by simp);cases this
 |x::a,[],_,_,h=>by have:=(h x).1 (by simp);cases this
 | x::a,y::b,ha,hb,h=>by
  obtain ⟨ha1,ha2⟩:=Yk.1 ha;obtain ⟨a6,a7⟩:=Yk.1 hb
  have e:x=y:=by
   rcases X8.1 ((h x).1 (by simp)) with e|h1
   ·exact e
   rcases X8.1 ((h y).2 (by simp)) with e|h2
   ·exact e.symm
   have:=a6 x h1;have:=ha1 y h2;omega
  subst e;rw [MC ha2 a7 fun z=> ?_];constructor
  ·intro hz;rcases X8.1 ((h z).1 (by simp [hz])) with e|h1
   ·subst e;exact absurd (ha1 z hz) I
   exact h1
  intro hz;rcases X8.1 ((h z).2 (by simp [hz])) with e|h1
  ·subst e;exact absurd (a6 z hz) I
  exact h1
theorem K8 [DecidableEq α](a:α)(L:List (α×β)):(∃i b,fp a L 0=some (i,b)/\L[i]? =some (a,b))\/(fp a L 0=none/\a∉L.map (·.1)):=by
 cases h:fp a L 0 with
 | none=>exact .inr ⟨rfl,fun h1=>by
   obtain ⟨p,h2,h3⟩:=Yc.1 h1
   exact (Me a L).1 h p h2 h3⟩
 |some q=>obtain ⟨i,b⟩:=q;exact .inl ⟨i,b,J,(Mg a L 0 i b h).2⟩
theorem AQ [DecidableEq α](L:List (α×β))(a:α)(b:β):(yI L a b).map (·.1)=if a∈L.map (·.1) then L.map (·.1) else L.map (·.1)++ [a]:=by
 unfold yI;rcases K8 a L with ⟨i,c,h1,h2⟩|⟨h1,h2⟩
 ·have hm:a∈L.map (·.1):=Yc.2 ⟨_,Yd h2,rfl⟩;rw [h1,if_pos hm];show (L.set i (a,b)).map (·.1)=_;rw [List.map_set];apply XA;intro j;by_cases e:i=j
  ·subst e;have hlt:=(XO.1 h2).1;rw [XR (by simpa using hlt),XP,h2];rfl
  rw [XQ e]
 rw [h1,if_neg h2];show (L++ [(a,b)]).map (·.1)=_;rw [X4];rfl
theorem Qv [DecidableEq α](L:List (α×β))(a:α)(b:β)(x:α):x∈(yI L a b).map (·.1)↔x=a\/x∈L.map (·.1):=by
 rw [AQ];split
 ·constructor
  ·exact .inr
  rintro (rfl|h)<;>assumption
 rw [X7,Yh];exact Or.comm
theorem wQ: ∀{l:List α} {i:Nat} {a:α},l.Nodup->l[i]? =some a-> ∀x,x∈l.eraseIdx i↔x∈l/\x≠a
 | [],_,_,_,h,_=>by simp at h
 |y::l,0,a,hn,h,x=>by
  simp only [XK,YN] at h;subst h;rw [List.eraseIdx_cons_zero];obtain ⟨h1, -⟩:=Yj.1 hn;constructor
  ·intro hx;exact ⟨by simp [hx],fun e=>h1 (e▸hx)⟩
  rintro ⟨hx,hne⟩;rcases X8.1 hx with e|hx
  ·exact absurd e hne
  exact hx
 | y::l,i+1,a,hn,h,x=>by
  simp only [XJ] at h;obtain ⟨h1,h2⟩:=Yj.1 hn;rw [List.eraseIdx_cons_succ,X8,X8,wQ h2 h x];have ha:a∈l:=Yd h;constructor
  ·rintro (rfl|⟨h3,h4⟩)
   ·exact ⟨.inl J,fun e=>h1 (e▸ha)⟩
   exact ⟨.inr h3,h4⟩
  rintro ⟨rfl|h3,h4⟩
  ·exact .inl J
  exact .inr ⟨h3,h4⟩
theorem Ho [DecidableEq α]{L:List (α×β)}(h:(L.map (·.1)).Nodup)(a:α):(∀x,x∈(yp L a).map (·.1)↔x∈L.map (·.1)/\x≠a)/\((yp L a).map (·.1)).Nodup/\(yp L a).length<=L.length:=by
 unfold yp;rcases K8 a L with ⟨i,c,h1,h2⟩|⟨h1,h2⟩
 ·rw [h1]
  have h3:(L.map (·.1))[i]? =some a:=by rw [XP,h2];rfl
  show (∀x,x∈(L.eraseIdx i).map (·.1)↔_)/\((L.eraseIdx i).map (·.1)).Nodup/\(L.eraseIdx i).length<=_;rw [<-ts];exact ⟨wQ h h3,h.sublist (List.eraseIdx_sublist _ _),(List.eraseIdx_sublist _ _).length_le⟩
 rw [h1];exact ⟨fun x=>⟨fun hx=>⟨hx,fun e=>h2 (e▸hx)⟩,fun hx=>hx.1⟩,h,YB _⟩
theorem oL (xs:List α)(i:Nat):aq xs (i:Int)=xs[i]? :=by
 unfold aq;rw [if_neg I];simp
theorem D1 {ρ:Type}{b:Prop}[Decidable b]{m:Option ρ}(h:b):aL b m=m:=if_pos h
def bK (v:WV):Bool:=decide (v.Za=7)||decide (v.Za=9)
def mR (k:Int)(i:Nat):Bool:=!decide (k=8)&&(!decide (k=10)||decide ((i:Int).tmod 2=0))
def pick (f:Nat->WV->Bool):Nat->List WV->List Int
 |_,[]=> []
 |i,v::l=>(bif f i v then [v.N] else [])++pick f (i+1) l
theorem pG (f:Nat->WV->Bool)(i:Nat)(v:WV)(l:List WV):pick f i (v::l)=(bif f i v then [v.N] else [])++pick f (i+1) l:=rfl
theorem Bt (f:Nat->WV->Bool): ∀(i:Nat) (l:List WV),(pick f i l).length<=l.length
 |_,[]=>YB _
 |i,v::l=>by
  have:=Bt f (i+1) l;unfold pick;cases f i v<;>simp<;>omega
theorem GK: ∀(i:Nat) (l:List WV),pick (fun _ _=>false) i l=[]
 |_,[]=>rfl
 |i,v::l=>by unfold pick;simp [GK (i+1) l]
theorem DT (N:Nat)(v:WV):tc N v=some (bK v):=by
 unfold tc bK;cases decide (v.Za=7)<;>rfl
theorem Ba (N:Nat)(v:WV):yX N v=some (bK v):=by
 unfold yX bK;cases decide (v.Za=7)<;>rfl
theorem Ht (N:Nat)(a b:Bool)(x:WV)(p:List Int)(h:p.length<=5000):cN (fun x st=>fF N a x st) (b,x) (none,p)=some (true,(none,p++(bif (b==a)&&bK x then [x.N] else []))):=by
 unfold cN fF;simp only [DT,YJ];cases b==a
 ·simp
 cases bK x
 ·simp
 have:cF (p.length+ [x.N].length):=by unfold cF;simp only [XW,XZ];omega
 simp only [cond_true,YJ,Bool.and_self];rw [D1 this];rfl
theorem MG (N:Nat)(a:Bool)(c:WI)(hc:c.Zb.length<=2900)(K:Nat)(hK:K<=1000): ∀(m i:Nat) (p:List Int),c.Zb.length<m+i->i<=c.Zb.length->p.length<=K+i->mx N (cN (fun x st=>fF N a x st)) c m (i:Int) (none,p)=some (none,p++pick (fun i v=>(mR c.Za i==a)&&bK v) i (c.Zb.drop i))
 |0,i,p,h,h2,_=>by omega
 | m+1,i,p,h,h2,h3=>by
  rw [mx.eq_2];by_cases hi:i<c.Zb.length
  ·rw [show (decide ((i:Int)<(c.Zb.length:Int)))=true from WY I,oL,XM hi,Xv hi];simp only [cond_true,YJ]
   have hs:(bif !decide (c.Za=8) then ((bif !decide (c.Za=10) then (some true) else (some (decide ((i:Int).tmod 2=0)))).bind fun a6=>some a6) else (some false))=some (mR c.Za i):=by
    unfold mR;cases decide (c.Za=8)<;>cases decide (c.Za=10)<;>rfl
   rw [hs];simp only [YJ];rw [Ht N a _ _ _ I];rw [YJ]
   dsimp only
   rw [Bool.not_true,cond_false];rw [D1 (by unfold in64;omega)]
   have hlen:(p++(bif (mR c.Za i==a)&&bK c.Zb[i] then [c.Zb[i].N] else [])).length<=K+(i+1):=by
    cases (mR c.Za i==a)&&bK c.Zb[i]<;>simp<;>omega
   have:=MG N a c hc K hK m (i+1) _ I hi hlen;simp only [Xl,Xj] at this;rw [this];rw [pG,W2]
  rw [show (decide ((i:Int)<(c.Zb.length:Int)))=false from WZ I,Xw I];simp [pick]
theorem Qa (N:Nat)(hN:6500<N)(a:Bool)(c:WI)(hS:c.Zc.length<=1000)(hc:c.Zb.length<=2900): ∀(m i:Nat) (p:List Int),c.Zc.length<m+i->i<=c.Zc.length->p.length<=i->lz N (cN (fun x st=>fF N a x st)) c m (i:Int) (none,p)=some (none,(p++pick (fun _ v=>(true==a)&&bK v) i (c.Zc.drop i))++pick (fun i v=>(mR c.Za i==a)&&bK v) 0 c.Zb)
 |0,i,p,h,h2,_=>by omega
 | m+1,i,p,h,h2,h3=>by
  rw [lz.eq_2];by_cases hi:i<c.Zc.length
  ·rw [show (decide ((i:Int)<(c.Zc.length:Int)))=true from WY I,oL,XM hi,Xv hi];simp only [cond_true,YJ];rw [Ht N a _ _ _ I];rw [YJ]
   dsimp only
   rw [Bool.not_true,cond_false];rw [D1 (by unfold in64;omega)]
   have hlen:(p++(bif (true==a)&&bK c.Zc[i] then [c.Zc[i].N] else [])).length<=(i+1):=by
    cases (true==a)&&bK c.Zc[i]<;>simp<;>omega
   have:=Qa N hN a c hS hc m (i+1) _ I hi hlen;simp only [Xl,Xj] at this;rw [this];rw [pG,W2 p]
  rw [show (decide ((i:Int)<(c.Zc.length:Int)))=false from WZ I,Xw I];simp only [cond_false,ug];have:=MG N a c hc p.length I N 0 p I I I;simp only [Int.natCast_zero,Xj] at this;rw [this];simp [pick]
theorem yD (N:Nat)(hN:6500<N)(a:Bool)(c:WI)(hS:c.Zc.length<=1000)(hc:c.Zb.length<=2900):lC N c a=some (pick (fun _ v=>(true==a)&&bK v) 0 c.Zc++pick (fun i v=>(mR c.Za i==a)&&bK v) 0 c.Zb):=by
 unfold lC uh oP;have:=Qa N hN a c hS hc N 0 [] I I (by simp);simp only [Int.natCast_zero,Xj] at this;rw [YJ,this,YJ];show some _=some _;simp
def oD (k:Int)(i:Nat):Bool:=decide (k=8)||(decide (k=10)&&(decide (0<(i:Int))&&decide ((((i:Int) - 1).tmod 4).tmod 2=0)))
theorem MP (N:Nat)(k:Int)(i:Nat)(hi:i<=5000):Aq N k (i:Int)=some (oD k i):=by
 unfold Aq oD;by_cases h1:k=8
 ·simp [h1]
 by_cases h2:k=10
 ·by_cases h3:(0:Int)<i
  ·subst h2;simp only [h3,decide_true,ct,bs,r64 (a:=(i:Int) - 1) I I,show decide ((10:Int)=8)=false from rfl,cf,Bool.false_or,Xi]
  subst h2;simp only [h3,decide_true,decide_false,ct,bs,show decide ((10:Int)=8)=false from rfl,cf,Bool.false_or,Xi,Xg]
 simp [h1,h2]
theorem EG (N:Nat)(hN:6500<N)(c:WI)(hS:c.Zc.length<=1000)(hc:c.Zb.length<=2900):uH N c=some (pick (fun _ v=>bK v) 0 c.Zc++pick (fun i v=> !oD c.Za i&&bK v) 0 c.Zb):=by
 apply Sat.eq;unfold uH;refine jv (fun m i s=>nK N c m s (i:Int)) c.Zc.length (fun i s=>s++pick (fun _ v=>bK v) i (c.Zc.drop i)=pick (fun _ v=>bK v) 0 c.Zc/\s.length<=i) _ ?_ ?_ N 0 [] I I ⟨by simp,by simp⟩
 ·rintro m i s hi ⟨h1,h2⟩ k;show Sat (nK N c (m+1) s i) _;rw [Xv hi,pG] at h1;rw [nK.eq_2,fN I,cond_true,aK hi,bs,Ba,bs];simp only [bs];cases hh:bK c.Zc[i]
  all_goals
   simp only [hh,ct,cf,bs,Y4] at h1⊢
   first
   |(unfold rC
     rw [r64 I I]
     exact k s ⟨h1,by omega⟩)
   |(rw [rF (by simp;omega)]
     unfold rC;rw [r64 I I]
     exact k _ ⟨by rw [W2];exact h1,by simp;omega⟩)
 rintro m s ⟨h1,h2⟩;show Sat (nK N c (m+1) s _) _;rw [List.drop_length] at h1
 have h1:s=pick (fun _ v=>bK v) 0 c.Zc:=by rw [<-h1];simp [pick]
 rw [nK.eq_2,fC I,cond_false, <-h1];unfold Bp;clear h1;refine jv (fun m i s=>mE N c m s (i:Int)) c.Zb.length (fun i t=>t++pick (fun i v=> !oD c.Za i&&bK v) i (c.Zb.drop i)=s++pick (fun i v=> !oD c.Za i&&bK v) 0 c.Zb/\t.length<=1000+i) _ ?_ ?_ N 0 s I I ⟨by simp,by omega⟩
 ·rintro m i s hi ⟨h1,h2⟩ k;show Sat (mE N c (m+1) s i) _;rw [Xv hi,pG] at h1;rw [mE.eq_2,fN I,cond_true,aK hi,bs,Ba,bs,MP _ _ _ I];simp only [bs];cases hh:bK c.Zb[i]<;>cases hw:oD c.Za i
  all_goals
   simp only [hh,hw,Bool.and_true,Xf,nt,nf,ct,cf,bs,Y4] at h1⊢
   first
   |(unfold rB
     rw [r64 I I]
     exact k s ⟨h1,by omega⟩)
   |(rw [rF (by simp;omega)]
     unfold rB;rw [r64 I I]
     exact k _ ⟨by rw [W2];exact h1,by simp;omega⟩)
 rintro m s ⟨h1,h2⟩;show Sat (mE N c (m+1) s _) _;rw [List.drop_length] at h1;rw [mE.eq_2,fC I,cond_false];exact ac (by rw [<-h1];simp [pick])
theorem Dl (k:Int)(i:Nat):mR k i=!oD k i:=by
 unfold mR oD;by_cases h8:k=8
 ·subst h8;rfl
 by_cases h10:k=10
 ·subst h10;have e0:(i:Int).tmod 2=(i:Int)%2:=Xn I;by_cases hi:(0:Int)<i
  ·have e1:((i:Int) - 1).tmod 4=((i:Int) - 1)%4:=Xn I;have e2:(((i:Int) - 1)%4).tmod 2=(((i:Int) - 1)%4)%2:=Xn I;rw [e0,e1,e2];by_cases h:(i:Int)%2=0
   ·have h2: ¬(((i:Int) - 1)%4)%2=0:=by omega
    rw [WY h,WZ h2,WY hi];rfl
   have h2:(((i:Int) - 1)%4)%2=0:=by omega
   rw [WZ h,WY h2,WY hi];rfl
  have:i=0:=by omega
  subst this;rfl
 simp [h8,h10]
def gr (c:WI):List Int:=pick (fun _ v=>bK v) 0 c.Zc++pick (fun i v=> !oD c.Za i&&bK v) 0 c.Zb
theorem Az (N:Nat)(hN:6500<N)(c:WI)(hS:c.Zc.length<=1000)(hc:c.Zb.length<=2900):nQ N c=some (gr c):=by
 unfold nQ gr;rw [yD N hN true c hS hc,bs]
 have e1:(fun (_:Nat) (v:WV)=>(true==true)&&bK v)=fun _ v=>bK v:=by funext i v;rfl
 have e2:(fun (i:Nat) (v:WV)=>(mR c.Za i==true)&&bK v)=fun i v=> !oD c.Za i&&bK v:=by funext i v;rw [Dl];cases oD c.Za i<;>rfl
 rw [e1,e2]
theorem NE (N:Nat)(hN:6500<N)(c:WI)(hS:c.Zc.length<=1000)(hc:c.Zb.length<=2900):uH N c=some (gr c):=EG N hN c hS hc
theorem t8 (c:WI):(gr c).length<=c.Zc.length+c.Zb.length:=by
 unfold gr;have h1:=Bt (fun _ v=>bK v) 0 c.Zc;have h2:=Bt (fun i v=> !oD c.Za i&&bK v) 0 c.Zb;rw [YX];omega
theorem Br {f:Nat->WV->Bool}: ∀{i:Nat} {l:List WV},x∈pick f i l-> ∃v∈l,v.N=x
 |_,[],h=>by cases h
 | i,v::l,h=>by
  rw [pG,X7] at h;rcases h with h|h
  ·cases hf:f i v
   ·rw [hf] at h;cases h
   rw [hf] at h;exact ⟨v,by simp,(Yh.1 h).symm⟩
  obtain ⟨w,h1,h2⟩:=Br h;exact ⟨w,by simp [h1],h2⟩
theorem Fn (h:x∈gr c): ∃v∈c.Zc++c.Zb,v.N=x:=by
 unfold gr at h;rcases X7.1 h with h|h
 ·obtain ⟨v,h1,h2⟩:=Br h;exact ⟨v,by simp [h1],h2⟩
 obtain ⟨v,h1,h2⟩:=Br h;exact ⟨v,by simp [h1],h2⟩
def Gy:WI:=⟨0,0,0,0,[],[]⟩
def kF (m:WK)(a:Int):Option WI:=if a<1 then none else if a%2=1 then m.Zh[((a - 1) / 2).toNat]? else m.Zj[((a - 2) / 2).toNat]?
def aZ (m:WK)(a:Int):Bool:=(kF m a).isSome
def cn (m:WK)(a:Int):WI:=(kF m a).getD Gy
structure Small (m:WK) (roots:List WV):Prop where
 young:m.Zh.length<=600
 old:m.Zj.length<=600
 roots:roots.length<=600
 cells: ∀c∈m.Zh++m.Zj,c.Zc.length<=600/\c.Zb.length<=2900
theorem wJ (h:kF m a=some c):c∈m.Zh++m.Zj:=by
 unfold kF at h;split at h
 ·cases h
 split at h
 ·exact W3 _ (Yd h)
 exact W4 _ (Yd h)
theorem Small.at_ {roots:List WV}(h:Small m roots)(a:Int):(cn m a).Zc.length<=600/\(cn m a).Zb.length<=2900:=by
 unfold cn
 cases hc:kF m a with
 |none=>exact ⟨by simp [Gy],by simp [Gy]⟩
 |some c=>exact h.cells c (wJ hc)
theorem vN (h:aZ m a=true):0<a:=by
 unfold aZ kF at h;split at h
 ·cases h
 omega
theorem BQ {roots:List WV}(hs:Small m roots)(h:aZ m a=true):a<=1200:=by
 have h1:=hs.young;have h2:=hs.old;unfold aZ kF at h;split at h
 ·cases h
 split at h
 ·have:=(XO.1 (Option.isSome_iff_exists.1 h).choose_spec).1;omega
 have:=(XO.1 (Option.isSome_iff_exists.1 h).choose_spec).1;omega
theorem Dk (h:0<=a):a.tdiv 2=a / 2:=Xm h
theorem uv (h:0<=a):a.tmod 2=a%2:=Xn h
theorem zf (l:List α)(i:Nat):(l[i]?).isSome=decide ((i:Int)<(l.length:Int)):=by
 by_cases h:i<l.length
 ·rw [XM h,WY I];rfl
 rw [XN I,WZ I];rfl
theorem wL (m:WK)(a:Int):(a<1/\kF m a=none)\/(∃k:Nat,a=2*(k:Int)+1/\kF m a=m.Zh[k]?)\/(∃k:Nat,a=2*(k:Int)+2/\kF m a=m.Zj[k]?):=by
 by_cases h:a<1
 ·exact .inl ⟨h,by unfold kF;rw [if_pos h]⟩
 by_cases h2:a%2=1
 ·refine .inr (.inl ⟨((a - 1) / 2).toNat,by omega,?_⟩);unfold kF;rw [if_neg h,if_pos h2]
 refine .inr (.inr ⟨((a - 2) / 2).toNat,by omega,?_⟩);unfold kF;rw [if_neg h,if_neg h2]
theorem MQ (h:in64 a): -4611686018427387904<=a.tdiv 2/\a.tdiv 2<=4611686018427387904:=by
 unfold in64 at h;by_cases h0:0<=a
 ·rw [Dk h0];omega
 have h1:(-a).tdiv 2= -(a.tdiv 2):=Int.neg_tdiv a 2;rw [Dk I] at h1;omega
theorem E0 (N:Nat)(m:WK)(a:Int)(h:in64 a):Sat (oG N m a) fun r=>r.2.2=aZ m a/\(aZ m a=true->aq r.1 r.2.1=kF m a):=by
 have hd:=MQ h;unfold oG;rw [r64 I I];unfold pZ aZ;rcases wL m a with ⟨h1,h2⟩|⟨k,h1,h2⟩|⟨k,h1,h2⟩
 ·rw [h2]
  refine aC (fun _=> ?_) fun _=> ?_
  ·rw [r64 I I,r64 I I,fC (a:=0) (b:=a) I,cf,bs];exact ac ⟨J,fun h=>by cases h⟩
  rw [fC (a:=0) (b:=a) I,cf,bs];exact ac ⟨J,fun h=>by cases h⟩
 ·subst h1;rw [h2,uv I,Dk I,jo I,cf,fN I,ct,bs,show (2*(k:Int)+1) / 2=k by omega];exact ac ⟨(zf _ _).symm,fun _=>oL _ _⟩
 subst h1;rw [h2,uv I,Dk I,sX I,ct,fN I,ct,bs,show (2*(k:Int)+2) / 2 - 1=k by omega];rw [r64 I I,r64 I I];exact ac ⟨(zf _ _).symm,fun _=>oL _ _⟩
theorem Fy (N:Nat)(m:WK)(a:Int)(h:in64 a):pC N m a=some (aZ m a):=by
 obtain ⟨r,h1,h2, -⟩:=E0 N m a h;unfold pC;rw [h1,bs,h2]
theorem pM (N:Nat)(c:WI)(h:c.Zc.length<=600/\c.Zb.length<=2900):fS N c=some c:=by
 unfold fS dz;rw [rF (by simp;omega),bs,rF (by simp;omega),bs];rfl
theorem Iz (N:Nat){roots:List WV}(hs:Small m roots)(a:Int)(h:in64 a):lU N m a=some (cn m a):=by
 obtain ⟨r,h1,h2,h3⟩:=E0 N m a h;unfold lU cn;rw [h1,bs,h2];unfold aZ at*
 cases hc:kF m a with
 |none=>rfl
 |some c=>
  have h4:=h3 (by rw [hc];rfl);rw [hc] at h4;have h5:=pM N c (hs.cells c (wJ hc));simp only [Option.isSome_some,nt,cf,h4,bs,h5];rfl
theorem Mc (N:Nat)(m:WK)(a:Int)(h:in64 a):yW N m a=some (aZ m a):=by
 unfold in64 at h;unfold yW aZ;rcases wL m a with ⟨h1,h2⟩|⟨k,h1,h2⟩|⟨k,h1,h2⟩
 ·rw [h2,fN h1];rfl
 ·subst h1;rw [h2,fC I,cf,uv I,sX I,ct,Dk I,show (2*(k:Int)+1 - 1) / 2=k by omega,zf];rw [cU (by unfold in64;omega),cU (by unfold in64;omega)]
 subst h1;rw [h2,fC I,cf,uv I,jo I,cf,Dk I,show (2*(k:Int)+2 - 2) / 2=k by omega,zf];rw [cU (by unfold in64;omega),cU (by unfold in64;omega)]
theorem P4 (N:Nat)(m:WK)(a:Int)(h:in64 a):Bn N m a=some (cn m a):=by
 have hh:=Mc N m a h;unfold in64 at h;unfold Bn cn;rw [hh,bs];unfold aZ;rcases wL m a with ⟨h1,h2⟩|⟨k,h1,h2⟩|⟨k,h1,h2⟩
 ·rw [h2];rfl
 ·cases hc:m.Zh[k]? with
  |none=>rw [h2,hc];rfl
  |some c=>
   rw [h2,hc];subst h1;simp only [Option.isSome_some,nt,cf];rw [uv I,sX I,ct,Dk I,show (2*(k:Int)+1 - 1) / 2=k by omega,oL,hc,bs];rw [cU (by unfold in64;omega),cU (by unfold in64;omega)];rfl
 cases hc:m.Zj[k]? with
 |none=>rw [h2,hc];rfl
 |some c=>
  rw [h2,hc];subst h1;simp only [Option.isSome_some,nt,cf];rw [uv I,jo I,cf,Dk I,show (2*(k:Int)+2 - 2) / 2=k by omega,oL,hc,bs];rw [cU (by unfold in64;omega),cU (by unfold in64;omega)];rfl
theorem NK (N:Nat)(k:Int):wI N k=lG N k:=by
 unfold wI lG kw;by_cases h1:k=1
 ·subst h1;rfl
 by_cases h2:k=2
 ·subst h2;rfl
 by_cases h3:k=3
 ·subst h3;rfl
 by_cases h6:k=6
 ·subst h6;rfl
 by_cases h8:k=8
 ·subst h8;rfl
 by_cases h9:k=9
 ·subst h9;rfl
 by_cases h10:k=10
 ·subst h10;rfl
 rw [jo h1,jo h2,jo h3,jo h6,jo h8,jo h9,jo h10];rfl
theorem Ox (N:Nat)(c:WI):ku N c=ko N c:=by
 unfold ku ko;rw [NK];rfl
theorem Tb (N:Nat)(v:WV):wH N v=dK N v:=by
 unfold wH dK r8;by_cases h5:v.Za=5
 ·rw [h5];rfl
 rw [jo h5];simp only [cf];by_cases hr:v.Za<0\/9<v.Za
 ·have h2:v.Za≠2:=by omega
  have h3:v.Za≠3:=by omega
  have h6:v.Za≠6:=by omega
  have h7:v.Za≠7:=by omega
  have h9:v.Za≠9:=by omega
  have e1:((bif decide (v.Za<0) then (some true) else (some (decide (9<v.Za)))):Option Bool)=some true:=by
   rcases hr with h|h
   ·rw [fN h];rfl
   rw [fN (a:=9) h];cases decide (v.Za<0)<;>rfl
  rw [e1,bs,ct,jo h2,jo h3,jo h6,jo h7,jo h9];simp only [cf]
  have e2:(((bif decide (v.N=0) then (some (decide (0<=v.Za))) else (some false)).bind fun a6=>(bif a6 then (some (decide (v.Za<=9))) else (some false)).bind fun a7=>some a7):Option Bool)=some false:=by
   cases decide (v.N=0)
   ·rfl
   rcases hr with h|h
   ·rw [Re (a:=0) (b:=v.Za) I];rfl
   rw [Re (a:=v.Za) (b:=9) I];cases decide (0<=v.Za)<;>rfl
  rw [e2];cases s:(v.S.toList==(⟨#[]⟩:ByteArray).toList)<;>rfl
 have e1:((bif decide (v.Za<0) then (some true) else (some (decide (9<v.Za)))):Option Bool)=some false:=by
  rw [fC (a:=v.Za) (b:=0) I,fC (a:=9) (b:=v.Za) I];rfl
 rw [e1,bs,cf];cases hs:(v.S.toList==(⟨#[]⟩:ByteArray).toList)
 ·rfl
 simp only [nt,cf];by_cases h2:v.Za=2
 ·rw [h2];rfl
 rw [jo h2];simp only [cf];by_cases h3:v.Za=3
 ·rw [h3];rfl
 rw [jo h3];simp only [cf];by_cases h6:v.Za=6
 ·rw [h6];rfl
 rw [jo h6];simp only [cf];by_cases h7:v.Za=7
 ·rw [h7];rfl
 rw [jo h7];simp only [cf];by_cases h9:v.Za=9
 ·rw [h9];rfl
 rw [jo h9,Rc (a:=0) I,Rc (a:=v.Za) I];cases decide (v.N=0)<;>rfl
theorem Jn (N:Nat)(v:WV): ∃b,dK N v=some b:=by
 unfold dK;cases decide (v.Za<0)<;>cases decide (9<v.Za)<;>cases decide (v.Za=5)<;>cases decide (v.N=0)<;>cases (v.S.toList==(⟨#[]⟩:ByteArray).toList)<;>cases decide (v.Za=2)<;>cases decide (v.Za=3)<;>cases decide ((-9007199254740992)<=v.N)<;>cases decide (v.Za=6)<;>cases decide (v.Za=7)<;>cases decide (v.Za=9)<;>exact ⟨_,rfl⟩
theorem Cc (N k:Nat)(hk:k=2\/k=4)(l:List WV)(hl:l.length<=2900): ∀(m i:Nat),l.length<m+i->i<=l.length->(l.length - i)%k=0-> ∃b,gT N (k:Int) l m (i:Int)=some b/\
  jU N (cN (fun x st=>bV N (k:Int) x st)) l (k:Int) m (i:Int) (none,())=some (bif b then (none,()) else (some .ret,()))
 |0,i,h,h2,_=>by omega
 | m + 1,i,h,h2,h3=>by
  by_cases hi:i<l.length
  ·have hik:i+k<=l.length:=by
    rcases hk with rfl|rfl<;>omega
   have hmin:(min (k:Int) (((l.drop (i:Int).toNat).take (l.length - (i:Int).toNat)).length:Int))=k:=by
    rw [YY,XX,Xo];omega
   have hto:((i:Int)+(k:Int)).toNat=i+k:=by omega
   have hx: ∀j,j<k->aq ((l.drop i).take k) (j:Int)=l[i+j]? :=fun j hj=>by
    rw [oL,XS,if_pos hj,XL]
   have a6:=hx 0 I;have a7:=hx 1 I;rw [XM I] at a6 a7;have c7:aq l (i:Int)=some l[i]:=aK hi
   have c8:aq l ((i:Int)+1)=some (l[i+1]'I):=by
    have:=aK (xs:=l) (i:=i+1) I;simpa using this
   obtain ⟨b,b0,b5⟩:=Cc N k hk l hl m (i+k) I hik (by rcases hk with rfl|rfl<;>omega);simp only [Xl] at b0 b5
   have fin: ∀b',(bif b' then some false else aL (in64 ((i:Int)+(k:Int))) (gT N (k:Int) l m ((i:Int)+(k:Int))))=some (bif b' then false else b):=fun b'=>by
    cases b'
    ·rw [cf,r64 I I,b0];rfl
    rfl
   have fin2: ∀b':Bool,((bif b' then (some (some Exit.ret,())) else (some (none,())):Option (Option Exit×Unit)).map fun r=>(r.1.isNone,r))=some (!b',(bif b' then some Exit.ret else none,())):=fun b'=>by cases b'<;>rfl
   have goal: ∀b',((some (!b',((bif b' then some Exit.ret else none:Option Exit),())):Option (Bool×(Option Exit×Unit))).bind fun a8=>bif !a8.1 then (some a8.2) else (aL (in64 ((i:Int)+(k:Int))) ((jU N (cN (fun x st=>bV N (k:Int) x st)) l (k:Int) m) ((i:Int)+(k:Int)) a8.2)))=some (bif (bif b' then false else b) then (none,()) else (some .ret,())):=fun b'=>by
    cases b'
    ·rw [bs];simp only [nf,nt,cf];rw [r64 I I];exact b5
    rfl
   have lift: ∀(x:List WV) (b':Bool),bV N (k:Int) x ()=(bif b' then (some (some Exit.ret,())) else (some (none,())))->cN (fun x st=>bV N (k:Int) x st) x (none,())=some (!b',(bif b' then some Exit.ret else none,())):=fun x b' hb=>by
    unfold cN;simp only [hb];exact fin2 b'
   have key: ∃b',((aq l (i:Int)).bind fun x8=>(bif !decide (x8.Za=7) then (some true) else (aL (in64 ((i:Int)+1)) ((aq l ((i:Int)+1)).bind fun c9=>some (decide (c9.Za=8))))).bind fun b9=>bif b9 then (some false) else ((bif decide ((k:Int)=4) then (aL (in64 ((i:Int)+2)) ((aq l ((i:Int)+2)).bind fun d0=>(dR N d0 7).bind fun d1=>(bif !d1 then (some true) else (aL (in64 ((i:Int)+3)) ((aq l ((i:Int)+3)).bind fun d2=>(ik N d2 0 9007199254740992).bind fun d3=>some (!d3)))).bind fun d4=>some d4)) else (some false)).bind fun d6=>bif d6 then (some false) else (aL (in64 ((i:Int)+(k:Int))) ((gT N (k:Int) l m) ((i:Int)+(k:Int))))))=some (bif b' then false else b)/\bV N (k:Int) ((l.drop i).take k) ()=(bif b' then (some (some Exit.ret,())) else (some (none,()))):=by
    unfold bV;simp only [Xj,Int.natCast_zero,Int.natCast_one] at a6 a7;rw [c7,bs,r64 (a:=(i:Int)+1) I I,c8,bs];have hk0':aq ((l.drop i).take k) 0=some l[i]:=a6;have hk1':aq ((l.drop i).take k) 1=some (l[i+1]'I):=a7;simp only [hk0',bs,hk1'];cases h7:(!decide (l[i].Za=7))
    ·simp only [cf,bs];cases h8:decide ((l[i+1]'I).Za=8)
     ·simp only [cf];rcases hk with rfl|rfl
      ·simp only [show decide (((2:Nat):Int)=4)=false from rfl,cf,bs];have f:=fin false;rw [cf] at f;refine ⟨false,?_,J⟩;exact f
      have b6:=hx 2 I;have b7:=hx 3 I;rw [XM I] at b6 b7;have hk2':aq ((l.drop i).take 4) 2=some (l[i+2]'I):=b6;have hk3':aq ((l.drop i).take 4) 3=some (l[i+3]'I):=b7
      have e0:aq l ((i:Int)+2)=some (l[i+2]'I):=by
       have:=aK (xs:=l) (i:=i+2) I;simpa using this
      have e3:aq l ((i:Int)+3)=some (l[i+3]'I):=by
       have:=aK (xs:=l) (i:=i+3) I;simpa using this
      simp only [show decide (((4:Nat):Int)=4)=true from rfl,ct];rw [r64 (a:=(i:Int)+2) I I,e0,bs,hk2',bs,r64 (a:=(i:Int)+3) I I,e3,bs,hk3']
      have en: ∀v,jf N v 7=dR N v 7:=fun v=>rfl
      have em: ∀v,jg N v 0 9007199254740992=ik N v 0 9007199254740992:=fun v=>rfl
      have hn: ∃b1,dR N (l[i+2]'I) 7=some b1:=by unfold dR;cases decide ((l[i+2]'I).Za=0)<;>exact ⟨_,rfl⟩
      have hm: ∃b1,ik N (l[i+3]'I) 0 9007199254740992=some b1:=by unfold ik;cases decide ((l[i+3]'I).Za=3)<;>cases decide (0<=(l[i+3]'I).N)<;>exact ⟨_,rfl⟩
      obtain ⟨b1,hn⟩:=hn;obtain ⟨b2,hm⟩:=hm;simp only [bs,en,em,hn,hm];cases b1
      ·simp only [nf,ct,bs];exact ⟨true,J,J⟩
      simp only [nt,cf,bs];exact ⟨!b2,fin (!b2),by cases b2<;>rfl⟩
     exact ⟨true,J,J⟩
    exact ⟨true,J,J⟩
   obtain ⟨b',e1,e2⟩:=key;refine ⟨bif b' then false else b,?_,?_⟩
   ·rw [gT.eq_2,fN I,ct];exact e1
   rw [jU.eq_2,fN I,ct,hmin,cU (show (0:Int)<=(i:Int)/\(i:Int).toNat<=l.length/\l.length<=l.length from ⟨by omega,by omega,YB _⟩),r64 (a:=(i:Int)+(k:Int)) I I,r64 (a:=(i:Int)+(k:Int)) I I];rw [cU (show (0:Int)<=(i:Int)/\(0:Int)<=(i:Int)+(k:Int)/\(i:Int).toNat<=((i:Int)+(k:Int)).toNat/\((i:Int)+(k:Int)).toNat<=l.length from ⟨by omega,by omega,by omega,by omega⟩),hto,Xo,show i+k - i=k by omega,lift _ b' e2];exact goal b'
  rw [gT.eq_2,jU.eq_2,fC I,cf,cf];exact ⟨true,J,J⟩
theorem ue (N:Nat)(hN:6500<N)(k:Nat)(hk:k=2\/k=4)(l:List WV)(hl:l.length<=2900): ∃b,dT N l (k:Int)=some b/\dg N l (k:Int)=some b/\(b=true->l.length%k=0):=by
 unfold dT dg
 have a6:(k:Int)≠0:=by rcases hk with rfl|rfl<;>decide
 rw [cU a6,cU a6]
 have ht:(l.length:Int).tmod (k:Int)=((l.length%k:Nat):Int):=by
  rw [Xn I];rfl
 rw [ht];by_cases h:l.length%k=0
 ·rw [sX I];obtain ⟨b,h1,h2⟩:=Cc N k hk l hl N 0 I I (by simpa using h)
  have e:lO N l (k:Int)=some ():=by
   unfold lO;rw [fC (by rcases hk with rfl|rfl<;>omega),cf]
  unfold tG;simp only [nt,cf,e,bs];have h1':gT N (k:Int) l N 0=some b:=h1;have h2':jU N (cN (fun x st=>bV N (k:Int) x st)) l (k:Int) N 0 (none,())=some (bif b then (none,()) else (some .ret,())):=h2;rw [h1',h2',bs];exact ⟨b,by cases b<;>rfl,rfl,fun _=>h⟩
 rw [jo I];exact ⟨false,J,J,fun h=>by cases h⟩
theorem Q4 (N:Nat)(hN:6500<N)(c:WI)(hc:c.Zb.length<=2900):lw N c.Za c.Zb=lZ N c:=by
 obtain ⟨b2,h2,h2', -⟩:=ue N hN 2 (.inl rfl) c.Zb hc;obtain ⟨b4,h4,h4', -⟩:=ue N hN 4 (.inr rfl) ((c.Zb.drop ((1:Int).toNat)).take (c.Zb.length - (1:Int).toNat)) (by rw [YY,XX];omega);have e2:dT N c.Zb 2=dg N c.Zb 2:=h2.trans h2'.symm;have e4:dT N ((c.Zb.drop ((1:Int).toNat)).take (c.Zb.length - (1:Int).toNat)) 4=dg N ((c.Zb.drop ((1:Int).toNat)).take (c.Zb.length - (1:Int).toNat)) 4:=h4.trans h4'.symm;unfold lw lZ na lF;rw [e2,e4];rfl
theorem Jo (N:Nat)(c:WI)(b:Bool)(v:WV): ∃y,dK N v=some y/\cN (fun x st=>ie N c x st) (b,v) (none,())=some (y,(bif y then none else some Exit.ret,())):=by
 obtain ⟨y,hy⟩:=Jn N v;refine ⟨y,hy,?_⟩;unfold cN ie;simp only [Tb,hy,bs];cases y<;>rfl
theorem EE (N:Nat)(c:WI)(hc:c.Zb.length<=2900): ∀(m i:Nat),c.Zb.length<m+i->i<=c.Zb.length-> ∃b,oJ N c m (i:Int)=(bif b then dh N c else some false)/\
  mx N (cN (fun x st=>ie N c x st)) c m (i:Int) (none,())=some (bif b then none else some Exit.ret,())
 |0,i,h,h2=>by omega
 | m+1,i,h,h2=>by
  rw [oJ.eq_2,mx.eq_2];by_cases hi:i<c.Zb.length
  ·rw [fN I,ct,ct,aK hi,bs,bs]
   have hs:(bif !decide (c.Za=8) then ((bif !decide (c.Za=10) then (some true) else (some (decide ((i:Int).tmod 2=0)))).bind fun a6=>some a6) else (some false))=some (mR c.Za i):=by
    unfold mR;cases decide (c.Za=8)<;>cases decide (c.Za=10)<;>rfl
   obtain ⟨y,h3,h4⟩:=Jo N c (mR c.Za i) c.Zb[i];rw [hs,bs,h3,h4,bs,bs];cases y
   ·simp only [nf,nt,ct,cf];exact ⟨false,cf.symm,by rw [cf]⟩
   obtain ⟨b,h5,h6⟩:=EE N c hc m (i+1) I hi;simp only [Xl,Xj] at h5 h6;simp only [nt,cf,ct];rw [r64 I I,r64 I I];exact ⟨b,h5,h6⟩
  rw [fC I,cf,cf];exact ⟨true,ct.symm,by rw [ct]⟩
theorem uw (N:Nat)(hN:6500<N)(c:WI)(hS:c.Zc.length<=1000)(hc:c.Zb.length<=2900): ∀(m i:Nat),c.Zc.length<m+i->i<=c.Zc.length-> ∃b,jb N c m (i:Int)=(bif b then dh N c else some false)/\
  lz N (cN (fun x st=>ie N c x st)) c m (i:Int) (none,())=some (bif b then none else some Exit.ret,())
 |0,i,h,h2=>by omega
 | m+1,i,h,h2=>by
  rw [jb.eq_2,lz.eq_2];by_cases hi:i<c.Zc.length
  ·rw [fN I,ct,ct,aK hi,bs,bs];obtain ⟨y,h3,h4⟩:=Jo N c true c.Zc[i];rw [h3,h4,bs,bs];cases y
   ·simp only [nf,nt,ct,cf];exact ⟨false,cf.symm,by rw [cf]⟩
   obtain ⟨b,h5,h6⟩:=uw N hN c hS hc m (i+1) I hi;simp only [Xl,Xj] at h5 h6;simp only [nt,cf,ct];rw [r64 I I,r64 I I];exact ⟨b,h5,h6⟩
  rw [fC I,cf,cf];exact EE N c hc N 0 I I
theorem AY (N:Nat)(hN:6500<N)(c:WI)(hS:c.Zc.length<=1000)(hc:c.Zb.length<=2900):gG N c=fP N c:=by
 unfold gG fP oP
 have hAge:((bif !decide (c.Zg=0) then (some (!decide (c.Zg=1))) else (some false)).bind fun a6=>some a6)=(some (decide (c.Zg<0)||decide (1<c.Zg)):Option Bool):=by
  by_cases h0:c.Zg=0
  ·rw [h0];rfl
  by_cases h1:c.Zg=1
  ·rw [h1];rfl
  rw [jo h0,jo h1];by_cases h2:c.Zg<0
  ·rw [fN h2];rfl
  rw [fN (a:=1) (b:=c.Zg) I,fC (a:=c.Zg) I];rfl
 obtain ⟨b,h1,h2⟩:=uw N hN c hS hc N 0 I I;have h1':jb N c N 0=(bif b then dh N c else some false):=h1;have h2':lz N (cN (fun x st=>ie N c x st)) c N 0 (none,())=some (bif b then none else some Exit.ret,()):=h2;have e:uh N c=some ():=rfl;rw [hAge,h1',h2',e]
 have tail:((some ()).bind fun (b6:Unit)=>(some ((bif b then none else some Exit.ret:Option Exit),())).bind fun a7=>qT a7.1 ((ku N c).bind fun a8=>(bif a8 then ((lw N c.Za c.Zb).bind fun b0=>some b0) else (some false)).bind fun b5=>some b5) (some false) (fun _=>none))=(bif b then dh N c else some false):=by
  cases b
  ·rfl
  rw [Ox,Q4 N hN c hc];rfl
 rw [tail];cases decide (c.Za<1)<;>cases decide (11<c.Za)<;>cases decide (c.Zi<0)<;>cases decide (c.Ze<0)<;>cases decide (63<c.Ze)<;>cases decide (c.Zg<0)<;>cases decide (1<c.Zg)<;>rfl
theorem OQ {m:Option Bool}{x:Bool}:m=some x->(m.bind fun b=>some b)=some x:=fun h=>by rw [h];rfl
theorem Km (N:Nat)(hN:6500<N)(c:WI)(hS:c.Zc.length<=1000)(hc:c.Zb.length<=2900)(h8:c.Za=8): ∃b,fP N c=some b/\(b=true->c.Zb.length%2=0):=by
 obtain ⟨b1,g1, -⟩:=uw N hN c hS hc N 0 I I;have g1':jb N c N 0=(bif b1 then dh N c else some false):=g1;obtain ⟨b2, -,h2,h3⟩:=ue N hN 2 (.inl rfl) c.Zb hc
 have hm:lZ N c=some b2:=by
  unfold lZ lF;rw [h8,fC I];show ((dg N c.Zb 2).bind fun a6=>some a6)=_;exact OQ h2
 have hs: ∃b3,ko N c=some b3:=by
  unfold ko;rw [h8];have:lG N 8=some true:=rfl;rw [this,bs,ct,bs,ct];by_cases hl:1<=(c.Zc.length:Int)
  ·rw [Rc hl,ct,bs,Rn (xs:=c.Zc) (i:=0) I I,bs];cases decide ((c.Zc.length:Int)<=1025)
   ·exact ⟨_,J⟩
   cases decide (c.Zc[(0:Int).toNat].Za=1)<;>exact ⟨_,rfl⟩
  rw [Re I];exact ⟨_,J⟩
 obtain ⟨b3,hs⟩:=hs
 have hj:dh N c=some (b3&&b2):=by
  unfold dh;rw [hs,hm];cases b3<;>rfl
 unfold fP;rw [g1',hj]
 have fin: ∃b,((bif b1 then some (b3&&b2) else some false):Option Bool)=some b/\(b=true->c.Zb.length%2=0):=by
  cases b1
  ·exact ⟨false,J,fun h=>by cases h⟩
  exact ⟨b3&&b2,J,fun h=>h3 (by cases b3<;>cases b2<;>first|rfl|cases h)⟩
 obtain ⟨b,e1,e2⟩:=fin;rw [e1];have ff: ∃b',(some false:Option Bool)=some b'/\(b'=true->c.Zb.length%2=0):=⟨false,rfl,fun h=>by cases h⟩
 cases decide (c.Za<1)<;>cases decide (11<c.Za)<;>cases decide (c.Zi<0)<;>cases decide (c.Ze<0)<;>cases decide (63<c.Ze)<;>cases decide (c.Zg<0)<;>cases decide (1<c.Zg)<;>first|exact ff|exact ⟨b,rfl,e2⟩
def ua (c:WI):Bool:=decide (c.Za=8)&&(fP N c).getD false
theorem KX (N:Nat)(hN:6500<N)(c:WI)(hS:c.Zc.length<=1000)(hc:c.Zb.length<=2900):ET N c=some (ua N c)/\vj N c=some (ua N c)/\(ua N c=true->c.Zb.length%2=0):=by
 unfold ET vj ua;rw [AY N hN c hS hc];by_cases h8:c.Za=8
 ·obtain ⟨b,h1,h2⟩:=Km N hN c hS hc h8;rw [h1,h8];exact ⟨J,J,h2⟩
 rw [jo h8];exact ⟨J,J,fun h=>by cases h⟩
abbrev IG {ρ:Type}(m:Option ρ):Prop:=Sat m fun _=>True
theorem bi {ρ:Type}(x:ρ):IG (some x):=ac trivial
theorem mQ {ρ:Type}{b:Bool}{x y:Option ρ}(hx:b=true->IG x)(hy:b=false->IG y):IG (bif b then x else y):=dM hx hy
theorem Bz (N:Nat)(v:WV)(a b:Int):IG (ik N v a b):=by
 unfold ik
 refine Sat.bind (P:=fun _=>True) (mQ (fun _=>bi _) fun _=>bi _) fun x _=>Sat.bind (P:=fun _=>True) (mQ (fun _=>bi _) fun _=>bi _) fun y _=>bi _
theorem ya (N:Nat)(v:WV)(a:Int):IG (dR N v a):=by
 unfold dR
 exact Sat.bind (P:=fun _=>True) (mQ (fun _=>bi _) fun _=>bi _) fun x _=>bi _
theorem yK {c:Bool}{m:Option Bool}(h:c=true->IG m):IG (bif c then m else some false):=mQ h fun _=>bi _
theorem xu {l:List WV}{f:WV->Option Bool}(hi:i<l.length)(h:∀v,IG (f v)):IG ((aq l (i:Int)).bind f):=by
 rw [aK hi,bs];exact h _
theorem fj {m:Option Bool}{f:Bool->Option Bool}(h:IG m)(k:∀b,IG (f b)):IG (m.bind f):=Sat.bind h fun b _=>k b
theorem tk {m:Option Bool}{p:Prop}{f:Bool->Option Bool}(h:Sat m fun b=>b=true->p)(k:∀b,(b=true->p)->IG (f b)):IG (m.bind f):=Sat.bind h k
theorem MW (N:Nat)(c:WI):IG (ko N c):=by
 unfold ko
 have hp:IG (lG N c.Za):=by
  unfold lG
  iterate 6 refine fj (mQ (fun _=>bi _) fun _=>bi _) fun _=> ?_
  exact bi _
 refine fj hp fun y=>fj (mQ (fun _=>bi _) fun _=>fj (mQ (fun _=>bi _) fun _=>bi _) fun _=>bi _) fun b=> ?_
 refine mQ (fun _=> ?_) fun _=> ?_
 ·refine tk (p:=0<c.Zc.length) (aC (fun h=>ac fun _=>by omega) fun _=>ac fun h=>by cases h) fun b hb=>fj (yK fun h=> ?_) fun _=>bi _
  have h0:=hb h
  refine xu (i:=0) h0 fun v=>fj (mQ (fun _=>bi _) fun _=>xu (i:=0) h0 fun _=>bi _) fun _=>bi _
 refine mQ (fun _=>bi _) fun _=>fj (mQ (fun _=>bi _) fun _=>bi _) fun _=>mQ (fun _=>bi _) fun _=>dM (fun _=> ?_) fun _=>bi _
 refine tk (p:=1<c.Zc.length) (aC (fun h=> ?_) fun _=>ac fun h=>by cases h) fun b hb=>fj (yK fun h=> ?_) fun _=>bi _
 ·rw [show ((0:Int))=((0:Nat):Int) from rfl,aK I,bs];obtain ⟨x,hx, -⟩:=ya N c.Zc[0] 7
  rw [hx,bs];exact ac fun _=>by omega
 refine xu (i:=1) (hb h) fun v=>fj (ya N v 7) fun _=>bi _
theorem Lq {l:List WV}{m:WV->Option Bool}(hi:i<l.length)(h:∀v,IG (m v)){p:Prop}(hp:p):Sat ((aq l (i:Int)).bind fun x=>(m x).bind fun y=>some y) fun b=>b=true->p:=by
 rw [aK hi,bs];obtain ⟨x,hx, -⟩:=h l[i]
 rw [hx,bs];exact ac fun _=>hp
def AN (c:WI):Prop:=(c.Za=8->c.Zb.length%2=0)/\(c.Za=10->1<=c.Zb.length/\(c.Zb.length - 1)%4=0)
theorem O3 (N:Nat)(hN:6500<N)(c:WI)(hc:c.Zb.length<=2900):Sat (lZ N c) fun b=>b=true->AN c:=by
 have j6: ∀p,(p=true->c.Za=1\/c.Za=5)->Sat (lF N c p) fun b=>b=true->AN c:=by
  intro p hp
  have other: ∀{m:Option Bool},c.Za≠8->c.Za≠10->IG m->Sat m fun b=>b=true->AN c:=fun h8 h10 h=>h.mono fun _ _ _=>⟨fun e=>absurd e h8,fun e=>absurd e h10⟩
  unfold lF
  refine dM (fun h=>other (by rcases hp h with e|e<;>omega) (by rcases hp h with e|e<;>omega) (bi _)) fun _=> ?_
  refine aC (fun hk=>other I I ?_) fun _=> ?_
  ·refine tk (p:=1<c.Zb.length) (aC (fun h=>Lq (i:=0) I (fun v=>Bz N v _ _) I) fun _=>ac fun h=>by cases h) fun b hb=>fj (yK fun h=>xu (i:=1) (hb h) fun v=>fj (ya N v 9) fun _=>bi _) fun _=>bi _
  refine aC (fun hk=>other I I ?_) fun _=> ?_
  ·refine tk (p:=0<c.Zb.length) (aC (fun h=>ac fun _=>by omega) fun _=>ac fun h=>by cases h) fun b hb=>fj (yK fun h=>xu (i:=0) (hb h) fun v=>fj (ya N v 9) fun _=>bi _) fun _=>bi _
  refine aC (fun hk=>other I I ?_) fun _=> ?_
  ·refine tk (p:=1<c.Zb.length) (aC (fun h=>Lq (i:=0) I (fun v=>Bz N v _ _) I) fun _=>ac fun h=>by cases h) fun b hb=>fj (yK fun h=>xu (i:=1) (hb h) fun v=>fj (ya N v 9) fun _=>bi _) fun _=>bi _
  refine aC (fun hk=>other I I ?_) fun _=> ?_
  ·refine tk (p:=3<c.Zb.length) (aC (fun h=>Lq (i:=2) I (fun v=>Bz N v _ _) I) fun _=>ac fun h=>by cases h) fun b hb=>fj (yK fun h=>xu (i:=3) (hb h) fun v=>fj (Bz N v _ _) fun _=>bi _) fun _=>bi _
  refine aC (fun hk=> ?_) fun a7=> ?_
  ·obtain ⟨b, -,h2,h3⟩:=ue N hN 2 (.inl rfl) c.Zb hc;have h2':dg N c.Zb 2=some b:=h2;rw [h2',bs]
   exact ac fun hb=>⟨fun _=>h3 hb,fun e=>absurd e I⟩
  refine aC (fun hk=> ?_) fun a6=> ?_
  ·refine Sat.bind (P:=fun b=>b=true->1<=c.Zb.length) (aC (fun h=> ?_) fun _=>ac fun h=>by cases h) fun b hb=> ?_
   ·rw [show ((0:Int))=((0:Nat):Int) from rfl,aK I,bs];exact ac fun _=>by omega
   refine Sat.bind (P:=fun b=>b=true->AN c) (dM (fun h=> ?_) fun _=>ac fun h=>by cases h) fun b' hb'=>ac hb'
   have h1:=hb h;rw [D1 ⟨by omega,by show (1:Int).toNat<=_;exact h1,YB _⟩]
   have hl:((c.Zb.drop ((1:Int).toNat)).take (c.Zb.length - (1:Int).toNat)).length=c.Zb.length - 1:=by
    rw [YY,XX];show min (c.Zb.length - 1) (c.Zb.length - 1)=_;omega
   obtain ⟨b2, -,h2,h3⟩:=ue N hN 4 (.inr rfl) ((c.Zb.drop ((1:Int).toNat)).take (c.Zb.length - (1:Int).toNat)) (by rw [hl];omega);have h2':dg N ((c.Zb.drop ((1:Int).toNat)).take (c.Zb.length - (1:Int).toNat)) 4=some b2:=h2;rw [h2',bs]
   exact ac fun a8=>⟨fun e=>absurd e I,fun _=>⟨h1,by have:=h3 a8;rw [hl] at this;exact this⟩⟩
  refine aC (fun hk=>other I I ?_) fun _=>other a7 a6 (bi _)
  refine fj ?_ fun _=>bi _
  exact mQ (fun h=>xu (i:=0) (by have:=YV h;omega) fun v=>fj (Bz N v _ _) fun _=>bi _) fun _=>bi _
 unfold lZ
 refine aC (fun _=>ac fun h=>by cases h) fun _=>aC (fun hk=>ac fun _=>⟨fun e=>absurd e I,fun e=>absurd e I⟩) fun _=>aC (fun hk=>j6 _ fun _=> .inl hk) fun _=>j6 _ fun h=> .inr (YV h)
theorem GJ (N:Nat)(hN:6500<N)(c:WI)(hS:c.Zc.length<=1000)(hc:c.Zb.length<=2900):Sat (fP N c) fun b=>b=true->AN c:=by
 obtain ⟨b1,g1, -⟩:=uw N hN c hS hc N 0 I I;have g1':jb N c N 0=(bif b1 then dh N c else some false):=g1
 have hj:Sat (dh N c) fun b=>b=true->AN c:=by
  unfold dh
  refine Sat.bind (MW N c) fun y _=> ?_
  refine Sat.bind (P:=fun b=>b=true->AN c) (dM (fun _=>Sat.bind (O3 N hN c hc) fun _ h=>ac h) fun _=>ac fun h=>by cases h) fun _ h=>ac h
 unfold fP;rw [g1']
 iterate 6 refine Sat.bind (P:=fun _=>True) (mQ (fun _=>bi _) fun _=>bi _) fun _ _=> ?_
 refine dM (fun _=>ac fun h=>by cases h) fun _=>dM (fun _=>hj) fun _=>ac fun h=>by cases h
theorem GY {ρ:Type}(L:Nat->Int->Option ρ)(l:List α)(p:α->Bool)(bad k:Option ρ)(step:∀m (i:Nat) (h:i<l.length),L (m+1) (i:Int)=bif p l[i] then L m ((i:Int)+1) else bad)(fin:∀m,L (m+1) (l.length:Int)=k)(N:Nat)(hN:l.length<N):L N 0=bif l.all p then k else bad:=by
 have key: ∀m i:Nat,l.length<m+i->i<=l.length->L m (i:Int)=bif (l.drop i).all p then k else bad:=by
  intro m
  induction m with
  |zero=>intro i h1 h2;omega
  | succ m ih=>
   intro i h1 h2;by_cases hi:i<l.length
   ·rw [step m i hi,Xv hi,List.all_cons];have h3:=ih (i+1) I hi;rw [show (((i+1:Nat)):Int)=(i:Int)+1 by omega] at h3;rw [h3];cases p l[i]<;>rfl
   have e:i=l.length:=by omega
   subst e;rw [fin,List.drop_length];rfl
 have:=key N 0 I I;simpa using this
def Qt {α β:Type}[DecidableEq α](a:α)(b:β):List (α×β)->List (α×β)
 | []=> [(a,b)]
 |p::l=>if p.1=a then (a,b)::l else p::Qt a b l
theorem Qu [DecidableEq α](L:List (α×β))(a:α)(b:β):yI L a b=Qt a b L:=by
 have key: ∀(L:List (α×β)) (j:Nat),(∃i c,fp a L j=some (i,c)/\j<=i/\L.set (i - j) (a,b)=Qt a b L)\/(fp a L j=none/\L++ [(a,b)]=Qt a b L):=by
  intro L
  induction L with
  |nil=>intro j;exact .inr ⟨J,J⟩
  | cons p l ih=>
   intro j;obtain ⟨x,y⟩:=p;by_cases e:a=x
   ·refine .inl ⟨j,y,by simp [fp,e],YB _,?_⟩;rw [YG];simp [Qt,e]
   have e': ¬x=a:=fun h=>e h.symm
   rcases ih (j+1) with ⟨i,c,h1,h2,h3⟩|⟨h1,h2⟩
   ·refine .inl ⟨i,c,by simp [fp,e,h1],by omega,?_⟩;rw [show i - j=(i - (j+1))+1 by omega,List.set_cons_succ,h3];simp [Qt,e']
   exact .inr ⟨by simp [fp,e,h1],by simp [Qt,e',h2]⟩
 unfold yI;rcases key L 0 with ⟨i,c,h1, -,h3⟩|⟨h1,h2⟩
 ·rw [h1];exact h3
 rw [h1];exact h2
theorem BG [DecidableEq α](p:α×β)(l:List (α×β))(x:α):lk (p::l) x=if p.1=x then some p.2 else lk l x:=by
 unfold lk;rw [List.find?_cons];by_cases e:p.1=x<;>simp [e]
theorem Pa [DecidableEq α](L:List (α×β))(a:α)(b:β)(x:α):lk (yI L a b) x=if a=x then some b else lk L x:=by
 rw [Qu]
 induction L with
 |nil=>rw [Qt,BG]
 | cons p l ih=>
  unfold Qt;by_cases e:p.1=a
  ·rw [if_pos e,BG,BG,e];by_cases e2:a=x<;>simp [e2]
  rw [if_neg e,BG,BG,ih];by_cases e2:p.1=x
  ·rw [if_pos e2,if_pos e2,if_neg (fun h=>e (by rw [e2,h]))]
  rw [if_neg e2,if_neg e2]
abbrev vZ:WV:=⟨0,0,⟨#[]⟩⟩
def rK (l:List WV)(i:Nat):WV:=l.getD i vZ
theorem mw {l:List WV}(h:i<l.length):aq l (i:Int)=some (rK l i):=by
 rw [aK h];unfold rK;simp [List.getD,h]
def ln (v:WV):Bool:=(dK 0 v).getD false
theorem Fg (N:Nat)(v:WV):dK N v=some (ln v):=by
 obtain ⟨b,hb⟩:=Jn 0 v;have e:dK N v=dK 0 v:=Eq.trans rfl rfl;unfold ln;rw [e,hb];rfl
def numB (v:WV)(a b:Int):Bool:=decide (v.Za=3)&&(decide (a<=v.N)&&decide (v.N<=b))
def noneB (v:WV)(k:Int):Bool:=decide (v.Za=0)||decide (v.Za=k)
theorem xZ (N:Nat)(v:WV)(a b:Int):ik N v a b=some (numB v a b):=by
 unfold ik numB;cases decide (v.Za=3)<;>cases decide (a<=v.N)<;>cases decide (v.N<=b)<;>rfl
theorem vH (N:Nat)(v:WV)(k:Int):dR N v k=some (noneB v k):=by
 unfold dR noneB;cases decide (v.Za=0)<;>cases decide (v.Za=k)<;>rfl
def EY (k:Int):Bool:=decide (k=1)||decide (k=2)||decide (k=3)||decide (k=6)||decide (k=8)||decide (k=9)||decide (k=10)
theorem Ky (N:Nat)(k:Int):lG N k=some (EY k):=by
 unfold lG EY;cases decide (k=1)<;>cases decide (k=2)<;>cases decide (k=3)<;>cases decide (k=6)<;>cases decide (k=8)<;>cases decide (k=9)<;>cases decide (k=10)<;>rfl
def oh (k sh fl:Int)(l:List WV):Bool:=
 bif EY k||(decide (k=7)&&decide (0<l.length)) then decide (1<=l.length)&&decide (l.length<=1025)&&(decide ((rK l 0).Za=1)||decide ((rK l 0).Za=7))
 else bif decide (k=7) then decide (sh=0) else bif !decide (sh=0)|| !decide (fl=0) then false else bif decide (k=5) then decide (l.length=2)&&noneB (rK l 0) 7&&noneB (rK l 1) 7 else decide (l.length=0)
theorem jz {p q:Prop}[Decidable p][Decidable q](h:p↔q):decide p=decide q:=by
 by_cases hp:p
 ·rw [WY hp,WY (h.1 hp)]
 rw [WZ hp,WZ fun hq=>hp (h.2 hq)]
theorem Kd (N:Nat)(c:WI):ko N c=some (oh c.Za c.Zi c.Ze c.Zc):=by
 unfold ko oh;rw [Ky,bs,jz (p:=(0:Int)<(c.Zc.length:Int)) (q:=0<c.Zc.length) I,jz (p:=(1:Int)<=(c.Zc.length:Int)) (q:=1<=c.Zc.length) I,jz (p:=(c.Zc.length:Int)<=1025) (q:=c.Zc.length<=1025) I,jz (p:=(c.Zc.length:Int)=2) (q:=c.Zc.length=2) I,jz (p:=(c.Zc.length:Int)=0) (q:=c.Zc.length=0) I]
 have hA: ∀b:Bool,((bif decide (1<=c.Zc.length) then some (decide (c.Zc.length<=1025)) else some false).bind fun b8=>(bif b8 then ((aq c.Zc 0).bind fun a6=>(bif decide (a6.Za=1) then (some true) else ((aq c.Zc 0).bind fun a7=>some (decide (a7.Za=7)))).bind fun a8=>some a8) else (some false)).bind fun b9=>some b9)=some (decide (1<=c.Zc.length)&&decide (c.Zc.length<=1025)&&(decide ((rK c.Zc 0).Za=1)||decide ((rK c.Zc 0).Za=7))):=fun _=>by
  by_cases h:1<=c.Zc.length
  ·have g:aq c.Zc 0=some (rK c.Zc 0):=mw (i:=0) I;rw [WY h,g];simp only [bs];cases decide (c.Zc.length<=1025)<;>cases decide ((rK c.Zc 0).Za=1)<;>cases decide ((rK c.Zc 0).Za=7)<;>rfl
  rw [WZ h];rfl
 have hB:((bif decide (c.Zc.length=2) then ((aq c.Zc 0).bind fun b0=>(dR N b0 7).bind fun b5=>some b5) else (some false)).bind fun b6=>(bif b6 then ((aq c.Zc 1).bind fun b7=>(dR N b7 7).bind fun c7=>some c7) else (some false)).bind fun c8=>some c8)=some (decide (c.Zc.length=2)&&noneB (rK c.Zc 0) 7&&noneB (rK c.Zc 1) 7):=by
  by_cases h:c.Zc.length=2
  ·have g:aq c.Zc 0=some (rK c.Zc 0):=mw (i:=0) I;have g1:aq c.Zc 1=some (rK c.Zc 1):=mw (i:=1) I;rw [WY h,g,g1];simp only [bs,vH];cases noneB (rK c.Zc 0) 7<;>cases noneB (rK c.Zc 1) 7<;>rfl
  rw [WZ h];rfl
 rw [hA true,hB];cases EY c.Za<;>cases decide (c.Za=7)<;>cases decide (0<c.Zc.length)<;>cases decide (c.Zi=0)<;>cases decide (c.Ze=0)<;>cases decide (c.Za=5)<;>rfl
def uf:List WV->Bool
 |k::v::r=>decide (k.Za=7)&& !decide (v.Za=8)&&uf r
 | [_]=>false
 | []=>true
def oM:List WV->Bool
 |t::h::k::s::r=>decide (t.Za=7)&& !decide (h.Za=8)&&(noneB k 7&&numB s 0 9007199254740992)&&oM r
 | []=>true
 |_=>false
theorem rt (k v:WV)(r:List WV):uf (k::v::r)=(decide (k.Za=7)&& !decide (v.Za=8)&&uf r):=Eq.trans rfl rfl
theorem rq (t h k s:WV)(r:List WV):oM (t::h::k::s::r)=(decide (t.Za=7)&& !decide (h.Za=8)&&(noneB k 7&&numB s 0 9007199254740992)&&oM r):=Eq.trans rfl rfl
theorem Hg: ∀{l:List WV},uf l=true->l.length%2=0
 | [],_=>rfl
 | [_],h=>by cases h
 |k::v::r,h=>by
  rw [rt] at h;rw [Y3] at h;have:=Hg h.2;simp only [XW];omega
theorem Hf: ∀{l:List WV},oM l=true->l.length%4=0
 | [],_=>rfl
 | [_],h=>by cases h
 | [_,_],h=>by cases h
 | [_,_,_],h=>by cases h
 |t::a::k::s::r,h=>by
  rw [rq] at h;rw [Y3] at h;have:=Hf h.2;simp only [XW];omega
theorem zm {l r:List WV}(h:l.drop i=v::r):aq l (i:Int)=some v/\l.drop (i+1)=r:=by
 have hl:i<l.length:=by
  rcases YE i l.length with h1|h1
  ·exact h1
  rw [Xw h1] at h;cases h
 rw [Xv hl] at h;obtain ⟨e1,e2⟩:=Xs h;exact ⟨by rw [aK hl,e1],e2⟩
theorem Hj (N:Nat)(l:List WV)(hl:l.length<=2900): ∀(m i:Nat),l.length<m+i->i<=l.length->(l.length - i)%2=0->gT N 2 l m (i:Int)=some (uf (l.drop i))
 |0,i,h,h2,_=>by omega
 | m+1,i,h,h2,h3=>by
  rw [gT.eq_2]
  match hd:l.drop i with
  | []=>
   have hi:l.length<=i:=by have:=congrArg List.length hd;rw [XX] at this;simp at this;omega
   rw [fC I,cf];rfl
  | [x]=>have:=congrArg List.length hd;rw [XX] at this;simp at this;omega
  |k::v::r=>
   have hlen:=congrArg List.length hd;rw [XX] at hlen;simp only [XW] at hlen;obtain ⟨g1,d1⟩:=zm hd;obtain ⟨g2,d2⟩:=zm d1;rw [show (((i+1:Nat)):Int)=(i:Int)+1 by omega] at g2;have ih:=Hj N l hl m (i+2) I I I;rw [show (((i+2:Nat)):Int)=(i:Int)+2 by omega,d2] at ih;rw [fN I,ct,g1,bs,r64 I I,g2,bs,WZ (p:=(2:Int)=4) (by decide),cf,bs,cf,r64 I I,ih];simp only [rt];cases decide (k.Za=7)<;>cases decide (v.Za=8)<;>rfl
theorem Hh (N:Nat)(l:List WV)(hl:l.length<=2900): ∀(m i:Nat),l.length<m+i->i<=l.length->(l.length - i)%4=0->gT N 4 l m (i:Int)=some (oM (l.drop i))
 |0,i,h,h2,_=>by omega
 | m+1,i,h,h2,h3=>by
  rw [gT.eq_2]
  match hd:l.drop i with
  | []=>
   have hi:l.length<=i:=by have:=congrArg List.length hd;rw [XX] at this;simp at this;omega
   rw [fC I,cf];rfl
  | [x]=>have:=congrArg List.length hd;rw [XX] at this;simp at this;omega
  | [x,y]=>have:=congrArg List.length hd;rw [XX] at this;simp at this;omega
  | [x,y,z]=>have:=congrArg List.length hd;rw [XX] at this;simp at this;omega
  |t::v::k::s::r=>
   have hlen:=congrArg List.length hd;rw [XX] at hlen;simp only [XW] at hlen;obtain ⟨g1,d1⟩:=zm hd;obtain ⟨g2,d2⟩:=zm d1;obtain ⟨g3,d3⟩:=zm d2;obtain ⟨g4,d4⟩:=zm d3;rw [show (((i+1:Nat)):Int)=(i:Int)+1 by omega] at g2;rw [show (((i+1+1:Nat)):Int)=(i:Int)+2 by omega] at g3;rw [show (((i+1+1+1:Nat)):Int)=(i:Int)+3 by omega] at g4;have ih:=Hh N l hl m (i+4) I I I;rw [show (((i+4:Nat)):Int)=(i:Int)+4 by omega,d4] at ih;rw [fN I,ct,g1,bs,r64 I I,g2,bs,WY (p:=(4:Int)=4) rfl,ct,r64 I I,g3,bs,vH,bs,r64 I I,g4,bs,xZ,bs,r64 I I,ih];simp only [rq];cases decide (t.Za=7)<;>cases decide (v.Za=8)<;>cases noneB k 7<;>cases numB s 0 9007199254740992<;>rfl
theorem PF (N:Nat)(hN:6500<N)(l:List WV)(hl:l.length<=2900):dg N l 2=some (uf l):=by
 unfold dg;rw [cU (by decide)]
 have e:(l.length:Int).tmod 2=((l.length%2:Nat):Int):=by rw [Xn I];omega
 rw [e];by_cases h:l.length%2=0
 ·rw [h,WY (p:=((0:Nat):Int)=0) rfl,nt,cf];exact Hj N l hl N 0 I I I
 rw [WZ I,nf,ct]
 cases hb:uf l with
 |false=>rfl
 |true=>exact absurd (Hg hb) h
theorem PE (N:Nat)(hN:6500<N)(l:List WV)(hl:l.length<=2900):dg N l 4=some (oM l):=by
 unfold dg;rw [cU (by decide)]
 have e:(l.length:Int).tmod 4=((l.length%4:Nat):Int):=by rw [Xn I];omega
 rw [e];by_cases h:l.length%4=0
 ·rw [h,WY (p:=((0:Nat):Int)=0) rfl,nt,cf];exact Hh N l hl N 0 I I I
 rw [WZ I,nf,ct]
 cases hb:oM l with
 |false=>rfl
 |true=>exact absurd (Hf hb) h
def rY (k:Int)(l:List WV):Bool:=
 bif decide (k=2) then decide (l.length<=4096)
 else bif decide (k=1)||decide (k=5) then decide (l.length=0)
 else bif decide (k=3) then decide (l.length=3)&&numB (rK l 0) 0 9007199254740992&&noneB (rK l 1) 9
 else bif decide (k=4) then decide (1<=l.length)&&decide (l.length<=4097)&&noneB (rK l 0) 9
 else bif decide (k=6) then decide (l.length=2)&&numB (rK l 0) 0 3&&noneB (rK l 1) 9
 else bif decide (k=7) then decide (4<=l.length)&&numB (rK l 2) 0 1&&numB (rK l 3) 0 9007199254740992
 else bif decide (k=8) then uf l
 else bif decide (k=10) then decide (1<=l.length)&&decide ((rK l 0).Za=7)&&oM (l.drop 1)
 else bif decide (k=9) then decide (2<=l.length)&&numB (rK l 0) 0 2
 else true
theorem Ny (N:Nat)(hN:6500<N)(c:WI)(hc:c.Zb.length<=2900):lZ N c=some (rY c.Za c.Zb):=by
 have h6: ∀p:Bool,p=(decide (c.Za=1)||decide (c.Za=5))->c.Za≠2->lF N c p=some (rY c.Za c.Zb):=by
  intro p hp h2;subst hp;unfold lF rY;rw [jo h2,cf];rcases Bool.eq_false_or_eq_true (decide (c.Za=1)||decide (c.Za=5)) with h15|h15
  ·rw [h15,ct,ct,jz (p:=(c.Zb.length:Int)=0) (q:=c.Zb.length=0) I]
  rw [h15,cf,cf];by_cases k3:c.Za=3
  ·rw [sX k3,ct,ct,jz (p:=(c.Zb.length:Int)=3) (q:=c.Zb.length=3) I];by_cases h:c.Zb.length=3
   ·have g0:aq c.Zb 0=some (rK c.Zb 0):=mw (i:=0) I;have g1:aq c.Zb 1=some (rK c.Zb 1):=mw (i:=1) I;rw [WY h,g0,g1];simp only [bs,xZ,vH];cases numB (rK c.Zb 0) 0 9007199254740992<;>cases noneB (rK c.Zb 1) 9<;>rfl
   rw [WZ h];rfl
  rw [jo k3,cf,cf];by_cases k4:c.Za=4
  ·rw [sX k4,ct,ct,jz (p:=(1:Int)<=(c.Zb.length:Int)) (q:=1<=c.Zb.length) I,jz (p:=(c.Zb.length:Int)<=4097) (q:=c.Zb.length<=4097) I];by_cases h:1<=c.Zb.length
   ·have g0:aq c.Zb 0=some (rK c.Zb 0):=mw (i:=0) I;rw [WY h,g0];simp only [bs,vH];cases decide (c.Zb.length<=4097)<;>cases noneB (rK c.Zb 0) 9<;>rfl
   rw [WZ h];rfl
  rw [jo k4,cf,cf];by_cases k6:c.Za=6
  ·rw [sX k6,ct,ct,jz (p:=(c.Zb.length:Int)=2) (q:=c.Zb.length=2) I];by_cases h:c.Zb.length=2
   ·have g0:aq c.Zb 0=some (rK c.Zb 0):=mw (i:=0) I;have g1:aq c.Zb 1=some (rK c.Zb 1):=mw (i:=1) I;rw [WY h,g0,g1];simp only [bs,xZ,vH];cases numB (rK c.Zb 0) 0 3<;>cases noneB (rK c.Zb 1) 9<;>rfl
   rw [WZ h];rfl
  rw [jo k6,cf,cf];by_cases k7:c.Za=7
  ·rw [sX k7,ct,ct,jz (p:=(4:Int)<=(c.Zb.length:Int)) (q:=4<=c.Zb.length) I];by_cases h:4<=c.Zb.length
   ·have g2:aq c.Zb 2=some (rK c.Zb 2):=mw (i:=2) I;have g3:aq c.Zb 3=some (rK c.Zb 3):=mw (i:=3) I;rw [WY h,g2,g3];simp only [bs,xZ];cases numB (rK c.Zb 2) 0 1<;>cases numB (rK c.Zb 3) 0 9007199254740992<;>rfl
   rw [WZ h];rfl
  rw [jo k7,cf,cf];by_cases k8:c.Za=8
  ·rw [sX k8,ct,ct,PF N hN _ hc,bs]
  rw [jo k8,cf,cf];by_cases a6:c.Za=10
  ·rw [sX a6,ct,ct,jz (p:=(1:Int)<=(c.Zb.length:Int)) (q:=1<=c.Zb.length) I];by_cases h:1<=c.Zb.length
   ·have g0:aq c.Zb 0=some (rK c.Zb 0):=mw (i:=0) I;have hd:((c.Zb.drop ((1:Int).toNat)).take (c.Zb.length - (1:Int).toNat))=c.Zb.drop 1:=Yr (by rw [XX];exact YB _);rw [WY h,g0,hd,cU ⟨by omega,by show 1<=_;omega,YB _⟩,PE N hN _ (by rw [XX];omega)];simp only [bs];cases decide ((rK c.Zb 0).Za=7)<;>cases oM (c.Zb.drop 1)<;>rfl
   rw [WZ h];rfl
  rw [jo a6,cf,cf];by_cases k9:c.Za=9
  ·rw [sX k9,ct,ct,jz (p:=(2:Int)<=(c.Zb.length:Int)) (q:=2<=c.Zb.length) I];by_cases h:2<=c.Zb.length
   ·have g0:aq c.Zb 0=some (rK c.Zb 0):=mw (i:=0) I;rw [WY h,g0];simp only [bs,xZ];cases numB (rK c.Zb 0) 0 2<;>rfl
   rw [WZ h];rfl
  rw [jo k9,cf,cf]
 unfold lZ;rw [fC I,cf];by_cases k2:c.Za=2
 ·rw [sX k2,ct];unfold rY;rw [sX k2,ct,jz (p:=(c.Zb.length:Int)<=4096) (q:=c.Zb.length<=4096) I]
 rw [jo k2,cf];by_cases k1:c.Za=1
 ·rw [sX k1,ct];exact h6 _ (by rw [sX k1];rfl) k2
 rw [jo k1,cf];exact h6 _ (by rw [jo k1];rfl) k2
def bN (c:WI):Bool:=
 (!decide (c.Za<1)&& !decide (11<c.Za)&& !decide (c.Zi<0)&& !decide (c.Ze<0)&& !decide (63<c.Ze)&& !decide (c.Zg<0)&& !decide (1<c.Zg))&&(c.Zc.all ln&&(c.Zb.all ln&&(oh c.Za c.Zi c.Ze c.Zc&&rY c.Za c.Zb)))
theorem Aj (N:Nat)(hN:6500<N)(c:WI)(hS:c.Zc.length<=1000)(hc:c.Zb.length<=2900):fP N c=some (bN c):=by
 have h19:dh N c=some (oh c.Za c.Zi c.Ze c.Zc&&rY c.Za c.Zb):=by
  unfold dh;rw [Kd,Ny N hN c hc,bs];cases oh c.Za c.Zi c.Ze c.Zc<;>rfl
 have h20:oJ N c N 0=some (c.Zb.all ln&&(oh c.Za c.Zi c.Ze c.Zc&&rY c.Za c.Zb)):=by
  rw [GY (fun k i=>oJ N c k i) c.Zb ln (some false) (some (oh c.Za c.Zi c.Ze c.Zc&&rY c.Za c.Zb)) (fun k i h=> ?_) (fun k=> ?_) N I]
  ·cases c.Zb.all ln<;>rfl
  ·rw [oJ.eq_2,fN I,ct,aK h,bs,Fg,bs,r64 I I];cases ln c.Zb[i]<;>rfl
  rw [oJ.eq_2,fC I,cf,h19]
 have h12:jb N c N 0=some (c.Zc.all ln&&(c.Zb.all ln&&(oh c.Za c.Zi c.Ze c.Zc&&rY c.Za c.Zb))):=by
  rw [GY (fun k i=>jb N c k i) c.Zc ln (some false) (some (c.Zb.all ln&&(oh c.Za c.Zi c.Ze c.Zc&&rY c.Za c.Zb))) (fun k i h=> ?_) (fun k=> ?_) N I]
  ·cases c.Zc.all ln<;>rfl
  ·rw [jb.eq_2,fN I,ct,aK h,bs,Fg,bs,r64 I I];cases ln c.Zc[i]<;>rfl
  rw [jb.eq_2,fC I,cf];unfold zS;exact h20
 unfold fP bN;rw [h12];cases decide (c.Za<1)<;>cases decide (11<c.Za)<;>cases decide (c.Zi<0)<;>cases decide (c.Ze<0)<;>cases decide (63<c.Ze)<;>cases decide (c.Zg<0)<;>cases decide (1<c.Zg)<;>rfl
theorem Fu (N:Nat)(x:Int)(l:List Int)(hl:l.length<=5000): ∀(m i:Nat),l.length<m+i->i<=l.length->Sat (mi N x l m (i:Int)) fun r=>decide (0<=r)=decide (x∈l.drop i)
 |0,i,h,h2=>by omega
 | m+1,i,h,h2=>by
  rw [mi.eq_2];by_cases hi:i<l.length
  ·rw [fN I,ct,aK hi,bs,Xv hi]
   refine aC (fun e=> ?_) fun e=> ?_
   ·exact ac (by rw [WY I,WY];rw [e];exact Ya ..)
   rw [r64 I I];have:=Fu N x l hl m (i+1) I hi;simp only [Xl,Xj] at this
   refine this.mono fun r hr=> ?_
   rw [hr];have:(x∈l[i]::l.drop (i+1))↔x∈l.drop (i+1):=⟨fun h=>(X8.1 h).resolve_left (fun e2=>e e2),X9 _⟩;rw [decide_eq_decide];exact this.symm
  rw [fC I,cf,Xw I];exact ac (by simp)
theorem z8 (N:Nat)(hN:6500<N)(l:List Int)(hl:l.length<=5000)(x:Int):kf N l x=some (decide (x∈l)):=by
 obtain ⟨r,h1,h2⟩:=Fu N x l hl N 0 I I;unfold kf tC;rw [show mi N x l N 0=some r from h1,bs,h2];rfl
theorem Vs (N:Nat)(hN:6500<N)(l:List Int)(hl:l.length<=5000)(x:Int):EU N x l=some (decide (x∈l)):=by
 apply Sat.eq;unfold EU
 have key: ∀(m i:Nat),l.length<m+i->i<=l.length->Sat (CH N x l m (i:Int)) (· =decide (x∈l.drop i)):=by
  intro m
  induction m with
  |zero=>intro i h h2;omega
  | succ m ih=>
   intro i h h2;rw [CH.eq_2];by_cases hi:i<l.length
   ·rw [fN I,ct,aK hi,bs,Xv hi]
    refine aC (fun e=> ?_) fun e=> ?_
    ·exact ac (by rw [WY];rw [e];exact Ya ..)
    rw [r64 I I];have:=ih (i+1) I hi;simp only [Xl,Xj] at this
    refine this.mono fun r hr=> ?_
    rw [hr];have:(x∈l[i]::l.drop (i+1))↔x∈l.drop (i+1):=⟨fun h=>(X8.1 h).resolve_left (fun e2=>e e2.symm),X9 _⟩;rw [decide_eq_decide];exact this.symm
   rw [fC I,cf,Xw I];exact ac (by simp)
 exact key N 0 I I
theorem Vr (N:Nat)(hN:6500<N)(l:List Int)(hl:l.length<=5000)(x:Int):ES N l x=some (decide (x∈l)):=by
 apply Sat.eq;unfold ES
 have key: ∀(m i:Nat),l.length<m+i->i<=l.length->Sat (CG N x l m (i:Int)) (· =decide (x∈l.drop i)):=by
  intro m
  induction m with
  |zero=>intro i h h2;omega
  | succ m ih=>
   intro i h h2;rw [CG.eq_2];by_cases hi:i<l.length
   ·rw [fN I,ct,aK hi,bs,Xv hi]
    refine aC (fun e=> ?_) fun e=> ?_
    ·exact ac (by rw [WY];rw [e];exact Ya ..)
    rw [r64 I I];have:=ih (i+1) I hi;simp only [Xl,Xj] at this
    refine this.mono fun r hr=> ?_
    rw [hr];have:(x∈l[i]::l.drop (i+1))↔x∈l.drop (i+1):=⟨fun h=>(X8.1 h).resolve_left (fun e2=>e e2.symm),X9 _⟩;rw [decide_eq_decide];exact this.symm
   rw [fC I,cf,Xw I];exact ac (by simp)
 exact key N 0 I I
def opens (p:Int->Bool):List WV->List Int
 |k::v::l=>(bif bK v&&p k.N then [v.N] else [])++opens p l
 |_=> []
theorem rd (p:Int->Bool)(k v:WV)(l:List WV):opens p (k::v::l)=(bif bK v&&p k.N then [v.N] else [])++opens p l:=rfl
theorem GP (p:Int->Bool): ∀l:List WV,(opens p l).length<=l.length
 | []=>YB _
 | [_]=>YI _
 |k::v::l=>by
  have:=GP p l;rw [rd,YX];cases bK v&&p k.N<;>simp<;>omega
theorem GO: ∀{l:List WV},x∈opens p l-> ∃v∈l,v.N=x
 | [],h=>by cases h
 | [_],h=>by cases h
 | k::v::l,h=>by
  rw [rd,X7] at h;rcases h with h|h
  ·cases hb:bK v&&p k.N
   ·rw [hb] at h;cases h
   rw [hb] at h;exact ⟨v,by simp,(Yh.1 h).symm⟩
  obtain ⟨w,h1,h2⟩:=GO h;exact ⟨w,by simp [h1],h2⟩
theorem Jg {q:Int->Bool}(h:∀x,p x=q x)(l:List WV):opens p l=opens q l:=by rw [show p=q from funext h]
theorem vL (v:WV):((bif decide (v.Za=7) then (some true) else (some (decide (v.Za=9)))):Option Bool)=some (bK v):=by unfold bK;cases decide (v.Za=7)<;>rfl
def iR (c:WI)(l:List Int):List Int:=bif ua N c then opens (fun x=>decide (x∈l)) c.Zb else []
theorem KF (N:Nat)(c:WI)(l:List Int):(iR N c l).length<=c.Zb.length:=by
 unfold iR;cases ua N c
 ·exact YI _
 exact GP _ _
theorem KE {N:Nat}(h:x∈iR N c l): ∃v∈c.Zc++c.Zb,v.N=x:=by
 unfold iR at h;cases hw:ua N c
 ·rw [hw] at h;cases h
 rw [hw] at h;obtain ⟨v,h1,h2⟩:=GO h;exact ⟨v,by simp [h1],h2⟩
theorem KD (N:Nat)(hN:6500<N)(l:List Int)(hl:l.length<=5000)(k v:WV)(s:List Int)(hs:s.length<=5000):cN (fun x st=>jr N l x st) (k,v) (none,s)=some (true,(none,s++(bif bK v&&decide (k.N∈l) then [v.N] else []))):=by
 unfold cN jr;simp only [vL,bs,z8 N hN l hl];cases bK v
 ·simp only [cf,bs,Xg,Xr];rfl
 simp only [ct,bs,Xi];cases decide (k.N∈l)
 ·simp only [cf,Xr];rfl
 simp only [ct];rw [rF (by simp;omega)];rfl
theorem Cb (N:Nat)(hN:6500<N)(l:List Int)(hl:l.length<=5000)(c:WI)(hc:c.Zb.length<=2900)(he:c.Zb.length%2=0): ∀(m i:Nat) (s:List Int),c.Zb.length<m+i->i<=c.Zb.length->i%2=0->s.length<=i->eI N (cN (fun x st=>jr N l x st)) c m (i:Int) (none,s)=some (none,s++opens (fun x=>decide (x∈l)) (c.Zb.drop i))
 |0,i,s,h,h2,_,_=>by omega
 | m+1,i,s,h,h2,h3,h4=>by
  rw [eI.eq_2,r64 (a:=(i:Int)+1) I I];by_cases hi:i<c.Zb.length
  ·have hi1:i+1<c.Zb.length:=by omega
   have a6:aq c.Zb ((i:Int)+1)=some c.Zb[i+1]:=by
    have:=aK hi1;simpa using this
   rw [fN I,ct,aK hi,bs,r64 (a:=(i:Int)+1) I I,a6,bs,KD N hN l hl _ _ s I,bs];simp only [nt,cf];rw [r64 I I]
   have hlen:(s++(bif bK c.Zb[i+1]&&decide (c.Zb[i].N∈l) then [c.Zb[i+1].N] else [])).length<=i+2:=by
    cases bK c.Zb[i+1]&&decide (c.Zb[i].N∈l)<;>simp<;>omega
   have:=Cb N hN l hl c hc he m (i+2) _ I I I hlen;simp only [Xl,Xj] at this;rw [this,Xv hi,Xv hi1,rd,W2]
  rw [fC I,cf,Xw I];simp [opens]
theorem KC (N:Nat)(hN:6500<N)(l:List Int)(hl:l.length<=5000)(c:WI)(hS:c.Zc.length<=1000)(hc:c.Zb.length<=2900):sG N c l=some (iR N c l):=by
 obtain ⟨-,h1,h2⟩:=KX N I c hS hc;unfold sG iR kc;rw [h1,bs];cases hw:ua N c
 ·rfl
 have e:ne N c=some ():=rfl;have:=Cb N hN l hl c hc (h2 hw) N 0 [] I I rfl (by simp);simp only [nt,cf,ct,e,bs];have h3:eI N (cN (fun x st=>jr N l x st)) c N 0 (none,[])=some (none,[]++opens (fun x=>decide (x∈l)) (c.Zb.drop 0)):=this;rw [h3,bs];rfl
theorem Np (N:Nat)(hN:6500<N)(l:List Int)(hl:l.length<=5000)(c:WI)(hS:c.Zc.length<=1000)(hc:c.Zb.length<=2900):xW N c l=some (iR N c l):=by
 obtain ⟨h1, -,h2⟩:=KX N I c hS hc;unfold xW iR;cases hw:ua N c
 ·obtain ⟨n,rfl⟩: ∃n,N=n+1:=⟨N - 1,by omega⟩;rw [sO.eq_2,h1,bs,hw];simp only [cf,bs];rfl
 have he:=h2 hw
 have key: ∀(m i:Nat) (s:List Int),c.Zb.length<m+i->i<=c.Zb.length->i%2=0->s.length<=i->sO N l c m s (i:Int)=some (s++opens (fun x=>decide (x∈l)) (c.Zb.drop i)):=by
  intro m
  induction m with
  |zero=>intro i s h h2;omega
  | succ m ih=>
   intro i s h h2 h3 h4;rw [sO.eq_2,h1,bs,hw,ct,bs];by_cases hi:i<c.Zb.length
   ·have hi1:i+1<c.Zb.length:=by omega
    have a6:aq c.Zb ((i:Int)+1)=some c.Zb[i+1]:=by
     have:=aK hi1;simpa using this
    rw [fN I,ct,r64 (a:=(i:Int)+1) I I,a6,bs,aK hi,bs,Vs N hN l hl,bs];simp only [vL,bs]
    have hlen:(s++(bif bK c.Zb[i+1]&&decide (c.Zb[i].N∈l) then [c.Zb[i+1].N] else [])).length<=i+2:=by
     cases bK c.Zb[i+1]&&decide (c.Zb[i].N∈l)<;>simp<;>omega
    have:=ih (i+2) _ I I I hlen;simp only [Xl,Xj] at this;rw [Xv hi,Xv hi1,rd, <-W2, <-this];unfold uZ;rw [r64 (a:=(i:Int)+2) I I,r64 (a:=(i:Int)+2) I I];cases decide (c.Zb[i].N∈l)
    ·simp only [cf,bs,Xf,Xr]
    cases bK c.Zb[i+1]
    ·simp only [ct,cf,bs,Bool.and_true,Xr]
    simp only [ct,bs,Bool.and_true];rw [rF (by simp;omega)]
   rw [fC I,cf,Xw I];simp [opens,Bo]
 have:=key N 0 [] I I rfl (by simp);simpa using this
theorem Fe: ∀(b:Nat) {l:List Int},l.Nodup->(∀x∈l,1<=x/\x<=(b:Int))->l.length<=b
 |0,l,_,h=>by
  cases l with
  |nil=>exact YB _
  |cons x l=>have:=h x (by simp);omega
 | b+1,l,hn,h=>by
  have h1:=Fe b (hn.erase ((b:Int)+1)) fun x hx=>by
   obtain ⟨h2,h3⟩:=hn.mem_erase_iff.1 hx;have:=h x h3;omega
  have h2:=List.length_erase (a:=(b:Int)+1) (l:=l);split at h2<;>omega
theorem Th (kv:List (Int×Unit))(a:Int):(lk kv a).isSome=decide (a∈kv.map (·.1)):=by
 unfold lk;rw [Bool.eq_iff_iff];simp [List.find?_isSome,Yc]
def W64 (m:WK):Prop:= ∀c∈m.Zh++m.Zj, ∀v∈c.Zc++c.Zb,in64 v.N
theorem W64.at_ (h:W64 m)(a:Int): ∀v∈(cn m a).Zc++(cn m a).Zb,in64 v.N:=by
 unfold cn
 cases hc:kF m a with
 |none=>intro v hv;simp [Gy] at hv
 |some c=>exact h c (wJ hc)
structure Tr (m:WK) (all:List Int) (met:List (Int×Unit)):Prop where
 nd:all.Nodup
 mem: ∀x,x∈met.map (·.1)↔x∈all
 has: ∀x∈all,aZ m x=true
theorem Tr.len {roots:List WV}(hs:Small m roots){all:List Int}(h:Tr m all met):all.length<=1200:=Fe 1200 h.nd fun x hx=>⟨by have:=vN (h.has x hx);omega,by have:=BQ hs (h.has x hx);omega⟩
theorem Tr.in64 {roots:List WV}(hs:Small m roots){all:List Int}(h:Tr m all met)(hx:x∈all):in64 x:=by
 have h1:=vN (h.has x hx);have h2:=BQ hs (h.has x hx);unfold Go.Proofs.YtmcifcmlojonnaaGreatDoor.in64;omega
theorem Tr.add {all:List Int}(h:Tr m all met)(hx:x∉all)(hh:aZ m x=true):Tr m (all++ [x]) (yI met x ()):=⟨Yi.2 ⟨h.nd,by simp,fun a ha b hb e=>by rw [Yh] at hb;subst hb;subst e;exact hx ha⟩,fun y=>by
 rw [Qv,X7,Yh,h.mem y];exact Or.comm,fun y hy=>by
 rcases X7.1 hy with hy|hy
 ·exact h.has y hy
 ·rw [Yh] at hy;subst hy;exact hh⟩
theorem Jp {roots:List WV}(hs:Small m roots)(hw:W64 m)(a:Int):(gr (cn m a)).length<=3600/\ ∀x∈gr (cn m a),in64 x:=by
 have h1:=hs.at_ a;have h2:=t8 (cn m a);refine ⟨by omega,fun x hx=> ?_⟩;obtain ⟨v,h3,rfl⟩:=Fn hx;exact hw.at_ a v h3
structure Gr where
 has:Int->Bool
 leads:Int->List Int
 opens:List Int->Int->List Int
def mf (has:Int->Bool):List Int->List Int->List Int
 |row,[]=>row
 |row,x::l=>mf has (bif has x&& !decide (x∈row) then row++ [x] else row) l
inductive Thr (g:Gr):List Int->Nat->List Int->Prop
 |done {row:List Int} {k:Nat}:row.length<=k->Thr g row k row
 |step {row:List Int} {k:Nat} {a:Int} {r:List Int}:row[k]? =some a->Thr g (mf g.has row (g.leads a)) (k+1) r->Thr g row k r
def pH (g:Gr):List Int->List Int->List Int
 |row,[]=>row
 |row,a::avs=>pH g (mf g.has row (g.opens row a)) avs
inductive Ord (g:Gr):List Int->List Int->Prop
 |done {row:List Int}:pH g row row=row->Ord g row row
 |step {row r1 r:List Int}:pH g row row≠row->Thr g (pH g row row) row.length r1->Ord g r1 r->Ord g row r
structure IsOrder (g:Gr) (roots:List Int) (b l:List Int):Prop where
 strong:Thr g (mf g.has [] roots) 0 b
 all:Ord g b l
theorem mu (has:Int->Bool): ∀(row l:List Int), ∃t,mf has row l=row++t/\(∀x∈t,has x=true/\x∈l)
 |row,[]=>⟨[],by simp [mf],by simp⟩
 | row,x::l=>by
  unfold mf
  cases h:has x&& !decide (x∈row) with
  |false=>
   obtain ⟨t,h1,h2⟩:=mu has row l;exact ⟨t,h1,fun y hy=>⟨(h2 y hy).1,by simp [(h2 y hy).2]⟩⟩
  |true=>
   obtain ⟨t,h1,h2⟩:=mu has (row++ [x]) l;refine ⟨x::t,by rw [cond_true,h1];simp,fun y hy=> ?_⟩;rw [Y3] at h;rcases X8.1 hy with e|hy
   ·subst e;exact ⟨h.1,by simp⟩
   exact ⟨(h2 y hy).1,by simp [(h2 y hy).2]⟩
theorem BI (has:Int->Bool): ∀(row l l':List Int),mf has row (l++l')=mf has (mf has row l) l'
 |_,[],_=>rfl
 |row,x::l,l'=>by
  show mf has _ (l++l')=_;rw [BI has _ l l'];rfl
theorem rh {has:Int->Bool}: ∀{row:List Int} (l:List Int),row.Nodup->(mf has row l).Nodup
 |_,[],h=>h
 | row,x::l,h=>by
  unfold mf
  cases h2:has x&& !decide (x∈row) with
  |false=>exact rh l h
  |true=>
   rw [Y3] at h2
   have hx:x∉row:=by simpa using h2.2
   exact rh l (Yi.2 ⟨h,by simp,fun a ha b hb e=>by rw [Yh] at hb;subst hb;subst e;exact hx ha⟩)
theorem BK {has:Int->Bool}: ∀(row l:List Int) {x:Int},x∈l->has x=true->x∈mf has row l
 | row,y::l,x,h,hx=>by
  unfold mf;rcases X8.1 h with e|h
  ·subst e;obtain ⟨t,h1, -⟩:=mu has (bif has x&& !decide (x∈row) then row++ [x] else row) l;rw [h1];refine W3 _ ?_;rw [hx,Xi];by_cases hm:x∈row<;>simp [hm]
  exact BK _ l h hx
theorem BJ {has:Int->Bool}(h:x∈mf has row l):x∈row\/(has x=true/\x∈l):=by
 obtain ⟨t,h1,h2⟩:=mu has row l;rw [h1] at h;rcases X7.1 h with h|h
 ·exact .inl h
 exact .inr (h2 x h)
theorem vC (g:Gr): ∀(row avs:List Int), ∃t,pH g row avs=row++t
 |row,[]=>⟨[],by simp [pH]⟩
 |row,a::avs=>by
  obtain ⟨t,h1, -⟩:=mu g.has row (g.opens row a);obtain ⟨t2,h2⟩:=vC g (mf g.has row (g.opens row a)) avs;exact ⟨t++t2,by unfold pH;rw [h2,h1,W2]⟩
theorem CI (g:Gr): ∀(row avs bs:List Int),pH g row (avs++bs)=pH g (pH g row avs) bs
 |_,[],_=>rfl
 |row,a::avs,bs=>by
  show pH g _ (avs++bs)=_;rw [CI g _ avs bs];rfl
theorem Du {g:Gr}: ∀{row:List Int} (avs:List Int),row.Nodup->(pH g row avs).Nodup
 |_,[],h=>h
 |_,_::avs,h=>Du avs (rh _ h)
theorem GL {g:Gr}: ∀{row:List Int} (avs:List Int),(∀x∈row,g.has x=true)-> ∀x∈pH g row avs,g.has x=true
 |_,[],h=>h
 |_,_::avs,h=>GL avs fun x hx=>(BJ hx).elim (h x) (·.1)
theorem Thr.app {g:Gr}{r:List Int}(h:Thr g row k r): ∃t,r=row++t:=by
 induction h with
 |done _=>exact ⟨[],by simp⟩
 |step _ _ ih=>
  rename_i row _ a _ _ _
  obtain ⟨t,rfl⟩:=ih;obtain ⟨t2,h1, -⟩:=mu g.has row (g.leads a);exact ⟨t2++t,by rw [h1,W2]⟩
theorem Thr.nodup {g:Gr}{r:List Int}(h:Thr g row k r)(hn:row.Nodup):r.Nodup:=by
 induction h with
 |done _=>exact hn
 |step _ _ ih=>exact ih (rh _ hn)
theorem Thr.has {g:Gr}{r:List Int}(h:Thr g row k r)(hn:∀x∈row,g.has x=true): ∀x∈r,g.has x=true:=by
 induction h with
 |done _=>exact hn
 |step _ _ ih=>exact ih fun x hx=>(BJ hx).elim (hn x) (·.1)
theorem Thr.det {g:Gr}{r r':List Int}(h:Thr g row k r)(h':Thr g row k r'):r=r':=by
 induction h with
 |done hk=>
  cases h' with
  |done _=>rfl
  |step ha _=>rw [XN hk] at ha;cases ha
 |step ha _ ih=>
  cases h' with
  |done hk=>rw [XN hk] at ha;cases ha
  |step ha' h2=>rw [ha] at ha';cases ha';exact ih h2
theorem Ord.det {g:Gr}{r r':List Int}(h:Ord g row r)(h':Ord g row r'):r=r':=by
 induction h with
 |done hk=>
  cases h' with
  |done _=>rfl
  |step ha _ _=>exact absurd hk ha
 |step ha h1 _ ih=>
  cases h' with
  |done hk=>exact absurd hk ha
  |step _ h1' h2=>exact ih (h1.det h1'▸h2)
theorem IsOrder.det {g:Gr}{roots b b' l':List Int}(h:IsOrder g roots b l)(h':IsOrder g roots b' l'):b=b'/\l=l':=by
 obtain ⟨h1,h2⟩:=h;obtain ⟨h3,h4⟩:=h';have e:=h1.det h3;subst e;exact ⟨J,h2.det h4⟩
theorem Ord.app {g:Gr}{r:List Int}(h:Ord g row r): ∃t,r=row++t:=by
 induction h with
 |done _=>exact ⟨[],by simp⟩
 |step _ h1 _ ih=>
  rename_i row r1 _ _ _
  obtain ⟨t,rfl⟩:=ih;obtain ⟨t1,rfl⟩:=h1.app;obtain ⟨t2,h2⟩:=vC g row row;exact ⟨t2++t1++t,by rw [h2];simp [W2]⟩
theorem Ord.nodup {g:Gr}{r:List Int}(h:Ord g row r)(hn:row.Nodup):r.Nodup:=by
 induction h with
 |done _=>exact hn
 |step _ h1 _ ih=>exact ih (h1.nodup (Du _ hn))
theorem Ord.has {g:Gr}{r:List Int}(h:Ord g row r)(hn:∀x∈row,g.has x=true): ∀x∈r,g.has x=true:=by
 induction h with
 |done _=>exact hn
 |step _ h1 _ ih=>exact ih (h1.has (GL _ hn))
theorem IsOrder.nodup {g:Gr}{roots b:List Int}(h:IsOrder g roots b l):b.Nodup/\l.Nodup:=
 have hb:=h.strong.nodup (rh _ List.nodup_nil)
 ⟨hb,h.all.nodup hb⟩
theorem IsOrder.has {g:Gr}{roots b:List Int}(h:IsOrder g roots b l):(∀x∈b,g.has x=true)/\ ∀x∈l,g.has x=true:=
 have hb:=h.strong.has fun x hx=>(BJ hx).elim (fun h=>by cases h) (·.1)
 ⟨hb,h.all.has hb⟩
theorem IsOrder.sub {g:Gr}{roots b:List Int}(h:IsOrder g roots b l)(hx:x∈b):x∈l:=by
 obtain ⟨t,e⟩:=h.all.app;rw [e];exact W3 _ hx
theorem IsOrder.roots {g:Gr}{roots b:List Int}(h:IsOrder g roots b l)(hx:x∈roots)(hh:g.has x=true):x∈b:=by
 obtain ⟨t,e⟩:=h.strong.app;rw [e];exact W3 _ (BK _ _ hx hh)
def CloG (g:Gr)(row:List Int)(k:Nat):Prop:= ∀(i:Nat) (a x:Int),i<k->row[i]? =some a->x∈g.leads a->g.has x=true->x∈row
theorem CloG.app {g:Gr}{t:List Int}(hk:k<=row.length)(h:CloG g row k):CloG g (row++t) k:=fun i a x hi ha hx hh=>by
 rw [XH I] at ha;exact W3 _ (h i a x hi ha hx hh)
theorem Thr.clo {g:Gr}{r:List Int}(h:Thr g row k r)(hk:k<=row.length)(hc:CloG g row k):CloG g r r.length:=by
 induction h with
 |done a6=>intro i a x hi ha hx hh;exact hc i a x I ha hx hh
 | step ha _ ih=>
  rename_i row k a _ _
  have hlt:=(XO.1 ha).1;obtain ⟨t,h1, -⟩:=mu g.has row (g.leads a)
  refine ih (by rw [h1,YX];omega) fun i b x hi hb hx hh=> ?_
  by_cases e:i=k
  ·subst e;rw [h1,XH hlt,ha] at hb;cases hb;exact BK _ _ hx hh
  rw [h1] at hb⊢;exact (CloG.app hk hc (t:=t)) i b x I hb hx hh
theorem GM {g:Gr}: ∀{row avs:List Int},pH g row avs=row-> ∀a∈avs, ∀x∈g.opens row a,g.has x=true->x∈row
 | row,b::avs,h,a,ha,x,hx,hh=>by
  have h1:mf g.has row (g.opens row b)=row:=by
   obtain ⟨t,e1, -⟩:=mu g.has row (g.opens row b);obtain ⟨t2,e2⟩:=vC g (mf g.has row (g.opens row b)) avs
   have h3:row++t++t2=row:=by rw [<-e1, <-e2];exact h
   have h4:=congrArg List.length h3;simp only [YX] at h4;have h5:t=[]:=Xz I;rw [e1,h5,Xr]
  rcases X8.1 ha with e|ha
  ·subst e;have:=BK row _ hx hh;rwa [h1] at this
  refine GM (avs:=avs) ?_ a ha x hx hh;unfold pH at h;rw [h1] at h;exact h
theorem Ord.closed {g:Gr}{r:List Int}(h:Ord g row r)(hc:CloG g row row.length):CloG g r r.length/\ ∀a∈r, ∀x∈g.opens r a,g.has x=true->x∈r:=by
 induction h with
 |done hp=>exact ⟨hc,GM hp⟩
 |step _ h1 _ ih=>
  rename_i row _ _ _ _
  obtain ⟨t,e⟩:=vC g row row;refine ih (h1.clo (by rw [e,YX];omega) ?_);rw [e];exact hc.app (YB _)
theorem IsOrder.closed {g:Gr}{roots b:List Int}(h:IsOrder g roots b l):(∀a∈l, ∀x∈g.leads a,g.has x=true->x∈l)/\ ∀a∈l, ∀x∈g.opens l a,g.has x=true->x∈l:=by
 obtain ⟨h1,h2⟩:=h.all.closed (h.strong.clo (YI _) fun i _ _ hi=>absurd hi I);refine ⟨fun a ha x hx hh=> ?_,h2⟩;obtain ⟨i,hi,e⟩:=XV ha;exact h1 i a x hi (by rw [XM hi,e]) hx hh
def F5 (m:WK):Gr:=⟨aZ m,fun a=>gr (cn m a),fun row a=>iR N (cn m a) row⟩
def dG (l:List WV):List Int:=(l.filter bK).map (·.N)
theorem C8 (l l':List WV):dG (l++l')=dG l++dG l':=by unfold dG;simp
theorem tt {l:List WV}:x∈dG l↔ ∃v∈l,bK v=true/\v.N=x:=by
 unfold dG;simp only [Yc,Yb];constructor
 ·rintro ⟨v,⟨h1,h2⟩,h3⟩;exact ⟨v,h1,h2,h3⟩
 rintro ⟨v,h1,h2,h3⟩;exact ⟨v,⟨h1,h2⟩,h3⟩
theorem H8 (N:Nat){roots:List WV}(hN:6500<N)(hs:Small m roots)(d:Int)(l:List Int)(hl:l.length<=3600)(h64:∀x∈l,in64 x){all:List Int}(ht:Tr m all met):
  Sat (eG N ⟨m,all,met,d⟩ l) fun r=>r.m_=m/\r.ZI=d/\Tr m r.Zx r.ZJ/\r.Zx=mf (aZ m) all l:=by
 unfold eG;refine jv (fun k i (s:List Int×List (Int×Unit))=>df N l ⟨m,all,met,d⟩ k (i:Int) s.1 s.2) l.length (fun i s=>Tr m s.1 s.2/\s.1=mf (aZ m) all (l.take i)) _ ?_ ?_ N 0 (all,met) I I ⟨ht,J⟩
 ·rintro k i ⟨al,mt⟩ hi ⟨h1,h2⟩ go;show Sat (df N l ⟨m,all,met,d⟩ (k+1) i al mt) _;simp only at h1 h2;have a6:=h64 l[i] (Y5 _)
  have hnext:mf (aZ m) all (l.take (i+1))=(bif aZ m l[i]&& !decide (l[i]∈al) then al++ [l[i]] else al):=by
   rw [cj hi,BI, <-h2];rfl
  rw [df.eq_2,fN I,ct,aK hi,bs,Th];unfold kk;rw [r64 (a:=(i:Int)+1) I I,r64 (a:=(i:Int)+1) I I];by_cases hm:l[i]∈al
  ·rw [WY ((h1.mem _).2 hm)];simp only [nt,cf,bs];exact go (al,mt) ⟨h1,by rw [hnext,WY hm];simp⟩
  rw [WZ (fun h=>hm ((h1.mem _).1 h))];simp only [nf,ct,bs,Fy N m _ a6];cases hh:aZ m l[i]
  ·simp only [cf];exact go (al,mt) ⟨h1,by rw [hnext,hh];rfl⟩
  simp only [ct];have hlen:=h1.len hs;rw [rF (by simp;omega)];exact go (al++ [l[i]],yI mt l[i] ()) ⟨h1.add hm hh,by rw [hnext,hh,WZ hm];rfl⟩
 rintro k ⟨al,mt⟩ ⟨h1,h2⟩;show Sat (df N l ⟨m,all,met,d⟩ (k+1) _ al mt) _;rw [df.eq_2,fC I,cf];exact ac ⟨J,J,h1,by simpa using h2⟩
theorem Dj (N:Nat)(hN:6500<N){roots:List WV}(hs:Small m roots)(hw:W64 m){all:List Int}(ht:Tr m all met)(k:Nat)(hk:k<=all.length):
  Sat (iF N ⟨m,all,met,(k:Int)⟩) fun r=>r.m_=m/\r.ZI=(r.Zx.length:Int)/\Tr m r.Zx r.ZJ/\Thr (F5 N m) all k r.Zx:=by
 unfold iF;refine vI (fun f (s:List Int×List (Int×Unit)×Nat)=>gQ N f m.Zh m.Zj s.1 s.2.1 (s.2.2:Int)) (fun s=>1300 - s.2.2) (fun s=>Tr m s.1 s.2.1/\s.2.2<=s.1.length/\ ∀r,Thr (F5 N m) s.1 s.2.2 r->Thr (F5 N m) all k r) _ ?_ N (all,met,k) (by show 1300 - k<N;omega) ⟨ht,hk,fun _ h=>h⟩;rintro f ⟨al,mt,j⟩ ⟨h1,h3,h4⟩ go;show Sat (gQ N (f+1) m.Zh m.Zj al mt (j:Int)) _;simp only at h1 h3 h4;have hlen:=h1.len hs;rw [gQ.eq_2];by_cases hj:j<al.length
 ·have hx:=Y5 hj;have hat:=Iz N hs al[j] (h1.in64 hs hx);have hsm:=hs.at_ al[j];obtain ⟨a6,a7⟩:=Jp hs hw al[j];rw [fN I,ct,aK hj,bs];have hat':lU N ⟨m.Zh,m.Zj⟩ al[j]=some (cn m al[j]):=hat;rw [hat',bs,Az N I _ I I,bs];refine Sat.bind (H8 N hN hs (j:Int) _ a6 a7 h1) ?_;rintro ⟨m',al',mt',d'⟩ ⟨e1,e2,h5,h6⟩;simp only at e1 e2 h5 h6;subst e1 e2;have hlen':=h5.len hs
  dsimp only
  rw [r64 I I]
  have hge:al.length<=al'.length:=by
   obtain ⟨t,e, -⟩:=mu (aZ m') al (gr (cn m' al[j]));rw [h6,e,YX];omega
  have hgo:=go (al',mt',j+1) (by show 1300 - (j+1)<1300 - j;omega) ⟨h5,by show j+1<=al'.length;omega,fun r hr=>h4 r (.step (XM hj) (by rw [h6] at hr;exact hr))⟩;simpa using hgo
 have:j=al.length:=by omega
 subst this;rw [fC I,cf];exact ac ⟨J,J,h1,h4 _ (.done (YB _))⟩
theorem N9 (N:Nat)(hN:6500<N){roots:List WV}(hs:Small m roots)(hw:W64 m)(hr:∀v∈roots,in64 v.N):
  Sat (oH N m roots) fun r=>r.m_=m/\r.ZI=(r.Zx.length:Int)/\Tr m r.Zx r.ZJ/\Thr (F5 N m) (mf (aZ m) [] (dG roots)) 0 r.Zx:=by
 have hrl:=hs.roots;unfold oH;refine jv (fun k i (s:List Int×List (Int×Unit))=>jV N roots k (i:Int) m.Zh m.Zj s.1 s.2 0) roots.length (fun i s=>Tr m s.1 s.2/\s.1=mf (aZ m) [] (dG (roots.take i))) _ ?_ ?_ N 0 ([],[]) I I ⟨⟨by simp,by simp,by simp⟩,J⟩
 ·rintro k i ⟨al,mt⟩ hi ⟨h1,h2⟩ go;show Sat (jV N roots (k+1) (i:Int) m.Zh m.Zj al mt 0) _;simp only at h1 h2;have a6:=hr roots[i] (Y5 _)
  have ha:oU N roots[i]=some (roots[i].N,bK roots[i]):=by
   unfold oU;rw [vL,bs]
  have hnext:mf (aZ m) [] (dG (roots.take (i+1)))=mf (aZ m) al (dG [roots[i]]):=by
   rw [cj hi,C8,BI, <-h2]
  rw [jV.eq_2,fN I,ct,aK hi,bs];unfold qZ;rw [ha,bs];cases hb:bK roots[i]
  ·simp only [cf,bs];rw [r64 I I];refine go (al,mt) ⟨h1,?_⟩;rw [hnext];simp [dG,hb,mf]
  simp only [ct];obtain ⟨⟨m',al',mt',d'⟩,e0,e1,e2,h5,h6⟩:=H8 N hN hs 0 [roots[i].N] (by simp) (by intro x hx;rw [Yh] at hx;subst hx;exact a6) h1;simp only at e1 e2 h5 h6;subst e1 e2;have e0':eG N ⟨⟨m'.Zh,m'.Zj⟩,al,mt,0⟩ [roots[i].N]=some ⟨m',al',mt',0⟩:=e0;rw [e0',bs,bs]
  dsimp only
  rw [r64 I I];refine go (al',mt') ⟨h5,?_⟩;show al'=_;rw [hnext,h6];simp [dG,hb]
 rintro k ⟨al,mt⟩ ⟨h1,h2⟩;show Sat (jV N roots (k+1) _ m.Zh m.Zj al mt 0) _;rw [jV.eq_2,fC I,cf];unfold tK;refine Sat.bind (Dj N hN hs hw h1 0 (YI _)) ?_;rintro r ⟨e1,e2,h5,h6⟩;simp only [Y0] at h2;exact ac ⟨e1,e2,h5,by rw [<-h2];exact h6⟩
theorem Jf (N:Nat){roots:List WV}(hs:Small m roots)(hw:W64 m)(a:Int)(l:List Int):(iR N (cn m a) l).length<=3600/\ ∀x∈iR N (cn m a) l,in64 x:=by
 have h1:=hs.at_ a;have h2:=KF N (cn m a) l;refine ⟨by omega,fun x hx=> ?_⟩;obtain ⟨v,h3,rfl⟩:=KE hx;exact hw.at_ a v h3
theorem ON (N:Nat)(hN:6500<N){roots:List WV}(hs:Small m roots)(hw:W64 m){all:List Int}(ht:Tr m all met)(d:Int):
  Sat (li N ⟨m,all,met,d⟩) fun r=>r.2.m_=m/\r.2.ZI=d/\Tr m r.2.Zx r.2.ZJ/\r.1=decide ((all.length:Int)<(r.2.Zx.length:Int))/\r.2.Zx=pH (F5 N m) all all:=by
 have hlen:=ht.len hs;unfold li;refine jv (fun k i (s:List Int×List (Int×Unit))=>dC N ⟨m,all,met,d⟩ k (i:Int) m.Zh m.Zj s.1 s.2 d) all.length (fun i s=>Tr m s.1 s.2/\(∃t,s.1=all++t)/\s.1=pH (F5 N m) all (all.take i)) _ ?_ ?_ N 0 (all,met) I I ⟨ht,⟨[],by simp⟩,J⟩
 ·rintro k i ⟨al,mt⟩ hi ⟨h1,⟨t,h2⟩,h3⟩ go;show Sat (dC N ⟨m,all,met,d⟩ (k+1) (i:Int) m.Zh m.Zj al mt d) _;simp only at h1 h2 h3;have hlen1:=h1.len hs
  have htk:List.take all.length al=all:=by rw [h2,List.take_left'];rfl
  have hx:=Y5 hi;have hsm:=hs.at_ all[i];have hat:lU N ⟨m.Zh,m.Zj⟩ all[i]=some (cn m all[i]):=Iz N hs all[i] (ht.in64 hs hx)
  have hnext:pH (F5 N m) all (all.take (i+1))=mf (aZ m) al (iR N (cn m all[i]) al):=by
   rw [cj hi,CI, <-h3];rfl
  rw [dC.eq_2];simp only [Y0];rw [fN I,ct,htk,aK hi,bs,hat,bs];unfold lT;by_cases h8:(cn m all[i]).Za=8
  ·rw [sX h8,ct,KC N hN al I _ I I,bs];obtain ⟨a6,a7⟩:=Jf N hs hw all[i] al;obtain ⟨⟨m',al',mt',d'⟩,e0,e1,e2,h5,h6⟩:=H8 N hN hs d _ a6 a7 h1;simp only at e1 e2 h5 h6;subst e1 e2;have e0':eG N ⟨⟨m'.Zh,m'.Zj⟩,al,mt,d'⟩ (iR N (cn m' all[i]) al)=some ⟨m',al',mt',d'⟩:=e0;rw [e0',bs]
   dsimp only
   rw [r64 I I];obtain ⟨t',e', -⟩:=mu (aZ m') al (iR N (cn m' all[i]) al);exact go (al',mt') ⟨h5,⟨t++t',by show al'=_;rw [h6,e',h2,W2]⟩,by show al'=_;rw [hnext,h6]⟩
  rw [jo h8,cf,r64 I I];refine go (al,mt) ⟨h1,⟨t,h2⟩,?_⟩
  have h0:iR N (cn m all[i]) al=[]:=by
   unfold iR ua;rw [jo h8];rfl
  show al=_;rw [hnext,h0];rfl
 rintro k ⟨al,mt⟩ ⟨h1,⟨t,h2⟩,h3⟩;show Sat (dC N ⟨m,all,met,d⟩ (k+1) _ m.Zh m.Zj al mt d) _;rw [dC.eq_2];simp only [Y0] at h3⊢;rw [fC I,cf];exact ac ⟨J,J,h1,J,h3⟩
theorem Nn (N:Nat)(hN:6500<N){roots:List WV}(hs:Small m roots)(hw:W64 m)(hr:∀v∈roots,in64 v.N):
  ∃b all,IsOrder (F5 N m) (dG roots) b.Zx all/\all.length<=1200/\b.Zx.length<=1200/\oH N m roots=some b/\mC N m roots=some all:=by
 obtain ⟨⟨m',al0,mt0,d0⟩,e0,e1,e2,h1,h2⟩:=N9 N hN hs hw hr;simp only at e1 e2 h1 h2;subst e1 e2;have hlen0:=h1.len hs
 have key:Sat (mC N m' roots) fun all=>Ord (F5 N m') al0 all/\all.length<=1200:=by
  unfold mC;rw [e0,bs];refine vI (fun f (s:List Int×List (Int×Unit))=>mn N f m'.Zh m'.Zj s.1 s.2 (s.1.length:Int)) (fun s=>1300 - s.1.length) (fun s=>Tr m' s.1 s.2/\ ∀r,Ord (F5 N m') s.1 r->Ord (F5 N m') al0 r) _ ?_ N (al0,mt0) (by show 1300 - al0.length<N;omega) ⟨h1,fun _ h=>h⟩;rintro f ⟨al,mt⟩ ⟨h4,h5⟩ go;show Sat (mn N (f+1) m'.Zh m'.Zj al mt (al.length:Int)) _;simp only at h4 h5;have hlen:=h4.len hs;rw [mn.eq_2];obtain ⟨⟨b,m2,al2,mt2,d2⟩,g0,g1,g2,g3,g5,g6⟩:=ON N hN hs hw h4 (al.length:Int);simp only at g1 g2 g3 g5 g6;subst g1 g2;have hlen2:=g3.len hs;have g0':li N ⟨⟨m2.Zh,m2.Zj⟩,al,mt,(al.length:Int)⟩=some (b,⟨m2,al2,mt2,(al.length:Int)⟩):=g0;obtain ⟨t2,ht2⟩:=vC (F5 N m2) al al;rw [g0',bs]
  dsimp only
  rw [g5]
  refine aC (fun hlt=> ?_) fun hge=> ?_
  ·refine Sat.bind (Dj N hN hs hw g3 al.length I) ?_;rintro ⟨m3,al3,mt3,d3⟩ ⟨k1,k2,k3,k4⟩;simp only at k1 k2 k3 k4;subst k1 k2;have hlen3:=k3.len hs;refine go (al3,mt3) ?_ ⟨k3,fun r h=>h5 r (.step ?_ (by rw [<-g6];exact k4) h)⟩
   ·show 1300 - al3.length<1300 - al.length;obtain ⟨t3,e3⟩:=k4.app
    have:al2.length<=al3.length:=by rw [e3,YX];omega
    omega
   rw [<-g6];intro e;rw [e] at hlt;omega
  have e:al2=al:=by
   rw [ht2] at g6;have h0:t2=[]:=Xz (by rw [g6,YX] at hge;omega);rw [g6,h0,Xr]
  subst e;unfold sf;exact ac ⟨h5 _ (.done g6.symm),by omega⟩
 obtain ⟨all,k1,k2,k3⟩:=key;exact ⟨⟨m',al0,mt0,(al0.length:Int)⟩,all,⟨h2,k2⟩,k3,hlen0,e0,k1⟩
theorem vl (l:List Int)(x:Int):x∈kG l↔x∈l:=by unfold kG;exact List.mem_mergeSort
theorem GB (h:l.Nodup):(kG l).Pairwise (· < ·):=by
 have h1:(kG l).Pairwise fun a b=>decide (a<=b)=true:=List.pairwise_mergeSort (by intro a b c h1 h2;simp at*;omega) (by intro a b;simp;omega) l
 have h2:(kG l).Nodup:=(List.mergeSort_perm l _).nodup_iff.2 h;rw [List.nodup_iff_pairwise_ne] at h2;exact h1.imp₂ (fun a b h3 h4=>by simp at h3;omega) h2
theorem Et {s:List Int}(h:l.Nodup)(hs:s.Pairwise (· < ·))(he:∀x,x∈l↔x∈s):kG l=s:=MC (GB h) hs fun x=>(vl l x).trans (he x)
theorem MV (N:Nat)(l:List Int)(h:l.length<=5000):ry N l=some (kG l):=by
 unfold ry;rw [rF I]
theorem Q9 {N:Nat}{roots:List WV}{s:List Int}(h:mC N m roots=some l)(hl:l.length<=5000)(hs:kG l=s):nG N m roots=some s:=by
 unfold nG;rw [h,bs,MV N l hl,bs,hs]
structure Tq (m:WK) (all:List Int):Prop where
 nd:all.Nodup
 has: ∀x∈all,aZ m x=true
theorem Tq.len {roots:List WV}(hs:Small m roots){all:List Int}(h:Tq m all):all.length<=1200:=Fe 1200 h.nd fun x hx=>⟨by have:=vN (h.has x hx);omega,by have:=BQ hs (h.has x hx);omega⟩
theorem Tq.in64 {roots:List WV}(hs:Small m roots){all:List Int}(h:Tq m all)(hx:x∈all):in64 x:=by
 have h1:=vN (h.has x hx);have h2:=BQ hs (h.has x hx);unfold Go.Proofs.YtmcifcmlojonnaaGreatDoor.in64;omega
theorem Tq.lay {all:List Int}(h:Tq m all)(l:List Int):Tq m (mf (aZ m) all l):=⟨rh l h.nd,fun x hx=>(BJ hx).elim (h.has x) (·.1)⟩
theorem EC (N:Nat){roots:List WV}(hN:6500<N)(hs:Small m roots)(l:List Int)(hl:l.length<=3600)(h64:∀x∈l,in64 x){all:List Int}(ht:Tq m all):tp N m all l=some (mf (aZ m) all l):=by
 apply Sat.eq;unfold tp;refine jv (fun k i (s:List Int)=>rb N l m k s (i:Int)) l.length (fun i s=>Tq m s/\s=mf (aZ m) all (l.take i)) _ ?_ ?_ N 0 all I I ⟨ht,J⟩
 ·rintro k i s hi ⟨h0,h1⟩ go;show Sat (rb N l m (k+1) s (i:Int)) _;have a6:=h64 l[i] (Y5 _);have hsl:=h0.len hs
  have hnext:mf (aZ m) all (l.take (i+1))=(bif aZ m l[i]&& !decide (l[i]∈s) then s++ [l[i]] else s):=by
   rw [cj hi,BI, <-h1];rfl
  have hT:Tq m (mf (aZ m) all (l.take (i+1))):=ht.lay _;rw [rb.eq_2,fN I,ct];simp only [aK hi,bs,Mc N m _ a6,Vr N hN s I l[i]];unfold xV;cases hh:aZ m l[i]
  ·simp only [cf,bs];rw [r64 I I];exact go s ⟨h0,by rw [hnext,hh];rfl⟩
  simp only [ct,bs];by_cases hm:l[i]∈s
  ·rw [WY hm];simp only [nt,cf];rw [r64 I I];exact go s ⟨h0,by rw [hnext,hh,WY hm];rfl⟩
  have e:mf (aZ m) all (l.take (i+1))=s++ [l[i]]:=by rw [hnext,hh,WZ hm];rfl
  rw [WZ hm];simp only [nf,ct];rw [rF (by simp;omega),r64 I I];exact go (s++ [l[i]]) ⟨e▸hT,e.symm⟩
 rintro k s ⟨h0,h1⟩;show Sat (rb N l m (k+1) s _) _;rw [rb.eq_2,fC I,cf];exact ac (by simpa using h1)
theorem Nh (N:Nat)(hN:6500<N)(l:List WV)(hl:l.length<=3600):oZ N l=some (dG l):=by
 apply Sat.eq;unfold oZ;refine jv (fun k i (s:List Int)=>jk N l k s (i:Int)) l.length (fun i s=>s=dG (l.take i)) _ ?_ ?_ N 0 [] I I J
 ·rintro k i s hi h1 go;show Sat (jk N l (k+1) s (i:Int)) _
  have hsl:s.length<=3600:=by
   rw [h1];unfold dG;rw [YZ];exact YC (XY _ _) (by rw [YY];omega)
  have hnext:dG (l.take (i+1))=s++dG [l[i]]:=by rw [cj hi,C8,h1]
  rw [jk.eq_2,fN I,ct];simp only [aK hi,bs,vL];unfold rc;cases hb:bK l[i]
  ·simp only [cf];rw [r64 I I];exact go s (by rw [hnext];simp [dG,hb])
  simp only [ct];rw [rF (by simp;omega),r64 I I];exact go (s++ [l[i].N]) (by rw [hnext];simp [dG,hb])
 rintro k s h1;show Sat (jk N l (k+1) s _) _;rw [jk.eq_2,fC I,cf];exact ac (by simpa using h1)
theorem AX (N:Nat)(hN:6500<N){roots:List WV}(hs:Small m roots)(hw:W64 m){all:List Int}(ht:Tq m all)(k:Nat)(hk:k<=all.length):
  Sat (mD N m all (k:Int)) fun r=>Tq m r/\Thr (F5 N m) all k r:=by
 unfold mD;refine vI (fun f (s:List Int×Nat)=>qc N m f s.1 (s.2:Int)) (fun s=>1300 - s.2) (fun s=>Tq m s.1/\s.2<=s.1.length/\ ∀r,Thr (F5 N m) s.1 s.2 r->Thr (F5 N m) all k r) _ ?_ N (all,k) (by show 1300 - k<N;omega) ⟨ht,hk,fun _ h=>h⟩;rintro f ⟨al,j⟩ ⟨h1,h3,h4⟩ go;show Sat (qc N m (f+1) al (j:Int)) _;simp only at h1 h3 h4;have hlen:=h1.len hs;rw [qc.eq_2];by_cases hj:j<al.length
 ·have hx:=Y5 hj;have hsm:=hs.at_ al[j];obtain ⟨a6,a7⟩:=Jp hs hw al[j];rw [fN I,ct,aK hj,bs,P4 N m _ (h1.in64 hs hx),bs,NE N I _ I I,bs,EC N hN hs _ a6 a7 h1,bs,r64 I I]
  have hge:al.length<=(mf (aZ m) al (gr (cn m al[j]))).length:=by
   obtain ⟨t,e, -⟩:=mu (aZ m) al (gr (cn m al[j]));rw [e,YX];omega
  exact go (mf (aZ m) al (gr (cn m al[j])),j+1) (by show 1300 - (j+1)<1300 - j;omega) ⟨h1.lay _,by show j+1<=(mf (aZ m) al (gr (cn m al[j]))).length;omega,fun r hr=>h4 r (.step (XM hj) hr)⟩
 have:j=al.length:=by omega
 subst this;rw [fC I,cf];exact ac ⟨h1,h4 _ (.done (YB _))⟩
theorem Kk (N:Nat)(hN:6500<N){roots:List WV}(hs:Small m roots)(hw:W64 m)(hr:∀v∈roots,in64 v.N):
  ∃b all,IsOrder (F5 N m) (dG roots) b all/\uG N m roots=some all/\((oZ N roots).bind fun y5=>(tp N m ([]:List Int) y5).bind fun y8=>mD N m y8 0)=some b:=by
 have hrl:=hs.roots;have ha:=Nh N hN roots I
 have h64: ∀x∈dG roots,in64 x:=fun x hx=>by
  obtain ⟨v,h1, -,rfl⟩:=tt.1 hx;exact hr v h1
 have hal:(dG roots).length<=3600:=by
  unfold dG;rw [YZ];exact YC (XY _ _) I
 have hT0:Tq m []:=⟨List.nodup_nil,by simp⟩;have hlay:=EC N hN hs (dG roots) hal h64 hT0;obtain ⟨b,b0,b1,b2⟩:=AX N hN hs hw (hT0.lay (dG roots)) 0 (YI _);have b0':mD N m (mf (aZ m) [] (dG roots)) 0=some b:=b0
 have key:Sat (uG N m roots) fun all=>Ord (F5 N m) b all:=by
  unfold uG;rw [ha,bs,hlay,bs,b0',bs];refine vI (fun f (s:List Int)=>kE N m f s) (fun s=>1300 - s.length) (fun s=>Tq m s/\ ∀r,Ord (F5 N m) s r->Ord (F5 N m) b r) _ ?_ N b (by show 1300 - b.length<N;omega) ⟨b1,fun _ h=>h⟩;rintro f al ⟨h4,h5⟩ go;show Sat (kE N m (f+1) al) _;have hlen:=h4.len hs;rw [kE.eq_2];refine jv (fun k i (s:List Int)=>oI N (kE N m f) al m k s (i:Int)) al.length (fun i s=>Tq m s/\(∃t,s=al++t)/\s=pH (F5 N m) al (al.take i)) _ ?_ ?_ N 0 al I I ⟨h4,⟨[],by simp⟩,J⟩
  ·rintro k i s hi ⟨h0,⟨t,h1⟩,h2⟩ go2;show Sat (oI N (kE N m f) al m (k+1) s (i:Int)) _;have hsl:=h0.len hs
   have hg:aq s (i:Int)=some al[i]:=by
    rw [oL,h1,XH hi,XM hi]
   have hx:=Y5 hi;have hsm:=hs.at_ al[i];obtain ⟨a6,a7⟩:=Jf N hs hw al[i] s
   have hnext:pH (F5 N m) al (al.take (i+1))=mf (aZ m) s (iR N (cn m al[i]) s):=by
    rw [cj hi,CI, <-h2];rfl
   rw [oI.eq_2,fN I,ct,hg,bs,P4 N m _ (h4.in64 hs hx),bs,Np N hN s I _ I I,bs,EC N hN hs _ a6 a7 h0,bs,r64 I I];obtain ⟨t',e', -⟩:=mu (aZ m) s (iR N (cn m al[i]) s);exact go2 _ ⟨h0.lay _,⟨t++t',by rw [e',h1,W2]⟩,hnext.symm⟩
  rintro k s ⟨h0,⟨t,h1⟩,h2⟩;show Sat (oI N (kE N m f) al m (k+1) s _) _;have hsl:=h0.len hs;simp only [Y0] at h2;rw [oI.eq_2,fC I,cf];unfold zQ
  refine aC (fun he=> ?_) fun hne=> ?_
  ·have h6:t=[]:=Xz (by rw [h1,YX] at he;omega)
   have h7:s=al:=by rw [h1,h6,Xr]
   exact ac (by rw [h7] at h2⊢;exact h5 _ (.done h2.symm))
  have hle:al.length<=s.length:=by rw [h1,YX];omega
  refine Sat.bind (AX N hN hs hw h0 al.length hle) fun r ⟨r1,r2⟩=> ?_
  obtain ⟨t3,e3⟩:=r2.app;have a8:=r1.len hs;refine go r ?_ ⟨r1,fun r' hr'=>h5 r' (.step ?_ (by rw [<-h2];exact r2) hr')⟩
  ·show 1300 - r.length<1300 - al.length
   have:s.length<=r.length:=by rw [e3,YX];omega
   omega
  rw [<-h2];intro e;rw [e] at hne;omega
 obtain ⟨all,k1,k2⟩:=key;exact ⟨b,all,⟨b2,k2⟩,k1,by rw [ha,bs,hlay,bs];exact b0'⟩
theorem GA: ∀{s:List Int} {k:Nat} (h:k+1<s.length),((s.set (k+1) (s[k]'I)).set k s[k+1]).Perm s
 |a::b::r,0,_=>List.Perm.swap a b r
 |a::r,k+1,h=>by
  have ih:=GA (s:=r) (k:=k) (by simpa using h);simp only [List.set_cons_succ,List.getElem_cons_succ];exact ih.cons a
def VD (s:List Int)(i k:Nat):Prop:= ∀a b:Nat,a<b->b<=i->b≠k->s.getD a 0<=s.getD b 0
theorem BS (s:List Int)(i j:Nat)(x:Int)(hi:i<s.length):(s.set i x).getD j 0=if j=i then x else s.getD j 0:=by
 by_cases e:j=i
 ·subst e;simp [List.getD,hi]
 rw [if_neg e];simp only [List.getD];rw [XQ (fun h=>e h.symm)]
theorem zg (s:List Int)(i:Nat)(hi:i<s.length):s.getD i 0=s[i]:=by simp [List.getD,hi]
theorem Kl (N:Nat)(hN:6500<N)(l:List Int)(hl:l.length<=3600)(hn:l.Nodup):wr N l=some (kG l):=by
 apply Sat.eq;unfold wr;rw [rF (by simp;omega),Y4]
 have fin: ∀s:List Int,s.Perm l->VD s (l.length - 1) l.length->s=kG l:=fun s hp hi=>by
  have hlen:=hp.length_eq;have hnd:s.Nodup:=hp.nodup_iff.2 hn;refine (Et hn (Yl.2 fun a b ha hb hab=> ?_) fun x=>(hp.mem_iff).symm).symm;have h1:=hi a b hab I I;rw [zg s a ha,zg s b hb] at h1;have h2:=Yl.1 (List.nodup_iff_pairwise_ne.1 hnd) a b ha hb hab;omega
 by_cases h0:l.length=0
 ·have e:l=[]:=Xz h0;subst e;obtain ⟨n,rfl⟩: ∃n,N=n+1:=⟨N - 1,by omega⟩;rw [ja.eq_2,fC (by simp),cf];exact ac (by unfold kG;simp)
 refine jv (fun k i (s:List Int)=>ja N k s (i:Int)) l.length (fun i s=>s.Perm l/\VD s (i - 1) l.length) _ ?_ ?_ N 1 l I I ⟨List.Perm.refl _,fun a b h1 h2=>absurd h2 I⟩
 ·rintro f i s hi ⟨h1,h2⟩ go;show Sat (ja N (f+1) s (i:Int)) _;have hlen:=h1.length_eq;rw [ja.eq_2,hlen,fN I,ct]
  have hi0:i<=l.length:=by omega
  refine vI (fun k (st:List Int×Nat)=>qd N (ja N f) (i:Int) k st.1 (st.2:Int)) (fun st=>st.2) (fun st=>st.1.Perm l/\st.2<=i/\VD st.1 i st.2) _ ?_ N (s,i) (by show i<N;omega) ⟨h1,YB _,fun a b q1 q2 q3=>h2 a b q1 (by show b<=i - 1;simp only at q3;omega) I⟩;rintro k ⟨t,j⟩ ⟨g1,g2,g3⟩ go2;simp only at g1 g2 g3;show Sat (qd N (ja N f) (i:Int) (k+1) t (j:Int)) _;have hlt:=g1.length_eq
  have stop:(j=0\/t.getD (j - 1) 0<=t.getD j 0)->Sat (tS N (ja N f) (i:Int) t) (· =kG l):=fun hst=>by
   unfold tS;rw [r64 I I];refine go t ⟨g1,fun a b q1 q2 q3=> ?_⟩
   have q2':b<=i:=by omega
   by_cases e:b=j
   ·subst e;rcases hst with h|h
    ·omega
    by_cases e2:a=b - 1
    ·subst e2;exact h
    have:=g3 a (b - 1) I I I;omega
   exact g3 a b q1 q2' e
  rw [qd.eq_2];by_cases hj:0<j
  ·have hp:aq t ((j:Int) - 1)=some (t[j - 1]'I):=by
    have:=aK (xs:=t) (i:=j - 1) I;rw [show (((j - 1:Nat)):Int)=(j:Int) - 1 by omega] at this;exact this
   have hq:aq t (j:Int)=some (t[j]'I):=aK I;rw [fN I,ct,r64 I I,hp,bs,hq,bs,bs];by_cases hc:t[j]'I<t[j - 1]'I
   ·rw [fN hc,ct,bs,r64 (a:=(j:Int) - 1) I I,bs,bs,r64 (a:=(j:Int) - 1) I I]
    have hs2:aq (List.set t (j:Int).toNat (t[j - 1]'I)) ((j:Int) - 1)=some ((List.set t (j:Int).toNat (t[j - 1]'I))[j - 1]'(by simp;omega)):=by
     have:=aK (xs:=List.set t (j:Int).toNat (t[j - 1]'I)) (i:=j - 1) (by simp;omega);rw [show (((j - 1:Nat)):Int)=(j:Int) - 1 by omega] at this;exact this
    rw [hs2,bs,r64 (a:=(j:Int) - 1) I I,Xo,show ((j:Int) - 1).toNat=j - 1 by omega,show (j:Int) - 1=((j - 1:Nat):Int) by omega];obtain ⟨q,rfl⟩: ∃q,j=q+1:=⟨j - 1,by omega⟩;simp only [Nat.add_sub_cancel] at*;refine go2 ((t.set (q+1) (t[q]'I)).set q (t[q+1]'I),q) (by show q<q+1;omega) ⟨(GA I).trans g1,by show q<=i;omega,fun a b q1 q2 q3=> ?_⟩;have q3':b≠q:=q3;have hqa:=zg t q I;have hqb:=zg t (q+1) I;show ((t.set (q+1) (t[q]'I)).set q (t[q+1]'I)).getD a 0<=((t.set (q+1) (t[q]'I)).set q (t[q+1]'I)).getD b 0;rw [BS _ q _ _ (by simp;omega),BS _ q _ _ (by simp;omega),BS t (q+1) _ _ I,BS t (q+1) _ _ I,if_neg q3'];by_cases b1:b=q+1
    ·rw [if_pos b1];by_cases a1:a=q
     ·rw [if_pos a1];omega
     rw [if_neg a1,if_neg I, <-hqa];exact g3 a q I I I
    rw [if_neg b1];by_cases a1:a=q
    ·rw [if_pos a1, <-hqb];exact g3 (q+1) b I q2 b1
    rw [if_neg a1];by_cases a2:a=q+1
    ·rw [if_pos a2, <-hqa];exact g3 q b I q2 b1
    rw [if_neg a2];exact g3 a b q1 q2 b1
   rw [fC I,cf];refine stop (.inr ?_);rw [zg t (j - 1) I,zg t j I];omega
  rw [fC I,cf,bs,cf];exact stop (.inl I)
 rintro f s ⟨h1,h2⟩;show Sat (ja N (f+1) s _) _;rw [ja.eq_2,h1.length_eq,fC I,cf];unfold zP;exact ac (fin s h1 h2)
def pQ (c:WI):List Int:=pick (fun i v=>oD c.Za i&&bK v) 0 c.Zb
theorem Dd (N:Nat)(hN:6500<N)(c:WI)(hS:c.Zc.length<=1000)(hc:c.Zb.length<=2900):oQ N c=some (pQ c):=by
 unfold oQ pQ;rw [yD N hN false c hS hc,bs]
 have e1:(fun (_:Nat) (v:WV)=>(true==false)&&bK v)=fun _ _=>false:=by funext i v;rfl
 have e2:(fun (i:Nat) (v:WV)=>(mR c.Za i==false)&&bK v)=fun i v=>oD c.Za i&&bK v:=by funext i v;rw [Dl];cases oD c.Za i<;>rfl
 rw [e1,e2,GK,Y4]
theorem ut (c:WI):(pQ c).length<=c.Zb.length:=Bt _ 0 c.Zb
theorem IP (h:x∈pQ c): ∃v∈c.Zc++c.Zb,v.N=x:=by
 obtain ⟨v,h1,h2⟩:=Br h;exact ⟨v,W4 _ h1,h2⟩
def vX (m:WK)(l:List Int):Bool:=l.all (aZ m)
theorem MO {roots:List WV}(hs:Small m roots)(hw:W64 m)(hc:c∈m.Zh++m.Zj):((gr c).length<=3500/\ ∀x∈gr c,in64 x)/\(pQ c).length<=2900/\ ∀x∈pQ c,in64 x:=by
 have h1:=hs.cells c hc;have h2:=t8 c;have h3:=ut c;refine ⟨⟨by omega,fun x hx=> ?_⟩,by omega,fun x hx=> ?_⟩
 ·obtain ⟨v,h4,rfl⟩:=Fn hx;exact hw c hc v h4
 obtain ⟨v,h4,rfl⟩:=IP hx;exact hw c hc v h4
def wt:List WI->Nat
 | []=>0
 |c::l=>1+c.Zc.length+c.Zb.length+wt l
theorem Ek: ∀a b:List WI,wt (a++b)=wt a+wt b
 | [],b=>by simp [wt]
 |c::a,b=>by rw [Xu,wt,wt,Ek a b];omega
theorem Qq {l:List WI}(h:i<l.length):wt (l.take (i+1))=wt (l.take i)+(1+l[i].Zc.length+l[i].Zb.length):=by
 rw [cj h,Ek];simp [wt]
structure Wtd (m:WK) (roots:List WV):Prop where
 le:roots.length+wt m.Zh+wt m.Zj<=2900
 cnt:m.Zh.length+m.Zj.length<=600
def jR (p:Int->Bool):List WV->List WV
 |k::v::r=>(bif p k.N then [k,v] else [])++jR p r
 |_=> []
theorem FW (p:Int->Bool): ∀l:List WV,(jR p l).length<=l.length
 | []=>by simp [jR]
 | [_]=>by simp [jR]
 |k::v::r=>by
  have:=FW p r;unfold jR;cases p k.N<;>simp<;>omega
theorem AJ {x:WV}: ∀{l:List WV},x∈jR p l->x∈l
 | [],h=>by simp [jR] at h
 | [_],h=>by simp [jR] at h
 | k::v::r,h=>by
  unfold jR at h;rcases X7.1 h with h|h
  ·cases hp:p k.N with
   |false=>rw [hp] at h;cases h
   |true=>rw [hp] at h;simp at h;rcases h with h|h<;>simp [h]
  have:=AJ h;simp [this]
def sq (l:List Int)(c:WI):WI:=bif ua N c then ⟨c.Za,c.Zi,c.Ze,c.Zg,c.Zc,jR (fun x=>decide (x∈l)) c.Zb⟩ else c
theorem NG (N:Nat)(hN:6500<N)(l:List Int)(hl:l.length<=5000)(y:WI)(k v:WV)(s:List WV)(hs:s.length<=5000):cN (fun x st=>kB N (fun x=>jS N x l) y x st) (k,v) (none,s)=some (true,(none,s++(bif decide (k.N∈l) then [k,v] else []))):=by
 unfold cN kB jS;simp only [bs,z8 N hN l hl];cases decide (k.N∈l)
 ·simp only [cf,Xr];rfl
 simp only [ct];rw [rF (by simp;omega)];rfl
theorem G3 (N:Nat)(hN:6500<N)(l:List Int)(hl:l.length<=5000)(y c:WI)(hc:c.Zb.length<=2900)(he:c.Zb.length%2=0): ∀(m i:Nat) (s:List WV),c.Zb.length<m+i->i<=c.Zb.length->i%2=0->s.length<=i->eI N (cN (fun x st=>kB N (fun x=>jS N x l) y x st)) c m (i:Int) (none,s)=some (none,s++jR (fun x=>decide (x∈l)) (c.Zb.drop i))
 |0,i,s,h,h2,_,_=>by omega
 | m+1,i,s,h,h2,h3,h4=>by
  rw [eI.eq_2,r64 (a:=(i:Int)+1) I I];by_cases hi:i<c.Zb.length
  ·have hi1:i+1<c.Zb.length:=by omega
   have a6:aq c.Zb ((i:Int)+1)=some c.Zb[i+1]:=by
    have:=aK hi1;simpa using this
   rw [fN I,ct,aK hi,bs,r64 (a:=(i:Int)+1) I I,a6,bs,NG N hN l hl y _ _ s I,bs];simp only [nt,cf];rw [r64 I I]
   have hlen:(s++(bif decide (c.Zb[i].N∈l) then [c.Zb[i],c.Zb[i+1]] else [])).length<=i+2:=by
    cases decide (c.Zb[i].N∈l)<;>simp<;>omega
   have:=G3 N hN l hl y c hc he m (i+2) _ I I I hlen;simp only [Xl,Xj] at this;rw [this,Xv hi,Xv hi1,W2];rfl
  rw [fC I,cf,Xw I];simp [jR]
theorem Ll (N:Nat)(hN:6500<N)(l:List Int)(hl:l.length<=5000)(c:WI)(hS:c.Zc.length<=600)(hc:c.Zb.length<=2900):pR N c l=some (bif ua N c then sq N l c else Gy):=by
 obtain ⟨-,h1,h2⟩:=KX N I c I I;unfold pR xr kc sq;rw [h1,bs];cases hw:ua N c
 ·rfl
 have e:ne N c=some ():=rfl;have:=G3 N hN l hl c c I (h2 hw) N 0 [] I I rfl (by simp);simp only [nt,cf,ct,e,bs,pM N c ⟨hS,hc⟩];have h3:eI N (cN (fun x st=>kB N (fun x=>jS N x l) c x st)) c N 0 (none,[])=some (none,[]++jR (fun x=>decide (x∈l)) (c.Zb.drop 0)):=this;rw [h3,bs];rfl
theorem Ln (N:Nat)(l:List Int)(c:WI):(sq N l c).Zc.length=c.Zc.length/\(sq N l c).Zb.length<=c.Zb.length:=by
 unfold sq;cases ua N c
 ·exact ⟨J,YB _⟩
 exact ⟨J,FW _ _⟩
theorem Lm {N:Nat}(h:v∈(sq N l c).Zc++(sq N l c).Zb):v∈c.Zc++c.Zb:=by
 unfold sq at h;cases hw:ua N c
 ·rw [hw] at h;exact h
 rw [hw] at h;rcases X7.1 h with h|h
 ·exact W3 _ h
 exact W4 _ (AJ h)
def KZ (c:WI):Bool:=decide (c.Za=10)&&(fP N c).getD false
theorem wz {roots:List WV}(hs:Small m roots)(h:aZ m x=true):in64 x:=by
 have h2:=vN h;have h3:=BQ hs h;unfold in64;omega
def nW:WV:=⟨0,0,⟨#[]⟩⟩
def fe (l:List Int):List WV->List WV
 |t::h::k::s::r=>(bif decide (t.N∈l) then [t,h,(bif decide (k.Za=7)&& !decide (k.N∈l) then nW else k),s] else [])++fe l r
 |_=> []
def pT (l:List Int)(cb:WV):List WV->List WV
 |t::h::_::s::r=>(bif decide (t.N∈l) then [] else [cb,h,s])++pT l cb r
 |_=> []
theorem AA (l:List Int)(t h k s:WV)(r:List WV):fe l (t::h::k::s::r)=(bif decide (t.N∈l) then [t,h,(bif decide (k.Za=7)&& !decide (k.N∈l) then nW else k),s] else [])++fe l r:=Eq.trans rfl rfl
theorem DB (p:Int->Bool)(k v:WV)(r:List WV):jR p (k::v::r)=(bif p k.N then [k,v] else [])++jR p r:=Eq.trans rfl rfl
theorem Pb (l:List Int)(cb:WV): ∀xs:List WV,(fe l xs).length+(pT l cb xs).length<=xs.length
 | []=>by simp [fe,pT]
 | [_]=>by simp [fe,pT]
 | [_,_]=>by simp [fe,pT]
 | [_,_,_]=>by simp [fe,pT]
 |t::h::k::s::r=>by
  have:=Pb l cb r;unfold fe pT;cases decide (t.N∈l)<;>simp<;>omega
def FX (l:List Int)(c:WI):WI×List WV:=(⟨c.Za,c.Zi,c.Ze,c.Zg,c.Zc,c.Zb.take 1++fe l (c.Zb.drop 1)⟩,pT l (c.Zb.headD nW) (c.Zb.drop 1))
theorem four {l:List WV}(h:4<=l.length): ∃t a k s r,l=t::a::k::s::r:=by
 match l,h with
 |t::a::k::s::r,_=>exact ⟨t,a,k,s,r,rfl⟩
theorem JC (N:Nat)(hN:6500<N)(l:List Int)(p:List (Int×Bool))(hp:∀x,(lk p x).getD false=decide (x∈l))(c y:WI)(cb:WV)(hcb:c.Zb[0]? =some cb)(hc:c.Zb.length<=2900): ∀(m i:Nat) (o t:List WV),c.Zb.length<m+i->i<=c.Zb.length->(c.Zb.length - i)%4=0->o.length<=i->t.length<=i->ib N (cN (fun x st=>gv N c p y x st)) c m (i:Int) (none,(o,t))=some (none,(o++fe l (c.Zb.drop i),t++pT l cb (c.Zb.drop i)))
 |0,i,o,t,h,h2,_,_,_=>by omega
 | m +1,i,o,t,h,h2,h3,h4,h5=>by
  rw [ib.eq_2,r64 (a:=(i:Int)+4) I I];by_cases hi:i+4<=c.Zb.length
  ·obtain ⟨v1,v2,v3,v4,r,hd⟩:=four (l:=c.Zb.drop i) (by rw [XX];omega)
   have hd4:c.Zb.drop (i+4)=r:=by rw [<-List.drop_drop,hd];rfl
   have hx:(c.Zb.drop (i:Int).toNat).take (((i:Int)+4).toNat - (i:Int).toNat)=[v1,v2,v3,v4]:=by
    rw [Xo,show ((i:Int)+4).toNat - i=4 by omega,hd];rfl
   have h0:aq c.Zb 0=some cb:=by
    have:=oL c.Zb 0;rw [hcb] at this;exact this
   have e0:aq [v1,v2,v3,v4] 0=some v1:=rfl;have e1:aq [v1,v2,v3,v4] 1=some v2:=rfl;have e2:aq [v1,v2,v3,v4] 2=some v3:=rfl;have e3:aq [v1,v2,v3,v4] 3=some v4:=rfl;rw [Rc I,ct,r64 I I,r64 I I,cU ⟨by omega,by omega,by omega,by omega⟩,hx]
   have hb:cN (fun x st=>gv N c p y x st) ((i:Int),[v1,v2,v3,v4]) (none,(o,t))=some (true,(none,(o++(bif decide (v1.N∈l) then [v1,v2,(bif decide (v3.Za=7)&& !decide (v3.N∈l) then nW else v3),v4] else []),t++(bif decide (v1.N∈l) then [] else [cb,v2,v4])))):=by
    unfold cN gv;simp only [e0,e1,e2,e3,bs,hp,h0];unfold nP;simp only [e0,e1,e2,e3,bs];cases decide (v1.N∈l)
    ·simp only [nf,ct,cf,Xr];rw [rF (by simp;omega)];rfl
    simp only [nt,ct,cf,Xr];rw [rF (by simp;omega),rF (by simp;omega)];cases decide (v3.Za=7)<;>cases decide (v3.N∈l)<;>rfl
   rw [hb,bs];simp only [nt,cf];rw [r64 I I];have:=JC N hN l p hp c y cb hcb hc m (i+4) (o++(bif decide (v1.N∈l) then [v1,v2,(bif decide (v3.Za=7)&& !decide (v3.N∈l) then nW else v3),v4] else [])) (t++(bif decide (v1.N∈l) then [] else [cb,v2,v4])) I hi I (by cases decide (v1.N∈l)<;>simp<;>omega) (by cases decide (v1.N∈l)<;>simp<;>omega);rw [show (((i+4:Nat)):Int)=(i:Int)+4 by omega] at this;rw [this,hd4,hd,W2,W2];rfl
  rw [Re I,cf,Xw I];simp [fe,pT]
theorem Rh (N:Nat)(hN:6500<N)(c:WI)(hS:c.Zc.length<=1000)(hc:c.Zb.length<=2900):uN N c=some (KZ N c)/\(KZ N c=true->1<=c.Zb.length/\(c.Zb.length - 1)%4=0):=by
 obtain ⟨b,hb,a6⟩:=GJ N hN c hS hc;unfold uN KZ;rw [AY N hN c hS hc,hb];refine ⟨by cases decide (c.Za=10)<;>cases b<;>rfl,fun h=> ?_⟩;rw [Y3,YT] at h;exact (a6 h.2).2 h.1
theorem Gq (N:Nat)(hN:6500<N)(l:List Int)(hl:l.length<=5000)(c:WI)(hS:c.Zc.length<=600)(hc:c.Zb.length<=2900):nA N c l=some (bif KZ N c then FX l c else (Gy,[])):=by
 obtain ⟨h1,h2⟩:=Rh N I c I I;unfold nA;rw [h1,bs];cases hw:KZ N c
 ·rfl
 obtain ⟨g1,g2⟩:=h2 hw;simp only [nt,cf,ct]
 have hcb:c.Zb[0]? =some (c.Zb.headD nW):=by
  cases hm:c.Zb with
  |nil=>rw [hm] at g1;simp at g1
  |cons a r=>rfl
 apply Sat.eq;refine jv (fun k i (s:List (Int×Bool))=>jn N l c k (i:Int) s) l.length (fun i s=> ∀x,(lk s x).getD false=decide (x∈l.take i)) _ ?_ ?_ N 0 [] I I (fun x=>by simp;rfl)
 ·intro k i s hi h3 go;show Sat (jn N l c (k+1) (i:Int) s) _;rw [jn.eq_2,fN I,ct,aK hi,bs,r64 I I]
  refine go _ fun x=> ?_
  rw [Pa,cj hi];by_cases e:l[i]=x
  ·rw [if_pos e,WY (by simp [e])];rfl
  rw [if_neg e,h3 x];by_cases hm:x∈l.take i
  ·rw [WY hm,WY (W3 _ hm)]
  rw [WZ hm,WZ (by simp only [X7,Yh];exact fun h=>h.elim hm fun h=>e h.symm)]
 intro k s h3;show Sat (jn N l c (k+1) _ s) _;rw [Y0] at h3;rw [jn.eq_2,fC I,cf];unfold rn vd dz rl ov
 have h0:aq c.Zb 0=some (c.Zb.headD nW):=by
  have:=oL c.Zb 0;rw [hcb] at this;exact this
 rw [rF (by simp;omega),bs,h0,bs,bs,bs];have:=JC N hN l s h3 c ⟨c.Za,c.Zi,c.Ze,c.Zg,[]++c.Zc,[c.Zb.headD nW]⟩ _ hcb I N 1 [c.Zb.headD nW] [] I g1 g2 (by simp) (by simp);have this':ib N (cN (fun x st=>gv N c s ⟨c.Za,c.Zi,c.Ze,c.Zg,[]++c.Zc,[c.Zb.headD nW]⟩ x st)) c N 1 (none,([c.Zb.headD nW],[]))=_:=this;rw [this',bs];refine ac ?_
 have ht:c.Zb.take 1=[c.Zb.headD nW]:=by
  cases hm:c.Zb with
  |nil=>rw [hm] at g1;simp at g1
  |cons a r=>rfl
 unfold FX;rw [ht];rfl
def wU (a:Int):Bool:=decide (a.tmod 2=0)
def Gm (a:Int):Bool:=decide (a.tmod 2=1)
def ql (live:List Int):List Int:=live.filter wU++live.filter Gm
theorem zh: ∀{l:List Int} {i:Nat} (hi:i<l.length),p l[i]=true->(l.filter p)[((l.take i).filter p).length]? =some l[i]
 |x::l,0,hi,h=>by
  simp only [List.getElem_cons_zero] at h;simp [h]
 |x::l,i+1,hi,h=>by
  simp only [List.getElem_cons_succ] at h;have ih:=zh (l:=l) (i:=i) (by simpa using hi) h;rw [Ys]
  cases hx:p x with
  |true=>simp only [XC,hx,if_true,XW,XJ,List.getElem_cons_succ];exact ih
  |false=>simp only [XC,hx,Xh,if_false,List.getElem_cons_succ];exact ih
theorem JE (hi:i<l.length):((l.take (i+1)).filter p).length=((l.take i).filter p).length+(bif p l[i] then 1 else 0):=by
 rw [cj hi,XB,YX];cases h:p l[i]<;>simp [h]
theorem E6 (N:Nat)(φ:Int×Int->σ->Option (Option Exit×σ))(live:List Int)(hl:live.length<=2000)(hN:6500<N)(kb:Int->Int->Option Exit×σ->Option (Option Exit×σ))(b:Int)(p:Int->Bool)(hp:∀a,p a=decide (a.tmod 2=b))(p6:Int)(h6:0<=p6/\p6<=2)(n0:Nat)(hn0:n0<=2000)(Inv:Nat->σ->Prop)(R:Option Exit×σ->Prop)(hstep:∀i (hi:i<live.length) s,p live[i]=true->Inv (n0+((live.take i).filter p).length) s->Sat (φ (((n0+((live.take i).filter p).length:Nat):Int),live[i]) s) fun r=>r.1=none/\Inv (n0+((live.take i).filter p).length+1) r.2)(hk:∀s,Inv (n0+(live.filter p).length) s->Sat (kb ((n0+(live.filter p).length:Nat):Int) (p6+1) (none,s)) R)(s:σ)(hs:Inv n0 s):Sat (cZ N kb (cN φ) b p6 live N (n0:Int) 0 (none,s)) R:=by
 have hfl: ∀i,((live.take i).filter p).length<=2000:=fun i=>YC (XY _ _) (by rw [YY];omega)
 refine jv (fun k i (st:Nat×σ)=>cZ N kb (cN φ) b p6 live k (st.1:Int) (i:Int) (none,st.2)) live.length (fun i st=>st.1=n0+((live.take i).filter p).length/\Inv st.1 st.2) _ ?_ ?_ N 0 (n0,s) I I ⟨by simp,hs⟩
 ·rintro k i ⟨n,st⟩ hi ⟨h1,h2⟩ go;simp only at h1 h2;have hb:=hfl i;show Sat (cZ N kb (cN φ) b p6 live (k+1) (n:Int) (i:Int) (none,st)) _;have hnx:=JE (p:=p) hi;rw [cZ.eq_2,fN I,ct,aK hi,bs, <-hp];unfold me;rw [r64 (a:=(i:Int)+1) I I];cases hq:p live[i]
  ·simp only [nf,ct];rw [hq] at hnx;have hg:=go (n,st) ⟨by show n=_;rw [hnx];exact h1,h2⟩
   first|rw [r64 (a:=(i:Int)+1) I I]|skip
   exact hg
  simp only [nt,cf];rw [hq] at hnx;obtain ⟨⟨e,s'⟩,g1,g2,g3⟩:=hstep i hi st hq (by rw [<-h1];exact h2);simp only at g2 g3;subst g2
  have hf:cN φ ((n:Int),live[i]) (none,st)=some (true,(none,s')):=by
   unfold cN;simp only;rw [h1,g1];rfl
  rw [hf,bs];simp only [nt,cf];rw [r64 (a:=(n:Int)+1) I I];have hg:=go (n+1,s') ⟨by show n+1=_;rw [hnx];show n+1=_+(_+1);omega,by show Inv (n+1) s';rw [h1];exact g3⟩
  first|rw [r64 (a:=(i:Int)+1) I I]|skip
  exact hg
 rintro k ⟨n,st⟩ ⟨h1,h2⟩;simp only [Y0] at h1 h2;show Sat (cZ N kb (cN φ) b p6 live (k+1) (n:Int) _ (none,st)) _;rw [cZ.eq_2,fC I,cf];unfold qm;rw [r64 I I,h1];exact hk st (by rw [<-h1];exact h2)
theorem E7 (N:Nat)(φ:Int×Int->σ->Option (Option Exit×σ))(live:List Int)(hl:live.length<=2000)(hN:6500<N)(Inv:Nat->σ->Prop)(hstep:∀n a s,(ql live)[n]? =some a->Inv n s->Sat (φ ((n:Int),a) s) fun r=>r.1=none/\Inv (n+1) r.2)(s:σ)(hs:Inv 0 s):Sat (gq N live (cN φ) (none,s)) fun r=>r.1=none/\Inv (ql live).length r.2:=by
 obtain ⟨k,rfl⟩: ∃k,N=k+3:=⟨N - 3,by omega⟩;have hev:(live.filter wU).length<=2000:=YC (XY _ _) hl;unfold gq;rw [fB.eq_2,show ((([0,1]:List Int).length:Int))=2 from rfl,fN I,ct,show aq ([0,1]:List Int) 0=some 0 from rfl,bs];refine E6 (k+3) φ live hl I _ 0 wU (fun _=>J) 0 I 0 I Inv _ (fun i hi st hp hi2=> ?_) (fun st hst=> ?_) s hs
 ·refine hstep _ _ _ ?_ hi2;unfold ql;rw [XH]
  ·rw [YH];exact zh hi hp
  have:=(XO.1 (zh hi hp)).1;omega
 rw [fB.eq_2,show ((([0,1]:List Int).length:Int))=2 from rfl,fN I,ct,show aq ([0,1]:List Int) (0+1)=some 1 from rfl,bs];refine E6 (k+3) φ live hl I _ 1 Gm (fun _=>J) (0+1) I (0+(live.filter wU).length) I Inv _ (fun i hi st hp hi2=> ?_) (fun st hst=> ?_) st hst
 ·refine hstep _ _ _ ?_ hi2;unfold ql;rw [XI I,show 0+(live.filter wU).length+((live.take i).filter Gm).length - (live.filter wU).length=((live.take i).filter Gm).length by omega];exact zh hi hp
 rw [fB.eq_2,show ((([0,1]:List Int).length:Int))=2 from rfl,fC I,cf];refine ac ⟨J,?_⟩;unfold ql;rw [YX]
 have e:0+(live.filter wU).length+(live.filter Gm).length=(live.filter wU).length+(live.filter Gm).length:=by omega
 rw [<-e];exact hst
theorem NL {w:WV}(h:v.Za=w.Za):bK v=bK w:=by unfold bK;rw [h]
def fT (c:WI):List Int:=gr c++pQ c
def se (c:WI):Bool:=(fP N c).getD false
theorem Ob (c:WI):(fT c).length<=c.Zc.length+2*c.Zb.length:=by
 have h1:=t8 c;have h2:=ut c;unfold fT;rw [YX];omega
theorem BU: ∀l:List WI,(l.flatMap fT).length<=2*wt l
 | []=>by simp [wt]
 |c::l=>by
  have h1:=BU l;have h2:=Ob c;rw [XF,YX,wt];omega
theorem KM (N:Nat)(m:WK)(l:List Int)(hl:l.length<N)(a6:l.length<=6000)(h64:∀x∈l,in64 x):cI N l (fun x=>jl N x m)=some (!vX m l):=by
 have key: ∀k i:Nat,l.length<k+i->i<=l.length->Sat (dO N (fun x=>jl N x m) l k (i:Int)) fun r=>decide (0<=r)=!(l.drop i).all (aZ m):=by
  intro k
  induction k with
  |zero=>intro i h1 h2;omega
  | succ k ih=>
   intro i h1 h2;rw [dO.eq_2];by_cases hi:i<l.length
   ·have h3:=ih (i+1) I hi;rw [show (((i+1:Nat)):Int)=(i:Int)+1 by omega] at h3;rw [fN I,ct,aK hi,bs,Xv hi,List.all_cons];unfold jl;rw [Fy N m _ (h64 _ (Y5 _)),bs,bs,r64 I I];cases aZ m l[i]
    ·exact ac (by rw [WY I];rfl)
    exact h3
   rw [fC I,cf,Xw I];exact ac J
 obtain ⟨r,h1,h2⟩:=key N 0 I I;have h1':dO N (fun x=>jl N x m) l N 0=some r:=h1;unfold cI lI;rw [h1',bs,h2];unfold vX;simp
def ox (m:WK)(roots:List WV):Int:=
 bif (m.Zh++m.Zj).all (se N) then bif vX m ((m.Zh++m.Zj).flatMap fT++dG roots) then 0 else 50 else 51
theorem FY (N:Nat)(hN:6500<N){roots:List WV}(hs:Small m roots)(ht:Wtd m roots)(hw:W64 m)(hr:∀v∈roots,in64 v.N):mH N m roots=some (ox N m roots):=by
 have hle:=ht.le;have h1:=hs.young;have h2:=hs.old;have h3:=hs.roots
 have a64: ∀(l:List WI),(∀c∈l,c∈m.Zh++m.Zj)-> ∀x∈l.flatMap fT,in64 x:=fun l hl x hx=>by
  obtain ⟨c,hc,hx⟩:=List.mem_flatMap.1 hx;obtain ⟨⟨-,g1⟩, -,g2⟩:=MO hs hw (hl c hc);exact (X7.1 hx).elim (g1 x) (g2 x)
 have r64': ∀x∈dG roots,in64 x:=fun x hx=>by
  obtain ⟨v,h1, -,rfl⟩:=tt.1 hx;exact hr v h1
 have hal: ∀k,(dG (roots.take k)).length<=roots.length:=fun k=>by
  unfold dG;rw [YZ];exact YC (XY _ _) (by rw [YY];omega)
 -- the roots
 have hroots: ∀q:List Int,q.length+roots.length<=5800->(∀x∈q,in64 x)->qo N roots m q=some (bif vX m (q++dG roots) then 0 else 50):=by
  intro q hq a6;apply Sat.eq;unfold qo;refine jv (fun k i (s:List Int)=>fR N roots m k s (i:Int)) roots.length (fun i s=>s=q++dG (roots.take i)) _ ?_ ?_ N 0 q I I (by simp [dG])
  ·rintro k i s hi h1 go;show Sat (fR N roots m (k+1) s (i:Int)) _
   have hnext:q++dG (roots.take (i+1))=s++dG [roots[i]]:=by rw [cj hi,C8,h1,W2]
   have hsl:s.length<=5800:=by have:=hal i;rw [h1,YX];omega
   rw [fR.eq_2,fN I,ct,aK hi,bs,vL,bs];unfold o5;cases hb:bK roots[i]
   ·rw [cf,r64 I I];exact go s (by rw [hnext];simp [dG,hb])
   rw [ct,rF (by simp;omega),r64 I I];exact go _ (by rw [hnext];simp [dG,hb])
  rintro k s h1;show Sat (fR N roots m (k+1) s _) _;rw [Y0] at h1
  have hsl:s.length<=5800:=by have:=hal roots.length;rw [Y0] at this;rw [h1,YX];omega
  rw [fR.eq_2,fC I,cf];unfold si;rw [KM N m s I I (fun x hx=>by rw [h1] at hx;exact (X7.1 hx).elim (a6 x) (r64' x)),bs, <-h1];cases vX m s<;>exact ac rfl
 -- one row
 have row: ∀(kb:List Int->Int->Option Int) (p:Int) (l:List WI) (q:List Int),in64 (p+1)->l.length<=600->wt l<=2900->(∀c∈l,c∈m.Zh++m.Zj)->q.length<=6000->ms N kb m p l roots N q 0=bif l.all (se N) then kb (q++l.flatMap fT) (p+1) else some 51:=by
  intro kb p l q hp hll hl a7 hq
  have key: ∀(k i:Nat),l.length<k+i->i<=l.length->ms N kb m p l roots k (q++(l.take i).flatMap fT) (i:Int)=bif (l.drop i).all (se N) then kb (q++l.flatMap fT) (p+1) else some 51:=by
   intro k
   induction k with
   |zero=>intro i h1 h2;omega
   | succ k ih=>
    intro i h4 h5;have hfl:=BU (l.take i)
    have hwt:wt (l.take i)<=wt l:=by
     have:=Ek (l.take i) (l.drop i);rw [Yq] at this;omega
    by_cases hi:i<l.length
    ·have hm:=a7 l[i] (Y5 _);have hc:=hs.cells _ hm;have hwi:=Qq hi
     have hwt2:wt (l.take (i+1))<=wt l:=by
      have:=Ek (l.take (i+1)) (l.drop (i+1));rw [Yq] at this;omega
     obtain ⟨b,hb, -⟩:=GJ N I l[i] I I
     have hrc:se N l[i]=b:=by unfold se;rw [hb];rfl
     have e1:=t8 l[i];have e2:=ut l[i];have h6:=ih (i+1) I hi;rw [show (((i+1:Nat)):Int)=(i:Int)+1 by omega] at h6;rw [ms.eq_2,fN I,ct,aK hi,bs,AY N I _ I I,hb,bs,Az N I _ I I,bs,YX,rF I,Dd N I _ I I,bs,YX,YX,rF I,r64 I I]
     have hap:q++(l.take i).flatMap fT++gr l[i]++pQ l[i]=q++(l.take (i+1)).flatMap fT:=by
      rw [cj hi,XE];simp [fT,W2]
     rw [hap,h6,Xv hi,List.all_cons,hrc];cases b<;>rfl
    have e:i=l.length:=by omega
    subst e;rw [ms.eq_2,fC I,cf,List.drop_length,Y0];unfold sj;rw [cU hp];rfl
  have:=key N 0 I I;simpa using this
 have hwy:wt m.Zh<=2900:=by omega
 have hwo:wt m.Zj<=2900:=by omega
 have hfy:=BU m.Zh;have hfo:=BU m.Zj;obtain ⟨k,rfl⟩: ∃k,N=k+3:=⟨N - 3,by omega⟩;unfold mH ox;rw [ns.eq_2,show ((([m.Zh,m.Zj]:List W6).length:Int))=2 from rfl,fN I,ct,show aq ([m.Zh,m.Zj]:List W6) 0=some m.Zh from rfl,bs,row _ 0 m.Zh [] (by unfold in64;omega) h1 hwy (fun c hc=>W3 _ hc) (by simp)];rw [ns.eq_2,show ((([m.Zh,m.Zj]:List W6).length:Int))=2 from rfl,fN I,ct,show aq ([m.Zh,m.Zj]:List W6) (0+1)=some m.Zj from rfl,bs,Y4,row _ (0+1) m.Zj (m.Zh.flatMap fT) (by unfold in64;omega) h2 hwo (fun c hc=>W4 _ hc) I]
 rw [ns.eq_2,show ((([m.Zh,m.Zj]:List W6).length:Int))=2 from rfl,fC I,cf,hroots _ (by rw [YX];omega) (fun x hx=>by
  rw [<-XE] at hx
  exact a64 _ (fun c hc=>hc) x hx),List.all_append,XE]
 cases m.Zh.all (se (k+3))<;>cases m.Zj.all (se (k+3))<;>rfl
def tl (f:List Int)(a:Int):Int:=2*((f.idxOf a:Nat):Int)+2
def fX (ρ:Int->Int)(f:List Int)(v:WV):WV:=bif bK v&&decide (v.N∈f) then ⟨v.Za,ρ v.N,v.S⟩ else v
def rX (ρ:Int->Int)(f:List Int)(c:WI):WI:=⟨c.Za,c.Zi,c.Ze,c.Zg,c.Zc.map (fX ρ f),c.Zb.map (fX ρ f)⟩
def RhoM (kv:List (Int×Int))(f:List Int):Prop:= ∀x,lk kv x=if x∈f then some (tl f x) else none
theorem ww (N:Nat)(hN:6500<N)(l:List WV)(hl:l.length<=6000)(kv:List (Int×Int))(f:List Int)(hk:RhoM kv f):ej N l kv=some (l.map (fX (tl f) f)):=by
 apply Sat.eq;unfold ej;refine jv (fun k i (s:List WV)=>gZ N l kv k s (i:Int)) l.length (fun i s=>s=(l.take i).map (fX (tl f) f)) _ ?_ ?_ N 0 [] I I J
 ·rintro k i s hi h1 go;show Sat (gZ N l kv (k+1) s (i:Int)) _
  have hsl:s.length<=i:=by rw [h1,YZ,YY];omega
  have hnext:(l.take (i+1)).map (fX (tl f) f)=s++ [fX (tl f) f l[i]]:=by rw [cj hi,X4,h1];rfl
  rw [gZ.eq_2,fN I,ct,aK hi,bs,hk l[i].N,vL];unfold o4;by_cases hm:l[i].N∈f
  ·rw [if_pos hm];simp only [bs,Option.isSome_some,ct];cases hb:bK l[i]
   ·rw [cf,rF (by simp;omega),r64 I I];refine go _ ?_;rw [hnext];unfold fX;rw [hb];rfl
   rw [ct,rF (by simp;omega),r64 I I];refine go _ ?_;rw [hnext];unfold fX;rw [hb,WY hm];rfl
  rw [if_neg hm];simp only [bs,Option.isSome_none,cf];rw [rF (by simp;omega),r64 I I];refine go _ ?_;rw [hnext];unfold fX;rw [WZ hm,Xf];rfl
 rintro k s h1;show Sat (gZ N l kv (k+1) s _) _;rw [gZ.eq_2,fC I,cf];exact ac (by rw [h1,Y0])
def qI (l:List Int)(c:WI):WI:=bif decide (c.Za=8) then sq N l c else bif decide (c.Za=10) then (FX l c).1 else c
def um (l:List Int)(c:WI):List WV:=bif decide (c.Za=10) then (FX l c).2 else []
theorem Eg (N:Nat)(l:List Int)(c:WI):(qI N l c).Zc.length=c.Zc.length/\(qI N l c).Zb.length+(um l c).length<=c.Zb.length:=by
 unfold qI um;by_cases h8:c.Za=8
 ·rw [WY h8,WZ (p:=c.Za=10) I];have:=Ln N l c;simp only [cond_true,cond_false,XZ];omega
 rw [WZ h8];by_cases h10:c.Za=10
 ·rw [WY h10];have:=Pb l (c.Zb.headD nW) (c.Zb.drop 1);rw [XX] at this;unfold FX;refine ⟨J,?_⟩;show (c.Zb.take 1++fe l (c.Zb.drop 1)).length+(pT l (c.Zb.headD nW) (c.Zb.drop 1)).length<=c.Zb.length;rw [YX,YY]
  cases hm:c.Zb with
  |nil=>rw [hm] at this;simp [fe,pT]
  |cons a r=>rw [hm] at this;simp only [XW] at this⊢;omega
 rw [WZ h10];simp
theorem RhoM.nil:RhoM [] []:=fun x=>rfl
theorem RhoM.add {kv:List (Int×Int)}(hi:i<f.length)(h:RhoM kv (f.take i))(hn:f.Nodup):RhoM (yI kv f[i] (2*(i:Int)+2)) (f.take (i+1)):=by
 intro x
 have hlen:(f.take i).length=i:=by rw [YY];omega
 have hni:f[i]∉f.take i:=by
  intro hm;obtain ⟨j,hj,e⟩:=XV hm;rw [YY] at hj;rw [List.getElem_take] at e;exact Yl.1 (List.nodup_iff_pairwise_ne.1 hn) j i I hi I e
 rw [Pa,cj hi];unfold tl;rw [List.idxOf_append];by_cases e:f[i]=x
 ·rw [if_pos e, <-e,if_pos (W4 _ (by simp)),if_neg hni];simp [hlen]
 rw [if_neg e,h x];by_cases hm:x∈f.take i
 ·rw [if_pos hm,if_pos (W3 _ hm),if_pos hm];rfl
 rw [if_neg hm,if_neg (by simp only [X7,Yh];exact fun hh=>hh.elim hm fun hh=>e hh.symm)]
structure Coll where
 next:WK
 now:List WV
 gone:List WV
def JQ (m:WK)(roots:List WV)(live f:List Int):Coll:=
 ⟨⟨[],f.map fun a=>rX (tl f) f (qI N live (cn m a))⟩,roots.map (fX (tl f) f),(f.flatMap fun a=>um live (cn m a)).map (fX (tl f) f)⟩
structure Mild (g:WV->WV):Prop where
 z:g vZ=vZ
 kind: ∀v,(g v).Za=v.Za
 num: ∀v,v.Za=3->g v=v
 may: ∀v,ln v=true->ln (g v)=true
section
variable {g:WV->WV}(h:Mild g)
include h
theorem Mild.at_ (l:List WV)(i:Nat):rK (l.map g) i=g (rK l i):=by
 unfold rK;simp only [List.getD,XP]
 cases l[i]? with
 |none=>exact h.z.symm
 |some v=>rfl
theorem Mild.numB (v:WV)(a b:Int):Go.Proofs.YtmcifcmlojonnaaGreatDoor.numB (g v) a b=Go.Proofs.YtmcifcmlojonnaaGreatDoor.numB v a b:=by
 unfold Go.Proofs.YtmcifcmlojonnaaGreatDoor.numB;by_cases h3:v.Za=3
 ·rw [h.num v h3]
 rw [h.kind,WZ h3];rfl
theorem Mild.noneB (v:WV)(k:Int):Go.Proofs.YtmcifcmlojonnaaGreatDoor.noneB (g v) k=Go.Proofs.YtmcifcmlojonnaaGreatDoor.noneB v k:=by
 unfold Go.Proofs.YtmcifcmlojonnaaGreatDoor.noneB;rw [h.kind]
theorem Mild.ent2: ∀l:List WV,uf (l.map g)=uf l
 | []=>rfl
 | [_]=>rfl
 |k::v::r=>by
  simp only [X5];simp only [rt];rw [h.kind,h.kind,Mild.ent2 r]
theorem Mild.ent4: ∀l:List WV,oM (l.map g)=oM l
 | []=>rfl
 | [_]=>rfl
 | [_,_]=>rfl
 | [_,_,_]=>rfl
 |t::v::k::s::r=>by
  simp only [X5];simp only [rq];rw [h.kind,h.kind,h.noneB,h.numB,Mild.ent4 r]
theorem Mild.slots (k sh fl:Int)(l:List WV):oh k sh fl (l.map g)=oh k sh fl l:=by
 unfold oh;simp only [YZ,h.at_,h.kind,h.noneB]
theorem Mild.more (k:Int)(l:List WV):rY k (l.map g)=rY k l:=by
 unfold rY;rw [<-List.map_drop,h.ent2,h.ent4];simp only [YZ,h.at_,h.kind,h.noneB,h.numB]
theorem Mild.all {l:List WV}(hl:l.all ln=true):(l.map g).all ln=true:=by
 rw [Xq] at hl⊢;intro v hv;obtain ⟨w,hw,rfl⟩:=Yc.1 hv;exact h.may w (hl w hw)
theorem Mild.right (hc:bN c=true):bN ⟨c.Za,c.Zi,c.Ze,c.Zg,c.Zc.map g,c.Zb.map g⟩=true:=by
 unfold bN at hc⊢;simp only [Y3] at hc;obtain ⟨h1,h2,h3,h4,h5⟩:=hc;simp only [h.slots,h.more,h.all h2,h.all h3,h4,h5,Bool.and_true];simp only [Y3];exact h1
end
theorem LU (hb:bK v=true):ln v=((v.S.toList==(⟨#[]⟩:ByteArray).toList)&&decide (1<=v.N)):=by
 have hk:v.Za=7\/v.Za=9:=by
  unfold bK at hb;rw [Bool.or_eq_true,YT,YT] at hb;exact hb
 unfold ln dK;rcases hk with hk|hk<;>rw [hk]<;>cases (v.S.toList==(⟨#[]⟩:ByteArray).toList)<;>rfl
structure Ren (ρ:Int->Int) (f:List Int):Prop where
 inj: ∀a b,a∈f->b∈f->ρ a=ρ b->a=b
 pos: ∀a∈f,1<=ρ a
theorem O2 {ρ:Int->Int}(hρ:Ren ρ f):Mild (fX ρ f) where
 z:=rfl
 kind v:=by unfold fX;cases bK v&&decide (v.N∈f)<;>rfl
 num v h:=by
  have:bK v=false:=by unfold bK;rw [h];rfl
  unfold fX;rw [this];rfl
 may v h:=by
  cases hb:bK v&&decide (v.N∈f) with
  |false=>unfold fX;rw [hb];exact h
  |true=>
   have a6:=(Y3 _ _▸hb:bK v=true/\decide (v.N∈f)=true);have a7:=a6.1
   have e:fX ρ f v=⟨v.Za,ρ v.N,v.S⟩:=by unfold fX;rw [hb];rfl
   have a8:bK (⟨v.Za,ρ v.N,v.S⟩:WV)=true:=a7;rw [e,LU a8];rw [LU a7,Y3] at h;rw [Y3];exact ⟨h.1,WY (hρ.pos _ (YV a6.2))⟩
theorem Nx {ρ:Int->Int}(hρ:Ren ρ f)(h:bN c=true):bN (rX ρ f c)=true:=(O2 hρ).right h
theorem ux (h:bN c=true):c.Zc.all ln=true/\c.Zb.all ln=true/\rY c.Za c.Zb=true:=by
 unfold bN at h;simp only [Y3] at h;exact ⟨h.2.1,h.2.2.1,h.2.2.2.2⟩
theorem ED (h:bN c=true){m:List WV}(h1:m.all ln=true)(h2:rY c.Za m=true):bN ⟨c.Za,c.Zi,c.Ze,c.Zg,c.Zc,m⟩=true:=by
 unfold bN at h⊢;simp only [Y3] at h;obtain ⟨g1,g2,g3,g4,g5⟩:=h;simp only [g2,h1,g4,h2,Bool.and_true];simp only [Y3];exact g1
theorem FS (p:Int->Bool): ∀{l:List WV},uf l=true->uf (jR p l)=true
 | [],_=>rfl
 | [_],h=>by cases h
 |k::v::r,h=>by
  rw [rt] at h;rw [Y3] at h;have ih:=FS p h.2;simp only [DB];cases p k.N
  ·exact ih
  show uf (k::v::jR p r)=true;simp only [rt];rw [h.1,ih];rfl
theorem Hi (lv:List Int): ∀{l:List WV},oM l=true->oM (fe lv l)=true
 | [],_=>rfl
 | [_],h=>by cases h
 | [_,_],h=>by cases h
 | [_,_,_],h=>by cases h
 | t::v::k::s::r,h=>by
  rw [rq] at h;rw [Y3,Y3,Y3,Y3] at h;obtain ⟨⟨⟨h1,h2⟩,h3,h4⟩,h5⟩:=h;have ih:=Hi lv h5;simp only [AA];cases decide (t.N∈lv)
  ·exact ih
  show oM (t::v::(bif decide (k.Za=7)&& !decide (k.N∈lv) then nW else k)::s::fe lv r)=true;simp only [rq]
  have h6:noneB (bif decide (k.Za=7)&& !decide (k.N∈lv) then nW else k) 7=true:=by
   cases decide (k.Za=7)&& !decide (k.N∈lv)
   ·exact h3
   rfl
  rw [h1,h2,h6,h4,ih];rfl
theorem Ft (lv:List Int){x:WV}: ∀{l:List WV},x∈fe lv l->x∈l\/x=nW
 | [],h=>by simp [fe] at h
 | [_],h=>by simp [fe] at h
 | [_,_],h=>by simp [fe] at h
 | [_,_,_],h=>by simp [fe] at h
 | t::v::k::s::r,h=>by
  simp only [AA] at h;rcases X7.1 h with h|h
  ·cases hd:decide (t.N∈lv) with
   |false=>rw [hd] at h;cases h
   |true=>
    rw [hd] at h
    cases hk:decide (k.Za=7)&& !decide (k.N∈lv) with
    |false=>rw [hk] at h;simp at h;rcases h with h|h|h|h<;>subst h<;>simp
    |true=>rw [hk] at h;simp at h;rcases h with h|h|h|h<;>subst h<;>simp
  rcases Ft lv h with h|h
  ·exact .inl (by simp [h])
  exact .inr h
theorem O4:ln nW=true:=by kernel_rfl
theorem N2 (N:Nat)(lv:List Int)(h:bN c=true):bN (qI N lv c)=true:=by
 obtain ⟨h1,h2,h3⟩:=ux h;unfold qI;by_cases h8:c.Za=8
 ·rw [sX h8,cond_true];unfold sq;cases ua N c
  ·exact h
  refine ED h (m:=jR (fun x=>decide (x∈lv)) c.Zb) ?_ ?_
  ·rw [Xq] at h2⊢
   exact fun v hv=>h2 v (AJ hv)
  rw [h8] at h3⊢;exact FS _ h3
 rw [jo h8,cond_false];by_cases h10:c.Za=10
 ·rw [sX h10,cond_true];rw [h10] at h3;have h3':(decide (1<=c.Zb.length)&&decide ((rK c.Zb 0).Za=7)&&oM (c.Zb.drop 1))=true:=h3;simp only [Y3,YT] at h3';obtain ⟨⟨g1,g2⟩,g3⟩:=h3';refine ED h (m:=c.Zb.take 1++fe lv (c.Zb.drop 1)) ?_ ?_
  ·rw [Xq] at h2⊢;intro v hv;rcases X7.1 hv with hv|hv
   ·exact h2 v (Ye hv)
   rcases Ft lv hv with hv|rfl
   ·exact h2 v (List.mem_of_mem_drop hv)
   exact O4
  rw [h10];show (decide (1<=(c.Zb.take 1++fe lv (c.Zb.drop 1)).length)&&decide ((rK (c.Zb.take 1++fe lv (c.Zb.drop 1)) 0).Za=7)&&oM ((c.Zb.take 1++fe lv (c.Zb.drop 1)).drop 1))=true
  obtain ⟨a,r,hr⟩: ∃a r,c.Zb=a::r:=by
   cases hm:c.Zb with
   |nil=>rw [hm] at g1;simp at g1
   |cons a r=>exact ⟨a,r,rfl⟩
  rw [hr] at g2 g3⊢;have e1:(a::r).take 1++fe lv ((a::r).drop 1)=a::fe lv r:=rfl;rw [e1];have g3':oM r=true:=g3;have g2':a.Za=7:=g2;simp only [Y3,YT];exact ⟨⟨by simp,g2'⟩,Hi lv g3'⟩
 rw [jo h10,cond_false];exact h
end
section
open Go.RowKit
def cK {α:Type}(g:α->Nat):List α->Nat
 | []=>0
 |a::l=>g a+cK g l
theorem AS (g:α->Nat): ∀a b:List α,cK g (a++b)=cK g a+cK g b
 | [],b=>by simp [cK]
 |c::a,b=>by rw [Xu,cK,cK,AS g a b];omega
theorem MT (g:α->Nat){a b:List α}(h:a.Perm b):cK g a=cK g b:=by
 induction h with
 |nil=>rfl
 |cons x _ ih=>rw [cK,cK,ih]
 |swap x y l=>rw [cK,cK,cK,cK];omega
 |trans _ _ h1 h2=>rw [h1,h2]
theorem xv (g:Int->Nat): ∀{l L:List Int},l.Nodup->(∀x∈l,x∈L)->cK g l<=cK g L
 | [],_,_,_=>YI _
 |a::l,L,hn,hs=>by
  obtain ⟨h1,h2⟩:=Yj.1 hn;have hp:=List.perm_cons_erase (hs a (by simp));rw [MT g hp,cK,cK]
  have:=xv g (l:=l) (L:=L.erase a) h2 fun x hx=>(List.mem_erase_of_ne (fun e:x=a=>h1 (by rw [<-e];exact hx))).2 (hs x (by simp [hx]))
  omega
theorem xw (g:β->Nat)(f:α->β): ∀l:List α,cK g (l.map f)=cK (fun x=>g (f x)) l
 | []=>rfl
 |x::l=>by rw [X5,cK,cK,xw g f l]
theorem HJ {g h:α->Nat}: ∀{l:List α},(∀x∈l,g x<=h x)->cK g l<=cK h l
 | [],_=>YB _
 |x::l,hh=>by
  rw [cK,cK];have h1:=hh x (by simp)
  have h2:=HJ (l:=l) fun y hy=>hh y (by simp [hy])
  omega
theorem yi (f:α->List β): ∀l:List α,(l.flatMap f).length=cK (fun x=>(f x).length) l
 | []=>rfl
 |x::l=>by rw [XF,YX,cK,yi f l]
theorem AT (g h:α->Nat): ∀l:List α,cK (fun x=>g x+h x) l=cK g l+cK h l
 | []=>rfl
 |x::l=>by rw [cK,cK,cK,AT g h l];omega
def wC (c:WI):Nat:=1+c.Zc.length+c.Zb.length
theorem HC: ∀l:List WI,wt l=cK wC l
 | []=>rfl
 |c::l=>by rw [wt,cK,HC l];rfl
def Gx (m:WK):List Int:=(List.range m.Zh.length).map (fun i:Nat=>2*(i:Int)+1)++(List.range m.Zj.length).map (fun i:Nat=>2*(i:Int)+2)
theorem yy (m:WK)(i:Nat)(h:i<m.Zh.length):cn m (2*(i:Int)+1)=m.Zh[i]:=by
 unfold cn kF;rw [if_neg I,if_pos I,show ((2*(i:Int)+1 - 1) / 2).toNat=i by omega,XM h];rfl
theorem wX (m:WK)(i:Nat)(h:i<m.Zj.length):cn m (2*(i:Int)+2)=m.Zj[i]:=by
 unfold cn kF;rw [if_neg I,if_neg I,show ((2*(i:Int)+2 - 2) / 2).toNat=i by omega,XM h];rfl
theorem CW (m:WK)(i:Nat):aZ m (2*(i:Int)+1)=decide (i<m.Zh.length):=by
 unfold aZ kF;rw [if_neg I,if_pos I,show ((2*(i:Int)+1 - 1) / 2).toNat=i by omega];by_cases h:i<m.Zh.length
 ·rw [XM h,WY h];rfl
 rw [XN I,WZ h];rfl
theorem yh (m:WK)(i:Nat):aZ m (2*(i:Int)+2)=decide (i<m.Zj.length):=by
 unfold aZ kF;rw [if_neg I,if_neg I,show ((2*(i:Int)+2 - 2) / 2).toNat=i by omega];by_cases h:i<m.Zj.length
 ·rw [XM h,WY h];rfl
 rw [XN I,WZ h];rfl
theorem J0 (m:WK):(Gx m).map (cn m)=m.Zh++m.Zj:=by
 unfold Gx;rw [X4,List.map_map,List.map_map]
 congr 1
 ·refine List.ext_getElem (by simp) fun i h1 h2=> ?_
  simp only [XU,List.getElem_range,Function.comp];exact yy m i h2
 refine List.ext_getElem (by simp) fun i h1 h2=> ?_
 simp only [XU,List.getElem_range,Function.comp];exact wX m i h2
theorem jm (h:aZ m a=true):(∃i:Nat,i<m.Zh.length/\a=2*(i:Int)+1)\/ ∃i:Nat,i<m.Zj.length/\a=2*(i:Int)+2:=by
 rcases wL m a with ⟨h1,h2⟩|⟨k,h1, -⟩|⟨k,h1, -⟩
 ·unfold aZ at h;rw [h2] at h;cases h
 ·subst h1;rw [CW] at h;exact .inl ⟨k,YV h,J⟩
 subst h1;rw [yh] at h;exact .inr ⟨k,YV h,J⟩
theorem BB (h:aZ m a=true):a∈Gx m:=by
 unfold Gx;rcases jm h with ⟨i,h1,rfl⟩|⟨i,h1,rfl⟩
 ·exact W3 _ (Yc.2 ⟨i,Yg.2 h1,J⟩)
 exact W4 _ (Yc.2 ⟨i,Yg.2 h1,J⟩)
theorem Ov (hn:l.Nodup)(hh:∀a∈l,aZ m a=true):cK (fun a=>wC (cn m a)) l<=wt m.Zh+wt m.Zj:=by
 have h1:=xv (fun a=>wC (cn m a)) hn fun a ha=>BB (hh a ha)
 have h2:=xw wC (cn m) (Gx m);rw [J0, <-HC,Ek] at h2;omega
theorem pf (h:aZ m a=true):cn m a∈m.Zh++m.Zj:=by
 unfold aZ at h;unfold cn
 cases hc:kF m a with
 |none=>rw [hc] at h;cases h
 |some c=>exact wJ hc
theorem IT (h:0<a):a.tmod 2=0\/a.tmod 2=1:=by
 rw [uv I];omega
theorem KN (hp:∀a∈live,0<a)(a:Int):a∈ql live↔a∈live:=by
 unfold ql wU Gm;rw [X7,Yb,Yb,YT,YT];constructor
 ·rintro (h|h)<;>exact h.1
 intro h;rcases IT (hp a h) with h2|h2
 ·exact .inl ⟨h,h2⟩
 exact .inr ⟨h,h2⟩
theorem Ff: ∀{live:List Int},(∀a∈live,0<a)->(ql live).length=live.length
 | [],_=>rfl
 | a::l,hp=>by
  have ih:=Ff (live:=l) fun b hb=>hp b (by simp [hb])
  unfold ql at ih⊢;rw [YX] at ih⊢;rcases IT (hp a (by simp)) with h|h
  ·have e1:wU a=true:=WY h;have e2:Gm a=false:=WZ I;simp only [XC,e1,e2,if_true,Xh,if_false,XW];omega
  have e1:wU a=false:=WZ I;have e2:Gm a=true:=WY h;simp only [XC,e1,e2,if_true,Xh,if_false,XW];omega
theorem Nu (h:live.Pairwise (· < ·)):(ql live).Pairwise fun a b=> ¬(a.tmod 2=1/\b.tmod 2=0)/\(a.tmod 2=b.tmod 2->a<b):=by
 have hev: ∀a∈live.filter wU,a.tmod 2=0:=fun a ha=>YV (Yb.1 ha).2
 have hod: ∀a∈live.filter Gm,a.tmod 2=1:=fun a ha=>YV (Yb.1 ha).2
 unfold ql;refine List.pairwise_append.2 ⟨(h.filter _).imp_of_mem fun {a b} ha hb hlt=>⟨fun hh=> ?_,fun _=>hlt⟩,(h.filter _).imp_of_mem fun {a b} ha hb hlt=>⟨fun hh=> ?_,fun _=>hlt⟩,fun a ha b hb=>⟨fun hh=> ?_,fun hh=> ?_⟩⟩
 ·have:=hev a ha;omega
 ·have:=hod b hb;omega
 ·have:=hev a ha;omega
 have:=hev a ha;have:=hod b hb;omega
theorem IE {p:α->Bool}{l:List α}(h:l.all p=true){x:α}(hx:x∈l):p x=true:=Xq.1 h x hx
theorem Hr {N:Nat}{roots:List WV}(h:ox N m roots=0):(∀c∈m.Zh++m.Zj,se N c=true)/\(∀c∈m.Zh++m.Zj, ∀x∈fT c,aZ m x=true)/\ ∀x∈dG roots,aZ m x=true:=by
 unfold ox at h
 cases h1:(m.Zh++m.Zj).all (se N) with
 |false=>rw [h1] at h;cases h
 | true=>
  rw [h1] at h
  cases h2:vX m ((m.Zh++m.Zj).flatMap fT++dG roots) with
  |false=>rw [h2] at h;cases h
  |true=>
   unfold vX at h2;refine ⟨fun c hc=>IE h1 hc,fun c hc x hx=>IE h2 (W3 _ (List.mem_flatMap.2 ⟨c,hc,hx⟩)),fun x hx=>IE h2 (W4 _ hx)⟩
structure Live (N:Nat) (m:WK) (roots:List WV) (live f:List Int):Prop where
 ord: ∃b all,IsOrder (F5 N m) (dG roots) b all/\live=kG all/\f=ql live
 prog:nG N m roots=some live
 ref:ER N m roots=some live
 mem: ∀a,a∈f↔a∈live
 len:f.length=live.length
 small:live.length<=1200
 nd:f.Nodup
 asc:live.Pairwise (· < ·)
 has: ∀a∈live,aZ m a=true
theorem Nv (h:live.Pairwise (· < ·)):(ql live).Nodup:=by
 rw [List.nodup_iff_pairwise_ne]
 refine (Nu h).imp fun {a b} hab e=> ?_
 have:=hab.2 (by rw [e]);omega
theorem Q8 (N:Nat)(hN:6500<N){roots:List WV}(hs:Small m roots)(hw:W64 m)(hr:∀v∈roots,in64 v.N): ∃live f,Live N m roots live f:=by
 obtain ⟨bg,all,ho,hlen, -, -,o0⟩:=Nn N hN hs hw hr;obtain ⟨b',all',ho',r0, -⟩:=Kk N hN hs hw hr;obtain ⟨-,e2⟩:=ho.det ho';subst e2;have hll:(kG all).length=all.length:=yP all;have hmem:=vl all;have hasc:=GB ho.nodup.2
 have hhas: ∀a∈kG all,aZ m a=true:=fun a ha=>ho.has.2 a ((hmem a).1 ha)
 have hpos: ∀a∈kG all,0<a:=fun a ha=>vN (hhas a ha)
 refine ⟨kG all,ql (kG all),⟨⟨_,all,ho,J,J⟩,Q9 o0 I J,?_,KN hpos,Ff hpos,by omega,Nv hasc,hasc,hhas⟩⟩;unfold ER;rw [r0,bs,Kl N hN all I ho.nodup.2,bs]
theorem Live.fhas {N:Nat}{roots:List WV}(h:Live N m roots live f)(ha:a∈f):aZ m a=true:=h.has a ((h.mem a).1 ha)
theorem IS {N:Nat}{roots:List WV}(h:Live N m roots live f):(f.flatMap fun a=>um live (cn m a)).length+wt (f.map fun a=>rX (tl f) f (qI N live (cn m a)))<=wt m.Zh+wt m.Zj:=by
 have h1:=Ov h.nd fun a ha=>h.fhas ha
 rw [yi,HC,xw, <-AT];refine YC (HJ fun a ha=> ?_) h1;have:=Eg N live (cn m a);unfold wC rX;simp only [YZ];omega
theorem Cs {N:Nat}{roots:List WV}(h:Live N m roots live f)(n:Nat):((f.take n).flatMap fun a=>um live (cn m a)).length<=wt m.Zh+wt m.Zj:=by
 have h1:=IS h
 have h2:(f.flatMap fun a=>um live (cn m a))=((f.take n).flatMap fun a=>um live (cn m a))++((f.drop n).flatMap fun a=>um live (cn m a)):=by rw [<-XE,Yq]
 rw [h2,YX] at h1;omega
def PR (m:WK)(roots:List WV)(live f:List Int):WK×List WV×List WV×Int:=
 bif decide (ox N m roots=0) then ((JQ N m roots live f).next,(JQ N m roots live f).now,(JQ N m roots live f).gone,0) else (⟨[],[]⟩,[],[],ox N m roots)
theorem Iu (N:Nat)(hN:6500<N){roots:List WV}(hs:Small m roots)(ht:Wtd m roots)(hw:W64 m)(hr:∀v∈roots,in64 v.N)(hl:Live N m roots live f):o6 N m roots=some (PR N m roots live f):=by
 apply Sat.eq;have hle:=ht.le;have hlen:=hl.small;have hfl:=hl.len;unfold o6 PR;rw [FY N hN hs ht hw hr,bs];by_cases h0: ¬ox N m roots=0
 ·rw [jo h0];exact ac J
 replace h0:ox N m roots=0:=by omega
 rw [sX h0];simp only [nt,cf,ct];obtain ⟨c1,c2,c3⟩:=Hr h0;obtain ⟨_,_,_,hlv,hff⟩:=hl.ord;rw [hl.prog,bs];unfold mG;rw [bs];refine Sat.bind (E7 N (fun x st=>mW N roots m live x st) live I hN (fun n s=>RhoM s (f.take n)) ?_ [] ?_) ?_
 ·intro n a s ha h1;rw [<-hff] at ha;have hn:=(XO.1 ha).1;rw [XM hn,YN] at ha;unfold mW;simp only;rw [r64 I I,r64 I I];refine ac ⟨J,?_⟩;rw [<-ha];exact h1.add hn hl.nd
 ·simpa using RhoM.nil
 rintro ⟨e,kv⟩ ⟨g1,g2⟩;simp only at g1 g2;subst g1;rw [<-hff,Y0] at g2;unfold qT;simp only [bs]
 have hG: ∀a∈f,(qI N live (cn m a)).Zc.length<=600/\(qI N live (cn m a)).Zb.length<=2900:=fun a ha=>by
  have h1:=Eg N live (cn m a);have h2:=hs.at_ a;omega
 refine Sat.bind (E7 N (fun x st=>mV N roots m live (none,kv) x st) live I hN (fun n s=>s.1=(f.take n).map (fun a=>rX (tl f) f (qI N live (cn m a)))/\s.2=(f.take n).flatMap fun a=>um live (cn m a)) ?_ ([],[]) ⟨by simp,by simp⟩) ?_
 ·rintro n a ⟨p,q⟩ ha ⟨h1,h2⟩;rw [<-hff] at ha;simp only at h1 h2;have hn:=(XO.1 ha).1;have ham:a∈f:=Yd ha;rw [XM hn,YN] at ha
  have hpl:p.length<=2000:=by rw [h1,YZ,YY];omega
  have hql:q.length<=2900:=by have:=Cs hl n;rw [h2];omega
  have hq2:=Cs hl (n+1);have hat:=Iz N hs a (wz hs (hl.fhas ham));have hsm:=hs.at_ a;have hrt:=c1 _ (pf (hl.fhas ham));have hc:=hG a ham;rw [cj hn,ha,XE, <-h2,YX] at hq2;simp only [XF,List.flatMap_nil,Xr] at hq2
  -- the last part
  have last: ∀q',q'=q++um live (cn m a)->Sat (kp N roots m p live (none,kv) q' (qI N live (cn m a)).Za (qI N live (cn m a)).Zi (qI N live (cn m a)).Ze (qI N live (cn m a)).Zg (qI N live (cn m a)).Zc (qI N live (cn m a)).Zb) fun r=>r.1=none/\r.2.1=(f.take (n+1)).map (fun a=>rX (tl f) f (qI N live (cn m a)))/\r.2.2=(f.take (n+1)).flatMap fun a=>um live (cn m a):=by
   intro q' hq';unfold kp;rw [ww N hN _ I kv f g2,bs,ww N hN _ I kv f g2,bs,rF (by simp;omega)];refine ac ⟨J,?_,?_⟩
   ·rw [cj hn,X4, <-h1,ha];rfl
   rw [cj hn,XE, <-h2,ha,hq'];simp
  unfold mV;simp only;rw [hat,bs];unfold qI um at last;unfold um at hq2;by_cases h8:(cn m a).Za=8
  ·have hwm:ua N (cn m a)=true:=by unfold ua;rw [WY h8];exact hrt
   rw [sX h8,ct,Ll N hN live I _ hsm.1 hsm.2,bs,hwm,ct];rw [WY h8,WZ (p:=(cn m a).Za=10) I] at last;simp only [cond_true,cond_false,Xr] at last;exact last q J
  by_cases h10:(cn m a).Za=10
  ·have hwm:KZ N (cn m a)=true:=by unfold KZ;rw [WY h10];exact hrt
   rw [jo h8,cf,sX h10,ct,Gq N hN live I _ hsm.1 hsm.2,bs,hwm,ct];rw [WY h10] at hq2;rw [WZ h8,WY h10] at last;simp only [cond_true,cond_false] at last hq2;rw [rF I];exact last _ J
  rw [jo h8,cf,jo h10,cf];rw [WZ h8,WZ h10] at last;simp only [cond_true,cond_false,Xr] at last;exact last q J
 rintro ⟨e,p,q⟩ ⟨g1,g3,g4⟩;simp only at g1 g3 g4;subst g1;rw [<-hff,Y0] at g3 g4;have hrl:=hs.roots
 have hql:q.length<=2900:=by have:=Cs hl f.length;rw [Y0] at this;rw [g4];omega
 simp only;rw [ww N hN _ I kv f g2,bs,ww N hN _ I kv f g2,bs];refine ac ?_;unfold JQ;rw [g3,g4]
theorem Fw (h:a∈f):f.idxOf a<f.length:=List.idxOf_lt_length_iff.2 h
theorem Id (h:a∈f):f[f.idxOf a]'(Fw h)=a:=List.getElem_idxOf (Fw h)
theorem LG {b:Int}(ha:a∈f)(hb:b∈f)(h:tl f a=tl f b):a=b:=by
 unfold tl at h
 have e:f.idxOf a=f.idxOf b:=by omega
 have h1:=Id ha;have h2:=Id hb;rw [<-h1, <-h2]
 congr 1
theorem LF (f:List Int):Ren (tl f) f:=⟨fun _ _ h1 h2 h3=>LG h1 h2 h3,fun a _=>by unfold tl;omega⟩
theorem LT (ρ:Int->Int)(f:List Int)(v:WV):bK (fX ρ f v)=bK v:=NL (by unfold fX;cases bK v&&decide (v.N∈f)<;>rfl)
theorem CN {ρ:Int->Int}(h1:bK v=true)(h2:v.N∈f):fX ρ f v=⟨v.Za,ρ v.N,v.S⟩:=by
 unfold fX;rw [h1,WY h2];rfl
theorem D4 {F:Nat->WV->Bool}: ∀{i:Nat} {l:List WV} {j:Nat} {v:WV},l[j]? =some v->F (i+j) v=true->v.N∈pick F i l
 |i,w::l,0,v,h,hF=>by
  simp only [XK,YN] at h;subst h;rw [pG];rw [Nat.add_zero] at hF;rw [hF];simp
 |i,w::l,j+1,v,h,hF=>by
  simp only [XJ] at h;rw [pG];exact W4 _ (D4 (i:=i+1) h (by rw [show i+1+j=i+(j+1) by omega];exact hF))
 |i,[],j,v,h,_=>by simp at h
def oB (f:List Int)(l:List WV):Prop:= ∀v∈l,bK v=true->v.N∈f
theorem I0 (h:∀x∈gr c,x∈f):oB f c.Zc:=fun v hv hb=>by
 obtain ⟨j,hj,e⟩:=XV hv;refine h _ (W3 _ (D4 (j:=j) (by rw [XM hj,e]) hb))
theorem D7 (h:∀x∈gr c,x∈f){j:Nat}(hj:c.Zb[j]? =some v)(hw:oD c.Za j=false)(hb:bK v=true):v.N∈f:=
 h _ (W4 _ (D4 (j:=j) hj (by rw [YH,hw,hb];rfl)))
theorem Kb {k:Int}(h8:k≠8)(h10:k≠10)(i:Nat):oD k i=false:=by
 unfold oD;rw [jo h8,jo h10];rfl
theorem Hq {lv:List Int}(hlv:∀x,x∈lv↔x∈f): ∀{l:List WV},uf l=true->(∀x∈opens (fun x=>decide (x∈lv)) l,x∈f)->oB f (jR (fun x=>decide (x∈lv)) l)
 | [],_,_=>fun v hv=>by simp [jR] at hv
 | [_],h,_=>by cases h
 | k::v::r,h,ho=>by
  rw [rt] at h;rw [Y3] at h;rw [rd] at ho
  have ih:=Hq hlv h.2 fun x hx=>ho x (W4 _ hx)
  intro w hw hb;simp only [DB] at hw;rcases X7.1 hw with hw|hw
  ·cases hd:decide (k.N∈lv) with
   |false=>rw [hd] at hw;cases hw
   |true=>
    rw [hd] at hw;simp only [cond_true,X8,List.not_mem_nil,or_false] at hw;rcases hw with rfl|rfl
    ·exact (hlv _).1 (YV hd)
    exact ho _ (W3 _ (by rw [hb,hd];simp))
  exact ih w hw hb
theorem LZ {lv:List Int}(hlv:∀x,x∈lv↔x∈f): ∀{l:List WV},oM l=true->(∀j v,l[4*j+1]? =some v->bK v=true->v.N∈f)->oB f (fe lv l)
 | [],_,_=>fun v hv=>by simp [fe] at hv
 | [_],h,_=>by cases h
 | [_,_],h,_=>by cases h
 | [_,_,_],h,_=>by cases h
 | t ::a::k::s::r,h,ho=>by
  rw [rq] at h;simp only [Y3,YT] at h;obtain ⟨⟨⟨h1, -⟩,h3,h4⟩,h5⟩:=h
  have ih:=LZ hlv h5 fun j v hj hb=>ho (j+1) v (by rw [show 4*(j+1)+1=4*j+1+4 by omega];simpa using hj) hb
  intro w hw hb;simp only [AA] at hw;rcases X7.1 hw with hw|hw
  ·cases hd:decide (t.N∈lv) with
   |false=>rw [hd] at hw;cases hw
   | true=>
    rw [hd] at hw;simp only [cond_true,X8,List.not_mem_nil,or_false] at hw;rcases hw with rfl|rfl|rfl|rfl
    ·exact (hlv _).1 (YV hd)
    ·exact ho 0 w J hb
    ·cases hk:decide (k.Za=7)&& !decide (k.N∈lv) with
     |true=>rw [hk] at hb;cases hb
     | false=>
      rw [hk] at hb;simp only [cond_false] at hb⊢
      have a6:k.Za=7:=by
       unfold noneB at h3;rw [Bool.or_eq_true,YT,YT] at h3;rcases h3 with h3|h3
       ·unfold bK at hb;rw [h3] at hb;cases hb
       exact h3
      rw [WY a6,Xi] at hk;exact (hlv _).1 (by by_cases hm:k.N∈lv;exact hm;rw [WZ hm] at hk;cases hk)
    have:w.Za=3:=by
     unfold numB at h4;rw [Y3,YT] at h4;exact h4.1
    unfold bK at hb;rw [this] at hb;cases hb
  exact ih w hw hb
structure CellOk (N:Nat) (lv f:List Int) (c:WI):Prop where
 big:6500<N
 right:bN c=true
 slots:c.Zc.length<=600
 more:c.Zb.length<=2900
 leads: ∀x∈gr c,x∈f
 opens: ∀x∈iR N c lv,x∈f
 mem: ∀x,x∈lv↔x∈f
theorem KY {N:Nat}(hN:6500<N)(h:bN c=true)(hS:c.Zc.length<=600)(hM:c.Zb.length<=2900):ua N c=decide (c.Za=8):=by
 unfold ua;rw [Aj N hN c I I,h];cases decide (c.Za=8)<;>rfl
theorem I6 {N:Nat}(hN:6500<N)(hS:c.Zc.length<=600)(hM:c.Zb.length<=2900):se N c=bN c:=by
 unfold se;rw [Aj N hN c I I];rfl
section
variable {N:Nat}{ρ:Int->Int}{lv:List Int}
theorem JR:(qI N lv c).Za=c.Za/\(qI N lv c).Zi=c.Zi/\(qI N lv c).Ze=c.Ze/\(qI N lv c).Zc=c.Zc:=by
 unfold qI sq;cases decide (c.Za=8)<;>cases decide (c.Za=10)<;>cases ua N c<;>exact ⟨rfl,rfl,rfl,rfl⟩
theorem CellOk.new (hρ:Ren ρ f)(h:CellOk N lv f c):bN (rX ρ f (qI N lv c))=true/\(rX ρ f (qI N lv c)).Zc.length<=600/\(rX ρ f (qI N lv c)).Zb.length<=2900/\(rX ρ f (qI N lv c)).Za=c.Za:=by
 have h1:=Eg N lv c;have h2:=h.slots;have h3:=h.more;exact ⟨Nx hρ (N2 N lv h.right),by unfold rX;simp only [YZ];omega,by unfold rX;simp only [YZ];omega,JR.1⟩
theorem CellOk.ent2 (h:CellOk N lv f c)(h8:c.Za=8):uf c.Zb=true:=by
 have:=(ux h.right).2.2;rw [h8] at this;exact this
theorem CellOk.ent4 (h:CellOk N lv f c)(h10:c.Za=10):1<=c.Zb.length/\(rK c.Zb 0).Za=7/\oM (c.Zb.drop 1)=true:=by
 have:=(ux h.right).2.2;rw [h10] at this;have h3':(decide (1<=c.Zb.length)&&decide ((rK c.Zb 0).Za=7)&&oM (c.Zb.drop 1))=true:=this;simp only [Y3,YT] at h3';exact ⟨h3'.1.1,h3'.1.2,h3'.2⟩
theorem CellOk.wm (h:CellOk N lv f c):ua N c=decide (c.Za=8):=KY h.big h.right h.slots h.more
theorem CellOk.clC8 (h:CellOk N lv f c)(h8:c.Za=8):qI N lv c=⟨c.Za,c.Zi,c.Ze,c.Zg,c.Zc,jR (fun x=>decide (x∈lv)) c.Zb⟩:=by
 unfold qI sq;rw [h.wm,WY h8];rfl
theorem CellOk.clC10 (h10:c.Za=10):qI N lv c=⟨c.Za,c.Zi,c.Ze,c.Zg,c.Zc,c.Zb.take 1++fe lv (c.Zb.drop 1)⟩:=by
 unfold qI;rw [WZ (p:=c.Za=8) I,WY h10];rfl
theorem CellOk.clC0 (h8:c.Za≠8)(h10:c.Za≠10):qI N lv c=c:=by
 unfold qI;rw [WZ h8,WZ h10];rfl
theorem CellOk.inC (h:CellOk N lv f c):oB f (qI N lv c).Zc/\oB f (qI N lv c).Zb:=by
 refine ⟨by rw [JR.2.2.2];exact I0 h.leads,?_⟩;by_cases h8:c.Za=8
 ·rw [h.clC8 h8];have ho:=h.opens;unfold iR at ho;rw [h.wm,WY h8,cond_true] at ho;exact Hq h.mem (h.ent2 h8) ho
 by_cases h10:c.Za=10
 ·rw [CellOk.clC10 h10];obtain ⟨q1,q2,q3⟩:=h.ent4 h10
  obtain ⟨a,r,hr⟩: ∃a r,c.Zb=a::r:=by
   cases hm:c.Zb with
   |nil=>rw [hm] at q1;simp at q1
   |cons a r=>exact ⟨a,r,rfl⟩
  rw [hr] at q3;have q3':oM r=true:=q3;intro v hv hb
  have hv':v=a\/v∈fe lv r:=by
   have:v∈a::fe lv r:=by rw [hr] at hv;exact hv
   exact X8.1 this
  rcases hv' with rfl|hv'
  ·refine D7 h.leads (j:=0) (by rw [hr];rfl) ?_ hb;unfold oD;rw [h10];rfl
  refine LZ h.mem q3' (fun j w hj hw=>D7 h.leads (j:=4*j+2) (by rw [hr,show 4*j+2=(4*j+1)+1 by omega,XJ];exact hj) ?_ hw) v hv' hb;unfold oD;rw [h10]
  have e1:(((4*j+2:Nat):Int) - 1).tmod 4=1:=by rw [Xn I];omega
  have e2:((1:Int)).tmod 2=1:=rfl;rw [e1,e2];cases decide ((0:Int)<((4*j+2:Nat):Int))<;>rfl
 rw [CellOk.clC0 h8 h10];intro v hv hb;obtain ⟨j,hj,e⟩:=XV hv;exact D7 h.leads (j:=j) (by rw [XM hj,e]) (Kb h8 h10 j) hb
end
end
end Go.Proofs.YtmcifcmlojonnaaGreatDoor