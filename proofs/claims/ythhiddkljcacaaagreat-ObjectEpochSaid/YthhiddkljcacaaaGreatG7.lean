/- Merged texts: part 7. No conditions of their own. -/
import Derived.Test.YthhiddkljcacaaaGreatG6
set_option maxHeartbeats 4000000
namespace Go.Proofs.YthhiddkljcacaaaGreat
variable (N:Nat){a1:Int}{a0:VU}{a2:VZ}
section
theorem VA:type_of% Tryz.underlying171:=Tryz.underlying171
variable {A1 A2 A3 A4 A5 A6:Option Addr}{B1 B6 M6 M7 c1 c2 c3 c4 c5 c6 n1 n2 n3 n4 n5 n6:Nat}
open Go.RowKit Asn
set_option maxRecDepth 20000
def nk (N:Nat)(a0:VX)(a6 a8:V7)(b0 p13:VZ)(b5:V8)(b6:Int):Option (Bool×VX):=
 some (decide ((a0.Yq.length:Int)<(p13.length:Int)),(⟨(⟨a6,a8⟩:VR),b0,p13,b5,b6⟩:VX))
def jk (N:Nat)(a6:Int->V7->V7->VZ->VZ->V8->Int->Option (Bool×VX))(a0:VX)(c8:VZ)(a8:Int)(y7:VZ)(b0 b5:V7)(b6 b7:VZ)(b9:V8)(c0:Int):Option (Bool×VX):=
 aE (in64 (a8+1)) (a6 (a8+1) b0 b5 b6 b7 b9 c0)
def ji (N:Nat)(a8:Int->V7->V7->VZ->VZ->V8->Int->Option (Bool×VX))(a0:VX)(b6:VZ)(b7:Int)(b5 y7:VZ):Nat->Int->V7->V7->VZ->VZ->V8->Int->Option (Bool×VX)
 |0,_,_,_,_,_,_,_=>none
 |d2+1,b0,b9,c0,c8,c9,d0,d1=>bif decide (b0<(b5.length:Int)) then ((ap b5 b0).bind fun d3=>(bV N (⟨(⟨b9,c0⟩:VR),c8,c9,d0,d1⟩:VX) d3).bind fun a6=>aE (in64 (b0+1)) ((ji N a8 a0 b6 b7 b5 y7 d2) (b0+1) a6.m_.Yd a6.m_.Yc a6.YF a6.Yq a6.YE a6.Yy)) else (jk N a8 a0 b6 b7 y7 b9 c0 c8 c9 d0 d1)
def bE (N:Nat)(a0:VX)(a6 y7:VZ):Nat->Int->V7->V7->VZ->VZ->V8->Int->Option (Bool×VX)
 |0,_,_,_,_,_,_,_=>none
 |c8+1,a8,b0,b5,b6,b7,b9,c0=>bif decide (a8<(a6.length:Int)) then ((ap a6 a8).bind fun c9=>(bv N (⟨(⟨b0,b5⟩:VR),b6,b7,b9,c0⟩:VX) c9).bind fun d0=>(pz N d0 y7).bind fun d1=>ji N (bE N a0 a6 y7 c8) a0 a6 a8 d1 y7 N 0 b0 b5 b6 b7 b9 c0) else (nk N a0 b0 b5 b6 b7 b9 c0)
def iz (a0:VX):Option (Bool×VX):=
 (fk N a0).bind fun y7=>(oG N a0.YF a0.Yq).bind fun a6=>bE N a0 a6 y7 N 0 a0.m_.Yd a0.m_.Yc a0.YF a0.Yq a0.YE a0.Yy
theorem yj {N:Nat}{a0:VX}{r:Bool×VX}(h:iz N a0=some r):Okc Wc 207 [pV B1 0] ([bB A2 n2 c2 a0.m_.Yd,bB A3 n3 c3 a0.m_.Yc,fH A4 n4 c4 a0.YF,ae B1 223 [Y A2 n2 c2,Y A3 n3 c3,Y A4 n4 c4,Y A5 n5 c5,.map (some M6),iV a0.Yy],fq A5 n5 c5 a0.Yq,ax cj fv M6 a0.YE]) (fun u post=> ∃A0 n0 c0 A1 n1 c1 A2 n2 c2 A3 n3 c3 M4,u=.bool r.1/\post=[ae B1 223 [Y A0 n0 c0,Y A1 n1 c1,Y A2 n2 c2,Y A3 n3 c3,.map (some M4),iV r.2.Yy],bB A0 n0 c0 r.2.m_.Yd,bB A1 n1 c1 r.2.m_.Yc,fH A2 n2 c2 r.2.YF,fq A3 n3 c3 r.2.Yq,ax cj fv M4 r.2.YE]):=by
 refine bY Tryz.func207 ?_
 refine LL h (fun _ k=>rN k) fun y7 A8 n8 c8 h=> ?_
 refine ai (fun s L=> ∃b9 c9 d0 p13 d1 d2 d3 d4 d6 e0 e1 e2 e3 e4 e5 e6 e7 e8 e9,nk N a0 b9 c9 d0 p13 d1 d2=some r/\s=[(0,pV B1 0),(2,.bool false),(3,iV (a0.Yq.length:Int))]/\L=[bB d3 d4 d6 b9,bB e0 e1 e2 c9,fH e3 e4 e5 d0,fq e6 e7 e8 p13,ax cj fv e9 d1,ae B1 223 [Y d3 d4 d6,Y e0 e1 e2,Y e3 e4 e5,Y e6 e7 e8,.map (some e9),iV d2]]) ?_ ?_
 ·refine au ?_;obtain ⟨a6,f1,h⟩:=aa h;refine gQ (t:=[(0,pV B1 0),(2,.bool false),(3,iV (a0.Yq.length:Int)),(4,Y A8 n8 c8)]) ?_ lj (ah _)
  refine ig I 12 [] [9,10,11] [16,17,18,19,20,21,22,23,24,25,26,27] [[],[0],[1],[2],[],[4],[5],[6],[3,7],[8],[9],[]] [aV (pV B1 0),
 aV (pV B1 0),
 aV (pV B1 2),
 aV (Y A4 n4 c4),
 aV (pV B1 0),
 aV (pV B1 0),
 aV (pV B1 3),
 aV (Y A5 n5 c5),
 aX1 (fun (b7:Nat)=> .slice (some ⟨b7,0,none⟩) 2 2) (fun b7=> [ae b7 99 [Y A4 n4 c4,Y A5 n5 c5]]),
 aX3 (fun (a8:Option Addr) (b0 b5:Nat)=> Y a8 b0 b5) (fun a8 b0 b5=> [fq a8 b0 b5 a6]),
 aV (iV (a6.length:Int)),
 aV (iV 0)] [] (ah _) (kU) I rfl rfl ?_ ?_ ?_
  ·exact kT
  ·refine qE (ao J) ?_;refine aH J ?_ ?_
   ·intro a8 b0 b5;exact wk (sj 0 J ak J Vn) J (ku J (ah _))
   refine aH J ?_ ?_
   ·intro b7;refine xr (oR (CI f1)) J ?_;rintro _ _ ⟨_,⟨m6,m7,m8,rfl,rfl⟩,rfl⟩;exact Ic m6 m7 m8 (ah _)
   refine aH J ?_ ?_
   ·refine xr (i7 (cs:=[Y A4 n4 c4,Y A5 n5 c5]) J (Ns _ _ _ _ _ _)) J ?_;rintro _ _ ⟨m9,rfl,rfl⟩;exact Sr m9 (ah _)
   refine qR (bM 4 J J E8 J) ?_;refine qE (jW J Cf) ?_;refine qE (bF J) ?_;refine qE (ao J) ?_;refine qR (bM 4 J J E8 J) ?_;refine qE (jW J Jr) ?_;refine qE (bF J) ?_;refine qE (ao J) ?_;exact di
  intro a8 b0 b5;refine nB (t:=[(25,Y a8 b0 b5),(26,iV (a6.length:Int)),(27,iV 0),(0,pV B1 0),(2,.bool false),(3,iV (a0.Yq.length:Int)),(4,Y A8 n8 c8)]) (L':=[fq a8 b0 b5 a6,fq A8 n8 c8 y7,bB A2 n2 c2 a0.m_.Yd,bB A3 n3 c3 a0.m_.Yc,fH A4 n4 c4 a0.YF,ae B1 223 [Y A2 n2 c2,Y A3 n3 c3,Y A4 n4 c4,Y A5 n5 c5,.map (some M6),iV a0.Yy],fq A5 n5 c5 a0.Yq,ax cj fv M6 a0.YE]) ?_ lj (ah _);refine lh I ?_;refine ab ?_;refine lK (fun m s L=> ∃(b6:Int) (f2:V7) (f3:V7) (f4:VZ) (f9:VZ) (g0:V8) (g1:Int) (g2:Option Addr) (g3 g4:Nat) (g5:Option Addr) (g6 g7:Nat) (g8:Option Addr) (g9 h0:Nat) (h1:Option Addr) (h2 h3:Nat) (h4:Nat),bE N a0 a6 y7 m b6 f2 f3 f4 f9 g0 g1=some r/\s=[(0,pV B1 0),(2,.bool false),(3,iV (a0.Yq.length:Int)),(4,Y A8 n8 c8),(25,Y a8 b0 b5),(26,iV (a6.length:Int)),(27,iV b6)]/\L=[fq A8 n8 c8 y7,fq a8 b0 b5 a6,bB g2 g3 g4 f2,bB g5 g6 g7 f3,fH g8 g9 h0 f4,fq h1 h2 h3 f9,ax cj fv h4 g0,ae B1 223 [Y g2 g3 g4,Y g5 g6 g7,Y g8 g9 h0,Y h1 h2 h3,.map (some h4),iV g1]]) N ?_;intro m2
  refine fun s L=>aj fun b6=>aj fun f2=>aj fun f3=>aj fun f4=>aj fun f9=>aj fun g0=>aj fun g1=>aj fun g2=>aj fun g3=>aj fun g4=>aj fun g5=>aj fun g6=>aj fun g7=>aj fun g8=>aj fun g9=>aj fun h0=>aj fun h1=>aj fun h2=>aj fun h3=>aj fun h4=>yy fun h=> ?_
  rw [bE.eq_2] at h;refine ab ?_;refine au ?_;refine gH J h ?_ ?_<;>intro h
  ·refine ab ?_;refine ai (fun s L=> ∃h5 h6 h7 h8 h9 i0 i1 i2 i8 j0 j1 j2 j3 j4 j5 j6 j7 j8 j9,jk N (bE N a0 a6 y7 m2) a0 a6 b6 y7 h5 h6 h7 h8 h9 i0=some r/\s=[(0,pV B1 0),(2,.bool false),(3,iV (a0.Yq.length:Int)),(4,Y A8 n8 c8),(25,Y a8 b0 b5),(26,iV (a6.length:Int)),(27,iV b6)]/\L=[fq A8 n8 c8 y7,fq a8 b0 b5 a6,bB i1 i2 i8 h5,bB j0 j1 j2 h6,fH j3 j4 j5 h7,fq j6 j7 j8 h8,ax cj fv j9 h9,ae B1 223 [Y i1 i2 i8,Y j0 j1 j2,Y j3 j4 j5,Y j6 j7 j8,.map (some j9),iV i0]]) ?_ ?_
   ·refine ab ?_;obtain ⟨o5,n9,o0,o1,h⟩:=aM h
    refine Su h (fun _ k=>gz k) fun p1 p2 p3 p4 p5 p6 p7 h=> ?_
    refine LL h (fun _ k=>zK k) fun k0 m3 m4 m5 h=> ?_
    refine lK (fun m s L=> ∃(k2:Int) (k3:V7) (k4:V7) (k5:VZ) (k6:VZ) (k7:V8) (k8:Int) (k9:Option Addr) (l0 l1:Nat) (l2:Option Addr) (l3 l4:Nat) (l5:Option Addr) (l6 l7:Nat) (l8:Option Addr) (l9 m0:Nat) (m1:Nat),ji N (bE N a0 a6 y7 m2) a0 a6 b6 k0 y7 m k2 k3 k4 k5 k6 k7 k8=some r/\s=[(0,pV B1 0),(2,.bool false),(3,iV (a0.Yq.length:Int)),(4,Y A8 n8 c8),(25,Y a8 b0 b5),(26,iV (a6.length:Int)),(27,iV b6),(35,Y m3 m4 m5),(36,iV (k0.length:Int)),(37,iV k2)]/\L=[fq A8 n8 c8 y7,fq a8 b0 b5 a6,fq m3 m4 m5 k0,bB k9 l0 l1 k3,bB l2 l3 l4 k4,fH l5 l6 l7 k5,fq l8 l9 m0 k6,ax cj fv m1 k7,ae B1 223 [Y k9 l0 l1,Y l2 l3 l4,Y l5 l6 l7,Y l8 l9 m0,.map (some m1),iV k8]]) N ?_;intro p8
    refine fun s L=>aj fun k2=>aj fun k3=>aj fun k4=>aj fun k5=>aj fun k6=>aj fun k7=>aj fun k8=>aj fun k9=>aj fun l0=>aj fun l1=>aj fun l2=>aj fun l3=>aj fun l4=>aj fun l5=>aj fun l6=>aj fun l7=>aj fun l8=>aj fun l9=>aj fun m0=>aj fun m1=>yy fun h=> ?_
    rw [ji.eq_2] at h;refine ab ?_;refine au ?_;refine gH J h ?_ ?_<;>intro h
    ·refine sY ?_;obtain ⟨q0,o2,o3,o4,h⟩:=aM h;refine ab ?_;obtain ⟨q1,k,h⟩:=aa h;refine gD (oC (jQ k)) ?_;rintro _ _ ⟨_,⟨q2,q3,q4,q5,q6,q7,q8,q9,r0,r1,r2,r3,r4,rfl,rfl⟩,rfl⟩;refine ab ?_;obtain ⟨r5,h⟩:=ac h;exact lY
    exact jY
   refine fun s L=>aj fun h5=>aj fun h6=>aj fun h7=>aj fun h8=>aj fun h9=>aj fun i0=>aj fun i1=>aj fun i2=>aj fun i8=>aj fun j0=>aj fun j1=>aj fun j2=>aj fun j3=>aj fun j4=>aj fun j5=>aj fun j6=>aj fun j7=>aj fun j8=>aj fun j9=>yy fun h=> ?_
   refine ab ?_;obtain ⟨r6,h⟩:=ac h;exact lY
  exact jY
 refine fun s L=>aj fun b9=>aj fun c9=>aj fun d0=>aj fun p13=>aj fun d1=>aj fun d2=>aj fun d3=>aj fun d4=>aj fun d6=>aj fun e0=>aj fun e1=>aj fun e2=>aj fun e3=>aj fun e4=>aj fun e5=>aj fun e6=>aj fun e7=>aj fun e8=>aj fun e9=>yy fun h=> ?_
 exact eY
def vo (N:Nat)(b6 b7:V7)(a6 a8:VZ)(b0:V8)(b5:Int):Option VX:=
 some (⟨(⟨b6,b7⟩:VR),a6,a8,b0,b5⟩:VX)
def kW (N:Nat):Nat->V7->V7->VZ->VZ->V8->Int->Option VX
 |0,_,_,_,_,_,_=>none
 |b0+1,b5,b6,b7,b9,c0,c8=>(iz N (⟨(⟨b5,b6⟩:VR),b7,b9,c0,c8⟩:VX)).bind fun a6=>bif a6.1 then ((eX N a6.2).bind fun a8=>(kW N b0) a8.m_.Yd a8.m_.Yc a8.YF a8.Yq a8.YE a8.Yy) else (vo N a6.2.m_.Yd a6.2.m_.Yc a6.2.YF a6.2.Yq a6.2.YE a6.2.Yy)
def vp (a8 b0:V7)(b5 b6:VZ)(b7:V8)(b9:Int):Option VX:=
 (eX N (⟨(⟨a8,b0⟩:VR),b5,b6,b7,b9⟩:VX)).bind fun a6=>kW N N a6.m_.Yd a6.m_.Yc a6.YF a6.Yq a6.YE a6.Yy
def rj (N:Nat)(a6:Int->V7->V7->VZ->VZ->V8->Int->Option VX)(a2:VZ)(a8:Int)(b0 b5:V7)(b6 b7:VZ)(b9:V8)(c0:Int):Option VX:=
 aE (in64 (a8+1)) (a6 (a8+1) b0 b5 b6 b7 b9 c0)
def ri (N:Nat)(a8:Int->V7->V7->VZ->VZ->V8->Int->Option VX)(a2:VZ)(b6:Int)(b5:VZ):Nat->Int->V7->V7->VZ->VZ->V8->Int->Option VX
 |0,_,_,_,_,_,_,_=>none
 |d1+1,b0,b7,b9,c0,c8,c9,d0=>bif decide (b0<(b5.length:Int)) then ((ap b5 b0).bind fun d2=>(bV N (⟨(⟨b7,b9⟩:VR),c0,c8,c9,d0⟩:VX) d2).bind fun a6=>aE (in64 (b0+1)) ((ri N a8 a2 b6 b5 d1) (b0+1) a6.m_.Yd a6.m_.Yc a6.YF a6.Yq a6.YE a6.Yy)) else (rj N a8 a2 b6 b7 b9 c0 c8 c9 d0)
def d7 (N:Nat)(a2:VZ):Nat->Int->V7->V7->VZ->VZ->V8->Int->Option VX
 |0,_,_,_,_,_,_,_=>none
 |c0+1,a6,a8,b0,b5,b6,b7,b9=>bif decide (a6<(a2.length:Int)) then ((ap a2 a6).bind fun c8=>(bv N (⟨(⟨a8,b0⟩:VR),b5,b6,b7,b9⟩:VX) c8).bind fun c9=>(iH N c9).bind fun d0=>ri N (d7 N a2 c0) a2 a6 d0 N 0 a8 b0 b5 b6 b7 b9) else (vp N a8 b0 b5 b6 b7 b9)
def wB (a2:VZ)(p9 a6:V7)(a8 b0:VZ)(p13:V8)(b5:Int):Option VX:=
 d7 N a2 N 0 p9 a6 a8 b0 p13 b5
def rk (N:Nat)(a6:Int->V7->V7->VZ->VZ->V8->Int->Option VX)(a1:VY)(a8:Int)(a2:VZ)(b0 b5:V7)(b6 b7:VZ)(b9:V8)(c0:Int):Option VX:=
 aE (in64 (a8+1)) (a6 (a8+1) b0 b5 b6 b7 b9 c0)
def iM (N:Nat)(a1:VY)(a2:VZ):Nat->Int->V7->V7->VZ->VZ->V8->Int->Option VX
 |0,_,_,_,_,_,_,_=>none
 |c0+1,a8,b0,b5,b6,b7,p21,b9=>bif decide (a8<(a1.length:Int)) then ((ap a1 a8).bind fun c9=>(lT N c9).bind fun c8=>bif c8.2 then ((bV N (⟨(⟨b0,b5⟩:VR),b6,b7,p21,b9⟩:VX) c8.1).bind fun a6=>rk N (iM N a1 a2 c0) a1 a8 a2 a6.m_.Yd a6.m_.Yc a6.YF a6.Yq a6.YE a6.Yy) else (rk N (iM N a1 a2 c0) a1 a8 a2 b0 b5 b6 b7 p21 b9)) else (wB N a2 b0 b5 b6 b7 p21 b9)
def pv (a0:VR)(a1:VY)(a2:VZ):Option VX:=
 iM N a1 a2 N 0 a0.Yd a0.Yc a2 [] ([]:V8) 0
theorem HP {N:Nat}{a0:VR}{a1:VY}{r:VX}(h:pv N a0 a1 a2=some r):Okc Wc 155 [.agg #[Y A1 n1 c1,Y A2 n2 c2],Y A3 n3 c3,Y A4 n4 c4] ([bB A1 n1 c1 a0.Yd,bB A2 n2 c2 a0.Yc,aZ A3 n3 c3 a1,fH A4 n4 c4 a2]) (fun u post=> ∃B0 A1 n1 c1 A2 n2 c2 A3 n3 c3 A4 n4 c4 M5,u=pV B0 0/\post=[ae B0 223 [Y A1 n1 c1,Y A2 n2 c2,Y A3 n3 c3,Y A4 n4 c4,.map (some M5),iV r.Yy],bB A1 n1 c1 r.m_.Yd,bB A2 n2 c2 r.m_.Yc,fH A3 n3 c3 r.YF,fq A4 n4 c4 r.Yq,ax cj fv M5 r.YE]):=by
 refine bY Tryz.func155 ?_;intro B5;refine ab ?_;refine gD (ug (ek:=cj) (ev:=fv)) ?_;rintro _ _ ⟨M6,rfl,rfl⟩
 refine du fun B7=> ?_
 refine ai (fun s L=> ∃p9 g3 g4 g5 p13 g6 A9 n9 c9 g7 g8 g9 h0 h1 h2 h3 h4 h5 h6,wB N a2 p9 g3 g4 g5 p13 g6=some r/\s=[(2,Y A4 n4 c4),(6,.pointer none),(7,pV B7 0)]/\L=[fH A4 n4 c4 a2,bB A9 n9 c9 p9,bB g7 g8 g9 g3,fH h0 h1 h2 g4,fq h3 h4 h5 g5,ax cj fv h6 p13,ae B7 223 [Y A9 n9 c9,Y g7 g8 g9,Y h0 h1 h2,Y h3 h4 h5,.map (some h6),iV g6]]) ?_ ?_
 ·refine ab ?_;refine ii (fun m s L=> ∃g2 k3 k4 k5 k6 p21 k7 k8 k9 l0 l1 l2 l3 l4 l5 l6 l7 l8 l9 m0,iM N a1 a2 m g2 k3 k4 k5 k6 p21 k7=some r/\s=[(2,Y A4 n4 c4),(6,.pointer none),(7,pV B7 0),(21,Y A3 n3 c3),(22,iV (a1.length:Int)),(23,iV g2)]/\L=[fH A4 n4 c4 a2,aZ A3 n3 c3 a1,bB k8 k9 l0 k3,bB l1 l2 l3 k4,fH l4 l5 l6 k5,fq l7 l8 l9 k6,ax cj fv m0 p21,ae B7 223 [Y k8 k9 l0,Y l1 l2 l3,Y l4 l5 l6,Y l7 l8 l9,.map (some m0),iV k7]]) N _ _ ⟨0,a0.Yd,a0.Yc,a2,[],([]:V8),0,A1,n1,c1,A2,n2,c2,A4,n4,c4,none,0,0,M6,h,J,J⟩ sA ((Id 6 J J).trans ((bq (jM .i64) 3 _).trans (cS [8,7,5,6,1,0,3,2] 9))) ?_;rintro (_|y2)
  all_goals (refine fun s L=>aj fun g2=>aj fun k3=>aj fun k4=>aj fun k5=>aj fun k6=>aj fun p21=>aj fun k7=>aj fun k8=>aj fun k9=>aj fun l0=>aj fun l1=>aj fun l2=>aj fun l3=>aj fun l4=>aj fun l5=>aj fun l6=>aj fun l7=>aj fun l8=>aj fun l9=>aj fun m0=>yy fun h=> ?_)
  ·exact az h
  rw [iM.eq_2] at h;refine ab ?_;refine au ?_;refine gH J h ?_ ?_<;>intro h
  ·refine ab ?_;refine ai (fun s L=> ∃m1 m2 m3 m4 m5 m6 m7 m8 m9 n0 n8 o0 o1 o2 o3 o4 o5 p1 p2,rk N (iM N a1 a2 y2) a1 g2 a2 m1 m2 m3 m4 m5 m6=some r/\s=[(2,Y A4 n4 c4),(6,.pointer none),(7,pV B7 0),(21,Y A3 n3 c3),(22,iV (a1.length:Int)),(23,iV g2)]/\L=[fH A4 n4 c4 a2,aZ A3 n3 c3 a1,bB m7 m8 m9 m1,bB n0 n8 o0 m2,fH o1 o2 o3 m3,fq o4 o5 p1 m4,ax cj fv p2 m5,ae B7 223 [Y m7 m8 m9,Y n0 n8 o0,Y o1 o2 o3,Y o4 o5 p1,.map (some p2),iV m6]]) ?_ ?_
   ·refine ab ?_;obtain ⟨W2,y3,y4,y5,h⟩:=aM h
    refine du fun W3=> ?_
    obtain ⟨W4,k,h⟩:=aa h;refine C7 (oR (vY k)) ?_;refine gH J h ?_ ?_<;>intro h
    ·refine ab ?_;obtain ⟨W5,k,h⟩:=aa h;refine gD (oC (jQ k)) ?_;rintro _ _ ⟨_,⟨W6,W7,W8,W9,X0,X1,X2,X3,X4,X5,X6,X7,X8,rfl,rfl⟩,rfl⟩;exact jY
    exact jY
   refine fun s L=>aj fun m1=>aj fun m2=>aj fun m3=>aj fun m4=>aj fun m5=>aj fun m6=>aj fun m7=>aj fun m8=>aj fun m9=>aj fun n0=>aj fun n8=>aj fun o0=>aj fun o1=>aj fun o2=>aj fun o3=>aj fun o4=>aj fun o5=>aj fun p1=>aj fun p2=>yy fun h=> ?_
   refine ab ?_;obtain ⟨X9,h⟩:=ac h;exact lY
  exact jY
 refine fun s L=>aj fun p9=>aj fun g3=>aj fun g4=>aj fun g5=>aj fun p13=>aj fun g6=>aj fun A9=>aj fun n9=>aj fun c9=>aj fun g7=>aj fun g8=>aj fun g9=>aj fun h0=>aj fun h1=>aj fun h2=>aj fun h3=>aj fun h4=>aj fun h5=>aj fun h6=>yy fun h=> ?_
 refine ai (fun s L=> ∃p3 p4 p5 p6 p7 p8 q0 q1 q2 q3 q4 q5 q6 q7 q8 q9 r0 r1 r2,vp N p3 p4 p5 p6 p7 p8=some r/\s=[(6,.pointer none),(7,pV B7 0)]/\L=[bB q0 q1 q2 p3,bB q3 q4 q5 p4,fH q6 q7 q8 p5,fq q9 r0 r1 p6,ax cj fv r2 p7,ae B7 223 [Y q0 q1 q2,Y q3 q4 q5,Y q6 q7 q8,Y q9 r0 r1,.map (some r2),iV p8]]) ?_ ?_
 ·refine ab ?_;refine ii (fun m s L=> ∃a6 h7 h8 h9 i0 i1 i2 i8 j0 j1 j2 j3 j4 j5 j6 j7 j8 j9 k0 k2,d7 N a2 m a6 h7 h8 h9 i0 i1 i2=some r/\s=[(6,.pointer none),(7,pV B7 0),(37,Y A4 n4 c4),(38,iV (a2.length:Int)),(39,iV a6)]/\L=[fH A4 n4 c4 a2,bB i8 j0 j1 h7,bB j2 j3 j4 h8,fH j5 j6 j7 h9,fq j8 j9 k0 i0,ax cj fv k2 i1,ae B7 223 [Y i8 j0 j1,Y j2 j3 j4,Y j5 j6 j7,Y j8 j9 k0,.map (some k2),iV i2]]) N _ _ ⟨0,p9,g3,g4,g5,p13,g6,A9,n9,c9,g7,g8,g9,h0,h1,h2,h3,h4,h5,h6,h,J,J⟩ sA (cS [0,1,2,3,4,5,6] 7) ?_;rintro (_|x8)
  all_goals (refine fun s L=>aj fun a6=>aj fun h7=>aj fun h8=>aj fun h9=>aj fun i0=>aj fun i1=>aj fun i2=>aj fun i8=>aj fun j0=>aj fun j1=>aj fun j2=>aj fun j3=>aj fun j4=>aj fun j5=>aj fun j6=>aj fun j7=>aj fun j8=>aj fun j9=>aj fun k0=>aj fun k2=>yy fun h=> ?_)
  ·exact az h
  rw [d7.eq_2] at h;refine ab ?_;refine au ?_;refine gH J h ?_ ?_<;>intro h
  ·refine ab ?_;refine ai (fun s L=> ∃r3 r4 r5 r6 s0 s1 s2 s3 s4 s5 s6 s7 s8 s9 t1 t2 u0 u1 u2,rj N (d7 N a2 x8) a2 a6 r3 r4 r5 r6 s0 s1=some r/\s=[(6,.pointer none),(7,pV B7 0),(37,Y A4 n4 c4),(38,iV (a2.length:Int)),(39,iV a6)]/\L=[fH A4 n4 c4 a2,bB s2 s3 s4 r3,bB s5 s6 s7 r4,fH s8 s9 t1 r5,fq t2 u0 u1 r6,ax cj fv u2 s0,ae B7 223 [Y s2 s3 s4,Y s5 s6 s7,Y s8 s9 t1,Y t2 u0 u1,.map (some u2),iV s1]]) ?_ ?_
   ·refine ab ?_;obtain ⟨Y0,y6,y7,y8,h⟩:=aM h;refine ab ?_;obtain ⟨Y1,k,h⟩:=aa h
    refine UA (oC (gz k)) fun Y2 Y3 Y4 Y5 Y6 Y7=> ?_
    obtain ⟨u3,k,h⟩:=aa h
    refine r9 (oR (ml k)) fun x9 y0 y1=> ?_
    refine ii (fun m s L=> ∃u4 u5 u6 u7 u8 u9 v1 v2 v6 v7 v8 w0 w1 w2 w3 w4 w5 w6 w7 w8,ri N (d7 N a2 x8) a2 a6 u3 m u4 u5 u6 u7 u8 u9 v1=some r/\s=[(6,.pointer none),(7,pV B7 0),(37,Y A4 n4 c4),(38,iV (a2.length:Int)),(39,iV a6),(46,Y x9 y0 y1),(47,iV (u3.length:Int)),(48,iV u4)]/\L=[fH A4 n4 c4 a2,fq x9 y0 y1 u3,bB v2 v6 v7 u5,bB v8 w0 w1 u6,fH w2 w3 w4 u7,fq w5 w6 w7 u8,ax cj fv w8 u9,ae B7 223 [Y v2 v6 v7,Y v8 w0 w1,Y w2 w3 w4,Y w5 w6 w7,.map (some w8),iV v1]]) N _ _ ⟨0,h7,h8,h9,i0,i1,i2,i8,j0,j1,j2,j3,j4,j5,j6,j7,j8,j9,k0,k2,h,J,J⟩ sA (cS [6,0,7,8,9,4,5,3] 10) ?_;rintro (_|Y8)
    all_goals (refine fun s L=>aj fun u4=>aj fun u5=>aj fun u6=>aj fun u7=>aj fun u8=>aj fun u9=>aj fun v1=>aj fun v2=>aj fun v6=>aj fun v7=>aj fun v8=>aj fun w0=>aj fun w1=>aj fun w2=>aj fun w3=>aj fun w4=>aj fun w5=>aj fun w6=>aj fun w7=>aj fun w8=>yy fun h=> ?_)
    ·exact az h
    rw [ri.eq_2] at h;refine ab ?_;refine au ?_;refine gH J h ?_ ?_<;>intro h
    ·refine sY ?_;obtain ⟨Y9,y9,z1,z2,h⟩:=aM h;refine ab ?_;obtain ⟨Z0,k,h⟩:=aa h;refine gD (oC (jQ k)) ?_;rintro _ _ ⟨_,⟨Z1,Z2,Z3,Z4,Z5,Z6,Z7,Z8,Z9,YT,YU,YV,YW,rfl,rfl⟩,rfl⟩;refine ab ?_;obtain ⟨YX,h⟩:=ac h;exact lY
    exact jY
   refine fun s L=>aj fun r3=>aj fun r4=>aj fun r5=>aj fun r6=>aj fun s0=>aj fun s1=>aj fun s2=>aj fun s3=>aj fun s4=>aj fun s5=>aj fun s6=>aj fun s7=>aj fun s8=>aj fun s9=>aj fun t1=>aj fun t2=>aj fun u0=>aj fun u1=>aj fun u2=>yy fun h=> ?_
   refine ab ?_;obtain ⟨YY,h⟩:=ac h;exact lY
  exact jY
 refine fun s L=>aj fun p3=>aj fun p4=>aj fun p5=>aj fun p6=>aj fun p7=>aj fun p8=>aj fun q0=>aj fun q1=>aj fun q2=>aj fun q3=>aj fun q4=>aj fun q5=>aj fun q6=>aj fun q7=>aj fun q8=>aj fun q9=>aj fun r0=>aj fun r1=>aj fun r2=>yy fun h=> ?_
 refine ab ?_;obtain ⟨g1,k,h⟩:=aa h;refine gD (oC (pu k)) ?_;rintro _ _ ⟨_,⟨z6,A0,A8,B4,B9,L0,L1,L2,L3,L4,L5,L6,L7,rfl,rfl⟩,rfl⟩;refine ab ?_;refine ai (fun s L=> ∃w9 x1 a8 b0 b5 b6 x2 x3 x4 x5 x6 x7 b7 b9 c0 c8 d0 d1 d2,vo N w9 x1 a8 b0 b5 b6=some r/\s=[(6,.pointer none),(7,pV B7 0)]/\L=[bB x2 x3 x4 w9,bB x5 x6 x7 x1,fH b7 b9 c0 a8,fq c8 d0 d1 b0,ax cj fv d2 b5,ae B7 223 [Y x2 x3 x4,Y x5 x6 x7,Y b7 b9 c0,Y c8 d0 d1,.map (some d2),iV b6]]) ?_ ?_
 ·refine ab ?_;refine ii (fun m s L=> ∃d3 d4 d6 e0 e1 e2 e3 e4 e5 e6 e7 e8 e9 f1 f2 f3 f4 f9 g0,kW N m d3 d4 d6 e0 e1 e2=some r/\s=[(6,.pointer none),(7,pV B7 0)]/\L=[bB e3 e4 e5 d3,bB e6 e7 e8 d4,fH e9 f1 f2 d6,fq f3 f4 f9 e0,ax cj fv g0 e1,ae B7 223 [Y e3 e4 e5,Y e6 e7 e8,Y e9 f1 f2,Y f3 f4 f9,.map (some g0),iV e2]]) N _ _ ⟨g1.m_.Yd,g1.m_.Yc,g1.YF,g1.Yq,g1.YE,g1.Yy,z6,A0,A8,B4,B9,L0,L1,L2,L3,L4,L5,L6,L7,h,J,J⟩ sA (cS [1,2,3,4,5,0] 9) ?_;rintro (_|L8)
  all_goals (refine fun s L=>aj fun d3=>aj fun d4=>aj fun d6=>aj fun e0=>aj fun e1=>aj fun e2=>aj fun e3=>aj fun e4=>aj fun e5=>aj fun e6=>aj fun e7=>aj fun e8=>aj fun e9=>aj fun f1=>aj fun f2=>aj fun f3=>aj fun f4=>aj fun f9=>aj fun g0=>yy fun h=> ?_)
  ·exact az h
  rw [kW.eq_2] at h;refine sZ ?_;obtain ⟨L9,k,h⟩:=aa h;refine gD (oC (yj k)) ?_;rintro _ _ ⟨_,⟨M0,M1,M4,M8,Q1,S0,S1,S2,S3,S4,S5,S6,S7,rfl,rfl⟩,rfl⟩;refine dI h ?_ ?_<;>intro h
  ·refine ab ?_;obtain ⟨S8,k,h⟩:=aa h;refine gD (oC (pu k)) ?_;rintro _ _ ⟨_,⟨S9,T0,T1,T2,T3,T4,T5,T6,T7,T8,T9,W0,W1,rfl,rfl⟩,rfl⟩;exact lY
  exact jY
 refine fun s L=>aj fun w9=>aj fun x1=>aj fun a8=>aj fun b0=>aj fun b5=>aj fun b6=>aj fun x2=>aj fun x3=>aj fun x4=>aj fun x5=>aj fun x6=>aj fun x7=>aj fun b7=>aj fun b9=>aj fun c0=>aj fun c8=>aj fun d0=>aj fun d1=>aj fun d2=>yy fun h=> ?_
 exact eY
def pQ (N:Nat)(a0:VX)(p8:VZ):Option VZ:=
 some p8
def ib (N:Nat)(a6:VZ->Int->Int->Int->Option VZ)(a0:VX)(p13:Int)(a8:VZ)(b0 b5:Int):Option VZ:=
 aE (in64 (p13+1)) (a6 a8 b0 b5 (p13+1))
def ca (N:Nat)(a0:VX):Nat->VZ->Int->Int->Int->Option VZ
 |0,_,_,_,_=>none
 |m9+1,b0,a6,a8,p13=>bif decide (p13<(a0.Yq.length:Int)) then ((ap a0.Yq p13).bind fun b5=>(bv N a0 b5).bind fun b6=>bif decide (b6.Yg=0) then (aE (in64 (2*a6)) (aE (in64 ((2*a6)+1)) (aE (ci (b0.length+([(2*a6)+1]:List Int).length)) (aE (in64 (a6+1)) (ib N (ca N a0 m9) a0 p13 (b0++([(2*a6)+1]:List Int)) (a6+1) a8))))) else (aE (in64 (2*a8)) (aE (in64 ((2*a8)+2)) (aE (ci (b0.length+([(2*a8)+2]:List Int).length)) (aE (in64 (a8+1)) (ib N (ca N a0 m9) a0 p13 (b0++([(2*a8)+2]:List Int)) a6 (a8+1))))))) else (pQ N a0 b0)
def fL (a0:VX):Option VZ:=
 ca N a0 N [] 0 (a0.m_.Yc.length:Int) 0
theorem wA {N:Nat}{a0:VX}{r:VZ}(h:fL N a0=some r):Okc Wc 156 [pV B1 0] ([bB A2 n2 c2 a0.m_.Yd,bB A3 n3 c3 a0.m_.Yc,fH A4 n4 c4 a0.YF,ae B1 223 [Y A2 n2 c2,Y A3 n3 c3,Y A4 n4 c4,Y A5 n5 c5,.map (some M6),iV a0.Yy],fq A5 n5 c5 a0.Yq,ax cj fv M6 a0.YE]) (fun u post=> ∃a6 a8 b0,u=Y a6 a8 b0/\post=[fq a6 a8 b0 r,ae B1 223 [Y A2 n2 c2,Y A3 n3 c3,Y A4 n4 c4,Y A5 n5 c5,.map (some M6),iV a0.Yy],fq A5 n5 c5 a0.Yq,ax cj fv M6 a0.YE]):=by
 refine bY Tryz.func156 ?_;refine dY [] ?_;refine ab ?_;refine ai (fun s L=> ∃p8 A8 n8 c8,pQ N a0 p8=some r/\s=[(2,Y none 0 0),(3,Y A8 n8 c8)]/\L=[fq A8 n8 c8 p8,bB A2 n2 c2 a0.m_.Yd,bB A3 n3 c3 a0.m_.Yc,fH A4 n4 c4 a0.YF,fq A5 n5 c5 a0.Yq,ax cj fv M6 a0.YE,ae B1 223 [Y A2 n2 c2,Y A3 n3 c3,Y A4 n4 c4,Y A5 n5 c5,.map (some M6),iV a0.Yy]]) ?_ ?_
 ·refine ab ?_;refine ii (fun m s L=> ∃b7 b5 b6 p13 b9 c0 c9,ca N a0 m b7 b5 b6 p13=some r/\s=[(0,pV B1 0),(2,Y none 0 0),(3,Y b9 c0 c9),(4,iV b5),(5,iV b6),(17,Y A5 n5 c5),(18,iV (a0.Yq.length:Int)),(19,iV p13)]/\L=[fq b9 c0 c9 b7,fq A5 n5 c5 a0.Yq,bB A2 n2 c2 a0.m_.Yd,bB A3 n3 c3 a0.m_.Yc,fH A4 n4 c4 a0.YF,ax cj fv M6 a0.YE,ae B1 223 [Y A2 n2 c2,Y A3 n3 c3,Y A4 n4 c4,Y A5 n5 c5,.map (some M6),iV a0.Yy]]) N _ _ ⟨[],0,(a0.m_.Yc.length:Int),0,none,0,0,h,J,J⟩ sA ((bq (jM .i64) 3 _).trans (cS [0,5,1,2,3,6,4] 7)) ?_;rintro (_|m9) _ _ ⟨b7,b5,b6,p13,b9,c0,c9,h,rfl,rfl⟩
  ·exact az h
  rw [ca.eq_2] at h;refine ab ?_;refine au ?_;refine gH J h ?_ ?_<;>intro h
  ·refine ab ?_;refine ai (fun s L=> ∃d0 d1 d2 d3 d4 d6,ib N (ca N a0 m9) a0 p13 d0 d1 d2=some r/\s=[(0,pV B1 0),(2,Y none 0 0),(3,Y d3 d4 d6),(4,iV d1),(5,iV d2),(17,Y A5 n5 c5),(18,iV (a0.Yq.length:Int)),(19,iV p13)]/\L=[fq d3 d4 d6 d0,fq A5 n5 c5 a0.Yq,bB A2 n2 c2 a0.m_.Yd,bB A3 n3 c3 a0.m_.Yc,fH A4 n4 c4 a0.YF,ax cj fv M6 a0.YE,ae B1 223 [Y A2 n2 c2,Y A3 n3 c3,Y A4 n4 c4,Y A5 n5 c5,.map (some M6),iV a0.Yy]]) ?_ ?_
   ·refine ab ?_;obtain ⟨e7,e2,e3,e4,h⟩:=aM h;refine ab ?_;obtain ⟨e8,k,h⟩:=aa h;refine gD (oC (gz k)) ?_;rintro _ _ ⟨_,⟨e9,f1,f2,f3,f4,f9,rfl,rfl⟩,rfl⟩;refine dU (ux J (OJ _ _ _ _ _ _ _ _ _ _)) ?_;refine gH J h ?_ ?_<;>intro h
    ·refine ab ?_;obtain ⟨e0,h⟩:=ac h;refine gE (nw J J e0.1 e0.2) ?_;obtain ⟨g0,h⟩:=ac h;refine ab ?_;refine gD (aL (R:=(jM .i64)) (vss:=[[iV ((2*b5)+1)]]) (xs:=[(2*b5)+1]) J (nA _) J J (fun _ _ hr=> .cons J All2.nil)) ?_;rintro _ _ ⟨g1,g2,g3,rfl,rfl⟩;obtain ⟨e5,h⟩:=ac h
     refine r9 (aQ 6 0 J J ak J J Vn Iw J J e5) fun g4 g5 g6=> ?_
     obtain ⟨g7,h⟩:=ac h;exact jY
    refine ab ?_;obtain ⟨e1,h⟩:=ac h;refine gE (nw J J e1.1 e1.2) ?_;obtain ⟨g8,h⟩:=ac h;refine ab ?_;refine gD (aL (R:=(jM .i64)) (vss:=[[iV ((2*b6)+2)]]) (xs:=[(2*b6)+2]) J (nA _) J J (fun _ _ hr=> .cons J All2.nil)) ?_;rintro _ _ ⟨g9,h0,h1,rfl,rfl⟩;obtain ⟨e6,h⟩:=ac h
    refine r9 (aQ 6 0 J J ak J J Vn Iw J J e6) fun h2 h3 h4=> ?_
    obtain ⟨h5,h⟩:=ac h;exact jY
   rintro _ _ ⟨d0,d1,d2,d3,d4,d6,h,rfl,rfl⟩;refine ab ?_;obtain ⟨h6,h⟩:=ac h;exact lY
  exact jY
 rintro _ _ ⟨p8,A8,n8,c8,h,rfl,rfl⟩;exact eY
def kl (a0:VJ)(a1:VZ)(a2:VY):Option (VJ×VY):=
 bif decide (a0.XZ=8) then ((nD N a0 a1).bind fun y8=>some (y8,a2)) else (bif decide (a0.XZ=10) then ((kY N a0 a1).bind fun a6=>aE (ci (a2.length+a6.2.length)) (some (a6.1,a2++a6.2))) else (some (a0,a2)))
theorem yl {N:Nat}{a0:VJ}{a1:VZ}{a2:VY}{r:VJ×VY}(h:kl N a0 a1 a2=some r):Okc Wc 159 [.agg #[iV a0.XZ,iV a0.Yf,iV a0.Ye,iV a0.Yg,Y A1 n1 c1,Y A2 n2 c2],Y A3 n3 c3,Y A4 n4 c4] ([aZ A1 n1 c1 a0.Yb,aZ A2 n2 c2 a0.Ya,fH A3 n3 c3 a1,aC A4 n4 c4 a2]) (fun u post=> ∃A0 n0 c0 A1 n1 c1 A2 n2 c2,u=.tuple #[.agg #[iV r.1.XZ,iV r.1.Yf,iV r.1.Ye,iV r.1.Yg,Y A0 n0 c0,Y A1 n1 c1],Y A2 n2 c2]/\post=[aZ A0 n0 c0 r.1.Yb,aZ A1 n1 c1 r.1.Ya,aC A2 n2 c2 r.2]):=by
 refine bY Tryz.func159 ?_;intro B5
 refine du fun B6=> ?_
 refine sZ ?_;refine gH J h ?_ ?_<;>intro h
 ·refine NA h (fun _ k=>zL k) fun y8 A9 n9 c9 c8 d0 d1 h=> ?_
  obtain rfl:=jn h;exact uB (rs:=[.cell 6 45,.tmp 7]) (vs:=[.agg #[iV y8.XZ,iV y8.Yf,iV y8.Ye,iV y8.Yg,Y A9 n9 c9,Y c8 d0 d1],Y A4 n4 c4]) J (.cons (lC 2 J J agg45.out) (.cons (qB J) .nil)) J ((bL 0 J).trans ((bL 1 J).trans (cS [0,1,7] 8))) ⟨_,_,_,_,_,_,_,_,_,J,J⟩
 refine dI h ?_ ?_<;>intro h
 ·refine ab ?_;obtain ⟨a6,k,h⟩:=aa h
  refine TP (oR (wZ k)) fun a8 b0 b5 b6 b7 b9 d2 d3 d4=> ?_
  intro d6;refine ab ?_;refine au ?_;refine bm I ([ae d6 45 (gk a6.1 a8 b0 b5 b6 b7 b9),aC a8 b0 b5 a6.1.Yb,aC b6 b7 b9 a6.1.Ya,aC d2 d3 d4 a6.2,ae B5 45 (gk a0 A1 n1 c1 A2 n2 c2),aZ A1 n1 c1 a0.Yb,aZ A2 n2 c2 a0.Ya,fH A3 n3 c3 a1]) (cS [0,1,2,3,5,6,7,8] 10) ?_;refine ab ?_;obtain ⟨e0,h⟩:=ac h
  refine yQ 3 J (aQ 9 3 J J ak J J z9 AW J J e0) fun e1 e2 e3=> ?_
  refine zO 4 J (ar (us:=(gk a6.1 a8 b0 b5 b6 b7 b9)) (cs':=(gk a6.1 a8 b0 b5 b6 b7 b9)) 4 J J J J size45.out J J J) ?_;rintro _ _ rfl;refine bf ?_;refine ab ?_;obtain rfl:=jn h;exact uB (rs:=[.cell 6 45,.tmp 7]) (vs:=[.agg #[iV a6.1.XZ,iV a6.1.Yf,iV a6.1.Ye,iV a6.1.Yg,Y a8 b0 b5,Y b6 b7 b9],Y e1 e2 e3]) J (.cons (lC 4 J J agg45.out) (.cons (qB J) .nil)) J ((bL 1 J).trans ((bL 2 J).trans (cS [1,2,9] 10))) ⟨_,_,_,_,_,_,_,_,_,J,J⟩
 exact eY
def uH (N:Nat)(a6:VJ)(a8 b0:VY):Option VJ:=
 some (⟨a6.XZ,a6.Yf,a6.Ye,a6.Yg,a8,b0⟩:VJ)
def uF (p9:V9)(a6:VY)(a8:VJ)(b0:VY):Option VJ:=
 uH N a8 a6 b0
def qk (N:Nat)(a6:VY->Int->Option VJ)(b5:VJ)(a8:Int)(p9:V9)(b6 b0:VY):Option VJ:=
 aE (in64 (a8+1)) (a6 b0 (a8+1))
def gN (N:Nat)(a6:VJ)(p9:V9)(b0:VY):Nat->VY->Int->Option VJ
 |0,_,_=>none
 |b7+1,b5,a8=>bif decide (a8<(a6.Ya.length:Int)) then ((ap b5 a8).bind fun b6=>(bif (lk p9 b6.N).isSome then ((nM N b6).bind fun c0=>some c0) else (some false)).bind fun c8=>bif c8 then ((ap b5 a8).bind fun b9=>qk N (gN N a6 p9 b0 b7) a6 a8 p9 b0 (List.set b5 a8.toNat (⟨b9.XZ,(lk p9 b6.N).getD 0,b9.S⟩:VN))) else (qk N (gN N a6 p9 b0 b7) a6 a8 p9 b0 b5)) else (uF N p9 b0 a6 b5)
def uG (p9:V9)(a6:VJ)(a8:VY):Option VJ:=
 gN N a6 p9 a8 N a6.Ya 0
def ql (N:Nat)(a6:VY->Int->Option VJ)(b5:VJ)(a8:Int)(p9:V9)(b0:VY):Option VJ:=
 aE (in64 (a8+1)) (a6 b0 (a8+1))
def gP (N:Nat)(a6:VJ)(p9:V9):Nat->VY->Int->Option VJ
 |0,_,_=>none
 |b6+1,b0,a8=>bif decide (a8<(a6.Yb.length:Int)) then ((ap b0 a8).bind fun b5=>(bif (lk p9 b5.N).isSome then ((nM N b5).bind fun b9=>some b9) else (some false)).bind fun c0=>bif c0 then ((ap b0 a8).bind fun b7=>ql N (gP N a6 p9 b6) a6 a8 p9 (List.set b0 a8.toNat (⟨b7.XZ,(lk p9 b5.N).getD 0,b7.S⟩:VN))) else (ql N (gP N a6 p9 b6) a6 a8 p9 b0)) else (uG N p9 a6 b0)
def ru (a0:VJ)(p9:V9):Option VJ:=
 (dt N a0).bind fun a6=>gP N a6 p9 N a6.Yb 0
def nz (N:Nat)(a6:V9->Int->Option VJ)(a1:VZ)(a8:Int)(a2:VZ)(a0:VJ)(b0:V9):Option VJ:=
 aE (in64 (a8+1)) (a6 b0 (a8+1))
def fe (N:Nat)(a1 a2:VZ)(a0:VJ):Nat->V9->Int->Option VJ
 |0,_,_=>none
 |b5+1,b0,a6=>bif decide (a6<(a1.length:Int)) then ((ap a1 a6).bind fun a8=>bif (lk b0 a8).isSome then (nz N (fe N a1 a2 a0 b5) a1 a6 a2 a0 b0) else (bif decide (a6<(a2.length:Int)) then ((ap a2 a6).bind fun b6=>nz N (fe N a1 a2 a0 b5) a1 a6 a2 a0 (wT (wT b0 a8 a8) a8 b6)) else (nz N (fe N a1 a2 a0 b5) a1 a6 a2 a0 (wT b0 a8 a8)))) else (ru N a0 b0)
def gi (a0:VJ)(a1 a2:VZ):Option VJ:=
 fe N a1 a2 a0 N ([]:V9) 0
theorem vC {N:Nat}{a0:VJ}{a1:VZ}{r:VJ}(h:gi N a0 a1 a2=some r):Okc Wc 160 [.agg #[iV a0.XZ,iV a0.Yf,iV a0.Ye,iV a0.Yg,Y A1 n1 c1,Y A2 n2 c2],Y A3 n3 c3,Y A4 n4 c4] ([aZ A1 n1 c1 a0.Yb,aZ A2 n2 c2 a0.Ya,fH A3 n3 c3 a1,fH A4 n4 c4 a2]) (fun u post=> ∃A0 n0 c0 A1 n1 c1,u=.agg #[iV r.XZ,iV r.Yf,iV r.Ye,iV r.Yg,Y A0 n0 c0,Y A1 n1 c1]/\post=[aC A0 n0 c0 r.Yb,aC A1 n1 c1 r.Ya]):=by
 refine bY Tryz.func160 ?_;intro B5
 refine du fun B6=> ?_
 refine gD (Dw (ek:=cj) (ev:=sP) J Vy) ?_;rintro _ _ ⟨M7,rfl,rfl⟩;refine ab ?_;refine ai (fun s L=> ∃p9,ru N a0 p9=some r/\s=[(3,pV B5 0),(6,pV B6 0),(7,.map (some M7))]/\L=[ax cj sP M7 p9,aZ A1 n1 c1 a0.Yb,aZ A2 n2 c2 a0.Ya,ae B5 45 (gk a0 A1 n1 c1 A2 n2 c2),ae B6 45 [iV 0,iV 0,iV 0,iV 0,Y none 0 0,Y none 0 0]]) ?_ ?_
 ·refine ab ?_;refine lK (fun m s L=> ∃(g2:V9) (e6:Int),fe N a1 a2 a0 m g2 e6=some r/\s=[(2,Y A4 n4 c4),(3,pV B5 0),(6,pV B6 0),(7,.map (some M7)),(21,Y A3 n3 c3),(22,iV (a1.length:Int)),(23,iV e6)]/\L=[fH A4 n4 c4 a2,ax cj sP M7 g2,fH A3 n3 c3 a1,aZ A1 n1 c1 a0.Yb,aZ A2 n2 c2 a0.Ya,ae B5 45 (gk a0 A1 n1 c1 A2 n2 c2),ae B6 45 [iV 0,iV 0,iV 0,iV 0,Y none 0 0,Y none 0 0]]) N ?_;rintro i8 _ _ ⟨g2,e6,h,rfl,rfl⟩;rw [fe.eq_2] at h;refine ab ?_;refine au ?_;refine gH J h ?_ ?_<;>intro h
  ·refine ab ?_;refine ai (fun s L=> ∃g3,nz N (fe N a1 a2 a0 i8) a1 e6 a2 a0 g3=some r/\s=[(2,Y A4 n4 c4),(3,pV B5 0),(6,pV B6 0),(7,.map (some M7)),(21,Y A3 n3 c3),(22,iV (a1.length:Int)),(23,iV e6)]/\L=[fH A4 n4 c4 a2,ax cj sP M7 g3,fH A3 n3 c3 a1,aZ A1 n1 c1 a0.Yb,aZ A2 n2 c2 a0.Ya,ae B5 45 (gk a0 A1 n1 c1 A2 n2 c2),ae B6 45 [iV 0,iV 0,iV 0,iV 0,Y none 0 0,Y none 0 0]]) ?_ ?_
   ·refine ab ?_;obtain ⟨f4,j0,j1,j2,h⟩:=aM h;refine sY ?_;refine H3 (ua (a:=f4) (z:=0) 1 J wD J J Vy (dX Ex) zero3.out) ?_;refine gH J h ?_ ?_<;>intro h
    ·exact jY
    refine ab ?_;refine Gl (iE (a:=f4) (b:=f4) 1 J J J J Vy (dX Ex)) ?_;refine gH J h ?_ ?_<;>intro h
    ·refine ab ?_;obtain ⟨j3,j4,j5,j6,h⟩:=aM h;refine ab ?_;refine Gl (iE (a:=f4) (b:=j3) 1 J J J J Vy (dX Ex)) ?_;exact jN
    exact jY
   rintro _ _ ⟨g3,h,rfl,rfl⟩;refine ab ?_;obtain ⟨k9,h⟩:=ac h;exact lY
  exact jY
 rintro _ _ ⟨p9,h,rfl,rfl⟩
 refine NA h (fun _ k=>gj k) fun a6 j7 j8 j9 b7 b9 c8 h=> ?_
 refine ai (fun s L=> ∃g4 g5 g6 g7 g8 g9 h0 h1,uH N a6 g4 g5=some r/\s=[(3,pV B5 0),(6,pV B6 0)]/\L=[aC g6 g7 g8 g4,aC g9 h0 h1 g5,ae B5 45 (gk a6 g6 g7 g8 g9 h0 h1),ae B6 45 [iV 0,iV 0,iV 0,iV 0,Y none 0 0,Y none 0 0]]) ?_ ?_
 ·refine ab ?_
  refine gB (i7 (cs:=[Y j7 j8 j9,Y b7 b9 c8]) J (nN _ _ _ _ _ _)) fun b6=> ?_
  refine dU (qe J VA) ?_;refine uJ 3 ?_;refine vD ?_;refine ab ?_;refine au ?_;refine cN J ?_;refine ab ?_;refine ai (fun s L=> ∃c9 a8 b0 b5,uG N p9 a6 c9=some r/\s=[(3,pV B5 0),(6,pV B6 0),(7,.map (some M7)),(55,.slice (some ⟨b6,0,none⟩) 2 2),(56,iV 2),(57,iV 0)]/\L=[ax cj sP M7 p9,aC a8 b0 b5 c9,aC b7 b9 c8 a6.Ya,ae B5 45 (gk a6 a8 b0 b5 b7 b9 c8),ae B6 45 [iV 0,iV 0,iV 0,iV 0,Y none 0 0,Y none 0 0],ae b6 43 [Y a8 b0 b5,Y b7 b9 c8]]) ?_ ?_
  ·refine ab ?_;refine dU (pg J J VA size43.out (by decide) (by decide)) ?_;refine lK (fun m s L=> ∃(h2:VY) (e7:Int) (d0:Option Addr) (d1 d2:Nat),gP N a6 p9 m h2 e7=some r/\s=[(3,pV B5 0),(6,pV B6 0),(7,.map (some M7)),(13,Y d0 d1 d2),(55,.slice (some ⟨b6,0,none⟩) 2 2),(56,iV 2),(57,iV 0),(61,Y d0 d1 d2),(62,iV (a6.Yb.length:Int)),(63,iV e7)]/\L=[ax cj sP M7 p9,aC d0 d1 d2 h2,aC b7 b9 c8 a6.Ya,ae B5 45 (gk a6 d0 d1 d2 b7 b9 c8),ae B6 45 [iV 0,iV 0,iV 0,iV 0,Y none 0 0,Y none 0 0],ae b6 43 [Y d0 d1 d2,Y b7 b9 c8]]) N ?_;rintro k0 _ _ ⟨h2,e7,d0,d1,d2,h,rfl,rfl⟩;rw [gP.eq_2] at h;refine ab ?_;refine au ?_;refine gH J h ?_ ?_<;>intro h
   ·refine ab ?_;refine ai (fun s L=> ∃h3 d3 d4 d6,ql N (gP N a6 p9 k0) a6 e7 p9 h3=some r/\s=[(3,pV B5 0),(6,pV B6 0),(7,.map (some M7)),(13,Y d3 d4 d6),(55,.slice (some ⟨b6,0,none⟩) 2 2),(56,iV 2),(57,iV 0),(61,Y d3 d4 d6),(62,iV (a6.Yb.length:Int)),(63,iV e7)]/\L=[ax cj sP M7 p9,aC d3 d4 d6 h3,aC b7 b9 c8 a6.Ya,ae B5 45 (gk a6 d3 d4 d6 b7 b9 c8),ae B6 45 [iV 0,iV 0,iV 0,iV 0,Y none 0 0,Y none 0 0],ae b6 43 [Y d3 d4 d6,Y b7 b9 c8]]) ?_ ?_
    ·refine ab ?_;obtain ⟨h4,k2,k3,k4,h⟩:=aM h
     refine du fun l0=> ?_
     refine H3 (ua (a:=h4.N) (z:=0) 1 J wD J J Vy (dX Ex) zero3.out) ?_
     refine qo 3 79 76 h (fun _ l1 h=> ?_) fun l2 h=> ?_
     ·refine cR h (fun _ k=>vz k) fun l3 h=> ?_
      exact gY
     refine dI h ?_ ?_<;>intro h
     ·refine ab ?_;obtain ⟨i1,e8,e9,h5,h⟩:=aM h;refine ab ?_;refine gR (ox 2 J ak J (toNat_lt e8 e9) Ce) ?_;refine Gl (cF (us:=[iV ((lk p9 h4.N).getD 0)]) (z:=(⟨i1.XZ,(lk p9 h4.N).getD 0,i1.S⟩:VN)) 2 J J J J size3.out J (toNat_lt e8 e9) J (fun S w vs xk hk hr ho=>by obtain rfl:=XH (hk.symm.trans h5);rw [show _=_ from hr];rfl)) ?_;exact jN
     exact jY
    rintro _ _ ⟨h3,d3,d4,d6,h,rfl,rfl⟩;refine ab ?_;obtain ⟨l4,h⟩:=ac h;exact lY
   exact jY
  rintro _ _ ⟨c9,a8,b0,b5,h,rfl,rfl⟩;refine ab ?_;refine dU (fF J J (by decide) (by decide)) ?_;refine vD ?_;refine ab ?_;refine au ?_;refine cN J ?_;refine ab ?_;refine ai (fun s L=> ∃h6 f9 g0 g1,uF N p9 c9 a6 h6=some r/\s=[(3,pV B5 0),(6,pV B6 0),(7,.map (some M7)),(55,.slice (some ⟨b6,0,none⟩) 2 2),(56,iV 2),(57,iV 1)]/\L=[ax cj sP M7 p9,aC a8 b0 b5 c9,aC f9 g0 g1 h6,ae B5 45 (gk a6 a8 b0 b5 f9 g0 g1),ae B6 45 [iV 0,iV 0,iV 0,iV 0,Y none 0 0,Y none 0 0],ae b6 43 [Y a8 b0 b5,Y f9 g0 g1]]) ?_ ?_
  ·refine ab ?_;refine dU (pg J J VA size43.out (by decide) (by decide)) ?_;refine lK (fun m s L=> ∃(h7:VY) (f1:Int) (e0:Option Addr) (e1 e2:Nat),gN N a6 p9 c9 m h7 f1=some r/\s=[(3,pV B5 0),(6,pV B6 0),(7,.map (some M7)),(13,Y e0 e1 e2),(55,.slice (some ⟨b6,0,none⟩) 2 2),(56,iV 2),(57,iV 1),(61,Y e0 e1 e2),(62,iV (a6.Ya.length:Int)),(63,iV f1)]/\L=[ax cj sP M7 p9,aC e0 e1 e2 h7,aC a8 b0 b5 c9,ae B5 45 (gk a6 a8 b0 b5 e0 e1 e2),ae B6 45 [iV 0,iV 0,iV 0,iV 0,Y none 0 0,Y none 0 0],ae b6 43 [Y a8 b0 b5,Y e0 e1 e2]]) N ?_;rintro k5 _ _ ⟨h7,f1,e0,e1,e2,h,rfl,rfl⟩;rw [gN.eq_2] at h;refine ab ?_;refine au ?_;refine gH J h ?_ ?_<;>intro h
   ·refine ab ?_;refine ai (fun s L=> ∃h8 e3 e4 e5,qk N (gN N a6 p9 c9 k5) a6 f1 p9 c9 h8=some r/\s=[(3,pV B5 0),(6,pV B6 0),(7,.map (some M7)),(13,Y e3 e4 e5),(55,.slice (some ⟨b6,0,none⟩) 2 2),(56,iV 2),(57,iV 1),(61,Y e3 e4 e5),(62,iV (a6.Ya.length:Int)),(63,iV f1)]/\L=[ax cj sP M7 p9,aC e3 e4 e5 h8,aC a8 b0 b5 c9,ae B5 45 (gk a6 a8 b0 b5 e3 e4 e5),ae B6 45 [iV 0,iV 0,iV 0,iV 0,Y none 0 0,Y none 0 0],ae b6 43 [Y a8 b0 b5,Y e3 e4 e5]]) ?_ ?_
    ·refine ab ?_;obtain ⟨h9,k6,k7,k8,h⟩:=aM h
     refine du fun l5=> ?_
     refine H3 (ua (a:=h9.N) (z:=0) 1 J wD J J Vy (dX Ex) zero3.out) ?_
     refine qo 3 79 76 h (fun _ l6 h=> ?_) fun l7 h=> ?_
     ·refine cR h (fun _ k=>vz k) fun l8 h=> ?_
      exact gY
     refine dI h ?_ ?_<;>intro h
     ·refine ab ?_;obtain ⟨i2,f2,f3,i0,h⟩:=aM h;refine ab ?_;refine gR (ox 2 J ak J (toNat_lt f2 f3) Ce) ?_;refine Gl (cF (us:=[iV ((lk p9 h9.N).getD 0)]) (z:=(⟨i2.XZ,(lk p9 h9.N).getD 0,i2.S⟩:VN)) 2 J J J J size3.out J (toNat_lt f2 f3) J (fun S w vs xk hk hr ho=>by obtain rfl:=XH (hk.symm.trans i0);rw [show _=_ from hr];rfl)) ?_;exact jN
     exact jY
    rintro _ _ ⟨h8,e3,e4,e5,h,rfl,rfl⟩;refine ab ?_;obtain ⟨l9,h⟩:=ac h;exact lY
   exact jY
  rintro _ _ ⟨h6,f9,g0,g1,h,rfl,rfl⟩;refine ab ?_;refine dU (fF J J (by decide) (by decide)) ?_;refine vD ?_;refine ab ?_;refine au ?_;refine cE J ?_;exact jY
 rintro _ _ ⟨g4,g5,g6,g7,g8,g9,h0,h1,h,rfl,rfl⟩;exact eY
theorem D1 {r:VJ}: ∀v post,((fun (u:Value) (post:Wa)=> ∃A0 n0 c0 A1 n1 c1,u=.agg #[iV r.XZ,iV r.Yf,iV r.Ye,iV r.Yg,Y A0 n0 c0,Y A1 n1 c1]/\post=[aC A0 n0 c0 r.Yb,aC A1 n1 c1 r.Ya])) v post-> ∀c∈post,mT c:=by
 rintro _ _ ⟨_,_,_,_,_,_,rfl,rfl⟩;exact t9 rR (t9 rR (aR))
def kk (a0:VY)(a1 a2:VZ):Option VY:=
 (gi N (⟨0,0,0,0,[],a0⟩:VJ) a1 a2).bind fun y4=>some y4.Ya
theorem yi {N:Nat}{a0:VY}{a1:VZ}{r:VY}(h:kk N a0 a1 a2=some r):Okc Wc 163 [Y A1 n1 c1,Y A2 n2 c2,Y A3 n3 c3] ([aZ A1 n1 c1 a0,fH A2 n2 c2 a1,fH A3 n3 c3 a2]) (fun u post=> ∃A0 n0 c0,u=Y A0 n0 c0/\post=[aC A0 n0 c0 r]):=by
 refine Gf Tryz.func163 J J ?_;simp only [uz];refine B ?_;refine gE (ny J (bld_45_5 _ _ _).out) ?_;refine B ?_;obtain ⟨y4,k,h⟩:=aa h;refine gD (kV (vC k) J (t9 (Ox) (t9 (jU (i:=0) J J) (t9 (jU (i:=1) J J) (t9 (jU (i:=2) J J) aR)))) D1) ?_;rintro _ _ ⟨_,⟨A5,n5,c5,A6,n6,c6,rfl,rfl⟩,rfl⟩;refine gE (ux J (FD _ _ _ _ _ _ _ _ _ _)) ?_;refine B ?_;obtain rfl:=jn h;exact Ai J J (cS [1] 5) ⟨_,_,_,J,J⟩
end
section
variable {A1 A2 A3 A4 A5 A6 A7:Option Addr}{B1 B2 B3 B6 B8 M2 M7 M9 c1 c2 c3 c4 c5 c6 c7 n1 n2 n3 n4 n5 n6 n7:Nat}
open Go.RowKit Asn
set_option maxRecDepth 20000
def pS (a1:VY)(b0:VZ)(b5:VX)(b6:VY)(b7 b9:V7):Option (VR×VY×VY×Int):=
 (kk N a1 b5.Yq b0).bind fun a6=>(kk N b6 b5.Yq b0).bind fun a8=>some ((⟨b7,b9⟩:VR),a6,a8,0)
def mH (N:Nat)(a6:VY->Int->V7->V7->Option (VR×VY×VY×Int))(b7:VX)(a8:Int)(a1:VY)(b9 c0:VZ)(b0:VY)(b5 b6:V7):Option (VR×VY×VY×Int):=
 aE (in64 (a8+1)) (a6 b0 (a8+1) b5 b6)
def dP (N:Nat)(a8:VX)(a1:VY)(b0 b5:VZ):Nat->VY->Int->V7->V7->Option (VR×VY×VY×Int)
 |0,_,_,_,_=>none
 |c8+1,c9,b6,b7,b9=>bif decide (b6<(a8.Yq.length:Int)) then ((ap a8.Yq b6).bind fun d0=>(bv N a8 d0).bind fun d1=>(kl N d1 b5 c9).bind fun c0=>(gi N c0.1 a8.Yq b0).bind fun a6=>(ap b0 b6).bind fun d2=>(ge N d2).bind fun d3=>bif d3 then (aE (ci (b7.length+([(⟨a6.XZ,a6.Yf,a6.Ye,1,a6.Yb,a6.Ya⟩:VJ)]:List VJ).length)) (mH N (dP N a8 a1 b0 b5 c8) a8 b6 a1 b0 b5 c0.2 (b7++([(⟨a6.XZ,a6.Yf,a6.Ye,1,a6.Yb,a6.Ya⟩:VJ)]:List VJ)) b9)) else (aE (ci (b9.length+([(⟨a6.XZ,a6.Yf,a6.Ye,1,a6.Yb,a6.Ya⟩:VJ)]:List VJ).length)) (mH N (dP N a8 a1 b0 b5 c8) a8 b6 a1 b0 b5 c0.2 b7 (b9++([(⟨a6.XZ,a6.Yf,a6.Ye,1,a6.Yb,a6.Ya⟩:VJ)]:List VJ))))) else (pS N a1 b0 a8 c9 b7 b9)
def pT (a1:VY)(a6:VZ)(a8:VX)(b0:VY)(b5:VZ)(b6:V7):Option (VR×VY×VY×Int):=
 dP N a8 a1 a6 b5 N b0 0 [] b6
def jS (a6:VY->VZ->Int->V7->Option (VR×VY×VY×Int))(a0:VR)(a8:Int)(a1:VY)(a2 b6 b7:VZ)(b0:V7)(b9:VX)(c0:VY)(c8 c9 d0 d1:Int)(d2 d3:VY):Option (VR×VY×VY×Int):=
 (gi N (⟨c8,c9,d0,d1,d2,d3⟩:VJ) b9.Yq b6).bind fun b5=>aE (ci (b0.length+([b5]:List VJ).length)) (aE (in64 (a8+1)) (a6 c0 b7 (a8+1) (b0++([b5]:List VJ))))
def eZ (N:Nat)(a0:VR)(a1:VY)(a2 b5:VZ)(b6:VX):Nat->VY->VZ->Int->V7->Option (VR×VY×VY×Int)
 |0,_,_,_,_=>none
 |c8+1,b9,b7,a6,c0=>bif decide (a6<(a0.Yc.length:Int)) then ((ap a0.Yc a6).bind fun a8=>aE (in64 (2*a6)) (aE (in64 ((2*a6)+2)) ((dM N a2 ((2*a6)+2)).bind fun c9=>bif c9 then ((kl N a8 b7 b9).bind fun b0=>jS N (eZ N a0 a1 a2 b5 b6 c8) a0 a6 a1 a2 b5 b7 c0 b6 b0.2 b0.1.XZ b0.1.Yf b0.1.Ye b0.1.Yg b0.1.Yb b0.1.Ya) else (jS N (eZ N a0 a1 a2 b5 b6 c8) a0 a6 a1 a2 b5 b7 c0 b6 b9 a8.XZ a8.Yf a8.Ye a8.Yg a8.Yb a8.Ya)))) else (pT N a1 b5 b6 b9 b7 c0)
def jx (a0:VR)(a1:VY)(a2:VZ):Option (VR×VY×VY×Int):=
 (rO N a0 a1 a2).bind fun y7=>bif !y7 then (some ((⟨[],[]⟩:VR),[],[],1)) else ((pv N a0 a1 a2).bind fun a6=>(fL N a6).bind fun a8=>(fk N a6).bind fun b0=>eZ N a0 a1 a2 a8 a6 N [] b0 0 [])
def nX (a1:VY)(b0:VZ)(b5:VX)(a0:VR)(b6:VY)(b7 b9:V7):Option ((VR×VY×VY) ⊕ (VR×VY×VY)):=
 (kk N a1 b5.Yq b0).bind fun a6=>(kk N b6 b5.Yq b0).bind fun a8=>some (.inr ((⟨b7,b9⟩:VR),a6,a8))
def kF (N:Nat)(a6:VY->Int->V7->V7->Option ((VR×VY×VY) ⊕ (VR×VY×VY)))(b7:VX)(a8:Int)(a1:VY)(b9 c0:VZ)(a0:VR)(b0:VY)(b5 b6:V7):Option ((VR×VY×VY) ⊕ (VR×VY×VY)):=
 aE (in64 (a8+1)) (a6 b0 (a8+1) b5 b6)
def fm (N:Nat)(a8:VX)(a1:VY)(b0 b5:VZ)(a0:VR):Nat->VY->Int->V7->V7->Option ((VR×VY×VY) ⊕ (VR×VY×VY))
 |0,_,_,_,_=>none
 |c8+1,c9,b6,b7,b9=>bif decide (b6<(a8.Yq.length:Int)) then ((ap a8.Yq b6).bind fun d0=>(bv N a8 d0).bind fun d1=>(kl N d1 b5 c9).bind fun c0=>(gi N c0.1 a8.Yq b0).bind fun a6=>(ap b0 b6).bind fun d2=>(ge N d2).bind fun d3=>bif d3 then (aE (ci (b7.length+([(⟨a6.XZ,a6.Yf,a6.Ye,1,a6.Yb,a6.Ya⟩:VJ)]:List VJ).length)) (kF N (fm N a8 a1 b0 b5 a0 c8) a8 b6 a1 b0 b5 a0 c0.2 (b7++([(⟨a6.XZ,a6.Yf,a6.Ye,1,a6.Yb,a6.Ya⟩:VJ)]:List VJ)) b9)) else (aE (ci (b9.length+([(⟨a6.XZ,a6.Yf,a6.Ye,1,a6.Yb,a6.Ya⟩:VJ)]:List VJ).length)) (kF N (fm N a8 a1 b0 b5 a0 c8) a8 b6 a1 b0 b5 a0 c0.2 b7 (b9++([(⟨a6.XZ,a6.Yf,a6.Ye,1,a6.Yb,a6.Ya⟩:VJ)]:List VJ))))) else (nX N a1 b0 a8 a0 c9 b7 b9)
def nZ (a1:VY)(a6:VZ)(a8:VX)(a0:VR)(b0:VY)(b5:VZ)(b6:V7):Option ((VR×VY×VY) ⊕ (VR×VY×VY)):=
 fm N a8 a1 a6 b5 a0 N b0 0 [] b6
def kG (a6:VY->VZ->Int->V7->Option ((VR×VY×VY) ⊕ (VR×VY×VY)))(a0:VR)(a8:Int)(a1:VY)(a2 b6 b7:VZ)(b0:V7)(b9:VX)(c0:VY)(c8 c9 d0 d1:Int)(d2 d3:VY):Option ((VR×VY×VY) ⊕ (VR×VY×VY)):=
 (gi N (⟨c8,c9,d0,d1,d2,d3⟩:VJ) b9.Yq b6).bind fun b5=>aE (ci (b0.length+([b5]:List VJ).length)) (aE (in64 (a8+1)) (a6 c0 b7 (a8+1) (b0++([b5]:List VJ))))
def fo (N:Nat)(a0:VR)(a1:VY)(a2 b5:VZ)(b6:VX):Nat->VY->VZ->Int->V7->Option ((VR×VY×VY) ⊕ (VR×VY×VY))
 |0,_,_,_,_=>none
 |c8+1,b9,b7,a6,c0=>bif decide (a6<(a0.Yc.length:Int)) then ((ap a0.Yc a6).bind fun a8=>aE (in64 (2*a6)) (aE (in64 ((2*a6)+2)) ((dM N a2 ((2*a6)+2)).bind fun c9=>bif c9 then ((kl N a8 b7 b9).bind fun b0=>kG N (fo N a0 a1 a2 b5 b6 c8) a0 a6 a1 a2 b5 b7 c0 b6 b0.2 b0.1.XZ b0.1.Yf b0.1.Ye b0.1.Yg b0.1.Yb b0.1.Ya) else (kG N (fo N a0 a1 a2 b5 b6 c8) a0 a6 a1 a2 b5 b7 c0 b6 b9 a8.XZ a8.Yf a8.Ye a8.Yg a8.Yb a8.Ya)))) else (nZ N a1 b5 b6 a0 b9 b7 c0)
def dQ (a0:VR)(a1:VY)(a2:VZ):Option ((VR×VY×VY) ⊕ (VR×VY×VY)):=
 (rO N a0 a1 a2).bind fun y7=>bif !y7 then (some (.inl ((⟨[],[]⟩:VR),[],[]))) else ((pv N a0 a1 a2).bind fun a6=>(fL N a6).bind fun a8=>(fk N a6).bind fun b0=>fo N a0 a1 a2 a8 a6 N [] b0 0 [])
theorem uj {N:Nat}{a0:VR}{a1:VY}{r:((VR×VY×VY) ⊕ (VR×VY×VY))}(h:dQ N a0 a1 a2=some r):Okc Wc 101 [.agg #[Y A1 n1 c1,Y A2 n2 c2],Y A3 n3 c3,Y A4 n4 c4] ([aZ A3 n3 c3 a1,fH A4 n4 c4 a2,cL A1 n1 c1 a0.Yd,cL A2 n2 c2 a0.Yc]) (fun u post=>PO (fun (r:VR×VY×VY)=> ∃e4 e5 e6 e7 e8 e9 f1 f2 f3 f4 f9 g0,u=.tuple #[.agg #[Y e4 e5 e6,Y e7 e8 e9],Y f1 f2 f3,Y f4 f9 g0,iV 1]/\post=[cL e4 e5 e6 r.1.Yd,cL e7 e8 e9 r.1.Yc,aC f1 f2 f3 r.2.1,aC f4 f9 g0 r.2.2,cL A1 n1 c1 a0.Yd,cL A2 n2 c2 a0.Yc]) (fun (r:VR×VY×VY)=> ∃e4 e5 e6 e7 e8 e9 f1 f2 f3 f4 f9 g0,u=.tuple #[.agg #[Y e4 e5 e6,Y e7 e8 e9],Y f1 f2 f3,Y f4 f9 g0,iV 0]/\post=[cL e4 e5 e6 r.1.Yd,cL e7 e8 e9 r.1.Yc,aC f1 f2 f3 r.2.1,aC f4 f9 g0 r.2.2]) r):=by
 refine bY Tryz.func101 ?_;intro B5
 refine du fun B6=> ?_
 refine sZ ?_;obtain ⟨y7,k,h⟩:=aa h;refine C7 (oR (HO k)) ?_;refine gH J h ?_ ?_<;>intro h
 ·refine ab ?_;obtain rfl:=jn h;exact uB (rs:=[.cell 6 125,.tmp 7,.tmp 8,.tmp 9]) (vs:=[.agg #[Y none 0 0,Y none 0 0],Y none 0 0,Y none 0 0,iV 1]) J (.cons (lC 0 J J agg125.out) (.cons (qB J) (.cons (qB J) (.cons (qB J) .nil)))) J ((bq ei 45 _).trans ((bq ei 45 _).trans ((bq av 29 _).trans ((bq av 29 _).trans (cS [3,2,1,0,8,9] 10))))) ⟨_,_,_,_,_,_,_,_,_,_,_,_,J,J⟩
 refine ab ?_;obtain ⟨a6,m9,h⟩:=aa h;refine r8 (bL 4 J) ?_;refine r8 (bL 5 J) ?_;refine ab ?_;refine gD (oC (HP m9)) ?_;rintro _ _ ⟨_,⟨a8,d0,d1,d2,d3,d4,d6,e0,e1,e2,b5,b6,b7,e3,rfl,rfl⟩,rfl⟩;refine ab ?_;obtain ⟨c9,k,h⟩:=aa h
 refine r9 (oC (wA k)) fun b9 c0 c8=> ?_
 obtain ⟨s8,k,h⟩:=aa h
 refine r9 (oR (rN k)) fun s9 t1 t2=> ?_
 refine ai (fun s L=> ∃l2 g5 l3 l4 l5 l6 g9 h0 h1 l7 l8 l9,nZ N a1 c9 a6 a0 l2 g5 l3=some r/\s=[(1,Y A3 n3 c3),(6,pV B6 0),(7,Y none 0 0),(8,Y l4 l5 l6),(9,iV 0),(10,pV a8 0),(11,Y b9 c0 c8),(12,Y g9 h0 h1)]/\L=[aZ A3 n3 c3 a1,aC l4 l5 l6 l2,fq b9 c0 c8 c9,fH g9 h0 h1 g5,cL l7 l8 l9 l3,ae B6 125 [Y none 0 0,Y l7 l8 l9],bB d0 d1 d2 a6.m_.Yd,bB d3 d4 d6 a6.m_.Yc,fH e0 e1 e2 a6.YF,fq b5 b6 b7 a6.Yq,ax cj fv e3 a6.YE,ae a8 223 [Y d0 d1 d2,Y d3 d4 d6,Y e0 e1 e2,Y b5 b6 b7,.map (some e3),iV a6.Yy],bB A1 n1 c1 a0.Yd,bB A2 n2 c2 a0.Yc]) ?_ ?_
 ·refine ab ?_;refine ii (fun m s L=> ∃n0 h9 h2 i0 n8 n9 o0 g6 g7 g8 g2 g3 g4,fo N a0 a1 a2 c9 a6 m n0 h9 h2 i0=some r/\s=[(1,Y A3 n3 c3),(2,Y A4 n4 c4),(6,pV B6 0),(7,Y none 0 0),(8,Y n8 n9 o0),(9,iV 0),(10,pV a8 0),(11,Y b9 c0 c8),(12,Y g6 g7 g8),(33,Y A2 n2 c2),(34,iV (a0.Yc.length:Int)),(35,iV h2)]/\L=[aZ A3 n3 c3 a1,fH A4 n4 c4 a2,aC n8 n9 o0 n0,fq b9 c0 c8 c9,fH g6 g7 g8 h9,bB A2 n2 c2 a0.Yc,cL g2 g3 g4 i0,ae B6 125 [Y none 0 0,Y g2 g3 g4],bB d0 d1 d2 a6.m_.Yd,bB d3 d4 d6 a6.m_.Yc,fH e0 e1 e2 a6.YF,fq b5 b6 b7 a6.Yq,ax cj fv e3 a6.YE,ae a8 223 [Y d0 d1 d2,Y d3 d4 d6,Y e0 e1 e2,Y b5 b6 b7,.map (some e3),iV a6.Yy],bB A1 n1 c1 a0.Yd]) N _ _ ⟨[],s8,0,[],none,0,0,s9,t1,t2,none,0,0,h,J,J⟩ sA ((bq av 29 _).trans ((bL 1 J).trans ((bq ei 45 _).trans (cS [12,13,1,3,2,15,0,10,7,8,9,5,6,4,14] 16)))) ?_;rintro (_|u0)
  all_goals (refine fun s L=>aj fun n0=>aj fun h9=>aj fun h2=>aj fun i0=>aj fun n8=>aj fun n9=>aj fun o0=>aj fun g6=>aj fun g7=>aj fun g8=>aj fun g2=>aj fun g3=>aj fun g4=>yy fun h=> ?_)
  ·exact az h
  rw [fo.eq_2] at h;refine ab ?_;refine au ?_;refine gH J h ?_ ?_<;>intro h
  ·refine sY ?_;obtain ⟨s3,u1,u2,o1,h⟩:=aM h;refine ab ?_;refine Cu 5 J o1 (kj s3) ?_;rintro _ _ ⟨u3,u4,u5,u6,u7,u8,rfl,rfl⟩;refine H3 (sW (us:=(gk s3 u3 u4 u5 u6 u7 u8)) 0 J J agg45.out J) ?_;intro j7;refine ab ?_;refine ai (fun s L=> ∃m0 i1 i2 i8 j0 m1 m2 j1 j2 j3 h3 h4 h5 h6 h7 h8,kG N (fo N a0 a1 a2 c9 a6 u0) a0 h2 a1 a2 c9 h9 i0 a6 m0 i1 i2 i8 j0 m1 m2=some r/\s=[(1,Y A3 n3 c3),(2,Y A4 n4 c4),(6,pV B6 0),(7,Y none 0 0),(8,Y j1 j2 j3),(9,iV 0),(10,pV a8 0),(11,Y b9 c0 c8),(12,Y g6 g7 g8),(14,pV j7 0),(33,Y A2 n2 c2),(34,iV (a0.Yc.length:Int)),(35,iV h2)]/\L=[aZ A3 n3 c3 a1,fH A4 n4 c4 a2,aC j1 j2 j3 m0,fq b9 c0 c8 c9,fH g6 g7 g8 h9,bB A2 n2 c2 a0.Yc,cL g2 g3 g4 i0,ae B6 125 [Y none 0 0,Y g2 g3 g4],bB d0 d1 d2 a6.m_.Yd,bB d3 d4 d6 a6.m_.Yc,fH e0 e1 e2 a6.YF,fq b5 b6 b7 a6.Yq,ax cj fv e3 a6.YE,ae a8 223 [Y d0 d1 d2,Y d3 d4 d6,Y e0 e1 e2,Y b5 b6 b7,.map (some e3),iV a6.Yy],aZ h3 h4 h5 m1,aZ h6 h7 h8 m2,ae j7 45 [iV i1,iV i2,iV i8,iV j0,Y h3 h4 h5,Y h6 h7 h8],bB A1 n1 c1 a0.Yd]) ?_ ?_
   ·refine ab ?_;obtain ⟨s4,h⟩:=ac h;refine gE (nw J J s4.1 s4.2) ?_;obtain ⟨y9,h⟩:=ac h;refine ab ?_;obtain ⟨z1,k,h⟩:=aa h;refine C7 (oR (lu k)) ?_;refine gH J h ?_ ?_<;>intro h
    ·refine ab ?_;obtain ⟨z2,k,h⟩:=aa h
     refine TP (oC (yl k)) fun z6 A0 A8 A9 B0 B4 B7 B9 L0=> ?_
     exact jN
    exact jY
   refine fun s L=>aj fun m0=>aj fun i1=>aj fun i2=>aj fun i8=>aj fun j0=>aj fun m1=>aj fun m2=>aj fun j1=>aj fun j2=>aj fun j3=>aj fun h3=>aj fun h4=>aj fun h5=>aj fun h6=>aj fun h7=>aj fun h8=>yy fun h=> ?_
   obtain ⟨g1,o2,h⟩:=aa h;refine gQ (t:=[(1,Y A3 n3 c3),(2,Y A4 n4 c4),(6,pV B6 0),(7,Y none 0 0),(8,Y j1 j2 j3),(9,iV 0),(10,pV a8 0),(11,Y b9 c0 c8),(12,Y g6 g7 g8),(14,pV j7 0),(33,Y A2 n2 c2),(34,iV (a0.Yc.length:Int)),(35,iV h2)]) ?_ lj (ah _)
   refine ig I 10 [] [1,9] [52,53,54,55,56,57,58,59,60,61] [[],[0],[],[],[3],[4],[5],[],[2,6,7],[8]] [aV (pV B6 1),
aV (Y g2 g3 g4),
aV (.agg #[iV i1,iV i2,iV i8,iV j0,Y h3 h4 h5,Y h6 h7 h8]),
aV (pV a8 0),
aV (pV a8 0),
aV (pV a8 3),
aV (Y b5 b6 b7),
aV (Y b9 c0 c8),
aX6 (fun (j8:Option Addr) (j9 k0:Nat) (k2:Option Addr) (k3 k4:Nat)=> .agg #[iV g1.XZ,iV g1.Yf,iV g1.Ye,iV g1.Yg,Y j8 j9 k0,Y k2 k3 k4]) (fun j8 j9 k0 k2 k3 k4=> [aZ j8 j9 k0 g1.Yb,aZ k2 k3 k4 g1.Ya]),
aX3 (fun (j4:Option Addr) (j5 j6:Nat)=> Y j4 j5 j6) (fun j4 j5 j6=> [cL j4 j5 j6 ([g1]:List VJ)])] [] (ah _) (kU) I rfl rfl ?_ ?_ ?_
   ·exact kT
   ·refine aH J ?_ ?_
    ·intro j8 j9 k0 k2 k3 k4;refine xr (aL (R:=ei) (vss:=[(gk g1 j8 j9 k0 k2 k3 k4)]) (xs:=[g1]) J (wh _ _ _ _ _ _ _ _ _ _) J J (fun _ _ hr=> .cons (⟨_,_,_,_,_,_,J,hr 0 _ J J,hr 1 _ J J⟩) All2.nil)) J ?_;rintro _ _ ⟨u9,v1,v2,rfl,rfl⟩;exact Ic u9 v1 v2 (ah _)
    refine aH J ?_ ?_
    ·refine xr (oR (vC o2)) J ?_;rintro _ _ ⟨_,⟨v6,v7,v8,w0,w1,w2,rfl,rfl⟩,rfl⟩;exact Sq v6 v7 v8 w0 w1 w2 ((bL 0 J).trans ((bL 1 J).trans (ah _)))
    refine qE (ao J) ?_;refine qR (bM 13 J J E8 J) ?_;refine qE (jW J Cf) ?_;refine qE (bF J) ?_;refine qE (ao J) ?_;refine qR (jh (us:=[iV i1,iV i2,iV i8,iV j0,Y h3 h4 h5,Y h6 h7 h8]) 16 J J agg45.out J) ?_;refine qR (bM 7 J J HK J) ?_;refine qE (jW J FO) ?_;exact di
   intro j4 j5 j6;refine nB (t:=[(53,Y g2 g3 g4),(61,Y j4 j5 j6),(1,Y A3 n3 c3),(2,Y A4 n4 c4),(6,pV B6 0),(7,Y none 0 0),(8,Y j1 j2 j3),(9,iV 0),(10,pV a8 0),(11,Y b9 c0 c8),(12,Y g6 g7 g8),(14,pV j7 0),(33,Y A2 n2 c2),(34,iV (a0.Yc.length:Int)),(35,iV h2)]) (L':=[cL j4 j5 j6 ([g1]:List VJ),aZ A3 n3 c3 a1,fH A4 n4 c4 a2,aC j1 j2 j3 m0,fq b9 c0 c8 c9,fH g6 g7 g8 h9,bB A2 n2 c2 a0.Yc,cL g2 g3 g4 i0,ae B6 125 [Y none 0 0,Y g2 g3 g4],bB d0 d1 d2 a6.m_.Yd,bB d3 d4 d6 a6.m_.Yc,fH e0 e1 e2 a6.YF,fq b5 b6 b7 a6.Yq,ax cj fv e3 a6.YE,ae a8 223 [Y d0 d1 d2,Y d3 d4 d6,Y e0 e1 e2,Y b5 b6 b7,.map (some e3),iV a6.Yy],aZ h3 h4 h5 m1,aZ h6 h7 h8 m2,ae j7 45 [iV i1,iV i2,iV i8,iV j0,Y h3 h4 h5,Y h6 h7 h8],bB A1 n1 c1 a0.Yd]) ?_ lj (ah _);obtain ⟨w3,h⟩:=ac h;refine qu 10 J I (aQ 7 0 J J ak J J Vo Iv J J w3) J J J ?_;rintro _ _ ⟨s5,s6,s7,rfl,rfl⟩;refine yg ?_;refine D4 11 J I (jW J FO) J J J ?_;refine r7 12 J I (ar (us:=[Y s5 s6 s7]) (cs':=[Y none 0 0,Y s5 s6 s7]) 8 J J J J size123.out J J J) J J ?_;rintro _ _ rfl;refine lh I ?_;refine ab ?_;obtain ⟨L1,h⟩:=ac h;exact lY
  exact jY
 rintro _ _ ⟨l2,g5,l3,l4,l5,l6,g9,h0,h1,l7,l8,l9,h,rfl,rfl⟩;refine ai (fun s L=> ∃o3 o4 o5 p1 p2 p3 k5 k6 k7 k8 k9 l0,nX N a1 c9 a6 a0 o3 o4 o5=some r/\s=[(1,Y A3 n3 c3),(6,pV B6 0),(7,Y none 0 0),(8,Y p1 p2 p3),(9,iV 0),(10,pV a8 0),(11,Y b9 c0 c8)]/\L=[aZ A3 n3 c3 a1,aC p1 p2 p3 o3,fq b9 c0 c8 c9,cL k5 k6 k7 o4,cL k8 k9 l0 o5,ae B6 125 [Y k5 k6 k7,Y k8 k9 l0],bB d0 d1 d2 a6.m_.Yd,bB d3 d4 d6 a6.m_.Yc,fH e0 e1 e2 a6.YF,fq b5 b6 b7 a6.Yq,ax cj fv e3 a6.YE,ae a8 223 [Y d0 d1 d2,Y d3 d4 d6,Y e0 e1 e2,Y b5 b6 b7,.map (some e3),iV a6.Yy],bB A1 n1 c1 a0.Yd,bB A2 n2 c2 a0.Yc]) ?_ ?_
 ·refine ab ?_;refine ii (fun m s L=> ∃p4 l1 p5 p6 p7 p8 q0 q1 q2 q3 q4 q5 q6,fm N a6 a1 c9 g5 a0 m p4 l1 p5 p6=some r/\s=[(1,Y A3 n3 c3),(6,pV B6 0),(7,Y none 0 0),(8,Y p7 p8 q0),(9,iV 0),(10,pV a8 0),(11,Y b9 c0 c8),(12,Y g9 h0 h1),(68,Y b5 b6 b7),(69,iV (a6.Yq.length:Int)),(70,iV l1)]/\L=[aZ A3 n3 c3 a1,aC p7 p8 q0 p4,fq b9 c0 c8 c9,fH g9 h0 h1 g5,fq b5 b6 b7 a6.Yq,cL q1 q2 q3 p5,cL q4 q5 q6 p6,ae B6 125 [Y q1 q2 q3,Y q4 q5 q6],bB d0 d1 d2 a6.m_.Yd,bB d3 d4 d6 a6.m_.Yc,fH e0 e1 e2 a6.YF,ax cj fv e3 a6.YE,ae a8 223 [Y d0 d1 d2,Y d3 d4 d6,Y e0 e1 e2,Y b5 b6 b7,.map (some e3),iV a6.Yy],bB A1 n1 c1 a0.Yd,bB A2 n2 c2 a0.Yc]) N _ _ ⟨l2,0,[],l3,l4,l5,l6,none,0,0,l7,l8,l9,h,J,J⟩ sA ((bq ei 45 _).trans (cS [1,2,3,4,10,0,5,6,7,8,9,11,12,13,14] 15)) ?_;rintro (_|w4)
  all_goals (refine fun s L=>aj fun p4=>aj fun l1=>aj fun p5=>aj fun p6=>aj fun p7=>aj fun p8=>aj fun q0=>aj fun q1=>aj fun q2=>aj fun q3=>aj fun q4=>aj fun q5=>aj fun q6=>yy fun h=> ?_)
  ·exact az h
  rw [fm.eq_2] at h;refine ab ?_;refine au ?_;refine gH J h ?_ ?_<;>intro h
  ·refine ab ?_;refine ai (fun s L=> ∃q7 q8 q9 r0 r1 r2 r3 r4 r5 r6 s0 s1,kF N (fm N a6 a1 c9 g5 a0 w4) a6 l1 a1 c9 g5 a0 q7 q8 q9=some r/\s=[(1,Y A3 n3 c3),(6,pV B6 0),(7,Y none 0 0),(8,Y r0 r1 r2),(9,iV 0),(10,pV a8 0),(11,Y b9 c0 c8),(12,Y g9 h0 h1),(68,Y b5 b6 b7),(69,iV (a6.Yq.length:Int)),(70,iV l1)]/\L=[aZ A3 n3 c3 a1,aC r0 r1 r2 q7,fq b9 c0 c8 c9,fH g9 h0 h1 g5,fq b5 b6 b7 a6.Yq,cL r3 r4 r5 q8,cL r6 s0 s1 q9,ae B6 125 [Y r3 r4 r5,Y r6 s0 s1],bB d0 d1 d2 a6.m_.Yd,bB d3 d4 d6 a6.m_.Yc,fH e0 e1 e2 a6.YF,ax cj fv e3 a6.YE,ae a8 223 [Y d0 d1 d2,Y d3 d4 d6,Y e0 e1 e2,Y b5 b6 b7,.map (some e3),iV a6.Yy],bB A1 n1 c1 a0.Yd,bB A2 n2 c2 a0.Yc]) ?_ ?_
   ·refine ab ?_;obtain ⟨L2,w5,w6,w7,h⟩:=aM h;refine ab ?_;obtain ⟨L3,k,h⟩:=aa h
    refine UA (oC (gz k)) fun L4 L5 L6 L7 L8 L9=> ?_
    intro M0;refine ab ?_;obtain ⟨M1,k,h⟩:=aa h
    refine TP (oC (yl k)) fun M4 M5 M8 Q1 S0 S1 S2 S3 S4=> ?_
    refine dY [] ?_;refine ab ?_;obtain ⟨b0,k,h⟩:=aa h
    refine Ub 6 J (oR (vC k)) fun m3 m4 m5 m6 m7 m8=> ?_
    refine oV 7 J I I (ar (us:=(gk b0 m3 m4 m5 m6 m7 m8)) (cs':=(gk b0 m3 m4 m5 m6 m7 m8)) 5 J J J J size45.out J J J) ?_;rintro _ _ rfl;refine bp ?_;refine ab ?_;obtain ⟨S5,w8,w9,x1,h⟩:=aM h;refine ab ?_;obtain ⟨S6,k,h⟩:=aa h;refine C7 (oR (nj k)) ?_;refine gH J h ?_ ?_<;>intro h
    ·refine ab ?_;refine r8 (bL 0 J) ?_;refine r8 (bL 1 J) ?_;refine gD (aL (R:=ei) (vss:=[[iV b0.XZ,iV b0.Yf,iV b0.Ye,iV 1,Y m3 m4 m5,Y m6 m7 m8]]) (xs:=[(⟨b0.XZ,b0.Yf,b0.Ye,1,b0.Yb,b0.Ya⟩:VJ)]) J (wh _ _ _ _ _ _ _ _ _ _) J J (fun _ _ hr=> .cons (⟨_,_,_,_,_,_,J,hr 0 _ J J,hr 1 _ J J⟩) All2.nil)) ?_;rintro _ _ ⟨S7,S8,S9,rfl,rfl⟩;obtain ⟨x2,h⟩:=ac h
     refine r9 (aQ 15 0 J J ak J J Vo Iv J J x2) fun T0 T1 T2=> ?_
     exact jN
    refine ab ?_;refine r8 (bL 0 J) ?_;refine r8 (bL 1 J) ?_;refine ab ?_;refine gD (aL (R:=ei) (vss:=[[iV b0.XZ,iV b0.Yf,iV b0.Ye,iV 1,Y m3 m4 m5,Y m6 m7 m8]]) (xs:=[(⟨b0.XZ,b0.Yf,b0.Ye,1,b0.Yb,b0.Ya⟩:VJ)]) J (wh _ _ _ _ _ _ _ _ _ _) J J (fun _ _ hr=> .cons (⟨_,_,_,_,_,_,J,hr 0 _ J J,hr 1 _ J J⟩) All2.nil)) ?_;rintro _ _ ⟨x3,x4,x5,rfl,rfl⟩;obtain ⟨s2,h⟩:=ac h
    refine r9 (aQ 16 0 J J ak J J Vo Iv J J s2) fun x6 x7 x8=> ?_
    exact jN
   rintro _ _ ⟨q7,q8,q9,r0,r1,r2,r3,r4,r5,r6,s0,s1,h,rfl,rfl⟩;refine ab ?_;obtain ⟨x9,h⟩:=ac h;exact lY
  exact jY
 rintro _ _ ⟨o3,o4,o5,p1,p2,p3,k5,k6,k7,k8,k9,l0,h,rfl,rfl⟩;refine dY [0,1,2,3,4,5,6,8,9,10,11,12,13] ?_;obtain ⟨y0,k,h⟩:=aa h
 refine yQ 7 J (oR (yi k)) fun y1 y2 y3=> ?_
 obtain ⟨y4,k,h⟩:=aa h
 refine yQ 14 J (oR (yi k)) fun y5 y6 y8=> ?_
 refine zO 15 J (ar (us:=[Y k5 k6 k7,Y k8 k9 l0]) (cs':=[Y k5 k6 k7,Y k8 k9 l0]) 7 J J J J size125.out J J J) ?_;rintro _ _ rfl;refine bf ?_;refine bp ?_;refine zX [16,17,18] ?_;exact eY
def nq (a0:VY)(a1:VU):Option ((VR×VY×VY) ⊕ (VR×VY×VY)):=
 (mD N a1.Ys).bind fun a6=>(dQ N a1.m_ a0 a6).bind fun a8=>zy a8 (fun y13_0=>some (.inl (y13_0.1,y13_0.2.1,y13_0.2.2))) (fun y13_1=>some (.inr (y13_1.1,y13_1.2.1,y13_1.2.2)))
theorem cn {N:Nat}{a0:VY}{a1:VU}{r:((VR×VY×VY) ⊕ (VR×VY×VY))}(h:nq N a0 a1=some r):Okc Wc 100 [Y A1 n1 c1,pV B2 0] ([aZ A1 n1 c1 a0,aB B2 60 [pV B3 0],ae B3 128 [Y A4 n4 c4,Y A5 n5 c5,Y A6 n6 c6,Y A7 n7 c7,pV B8 0],cL A4 n4 c4 a1.m_.Yd,cL A5 n5 c5 a1.m_.Yc,aC A6 n6 c6 a1.Ym,aC A7 n7 c7 a1.Yt,ae B8 186 [.map (some M9)],ax cj fv M9 a1.Ys.at_]) (fun u post=>PO (fun (r:VR×VY×VY)=> ∃a6 a8 b0 b5 b6 b7 b9 c0 c8 c9 d0 d1,u=.tuple #[.agg #[Y a6 a8 b0,Y b5 b6 b7],Y b9 c0 c8,Y c9 d0 d1,iV 1]/\post=[cL a6 a8 b0 r.1.Yd,cL b5 b6 b7 r.1.Yc,aC b9 c0 c8 r.2.1,aC c9 d0 d1 r.2.2,cL A4 n4 c4 a1.m_.Yd,cL A5 n5 c5 a1.m_.Yc,aC A6 n6 c6 a1.Ym,aC A7 n7 c7 a1.Yt,ae B3 128 [Y A4 n4 c4,Y A5 n5 c5,Y A6 n6 c6,Y A7 n7 c7,pV B8 0],ae B8 186 [.map (some M9)],ax cj fv M9 a1.Ys.at_]) (fun (r:VR×VY×VY)=> ∃a6 a8 b0 b5 b6 b7 b9 c0 c8 c9 d0 d1,u=.tuple #[.agg #[Y a6 a8 b0,Y b5 b6 b7],Y b9 c0 c8,Y c9 d0 d1,iV 0]/\post=[cL a6 a8 b0 r.1.Yd,cL b5 b6 b7 r.1.Yc,aC b9 c0 c8 r.2.1,aC c9 d0 d1 r.2.2,aC A6 n6 c6 a1.Ym,aC A7 n7 c7 a1.Yt,ae B3 128 [Y A4 n4 c4,Y A5 n5 c5,Y A6 n6 c6,Y A7 n7 c7,pV B8 0],ae B8 186 [.map (some M9)],ax cj fv M9 a1.Ys.at_]) r):=by
 refine bY Tryz.func100 ?_;intro e9;refine ab ?_;refine au ?_;refine bm I ([ae e9 125 [Y none 0 0,Y none 0 0],aZ A1 n1 c1 a0,aB B2 60 [pV B3 0],ae B3 128 [Y A4 n4 c4,Y A5 n5 c5,Y A6 n6 c6,Y A7 n7 c7,pV B8 0],aC A6 n6 c6 a1.Ym,aC A7 n7 c7 a1.Yt,ae B8 186 [.map (some M9)],ax cj fv M9 a1.Ys.at_]) (cS [0,1,2,3,6,7,8,9] 10) ?_;refine zY [0,1,2,3,4,5,6,7,8] ?_;obtain ⟨f2,k,h⟩:=aa h
 refine yQ 9 J (oR (Ap k)) fun f3 f4 f9=> ?_
 refine lg (bL 0 J) (cS [1,2,3,4,7,8,9,10] 11) ?_;obtain ⟨f1,d2,h⟩:=aa h;rcases f1 with y13_0|y13_1
 ·replace h:=DQ h
  refine AX 10 J (oC (uj d2)) fun d3 d4 d6 e0 e1 e2 g0 g1 g2 g3 g4 g5=> ?_
  refine zY [11,12,13,14] ?_;refine oV 15 J I I (ar (us:=[Y d3 d4 d6,Y e0 e1 e2]) (cs':=[Y d3 d4 d6,Y e0 e1 e2]) 7 J J J J size125.out J J J) ?_;rintro _ _ rfl;refine bp ?_;refine zX [16,17,18] ?_;exact eY
 replace h:=DP h
 refine AX 10 J (oC (uj d2)) fun e3 e4 e5 e6 e7 e8 g6 g7 g8 g9 h0 h1=> ?_
 refine zY [11,12,13,14] ?_;refine oV 15 J I I (ar (us:=[Y e3 e4 e5,Y e6 e7 e8]) (cs':=[Y e3 e4 e5,Y e6 e7 e8]) 5 J J J J size125.out J J J) ?_;rintro _ _ rfl;refine zX [16,17,18] ?_;exact eY
def iC (N:Nat)(p3:VY):Option VY:=
 some p3
def mn (a1:Int):Option VY:=
 bif decide (a1<0) then none else (aE (in64 (0 - 0)) (aE (in64 (a1 - (0 - 0))) (bif decide (0<a1 - (0 - 0)) then (aE ((0:Int)<(a1 - (0 - 0))/\(a1 - (0 - 0))<=1099511627776) (iC N ([]:List VN))) else (iC N []))))
theorem wp {N:Nat}{r:VY}(h:mn N a1=some r):Okc Wc 114 [Y none 0 0,iV a1] ([]) (fun u post=> ∃A0 n0 c0,u=Y A0 n0 c0/\post=[aC A0 n0 c0 r]):=by
 refine bY Tryz.func114 ?_;refine sZ ?_;refine gH J h ?_ ?_<;>intro h
 ·exact az h
 refine ab ?_;refine ai (fun s L=> ∃p3 A3 n3 c3,iC N p3=some r/\s=[(0,Y A3 n3 c3),(4,Y none 0 0)]/\L=[aC A3 n3 c3 p3]) ?_ ?_
 ·refine ab ?_;refine dU (zu J z9) ?_;refine gE (qe J z9) ?_;obtain ⟨q4,h⟩:=ac h;refine ab ?_;obtain ⟨q5,h⟩:=ac h;refine dI h ?_ ?_<;>intro h
  ·refine ab ?_;refine gE (zu J z9) ?_;refine dU (Db J z9 size29.out J) ?_;obtain ⟨q7,h⟩:=ac h
   refine r9 (Az J J z9 Ex AW J q7.1 q7.2) fun A8 n8 c8=> ?_
   refine gE (qe J z9) ?_
   refine r9 (HI (R:=av) 0 J J z9 size29.out J J) fun A9 n9 c9=> ?_
   exact jN
  refine ab ?_;exact ⟨_,_,⟨[],none,0,0,h,J,J⟩,sA,(bq av 29 _).trans (cS [0] 1)⟩
 rintro _ _ ⟨p3,A3,n3,c3,h,rfl,rfl⟩;exact eY
def kN (N:Nat)(a6:VY):Option VY:=
 some a6
def lw (a0_0 a0_1:VY):Option VY:=
 (mn N ((0+(a0_0.length:Int))+(a0_1.length:Int))).bind fun y9=>aE (ci (y9.length+a0_0.length)) (aE (ci ((y9++a0_0).length+a0_1.length)) (kN N ((y9++a0_0)++a0_1)))
def cm (a0_0 a0_1:VY):Option VY:=
 aE (in64 (0+(a0_0.length:Int))) (bif decide (0+(a0_0.length:Int)<0) then none else (aE (in64 ((0+(a0_0.length:Int))+(a0_1.length:Int))) (bif decide ((0+(a0_0.length:Int))+(a0_1.length:Int)<0) then none else (lw N a0_0 a0_1))))
theorem bz {N:Nat}{a0_0 a0_1 r:VY}(h:cm N a0_0 a0_1=some r):Okc Wc 68 [.slice (some ⟨B1,0,none⟩) 2 2] ([aB B1 43 [Y A2 n2 c2,Y A3 n3 c3],aZ A2 n2 c2 a0_0,aZ A3 n3 c3 a0_1]) (fun u post=> ∃A0 n0 c0,u=Y A0 n0 c0/\post=[aC A0 n0 c0 r]):=by
 refine bY Tryz.func68 ?_;refine ai (fun s L=>lw N a0_0 a0_1=some r/\s=[(0,.slice (some ⟨B1,0,none⟩) 2 2),(2,Y none 0 0),(3,iV ((0+(a0_0.length:Int))+(a0_1.length:Int)))]/\L=[aZ A2 n2 c2 a0_0,aZ A3 n3 c3 a0_1,aB B1 43 [Y A2 n2 c2,Y A3 n3 c3]]) ?_ ?_
 ·refine ab ?_;refine dU (qe J VA) ?_;refine uJ 3 ?_;refine vD ?_;refine ab ?_;refine au ?_;refine cN J ?_;refine sY ?_;refine dU (pg J J VA size43.out (by decide) (by decide)) ?_;obtain ⟨q5,h⟩:=ac h;refine dI h ?_ ?_<;>intro h
  ·exact az h
  refine ab ?_;refine dU (fF J J (by decide) (by decide)) ?_;refine vD ?_;refine ab ?_;refine au ?_;refine cN J ?_;refine sY ?_;refine dU (pg J J VA size43.out (by decide) (by decide)) ?_;obtain ⟨q7,h⟩:=ac h;refine dI h ?_ ?_<;>intro h
  ·exact az h
  refine ab ?_;refine dU (fF J J (by decide) (by decide)) ?_;refine vD ?_;refine ab ?_;refine au ?_;refine cE J ?_;exact jY
 rintro _ _ ⟨h,rfl,rfl⟩
 refine LL h (fun _ k=>wp k) fun y9 b9 c8 c9 h=> ?_
 refine ai (fun s L=> ∃a6 a8 b0 b5,kN N a6=some r/\s=[(2,Y none 0 0),(6,Y a8 b0 b5)]/\L=[aC a8 b0 b5 a6]) ?_ ?_
 ·refine ab ?_;refine dU (qe J VA) ?_;refine uJ 3 ?_;refine vD ?_;refine ab ?_;refine au ?_;refine cN J ?_;refine sY ?_;refine dU (pg J J VA size43.out (by decide) (by decide)) ?_;obtain ⟨b6,h⟩:=ac h
  refine r9 (aQ 0 1 J J bS J J z9 AW J J b6) fun d0 d1 d2=> ?_
  refine dU (fF J J (by decide) (by decide)) ?_;refine vD ?_;refine ab ?_;refine au ?_;refine cN J ?_;refine sY ?_;refine dU (pg J J VA size43.out (by decide) (by decide)) ?_;obtain ⟨b7,h⟩:=ac h
  refine r9 (aQ 0 2 J J bS J J z9 AW J J b7) fun d3 d4 d6=> ?_
  refine dU (fF J J (by decide) (by decide)) ?_;refine vD ?_;refine ab ?_;refine au ?_;refine cE J ?_;exact jY
 rintro _ _ ⟨a6,a8,b0,b5,h,rfl,rfl⟩;exact eY
def o7 (N:Nat)(a0:VQ):Option VQ:=
 some (⟨[]⟩:VQ)
theorem zF {N:Nat}{a0 r:VQ}(h:o7 N a0=some r):Okc Wc 190 [pV B1 0] ([ae B1 186 [.map (some M2)],ax cj fv M2 a0.at_]) (fun u post=> ∃M0,u=.tuple #[]/\post=[ae B1 186 [.map (some M0)],ax cj fv M0 r.at_]):=by
 refine bY Tryz.func190 ?_;refine dU (tG J Vr) ?_;refine cN J ?_;refine ab ?_;refine Gl (Oa 1 J J Vv) ?_;exact eN
def fi (N:Nat)(a1:VR):Nat->Int->V8->Option VQ
 |0,_,_=>none
 |m8+1,p9,a6=>bif decide (p9<(a1.Yc.length:Int)) then ((ap a1.Yc p9).bind fun a8=>aE (in64 (2*p9)) (aE (in64 ((2*p9)+2)) ((cA N (⟨a6⟩:VQ) ((2*p9)+2) a8).bind fun b0=>aE (in64 (p9+1)) ((fi N a1 m8) (p9+1) b0.2.at_)))) else (some (⟨a6⟩:VQ))
def cG (a0:VQ)(a1:VR):Option VQ:=
 (o7 N a0).bind fun y6=>fi N a1 N 0 y6.at_
theorem sM {N:Nat}{a0:VQ}{a1:VR}{r:VQ}(h:cG N a0 a1=some r):Okc Wc 146 [pV B1 0,.agg #[Y A3 n3 c3,Y A4 n4 c4]] ([bB A3 n3 c3 a1.Yd,bB A4 n4 c4 a1.Yc,ae B1 186 [.map (some M2)],ax cj fv M2 a0.at_]) (fun u post=> ∃M0,u=.tuple #[]/\post=[ae B1 186 [.map (some M0)],ax cj fv M0 r.at_]):=by
 refine bY Tryz.func146 ?_;intro B5;refine sY ?_;refine dU (dZ J Vr) ?_;refine cE J ?_;refine ab ?_;obtain ⟨y6,k,h⟩:=aa h;refine gD (oC (zF k)) ?_;rintro _ _ ⟨_,⟨M7,rfl,rfl⟩,rfl⟩;refine ab ?_;refine lK (fun m s L=> ∃(p9:Int) (a6:V8) (a8:Nat),fi N a1 m p9 a6=some r/\s=[(0,pV B1 0),(11,Y A4 n4 c4),(12,iV (a1.Yc.length:Int)),(13,iV p9)]/\L=[bB A4 n4 c4 a1.Yc,ax cj fv a8 a6,ae B1 186 [.map (some a8)]]) N ?_;rintro m8 _ _ ⟨p9,a6,a8,h,rfl,rfl⟩;rw [fi.eq_2] at h;refine ab ?_;refine au ?_;refine gH J h ?_ ?_<;>intro h
 ·refine sY ?_;obtain ⟨b5,b7,b9,b0,h⟩:=aM h;refine ab ?_;refine Cu 0 J b0 (kj b5) ?_;rintro _ _ ⟨c0,c8,c9,d0,d1,d2,rfl,rfl⟩;refine H3 (sW (us:=(gk b5 c0 c8 c9 d0 d1 d2)) 0 J J agg45.out J) ?_;intro d3;refine ab ?_;obtain ⟨b6,h⟩:=ac h;refine gE (nw J J b6.1 b6.2) ?_;obtain ⟨d4,h⟩:=ac h;refine ab ?_;obtain ⟨d6,k,h⟩:=aa h;refine gD (oC (i5 k)) ?_;rintro _ _ ⟨_,⟨e0,rfl,rfl⟩,rfl⟩;refine ab ?_;obtain ⟨e1,h⟩:=ac h;exact lY
 exact eY
theorem pG {r:VQ}{B1:Nat}: ∀v post,((fun (u:Value) (post:Wa)=> ∃M0,u=.tuple #[]/\post=[ae B1 186 [.map (some M0)],ax cj fv M0 r.at_])) v post-> ∀c∈post,mT c:=by
 rintro _ _ ⟨_,rfl,rfl⟩;exact t9 BZ (t9 C9 (aR))
def gG (N:Nat)(a0:VU)(p13 a6:V7)(a8 b0:VY):Option (Int×VU):=
 some (1,a0)
def gF (a6 a8:V7)(a0:VU)(b0 b5:VY):Option (Int×VU):=
 (cG N a0.Ys (⟨a6,a8⟩:VR)).bind fun b6=>some (0,(⟨(⟨a6,a8⟩:VR),b0,b5,b6⟩:VU))
def dR (a0:VU)(a6 a8:V7)(p21 b0:VY):Option (Int×VU):=
 aE ((0:Int)<=(a0.Ym.length:Int)/\0<=(a0.Ym.length:Int).toNat/\(a0.Ym.length:Int).toNat<=p21.length) (aE ((0:Int)<=(a0.Ym.length:Int)/\(a0.Ym.length:Int).toNat<=p21.length/\p21.length<=p21.length) ((cu N ((p21.drop 0).take ((a0.Ym.length:Int).toNat - 0))).bind fun b5=>(cm N ((p21.drop ((a0.Ym.length:Int).toNat)).take (p21.length - (a0.Ym.length:Int).toNat)) b0).bind fun b6=>gF N a6 a8 a0 b5 b6))
def iF (a0:VU):Option (Int×VU):=
 (aG N a0).bind fun y9=>bif y9 then (some (1,a0)) else ((cm N a0.Ym a0.Yt).bind fun a6=>(nq N a6 a0).bind fun a8=>zy a8 (fun y26_0=>gG N a0 y26_0.1.Yd y26_0.1.Yc y26_0.2.1 y26_0.2.2) (fun y26_1=>dR N a0 y26_1.1.Yd y26_1.1.Yc y26_1.2.1 y26_1.2.2))
theorem sw {N:Nat}{r:Int×VU}(h:iF N a0=some r):Okc Wc 97 [pV B1 0,.func (.func 100) #[] #[pV B8 0]] ([aB B8 60 [pV B1 0],ae B1 128 [Y A2 n2 c2,Y A3 n3 c3,Y A4 n4 c4,Y A5 n5 c5,pV B6 0],cL A2 n2 c2 a0.m_.Yd,cL A3 n3 c3 a0.m_.Yc,aC A4 n4 c4 a0.Ym,aC A5 n5 c5 a0.Yt,ae B6 186 [.map (some M7)],ax cj fv M7 a0.Ys.at_]) (fun u post=> ∃A0 n0 c0 A1 n1 c1 A2 n2 c2 A3 n3 c3 M4,u=iV r.1/\post=[ae B1 128 [Y A0 n0 c0,Y A1 n1 c1,Y A2 n2 c2,Y A3 n3 c3,pV B6 0],cL A0 n0 c0 r.2.m_.Yd,cL A1 n1 c1 r.2.m_.Yc,aC A2 n2 c2 r.2.Ym,aC A3 n3 c3 r.2.Yt,ae B6 186 [.map (some M4)],ax cj fv M4 r.2.Ys.at_]):=by
 refine bY Tryz.func97 ?_;refine sZ ?_
 refine cR h (fun _ k=>bW k) fun y9 h=> ?_
 refine gH J h ?_ ?_<;>intro h
 ·exact eY
 refine ab ?_;refine ai (fun s L=>(∃p13 j4 j5 j6 j7 j8 j9 k0 k2 k3 k4 k5 k6 k7 k8 k9 l0,gG N a0 p13 j4 j5 j6=some r/\s=[(0,pV B1 0),(4,iV 0),(5,pV j7 0),(6,Y k5 k6 k7),(7,Y k8 k9 l0),(8,iV 1)]/\L=[cL j8 j9 k0 p13,cL k2 k3 k4 j4,ae j7 125 [Y j8 j9 k0,Y k2 k3 k4],aC k5 k6 k7 j5,aC k8 k9 l0 j6,cL A2 n2 c2 a0.m_.Yd,cL A3 n3 c3 a0.m_.Yc,aC A4 n4 c4 a0.Ym,aC A5 n5 c5 a0.Yt,ae B1 128 [Y A2 n2 c2,Y A3 n3 c3,Y A4 n4 c4,Y A5 n5 c5,pV B6 0],ax cj fv M7 a0.Ys.at_,ae B6 186 [.map (some M7)]])\/(∃(e4:V7) (e5:V7) (p21:VY) (i0:VY) (i1:Nat) (a6:Option Addr) (a8 b0:Nat) (b5:Option Addr) (b6 b7:Nat) (i2:Option Addr) (i8 j0:Nat) (g2:Option Addr) (g3 g4:Nat),dR N a0 e4 e5 p21 i0=some r/\s=[(0,pV B1 0),(4,iV 0),(5,pV i1 0),(6,Y i2 i8 j0),(7,Y g2 g3 g4),(8,iV 0)]/\L=[cL a6 a8 b0 e4,cL b5 b6 b7 e5,ae i1 125 [Y a6 a8 b0,Y b5 b6 b7],aC i2 i8 j0 p21,aC g2 g3 g4 i0,aC A4 n4 c4 a0.Ym,aC A5 n5 c5 a0.Yt,ae B1 128 [Y A2 n2 c2,Y A3 n3 c3,Y A4 n4 c4,Y A5 n5 c5,pV B6 0],ax cj fv M7 a0.Ys.at_,ae B6 186 [.map (some M7)]])) ?_ ?_
 ·refine bm I ([aB B8 60 [pV B1 0],ae B1 128 [Y A2 n2 c2,Y A3 n3 c3,Y A4 n4 c4,Y A5 n5 c5,pV B6 0],aC A4 n4 c4 a0.Ym,aC A5 n5 c5 a0.Yt,ae B6 186 [.map (some M7)],ax cj fv M7 a0.Ys.at_]) (cS [0,1,4,5,6,7] 8) ?_;refine zY [0,1,2,3,4,5,6,7,8] ?_;refine qm 9 17 I ?_ ?_
  ·refine bX J (i7 (cs:=[Y A4 n4 c4,Y A5 n5 c5]) J (nN _ _ _ _ _ _)) J J J ?_;rintro _ _ ⟨l1,rfl,rfl⟩;refine bf ?_;refine qm 10 17 I ?_ ?_
   ·obtain ⟨o5,k,h⟩:=aa h;refine bX J (oR (bz k)) J J J ?_;rintro _ _ ⟨_,⟨p1,p2,p3,rfl,rfl⟩,rfl⟩;refine bf ?_;refine qm 11 17 I ?_ ?_
    ·refine yV (bL 0 J) (cS [2,3,6,7,8,9] 10) ?_;refine Rx ?_;obtain ⟨m7,g5,h⟩:=aa h;rcases m7 with y26_0|y26_1
     ·replace h:=DQ h;refine bX J (gx (cn g5) J J J (dx [0,2] [3,4,5,6,7,8,9] [0,1,2] 10 J)) J J J ?_;rintro _ _ ⟨_,⟨l2,l3,l4,c8,c9,d0,e1,e2,e3,e6,e7,e8,rfl,rfl⟩,rfl⟩;refine bf ?_;refine bp ?_;refine zY [12,13,14,15,16] ?_
      refine It 17 J (dz zero125.out J) fun m8=> ?_
      refine zO 18 J (ar (us:=[Y l2 l3 l4,Y c8 c9 d0]) (cs':=[Y l2 l3 l4,Y c8 c9 d0]) 0 J J J J size125.out J J J) ?_;rintro _ _ rfl;refine bf ?_;refine bp ?_;refine zX [19,20,21] ?_;refine ab ?_;exact ⟨_,_,.inl (⟨y26_0.1.Yd,y26_0.1.Yc,y26_0.2.1,y26_0.2.2,m8,l2,l3,l4,c8,c9,d0,e1,e2,e3,e6,e7,e8,h,J,J⟩),sA,cS [1,2,0,3,4,5,6,7,8,9,11,10] 15⟩
     replace h:=DP h;refine bX J (gx (cn g5) J J J (dx [0,2] [3,4,5,6,7,8,9] [0,1,2] 10 J)) J J J ?_;rintro _ _ ⟨_,⟨d1,d2,d3,d4,d6,e0,e9,f1,f2,f3,f4,f9,rfl,rfl⟩,rfl⟩;refine bf ?_;refine bp ?_;refine zY [12,13,14,15,16] ?_
     refine It 17 J (dz zero125.out J) fun m9=> ?_
     refine zO 18 J (ar (us:=[Y d1 d2 d3,Y d4 d6 e0]) (cs':=[Y d1 d2 d3,Y d4 d6 e0]) 0 J J J J size125.out J J J) ?_;rintro _ _ rfl;refine bf ?_;refine bp ?_;refine zX [19,20,21] ?_;refine ab ?_;exact ⟨_,_,.inr (⟨y26_1.1.Yd,y26_1.1.Yc,y26_1.2.1,y26_1.2.2,m9,d1,d2,d3,d4,d6,e0,e9,f1,f2,f3,f4,f9,h,J,J⟩),sA,cS [1,2,0,3,4,5,6,7,9,8] 13⟩
    refine bX J (dz zero125.out J) J J J ?_;rintro _ _ ⟨m3,rfl,rfl⟩;refine bf ?_;refine lg (bL 1 J) (cS [3,4,7,8,9,10] 11) ?_;refine bp ?_;obtain ⟨g6,b9,h⟩:=aa h;rcases g6 with y27_0|y27_1
    ·replace h:=DQ h
     refine AX 11 J (gx (cn b9) J J J (dx [1,3] [4,5,6,7,8,9,10] [0,1,2,3] 11 J)) fun c8 c9 d0 e1 e2 e3 e6 e7 e8 g7 g8 g9=> ?_
     refine zY [12,13,14,15,16] ?_;refine zO 18 J (ar (us:=[Y c8 c9 d0,Y e1 e2 e3]) (cs':=[Y c8 c9 d0,Y e1 e2 e3]) 11 J J J J size125.out J J J) ?_;rintro _ _ rfl;refine bf ?_;refine bp ?_;refine zX [19,20,21] ?_;refine ab ?_;exact ⟨_,_,.inl (⟨y27_0.1.Yd,y27_0.1.Yc,y27_0.2.1,y27_0.2.2,m3,c8,c9,d0,e1,e2,e3,e6,e7,e8,g7,g8,g9,h,J,J⟩),sA,cS [0,1,11,2,3,4,5,6,7,8,10,9] 15⟩
    replace h:=DP h
    refine AX 11 J (gx (cn b9) J J J (dx [1,3] [4,5,6,7,8,9,10] [0,1,2,3] 11 J)) fun d1 d2 d3 d4 d6 e0 e9 f1 f2 f3 f4 f9=> ?_
    refine zY [12,13,14,15,16] ?_;refine zO 18 J (ar (us:=[Y d1 d2 d3,Y d4 d6 e0]) (cs':=[Y d1 d2 d3,Y d4 d6 e0]) 9 J J J J size125.out J J J) ?_;rintro _ _ rfl;refine bf ?_;refine bp ?_;refine zX [19,20,21] ?_;refine ab ?_;exact ⟨_,_,.inr (⟨y27_1.1.Yd,y27_1.1.Yc,y27_1.2.1,y27_1.2.2,m3,d1,d2,d3,d4,d6,e0,e9,f1,f2,f3,f4,f9,h,J,J⟩),sA,cS [0,1,9,2,3,4,5,6,8,7] 13⟩
   refine bX J (dz zero125.out J) J J J ?_;rintro _ _ ⟨l5,rfl,rfl⟩;refine bf ?_;obtain ⟨n8,g0,h⟩:=aa h
   refine yQ 10 J (oR (bz g0)) fun n9 o0 o1=> ?_
   refine lg (bL 0 J) (cS [3,4,7,8,9,10] 11) ?_;refine bp ?_;obtain ⟨g6,b9,h⟩:=aa h;rcases g6 with y27_0|y27_1
   ·replace h:=DQ h
    refine AX 11 J (gx (cn b9) J J J (dx [0,3] [4,5,6,7,8,9,10] [0,1,2,3] 11 J)) fun c8 c9 d0 e1 e2 e3 e6 e7 e8 g7 g8 g9=> ?_
    refine zY [12,13,14,15,16] ?_;refine zO 18 J (ar (us:=[Y c8 c9 d0,Y e1 e2 e3]) (cs':=[Y c8 c9 d0,Y e1 e2 e3]) 12 J J J J size125.out J J J) ?_;rintro _ _ rfl;refine bf ?_;refine bp ?_;refine zX [19,20,21] ?_;refine ab ?_;exact ⟨_,_,.inl (⟨y27_0.1.Yd,y27_0.1.Yc,y27_0.2.1,y27_0.2.2,l5,c8,c9,d0,e1,e2,e3,e6,e7,e8,g7,g8,g9,h,J,J⟩),sA,cS [0,1,12,2,3,4,5,6,7,8,10,9] 15⟩
   replace h:=DP h
   refine AX 11 J (gx (cn b9) J J J (dx [0,3] [4,5,6,7,8,9,10] [0,1,2,3] 11 J)) fun d1 d2 d3 d4 d6 e0 e9 f1 f2 f3 f4 f9=> ?_
   refine zY [12,13,14,15,16] ?_;refine zO 18 J (ar (us:=[Y d1 d2 d3,Y d4 d6 e0]) (cs':=[Y d1 d2 d3,Y d4 d6 e0]) 10 J J J J size125.out J J J) ?_;rintro _ _ rfl;refine bf ?_;refine bp ?_;refine zX [19,20,21] ?_;refine ab ?_;exact ⟨_,_,.inr (⟨y27_1.1.Yd,y27_1.1.Yc,y27_1.2.1,y27_1.2.2,l5,d1,d2,d3,d4,d6,e0,e9,f1,f2,f3,f4,f9,h,J,J⟩),sA,cS [0,1,10,2,3,4,5,6,8,7] 13⟩
  refine bX J (dz zero125.out J) J J J ?_;rintro _ _ ⟨l1,rfl,rfl⟩;refine bf ?_
  refine It 9 J (i7 (cs:=[Y A4 n4 c4,Y A5 n5 c5]) J (nN _ _ _ _ _ _)) fun l5=> ?_
  obtain ⟨n8,g0,h⟩:=aa h
  refine yQ 10 J (oR (bz g0)) fun n9 o0 o1=> ?_
  refine lg (bL 0 J) (cS [3,4,7,8,9,10] 11) ?_;refine bp ?_;obtain ⟨g6,b9,h⟩:=aa h;rcases g6 with y27_0|y27_1
  ·replace h:=DQ h
   refine AX 11 J (gx (cn b9) J J J (dx [0,3] [4,5,6,7,8,9,10] [0,1,2,3] 11 J)) fun c8 c9 d0 e1 e2 e3 e6 e7 e8 g7 g8 g9=> ?_
   refine zY [12,13,14,15,16] ?_;refine zO 18 J (ar (us:=[Y c8 c9 d0,Y e1 e2 e3]) (cs':=[Y c8 c9 d0,Y e1 e2 e3]) 13 J J J J size125.out J J J) ?_;rintro _ _ rfl;refine bf ?_;refine bp ?_;refine zX [19,20,21] ?_;refine ab ?_;exact ⟨_,_,.inl (⟨y27_0.1.Yd,y27_0.1.Yc,y27_0.2.1,y27_0.2.2,l1,c8,c9,d0,e1,e2,e3,e6,e7,e8,g7,g8,g9,h,J,J⟩),sA,cS [0,1,13,2,3,4,5,6,7,8,10,9] 15⟩
  replace h:=DP h
  refine AX 11 J (gx (cn b9) J J J (dx [0,3] [4,5,6,7,8,9,10] [0,1,2,3] 11 J)) fun d1 d2 d3 d4 d6 e0 e9 f1 f2 f3 f4 f9=> ?_
  refine zY [12,13,14,15,16] ?_;refine zO 18 J (ar (us:=[Y d1 d2 d3,Y d4 d6 e0]) (cs':=[Y d1 d2 d3,Y d4 d6 e0]) 11 J J J J size125.out J J J) ?_;rintro _ _ rfl;refine bf ?_;refine bp ?_;refine zX [19,20,21] ?_;refine ab ?_;exact ⟨_,_,.inr (⟨y27_1.1.Yd,y27_1.1.Yc,y27_1.2.1,y27_1.2.2,l1,d1,d2,d3,d4,d6,e0,e9,f1,f2,f3,f4,f9,h,J,J⟩),sA,cS [0,1,11,2,3,4,5,6,8,7] 13⟩
 rintro _ _ (⟨p13,j4,j5,j6,j7,j8,j9,k0,k2,k3,k4,k5,k6,k7,k8,k9,l0,h,rfl,rfl⟩|⟨e4,e5,p21,i0,i1,a6,a8,b0,b5,b6,b7,i2,i8,j0,g2,g3,g4,h,rfl,rfl⟩)
 ·refine sZ ?_;refine cN J ?_;exact eY
 refine sZ ?_;refine cE J ?_;refine ab ?_;refine ai (fun s L=> ∃j1 j2 h0 h1 h2 h3 h4 h5,gF N e4 e5 a0 j1 j2=some r/\s=[(0,pV B1 0),(4,iV 0)]/\L=[cL a6 a8 b0 e4,cL b5 b6 b7 e5,aC h0 h1 h2 j1,aC h3 h4 h5 j2,ae B1 128 [Y a6 a8 b0,Y b5 b6 b7,Y h0 h1 h2,Y h3 h4 h5,pV B6 0],ax cj fv M7 a0.Ys.at_,ae B6 186 [.map (some M7)]]) ?_ ?_
 ·refine gQ ?_ dl (bL 3 J);refine ab ?_;refine bm I ([cL a6 a8 b0 e4,cL b5 b6 b7 e5,ae i1 125 [Y a6 a8 b0,Y b5 b6 b7],aZ i2 i8 j0 p21,aC g2 g3 g4 i0,aC A4 n4 c4 a0.Ym,aC A5 n5 c5 a0.Yt,ax cj fv M7 a0.Ys.at_,ae B6 186 [.map (some M7)]]) (cS [0,1,2,3,4,5,6,8,9] 10) ?_;refine zY [0,1,2,3,4,5] ?_;obtain ⟨h6,h⟩:=ac h;refine Dk 3 J (l:=0) (h:=(a0.Ym.length:Int).toNat) h6.2.1 h6.2.2 ?_;rintro p4 p5 p6 o2;refine zR 6 J (NU 4 J o2 J z9 size29.out J J (by rw [Wt h6.1];rfl) h6.2.1 h6.2.2) ?_;refine zY [8,9] ?_;obtain ⟨j3,h⟩:=ac h;refine Dk 4 J (l:=(a0.Ym.length:Int).toNat) (h:=p21.length) j3.2.1 j3.2.2 ?_;rintro m4 m5 m6 o3;refine zR 10 J (zd 5 J o3 J z9 size29.out J (by rw [Wt j3.1];rfl) j3.2.1) ?_;refine zY [11] ?_;refine qm 7 12 I ?_ ?_
  ·obtain ⟨p7,k,h⟩:=aa h;refine bX J (oR (fw k)) J J J ?_;rintro _ _ ⟨_,⟨l6,l7,l8,rfl,rfl⟩,rfl⟩;refine bf ?_
   refine It 12 J (i7 (cs:=[Y m4 m5 m6,Y g2 g3 g4]) J (nN _ _ _ _ _ _)) fun p8=> ?_
   obtain ⟨o4,g1,h⟩:=aa h
   refine yQ 13 J (oR (bz g1)) fun h7 h8 h9=> ?_
   refine zY [14,15] ?_;refine zO 16 J (ar (us:=[Y a6 a8 b0,Y b5 b6 b7]) (cs':=[Y a6 a8 b0,Y b5 b6 b7,Y A4 n4 c4,Y A5 n5 c5,pV B6 0]) 12 J J J J size125.out J J J) ?_;rintro _ _ rfl;refine bf ?_;refine bp ?_;refine zY [17,18] ?_;refine zO 19 J (ar (us:=[Y l6 l7 l8]) (cs':=[Y a6 a8 b0,Y b5 b6 b7,Y l6 l7 l8,Y A5 n5 c5,pV B6 0]) 12 J J J J size43.out J J J) ?_;rintro _ _ rfl;refine bf ?_;refine bp ?_;refine zY [20,21] ?_;refine zO 22 J (ar (us:=[Y h7 h8 h9]) (cs':=[Y a6 a8 b0,Y b5 b6 b7,Y l6 l7 l8,Y h7 h8 h9,pV B6 0]) 12 J J J J size43.out J J J) ?_;rintro _ _ rfl;refine bf ?_;refine bp ?_;refine fg I ?_;exact jY
  refine bX J (i7 (cs:=[Y m4 m5 m6,Y g2 g3 g4]) J (nN _ _ _ _ _ _)) J J J ?_;rintro _ _ ⟨q0,rfl,rfl⟩;refine bf ?_;obtain ⟨q1,k,h⟩:=aa h
  refine yQ 7 J (oR (fw k)) fun l9 m0 m1=> ?_
  obtain ⟨o4,g1,h⟩:=aa h
  refine yQ 13 J (oR (bz g1)) fun h7 h8 h9=> ?_
  refine zY [14,15] ?_;refine zO 16 J (ar (us:=[Y a6 a8 b0,Y b5 b6 b7]) (cs':=[Y a6 a8 b0,Y b5 b6 b7,Y A4 n4 c4,Y A5 n5 c5,pV B6 0]) 12 J J J J size125.out J J J) ?_;rintro _ _ rfl;refine bf ?_;refine bp ?_;refine zY [17,18] ?_;refine zO 19 J (ar (us:=[Y l9 m0 m1]) (cs':=[Y a6 a8 b0,Y b5 b6 b7,Y l9 m0 m1,Y A5 n5 c5,pV B6 0]) 12 J J J J size43.out J J J) ?_;rintro _ _ rfl;refine bf ?_;refine bp ?_;refine zY [20,21] ?_;refine zO 22 J (ar (us:=[Y h7 h8 h9]) (cs':=[Y a6 a8 b0,Y b5 b6 b7,Y l9 m0 m1,Y h7 h8 h9,pV B6 0]) 12 J J J J size43.out J J J) ?_;rintro _ _ rfl;refine bf ?_;refine bp ?_;refine fg I ?_;exact jY
 rintro _ _ ⟨j1,j2,h0,h1,h2,h3,h4,h5,h,rfl,rfl⟩;refine au ?_;refine bm I ([cL a6 a8 b0 e4,cL b5 b6 b7 e5,aC h0 h1 h2 j1,aC h3 h4 h5 j2,ae B1 128 [Y a6 a8 b0,Y b5 b6 b7,Y h0 h1 h2,Y h3 h4 h5,pV B6 0]]) (cS [0,1,2,3,4] 7) ?_;refine ab ?_;obtain ⟨q2,m2,h⟩:=aa h;refine lg (cS [6,5,0,1,2,3,4] 7) (cS [2,3,4,5,6] 7) ?_;refine bp ?_
 refine It 8 J (BC 2 2 (sM m2) J J J J (t9 (pw (i:=2) J J) (t9 (pw (i:=3) J J) aR)) pG) fun q3=> ?_
 exact eY
end
section
variable {A1 A2 A3 A4 A5 A6:Option Addr}{B1 B2 B3 B6 B8 M7 c1 c2 c3 c4 c5 c6 n1 n2 n3 n4 n5 n6:Nat}
open Go.RowKit Asn
set_option maxRecDepth 20000
def dT (N:Nat)(a0:VU)(p13 a8:V7)(b0 b5:VY)(a6:Int):Option (Int×VU):=
 bif !decide (a6=0) then (some (a6,a0)) else none
def gI (a6 p21:V7)(a0:VU)(a8 b0:VY):Option (Int×VU):=
 (cG N a0.Ys (⟨a6,p21⟩:VR)).bind fun b5=>some (0,(⟨(⟨a6,p21⟩:VR),a8,b0,b5⟩:VU))
def dS (a0:VU)(a8 p21:V7)(a6 b0:VY):Option (Int×VU):=
 aE ((0:Int)<=(a0.Ym.length:Int)/\0<=(a0.Ym.length:Int).toNat/\(a0.Ym.length:Int).toNat<=a6.length) (aE ((0:Int)<=(a0.Ym.length:Int)/\(a0.Ym.length:Int).toNat<=a6.length/\a6.length<=a6.length) ((cu N ((a6.drop 0).take ((a0.Ym.length:Int).toNat - 0))).bind fun b5=>(cm N ((a6.drop ((a0.Ym.length:Int).toNat)).take (a6.length - (a0.Ym.length:Int).toNat)) b0).bind fun b6=>gI N a8 p21 a0 b5 b6))
def iG (a0:VU):Option (Int×VU):=
 (aG N a0).bind fun y9=>bif y9 then (some (1,a0)) else ((cm N a0.Ym a0.Yt).bind fun a6=>(nr N a6 a0).bind fun a8=>zy a8 (fun y27_0=>dT N a0 y27_0.1.Yd y27_0.1.Yc y27_0.2.1 y27_0.2.2.1 y27_0.2.2.2) (fun y27_1=>dS N a0 y27_1.1.Yd y27_1.1.Yc y27_1.2.1 y27_1.2.2))
theorem sx {N:Nat}{r:Int×VU}(h:iG N a0=some r):Okc Wc 97 [pV B1 0,.func (.func 98) #[] #[pV B8 0]] ([aB B8 60 [pV B1 0],ae B1 128 [Y A2 n2 c2,Y A3 n3 c3,Y A4 n4 c4,Y A5 n5 c5,pV B6 0],cL A2 n2 c2 a0.m_.Yd,cL A3 n3 c3 a0.m_.Yc,aC A4 n4 c4 a0.Ym,aC A5 n5 c5 a0.Yt,ae B6 186 [.map (some M7)],ax cj fv M7 a0.Ys.at_]) (fun u post=> ∃A0 n0 c0 A1 n1 c1 A2 n2 c2 A3 n3 c3 M4,u=iV r.1/\post=[ae B1 128 [Y A0 n0 c0,Y A1 n1 c1,Y A2 n2 c2,Y A3 n3 c3,pV B6 0],cL A0 n0 c0 r.2.m_.Yd,cL A1 n1 c1 r.2.m_.Yc,aC A2 n2 c2 r.2.Ym,aC A3 n3 c3 r.2.Yt,ae B6 186 [.map (some M4)],ax cj fv M4 r.2.Ys.at_]):=by
 refine bY Tryz.func97 ?_;refine sZ ?_
 refine cR h (fun _ k=>bW k) fun y9 h=> ?_
 refine gH J h ?_ ?_<;>intro h
 ·exact eY
 refine ab ?_;refine ai (fun s L=>(∃p13 j4 j5 j6 j7 j8 j9 k0 k2 k3 k4 k5 k6 k7 k8 k9 l0 l1,dT N a0 p13 j4 j5 j6 j7=some r/\s=[(0,pV B1 0),(4,iV 0),(5,pV j8 0),(6,Y k6 k7 k8),(7,Y k9 l0 l1),(8,iV j7)]/\L=[cL j9 k0 k2 p13,cL k3 k4 k5 j4,ae j8 125 [Y j9 k0 k2,Y k3 k4 k5],aC k6 k7 k8 j5,aC k9 l0 l1 j6,cL A2 n2 c2 a0.m_.Yd,cL A3 n3 c3 a0.m_.Yc,aC A4 n4 c4 a0.Ym,aC A5 n5 c5 a0.Yt,ae B1 128 [Y A2 n2 c2,Y A3 n3 c3,Y A4 n4 c4,Y A5 n5 c5,pV B6 0],ax cj fv M7 a0.Ys.at_,ae B6 186 [.map (some M7)]])\/(∃(e4:V7) (p21:V7) (g4:VY) (i0:VY) (i1:Nat) (a6:Option Addr) (a8 b0:Nat) (b5:Option Addr) (b6 b7:Nat) (i2:Option Addr) (i8 j0:Nat) (g1:Option Addr) (g2 g3:Nat),dS N a0 e4 p21 g4 i0=some r/\s=[(0,pV B1 0),(4,iV 0),(5,pV i1 0),(6,Y i2 i8 j0),(7,Y g1 g2 g3),(8,iV 0)]/\L=[cL a6 a8 b0 e4,cL b5 b6 b7 p21,ae i1 125 [Y a6 a8 b0,Y b5 b6 b7],aC i2 i8 j0 g4,aC g1 g2 g3 i0,cL A2 n2 c2 a0.m_.Yd,cL A3 n3 c3 a0.m_.Yc,aC A4 n4 c4 a0.Ym,aC A5 n5 c5 a0.Yt,ae B1 128 [Y A2 n2 c2,Y A3 n3 c3,Y A4 n4 c4,Y A5 n5 c5,pV B6 0],ax cj fv M7 a0.Ys.at_,ae B6 186 [.map (some M7)]])) ?_ ?_
 ·refine bm I _ (ah _) ?_;refine zY [0,1,2,3,4,5,6,7,8] ?_;refine qm 9 17 I ?_ ?_
  ·refine bX J (i7 (cs:=[Y A4 n4 c4,Y A5 n5 c5]) J (nN _ _ _ _ _ _)) J J J ?_;rintro _ _ ⟨l2,rfl,rfl⟩;refine bf ?_;refine qm 10 17 I ?_ ?_
   ·obtain ⟨p1,k,h⟩:=aa h;refine bX J (oR (bz k)) J J J ?_;rintro _ _ ⟨_,⟨p2,p3,p4,rfl,rfl⟩,rfl⟩;refine bf ?_;refine qm 11 17 I ?_ ?_
    ·refine yV (bL 0 J) (cS [2,3,4,5,6,7,8,9] 10) ?_;refine Rx ?_;obtain ⟨m8,g5,h⟩:=aa h;rcases m8 with y27_0|y27_1
     ·replace h:=DQ h;refine bX J (gx (co g5) J J J (dx [0,2] [3,4,5,6,7,8,9] [0,1,2] 10 J)) J J J ?_;rintro _ _ ⟨_,⟨l3,l4,l5,c8,c9,d0,e1,e2,e3,e5,e6,e7,rfl,rfl⟩,rfl⟩;refine bf ?_;refine bp ?_;refine zY [12,13,14,15,16] ?_
      refine It 17 J (dz zero125.out J) fun m9=> ?_
      refine zO 18 J (ar (us:=[Y l3 l4 l5,Y c8 c9 d0]) (cs':=[Y l3 l4 l5,Y c8 c9 d0]) 0 J J J J size125.out J J J) ?_;rintro _ _ rfl;refine bf ?_;refine bp ?_;refine zX [19,20,21] ?_;refine ab ?_;exact ⟨_,_,.inl (⟨y27_0.1.Yd,y27_0.1.Yc,y27_0.2.1,y27_0.2.2.1,y27_0.2.2.2,m9,l3,l4,l5,c8,c9,d0,e1,e2,e3,e5,e6,e7,h,J,J⟩),sA,cS [1,2,0,3,4,5,6,7,8,9,11,10] 15⟩
     replace h:=DP h;refine bX J (gx (co g5) J J J (dx [0,2] [3,4,5,6,7,8,9] [0,1,2] 10 J)) J J J ?_;rintro _ _ ⟨_,⟨d1,d2,d3,d4,d6,e0,e8,e9,f1,f2,f3,f4,rfl,rfl⟩,rfl⟩;refine bf ?_;refine bp ?_;refine zY [12,13,14,15,16] ?_
     refine It 17 J (dz zero125.out J) fun n8=> ?_
     refine zO 18 J (ar (us:=[Y d1 d2 d3,Y d4 d6 e0]) (cs':=[Y d1 d2 d3,Y d4 d6 e0]) 0 J J J J size125.out J J J) ?_;rintro _ _ rfl;refine bf ?_;refine bp ?_;refine zX [19,20,21] ?_;refine ab ?_;exact ⟨_,_,.inr (⟨y27_1.1.Yd,y27_1.1.Yc,y27_1.2.1,y27_1.2.2,n8,d1,d2,d3,d4,d6,e0,e8,e9,f1,f2,f3,f4,h,J,J⟩),sA,cS [1,2,0,3,4,5,6,7,8,9,11,10] 15⟩
    refine bX J (dz zero125.out J) J J J ?_;rintro _ _ ⟨m4,rfl,rfl⟩;refine bf ?_;refine lg (bL 1 J) (cS [3,4,5,6,7,8,9,10] 11) ?_;refine bp ?_;obtain ⟨g6,b9,h⟩:=aa h;rcases g6 with y28_0|y28_1
    ·replace h:=DQ h
     refine AX 11 J (gx (co b9) J J J (dx [1,3] [4,5,6,7,8,9,10] [0,1,2,3] 11 J)) fun c8 c9 d0 e1 e2 e3 e5 e6 e7 g7 g8 g9=> ?_
     refine zY [12,13,14,15,16] ?_;refine zO 18 J (ar (us:=[Y c8 c9 d0,Y e1 e2 e3]) (cs':=[Y c8 c9 d0,Y e1 e2 e3]) 11 J J J J size125.out J J J) ?_;rintro _ _ rfl;refine bf ?_;refine bp ?_;refine zX [19,20,21] ?_;refine ab ?_;exact ⟨_,_,.inl (⟨y28_0.1.Yd,y28_0.1.Yc,y28_0.2.1,y28_0.2.2.1,y28_0.2.2.2,m4,c8,c9,d0,e1,e2,e3,e5,e6,e7,g7,g8,g9,h,J,J⟩),sA,cS [0,1,11,2,3,4,5,6,7,8,10,9] 15⟩
    replace h:=DP h
    refine AX 11 J (gx (co b9) J J J (dx [1,3] [4,5,6,7,8,9,10] [0,1,2,3] 11 J)) fun d1 d2 d3 d4 d6 e0 e8 e9 f1 f2 f3 f4=> ?_
    refine zY [12,13,14,15,16] ?_;refine zO 18 J (ar (us:=[Y d1 d2 d3,Y d4 d6 e0]) (cs':=[Y d1 d2 d3,Y d4 d6 e0]) 11 J J J J size125.out J J J) ?_;rintro _ _ rfl;refine bf ?_;refine bp ?_;refine zX [19,20,21] ?_;refine ab ?_;exact ⟨_,_,.inr (⟨y28_1.1.Yd,y28_1.1.Yc,y28_1.2.1,y28_1.2.2,m4,d1,d2,d3,d4,d6,e0,e8,e9,f1,f2,f3,f4,h,J,J⟩),sA,cS [0,1,11,2,3,4,5,6,7,8,10,9] 15⟩
   refine bX J (dz zero125.out J) J J J ?_;rintro _ _ ⟨l6,rfl,rfl⟩;refine bf ?_;obtain ⟨n9,f9,h⟩:=aa h
   refine yQ 10 J (oR (bz f9)) fun o0 o1 o2=> ?_
   refine lg (bL 0 J) (cS [3,4,5,6,7,8,9,10] 11) ?_;refine bp ?_;obtain ⟨g6,b9,h⟩:=aa h;rcases g6 with y28_0|y28_1
   ·replace h:=DQ h
    refine AX 11 J (gx (co b9) J J J (dx [0,3] [4,5,6,7,8,9,10] [0,1,2,3] 11 J)) fun c8 c9 d0 e1 e2 e3 e5 e6 e7 g7 g8 g9=> ?_
    refine zY [12,13,14,15,16] ?_;refine zO 18 J (ar (us:=[Y c8 c9 d0,Y e1 e2 e3]) (cs':=[Y c8 c9 d0,Y e1 e2 e3]) 12 J J J J size125.out J J J) ?_;rintro _ _ rfl;refine bf ?_;refine bp ?_;refine zX [19,20,21] ?_;refine ab ?_;exact ⟨_,_,.inl (⟨y28_0.1.Yd,y28_0.1.Yc,y28_0.2.1,y28_0.2.2.1,y28_0.2.2.2,l6,c8,c9,d0,e1,e2,e3,e5,e6,e7,g7,g8,g9,h,J,J⟩),sA,cS [0,1,12,2,3,4,5,6,7,8,10,9] 15⟩
   replace h:=DP h
   refine AX 11 J (gx (co b9) J J J (dx [0,3] [4,5,6,7,8,9,10] [0,1,2,3] 11 J)) fun d1 d2 d3 d4 d6 e0 e8 e9 f1 f2 f3 f4=> ?_
   refine zY [12,13,14,15,16] ?_;refine zO 18 J (ar (us:=[Y d1 d2 d3,Y d4 d6 e0]) (cs':=[Y d1 d2 d3,Y d4 d6 e0]) 12 J J J J size125.out J J J) ?_;rintro _ _ rfl;refine bf ?_;refine bp ?_;refine zX [19,20,21] ?_;refine ab ?_;exact ⟨_,_,.inr (⟨y28_1.1.Yd,y28_1.1.Yc,y28_1.2.1,y28_1.2.2,l6,d1,d2,d3,d4,d6,e0,e8,e9,f1,f2,f3,f4,h,J,J⟩),sA,cS [0,1,12,2,3,4,5,6,7,8,10,9] 15⟩
  refine bX J (dz zero125.out J) J J J ?_;rintro _ _ ⟨l2,rfl,rfl⟩;refine bf ?_
  refine It 9 J (i7 (cs:=[Y A4 n4 c4,Y A5 n5 c5]) J (nN _ _ _ _ _ _)) fun l6=> ?_
  obtain ⟨n9,f9,h⟩:=aa h
  refine yQ 10 J (oR (bz f9)) fun o0 o1 o2=> ?_
  refine lg (bL 0 J) (cS [3,4,5,6,7,8,9,10] 11) ?_;refine bp ?_;obtain ⟨g6,b9,h⟩:=aa h;rcases g6 with y28_0|y28_1
  ·replace h:=DQ h
   refine AX 11 J (gx (co b9) J J J (dx [0,3] [4,5,6,7,8,9,10] [0,1,2,3] 11 J)) fun c8 c9 d0 e1 e2 e3 e5 e6 e7 g7 g8 g9=> ?_
   refine zY [12,13,14,15,16] ?_;refine zO 18 J (ar (us:=[Y c8 c9 d0,Y e1 e2 e3]) (cs':=[Y c8 c9 d0,Y e1 e2 e3]) 13 J J J J size125.out J J J) ?_;rintro _ _ rfl;refine bf ?_;refine bp ?_;refine zX [19,20,21] ?_;refine ab ?_;exact ⟨_,_,.inl (⟨y28_0.1.Yd,y28_0.1.Yc,y28_0.2.1,y28_0.2.2.1,y28_0.2.2.2,l2,c8,c9,d0,e1,e2,e3,e5,e6,e7,g7,g8,g9,h,J,J⟩),sA,cS [0,1,13,2,3,4,5,6,7,8,10,9] 15⟩
  replace h:=DP h
  refine AX 11 J (gx (co b9) J J J (dx [0,3] [4,5,6,7,8,9,10] [0,1,2,3] 11 J)) fun d1 d2 d3 d4 d6 e0 e8 e9 f1 f2 f3 f4=> ?_
  refine zY [12,13,14,15,16] ?_;refine zO 18 J (ar (us:=[Y d1 d2 d3,Y d4 d6 e0]) (cs':=[Y d1 d2 d3,Y d4 d6 e0]) 13 J J J J size125.out J J J) ?_;rintro _ _ rfl;refine bf ?_;refine bp ?_;refine zX [19,20,21] ?_;refine ab ?_;exact ⟨_,_,.inr (⟨y28_1.1.Yd,y28_1.1.Yc,y28_1.2.1,y28_1.2.2,l2,d1,d2,d3,d4,d6,e0,e8,e9,f1,f2,f3,f4,h,J,J⟩),sA,cS [0,1,13,2,3,4,5,6,7,8,10,9] 15⟩
 rintro _ _ (⟨p13,j4,j5,j6,j7,j8,j9,k0,k2,k3,k4,k5,k6,k7,k8,k9,l0,l1,h,rfl,rfl⟩|⟨e4,p21,g4,i0,i1,a6,a8,b0,b5,b6,b7,i2,i8,j0,g1,g2,g3,h,rfl,rfl⟩)
 ·refine sZ ?_;refine gH J h ?_ ?_<;>intro h
  ·exact eY
  exact az h
 refine sZ ?_;refine cE J ?_;refine ab ?_;refine ai (fun s L=> ∃j1 j2 h0 h1 h2 h3 h4 h5,gI N e4 p21 a0 j1 j2=some r/\s=[(0,pV B1 0),(4,iV 0)]/\L=[cL a6 a8 b0 e4,cL b5 b6 b7 p21,aC h0 h1 h2 j1,aC h3 h4 h5 j2,ae B1 128 [Y a6 a8 b0,Y b5 b6 b7,Y h0 h1 h2,Y h3 h4 h5,pV B6 0],ax cj fv M7 a0.Ys.at_,ae B6 186 [.map (some M7)]]) ?_ ?_
 ·refine gQ ?_ dl (bL 3 J);refine ab ?_;refine bm I ([cL a6 a8 b0 e4,cL b5 b6 b7 p21,ae i1 125 [Y a6 a8 b0,Y b5 b6 b7],aZ i2 i8 j0 g4,aC g1 g2 g3 i0,cL A2 n2 c2 a0.m_.Yd,cL A3 n3 c3 a0.m_.Yc,aC A4 n4 c4 a0.Ym,aC A5 n5 c5 a0.Yt,ax cj fv M7 a0.Ys.at_,ae B6 186 [.map (some M7)]]) (cS [0,1,2,3,4,5,6,7,8,10,11] 12) ?_;refine zY [0,1,2,3,4,5] ?_;obtain ⟨h6,h⟩:=ac h;refine Dk 3 J (l:=0) (h:=(a0.Ym.length:Int).toNat) h6.2.1 h6.2.2 ?_;rintro p5 p6 p7 o3;refine zR 6 J (NU 4 J o3 J z9 size29.out J J (by rw [Wt h6.1];rfl) h6.2.1 h6.2.2) ?_;refine zY [8,9] ?_;obtain ⟨j3,h⟩:=ac h;refine Dk 4 J (l:=(a0.Ym.length:Int).toNat) (h:=g4.length) j3.2.1 j3.2.2 ?_;rintro m5 m6 m7 o4;refine zR 10 J (zd 5 J o4 J z9 size29.out J (by rw [Wt j3.1];rfl) j3.2.1) ?_;refine zY [11] ?_;refine qm 7 12 I ?_ ?_
  ·obtain ⟨p8,k,h⟩:=aa h;refine bX J (oR (fw k)) J J J ?_;rintro _ _ ⟨_,⟨l7,l8,l9,rfl,rfl⟩,rfl⟩;refine bf ?_
   refine It 12 J (i7 (cs:=[Y m5 m6 m7,Y g1 g2 g3]) J (nN _ _ _ _ _ _)) fun q0=> ?_
   obtain ⟨o5,g0,h⟩:=aa h
   refine yQ 13 J (oR (bz g0)) fun h7 h8 h9=> ?_
   refine zY [14,15] ?_;refine zO 16 J (ar (us:=[Y a6 a8 b0,Y b5 b6 b7]) (cs':=[Y a6 a8 b0,Y b5 b6 b7,Y A4 n4 c4,Y A5 n5 c5,pV B6 0]) 14 J J J J size125.out J J J) ?_;rintro _ _ rfl;refine bf ?_;refine bp ?_;refine zY [17,18] ?_;refine zO 19 J (ar (us:=[Y l7 l8 l9]) (cs':=[Y a6 a8 b0,Y b5 b6 b7,Y l7 l8 l9,Y A5 n5 c5,pV B6 0]) 14 J J J J size43.out J J J) ?_;rintro _ _ rfl;refine bf ?_;refine bp ?_;refine zY [20,21] ?_;refine zO 22 J (ar (us:=[Y h7 h8 h9]) (cs':=[Y a6 a8 b0,Y b5 b6 b7,Y l7 l8 l9,Y h7 h8 h9,pV B6 0]) 14 J J J J size43.out J J J) ?_;rintro _ _ rfl;refine bf ?_;refine bp ?_;refine fg I ?_;exact jY
  refine bX J (i7 (cs:=[Y m5 m6 m7,Y g1 g2 g3]) J (nN _ _ _ _ _ _)) J J J ?_;rintro _ _ ⟨q1,rfl,rfl⟩;refine bf ?_;obtain ⟨q2,k,h⟩:=aa h
  refine yQ 7 J (oR (fw k)) fun m0 m1 m2=> ?_
  obtain ⟨o5,g0,h⟩:=aa h
  refine yQ 13 J (oR (bz g0)) fun h7 h8 h9=> ?_
  refine zY [14,15] ?_;refine zO 16 J (ar (us:=[Y a6 a8 b0,Y b5 b6 b7]) (cs':=[Y a6 a8 b0,Y b5 b6 b7,Y A4 n4 c4,Y A5 n5 c5,pV B6 0]) 14 J J J J size125.out J J J) ?_;rintro _ _ rfl;refine bf ?_;refine bp ?_;refine zY [17,18] ?_;refine zO 19 J (ar (us:=[Y m0 m1 m2]) (cs':=[Y a6 a8 b0,Y b5 b6 b7,Y m0 m1 m2,Y A5 n5 c5,pV B6 0]) 14 J J J J size43.out J J J) ?_;rintro _ _ rfl;refine bf ?_;refine bp ?_;refine zY [20,21] ?_;refine zO 22 J (ar (us:=[Y h7 h8 h9]) (cs':=[Y a6 a8 b0,Y b5 b6 b7,Y m0 m1 m2,Y h7 h8 h9,pV B6 0]) 14 J J J J size43.out J J J) ?_;rintro _ _ rfl;refine bf ?_;refine bp ?_;refine fg I ?_;exact jY
 rintro _ _ ⟨j1,j2,h0,h1,h2,h3,h4,h5,h,rfl,rfl⟩;refine au ?_;refine bm I ([cL a6 a8 b0 e4,cL b5 b6 b7 p21,aC h0 h1 h2 j1,aC h3 h4 h5 j2,ae B1 128 [Y a6 a8 b0,Y b5 b6 b7,Y h0 h1 h2,Y h3 h4 h5,pV B6 0]]) (cS [0,1,2,3,4] 7) ?_;refine ab ?_;obtain ⟨q3,m3,h⟩:=aa h;refine lg (cS [6,5,0,1,2,3,4] 7) (cS [2,3,4,5,6] 7) ?_;refine bp ?_
 refine It 8 J (BC 2 2 (sM m3) J J J J (t9 (pw (i:=2) J J) (t9 (pw (i:=3) J J) aR)) pG) fun q4=> ?_
 exact eY
def df (a0:VU):Option (Int×VU):=
 (iG N a0).bind fun y9=>some (y9.1,y9.2)
theorem AK {N:Nat}{r:Int×VU}(h:df N a0=some r):Okc Wc 46 [pV B1 0] ([ae B1 128 [Y A2 n2 c2,Y A3 n3 c3,Y A4 n4 c4,Y A5 n5 c5,pV B6 0],cL A2 n2 c2 a0.m_.Yd,cL A3 n3 c3 a0.m_.Yc,aC A4 n4 c4 a0.Ym,aC A5 n5 c5 a0.Yt,ae B6 186 [.map (some M7)],ax cj fv M7 a0.Ys.at_]) (fun u post=> ∃A0 n0 c0 A1 n1 c1 A2 n2 c2 A3 n3 c3 M4,u=iV r.1/\post=[ae B1 128 [Y A0 n0 c0,Y A1 n1 c1,Y A2 n2 c2,Y A3 n3 c3,pV B6 0],cL A0 n0 c0 r.2.m_.Yd,cL A1 n1 c1 r.2.m_.Yc,aC A2 n2 c2 r.2.Ym,aC A3 n3 c3 r.2.Yt,ae B6 186 [.map (some M4)],ax cj fv M4 r.2.Ys.at_]):=by
 refine bY Tryz.func46 ?_;intro B8;refine ab ?_;refine gE (eB J) ?_;obtain ⟨y9,k,h⟩:=aa h;refine r8 (jz 0 J) ?_;refine gD (oC (sx k)) ?_;rintro _ _ ⟨_,⟨a6,a8,b0,b5,b6,b7,b9,c8,c9,d0,d1,d2,d3,rfl,rfl⟩,rfl⟩;exact eY
theorem yv {N:Nat}{r:Int×VU}(h:df N a0=some r):Okc Wc 46 [pV B1 0] ([oDHeap B1 a0]) (fun u post=>u=iV r.1/\post=[oDHeap B1 r.2]):=IY 0 rfl (fun _=>AK h)
def dc (a0:VU):Option (Int×VU):=
 (iF N a0).bind fun y9=>some (y9.1,y9.2)
theorem AJ {N:Nat}{r:Int×VU}(h:dc N a0=some r):Okc Wc 47 [pV B1 0] ([ae B1 128 [Y A2 n2 c2,Y A3 n3 c3,Y A4 n4 c4,Y A5 n5 c5,pV B6 0],cL A2 n2 c2 a0.m_.Yd,cL A3 n3 c3 a0.m_.Yc,aC A4 n4 c4 a0.Ym,aC A5 n5 c5 a0.Yt,ae B6 186 [.map (some M7)],ax cj fv M7 a0.Ys.at_]) (fun u post=> ∃A0 n0 c0 A1 n1 c1 A2 n2 c2 A3 n3 c3 M4,u=iV r.1/\post=[ae B1 128 [Y A0 n0 c0,Y A1 n1 c1,Y A2 n2 c2,Y A3 n3 c3,pV B6 0],cL A0 n0 c0 r.2.m_.Yd,cL A1 n1 c1 r.2.m_.Yc,aC A2 n2 c2 r.2.Ym,aC A3 n3 c3 r.2.Yt,ae B6 186 [.map (some M4)],ax cj fv M4 r.2.Ys.at_]):=by
 refine bY Tryz.func47 ?_;intro B8;refine ab ?_;refine gE (eB J) ?_;obtain ⟨y9,k,h⟩:=aa h;refine r8 (jz 0 J) ?_;refine gD (oC (sw k)) ?_;rintro _ _ ⟨_,⟨a6,a8,b0,b5,b6,b7,b9,c8,c9,d0,d1,d2,d3,rfl,rfl⟩,rfl⟩;exact eY
theorem yu {N:Nat}{r:Int×VU}(h:dc N a0=some r):Okc Wc 47 [pV B1 0] ([oDHeap B1 a0]) (fun u post=>u=iV r.1/\post=[oDHeap B1 r.2]):=IY 0 rfl (fun _=>AJ h)
def fB (a0:VU)(a1:Int):Option VU:=
 (aG N a0).bind fun y8=>(bif !y8 then (some (decide (max a1 0<(a0.Ym.length:Int)))) else (some false)).bind fun b9=>bif b9 then (aE ((0:Int)<=max a1 0/\(max a1 0).toNat<=a0.Ym.length) (some (⟨a0.m_,List.take ((max a1 0).toNat) a0.Ym,a0.Yt,a0.Ys⟩:VU))) else (some a0)
theorem C5 {N:Nat}{r:VU}(h:fB N a0 a1=some r):Okc Wc 96 [pV B1 0,iV a1] ([ae B1 128 [Y A2 n2 c2,Y A3 n3 c3,Y A4 n4 c4,Y A5 n5 c5,pV B6 0],cL A2 n2 c2 a0.m_.Yd,cL A3 n3 c3 a0.m_.Yc,aC A4 n4 c4 a0.Ym,aC A5 n5 c5 a0.Yt,ae B6 186 [.map (some M7)],ax cj fv M7 a0.Ys.at_]) (fun u post=> ∃A0 n0 c0 A1 n1 c1 A2 n2 c2 A3 n3 c3 M4,u=.tuple #[]/\post=[ae B1 128 [Y A0 n0 c0,Y A1 n1 c1,Y A2 n2 c2,Y A3 n3 c3,pV B6 0],cL A0 n0 c0 r.m_.Yd,cL A1 n1 c1 r.m_.Yc,aC A2 n2 c2 r.Ym,aC A3 n3 c3 r.Yt,ae B6 186 [.map (some M4)],ax cj fv M4 r.Ys.at_]):=by
 refine bY Tryz.func96 ?_;refine dU (Sn J J Ex Ex) ?_
 refine cR h (fun _ k=>bW k) fun y8 h=> ?_
 refine Lv 8 17 9 h (fun _ g9 h=> ?_) (fun _ g9 h=> ?_) fun b9 h=> ?_
 ·refine ab ?_;obtain rfl:=jn h;exact li (xB J (ck (ck (ck (ck (ck (ck (ck (ck dl J) J) J) J) J) J) J) J)) (cS [0,1,2,3,4,5,6] 7)
 ·refine ab ?_;obtain rfl:=jn h;exact li (xB J (ck (ck (ck (ck (ck (ck (ck (ck dl J) J) J) J) J) J) J) J)) (cS [0,1,2,3,4,5,6] 7)
 refine dI h ?_ ?_<;>intro h
 ·refine ab ?_;obtain ⟨a6,h⟩:=ac h
  refine r9 (P4 (k:=(max a1 0).toNat) 3 J J z9 size29.out J (by rw [Wt a6.1];rfl) (by rw [Wt a6.1];rfl) a6.2) fun a8 b0 b5=> ?_
  exact eN
 exact eY
theorem ut {N:Nat}{r:VU}(h:fB N a0 a1=some r):Okc Wc 96 [pV B1 0,iV a1] ([oDHeap B1 a0]) (fun u post=>u=.tuple #[]/\post=[oDHeap B1 r]):=IY 0 rfl (fun _=>C5 h)
def ik (y7:Int)(a0:VS)(p9:VU):Option VS:=
 (df N p9).bind fun a6=>(fB N a6.2 y7).bind fun a8=>some (⟨a0.Yu,a0.Yn,(),a8,a0.Yk,a0.Yv,a0.Yo,a0.YB,a0.YC,a0.Yw,a0.Yx⟩:VS)
def gu (N:Nat)(a6:Int->VU->Option VS)(y7:Int)(b5:VJ)(a8:Int)(a0:VS)(b0:VU):Option VS:=
 aE (in64 (a8+1)) (a6 (a8+1) b0)
def gt (N:Nat)(a6:Int->VU->Option VS)(y7:Int)(b5:VJ)(b6:Int)(a0:VS)(b0:VJ):Nat->Int->VU->Option VS
 |0,_,_=>none
 |b9+1,a8,b7=>aE (in64 (a8+3)) (bif decide (a8+3<(b0.Ya.length:Int)) then ((ap b0.Ya a8).bind fun c0=>(eA N b7 c0).bind fun c8=>aE (in64 (a8+4)) ((gt N a6 y7 b5 b6 a0 b0 b9) (a8+4) c8.2)) else (gu N a6 y7 b5 b6 a0 b7))
def bR (N:Nat)(y7:Int)(a6:VJ)(a0:VS):Nat->Int->VU->Option VS
 |0,_,_=>none
 |b5+1,a8,b0=>bif decide (a8<(a6.Ya.length:Int)) then ((ap a6.Ya a8).bind fun b7=>(aF N (⟨a0.Yu,a0.Yn,(),b0,a0.Yk,a0.Yv,a0.Yo,a0.YB,a0.YC,a0.Yw,a0.Yx⟩:VS) b7).bind fun b6=>bif !decide (b6.XZ=10) then (gu N (bR N y7 a6 a0 b5) y7 a6 a8 a0 b0) else (gt N (bR N y7 a6 a0 b5) y7 a6 a8 a0 b6 N 1 b0)) else (ik N y7 a0 b0)
def eD (a0:VS):Option VS:=
 (cH N a0).bind fun y7=>(bK N a0.Yi 19).bind fun a6=>(aF N a0 a6).bind fun a8=>bR N y7 a8 a0 N 0 a0.Yi
theorem sg {N:Nat}{a0 r:VS}(h:eD N a0=some r):Okc Wc 45 [pV B1 0,.func (.func 46) #[pV B2 0] #[]] ([ae B1 85 (tD a0 B2 B3 A4 n4 c4 A5 n5 c5 A6 n6 c6),oDHeap B2 a0.Yi,oDTable B3 a0.Yk,iB A4 n4 c4 a0.Yv,sO A5 n5 c5 a0.Yw,iB A6 n6 c6 a0.Yx]) (fun u post=> ∃A0 n0 c0 A1 n1 c1 A2 n2 c2,u=.tuple #[]/\post=[ae B1 85 (tD r B2 B3 A0 n0 c0 A1 n1 c1 A2 n2 c2),oDHeap B2 r.Yi,oDTable B3 r.Yk,iB A0 n0 c0 r.Yv,sO A1 n1 c1 r.Yw,iB A2 n2 c2 r.Yx]):=by
 refine bY Tryz.func45 ?_
 refine cR h (fun _ k=>nV k) fun y7 h=> ?_
 refine ai (fun s L=> ∃p9,ik N y7 a0 p9=some r/\s=[(0,pV B1 0),(1,.func (.func 46) #[pV B2 0] #[]),(4,iV y7)]/\L=[oDHeap B2 p9,iB A4 n4 c4 a0.Yv,sO A5 n5 c5 a0.Yw,iB A6 n6 c6 a0.Yx,ae B1 85 (tD a0 B2 B3 A4 n4 c4 A5 n5 c5 A6 n6 c6),oDTable B3 a0.Yk]) ?_ ?_
 ·refine ab ?_;obtain ⟨e9,k,h⟩:=aa h;refine gV (oR (ft k)) ?_;obtain ⟨a6,k,h⟩:=aa h;refine gD (oR (ir k)) ?_;rintro _ _ ⟨_,⟨f1,f2,f3,a8,b0,b5,rfl,rfl⟩,rfl⟩;refine dU (ux J (FD _ _ _ _ _ _ _ _ _ _)) ?_;refine lK (fun m s L=> ∃(b6:Int) (d3:VU),bR N y7 a6 a0 m b6 d3=some r/\s=[(0,pV B1 0),(1,.func (.func 46) #[pV B2 0] #[]),(4,iV y7),(18,Y a8 b0 b5),(19,iV (a6.Ya.length:Int)),(20,iV b6)]/\L=[aC a8 b0 b5 a6.Ya,oDHeap B2 d3,iB A4 n4 c4 a0.Yv,sO A5 n5 c5 a0.Yw,iB A6 n6 c6 a0.Yx,ae B1 85 (tD a0 B2 B3 A4 n4 c4 A5 n5 c5 A6 n6 c6),oDTable B3 a0.Yk]) N ?_;rintro e2 _ _ ⟨b6,d3,h,rfl,rfl⟩;rw [bR.eq_2] at h;refine ab ?_;refine au ?_;refine gH J h ?_ ?_<;>intro h
  ·refine ab ?_;refine ai (fun s L=> ∃d4,gu N (bR N y7 a6 a0 e2) y7 a6 b6 a0 d4=some r/\s=[(0,pV B1 0),(1,.func (.func 46) #[pV B2 0] #[]),(4,iV y7),(18,Y a8 b0 b5),(19,iV (a6.Ya.length:Int)),(20,iV b6)]/\L=[aC a8 b0 b5 a6.Ya,oDHeap B2 d4,iB A4 n4 c4 a0.Yv,sO A5 n5 c5 a0.Yw,iB A6 n6 c6 a0.Yx,ae B1 85 (tD a0 B2 B3 A4 n4 c4 A5 n5 c5 A6 n6 c6),oDTable B3 a0.Yk]) ?_ ?_
   ·refine ab ?_;obtain ⟨f4,e3,e4,e5,h⟩:=aM h
    refine du fun f9=> ?_
    refine NA h (fun _ k=>ir k) fun b7 b9 c8 c9 d0 d1 d2 h=> ?_
    intro d6;refine sY ?_;refine gH J h ?_ ?_<;>intro h
    ·exact jY
    refine ab ?_;refine lK (fun m s L=> ∃(e0:Int) (e1:VU),gt N (bR N y7 a6 a0 e2) y7 a6 b6 a0 b7 m e0 e1=some r/\s=[(0,pV B1 0),(1,.func (.func 46) #[pV B2 0] #[]),(4,iV y7),(7,pV d6 0),(8,iV e0),(18,Y a8 b0 b5),(19,iV (a6.Ya.length:Int)),(20,iV b6)]/\L=[aC a8 b0 b5 a6.Ya,oDHeap B2 e1,iB A4 n4 c4 a0.Yv,sO A5 n5 c5 a0.Yw,iB A6 n6 c6 a0.Yx,ae B1 85 (tD a0 B2 B3 A4 n4 c4 A5 n5 c5 A6 n6 c6),aC b9 c8 c9 b7.Yb,aC d0 d1 d2 b7.Ya,ae d6 45 (gk b7 b9 c8 c9 d0 d1 d2),oDTable B3 a0.Yk]) N ?_;rintro g0 _ _ ⟨e0,e1,h,rfl,rfl⟩;rw [gt.eq_2] at h;refine sZ ?_;obtain ⟨g1,h⟩:=ac h;refine dI h ?_ ?_<;>intro h
    ·refine sY ?_;refine bm I ([aC a8 b0 b5 a6.Ya,iB A4 n4 c4 a0.Yv,sO A5 n5 c5 a0.Yw,iB A6 n6 c6 a0.Yx,ae B1 85 (tD a0 B2 B3 A4 n4 c4 A5 n5 c5 A6 n6 c6),aC b9 c8 c9 b7.Yb,aC d0 d1 d2 b7.Ya,ae d6 45 (gk b7 b9 c8 c9 d0 d1 d2),oDTable B3 a0.Yk]) (cS [0,2,3,4,5,6,7,8,9] 10) ?_;refine ab ?_;obtain ⟨g2,e6,e7,e8,h⟩:=aM h;refine ab ?_;obtain ⟨g3,k,h⟩:=aa h;refine zD 9 J (oC (cq k)) ?_;rintro _ _ ⟨_,⟨rfl,rfl⟩,rfl⟩;refine bf ?_;refine ab ?_;obtain ⟨g4,h⟩:=ac h;exact lY
    exact jY
   rintro _ _ ⟨d4,h,rfl,rfl⟩;refine ab ?_;obtain ⟨g5,h⟩:=ac h;exact lY
  exact jY
 rintro _ _ ⟨p9,h,rfl,rfl⟩;refine ab ?_;obtain ⟨g6,k,h⟩:=aa h;refine C7 (IX (yv k) J J J (dx [] [0] [1,2,3,4,5] 6 J)) ?_
 refine cC h (fun _ k=>ut k) fun g7 h=> ?_
 exact eN
def ij (y7:Int)(a0:VS)(p9:VU):Option VS:=
 (dc N p9).bind fun a6=>(fB N a6.2 y7).bind fun a8=>some (⟨a0.Yu,a0.Yn,(),a8,a0.Yk,a0.Yv,a0.Yo,a0.YB,a0.YC,a0.Yw,a0.Yx⟩:VS)
def gr (N:Nat)(a6:Int->VU->Option VS)(y7:Int)(b5:VJ)(a8:Int)(a0:VS)(b0:VU):Option VS:=
 aE (in64 (a8+1)) (a6 (a8+1) b0)
def gq (N:Nat)(a6:Int->VU->Option VS)(y7:Int)(b5:VJ)(b6:Int)(a0:VS)(b0:VJ):Nat->Int->VU->Option VS
 |0,_,_=>none
 |b9+1,a8,b7=>aE (in64 (a8+3)) (bif decide (a8+3<(b0.Ya.length:Int)) then ((ap b0.Ya a8).bind fun c0=>(eA N b7 c0).bind fun c8=>aE (in64 (a8+4)) ((gq N a6 y7 b5 b6 a0 b0 b9) (a8+4) c8.2)) else (gr N a6 y7 b5 b6 a0 b7))
def bQ (N:Nat)(y7:Int)(a6:VJ)(a0:VS):Nat->Int->VU->Option VS
 |0,_,_=>none
 |b5+1,a8,b0=>bif decide (a8<(a6.Ya.length:Int)) then ((ap a6.Ya a8).bind fun b7=>(aF N (⟨a0.Yu,a0.Yn,(),b0,a0.Yk,a0.Yv,a0.Yo,a0.YB,a0.YC,a0.Yw,a0.Yx⟩:VS) b7).bind fun b6=>bif !decide (b6.XZ=10) then (gr N (bQ N y7 a6 a0 b5) y7 a6 a8 a0 b0) else (gq N (bQ N y7 a6 a0 b5) y7 a6 a8 a0 b6 N 1 b0)) else (ij N y7 a0 b0)
def eC (a0:VS):Option VS:=
 (cH N a0).bind fun y7=>(bK N a0.Yi 19).bind fun a6=>(aF N a0 a6).bind fun a8=>bQ N y7 a8 a0 N 0 a0.Yi
theorem sf {N:Nat}{a0 r:VS}(h:eC N a0=some r):Okc Wc 45 [pV B1 0,.func (.func 47) #[pV B2 0] #[]] ([ae B1 85 (tD a0 B2 B3 A4 n4 c4 A5 n5 c5 A6 n6 c6),oDHeap B2 a0.Yi,oDTable B3 a0.Yk,iB A4 n4 c4 a0.Yv,sO A5 n5 c5 a0.Yw,iB A6 n6 c6 a0.Yx]) (fun u post=> ∃A0 n0 c0 A1 n1 c1 A2 n2 c2,u=.tuple #[]/\post=[ae B1 85 (tD r B2 B3 A0 n0 c0 A1 n1 c1 A2 n2 c2),oDHeap B2 r.Yi,oDTable B3 r.Yk,iB A0 n0 c0 r.Yv,sO A1 n1 c1 r.Yw,iB A2 n2 c2 r.Yx]):=by
 refine bY Tryz.func45 ?_
 refine cR h (fun _ k=>nV k) fun y7 h=> ?_
 refine ai (fun s L=> ∃p9,ij N y7 a0 p9=some r/\s=[(0,pV B1 0),(1,.func (.func 47) #[pV B2 0] #[]),(4,iV y7)]/\L=[oDHeap B2 p9,iB A4 n4 c4 a0.Yv,sO A5 n5 c5 a0.Yw,iB A6 n6 c6 a0.Yx,ae B1 85 (tD a0 B2 B3 A4 n4 c4 A5 n5 c5 A6 n6 c6),oDTable B3 a0.Yk]) ?_ ?_
 ·refine ab ?_;obtain ⟨e9,k,h⟩:=aa h;refine gV (oR (ft k)) ?_;obtain ⟨a6,k,h⟩:=aa h;refine gD (oR (ir k)) ?_;rintro _ _ ⟨_,⟨f1,f2,f3,a8,b0,b5,rfl,rfl⟩,rfl⟩;refine dU (ux J (FD _ _ _ _ _ _ _ _ _ _)) ?_;refine lK (fun m s L=> ∃(b6:Int) (d3:VU),bQ N y7 a6 a0 m b6 d3=some r/\s=[(0,pV B1 0),(1,.func (.func 47) #[pV B2 0] #[]),(4,iV y7),(18,Y a8 b0 b5),(19,iV (a6.Ya.length:Int)),(20,iV b6)]/\L=[aC a8 b0 b5 a6.Ya,oDHeap B2 d3,iB A4 n4 c4 a0.Yv,sO A5 n5 c5 a0.Yw,iB A6 n6 c6 a0.Yx,ae B1 85 (tD a0 B2 B3 A4 n4 c4 A5 n5 c5 A6 n6 c6),oDTable B3 a0.Yk]) N ?_;rintro e2 _ _ ⟨b6,d3,h,rfl,rfl⟩;rw [bQ.eq_2] at h;refine ab ?_;refine au ?_;refine gH J h ?_ ?_<;>intro h
  ·refine ab ?_;refine ai (fun s L=> ∃d4,gr N (bQ N y7 a6 a0 e2) y7 a6 b6 a0 d4=some r/\s=[(0,pV B1 0),(1,.func (.func 47) #[pV B2 0] #[]),(4,iV y7),(18,Y a8 b0 b5),(19,iV (a6.Ya.length:Int)),(20,iV b6)]/\L=[aC a8 b0 b5 a6.Ya,oDHeap B2 d4,iB A4 n4 c4 a0.Yv,sO A5 n5 c5 a0.Yw,iB A6 n6 c6 a0.Yx,ae B1 85 (tD a0 B2 B3 A4 n4 c4 A5 n5 c5 A6 n6 c6),oDTable B3 a0.Yk]) ?_ ?_
   ·refine ab ?_;obtain ⟨f4,e3,e4,e5,h⟩:=aM h
    refine du fun f9=> ?_
    refine NA h (fun _ k=>ir k) fun b7 b9 c8 c9 d0 d1 d2 h=> ?_
    intro d6;refine sY ?_;refine gH J h ?_ ?_<;>intro h
    ·exact jY
    refine ab ?_;refine lK (fun m s L=> ∃(e0:Int) (e1:VU),gq N (bQ N y7 a6 a0 e2) y7 a6 b6 a0 b7 m e0 e1=some r/\s=[(0,pV B1 0),(1,.func (.func 47) #[pV B2 0] #[]),(4,iV y7),(7,pV d6 0),(8,iV e0),(18,Y a8 b0 b5),(19,iV (a6.Ya.length:Int)),(20,iV b6)]/\L=[aC a8 b0 b5 a6.Ya,oDHeap B2 e1,iB A4 n4 c4 a0.Yv,sO A5 n5 c5 a0.Yw,iB A6 n6 c6 a0.Yx,ae B1 85 (tD a0 B2 B3 A4 n4 c4 A5 n5 c5 A6 n6 c6),aC b9 c8 c9 b7.Yb,aC d0 d1 d2 b7.Ya,ae d6 45 (gk b7 b9 c8 c9 d0 d1 d2),oDTable B3 a0.Yk]) N ?_;rintro g0 _ _ ⟨e0,e1,h,rfl,rfl⟩;rw [gq.eq_2] at h;refine sZ ?_;obtain ⟨g1,h⟩:=ac h;refine dI h ?_ ?_<;>intro h
    ·refine sY ?_;refine bm I ([aC a8 b0 b5 a6.Ya,iB A4 n4 c4 a0.Yv,sO A5 n5 c5 a0.Yw,iB A6 n6 c6 a0.Yx,ae B1 85 (tD a0 B2 B3 A4 n4 c4 A5 n5 c5 A6 n6 c6),aC b9 c8 c9 b7.Yb,aC d0 d1 d2 b7.Ya,ae d6 45 (gk b7 b9 c8 c9 d0 d1 d2),oDTable B3 a0.Yk]) (cS [0,2,3,4,5,6,7,8,9] 10) ?_;refine ab ?_;obtain ⟨g2,e6,e7,e8,h⟩:=aM h;refine ab ?_;obtain ⟨g3,k,h⟩:=aa h;refine zD 9 J (oC (cq k)) ?_;rintro _ _ ⟨_,⟨rfl,rfl⟩,rfl⟩;refine bf ?_;refine ab ?_;obtain ⟨g4,h⟩:=ac h;exact lY
    exact jY
   rintro _ _ ⟨d4,h,rfl,rfl⟩;refine ab ?_;obtain ⟨g5,h⟩:=ac h;exact lY
  exact jY
 rintro _ _ ⟨p9,h,rfl,rfl⟩;refine ab ?_;obtain ⟨g6,k,h⟩:=aa h;refine C7 (IX (yu k) J J J (dx [] [0] [1,2,3,4,5] 6 J)) ?_
 refine cC h (fun _ k=>ut k) fun g7 h=> ?_
 exact eN
def jJ (N:Nat)(a6 a8 p13 b0 b5 b6 b7 b9 c0 c8:Int)(p21:List ByteArray)(c9 d0 d1:Int)(d2:List VK)(d3:List ByteArray)(d4:VU)(d6:VH):Option (Bool×VS):=
 some (true,(⟨(⟨a6,a8,p13⟩:VG),(⟨b0,b5,b6,b7,b9,c0,c8⟩:VV),(),d4,d6,p21,c9,d0,d1,d2,d3⟩:VS))
def fU (a0:VS):Option (Bool×VS):=
 bif decide (a0.Yn.YJ<=a0.Yu.YG) then (some (false,a0)) else (aE (in64 (a0.Yu.YG+1)) ((fI N a0.Yn.YL (⟨(⟨a0.Yu.YG+1,a0.Yu.YI,a0.Yu.YK⟩:VG),a0.Yn,(),a0.Yi,a0.Yk,a0.Yv,a0.Yo,a0.YB,a0.YC,a0.Yw,a0.Yx⟩:VS)).bind fun b0=>bif b0 then ((eD N (⟨(⟨a0.Yu.YG+1,a0.Yu.YI,a0.Yu.YK⟩:VG),a0.Yn,(),a0.Yi,a0.Yk,a0.Yv,a0.Yo,a0.YB,a0.YC,a0.Yw,a0.Yx⟩:VS)).bind fun a6=>jJ N a6.Yu.YG a6.Yu.YI a6.Yu.YK a6.Yn.YN a6.Yn.YJ a6.Yn.YD a6.Yn.YM a6.Yn.Yd a6.Yn.YL a6.Yn.YO a6.Yv a6.Yo a6.YB a6.YC a6.Yw a6.Yx a6.Yi a6.Yk) else ((fI N a0.Yn.Yd (⟨(⟨a0.Yu.YG+1,a0.Yu.YI,a0.Yu.YK⟩:VG),a0.Yn,(),a0.Yi,a0.Yk,a0.Yv,a0.Yo,a0.YB,a0.YC,a0.Yw,a0.Yx⟩:VS)).bind fun b5=>bif b5 then ((eC N (⟨(⟨a0.Yu.YG+1,a0.Yu.YI,a0.Yu.YK⟩:VG),a0.Yn,(),a0.Yi,a0.Yk,a0.Yv,a0.Yo,a0.YB,a0.YC,a0.Yw,a0.Yx⟩:VS)).bind fun a8=>jJ N a8.Yu.YG a8.Yu.YI a8.Yu.YK a8.Yn.YN a8.Yn.YJ a8.Yn.YD a8.Yn.YM a8.Yn.Yd a8.Yn.YL a8.Yn.YO a8.Yv a8.Yo a8.YB a8.YC a8.Yw a8.Yx a8.Yi a8.Yk) else (jJ N (a0.Yu.YG+1) a0.Yu.YI a0.Yu.YK a0.Yn.YN a0.Yn.YJ a0.Yn.YD a0.Yn.YM a0.Yn.Yd a0.Yn.YL a0.Yn.YO a0.Yv a0.Yo a0.YB a0.YC a0.Yw a0.Yx a0.Yi a0.Yk))))
theorem zG {N:Nat}{a0:VS}{r:Bool×VS}(h:fU N a0=some r):Okc Wc 14 [pV B1 0] ([ae B1 85 (tD a0 B2 B3 A4 n4 c4 A5 n5 c5 A6 n6 c6),oDHeap B2 a0.Yi,oDTable B3 a0.Yk,iB A4 n4 c4 a0.Yv,sO A5 n5 c5 a0.Yw,iB A6 n6 c6 a0.Yx]) (fun u post=> ∃A0 n0 c0 A1 n1 c1 A2 n2 c2,u=.bool r.1/\post=[ae B1 85 (tD r.2 B2 B3 A0 n0 c0 A1 n1 c1 A2 n2 c2),oDHeap B2 r.2.Yi,oDTable B3 r.2.Yk,iB A0 n0 c0 r.2.Yv,sO A1 n1 c1 r.2.Yw,iB A2 n2 c2 r.2.Yx]):=by
 refine bY Tryz.func14 ?_;intro B7;refine ab ?_;refine au ?_;refine dY [] ?_;refine ab ?_;refine zE 1 J (dZ J Vt) ?_;refine dI h ?_ ?_<;>intro h
 ·exact eY
 refine ab ?_;obtain ⟨q9,h⟩:=ac h;refine ab ?_;refine dU (eB J) ?_;refine ai (fun s L=> ∃a6 a8 p13 b0 b5 b6 b7 b9 c8 c9 p21 d0 d1 d2 d3 d4 d6 e0 e1 e2 e3 e4 e5 e6 e7 e8 e9,jJ N a6 a8 p13 b0 b5 b6 b7 b9 c8 c9 p21 d0 d1 d2 d3 d4 d6 e0=some r/\s=[(2,.bool false)]/\L=[iB e1 e2 e3 p21,sO e4 e5 e6 d3,iB e7 e8 e9 d4,ae B1 85 [iV a6,iV a8,iV p13,iV b0,iV b5,iV b6,iV b7,iV b9,iV c8,iV c9,.nilIface,pV B2 0,pV B3 0,Y e1 e2 e3,iV d0,iV d1,iV d2,Y e4 e5 e6,Y e7 e8 e9],oDHeap B2 d6,oDTable B3 e0]) ?_ ?_
 ·refine ab ?_;obtain ⟨f1,k,h⟩:=aa h;refine C7 (iS (pH k) J J J (t9 (pZ (i:=0) J) (t9 (pZ (i:=1) J) (t9 (Eg (i:=2) J) (t9 (Eg (i:=3) J) (t9 (gC (i:=4) J) (t9 (gC (i:=5) J) (t9 (gC (i:=6) J) aR))))))) ot) ?_;refine gH J h ?_ ?_<;>intro h
  ·refine gQ (t:=[(1,pV B7 0),(2,.bool false)]) ?_ lj (ah _)
   refine ig I 6 [] [0,5] [37,38,39,40,41,42] [[],[],[1],[2],[3],[4]] [aV (pV B1 0),
aV (pV B1 0),
aV (pV B1 0),
aV (pV B1 11),
aV (pV B2 0),
aV (.func (.func 46) #[pV B2 0] #[])] [] (ah _) (kU) I rfl rfl ?_ ?_ ?_
   ·exact kT
   ·refine qE (Ci (caps:=[]) J J) ?_;refine qR (bM 1 J J BE J) ?_;refine qE (jW J H6) ?_;refine qE (bF J) ?_;refine qR (bM 0 J J GN J) ?_;refine qR (bM 0 J J GN J) ?_;exact di
   refine nB (t:=[(37,pV B1 0),(42,.func (.func 46) #[pV B2 0] #[]),(1,pV B7 0),(2,.bool false)]) (L':=[ae B7 23 [pV B1 0],ae B1 85 [iV (a0.Yu.YG+1),iV a0.Yu.YI,iV a0.Yu.YK,iV a0.Yn.YN,iV a0.Yn.YJ,iV a0.Yn.YD,iV a0.Yn.YM,iV a0.Yn.Yd,iV a0.Yn.YL,iV a0.Yn.YO,.nilIface,pV B2 0,pV B3 0,Y A4 n4 c4,iV a0.Yo,iV a0.YB,iV a0.YC,Y A5 n5 c5,Y A6 n6 c6],oDHeap B2 a0.Yi,oDTable B3 a0.Yk,iB A4 n4 c4 a0.Yv,sO A5 n5 c5 a0.Yw,iB A6 n6 c6 a0.Yx]) ?_ lj (ah _);obtain ⟨f2,k,h⟩:=aa h;refine qu 6 J I (oC (sg k)) J J J ?_;rintro _ _ ⟨_,⟨f3,f4,f9,g0,g1,g2,g3,g4,g5,rfl,rfl⟩,rfl⟩;refine lh I ?_;exact jY
  refine ab ?_;obtain ⟨g6,k,h⟩:=aa h;refine C7 (iS (pH k) J J J (t9 (pZ (i:=0) J) (t9 (pZ (i:=1) J) (t9 (Eg (i:=2) J) (t9 (Eg (i:=3) J) (t9 (gC (i:=4) J) (t9 (gC (i:=5) J) (t9 (gC (i:=6) J) aR))))))) ot) ?_;refine gH J h ?_ ?_<;>intro h
  ·refine gQ (t:=[(1,pV B7 0),(2,.bool false)]) ?_ lj (ah _)
   refine ig I 6 [] [0,5] [52,53,54,55,56,57] [[],[],[1],[2],[3],[4]] [aV (pV B1 0),
aV (pV B1 0),
aV (pV B1 0),
aV (pV B1 11),
aV (pV B2 0),
aV (.func (.func 47) #[pV B2 0] #[])] [] (ah _) (kU) I rfl rfl ?_ ?_ ?_
   ·exact kT
   ·refine qE (Ci (caps:=[]) J J) ?_;refine qR (bM 1 J J BE J) ?_;refine qE (jW J H6) ?_;refine qE (bF J) ?_;refine qR (bM 0 J J GN J) ?_;refine qR (bM 0 J J GN J) ?_;exact di
   refine nB (t:=[(52,pV B1 0),(57,.func (.func 47) #[pV B2 0] #[]),(1,pV B7 0),(2,.bool false)]) (L':=[ae B7 23 [pV B1 0],ae B1 85 [iV (a0.Yu.YG+1),iV a0.Yu.YI,iV a0.Yu.YK,iV a0.Yn.YN,iV a0.Yn.YJ,iV a0.Yn.YD,iV a0.Yn.YM,iV a0.Yn.Yd,iV a0.Yn.YL,iV a0.Yn.YO,.nilIface,pV B2 0,pV B3 0,Y A4 n4 c4,iV a0.Yo,iV a0.YB,iV a0.YC,Y A5 n5 c5,Y A6 n6 c6],oDHeap B2 a0.Yi,oDTable B3 a0.Yk,iB A4 n4 c4 a0.Yv,sO A5 n5 c5 a0.Yw,iB A6 n6 c6 a0.Yx]) ?_ lj (ah _);obtain ⟨g7,k,h⟩:=aa h;refine qu 6 J I (oC (sf k)) J J J ?_;rintro _ _ ⟨_,⟨g8,g9,h0,h1,h2,h3,h4,h5,h6,rfl,rfl⟩,rfl⟩;refine yg ?_;refine lh I ?_;exact jY
  exact jY
 refine fun s L=>aj fun a6=>aj fun a8=>aj fun p13=>aj fun b0=>aj fun b5=>aj fun b6=>aj fun b7=>aj fun b9=>aj fun c8=>aj fun c9=>aj fun p21=>aj fun d0=>aj fun d1=>aj fun d2=>aj fun d3=>aj fun d4=>aj fun d6=>aj fun e0=>aj fun e1=>aj fun e2=>aj fun e3=>aj fun e4=>aj fun e5=>aj fun e6=>aj fun e7=>aj fun e8=>aj fun e9=>yy fun h=> ?_
 exact eY
theorem xi {N:Nat}{a0:VS}{r:Bool×VS}(h:fU N a0=some r){B1 B2 B3:Nat}:Okc Wc 14 [pV B1 0] ([oDWorld B1 B2 B3 a0]) (fun u post=>u=.bool r.1/\post=[oDWorld B1 B2 B3 r.2]):=IY 0 rfl (fun _=>zG h)
def oW (N:Nat)(p13:VS):Option (Bool×VS):=
 some (false,p13)
def tK (a0:VS)(a1:Int)(a2:VM):Option (Bool×VS):=
 aE (in64 (a1+a2.O)) ((aD N a0 (a1+a2.O)).bind fun y6=>(tJ N a0 a1 a2.D.Value).bind fun y9=>(tJ N a0 a1 a2.D.Yp).bind fun b6=>(tJ N a0 a1 a2.D.Yr).bind fun b7=>bif decide (a2.XZ=0) then ((jw N a0 y6 a2.K (⟨a2.D.Has,a2.D.Yh,y9,b6,b7⟩:VF)).bind fun a6=>some (a6.1,a6.2)) else (bif decide (a2.XZ=1) then ((oJ N a0 y6 a2.K).bind fun a8=>some (a8.1,a8.2)) else (bif decide (a2.XZ=2) then ((qX N a0 a1 a2.P).bind fun b9=>(mF N a0 y6 b9).bind fun b0=>some (b0.1,b0.2)) else (bif decide (a2.XZ=3) then ((ni N a0 y6).bind fun c0=>oW N c0) else (bif decide (a2.XZ=4) then ((tJ N a0 a1 a2.V).bind fun c8=>(jP N a0 y6 a2.K c8 a2.Yh).bind fun b5=>some (b5.1,b5.2)) else (bif decide (a2.XZ=5) then ((fU N a0).bind fun c9=>oW N c9.2) else (oW N a0)))))))
theorem LV {N:Nat}{a0:VS}{a2:VM}{r:Bool×VS}(h:tK N a0 a1 a2=some r){B1 B2 B3:Nat}:Okc Wc 13 [pV B1 0,iV a1,(UB a2)] ([oDWorld B1 B2 B3 a0]) (fun u post=>u=.bool r.1/\post=[oDWorld B1 B2 B3 r.2]):=by
 refine bY Tryz.func13 ?_;intro B4;refine ab ?_;obtain ⟨q5,h⟩:=ac h
 refine cR h (fun _ k=>bT k) fun y6 h=> ?_
 intro B7
 refine du fun B8=> ?_
 refine cR h (fun _ k=>yT k) fun y9 h=> ?_
 refine cR h (fun _ k=>yT k) fun a6 h=> ?_
 refine cR h (fun _ k=>yT k) fun a8 h=> ?_
 refine ai (fun s L=> ∃p13,oW N p13=some r/\s=[(6,.bool false)]/\L=[oDWorld B1 B2 B3 p13]) ?_ ?_
 ·refine dI h ?_ ?_<;>intro h
  ·refine cC h (fun _ k=>vW k) fun b0 h=> ?_
   exact eN
  refine dI h ?_ ?_<;>intro h
  ·refine cC h (fun _ k=>CU k) fun b5 h=> ?_
   exact eN
  refine dI h ?_ ?_<;>intro h
  ·refine au ?_;refine bm I ([ae B8 36 [iV a2.D.Has,iV a2.D.Yh,iV y9.XZ,iV y9.N,.string y9.S,iV a6.XZ,iV a6.N,.string a6.S,iV a8.XZ,iV a8.N,.string a8.S],ae B7 29 [iV y6.XZ,iV y6.N,.string y6.S],ae B4 38 (Tg a2)]) (cS [0,1,2] 4) ?_;refine ab ?_;obtain ⟨b6,k,h⟩:=aa h;refine zD 6 J (oR (Eu k)) ?_;rintro _ _ ⟨_,⟨rfl,rfl⟩,rfl⟩;refine bf ?_;obtain ⟨b7,k,h⟩:=aa h;refine zD 7 J (oC (AA k)) ?_;rintro _ _ ⟨_,⟨rfl,rfl⟩,rfl⟩;refine bf ?_;exact eY
  refine dI h ?_ ?_<;>intro h
  ·refine cC h (fun _ k=>wW k) fun b9 h=> ?_
   exact jN
  refine dI h ?_ ?_<;>intro h
  ·refine au ?_;refine bm I ([ae B8 36 [iV a2.D.Has,iV a2.D.Yh,iV y9.XZ,iV y9.N,.string y9.S,iV a6.XZ,iV a6.N,.string a6.S,iV a8.XZ,iV a8.N,.string a8.S],ae B7 29 [iV y6.XZ,iV y6.N,.string y6.S],ae B4 38 (Tg a2)]) (cS [0,1,2] 4) ?_;refine zY [0,1,2,3,4,5,6,7,9,10] ?_;obtain ⟨c0,k,h⟩:=aa h;refine zD 8 J (oR (yT k)) ?_;rintro _ _ ⟨_,⟨rfl,rfl⟩,rfl⟩;refine bf ?_;obtain ⟨c8,k,h⟩:=aa h;refine zD 11 J (oC (vl k)) ?_;rintro _ _ ⟨_,⟨rfl,rfl⟩,rfl⟩;refine bf ?_;refine zX [12] ?_;exact eY
  refine dI h ?_ ?_<;>intro h
  ·refine cC h (fun _ k=>xi k) fun c9 h=> ?_
   exact jN
  exact jY
 rintro _ _ ⟨p13,h,rfl,rfl⟩;exact eY
def nR:Option Bool:=
 (rA N).bind fun a6=>some a6
def il (b6:Int->VS->Option Bool)(a0:Bool)(a6 b7:Int)(a1:List VM)(b0:VS)(b5:VM)(c0:Int):Option Bool:=
 aE (in64 (a6+1)) ((dF N b0).bind fun b9=>(aD N b0 a6).bind fun c8=>(aF N b0 c8).bind fun c9=>(aD N b0 a6).bind fun d0=>(ja N b0 d0).bind fun d1=>(aD N b0 (a6+1)).bind fun d2=>(tK N b0 a6 (⟨b5.XZ,0,c0,b5.K,b5.D,b5.V,b5.Yh⟩:VM)).bind fun a8=>(aD N a8.2 a6).bind fun d3=>(aF N a8.2 d3).bind fun d4=>(bif !decide (d4.Yf=c9.Yf) then (some true) else ((aD N a8.2 a6).bind fun d6=>(ja N a8.2 d6).bind fun e0=>aE (in64 (a6+1)) ((aD N a8.2 (a6+1)).bind fun e1=>some (!((decide (e0=e1))==(decide (d1=d2))))))).bind fun e2=>(bif a0 then ((dF N a8.2).bind fun e3=>some (!(e2==(decide (b9<e3))))) else (some false)).bind fun e4=>(bif e4 then (some true) else ((bif !a0 then ((dF N a8.2).bind fun e5=>some (!decide (e5=b9))) else (some false)).bind fun e6=>some e6)).bind fun e7=>bif e7 then (some false) else (aE (in64 (b7+1)) (b6 (b7+1) a8.2)))
def dA (N:Nat)(a0:Bool)(a8:Int)(a1:List VM):Nat->Int->VS->Option Bool
 |0,_,_=>none
 |b5+1,b0,b6=>bif decide (b0<(a1.length:Int)) then ((ap a1 b0).bind fun a6=>(bif decide (a6.XZ=2) then (some (decide (a6.P=0))) else (some false)).bind fun b7=>bif b7 then (il N (dA N a0 a8 a1 b5) a0 a8 b0 a1 b6 a6 1) else (il N (dA N a0 a8 a1 b5) a0 a8 b0 a1 b6 a6 a6.P)) else (nR N)
def im (a0:Bool)(a6:Int)(a1:List VM)(a8:VS):Option Bool:=
 dA N a0 a6 a1 N 0 a8
def nS (a0:Bool)(a6:Int)(a1:List VM)(a8:VS):Option Bool:=
 bif a0 then ((aD N a8 a6).bind fun b5=>(eW N a8 b5 1).bind fun b0=>bif !b0.2.1 then (some false) else (im N a0 a6 a1 b0.2.2)) else (im N a0 a6 a1 a8)
def kw (N:Nat)(a0:Bool)(a8:Int)(a1:List VM):Nat->Int->VS->Option Bool
 |0,_,_=>none
 |b6+1,a6,b0=>bif decide (a6<2) then ((eW N b0 (⟨1,0,⟨#[]⟩⟩:VN) 1).bind fun b5=>(i6 N b5.2.2 b5.1).bind fun b7=>aE (in64 (a6+1)) ((kw N a0 a8 a1 b6) (a6+1) b7.2)) else (nS N a0 a8 a1 b0)
def mx (a0:Bool)(a1:List VM):Option Bool:=
 (lZ N).bind fun y2=>(yU N a1 2).bind fun y6=>(bif decide (y6=0) then (some true) else (some false)).bind fun b7=>bif b7 then ((rA N).bind fun y9=>some y9) else ((cH N y2).bind fun a6=>kw N a0 a6 a1 N 0 y2)
theorem Am {N:Nat}{a0:Bool}{a1:List VM}{r:Bool}(h:mx N a0 a1=some r):Okc Wc 4 [.bool a0,Y A1 n1 c1] ([iD EQ (Y A1 n1 c1) a1]) (fun u post=>u=.bool r/\post=[]):=by
 refine bY Tryz.func4 ?_;obtain ⟨y2,k,h⟩:=aa h;refine gD (oC (xx k)) ?_;rintro _ _ ⟨_,⟨B3,B4,B5,rfl,rfl⟩,rfl⟩;refine sY ?_
 refine cR h (fun _ k=>J0 k) fun y6 h=> ?_
 refine AU 3 25 22 h (fun _ g7 h=> ?_) fun b7 h=> ?_
 ·refine ab ?_;refine gT (dZ J Vt) J (pc g7 J) J ?_;exact gY
 refine dI h ?_ ?_<;>intro h
 ·refine cR h (fun _ k=>AZ k) fun y9 h=> ?_
  exact eN
 refine cR h (fun _ k=>xm k) fun a8 h=> ?_
 refine ai (fun s L=> ∃b9,nS N a0 a8 a1 b9=some r/\s=[(0,.bool a0),(1,Y A1 n1 c1),(4,.bool false),(5,pV B3 0),(6,iV a8)]/\L=[iD EQ (Y A1 n1 c1) a1,oDWorld B3 B4 B5 b9]) ?_ ?_
 ·refine ab ?_;refine lK (fun m s L=> ∃(c0:Int) (c8:VS),kw N a0 a8 a1 m c0 c8=some r/\s=[(0,.bool a0),(1,Y A1 n1 c1),(4,.bool false),(5,pV B3 0),(6,iV a8),(7,iV c0)]/\L=[iD EQ (Y A1 n1 c1) a1,oDWorld B3 B4 B5 c8]) N ?_;rintro e6 _ _ ⟨c0,c8,h,rfl,rfl⟩;rw [kw.eq_2] at h;refine sZ ?_;refine gH J h ?_ ?_<;>intro h
  ·refine sY ?_
   refine cC h (fun _ k=>vm k) fun e7 h=> ?_
   intro e8
   refine cC h (fun _ k=>xl k) fun e9 h=> ?_
   obtain ⟨f1,h⟩:=ac h;exact lY
  exact jY
 rintro _ _ ⟨b9,h,rfl,rfl⟩;refine ai (fun s L=> ∃c9,im N a0 a8 a1 c9=some r/\s=[(0,.bool a0),(1,Y A1 n1 c1),(4,.bool false),(5,pV B3 0),(6,iV a8)]/\L=[iD EQ (Y A1 n1 c1) a1,oDWorld B3 B4 B5 c9]) ?_ ?_
 ·refine dI h ?_ ?_<;>intro h
  ·refine ab ?_;obtain ⟨f2,k,h⟩:=aa h;refine gV (oR (bT k)) ?_
   refine cC h (fun _ k=>vm k) fun f3 h=> ?_
   intro f4;refine dI h ?_ ?_<;>intro h
   ·exact eY
   exact jY
  exact jY
 rintro _ _ ⟨c9,h,rfl,rfl⟩;refine ai (fun s L=>nR N=some r/\s=[(4,.bool false)]/\L=[]) ?_ ?_
 ·refine ab ?_;refine lK (fun m s L=> ∃(b0:Int) (b5:VS),dA N a0 a8 a1 m b0 b5=some r/\s=[(0,.bool a0),(1,Y A1 n1 c1),(4,.bool false),(5,pV B3 0),(6,iV a8),(12,iV b0)]/\L=[iD EQ (Y A1 n1 c1) a1,oDWorld B3 B4 B5 b5]) N ?_;rintro d3 _ _ ⟨b0,b5,h,rfl,rfl⟩;rw [dA.eq_2] at h;refine sZ ?_;refine gH J h ?_ ?_<;>intro h
  ·refine sY ?_;obtain ⟨a6,d4,d6,e0,h⟩:=aM h
   refine du fun d1=> ?_
   refine ai (fun s L=> ∃d0,il N (dA N a0 a8 a1 d3) a0 a8 b0 a1 b5 a6 d0=some r/\s=[(0,.bool a0),(1,Y A1 n1 c1),(4,.bool false),(5,pV B3 0),(6,iV a8),(12,iV b0),(13,pV d1 0)]/\L=[iD EQ (Y A1 n1 c1) a1,oDWorld B3 B4 B5 b5,ae d1 38 [iV a6.XZ,iV 0,iV d0,iV a6.K.XZ,iV a6.K.N,.string a6.K.S,iV a6.D.Has,iV a6.D.Yh,iV a6.D.Value.XZ,iV a6.D.Value.N,.string a6.D.Value.S,iV a6.D.Yp.XZ,iV a6.D.Yp.N,.string a6.D.Yp.S,iV a6.D.Yr.XZ,iV a6.D.Yr.N,.string a6.D.Yr.S,iV a6.V.XZ,iV a6.V.N,.string a6.V.S,iV a6.Yh]]) ?_ ?_
   ·refine ab ?_;refine gS 4 71 67 h ?_;intro f9 h;refine dI h ?_ ?_<;>intro h
    ·exact jY
    exact jY
   rintro _ _ ⟨d0,h,rfl,rfl⟩;refine dY [0,2,3,4,8,9,10,13,14] ?_;obtain ⟨d2,h⟩:=ac h;refine zE 15 J (fF J J d2.1 d2.2) ?_;obtain ⟨g0,k,h⟩:=aa h;refine zD 1 J (oR (lD k)) ?_;rintro _ _ ⟨_,⟨rfl,rfl⟩,rfl⟩;refine ⟨_,ah _,ah _,?_⟩;obtain ⟨g1,k,h⟩:=aa h;refine zD 5 J (oR (bT k)) ?_;rintro _ _ ⟨_,⟨rfl,rfl⟩,rfl⟩;refine ⟨_,ah _,ah _,?_⟩;obtain ⟨g2,k,h⟩:=aa h
   refine Ub 6 J (oR (fJ k)) fun g3 g4 g5 g6 g8 g9=> ?_
   refine zE 7 J (ux J (Jj _ _ _ _ _ _ _ _ _ _)) ?_;obtain ⟨h0,k,h⟩:=aa h;refine zD 11 J (oR (bT k)) ?_;rintro _ _ ⟨_,⟨rfl,rfl⟩,rfl⟩;refine bf ?_;obtain ⟨e1,k,h⟩:=aa h;refine zD 12 J (oR (sk k)) ?_;rintro _ _ ⟨_,⟨rfl,rfl⟩,rfl⟩;refine bf ?_;obtain ⟨e2,k,h⟩:=aa h;refine zD 16 J (oR (bT k)) ?_;rintro _ _ ⟨_,⟨rfl,rfl⟩,rfl⟩;refine bf ?_;refine zE 17 J (wg (x:=e1) (y:=e2) J J) ?_;refine zX [18,19,20] ?_
   refine cC h (fun _ k=>LV k) fun h1 h=> ?_
   obtain ⟨h2,k,h⟩:=aa h;refine gV (oR (bT k)) ?_;obtain ⟨h3,k,h⟩:=aa h;refine gD (oR (fJ k)) ?_;rintro _ _ ⟨_,⟨h4,h5,h6,h7,h8,h9,rfl,rfl⟩,rfl⟩;refine dU (ux J (Jj _ _ _ _ _ _ _ _ _ _)) ?_
   refine AU 13 116 103 h (fun _ b6 h=> ?_) fun i0 h=> ?_
   ·refine ab ?_;obtain ⟨i1,k,h⟩:=aa h;refine gU (oR (bT k)) (pc b6 J) ?_
    refine cR h (fun _ k=>sk k) fun e3 h=> ?_
    obtain ⟨i2,h⟩:=ac h;refine ab ?_;obtain ⟨e4,k,h⟩:=aa h;refine gU (oR (bT k)) (pc b6 J) ?_;refine gT (wg (x:=e3) (y:=e4) J J) J (pc b6 J) J ?_;refine ab ?_;refine gT (O0 J J Vu) J (pc b6 J) J ?_;exact gY
   refine ab ?_
   refine qo 7 125 118 h (fun _ e5 h=> ?_) fun i8 h=> ?_
   ·refine cR h (fun _ k=>lD k) fun j0 h=> ?_
    refine gT (O0 J J Vu) J (el e5 J) J ?_;exact gY
   refine ab ?_
   refine AU 9 135 126 h (fun _ j1 h=> ?_) fun j2 h=> ?_
   ·refine ab ?_
    refine qo 5 134 129 h (fun _ j3 h=> ?_) fun j4 h=> ?_
    ·refine cR h (fun _ k=>lD k) fun j5 h=> ?_
     exact gY
    exact gY
   refine dI h ?_ ?_<;>intro h
   ·exact eY
   refine ab ?_;obtain ⟨j6,h⟩:=ac h;exact lY
  exact jY
 rintro _ _ ⟨h,rfl,rfl⟩
 refine cR h (fun _ k=>AZ k) fun j7 h=> ?_
 exact eN
end
section
open Go.RowKit
set_option maxRecDepth 20000
def ze (N:Nat)(a0:VR)(a1:Int):Option Bool:=
 bif decide (a1<1) then (some false) else (bif decide (a1.tmod 2=1) then (aE (in64 (a1 - 1)) (aE (in64 ((a1 - 1).tdiv 2)) (some (decide ((a1 - 1).tdiv 2<(a0.Yd.length:Int)))))) else (aE (in64 (a1 - 2)) (aE (in64 ((a1 - 2).tdiv 2)) (some (decide ((a1 - 2).tdiv 2<(a0.Yc.length:Int)))))))
def Br (a0:VR)(a1:Int):Option VJ:=
 (ze N a0 a1).bind fun y5=>bif !y5 then (some (⟨0,0,0,0,[],[]⟩:VJ)) else (bif decide (a1.tmod 2=1) then (aE (in64 (a1 - 1)) (aE (in64 ((a1 - 1).tdiv 2)) ((ap a0.Yd ((a1 - 1).tdiv 2)).bind fun a6=>some a6))) else (aE (in64 (a1 - 2)) (aE (in64 ((a1 - 2).tdiv 2)) ((ap a0.Yc ((a1 - 2).tdiv 2)).bind fun a8=>some a8))))
def fV (N:Nat)(a0:VN):Option Bool:=
 (bif decide (a0.XZ<0) then (some true) else (some (decide (9<a0.XZ)))).bind fun b2=>bif b2 then (some false) else (bif decide (a0.XZ=5) then ((bif decide (a0.N=0) then (some (decide ((a0.S.size:Int)<=65536))) else (some false)).bind fun b5=>some b5) else (bif !(a0.S.toList==(⟨#[]⟩:ByteArray).toList) then (some false) else (bif decide (a0.XZ=2) then ((bif decide (a0.N=0) then (some true) else (some (decide (a0.N=1)))).bind fun b8=>some b8) else (bif decide (a0.XZ=3) then ((bif decide ((-9007199254740992)<=a0.N) then (some (decide (a0.N<=9007199254740992))) else (some false)).bind fun a6=>some a6) else ((bif decide (a0.XZ=6) then (some true) else (some (decide (a0.XZ=7)))).bind fun a8=>(bif a8 then (some true) else (some (decide (a0.XZ=9)))).bind fun b12=>bif b12 then (some (decide (1<=a0.N))) else (some (decide (a0.N=0))))))))
def lq (N:Nat)(a0:Int):Option Bool:=
 (bif decide (a0=1) then (some true) else (some (decide (a0=2)))).bind fun b1=>(bif b1 then (some true) else (some (decide (a0=3)))).bind fun b2=>(bif b2 then (some true) else (some (decide (a0=6)))).bind fun b3=>(bif b3 then (some true) else (some (decide (a0=8)))).bind fun b4=>(bif b4 then (some true) else (some (decide (a0=9)))).bind fun b5=>(bif b5 then (some true) else (some (decide (a0=10)))).bind fun b6=>some b6
def dG (N:Nat)(a0:VN)(a1:Int):Option Bool:=
 (bif decide (a0.XZ=0) then (some true) else (some (decide (a0.XZ=a1)))).bind fun b2=>some b2
def jO (a0:VJ):Option Bool:=
 (lq N a0.XZ).bind fun y4=>(bif y4 then (some true) else ((bif decide (a0.XZ=7) then (some (decide (0<(a0.Yb.length:Int)))) else (some false)).bind fun b6=>some b6)).bind fun b5=>bif b5 then ((bif decide (1<=(a0.Yb.length:Int)) then (some (decide ((a0.Yb.length:Int)<=1025))) else (some false)).bind fun b8=>(bif b8 then ((ap a0.Yb 0).bind fun a6=>(bif decide (a6.XZ=1) then (some true) else ((ap a0.Yb 0).bind fun a8=>some (decide (a8.XZ=7)))).bind fun b0=>some b0) else (some false)).bind fun b9=>some b9) else (bif decide (a0.XZ=7) then (some (decide (a0.Yf=0))) else ((bif !decide (a0.Yf=0) then (some true) else (some (!decide (a0.Ye=0)))).bind fun b7=>bif b7 then (some false) else (bif decide (a0.XZ=5) then ((bif decide ((a0.Yb.length:Int)=2) then ((ap a0.Yb 0).bind fun c0=>(dG N c0 7).bind fun c8=>some c8) else (some false)).bind fun c9=>(bif c9 then ((ap a0.Yb 1).bind fun d0=>(dG N d0 7).bind fun d1=>some d1) else (some false)).bind fun d2=>some d2) else (some (decide ((a0.Yb.length:Int)=0))))))
def gX (N:Nat)(a0:VN)(a1 a2:Int):Option Bool:=
 (bif decide (a0.XZ=3) then (some (decide (a1<=a0.N))) else (some false)).bind fun b2=>(bif b2 then (some (decide (a0.N<=a2))) else (some false)).bind fun b3=>some b3
def EX (N:Nat):Option Bool:=
 some true
def gw (N:Nat)(a1:Int)(a0:VY):Nat->Int->Option Bool
 |0,_=>none
 |m5+1,p6=>bif decide (p6<(a0.length:Int)) then ((ap a0 p6).bind fun x8=>(bif !decide (x8.XZ=7) then (some true) else (aE (in64 (p6+1)) ((ap a0 (p6+1)).bind fun a6=>some (decide (a6.XZ=8))))).bind fun b9=>bif b9 then (some false) else ((bif decide (a1=4) then (aE (in64 (p6+2)) ((ap a0 (p6+2)).bind fun a8=>(dG N a8 7).bind fun b0=>(bif !b0 then (some true) else (aE (in64 (p6+3)) ((ap a0 (p6+3)).bind fun b5=>(gX N b5 0 9007199254740992).bind fun b6=>some (!b6)))).bind fun b7=>some b7)) else (some false)).bind fun c0=>bif c0 then (some false) else (aE (in64 (p6+a1)) ((gw N a1 a0 m5) (p6+a1))))) else (EX N)
def cP (a0:VY)(a1:Int):Option Bool:=
 aE (a1≠0) (bif !decide ((a0.length:Int).tmod a1=0) then (some false) else (gw N a1 a0 N 0))
def lp (a0:VJ)(p7:Bool):Option Bool:=
 bif p7 then (some (decide ((a0.Ya.length:Int)=0))) else (bif decide (a0.XZ=3) then ((bif decide ((a0.Ya.length:Int)=3) then ((ap a0.Ya 0).bind fun a6=>(gX N a6 0 9007199254740992).bind fun a8=>some a8) else (some false)).bind fun b0=>(bif b0 then ((ap a0.Ya 1).bind fun b5=>(dG N b5 9).bind fun b6=>some b6) else (some false)).bind fun b7=>some b7) else (bif decide (a0.XZ=4) then ((bif decide (1<=(a0.Ya.length:Int)) then (some (decide ((a0.Ya.length:Int)<=4097))) else (some false)).bind fun b9=>(bif b9 then ((ap a0.Ya 0).bind fun c0=>(dG N c0 9).bind fun c8=>some c8) else (some false)).bind fun c9=>some c9) else (bif decide (a0.XZ=6) then ((bif decide ((a0.Ya.length:Int)=2) then ((ap a0.Ya 0).bind fun d0=>(gX N d0 0 3).bind fun d1=>some d1) else (some false)).bind fun d2=>(bif d2 then ((ap a0.Ya 1).bind fun d3=>(dG N d3 9).bind fun d4=>some d4) else (some false)).bind fun d6=>some d6) else (bif decide (a0.XZ=7) then ((bif decide (4<=(a0.Ya.length:Int)) then ((ap a0.Ya 2).bind fun e0=>(gX N e0 0 1).bind fun e1=>some e1) else (some false)).bind fun e2=>(bif e2 then ((ap a0.Ya 3).bind fun e3=>(gX N e3 0 9007199254740992).bind fun e4=>some e4) else (some false)).bind fun e5=>some e5) else (bif decide (a0.XZ=8) then ((cP N a0.Ya 2).bind fun e6=>some e6) else (bif decide (a0.XZ=10) then ((bif decide (1<=(a0.Ya.length:Int)) then ((ap a0.Ya 0).bind fun e7=>some (decide (e7.XZ=7))) else (some false)).bind fun e8=>(bif e8 then (aE ((0:Int)<=1/\(1:Int).toNat<=a0.Ya.length/\a0.Ya.length<=a0.Ya.length) ((cP N ((a0.Ya.drop ((1:Int).toNat)).take (a0.Ya.length - (1:Int).toNat)) 4).bind fun e9=>some e9)) else (some false)).bind fun f1=>some f1) else (bif decide (a0.XZ=9) then ((bif decide (2<=(a0.Ya.length:Int)) then ((ap a0.Ya 0).bind fun f2=>(gX N f2 0 2).bind fun f3=>some f3) else (some false)).bind fun f4=>some f4) else (some true))))))))
def lH (a0:VJ):Option Bool:=
 bif decide (1048576<(a0.Ya.length:Int)) then (some false) else (bif decide (a0.XZ=2) then (some (decide ((a0.Ya.length:Int)<=4096))) else (bif decide (a0.XZ=1) then (lp N a0 (decide (a0.XZ=1))) else (lp N a0 (decide (a0.XZ=5)))))
def cQ (a0:VJ):Option Bool:=
 (jO N a0).bind fun a6=>(bif a6 then ((lH N a0).bind fun a8=>some a8) else (some false)).bind fun b0=>some b0
def oz (N:Nat)(a0:VJ):Nat->Int->Option Bool
 |0,_=>none
 |a6+1,p21=>bif decide (p21<(a0.Ya.length:Int)) then ((ap a0.Ya p21).bind fun a8=>(fV N a8).bind fun b0=>bif !b0 then (some false) else (aE (in64 (p21+1)) ((oz N a0 a6) (p21+1)))) else (cQ N a0)
def zW (a0:VJ):Option Bool:=
 oz N a0 N 0
def iL (N:Nat)(a0:VJ):Nat->Int->Option Bool
 |0,_=>none
 |a6+1,p13=>bif decide (p13<(a0.Yb.length:Int)) then ((ap a0.Yb p13).bind fun a8=>(fV N a8).bind fun b0=>bif !b0 then (some false) else (aE (in64 (p13+1)) ((iL N a0 a6) (p13+1)))) else (zW N a0)
def eu (a0:VJ):Option Bool:=
 (bif decide (a0.XZ<1) then (some true) else (some (decide (11<a0.XZ)))).bind fun b4=>(bif b4 then (some true) else (some (decide (a0.Yf<0)))).bind fun b5=>(bif b5 then (some true) else (some (decide (a0.Ye<0)))).bind fun b6=>(bif b6 then (some true) else (some (decide (63<a0.Ye)))).bind fun b7=>(bif b7 then (some true) else (some (decide (a0.Yg<0)))).bind fun b8=>(bif b8 then (some true) else (some (decide (1<a0.Yg)))).bind fun b9=>bif b9 then (some false) else (iL N a0 N 0)
def zf (N:Nat)(a0:VN):Option Bool:=
 (bif decide (a0.XZ=7) then (some true) else (some (decide (a0.XZ=9)))).bind fun b2=>some b2
def Au (N:Nat)(a0 a1:Int):Option Bool:=
 (bif decide (a0=8) then (some true) else ((bif decide (a0=10) then (some (decide (0<a1))) else (some false)).bind fun b2=>(bif b2 then (aE (in64 (a1 - 1)) (some (decide (((a1 - 1).tmod 4).tmod 2=0)))) else (some false)).bind fun b3=>some b3)).bind fun b1=>some b1
def Gb (N:Nat)(a6:VZ):Option VZ:=
 some a6
def rb (N:Nat)(a6:VZ->Int->Option VZ)(a8:Int)(a0:VJ)(b0:VZ):Option VZ:=
 aE (in64 (a8+1)) (a6 b0 (a8+1))
def md (N:Nat)(a0:VJ):Nat->VZ->Int->Option VZ
 |0,_,_=>none
 |b0+1,a8,a6=>bif decide (a6<(a0.Ya.length:Int)) then ((ap a0.Ya a6).bind fun b6=>(zf N b6).bind fun b7=>(bif b7 then ((Au N a0.XZ a6).bind fun b9=>some (!b9)) else (some false)).bind fun c0=>bif c0 then ((ap a0.Ya a6).bind fun b5=>aE (ci (a8.length+([b5.N]:List Int).length)) (rb N (md N a0 b0) a6 a0 (a8++([b5.N]:List Int)))) else (rb N (md N a0 b0) a6 a0 a8)) else (Gb N a8)
def Bu (a0:VJ)(p5:VZ):Option VZ:=
 md N a0 N p5 0
def rc (N:Nat)(a6:VZ->Int->Option VZ)(p8:Int)(a0:VJ)(a8:VZ):Option VZ:=
 aE (in64 (p8+1)) (a6 a8 (p8+1))
def nI (N:Nat)(a0:VJ):Nat->VZ->Int->Option VZ
 |0,_,_=>none
 |m6+1,p7,p8=>bif decide (p8<(a0.Yb.length:Int)) then ((ap a0.Yb p8).bind fun a8=>(zf N a8).bind fun b0=>bif b0 then ((ap a0.Yb p8).bind fun a6=>aE (ci (p7.length+([a6.N]:List Int).length)) (rc N (nI N a0 m6) p8 a0 (p7++([a6.N]:List Int)))) else (rc N (nI N a0 m6) p8 a0 p7)) else (Bu N a0 p7)
def uS (a0:VJ):Option VZ:=
 nI N a0 N [] 0
def CO (N:Nat)(p4:VZ):Option VZ:=
 some p4
def qH (N:Nat)(a6:VZ->Int->Option VZ)(p7:Int)(a0:VY)(a8:VZ):Option VZ:=
 aE (in64 (p7+1)) (a6 a8 (p7+1))
def iR (N:Nat)(a0:VY):Nat->VZ->Int->Option VZ
 |0,_,_=>none
 |m5+1,p6,p7=>bif decide (p7<(a0.length:Int)) then ((ap a0 p7).bind fun a8=>(bif decide (a8.XZ=7) then (some true) else ((ap a0 p7).bind fun b0=>some (decide (b0.XZ=9)))).bind fun b12=>bif b12 then ((ap a0 p7).bind fun a6=>aE (ci (p6.length+([a6.N]:List Int).length)) (qH N (iR N a0 m5) p7 a0 (p6++([a6.N]:List Int)))) else (qH N (iR N a0 m5) p7 a0 p6)) else (CO N p6)
def oI (a0:VY):Option VZ:=
 iR N a0 N ([]:List Int) 0
def Mq (N:Nat):Option Bool:=
 some false
def CP (N:Nat)(a1:Int)(a0:VZ):Nat->Int->Option Bool
 |0,_=>none
 |m3+1,p4=>bif decide (p4<(a0.length:Int)) then ((ap a0 p4).bind fun x6=>bif decide (x6=a1) then (some true) else (aE (in64 (p4+1)) ((CP N a1 a0 m3) (p4+1)))) else (Mq N)
def EU (a0:VZ)(a1:Int):Option Bool:=
 CP N a1 a0 N 0
def Kj (N:Nat)(p7:VZ):Option VZ:=
 some p7
def xX (N:Nat)(a8:VZ->Int->Option VZ)(a6:Int)(a2:VZ)(a0:VR)(p13:VZ):Option VZ:=
 aE (in64 (a6+1)) (a8 p13 (a6+1))
def qG (N:Nat)(a2:VZ)(a0:VR):Nat->VZ->Int->Option VZ
 |0,_,_=>none
 |m8+1,p9,a6=>bif decide (a6<(a2.length:Int)) then ((ap a2 a6).bind fun b0=>(ze N a0 b0).bind fun b5=>(bif b5 then ((ap a2 a6).bind fun b6=>(EU N p9 b6).bind fun b7=>some (!b7)) else (some false)).bind fun b16=>bif b16 then ((ap a2 a6).bind fun a8=>aE (ci (p9.length+([a8]:List Int).length)) (xX N (qG N a2 a0 m8) a6 a2 a0 (p9++([a8]:List Int)))) else (xX N (qG N a2 a0 m8) a6 a2 a0 p9)) else (Kj N p9)
def tx (a0:VR)(a1 a2:VZ):Option VZ:=
 qG N a2 a0 N a1 0
def ES (N:Nat)(p6:VZ):Option VZ:=
 some p6
def pK (N:Nat)(a0:VR):Nat->VZ->Int->Option VZ
 |0,_,_=>none
 |m7+1,p8,p9=>bif decide (p9<(p8.length:Int)) then ((ap p8 p9).bind fun a6=>(Br N a0 a6).bind fun a8=>(uS N a8).bind fun b0=>(tx N a0 p8 b0).bind fun b5=>aE (in64 (p9+1)) ((pK N a0 m7) b5 (p9+1))) else (ES N p8)
def mc (a0:VR)(a1:VZ)(a2:Int):Option VZ:=
 pK N a0 N a1 a2
def zU (N:Nat)(p6:VZ):Option VZ:=
 some p6
def uc (N:Nat)(a6:VZ->Int->Option VZ)(p9:Int)(a8:VZ):Option VZ:=
 aE (in64 (p9+1)) (a6 a8 (p9+1))
def pL (N:Nat)(b0:VZ->Int->Option VZ)(p9:Int):Nat->VZ->Int->Option VZ
 |0,_,_=>none
 |b6+1,a8,a6=>(bif decide (0<a6) then (aE (in64 (a6 - 1)) ((ap a8 (a6 - 1)).bind fun b7=>(ap a8 a6).bind fun b9=>some (decide (b9<b7)))) else (some false)).bind fun b16=>bif b16 then ((ap a8 a6).bind fun c0=>aE (in64 (a6 - 1)) ((ap a8 (a6 - 1)).bind fun b5=>(ap a8 a6).bind fun c8=>aE (in64 (a6 - 1)) ((ap (List.set a8 a6.toNat b5) (a6 - 1)).bind fun c9=>aE (in64 (a6 - 1)) ((pL N b0 p9 b6) (List.set (List.set a8 a6.toNat b5) ((a6 - 1).toNat) c0) (a6 - 1))))) else (uc N b0 p9 a8)
def iK (N:Nat):Nat->VZ->Int->Option VZ
 |0,_,_=>none
 |m7+1,p8,p9=>bif decide (p9<(p8.length:Int)) then (pL N (iK N m7) p9 N p8 p9) else (zU N p8)
def wx (a0:VZ):Option VZ:=
 aE (ci (([]:List Int).length+a0.length)) (iK N N (([]:List Int)++a0) 1)
def EV (a0:VJ):Option Bool:=
 (bif decide (a0.XZ=8) then ((eu N a0).bind fun y5=>some y5) else (some false)).bind fun b4=>some b4
def Mr (N:Nat):Option Bool:=
 some false
def CQ (N:Nat)(a0:Int)(a1:VZ):Nat->Int->Option Bool
 |0,_=>none
 |m3+1,p4=>bif decide (p4<(a1.length:Int)) then ((ap a1 p4).bind fun x6=>bif decide (x6=a0) then (some true) else (aE (in64 (p4+1)) ((CQ N a0 a1 m3) (p4+1)))) else (Mr N)
def EW (a0:Int)(a1:VZ):Option Bool:=
 CQ N a0 a1 N 0
def Bt (N:Nat)(p6:VZ):Option VZ:=
 some p6
def vi (N:Nat)(a6:VZ->Int->Option VZ)(p9:Int)(a1:VZ)(a0:VJ)(a8:VZ):Option VZ:=
 aE (in64 (p9+2)) (a6 a8 (p9+2))
def ta (N:Nat)(a1:VZ)(a0:VJ):Nat->VZ->Int->Option VZ
 |0,_,_=>none
 |m7+1,p8,p9=>(EV N a0).bind fun a8=>(bif a8 then (some (decide (p9<(a0.Ya.length:Int)))) else (some false)).bind fun b12=>bif b12 then (aE (in64 (p9+1)) ((ap a0.Ya (p9+1)).bind fun a6=>(ap a0.Ya p9).bind fun b0=>(EW N b0.N a1).bind fun b5=>(bif b5 then ((bif decide (a6.XZ=7) then (some true) else (some (decide (a6.XZ=9)))).bind fun b6=>some b6) else (some false)).bind fun b7=>bif b7 then (aE (ci (p8.length+([a6.N]:List Int).length)) (vi N (ta N a1 a0 m7) p9 a1 a0 (p8++([a6.N]:List Int)))) else (vi N (ta N a1 a0 m7) p9 a1 a0 p8))) else (Bt N p8)
def xY (a0:VJ)(a1:VZ):Option VZ:=
 ta N a1 a0 N [] 0
def zV (a6:VZ->Option VZ)(p13:VZ)(a0:VR)(a8:VZ):Option VZ:=
 bif decide ((a8.length:Int)=(p13.length:Int)) then (some a8) else ((mc N a0 a8 (p13.length:Int)).bind fun b0=>a6 b0)
def oy (N:Nat)(a6:VZ->Option VZ)(p13:VZ)(a0:VR):Nat->VZ->Int->Option VZ
 |0,_,_=>none
 |b5+1,a8,b0=>bif decide (b0<(p13.length:Int)) then ((ap a8 b0).bind fun b6=>(Br N a0 b6).bind fun b7=>(xY N b7 a8).bind fun b9=>(tx N a0 a8 b9).bind fun c0=>aE (in64 (b0+1)) ((oy N a6 p13 a0 b5) c0 (b0+1))) else (zV N a6 p13 a0 a8)
def ki (N:Nat)(a0:VR):Nat->VZ->Option VZ
 |0,_=>none
 |a6+1,p13=>oy N (ki N a0 a6) p13 a0 N p13 0
def uR (a0:VR)(a1:VY):Option VZ:=
 (oI N a1).bind fun y5=>(tx N a0 ([]:List Int) y5).bind fun y8=>(mc N a0 y8 0).bind fun a6=>ki N a0 N a6
def ET (a0:VR)(a1:VY):Option VZ:=
 (uR N a0 a1).bind fun y5=>(wx N y5).bind fun y7=>some y7
end
end Go.Proofs.YthhiddkljcacaaaGreat
