/- Merged texts: part 7. No conditions of their own. -/
import Derived.Test.YthhiddkljcacaaaGreatG6
set_option maxHeartbeats 4000000
namespace Go.Proofs.YthhiddkljcacaaaGreat
variable (N:Nat){a1:Int}{a0:Vv}{a2:Vx}
section
theorem U8:type_of% Tryz.underlying171:=Tryz.underlying171
theorem U7:type_of% Tryz.underlying230:=Tryz.underlying230
variable {A1 A2 A3 A4 A5 A6:Option Addr}{B1 B6 M6 M7 c1 c2 c3 c4 c5 c6 n1 n2 n3 n4 n5 n6:Nat}
open Go.RowKit Asn
set_option maxRecDepth 20000
def fY (N:Nat)(a6:VF->VF->Vx->Vx->VG->Int->Option Vl)(a8 b0:VF)(b5 b6:Vx)(b7:VG)(p21:Int):Option Vl:=
 aD (in64 (p21+1)) (a6 a8 b0 b5 b6 b7 (p21+1))
def fX (N:Nat)(b5:VF->VF->Vx->Vx->VG->Int->Option Vl)(b0:Vx):Nat->Int->VF->VF->Vx->Vx->VG->Int->Option Vl
 |0,_,_,_,_,_,_,_=>none
 |d0+1,a8,b6,b7,b9,c0,c8,c9=>bif decide (a8<(b0.length:Int)) then ((ao b0 a8).bind fun d1=>(bV N (⟨(⟨b6,b7⟩:Ve),b9,c0,c8,c9⟩:Vl) d1).bind fun a6=>aD (in64 (a8+1)) ((fX N b5 b0 d0) (a8+1) a6.m_.XA a6.m_.Xz a6.Yc a6.XN a6.Yb a6.XV)) else (fY N b5 b6 b7 b9 c0 c8 c9)
def bC (N:Nat):Nat->VF->VF->Vx->Vx->VG->Int->Option Vl
 |0,_,_,_,_,_,_=>none
 |m7+1,p8,p9,a8,a6,b0,p13=>bif decide (p13<(a6.length:Int)) then ((ao a6 p13).bind fun b5=>(bv N (⟨(⟨p8,p9⟩:Ve),a8,a6,b0,p13⟩:Vl) b5).bind fun b6=>(iz N b6).bind fun b7=>fX N (bC N m7) b7 N 0 p8 p9 a8 a6 b0 p13) else (some (⟨(⟨p8,p9⟩:Ve),a8,a6,b0,p13⟩:Vl))
def eS (a0:Vl):Option Vl:=
 bC N N a0.m_.XA a0.m_.Xz a0.Yc a0.XN a0.Yb a0.XV
theorem ph {N:Nat}{a0 r:Vl}(h:eS N a0=some r):Okc VK 206 [pV B1 0] ([bB A2 n2 c2 a0.m_.XA,bB A3 n3 c3 a0.m_.Xz,fC A4 n4 c4 a0.Yc,ae B1 223 [W A2 n2 c2,W A3 n3 c3,W A4 n4 c4,W A5 n5 c5,.map (some M6),iV a0.XV],fm A5 n5 c5 a0.XN,ax cj ft M6 a0.Yb]) (fun u post=> ∃A0 n0 c0 A1 n1 c1 A2 n2 c2 A3 n3 c3 M4,u=.tuple #[]/\post=[ae B1 223 [W A0 n0 c0,W A1 n1 c1,W A2 n2 c2,W A3 n3 c3,.map (some M4),iV r.XV],bB A0 n0 c0 r.m_.XA,bB A1 n1 c1 r.m_.Xz,fC A2 n2 c2 r.Yc,fm A3 n3 c3 r.XN,ax cj ft M4 r.Yb]):=by
 refine bX Tryz.func206 ?_;refine lK (fun m s L=> ∃(p8:VF) (p9:VF) (d6:Vx) (e0:Vx) (e1:VG) (p13:Int) (A8:Option Addr) (n8 c8:Nat) (A9:Option Addr) (n9 c9:Nat) (d1:Option Addr) (d2 d3:Nat) (b5:Option Addr) (b6 b7:Nat) (d4:Nat),bC N m p8 p9 d6 e0 e1 p13=some r/\s=[(0,pV B1 0)]/\L=[bB A8 n8 c8 p8,bB A9 n9 c9 p9,fC d1 d2 d3 d6,fm b5 b6 b7 e0,ax cj ft d4 e1,ae B1 223 [W A8 n8 c8,W A9 n9 c9,W d1 d2 d3,W b5 b6 b7,.map (some d4),iV p13]]) N ?_;intro m7
 refine fun s L=>ai fun p8=>ai fun p9=>ai fun d6=>ai fun e0=>ai fun e1=>ai fun p13=>ai fun A8=>ai fun n8=>ai fun c8=>ai fun A9=>ai fun n9=>ai fun c9=>ai fun d1=>ai fun d2=>ai fun d3=>ai fun b5=>ai fun b6=>ai fun b7=>ai fun d4=>xi fun h=> ?_
 rw [bC.eq_2] at h;refine au ?_;refine dY [] ?_;refine dU h ?_ ?_<;>intro h
 ·refine ab ?_;refine ak (fun s L=> ∃e8 e9 f1 f2 f3 p21 f4 f9 g0 g1 g2 g3 g4 g5 g6 g7 g8 g9 h0,fY N (bC N m7) e8 e9 f1 f2 f3 p21=some r/\s=[(0,pV B1 0)]/\L=[bB f4 f9 g0 e8,bB g1 g2 g3 e9,fC g4 g5 g6 f1,fm g7 g8 g9 f2,ax cj ft h0 f3,ae B1 223 [W f4 f9 g0,W g1 g2 g3,W g4 g5 g6,W g7 g8 g9,.map (some h0),iV p21]]) ?_ ?_
  ·refine ab ?_;refine au ?_;obtain ⟨k3,h1,h2,h3,h⟩:=aI h;obtain ⟨d0,h4,h⟩:=aa h;obtain ⟨b9,h5,h⟩:=aa h;refine gK (t:=[(0,pV B1 0)]) ?_ lg (ah _)
   refine gX I 15 [] [12,13,14] [21,22,23,24,25,26,27,28,29,30,31,32,33,34,35] [[],[],[1],[2],[3],[],[5],[6],[7],[4,8],[9],[0,10],[11],[12],[]] [aV (pV B1 0),
 aV (pV B1 0),
 aV (pV B1 0),
 aV (pV B1 3),
 aV (W b5 b6 b7),
 aV (pV B1 0),
 aV (pV B1 0),
 aV (pV B1 5),
 aV (iV p13),
 aV (dk (W b5 b6 b7) p13.toNat 1 0),
 aV (iV k3),
 aX6 (fun (e2:Option Addr) (e3 e4:Nat) (e5:Option Addr) (e6 e7:Nat)=> .agg #[iV d0.Xw,iV d0.XD,iV d0.XB,iV d0.XC,W e2 e3 e4,W e5 e6 e7]) (fun e2 e3 e4 e5 e6 e7=> [aZ e2 e3 e4 d0.Xy,aZ e5 e6 e7 d0.Xx]),
 aX3 (fun (a6:Option Addr) (a8 b0:Nat)=> W a6 a8 b0) (fun a6 a8 b0=> [fm a6 a8 b0 b9]),
 aV (iV (b9.length:Int)),
 aV (iV 0)] [] (ah _) (kQ) I rfl rfl ?_ ?_ ?_
   ·exact kP
   ·refine qE (ap J) ?_;refine aH J ?_ ?_
    ·intro a6 a8 b0;exact vU (rX 0 J aj J UV) J (ko J (ah _))
    refine aH J ?_ ?_
    ·intro e2 e3 e4 e5 e6 e7;refine xh (oR (mh h5)) J ?_;rintro _ _ ⟨_,⟨k4,k5,k6,rfl,rfl⟩,rfl⟩;exact Ia k4 k5 k6 (ah _)
    refine aH J ?_ ?_
    ·refine xh (oC (gu h4)) J ?_;rintro _ _ ⟨_,⟨k7,k8,k9,l0,l1,l2,rfl,rfl⟩,rfl⟩;exact R4 k7 k8 k9 l0 l1 l2 (cS [0,1,5,6,7,3,4,2] 8)
    refine aH J ?_ ?_
    ·exact vU (kN (u:=iV k3) 3 J aj J h3 xP (fun _ _ _ h=>by rw [show _=_ from h];rfl)) J (ko J (ah _))
    refine qR (cK 3 J aj J J UV size3.out h1 h2) ?_;refine qR (bO 5 J J xP J) ?_;refine qE (jS J Jn) ?_;refine qE (bF J) ?_;refine qE (ap J) ?_;refine qR (bO 5 J J EX J) ?_;refine qE (jS J BR) ?_;refine qE (bF J) ?_;refine qE (ap J) ?_;refine qE (ap J) ?_;exact dl
   intro a6 a8 b0;refine nw (t:=[(33,W a6 a8 b0),(34,iV (b9.length:Int)),(35,iV 0),(0,pV B1 0)]) (L':=[fm a6 a8 b0 b9,bB A8 n8 c8 p8,bB A9 n9 c9 p9,fC d1 d2 d3 d6,fm b5 b6 b7 e0,ax cj ft d4 e1,ae B1 223 [W A8 n8 c8,W A9 n9 c9,W d1 d2 d3,W b5 b6 b7,.map (some d4),iV p13]]) ?_ lg (ah _);refine lc I ?_;refine ab ?_;refine lK (fun m s L=> ∃(h6:Int) (h7:VF) (h8:VF) (h9:Vx) (i0:Vx) (i1:VG) (i2:Int) (i8:Option Addr) (j0 j1:Nat) (j2:Option Addr) (j3 j4:Nat) (j5:Option Addr) (j6 j7:Nat) (j8:Option Addr) (j9 k0:Nat) (k2:Nat),fX N (bC N m7) b9 m h6 h7 h8 h9 i0 i1 i2=some r/\s=[(0,pV B1 0),(33,W a6 a8 b0),(34,iV (b9.length:Int)),(35,iV h6)]/\L=[fm a6 a8 b0 b9,bB i8 j0 j1 h7,bB j2 j3 j4 h8,fC j5 j6 j7 h9,fm j8 j9 k0 i0,ax cj ft k2 i1,ae B1 223 [W i8 j0 j1,W j2 j3 j4,W j5 j6 j7,W j8 j9 k0,.map (some k2),iV i2]]) N ?_;intro l6
   refine fun s L=>ai fun h6=>ai fun h7=>ai fun h8=>ai fun h9=>ai fun i0=>ai fun i1=>ai fun i2=>ai fun i8=>ai fun j0=>ai fun j1=>ai fun j2=>ai fun j3=>ai fun j4=>ai fun j5=>ai fun j6=>ai fun j7=>ai fun j8=>ai fun j9=>ai fun k0=>ai fun k2=>xi fun h=> ?_
   rw [fX.eq_2] at h;refine ab ?_;refine au ?_;refine gH J h ?_ ?_<;>intro h
   ·refine sY ?_;obtain ⟨l7,l3,l4,l5,h⟩:=aI h;refine ab ?_;obtain ⟨l8,k,h⟩:=aa h;refine gD (oC (jL k)) ?_;rintro _ _ ⟨_,⟨l9,m0,m1,m2,m3,m4,m5,m6,m8,m9,o0,o1,o2,rfl,rfl⟩,rfl⟩;refine ab ?_;obtain ⟨o3,h⟩:=ac h;exact lY
   exact jY
  refine fun s L=>ai fun e8=>ai fun e9=>ai fun f1=>ai fun f2=>ai fun f3=>ai fun p21=>ai fun f4=>ai fun f9=>ai fun g0=>ai fun g1=>ai fun g2=>ai fun g3=>ai fun g4=>ai fun g5=>ai fun g6=>ai fun g7=>ai fun g8=>ai fun g9=>ai fun h0=>xi fun h=> ?_
  refine ab ?_;obtain ⟨o4,h⟩:=ac h;exact lY
 exact eY
def nh (N:Nat)(a0:Vl)(p8:Vx):Option Vx:=
 aD (bY (p8.length+a0.XN.length)) (some (p8++a0.XN))
def eo (N:Nat)(a0:Vl):Nat->Vx->Int->Option Vx
 |0,_,_=>none
 |m9+1,a8,a6=>bif decide (a6<(a0.m_.Xz.length:Int)) then (aD (in64 (2*a6)) (aD (in64 ((2*a6)+2)) (aD (bY (a8.length+([(2*a6)+2]:List Int).length)) (aD (in64 (a6+1)) ((eo N a0 m9) (a8++([(2*a6)+2]:List Int)) (a6+1)))))) else (nh N a0 a8)
def fi (a0:Vl):Option Vx:=
 eo N a0 N [] 0
theorem rz {N:Nat}{a0:Vl}{r:Vx}(h:fi N a0=some r):Okc VK 157 [pV B1 0] ([aC B1 223 [W A2 n2 c2,W A3 n3 c3,W A4 n4 c4,W A5 n5 c5,.map (some M6),iV a0.XV],bB A2 n2 c2 a0.m_.XA,bB A3 n3 c3 a0.m_.Xz,fC A4 n4 c4 a0.Yc,fC A5 n5 c5 a0.XN,mY cj ft M6 a0.Yb]) (fun u post=> ∃A0 n0 c0,u=W A0 n0 c0/\post=[fm A0 n0 c0 r]):=by
 refine bX Tryz.func157 ?_;refine ak (fun s L=> ∃p8 A8 n8 c8,nh N a0 p8=some r/\s=[(0,pV B1 0),(2,W none 0 0),(3,W A8 n8 c8)]/\L=[fm A8 n8 c8 p8,bB A2 n2 c2 a0.m_.XA,bB A3 n3 c3 a0.m_.Xz,fC A4 n4 c4 a0.Yc,fC A5 n5 c5 a0.XN,mY cj ft M6 a0.Yb,aC B1 223 [W A2 n2 c2,W A3 n3 c3,W A4 n4 c4,W A5 n5 c5,.map (some M6),iV a0.XV]]) ?_ ?_
 ·refine ab ?_;refine gZ (fun m s L=> ∃a8 a6 b0 b5 b6,eo N a0 m a8 a6=some r/\s=[(0,pV B1 0),(2,W none 0 0),(3,W b0 b5 b6),(10,iV (a0.m_.Xz.length:Int)),(11,iV a6)]/\L=[fm b0 b5 b6 a8,bB A2 n2 c2 a0.m_.XA,bB A3 n3 c3 a0.m_.Xz,fC A4 n4 c4 a0.Yc,fC A5 n5 c5 a0.XN,mY cj ft M6 a0.Yb,aC B1 223 [W A2 n2 c2,W A3 n3 c3,W A4 n4 c4,W A5 n5 c5,.map (some M6),iV a0.XV]]) N _ _ ⟨[],0,none,0,0,h,J,J⟩ sA ((bq (jI .i64) 3 _).trans (cS [0,2,3,4,5,6,1] 7)) ?_;rintro (_|m9) _ _ ⟨a8,a6,b0,b5,b6,h,rfl,rfl⟩
  ·exact az h
  rw [eo.eq_2] at h;refine ab ?_;refine au ?_;refine gH J h ?_ ?_<;>intro h
  ·refine sY ?_;obtain ⟨b7,h⟩:=ac h;refine gE (nr J J b7.1 b7.2) ?_;obtain ⟨d0,h⟩:=ac h;refine ab ?_;refine gD (aL (R:=(jI .i64)) (vss:=[[iV ((2*a6)+2)]]) (xs:=[(2*a6)+2]) J (nv _) J J (fun _ _ hr=> .cons J All2.nil)) ?_;rintro _ _ ⟨d1,d2,d3,rfl,rfl⟩;obtain ⟨b9,h⟩:=ac h
   refine rP (aP 1 0 J J aj J J UV It J J b9) fun d4 d6 e0=> ?_
   obtain ⟨e1,h⟩:=ac h;exact lY
  exact jY
 rintro _ _ ⟨p8,A8,n8,c8,h,rfl,rfl⟩;refine ab ?_;obtain ⟨c9,h⟩:=ac h
 refine rP (aP 0 4 J J bU J J UV It J J c9) fun e2 e3 e4=> ?_
 exact eN
def nz (N:Nat)(p3:Vx):Option Vx:=
 some p3
def rR (a1:Int):Option Vx:=
 bif decide (a1<0) then none else (aD (in64 (0 - 0)) (aD (in64 (a1 - (0 - 0))) (bif decide (0<a1 - (0 - 0)) then (aD ((0:Int)<(a1 - (0 - 0))/\(a1 - (0 - 0))<=1099511627776) (nz N ([]:List Int))) else (nz N []))))
theorem Cs {N:Nat}{r:Vx}(h:rR N a1=some r):Okc VK 169 [W none 0 0,iV a1] ([]) (fun u post=> ∃A0 n0 c0,u=W A0 n0 c0/\post=[fm A0 n0 c0 r]):=by
 refine bX Tryz.func169 ?_;refine sZ ?_;refine gH J h ?_ ?_<;>intro h
 ·exact az h
 refine ab ?_;refine ak (fun s L=> ∃p3 A3 n3 c3,nz N p3=some r/\s=[(0,W A3 n3 c3),(4,W none 0 0)]/\L=[fm A3 n3 c3 p3]) ?_ ?_
 ·refine ab ?_;refine dK (zh J UV) ?_;refine gE (pT J UV) ?_;obtain ⟨q4,h⟩:=ac h;refine ab ?_;obtain ⟨q5,h⟩:=ac h;refine dU h ?_ ?_<;>intro h
  ·refine ab ?_;refine gE (zh J UV) ?_;refine dK (CZ J UV size3.out J) ?_;obtain ⟨q7,h⟩:=ac h
   refine rP (Al J J UV z9 It J q7.1 q7.2) fun A8 n8 c8=> ?_
   refine gE (pT J UV) ?_
   refine rP (HF (R:=(jI .i64)) 0 J J UV size3.out J J) fun A9 n9 c9=> ?_
   exact jN
  refine ab ?_;exact ⟨_,_,⟨[],none,0,0,h,J,J⟩,sA,(bq (jI .i64) 3 _).trans (cS [0] 1)⟩
 rintro _ _ ⟨p3,A3,n3,c3,h,rfl,rfl⟩;exact eY
def pv (N:Nat)(a6:Vx):Option Vx:=
 some a6
def qp (a0_0 a0_1:Vx):Option Vx:=
 (rR N ((0+(a0_0.length:Int))+(a0_1.length:Int))).bind fun y9=>aD (bY (y9.length+a0_0.length)) (aD (bY ((y9++a0_0).length+a0_1.length)) (pv N ((y9++a0_0)++a0_1)))
def ox (a0_0 a0_1:Vx):Option Vx:=
 aD (in64 (0+(a0_0.length:Int))) (bif decide (0+(a0_0.length:Int)<0) then none else (aD (in64 ((0+(a0_0.length:Int))+(a0_1.length:Int))) (bif decide ((0+(a0_0.length:Int))+(a0_1.length:Int)<0) then none else (qp N a0_0 a0_1))))
theorem Cu {N:Nat}{a0_0 a0_1 r:Vx}(h:ox N a0_0 a0_1=some r):Okc VK 118 [.slice (some ⟨B1,0,none⟩) 2 2] ([aC B1 99 [W A2 n2 c2,W A3 n3 c3],fC A2 n2 c2 a0_0,fC A3 n3 c3 a0_1]) (fun u post=> ∃A0 n0 c0,u=W A0 n0 c0/\post=[fm A0 n0 c0 r]):=by
 refine bX Tryz.func118 ?_;refine ak (fun s L=>qp N a0_0 a0_1=some r/\s=[(0,.slice (some ⟨B1,0,none⟩) 2 2),(2,W none 0 0),(3,iV ((0+(a0_0.length:Int))+(a0_1.length:Int)))]/\L=[fC A2 n2 c2 a0_0,fC A3 n3 c3 a0_1,aC B1 99 [W A2 n2 c2,W A3 n3 c3]]) ?_ ?_
 ·refine ab ?_;refine dK (pT J U7) ?_;refine uw 3 ?_;refine vm ?_;refine ab ?_;refine au ?_;refine cz J ?_;refine sY ?_;refine dK (oY J J U7 size99.out (by decide) (by decide)) ?_;obtain ⟨q5,h⟩:=ac h;refine dU h ?_ ?_<;>intro h
  ·exact az h
  refine ab ?_;refine dK (fU J J (by decide) (by decide)) ?_;refine vm ?_;refine ab ?_;refine au ?_;refine cz J ?_;refine sY ?_;refine dK (oY J J U7 size99.out (by decide) (by decide)) ?_;obtain ⟨q7,h⟩:=ac h;refine dU h ?_ ?_<;>intro h
  ·exact az h
  refine ab ?_;refine dK (fU J J (by decide) (by decide)) ?_;refine vm ?_;refine ab ?_;refine au ?_;refine cP J ?_;exact jY
 rintro _ _ ⟨h,rfl,rfl⟩
 refine JS h (fun _ k=>Cs k) fun y9 b9 c8 c9 h=> ?_
 refine ak (fun s L=> ∃a6 a8 b0 b5,pv N a6=some r/\s=[(2,W none 0 0),(6,W a8 b0 b5)]/\L=[fm a8 b0 b5 a6]) ?_ ?_
 ·refine ab ?_;refine dK (pT J U7) ?_;refine uw 3 ?_;refine vm ?_;refine ab ?_;refine au ?_;refine cz J ?_;refine sY ?_;refine dK (oY J J U7 size99.out (by decide) (by decide)) ?_;obtain ⟨b6,h⟩:=ac h
  refine rP (aP 0 1 J J bU J J UV It J J b6) fun d0 d1 d2=> ?_
  refine dK (fU J J (by decide) (by decide)) ?_;refine vm ?_;refine ab ?_;refine au ?_;refine cz J ?_;refine sY ?_;refine dK (oY J J U7 size99.out (by decide) (by decide)) ?_;obtain ⟨b7,h⟩:=ac h
  refine rP (aP 0 2 J J bU J J UV It J J b7) fun d3 d4 d6=> ?_
  refine dK (fU J J (by decide) (by decide)) ?_;refine vm ?_;refine ab ?_;refine au ?_;refine cP J ?_;exact jY
 rintro _ _ ⟨a6,a8,b0,b5,h,rfl,rfl⟩;exact eY
def ng (N:Nat)(a0:Vl)(a6 a8:VF)(b0 p13:Vx)(b5:VG)(b6:Int):Option (Bool×Vl):=
 some (decide ((a0.XN.length:Int)<(p13.length:Int)),(⟨(⟨a6,a8⟩:Ve),b0,p13,b5,b6⟩:Vl))
def jc (N:Nat)(a6:Int->VF->VF->Vx->Vx->VG->Int->Option (Bool×Vl))(a0:Vl)(c8:Vx)(a8:Int)(y7:Vx)(b0 b5:VF)(b6 b7:Vx)(b9:VG)(c0:Int):Option (Bool×Vl):=
 aD (in64 (a8+1)) (a6 (a8+1) b0 b5 b6 b7 b9 c0)
def jb (N:Nat)(a8:Int->VF->VF->Vx->Vx->VG->Int->Option (Bool×Vl))(a0:Vl)(b6:Vx)(b7:Int)(b5 y7:Vx):Nat->Int->VF->VF->Vx->Vx->VG->Int->Option (Bool×Vl)
 |0,_,_,_,_,_,_,_=>none
 |d2+1,b0,b9,c0,c8,c9,d0,d1=>bif decide (b0<(b5.length:Int)) then ((ao b5 b0).bind fun d3=>(bV N (⟨(⟨b9,c0⟩:Ve),c8,c9,d0,d1⟩:Vl) d3).bind fun a6=>aD (in64 (b0+1)) ((jb N a8 a0 b6 b7 b5 y7 d2) (b0+1) a6.m_.XA a6.m_.Xz a6.Yc a6.XN a6.Yb a6.XV)) else (jc N a8 a0 b6 b7 y7 b9 c0 c8 c9 d0 d1)
def bE (N:Nat)(a0:Vl)(a6 y7:Vx):Nat->Int->VF->VF->Vx->Vx->VG->Int->Option (Bool×Vl)
 |0,_,_,_,_,_,_,_=>none
 |c8+1,a8,b0,b5,b6,b7,b9,c0=>bif decide (a8<(a6.length:Int)) then ((ao a6 a8).bind fun c9=>(bv N (⟨(⟨b0,b5⟩:Ve),b6,b7,b9,c0⟩:Vl) c9).bind fun d0=>(po N d0 y7).bind fun d1=>jb N (bE N a0 a6 y7 c8) a0 a6 a8 d1 y7 N 0 b0 b5 b6 b7 b9 c0) else (ng N a0 b0 b5 b6 b7 b9 c0)
def ip (a0:Vl):Option (Bool×Vl):=
 (fi N a0).bind fun y7=>(ox N a0.Yc a0.XN).bind fun a6=>bE N a0 a6 y7 N 0 a0.m_.XA a0.m_.Xz a0.Yc a0.XN a0.Yb a0.XV
theorem xZ {N:Nat}{a0:Vl}{r:Bool×Vl}(h:ip N a0=some r):Okc VK 207 [pV B1 0] ([bB A2 n2 c2 a0.m_.XA,bB A3 n3 c3 a0.m_.Xz,fC A4 n4 c4 a0.Yc,ae B1 223 [W A2 n2 c2,W A3 n3 c3,W A4 n4 c4,W A5 n5 c5,.map (some M6),iV a0.XV],fm A5 n5 c5 a0.XN,ax cj ft M6 a0.Yb]) (fun u post=> ∃A0 n0 c0 A1 n1 c1 A2 n2 c2 A3 n3 c3 M4,u=.bool r.1/\post=[ae B1 223 [W A0 n0 c0,W A1 n1 c1,W A2 n2 c2,W A3 n3 c3,.map (some M4),iV r.2.XV],bB A0 n0 c0 r.2.m_.XA,bB A1 n1 c1 r.2.m_.Xz,fC A2 n2 c2 r.2.Yc,fm A3 n3 c3 r.2.XN,ax cj ft M4 r.2.Yb]):=by
 refine bX Tryz.func207 ?_
 refine JS h (fun _ k=>rz k) fun y7 A8 n8 c8 h=> ?_
 refine ak (fun s L=> ∃b9 c9 d0 p13 d1 d2 d3 d4 d6 e0 e1 e2 e3 e4 e5 e6 e7 e8 e9,ng N a0 b9 c9 d0 p13 d1 d2=some r/\s=[(0,pV B1 0),(2,.bool false),(3,iV (a0.XN.length:Int))]/\L=[bB d3 d4 d6 b9,bB e0 e1 e2 c9,fC e3 e4 e5 d0,fm e6 e7 e8 p13,ax cj ft e9 d1,ae B1 223 [W d3 d4 d6,W e0 e1 e2,W e3 e4 e5,W e6 e7 e8,.map (some e9),iV d2]]) ?_ ?_
 ·refine au ?_;obtain ⟨a6,f1,h⟩:=aa h;refine gK (t:=[(0,pV B1 0),(2,.bool false),(3,iV (a0.XN.length:Int)),(4,W A8 n8 c8)]) ?_ lg (ah _)
  refine gX I 12 [] [9,10,11] [16,17,18,19,20,21,22,23,24,25,26,27] [[],[0],[1],[2],[],[4],[5],[6],[3,7],[8],[9],[]] [aV (pV B1 0),
 aV (pV B1 0),
 aV (pV B1 2),
 aV (W A4 n4 c4),
 aV (pV B1 0),
 aV (pV B1 0),
 aV (pV B1 3),
 aV (W A5 n5 c5),
 aX1 (fun (b7:Nat)=> .slice (some ⟨b7,0,none⟩) 2 2) (fun b7=> [ae b7 99 [W A4 n4 c4,W A5 n5 c5]]),
 aX3 (fun (a8:Option Addr) (b0 b5:Nat)=> W a8 b0 b5) (fun a8 b0 b5=> [fm a8 b0 b5 a6]),
 aV (iV (a6.length:Int)),
 aV (iV 0)] [] (ah _) (kQ) I rfl rfl ?_ ?_ ?_
  ·exact kP
  ·refine qE (ap J) ?_;refine aH J ?_ ?_
   ·intro a8 b0 b5;exact vU (rX 0 J aj J UV) J (ko J (ah _))
   refine aH J ?_ ?_
   ·intro b7;refine xh (oR (Cu f1)) J ?_;rintro _ _ ⟨_,⟨m6,m7,m8,rfl,rfl⟩,rfl⟩;exact Ia m6 m7 m8 (ah _)
   refine aH J ?_ ?_
   ·refine xh (iW (cs:=[W A4 n4 c4,W A5 n5 c5]) J (Ng _ _ _ _ _ _)) J ?_;rintro _ _ ⟨m9,rfl,rfl⟩;exact R5 m9 (ah _)
   refine qR (bO 4 J J EX J) ?_;refine qE (jS J BR) ?_;refine qE (bF J) ?_;refine qE (ap J) ?_;refine qR (bO 4 J J EX J) ?_;refine qE (jS J Jo) ?_;refine qE (bF J) ?_;refine qE (ap J) ?_;exact dl
  intro a8 b0 b5;refine nw (t:=[(25,W a8 b0 b5),(26,iV (a6.length:Int)),(27,iV 0),(0,pV B1 0),(2,.bool false),(3,iV (a0.XN.length:Int)),(4,W A8 n8 c8)]) (L':=[fm a8 b0 b5 a6,fm A8 n8 c8 y7,bB A2 n2 c2 a0.m_.XA,bB A3 n3 c3 a0.m_.Xz,fC A4 n4 c4 a0.Yc,ae B1 223 [W A2 n2 c2,W A3 n3 c3,W A4 n4 c4,W A5 n5 c5,.map (some M6),iV a0.XV],fm A5 n5 c5 a0.XN,ax cj ft M6 a0.Yb]) ?_ lg (ah _);refine lc I ?_;refine ab ?_;refine lK (fun m s L=> ∃(b6:Int) (f2:VF) (f3:VF) (f4:Vx) (f9:Vx) (g0:VG) (g1:Int) (g2:Option Addr) (g3 g4:Nat) (g5:Option Addr) (g6 g7:Nat) (g8:Option Addr) (g9 h0:Nat) (h1:Option Addr) (h2 h3:Nat) (h4:Nat),bE N a0 a6 y7 m b6 f2 f3 f4 f9 g0 g1=some r/\s=[(0,pV B1 0),(2,.bool false),(3,iV (a0.XN.length:Int)),(4,W A8 n8 c8),(25,W a8 b0 b5),(26,iV (a6.length:Int)),(27,iV b6)]/\L=[fm A8 n8 c8 y7,fm a8 b0 b5 a6,bB g2 g3 g4 f2,bB g5 g6 g7 f3,fC g8 g9 h0 f4,fm h1 h2 h3 f9,ax cj ft h4 g0,ae B1 223 [W g2 g3 g4,W g5 g6 g7,W g8 g9 h0,W h1 h2 h3,.map (some h4),iV g1]]) N ?_;intro m2
  refine fun s L=>ai fun b6=>ai fun f2=>ai fun f3=>ai fun f4=>ai fun f9=>ai fun g0=>ai fun g1=>ai fun g2=>ai fun g3=>ai fun g4=>ai fun g5=>ai fun g6=>ai fun g7=>ai fun g8=>ai fun g9=>ai fun h0=>ai fun h1=>ai fun h2=>ai fun h3=>ai fun h4=>xi fun h=> ?_
  rw [bE.eq_2] at h;refine ab ?_;refine au ?_;refine gH J h ?_ ?_<;>intro h
  ·refine ab ?_;refine ak (fun s L=> ∃h5 h6 h7 h8 h9 i0 i1 i2 i8 j0 j1 j2 j3 j4 j5 j6 j7 j8 j9,jc N (bE N a0 a6 y7 m2) a0 a6 b6 y7 h5 h6 h7 h8 h9 i0=some r/\s=[(0,pV B1 0),(2,.bool false),(3,iV (a0.XN.length:Int)),(4,W A8 n8 c8),(25,W a8 b0 b5),(26,iV (a6.length:Int)),(27,iV b6)]/\L=[fm A8 n8 c8 y7,fm a8 b0 b5 a6,bB i1 i2 i8 h5,bB j0 j1 j2 h6,fC j3 j4 j5 h7,fm j6 j7 j8 h8,ax cj ft j9 h9,ae B1 223 [W i1 i2 i8,W j0 j1 j2,W j3 j4 j5,W j6 j7 j8,.map (some j9),iV i0]]) ?_ ?_
   ·refine ab ?_;obtain ⟨o5,n9,o0,o1,h⟩:=aI h
    refine R7 h (fun _ k=>gu k) fun p0 p1 p2 p3 p4 p5 p6 h=> ?_
    refine JS h (fun _ k=>zx k) fun k0 m3 m4 m5 h=> ?_
    refine lK (fun m s L=> ∃(k2:Int) (k3:VF) (k4:VF) (k5:Vx) (k6:Vx) (k7:VG) (k8:Int) (k9:Option Addr) (l0 l1:Nat) (l2:Option Addr) (l3 l4:Nat) (l5:Option Addr) (l6 l7:Nat) (l8:Option Addr) (l9 m0:Nat) (m1:Nat),jb N (bE N a0 a6 y7 m2) a0 a6 b6 k0 y7 m k2 k3 k4 k5 k6 k7 k8=some r/\s=[(0,pV B1 0),(2,.bool false),(3,iV (a0.XN.length:Int)),(4,W A8 n8 c8),(25,W a8 b0 b5),(26,iV (a6.length:Int)),(27,iV b6),(35,W m3 m4 m5),(36,iV (k0.length:Int)),(37,iV k2)]/\L=[fm A8 n8 c8 y7,fm a8 b0 b5 a6,fm m3 m4 m5 k0,bB k9 l0 l1 k3,bB l2 l3 l4 k4,fC l5 l6 l7 k5,fm l8 l9 m0 k6,ax cj ft m1 k7,ae B1 223 [W k9 l0 l1,W l2 l3 l4,W l5 l6 l7,W l8 l9 m0,.map (some m1),iV k8]]) N ?_;intro p7
    refine fun s L=>ai fun k2=>ai fun k3=>ai fun k4=>ai fun k5=>ai fun k6=>ai fun k7=>ai fun k8=>ai fun k9=>ai fun l0=>ai fun l1=>ai fun l2=>ai fun l3=>ai fun l4=>ai fun l5=>ai fun l6=>ai fun l7=>ai fun l8=>ai fun l9=>ai fun m0=>ai fun m1=>xi fun h=> ?_
    rw [jb.eq_2] at h;refine ab ?_;refine au ?_;refine gH J h ?_ ?_<;>intro h
    ·refine sY ?_;obtain ⟨p8,o2,o3,o4,h⟩:=aI h;refine ab ?_;obtain ⟨q0,k,h⟩:=aa h;refine gD (oC (jL k)) ?_;rintro _ _ ⟨_,⟨q1,q2,q3,q4,q5,q6,q7,q8,q9,r0,r1,r2,r3,rfl,rfl⟩,rfl⟩;refine ab ?_;obtain ⟨r4,h⟩:=ac h;exact lY
    exact jY
   refine fun s L=>ai fun h5=>ai fun h6=>ai fun h7=>ai fun h8=>ai fun h9=>ai fun i0=>ai fun i1=>ai fun i2=>ai fun i8=>ai fun j0=>ai fun j1=>ai fun j2=>ai fun j3=>ai fun j4=>ai fun j5=>ai fun j6=>ai fun j7=>ai fun j8=>ai fun j9=>xi fun h=> ?_
   refine ab ?_;obtain ⟨r5,h⟩:=ac h;exact lY
  exact jY
 refine fun s L=>ai fun b9=>ai fun c9=>ai fun d0=>ai fun p13=>ai fun d1=>ai fun d2=>ai fun d3=>ai fun d4=>ai fun d6=>ai fun e0=>ai fun e1=>ai fun e2=>ai fun e3=>ai fun e4=>ai fun e5=>ai fun e6=>ai fun e7=>ai fun e8=>ai fun e9=>xi fun h=> ?_
 exact eY
def vb (N:Nat)(b6 b7:VF)(a6 a8:Vx)(b0:VG)(b5:Int):Option Vl:=
 some (⟨(⟨b6,b7⟩:Ve),a6,a8,b0,b5⟩:Vl)
def kT (N:Nat):Nat->VF->VF->Vx->Vx->VG->Int->Option Vl
 |0,_,_,_,_,_,_=>none
 |b0+1,b5,b6,b7,b9,c0,c8=>(ip N (⟨(⟨b5,b6⟩:Ve),b7,b9,c0,c8⟩:Vl)).bind fun a6=>bif a6.1 then ((eS N a6.2).bind fun a8=>(kT N b0) a8.m_.XA a8.m_.Xz a8.Yc a8.XN a8.Yb a8.XV) else (vb N a6.2.m_.XA a6.2.m_.Xz a6.2.Yc a6.2.XN a6.2.Yb a6.2.XV)
def vc (a8 b0:VF)(b5 b6:Vx)(b7:VG)(b9:Int):Option Vl:=
 (eS N (⟨(⟨a8,b0⟩:Ve),b5,b6,b7,b9⟩:Vl)).bind fun a6=>kT N N a6.m_.XA a6.m_.Xz a6.Yc a6.XN a6.Yb a6.XV
def qU (N:Nat)(a6:Int->VF->VF->Vx->Vx->VG->Int->Option Vl)(a2:Vx)(a8:Int)(b0 b5:VF)(b6 b7:Vx)(b9:VG)(c0:Int):Option Vl:=
 aD (in64 (a8+1)) (a6 (a8+1) b0 b5 b6 b7 b9 c0)
def qT (N:Nat)(a8:Int->VF->VF->Vx->Vx->VG->Int->Option Vl)(a2:Vx)(b6:Int)(b5:Vx):Nat->Int->VF->VF->Vx->Vx->VG->Int->Option Vl
 |0,_,_,_,_,_,_,_=>none
 |d1+1,b0,b7,b9,c0,c8,c9,d0=>bif decide (b0<(b5.length:Int)) then ((ao b5 b0).bind fun d2=>(bV N (⟨(⟨b7,b9⟩:Ve),c0,c8,c9,d0⟩:Vl) d2).bind fun a6=>aD (in64 (b0+1)) ((qT N a8 a2 b6 b5 d1) (b0+1) a6.m_.XA a6.m_.Xz a6.Yc a6.XN a6.Yb a6.XV)) else (qU N a8 a2 b6 b7 b9 c0 c8 c9 d0)
def d5 (N:Nat)(a2:Vx):Nat->Int->VF->VF->Vx->Vx->VG->Int->Option Vl
 |0,_,_,_,_,_,_,_=>none
 |c0+1,a6,a8,b0,b5,b6,b7,b9=>bif decide (a6<(a2.length:Int)) then ((ao a2 a6).bind fun c8=>(bv N (⟨(⟨a8,b0⟩:Ve),b5,b6,b7,b9⟩:Vl) c8).bind fun c9=>(iz N c9).bind fun d0=>qT N (d5 N a2 c0) a2 a6 d0 N 0 a8 b0 b5 b6 b7 b9) else (vc N a8 b0 b5 b6 b7 b9)
def wo (a2:Vx)(p9 a6:VF)(a8 b0:Vx)(p13:VG)(b5:Int):Option Vl:=
 d5 N a2 N 0 p9 a6 a8 b0 p13 b5
def qV (N:Nat)(a6:Int->VF->VF->Vx->Vx->VG->Int->Option Vl)(a1:Vw)(a8:Int)(a2:Vx)(b0 b5:VF)(b6 b7:Vx)(b9:VG)(c0:Int):Option Vl:=
 aD (in64 (a8+1)) (a6 (a8+1) b0 b5 b6 b7 b9 c0)
def iE (N:Nat)(a1:Vw)(a2:Vx):Nat->Int->VF->VF->Vx->Vx->VG->Int->Option Vl
 |0,_,_,_,_,_,_,_=>none
 |c0+1,a8,b0,b5,b6,b7,p21,b9=>bif decide (a8<(a1.length:Int)) then ((ao a1 a8).bind fun c9=>(lR N c9).bind fun c8=>bif c8.2 then ((bV N (⟨(⟨b0,b5⟩:Ve),b6,b7,p21,b9⟩:Vl) c8.1).bind fun a6=>qV N (iE N a1 a2 c0) a1 a8 a2 a6.m_.XA a6.m_.Xz a6.Yc a6.XN a6.Yb a6.XV) else (qV N (iE N a1 a2 c0) a1 a8 a2 b0 b5 b6 b7 p21 b9)) else (wo N a2 b0 b5 b6 b7 p21 b9)
def pi (a0:Ve)(a1:Vw)(a2:Vx):Option Vl:=
 iE N a1 a2 N 0 a0.XA a0.Xz a2 [] ([]:VG) 0
theorem HN {N:Nat}{a0:Ve}{a1:Vw}{r:Vl}(h:pi N a0 a1 a2=some r):Okc VK 155 [.agg #[W A1 n1 c1,W A2 n2 c2],W A3 n3 c3,W A4 n4 c4] ([bB A1 n1 c1 a0.XA,bB A2 n2 c2 a0.Xz,aZ A3 n3 c3 a1,fC A4 n4 c4 a2]) (fun u post=> ∃B0 A1 n1 c1 A2 n2 c2 A3 n3 c3 A4 n4 c4 M5,u=pV B0 0/\post=[ae B0 223 [W A1 n1 c1,W A2 n2 c2,W A3 n3 c3,W A4 n4 c4,.map (some M5),iV r.XV],bB A1 n1 c1 r.m_.XA,bB A2 n2 c2 r.m_.Xz,fC A3 n3 c3 r.Yc,fm A4 n4 c4 r.XN,ax cj ft M5 r.Yb]):=by
 refine bX Tryz.func155 ?_;intro B5;refine ab ?_;refine gD (tL (ek:=cj) (ev:=ft)) ?_;rintro _ _ ⟨M6,rfl,rfl⟩
 refine dD fun B7=> ?_
 refine ak (fun s L=> ∃p9 g3 g4 g5 p13 g6 A9 n9 c9 g7 g8 g9 h0 h1 h2 h3 h4 h5 h6,wo N a2 p9 g3 g4 g5 p13 g6=some r/\s=[(2,W A4 n4 c4),(6,.pointer none),(7,pV B7 0)]/\L=[fC A4 n4 c4 a2,bB A9 n9 c9 p9,bB g7 g8 g9 g3,fC h0 h1 h2 g4,fm h3 h4 h5 g5,ax cj ft h6 p13,ae B7 223 [W A9 n9 c9,W g7 g8 g9,W h0 h1 h2,W h3 h4 h5,.map (some h6),iV g6]]) ?_ ?_
 ·refine ab ?_;refine gZ (fun m s L=> ∃g2 k3 k4 k5 k6 p21 k7 k8 k9 l0 l1 l2 l3 l4 l5 l6 l7 l8 l9 m0,iE N a1 a2 m g2 k3 k4 k5 k6 p21 k7=some r/\s=[(2,W A4 n4 c4),(6,.pointer none),(7,pV B7 0),(21,W A3 n3 c3),(22,iV (a1.length:Int)),(23,iV g2)]/\L=[fC A4 n4 c4 a2,aZ A3 n3 c3 a1,bB k8 k9 l0 k3,bB l1 l2 l3 k4,fC l4 l5 l6 k5,fm l7 l8 l9 k6,ax cj ft m0 p21,ae B7 223 [W k8 k9 l0,W l1 l2 l3,W l4 l5 l6,W l7 l8 l9,.map (some m0),iV k7]]) N _ _ ⟨0,a0.XA,a0.Xz,a2,[],([]:VG),0,A1,n1,c1,A2,n2,c2,A4,n4,c4,none,0,0,M6,h,J,J⟩ sA ((Ib 6 J J).trans ((bq (jI .i64) 3 _).trans (cS [8,7,5,6,1,0,3,2] 9))) ?_;rintro (_|y0)
  all_goals (refine fun s L=>ai fun g2=>ai fun k3=>ai fun k4=>ai fun k5=>ai fun k6=>ai fun p21=>ai fun k7=>ai fun k8=>ai fun k9=>ai fun l0=>ai fun l1=>ai fun l2=>ai fun l3=>ai fun l4=>ai fun l5=>ai fun l6=>ai fun l7=>ai fun l8=>ai fun l9=>ai fun m0=>xi fun h=> ?_)
  ·exact az h
  rw [iE.eq_2] at h;refine ab ?_;refine au ?_;refine gH J h ?_ ?_<;>intro h
  ·refine ab ?_;refine ak (fun s L=> ∃m1 m2 m3 m4 m5 m6 m7 m8 m9 n0 n8 o0 o1 o2 o3 o4 o5 p0 p1,qV N (iE N a1 a2 y0) a1 g2 a2 m1 m2 m3 m4 m5 m6=some r/\s=[(2,W A4 n4 c4),(6,.pointer none),(7,pV B7 0),(21,W A3 n3 c3),(22,iV (a1.length:Int)),(23,iV g2)]/\L=[fC A4 n4 c4 a2,aZ A3 n3 c3 a1,bB m7 m8 m9 m1,bB n0 n8 o0 m2,fC o1 o2 o3 m3,fm o4 o5 p0 m4,ax cj ft p1 m5,ae B7 223 [W m7 m8 m9,W n0 n8 o0,W o1 o2 o3,W o4 o5 p0,.map (some p1),iV m6]]) ?_ ?_
   ·refine ab ?_;obtain ⟨V0,y1,y2,y3,h⟩:=aI h
    refine dD fun V1=> ?_
    obtain ⟨V2,k,h⟩:=aa h;refine BJ (oR (vM k)) ?_;refine gH J h ?_ ?_<;>intro h
    ·refine ab ?_;obtain ⟨V3,k,h⟩:=aa h;refine gD (oC (jL k)) ?_;rintro _ _ ⟨_,⟨V4,V5,V6,V7,V8,V9,W1,X0,X1,X2,X3,X4,X5,rfl,rfl⟩,rfl⟩;exact jY
    exact jY
   refine fun s L=>ai fun m1=>ai fun m2=>ai fun m3=>ai fun m4=>ai fun m5=>ai fun m6=>ai fun m7=>ai fun m8=>ai fun m9=>ai fun n0=>ai fun n8=>ai fun o0=>ai fun o1=>ai fun o2=>ai fun o3=>ai fun o4=>ai fun o5=>ai fun p0=>ai fun p1=>xi fun h=> ?_
   refine ab ?_;obtain ⟨X6,h⟩:=ac h;exact lY
  exact jY
 refine fun s L=>ai fun p9=>ai fun g3=>ai fun g4=>ai fun g5=>ai fun p13=>ai fun g6=>ai fun A9=>ai fun n9=>ai fun c9=>ai fun g7=>ai fun g8=>ai fun g9=>ai fun h0=>ai fun h1=>ai fun h2=>ai fun h3=>ai fun h4=>ai fun h5=>ai fun h6=>xi fun h=> ?_
 refine ak (fun s L=> ∃p2 p3 p4 p5 p6 p7 p8 q0 q1 q2 q3 q4 q5 q6 q7 q8 q9 r0 r1,vc N p2 p3 p4 p5 p6 p7=some r/\s=[(6,.pointer none),(7,pV B7 0)]/\L=[bB p8 q0 q1 p2,bB q2 q3 q4 p3,fC q5 q6 q7 p4,fm q8 q9 r0 p5,ax cj ft r1 p6,ae B7 223 [W p8 q0 q1,W q2 q3 q4,W q5 q6 q7,W q8 q9 r0,.map (some r1),iV p7]]) ?_ ?_
 ·refine ab ?_;refine gZ (fun m s L=> ∃a6 h7 h8 h9 i0 i1 i2 i8 j0 j1 j2 j3 j4 j5 j6 j7 j8 j9 k0 k2,d5 N a2 m a6 h7 h8 h9 i0 i1 i2=some r/\s=[(6,.pointer none),(7,pV B7 0),(37,W A4 n4 c4),(38,iV (a2.length:Int)),(39,iV a6)]/\L=[fC A4 n4 c4 a2,bB i8 j0 j1 h7,bB j2 j3 j4 h8,fC j5 j6 j7 h9,fm j8 j9 k0 i0,ax cj ft k2 i1,ae B7 223 [W i8 j0 j1,W j2 j3 j4,W j5 j6 j7,W j8 j9 k0,.map (some k2),iV i2]]) N _ _ ⟨0,p9,g3,g4,g5,p13,g6,A9,n9,c9,g7,g8,g9,h0,h1,h2,h3,h4,h5,h6,h,J,J⟩ sA (cS [0,1,2,3,4,5,6] 7) ?_;rintro (_|x6)
  all_goals (refine fun s L=>ai fun a6=>ai fun h7=>ai fun h8=>ai fun h9=>ai fun i0=>ai fun i1=>ai fun i2=>ai fun i8=>ai fun j0=>ai fun j1=>ai fun j2=>ai fun j3=>ai fun j4=>ai fun j5=>ai fun j6=>ai fun j7=>ai fun j8=>ai fun j9=>ai fun k0=>ai fun k2=>xi fun h=> ?_)
  ·exact az h
  rw [d5.eq_2] at h;refine ab ?_;refine au ?_;refine gH J h ?_ ?_<;>intro h
  ·refine ab ?_;refine ak (fun s L=> ∃r2 r3 r4 r5 r6 s0 s1 s2 s3 s4 s5 s6 s7 s8 s9 t1 t2 t6 u0,qU N (d5 N a2 x6) a2 a6 r2 r3 r4 r5 r6 s0=some r/\s=[(6,.pointer none),(7,pV B7 0),(37,W A4 n4 c4),(38,iV (a2.length:Int)),(39,iV a6)]/\L=[fC A4 n4 c4 a2,bB s1 s2 s3 r2,bB s4 s5 s6 r3,fC s7 s8 s9 r4,fm t1 t2 t6 r5,ax cj ft u0 r6,ae B7 223 [W s1 s2 s3,W s4 s5 s6,W s7 s8 s9,W t1 t2 t6,.map (some u0),iV s0]]) ?_ ?_
   ·refine ab ?_;obtain ⟨X7,y4,y5,y6,h⟩:=aI h;refine ab ?_;obtain ⟨X8,k,h⟩:=aa h
    refine Ua (oC (gu k)) fun X9 Y0 Y1 Y2 Y3 Y4=> ?_
    obtain ⟨u1,k,h⟩:=aa h
    refine rP (oR (mh k)) fun x7 x8 x9=> ?_
    refine gZ (fun m s L=> ∃u2 u3 u4 u5 u6 u7 u8 u9 v1 v2 v6 v7 v8 w0 w1 w2 w3 w4 w5 w6,qT N (d5 N a2 x6) a2 a6 u1 m u2 u3 u4 u5 u6 u7 u8=some r/\s=[(6,.pointer none),(7,pV B7 0),(37,W A4 n4 c4),(38,iV (a2.length:Int)),(39,iV a6),(46,W x7 x8 x9),(47,iV (u1.length:Int)),(48,iV u2)]/\L=[fC A4 n4 c4 a2,fm x7 x8 x9 u1,bB u9 v1 v2 u3,bB v6 v7 v8 u4,fC w0 w1 w2 u5,fm w3 w4 w5 u6,ax cj ft w6 u7,ae B7 223 [W u9 v1 v2,W v6 v7 v8,W w0 w1 w2,W w3 w4 w5,.map (some w6),iV u8]]) N _ _ ⟨0,h7,h8,h9,i0,i1,i2,i8,j0,j1,j2,j3,j4,j5,j6,j7,j8,j9,k0,k2,h,J,J⟩ sA (cS [6,0,7,8,9,4,5,3] 10) ?_;rintro (_|Y5)
    all_goals (refine fun s L=>ai fun u2=>ai fun u3=>ai fun u4=>ai fun u5=>ai fun u6=>ai fun u7=>ai fun u8=>ai fun u9=>ai fun v1=>ai fun v2=>ai fun v6=>ai fun v7=>ai fun v8=>ai fun w0=>ai fun w1=>ai fun w2=>ai fun w3=>ai fun w4=>ai fun w5=>ai fun w6=>xi fun h=> ?_)
    ·exact az h
    rw [qT.eq_2] at h;refine ab ?_;refine au ?_;refine gH J h ?_ ?_<;>intro h
    ·refine sY ?_;obtain ⟨Y6,y7,y8,y9,h⟩:=aI h;refine ab ?_;obtain ⟨Y7,k,h⟩:=aa h;refine gD (oC (jL k)) ?_;rintro _ _ ⟨_,⟨Y8,Y9,Z0,Z1,Z2,Z3,Z4,Z5,Z6,Z7,Z8,Z9,Yq,rfl,rfl⟩,rfl⟩;refine ab ?_;obtain ⟨Yr,h⟩:=ac h;exact lY
    exact jY
   refine fun s L=>ai fun r2=>ai fun r3=>ai fun r4=>ai fun r5=>ai fun r6=>ai fun s0=>ai fun s1=>ai fun s2=>ai fun s3=>ai fun s4=>ai fun s5=>ai fun s6=>ai fun s7=>ai fun s8=>ai fun s9=>ai fun t1=>ai fun t2=>ai fun t6=>ai fun u0=>xi fun h=> ?_
   refine ab ?_;obtain ⟨Ys,h⟩:=ac h;exact lY
  exact jY
 refine fun s L=>ai fun p2=>ai fun p3=>ai fun p4=>ai fun p5=>ai fun p6=>ai fun p7=>ai fun p8=>ai fun q0=>ai fun q1=>ai fun q2=>ai fun q3=>ai fun q4=>ai fun q5=>ai fun q6=>ai fun q7=>ai fun q8=>ai fun q9=>ai fun r0=>ai fun r1=>xi fun h=> ?_
 refine ab ?_;obtain ⟨g1,k,h⟩:=aa h;refine gD (oC (ph k)) ?_;rintro _ _ ⟨_,⟨z1,z2,z6,A0,A8,B4,B9,L0,L1,L2,L3,L4,L5,rfl,rfl⟩,rfl⟩;refine ab ?_;refine ak (fun s L=> ∃w7 w8 a8 b0 b5 b6 w9 x1 x2 x3 x4 x5 b7 b9 c0 c8 d0 d1 d2,vb N w7 w8 a8 b0 b5 b6=some r/\s=[(6,.pointer none),(7,pV B7 0)]/\L=[bB w9 x1 x2 w7,bB x3 x4 x5 w8,fC b7 b9 c0 a8,fm c8 d0 d1 b0,ax cj ft d2 b5,ae B7 223 [W w9 x1 x2,W x3 x4 x5,W b7 b9 c0,W c8 d0 d1,.map (some d2),iV b6]]) ?_ ?_
 ·refine ab ?_;refine gZ (fun m s L=> ∃d3 d4 d6 e0 e1 e2 e3 e4 e5 e6 e7 e8 e9 f1 f2 f3 f4 f9 g0,kT N m d3 d4 d6 e0 e1 e2=some r/\s=[(6,.pointer none),(7,pV B7 0)]/\L=[bB e3 e4 e5 d3,bB e6 e7 e8 d4,fC e9 f1 f2 d6,fm f3 f4 f9 e0,ax cj ft g0 e1,ae B7 223 [W e3 e4 e5,W e6 e7 e8,W e9 f1 f2,W f3 f4 f9,.map (some g0),iV e2]]) N _ _ ⟨g1.m_.XA,g1.m_.Xz,g1.Yc,g1.XN,g1.Yb,g1.XV,z1,z2,z6,A0,A8,B4,B9,L0,L1,L2,L3,L4,L5,h,J,J⟩ sA (cS [1,2,3,4,5,0] 9) ?_;rintro (_|L6)
  all_goals (refine fun s L=>ai fun d3=>ai fun d4=>ai fun d6=>ai fun e0=>ai fun e1=>ai fun e2=>ai fun e3=>ai fun e4=>ai fun e5=>ai fun e6=>ai fun e7=>ai fun e8=>ai fun e9=>ai fun f1=>ai fun f2=>ai fun f3=>ai fun f4=>ai fun f9=>ai fun g0=>xi fun h=> ?_)
  ·exact az h
  rw [kT.eq_2] at h;refine sZ ?_;obtain ⟨L7,k,h⟩:=aa h;refine gD (oC (xZ k)) ?_;rintro _ _ ⟨_,⟨L8,L9,M0,M1,M4,M8,Q1,S0,S1,S2,S3,S4,S5,rfl,rfl⟩,rfl⟩;refine dU h ?_ ?_<;>intro h
  ·refine ab ?_;obtain ⟨S6,k,h⟩:=aa h;refine gD (oC (ph k)) ?_;rintro _ _ ⟨_,⟨S7,S8,S9,T0,T1,T2,T3,T4,T5,T6,T7,T8,T9,rfl,rfl⟩,rfl⟩;exact lY
  exact jY
 refine fun s L=>ai fun w7=>ai fun w8=>ai fun a8=>ai fun b0=>ai fun b5=>ai fun b6=>ai fun w9=>ai fun x1=>ai fun x2=>ai fun x3=>ai fun x4=>ai fun x5=>ai fun b7=>ai fun b9=>ai fun c0=>ai fun c8=>ai fun d0=>ai fun d1=>ai fun d2=>xi fun h=> ?_
 exact eY
def pH (N:Nat)(a0:Vl)(p8:Vx):Option Vx:=
 some p8
def gP (N:Nat)(a6:Vx->Int->Int->Int->Option Vx)(a0:Vl)(p13:Int)(a8:Vx)(b0 b5:Int):Option Vx:=
 aD (in64 (p13+1)) (a6 a8 b0 b5 (p13+1))
def ca (N:Nat)(a0:Vl):Nat->Vx->Int->Int->Int->Option Vx
 |0,_,_,_,_=>none
 |m9+1,b0,a6,a8,p13=>bif decide (p13<(a0.XN.length:Int)) then ((ao a0.XN p13).bind fun b5=>(bv N a0 b5).bind fun b6=>bif decide (b6.XC=0) then (aD (in64 (2*a6)) (aD (in64 ((2*a6)+1)) (aD (bY (b0.length+([(2*a6)+1]:List Int).length)) (aD (in64 (a6+1)) (gP N (ca N a0 m9) a0 p13 (b0++([(2*a6)+1]:List Int)) (a6+1) a8))))) else (aD (in64 (2*a8)) (aD (in64 ((2*a8)+2)) (aD (bY (b0.length+([(2*a8)+2]:List Int).length)) (aD (in64 (a8+1)) (gP N (ca N a0 m9) a0 p13 (b0++([(2*a8)+2]:List Int)) a6 (a8+1))))))) else (pH N a0 b0)
def fG (a0:Vl):Option Vx:=
 ca N a0 N [] 0 (a0.m_.Xz.length:Int) 0
theorem wn {N:Nat}{a0:Vl}{r:Vx}(h:fG N a0=some r):Okc VK 156 [pV B1 0] ([bB A2 n2 c2 a0.m_.XA,bB A3 n3 c3 a0.m_.Xz,fC A4 n4 c4 a0.Yc,ae B1 223 [W A2 n2 c2,W A3 n3 c3,W A4 n4 c4,W A5 n5 c5,.map (some M6),iV a0.XV],fm A5 n5 c5 a0.XN,ax cj ft M6 a0.Yb]) (fun u post=> ∃a6 a8 b0,u=W a6 a8 b0/\post=[fm a6 a8 b0 r,ae B1 223 [W A2 n2 c2,W A3 n3 c3,W A4 n4 c4,W A5 n5 c5,.map (some M6),iV a0.XV],fm A5 n5 c5 a0.XN,ax cj ft M6 a0.Yb]):=by
 refine bX Tryz.func156 ?_;refine dY [] ?_;refine ab ?_;refine ak (fun s L=> ∃p8 A8 n8 c8,pH N a0 p8=some r/\s=[(2,W none 0 0),(3,W A8 n8 c8)]/\L=[fm A8 n8 c8 p8,bB A2 n2 c2 a0.m_.XA,bB A3 n3 c3 a0.m_.Xz,fC A4 n4 c4 a0.Yc,fm A5 n5 c5 a0.XN,ax cj ft M6 a0.Yb,ae B1 223 [W A2 n2 c2,W A3 n3 c3,W A4 n4 c4,W A5 n5 c5,.map (some M6),iV a0.XV]]) ?_ ?_
 ·refine ab ?_;refine gZ (fun m s L=> ∃b7 b5 b6 p13 b9 c0 c9,ca N a0 m b7 b5 b6 p13=some r/\s=[(0,pV B1 0),(2,W none 0 0),(3,W b9 c0 c9),(4,iV b5),(5,iV b6),(17,W A5 n5 c5),(18,iV (a0.XN.length:Int)),(19,iV p13)]/\L=[fm b9 c0 c9 b7,fm A5 n5 c5 a0.XN,bB A2 n2 c2 a0.m_.XA,bB A3 n3 c3 a0.m_.Xz,fC A4 n4 c4 a0.Yc,ax cj ft M6 a0.Yb,ae B1 223 [W A2 n2 c2,W A3 n3 c3,W A4 n4 c4,W A5 n5 c5,.map (some M6),iV a0.XV]]) N _ _ ⟨[],0,(a0.m_.Xz.length:Int),0,none,0,0,h,J,J⟩ sA ((bq (jI .i64) 3 _).trans (cS [0,5,1,2,3,6,4] 7)) ?_;rintro (_|m9) _ _ ⟨b7,b5,b6,p13,b9,c0,c9,h,rfl,rfl⟩
  ·exact az h
  rw [ca.eq_2] at h;refine ab ?_;refine au ?_;refine gH J h ?_ ?_<;>intro h
  ·refine ab ?_;refine ak (fun s L=> ∃d0 d1 d2 d3 d4 d6,gP N (ca N a0 m9) a0 p13 d0 d1 d2=some r/\s=[(0,pV B1 0),(2,W none 0 0),(3,W d3 d4 d6),(4,iV d1),(5,iV d2),(17,W A5 n5 c5),(18,iV (a0.XN.length:Int)),(19,iV p13)]/\L=[fm d3 d4 d6 d0,fm A5 n5 c5 a0.XN,bB A2 n2 c2 a0.m_.XA,bB A3 n3 c3 a0.m_.Xz,fC A4 n4 c4 a0.Yc,ax cj ft M6 a0.Yb,ae B1 223 [W A2 n2 c2,W A3 n3 c3,W A4 n4 c4,W A5 n5 c5,.map (some M6),iV a0.XV]]) ?_ ?_
   ·refine ab ?_;obtain ⟨e7,e2,e3,e4,h⟩:=aI h;refine ab ?_;obtain ⟨e8,k,h⟩:=aa h;refine gD (oC (gu k)) ?_;rintro _ _ ⟨_,⟨e9,f1,f2,f3,f4,f9,rfl,rfl⟩,rfl⟩;refine dK (uh J (Ow _ _ _ _ _ _ _ _ _ _)) ?_;refine gH J h ?_ ?_<;>intro h
    ·refine ab ?_;obtain ⟨e0,h⟩:=ac h;refine gE (nr J J e0.1 e0.2) ?_;obtain ⟨g0,h⟩:=ac h;refine ab ?_;refine gD (aL (R:=(jI .i64)) (vss:=[[iV ((2*b5)+1)]]) (xs:=[(2*b5)+1]) J (nv _) J J (fun _ _ hr=> .cons J All2.nil)) ?_;rintro _ _ ⟨g1,g2,g3,rfl,rfl⟩;obtain ⟨e5,h⟩:=ac h
     refine rP (aP 6 0 J J aj J J UV It J J e5) fun g4 g5 g6=> ?_
     obtain ⟨g7,h⟩:=ac h;exact jY
    refine ab ?_;obtain ⟨e1,h⟩:=ac h;refine gE (nr J J e1.1 e1.2) ?_;obtain ⟨g8,h⟩:=ac h;refine ab ?_;refine gD (aL (R:=(jI .i64)) (vss:=[[iV ((2*b6)+2)]]) (xs:=[(2*b6)+2]) J (nv _) J J (fun _ _ hr=> .cons J All2.nil)) ?_;rintro _ _ ⟨g9,h0,h1,rfl,rfl⟩;obtain ⟨e6,h⟩:=ac h
    refine rP (aP 6 0 J J aj J J UV It J J e6) fun h2 h3 h4=> ?_
    obtain ⟨h5,h⟩:=ac h;exact jY
   rintro _ _ ⟨d0,d1,d2,d3,d4,d6,h,rfl,rfl⟩;refine ab ?_;obtain ⟨h6,h⟩:=ac h;exact lY
  exact jY
 rintro _ _ ⟨p8,A8,n8,c8,h,rfl,rfl⟩;exact eY
def kh (a0:Vd)(a1:Vx)(a2:Vw):Option (Vd×Vw):=
 bif decide (a0.Xw=8) then ((ny N a0 a1).bind fun y8=>some (y8,a2)) else (bif decide (a0.Xw=10) then ((kV N a0 a1).bind fun a6=>aD (bY (a2.length+a6.2.length)) (some (a6.1,a2++a6.2))) else (some (a0,a2)))
theorem ya {N:Nat}{a0:Vd}{a1:Vx}{a2:Vw}{r:Vd×Vw}(h:kh N a0 a1 a2=some r):Okc VK 159 [.agg #[iV a0.Xw,iV a0.XD,iV a0.XB,iV a0.XC,W A1 n1 c1,W A2 n2 c2],W A3 n3 c3,W A4 n4 c4] ([aZ A1 n1 c1 a0.Xy,aZ A2 n2 c2 a0.Xx,fC A3 n3 c3 a1,aB A4 n4 c4 a2]) (fun u post=> ∃A0 n0 c0 A1 n1 c1 A2 n2 c2,u=.tuple #[.agg #[iV r.1.Xw,iV r.1.XD,iV r.1.XB,iV r.1.XC,W A0 n0 c0,W A1 n1 c1],W A2 n2 c2]/\post=[aZ A0 n0 c0 r.1.Xy,aZ A1 n1 c1 r.1.Xx,aB A2 n2 c2 r.2]):=by
 refine bX Tryz.func159 ?_;intro B5
 refine dD fun B6=> ?_
 refine sZ ?_;refine gH J h ?_ ?_<;>intro h
 ·refine Nn h (fun _ k=>zy k) fun y8 A9 n9 c9 c8 d0 d1 h=> ?_
  obtain rfl:=jg h;exact ul (rs:=[.cell 6 45,.tmp 7]) (vs:=[.agg #[iV y8.Xw,iV y8.XD,iV y8.XB,iV y8.XC,W A9 n9 c9,W c8 d0 d1],W A4 n4 c4]) J (.cons (lz 2 J J agg45.out) (.cons (qq J) .nil)) J ((bM 0 J).trans ((bM 1 J).trans (cS [0,1,7] 8))) ⟨_,_,_,_,_,_,_,_,_,J,J⟩
 refine dU h ?_ ?_<;>intro h
 ·refine ab ?_;obtain ⟨a6,k,h⟩:=aa h
  refine Tp (oR (wO k)) fun a8 b0 b5 b6 b7 b9 d2 d3 d4=> ?_
  intro d6;refine ab ?_;refine au ?_;refine bi I ([ae d6 45 (ga a6.1 a8 b0 b5 b6 b7 b9),aB a8 b0 b5 a6.1.Xy,aB b6 b7 b9 a6.1.Xx,aB d2 d3 d4 a6.2,ae B5 45 (ga a0 A1 n1 c1 A2 n2 c2),aZ A1 n1 c1 a0.Xy,aZ A2 n2 c2 a0.Xx,fC A3 n3 c3 a1]) (cS [0,1,2,3,5,6,7,8] 10) ?_;refine ab ?_;obtain ⟨e0,h⟩:=ac h
  refine yD 3 J (aP 9 3 J J aj J J t9 AI J J e0) fun e1 e2 e3=> ?_
  refine zO 4 J (ar (us:=(ga a6.1 a8 b0 b5 b6 b7 b9)) (cs':=(ga a6.1 a8 b0 b5 b6 b7 b9)) 4 J J J J size45.out J J J) ?_;rintro _ _ rfl;refine aW ?_;refine ab ?_;obtain rfl:=jg h;exact ul (rs:=[.cell 6 45,.tmp 7]) (vs:=[.agg #[iV a6.1.Xw,iV a6.1.XD,iV a6.1.XB,iV a6.1.XC,W a8 b0 b5,W b6 b7 b9],W e1 e2 e3]) J (.cons (lz 4 J J agg45.out) (.cons (qq J) .nil)) J ((bM 1 J).trans ((bM 2 J).trans (cS [1,2,9] 10))) ⟨_,_,_,_,_,_,_,_,_,J,J⟩
 exact eY
def uu (N:Nat)(a6:Vd)(a8 b0:Vw):Option Vd:=
 some (⟨a6.Xw,a6.XD,a6.XB,a6.XC,a8,b0⟩:Vd)
def ur (p9:VH)(a6:Vw)(a8:Vd)(b0:Vw):Option Vd:=
 uu N a8 a6 b0
def qa (N:Nat)(a6:Vw->Int->Option Vd)(b5:Vd)(a8:Int)(p9:VH)(b6 b0:Vw):Option Vd:=
 aD (in64 (a8+1)) (a6 b0 (a8+1))
def gG (N:Nat)(a6:Vd)(p9:VH)(b0:Vw):Nat->Vw->Int->Option Vd
 |0,_,_=>none
 |b7+1,b5,a8=>bif decide (a8<(a6.Xx.length:Int)) then ((ao b5 a8).bind fun b6=>(bif (lk p9 b6.N).isSome then ((nI N b6).bind fun c0=>some c0) else (some false)).bind fun c8=>bif c8 then ((ao b5 a8).bind fun b9=>qa N (gG N a6 p9 b0 b7) a6 a8 p9 b0 (List.set b5 a8.toNat (⟨b9.Xw,(lk p9 b6.N).getD 0,b9.S⟩:Vp))) else (qa N (gG N a6 p9 b0 b7) a6 a8 p9 b0 b5)) else (ur N p9 b0 a6 b5)
def ut (p9:VH)(a6:Vd)(a8:Vw):Option Vd:=
 gG N a6 p9 a8 N a6.Xx 0
def qb (N:Nat)(a6:Vw->Int->Option Vd)(b5:Vd)(a8:Int)(p9:VH)(b0:Vw):Option Vd:=
 aD (in64 (a8+1)) (a6 b0 (a8+1))
def gI (N:Nat)(a6:Vd)(p9:VH):Nat->Vw->Int->Option Vd
 |0,_,_=>none
 |b6+1,b0,a8=>bif decide (a8<(a6.Xy.length:Int)) then ((ao b0 a8).bind fun b5=>(bif (lk p9 b5.N).isSome then ((nI N b5).bind fun b9=>some b9) else (some false)).bind fun c0=>bif c0 then ((ao b0 a8).bind fun b7=>qb N (gI N a6 p9 b6) a6 a8 p9 (List.set b0 a8.toNat (⟨b7.Xw,(lk p9 b5.N).getD 0,b7.S⟩:Vp))) else (qb N (gI N a6 p9 b6) a6 a8 p9 b0)) else (ut N p9 a6 b0)
def rb (a0:Vd)(p9:VH):Option Vd:=
 (dx N a0).bind fun a6=>gI N a6 p9 N a6.Xy 0
def nu (N:Nat)(a6:VH->Int->Option Vd)(a1:Vx)(a8:Int)(a2:Vx)(a0:Vd)(b0:VH):Option Vd:=
 aD (in64 (a8+1)) (a6 b0 (a8+1))
def fb (N:Nat)(a1 a2:Vx)(a0:Vd):Nat->VH->Int->Option Vd
 |0,_,_=>none
 |b5+1,b0,a6=>bif decide (a6<(a1.length:Int)) then ((ao a1 a6).bind fun a8=>bif (lk b0 a8).isSome then (nu N (fb N a1 a2 a0 b5) a1 a6 a2 a0 b0) else (bif decide (a6<(a2.length:Int)) then ((ao a2 a6).bind fun b6=>nu N (fb N a1 a2 a0 b5) a1 a6 a2 a0 (wI (wI b0 a8 a8) a8 b6)) else (nu N (fb N a1 a2 a0 b5) a1 a6 a2 a0 (wI b0 a8 a8)))) else (rb N a0 b0)
def fZ (a0:Vd)(a1 a2:Vx):Option Vd:=
 fb N a1 a2 a0 N ([]:VH) 0
theorem vl {N:Nat}{a0:Vd}{a1:Vx}{r:Vd}(h:fZ N a0 a1 a2=some r):Okc VK 160 [.agg #[iV a0.Xw,iV a0.XD,iV a0.XB,iV a0.XC,W A1 n1 c1,W A2 n2 c2],W A3 n3 c3,W A4 n4 c4] ([aZ A1 n1 c1 a0.Xy,aZ A2 n2 c2 a0.Xx,fC A3 n3 c3 a1,fC A4 n4 c4 a2]) (fun u post=> ∃A0 n0 c0 A1 n1 c1,u=.agg #[iV r.Xw,iV r.XD,iV r.XB,iV r.XC,W A0 n0 c0,W A1 n1 c1]/\post=[aB A0 n0 c0 r.Xy,aB A1 n1 c1 r.Xx]):=by
 refine bX Tryz.func160 ?_;intro B5
 refine dD fun B6=> ?_
 refine gD (Dl (ek:=cj) (ev:=sC) J U6) ?_;rintro _ _ ⟨M7,rfl,rfl⟩;refine ab ?_;refine ak (fun s L=> ∃p9,rb N a0 p9=some r/\s=[(3,pV B5 0),(6,pV B6 0),(7,.map (some M7))]/\L=[ax cj sC M7 p9,aZ A1 n1 c1 a0.Xy,aZ A2 n2 c2 a0.Xx,ae B5 45 (ga a0 A1 n1 c1 A2 n2 c2),ae B6 45 [iV 0,iV 0,iV 0,iV 0,W none 0 0,W none 0 0]]) ?_ ?_
 ·refine ab ?_;refine lK (fun m s L=> ∃(g2:VH) (e6:Int),fb N a1 a2 a0 m g2 e6=some r/\s=[(2,W A4 n4 c4),(3,pV B5 0),(6,pV B6 0),(7,.map (some M7)),(21,W A3 n3 c3),(22,iV (a1.length:Int)),(23,iV e6)]/\L=[fC A4 n4 c4 a2,ax cj sC M7 g2,fC A3 n3 c3 a1,aZ A1 n1 c1 a0.Xy,aZ A2 n2 c2 a0.Xx,ae B5 45 (ga a0 A1 n1 c1 A2 n2 c2),ae B6 45 [iV 0,iV 0,iV 0,iV 0,W none 0 0,W none 0 0]]) N ?_;rintro i8 _ _ ⟨g2,e6,h,rfl,rfl⟩;rw [fb.eq_2] at h;refine ab ?_;refine au ?_;refine gH J h ?_ ?_<;>intro h
  ·refine ab ?_;refine ak (fun s L=> ∃g3,nu N (fb N a1 a2 a0 i8) a1 e6 a2 a0 g3=some r/\s=[(2,W A4 n4 c4),(3,pV B5 0),(6,pV B6 0),(7,.map (some M7)),(21,W A3 n3 c3),(22,iV (a1.length:Int)),(23,iV e6)]/\L=[fC A4 n4 c4 a2,ax cj sC M7 g3,fC A3 n3 c3 a1,aZ A1 n1 c1 a0.Xy,aZ A2 n2 c2 a0.Xx,ae B5 45 (ga a0 A1 n1 c1 A2 n2 c2),ae B6 45 [iV 0,iV 0,iV 0,iV 0,W none 0 0,W none 0 0]]) ?_ ?_
   ·refine ab ?_;obtain ⟨f4,j0,j1,j2,h⟩:=aI h;refine sY ?_;refine H0 (tD (a:=f4) (z:=0) 1 J wp J J U6 (dX z9) zero3.out) ?_;refine gH J h ?_ ?_<;>intro h
    ·exact jY
    refine ab ?_;refine Gc (iv (a:=f4) (b:=f4) 1 J J J J U6 (dX z9)) ?_;refine gH J h ?_ ?_<;>intro h
    ·refine ab ?_;obtain ⟨j3,j4,j5,j6,h⟩:=aI h;refine ab ?_;refine Gc (iv (a:=f4) (b:=j3) 1 J J J J U6 (dX z9)) ?_;exact jN
    exact jY
   rintro _ _ ⟨g3,h,rfl,rfl⟩;refine ab ?_;obtain ⟨k9,h⟩:=ac h;exact lY
  exact jY
 rintro _ _ ⟨p9,h,rfl,rfl⟩
 refine Nn h (fun _ k=>f0 k) fun a6 j7 j8 j9 b7 b9 c8 h=> ?_
 refine ak (fun s L=> ∃g4 g5 g6 g7 g8 g9 h0 h1,uu N a6 g4 g5=some r/\s=[(3,pV B5 0),(6,pV B6 0)]/\L=[aB g6 g7 g8 g4,aB g9 h0 h1 g5,ae B5 45 (ga a6 g6 g7 g8 g9 h0 h1),ae B6 45 [iV 0,iV 0,iV 0,iV 0,W none 0 0,W none 0 0]]) ?_ ?_
 ·refine ab ?_
  refine gB (iW (cs:=[W j7 j8 j9,W b7 b9 c8]) J (nJ _ _ _ _ _ _)) fun b6=> ?_
  refine dK (pT J U8) ?_;refine uw 3 ?_;refine vm ?_;refine ab ?_;refine au ?_;refine cz J ?_;refine ab ?_;refine ak (fun s L=> ∃c9 a8 b0 b5,ut N p9 a6 c9=some r/\s=[(3,pV B5 0),(6,pV B6 0),(7,.map (some M7)),(55,.slice (some ⟨b6,0,none⟩) 2 2),(56,iV 2),(57,iV 0)]/\L=[ax cj sC M7 p9,aB a8 b0 b5 c9,aB b7 b9 c8 a6.Xx,ae B5 45 (ga a6 a8 b0 b5 b7 b9 c8),ae B6 45 [iV 0,iV 0,iV 0,iV 0,W none 0 0,W none 0 0],ae b6 43 [W a8 b0 b5,W b7 b9 c8]]) ?_ ?_
  ·refine ab ?_;refine dK (oY J J U8 size43.out (by decide) (by decide)) ?_;refine lK (fun m s L=> ∃(h2:Vw) (e7:Int) (d0:Option Addr) (d1 d2:Nat),gI N a6 p9 m h2 e7=some r/\s=[(3,pV B5 0),(6,pV B6 0),(7,.map (some M7)),(13,W d0 d1 d2),(55,.slice (some ⟨b6,0,none⟩) 2 2),(56,iV 2),(57,iV 0),(61,W d0 d1 d2),(62,iV (a6.Xy.length:Int)),(63,iV e7)]/\L=[ax cj sC M7 p9,aB d0 d1 d2 h2,aB b7 b9 c8 a6.Xx,ae B5 45 (ga a6 d0 d1 d2 b7 b9 c8),ae B6 45 [iV 0,iV 0,iV 0,iV 0,W none 0 0,W none 0 0],ae b6 43 [W d0 d1 d2,W b7 b9 c8]]) N ?_;rintro k0 _ _ ⟨h2,e7,d0,d1,d2,h,rfl,rfl⟩;rw [gI.eq_2] at h;refine ab ?_;refine au ?_;refine gH J h ?_ ?_<;>intro h
   ·refine ab ?_;refine ak (fun s L=> ∃h3 d3 d4 d6,qb N (gI N a6 p9 k0) a6 e7 p9 h3=some r/\s=[(3,pV B5 0),(6,pV B6 0),(7,.map (some M7)),(13,W d3 d4 d6),(55,.slice (some ⟨b6,0,none⟩) 2 2),(56,iV 2),(57,iV 0),(61,W d3 d4 d6),(62,iV (a6.Xy.length:Int)),(63,iV e7)]/\L=[ax cj sC M7 p9,aB d3 d4 d6 h3,aB b7 b9 c8 a6.Xx,ae B5 45 (ga a6 d3 d4 d6 b7 b9 c8),ae B6 45 [iV 0,iV 0,iV 0,iV 0,W none 0 0,W none 0 0],ae b6 43 [W d3 d4 d6,W b7 b9 c8]]) ?_ ?_
    ·refine ab ?_;obtain ⟨h4,k2,k3,k4,h⟩:=aI h
     refine dD fun l0=> ?_
     refine H0 (tD (a:=h4.N) (z:=0) 1 J wp J J U6 (dX z9) zero3.out) ?_
     refine qi 3 79 76 h (fun _ l1 h=> ?_) fun l2 h=> ?_
     ·refine cR h (fun _ k=>vj k) fun l3 h=> ?_
      exact gY
     refine dU h ?_ ?_<;>intro h
     ·refine ab ?_;obtain ⟨i1,e8,e9,h5,h⟩:=aI h;refine ab ?_;refine gR (lQ 2 J aj J (toNat_lt e8 e9) BQ) ?_;refine Gc (cH (us:=[iV ((lk p9 h4.N).getD 0)]) (z:=(⟨i1.Xw,(lk p9 h4.N).getD 0,i1.S⟩:Vp)) 2 J J J J size3.out J (toNat_lt e8 e9) J (fun S w vs xk hk hr ho=>by obtain rfl:=Xe (hk.symm.trans h5);rw [show _=_ from hr];rfl)) ?_;exact jN
     exact jY
    rintro _ _ ⟨h3,d3,d4,d6,h,rfl,rfl⟩;refine ab ?_;obtain ⟨l4,h⟩:=ac h;exact lY
   exact jY
  rintro _ _ ⟨c9,a8,b0,b5,h,rfl,rfl⟩;refine ab ?_;refine dK (fU J J (by decide) (by decide)) ?_;refine vm ?_;refine ab ?_;refine au ?_;refine cz J ?_;refine ab ?_;refine ak (fun s L=> ∃h6 f9 g0 g1,ur N p9 c9 a6 h6=some r/\s=[(3,pV B5 0),(6,pV B6 0),(7,.map (some M7)),(55,.slice (some ⟨b6,0,none⟩) 2 2),(56,iV 2),(57,iV 1)]/\L=[ax cj sC M7 p9,aB a8 b0 b5 c9,aB f9 g0 g1 h6,ae B5 45 (ga a6 a8 b0 b5 f9 g0 g1),ae B6 45 [iV 0,iV 0,iV 0,iV 0,W none 0 0,W none 0 0],ae b6 43 [W a8 b0 b5,W f9 g0 g1]]) ?_ ?_
  ·refine ab ?_;refine dK (oY J J U8 size43.out (by decide) (by decide)) ?_;refine lK (fun m s L=> ∃(h7:Vw) (f1:Int) (e0:Option Addr) (e1 e2:Nat),gG N a6 p9 c9 m h7 f1=some r/\s=[(3,pV B5 0),(6,pV B6 0),(7,.map (some M7)),(13,W e0 e1 e2),(55,.slice (some ⟨b6,0,none⟩) 2 2),(56,iV 2),(57,iV 1),(61,W e0 e1 e2),(62,iV (a6.Xx.length:Int)),(63,iV f1)]/\L=[ax cj sC M7 p9,aB e0 e1 e2 h7,aB a8 b0 b5 c9,ae B5 45 (ga a6 a8 b0 b5 e0 e1 e2),ae B6 45 [iV 0,iV 0,iV 0,iV 0,W none 0 0,W none 0 0],ae b6 43 [W a8 b0 b5,W e0 e1 e2]]) N ?_;rintro k5 _ _ ⟨h7,f1,e0,e1,e2,h,rfl,rfl⟩;rw [gG.eq_2] at h;refine ab ?_;refine au ?_;refine gH J h ?_ ?_<;>intro h
   ·refine ab ?_;refine ak (fun s L=> ∃h8 e3 e4 e5,qa N (gG N a6 p9 c9 k5) a6 f1 p9 c9 h8=some r/\s=[(3,pV B5 0),(6,pV B6 0),(7,.map (some M7)),(13,W e3 e4 e5),(55,.slice (some ⟨b6,0,none⟩) 2 2),(56,iV 2),(57,iV 1),(61,W e3 e4 e5),(62,iV (a6.Xx.length:Int)),(63,iV f1)]/\L=[ax cj sC M7 p9,aB e3 e4 e5 h8,aB a8 b0 b5 c9,ae B5 45 (ga a6 a8 b0 b5 e3 e4 e5),ae B6 45 [iV 0,iV 0,iV 0,iV 0,W none 0 0,W none 0 0],ae b6 43 [W a8 b0 b5,W e3 e4 e5]]) ?_ ?_
    ·refine ab ?_;obtain ⟨h9,k6,k7,k8,h⟩:=aI h
     refine dD fun l5=> ?_
     refine H0 (tD (a:=h9.N) (z:=0) 1 J wp J J U6 (dX z9) zero3.out) ?_
     refine qi 3 79 76 h (fun _ l6 h=> ?_) fun l7 h=> ?_
     ·refine cR h (fun _ k=>vj k) fun l8 h=> ?_
      exact gY
     refine dU h ?_ ?_<;>intro h
     ·refine ab ?_;obtain ⟨i2,f2,f3,i0,h⟩:=aI h;refine ab ?_;refine gR (lQ 2 J aj J (toNat_lt f2 f3) BQ) ?_;refine Gc (cH (us:=[iV ((lk p9 h9.N).getD 0)]) (z:=(⟨i2.Xw,(lk p9 h9.N).getD 0,i2.S⟩:Vp)) 2 J J J J size3.out J (toNat_lt f2 f3) J (fun S w vs xk hk hr ho=>by obtain rfl:=Xe (hk.symm.trans i0);rw [show _=_ from hr];rfl)) ?_;exact jN
     exact jY
    rintro _ _ ⟨h8,e3,e4,e5,h,rfl,rfl⟩;refine ab ?_;obtain ⟨l9,h⟩:=ac h;exact lY
   exact jY
  rintro _ _ ⟨h6,f9,g0,g1,h,rfl,rfl⟩;refine ab ?_;refine dK (fU J J (by decide) (by decide)) ?_;refine vm ?_;refine ab ?_;refine au ?_;refine cP J ?_;exact jY
 rintro _ _ ⟨g4,g5,g6,g7,g8,g9,h0,h1,h,rfl,rfl⟩;exact eY
theorem DQ {r:Vd}: ∀v post,((fun (u:Value) (post:VI)=> ∃A0 n0 c0 A1 n1 c1,u=.agg #[iV r.Xw,iV r.XD,iV r.XB,iV r.XC,W A0 n0 c0,W A1 n1 c1]/\post=[aB A0 n0 c0 r.Xy,aB A1 n1 c1 r.Xx])) v post-> ∀c∈post,mN c:=by
 rintro _ _ ⟨_,_,_,_,_,_,rfl,rfl⟩;exact t0 rD (t0 rD (aQ))
def kf (a0:Vw)(a1 a2:Vx):Option Vw:=
 (fZ N (⟨0,0,0,0,[],a0⟩:Vd) a1 a2).bind fun y4=>some y4.Xx
theorem xY {N:Nat}{a0:Vw}{a1:Vx}{r:Vw}(h:kf N a0 a1 a2=some r):Okc VK 163 [W A1 n1 c1,W A2 n2 c2,W A3 n3 c3] ([aZ A1 n1 c1 a0,fC A2 n2 c2 a1,fC A3 n3 c3 a2]) (fun u post=> ∃A0 n0 c0,u=W A0 n0 c0/\post=[aB A0 n0 c0 r]):=by
 refine F6 Tryz.func163 J J ?_;simp only [uj];refine Y ?_;refine gE (ns J (bld_45_5 _ _ _).out) ?_;refine Y ?_;obtain ⟨y4,k,h⟩:=aa h;refine gD (kR (vl k) J (t0 (Oh) (t0 (jQ (i:=0) J J) (t0 (jQ (i:=1) J J) (t0 (jQ (i:=2) J J) aQ)))) DQ) ?_;rintro _ _ ⟨_,⟨A5,n5,c5,A6,n6,c6,rfl,rfl⟩,rfl⟩;refine gE (uh J (Fq _ _ _ _ _ _ _ _ _ _)) ?_;refine Y ?_;obtain rfl:=jg h;exact z7 J J (cS [1] 5) ⟨_,_,_,J,J⟩
end
section
variable {A1 A2 A3 A4 A5 A6 A7:Option Addr}{B1 B2 B3 B6 B8 M2 M7 M9 c1 c2 c3 c4 c5 c6 c7 n1 n2 n3 n4 n5 n6 n7:Nat}
open Go.RowKit Asn
set_option maxRecDepth 20000
def pJ (a1:Vw)(b0:Vx)(b5:Vl)(b6:Vw)(b7 b9:VF):Option (Ve×Vw×Vw×Int):=
 (kf N a1 b5.XN b0).bind fun a6=>(kf N b6 b5.XN b0).bind fun a8=>some ((⟨b7,b9⟩:Ve),a6,a8,0)
def mC (N:Nat)(a6:Vw->Int->VF->VF->Option (Ve×Vw×Vw×Int))(b7:Vl)(a8:Int)(a1:Vw)(b9 c0:Vx)(b0:Vw)(b5 b6:VF):Option (Ve×Vw×Vw×Int):=
 aD (in64 (a8+1)) (a6 b0 (a8+1) b5 b6)
def dP (N:Nat)(a8:Vl)(a1:Vw)(b0 b5:Vx):Nat->Vw->Int->VF->VF->Option (Ve×Vw×Vw×Int)
 |0,_,_,_,_=>none
 |c8+1,c9,b6,b7,b9=>bif decide (b6<(a8.XN.length:Int)) then ((ao a8.XN b6).bind fun d0=>(bv N a8 d0).bind fun d1=>(kh N d1 b5 c9).bind fun c0=>(fZ N c0.1 a8.XN b0).bind fun a6=>(ao b0 b6).bind fun d2=>(fW N d2).bind fun d3=>bif d3 then (aD (bY (b7.length+([(⟨a6.Xw,a6.XD,a6.XB,1,a6.Xy,a6.Xx⟩:Vd)]:List Vd).length)) (mC N (dP N a8 a1 b0 b5 c8) a8 b6 a1 b0 b5 c0.2 (b7++([(⟨a6.Xw,a6.XD,a6.XB,1,a6.Xy,a6.Xx⟩:Vd)]:List Vd)) b9)) else (aD (bY (b9.length+([(⟨a6.Xw,a6.XD,a6.XB,1,a6.Xy,a6.Xx⟩:Vd)]:List Vd).length)) (mC N (dP N a8 a1 b0 b5 c8) a8 b6 a1 b0 b5 c0.2 b7 (b9++([(⟨a6.Xw,a6.XD,a6.XB,1,a6.Xy,a6.Xx⟩:Vd)]:List Vd))))) else (pJ N a1 b0 a8 c9 b7 b9)
def pK (a1:Vw)(a6:Vx)(a8:Vl)(b0:Vw)(b5:Vx)(b6:VF):Option (Ve×Vw×Vw×Int):=
 dP N a8 a1 a6 b5 N b0 0 [] b6
def jO (a6:Vw->Vx->Int->VF->Option (Ve×Vw×Vw×Int))(a0:Ve)(a8:Int)(a1:Vw)(a2 b6 b7:Vx)(b0:VF)(b9:Vl)(c0:Vw)(c8 c9 d0 d1:Int)(d2 d3:Vw):Option (Ve×Vw×Vw×Int):=
 (fZ N (⟨c8,c9,d0,d1,d2,d3⟩:Vd) b9.XN b6).bind fun b5=>aD (bY (b0.length+([b5]:List Vd).length)) (aD (in64 (a8+1)) (a6 c0 b7 (a8+1) (b0++([b5]:List Vd))))
def eU (N:Nat)(a0:Ve)(a1:Vw)(a2 b5:Vx)(b6:Vl):Nat->Vw->Vx->Int->VF->Option (Ve×Vw×Vw×Int)
 |0,_,_,_,_=>none
 |c8+1,b9,b7,a6,c0=>bif decide (a6<(a0.Xz.length:Int)) then ((ao a0.Xz a6).bind fun a8=>aD (in64 (2*a6)) (aD (in64 ((2*a6)+2)) ((dN N a2 ((2*a6)+2)).bind fun c9=>bif c9 then ((kh N a8 b7 b9).bind fun b0=>jO N (eU N a0 a1 a2 b5 b6 c8) a0 a6 a1 a2 b5 b7 c0 b6 b0.2 b0.1.Xw b0.1.XD b0.1.XB b0.1.XC b0.1.Xy b0.1.Xx) else (jO N (eU N a0 a1 a2 b5 b6 c8) a0 a6 a1 a2 b5 b7 c0 b6 b9 a8.Xw a8.XD a8.XB a8.XC a8.Xy a8.Xx)))) else (pK N a1 b5 b6 b9 b7 c0)
def jr (a0:Ve)(a1:Vw)(a2:Vx):Option (Ve×Vw×Vw×Int):=
 (rA N a0 a1 a2).bind fun y7=>bif !y7 then (some ((⟨[],[]⟩:Ve),[],[],1)) else ((pi N a0 a1 a2).bind fun a6=>(fG N a6).bind fun a8=>(fi N a6).bind fun b0=>eU N a0 a1 a2 a8 a6 N [] b0 0 [])
def nQ (a1:Vw)(b0:Vx)(b5:Vl)(a0:Ve)(b6:Vw)(b7 b9:VF):Option ((Ve×Vw×Vw) ⊕ (Ve×Vw×Vw)):=
 (kf N a1 b5.XN b0).bind fun a6=>(kf N b6 b5.XN b0).bind fun a8=>some (.inr ((⟨b7,b9⟩:Ve),a6,a8))
def kA (N:Nat)(a6:Vw->Int->VF->VF->Option ((Ve×Vw×Vw) ⊕ (Ve×Vw×Vw)))(b7:Vl)(a8:Int)(a1:Vw)(b9 c0:Vx)(a0:Ve)(b0:Vw)(b5 b6:VF):Option ((Ve×Vw×Vw) ⊕ (Ve×Vw×Vw)):=
 aD (in64 (a8+1)) (a6 b0 (a8+1) b5 b6)
def fj (N:Nat)(a8:Vl)(a1:Vw)(b0 b5:Vx)(a0:Ve):Nat->Vw->Int->VF->VF->Option ((Ve×Vw×Vw) ⊕ (Ve×Vw×Vw))
 |0,_,_,_,_=>none
 |c8+1,c9,b6,b7,b9=>bif decide (b6<(a8.XN.length:Int)) then ((ao a8.XN b6).bind fun d0=>(bv N a8 d0).bind fun d1=>(kh N d1 b5 c9).bind fun c0=>(fZ N c0.1 a8.XN b0).bind fun a6=>(ao b0 b6).bind fun d2=>(fW N d2).bind fun d3=>bif d3 then (aD (bY (b7.length+([(⟨a6.Xw,a6.XD,a6.XB,1,a6.Xy,a6.Xx⟩:Vd)]:List Vd).length)) (kA N (fj N a8 a1 b0 b5 a0 c8) a8 b6 a1 b0 b5 a0 c0.2 (b7++([(⟨a6.Xw,a6.XD,a6.XB,1,a6.Xy,a6.Xx⟩:Vd)]:List Vd)) b9)) else (aD (bY (b9.length+([(⟨a6.Xw,a6.XD,a6.XB,1,a6.Xy,a6.Xx⟩:Vd)]:List Vd).length)) (kA N (fj N a8 a1 b0 b5 a0 c8) a8 b6 a1 b0 b5 a0 c0.2 b7 (b9++([(⟨a6.Xw,a6.XD,a6.XB,1,a6.Xy,a6.Xx⟩:Vd)]:List Vd))))) else (nQ N a1 b0 a8 a0 c9 b7 b9)
def nR (a1:Vw)(a6:Vx)(a8:Vl)(a0:Ve)(b0:Vw)(b5:Vx)(b6:VF):Option ((Ve×Vw×Vw) ⊕ (Ve×Vw×Vw)):=
 fj N a8 a1 a6 b5 a0 N b0 0 [] b6
def kB (a6:Vw->Vx->Int->VF->Option ((Ve×Vw×Vw) ⊕ (Ve×Vw×Vw)))(a0:Ve)(a8:Int)(a1:Vw)(a2 b6 b7:Vx)(b0:VF)(b9:Vl)(c0:Vw)(c8 c9 d0 d1:Int)(d2 d3:Vw):Option ((Ve×Vw×Vw) ⊕ (Ve×Vw×Vw)):=
 (fZ N (⟨c8,c9,d0,d1,d2,d3⟩:Vd) b9.XN b6).bind fun b5=>aD (bY (b0.length+([b5]:List Vd).length)) (aD (in64 (a8+1)) (a6 c0 b7 (a8+1) (b0++([b5]:List Vd))))
def fk (N:Nat)(a0:Ve)(a1:Vw)(a2 b5:Vx)(b6:Vl):Nat->Vw->Vx->Int->VF->Option ((Ve×Vw×Vw) ⊕ (Ve×Vw×Vw))
 |0,_,_,_,_=>none
 |c8+1,b9,b7,a6,c0=>bif decide (a6<(a0.Xz.length:Int)) then ((ao a0.Xz a6).bind fun a8=>aD (in64 (2*a6)) (aD (in64 ((2*a6)+2)) ((dN N a2 ((2*a6)+2)).bind fun c9=>bif c9 then ((kh N a8 b7 b9).bind fun b0=>kB N (fk N a0 a1 a2 b5 b6 c8) a0 a6 a1 a2 b5 b7 c0 b6 b0.2 b0.1.Xw b0.1.XD b0.1.XB b0.1.XC b0.1.Xy b0.1.Xx) else (kB N (fk N a0 a1 a2 b5 b6 c8) a0 a6 a1 a2 b5 b7 c0 b6 b9 a8.Xw a8.XD a8.XB a8.XC a8.Xy a8.Xx)))) else (nR N a1 b5 b6 a0 b9 b7 c0)
def dQ (a0:Ve)(a1:Vw)(a2:Vx):Option ((Ve×Vw×Vw) ⊕ (Ve×Vw×Vw)):=
 (rA N a0 a1 a2).bind fun y7=>bif !y7 then (some (.inl ((⟨[],[]⟩:Ve),[],[]))) else ((pi N a0 a1 a2).bind fun a6=>(fG N a6).bind fun a8=>(fi N a6).bind fun b0=>fk N a0 a1 a2 a8 a6 N [] b0 0 [])
theorem tT {N:Nat}{a0:Ve}{a1:Vw}{r:((Ve×Vw×Vw) ⊕ (Ve×Vw×Vw))}(h:dQ N a0 a1 a2=some r):Okc VK 101 [.agg #[W A1 n1 c1,W A2 n2 c2],W A3 n3 c3,W A4 n4 c4] ([aZ A3 n3 c3 a1,fC A4 n4 c4 a2,cN A1 n1 c1 a0.XA,cN A2 n2 c2 a0.Xz]) (fun u post=>Px (fun (r:Ve×Vw×Vw)=> ∃e4 e5 e6 e7 e8 e9 f1 f2 f3 f4 f9 g0,u=.tuple #[.agg #[W e4 e5 e6,W e7 e8 e9],W f1 f2 f3,W f4 f9 g0,iV 1]/\post=[cN e4 e5 e6 r.1.XA,cN e7 e8 e9 r.1.Xz,aB f1 f2 f3 r.2.1,aB f4 f9 g0 r.2.2,cN A1 n1 c1 a0.XA,cN A2 n2 c2 a0.Xz]) (fun (r:Ve×Vw×Vw)=> ∃e4 e5 e6 e7 e8 e9 f1 f2 f3 f4 f9 g0,u=.tuple #[.agg #[W e4 e5 e6,W e7 e8 e9],W f1 f2 f3,W f4 f9 g0,iV 0]/\post=[cN e4 e5 e6 r.1.XA,cN e7 e8 e9 r.1.Xz,aB f1 f2 f3 r.2.1,aB f4 f9 g0 r.2.2]) r):=by
 refine bX Tryz.func101 ?_;intro B5
 refine dD fun B6=> ?_
 refine sZ ?_;obtain ⟨y7,k,h⟩:=aa h;refine BJ (oR (HM k)) ?_;refine gH J h ?_ ?_<;>intro h
 ·refine ab ?_;obtain rfl:=jg h;exact ul (rs:=[.cell 6 125,.tmp 7,.tmp 8,.tmp 9]) (vs:=[.agg #[W none 0 0,W none 0 0],W none 0 0,W none 0 0,iV 1]) J (.cons (lz 0 J J agg125.out) (.cons (qq J) (.cons (qq J) (.cons (qq J) .nil)))) J ((bq ei 45 _).trans ((bq ei 45 _).trans ((bq av 29 _).trans ((bq av 29 _).trans (cS [3,2,1,0,8,9] 10))))) ⟨_,_,_,_,_,_,_,_,_,_,_,_,J,J⟩
 refine ab ?_;obtain ⟨a6,m9,h⟩:=aa h;refine rO (bM 4 J) ?_;refine rO (bM 5 J) ?_;refine ab ?_;refine gD (oC (HN m9)) ?_;rintro _ _ ⟨_,⟨a8,d0,d1,d2,d3,d4,d6,e0,e1,e2,b5,b6,b7,e3,rfl,rfl⟩,rfl⟩;refine ab ?_;obtain ⟨c9,k,h⟩:=aa h
 refine rP (oC (wn k)) fun b9 c0 c8=> ?_
 obtain ⟨s7,k,h⟩:=aa h
 refine rP (oR (rz k)) fun s8 s9 t1=> ?_
 refine ak (fun s L=> ∃l2 g5 l3 l4 l5 l6 g9 h0 h1 l7 l8 l9,nR N a1 c9 a6 a0 l2 g5 l3=some r/\s=[(1,W A3 n3 c3),(6,pV B6 0),(7,W none 0 0),(8,W l4 l5 l6),(9,iV 0),(10,pV a8 0),(11,W b9 c0 c8),(12,W g9 h0 h1)]/\L=[aZ A3 n3 c3 a1,aB l4 l5 l6 l2,fm b9 c0 c8 c9,fC g9 h0 h1 g5,cN l7 l8 l9 l3,ae B6 125 [W none 0 0,W l7 l8 l9],bB d0 d1 d2 a6.m_.XA,bB d3 d4 d6 a6.m_.Xz,fC e0 e1 e2 a6.Yc,fm b5 b6 b7 a6.XN,ax cj ft e3 a6.Yb,ae a8 223 [W d0 d1 d2,W d3 d4 d6,W e0 e1 e2,W b5 b6 b7,.map (some e3),iV a6.XV],bB A1 n1 c1 a0.XA,bB A2 n2 c2 a0.Xz]) ?_ ?_
 ·refine ab ?_;refine gZ (fun m s L=> ∃n0 h9 h2 i0 n8 n9 o0 g6 g7 g8 g2 g3 g4,fk N a0 a1 a2 c9 a6 m n0 h9 h2 i0=some r/\s=[(1,W A3 n3 c3),(2,W A4 n4 c4),(6,pV B6 0),(7,W none 0 0),(8,W n8 n9 o0),(9,iV 0),(10,pV a8 0),(11,W b9 c0 c8),(12,W g6 g7 g8),(33,W A2 n2 c2),(34,iV (a0.Xz.length:Int)),(35,iV h2)]/\L=[aZ A3 n3 c3 a1,fC A4 n4 c4 a2,aB n8 n9 o0 n0,fm b9 c0 c8 c9,fC g6 g7 g8 h9,bB A2 n2 c2 a0.Xz,cN g2 g3 g4 i0,ae B6 125 [W none 0 0,W g2 g3 g4],bB d0 d1 d2 a6.m_.XA,bB d3 d4 d6 a6.m_.Xz,fC e0 e1 e2 a6.Yc,fm b5 b6 b7 a6.XN,ax cj ft e3 a6.Yb,ae a8 223 [W d0 d1 d2,W d3 d4 d6,W e0 e1 e2,W b5 b6 b7,.map (some e3),iV a6.XV],bB A1 n1 c1 a0.XA]) N _ _ ⟨[],s7,0,[],none,0,0,s8,s9,t1,none,0,0,h,J,J⟩ sA ((bq av 29 _).trans ((bM 1 J).trans ((bq ei 45 _).trans (cS [12,13,1,3,2,15,0,10,7,8,9,5,6,4,14] 16)))) ?_;rintro (_|t2)
  all_goals (refine fun s L=>ai fun n0=>ai fun h9=>ai fun h2=>ai fun i0=>ai fun n8=>ai fun n9=>ai fun o0=>ai fun g6=>ai fun g7=>ai fun g8=>ai fun g2=>ai fun g3=>ai fun g4=>xi fun h=> ?_)
  ·exact az h
  rw [fk.eq_2] at h;refine ab ?_;refine au ?_;refine gH J h ?_ ?_<;>intro h
  ·refine sY ?_;obtain ⟨s2,t6,u0,o1,h⟩:=aI h;refine ab ?_;refine Ch 5 J o1 (ke s2) ?_;rintro _ _ ⟨u1,u2,u3,u4,u5,u6,rfl,rfl⟩;refine H0 (sI (us:=(ga s2 u1 u2 u3 u4 u5 u6)) 0 J J agg45.out J) ?_;intro j7;refine ab ?_;refine ak (fun s L=> ∃m0 i1 i2 i8 j0 m1 m2 j1 j2 j3 h3 h4 h5 h6 h7 h8,kB N (fk N a0 a1 a2 c9 a6 t2) a0 h2 a1 a2 c9 h9 i0 a6 m0 i1 i2 i8 j0 m1 m2=some r/\s=[(1,W A3 n3 c3),(2,W A4 n4 c4),(6,pV B6 0),(7,W none 0 0),(8,W j1 j2 j3),(9,iV 0),(10,pV a8 0),(11,W b9 c0 c8),(12,W g6 g7 g8),(14,pV j7 0),(33,W A2 n2 c2),(34,iV (a0.Xz.length:Int)),(35,iV h2)]/\L=[aZ A3 n3 c3 a1,fC A4 n4 c4 a2,aB j1 j2 j3 m0,fm b9 c0 c8 c9,fC g6 g7 g8 h9,bB A2 n2 c2 a0.Xz,cN g2 g3 g4 i0,ae B6 125 [W none 0 0,W g2 g3 g4],bB d0 d1 d2 a6.m_.XA,bB d3 d4 d6 a6.m_.Xz,fC e0 e1 e2 a6.Yc,fm b5 b6 b7 a6.XN,ax cj ft e3 a6.Yb,ae a8 223 [W d0 d1 d2,W d3 d4 d6,W e0 e1 e2,W b5 b6 b7,.map (some e3),iV a6.XV],aZ h3 h4 h5 m1,aZ h6 h7 h8 m2,ae j7 45 [iV i1,iV i2,iV i8,iV j0,W h3 h4 h5,W h6 h7 h8],bB A1 n1 c1 a0.XA]) ?_ ?_
   ·refine ab ?_;obtain ⟨s3,h⟩:=ac h;refine gE (nr J J s3.1 s3.2) ?_;obtain ⟨y6,h⟩:=ac h;refine ab ?_;obtain ⟨y8,k,h⟩:=aa h;refine BJ (oR (lr k)) ?_;refine gH J h ?_ ?_<;>intro h
    ·refine ab ?_;obtain ⟨y9,k,h⟩:=aa h
     refine Tp (oC (ya k)) fun z1 z2 z6 A0 A8 A9 B0 B4 B7=> ?_
     exact jN
    exact jY
   refine fun s L=>ai fun m0=>ai fun i1=>ai fun i2=>ai fun i8=>ai fun j0=>ai fun m1=>ai fun m2=>ai fun j1=>ai fun j2=>ai fun j3=>ai fun h3=>ai fun h4=>ai fun h5=>ai fun h6=>ai fun h7=>ai fun h8=>xi fun h=> ?_
   obtain ⟨g1,o2,h⟩:=aa h;refine gK (t:=[(1,W A3 n3 c3),(2,W A4 n4 c4),(6,pV B6 0),(7,W none 0 0),(8,W j1 j2 j3),(9,iV 0),(10,pV a8 0),(11,W b9 c0 c8),(12,W g6 g7 g8),(14,pV j7 0),(33,W A2 n2 c2),(34,iV (a0.Xz.length:Int)),(35,iV h2)]) ?_ lg (ah _)
   refine gX I 10 [] [1,9] [52,53,54,55,56,57,58,59,60,61] [[],[0],[],[],[3],[4],[5],[],[2,6,7],[8]] [aV (pV B6 1),
aV (W g2 g3 g4),
aV (.agg #[iV i1,iV i2,iV i8,iV j0,W h3 h4 h5,W h6 h7 h8]),
aV (pV a8 0),
aV (pV a8 0),
aV (pV a8 3),
aV (W b5 b6 b7),
aV (W b9 c0 c8),
aX6 (fun (j8:Option Addr) (j9 k0:Nat) (k2:Option Addr) (k3 k4:Nat)=> .agg #[iV g1.Xw,iV g1.XD,iV g1.XB,iV g1.XC,W j8 j9 k0,W k2 k3 k4]) (fun j8 j9 k0 k2 k3 k4=> [aZ j8 j9 k0 g1.Xy,aZ k2 k3 k4 g1.Xx]),
aX3 (fun (j4:Option Addr) (j5 j6:Nat)=> W j4 j5 j6) (fun j4 j5 j6=> [cN j4 j5 j6 ([g1]:List Vd)])] [] (ah _) (kQ) I rfl rfl ?_ ?_ ?_
   ·exact kP
   ·refine aH J ?_ ?_
    ·intro j8 j9 k0 k2 k3 k4;refine xh (aL (R:=ei) (vss:=[(ga g1 j8 j9 k0 k2 k3 k4)]) (xs:=[g1]) J (vR _ _ _ _ _ _ _ _ _ _) J J (fun _ _ hr=> .cons (⟨_,_,_,_,_,_,J,hr 0 _ J J,hr 1 _ J J⟩) All2.nil)) J ?_;rintro _ _ ⟨u7,u8,u9,rfl,rfl⟩;exact Ia u7 u8 u9 (ah _)
    refine aH J ?_ ?_
    ·refine xh (oR (vl o2)) J ?_;rintro _ _ ⟨_,⟨v1,v2,v6,v7,v8,w0,rfl,rfl⟩,rfl⟩;exact R4 v1 v2 v6 v7 v8 w0 ((bM 0 J).trans ((bM 1 J).trans (ah _)))
    refine qE (ap J) ?_;refine qR (bO 13 J J EX J) ?_;refine qE (jS J BR) ?_;refine qE (bF J) ?_;refine qE (ap J) ?_;refine qR (ja (us:=[iV i1,iV i2,iV i8,iV j0,W h3 h4 h5,W h6 h7 h8]) 16 J J agg45.out J) ?_;refine qR (bO 7 J J HH J) ?_;refine qE (jS J FD) ?_;exact dl
   intro j4 j5 j6;refine nw (t:=[(53,W g2 g3 g4),(61,W j4 j5 j6),(1,W A3 n3 c3),(2,W A4 n4 c4),(6,pV B6 0),(7,W none 0 0),(8,W j1 j2 j3),(9,iV 0),(10,pV a8 0),(11,W b9 c0 c8),(12,W g6 g7 g8),(14,pV j7 0),(33,W A2 n2 c2),(34,iV (a0.Xz.length:Int)),(35,iV h2)]) (L':=[cN j4 j5 j6 ([g1]:List Vd),aZ A3 n3 c3 a1,fC A4 n4 c4 a2,aB j1 j2 j3 m0,fm b9 c0 c8 c9,fC g6 g7 g8 h9,bB A2 n2 c2 a0.Xz,cN g2 g3 g4 i0,ae B6 125 [W none 0 0,W g2 g3 g4],bB d0 d1 d2 a6.m_.XA,bB d3 d4 d6 a6.m_.Xz,fC e0 e1 e2 a6.Yc,fm b5 b6 b7 a6.XN,ax cj ft e3 a6.Yb,ae a8 223 [W d0 d1 d2,W d3 d4 d6,W e0 e1 e2,W b5 b6 b7,.map (some e3),iV a6.XV],aZ h3 h4 h5 m1,aZ h6 h7 h8 m2,ae j7 45 [iV i1,iV i2,iV i8,iV j0,W h3 h4 h5,W h6 h7 h8],bB A1 n1 c1 a0.XA]) ?_ lg (ah _);obtain ⟨w1,h⟩:=ac h;refine qj 10 J I (aP 7 0 J J aj J J UW Is J J w1) J J J ?_;rintro _ _ ⟨s4,s5,s6,rfl,rfl⟩;refine xW ?_;refine DT 11 J I (jS J FD) J J J ?_;refine rN 12 J I (ar (us:=[W s4 s5 s6]) (cs':=[W none 0 0,W s4 s5 s6]) 8 J J J J size123.out J J J) J J ?_;rintro _ _ rfl;refine lc I ?_;refine ab ?_;obtain ⟨B9,h⟩:=ac h;exact lY
  exact jY
 rintro _ _ ⟨l2,g5,l3,l4,l5,l6,g9,h0,h1,l7,l8,l9,h,rfl,rfl⟩;refine ak (fun s L=> ∃o3 o4 o5 p0 p1 p2 k5 k6 k7 k8 k9 l0,nQ N a1 c9 a6 a0 o3 o4 o5=some r/\s=[(1,W A3 n3 c3),(6,pV B6 0),(7,W none 0 0),(8,W p0 p1 p2),(9,iV 0),(10,pV a8 0),(11,W b9 c0 c8)]/\L=[aZ A3 n3 c3 a1,aB p0 p1 p2 o3,fm b9 c0 c8 c9,cN k5 k6 k7 o4,cN k8 k9 l0 o5,ae B6 125 [W k5 k6 k7,W k8 k9 l0],bB d0 d1 d2 a6.m_.XA,bB d3 d4 d6 a6.m_.Xz,fC e0 e1 e2 a6.Yc,fm b5 b6 b7 a6.XN,ax cj ft e3 a6.Yb,ae a8 223 [W d0 d1 d2,W d3 d4 d6,W e0 e1 e2,W b5 b6 b7,.map (some e3),iV a6.XV],bB A1 n1 c1 a0.XA,bB A2 n2 c2 a0.Xz]) ?_ ?_
 ·refine ab ?_;refine gZ (fun m s L=> ∃p3 l1 p4 p5 p6 p7 p8 q0 q1 q2 q3 q4 q5,fj N a6 a1 c9 g5 a0 m p3 l1 p4 p5=some r/\s=[(1,W A3 n3 c3),(6,pV B6 0),(7,W none 0 0),(8,W p6 p7 p8),(9,iV 0),(10,pV a8 0),(11,W b9 c0 c8),(12,W g9 h0 h1),(68,W b5 b6 b7),(69,iV (a6.XN.length:Int)),(70,iV l1)]/\L=[aZ A3 n3 c3 a1,aB p6 p7 p8 p3,fm b9 c0 c8 c9,fC g9 h0 h1 g5,fm b5 b6 b7 a6.XN,cN q0 q1 q2 p4,cN q3 q4 q5 p5,ae B6 125 [W q0 q1 q2,W q3 q4 q5],bB d0 d1 d2 a6.m_.XA,bB d3 d4 d6 a6.m_.Xz,fC e0 e1 e2 a6.Yc,ax cj ft e3 a6.Yb,ae a8 223 [W d0 d1 d2,W d3 d4 d6,W e0 e1 e2,W b5 b6 b7,.map (some e3),iV a6.XV],bB A1 n1 c1 a0.XA,bB A2 n2 c2 a0.Xz]) N _ _ ⟨l2,0,[],l3,l4,l5,l6,none,0,0,l7,l8,l9,h,J,J⟩ sA ((bq ei 45 _).trans (cS [1,2,3,4,10,0,5,6,7,8,9,11,12,13,14] 15)) ?_;rintro (_|w2)
  all_goals (refine fun s L=>ai fun p3=>ai fun l1=>ai fun p4=>ai fun p5=>ai fun p6=>ai fun p7=>ai fun p8=>ai fun q0=>ai fun q1=>ai fun q2=>ai fun q3=>ai fun q4=>ai fun q5=>xi fun h=> ?_)
  ·exact az h
  rw [fj.eq_2] at h;refine ab ?_;refine au ?_;refine gH J h ?_ ?_<;>intro h
  ·refine ab ?_;refine ak (fun s L=> ∃q6 q7 q8 q9 r0 r1 r2 r3 r4 r5 r6 s0,kA N (fj N a6 a1 c9 g5 a0 w2) a6 l1 a1 c9 g5 a0 q6 q7 q8=some r/\s=[(1,W A3 n3 c3),(6,pV B6 0),(7,W none 0 0),(8,W q9 r0 r1),(9,iV 0),(10,pV a8 0),(11,W b9 c0 c8),(12,W g9 h0 h1),(68,W b5 b6 b7),(69,iV (a6.XN.length:Int)),(70,iV l1)]/\L=[aZ A3 n3 c3 a1,aB q9 r0 r1 q6,fm b9 c0 c8 c9,fC g9 h0 h1 g5,fm b5 b6 b7 a6.XN,cN r2 r3 r4 q7,cN r5 r6 s0 q8,ae B6 125 [W r2 r3 r4,W r5 r6 s0],bB d0 d1 d2 a6.m_.XA,bB d3 d4 d6 a6.m_.Xz,fC e0 e1 e2 a6.Yc,ax cj ft e3 a6.Yb,ae a8 223 [W d0 d1 d2,W d3 d4 d6,W e0 e1 e2,W b5 b6 b7,.map (some e3),iV a6.XV],bB A1 n1 c1 a0.XA,bB A2 n2 c2 a0.Xz]) ?_ ?_
   ·refine ab ?_;obtain ⟨L0,w3,w4,w5,h⟩:=aI h;refine ab ?_;obtain ⟨L1,k,h⟩:=aa h
    refine Ua (oC (gu k)) fun L2 L3 L4 L5 L6 L7=> ?_
    intro L8;refine ab ?_;obtain ⟨L9,k,h⟩:=aa h
    refine Tp (oC (ya k)) fun M0 M1 M4 M5 M8 Q1 S0 S1 S2=> ?_
    refine dY [] ?_;refine ab ?_;obtain ⟨b0,k,h⟩:=aa h
    refine Um 6 J (oR (vl k)) fun m3 m4 m5 m6 m7 m8=> ?_
    refine oN 7 J I I (ar (us:=(ga b0 m3 m4 m5 m6 m7 m8)) (cs':=(ga b0 m3 m4 m5 m6 m7 m8)) 5 J J J J size45.out J J J) ?_;rintro _ _ rfl;refine bf ?_;refine ab ?_;obtain ⟨S3,w6,w7,w8,h⟩:=aI h;refine ab ?_;obtain ⟨S4,k,h⟩:=aa h;refine BJ (oR (ne k)) ?_;refine gH J h ?_ ?_<;>intro h
    ·refine ab ?_;refine rO (bM 0 J) ?_;refine rO (bM 1 J) ?_;refine gD (aL (R:=ei) (vss:=[[iV b0.Xw,iV b0.XD,iV b0.XB,iV 1,W m3 m4 m5,W m6 m7 m8]]) (xs:=[(⟨b0.Xw,b0.XD,b0.XB,1,b0.Xy,b0.Xx⟩:Vd)]) J (vR _ _ _ _ _ _ _ _ _ _) J J (fun _ _ hr=> .cons (⟨_,_,_,_,_,_,J,hr 0 _ J J,hr 1 _ J J⟩) All2.nil)) ?_;rintro _ _ ⟨S5,S6,S7,rfl,rfl⟩;obtain ⟨w9,h⟩:=ac h
     refine rP (aP 15 0 J J aj J J UW Is J J w9) fun S8 S9 T0=> ?_
     exact jN
    refine ab ?_;refine rO (bM 0 J) ?_;refine rO (bM 1 J) ?_;refine ab ?_;refine gD (aL (R:=ei) (vss:=[[iV b0.Xw,iV b0.XD,iV b0.XB,iV 1,W m3 m4 m5,W m6 m7 m8]]) (xs:=[(⟨b0.Xw,b0.XD,b0.XB,1,b0.Xy,b0.Xx⟩:Vd)]) J (vR _ _ _ _ _ _ _ _ _ _) J J (fun _ _ hr=> .cons (⟨_,_,_,_,_,_,J,hr 0 _ J J,hr 1 _ J J⟩) All2.nil)) ?_;rintro _ _ ⟨x1,x2,x3,rfl,rfl⟩;obtain ⟨s1,h⟩:=ac h
    refine rP (aP 16 0 J J aj J J UW Is J J s1) fun x4 x5 x6=> ?_
    exact jN
   rintro _ _ ⟨q6,q7,q8,q9,r0,r1,r2,r3,r4,r5,r6,s0,h,rfl,rfl⟩;refine ab ?_;obtain ⟨x7,h⟩:=ac h;exact lY
  exact jY
 rintro _ _ ⟨o3,o4,o5,p0,p1,p2,k5,k6,k7,k8,k9,l0,h,rfl,rfl⟩;refine dY [0,1,2,3,4,5,6,8,9,10,11,12,13] ?_;obtain ⟨x8,k,h⟩:=aa h
 refine yD 7 J (oR (xY k)) fun x9 y0 y1=> ?_
 obtain ⟨y2,k,h⟩:=aa h
 refine yD 14 J (oR (xY k)) fun y3 y4 y5=> ?_
 refine zO 15 J (ar (us:=[W k5 k6 k7,W k8 k9 l0]) (cs':=[W k5 k6 k7,W k8 k9 l0]) 7 J J J J size125.out J J J) ?_;rintro _ _ rfl;refine aW ?_;refine bf ?_;refine zX [16,17,18] ?_;exact eY
def nk (a0:Vw)(a1:Vv):Option ((Ve×Vw×Vw) ⊕ (Ve×Vw×Vw)):=
 (mw N a1.XO).bind fun a6=>(dQ N a1.m_ a0 a6).bind fun a8=>yL a8 (fun y13_0=>some (.inl (y13_0.1,y13_0.2.1,y13_0.2.2))) (fun y13_1=>some (.inr (y13_1.1,y13_1.2.1,y13_1.2.2)))
theorem cn {N:Nat}{a0:Vw}{a1:Vv}{r:((Ve×Vw×Vw) ⊕ (Ve×Vw×Vw))}(h:nk N a0 a1=some r):Okc VK 100 [W A1 n1 c1,pV B2 0] ([aZ A1 n1 c1 a0,aC B2 60 [pV B3 0],ae B3 128 [W A4 n4 c4,W A5 n5 c5,W A6 n6 c6,W A7 n7 c7,pV B8 0],cN A4 n4 c4 a1.m_.XA,cN A5 n5 c5 a1.m_.Xz,aB A6 n6 c6 a1.XJ,aB A7 n7 c7 a1.XP,ae B8 186 [.map (some M9)],ax cj ft M9 a1.XO.at_]) (fun u post=>Px (fun (r:Ve×Vw×Vw)=> ∃a6 a8 b0 b5 b6 b7 b9 c0 c8 c9 d0 d1,u=.tuple #[.agg #[W a6 a8 b0,W b5 b6 b7],W b9 c0 c8,W c9 d0 d1,iV 1]/\post=[cN a6 a8 b0 r.1.XA,cN b5 b6 b7 r.1.Xz,aB b9 c0 c8 r.2.1,aB c9 d0 d1 r.2.2,cN A4 n4 c4 a1.m_.XA,cN A5 n5 c5 a1.m_.Xz,aB A6 n6 c6 a1.XJ,aB A7 n7 c7 a1.XP,ae B3 128 [W A4 n4 c4,W A5 n5 c5,W A6 n6 c6,W A7 n7 c7,pV B8 0],ae B8 186 [.map (some M9)],ax cj ft M9 a1.XO.at_]) (fun (r:Ve×Vw×Vw)=> ∃a6 a8 b0 b5 b6 b7 b9 c0 c8 c9 d0 d1,u=.tuple #[.agg #[W a6 a8 b0,W b5 b6 b7],W b9 c0 c8,W c9 d0 d1,iV 0]/\post=[cN a6 a8 b0 r.1.XA,cN b5 b6 b7 r.1.Xz,aB b9 c0 c8 r.2.1,aB c9 d0 d1 r.2.2,aB A6 n6 c6 a1.XJ,aB A7 n7 c7 a1.XP,ae B3 128 [W A4 n4 c4,W A5 n5 c5,W A6 n6 c6,W A7 n7 c7,pV B8 0],ae B8 186 [.map (some M9)],ax cj ft M9 a1.XO.at_]) r):=by
 refine bX Tryz.func100 ?_;intro e9;refine ab ?_;refine au ?_;refine bi I ([ae e9 125 [W none 0 0,W none 0 0],aZ A1 n1 c1 a0,aC B2 60 [pV B3 0],ae B3 128 [W A4 n4 c4,W A5 n5 c5,W A6 n6 c6,W A7 n7 c7,pV B8 0],aB A6 n6 c6 a1.XJ,aB A7 n7 c7 a1.XP,ae B8 186 [.map (some M9)],ax cj ft M9 a1.XO.at_]) (cS [0,1,2,3,6,7,8,9] 10) ?_;refine zY [0,1,2,3,4,5,6,7,8] ?_;obtain ⟨f2,k,h⟩:=aa h
 refine yD 9 J (oR (Ae k)) fun f3 f4 f9=> ?_
 refine lb (bM 0 J) (cS [1,2,3,4,7,8,9,10] 11) ?_;obtain ⟨f1,d2,h⟩:=aa h;rcases f1 with y13_0|y13_1
 ·replace h:=Cq h
  refine AJ 10 J (oC (tT d2)) fun d3 d4 d6 e0 e1 e2 g0 g1 g2 g3 g4 g5=> ?_
  refine zY [11,12,13,14] ?_;refine oN 15 J I I (ar (us:=[W d3 d4 d6,W e0 e1 e2]) (cs':=[W d3 d4 d6,W e0 e1 e2]) 7 J J J J size125.out J J J) ?_;rintro _ _ rfl;refine bf ?_;refine zX [16,17,18] ?_;exact eY
 replace h:=Cp h
 refine AJ 10 J (oC (tT d2)) fun e3 e4 e5 e6 e7 e8 g6 g7 g8 g9 h0 h1=> ?_
 refine zY [11,12,13,14] ?_;refine oN 15 J I I (ar (us:=[W e3 e4 e5,W e6 e7 e8]) (cs':=[W e3 e4 e5,W e6 e7 e8]) 5 J J J J size125.out J J J) ?_;rintro _ _ rfl;refine zX [16,17,18] ?_;exact eY
def iu (N:Nat)(p3:Vw):Option Vw:=
 some p3
def mi (a1:Int):Option Vw:=
 bif decide (a1<0) then none else (aD (in64 (0 - 0)) (aD (in64 (a1 - (0 - 0))) (bif decide (0<a1 - (0 - 0)) then (aD ((0:Int)<(a1 - (0 - 0))/\(a1 - (0 - 0))<=1099511627776) (iu N ([]:List Vp))) else (iu N []))))
theorem wb {N:Nat}{r:Vw}(h:mi N a1=some r):Okc VK 114 [W none 0 0,iV a1] ([]) (fun u post=> ∃A0 n0 c0,u=W A0 n0 c0/\post=[aB A0 n0 c0 r]):=by
 refine bX Tryz.func114 ?_;refine sZ ?_;refine gH J h ?_ ?_<;>intro h
 ·exact az h
 refine ab ?_;refine ak (fun s L=> ∃p3 A3 n3 c3,iu N p3=some r/\s=[(0,W A3 n3 c3),(4,W none 0 0)]/\L=[aB A3 n3 c3 p3]) ?_ ?_
 ·refine ab ?_;refine dK (zh J t9) ?_;refine gE (pT J t9) ?_;obtain ⟨q4,h⟩:=ac h;refine ab ?_;obtain ⟨q5,h⟩:=ac h;refine dU h ?_ ?_<;>intro h
  ·refine ab ?_;refine gE (zh J t9) ?_;refine dK (CZ J t9 size29.out J) ?_;obtain ⟨q7,h⟩:=ac h
   refine rP (Al J J t9 z9 AI J q7.1 q7.2) fun A8 n8 c8=> ?_
   refine gE (pT J t9) ?_
   refine rP (HF (R:=av) 0 J J t9 size29.out J J) fun A9 n9 c9=> ?_
   exact jN
  refine ab ?_;exact ⟨_,_,⟨[],none,0,0,h,J,J⟩,sA,(bq av 29 _).trans (cS [0] 1)⟩
 rintro _ _ ⟨p3,A3,n3,c3,h,rfl,rfl⟩;exact eY
def kI (N:Nat)(a6:Vw):Option Vw:=
 some a6
def ls (a0_0 a0_1:Vw):Option Vw:=
 (mi N ((0+(a0_0.length:Int))+(a0_1.length:Int))).bind fun y9=>aD (bY (y9.length+a0_0.length)) (aD (bY ((y9++a0_0).length+a0_1.length)) (kI N ((y9++a0_0)++a0_1)))
def cm (a0_0 a0_1:Vw):Option Vw:=
 aD (in64 (0+(a0_0.length:Int))) (bif decide (0+(a0_0.length:Int)<0) then none else (aD (in64 ((0+(a0_0.length:Int))+(a0_1.length:Int))) (bif decide ((0+(a0_0.length:Int))+(a0_1.length:Int)<0) then none else (ls N a0_0 a0_1))))
theorem bA {N:Nat}{a0_0 a0_1 r:Vw}(h:cm N a0_0 a0_1=some r):Okc VK 68 [.slice (some ⟨B1,0,none⟩) 2 2] ([aC B1 43 [W A2 n2 c2,W A3 n3 c3],aZ A2 n2 c2 a0_0,aZ A3 n3 c3 a0_1]) (fun u post=> ∃A0 n0 c0,u=W A0 n0 c0/\post=[aB A0 n0 c0 r]):=by
 refine bX Tryz.func68 ?_;refine ak (fun s L=>ls N a0_0 a0_1=some r/\s=[(0,.slice (some ⟨B1,0,none⟩) 2 2),(2,W none 0 0),(3,iV ((0+(a0_0.length:Int))+(a0_1.length:Int)))]/\L=[aZ A2 n2 c2 a0_0,aZ A3 n3 c3 a0_1,aC B1 43 [W A2 n2 c2,W A3 n3 c3]]) ?_ ?_
 ·refine ab ?_;refine dK (pT J U8) ?_;refine uw 3 ?_;refine vm ?_;refine ab ?_;refine au ?_;refine cz J ?_;refine sY ?_;refine dK (oY J J U8 size43.out (by decide) (by decide)) ?_;obtain ⟨q5,h⟩:=ac h;refine dU h ?_ ?_<;>intro h
  ·exact az h
  refine ab ?_;refine dK (fU J J (by decide) (by decide)) ?_;refine vm ?_;refine ab ?_;refine au ?_;refine cz J ?_;refine sY ?_;refine dK (oY J J U8 size43.out (by decide) (by decide)) ?_;obtain ⟨q7,h⟩:=ac h;refine dU h ?_ ?_<;>intro h
  ·exact az h
  refine ab ?_;refine dK (fU J J (by decide) (by decide)) ?_;refine vm ?_;refine ab ?_;refine au ?_;refine cP J ?_;exact jY
 rintro _ _ ⟨h,rfl,rfl⟩
 refine JS h (fun _ k=>wb k) fun y9 b9 c8 c9 h=> ?_
 refine ak (fun s L=> ∃a6 a8 b0 b5,kI N a6=some r/\s=[(2,W none 0 0),(6,W a8 b0 b5)]/\L=[aB a8 b0 b5 a6]) ?_ ?_
 ·refine ab ?_;refine dK (pT J U8) ?_;refine uw 3 ?_;refine vm ?_;refine ab ?_;refine au ?_;refine cz J ?_;refine sY ?_;refine dK (oY J J U8 size43.out (by decide) (by decide)) ?_;obtain ⟨b6,h⟩:=ac h
  refine rP (aP 0 1 J J bU J J t9 AI J J b6) fun d0 d1 d2=> ?_
  refine dK (fU J J (by decide) (by decide)) ?_;refine vm ?_;refine ab ?_;refine au ?_;refine cz J ?_;refine sY ?_;refine dK (oY J J U8 size43.out (by decide) (by decide)) ?_;obtain ⟨b7,h⟩:=ac h
  refine rP (aP 0 2 J J bU J J t9 AI J J b7) fun d3 d4 d6=> ?_
  refine dK (fU J J (by decide) (by decide)) ?_;refine vm ?_;refine ab ?_;refine au ?_;refine cP J ?_;exact jY
 rintro _ _ ⟨a6,a8,b0,b5,h,rfl,rfl⟩;exact eY
def oS (N:Nat)(a0:Vt):Option Vt:=
 some (⟨[]⟩:Vt)
theorem zr {N:Nat}{a0 r:Vt}(h:oS N a0=some r):Okc VK 190 [pV B1 0] ([ae B1 186 [.map (some M2)],ax cj ft M2 a0.at_]) (fun u post=> ∃M0,u=.tuple #[]/\post=[ae B1 186 [.map (some M0)],ax cj ft M0 r.at_]):=by
 refine bX Tryz.func190 ?_;refine dK (td J UZ) ?_;refine cz J ?_;refine ab ?_;refine Gc (NW 1 J J U3) ?_;exact eN
def fe (N:Nat)(a1:Ve):Nat->Int->VG->Option Vt
 |0,_,_=>none
 |m8+1,p9,a6=>bif decide (p9<(a1.Xz.length:Int)) then ((ao a1.Xz p9).bind fun a8=>aD (in64 (2*p9)) (aD (in64 ((2*p9)+2)) ((cB N (⟨a6⟩:Vt) ((2*p9)+2) a8).bind fun b0=>aD (in64 (p9+1)) ((fe N a1 m8) (p9+1) b0.2.at_)))) else (some (⟨a6⟩:Vt))
def cI (a0:Vt)(a1:Ve):Option Vt:=
 (oS N a0).bind fun y6=>fe N a1 N 0 y6.at_
theorem sv {N:Nat}{a0:Vt}{a1:Ve}{r:Vt}(h:cI N a0 a1=some r):Okc VK 146 [pV B1 0,.agg #[W A3 n3 c3,W A4 n4 c4]] ([bB A3 n3 c3 a1.XA,bB A4 n4 c4 a1.Xz,ae B1 186 [.map (some M2)],ax cj ft M2 a0.at_]) (fun u post=> ∃M0,u=.tuple #[]/\post=[ae B1 186 [.map (some M0)],ax cj ft M0 r.at_]):=by
 refine bX Tryz.func146 ?_;intro B5;refine sY ?_;refine dK (dz J UZ) ?_;refine cP J ?_;refine ab ?_;obtain ⟨y6,k,h⟩:=aa h;refine gD (oC (zr k)) ?_;rintro _ _ ⟨_,⟨M7,rfl,rfl⟩,rfl⟩;refine ab ?_;refine lK (fun m s L=> ∃(p9:Int) (a6:VG) (a8:Nat),fe N a1 m p9 a6=some r/\s=[(0,pV B1 0),(11,W A4 n4 c4),(12,iV (a1.Xz.length:Int)),(13,iV p9)]/\L=[bB A4 n4 c4 a1.Xz,ax cj ft a8 a6,ae B1 186 [.map (some a8)]]) N ?_;rintro m8 _ _ ⟨p9,a6,a8,h,rfl,rfl⟩;rw [fe.eq_2] at h;refine ab ?_;refine au ?_;refine gH J h ?_ ?_<;>intro h
 ·refine sY ?_;obtain ⟨b5,b7,b9,b0,h⟩:=aI h;refine ab ?_;refine Ch 0 J b0 (ke b5) ?_;rintro _ _ ⟨c0,c8,c9,d0,d1,d2,rfl,rfl⟩;refine H0 (sI (us:=(ga b5 c0 c8 c9 d0 d1 d2)) 0 J J agg45.out J) ?_;intro d3;refine ab ?_;obtain ⟨b6,h⟩:=ac h;refine gE (nr J J b6.1 b6.2) ?_;obtain ⟨d4,h⟩:=ac h;refine ab ?_;obtain ⟨d6,k,h⟩:=aa h;refine gD (oC (iT k)) ?_;rintro _ _ ⟨_,⟨e0,rfl,rfl⟩,rfl⟩;refine ab ?_;obtain ⟨e1,h⟩:=ac h;exact lY
 exact eY
theorem py {r:Vt}{B1:Nat}: ∀v post,((fun (u:Value) (post:VI)=> ∃M0,u=.tuple #[]/\post=[ae B1 186 [.map (some M0)],ax cj ft M0 r.at_])) v post-> ∀c∈post,mN c:=by
 rintro _ _ ⟨_,rfl,rfl⟩;exact t0 BL (t0 CX (aQ))
def gy (N:Nat)(a0:Vv)(p13 a6:VF)(a8 b0:Vw):Option (Int×Vv):=
 some (1,a0)
def gx (a6 a8:VF)(a0:Vv)(b0 b5:Vw):Option (Int×Vv):=
 (cI N a0.XO (⟨a6,a8⟩:Ve)).bind fun b6=>some (0,(⟨(⟨a6,a8⟩:Ve),b0,b5,b6⟩:Vv))
def dR (a0:Vv)(a6 a8:VF)(p21 b0:Vw):Option (Int×Vv):=
 aD ((0:Int)<=(a0.XJ.length:Int)/\0<=(a0.XJ.length:Int).toNat/\(a0.XJ.length:Int).toNat<=p21.length) (aD ((0:Int)<=(a0.XJ.length:Int)/\(a0.XJ.length:Int).toNat<=p21.length/\p21.length<=p21.length) ((cx N ((p21.drop 0).take ((a0.XJ.length:Int).toNat - 0))).bind fun b5=>(cm N ((p21.drop ((a0.XJ.length:Int).toNat)).take (p21.length - (a0.XJ.length:Int).toNat)) b0).bind fun b6=>gx N a6 a8 a0 b5 b6))
def iw (a0:Vv):Option (Int×Vv):=
 (aF N a0).bind fun y9=>bif y9 then (some (1,a0)) else ((cm N a0.XJ a0.XP).bind fun a6=>(nk N a6 a0).bind fun a8=>yL a8 (fun y26_0=>gy N a0 y26_0.1.XA y26_0.1.Xz y26_0.2.1 y26_0.2.2) (fun y26_1=>dR N a0 y26_1.1.XA y26_1.1.Xz y26_1.2.1 y26_1.2.2))
theorem sb {N:Nat}{r:Int×Vv}(h:iw N a0=some r):Okc VK 97 [pV B1 0,.func (.func 100) #[] #[pV B8 0]] ([aC B8 60 [pV B1 0],ae B1 128 [W A2 n2 c2,W A3 n3 c3,W A4 n4 c4,W A5 n5 c5,pV B6 0],cN A2 n2 c2 a0.m_.XA,cN A3 n3 c3 a0.m_.Xz,aB A4 n4 c4 a0.XJ,aB A5 n5 c5 a0.XP,ae B6 186 [.map (some M7)],ax cj ft M7 a0.XO.at_]) (fun u post=> ∃A0 n0 c0 A1 n1 c1 A2 n2 c2 A3 n3 c3 M4,u=iV r.1/\post=[ae B1 128 [W A0 n0 c0,W A1 n1 c1,W A2 n2 c2,W A3 n3 c3,pV B6 0],cN A0 n0 c0 r.2.m_.XA,cN A1 n1 c1 r.2.m_.Xz,aB A2 n2 c2 r.2.XJ,aB A3 n3 c3 r.2.XP,ae B6 186 [.map (some M4)],ax cj ft M4 r.2.XO.at_]):=by
 refine bX Tryz.func97 ?_;refine sZ ?_
 refine cR h (fun _ k=>bW k) fun y9 h=> ?_
 refine gH J h ?_ ?_<;>intro h
 ·exact eY
 refine ab ?_;refine ak (fun s L=>(∃p13 j4 j5 j6 j7 j8 j9 k0 k2 k3 k4 k5 k6 k7 k8 k9 l0,gy N a0 p13 j4 j5 j6=some r/\s=[(0,pV B1 0),(4,iV 0),(5,pV j7 0),(6,W k5 k6 k7),(7,W k8 k9 l0),(8,iV 1)]/\L=[cN j8 j9 k0 p13,cN k2 k3 k4 j4,ae j7 125 [W j8 j9 k0,W k2 k3 k4],aB k5 k6 k7 j5,aB k8 k9 l0 j6,cN A2 n2 c2 a0.m_.XA,cN A3 n3 c3 a0.m_.Xz,aB A4 n4 c4 a0.XJ,aB A5 n5 c5 a0.XP,ae B1 128 [W A2 n2 c2,W A3 n3 c3,W A4 n4 c4,W A5 n5 c5,pV B6 0],ax cj ft M7 a0.XO.at_,ae B6 186 [.map (some M7)]])\/(∃(e4:VF) (e5:VF) (p21:Vw) (i0:Vw) (i1:Nat) (a6:Option Addr) (a8 b0:Nat) (b5:Option Addr) (b6 b7:Nat) (i2:Option Addr) (i8 j0:Nat) (g2:Option Addr) (g3 g4:Nat),dR N a0 e4 e5 p21 i0=some r/\s=[(0,pV B1 0),(4,iV 0),(5,pV i1 0),(6,W i2 i8 j0),(7,W g2 g3 g4),(8,iV 0)]/\L=[cN a6 a8 b0 e4,cN b5 b6 b7 e5,ae i1 125 [W a6 a8 b0,W b5 b6 b7],aB i2 i8 j0 p21,aB g2 g3 g4 i0,aB A4 n4 c4 a0.XJ,aB A5 n5 c5 a0.XP,ae B1 128 [W A2 n2 c2,W A3 n3 c3,W A4 n4 c4,W A5 n5 c5,pV B6 0],ax cj ft M7 a0.XO.at_,ae B6 186 [.map (some M7)]])) ?_ ?_
 ·refine bi I ([aC B8 60 [pV B1 0],ae B1 128 [W A2 n2 c2,W A3 n3 c3,W A4 n4 c4,W A5 n5 c5,pV B6 0],aB A4 n4 c4 a0.XJ,aB A5 n5 c5 a0.XP,ae B6 186 [.map (some M7)],ax cj ft M7 a0.XO.at_]) (cS [0,1,4,5,6,7] 8) ?_;refine zY [0,1,2,3,4,5,6,7,8] ?_;refine o7 9 17 I ?_ ?_
  ·refine bJ J (iW (cs:=[W A4 n4 c4,W A5 n5 c5]) J (nJ _ _ _ _ _ _)) J J J ?_;rintro _ _ ⟨l1,rfl,rfl⟩;refine aW ?_;refine o7 10 17 I ?_ ?_
   ·obtain ⟨o5,k,h⟩:=aa h;refine bJ J (oR (bA k)) J J J ?_;rintro _ _ ⟨_,⟨p0,p1,p2,rfl,rfl⟩,rfl⟩;refine aW ?_;refine o7 11 17 I ?_ ?_
    ·refine yH (bM 0 J) (cS [2,3,6,7,8,9] 10) ?_;refine Rb ?_;obtain ⟨m7,g5,h⟩:=aa h;rcases m7 with y26_0|y26_1
     ·replace h:=Cq h;refine bJ J (gr (cn g5) J J J (dA [0,2] [3,4,5,6,7,8,9] [0,1,2] 10 J)) J J J ?_;rintro _ _ ⟨_,⟨l2,l3,l4,c8,c9,d0,e1,e2,e3,e6,e7,e8,rfl,rfl⟩,rfl⟩;refine aW ?_;refine bf ?_;refine zY [12,13,14,15,16] ?_
      refine Gj 17 J (cF zero125.out J) fun m8=> ?_
      refine zO 18 J (ar (us:=[W l2 l3 l4,W c8 c9 d0]) (cs':=[W l2 l3 l4,W c8 c9 d0]) 0 J J J J size125.out J J J) ?_;rintro _ _ rfl;refine aW ?_;refine bf ?_;refine zX [19,20,21] ?_;refine ab ?_;exact ⟨_,_,.inl (⟨y26_0.1.XA,y26_0.1.Xz,y26_0.2.1,y26_0.2.2,m8,l2,l3,l4,c8,c9,d0,e1,e2,e3,e6,e7,e8,h,J,J⟩),sA,cS [1,2,0,3,4,5,6,7,8,9,11,10] 15⟩
     replace h:=Cp h;refine bJ J (gr (cn g5) J J J (dA [0,2] [3,4,5,6,7,8,9] [0,1,2] 10 J)) J J J ?_;rintro _ _ ⟨_,⟨d1,d2,d3,d4,d6,e0,e9,f1,f2,f3,f4,f9,rfl,rfl⟩,rfl⟩;refine aW ?_;refine bf ?_;refine zY [12,13,14,15,16] ?_
     refine Gj 17 J (cF zero125.out J) fun m9=> ?_
     refine zO 18 J (ar (us:=[W d1 d2 d3,W d4 d6 e0]) (cs':=[W d1 d2 d3,W d4 d6 e0]) 0 J J J J size125.out J J J) ?_;rintro _ _ rfl;refine aW ?_;refine bf ?_;refine zX [19,20,21] ?_;refine ab ?_;exact ⟨_,_,.inr (⟨y26_1.1.XA,y26_1.1.Xz,y26_1.2.1,y26_1.2.2,m9,d1,d2,d3,d4,d6,e0,e9,f1,f2,f3,f4,f9,h,J,J⟩),sA,cS [1,2,0,3,4,5,6,7,9,8] 13⟩
    refine bJ J (cF zero125.out J) J J J ?_;rintro _ _ ⟨m3,rfl,rfl⟩;refine aW ?_;refine lb (bM 1 J) (cS [3,4,7,8,9,10] 11) ?_;refine bf ?_;obtain ⟨g6,b9,h⟩:=aa h;rcases g6 with y27_0|y27_1
    ·replace h:=Cq h
     refine AJ 11 J (gr (cn b9) J J J (dA [1,3] [4,5,6,7,8,9,10] [0,1,2,3] 11 J)) fun c8 c9 d0 e1 e2 e3 e6 e7 e8 g7 g8 g9=> ?_
     refine zY [12,13,14,15,16] ?_;refine zO 18 J (ar (us:=[W c8 c9 d0,W e1 e2 e3]) (cs':=[W c8 c9 d0,W e1 e2 e3]) 11 J J J J size125.out J J J) ?_;rintro _ _ rfl;refine aW ?_;refine bf ?_;refine zX [19,20,21] ?_;refine ab ?_;exact ⟨_,_,.inl (⟨y27_0.1.XA,y27_0.1.Xz,y27_0.2.1,y27_0.2.2,m3,c8,c9,d0,e1,e2,e3,e6,e7,e8,g7,g8,g9,h,J,J⟩),sA,cS [0,1,11,2,3,4,5,6,7,8,10,9] 15⟩
    replace h:=Cp h
    refine AJ 11 J (gr (cn b9) J J J (dA [1,3] [4,5,6,7,8,9,10] [0,1,2,3] 11 J)) fun d1 d2 d3 d4 d6 e0 e9 f1 f2 f3 f4 f9=> ?_
    refine zY [12,13,14,15,16] ?_;refine zO 18 J (ar (us:=[W d1 d2 d3,W d4 d6 e0]) (cs':=[W d1 d2 d3,W d4 d6 e0]) 9 J J J J size125.out J J J) ?_;rintro _ _ rfl;refine aW ?_;refine bf ?_;refine zX [19,20,21] ?_;refine ab ?_;exact ⟨_,_,.inr (⟨y27_1.1.XA,y27_1.1.Xz,y27_1.2.1,y27_1.2.2,m3,d1,d2,d3,d4,d6,e0,e9,f1,f2,f3,f4,f9,h,J,J⟩),sA,cS [0,1,9,2,3,4,5,6,8,7] 13⟩
   refine bJ J (cF zero125.out J) J J J ?_;rintro _ _ ⟨l5,rfl,rfl⟩;refine aW ?_;obtain ⟨n8,g0,h⟩:=aa h
   refine yD 10 J (oR (bA g0)) fun n9 o0 o1=> ?_
   refine lb (bM 0 J) (cS [3,4,7,8,9,10] 11) ?_;refine bf ?_;obtain ⟨g6,b9,h⟩:=aa h;rcases g6 with y27_0|y27_1
   ·replace h:=Cq h
    refine AJ 11 J (gr (cn b9) J J J (dA [0,3] [4,5,6,7,8,9,10] [0,1,2,3] 11 J)) fun c8 c9 d0 e1 e2 e3 e6 e7 e8 g7 g8 g9=> ?_
    refine zY [12,13,14,15,16] ?_;refine zO 18 J (ar (us:=[W c8 c9 d0,W e1 e2 e3]) (cs':=[W c8 c9 d0,W e1 e2 e3]) 12 J J J J size125.out J J J) ?_;rintro _ _ rfl;refine aW ?_;refine bf ?_;refine zX [19,20,21] ?_;refine ab ?_;exact ⟨_,_,.inl (⟨y27_0.1.XA,y27_0.1.Xz,y27_0.2.1,y27_0.2.2,l5,c8,c9,d0,e1,e2,e3,e6,e7,e8,g7,g8,g9,h,J,J⟩),sA,cS [0,1,12,2,3,4,5,6,7,8,10,9] 15⟩
   replace h:=Cp h
   refine AJ 11 J (gr (cn b9) J J J (dA [0,3] [4,5,6,7,8,9,10] [0,1,2,3] 11 J)) fun d1 d2 d3 d4 d6 e0 e9 f1 f2 f3 f4 f9=> ?_
   refine zY [12,13,14,15,16] ?_;refine zO 18 J (ar (us:=[W d1 d2 d3,W d4 d6 e0]) (cs':=[W d1 d2 d3,W d4 d6 e0]) 10 J J J J size125.out J J J) ?_;rintro _ _ rfl;refine aW ?_;refine bf ?_;refine zX [19,20,21] ?_;refine ab ?_;exact ⟨_,_,.inr (⟨y27_1.1.XA,y27_1.1.Xz,y27_1.2.1,y27_1.2.2,l5,d1,d2,d3,d4,d6,e0,e9,f1,f2,f3,f4,f9,h,J,J⟩),sA,cS [0,1,10,2,3,4,5,6,8,7] 13⟩
  refine bJ J (cF zero125.out J) J J J ?_;rintro _ _ ⟨l1,rfl,rfl⟩;refine aW ?_
  refine Gj 9 J (iW (cs:=[W A4 n4 c4,W A5 n5 c5]) J (nJ _ _ _ _ _ _)) fun l5=> ?_
  obtain ⟨n8,g0,h⟩:=aa h
  refine yD 10 J (oR (bA g0)) fun n9 o0 o1=> ?_
  refine lb (bM 0 J) (cS [3,4,7,8,9,10] 11) ?_;refine bf ?_;obtain ⟨g6,b9,h⟩:=aa h;rcases g6 with y27_0|y27_1
  ·replace h:=Cq h
   refine AJ 11 J (gr (cn b9) J J J (dA [0,3] [4,5,6,7,8,9,10] [0,1,2,3] 11 J)) fun c8 c9 d0 e1 e2 e3 e6 e7 e8 g7 g8 g9=> ?_
   refine zY [12,13,14,15,16] ?_;refine zO 18 J (ar (us:=[W c8 c9 d0,W e1 e2 e3]) (cs':=[W c8 c9 d0,W e1 e2 e3]) 13 J J J J size125.out J J J) ?_;rintro _ _ rfl;refine aW ?_;refine bf ?_;refine zX [19,20,21] ?_;refine ab ?_;exact ⟨_,_,.inl (⟨y27_0.1.XA,y27_0.1.Xz,y27_0.2.1,y27_0.2.2,l1,c8,c9,d0,e1,e2,e3,e6,e7,e8,g7,g8,g9,h,J,J⟩),sA,cS [0,1,13,2,3,4,5,6,7,8,10,9] 15⟩
  replace h:=Cp h
  refine AJ 11 J (gr (cn b9) J J J (dA [0,3] [4,5,6,7,8,9,10] [0,1,2,3] 11 J)) fun d1 d2 d3 d4 d6 e0 e9 f1 f2 f3 f4 f9=> ?_
  refine zY [12,13,14,15,16] ?_;refine zO 18 J (ar (us:=[W d1 d2 d3,W d4 d6 e0]) (cs':=[W d1 d2 d3,W d4 d6 e0]) 11 J J J J size125.out J J J) ?_;rintro _ _ rfl;refine aW ?_;refine bf ?_;refine zX [19,20,21] ?_;refine ab ?_;exact ⟨_,_,.inr (⟨y27_1.1.XA,y27_1.1.Xz,y27_1.2.1,y27_1.2.2,l1,d1,d2,d3,d4,d6,e0,e9,f1,f2,f3,f4,f9,h,J,J⟩),sA,cS [0,1,11,2,3,4,5,6,8,7] 13⟩
 rintro _ _ (⟨p13,j4,j5,j6,j7,j8,j9,k0,k2,k3,k4,k5,k6,k7,k8,k9,l0,h,rfl,rfl⟩|⟨e4,e5,p21,i0,i1,a6,a8,b0,b5,b6,b7,i2,i8,j0,g2,g3,g4,h,rfl,rfl⟩)
 ·refine sZ ?_;refine cz J ?_;exact eY
 refine sZ ?_;refine cP J ?_;refine ab ?_;refine ak (fun s L=> ∃j1 j2 h0 h1 h2 h3 h4 h5,gx N e4 e5 a0 j1 j2=some r/\s=[(0,pV B1 0),(4,iV 0)]/\L=[cN a6 a8 b0 e4,cN b5 b6 b7 e5,aB h0 h1 h2 j1,aB h3 h4 h5 j2,ae B1 128 [W a6 a8 b0,W b5 b6 b7,W h0 h1 h2,W h3 h4 h5,pV B6 0],ax cj ft M7 a0.XO.at_,ae B6 186 [.map (some M7)]]) ?_ ?_
 ·refine gK ?_ dq (bM 3 J);refine ab ?_;refine bi I ([cN a6 a8 b0 e4,cN b5 b6 b7 e5,ae i1 125 [W a6 a8 b0,W b5 b6 b7],aZ i2 i8 j0 p21,aB g2 g3 g4 i0,aB A4 n4 c4 a0.XJ,aB A5 n5 c5 a0.XP,ax cj ft M7 a0.XO.at_,ae B6 186 [.map (some M7)]]) (cS [0,1,2,3,4,5,6,8,9] 10) ?_;refine zY [0,1,2,3,4,5] ?_;obtain ⟨h6,h⟩:=ac h;refine C8 3 J (l:=0) (h:=(a0.XJ.length:Int).toNat) h6.2.1 h6.2.2 ?_;rintro p3 p4 p5 o2;refine zR 6 J (NH 4 J o2 J t9 size29.out J J (by rw [VX h6.1];rfl) h6.2.1 h6.2.2) ?_;refine zY [8,9] ?_;obtain ⟨j3,h⟩:=ac h;refine C8 4 J (l:=(a0.XJ.length:Int).toNat) (h:=p21.length) j3.2.1 j3.2.2 ?_;rintro m4 m5 m6 o3;refine zR 10 J (yQ 5 J o3 J t9 size29.out J (by rw [VX j3.1];rfl) j3.2.1) ?_;refine zY [11] ?_;refine o7 7 12 I ?_ ?_
  ·obtain ⟨p6,k,h⟩:=aa h;refine bJ J (oR (fu k)) J J J ?_;rintro _ _ ⟨_,⟨l6,l7,l8,rfl,rfl⟩,rfl⟩;refine aW ?_
   refine Gj 12 J (iW (cs:=[W m4 m5 m6,W g2 g3 g4]) J (nJ _ _ _ _ _ _)) fun p7=> ?_
   obtain ⟨o4,g1,h⟩:=aa h
   refine yD 13 J (oR (bA g1)) fun h7 h8 h9=> ?_
   refine zY [14,15] ?_;refine zO 16 J (ar (us:=[W a6 a8 b0,W b5 b6 b7]) (cs':=[W a6 a8 b0,W b5 b6 b7,W A4 n4 c4,W A5 n5 c5,pV B6 0]) 12 J J J J size125.out J J J) ?_;rintro _ _ rfl;refine aW ?_;refine bf ?_;refine zY [17,18] ?_;refine zO 19 J (ar (us:=[W l6 l7 l8]) (cs':=[W a6 a8 b0,W b5 b6 b7,W l6 l7 l8,W A5 n5 c5,pV B6 0]) 12 J J J J size43.out J J J) ?_;rintro _ _ rfl;refine aW ?_;refine bf ?_;refine zY [20,21] ?_;refine zO 22 J (ar (us:=[W h7 h8 h9]) (cs':=[W a6 a8 b0,W b5 b6 b7,W l6 l7 l8,W h7 h8 h9,pV B6 0]) 12 J J J J size43.out J J J) ?_;rintro _ _ rfl;refine aW ?_;refine bf ?_;refine dB I ?_;exact jY
  refine bJ J (iW (cs:=[W m4 m5 m6,W g2 g3 g4]) J (nJ _ _ _ _ _ _)) J J J ?_;rintro _ _ ⟨p8,rfl,rfl⟩;refine aW ?_;obtain ⟨q0,k,h⟩:=aa h
  refine yD 7 J (oR (fu k)) fun l9 m0 m1=> ?_
  obtain ⟨o4,g1,h⟩:=aa h
  refine yD 13 J (oR (bA g1)) fun h7 h8 h9=> ?_
  refine zY [14,15] ?_;refine zO 16 J (ar (us:=[W a6 a8 b0,W b5 b6 b7]) (cs':=[W a6 a8 b0,W b5 b6 b7,W A4 n4 c4,W A5 n5 c5,pV B6 0]) 12 J J J J size125.out J J J) ?_;rintro _ _ rfl;refine aW ?_;refine bf ?_;refine zY [17,18] ?_;refine zO 19 J (ar (us:=[W l9 m0 m1]) (cs':=[W a6 a8 b0,W b5 b6 b7,W l9 m0 m1,W A5 n5 c5,pV B6 0]) 12 J J J J size43.out J J J) ?_;rintro _ _ rfl;refine aW ?_;refine bf ?_;refine zY [20,21] ?_;refine zO 22 J (ar (us:=[W h7 h8 h9]) (cs':=[W a6 a8 b0,W b5 b6 b7,W l9 m0 m1,W h7 h8 h9,pV B6 0]) 12 J J J J size43.out J J J) ?_;rintro _ _ rfl;refine aW ?_;refine bf ?_;refine dB I ?_;exact jY
 rintro _ _ ⟨j1,j2,h0,h1,h2,h3,h4,h5,h,rfl,rfl⟩;refine au ?_;refine bi I ([cN a6 a8 b0 e4,cN b5 b6 b7 e5,aB h0 h1 h2 j1,aB h3 h4 h5 j2,ae B1 128 [W a6 a8 b0,W b5 b6 b7,W h0 h1 h2,W h3 h4 h5,pV B6 0]]) (cS [0,1,2,3,4] 7) ?_;refine ab ?_;obtain ⟨q1,m2,h⟩:=aa h;refine lb (cS [6,5,0,1,2,3,4] 7) (cS [2,3,4,5,6] 7) ?_;refine bf ?_
 refine Gj 8 J (Bm 2 2 (sv m2) J J J J (t0 (pj (i:=2) J J) (t0 (pj (i:=3) J J) aQ)) py) fun q2=> ?_
 exact eY
end
section
variable {A1 A2 A3 A4 A5 A6:Option Addr}{B1 B2 B3 B6 B8 M7 c1 c2 c3 c4 c5 c6 n1 n2 n3 n4 n5 n6:Nat}
open Go.RowKit Asn
set_option maxRecDepth 20000
def dT (N:Nat)(a0:Vv)(p13 a8:VF)(b0 b5:Vw)(a6:Int):Option (Int×Vv):=
 bif !decide (a6=0) then (some (a6,a0)) else none
def gz (a6 p21:VF)(a0:Vv)(a8 b0:Vw):Option (Int×Vv):=
 (cI N a0.XO (⟨a6,p21⟩:Ve)).bind fun b5=>some (0,(⟨(⟨a6,p21⟩:Ve),a8,b0,b5⟩:Vv))
def dS (a0:Vv)(a8 p21:VF)(a6 b0:Vw):Option (Int×Vv):=
 aD ((0:Int)<=(a0.XJ.length:Int)/\0<=(a0.XJ.length:Int).toNat/\(a0.XJ.length:Int).toNat<=a6.length) (aD ((0:Int)<=(a0.XJ.length:Int)/\(a0.XJ.length:Int).toNat<=a6.length/\a6.length<=a6.length) ((cx N ((a6.drop 0).take ((a0.XJ.length:Int).toNat - 0))).bind fun b5=>(cm N ((a6.drop ((a0.XJ.length:Int).toNat)).take (a6.length - (a0.XJ.length:Int).toNat)) b0).bind fun b6=>gz N a8 p21 a0 b5 b6))
def iy (a0:Vv):Option (Int×Vv):=
 (aF N a0).bind fun y9=>bif y9 then (some (1,a0)) else ((cm N a0.XJ a0.XP).bind fun a6=>(nl N a6 a0).bind fun a8=>yL a8 (fun y27_0=>dT N a0 y27_0.1.XA y27_0.1.Xz y27_0.2.1 y27_0.2.2.1 y27_0.2.2.2) (fun y27_1=>dS N a0 y27_1.1.XA y27_1.1.Xz y27_1.2.1 y27_1.2.2))
theorem sc {N:Nat}{r:Int×Vv}(h:iy N a0=some r):Okc VK 97 [pV B1 0,.func (.func 98) #[] #[pV B8 0]] ([aC B8 60 [pV B1 0],ae B1 128 [W A2 n2 c2,W A3 n3 c3,W A4 n4 c4,W A5 n5 c5,pV B6 0],cN A2 n2 c2 a0.m_.XA,cN A3 n3 c3 a0.m_.Xz,aB A4 n4 c4 a0.XJ,aB A5 n5 c5 a0.XP,ae B6 186 [.map (some M7)],ax cj ft M7 a0.XO.at_]) (fun u post=> ∃A0 n0 c0 A1 n1 c1 A2 n2 c2 A3 n3 c3 M4,u=iV r.1/\post=[ae B1 128 [W A0 n0 c0,W A1 n1 c1,W A2 n2 c2,W A3 n3 c3,pV B6 0],cN A0 n0 c0 r.2.m_.XA,cN A1 n1 c1 r.2.m_.Xz,aB A2 n2 c2 r.2.XJ,aB A3 n3 c3 r.2.XP,ae B6 186 [.map (some M4)],ax cj ft M4 r.2.XO.at_]):=by
 refine bX Tryz.func97 ?_;refine sZ ?_
 refine cR h (fun _ k=>bW k) fun y9 h=> ?_
 refine gH J h ?_ ?_<;>intro h
 ·exact eY
 refine ab ?_;refine ak (fun s L=>(∃p13 j4 j5 j6 j7 j8 j9 k0 k2 k3 k4 k5 k6 k7 k8 k9 l0 l1,dT N a0 p13 j4 j5 j6 j7=some r/\s=[(0,pV B1 0),(4,iV 0),(5,pV j8 0),(6,W k6 k7 k8),(7,W k9 l0 l1),(8,iV j7)]/\L=[cN j9 k0 k2 p13,cN k3 k4 k5 j4,ae j8 125 [W j9 k0 k2,W k3 k4 k5],aB k6 k7 k8 j5,aB k9 l0 l1 j6,cN A2 n2 c2 a0.m_.XA,cN A3 n3 c3 a0.m_.Xz,aB A4 n4 c4 a0.XJ,aB A5 n5 c5 a0.XP,ae B1 128 [W A2 n2 c2,W A3 n3 c3,W A4 n4 c4,W A5 n5 c5,pV B6 0],ax cj ft M7 a0.XO.at_,ae B6 186 [.map (some M7)]])\/(∃(e4:VF) (p21:VF) (g4:Vw) (i0:Vw) (i1:Nat) (a6:Option Addr) (a8 b0:Nat) (b5:Option Addr) (b6 b7:Nat) (i2:Option Addr) (i8 j0:Nat) (g1:Option Addr) (g2 g3:Nat),dS N a0 e4 p21 g4 i0=some r/\s=[(0,pV B1 0),(4,iV 0),(5,pV i1 0),(6,W i2 i8 j0),(7,W g1 g2 g3),(8,iV 0)]/\L=[cN a6 a8 b0 e4,cN b5 b6 b7 p21,ae i1 125 [W a6 a8 b0,W b5 b6 b7],aB i2 i8 j0 g4,aB g1 g2 g3 i0,cN A2 n2 c2 a0.m_.XA,cN A3 n3 c3 a0.m_.Xz,aB A4 n4 c4 a0.XJ,aB A5 n5 c5 a0.XP,ae B1 128 [W A2 n2 c2,W A3 n3 c3,W A4 n4 c4,W A5 n5 c5,pV B6 0],ax cj ft M7 a0.XO.at_,ae B6 186 [.map (some M7)]])) ?_ ?_
 ·refine bi I _ (ah _) ?_;refine zY [0,1,2,3,4,5,6,7,8] ?_;refine o7 9 17 I ?_ ?_
  ·refine bJ J (iW (cs:=[W A4 n4 c4,W A5 n5 c5]) J (nJ _ _ _ _ _ _)) J J J ?_;rintro _ _ ⟨l2,rfl,rfl⟩;refine aW ?_;refine o7 10 17 I ?_ ?_
   ·obtain ⟨p0,k,h⟩:=aa h;refine bJ J (oR (bA k)) J J J ?_;rintro _ _ ⟨_,⟨p1,p2,p3,rfl,rfl⟩,rfl⟩;refine aW ?_;refine o7 11 17 I ?_ ?_
    ·refine yH (bM 0 J) (cS [2,3,4,5,6,7,8,9] 10) ?_;refine Rb ?_;obtain ⟨m8,g5,h⟩:=aa h;rcases m8 with y27_0|y27_1
     ·replace h:=Cq h;refine bJ J (gr (co g5) J J J (dA [0,2] [3,4,5,6,7,8,9] [0,1,2] 10 J)) J J J ?_;rintro _ _ ⟨_,⟨l3,l4,l5,c8,c9,d0,e1,e2,e3,e5,e6,e7,rfl,rfl⟩,rfl⟩;refine aW ?_;refine bf ?_;refine zY [12,13,14,15,16] ?_
      refine Gj 17 J (cF zero125.out J) fun m9=> ?_
      refine zO 18 J (ar (us:=[W l3 l4 l5,W c8 c9 d0]) (cs':=[W l3 l4 l5,W c8 c9 d0]) 0 J J J J size125.out J J J) ?_;rintro _ _ rfl;refine aW ?_;refine bf ?_;refine zX [19,20,21] ?_;refine ab ?_;exact ⟨_,_,.inl (⟨y27_0.1.XA,y27_0.1.Xz,y27_0.2.1,y27_0.2.2.1,y27_0.2.2.2,m9,l3,l4,l5,c8,c9,d0,e1,e2,e3,e5,e6,e7,h,J,J⟩),sA,cS [1,2,0,3,4,5,6,7,8,9,11,10] 15⟩
     replace h:=Cp h;refine bJ J (gr (co g5) J J J (dA [0,2] [3,4,5,6,7,8,9] [0,1,2] 10 J)) J J J ?_;rintro _ _ ⟨_,⟨d1,d2,d3,d4,d6,e0,e8,e9,f1,f2,f3,f4,rfl,rfl⟩,rfl⟩;refine aW ?_;refine bf ?_;refine zY [12,13,14,15,16] ?_
     refine Gj 17 J (cF zero125.out J) fun n8=> ?_
     refine zO 18 J (ar (us:=[W d1 d2 d3,W d4 d6 e0]) (cs':=[W d1 d2 d3,W d4 d6 e0]) 0 J J J J size125.out J J J) ?_;rintro _ _ rfl;refine aW ?_;refine bf ?_;refine zX [19,20,21] ?_;refine ab ?_;exact ⟨_,_,.inr (⟨y27_1.1.XA,y27_1.1.Xz,y27_1.2.1,y27_1.2.2,n8,d1,d2,d3,d4,d6,e0,e8,e9,f1,f2,f3,f4,h,J,J⟩),sA,cS [1,2,0,3,4,5,6,7,8,9,11,10] 15⟩
    refine bJ J (cF zero125.out J) J J J ?_;rintro _ _ ⟨m4,rfl,rfl⟩;refine aW ?_;refine lb (bM 1 J) (cS [3,4,5,6,7,8,9,10] 11) ?_;refine bf ?_;obtain ⟨g6,b9,h⟩:=aa h;rcases g6 with y28_0|y28_1
    ·replace h:=Cq h
     refine AJ 11 J (gr (co b9) J J J (dA [1,3] [4,5,6,7,8,9,10] [0,1,2,3] 11 J)) fun c8 c9 d0 e1 e2 e3 e5 e6 e7 g7 g8 g9=> ?_
     refine zY [12,13,14,15,16] ?_;refine zO 18 J (ar (us:=[W c8 c9 d0,W e1 e2 e3]) (cs':=[W c8 c9 d0,W e1 e2 e3]) 11 J J J J size125.out J J J) ?_;rintro _ _ rfl;refine aW ?_;refine bf ?_;refine zX [19,20,21] ?_;refine ab ?_;exact ⟨_,_,.inl (⟨y28_0.1.XA,y28_0.1.Xz,y28_0.2.1,y28_0.2.2.1,y28_0.2.2.2,m4,c8,c9,d0,e1,e2,e3,e5,e6,e7,g7,g8,g9,h,J,J⟩),sA,cS [0,1,11,2,3,4,5,6,7,8,10,9] 15⟩
    replace h:=Cp h
    refine AJ 11 J (gr (co b9) J J J (dA [1,3] [4,5,6,7,8,9,10] [0,1,2,3] 11 J)) fun d1 d2 d3 d4 d6 e0 e8 e9 f1 f2 f3 f4=> ?_
    refine zY [12,13,14,15,16] ?_;refine zO 18 J (ar (us:=[W d1 d2 d3,W d4 d6 e0]) (cs':=[W d1 d2 d3,W d4 d6 e0]) 11 J J J J size125.out J J J) ?_;rintro _ _ rfl;refine aW ?_;refine bf ?_;refine zX [19,20,21] ?_;refine ab ?_;exact ⟨_,_,.inr (⟨y28_1.1.XA,y28_1.1.Xz,y28_1.2.1,y28_1.2.2,m4,d1,d2,d3,d4,d6,e0,e8,e9,f1,f2,f3,f4,h,J,J⟩),sA,cS [0,1,11,2,3,4,5,6,7,8,10,9] 15⟩
   refine bJ J (cF zero125.out J) J J J ?_;rintro _ _ ⟨l6,rfl,rfl⟩;refine aW ?_;obtain ⟨n9,f9,h⟩:=aa h
   refine yD 10 J (oR (bA f9)) fun o0 o1 o2=> ?_
   refine lb (bM 0 J) (cS [3,4,5,6,7,8,9,10] 11) ?_;refine bf ?_;obtain ⟨g6,b9,h⟩:=aa h;rcases g6 with y28_0|y28_1
   ·replace h:=Cq h
    refine AJ 11 J (gr (co b9) J J J (dA [0,3] [4,5,6,7,8,9,10] [0,1,2,3] 11 J)) fun c8 c9 d0 e1 e2 e3 e5 e6 e7 g7 g8 g9=> ?_
    refine zY [12,13,14,15,16] ?_;refine zO 18 J (ar (us:=[W c8 c9 d0,W e1 e2 e3]) (cs':=[W c8 c9 d0,W e1 e2 e3]) 12 J J J J size125.out J J J) ?_;rintro _ _ rfl;refine aW ?_;refine bf ?_;refine zX [19,20,21] ?_;refine ab ?_;exact ⟨_,_,.inl (⟨y28_0.1.XA,y28_0.1.Xz,y28_0.2.1,y28_0.2.2.1,y28_0.2.2.2,l6,c8,c9,d0,e1,e2,e3,e5,e6,e7,g7,g8,g9,h,J,J⟩),sA,cS [0,1,12,2,3,4,5,6,7,8,10,9] 15⟩
   replace h:=Cp h
   refine AJ 11 J (gr (co b9) J J J (dA [0,3] [4,5,6,7,8,9,10] [0,1,2,3] 11 J)) fun d1 d2 d3 d4 d6 e0 e8 e9 f1 f2 f3 f4=> ?_
   refine zY [12,13,14,15,16] ?_;refine zO 18 J (ar (us:=[W d1 d2 d3,W d4 d6 e0]) (cs':=[W d1 d2 d3,W d4 d6 e0]) 12 J J J J size125.out J J J) ?_;rintro _ _ rfl;refine aW ?_;refine bf ?_;refine zX [19,20,21] ?_;refine ab ?_;exact ⟨_,_,.inr (⟨y28_1.1.XA,y28_1.1.Xz,y28_1.2.1,y28_1.2.2,l6,d1,d2,d3,d4,d6,e0,e8,e9,f1,f2,f3,f4,h,J,J⟩),sA,cS [0,1,12,2,3,4,5,6,7,8,10,9] 15⟩
  refine bJ J (cF zero125.out J) J J J ?_;rintro _ _ ⟨l2,rfl,rfl⟩;refine aW ?_
  refine Gj 9 J (iW (cs:=[W A4 n4 c4,W A5 n5 c5]) J (nJ _ _ _ _ _ _)) fun l6=> ?_
  obtain ⟨n9,f9,h⟩:=aa h
  refine yD 10 J (oR (bA f9)) fun o0 o1 o2=> ?_
  refine lb (bM 0 J) (cS [3,4,5,6,7,8,9,10] 11) ?_;refine bf ?_;obtain ⟨g6,b9,h⟩:=aa h;rcases g6 with y28_0|y28_1
  ·replace h:=Cq h
   refine AJ 11 J (gr (co b9) J J J (dA [0,3] [4,5,6,7,8,9,10] [0,1,2,3] 11 J)) fun c8 c9 d0 e1 e2 e3 e5 e6 e7 g7 g8 g9=> ?_
   refine zY [12,13,14,15,16] ?_;refine zO 18 J (ar (us:=[W c8 c9 d0,W e1 e2 e3]) (cs':=[W c8 c9 d0,W e1 e2 e3]) 13 J J J J size125.out J J J) ?_;rintro _ _ rfl;refine aW ?_;refine bf ?_;refine zX [19,20,21] ?_;refine ab ?_;exact ⟨_,_,.inl (⟨y28_0.1.XA,y28_0.1.Xz,y28_0.2.1,y28_0.2.2.1,y28_0.2.2.2,l2,c8,c9,d0,e1,e2,e3,e5,e6,e7,g7,g8,g9,h,J,J⟩),sA,cS [0,1,13,2,3,4,5,6,7,8,10,9] 15⟩
  replace h:=Cp h
  refine AJ 11 J (gr (co b9) J J J (dA [0,3] [4,5,6,7,8,9,10] [0,1,2,3] 11 J)) fun d1 d2 d3 d4 d6 e0 e8 e9 f1 f2 f3 f4=> ?_
  refine zY [12,13,14,15,16] ?_;refine zO 18 J (ar (us:=[W d1 d2 d3,W d4 d6 e0]) (cs':=[W d1 d2 d3,W d4 d6 e0]) 13 J J J J size125.out J J J) ?_;rintro _ _ rfl;refine aW ?_;refine bf ?_;refine zX [19,20,21] ?_;refine ab ?_;exact ⟨_,_,.inr (⟨y28_1.1.XA,y28_1.1.Xz,y28_1.2.1,y28_1.2.2,l2,d1,d2,d3,d4,d6,e0,e8,e9,f1,f2,f3,f4,h,J,J⟩),sA,cS [0,1,13,2,3,4,5,6,7,8,10,9] 15⟩
 rintro _ _ (⟨p13,j4,j5,j6,j7,j8,j9,k0,k2,k3,k4,k5,k6,k7,k8,k9,l0,l1,h,rfl,rfl⟩|⟨e4,p21,g4,i0,i1,a6,a8,b0,b5,b6,b7,i2,i8,j0,g1,g2,g3,h,rfl,rfl⟩)
 ·refine sZ ?_;refine gH J h ?_ ?_<;>intro h
  ·exact eY
  exact az h
 refine sZ ?_;refine cP J ?_;refine ab ?_;refine ak (fun s L=> ∃j1 j2 h0 h1 h2 h3 h4 h5,gz N e4 p21 a0 j1 j2=some r/\s=[(0,pV B1 0),(4,iV 0)]/\L=[cN a6 a8 b0 e4,cN b5 b6 b7 p21,aB h0 h1 h2 j1,aB h3 h4 h5 j2,ae B1 128 [W a6 a8 b0,W b5 b6 b7,W h0 h1 h2,W h3 h4 h5,pV B6 0],ax cj ft M7 a0.XO.at_,ae B6 186 [.map (some M7)]]) ?_ ?_
 ·refine gK ?_ dq (bM 3 J);refine ab ?_;refine bi I ([cN a6 a8 b0 e4,cN b5 b6 b7 p21,ae i1 125 [W a6 a8 b0,W b5 b6 b7],aZ i2 i8 j0 g4,aB g1 g2 g3 i0,cN A2 n2 c2 a0.m_.XA,cN A3 n3 c3 a0.m_.Xz,aB A4 n4 c4 a0.XJ,aB A5 n5 c5 a0.XP,ax cj ft M7 a0.XO.at_,ae B6 186 [.map (some M7)]]) (cS [0,1,2,3,4,5,6,7,8,10,11] 12) ?_;refine zY [0,1,2,3,4,5] ?_;obtain ⟨h6,h⟩:=ac h;refine C8 3 J (l:=0) (h:=(a0.XJ.length:Int).toNat) h6.2.1 h6.2.2 ?_;rintro p4 p5 p6 o3;refine zR 6 J (NH 4 J o3 J t9 size29.out J J (by rw [VX h6.1];rfl) h6.2.1 h6.2.2) ?_;refine zY [8,9] ?_;obtain ⟨j3,h⟩:=ac h;refine C8 4 J (l:=(a0.XJ.length:Int).toNat) (h:=g4.length) j3.2.1 j3.2.2 ?_;rintro m5 m6 m7 o4;refine zR 10 J (yQ 5 J o4 J t9 size29.out J (by rw [VX j3.1];rfl) j3.2.1) ?_;refine zY [11] ?_;refine o7 7 12 I ?_ ?_
  ·obtain ⟨p7,k,h⟩:=aa h;refine bJ J (oR (fu k)) J J J ?_;rintro _ _ ⟨_,⟨l7,l8,l9,rfl,rfl⟩,rfl⟩;refine aW ?_
   refine Gj 12 J (iW (cs:=[W m5 m6 m7,W g1 g2 g3]) J (nJ _ _ _ _ _ _)) fun p8=> ?_
   obtain ⟨o5,g0,h⟩:=aa h
   refine yD 13 J (oR (bA g0)) fun h7 h8 h9=> ?_
   refine zY [14,15] ?_;refine zO 16 J (ar (us:=[W a6 a8 b0,W b5 b6 b7]) (cs':=[W a6 a8 b0,W b5 b6 b7,W A4 n4 c4,W A5 n5 c5,pV B6 0]) 14 J J J J size125.out J J J) ?_;rintro _ _ rfl;refine aW ?_;refine bf ?_;refine zY [17,18] ?_;refine zO 19 J (ar (us:=[W l7 l8 l9]) (cs':=[W a6 a8 b0,W b5 b6 b7,W l7 l8 l9,W A5 n5 c5,pV B6 0]) 14 J J J J size43.out J J J) ?_;rintro _ _ rfl;refine aW ?_;refine bf ?_;refine zY [20,21] ?_;refine zO 22 J (ar (us:=[W h7 h8 h9]) (cs':=[W a6 a8 b0,W b5 b6 b7,W l7 l8 l9,W h7 h8 h9,pV B6 0]) 14 J J J J size43.out J J J) ?_;rintro _ _ rfl;refine aW ?_;refine bf ?_;refine dB I ?_;exact jY
  refine bJ J (iW (cs:=[W m5 m6 m7,W g1 g2 g3]) J (nJ _ _ _ _ _ _)) J J J ?_;rintro _ _ ⟨q0,rfl,rfl⟩;refine aW ?_;obtain ⟨q1,k,h⟩:=aa h
  refine yD 7 J (oR (fu k)) fun m0 m1 m2=> ?_
  obtain ⟨o5,g0,h⟩:=aa h
  refine yD 13 J (oR (bA g0)) fun h7 h8 h9=> ?_
  refine zY [14,15] ?_;refine zO 16 J (ar (us:=[W a6 a8 b0,W b5 b6 b7]) (cs':=[W a6 a8 b0,W b5 b6 b7,W A4 n4 c4,W A5 n5 c5,pV B6 0]) 14 J J J J size125.out J J J) ?_;rintro _ _ rfl;refine aW ?_;refine bf ?_;refine zY [17,18] ?_;refine zO 19 J (ar (us:=[W m0 m1 m2]) (cs':=[W a6 a8 b0,W b5 b6 b7,W m0 m1 m2,W A5 n5 c5,pV B6 0]) 14 J J J J size43.out J J J) ?_;rintro _ _ rfl;refine aW ?_;refine bf ?_;refine zY [20,21] ?_;refine zO 22 J (ar (us:=[W h7 h8 h9]) (cs':=[W a6 a8 b0,W b5 b6 b7,W m0 m1 m2,W h7 h8 h9,pV B6 0]) 14 J J J J size43.out J J J) ?_;rintro _ _ rfl;refine aW ?_;refine bf ?_;refine dB I ?_;exact jY
 rintro _ _ ⟨j1,j2,h0,h1,h2,h3,h4,h5,h,rfl,rfl⟩;refine au ?_;refine bi I ([cN a6 a8 b0 e4,cN b5 b6 b7 p21,aB h0 h1 h2 j1,aB h3 h4 h5 j2,ae B1 128 [W a6 a8 b0,W b5 b6 b7,W h0 h1 h2,W h3 h4 h5,pV B6 0]]) (cS [0,1,2,3,4] 7) ?_;refine ab ?_;obtain ⟨q2,m3,h⟩:=aa h;refine lb (cS [6,5,0,1,2,3,4] 7) (cS [2,3,4,5,6] 7) ?_;refine bf ?_
 refine Gj 8 J (Bm 2 2 (sv m3) J J J J (t0 (pj (i:=2) J J) (t0 (pj (i:=3) J J) aQ)) py) fun q3=> ?_
 exact eY
def dj (a0:Vv):Option (Int×Vv):=
 (iy N a0).bind fun y9=>some (y9.1,y9.2)
theorem Az {N:Nat}{r:Int×Vv}(h:dj N a0=some r):Okc VK 46 [pV B1 0] ([ae B1 128 [W A2 n2 c2,W A3 n3 c3,W A4 n4 c4,W A5 n5 c5,pV B6 0],cN A2 n2 c2 a0.m_.XA,cN A3 n3 c3 a0.m_.Xz,aB A4 n4 c4 a0.XJ,aB A5 n5 c5 a0.XP,ae B6 186 [.map (some M7)],ax cj ft M7 a0.XO.at_]) (fun u post=> ∃A0 n0 c0 A1 n1 c1 A2 n2 c2 A3 n3 c3 M4,u=iV r.1/\post=[ae B1 128 [W A0 n0 c0,W A1 n1 c1,W A2 n2 c2,W A3 n3 c3,pV B6 0],cN A0 n0 c0 r.2.m_.XA,cN A1 n1 c1 r.2.m_.Xz,aB A2 n2 c2 r.2.XJ,aB A3 n3 c3 r.2.XP,ae B6 186 [.map (some M4)],ax cj ft M4 r.2.XO.at_]):=by
 refine bX Tryz.func46 ?_;intro B8;refine ab ?_;refine gE (ey J) ?_;obtain ⟨y9,k,h⟩:=aa h;refine rO (jt 0 J) ?_;refine gD (oC (sc k)) ?_;rintro _ _ ⟨_,⟨a6,a8,b0,b5,b6,b7,b9,c8,c9,d0,d1,d2,d3,rfl,rfl⟩,rfl⟩;exact eY
theorem yj {N:Nat}{r:Int×Vv}(h:dj N a0=some r):Okc VK 46 [pV B1 0] ([oDHeap B1 a0]) (fun u post=>u=iV r.1/\post=[oDHeap B1 r.2]):=IV 0 rfl (fun _=>Az h)
def di (a0:Vv):Option (Int×Vv):=
 (iw N a0).bind fun y9=>some (y9.1,y9.2)
theorem Ay {N:Nat}{r:Int×Vv}(h:di N a0=some r):Okc VK 47 [pV B1 0] ([ae B1 128 [W A2 n2 c2,W A3 n3 c3,W A4 n4 c4,W A5 n5 c5,pV B6 0],cN A2 n2 c2 a0.m_.XA,cN A3 n3 c3 a0.m_.Xz,aB A4 n4 c4 a0.XJ,aB A5 n5 c5 a0.XP,ae B6 186 [.map (some M7)],ax cj ft M7 a0.XO.at_]) (fun u post=> ∃A0 n0 c0 A1 n1 c1 A2 n2 c2 A3 n3 c3 M4,u=iV r.1/\post=[ae B1 128 [W A0 n0 c0,W A1 n1 c1,W A2 n2 c2,W A3 n3 c3,pV B6 0],cN A0 n0 c0 r.2.m_.XA,cN A1 n1 c1 r.2.m_.Xz,aB A2 n2 c2 r.2.XJ,aB A3 n3 c3 r.2.XP,ae B6 186 [.map (some M4)],ax cj ft M4 r.2.XO.at_]):=by
 refine bX Tryz.func47 ?_;intro B8;refine ab ?_;refine gE (ey J) ?_;obtain ⟨y9,k,h⟩:=aa h;refine rO (jt 0 J) ?_;refine gD (oC (sb k)) ?_;rintro _ _ ⟨_,⟨a6,a8,b0,b5,b6,b7,b9,c8,c9,d0,d1,d2,d3,rfl,rfl⟩,rfl⟩;exact eY
theorem yi {N:Nat}{r:Int×Vv}(h:di N a0=some r):Okc VK 47 [pV B1 0] ([oDHeap B1 a0]) (fun u post=>u=iV r.1/\post=[oDHeap B1 r.2]):=IV 0 rfl (fun _=>Ay h)
def fz (a0:Vv)(a1:Int):Option Vv:=
 (aF N a0).bind fun y8=>(bif !y8 then (some (decide (max a1 0<(a0.XJ.length:Int)))) else (some false)).bind fun b9=>bif b9 then (aD ((0:Int)<=max a1 0/\(max a1 0).toNat<=a0.XJ.length) (some (⟨a0.m_,List.take ((max a1 0).toNat) a0.XJ,a0.XP,a0.XO⟩:Vv))) else (some a0)
theorem CU {N:Nat}{r:Vv}(h:fz N a0 a1=some r):Okc VK 96 [pV B1 0,iV a1] ([ae B1 128 [W A2 n2 c2,W A3 n3 c3,W A4 n4 c4,W A5 n5 c5,pV B6 0],cN A2 n2 c2 a0.m_.XA,cN A3 n3 c3 a0.m_.Xz,aB A4 n4 c4 a0.XJ,aB A5 n5 c5 a0.XP,ae B6 186 [.map (some M7)],ax cj ft M7 a0.XO.at_]) (fun u post=> ∃A0 n0 c0 A1 n1 c1 A2 n2 c2 A3 n3 c3 M4,u=.tuple #[]/\post=[ae B1 128 [W A0 n0 c0,W A1 n1 c1,W A2 n2 c2,W A3 n3 c3,pV B6 0],cN A0 n0 c0 r.m_.XA,cN A1 n1 c1 r.m_.Xz,aB A2 n2 c2 r.XJ,aB A3 n3 c3 r.XP,ae B6 186 [.map (some M4)],ax cj ft M4 r.XO.at_]):=by
 refine bX Tryz.func96 ?_;refine dK (R2 J J z9 z9) ?_
 refine cR h (fun _ k=>bW k) fun y8 h=> ?_
 refine Lu 8 17 9 h (fun _ g9 h=> ?_) (fun _ g9 h=> ?_) fun b9 h=> ?_
 ·refine ab ?_;obtain rfl:=jg h;exact ld (xr J (ck (ck (ck (ck (ck (ck (ck (ck dq J) J) J) J) J) J) J) J)) (cS [0,1,2,3,4,5,6] 7)
 ·refine ab ?_;obtain rfl:=jg h;exact ld (xr J (ck (ck (ck (ck (ck (ck (ck (ck dq J) J) J) J) J) J) J) J)) (cS [0,1,2,3,4,5,6] 7)
 refine dU h ?_ ?_<;>intro h
 ·refine ab ?_;obtain ⟨a6,h⟩:=ac h
  refine rP (PN (k:=(max a1 0).toNat) 3 J J t9 size29.out J (by rw [VX a6.1];rfl) (by rw [VX a6.1];rfl) a6.2) fun a8 b0 b5=> ?_
  exact eN
 exact eY
theorem ud {N:Nat}{r:Vv}(h:fz N a0 a1=some r):Okc VK 96 [pV B1 0,iV a1] ([oDHeap B1 a0]) (fun u post=>u=.tuple #[]/\post=[oDHeap B1 r]):=IV 0 rfl (fun _=>CU h)
def ib (y7:Int)(a0:Vj)(p9:Vv):Option Vj:=
 (dj N p9).bind fun a6=>(fz N a6.2 y7).bind fun a8=>some (⟨a0.XQ,a0.XK,(),a8,a0.XH,a0.XS,a0.XR,a0.XY,a0.XZ,a0.XT,a0.XU⟩:Vj)
def gm (N:Nat)(a6:Int->Vv->Option Vj)(y7:Int)(b5:Vd)(a8:Int)(a0:Vj)(b0:Vv):Option Vj:=
 aD (in64 (a8+1)) (a6 (a8+1) b0)
def gl (N:Nat)(a6:Int->Vv->Option Vj)(y7:Int)(b5:Vd)(b6:Int)(a0:Vj)(b0:Vd):Nat->Int->Vv->Option Vj
 |0,_,_=>none
 |b9+1,a8,b7=>aD (in64 (a8+3)) (bif decide (a8+3<(b0.Xx.length:Int)) then ((ao b0.Xx a8).bind fun c0=>(eu N b7 c0).bind fun c8=>aD (in64 (a8+4)) ((gl N a6 y7 b5 b6 a0 b0 b9) (a8+4) c8.2)) else (gm N a6 y7 b5 b6 a0 b7))
def bT (N:Nat)(y7:Int)(a6:Vd)(a0:Vj):Nat->Int->Vv->Option Vj
 |0,_,_=>none
 |b5+1,a8,b0=>bif decide (a8<(a6.Xx.length:Int)) then ((ao a6.Xx a8).bind fun b7=>(aE N (⟨a0.XQ,a0.XK,(),b0,a0.XH,a0.XS,a0.XR,a0.XY,a0.XZ,a0.XT,a0.XU⟩:Vj) b7).bind fun b6=>bif !decide (b6.Xw=10) then (gm N (bT N y7 a6 a0 b5) y7 a6 a8 a0 b0) else (gl N (bT N y7 a6 a0 b5) y7 a6 a8 a0 b6 N 1 b0)) else (ib N y7 a0 b0)
def eB (a0:Vj):Option Vj:=
 (ci N a0).bind fun y7=>(bL N a0.XF 19).bind fun a6=>(aE N a0 a6).bind fun a8=>bT N y7 a8 a0 N 0 a0.XF
theorem rV {N:Nat}{a0 r:Vj}(h:eB N a0=some r):Okc VK 45 [pV B1 0,.func (.func 46) #[pV B2 0] #[]] ([ae B1 85 (ub a0 B2 B3 A4 n4 c4 A5 n5 c5 A6 n6 c6),oDHeap B2 a0.XF,oDTable B3 a0.XH,ir A4 n4 c4 a0.XS,sy A5 n5 c5 a0.XT,ir A6 n6 c6 a0.XU]) (fun u post=> ∃A0 n0 c0 A1 n1 c1 A2 n2 c2,u=.tuple #[]/\post=[ae B1 85 (ub r B2 B3 A0 n0 c0 A1 n1 c1 A2 n2 c2),oDHeap B2 r.XF,oDTable B3 r.XH,ir A0 n0 c0 r.XS,sy A1 n1 c1 r.XT,ir A2 n2 c2 r.XU]):=by
 refine bX Tryz.func45 ?_
 refine cR h (fun _ k=>nN k) fun y7 h=> ?_
 refine ak (fun s L=> ∃p9,ib N y7 a0 p9=some r/\s=[(0,pV B1 0),(1,.func (.func 46) #[pV B2 0] #[]),(4,iV y7)]/\L=[oDHeap B2 p9,ir A4 n4 c4 a0.XS,sy A5 n5 c5 a0.XT,ir A6 n6 c6 a0.XU,ae B1 85 (ub a0 B2 B3 A4 n4 c4 A5 n5 c5 A6 n6 c6),oDTable B3 a0.XH]) ?_ ?_
 ·refine ab ?_;obtain ⟨e9,k,h⟩:=aa h;refine gV (oR (fo k)) ?_;obtain ⟨a6,k,h⟩:=aa h;refine gD (oR (ik k)) ?_;rintro _ _ ⟨_,⟨f1,f2,f3,a8,b0,b5,rfl,rfl⟩,rfl⟩;refine dK (uh J (Fq _ _ _ _ _ _ _ _ _ _)) ?_;refine lK (fun m s L=> ∃(b6:Int) (d3:Vv),bT N y7 a6 a0 m b6 d3=some r/\s=[(0,pV B1 0),(1,.func (.func 46) #[pV B2 0] #[]),(4,iV y7),(18,W a8 b0 b5),(19,iV (a6.Xx.length:Int)),(20,iV b6)]/\L=[aB a8 b0 b5 a6.Xx,oDHeap B2 d3,ir A4 n4 c4 a0.XS,sy A5 n5 c5 a0.XT,ir A6 n6 c6 a0.XU,ae B1 85 (ub a0 B2 B3 A4 n4 c4 A5 n5 c5 A6 n6 c6),oDTable B3 a0.XH]) N ?_;rintro e2 _ _ ⟨b6,d3,h,rfl,rfl⟩;rw [bT.eq_2] at h;refine ab ?_;refine au ?_;refine gH J h ?_ ?_<;>intro h
  ·refine ab ?_;refine ak (fun s L=> ∃d4,gm N (bT N y7 a6 a0 e2) y7 a6 b6 a0 d4=some r/\s=[(0,pV B1 0),(1,.func (.func 46) #[pV B2 0] #[]),(4,iV y7),(18,W a8 b0 b5),(19,iV (a6.Xx.length:Int)),(20,iV b6)]/\L=[aB a8 b0 b5 a6.Xx,oDHeap B2 d4,ir A4 n4 c4 a0.XS,sy A5 n5 c5 a0.XT,ir A6 n6 c6 a0.XU,ae B1 85 (ub a0 B2 B3 A4 n4 c4 A5 n5 c5 A6 n6 c6),oDTable B3 a0.XH]) ?_ ?_
   ·refine ab ?_;obtain ⟨f4,e3,e4,e5,h⟩:=aI h
    refine dD fun f9=> ?_
    refine Nn h (fun _ k=>ik k) fun b7 b9 c8 c9 d0 d1 d2 h=> ?_
    intro d6;refine sY ?_;refine gH J h ?_ ?_<;>intro h
    ·exact jY
    refine ab ?_;refine lK (fun m s L=> ∃(e0:Int) (e1:Vv),gl N (bT N y7 a6 a0 e2) y7 a6 b6 a0 b7 m e0 e1=some r/\s=[(0,pV B1 0),(1,.func (.func 46) #[pV B2 0] #[]),(4,iV y7),(7,pV d6 0),(8,iV e0),(18,W a8 b0 b5),(19,iV (a6.Xx.length:Int)),(20,iV b6)]/\L=[aB a8 b0 b5 a6.Xx,oDHeap B2 e1,ir A4 n4 c4 a0.XS,sy A5 n5 c5 a0.XT,ir A6 n6 c6 a0.XU,ae B1 85 (ub a0 B2 B3 A4 n4 c4 A5 n5 c5 A6 n6 c6),aB b9 c8 c9 b7.Xy,aB d0 d1 d2 b7.Xx,ae d6 45 (ga b7 b9 c8 c9 d0 d1 d2),oDTable B3 a0.XH]) N ?_;rintro g0 _ _ ⟨e0,e1,h,rfl,rfl⟩;rw [gl.eq_2] at h;refine sZ ?_;obtain ⟨g1,h⟩:=ac h;refine dU h ?_ ?_<;>intro h
    ·refine sY ?_;refine bi I ([aB a8 b0 b5 a6.Xx,ir A4 n4 c4 a0.XS,sy A5 n5 c5 a0.XT,ir A6 n6 c6 a0.XU,ae B1 85 (ub a0 B2 B3 A4 n4 c4 A5 n5 c5 A6 n6 c6),aB b9 c8 c9 b7.Xy,aB d0 d1 d2 b7.Xx,ae d6 45 (ga b7 b9 c8 c9 d0 d1 d2),oDTable B3 a0.XH]) (cS [0,2,3,4,5,6,7,8,9] 10) ?_;refine ab ?_;obtain ⟨g2,e6,e7,e8,h⟩:=aI h;refine ab ?_;obtain ⟨g3,k,h⟩:=aa h;refine zD 9 J (oC (cr k)) ?_;rintro _ _ ⟨_,⟨rfl,rfl⟩,rfl⟩;refine aW ?_;refine ab ?_;obtain ⟨g4,h⟩:=ac h;exact lY
    exact jY
   rintro _ _ ⟨d4,h,rfl,rfl⟩;refine ab ?_;obtain ⟨g5,h⟩:=ac h;exact lY
  exact jY
 rintro _ _ ⟨p9,h,rfl,rfl⟩;refine ab ?_;obtain ⟨g6,k,h⟩:=aa h;refine BJ (IU (yj k) J J J (dA [] [0] [1,2,3,4,5] 6 J)) ?_
 refine cC h (fun _ k=>ud k) fun g7 h=> ?_
 exact eN
def ia (y7:Int)(a0:Vj)(p9:Vv):Option Vj:=
 (di N p9).bind fun a6=>(fz N a6.2 y7).bind fun a8=>some (⟨a0.XQ,a0.XK,(),a8,a0.XH,a0.XS,a0.XR,a0.XY,a0.XZ,a0.XT,a0.XU⟩:Vj)
def gk (N:Nat)(a6:Int->Vv->Option Vj)(y7:Int)(b5:Vd)(a8:Int)(a0:Vj)(b0:Vv):Option Vj:=
 aD (in64 (a8+1)) (a6 (a8+1) b0)
def gj (N:Nat)(a6:Int->Vv->Option Vj)(y7:Int)(b5:Vd)(b6:Int)(a0:Vj)(b0:Vd):Nat->Int->Vv->Option Vj
 |0,_,_=>none
 |b9+1,a8,b7=>aD (in64 (a8+3)) (bif decide (a8+3<(b0.Xx.length:Int)) then ((ao b0.Xx a8).bind fun c0=>(eu N b7 c0).bind fun c8=>aD (in64 (a8+4)) ((gj N a6 y7 b5 b6 a0 b0 b9) (a8+4) c8.2)) else (gk N a6 y7 b5 b6 a0 b7))
def bS (N:Nat)(y7:Int)(a6:Vd)(a0:Vj):Nat->Int->Vv->Option Vj
 |0,_,_=>none
 |b5+1,a8,b0=>bif decide (a8<(a6.Xx.length:Int)) then ((ao a6.Xx a8).bind fun b7=>(aE N (⟨a0.XQ,a0.XK,(),b0,a0.XH,a0.XS,a0.XR,a0.XY,a0.XZ,a0.XT,a0.XU⟩:Vj) b7).bind fun b6=>bif !decide (b6.Xw=10) then (gk N (bS N y7 a6 a0 b5) y7 a6 a8 a0 b0) else (gj N (bS N y7 a6 a0 b5) y7 a6 a8 a0 b6 N 1 b0)) else (ia N y7 a0 b0)
def eA (a0:Vj):Option Vj:=
 (ci N a0).bind fun y7=>(bL N a0.XF 19).bind fun a6=>(aE N a0 a6).bind fun a8=>bS N y7 a8 a0 N 0 a0.XF
theorem rU {N:Nat}{a0 r:Vj}(h:eA N a0=some r):Okc VK 45 [pV B1 0,.func (.func 47) #[pV B2 0] #[]] ([ae B1 85 (ub a0 B2 B3 A4 n4 c4 A5 n5 c5 A6 n6 c6),oDHeap B2 a0.XF,oDTable B3 a0.XH,ir A4 n4 c4 a0.XS,sy A5 n5 c5 a0.XT,ir A6 n6 c6 a0.XU]) (fun u post=> ∃A0 n0 c0 A1 n1 c1 A2 n2 c2,u=.tuple #[]/\post=[ae B1 85 (ub r B2 B3 A0 n0 c0 A1 n1 c1 A2 n2 c2),oDHeap B2 r.XF,oDTable B3 r.XH,ir A0 n0 c0 r.XS,sy A1 n1 c1 r.XT,ir A2 n2 c2 r.XU]):=by
 refine bX Tryz.func45 ?_
 refine cR h (fun _ k=>nN k) fun y7 h=> ?_
 refine ak (fun s L=> ∃p9,ia N y7 a0 p9=some r/\s=[(0,pV B1 0),(1,.func (.func 47) #[pV B2 0] #[]),(4,iV y7)]/\L=[oDHeap B2 p9,ir A4 n4 c4 a0.XS,sy A5 n5 c5 a0.XT,ir A6 n6 c6 a0.XU,ae B1 85 (ub a0 B2 B3 A4 n4 c4 A5 n5 c5 A6 n6 c6),oDTable B3 a0.XH]) ?_ ?_
 ·refine ab ?_;obtain ⟨e9,k,h⟩:=aa h;refine gV (oR (fo k)) ?_;obtain ⟨a6,k,h⟩:=aa h;refine gD (oR (ik k)) ?_;rintro _ _ ⟨_,⟨f1,f2,f3,a8,b0,b5,rfl,rfl⟩,rfl⟩;refine dK (uh J (Fq _ _ _ _ _ _ _ _ _ _)) ?_;refine lK (fun m s L=> ∃(b6:Int) (d3:Vv),bS N y7 a6 a0 m b6 d3=some r/\s=[(0,pV B1 0),(1,.func (.func 47) #[pV B2 0] #[]),(4,iV y7),(18,W a8 b0 b5),(19,iV (a6.Xx.length:Int)),(20,iV b6)]/\L=[aB a8 b0 b5 a6.Xx,oDHeap B2 d3,ir A4 n4 c4 a0.XS,sy A5 n5 c5 a0.XT,ir A6 n6 c6 a0.XU,ae B1 85 (ub a0 B2 B3 A4 n4 c4 A5 n5 c5 A6 n6 c6),oDTable B3 a0.XH]) N ?_;rintro e2 _ _ ⟨b6,d3,h,rfl,rfl⟩;rw [bS.eq_2] at h;refine ab ?_;refine au ?_;refine gH J h ?_ ?_<;>intro h
  ·refine ab ?_;refine ak (fun s L=> ∃d4,gk N (bS N y7 a6 a0 e2) y7 a6 b6 a0 d4=some r/\s=[(0,pV B1 0),(1,.func (.func 47) #[pV B2 0] #[]),(4,iV y7),(18,W a8 b0 b5),(19,iV (a6.Xx.length:Int)),(20,iV b6)]/\L=[aB a8 b0 b5 a6.Xx,oDHeap B2 d4,ir A4 n4 c4 a0.XS,sy A5 n5 c5 a0.XT,ir A6 n6 c6 a0.XU,ae B1 85 (ub a0 B2 B3 A4 n4 c4 A5 n5 c5 A6 n6 c6),oDTable B3 a0.XH]) ?_ ?_
   ·refine ab ?_;obtain ⟨f4,e3,e4,e5,h⟩:=aI h
    refine dD fun f9=> ?_
    refine Nn h (fun _ k=>ik k) fun b7 b9 c8 c9 d0 d1 d2 h=> ?_
    intro d6;refine sY ?_;refine gH J h ?_ ?_<;>intro h
    ·exact jY
    refine ab ?_;refine lK (fun m s L=> ∃(e0:Int) (e1:Vv),gj N (bS N y7 a6 a0 e2) y7 a6 b6 a0 b7 m e0 e1=some r/\s=[(0,pV B1 0),(1,.func (.func 47) #[pV B2 0] #[]),(4,iV y7),(7,pV d6 0),(8,iV e0),(18,W a8 b0 b5),(19,iV (a6.Xx.length:Int)),(20,iV b6)]/\L=[aB a8 b0 b5 a6.Xx,oDHeap B2 e1,ir A4 n4 c4 a0.XS,sy A5 n5 c5 a0.XT,ir A6 n6 c6 a0.XU,ae B1 85 (ub a0 B2 B3 A4 n4 c4 A5 n5 c5 A6 n6 c6),aB b9 c8 c9 b7.Xy,aB d0 d1 d2 b7.Xx,ae d6 45 (ga b7 b9 c8 c9 d0 d1 d2),oDTable B3 a0.XH]) N ?_;rintro g0 _ _ ⟨e0,e1,h,rfl,rfl⟩;rw [gj.eq_2] at h;refine sZ ?_;obtain ⟨g1,h⟩:=ac h;refine dU h ?_ ?_<;>intro h
    ·refine sY ?_;refine bi I ([aB a8 b0 b5 a6.Xx,ir A4 n4 c4 a0.XS,sy A5 n5 c5 a0.XT,ir A6 n6 c6 a0.XU,ae B1 85 (ub a0 B2 B3 A4 n4 c4 A5 n5 c5 A6 n6 c6),aB b9 c8 c9 b7.Xy,aB d0 d1 d2 b7.Xx,ae d6 45 (ga b7 b9 c8 c9 d0 d1 d2),oDTable B3 a0.XH]) (cS [0,2,3,4,5,6,7,8,9] 10) ?_;refine ab ?_;obtain ⟨g2,e6,e7,e8,h⟩:=aI h;refine ab ?_;obtain ⟨g3,k,h⟩:=aa h;refine zD 9 J (oC (cr k)) ?_;rintro _ _ ⟨_,⟨rfl,rfl⟩,rfl⟩;refine aW ?_;refine ab ?_;obtain ⟨g4,h⟩:=ac h;exact lY
    exact jY
   rintro _ _ ⟨d4,h,rfl,rfl⟩;refine ab ?_;obtain ⟨g5,h⟩:=ac h;exact lY
  exact jY
 rintro _ _ ⟨p9,h,rfl,rfl⟩;refine ab ?_;obtain ⟨g6,k,h⟩:=aa h;refine BJ (IU (yi k) J J J (dA [] [0] [1,2,3,4,5] 6 J)) ?_
 refine cC h (fun _ k=>ud k) fun g7 h=> ?_
 exact eN
def jF (N:Nat)(a6 a8 p13 b0 b5 b6 b7 b9 c0 c8:Int)(p21:List ByteArray)(c9 d0 d1:Int)(d2:List Vm)(d3:List ByteArray)(d4:Vv)(d6:Vi):Option (Bool×Vj):=
 some (true,(⟨(⟨a6,a8,p13⟩:Vg),(⟨b0,b5,b6,b7,b9,c0,c8⟩:Vf),(),d4,d6,p21,c9,d0,d1,d2,d3⟩:Vj))
def dt (a0:Vj):Option (Bool×Vj):=
 bif decide (a0.XK.Yg<=a0.XQ.Yd) then (some (false,a0)) else (aD (in64 (a0.XQ.Yd+1)) ((fD N a0.XK.Yi (⟨(⟨a0.XQ.Yd+1,a0.XQ.Yf,a0.XQ.Yh⟩:Vg),a0.XK,(),a0.XF,a0.XH,a0.XS,a0.XR,a0.XY,a0.XZ,a0.XT,a0.XU⟩:Vj)).bind fun b0=>bif b0 then ((eB N (⟨(⟨a0.XQ.Yd+1,a0.XQ.Yf,a0.XQ.Yh⟩:Vg),a0.XK,(),a0.XF,a0.XH,a0.XS,a0.XR,a0.XY,a0.XZ,a0.XT,a0.XU⟩:Vj)).bind fun a6=>jF N a6.XQ.Yd a6.XQ.Yf a6.XQ.Yh a6.XK.Yk a6.XK.Yg a6.XK.Ya a6.XK.Yj a6.XK.XA a6.XK.Yi a6.XK.Yl a6.XS a6.XR a6.XY a6.XZ a6.XT a6.XU a6.XF a6.XH) else ((fD N a0.XK.XA (⟨(⟨a0.XQ.Yd+1,a0.XQ.Yf,a0.XQ.Yh⟩:Vg),a0.XK,(),a0.XF,a0.XH,a0.XS,a0.XR,a0.XY,a0.XZ,a0.XT,a0.XU⟩:Vj)).bind fun b5=>bif b5 then ((eA N (⟨(⟨a0.XQ.Yd+1,a0.XQ.Yf,a0.XQ.Yh⟩:Vg),a0.XK,(),a0.XF,a0.XH,a0.XS,a0.XR,a0.XY,a0.XZ,a0.XT,a0.XU⟩:Vj)).bind fun a8=>jF N a8.XQ.Yd a8.XQ.Yf a8.XQ.Yh a8.XK.Yk a8.XK.Yg a8.XK.Ya a8.XK.Yj a8.XK.XA a8.XK.Yi a8.XK.Yl a8.XS a8.XR a8.XY a8.XZ a8.XT a8.XU a8.XF a8.XH) else (jF N (a0.XQ.Yd+1) a0.XQ.Yf a0.XQ.Yh a0.XK.Yk a0.XK.Yg a0.XK.Ya a0.XK.Yj a0.XK.XA a0.XK.Yi a0.XK.Yl a0.XS a0.XR a0.XY a0.XZ a0.XT a0.XU a0.XF a0.XH))))
theorem zt {N:Nat}{a0:Vj}{r:Bool×Vj}(h:dt N a0=some r):Okc VK 14 [pV B1 0] ([ae B1 85 (ub a0 B2 B3 A4 n4 c4 A5 n5 c5 A6 n6 c6),oDHeap B2 a0.XF,oDTable B3 a0.XH,ir A4 n4 c4 a0.XS,sy A5 n5 c5 a0.XT,ir A6 n6 c6 a0.XU]) (fun u post=> ∃A0 n0 c0 A1 n1 c1 A2 n2 c2,u=.bool r.1/\post=[ae B1 85 (ub r.2 B2 B3 A0 n0 c0 A1 n1 c1 A2 n2 c2),oDHeap B2 r.2.XF,oDTable B3 r.2.XH,ir A0 n0 c0 r.2.XS,sy A1 n1 c1 r.2.XT,ir A2 n2 c2 r.2.XU]):=by
 refine bX Tryz.func14 ?_;intro B7;refine ab ?_;refine au ?_;refine dY [] ?_;refine ab ?_;refine zE 1 J (dz J U1) ?_;refine dU h ?_ ?_<;>intro h
 ·exact eY
 refine ab ?_;obtain ⟨q9,h⟩:=ac h;refine ab ?_;refine dK (ey J) ?_;refine ak (fun s L=> ∃a6 a8 p13 b0 b5 b6 b7 b9 c8 c9 p21 d0 d1 d2 d3 d4 d6 e0 e1 e2 e3 e4 e5 e6 e7 e8 e9,jF N a6 a8 p13 b0 b5 b6 b7 b9 c8 c9 p21 d0 d1 d2 d3 d4 d6 e0=some r/\s=[(2,.bool false)]/\L=[ir e1 e2 e3 p21,sy e4 e5 e6 d3,ir e7 e8 e9 d4,ae B1 85 [iV a6,iV a8,iV p13,iV b0,iV b5,iV b6,iV b7,iV b9,iV c8,iV c9,.nilIface,pV B2 0,pV B3 0,W e1 e2 e3,iV d0,iV d1,iV d2,W e4 e5 e6,W e7 e8 e9],oDHeap B2 d6,oDTable B3 e0]) ?_ ?_
 ·refine ab ?_;obtain ⟨f1,k,h⟩:=aa h;refine BJ (iK (pz k) J J J (t0 (pP (i:=0) J) (t0 (pP (i:=1) J) (t0 (D4 (i:=2) J) (t0 (D4 (i:=3) J) (t0 (gw (i:=4) J) (t0 (gw (i:=5) J) (t0 (gw (i:=6) J) aQ))))))) od) ?_;refine gH J h ?_ ?_<;>intro h
  ·refine gK (t:=[(1,pV B7 0),(2,.bool false)]) ?_ lg (ah _)
   refine gX I 6 [] [0,5] [37,38,39,40,41,42] [[],[],[1],[2],[3],[4]] [aV (pV B1 0),
aV (pV B1 0),
aV (pV B1 0),
aV (pV B1 11),
aV (pV B2 0),
aV (.func (.func 46) #[pV B2 0] #[])] [] (ah _) (kQ) I rfl rfl ?_ ?_ ?_
   ·exact kP
   ·refine qE (BV (caps:=[]) J J) ?_;refine qR (bO 1 J J Bo J) ?_;refine qE (jS J H3) ?_;refine qE (bF J) ?_;refine qR (bO 0 J J GH J) ?_;refine qR (bO 0 J J GH J) ?_;exact dl
   refine nw (t:=[(37,pV B1 0),(42,.func (.func 46) #[pV B2 0] #[]),(1,pV B7 0),(2,.bool false)]) (L':=[ae B7 23 [pV B1 0],ae B1 85 [iV (a0.XQ.Yd+1),iV a0.XQ.Yf,iV a0.XQ.Yh,iV a0.XK.Yk,iV a0.XK.Yg,iV a0.XK.Ya,iV a0.XK.Yj,iV a0.XK.XA,iV a0.XK.Yi,iV a0.XK.Yl,.nilIface,pV B2 0,pV B3 0,W A4 n4 c4,iV a0.XR,iV a0.XY,iV a0.XZ,W A5 n5 c5,W A6 n6 c6],oDHeap B2 a0.XF,oDTable B3 a0.XH,ir A4 n4 c4 a0.XS,sy A5 n5 c5 a0.XT,ir A6 n6 c6 a0.XU]) ?_ lg (ah _);obtain ⟨f2,k,h⟩:=aa h;refine qj 6 J I (oC (rV k)) J J J ?_;rintro _ _ ⟨_,⟨f3,f4,f9,g0,g1,g2,g3,g4,g5,rfl,rfl⟩,rfl⟩;refine lc I ?_;exact jY
  refine ab ?_;obtain ⟨g6,k,h⟩:=aa h;refine BJ (iK (pz k) J J J (t0 (pP (i:=0) J) (t0 (pP (i:=1) J) (t0 (D4 (i:=2) J) (t0 (D4 (i:=3) J) (t0 (gw (i:=4) J) (t0 (gw (i:=5) J) (t0 (gw (i:=6) J) aQ))))))) od) ?_;refine gH J h ?_ ?_<;>intro h
  ·refine gK (t:=[(1,pV B7 0),(2,.bool false)]) ?_ lg (ah _)
   refine gX I 6 [] [0,5] [52,53,54,55,56,57] [[],[],[1],[2],[3],[4]] [aV (pV B1 0),
aV (pV B1 0),
aV (pV B1 0),
aV (pV B1 11),
aV (pV B2 0),
aV (.func (.func 47) #[pV B2 0] #[])] [] (ah _) (kQ) I rfl rfl ?_ ?_ ?_
   ·exact kP
   ·refine qE (BV (caps:=[]) J J) ?_;refine qR (bO 1 J J Bo J) ?_;refine qE (jS J H3) ?_;refine qE (bF J) ?_;refine qR (bO 0 J J GH J) ?_;refine qR (bO 0 J J GH J) ?_;exact dl
   refine nw (t:=[(52,pV B1 0),(57,.func (.func 47) #[pV B2 0] #[]),(1,pV B7 0),(2,.bool false)]) (L':=[ae B7 23 [pV B1 0],ae B1 85 [iV (a0.XQ.Yd+1),iV a0.XQ.Yf,iV a0.XQ.Yh,iV a0.XK.Yk,iV a0.XK.Yg,iV a0.XK.Ya,iV a0.XK.Yj,iV a0.XK.XA,iV a0.XK.Yi,iV a0.XK.Yl,.nilIface,pV B2 0,pV B3 0,W A4 n4 c4,iV a0.XR,iV a0.XY,iV a0.XZ,W A5 n5 c5,W A6 n6 c6],oDHeap B2 a0.XF,oDTable B3 a0.XH,ir A4 n4 c4 a0.XS,sy A5 n5 c5 a0.XT,ir A6 n6 c6 a0.XU]) ?_ lg (ah _);obtain ⟨g7,k,h⟩:=aa h;refine qj 6 J I (oC (rU k)) J J J ?_;rintro _ _ ⟨_,⟨g8,g9,h0,h1,h2,h3,h4,h5,h6,rfl,rfl⟩,rfl⟩;refine xW ?_;refine lc I ?_;exact jY
  exact jY
 refine fun s L=>ai fun a6=>ai fun a8=>ai fun p13=>ai fun b0=>ai fun b5=>ai fun b6=>ai fun b7=>ai fun b9=>ai fun c8=>ai fun c9=>ai fun p21=>ai fun d0=>ai fun d1=>ai fun d2=>ai fun d3=>ai fun d4=>ai fun d6=>ai fun e0=>ai fun e1=>ai fun e2=>ai fun e3=>ai fun e4=>ai fun e5=>ai fun e6=>ai fun e7=>ai fun e8=>ai fun e9=>xi fun h=> ?_
 exact eY
theorem qh {N:Nat}{a0:Vj}{r:Bool×Vj}(h:dt N a0=some r){B1 B2 B3:Nat}:Okc VK 14 [pV B1 0] ([oDWorld B1 B2 B3 a0]) (fun u post=>u=.bool r.1/\post=[oDWorld B1 B2 B3 r.2]):=IV 0 rfl (fun _=>zt h)
def ql (N:Nat)(p13:Vj):Option (Bool×Vj):=
 some (false,p13)
def th (a0:Vj)(a1:Int)(a2:Vr):Option (Bool×Vj):=
 aD (in64 (a1+a2.O)) ((bl N a0 (a1+a2.O)).bind fun y6=>(tg N a0 a1 a2.D.Value).bind fun y9=>(tg N a0 a1 a2.D.XL).bind fun b6=>(tg N a0 a1 a2.D.XM).bind fun b7=>bif decide (a2.Xw=0) then ((jq N a0 y6 a2.K (⟨a2.D.Has,a2.D.XE,y9,b6,b7⟩:Vn)).bind fun a6=>some (a6.1,a6.2)) else (bif decide (a2.Xw=1) then ((oB N a0 y6 a2.K).bind fun a8=>some (a8.1,a8.2)) else (bif decide (a2.Xw=2) then ((zz N a0 a1 a2.P).bind fun b9=>(uJ N a0 y6 b9).bind fun b0=>some (b0.1,b0.2)) else (bif decide (a2.Xw=3) then ((nc N a0 y6).bind fun c0=>ql N c0) else (bif decide (a2.Xw=4) then ((tg N a0 a1 a2.V).bind fun c8=>(jK N a0 y6 a2.K c8 a2.XE).bind fun b5=>some (b5.1,b5.2)) else (bif decide (a2.Xw=5) then ((dt N a0).bind fun c9=>ql N c9.2) else (ql N a0)))))))
theorem Gl {N:Nat}{a0:Vj}{a2:Vr}{r:Bool×Vj}(h:th N a0 a1 a2=some r){B1 B2 B3:Nat}:Okc VK 13 [pV B1 0,iV a1,(SK a2)] ([oDWorld B1 B2 B3 a0]) (fun u post=>u=.bool r.1/\post=[oDWorld B1 B2 B3 r.2]):=by
 refine bX Tryz.func13 ?_;intro B4;refine ab ?_;obtain ⟨q5,h⟩:=ac h
 refine cR h (fun _ k=>cq k) fun y6 h=> ?_
 intro B7
 refine dD fun B8=> ?_
 refine cR h (fun _ k=>yF k) fun y9 h=> ?_
 refine cR h (fun _ k=>yF k) fun a6 h=> ?_
 refine cR h (fun _ k=>yF k) fun a8 h=> ?_
 refine ak (fun s L=> ∃p13,ql N p13=some r/\s=[(6,.bool false)]/\L=[oDWorld B1 B2 B3 p13]) ?_ ?_
 ·refine dU h ?_ ?_<;>intro h
  ·refine cC h (fun _ k=>vK k) fun b0 h=> ?_
   exact eN
  refine dU h ?_ ?_<;>intro h
  ·refine cC h (fun _ k=>CI k) fun b5 h=> ?_
   exact eN
  refine dU h ?_ ?_<;>intro h
  ·refine au ?_;refine bi I ([ae B8 36 [iV a2.D.Has,iV a2.D.XE,iV y9.Xw,iV y9.N,.string y9.S,iV a6.Xw,iV a6.N,.string a6.S,iV a8.Xw,iV a8.N,.string a8.S],ae B7 29 [iV y6.Xw,iV y6.N,.string y6.S],ae B4 38 (F9 a2)]) (cS [0,1,2] 4) ?_;refine ab ?_;obtain ⟨b6,k,h⟩:=aa h;refine zD 6 J (oR (Eh k)) ?_;rintro _ _ ⟨_,⟨rfl,rfl⟩,rfl⟩;refine aW ?_;obtain ⟨b7,k,h⟩:=aa h;refine zD 7 J (oC (Am k)) ?_;rintro _ _ ⟨_,⟨rfl,rfl⟩,rfl⟩;refine aW ?_;exact eY
  refine dU h ?_ ?_<;>intro h
  ·refine cC h (fun _ k=>wL k) fun b9 h=> ?_
   exact jN
  refine dU h ?_ ?_<;>intro h
  ·refine au ?_;refine bi I ([ae B8 36 [iV a2.D.Has,iV a2.D.XE,iV y9.Xw,iV y9.N,.string y9.S,iV a6.Xw,iV a6.N,.string a6.S,iV a8.Xw,iV a8.N,.string a8.S],ae B7 29 [iV y6.Xw,iV y6.N,.string y6.S],ae B4 38 (F9 a2)]) (cS [0,1,2] 4) ?_;refine zY [0,1,2,3,4,5,6,7,9,10] ?_;obtain ⟨c0,k,h⟩:=aa h;refine zD 8 J (oR (yF k)) ?_;rintro _ _ ⟨_,⟨rfl,rfl⟩,rfl⟩;refine aW ?_;obtain ⟨c8,k,h⟩:=aa h;refine zD 11 J (oC (uZ k)) ?_;rintro _ _ ⟨_,⟨rfl,rfl⟩,rfl⟩;refine aW ?_;refine zX [12] ?_;exact eY
  refine dU h ?_ ?_<;>intro h
  ·refine cC h (fun _ k=>qh k) fun c9 h=> ?_
   exact jN
  exact jY
 rintro _ _ ⟨p13,h,rfl,rfl⟩;exact eY
def i6 (a8:Int)(a6:Vj):Option Bool:=
 (bl N a6 a8).bind fun b0=>(nF N a6 b0).bind fun b5=>aD (in64 (a8+1)) ((bl N a6 (a8+1)).bind fun b6=>(nF N a6 b6).bind fun b7=>(bif b5==b7 then ((o8 N).bind fun b9=>some b9) else (some false)).bind fun c0=>some c0)
def i5 (N:Nat)(d2:Int)(a8 b0:((List Vk)))(d3:Vj):Nat->Int->Option Bool
 |0,_=>none
 |b5+1,a6=>bif decide (a6<(a8.length:Int)) then ((ao a8 a6).bind fun b6=>(ao b0 a6).bind fun b7=>(bif !decide (b6.XI=b7.XI) then (some true) else ((ao a8 a6).bind fun b9=>(ao b0 a6).bind fun c0=>some (!decide (b9.XE=c0.XE)))).bind fun c8=>(bif c8 then (some true) else ((ao a8 a6).bind fun c9=>(ao b0 a6).bind fun d0=>some (!decide (c9.Value=d0.Value)))).bind fun d1=>bif d1 then (some false) else (aD (in64 (a6+1)) ((i5 N d2 a8 b0 d3 b5) (a6+1)))) else (i6 N d2 d3)
def jx (a8:Int)(a6:Vj):Option Bool:=
 (bl N a6 a8).bind fun b9=>(kS N a6 b9).bind fun b6=>aD (in64 (a8+1)) ((bl N a6 (a8+1)).bind fun c0=>(kS N a6 c0).bind fun b7=>(bif !decide ((b6.length:Int)=(b7.length:Int)) then (some true) else ((bl N a6 a8).bind fun c8=>(aE N a6 c8).bind fun c9=>aD (in64 (a8+1)) ((bl N a6 (a8+1)).bind fun b0=>(aE N a6 b0).bind fun b5=>some (!decide (c9.XD=b5.XD))))).bind fun d0=>bif d0 then (some false) else (i5 N a8 b6 b7 a6 N 0))
def gb (N:Nat)(a6:Int->Vj->Option Bool)(b5 a8:Int)(a0:List Vr)(b0:Vj):Option Bool:=
 aD (in64 (a8+1)) (a6 (a8+1) b0)
def mR (a6:Int->Vj->Option Bool)(a8 b6:Int)(a0:List Vr)(b7:Vj)(b9 h6 c0 c8 c9:Int)(d0:ByteArray)(d1 d2 d3 d4:Int)(d6:ByteArray)(e0 e1:Int)(e2:ByteArray)(e3 e4:Int)(e5:ByteArray)(e6 e7:Int)(e8:ByteArray)(e9 f1 h7 f2 f3 f4:Int)(f9:ByteArray)(g0 g1 g2 g3:Int)(g4:ByteArray)(g5 g6:Int)(g7:ByteArray)(g8 g9:Int)(h0:ByteArray)(h1 h2:Int)(h3:ByteArray)(h4:Int):Option Bool:=
 (th N b7 a8 (⟨b9,0,c0,(⟨c8,c9,d0⟩:Vs),(⟨d1,d2,(⟨d3,d4,d6⟩:Vp),(⟨e0,e1,e2⟩:Vp),(⟨e3,e4,e5⟩:Vp)⟩:Vn),(⟨e6,e7,e8⟩:Vp),e9⟩:Vr)).bind fun b0=>(th N b0.2 a8 (⟨f1,1,f2,(⟨f3,f4,f9⟩:Vs),(⟨g0,g1,(⟨g2,g3,g4⟩:Vp),(⟨g5,g6,g7⟩:Vp),(⟨g8,g9,h0⟩:Vp)⟩:Vn),(⟨h1,h2,h3⟩:Vp),h4⟩:Vr)).bind fun b5=>bif !(b0.1==b5.1) then (some false) else ((dt N b5.2).bind fun h5=>gb N a6 a8 b6 a0 h5.2)
def cE (N:Nat)(b5:Int)(a0:List Vr):Nat->Int->Vj->Option Bool
 |0,_,_=>none
 |b7+1,b0,b6=>bif decide (b0<(a0.length:Int)) then ((ao a0 b0).bind fun b9=>(qK N b9).bind fun c0=>bif !c0 then (gb N (cE N b5 a0 b7) b5 b0 a0 b6) else ((ao a0 b0).bind fun a6=>(ao a0 b0).bind fun a8=>mR N (cE N b5 a0 b7) b5 b0 a0 b6 a6.Xw a6.O a6.P a6.K.Xw a6.K.N a6.K.S a6.D.Has a6.D.XE a6.D.Value.Xw a6.D.Value.N a6.D.Value.S a6.D.XL.Xw a6.D.XL.N a6.D.XL.S a6.D.XM.Xw a6.D.XM.N a6.D.XM.S a6.V.Xw a6.V.N a6.V.S a6.XE a8.Xw a8.O a8.P a8.K.Xw a8.K.N a8.K.S a8.D.Has a8.D.XE a8.D.Value.Xw a8.D.Value.N a8.D.Value.S a8.D.XL.Xw a8.D.XL.N a8.D.XL.S a8.D.XM.Xw a8.D.XM.N a8.D.XM.S a8.V.Xw a8.V.N a8.V.S a8.XE)) else (jx N b5 b6)
def mT (a6:Int)(a0:List Vr)(p13:Vj):Option Bool:=
 cE N a6 a0 N 0 p13
def jw (N:Nat)(b0:Int)(a0:List Vr):Nat->Int->Vj->Option Bool
 |0,_,_=>none
 |b6+1,a6,b5=>bif decide (a6<2) then ((lE N b5 (⟨1,0,⟨#[]⟩⟩:Vp) 1).bind fun a8=>bif !a8.2.1 then (some false) else ((iU N a8.2.2 a8.1).bind fun b7=>aD (in64 (a6+1)) ((jw N b0 a0 b6) (a6+1) b7.2))) else (mT N b0 a0 b5)
def lp (a0:List Vr):Option Bool:=
 (qk N).bind fun y2=>yL y2 (fun y2_0=>(o8 N).bind fun y3=>some y3) (fun y2_1=>(bif decide (40<(a0.length:Int)) then (some true) else ((yG N a0 2).bind fun y8=>some (!decide (y8=1)))).bind fun b7=>bif b7 then ((o8 N).bind fun a6=>some a6) else ((ci N y2_1).bind fun a8=>jw N a8 a0 N 0 y2_1))
theorem zm {N:Nat}{a0:List Vr}{r:Bool}(h:lp N a0=some r):Okc VK 3 [W A1 n1 c1] ([iI DL (W A1 n1 c1) a0]) (fun u post=>u=.bool r/\post=[]):=by
 refine bX Tryz.func3 ?_;obtain ⟨y2,l2,h⟩:=aa h;rcases y2 with y2_0|y2_1
 ·replace h:=Cq h;refine BJ (oC (uz l2)) ?_;refine sZ ?_;refine dK (dz J U1) ?_;refine cz J ?_
  refine cR h (fun _ k=>vY k) fun y3 h=> ?_
  exact eN
 replace h:=Cp h;refine gD (oC (uz l2)) ?_;rintro _ _ ⟨_,⟨B4,B5,B6,rfl,rfl⟩,rfl⟩;refine sY ?_;refine dK (dz J U1) ?_
 refine BK 4 26 22 h (fun _ g7 h=> ?_) fun b7 h=> ?_
 ·refine cR h (fun _ k=>JX k) fun y8 h=> ?_
  exact gY
 refine dU h ?_ ?_<;>intro h
 ·refine cR h (fun _ k=>vY k) fun r3 h=> ?_
  exact eN
 refine cR h (fun _ k=>xc k) fun a6 h=> ?_
 refine ak (fun s L=> ∃p13,mT N a6 a0 p13=some r/\s=[(0,W A1 n1 c1),(2,.bool false),(3,pV B4 0),(4,iV a6)]/\L=[iI DL (W A1 n1 c1) a0,oDWorld B4 B5 B6 p13]) ?_ ?_
 ·refine ab ?_;refine lK (fun m s L=> ∃(k4:Int) (k5:Vj),jw N a6 a0 m k4 k5=some r/\s=[(0,W A1 n1 c1),(2,.bool false),(3,pV B4 0),(4,iV a6),(5,iV k4)]/\L=[iI DL (W A1 n1 c1) a0,oDWorld B4 B5 B6 k5]) N ?_;rintro r4 _ _ ⟨k4,k5,h,rfl,rfl⟩;rw [jw.eq_2] at h;refine sZ ?_;refine gH J h ?_ ?_<;>intro h
  ·refine sY ?_
   refine cC h (fun _ k=>zP k) fun r5 h=> ?_
   intro r6;refine sY ?_;refine gH J h ?_ ?_<;>intro h
   ·exact eY
   refine cC h (fun _ k=>xb k) fun s0 h=> ?_
   obtain ⟨s1,h⟩:=ac h;exact lY
  exact jY
 rintro _ _ ⟨p13,h,rfl,rfl⟩;refine ak (fun s L=> ∃d2,jx N a6 d2=some r/\s=[(2,.bool false),(3,pV B4 0),(4,iV a6)]/\L=[oDWorld B4 B5 B6 d2]) ?_ ?_
 ·refine ab ?_;refine lK (fun m s L=> ∃(d3:Int) (e0:Vj),cE N a6 a0 m d3 e0=some r/\s=[(0,W A1 n1 c1),(2,.bool false),(3,pV B4 0),(4,iV a6),(8,iV d3)]/\L=[iI DL (W A1 n1 c1) a0,oDWorld B4 B5 B6 e0]) N ?_;rintro l3 _ _ ⟨d3,e0,h,rfl,rfl⟩;rw [cE.eq_2] at h;refine sZ ?_;refine gH J h ?_ ?_<;>intro h
  ·refine ab ?_;refine ak (fun s L=> ∃k6,gb N (cE N a6 a0 l3) a6 d3 a0 k6=some r/\s=[(0,W A1 n1 c1),(2,.bool false),(3,pV B4 0),(4,iV a6),(8,iV d3)]/\L=[iI DL (W A1 n1 c1) a0,oDWorld B4 B5 B6 k6]) ?_ ?_
   ·refine sY ?_;obtain ⟨s2,m7,m8,m9,h⟩:=aI h
    refine cR h (fun _ k=>Ei k) fun s3 h=> ?_
    refine gH J h ?_ ?_<;>intro h
    ·exact jY
    refine ab ?_;refine ak (fun s L=> ∃e7 k7 e8 e9 f1 f2 f3 f4 f9 g0 g1 g2 g3 g4 g5 g6 g8 g9 h0 h1 h2 h3 k8 h4 h5 h6 h7 h8 h9 i0 i1 i2 i8 j0 j1 j2 j3 j4 j5 j6 j7 j8 j9 k0,mR N (cE N a6 a0 l3) a6 d3 a0 e0 e7 k7 e8 e9 f1 f2 f3 f4 f9 g0 g1 g2 g3 g4 g5 g6 g8 g9 h0 h1 h2 h3 k8 h4 h5 h6 h7 h8 h9 i0 i1 i2 i8 j0 j1 j2 j3 j4 j5 j6 j7 j8=some r/\s=[(0,W A1 n1 c1),(2,.bool false),(3,pV B4 0),(4,iV a6),(8,iV d3),(9,pV j9 0),(10,pV k0 0)]/\L=[iI DL (W A1 n1 c1) a0,ae j9 38 [iV e7,iV k7,iV e8,iV e9,iV f1,.string f2,iV f3,iV f4,iV f9,iV g0,.string g1,iV g2,iV g3,.string g4,iV g5,iV g6,.string g8,iV g9,iV h0,.string h1,iV h2],ae k0 38 [iV h3,iV k8,iV h4,iV h5,iV h6,.string h7,iV h8,iV h9,iV i0,iV i1,.string i2,iV i8,iV j0,.string j1,iV j2,iV j3,.string j4,iV j5,iV j6,.string j7,iV j8],oDWorld B4 B5 B6 e0]) ?_ ?_
    ·refine bi I _ (ah _) ?_;refine zY [0,1] ?_;obtain ⟨k2,n0,n8,n9,h⟩:=aI h;refine zY [2,3,4,5] ?_;obtain ⟨k3,o0,o1,o2,h⟩:=aI h;refine zY [6,7] ?_;refine o7 8 9 I ?_ ?_
     ·refine bJ J (cF zero38.out J) J J J ?_;rintro _ _ ⟨o3,rfl,rfl⟩;refine aW ?_
      refine Gj 9 J (cF zero38.out J) fun o4=> ?_
      refine zO 10 J (ar (us:=F9 k2) (cs':=F9 k2) 1 J J J J size38.out J J J) ?_;rintro _ _ rfl;refine aW ?_;refine bf ?_;refine zO 11 J (ar (us:=F9 k3) (cs':=F9 k3) 0 J J J J size38.out J J J) ?_;rintro _ _ rfl;refine aW ?_;refine bf ?_;refine dB I ?_;exact jY
     refine bJ J (cF zero38.out J) J J J ?_;rintro _ _ ⟨o3,rfl,rfl⟩;refine aW ?_
     refine Gj 8 J (cF zero38.out J) fun o4=> ?_
     refine zO 10 J (ar (us:=F9 k2) (cs':=F9 k2) 0 J J J J size38.out J J J) ?_;rintro _ _ rfl;refine aW ?_;refine bf ?_;refine zO 11 J (ar (us:=F9 k3) (cs':=F9 k3) 1 J J J J size38.out J J J) ?_;rintro _ _ rfl;refine aW ?_;refine bf ?_;refine dB I ?_;exact jY
    refine fun s L=>ai fun e7=>ai fun k7=>ai fun e8=>ai fun e9=>ai fun f1=>ai fun f2=>ai fun f3=>ai fun f4=>ai fun f9=>ai fun g0=>ai fun g1=>ai fun g2=>ai fun g3=>ai fun g4=>ai fun g5=>ai fun g6=>ai fun g8=>ai fun g9=>ai fun h0=>ai fun h1=>ai fun h2=>ai fun h3=>ai fun k8=>ai fun h4=>ai fun h5=>ai fun h6=>ai fun h7=>ai fun h8=>ai fun h9=>ai fun i0=>ai fun i1=>ai fun i2=>ai fun i8=>ai fun j0=>ai fun j1=>ai fun j2=>ai fun j3=>ai fun j4=>ai fun j5=>ai fun j6=>ai fun j7=>ai fun j8=>ai fun j9=>ai fun k0=>xi fun h=> ?_
    refine ab ?_;refine au ?_;refine au ?_;refine bi I ([iI DL (W A1 n1 c1) a0,ae j9 38 [iV e7,iV 0,iV e8,iV e9,iV f1,.string f2,iV f3,iV f4,iV f9,iV g0,.string g1,iV g2,iV g3,.string g4,iV g5,iV g6,.string g8,iV g9,iV h0,.string h1,iV h2],ae k0 38 [iV h3,iV 1,iV h4,iV h5,iV h6,.string h7,iV h8,iV h9,iV i0,iV i1,.string i2,iV i8,iV j0,.string j1,iV j2,iV j3,.string j4,iV j5,iV j6,.string j7,iV j8]]) (cS [0,1,2] 4) ?_;refine zY [0,1,2,4,5,6] ?_;obtain ⟨s4,k,h⟩:=aa h;refine zD 3 J (oC (Gl k)) ?_;rintro _ _ ⟨_,⟨rfl,rfl⟩,rfl⟩;refine aW ?_;refine bf ?_;obtain ⟨s5,k,h⟩:=aa h;refine zD 7 J (oC (Gl k)) ?_;rintro _ _ ⟨_,⟨rfl,rfl⟩,rfl⟩;refine aW ?_;refine bf ?_;refine zE 8 J (R3 J J U2) ?_;refine dB I ?_;refine dU h ?_ ?_<;>intro h
    ·exact eY
    refine cC h (fun _ k=>qh k) fun s6 h=> ?_
    exact jN
   rintro _ _ ⟨k6,h,rfl,rfl⟩;refine ab ?_;obtain ⟨s7,h⟩:=ac h;exact lY
  exact jY
 rintro _ _ ⟨d2,h,rfl,rfl⟩;refine ab ?_;obtain ⟨s8,k,h⟩:=aa h;refine gV (oR (cq k)) ?_
 refine JS h (fun _ k=>rZ k) fun l4 l5 l6 l7 h=> ?_
 obtain ⟨s9,h⟩:=ac h;refine ab ?_;obtain ⟨t1,k,h⟩:=aa h;refine gV (oR (cq k)) ?_
 refine JS h (fun _ k=>rZ k) fun l8 l9 m0 m1 h=> ?_
 refine sZ ?_
 refine BK 15 109 94 h (fun _ d6 h=> ?_) fun t2 h=> ?_
 ·refine ab ?_;obtain ⟨t6,k,h⟩:=aa h;refine gU (oR (cq k)) (km d6 J) ?_;obtain ⟨u0,k,h⟩:=aa h;refine Hj (oR (fE k)) J (km d6 J) J ?_;rintro _ _ ⟨_,⟨u1,u2,u3,u4,u5,u6,rfl,rfl⟩,rfl⟩;refine ie (uh J (Jg _ _ _ _ _ _ _ _ _ _)) J (km d6 J) J ?_;refine ab ?_;obtain ⟨o5,h⟩:=ac h;refine ab ?_;obtain ⟨p0,k,h⟩:=aa h;refine gU (oR (cq k)) (km d6 J) ?_;obtain ⟨p1,k,h⟩:=aa h;refine Hj (oR (fE k)) J (km d6 J) J ?_;rintro _ _ ⟨_,⟨p2,p3,p4,p5,p6,p7,rfl,rfl⟩,rfl⟩;refine ie (uh J (Jg _ _ _ _ _ _ _ _ _ _)) J (km d6 J) J ?_;exact gY
 refine dU h ?_ ?_<;>intro h
 ·exact eY
 refine ab ?_;refine ak (fun s L=>i6 N a6 d2=some r/\s=[(2,.bool false),(3,pV B4 0),(4,iV a6)]/\L=[oDWorld B4 B5 B6 d2]) ?_ ?_
 ·refine ab ?_;refine lK (fun m s L=> ∃(d4:Int),i5 N a6 l4 l8 d2 m d4=some r/\s=[(2,.bool false),(3,pV B4 0),(4,iV a6),(11,W l5 l6 l7),(12,W l9 m0 m1),(13,iV d4)]/\L=[bh tG 48 (W l5 l6 l7) l4,bh tG 48 (W l9 m0 m1) l8,oDWorld B4 B5 B6 d2]) N ?_;rintro p8 _ _ ⟨d4,h,rfl,rfl⟩;rw [i5.eq_2] at h;refine sZ ?_;refine gH J h ?_ ?_<;>intro h
  ·refine sY ?_;refine dY [0,1] ?_;obtain ⟨k9,e1,e2,m2,h⟩:=aI h;refine zY [2] ?_;refine zR 3 J (rY 0 J aj J (toNat_lt e1 e2) Ea) ?_;refine zY [4,5,6] ?_;obtain ⟨l0,e3,e4,m3,h⟩:=aI h;refine zY [7] ?_;refine zR 8 J (rY 1 J aj J (toNat_lt e3 e4) Ea) ?_;refine zY [9] ?_;refine zE 10 J (MY (x:=k9.XI) (y:=l0.XI) J J) ?_;refine zY [11] ?_
   refine yJ [12,13,14,15,16,17,18,19,20,21,22,23] 13 127 139 h (fun _ b0 h rest=> ?_) (fun _ b0 h rest=> ?_) fun q0 h=> ?_
   ·refine yY [12,13,14,15,16,17,18,19,20,21,22,23] ?_;exact yS rest h
   ·refine yY [12,13] ?_;obtain ⟨q1,b5,b6,m4,h⟩:=aI h;refine vV 14 J I (cK 0 J aj J J EM size48.out b5 b6) (km b0 J) J ?_;refine vV 15 J I (lQ 0 J aj J (toNat_lt b5 b6) H4) (km b0 J) J ?_;refine yY [16,17,18] ?_;obtain ⟨q2,b9,c0,m5,h⟩:=aI h;refine vV 19 J I (cK 1 J aj J J EM size48.out b9 c0) (km b0 J) J ?_;refine vV 20 J I (lQ 1 J aj J (toNat_lt b9 c0) H4) (km b0 J) J ?_;refine yY [21,22,23] ?_;exact yS rest h
   refine zY [24] ?_
   refine yJ [25,26,27,28,29,30,31,32,33,34,35,36] 0 140 152 h (fun _ a8 h rest=> ?_) (fun _ a8 h rest=> ?_) fun q3 h=> ?_
   ·refine yY [25,26,27,28,29,30,31,32,33,34,35,36] ?_;exact yS rest h
   ·refine yY [25,26] ?_;obtain ⟨l1,c8,c9,m6,h⟩:=aI h;refine vV 27 J I (cK 0 J aj J J EM size48.out c8 c9) (km a8 J) J ?_;refine vV 28 J I (lQ 0 J aj J (toNat_lt c8 c9) D9) (km a8 J) J ?_;refine yY [29,30,31] ?_;obtain ⟨e5,d0,d1,e6,h⟩:=aI h;refine vV 32 J I (cK 1 J aj J J EM size48.out d0 d1) (km a8 J) J ?_;refine vV 33 J I (lQ 1 J aj J (toNat_lt d0 d1) D9) (km a8 J) J ?_;refine vV 34 J I (gp (us:=ed e5.Value) 1 J aj J e6 agg29.out (fun _ _ _ h=>by rw [show _=_ from h];rfl)) (km a8 J) J ?_;refine wR 35 J I (GW (x:=l1.Value) (y:=e5.Value) J J) (km a8 J) J ?_;refine zE 36 J (wz a8 J J) ?_;exact yS rest h
   refine dB I ?_;refine dU h ?_ ?_<;>intro h
   ·exact eY
   refine ab ?_;obtain ⟨q4,h⟩:=ac h;exact lY
  exact jY
 rintro _ _ ⟨h,rfl,rfl⟩;refine ab ?_;obtain ⟨q5,k,h⟩:=aa h;refine gV (oR (cq k)) ?_
 refine cR h (fun _ k=>va k) fun q6 h=> ?_
 obtain ⟨q7,h⟩:=ac h;refine ab ?_;obtain ⟨q8,k,h⟩:=aa h;refine gV (oR (cq k)) ?_;obtain ⟨q9,k,h⟩:=aa h;refine gV (oR (va k)) ?_;refine dK (OL J J U2) ?_
 refine qi 2 167 165 h (fun _ r0 h=> ?_) fun r1 h=> ?_
 ·refine cR h (fun _ k=>vY k) fun r2 h=> ?_
  exact gY
 exact eY
end
end Go.Proofs.YthhiddkljcacaaaGreat