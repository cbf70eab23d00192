/- Merged texts: part 6. No conditions of their own. -/
import Derived.Test.YthhiddkljcacaaaGreatG5
set_option maxHeartbeats 4000000
namespace Go.Proofs.YthhiddkljcacaaaGreat
variable (N:Nat){l:Nat}{σ:Type}{G:VI}{vf:Value}{a0:Vd}{ff:Vp->Option Bool}{a1:Vx}
theorem U6:type_of% Tryz.underlying207:=Tryz.underlying207
theorem U5:type_of% Tryz.underlying267:=Tryz.underlying267
variable {A1 A2 A3 A4 A5 A6 A7:Option Addr}{B1 B2 B3 B8 M2 M5 M6 M9 c1 c2 c3 c4 c5 c6 c7 n1 n2 n3 n4 n5 n6 n7:Nat}
open Go.RowKit Asn
set_option maxRecDepth 20000
def r7 (a0:Ve)(a6:Vx):Option Int:=
 (bD N a6 (fun x=>iL N x a0)).bind fun a8=>bif a8 then (some 50) else (some 0)
def oE (N:Nat)(a6:Vx->Int->Option Int)(a1:Vw)(a8:Int)(a0:Ve)(b0:Vx):Option Int:=
 aD (in64 (a8+1)) (a6 b0 (a8+1))
def fw (N:Nat)(a1:Vw)(a0:Ve):Nat->Vx->Int->Option Int
 |0,_,_=>none
 |b5+1,a6,a8=>bif decide (a8<(a1.length:Int)) then ((ao a1 a8).bind fun b0=>(bif decide (b0.Xw=7) then (some true) else (some (decide (b0.Xw=9)))).bind fun b6=>bif b6 then (aD (bY (a6.length+([b0.N]:List Int).length)) (oE N (fw N a1 a0 b5) a1 a8 a0 (a6++([b0.N]:List Int)))) else (oE N (fw N a1 a0 b5) a1 a8 a0 a6)) else (r7 N a0 a6)
def pN (a1:Vw)(a0:Ve)(p6:Vx):Option Int:=
 fw N a1 a0 N p6 0
def r8 (N:Nat)(a8:Vx->Int->Option Int)(a0:Ve)(a6:Int)(a1:Vw)(b0:Vx):Option Int:=
 aD (in64 (a6+1)) (a8 b0 (a6+1))
def lS (N:Nat)(b7:Vx->Int->Option Int)(a0:Ve)(b9:Int)(b0:VF)(a1:Vw):Nat->Vx->Int->Option Int
 |0,_,_=>none
 |c8+1,a6,a8=>bif decide (a8<(b0.length:Int)) then ((ao b0 a8).bind fun b5=>(fa N b5).bind fun c9=>bif !c9 then (some 51) else ((iz N b5).bind fun b6=>aD (bY (a6.length+b6.length)) ((mg N b5).bind fun c0=>aD (bY ((a6++b6).length+c0.length)) (aD (in64 (a8+1)) ((lS N b7 a0 b9 b0 a1 c8) ((a6++b6)++c0) (a8+1)))))) else (r8 N b7 a0 b9 a1 a6)
def ni (N:Nat)(a0:Ve)(a1:Vw):Nat->Vx->Int->Option Int
 |0,_,_=>none
 |m8+1,p9,a6=>bif decide (a6<(([a0.XA,a0.Xz]:List VF).length:Int)) then ((ao ([a0.XA,a0.Xz]:List VF) a6).bind fun a8=>lS N (ni N a0 a1 m8) a0 a6 a8 a1 N p9 0) else (pN N a1 a0 p9)
def me (a0:Ve)(a1:Vw):Option Int:=
 ni N a0 a1 N [] 0
theorem Fa {N:Nat}{a0:Ve}{a1:Vw}{r:Int}(h:me N a0 a1=some r):Okc VK 147 [.agg #[W A1 n1 c1,W A2 n2 c2],W A3 n3 c3] ([bB A1 n1 c1 a0.XA,bB A2 n2 c2 a0.Xz,aZ A3 n3 c3 a1]) (fun u post=>u=iV r/\post=[]):=by
 refine bX Tryz.func147 ?_;intro B4;refine ab ?_;refine ak (fun s L=> ∃p6 A6 n6 c6,pN N a1 a0 p6=some r/\s=[(1,W A3 n3 c3),(2,pV B4 0),(4,iV 0),(5,W A6 n6 c6)]/\L=[aZ A3 n3 c3 a1,fm A6 n6 c6 p6,bB A1 n1 c1 a0.XA,bB A2 n2 c2 a0.Xz,ae B4 125 [W A1 n1 c1,W A2 n2 c2]]) ?_ ?_
 ·refine ab ?_
  refine rP (aL (R:=(Rep.sl ei)) (vss:=[[W A1 n1 c1],[W A2 n2 c2]]) (xs:=[a0.XA,a0.Xz]) J (G9 _ _ _ _ _ _) J J (fun _ _ hr=> .cons (⟨_,J,hr 1 _ J J⟩) (.cons (⟨_,J,hr 2 _ J J⟩) All2.nil))) fun A7 n7 c7=> ?_
  refine gZ (fun m s L=> ∃p9 a6 A9 n9 c9,ni N a0 a1 m p9 a6=some r/\s=[(1,W A3 n3 c3),(2,pV B4 0),(4,iV 0),(5,W A9 n9 c9),(16,W A7 n7 c7),(17,iV (([a0.XA,a0.Xz]:List VF).length:Int)),(18,iV a6)]/\L=[aZ A3 n3 c3 a1,fm A9 n9 c9 p9,bh (Rep.sl ei) 123 (W A7 n7 c7) ([a0.XA,a0.Xz]:List VF),bB A1 n1 c1 a0.XA,bB A2 n2 c2 a0.Xz,ae B4 125 [W A1 n1 c1,W A2 n2 c2]]) N _ _ ⟨[],0,none,0,0,h,J,J⟩ sA ((bq (jI .i64) 3 _).trans (cS [5,0,1,3,4,2] 6)) ?_;rintro (_|m8) _ _ ⟨p9,a6,A9,n9,c9,h,rfl,rfl⟩
  ·exact az h
  rw [ni.eq_2] at h;refine ab ?_;refine au ?_;refine gH J h ?_ ?_<;>intro h
  ·refine ab ?_;refine ak (fun s L=> ∃d6 e0 e1 e2,r8 N (ni N a0 a1 m8) a0 a6 a1 d6=some r/\s=[(1,W A3 n3 c3),(2,pV B4 0),(4,iV 0),(5,W e0 e1 e2),(16,W A7 n7 c7),(17,iV (([a0.XA,a0.Xz]:List VF).length:Int)),(18,iV a6)]/\L=[aZ A3 n3 c3 a1,fm e0 e1 e2 d6,bh (Rep.sl ei) 123 (W A7 n7 c7) ([a0.XA,a0.Xz]:List VF),bB A1 n1 c1 a0.XA,bB A2 n2 c2 a0.Xz,ae B4 125 [W A1 n1 c1,W A2 n2 c2]]) ?_ ?_
   ·refine ab ?_;obtain ⟨b0,g7,g8,e3,h⟩:=aI h;refine ab ?_
    refine rP (NU (R':=ei) (ys:=b0) 2 J aj J e3 HH (fun _ _ _ h=>by obtain ⟨u,e,k⟩:=h;exact ⟨u,by rw [e];rfl,k⟩)) fun b6 b7 b9=> ?_
    refine gZ (fun m s L=> ∃e4 c0 e5 e6 e7,lS N (ni N a0 a1 m8) a0 a6 b0 a1 m e4 c0=some r/\s=[(1,W A3 n3 c3),(2,pV B4 0),(4,iV 0),(5,W e5 e6 e7),(16,W A7 n7 c7),(17,iV (([a0.XA,a0.Xz]:List VF).length:Int)),(18,iV a6),(22,W b6 b7 b9),(23,iV (b0.length:Int)),(24,iV c0)]/\L=[aZ A3 n3 c3 a1,fm e5 e6 e7 e4,bh (Rep.sl ei) 123 (W A7 n7 c7) ([a0.XA,a0.Xz]:List VF),bB b6 b7 b9 b0,bB A1 n1 c1 a0.XA,bB A2 n2 c2 a0.Xz,ae B4 125 [W A1 n1 c1,W A2 n2 c2]]) N _ _ ⟨p9,0,A9,n9,c9,h,J,J⟩ sA (cS [1,2,3,0,4,5,6] 7) ?_;rintro (_|h9) _ _ ⟨e4,c0,e5,e6,e7,h,rfl,rfl⟩
    ·exact az h
    rw [lS.eq_2] at h;refine ab ?_;refine au ?_;refine gH J h ?_ ?_<;>intro h
    ·refine sY ?_;obtain ⟨a8,g9,h0,e8,h⟩:=aI h;refine ab ?_;refine Ch 3 J e8 (ke a8) ?_;rintro _ _ ⟨c8,d0,d1,d2,d3,d4,rfl,rfl⟩;refine H0 (sI (us:=(ga a8 c8 d0 d1 d2 d3 d4)) 0 J J agg45.out J) ?_;intro h1;refine sY ?_;obtain ⟨i0,k,h⟩:=aa h;refine BJ (oR (kj k)) ?_;refine gH J h ?_ ?_<;>intro h
     ·exact eY
     refine ab ?_;refine bi I ([ae h1 45 (ga a8 c8 d0 d1 d2 d3 d4),ND (dk (W b6 b7 b9) c0.toNat 6 0) (ga a8 c8 d0 d1 d2 d3 d4),aZ c8 d0 d1 a8.Xy,aZ d2 d3 d4 a8.Xx,aZ A3 n3 c3 a1,bh (Rep.sl ei) 123 (W A7 n7 c7) ([a0.XA,a0.Xz]:List VF),bB b6 b7 b9 b0,bB A1 n1 c1 a0.XA,bB A2 n2 c2 a0.Xz,ae B4 125 [W A1 n1 c1,W A2 n2 c2]]) (cS [0,1,2,3,4,6,7,8,9,10] 11) ?_;refine yY [0,1,4] ?_;obtain ⟨i1,k,h⟩:=aa h;refine zD 2 J (oR (mh k)) ?_;rintro _ _ ⟨_,⟨i2,i8,j0,rfl,rfl⟩,rfl⟩;refine J8 (cS [1,2,3,4,5,7,8,9,10,11] 12) ?_;obtain ⟨h2,h⟩:=ac h;refine zD 3 J (aP 6 0 J J aj J J UV It J J h2) ?_;rintro _ _ ⟨j1,j2,j3,rfl,rfl⟩;refine J8 (cS [1,2,3,4,5,7,8,9,10,11] 12) ?_;obtain ⟨j4,k,h⟩:=aa h;refine zD 5 J (oR (uq k)) ?_;rintro _ _ ⟨_,⟨j5,j6,j7,rfl,rfl⟩,rfl⟩;refine J8 (cS [2,3,4,5,6,8,9,10,11,12] 13) ?_;obtain ⟨h3,h⟩:=ac h;refine zD 6 J (aP 7 0 J J aj J J UV It J J h3) ?_;rintro _ _ ⟨j8,j9,k0,rfl,rfl⟩;refine J8 (cS [2,3,4,5,6,8,9,10,11,12] 13) ?_;refine zE 7 J (mf J) ?_;refine dB I ?_;refine ab ?_;obtain ⟨k2,h⟩:=ac h;exact lY
    exact jY
   rintro _ _ ⟨d6,e0,e1,e2,h,rfl,rfl⟩;refine ab ?_;obtain ⟨k3,h⟩:=ac h;exact lY
  exact jY
 rintro _ _ ⟨p6,A6,n6,c6,h,rfl,rfl⟩;refine ak (fun s L=> ∃e9 f1 f2 f3,r7 N a0 e9=some r/\s=[(2,pV B4 0),(4,iV 0),(5,W f1 f2 f3)]/\L=[fm f1 f2 f3 e9,bB A1 n1 c1 a0.XA,bB A2 n2 c2 a0.Xz,ae B4 125 [W A1 n1 c1,W A2 n2 c2]]) ?_ ?_
 ·refine ab ?_;refine gZ (fun m s L=> ∃f4 b5 f9 g0 g1,fw N a1 a0 m f4 b5=some r/\s=[(2,pV B4 0),(4,iV 0),(5,W f9 g0 g1),(40,W A3 n3 c3),(41,iV (a1.length:Int)),(42,iV b5)]/\L=[fm f9 g0 g1 f4,aZ A3 n3 c3 a1,bB A1 n1 c1 a0.XA,bB A2 n2 c2 a0.Xz,ae B4 125 [W A1 n1 c1,W A2 n2 c2]]) N _ _ ⟨p6,0,A6,n6,c6,h,J,J⟩ sA (cS [1,0,2,3,4] 5) ?_;rintro (_|h4) _ _ ⟨f4,b5,f9,g0,g1,h,rfl,rfl⟩
  ·exact az h
  rw [fw.eq_2] at h;refine ab ?_;refine au ?_;refine gH J h ?_ ?_<;>intro h
  ·refine ab ?_;refine ak (fun s L=> ∃g2 g3 g4 g5,oE N (fw N a1 a0 h4) a1 b5 a0 g2=some r/\s=[(2,pV B4 0),(4,iV 0),(5,W g3 g4 g5),(40,W A3 n3 c3),(41,iV (a1.length:Int)),(42,iV b5)]/\L=[fm g3 g4 g5 g2,aZ A3 n3 c3 a1,bB A1 n1 c1 a0.XA,bB A2 n2 c2 a0.Xz,ae B4 125 [W A1 n1 c1,W A2 n2 c2]]) ?_ ?_
   ·refine ab ?_;obtain ⟨g6,h5,h6,h7,h⟩:=aI h
    refine dD fun k4=> ?_
    refine gS 4 53 49 h ?_;intro k5 h;refine dU h ?_ ?_<;>intro h
    ·refine ab ?_;refine gD (aL (R:=(jI .i64)) (vss:=[[iV g6.N]]) (xs:=[g6.N]) J (nv _) J J (fun _ _ hr=> .cons J All2.nil)) ?_;rintro _ _ ⟨k6,k7,k8,rfl,rfl⟩;obtain ⟨h8,h⟩:=ac h
     refine rP (aP 2 0 J J aj J J UV It J J h8) fun k9 l0 l1=> ?_
     exact jN
    exact jY
   rintro _ _ ⟨g2,g3,g4,g5,h,rfl,rfl⟩;refine ab ?_;obtain ⟨l2,h⟩:=ac h;exact lY
  exact jY
 rintro _ _ ⟨e9,f1,f2,f3,h,rfl,rfl⟩;refine sZ ?_;refine gE (ey J) ?_;obtain ⟨l3,k,h⟩:=aa h;refine BJ (oR (eM k ⟨t0 J (t0 J (t0 J aQ)),191, #[], #[pV B4 0],J,call191.out,fun _ _ hh=>Bv hh⟩)) ?_;refine gH J h ?_ ?_<;>intro h
 ·exact eY
 exact eY
def oy (N:Nat)(a0:Vp):Option (Int×Bool):=
 (bif decide (a0.Xw=7) then (some true) else (some (decide (a0.Xw=9)))).bind fun b2=>some (a0.N,b2)
theorem CA {N:Nat}{a0:Vp}{r:Int×Bool}(h:oy N a0=some r):Okc VK 243 [(aX a0)] ([]) (fun u post=>u=.tuple #[iV r.1,.bool r.2]/\post=[]):=by
 refine bX Tryz.func243 ?_;intro B1;refine ab ?_;refine dY [0,1,2,3,4,5,10] ?_
 refine yJ [6,7,8,9] 1 9 13 h (fun _ g2 h rest=> ?_) (fun _ g2 h rest=> ?_) fun b2 h=> ?_
 ·refine yY [6,7,8,9] ?_;exact yS rest h
 ·refine yY [6,7,8,9] ?_;exact yS rest h
 refine zX [11] ?_;exact eY
def jG (N:Nat)(a6:Int->Vx->(List (Int×Unit))->Option Vh)(a1:Vx)(p8:Int)(a0:Vh)(p13:Vx)(a8:(List (Int×Unit))):Option Vh:=
 aD (in64 (p8+1)) (a6 (p8+1) p13 a8)
def cT (N:Nat)(a1:Vx)(a0:Vh):Nat->Int->Vx->(List (Int×Unit))->Option Vh
 |0,_,_,_=>none
 |m7+1,p8,p9,a8=>bif decide (p8<(a1.length:Int)) then ((ao a1 p8).bind fun a6=>(bif !((lk a8 a6).isSome) then ((jH N a0.m_ a6).bind fun b0=>some b0) else (some false)).bind fun b5=>bif b5 then (aD (bY (p9.length+([a6]:List Int).length)) (jG N (cT N a1 a0 m7) a1 p8 a0 (p9++([a6]:List Int)) (wI a8 a6 ()))) else (jG N (cT N a1 a0 m7) a1 p8 a0 p9 a8)) else (some (⟨a0.m_,p9,a8,a0.Ye⟩:Vh))
def d9 (a0:Vh)(a1:Vx):Option Vh:=
 cT N a1 a0 N 0 a0.XW a0.XN
theorem vE {N:Nat}{a0 r:Vh}(h:d9 N a0 a1=some r):Okc VK 244 [pV B1 0,W A6 n6 c6] ([bB A2 n2 c2 a0.m_.XA,bB A3 n3 c3 a0.m_.Xz,fC A6 n6 c6 a1,ae B1 269 [W A2 n2 c2,W A3 n3 c3,W A4 n4 c4,.map (some M5),iV a0.Ye],fm A4 n4 c4 a0.XW,ax cj Dw M5 a0.XN]) (fun u post=> ∃A0 n0 c0 A1 n1 c1 A2 n2 c2 M3,u=.tuple #[]/\post=[ae B1 269 [W A0 n0 c0,W A1 n1 c1,W A2 n2 c2,.map (some M3),iV r.Ye],bB A0 n0 c0 r.m_.XA,bB A1 n1 c1 r.m_.Xz,fm A2 n2 c2 r.XW,ax cj Dw M3 r.XN]):=by
 refine bX Tryz.func244 ?_;refine lK (fun m s L=> ∃(p8:Int) (p9:Vx) (a8:(List (Int×Unit))) (A9:Option Addr) (n9 c9:Nat),cT N a1 a0 m p8 p9 a8=some r/\s=[(0,pV B1 0),(8,W A6 n6 c6),(9,iV (a1.length:Int)),(10,iV p8)]/\L=[fC A6 n6 c6 a1,bB A2 n2 c2 a0.m_.XA,bB A3 n3 c3 a0.m_.Xz,fm A9 n9 c9 p9,ax cj Dw M5 a8,ae B1 269 [W A2 n2 c2,W A3 n3 c3,W A9 n9 c9,.map (some M5),iV a0.Ye]]) N ?_;rintro m7 _ _ ⟨p8,p9,a8,A9,n9,c9,h,rfl,rfl⟩;rw [cT.eq_2] at h;refine ab ?_;refine au ?_;refine gH J h ?_ ?_<;>intro h
 ·refine ab ?_;refine ak (fun s L=> ∃p13 b0 b5 b6 b7,jG N (cT N a1 a0 m7) a1 p8 a0 p13 b0=some r/\s=[(0,pV B1 0),(8,W A6 n6 c6),(9,iV (a1.length:Int)),(10,iV p8)]/\L=[fC A6 n6 c6 a1,bB A2 n2 c2 a0.m_.XA,bB A3 n3 c3 a0.m_.Xz,fm b5 b6 b7 p13,ax cj Dw M5 b0,ae B1 269 [W A2 n2 c2,W A3 n3 c3,W b5 b6 b7,.map (some M5),iV a0.Ye]]) ?_ ?_
  ·refine ab ?_;obtain ⟨a6,b9,c8,d0,h⟩:=aI h;refine ab ?_;refine H0 (tD (a:=a6) (z:=()) 4 J wp J J U5 (dX z9) zero296.out) ?_;intro d2;refine ab ?_
   refine qi 7 32 25 h (fun _ d3 h=> ?_) fun d4 h=> ?_
   ·refine cR h (fun _ k=>lB k) fun d6 h=> ?_
    exact gY
   refine dU h ?_ ?_<;>intro h
   ·refine ab ?_;refine Gc (iv (a:=a6) (b:=()) 5 J J J J U5 (dX z9)) ?_;refine gD (aL (R:=(jI .i64)) (vss:=[[iV a6]]) (xs:=[a6]) J (nv _) J J (fun _ _ hr=> .cons J All2.nil)) ?_;rintro _ _ ⟨e0,e1,e2,rfl,rfl⟩;obtain ⟨d1,h⟩:=ac h
    refine rP (aP 5 0 J J aj J J UV It J J d1) fun e3 e4 e5=> ?_
    exact jN
   exact jY
  rintro _ _ ⟨p13,b0,b5,b6,b7,h,rfl,rfl⟩;refine ab ?_;obtain ⟨e6,h⟩:=ac h;exact lY
 exact eY
theorem Ag {N:Nat}{V:Value}{K:Nat}{a0 r:Vh}(h:d9 N a0 a1=some r):Okc VK 244 [pV B1 0,W A6 n6 c6] ([bB A2 n2 c2 a0.m_.XA,bB A3 n3 c3 a0.m_.Xz,fC A6 n6 c6 a1,ae B1 269 [W A2 n2 c2,W A3 n3 c3,W A4 n4 c4,.map (some M5),iV a0.Ye],np (jI .i64) 3 (W A4 n4 c4) a0.XW V K,ax cj Dw M5 a0.XN]) (fun u post=> ∃A0 n0 c0 A1 n1 c1 A2 n2 c2 M3,u=.tuple #[]/\post=[ae B1 269 [W A0 n0 c0,W A1 n1 c1,W A2 n2 c2,.map (some M3),iV r.Ye],bB A0 n0 c0 r.m_.XA,bB A1 n1 c1 r.m_.Xz,np (jI .i64) 3 (W A2 n2 c2) r.XW V K,ax cj Dw M3 r.XN]):=by
 refine bX Tryz.func244 ?_;refine lK (fun m s L=> ∃(p8:Int) (p9:Vx) (a8:(List (Int×Unit))) (A9:Option Addr) (n9 c9:Nat),cT N a1 a0 m p8 p9 a8=some r/\s=[(0,pV B1 0),(8,W A6 n6 c6),(9,iV (a1.length:Int)),(10,iV p8)]/\L=[fC A6 n6 c6 a1,bB A2 n2 c2 a0.m_.XA,bB A3 n3 c3 a0.m_.Xz,np (jI .i64) 3 (W A9 n9 c9) p9 V K,ax cj Dw M5 a8,ae B1 269 [W A2 n2 c2,W A3 n3 c3,W A9 n9 c9,.map (some M5),iV a0.Ye]]) N ?_;rintro m7 _ _ ⟨p8,p9,a8,A9,n9,c9,h,rfl,rfl⟩;rw [cT.eq_2] at h;refine ab ?_;refine au ?_;refine gH J h ?_ ?_<;>intro h
 ·refine ab ?_;refine ak (fun s L=> ∃p13 b0 b5 b6 b7,jG N (cT N a1 a0 m7) a1 p8 a0 p13 b0=some r/\s=[(0,pV B1 0),(8,W A6 n6 c6),(9,iV (a1.length:Int)),(10,iV p8)]/\L=[fC A6 n6 c6 a1,bB A2 n2 c2 a0.m_.XA,bB A3 n3 c3 a0.m_.Xz,np (jI .i64) 3 (W b5 b6 b7) p13 V K,ax cj Dw M5 b0,ae B1 269 [W A2 n2 c2,W A3 n3 c3,W b5 b6 b7,.map (some M5),iV a0.Ye]]) ?_ ?_
  ·refine ab ?_;obtain ⟨a6,b9,c8,d0,h⟩:=aI h;refine ab ?_;refine H0 (tD (a:=a6) (z:=()) 4 J wp J J U5 (dX z9) zero296.out) ?_;intro d2;refine ab ?_
   refine qi 7 32 25 h (fun _ d3 h=> ?_) fun d4 h=> ?_
   ·refine cR h (fun _ k=>lB k) fun d6 h=> ?_
    exact gY
   refine dU h ?_ ?_<;>intro h
   ·refine ab ?_;refine Gc (iv (a:=a6) (b:=()) 5 J J J J U5 (dX z9)) ?_;refine gD (aL (R:=(jI .i64)) (vss:=[[iV a6]]) (xs:=[a6]) J (nv _) J J (fun _ _ hr=> .cons J All2.nil)) ?_;rintro _ _ ⟨e0,e1,e2,rfl,rfl⟩;obtain ⟨d1,h⟩:=ac h
    refine rP (Kq 5 0 J J aj J J UV It J J d1) fun e3 e4 e5=> ?_
    exact jN
   exact jY
  rintro _ _ ⟨p13,b0,b5,b6,b7,h,rfl,rfl⟩;refine ab ?_;obtain ⟨e6,h⟩:=ac h;exact lY
 exact eY
def qt (a0:Vp)(a1:Vh):Option Vh:=
 (oy N a0).bind fun y8=>bif y8.2 then ((d9 N a1 ([y8.1]:List Int)).bind fun a6=>some a6) else (some a1)
theorem AZ {N:Nat}{a0:Vp}{a1 r:Vh}(h:qt N a0 a1=some r):Okc VK 242 [(aX a0),pV B1 0] ([bB A3 n3 c3 a1.m_.XA,bB A4 n4 c4 a1.m_.Xz,ae B1 265 [pV B2 0],ae B2 269 [W A3 n3 c3,W A4 n4 c4,W A5 n5 c5,.map (some M6),iV a1.Ye],fm A5 n5 c5 a1.XW,ax cj Dw M6 a1.XN]) (fun u post=> ∃A0 n0 c0 A1 n1 c1 A2 n2 c2 M3,u=.tuple #[]/\post=[ae B2 269 [W A0 n0 c0,W A1 n1 c1,W A2 n2 c2,.map (some M3),iV r.Ye],bB A0 n0 c0 r.m_.XA,bB A1 n1 c1 r.m_.Xz,fm A2 n2 c2 r.XW,ax cj Dw M3 r.XN,ae B1 265 [pV B2 0]]):=by
 refine bX Tryz.func242 ?_;intro B7
 refine cR h (fun _ k=>CA k) fun y8 h=> ?_
 refine gH J h ?_ ?_<;>intro h
 ·refine ab ?_;refine gD (aL (R:=(jI .i64)) (vss:=[[iV y8.1]]) (xs:=[y8.1]) J (nv _) J J (fun _ _ hr=> .cons J All2.nil)) ?_;rintro _ _ ⟨a6,a8,b0,rfl,rfl⟩;refine rO (bM 0 J) ?_;obtain ⟨b5,k,h⟩:=aa h;refine gD (oC (vE k)) ?_;rintro _ _ ⟨_,⟨b6,b7,b9,c8,c9,d0,d1,d2,d3,d4,rfl,rfl⟩,rfl⟩;exact eY
 exact eY
def lC (a0:Ve)(a1:Int):Option Vd:=
 (oe N a0 a1).bind fun y5=>bif !y5.2.2 then (some (⟨0,0,0,0,[],[]⟩:Vd)) else ((ao y5.1 y5.2.1).bind fun a6=>(dx N a6).bind fun a8=>some a8)
theorem xI {N:Nat}{a0:Ve}{a1:Int}{r:Vd}(h:lC N a0 a1=some r):Okc VK 150 [.agg #[W A1 n1 c1,W A2 n2 c2],iV a1] ([bB A1 n1 c1 a0.XA,bB A2 n2 c2 a0.Xz]) (fun u post=> ∃A0 n0 c0 A1 n1 c1,u=.agg #[iV r.Xw,iV r.XD,iV r.XB,iV r.XC,W A0 n0 c0,W A1 n1 c1]/\post=[aB A0 n0 c0 r.Xy,aB A1 n1 c1 r.Xx]):=by
 refine bX Tryz.func150 ?_;intro B3
 refine dD fun B4=> ?_
 refine Uf h (fun _ k=>xH k) fun y5 A6 n6 c6 h=> ?_
 refine sZ ?_;refine gH J h ?_ ?_<;>intro h
 ·refine ab ?_;obtain rfl:=jg h;exact ul (rs:=[.cell 4 45]) (vs:=[.agg #[iV 0,iV 0,iV 0,iV 0,W none 0 0,W none 0 0]]) J (.cons (lz 1 J J agg45.out) .nil) J ((bq av 29 _).trans ((bq av 29 _).trans (cS [1,0] 7))) ⟨_,_,_,_,_,_,J,J⟩
 refine ab ?_;obtain ⟨a8,b0,b5,a6,h⟩:=aI h;refine ab ?_;refine Ch 0 J a6 (ke a8) ?_;rintro _ _ ⟨b6,b7,b9,c8,c9,d0,rfl,rfl⟩;refine gR (sI (us:=(ga a8 b6 b7 b9 c8 c9 d0)) 0 J J agg45.out J) ?_
 refine Nn h (fun _ k=>f0 k) fun d1 d2 d3 d4 d6 e0 e1 h=> ?_
 exact eN
def gn (N:Nat):Nat->VF->VF->Vx->(List (Int×Unit))->Int->Option Vh
 |0,_,_,_,_,_=>none
 |m6+1,p7,p8,p9,b0,a8=>bif decide (a8<(p9.length:Int)) then ((ao p9 a8).bind fun b5=>(lC N (⟨p7,p8⟩:Ve) b5).bind fun b6=>(iz N b6).bind fun b7=>(d9 N (⟨(⟨p7,p8⟩:Ve),p9,b0,a8⟩:Vh) b7).bind fun a6=>aD (in64 (a6.Ye+1)) ((gn N m6) a6.m_.XA a6.m_.Xz a6.XW a6.XN (a6.Ye+1))) else (some (⟨(⟨p7,p8⟩:Ve),p9,b0,a8⟩:Vh))
def il (a0:Vh):Option Vh:=
 gn N N a0.m_.XA a0.m_.Xz a0.XW a0.XN a0.Ye
theorem ru {N:Nat}{a0 r:Vh}(h:il N a0=some r):Okc VK 225 [pV B1 0] ([bB A2 n2 c2 a0.m_.XA,bB A3 n3 c3 a0.m_.Xz,ae B1 269 [W A2 n2 c2,W A3 n3 c3,W A4 n4 c4,.map (some M5),iV a0.Ye],fm A4 n4 c4 a0.XW,ax cj Dw M5 a0.XN]) (fun u post=> ∃A0 n0 c0 A1 n1 c1 A2 n2 c2 M3,u=.tuple #[]/\post=[ae B1 269 [W A0 n0 c0,W A1 n1 c1,W A2 n2 c2,.map (some M3),iV r.Ye],bB A0 n0 c0 r.m_.XA,bB A1 n1 c1 r.m_.Xz,fm A2 n2 c2 r.XW,ax cj Dw M3 r.XN]):=by
 refine bX Tryz.func225 ?_;refine lK (fun m s L=> ∃(p7:VF) (p8:VF) (p9:Vx) (b0:(List (Int×Unit))) (a6:Int) (A7:Option Addr) (n7 c7:Nat) (A8:Option Addr) (n8 c8:Nat) (A9:Option Addr) (n9 c9:Nat) (a8:Nat),gn N m p7 p8 p9 b0 a6=some r/\s=[(0,pV B1 0)]/\L=[bB A7 n7 c7 p7,bB A8 n8 c8 p8,fm A9 n9 c9 p9,ax cj Dw a8 b0,ae B1 269 [W A7 n7 c7,W A8 n8 c8,W A9 n9 c9,.map (some a8),iV a6]]) N ?_;intro m6
 refine fun s L=>ai fun p7=>ai fun p8=>ai fun p9=>ai fun b0=>ai fun a6=>ai fun A7=>ai fun n7=>ai fun c7=>ai fun A8=>ai fun n8=>ai fun c8=>ai fun A9=>ai fun n9=>ai fun c9=>ai fun a8=>xi fun h=> ?_
 rw [gn.eq_2] at h;refine au ?_;refine dY [] ?_;refine dU h ?_ ?_<;>intro h
 ·refine sY ?_;obtain ⟨b5,b6,b7,b9,h⟩:=aI h;refine gK (t:=[(0,pV B1 0)]) ?_ lg (ah _)
  refine gX I 15 [0] [0,4,14] [19,20,21,22,23,24,25,26,27,28,29,30,31,32,33] [[],[],[1],[2],[3],[],[5],[6],[7],[],[9],[10],[11],[8,12],[13]] [aV (pV B1 0),
 aV (pV B1 0),
 aV (pV B1 0),
 aV (pV B1 0),
 aV (.agg #[W A7 n7 c7,W A8 n8 c8]),
 aV (pV B1 0),
 aV (pV B1 0),
 aV (pV B1 2),
 aV (W A9 n9 c9),
 aV (pV B1 0),
 aV (pV B1 0),
 aV (pV B1 4),
 aV (iV a6),
 aV (dk (W A9 n9 c9) a6.toNat 1 0),
 aV (iV b5)] [] (ah _) (gN rfl kQ) I rfl rfl ?_ ?_ ?_
  ·refine gM J ?_ ?_
   ·exact pn (ap J) J (ko J (ah _))
   exact kP
  ·refine aH J ?_ ?_
   ·exact vU (kN (u:=iV b5) 2 J aj J b9 xP (fun _ _ _ h=>by rw [show _=_ from h];rfl)) J (ko J (ah _))
   refine qR (cK 2 J aj J J UV size3.out b6 b7) ?_;refine qR (bO 4 J J xP J) ?_;refine qE (jS J Jl) ?_;refine qE (bF J) ?_;refine qE (ap J) ?_;refine qR (bO 4 J J EX J) ?_;refine qE (jS J Fw) ?_;refine qE (bF J) ?_;refine qE (ap J) ?_;refine qR (ja (us:=[W A7 n7 c7,W A8 n8 c8]) 4 J J agg125.out J) ?_;refine qE (se J Jm) ?_;refine qE (bF J) ?_;refine qE (ap J) ?_;refine qE (ap J) ?_;exact dl
  refine nw (t:=[(19,pV B1 0),(23,.agg #[W A7 n7 c7,W A8 n8 c8]),(33,iV b5),(0,pV B1 0)]) (L':=[bB A7 n7 c7 p7,bB A8 n8 c8 p8,fm A9 n9 c9 p9,ax cj Dw a8 b0,ae B1 269 [W A7 n7 c7,W A8 n8 c8,W A9 n9 c9,.map (some a8),iV a6]]) ?_ lg (ah _);obtain ⟨d0,k,h⟩:=aa h;refine qj 15 J I (oR (xI k)) J J J ?_;rintro _ _ ⟨_,⟨d1,d2,d3,d4,d6,e0,rfl,rfl⟩,rfl⟩;obtain ⟨e1,k,h⟩:=aa h;refine qj 16 J I (oR (mh k)) J J J ?_;rintro _ _ ⟨_,⟨e2,e3,e4,rfl,rfl⟩,rfl⟩;refine nw ?_ dq (bM 0 J);obtain ⟨e5,k,h⟩:=aa h;refine qj 17 J I (oC (vE k)) J J J ?_;rintro _ _ ⟨_,⟨e6,e7,e8,e9,f1,f2,f3,f4,f9,g0,rfl,rfl⟩,rfl⟩;refine lc I ?_;refine ab ?_;obtain ⟨g1,h⟩:=ac h;exact lY
 exact eY
def tC (p9 a6:VF)(a8:Vx)(b0:(List (Int×Unit)))(p13:Int):Option Vh:=
 (il N (⟨(⟨p9,a6⟩:Ve),a8,b0,p13⟩:Vh)).bind fun b5=>some b5
def jp (N:Nat)(a1:Vw):Nat->Int->VF->VF->Vx->(List (Int×Unit))->Int->Option Vh
 |0,_,_,_,_,_,_=>none
 |c0+1,a8,b0,b5,b6,b7,b9=>bif decide (a8<(a1.length:Int)) then ((ao a1 a8).bind fun c8=>(qt N c8 (⟨(⟨b0,b5⟩:Ve),b6,b7,b9⟩:Vh)).bind fun a6=>aD (in64 (a8+1)) ((jp N a1 c0) (a8+1) a6.m_.XA a6.m_.Xz a6.XW a6.XN a6.Ye)) else (tC N b0 b5 b6 b7 b9)
def og (a0:Ve)(a1:Vw):Option Vh:=
 jp N a1 N 0 a0.XA a0.Xz [] ([]:(List (Int×Unit))) 0
theorem ED {N:Nat}{a0:Ve}{a1:Vw}{r:Vh}(h:og N a0 a1=some r):Okc VK 223 [.agg #[W A1 n1 c1,W A2 n2 c2],W A3 n3 c3] ([bB A1 n1 c1 a0.XA,bB A2 n2 c2 a0.Xz,aZ A3 n3 c3 a1]) (fun u post=> ∃B0 A1 n1 c1 A2 n2 c2 A3 n3 c3 M4,u=pV B0 0/\post=[ae B0 269 [W A1 n1 c1,W A2 n2 c2,W A3 n3 c3,.map (some M4),iV r.Ye],bB A1 n1 c1 r.m_.XA,bB A2 n2 c2 r.m_.Xz,fm A3 n3 c3 r.XW,ax cj Dw M4 r.XN]):=by
 refine bX Tryz.func223 ?_;intro B4;refine ab ?_;refine gD (tL (ek:=cj) (ev:=Dw)) ?_;rintro _ _ ⟨M5,rfl,rfl⟩
 refine dD fun B6=> ?_
 intro B7;refine ab ?_;refine dK (ey J) ?_;refine ak (fun s L=> ∃p9 a6 a8 b0 p13 A9 n9 c9 b5 b6 b7 b9 c0 c8 d0,tC N p9 a6 a8 b0 p13=some r/\s=[(4,.pointer none),(5,pV B7 0)]/\L=[ae B7 265 [pV B6 0],bB A9 n9 c9 p9,bB b5 b6 b7 a6,fm b9 c0 c8 a8,ax cj Dw d0 b0,ae B6 269 [W A9 n9 c9,W b5 b6 b7,W b9 c0 c8,.map (some d0),iV p13]]) ?_ ?_
 ·refine ab ?_;refine gZ (fun m s L=> ∃d1 d2 d3 d4 d6 e0 e1 e2 e3 e4 e5 e6 e7 e8 e9 f1,jp N a1 m d1 d2 d3 d4 d6 e0=some r/\s=[(4,.pointer none),(5,pV B7 0),(6,.func (.func 242) #[] #[pV B7 0]),(14,W A3 n3 c3),(15,iV (a1.length:Int)),(16,iV d1)]/\L=[aZ A3 n3 c3 a1,ae B7 265 [pV B6 0],bB e1 e2 e3 d2,bB e4 e5 e6 d3,fm e7 e8 e9 d4,ax cj Dw f1 d6,ae B6 269 [W e1 e2 e3,W e4 e5 e6,W e7 e8 e9,.map (some f1),iV e0]]) N _ _ ⟨0,a0.XA,a0.Xz,[],([]:(List (Int×Unit))),0,A1,n1,c1,A2,n2,c2,none,0,0,M5,h,J,J⟩ sA ((bq (jI .i64) 3 _).trans (cS [7,1,5,6,0,3,2] 8)) ?_;rintro (_|f9)
  all_goals (refine fun s L=>ai fun d1=>ai fun d2=>ai fun d3=>ai fun d4=>ai fun d6=>ai fun e0=>ai fun e1=>ai fun e2=>ai fun e3=>ai fun e4=>ai fun e5=>ai fun e6=>ai fun e7=>ai fun e8=>ai fun e9=>ai fun f1=>xi fun h=> ?_)
  ·exact az h
  rw [jp.eq_2] at h;refine ab ?_;refine au ?_;refine gH J h ?_ ?_<;>intro h
  ·refine sY ?_;obtain ⟨g0,f2,f3,f4,h⟩:=aI h
   refine dD fun g1=> ?_
   obtain ⟨g2,k,h⟩:=aa h;refine gD (gr (AZ k) J J J (dA [3,4] [2,7,5,6] [0,1,3,4] 8 J)) ?_;rintro _ _ ⟨_,⟨g3,g4,g5,g6,g7,g8,g9,h0,h1,h2,rfl,rfl⟩,rfl⟩;refine ab ?_;obtain ⟨h3,h⟩:=ac h;exact lY
  exact jY
 refine fun s L=>ai fun p9=>ai fun a6=>ai fun a8=>ai fun b0=>ai fun p13=>ai fun A9=>ai fun n9=>ai fun c9=>ai fun b5=>ai fun b6=>ai fun b7=>ai fun b9=>ai fun c0=>ai fun c8=>ai fun d0=>xi fun h=> ?_
 refine ab ?_;obtain ⟨h4,k,h⟩:=aa h;refine gD (oC (ru k)) ?_;rintro _ _ ⟨_,⟨h5,h6,h7,h8,h9,i0,i1,i2,i8,j0,rfl,rfl⟩,rfl⟩;exact eY
def vq (a0:Vd):Option Bool:=
 (bif decide (a0.Xw=8) then ((fa N a0).bind fun y5=>some y5) else (some false)).bind fun b4=>some b4
theorem Eg {N:Nat}{r:Bool}(h:vq N a0=some r):Okc VK 195 [.agg #[iV a0.Xw,iV a0.XD,iV a0.XB,iV a0.XC,W A1 n1 c1,W A2 n2 c2]] ([aZ A1 n1 c1 a0.Xy,aZ A2 n2 c2 a0.Xx]) (fun u post=>u=.bool r/\post=[]):=by
 refine bX Tryz.func195 ?_;intro B3;refine ab ?_
 refine qi 3 9 6 h (fun _ g4 h=> ?_) fun b4 h=> ?_
 ·refine cR h (fun _ k=>kj k) fun y5 h=> ?_
  exact gY
 exact eY
def ee (N:Nat){σ:Type}(fy:(Vp×Vp)->σ->Option (Bool×σ))(a1:Vd):Nat->Int->σ->Option σ
 |0,_,_=>none
 |m4+1,p5,p6=>aD (in64 (p5+1)) (bif decide (p5+1<(a1.Xx.length:Int)) then ((ao a1.Xx p5).bind fun x9=>aD (in64 (p5+1)) ((ao a1.Xx (p5+1)).bind fun a8=>(fy (x9,a8) p6).bind fun a6=>bif !a6.1 then (some a6.2) else (aD (in64 (p5+2)) ((ee N fy a1 m4) (p5+2) a6.2)))) else (some p6))
def ju (a1:Vd)(fy:(Vp×Vp)->σ->Option (Bool×σ))(s0:σ):Option σ:=
 ee N fy a1 N 0 s0
theorem tf {N:Nat}{a1:Vd}{fy:(Vp×Vp)->σ->Option (Bool×σ)}{s0 r:σ}(h:ju N a1 fy s0=some r){G:σ->VI}(hY:uS VK l G (fun x=> [.agg #[iV x.1.Xw,iV x.1.N,.string x.1.S],.agg #[iV x.2.Xw,iV x.2.N,.string x.2.S]]) fy):Okc VK 245 [.func (.yield l) #[] #[],pV B1 0] (aC B1 45 (ga a1 A2 n2 c2 A3 n3 c3)::aZ A2 n2 c2 a1.Xy::aZ A3 n3 c3 a1.Xx::(G s0)) (fun u post=>u=.tuple #[]/\post=G r):=by
 refine bX Tryz.func245 ?_;refine lK (fun m s L=> ∃(p5:Int) (p6:σ),ee N fy a1 m p5 p6=some r/\s=[(0,.func (.yield l) #[] #[]),(1,pV B1 0),(3,iV p5)]/\L=aZ A2 n2 c2 a1.Xy::aZ A3 n3 c3 a1.Xx::aC B1 45 (ga a1 A2 n2 c2 A3 n3 c3)::(G p6)) N ?_;rintro m4 _ _ ⟨p5,p6,h,rfl,rfl⟩;rw [ee.eq_2] at h;refine sZ ?_;obtain ⟨q7,h⟩:=ac h;refine dU h ?_ ?_<;>intro h
 ·refine sY ?_;refine au ?_;obtain ⟨x9,b7,b9,c0,h⟩:=aI h;obtain ⟨b6,h⟩:=ac h;obtain ⟨a6,a8,b0,b5,h⟩:=aI h;refine gK (t:=[(0,.func (.yield l) #[] #[]),(1,pV B1 0),(3,iV p5)]) ?_ lg (ah _)
  refine gX I 12 [] [0,5,11] [12,13,14,15,16,17,18,19,20,21,22,23] [[],[],[1],[],[2,3],[4],[],[6],[],[8],[7,9],[10]] [aV (.func (.yield l) #[] #[]),
 aV (pV B1 5),
 aV (W A3 n3 c3),
 aV (iV p5),
 aV (dk (W A3 n3 c3) p5.toNat 3 0),
 aV (.agg #[iV x9.Xw,iV x9.N,.string x9.S]),
 aV (pV B1 5),
 aV (W A3 n3 c3),
 aV (iV p5),
 aV (iV (p5+1)),
 aV (dk (W A3 n3 c3) ((p5+1).toNat) 3 0),
 aV (.agg #[iV a6.Xw,iV a6.N,.string a6.S])] [] (ah _) (kQ) I rfl rfl ?_ ?_ ?_
  ·exact kP
  ·refine aH J ?_ ?_
   ·exact vU (gp (us:=[iV a6.Xw,iV a6.N,.string a6.S]) 1 J bU J b5 agg29.out (fun _ _ _ h=>by rw [show _=_ from h];rfl)) J (ko J (ah _))
   refine qR (cK 1 J bU J J t9 size29.out a8 b0) ?_;refine qE (fU J J b6.1 b6.2) ?_;refine qE (ap J) ?_;refine qR (Ba 2 J J vI J) ?_;refine qE (jS J zf) ?_;refine aH J ?_ ?_
   ·exact vU (gp (us:=[iV x9.Xw,iV x9.N,.string x9.S]) 1 J bU J c0 agg29.out (fun _ _ _ h=>by rw [show _=_ from h];rfl)) J (ko J (ah _))
   refine qR (cK 1 J bU J J t9 size29.out b7 b9) ?_;refine qE (ap J) ?_;refine qR (Ba 2 J J vI J) ?_;refine qE (jS J zf) ?_;refine qE (ap J) ?_;exact dl
  refine nw (t:=[(12,.func (.yield l) #[] #[]),(17,.agg #[iV x9.Xw,iV x9.N,.string x9.S]),(23,.agg #[iV a6.Xw,iV a6.N,.string a6.S]),(0,.func (.yield l) #[] #[]),(1,pV B1 0),(3,iV p5)]) (L':=aZ A2 n2 c2 a1.Xy::aZ A3 n3 c3 a1.Xx::aC B1 45 (ga a1 A2 n2 c2 A3 n3 c3)::(G p6)) ?_ lg (ah _);obtain ⟨c8,k,h⟩:=aa h;refine qj 12 J I (yV (a:=(x9,a6)) [aZ A2 n2 c2 a1.Xy,aZ A3 n3 c3 a1.Xx,aC B1 45 (ga a1 A2 n2 c2 A3 n3 c3)] hY k J J) J J J ?_;rintro _ _ ⟨rfl,rfl⟩;refine DT 13 J I (OK J) J J J ?_;refine lc I ?_;refine dU h ?_ ?_<;>intro h
  ·exact eY
  refine ab ?_;obtain ⟨c9,h⟩:=ac h;exact lY
 exact eY
def mP (N:Nat)(a0:Vd):Option Unit:=
 some ()
theorem wH {N:Nat}{r:Unit}(h:mP N a0=some r):Okc VK 226 [.agg #[iV a0.Xw,iV a0.XD,iV a0.XB,iV a0.XC,W A1 n1 c1,W A2 n2 c2]] ([aZ A1 n1 c1 a0.Xy,aZ A2 n2 c2 a0.Xx]) (fun u post=> ∃a6,u=.func (.func 245) #[] #[pV a6 0]/\post=[ae a6 45 (ga a0 A1 n1 c1 A2 n2 c2)]):=by
 refine bX Tryz.func226 ?_;intro B3;refine ab ?_;refine dK (ey J) ?_;exact eN
def wJ (N:Nat):Option Int:=
 some (-1)
def lM (N:Nat)(a1:Int)(a0:Vx):Nat->Int->Option Int
 |0,_=>none
 |m3+1,p4=>bif decide (p4<(a0.length:Int)) then ((ao a0 p4).bind fun x6=>bif decide (a1=x6) then (some p4) else (aD (in64 (p4+1)) ((lM N a1 a0 m3) (p4+1)))) else (wJ N)
def tt (a0:Vx)(a1:Int):Option Int:=
 lM N a1 a0 N 0
theorem DF {N:Nat}{a0:Vx}{a1 r:Int}(h:tt N a0 a1=some r):Okc VK 208 [W A1 n1 c1,iV a1] ([fC A1 n1 c1 a0]) (fun u post=>u=iV r/\post=[]):=by
 refine bX Tryz.func208 ?_;refine ak (fun s L=>wJ N=some r/\s=[(4,iV 0)]/\L=[]) ?_ ?_
 ·refine ab ?_;refine lK (fun m s L=> ∃(p4:Int),lM N a1 a0 m p4=some r/\s=[(0,W A1 n1 c1),(1,iV a1),(4,iV 0),(7,iV (a0.length:Int)),(8,iV p4)]/\L=[fC A1 n1 c1 a0]) N ?_;rintro m3 _ _ ⟨p4,h,rfl,rfl⟩;rw [lM.eq_2] at h;refine ab ?_;refine au ?_;refine gH J h ?_ ?_<;>intro h
  ·refine sY ?_;obtain ⟨x6,a6,a8,b0,h⟩:=aI h;refine dU h ?_ ?_<;>intro h
   ·exact eY
   refine ab ?_;obtain ⟨q8,h⟩:=ac h;exact lY
  exact jY
 rintro _ _ ⟨h,rfl,rfl⟩;exact eY
def dN (a0:Vx)(a1:Int):Option Bool:=
 (tt N a0 a1).bind fun y2=>some (decide (0<=y2))
theorem lr {N:Nat}{a0:Vx}{a1:Int}{r:Bool}(h:dN N a0 a1=some r):Okc VK 158 [W A1 n1 c1,iV a1] ([fC A1 n1 c1 a0]) (fun u post=>u=.bool r/\post=[]):=by
 refine bX Tryz.func158 ?_
 refine cR h (fun _ k=>DF k) fun y2 h=> ?_
 exact eN
def iQ (a1:Vx)(a6:Vp×Vp):(Vx)->Option (Option Exit×Vx)
 |p13=>(bif decide (a6.2.Xw=7) then (some true) else (some (decide (a6.2.Xw=9)))).bind fun a8=>(bif a8 then ((dN N a1 a6.1.N).bind fun b0=>some b0) else (some false)).bind fun b5=>bif b5 then (aD (bY (p13.length+([a6.2.N]:List Int).length)) (some (none,p13++([a6.2.N]:List Int)))) else (some (none,p13))
def po (a0:Vd)(a1:Vx):Option Vx:=
 (vq N a0).bind fun y6=>bif !y6 then (some []) else ((mP N a0).bind fun a8=>(ju N a0 (cO (fun x st=>iQ N a1 x st)) (none,[])).bind fun a6=>sE a6.1 (some a6.2) none (fun _=>none))
theorem zx {N:Nat}{r:Vx}(h:po N a0 a1=some r):Okc VK 229 [.agg #[iV a0.Xw,iV a0.XD,iV a0.XB,iV a0.XC,W A1 n1 c1,W A2 n2 c2],W A3 n3 c3] ([aZ A1 n1 c1 a0.Xy,aZ A2 n2 c2 a0.Xx,fC A3 n3 c3 a1]) (fun u post=> ∃A0 n0 c0,u=W A0 n0 c0/\post=[fm A0 n0 c0 r]):=by
 refine bX Tryz.func229 ?_;intro B4
 refine dD fun B5=> ?_
 refine sZ ?_
 refine cR h (fun _ k=>Eg k) fun y6 h=> ?_
 refine gH J h ?_ ?_<;>intro h
 ·refine ab ?_;obtain rfl:=jg h;exact z7 J J ((bq (jI .i64) 3 _).trans (cS [0] 6)) ⟨_,_,_,J,J⟩
 refine dD fun B9=> ?_
 refine sZ ?_;obtain ⟨d1,k,h⟩:=aa h;refine gD (oR (wH k)) ?_;rintro _ _ ⟨_,⟨b6,rfl,rfl⟩,rfl⟩;refine ab ?_;refine gK ?_ dq (jt 0 J);obtain ⟨b7,k,h⟩:=aa h;refine vW (en:=(fun x=> [.agg #[iV x.1.Xw,iV x.1.N,.string x.1.S],.agg #[iV x.2.Xw,iV x.2.N,.string x.2.S]])) (fun x st=>iQ N a1 x st) (fun (st:Vx) (mz:((Option Addr×Nat×Nat)))=> [fC A3 n3 c3 a1,ae B5 99 [W A3 n3 c3],bh (jI .i64) 3 (.slice mz.1 mz.2.1 mz.2.2) st,ae B9 99 [.slice mz.1 mz.2.1 mz.2.2]]) [aC b6 45 (ga a0 A1 n1 c1 A2 n2 c2),aZ A1 n1 c1 a0.Xy,aZ A2 n2 c2 a0.Xx] ([]) ((none,0,0)) J J call245.out J (fun _=>J) (fun l G hY=>(tf k hY).mono fun _ _ hh=>hh.2) ((bq (jI .i64) 3 _).trans (dA [1,5,6] [] [7,3,0,2] 8 J)) h ?_ ?_ ?_ ?_
 ·rintro l b5 p13 je sr12 ⟨a6,a8,b0⟩ h;replace h:iQ N a1 b5 p13=some (je,sr12):=h;simp only [BY,WW,WX,WY,WQ,WR,Xu,V2]
  refine dD fun d2=> ?_
  intro d3;refine ab ?_;refine gS 4 22 18 h ?_;intro d4 h;refine ab ?_
  refine qi 5 28 23 h (fun _ d6 h=> ?_) fun e0 h=> ?_
  ·refine cR h (fun _ k=>lr k) fun e1 h=> ?_
   exact gY
  refine dU h ?_ ?_<;>intro h
  ·refine ab ?_;refine gD (aL (R:=(jI .i64)) (vss:=[[iV b5.2.N]]) (xs:=[b5.2.N]) J (nv _) J J (fun _ _ hr=> .cons J All2.nil)) ?_;rintro _ _ ⟨e2,e3,e4,rfl,rfl⟩;obtain ⟨b9,h⟩:=ac h
   refine rP (aP 5 0 J J aj J J UV It J J b9) fun c8 c9 d0=> ?_
   obtain ⟨rfl,rfl⟩:=Xg (Xe h);exact DS ((cS [3,4,5,6] 7).trans (gC (c8,c9,d0) J))
  refine ab ?_;obtain ⟨rfl,rfl⟩:=Xg (Xe h);exact DS ((cS [2,3,4,5] 6).trans (gC (a6,a8,b0) J))
 ·rintro ⟨a6,a8,b0⟩ h;refine rf ([fC A3 n3 c3 a1,ae B5 99 [W A3 n3 c3],fm a6 a8 b0 b7.2,ae B9 99 [W a6 a8 b0]]) J ?_;exact eY
 ·rintro ⟨a6,a8,b0⟩ h;exact az h
 rintro i ⟨a6,a8,b0⟩ h;exact az h
theorem DD {r:Vx}: ∀v post,((fun (u:Value) (post:VI)=> ∃A0 n0 c0,u=W A0 n0 c0/\post=[fm A0 n0 c0 r])) v post-> ∀c∈post,mN c:=by
 rintro _ _ ⟨_,_,_,rfl,rfl⟩;exact t0 rD (aQ)
def uD (N:Nat)(a0:Vh)(p7 p8:VF)(p9:Vx)(a6:(List (Int×Unit)))(a8:Int):Option (Bool×Vh):=
 some (decide ((a0.XW.length:Int)<(p9.length:Int)),(⟨(⟨p7,p8⟩:Ve),p9,a6,a8⟩:Vh))
def lA (N:Nat)(a6:Int->VF->VF->Vx->(List (Int×Unit))->Int->Option (Bool×Vh))(a0:Vh)(a8:Int)(b0 b5:VF)(b6:Vx)(b7:(List (Int×Unit)))(b9:Int):Option (Bool×Vh):=
 aD (in64 (a8+1)) (a6 (a8+1) b0 b5 b6 b7 b9)
def du (N:Nat)(a0:Vh):Nat->Int->VF->VF->Vx->(List (Int×Unit))->Int->Option (Bool×Vh)
 |0,_,_,_,_,_,_=>none
 |c0+1,b0,b5,b6,a6,b7,b9=>bif decide (b0<((List.take a0.XW.length a0.XW).length:Int)) then ((ao (List.take a0.XW.length a6) b0).bind fun c9=>(lC N (⟨b5,b6⟩:Ve) c9).bind fun c8=>bif decide (c8.Xw=8) then ((po N c8 a6).bind fun d0=>(d9 N (⟨(⟨b5,b6⟩:Ve),a6,b7,b9⟩:Vh) d0).bind fun a8=>lA N (du N a0 c0) a0 b0 a8.m_.XA a8.m_.Xz a8.XW a8.XN a8.Ye) else (lA N (du N a0 c0) a0 b0 b5 b6 a6 b7 b9)) else (uD N a0 b5 b6 a6 b7 b9)
def kM (a0:Vh):Option (Bool×Vh):=
 du N a0 N 0 a0.m_.XA a0.m_.Xz a0.XW a0.XN a0.Ye
theorem AY {N:Nat}{a0:Vh}{r:Bool×Vh}(h:kM N a0=some r):Okc VK 224 [pV B1 0] ([bB A2 n2 c2 a0.m_.XA,bB A3 n3 c3 a0.m_.Xz,ae B1 269 [W A2 n2 c2,W A3 n3 c3,W A4 n4 c4,.map (some M5),iV a0.Ye],fm A4 n4 c4 a0.XW,ax cj Dw M5 a0.XN]) (fun u post=> ∃A0 n0 c0 A1 n1 c1 A2 n2 c2 M3,u=.bool r.1/\post=[ae B1 269 [W A0 n0 c0,W A1 n1 c1,W A2 n2 c2,.map (some M3),iV r.2.Ye],bB A0 n0 c0 r.2.m_.XA,bB A1 n1 c1 r.2.m_.Xz,fm A2 n2 c2 r.2.XW,ax cj Dw M3 r.2.XN]):=by
 refine bX Tryz.func224 ?_;refine ak (fun s L=> ∃p7 p8 p9 f2 f3 A7 n7 c7 A8 n8 c8 A9 n9 c9 f4,uD N a0 p7 p8 p9 f2 f3=some r/\s=[(0,pV B1 0),(2,.bool false),(3,iV (a0.XW.length:Int))]/\L=[bB A7 n7 c7 p7,bB A8 n8 c8 p8,fm A9 n9 c9 p9,ax cj Dw f4 f2,ae B1 269 [W A7 n7 c7,W A8 n8 c8,W A9 n9 c9,.map (some f4),iV f3]]) ?_ ?_
 ·refine ab ?_;refine rO (OT 3 J) ?_;refine gD (PK (n:=a0.XW.length) 3 J J UV size3.out J J J (W4 _)) ?_;rintro _ _ ⟨b6,rfl,rfl⟩;refine H0 (rX 3 J FG J UV) ?_;refine lK (fun m s L=> ∃(b7:Int) (e0:VF) (e1:VF) (e2:Vx) (e3:(List (Int×Unit))) (e4:Int) (b9:Option Addr) (d0 d1:Nat) (d2:Option Addr) (d3 d4:Nat) (a8:Option Addr) (b0 b5:Nat) (d6:Nat),du N a0 m b7 e0 e1 e2 e3 e4=some r/\s=[(0,pV B1 0),(2,.bool false),(3,iV (a0.XW.length:Int)),(18,.slice b6 a0.XW.length a0.XW.length),(19,iV ((List.take a0.XW.length a0.XW).length:Int)),(20,iV b7)]/\L=[bB b9 d0 d1 e0,bB d2 d3 d4 e1,np (jI .i64) 3 (W a8 b0 b5) e2 (.slice b6 a0.XW.length a0.XW.length) a0.XW.length,ax cj Dw d6 e3,ae B1 269 [W b9 d0 d1,W d2 d3 d4,W a8 b0 b5,.map (some d6),iV e4]]) N ?_;intro h8
  refine fun s L=>ai fun b7=>ai fun e0=>ai fun e1=>ai fun e2=>ai fun e3=>ai fun e4=>ai fun b9=>ai fun d0=>ai fun d1=>ai fun d2=>ai fun d3=>ai fun d4=>ai fun a8=>ai fun b0=>ai fun b5=>ai fun d6=>xi fun h=> ?_
  rw [du.eq_2] at h;refine ab ?_;refine au ?_;refine gH J h ?_ ?_<;>intro h
  ·refine ab ?_;refine ak (fun s L=> ∃f9 g0 g1 g2 g3 g4 g5 g6 g7 g8 g9 h0 h1 h2 h3,lA N (du N a0 h8) a0 b7 f9 g0 g1 g2 g3=some r/\s=[(0,pV B1 0),(2,.bool false),(3,iV (a0.XW.length:Int)),(18,.slice b6 a0.XW.length a0.XW.length),(19,iV ((List.take a0.XW.length a0.XW).length:Int)),(20,iV b7)]/\L=[bB g4 g5 g6 f9,bB g7 g8 g9 g0,np (jI .i64) 3 (W h0 h1 h2) g1 (.slice b6 a0.XW.length a0.XW.length) a0.XW.length,ax cj Dw h3 g2,ae B1 269 [W g4 g5 g6,W g7 g8 g9,W h0 h1 h2,.map (some h3),iV g3]]) ?_ ?_
   ·refine ab ?_;obtain ⟨h9,h4,h5,h6,h⟩:=aI h;refine gR (cK 2 J FG J J UV size3.out h4 h5) ?_;refine H0 (kN (u:=iV h9) 2 J FG J h6 xP (fun _ _ _ h=>by rw [show _=_ from h];rfl)) ?_
    refine Nn h (fun _ k=>xI k) fun a6 e5 e6 e7 e8 e9 f1 h=> ?_
    intro h7;refine dU h ?_ ?_<;>intro h
    ·refine gK (t:=[(0,pV B1 0),(2,.bool false),(3,iV (a0.XW.length:Int)),(6,pV h7 0),(18,.slice b6 a0.XW.length a0.XW.length),(19,iV ((List.take a0.XW.length a0.XW).length:Int)),(20,iV b7)]) ?_ lg (ah _)
     refine gX I 6 [0] [0,1,5] [33,34,35,36,37,38] [[],[],[],[2],[3],[4]] [aV (pV B1 0),
 aV (.agg #[iV a6.Xw,iV a6.XD,iV a6.XB,iV a6.XC,W e5 e6 e7,W e8 e9 f1]),
 aV (pV B1 0),
 aV (pV B1 0),
 aV (pV B1 2),
 aV (W a8 b0 b5)] [] (ah _) (gN rfl kQ) I rfl rfl ?_ ?_ ?_
     ·refine gM J ?_ ?_
      ·exact pn (ap J) J (ko J (ah _))
      exact kP
     ·refine qR (bO 7 J J EX J) ?_;refine qE (jS J Fw) ?_;refine qE (bF J) ?_;refine qE (ap J) ?_;refine qR (ja (us:=(ga a6 e5 e6 e7 e8 e9 f1)) 0 J J agg45.out J) ?_;refine qE (ap J) ?_;exact dl
     refine nw (t:=[(33,pV B1 0),(34,.agg #[iV a6.Xw,iV a6.XD,iV a6.XB,iV a6.XC,W e5 e6 e7,W e8 e9 f1]),(38,W a8 b0 b5),(0,pV B1 0),(2,.bool false),(3,iV (a0.XW.length:Int)),(6,pV h7 0),(18,.slice b6 a0.XW.length a0.XW.length),(19,iV ((List.take a0.XW.length a0.XW).length:Int)),(20,iV b7)]) (L':=[ae h7 45 (ga a6 e5 e6 e7 e8 e9 f1),aB e5 e6 e7 a6.Xy,aB e8 e9 f1 a6.Xx,bB b9 d0 d1 e0,bB d2 d3 d4 e1,np (jI .i64) 3 (W a8 b0 b5) e2 (.slice b6 a0.XW.length a0.XW.length) a0.XW.length,ax cj Dw d6 e3,ae B1 269 [W b9 d0 d1,W d2 d3 d4,W a8 b0 b5,.map (some d6),iV e4]]) ?_ lg (ah _);obtain ⟨i0,k,h⟩:=aa h;refine qj 6 J I (kR (zx k) J (t0 (gw (i:=1) J) (t0 (gw (i:=2) J) (t0 (ML (i:=5) J) aQ))) DD) J J J ?_;rintro _ _ ⟨_,⟨i1,i2,i8,rfl,rfl⟩,rfl⟩;refine nw ?_ dq (bM 0 J);obtain ⟨j0,k,h⟩:=aa h;refine qj 7 J I (oC (Ag k)) J J J ?_;rintro _ _ ⟨_,⟨j1,j2,j3,j4,j5,j6,j7,j8,j9,k0,rfl,rfl⟩,rfl⟩;refine lc I ?_;exact jY
    exact jY
   refine fun s L=>ai fun f9=>ai fun g0=>ai fun g1=>ai fun g2=>ai fun g3=>ai fun g4=>ai fun g5=>ai fun g6=>ai fun g7=>ai fun g8=>ai fun g9=>ai fun h0=>ai fun h1=>ai fun h2=>ai fun h3=>xi fun h=> ?_
   refine ab ?_;obtain ⟨k2,h⟩:=ac h;exact lY
  refine ab ?_;exact ⟨_,_,⟨e0,e1,e2,e3,e4,b9,d0,d1,d2,d3,d4,a8,b0,b5,d6,h,J,J⟩,sA,(Nc 2 J).trans (cS [0,1,2,3,4] 5)⟩
 refine fun s L=>ai fun p7=>ai fun p8=>ai fun p9=>ai fun f2=>ai fun f3=>ai fun A7=>ai fun n7=>ai fun c7=>ai fun A8=>ai fun n8=>ai fun c8=>ai fun A9=>ai fun n9=>ai fun c9=>ai fun f4=>xi fun h=> ?_
 exact eY
def rW (N:Nat)(a8 p13:VF)(a6:Vx)(b0:(List (Int×Unit)))(b5:Int):Option Vx:=
 some a6
def lP (N:Nat):Nat->VF->VF->Vx->(List (Int×Unit))->Int->Option Vx
 |0,_,_,_,_,_=>none
 |b0+1,b5,b6,b7,p21,b9=>(kM N (⟨(⟨b5,b6⟩:Ve),b7,p21,b9⟩:Vh)).bind fun a6=>bif a6.1 then ((il N a6.2).bind fun a8=>(lP N b0) a8.m_.XA a8.m_.Xz a8.XW a8.XN a8.Ye) else (rW N a6.2.m_.XA a6.2.m_.Xz a6.2.XW a6.2.XN a6.2.Ye)
def lW (a0:Ve)(a1:Vw):Option Vx:=
 (og N a0 a1).bind fun y5=>lP N N y5.m_.XA y5.m_.Xz y5.XW y5.XN y5.Ye
theorem EE {N:Nat}{a0:Ve}{a1:Vw}{r:Vx}(h:lW N a0 a1=some r):Okc VK 192 [.agg #[W A1 n1 c1,W A2 n2 c2],W A3 n3 c3] ([bB A1 n1 c1 a0.XA,bB A2 n2 c2 a0.Xz,aZ A3 n3 c3 a1]) (fun u post=> ∃A0 n0 c0,u=W A0 n0 c0/\post=[fm A0 n0 c0 r]):=by
 refine bX Tryz.func192 ?_;intro B4;refine ab ?_;obtain ⟨y5,k,h⟩:=aa h;refine gD (oC (ED k)) ?_;rintro _ _ ⟨_,⟨B6,A7,n7,c7,A8,n8,c8,A9,n9,c9,g0,rfl,rfl⟩,rfl⟩;refine ab ?_;refine ak (fun s L=> ∃a6 p13 a8 b0 b5 b6 b7 b9 d0 d1 d2 d3 d4 d6 e0,rW N a6 p13 a8 b0 b5=some r/\s=[(4,W none 0 0),(5,pV B6 0)]/\L=[bB b6 b7 b9 a6,bB d0 d1 d2 p13,fm d3 d4 d6 a8,ax cj Dw e0 b0,ae B6 269 [W b6 b7 b9,W d0 d1 d2,W d3 d4 d6,.map (some e0),iV b5]]) ?_ ?_
 ·refine ab ?_;refine lK (fun m s L=> ∃(e1:VF) (e2:VF) (e3:Vx) (p21:(List (Int×Unit))) (e4:Int) (e5:Option Addr) (e6 e7:Nat) (e8:Option Addr) (e9 f1:Nat) (f2:Option Addr) (f3 f4:Nat) (f9:Nat),lP N m e1 e2 e3 p21 e4=some r/\s=[(4,W none 0 0),(5,pV B6 0)]/\L=[bB e5 e6 e7 e1,bB e8 e9 f1 e2,fm f2 f3 f4 e3,ax cj Dw f9 p21,ae B6 269 [W e5 e6 e7,W e8 e9 f1,W f2 f3 f4,.map (some f9),iV e4]]) N ?_;intro g1
  refine fun s L=>ai fun e1=>ai fun e2=>ai fun e3=>ai fun p21=>ai fun e4=>ai fun e5=>ai fun e6=>ai fun e7=>ai fun e8=>ai fun e9=>ai fun f1=>ai fun f2=>ai fun f3=>ai fun f4=>ai fun f9=>xi fun h=> ?_
  rw [lP.eq_2] at h;refine sZ ?_;obtain ⟨g2,k,h⟩:=aa h;refine gD (oC (AY k)) ?_;rintro _ _ ⟨_,⟨g3,g4,g5,g6,g7,g8,g9,h0,h1,h2,rfl,rfl⟩,rfl⟩;refine dU h ?_ ?_<;>intro h
  ·refine ab ?_;obtain ⟨h3,k,h⟩:=aa h;refine gD (oC (ru k)) ?_;rintro _ _ ⟨_,⟨h4,h5,h6,h7,h8,h9,i0,i1,i2,i8,rfl,rfl⟩,rfl⟩;exact lY
  exact jY
 refine fun s L=>ai fun a6=>ai fun p13=>ai fun a8=>ai fun b0=>ai fun b5=>ai fun b6=>ai fun b7=>ai fun b9=>ai fun d0=>ai fun d1=>ai fun d2=>ai fun d3=>ai fun d4=>ai fun d6=>ai fun e0=>xi fun h=> ?_
 exact eY
def nB (a0:Ve)(a1:Vw):Option Vx:=
 (lW N a0 a1).bind fun y5=>(qL N y5).bind fun y7=>some y7
theorem F1 {N:Nat}{a0:Ve}{a1:Vw}{r:Vx}(h:nB N a0 a1=some r):Okc VK 148 [.agg #[W A1 n1 c1,W A2 n2 c2],W A3 n3 c3] ([bB A1 n1 c1 a0.XA,bB A2 n2 c2 a0.Xz,aZ A3 n3 c3 a1]) (fun u post=> ∃A0 n0 c0,u=W A0 n0 c0/\post=[fm A0 n0 c0 r]):=by
 refine bX Tryz.func148 ?_;intro B4
 refine JS h (fun _ k=>EE k) fun y5 A6 n6 c6 h=> ?_
 refine cC h (fun _ k=>Er k) fun y7 h=> ?_
 exact eN
def pL (N:Nat)(a6:Int->Int->σ->Option σ)(fy:(Int×Int)->σ->Option (Bool×σ))(p6:Int)(a1:Vx)(a8:Int)(b0:σ):Option σ:=
 aD (in64 (p6+1)) (a6 a8 (p6+1) b0)
def lG (N:Nat)(b6 a6:Int->Int->σ->Option σ)(fy:(Int×Int)->σ->Option (Bool×σ))(b7 p6:Int)(a1:Vx)(a8 b0:Int)(b5:σ):Option σ:=
 aD (in64 (a8+1)) (a6 b0 (a8+1) b5)
def cM (N:Nat){σ:Type}(a6:Int->Int->σ->Option σ)(fy:(Int×Int)->σ->Option (Bool×σ))(a8 p6:Int)(a1:Vx):Nat->Int->Int->σ->Option σ
 |0,_,_,_=>none
 |b9+1,b0,b5,b6=>bif decide (b5<(a1.length:Int)) then ((ao a1 b5).bind fun c0=>bif !decide (c0.tmod 2=a8) then (lG N a6 (cM N a6 fy a8 p6 a1 b9) fy a8 p6 a1 b5 b0 b6) else ((fy (b0,c0) b6).bind fun b7=>bif !b7.1 then (some b7.2) else (aD (in64 (b0+1)) (lG N a6 (cM N a6 fy a8 p6 a1 b9) fy a8 p6 a1 b5 (b0+1) b7.2)))) else (pL N a6 fy p6 a1 b0 b6)
def eV (N:Nat){σ:Type}(fy:(Int×Int)->σ->Option (Bool×σ))(a1:Vx):Nat->Int->Int->σ->Option σ
 |0,_,_,_=>none
 |m4+1,p5,p6,p7=>bif decide (p6<(([0,1]:List Int).length:Int)) then ((ao ([0,1]:List Int) p6).bind fun a6=>cM N (eV N fy a1 m4) fy a6 p6 a1 N p5 0 p7) else (some p7)
def fR (a1:Vx)(fy:(Int×Int)->σ->Option (Bool×σ))(s0:σ):Option σ:=
 eV N fy a1 N 0 0 s0
theorem uK {N:Nat}{fy:(Int×Int)->σ->Option (Bool×σ)}{s0 r:σ}(h:fR N a1 fy s0=some r){G:σ->VI}(hY:uS VK l G (fun x=> [iV x.1,iV x.2]) fy):Okc VK 193 [.func (.yield l) #[] #[],pV B1 0] (aC B1 99 [W A2 n2 c2]::fC A2 n2 c2 a1::(G s0)) (fun u post=>u=.tuple #[]/\post=G r):=by
 refine bX Tryz.func193 ?_
 refine rP (aL (R:=(jI .i64)) (vss:=[[iV 0],[iV 1]]) (xs:=[0,1]) J (O0 _ _) J J (fun _ _ hr=> .cons J (.cons J All2.nil))) fun A3 n3 c3=> ?_
 refine lK (fun m s L=> ∃(p5:Int) (p6:Int) (p7:σ),eV N fy a1 m p5 p6 p7=some r/\s=[(0,.func (.yield l) #[] #[]),(1,pV B1 0),(3,iV p5),(8,W A3 n3 c3),(9,iV (([0,1]:List Int).length:Int)),(10,iV p6)]/\L=fm A3 n3 c3 ([0,1]:List Int)::fC A2 n2 c2 a1::aC B1 99 [W A2 n2 c2]::(G p7)) N ?_;rintro m4 _ _ ⟨p5,p6,p7,h,rfl,rfl⟩;rw [eV.eq_2] at h;refine ab ?_;refine au ?_;refine gH J h ?_ ?_<;>intro h
 ·refine ab ?_;refine ak (fun s L=> ∃b5 b6,pL N (eV N fy a1 m4) fy p6 a1 b5 b6=some r/\s=[(0,.func (.yield l) #[] #[]),(1,pV B1 0),(3,iV b5),(8,W A3 n3 c3),(9,iV (([0,1]:List Int).length:Int)),(10,iV p6)]/\L=fm A3 n3 c3 ([0,1]:List Int)::fC A2 n2 c2 a1::aC B1 99 [W A2 n2 c2]::(G b6)) ?_ ?_
  ·refine ab ?_;obtain ⟨a6,c8,c9,d0,h⟩:=aI h;refine ab ?_;refine lK (fun m s L=> ∃(b0:Int) (a8:Int) (b7:σ),cM N (eV N fy a1 m4) fy a6 p6 a1 m b0 a8 b7=some r/\s=[(0,.func (.yield l) #[] #[]),(1,pV B1 0),(3,iV b0),(5,iV a6),(8,W A3 n3 c3),(9,iV (([0,1]:List Int).length:Int)),(10,iV p6),(14,W A2 n2 c2),(15,iV (a1.length:Int)),(16,iV a8)]/\L=fm A3 n3 c3 ([0,1]:List Int)::fC A2 n2 c2 a1::aC B1 99 [W A2 n2 c2]::(G b7)) N ?_;rintro d1 _ _ ⟨b0,a8,b7,h,rfl,rfl⟩;rw [cM.eq_2] at h;refine ab ?_;refine au ?_;refine gH J h ?_ ?_<;>intro h
   ·refine ab ?_;refine ak (fun s L=> ∃b9 c0,lG N (eV N fy a1 m4) (cM N (eV N fy a1 m4) fy a6 p6 a1 d1) fy a6 p6 a1 a8 b9 c0=some r/\s=[(0,.func (.yield l) #[] #[]),(1,pV B1 0),(3,iV b9),(5,iV a6),(8,W A3 n3 c3),(9,iV (([0,1]:List Int).length:Int)),(10,iV p6),(14,W A2 n2 c2),(15,iV (a1.length:Int)),(16,iV a8)]/\L=fm A3 n3 c3 ([0,1]:List Int)::fC A2 n2 c2 a1::aC B1 99 [W A2 n2 c2]::(G c0)) ?_ ?_
    ·refine ab ?_;obtain ⟨d2,d3,d4,d6,h⟩:=aI h;refine sY ?_;refine dK (oX J J (by decide)) ?_;refine gH J h ?_ ?_<;>intro h
     ·exact jY
     refine sY ?_;obtain ⟨e0,k,h⟩:=aa h;refine gD (yV (a:=(b0,d2)) [fm A3 n3 c3 ([0,1]:List Int),fC A2 n2 c2 a1,aC B1 99 [W A2 n2 c2]] hY k J J) ?_;rintro _ _ ⟨rfl,rfl⟩;refine dU h ?_ ?_<;>intro h
     ·exact eY
     refine ab ?_;obtain ⟨e1,h⟩:=ac h;exact jY
    rintro _ _ ⟨b9,c0,h,rfl,rfl⟩;refine ab ?_;obtain ⟨e2,h⟩:=ac h;exact lY
   exact jY
  rintro _ _ ⟨b5,b6,h,rfl,rfl⟩;refine ab ?_;obtain ⟨e3,h⟩:=ac h;exact lY
 exact eY
def md (N:Nat)(a0:Vx):Option Unit:=
 some ()
theorem ye {N:Nat}{a0:Vx}{r:Unit}(h:md N a0=some r):Okc VK 149 [W A1 n1 c1] ([fC A1 n1 c1 a0]) (fun u post=> ∃a6,u=.func (.func 193) #[] #[pV a6 0]/\post=[ae a6 99 [W A1 n1 c1]]):=by
 refine bX Tryz.func149 ?_;intro B2;refine ab ?_;refine dK (ey J) ?_;exact eN
def jn (a0:Vp)(a1:Vx):Option Bool:=
 (dN N a1 a0.N).bind fun y4=>some y4
theorem Cl {N:Nat}{a0:Vp}{r:Bool}(h:jn N a0 a1=some r):Okc VK 197 [(aX a0),pV B1 0] ([aC B1 99 [W A2 n2 c2],fC A2 n2 c2 a1]) (fun u post=>u=.bool r/\post=[]):=by
 refine bX Tryz.func197 ?_;intro B3
 refine cR h (fun _ k=>lr k) fun y4 h=> ?_
 exact eN
def jX (N:Nat)(ff:Vp->Option Bool)(y6:Vd)(a6:Vp×Vp):(Vw)->Option (Option Exit×Vw)
 |p13=>(ff a6.1).bind fun a8=>bif a8 then (aD (bY (p13.length+([a6.1,a6.2]:List Vp).length)) (some (none,p13++([a6.1,a6.2]:List Vp)))) else (some (none,p13))
def xn (a0:Vd)(ff:Vp->Option Bool):Option Vd:=
 (dx N a0).bind fun y6=>(mP N a0).bind fun a8=>(ju N a0 (cO (fun x st=>jX N ff y6 x st)) (none,[])).bind fun a6=>sE a6.1 (some (⟨y6.Xw,y6.XD,y6.XB,y6.XC,y6.Xy,a6.2⟩:Vd)) none (fun _=>none)
theorem Ho {N:Nat}{r:Vd}(h:xn N a0 ff=some r)(hf:KY VK vf G (fun x=> [.agg #[iV x.Xw,iV x.N,.string x.S]]) (fun r=> .bool r) ff):Okc VK 196 [.agg #[iV a0.Xw,iV a0.XD,iV a0.XB,iV a0.XC,W A1 n1 c1,W A2 n2 c2],vf] (aZ A1 n1 c1 a0.Xy::aZ A2 n2 c2 a0.Xx::G) (fun u post=> ∃A0 n0 c0 A1 n1 c1,u=.agg #[iV r.Xw,iV r.XD,iV r.XB,iV r.XC,W A0 n0 c0,W A1 n1 c1]/\post=[aB A0 n0 c0 r.Xy,aB A1 n1 c1 r.Xx]):=by
 refine bX Tryz.func196 ?_;intro B3
 refine UQ (CH J (Ov hf)) fun B4=> ?_
 intro B5
 refine Nn h (fun _ k=>f0 k) fun y6 A7 n7 c7 A8 n8 c8 h=> ?_
 intro B9;refine sY ?_;obtain ⟨d4,k,h⟩:=aa h;refine gD (oR (wH k)) ?_;rintro _ _ ⟨_,⟨b6,rfl,rfl⟩,rfl⟩;refine ab ?_;refine gK ?_ dq (jt 0 J);refine ab ?_;obtain ⟨b7,k,h⟩:=aa h;refine vW (en:=(fun x=> [.agg #[iV x.1.Xw,iV x.1.N,.string x.1.S],.agg #[iV x.2.Xw,iV x.2.N,.string x.2.S]])) (fun x st=>jX N ff y6 x st) (fun (st:Vw) (mz:((Option Addr×Nat×Nat)))=> [ae B4 106 [vf],ae B5 45 [iV 0,iV 0,iV 0,iV 0,W none 0 0,W none 0 0],aB A7 n7 c7 y6.Xy,bh av 29 (.slice mz.1 mz.2.1 mz.2.2) st,ae B9 45 (ga y6 A7 n7 c7 mz.1 mz.2.1 mz.2.2)]++G) [aC b6 45 (ga a0 A1 n1 c1 A2 n2 c2),aZ A1 n1 c1 a0.Xy,aZ A2 n2 c2 a0.Xx] ([]) ((none,0,0)) J J call245.out J (fun _=>J) (fun l G hY=>(tf k hY).mono fun _ _ hh=>hh.2) ((bq av 29 _).trans (dA [1,8,9] [] [6,5,3,0,2] 10 J)) h ?_ ?_ ?_ ?_
 ·rintro l a6 p13 je sr12 ⟨a8,b0,b5⟩ h;replace h:jX N ff y6 a6 p13=some (je,sr12):=h;simp only [BY,WW,WX,WY,WQ,WR,Xu,V2]
  refine dD fun b9=> ?_
  intro c9;refine ab ?_;obtain ⟨d6,k,h⟩:=aa h;refine gD (EU (a:=a6.1) [ae c9 29 [iV a6.2.Xw,iV a6.2.N,.string a6.2.S],ae b9 29 [iV a6.1.Xw,iV a6.1.N,.string a6.1.S],ae B4 106 [vf],ae B5 45 [iV 0,iV 0,iV 0,iV 0,W none 0 0,W none 0 0],aB A7 n7 c7 y6.Xy,aB a8 b0 b5 p13,ae B9 45 (ga y6 A7 n7 c7 a8 b0 b5)] hf k J J) ?_;rintro _ _ ⟨rfl,rfl⟩;refine dU h ?_ ?_<;>intro h
  ·refine ab ?_;refine gD (aL (R:=av) (vss:=[[iV a6.1.Xw,iV a6.1.N,.string a6.1.S],[iV a6.2.Xw,iV a6.2.N,.string a6.2.S]]) (xs:=[a6.1,a6.2]) J (FO _ _ _ _ _ _) J J (fun _ _ hr=> .cons J (.cons J All2.nil))) ?_;rintro _ _ ⟨e0,e1,e2,rfl,rfl⟩;obtain ⟨d0,h⟩:=ac h
   refine rP (aP 6 0 J J aj J J t9 AI J J d0) fun d1 d2 d3=> ?_
   obtain ⟨rfl,rfl⟩:=Xg (Xe h);exact DS ((cS [3,4,5,6,7] 8).trans (gC (d1,d2,d3) J))
  refine ab ?_;obtain ⟨rfl,rfl⟩:=Xg (Xe h);exact DS ((cS [2,3,4,5,6] 7).trans (gC (a8,b0,b5) J))
 ·rintro ⟨a8,b0,b5⟩ h;refine rf (ae B4 106 [vf]::ae B5 45 [iV 0,iV 0,iV 0,iV 0,W none 0 0,W none 0 0]::aB A7 n7 c7 y6.Xy::aB a8 b0 b5 b7.2::ae B9 45 (ga y6 A7 n7 c7 a8 b0 b5)::G) J ?_;refine ab ?_;obtain rfl:=jg h;exact ul (rs:=[.cell 4 45]) (vs:=[.agg #[iV y6.Xw,iV y6.XD,iV y6.XB,iV y6.XC,W A7 n7 c7,W a8 b0 b5]]) J (.cons (lz 1 J J agg45.out) .nil) J (QM [2,3] 5 J J) ⟨_,_,_,_,_,_,J,J⟩
 ·rintro ⟨a8,b0,b5⟩ h;exact az h
 rintro i ⟨a8,b0,b5⟩ h;exact az h
def ny (a0:Vd)(a1:Vx):Option Vd:=
 (vq N a0).bind fun y7=>bif !y7 then (some (⟨0,0,0,0,[],[]⟩:Vd)) else ((xn N a0 (fun x=>jn N x a1)).bind fun a6=>some a6)
theorem zy {N:Nat}{r:Vd}(h:ny N a0 a1=some r):Okc VK 151 [.agg #[iV a0.Xw,iV a0.XD,iV a0.XB,iV a0.XC,W A1 n1 c1,W A2 n2 c2],W A3 n3 c3] ([aZ A1 n1 c1 a0.Xy,aZ A2 n2 c2 a0.Xx,fC A3 n3 c3 a1]) (fun u post=> ∃A0 n0 c0 A1 n1 c1,u=.agg #[iV r.Xw,iV r.XD,iV r.XB,iV r.XC,W A0 n0 c0,W A1 n1 c1]/\post=[aB A0 n0 c0 r.Xy,aB A1 n1 c1 r.Xx]):=by
 refine bX Tryz.func151 ?_;intro B4
 refine dD fun B5=> ?_
 intro B6;refine sY ?_
 refine cR h (fun _ k=>Eg k) fun y7 h=> ?_
 refine gH J h ?_ ?_<;>intro h
 ·refine ab ?_;obtain rfl:=jg h;exact ul (rs:=[.cell 4 45]) (vs:=[.agg #[iV 0,iV 0,iV 0,iV 0,W none 0 0,W none 0 0]]) J (.cons (lz 0 J J agg45.out) .nil) J ((bq av 29 _).trans ((bq av 29 _).trans (cS [1,0] 8))) ⟨_,_,_,_,_,_,J,J⟩
 refine ab ?_;refine gE (ey J) ?_;obtain ⟨a6,k,h⟩:=aa h
 refine Ua (oR (Ho k ⟨t0 J (t0 J aQ),197, #[], #[pV B5 0],J,call197.out,fun _ _ hh=>Cl hh⟩)) fun a8 b0 b5 b6 b7 b9=> ?_
 exact eN
def uO (a0:Vd):Option Bool:=
 (bif decide (a0.Xw=10) then ((fa N a0).bind fun y5=>some y5) else (some false)).bind fun b4=>some b4
theorem H2 {N:Nat}{r:Bool}(h:uO N a0=some r):Okc VK 198 [.agg #[iV a0.Xw,iV a0.XD,iV a0.XB,iV a0.XC,W A1 n1 c1,W A2 n2 c2]] ([aZ A1 n1 c1 a0.Xy,aZ A2 n2 c2 a0.Xx]) (fun u post=>u=.bool r/\post=[]):=by
 refine bX Tryz.func198 ?_;intro B3;refine ab ?_
 refine qi 3 9 6 h (fun _ g4 h=> ?_) fun b4 h=> ?_
 ·refine cR h (fun _ k=>kj k) fun y5 h=> ?_
  exact gY
 exact eY
theorem Fs {r:Bool}: ∀v post,((fun (u:Value) (post:VI)=>u=.bool r/\post=[])) v post-> ∀c∈post,mN c:=by
 rintro _ _ ⟨rfl,rfl⟩;exact aQ
def ve (a0:Vd):Option Vd:=
 (cx N a0.Xy).bind fun y5=>(ao a0.Xx 0).bind fun x7=>some (⟨a0.Xw,a0.XD,a0.XB,a0.XC,y5,([x7]:List Vp)⟩:Vd)
theorem Ft {N:Nat}{r:Vd}(h:ve N a0=some r):Okc VK 199 [.agg #[iV a0.Xw,iV a0.XD,iV a0.XB,iV a0.XC,W A1 n1 c1,W A2 n2 c2]] ([aZ A1 n1 c1 a0.Xy,aZ A2 n2 c2 a0.Xx]) (fun u post=> ∃A0 n0 c0 A1 n1 c1,u=.agg #[iV r.Xw,iV r.XD,iV r.XB,iV r.XC,W A0 n0 c0,W A1 n1 c1]/\post=[aB A0 n0 c0 r.Xy,aB A1 n1 c1 r.Xx]):=by
 refine bX Tryz.func199 ?_;intro B3
 refine dD fun B4=> ?_
 refine JS h (fun _ k=>fu k) fun y5 A6 n6 c6 h=> ?_
 obtain ⟨x7,a6,a8,b0,h⟩:=aI h;refine ab ?_
 refine rP (aL (R:=av) (vss:=[[iV x7.Xw,iV x7.N,.string x7.S]]) (xs:=[x7]) J (rL _ _ _) J J (fun _ _ hr=> .cons J All2.nil)) fun A8 n8 c8=> ?_
 exact eN
theorem CY {r:Vd}: ∀v post,((fun (u:Value) (post:VI)=> ∃A0 n0 c0 A1 n1 c1,u=.agg #[iV r.Xw,iV r.XD,iV r.XB,iV r.XC,W A0 n0 c0,W A1 n1 c1]/\post=[aB A0 n0 c0 r.Xy,aB A1 n1 c1 r.Xx])) v post-> ∀c∈post,mN c:=by
 rintro _ _ ⟨_,_,_,_,_,_,rfl,rfl⟩;exact t0 rD (t0 rD (aQ))
def gA (N:Nat){σ:Type}(fy:(Int×Vw)->σ->Option (Bool×σ))(a1:Vd):Nat->Int->σ->Option σ
 |0,_,_=>none
 |m4+1,p5,p6=>aD (in64 (p5+4)) (bif decide (p5+4<=(a1.Xx.length:Int)) then (aD (in64 (p5+4)) (aD (in64 (p5+4)) (aD ((0:Int)<=p5/\(0:Int)<=p5+4/\p5.toNat<=(p5+4).toNat/\(p5+4).toNat<=a1.Xx.length) ((fy (p5,(a1.Xx.drop p5.toNat).take ((p5+4).toNat - p5.toNat)) p6).bind fun a6=>bif !a6.1 then (some a6.2) else (aD (in64 (p5+4)) ((gA N fy a1 m4) (p5+4) a6.2)))))) else (some p6))
def nV (a1:Vd)(fy:(Int×Vw)->σ->Option (Bool×σ))(s0:σ):Option σ:=
 gA N fy a1 N 1 s0
theorem ym {N:Nat}{a1:Vd}{fy:(Int×Vw)->σ->Option (Bool×σ)}{s0 r:σ}(h:nV N a1 fy s0=some r){G:σ->VI}(hY:vT VK l G (fun (x:Int×Vw) vs cs=> ∃A1 n1 c1,vs=[iV x.1,W A1 n1 c1]/\cs=[aZ A1 n1 c1 x.2]) fy):Okc VK 227 [.func (.yield l) #[] #[],pV B1 0] (aC B1 45 (ga a1 A2 n2 c2 A3 n3 c3)::aZ A2 n2 c2 a1.Xy::aZ A3 n3 c3 a1.Xx::(G s0)) (fun u post=>u=.tuple #[]/\post=G r):=by
 refine bX Tryz.func227 ?_;refine lK (fun m s L=> ∃(p5:Int) (p6:σ),gA N fy a1 m p5 p6=some r/\s=[(0,.func (.yield l) #[] #[]),(1,pV B1 0),(3,iV p5)]/\L=aZ A2 n2 c2 a1.Xy::aZ A3 n3 c3 a1.Xx::aC B1 45 (ga a1 A2 n2 c2 A3 n3 c3)::(G p6)) N ?_;rintro m4 _ _ ⟨p5,p6,h,rfl,rfl⟩;rw [gA.eq_2] at h;refine sZ ?_;obtain ⟨q7,h⟩:=ac h;refine dU h ?_ ?_<;>intro h
 ·refine sY ?_;obtain ⟨q9,h⟩:=ac h;refine ab ?_;obtain ⟨b7,h⟩:=ac h;refine ab ?_;obtain ⟨a6,h⟩:=ac h;refine Pn 1 J (l:=p5.toNat) (h:=(p5+4).toNat) a6.2.2.1 a6.2.2.2 ?_;rintro a8 b0 b5 b6;refine gR (Ld 2 J b6 J t9 size29.out J (by rw [VX a6.1];rfl) (by rw [VX a6.2.1];rfl) (by rw [VX a6.2.1];rfl) a6.2.2.1 a6.2.2.2) ?_;obtain ⟨b9,k,h⟩:=aa h;refine gD (GG (a:=(p5,(a1.Xx.drop p5.toNat).take ((p5+4).toNat - p5.toNat))) [aZ a8 b0 b5 ((a1.Xx.drop p5.toNat).take ((p5+4).toNat - p5.toNat)),aZ A2 n2 c2 a1.Xy,aZ A3 n3 c3 a1.Xx,aC B1 45 (ga a1 A2 n2 c2 A3 n3 c3)] hY k J J ⟨_,_,_,J,J⟩ (Ib 0 J J)) ?_;rintro _ _ ⟨rfl,rfl⟩;refine dU h ?_ ?_<;>intro h
  ·exact eY
  refine ab ?_;obtain ⟨c0,h⟩:=ac h;exact lY
 exact eY
def qF (N:Nat)(a0:Vd):Option Unit:=
 some ()
theorem BN {N:Nat}{r:Unit}(h:qF N a0=some r):Okc VK 200 [.agg #[iV a0.Xw,iV a0.XD,iV a0.XB,iV a0.XC,W A1 n1 c1,W A2 n2 c2]] ([aZ A1 n1 c1 a0.Xy,aZ A2 n2 c2 a0.Xx]) (fun u post=> ∃a6,u=.func (.func 227) #[] #[pV a6 0]/\post=[ae a6 45 (ga a0 A1 n1 c1 A2 n2 c2)]):=by
 refine bX Tryz.func200 ?_;intro B3;refine ab ?_;refine dK (ey J) ?_;exact eN
theorem zw {A1:Option Addr}{n1 c1:Nat}{A2:Option Addr}{n2 c2:Nat}: ∀v post,((fun (u:Value) (post:VI)=> ∃a6,u=.func (.func 227) #[] #[pV a6 0]/\post=[ae a6 45 [iV a0.Xw,iV a0.XD,iV a0.XB,iV a0.XC,W A1 n1 c1,W A2 n2 c2]])) v post-> ∀c∈post,mN c:=by
 rintro _ _ ⟨_,rfl,rfl⟩;exact t0 BL (aQ)
end Go.Proofs.YthhiddkljcacaaaGreat
namespace Go.Proofs.YthhiddkljcacaaaGreat
variable (N:Nat){l:Nat}{σ:Type}{G:VI}{vf:Value}{a0:Vd}{ff:Vp->Option Bool}{a1:Vx}
variable {A1 A2 A3 A4 A5 A6 A7:Option Addr}{B1 B2 B3 B8 M2 M6 M9 c1 c2 c3 c4 c5 c6 c7 n1 n2 n3 n4 n5 n6 n7:Nat}
open Go.RowKit Asn
set_option maxRecDepth 20000
def nG (N:Nat)(a6:Int×Vw)(a0:Vd)(c9:VG)(d0:Vd)(a8 c8:Vw)(b0 b5:Int)(b6:ByteArray):Option (Option Exit×Vw×Vw):=
 (ao a6.2 0).bind fun b7=>(ao a6.2 1).bind fun b9=>(ao a6.2 3).bind fun c0=>aD (bY (a8.length+([b7,b9,(⟨b0,b5,b6⟩:Vp),c0]:List Vp).length)) (some (none,(a8++([b7,b9,(⟨b0,b5,b6⟩:Vp),c0]:List Vp),c8)))
def fT (a0:Vd)(b0:VG)(b7:Vd)(a6:Int×Vw):(Vw×Vw)->Option (Option Exit×(Vw×Vw))
 |(b6,b5)=>(ao a6.2 0).bind fun c9=>bif !((lk b0 c9.N).getD false) then ((ao a0.Xx 0).bind fun b9=>(ao a6.2 1).bind fun c0=>(ao a6.2 3).bind fun c8=>aD (bY (b5.length+([b9,c0,c8]:List Vp).length)) (some (none,(b6,b5++([b9,c0,c8]:List Vp))))) else ((ao a6.2 2).bind fun a8=>(bif decide (a8.Xw=7) then (some (!((lk b0 a8.N).getD false))) else (some false)).bind fun d0=>bif d0 then (nG N a6 a0 b0 b7 b6 b5 0 0 (⟨#[]⟩)) else (nG N a6 a0 b0 b7 b6 b5 a8.Xw a8.N a8.S))
def qG (a0:Vd)(b0:VG):Option (Vd×Vw):=
 (ve N a0).bind fun a6=>(qF N a0).bind fun b5=>(nV N a0 (cO (fun x st=>fT N a0 b0 a6 x st)) (none,(a6.Xx,[]))).bind fun a8=>sE a8.1 (some ((⟨a6.Xw,a6.XD,a6.XB,a6.XC,a6.Xy,a8.2.1⟩:Vd),a8.2.2)) none (fun _=>none)
def iN (N:Nat)(a1:Vx)(a0:Vd):Nat->Int->VG->Option (Vd×Vw)
 |0,_,_=>none
 |b0+1,a6,a8=>bif decide (a6<(a1.length:Int)) then ((ao a1 a6).bind fun b5=>aD (in64 (a6+1)) ((iN N a1 a0 b0) (a6+1) (wI a8 b5 true))) else (qG N a0 a8)
def kV (a0:Vd)(a1:Vx):Option (Vd×Vw):=
 (uO N a0).bind fun y6=>bif !y6 then (some ((⟨0,0,0,0,[],[]⟩:Vd),[])) else (iN N a1 a0 N 0 ([]:VG))
theorem wO {N:Nat}{r:Vd×Vw}(h:kV N a0 a1=some r):Okc VK 152 [.agg #[iV a0.Xw,iV a0.XD,iV a0.XB,iV a0.XC,W A1 n1 c1,W A2 n2 c2],W A3 n3 c3] ([aZ A1 n1 c1 a0.Xy,aZ A2 n2 c2 a0.Xx,fC A3 n3 c3 a1]) (fun u post=> ∃A0 n0 c0 A1 n1 c1 A2 n2 c2,u=.tuple #[.agg #[iV r.1.Xw,iV r.1.XD,iV r.1.XB,iV r.1.XC,W A0 n0 c0,W A1 n1 c1],W A2 n2 c2]/\post=[aB A0 n0 c0 r.1.Xy,aB A1 n1 c1 r.1.Xx,aB A2 n2 c2 r.2]):=by
 refine F6 Tryz.func152 J J ?_;simp only [uj];refine Y ?_
 refine gB (CH J J) fun B4=> ?_
 refine gB (cF zero45.out J) fun B5=> ?_
 refine Y ?_;refine au ?_;refine Y ?_;refine gR (ja (us:=(ga a0 A1 n1 c1 A2 n2 c2)) 1 J J agg45.out J) ?_;obtain ⟨y6,k,h⟩:=aa h;refine gV (kR (H2 k) J (t0 (jQ (i:=2) J J) (t0 (jQ (i:=3) J J) aQ)) Fs) ?_;refine Y ?_;refine gH J h ?_ ?_<;>intro h
 ·refine Y ?_;refine gE (ns J bld_45_.out) ?_;refine gW (ar (us:=[iV 0,iV 0,iV 0,iV 0,W none 0 0,W none 0 0]) (cs':=[iV 0,iV 0,iV 0,iV 0,W none 0 0,W none 0 0]) 0 J J J J size45.out J J J) ?_;refine Y ?_;obtain rfl:=jg h;exact ul (rs:=[.cell 4 45,.tmp 5]) (vs:=[.agg #[iV 0,iV 0,iV 0,iV 0,W none 0 0,W none 0 0],W none 0 0]) J (.cons (lz 0 J J agg45.out) (.cons (qq J) .nil)) J ((bq av 29 _).trans ((bq av 29 _).trans ((bq av 29 _).trans (cS [2,1,0] 8)))) ⟨_,_,_,_,_,_,_,_,_,J,J⟩
 refine Y ?_;refine gR (rX 4 J bU J UV) ?_;refine gD (Dl (ek:=cj) (ev:=ft) J U3) ?_;rintro _ _ ⟨a8,rfl,rfl⟩
 refine gB (cF zero184.out J) fun d2=> ?_
 refine gW (ar (us:=[.map (some a8)]) (cs':=[.map (some a8)]) 0 J J J J size184.out J J J) ?_;refine Y ?_;refine ak (fun s L=> ∃d4,qG N a0 d4=some r/\s=[(2,pV B4 0),(4,pV B5 0),(5,W none 0 0),(6,pV d2 0)]/\L=[aZ A1 n1 c1 a0.Xy,aZ A2 n2 c2 a0.Xx,ae B4 45 (ga a0 A1 n1 c1 A2 n2 c2),ae B5 45 [iV 0,iV 0,iV 0,iV 0,W none 0 0,W none 0 0],ax cj ft a8 d4,ae d2 184 [.map (some a8)]]) ?_ ?_
 ·refine Y ?_;refine gR (rX 6 J bU J UV) ?_;refine Y ?_;refine gZ (fun m s L=> ∃g1 f4,iN N a1 a0 m g1 f4=some r/\s=[(2,pV B4 0),(4,pV B5 0),(5,W none 0 0),(6,pV d2 0),(21,W A3 n3 c3),(22,iV (a1.length:Int)),(23,iV g1)]/\L=[fC A3 n3 c3 a1,aZ A1 n1 c1 a0.Xy,aZ A2 n2 c2 a0.Xx,ae B4 45 (ga a0 A1 n1 c1 A2 n2 c2),ae B5 45 [iV 0,iV 0,iV 0,iV 0,W none 0 0,W none 0 0],ax cj ft a8 f4,ae d2 184 [.map (some a8)]]) N _ _ ⟨0,([]:VG),h,J,J⟩ sA (cS [6,4,5,3,2,1,0] 7) ?_;rintro (_|k4) _ _ ⟨g1,f4,h,rfl,rfl⟩
  ·exact az h
  rw [iN.eq_2] at h;refine Y ?_;refine au ?_;refine gH J h ?_ ?_<;>intro h
  ·refine Y ?_;refine au ?_;refine Y ?_;obtain ⟨g7,g8,g9,h0,h⟩:=aI h;refine gR (cK 0 J bU J J UV size3.out g8 g9) ?_;refine gR (kN (u:=iV g7) 0 J bU J h0 xP (fun _ _ _ h=>by rw [show _=_ from h];rfl)) ?_;refine Y ?_;refine gW (iv (a:=g7) (b:=true) 5 J J J J U3 (dX z9)) ?_;refine Lv ?_;refine Y ?_;obtain ⟨k2,h⟩:=ac h;refine gE (fU J J k2.1 k2.2) ?_;refine Y ?_;exact ⟨k4,_,_,VA _,⟨g1+1,wI f4 g7 true,h,J,J⟩,sA,cS [0,1,2,3,4,5,6] 7⟩
  refine Y ?_;exact ⟨_,_,⟨f4,h,J,J⟩,sA,cS [1,2,3,4,5,6] 7⟩
 rintro _ _ ⟨d4,h,rfl,rfl⟩;refine Y ?_;refine gR (ja (us:=(ga a0 A1 n1 c1 A2 n2 c2)) 2 J J agg45.out J) ?_;obtain ⟨a6,k,h⟩:=aa h;refine gD (kR (Ft k) J (t0 (jQ (i:=0) J J) (t0 (jQ (i:=1) J J) aQ)) CY) ?_;rintro _ _ ⟨_,⟨b0,b5,b6,h1,h2,h3,rfl,rfl⟩,rfl⟩
 refine gB (cF zero45.out J) fun e5=> ?_
 refine gW (ar (us:=(ga a6 b0 b5 b6 h1 h2 h3)) (cs':=(ga a6 b0 b5 b6 h1 h2 h3)) 0 J J J J size45.out J J J) ?_;refine Y ?_
 refine gB (cF zero43.out J) fun e6=> ?_
 refine Y ?_;refine au ?_;refine Y ?_;refine gR (ja (us:=(ga a0 A1 n1 c1 A2 n2 c2)) 6 J J agg45.out J) ?_;obtain ⟨m2,k,h⟩:=aa h;refine gD (kR (BN k) J (t0 (jQ (i:=4) J J) (t0 (jQ (i:=5) J J) aQ)) zw) ?_;rintro _ _ ⟨_,⟨k5,rfl,rfl⟩,rfl⟩;refine z8 ?_;refine An ?_;refine gK ?_ dq (jt 0 J);obtain ⟨g2,k,h⟩:=aa h;refine Hi (R:=(fun (x:Int×Vw) vs cs=> ∃A1 n1 c1,vs=[iV x.1,W A1 n1 c1]/\cs=[aZ A1 n1 c1 x.2])) (fun x st=>fT N a0 d4 a6 x st) (fun (st:Vw×Vw) (mz:((Option Addr×Nat×Nat)×(Option Addr×Nat×Nat)))=> [aZ A1 n1 c1 a0.Xy,aZ A2 n2 c2 a0.Xx,ae B4 45 (ga a0 A1 n1 c1 A2 n2 c2),ae B5 45 [iV 0,iV 0,iV 0,iV 0,W none 0 0,W none 0 0],ax cj ft a8 d4,ae d2 184 [.map (some a8)],aB b0 b5 b6 a6.Xy,bh av 29 (.slice mz.1.1 mz.1.2.1 mz.1.2.2) st.1,ae e5 45 (ga a6 b0 b5 b6 mz.1.1 mz.1.2.1 mz.1.2.2),bh av 29 (.slice mz.2.1 mz.2.2.1 mz.2.2.2) st.2,ae e6 43 [.slice mz.2.1 mz.2.2.1 mz.2.2.2]]) [aC k5 45 (ga a0 A1 n1 c1 A2 n2 c2),aZ A1 n1 c1 a0.Xy,aZ A2 n2 c2 a0.Xx] ((a6.Xx,[])) (((h1,h2,h3),(none,0,0))) J J call227.out J (by rintro _ _ _ ⟨_,_,_,rfl,rfl⟩;rfl) (fun l G hY=>(ym k hY).mono fun _ _ hh=>hh.2) ((bq av 29 _).trans (dA [1,6,7] [] [6,7,8,9,10,11,4,5,3,0,2] 12 J)) h ?_ ?_ ?_ ?_
 ·rintro l f9 ⟨g3,g0⟩ je sr28 ⟨⟨c9,d0,d1⟩,⟨b7,b9,c8⟩⟩ h _ _ ⟨e2,e3,e4,rfl,rfl⟩;replace h:fT N a0 d4 a6 f9 (g3,g0)=some (je,sr28):=h;simp only [BY,WW,WX,WY,WQ,WR,Xu,V2];refine Y ?_;refine au ?_;refine dY [0,1] ?_;obtain ⟨k6,h4,h5,k7,h⟩:=aI h;refine zY [2] ?_;refine zR 3 J (lQ 0 J bU J (toNat_lt h4 h5) BQ) ?_;refine zY [4] ?_;refine zR 5 J (EF (a:=k6.N) (z:=false) 5 J wp J J U3 (dX z9) zero4.out) ?_;refine zX [6] ?_;refine An ?_;refine gH J h ?_ ?_<;>intro h
  ·refine au ?_;obtain ⟨d6,h6,h7,h8,h⟩:=aI h;obtain ⟨e0,h9,i0,i1,h⟩:=aI h;obtain ⟨e1,i2,i8,j0,h⟩:=aI h;refine gK (t:=[(2,pV B4 0),(4,pV B5 0),(5,W none 0 0),(6,pV d2 0),(9,pV e5 0),(10,pV e6 0),(12,W e2 e3 e4)]) ?_ lg (ah _)
   refine gX I 12 [] [0,11] [43,44,45,46,47,48,49,50,51,52,53,54] [[],[],[1],[2],[3],[],[5],[6],[],[8],[9],[4,7,10]] [aV (W b7 b9 c8),
aV (pV B4 5),
aV (W A2 n2 c2),
aV (dk (W A2 n2 c2) ((0:Int).toNat) 3 0),
aV (.agg #[iV d6.Xw,iV d6.N,.string d6.S]),
aV (W e2 e3 e4),
aV (dk (W e2 e3 e4) ((1:Int).toNat) 3 0),
aV (.agg #[iV e0.Xw,iV e0.N,.string e0.S]),
aV (W e2 e3 e4),
aV (dk (W e2 e3 e4) ((3:Int).toNat) 3 0),
aV (.agg #[iV e1.Xw,iV e1.N,.string e1.S]),
aX3 (fun (e7:Option Addr) (e8 e9:Nat)=> W e7 e8 e9) (fun e7 e8 e9=> [aB e7 e8 e9 ([d6,e0,e1]:List Vp)])] [] (ah _) (kQ) I rfl rfl ?_ ?_ ?_
   ·exact kP
   ·refine aH J ?_ ?_
    ·refine xh (aL (R:=av) (vss:=[[iV d6.Xw,iV d6.N,.string d6.S],[iV e0.Xw,iV e0.N,.string e0.S],[iV e1.Xw,iV e1.N,.string e1.S]]) (xs:=[d6,e0,e1]) J (O1 _ _ _ _ _ _ _ _ _) J J (fun _ _ hr=> .cons J (.cons J (.cons J All2.nil)))) J ?_;rintro _ _ ⟨k8,k9,l0,rfl,rfl⟩;exact Ia k8 k9 l0 (ah _)
    refine aH J ?_ ?_
    ·exact vU (gp (us:=[iV e1.Xw,iV e1.N,.string e1.S]) 0 J bU J j0 agg29.out (fun _ _ _ h=>by rw [show _=_ from h];rfl)) J (ko J (ah _))
    refine qR (cK 0 J bU J J t9 size29.out i2 i8) ?_;refine qE (ap J) ?_;refine aH J ?_ ?_
    ·exact vU (gp (us:=[iV e0.Xw,iV e0.N,.string e0.S]) 0 J bU J i1 agg29.out (fun _ _ _ h=>by rw [show _=_ from h];rfl)) J (ko J (ah _))
    refine qR (cK 0 J bU J J t9 size29.out h9 i0) ?_;refine qE (ap J) ?_;refine aH J ?_ ?_
    ·exact vU (gp (us:=[iV d6.Xw,iV d6.N,.string d6.S]) 2 J bU J h8 agg29.out (fun _ _ _ h=>by rw [show _=_ from h];rfl)) J (ko J (ah _))
    refine qR (cK 2 J bU J J t9 size29.out h6 h7) ?_;refine qR (bO 3 J J vI J) ?_;refine qE (jS J zf) ?_;refine qR (bO 11 J J vI J) ?_;exact dl
   intro e7 e8 e9;refine nw (t:=[(43,W b7 b9 c8),(54,W e7 e8 e9),(2,pV B4 0),(4,pV B5 0),(5,W none 0 0),(6,pV d2 0),(9,pV e5 0),(10,pV e6 0),(12,W e2 e3 e4)]) (L':=[aB e7 e8 e9 ([d6,e0,e1]:List Vp),aZ e2 e3 e4 f9.2,aZ A1 n1 c1 a0.Xy,aZ A2 n2 c2 a0.Xx,ae B4 45 (ga a0 A1 n1 c1 A2 n2 c2),ae B5 45 [iV 0,iV 0,iV 0,iV 0,W none 0 0,W none 0 0],ax cj ft a8 d4,ae d2 184 [.map (some a8)],aB b0 b5 b6 a6.Xy,aB c9 d0 d1 g3,ae e5 45 (ga a6 b0 b5 b6 c9 d0 d1),aB b7 b9 c8 g0,ae e6 43 [W b7 b9 c8]]) ?_ lg (ah _);obtain ⟨l1,h⟩:=ac h;refine qj 12 J I (aP 11 0 J J aj J J t9 AI J J l1) J J J ?_;rintro _ _ ⟨j1,j2,j3,rfl,rfl⟩;refine xW ?_;refine rN 13 J I (ar (us:=[W j1 j2 j3]) (cs':=[W j1 j2 j3]) 12 J J J J size43.out J J J) J J ?_;rintro _ _ rfl;refine lc I ?_;refine Y ?_;obtain ⟨rfl,rfl⟩:=Xg (Xe h);exact DS ((cS [2,3,4,5,6,7,8,9,10,11,12] 13).trans (gC ((c9,d0,d1),(j1,j2,j3)) J))
  refine Y ?_;obtain ⟨d3,j4,j5,j6,h⟩:=aI h;refine gR (cK 0 J bU J J t9 size29.out j4 j5) ?_;refine gR (gp (us:=[iV d3.Xw,iV d3.N,.string d3.S]) 0 J bU J j6 agg29.out (fun _ _ _ h=>by rw [show _=_ from h];rfl)) ?_
  refine gB (cF zero29.out J) fun j7=> ?_
  refine gW (ar (us:=[iV d3.Xw,iV d3.N,.string d3.S]) (cs':=[iV d3.Xw,iV d3.N,.string d3.S]) 0 J J J J size29.out J J J) ?_;refine Y ?_;refine ak (fun s L=> ∃f1 f2 f3,nG N f9 a0 d4 a6 g3 g0 f1 f2 f3=some (je,sr28)/\s=[(2,pV B4 0),(4,pV B5 0),(5,W none 0 0),(6,pV d2 0),(9,pV e5 0),(10,pV e6 0),(12,W e2 e3 e4),(13,pV j7 0)]/\L=[aZ e2 e3 e4 f9.2,aZ A1 n1 c1 a0.Xy,aZ A2 n2 c2 a0.Xx,ae B4 45 (ga a0 A1 n1 c1 A2 n2 c2),ae B5 45 [iV 0,iV 0,iV 0,iV 0,W none 0 0,W none 0 0],ax cj ft a8 d4,ae d2 184 [.map (some a8)],aB b0 b5 b6 a6.Xy,aB c9 d0 d1 g3,ae e5 45 (ga a6 b0 b5 b6 c9 d0 d1),aB b7 b9 c8 g0,ae e6 43 [W b7 b9 c8],ae j7 29 [iV f1,iV f2,.string f3]]) ?_ ?_
  ·refine Y ?_
   refine Lu 6 68 62 h (fun _ k3 h=> ?_) (fun _ k3 h=> ?_) fun m3 h=> ?_
   ·refine Y ?_;refine sj (EF (a:=d3.N) (z:=false) 6 J wp J J U3 (dX z9) zero4.out) J (ew k3 J) J ?_;refine Y ?_;obtain rfl:=jg h;exact ld sA (cS [0,1,2,3,4,5,6,7,8,9,10,11,12] 13)
   ·refine Y ?_;obtain rfl:=jg h;exact ld sA (cS [0,1,2,3,4,5,6,7,8,9,10,11,12] 13)
   refine Y ?_;refine gH J h ?_ ?_<;>intro h
   ·refine jW ?_;refine gE (ns J bld_29_.out) ?_;refine gW (ar (us:=[iV 0,iV 0,.string (⟨#[]⟩)]) (cs':=[iV 0,iV 0,.string (⟨#[]⟩)]) 0 J J J J size29.out J J J) ?_;refine Lv ?_;refine Y ?_;exact ⟨_,_,⟨0,0,⟨#[]⟩,h,J,J⟩,sA,cS [1,2,3,4,5,6,7,8,9,10,11,12,0] 13⟩
   refine Y ?_;exact ⟨_,_,⟨d3.Xw,d3.N,d3.S,h,J,J⟩,sA,cS [1,2,3,4,5,6,7,8,9,10,11,12,0] 13⟩
  rintro _ _ ⟨f1,f2,f3,h,rfl,rfl⟩;refine bi I ([aZ e2 e3 e4 f9.2,aZ A1 n1 c1 a0.Xy,aZ A2 n2 c2 a0.Xx,ae B4 45 (ga a0 A1 n1 c1 A2 n2 c2),ae B5 45 [iV 0,iV 0,iV 0,iV 0,W none 0 0,W none 0 0],ax cj ft a8 d4,ae d2 184 [.map (some a8)],aB b0 b5 b6 a6.Xy,ae e5 45 (ga a6 b0 b5 b6 c9 d0 d1),aB b7 b9 c8 g0,ae e6 43 [W b7 b9 c8],ae j7 29 [iV f1,iV f2,.string f3]]) (cS [0,1,2,3,4,5,6,7,9,10,11,12] 13) ?_;refine zY [0,1,2] ?_;obtain ⟨g4,l2,l3,l4,h⟩:=aI h;refine zY [3,4,5] ?_;obtain ⟨g5,l5,l6,l7,h⟩:=aI h;refine zY [6,7,8,9] ?_;obtain ⟨g6,l8,l9,m0,h⟩:=aI h;refine zY [10,11] ?_
  refine yD 12 J (aL (R:=av) (vss:=[[iV g4.Xw,iV g4.N,.string g4.S],[iV g5.Xw,iV g5.N,.string g5.S],[iV f1,iV f2,.string f3],[iV g6.Xw,iV g6.N,.string g6.S]]) (xs:=[g4,g5,(⟨f1,f2,f3⟩:Vp),g6]) J (JI _ _ _ _ _ _ _ _ _ _ _ _) J J (fun _ _ hr=> .cons J (.cons J (.cons J (.cons J All2.nil))))) fun m4 m5 m6=> ?_
  obtain ⟨m1,h⟩:=ac h
  refine yD 13 J (aP 9 0 J J aj J J t9 AI J J m1) fun j8 j9 k0=> ?_
  refine zY [14] ?_;refine oN 15 J I I (ar (us:=[W j8 j9 k0]) (cs':=(ga a6 b0 b5 b6 j8 j9 k0)) 10 J J J J size43.out J J J) ?_;rintro _ _ rfl;refine dB I ?_;refine QT ?_;obtain ⟨rfl,rfl⟩:=Xg (Xe h);exact DS ((cS [2,3,4,5,6,7,8,9,10,11,12] 14).trans (gC ((j8,j9,k0),(b7,b9,c8)) J))
 ·rintro ⟨⟨c9,d0,d1⟩,⟨b7,b9,c8⟩⟩ h;refine rf ([aZ A1 n1 c1 a0.Xy,aZ A2 n2 c2 a0.Xx,ae B4 45 (ga a0 A1 n1 c1 A2 n2 c2),ae B5 45 [iV 0,iV 0,iV 0,iV 0,W none 0 0,W none 0 0],ax cj ft a8 d4,ae d2 184 [.map (some a8)],aB b0 b5 b6 a6.Xy,aB c9 d0 d1 g2.2.1,ae e5 45 (ga a6 b0 b5 b6 c9 d0 d1),aB b7 b9 c8 g2.2.2,ae e6 43 [W b7 b9 c8]]) J ?_;refine Y ?_;refine au ?_;refine bi I ([aZ A1 n1 c1 a0.Xy,aZ A2 n2 c2 a0.Xx,ae B4 45 (ga a0 A1 n1 c1 A2 n2 c2),ax cj ft a8 d4,ae d2 184 [.map (some a8)],aB b0 b5 b6 a6.Xy,aB c9 d0 d1 g2.2.1,ae e5 45 (ga a6 b0 b5 b6 c9 d0 d1),aB b7 b9 c8 g2.2.2,ae e6 43 [W b7 b9 c8]]) (cS [0,1,2,4,5,6,7,8,9,10] 11) ?_;refine zY [0,1] ?_;refine zO 2 J (ar (us:=(ga a6 b0 b5 b6 c9 d0 d1)) (cs':=(ga a6 b0 b5 b6 c9 d0 d1)) 3 J J J J size45.out J J J) ?_;rintro _ _ rfl;refine aW ?_;refine zX [3] ?_;refine Y ?_;obtain rfl:=jg h;exact ul (rs:=[.cell 4 45,.tmp 5]) (vs:=[.agg #[iV a6.Xw,iV a6.XD,iV a6.XB,iV a6.XC,W b0 b5 b6,W c9 d0 d1],W b7 b9 c8]) J (.cons (lz 3 J J agg45.out) (.cons (qq J) .nil)) J (cS [6,7,9] 11) ⟨_,_,_,_,_,_,_,_,_,J,J⟩
 ·rintro ⟨⟨c9,d0,d1⟩,⟨b7,b9,c8⟩⟩ h;exact az h
 rintro i ⟨⟨c9,d0,d1⟩,⟨b7,b9,c8⟩⟩ h;exact az h
def yf (N:Nat)(p4:Vw):Option Vw:=
 some p4
def oD (N:Nat)(a8:Vw->Int->Option Vw)(a0:Vw)(p7:Int)(a1:VH)(p6:Vw)(a6:Vp)(p13:Int):Option Vw:=
 aD (bY (p6.length+([(⟨a6.Xw,p13,a6.S⟩:Vp)]:List Vp).length)) (aD (in64 (p7+1)) (a8 (p6++([(⟨a6.Xw,p13,a6.S⟩:Vp)]:List Vp)) (p7+1)))
def gv (N:Nat)(a0:Vw)(a1:VH):Nat->Vw->Int->Option Vw
 |0,_,_=>none
 |m5+1,p6,p7=>bif decide (p7<(a0.length:Int)) then ((ao a0 p7).bind fun a6=>(bif (lk a1 a6.N).isSome then ((bif decide (a6.Xw=7) then (some true) else (some (decide (a6.Xw=9)))).bind fun a8=>some a8) else (some false)).bind fun b0=>bif b0 then (oD N (gv N a0 a1 m5) a0 p7 a1 p6 a6 ((lk a1 a6.N).getD 0)) else (oD N (gv N a0 a1 m5) a0 p7 a1 p6 a6 a6.N)) else (yf N p6)
def d7 (a0:Vw)(a1:VH):Option Vw:=
 gv N a0 a1 N [] 0
theorem pM {N:Nat}{a0:Vw}{a1:VH}{r:Vw}(h:d7 N a0 a1=some r):Okc VK 153 [W A1 n1 c1,.map (some M2)] ([aZ A1 n1 c1 a0,mY cj sC M2 a1]) (fun u post=> ∃A0 n0 c0,u=W A0 n0 c0/\post=[aB A0 n0 c0 r]):=by
 refine F6 Tryz.func153 J J ?_;simp only [uj];refine Y ?_;refine ak (fun s L=> ∃p4 A4 n4 c4,yf N p4=some r/\s=[(4,W none 0 0),(5,W A4 n4 c4)]/\L=[aB A4 n4 c4 p4]) ?_ ?_
 ·refine Y ?_;refine gR (rX 0 J bU J t9) ?_;refine Y ?_;refine gZ (fun m s L=> ∃p6 p7 A6 n6 c6,gv N a0 a1 m p6 p7=some r/\s=[(1,.map (some M2)),(4,W none 0 0),(5,W A6 n6 c6),(10,W A1 n1 c1),(11,iV (a0.length:Int)),(12,iV p7)]/\L=[mY cj sC M2 a1,aB A6 n6 c6 p6,aZ A1 n1 c1 a0]) N _ _ ⟨[],0,none,0,0,h,J,J⟩ sA ((bq av 29 _).trans (cS [2,0,1] 3)) ?_;rintro (_|m5) _ _ ⟨p6,p7,A6,n6,c6,h,rfl,rfl⟩
  ·exact az h
  rw [gv.eq_2] at h;refine Y ?_;refine au ?_;refine gH J h ?_ ?_<;>intro h
  ·refine Y ?_;refine au ?_;refine Y ?_;obtain ⟨a6,a8,b0,b5,h⟩:=aI h;refine gR (cK 2 J bU J J t9 size29.out a8 b0) ?_;refine gR (gp (us:=[iV a6.Xw,iV a6.N,.string a6.S]) 2 J bU J b5 agg29.out (fun _ _ _ h=>by rw [show _=_ from h];rfl)) ?_
   refine gB (cF zero29.out J) fun b6=> ?_
   refine gW (ar (us:=[iV a6.Xw,iV a6.N,.string a6.S]) (cs':=[iV a6.Xw,iV a6.N,.string a6.S]) 0 J J J J size29.out J J J) ?_;refine Y ?_;refine ak (fun s L=> ∃p13,oD N (gv N a0 a1 m5) a0 p7 a1 p6 a6 p13=some r/\s=[(1,.map (some M2)),(4,W none 0 0),(5,W A6 n6 c6),(7,pV b6 0),(10,W A1 n1 c1),(11,iV (a0.length:Int)),(12,iV p7)]/\L=[mY cj sC M2 a1,aB A6 n6 c6 p6,aZ A1 n1 c1 a0,ae b6 29 [iV a6.Xw,iV p13,.string a6.S]]) ?_ ?_
   ·refine Y ?_;refine gR (tD (a:=a6.N) (z:=0) 1 J RR J J U6 (dX z9) zero3.out) ?_;refine Y ?_
    refine Lu 9 33 24 h (fun _ b9 h=> ?_) (fun _ b9 h=> ?_) fun d3 h=> ?_
    ·refine Y ?_
     refine Lu 4 32 28 h (fun _ c8 h=> ?_) (fun _ c8 h=> ?_) fun d4 h=> ?_
     ·refine Y ?_;obtain rfl:=jg h;exact ld sA (cS [0,1,2,3] 4)
     ·refine Y ?_;obtain rfl:=jg h;exact ld sA (cS [0,1,2,3] 4)
     refine Y ?_;obtain rfl:=jg h;exact ld sA (cS [0,1,2,3] 4)
    ·refine Y ?_;obtain rfl:=jg h;exact ld sA (cS [0,1,2,3] 4)
    refine Y ?_;refine gH J h ?_ ?_<;>intro h
    ·refine Y ?_;refine gW (ar (us:=[iV ((lk a1 a6.N).getD 0)]) (cs':=[iV a6.Xw,iV ((lk a1 a6.N).getD 0),.string a6.S]) 0 J J J J size3.out J J J) ?_;refine Y ?_;exact ⟨_,_,⟨(lk a1 a6.N).getD 0,h,J,J⟩,sA,cS [1,2,3,0] 4⟩
    refine Y ?_;exact ⟨_,_,⟨a6.N,h,J,J⟩,sA,cS [1,2,3,0] 4⟩
   rintro _ _ ⟨p13,h,rfl,rfl⟩;refine Y ?_;refine gR (ja (us:=[iV a6.Xw,iV p13,.string a6.S]) 3 J J agg29.out J) ?_;refine gD (aL (R:=av) (vss:=[[iV a6.Xw,iV p13,.string a6.S]]) (xs:=[(⟨a6.Xw,p13,a6.S⟩:Vp)]) J (rL _ _ _) J J (fun _ _ hr=> .cons J All2.nil)) ?_;rintro _ _ ⟨d6,e0,e1,rfl,rfl⟩;obtain ⟨c9,h⟩:=ac h;refine gD (aP 2 0 J J aj J J t9 AI J J c9) ?_;rintro _ _ ⟨d0,d1,d2,rfl,rfl⟩;refine Lv ?_;refine Y ?_;obtain ⟨b7,h⟩:=ac h;refine gE (fU J J b7.1 b7.2) ?_;refine Y ?_;exact ⟨m5,_,_,VA _,⟨p6++([(⟨a6.Xw,p13,a6.S⟩:Vp)]:List Vp),p7+1,d0,d1,d2,h,J,J⟩,sA,cS [1,2,3] 5⟩
  refine Y ?_;exact ⟨_,_,⟨p6,A6,n6,c6,h,J,J⟩,sA,cS [1] 3⟩
 rintro _ _ ⟨p4,A4,n4,c4,h,rfl,rfl⟩;refine Y ?_;obtain rfl:=jg h;exact z7 J J (cS [0] 1) ⟨_,_,_,J,J⟩
def jP (a1:Vw)(a0:Ve)(a6:VF)(d1:Vx)(a8:Option Exit×VH)(c8:Vw)(b0 b5 b6 b7:Int)(c9 d0:Vw):Option (Option Exit×VF×Vw):=
 (d7 N c9 a8.2).bind fun b9=>(d7 N d0 a8.2).bind fun c0=>aD (bY (a6.length+([(⟨b0,b5,b6,b7,b9,c0⟩:Vd)]:List Vd).length)) (some (none,(a6++([(⟨b0,b5,b6,b7,b9,c0⟩:Vd)]:List Vd),c8)))
def mD (a1:Vw)(a0:Ve)(b5:Vx)(b7:Option Exit×VH)(c0:Int×Int):(VF×Vw)->Option (Option Exit×(VF×Vw))
 |(b9,b6)=>(lC N a0 c0.2).bind fun a6=>bif decide (a6.Xw=8) then ((ny N a6 b5).bind fun b0=>jP N a1 a0 b9 b5 b7 b6 b0.Xw b0.XD b0.XB b0.XC b0.Xy b0.Xx) else (bif decide (a6.Xw=10) then ((kV N a6 b5).bind fun a8=>aD (bY (b6.length+a8.2.length)) (jP N a1 a0 b9 b5 b7 (b6++a8.2) a8.1.Xw a8.1.XD a8.1.XB a8.1.XC a8.1.Xy a8.1.Xx)) else (jP N a1 a0 b9 b5 b7 b6 a6.Xw a6.XD a6.XB a6.XC a6.Xy a6.Xx))
def mE (N:Nat)(a1:Vw)(a0:Ve)(a8:Vx)(a6:Int×Int):(VH)->Option (Option Exit×VH)
 |p21=>aD (in64 (2*a6.1)) (aD (in64 ((2*a6.1)+2)) (some (none,wI p21 a6.2 ((2*a6.1)+2))))
def oF (a0:Ve)(a1:Vw):Option (Ve×Vw×Vw×Int):=
 (me N a0 a1).bind fun y7=>bif !decide (y7=0) then (some ((⟨[],[]⟩:Ve),[],[],y7)) else ((nB N a0 a1).bind fun a6=>(md N a6).bind fun b7=>(fR N a6 (cO (fun x st=>mE N a1 a0 a6 x st)) (none,([]:VH))).bind fun a8=>sE a8.1 ((md N a6).bind fun b9=>(fR N a6 (cO (fun x st=>mD N a1 a0 a6 a8 x st)) (none,([],[]))).bind fun b0=>sE b0.1 ((d7 N a1 a8.2).bind fun b5=>(d7 N b0.2.2 a8.2).bind fun b6=>some ((⟨[],b0.2.1⟩:Ve),b5,b6,0)) none (fun _=>none)) none (fun _=>none))
def kC (a1:Vw)(a0:Ve)(a6:VF)(d1:Vx)(a8:Option Exit×VH)(c8:Vw)(b0 b5 b6 b7:Int)(c9 d0:Vw):Option (Option Exit×VF×Vw):=
 (d7 N c9 a8.2).bind fun b9=>(d7 N d0 a8.2).bind fun c0=>aD (bY (a6.length+([(⟨b0,b5,b6,b7,b9,c0⟩:Vd)]:List Vd).length)) (some (none,(a6++([(⟨b0,b5,b6,b7,b9,c0⟩:Vd)]:List Vd),c8)))
def kD (a1:Vw)(a0:Ve)(b5:Vx)(b7:Option Exit×VH)(c0:Int×Int):(VF×Vw)->Option (Option Exit×(VF×Vw))
 |(b9,b6)=>(lC N a0 c0.2).bind fun a6=>bif decide (a6.Xw=8) then ((ny N a6 b5).bind fun b0=>kC N a1 a0 b9 b5 b7 b6 b0.Xw b0.XD b0.XB b0.XC b0.Xy b0.Xx) else (bif decide (a6.Xw=10) then ((kV N a6 b5).bind fun a8=>aD (bY (b6.length+a8.2.length)) (kC N a1 a0 b9 b5 b7 (b6++a8.2) a8.1.Xw a8.1.XD a8.1.XB a8.1.XC a8.1.Xy a8.1.Xx)) else (kC N a1 a0 b9 b5 b7 b6 a6.Xw a6.XD a6.XB a6.XC a6.Xy a6.Xx))
def kE (N:Nat)(a1:Vw)(a0:Ve)(a8:Vx)(a6:Int×Int):(VH)->Option (Option Exit×VH)
 |p21=>aD (in64 (2*a6.1)) (aD (in64 ((2*a6.1)+2)) (some (none,wI p21 a6.2 ((2*a6.1)+2))))
def dh (a0:Ve)(a1:Vw):Option ((Ve×Vw×Vw×Int) ⊕ (Ve×Vw×Vw)):=
 (me N a0 a1).bind fun y7=>bif !decide (y7=0) then (some (.inl ((⟨[],[]⟩:Ve),[],[],y7))) else ((nB N a0 a1).bind fun a6=>(md N a6).bind fun b7=>(fR N a6 (cO (fun x st=>kE N a1 a0 a6 x st)) (none,([]:VH))).bind fun a8=>sE a8.1 ((md N a6).bind fun b9=>(fR N a6 (cO (fun x st=>kD N a1 a0 a6 a8 x st)) (none,([],[]))).bind fun b0=>sE b0.1 ((d7 N a1 a8.2).bind fun b5=>(d7 N b0.2.2 a8.2).bind fun b6=>some (.inr ((⟨[],b0.2.1⟩:Ve),b5,b6))) none (fun _=>none)) none (fun _=>none))
theorem tY {N:Nat}{a0:Ve}{a1:Vw}{r:((Ve×Vw×Vw×Int) ⊕ (Ve×Vw×Vw))}(h:dh N a0 a1=some r):Okc VK 99 [.agg #[W A1 n1 c1,W A2 n2 c2],W A3 n3 c3] ([aZ A3 n3 c3 a1,cN A1 n1 c1 a0.XA,cN A2 n2 c2 a0.Xz]) (fun u post=>Px (fun (r:Ve×Vw×Vw×Int)=> ∃c8 c9 d0 d1 d2 d3 d4 d6 e0 e1 e2 e3,u=.tuple #[.agg #[W c8 c9 d0,W d1 d2 d3],W d4 d6 e0,W e1 e2 e3,iV r.2.2.2]/\post=[cN c8 c9 d0 r.1.XA,cN d1 d2 d3 r.1.Xz,aB d4 d6 e0 r.2.1,aB e1 e2 e3 r.2.2.1,cN A1 n1 c1 a0.XA,cN A2 n2 c2 a0.Xz]) (fun (r:Ve×Vw×Vw)=> ∃c8 c9 d0 d1 d2 d3 d4 d6 e0 e1 e2 e3,u=.tuple #[.agg #[W c8 c9 d0,W d1 d2 d3],W d4 d6 e0,W e1 e2 e3,iV 0]/\post=[cN c8 c9 d0 r.1.XA,cN d1 d2 d3 r.1.Xz,aB d4 d6 e0 r.2.1,aB e1 e2 e3 r.2.2,cN A1 n1 c1 a0.XA,cN A2 n2 c2 a0.Xz]) r):=by
 refine bX Tryz.func99 ?_;intro B4
 refine dD fun B5=> ?_
 intro B6;refine sY ?_
 refine cR h (fun _ k=>Fa k) fun y7 h=> ?_
 refine gH J h ?_ ?_<;>intro h
 ·refine ab ?_;obtain rfl:=jg h;exact ul (rs:=[.cell 4 125,.tmp 5,.cell 6 43,.tmp 7]) (vs:=[.agg #[W none 0 0,W none 0 0],W none 0 0,W none 0 0,iV y7]) J (.cons (lz 1 J J agg125.out) (.cons (qq J) (.cons (Hy 0 J J vI) (.cons (qq J) .nil)))) J ((bq ei 45 _).trans ((bq ei 45 _).trans ((bq av 29 _).trans ((bq av 29 _).trans (cS [3,2,1,0,8,9] 10))))) ⟨_,_,_,_,_,_,_,_,_,_,_,_,J,J⟩
 refine JS h (fun _ k=>F1 k) fun b6 a6 a8 b0 h=> ?_
 intro e7;refine ab ?_;refine gD (tL (ek:=cj) (ev:=sC)) ?_;rintro _ _ ⟨b5,rfl,rfl⟩
 refine dD fun e8=> ?_
 refine sZ ?_;obtain ⟨l4,k,h⟩:=aa h;refine gD (oR (ye k)) ?_;rintro _ _ ⟨_,⟨j5,rfl,rfl⟩,rfl⟩;refine ab ?_;refine gK ?_ dq (jt 0 J);refine gK ?_ dq (bM 4 J);refine ab ?_;obtain ⟨f4,k,h⟩:=aa h;refine vW (en:=(fun x=> [iV x.1,iV x.2])) (fun x st=>kE N a1 a0 b6 x st) (fun (st:VH) (mz:Unit)=> [aZ A3 n3 c3 a1,cN A1 n1 c1 a0.XA,cN A2 n2 c2 a0.Xz,ae B4 125 [W A1 n1 c1,W A2 n2 c2],ae B5 125 [W none 0 0,W none 0 0],ae B6 43 [W none 0 0],fC a6 a8 b0 b6,ae e7 99 [W a6 a8 b0],ax cj sC b5 st,ae e8 207 [.map (some b5)]]) [aC j5 99 [W a6 a8 b0],fC a6 a8 b0 b6] (([]:VH)) (()) J J call193.out J (fun _=>J) (fun l G hY=>(uK k hY).mono fun _ _ hh=>hh.2) (dA [0,4] [] [8,9,10,7,6,5,4,3,2,1] 11 J) h ?_ ?_ ?_ ?_
 ·rintro l h9 p21 je sr20 _ h;replace h:kE N a1 a0 b6 h9 p21=some (je,sr20):=h;simp only [BY,WW,WX,WY,WQ,WR,Xu,V2];refine ab ?_;obtain ⟨j3,h⟩:=ac h;refine gE (nr J J j3.1 j3.2) ?_;obtain ⟨l5,h⟩:=ac h;refine ab ?_;refine Gc (iv (a:=h9.2) (b:=(2*h9.1)+2) 8 J J J J U6 (dX z9)) ?_;obtain ⟨rfl,rfl⟩:=Xg (Xe h);exact DS ((cS [0,1,2,3,4,5,6,7,8,9] 10).trans (gC () J))
 ·rintro _ h;refine rf ([aZ A3 n3 c3 a1,cN A1 n1 c1 a0.XA,cN A2 n2 c2 a0.Xz,ae B4 125 [W A1 n1 c1,W A2 n2 c2],ae B5 125 [W none 0 0,W none 0 0],ae B6 43 [W none 0 0],fC a6 a8 b0 b6,ae e7 99 [W a6 a8 b0],ax cj sC b5 f4.2,ae e8 207 [.map (some b5)]]) J ?_;refine sY ?_;obtain ⟨l6,k,h⟩:=aa h;refine gD (oR (ye k)) ?_;rintro _ _ ⟨_,⟨j6,rfl,rfl⟩,rfl⟩;refine ab ?_;refine gK ?_ dq (jt 0 J);obtain ⟨j4,k,h⟩:=aa h;refine vW (en:=(fun x=> [iV x.1,iV x.2])) (fun x st=>kD N a1 a0 b6 f4 x st) (fun (st:VF×Vw) (mz:((Option Addr×Nat×Nat)×(Option Addr×Nat×Nat)))=> [aZ A3 n3 c3 a1,cN A1 n1 c1 a0.XA,cN A2 n2 c2 a0.Xz,ae B4 125 [W A1 n1 c1,W A2 n2 c2],bh ei 45 (.slice mz.1.1 mz.1.2.1 mz.1.2.2) st.1,ae B5 125 [W none 0 0,.slice mz.1.1 mz.1.2.1 mz.1.2.2],bh av 29 (.slice mz.2.1 mz.2.2.1 mz.2.2.2) st.2,ae B6 43 [.slice mz.2.1 mz.2.2.1 mz.2.2.2],fC a6 a8 b0 b6,ae e7 99 [W a6 a8 b0],ax cj sC b5 f4.2,ae e8 207 [.map (some b5)]]) [aC j6 99 [W a6 a8 b0],fC a6 a8 b0 b6] (([],[])) (((none,0,0),(none,0,0))) J J call193.out J (fun _=>J) (fun l G hY=>(uK k hY).mono fun _ _ hh=>hh.2) ((bq ei 45 _).trans ((bq av 29 _).trans (dA [2,9] [] [3,4,5,6,1,7,0,8,9,10,11,12] 13 J))) h ?_ ?_ ?_ ?_
  ·rintro l j7 ⟨h5,j8⟩ je sr27 ⟨⟨b7,b9,c0⟩,⟨h2,h3,h4⟩⟩ h;replace h:kD N a1 a0 b6 f4 j7 (h5,j8)=some (je,sr27):=h;simp only [BY,WW,WX,WY,WQ,WR,Xu,V2]
   refine Nn h (fun _ k=>xI k) fun l7 l8 l9 m0 m1 m2 m3 h=> ?_
   intro e9;refine ab ?_;refine ak (fun s L=> ∃h6 f9 g0 g1 g2 h7 h8 g6 g7 g8 g9 h0 h1 g3 g4 g5,kC N a1 a0 h5 b6 f4 h6 f9 g0 g1 g2 h7 h8=some (je,sr27)/\s=[(1,W A3 n3 c3),(2,pV B4 0),(4,pV B5 0),(5,W none 0 0),(6,pV B6 0),(7,iV 0),(9,pV e7 0),(10,pV e8 0),(15,pV e9 0)]/\L=[aZ A3 n3 c3 a1,cN A1 n1 c1 a0.XA,cN A2 n2 c2 a0.Xz,ae B4 125 [W A1 n1 c1,W A2 n2 c2],cN b7 b9 c0 h5,ae B5 125 [W none 0 0,W b7 b9 c0],aB g6 g7 g8 h6,ae B6 43 [W g6 g7 g8],fC a6 a8 b0 b6,ae e7 99 [W a6 a8 b0],ax cj sC b5 f4.2,ae e8 207 [.map (some b5)],aB g9 h0 h1 h7,aB g3 g4 g5 h8,ae e9 45 [iV f9,iV g0,iV g1,iV g2,W g9 h0 h1,W g3 g4 g5]]) ?_ ?_
   ·refine dU h ?_ ?_<;>intro h
    ·refine Nn h (fun _ k=>zy k) fun m4 m5 m6 m7 m8 m9 n0 h=> ?_
     exact jN
    refine dU h ?_ ?_<;>intro h
    ·refine ab ?_;obtain ⟨n8,k,h⟩:=aa h
     refine Tp (oR (wO k)) fun n9 o0 o1 o2 o3 o4 o5 p0 p1=> ?_
     obtain ⟨j9,h⟩:=ac h
     refine rP (aP 12 2 J J aj J J t9 AI J J j9) fun p2 p3 p4=> ?_
     exact jN
    exact jY
   refine fun s L=>ai fun h6=>ai fun f9=>ai fun g0=>ai fun g1=>ai fun g2=>ai fun h7=>ai fun h8=>ai fun g6=>ai fun g7=>ai fun g8=>ai fun g9=>ai fun h0=>ai fun h1=>ai fun g3=>ai fun g4=>ai fun g5=>xi fun h=> ?_
   refine au ?_;obtain ⟨i0,i1,h⟩:=aa h;obtain ⟨i2,i8,h⟩:=aa h;refine gK (t:=[(1,W A3 n3 c3),(2,pV B4 0),(4,pV B5 0),(5,W none 0 0),(6,pV B6 0),(7,iV 0),(9,pV e7 0),(10,pV e8 0),(15,pV e9 0)]) ?_ lg (ah _)
   refine gX I 9 [] [3,7,8] [62,63,64,65,66,67,68,69,70] [[],[0],[],[1,2],[],[4],[],[5,6],[]] [aV (pV e9 4),
aV (W g9 h0 h1),
aV (.map (some b5)),
aX3 (fun (e4:Option Addr) (e5 e6:Nat)=> W e4 e5 e6) (fun e4 e5 e6=> [aB e4 e5 e6 i0]),
aV (pV e9 5),
aV (W g3 g4 g5),
aV (.map (some b5)),
aX3 (fun (f1:Option Addr) (f2 f3:Nat)=> W f1 f2 f3) (fun f1 f2 f3=> [aB f1 f2 f3 i2]),
aV (pV e9 4)] [] (ah _) (kQ) I rfl rfl ?_ ?_ ?_
   ·exact kP
   ·refine qE (jS J H5) ?_;refine aH J ?_ ?_
    ·refine xh (oR (pM i8)) J ?_;rintro _ _ ⟨_,⟨k0,k2,k3,rfl,rfl⟩,rfl⟩;exact Ia k0 k2 k3 (ah _)
    refine qR (bO 11 J J Kr J) ?_;refine qR (bO 14 J J vI J) ?_;refine qE (jS J zf) ?_;refine aH J ?_ ?_
    ·refine xh (oR (pM i1)) J ?_;rintro _ _ ⟨_,⟨k4,k5,k6,rfl,rfl⟩,rfl⟩;exact Ia k4 k5 k6 (ah _)
    refine qR (bO 11 J J Kr J) ?_;refine qR (bO 14 J J vI J) ?_;refine qE (jS J H5) ?_;exact dl
   intro e4 e5 e6 f1 f2 f3;refine nw (t:=[(65,W e4 e5 e6),(69,W f1 f2 f3),(70,pV e9 4),(1,W A3 n3 c3),(2,pV B4 0),(4,pV B5 0),(5,W none 0 0),(6,pV B6 0),(7,iV 0),(9,pV e7 0),(10,pV e8 0),(15,pV e9 0)]) (L':=[aB e4 e5 e6 i0,aB f1 f2 f3 i2,aZ A3 n3 c3 a1,cN A1 n1 c1 a0.XA,cN A2 n2 c2 a0.Xz,ae B4 125 [W A1 n1 c1,W A2 n2 c2],cN b7 b9 c0 h5,ae B5 125 [W none 0 0,W b7 b9 c0],aB g6 g7 g8 h6,ae B6 43 [W g6 g7 g8],fC a6 a8 b0 b6,ae e7 99 [W a6 a8 b0],ax cj sC b5 f4.2,ae e8 207 [.map (some b5)],aB g9 h0 h1 h7,aB g3 g4 g5 h8,ae e9 45 [iV f9,iV g0,iV g1,iV g2,W g9 h0 h1,W g3 g4 g5]]) ?_ lg (ah _);refine rN 9 J I (ar (us:=[W e4 e5 e6]) (cs':=[iV f9,iV g0,iV g1,iV g2,W e4 e5 e6,W g3 g4 g5]) 16 J J J J size43.out J J J) J J ?_;rintro _ _ rfl;refine DT 10 J I (jS J zf) J J J ?_;refine rN 11 J I (ar (us:=[W f1 f2 f3]) (cs':=[iV f9,iV g0,iV g1,iV g2,W e4 e5 e6,W f1 f2 f3]) 16 J J J J size43.out J J J) J J ?_;rintro _ _ rfl;refine xW ?_;refine lc I ?_;refine ab ?_;refine rO (bM 0 J) ?_;refine rO (bM 1 J) ?_
   refine gD (aL (R:=ei) (vss:=[[iV f9,iV g0,iV g1,iV g2,W e4 e5 e6,W f1 f2 f3]]) (xs:=[(⟨f9,g0,g1,g2,i0,i2⟩:Vd)]) J (vR _ _ _ _ _ _ _ _ _ _) J J (fun _ _ hr=> .cons (⟨_,_,_,_,_,_,J,hr 0 _ J J,hr 1 _ J J⟩) All2.nil)) ?_;rintro _ _ ⟨p5,p6,p7,rfl,rfl⟩;obtain ⟨k7,h⟩:=ac h
   refine rP (aP 7 0 J J aj J J UW Is J J k7) fun k8 k9 l0=> ?_
   obtain ⟨rfl,rfl⟩:=Xg (Xe h);exact DS ((cS [3,4,5,6,7,8,9,10,11,12,13,14] 18).trans (gC ((k8,k9,l0),(g6,g7,g8)) J))
  ·rintro ⟨⟨b7,b9,c0⟩,⟨h2,h3,h4⟩⟩ h;refine rf ([aZ A3 n3 c3 a1,cN A1 n1 c1 a0.XA,cN A2 n2 c2 a0.Xz,ae B4 125 [W A1 n1 c1,W A2 n2 c2],cN b7 b9 c0 j4.2.1,ae B5 125 [W none 0 0,W b7 b9 c0],aB h2 h3 h4 j4.2.2,ae B6 43 [W h2 h3 h4],fC a6 a8 b0 b6,ae e7 99 [W a6 a8 b0],ax cj sC b5 f4.2,ae e8 207 [.map (some b5)]]) J ?_;refine ab ?_;refine dY [0,1,2,4,5] ?_;obtain ⟨p8,k,h⟩:=aa h
   refine yD 3 J (oR (pM k)) fun l1 l2 l3=> ?_
   obtain ⟨q0,k,h⟩:=aa h
   refine yD 6 J (oR (pM k)) fun j0 j1 j2=> ?_
   refine zO 7 J (ar (us:=[W none 0 0,W b7 b9 c0]) (cs':=[W none 0 0,W b7 b9 c0]) 7 J J J J size125.out J J J) ?_;rintro _ _ rfl;refine aW ?_;refine zY [8] ?_;refine oN 9 J I I (ar (us:=[W j0 j1 j2]) (cs':=[W j0 j1 j2]) 9 J J J J size43.out J J J) ?_;rintro _ _ rfl;refine zX [10] ?_;refine ab ?_;obtain rfl:=jg h;exact ul (rs:=[.cell 4 125,.tmp 5,.cell 6 43,.tmp 7]) (vs:=[.agg #[W none 0 0,W b7 b9 c0],W l1 l2 l3,W j0 j1 j2,iV 0]) J (.cons (lz 7 J J agg125.out) (.cons (qq J) (.cons (Hy 9 J J vI) (.cons (qq J) .nil)))) J ((bq ei 45 _).trans (cS [0,7,2,1,4,5] 15)) ⟨_,_,_,_,_,_,_,_,_,_,_,_,J,J⟩
  ·rintro ⟨⟨b7,b9,c0⟩,⟨h2,h3,h4⟩⟩ h;exact az h
  rintro i ⟨⟨b7,b9,c0⟩,⟨h2,h3,h4⟩⟩ h;exact az h
 ·rintro _ h;exact az h
 rintro i _ h;exact az h
def nl (a0:Vw)(a1:Vv):Option ((Ve×Vw×Vw×Int) ⊕ (Ve×Vw×Vw)):=
 (dh N a1.m_ a0).bind fun a6=>yL a6 (fun y11_0=>some (.inl (y11_0.1,y11_0.2.1,y11_0.2.2.1,y11_0.2.2.2))) (fun y11_1=>some (.inr (y11_1.1,y11_1.2.1,y11_1.2.2)))
theorem co {N:Nat}{a0:Vw}{a1:Vv}{r:((Ve×Vw×Vw×Int) ⊕ (Ve×Vw×Vw))}(h:nl N a0 a1=some r):Okc VK 98 [W A1 n1 c1,pV B2 0] ([aZ A1 n1 c1 a0,aC B2 60 [pV B3 0],ae B3 128 [W A4 n4 c4,W A5 n5 c5,W A6 n6 c6,W A7 n7 c7,pV B8 0],cN A4 n4 c4 a1.m_.XA,cN A5 n5 c5 a1.m_.Xz,aB A6 n6 c6 a1.XJ,aB A7 n7 c7 a1.XP,ae B8 186 [.map (some M9)],ax cj ft M9 a1.XO.at_]) (fun u post=>Px (fun (r:Ve×Vw×Vw×Int)=> ∃a6 a8 b0 b5 b6 b7 b9 c0 c8 c9 d0 d1,u=.tuple #[.agg #[W a6 a8 b0,W b5 b6 b7],W b9 c0 c8,W c9 d0 d1,iV r.2.2.2]/\post=[cN a6 a8 b0 r.1.XA,cN b5 b6 b7 r.1.Xz,aB b9 c0 c8 r.2.1,aB c9 d0 d1 r.2.2.1,cN A4 n4 c4 a1.m_.XA,cN A5 n5 c5 a1.m_.Xz,aB A6 n6 c6 a1.XJ,aB A7 n7 c7 a1.XP,ae B3 128 [W A4 n4 c4,W A5 n5 c5,W A6 n6 c6,W A7 n7 c7,pV B8 0],ae B8 186 [.map (some M9)],ax cj ft M9 a1.XO.at_]) (fun (r:Ve×Vw×Vw)=> ∃a6 a8 b0 b5 b6 b7 b9 c0 c8 c9 d0 d1,u=.tuple #[.agg #[W a6 a8 b0,W b5 b6 b7],W b9 c0 c8,W c9 d0 d1,iV 0]/\post=[cN a6 a8 b0 r.1.XA,cN b5 b6 b7 r.1.Xz,aB b9 c0 c8 r.2.1,aB c9 d0 d1 r.2.2,cN A4 n4 c4 a1.m_.XA,cN A5 n5 c5 a1.m_.Xz,aB A6 n6 c6 a1.XJ,aB A7 n7 c7 a1.XP,ae B3 128 [W A4 n4 c4,W A5 n5 c5,W A6 n6 c6,W A7 n7 c7,pV B8 0],ae B8 186 [.map (some M9)],ax cj ft M9 a1.XO.at_]) r):=by
 refine bX Tryz.func98 ?_;intro d4;refine ab ?_;obtain ⟨d3,d2,h⟩:=aa h;rcases d3 with y11_0|y11_1
 ·replace h:=Cq h
  refine SJ (oC (tY d2)) fun d6 e0 e1 e2 e3 e4 e5 e6 e7 e8 e9 f1=> ?_
  exact eN
 replace h:=Cp h
 refine SJ (oC (tY d2)) fun f2 f3 f4 f9 g0 g1 g2 g3 g4 g5 g6 g7=> ?_
 exact eN
def mw (a0:Vt):Option Vx:=
 (yc N a0.at_).bind fun y3=>(rQ N a0.at_).bind fun y5=>some y5
theorem Ae {N:Nat}{a0:Vt}{r:Vx}(h:mw N a0=some r):Okc VK 74 [pV B1 0] ([aC B1 186 [.map (some M2)],mY cj ft M2 a0.at_]) (fun u post=> ∃A0 n0 c0,u=W A0 n0 c0/\post=[fm A0 n0 c0 r]):=by
 refine bX Tryz.func74 ?_;refine sZ ?_;refine dK (dz J UZ) ?_;refine cP J ?_;refine ab ?_;obtain ⟨y3,k,h⟩:=aa h;refine gD (oR (HO k)) ?_;rintro _ _ ⟨_,⟨B4,rfl,rfl⟩,rfl⟩
 refine JS h (fun _ k=>Cr k) fun y5 A6 n6 c6 h=> ?_
 exact eN
def lR (N:Nat)(a0:Vp):Option (Int×Bool):=
 (bif decide (a0.Xw=7) then (some true) else (some (decide (a0.Xw=9)))).bind fun b2=>some (a0.N,b2)
theorem vM {N:Nat}{a0:Vp}{r:Int×Bool}(h:lR N a0=some r):Okc VK 202 [(aX a0)] ([]) (fun u post=>u=.tuple #[iV r.1,.bool r.2]/\post=[]):=by
 refine bX Tryz.func202 ?_;intro B1;refine ab ?_;refine dY [0,1,2,3,4,5,10] ?_
 refine yJ [6,7,8,9] 1 9 13 h (fun _ g2 h rest=> ?_) (fun _ g2 h rest=> ?_) fun b2 h=> ?_
 ·refine yY [6,7,8,9] ?_;exact yS rest h
 ·refine yY [6,7,8,9] ?_;exact yS rest h
 refine zX [11] ?_;exact eY
def pI (a0:Vp)(a1:Ve):Option Bool:=
 (lR N a0).bind fun y5=>(bif y5.2 then ((jH N a1 y5.1).bind fun y7=>some (!y7)) else (some false)).bind fun b6=>some b6
theorem DO {N:Nat}{a0:Vp}{a1:Ve}{r:Bool}(h:pI N a0 a1=some r):Okc VK 201 [(aX a0),pV B1 0] ([aC B1 125 [W A2 n2 c2,W A3 n3 c3],bB A2 n2 c2 a1.XA,bB A3 n3 c3 a1.Xz]) (fun u post=>u=.bool r/\post=[]):=by
 refine bX Tryz.func201 ?_;intro B4
 refine cR h (fun _ k=>vM k) fun y5 h=> ?_
 refine qi 5 17 12 h (fun _ g6 h=> ?_) fun b6 h=> ?_
 ·refine cR h (fun _ k=>lB k) fun y7 h=> ?_
  exact gY
 exact eY
def nL (N:Nat)(ff:Vp->Option Bool):Option Int:=
 some (-1)
def dC (N:Nat)(ff:Vp->Option Bool)(a0:Vw):Nat->Int->Option Int
 |0,_=>none
 |m3+1,p4=>bif decide (p4<(a0.length:Int)) then ((ao a0 p4).bind fun x6=>(ff x6).bind fun y7=>bif y7 then (some p4) else (aD (in64 (p4+1)) ((dC N ff a0 m3) (p4+1)))) else (nL N ff)
def jZ (a0:Vw)(ff:Vp->Option Bool):Option Int:=
 dC N ff a0 N 0
theorem ux {N:Nat}{a0:Vw}{r:Int}(h:jZ N a0 ff=some r)(hf:KY VK vf G (fun x=> [.agg #[iV x.Xw,iV x.N,.string x.S]]) (fun r=> .bool r) ff):Okc VK 113 [W A1 n1 c1,vf] (aZ A1 n1 c1 a0::G) (fun u post=>u=iV r/\post=[]):=by
 refine bX Tryz.func113 ?_;refine ak (fun s L=>nL N ff=some r/\s=[(4,iV 0)]/\L=G) ?_ ?_
 ·refine ab ?_;refine lK (fun m s L=> ∃(p4:Int),dC N ff a0 m p4=some r/\s=[(0,W A1 n1 c1),(1,vf),(4,iV 0),(7,iV (a0.length:Int)),(8,iV p4)]/\L=aZ A1 n1 c1 a0::G) N ?_;rintro m3 _ _ ⟨p4,h,rfl,rfl⟩;rw [dC.eq_2] at h;refine ab ?_;refine au ?_;refine gH J h ?_ ?_<;>intro h
  ·refine sY ?_;obtain ⟨x6,a6,a8,b0,h⟩:=aI h;refine ab ?_;obtain ⟨y7,k,h⟩:=aa h;refine gD (EU (a:=x6) [aZ A1 n1 c1 a0] hf k J J) ?_;rintro _ _ ⟨rfl,rfl⟩;refine dU h ?_ ?_<;>intro h
   ·exact eY
   refine ab ?_;obtain ⟨q9,h⟩:=ac h;exact lY
  exact jY
 rintro _ _ ⟨h,rfl,rfl⟩;exact eY
theorem sG {r:Int}: ∀v post,((fun (u:Value) (post:VI)=>u=iV r/\post=[])) v post-> ∀c∈post,mN c:=by
 rintro _ _ ⟨rfl,rfl⟩;exact aQ
def dc (a0:Vw)(ff:Vp->Option Bool):Option Bool:=
 (jZ N a0 ff).bind fun y2=>some (decide (0<=y2))
theorem rS {N:Nat}{a0:Vw}{r:Bool}(h:dc N a0 ff=some r)(hf:KY VK vf G (fun x=> [.agg #[iV x.Xw,iV x.N,.string x.S]]) (fun r=> .bool r) ff):Okc VK 67 [W A1 n1 c1,vf] (aZ A1 n1 c1 a0::G) (fun u post=>u=.bool r/\post=[]):=by
 refine bX Tryz.func67 ?_;obtain ⟨y2,k,h⟩:=aa h;refine BJ (kR (ux k hf) J (t0 (jQ (i:=0) J J) (CQ (E:=[aZ A1 n1 c1 a0]) hf.1)) sG) ?_;exact eN
def i7 (N:Nat)(p3:VF):Option VF:=
 some p3
def mV (a1:Int):Option VF:=
 bif decide (a1<0) then none else (aD (in64 (0 - 0)) (aD (in64 (a1 - (0 - 0))) (bif decide (0<a1 - (0 - 0)) then (aD ((0:Int)<(a1 - (0 - 0))/\(a1 - (0 - 0))<=1099511627776) (i7 N ([]:List Vd))) else (i7 N []))))
theorem wV {N:Nat}{a1:Int}{r:VF}(h:mV N a1=some r):Okc VK 116 [W none 0 0,iV a1] ([]) (fun u post=> ∃A0 n0 c0,u=W A0 n0 c0/\post=[cN A0 n0 c0 r]):=by
 refine bX Tryz.func116 ?_;refine sZ ?_;refine gH J h ?_ ?_<;>intro h
 ·exact az h
 refine ab ?_;refine ak (fun s L=> ∃p3 A3 n3 c3,i7 N p3=some r/\s=[(0,W A3 n3 c3),(4,W none 0 0)]/\L=[cN A3 n3 c3 p3]) ?_ ?_
 ·refine ab ?_;refine dK (zh J UW) ?_;refine gE (pT J UW) ?_;obtain ⟨q4,h⟩:=ac h;refine ab ?_;obtain ⟨q5,h⟩:=ac h;refine dU h ?_ ?_<;>intro h
  ·refine ab ?_;refine gE (zh J UW) ?_;refine dK (CZ J UW size45.out J) ?_;obtain ⟨q7,h⟩:=ac h
   refine rP (Al J J UW z9 Is J q7.1 q7.2) fun A8 n8 c8=> ?_
   refine gE (pT J UW) ?_
   refine rP (HF (R:=ei) 0 J J UW size45.out J J) fun A9 n9 c9=> ?_
   exact jN
  refine ab ?_;exact ⟨_,_,⟨[],none,0,0,h,J,J⟩,sA,(bq ei 45 _).trans (cS [0] 1)⟩
 rintro _ _ ⟨p3,A3,n3,c3,h,rfl,rfl⟩;exact eY
def lu (N:Nat)(a6:VF):Option VF:=
 some a6
def mj (a0_0 a0_1:VF):Option VF:=
 (mV N ((0+(a0_0.length:Int))+(a0_1.length:Int))).bind fun y9=>aD (bY (y9.length+a0_0.length)) (aD (bY ((y9++a0_0).length+a0_1.length)) (lu N ((y9++a0_0)++a0_1)))
def jB (a0_0 a0_1:VF):Option VF:=
 aD (in64 (0+(a0_0.length:Int))) (bif decide (0+(a0_0.length:Int)<0) then none else (aD (in64 ((0+(a0_0.length:Int))+(a0_1.length:Int))) (bif decide ((0+(a0_0.length:Int))+(a0_1.length:Int)<0) then none else (mj N a0_0 a0_1))))
theorem wW {N:Nat}{a0_0 a0_1 r:VF}(h:jB N a0_0 a0_1=some r):Okc VK 71 [.slice (some ⟨B1,0,none⟩) 2 2] ([aC B1 123 [W A2 n2 c2,W A3 n3 c3],bB A2 n2 c2 a0_0,bB A3 n3 c3 a0_1]) (fun u post=> ∃A0 n0 c0,u=W A0 n0 c0/\post=[cN A0 n0 c0 r]):=by
 refine bX Tryz.func71 ?_;refine ak (fun s L=>mj N a0_0 a0_1=some r/\s=[(0,.slice (some ⟨B1,0,none⟩) 2 2),(2,W none 0 0),(3,iV ((0+(a0_0.length:Int))+(a0_1.length:Int)))]/\L=[bB A2 n2 c2 a0_0,bB A3 n3 c3 a0_1,aC B1 123 [W A2 n2 c2,W A3 n3 c3]]) ?_ ?_
 ·refine ab ?_;refine dK (pT J UY) ?_;refine uw 3 ?_;refine vm ?_;refine ab ?_;refine au ?_;refine cz J ?_;refine sY ?_;refine dK (oY J J UY size123.out (by decide) (by decide)) ?_;obtain ⟨q5,h⟩:=ac h;refine dU h ?_ ?_<;>intro h
  ·exact az h
  refine ab ?_;refine dK (fU J J (by decide) (by decide)) ?_;refine vm ?_;refine ab ?_;refine au ?_;refine cz J ?_;refine sY ?_;refine dK (oY J J UY size123.out (by decide) (by decide)) ?_;obtain ⟨q7,h⟩:=ac h;refine dU h ?_ ?_<;>intro h
  ·exact az h
  refine ab ?_;refine dK (fU J J (by decide) (by decide)) ?_;refine vm ?_;refine ab ?_;refine au ?_;refine cP J ?_;exact jY
 rintro _ _ ⟨h,rfl,rfl⟩
 refine Uf h (fun _ k=>wV k) fun y9 b9 c8 c9 h=> ?_
 refine ak (fun s L=> ∃a6 a8 b0 b5,lu N a6=some r/\s=[(2,W none 0 0),(6,W a8 b0 b5)]/\L=[cN a8 b0 b5 a6]) ?_ ?_
 ·refine ab ?_;refine dK (pT J UY) ?_;refine uw 3 ?_;refine vm ?_;refine ab ?_;refine au ?_;refine cz J ?_;refine sY ?_;refine dK (oY J J UY size123.out (by decide) (by decide)) ?_;obtain ⟨b6,h⟩:=ac h
  refine rP (aP 0 1 J J bU J J UW Is J J b6) fun d0 d1 d2=> ?_
  refine dK (fU J J (by decide) (by decide)) ?_;refine vm ?_;refine ab ?_;refine au ?_;refine cz J ?_;refine sY ?_;refine dK (oY J J UY size123.out (by decide) (by decide)) ?_;obtain ⟨b7,h⟩:=ac h
  refine rP (aP 0 2 J J bU J J UW Is J J b7) fun d3 d4 d6=> ?_
  refine dK (fU J J (by decide) (by decide)) ?_;refine vm ?_;refine ab ?_;refine au ?_;refine cP J ?_;exact jY
 rintro _ _ ⟨a6,a8,b0,b5,h,rfl,rfl⟩;exact eY
def jM (a0:Vd):Option Vx:=
 (iz N a0).bind fun y4=>(mg N a0).bind fun y6=>aD (bY (y4.length+y6.length)) (some (y4++y6))
theorem tS {N:Nat}{r:Vx}(h:jM N a0=some r):Okc VK 204 [.agg #[iV a0.Xw,iV a0.XD,iV a0.XB,iV a0.XC,W A1 n1 c1,W A2 n2 c2]] ([aZ A1 n1 c1 a0.Xy,aZ A2 n2 c2 a0.Xx]) (fun u post=> ∃A0 n0 c0,u=W A0 n0 c0/\post=[fm A0 n0 c0 r]):=by
 refine bX Tryz.func204 ?_;intro B3;refine ab ?_;refine dY [0,2] ?_;obtain ⟨y4,k,h⟩:=aa h
 refine yD 1 J (oR (mh k)) fun A5 n5 c5=> ?_
 obtain ⟨y6,k,h⟩:=aa h
 refine yD 3 J (oR (uq k)) fun A7 n7 c7=> ?_
 obtain ⟨q8,h⟩:=ac h
 refine yD 4 J (aP 1 0 J J aj J J UV It J J q8) fun A9 n9 c9=> ?_
 refine zX [5] ?_;exact eY
def qy (a0:Int)(a1:Ve):Option Bool:=
 (jH N a1 a0).bind fun y4=>some (!y4)
theorem Bt {N:Nat}{a0:Int}{a1:Ve}{r:Bool}(h:qy N a0 a1=some r):Okc VK 228 [iV a0,pV B1 0] ([aC B1 125 [W A2 n2 c2,W A3 n3 c3],bB A2 n2 c2 a1.XA,bB A3 n3 c3 a1.Xz]) (fun u post=>u=.bool r/\post=[]):=by
 refine bX Tryz.func228 ?_
 refine cR h (fun _ k=>lB k) fun y4 h=> ?_
 exact eN
def xX (N:Nat):Option Bool:=
 some true
def pG (N:Nat)(y6:VF)(a0:Ve):Nat->Int->Option Bool
 |0,_=>none
 |m8+1,p9=>bif decide (p9<(y6.length:Int)) then ((ao y6 p9).bind fun a6=>(fa N a6).bind fun a8=>(bif !a8 then (some true) else ((jM N a6).bind fun b0=>(bD N b0 (fun x=>qy N x a0)).bind fun b5=>some b5)).bind fun b16=>bif b16 then (some false) else (aD (in64 (p9+1)) ((pG N y6 a0 m8) (p9+1)))) else (xX N)
def qQ (a0:Ve):Option Bool:=
 (jB N a0.XA a0.Xz).bind fun y6=>pG N y6 a0 N 0
theorem E8 {N:Nat}{a0:Ve}{r:Bool}(h:qQ N a0=some r):Okc VK 203 [.agg #[W A1 n1 c1,W A2 n2 c2]] ([bB A1 n1 c1 a0.XA,bB A2 n2 c2 a0.Xz]) (fun u post=>u=.bool r/\post=[]):=by
 refine bX Tryz.func203 ?_;intro B3;refine ab ?_;refine ak (fun s L=>xX N=some r/\s=[(2,.bool false)]/\L=[]) ?_ ?_
 ·refine ab ?_
  refine gB (iW (cs:=[W A1 n1 c1,W A2 n2 c2]) J (G9 _ _ _ _ _ _)) fun B5=> ?_
  obtain ⟨y6,k,h⟩:=aa h;refine rO (jt 0 J) ?_
  refine rP (oC (wW k)) fun A7 n7 c7=> ?_
  refine lK (fun m s L=> ∃(p9:Int),pG N y6 a0 m p9=some r/\s=[(1,pV B3 0),(2,.bool false),(10,W A7 n7 c7),(11,iV (y6.length:Int)),(12,iV p9)]/\L=[cN A7 n7 c7 y6,bB A1 n1 c1 a0.XA,bB A2 n2 c2 a0.Xz,ae B3 125 [W A1 n1 c1,W A2 n2 c2]]) N ?_;rintro m8 _ _ ⟨p9,h,rfl,rfl⟩;rw [pG.eq_2] at h;refine ab ?_;refine au ?_;refine gH J h ?_ ?_<;>intro h
  ·refine sY ?_;obtain ⟨a6,b5,b6,a8,h⟩:=aI h;refine ab ?_;refine gD (NV 0 J aj J a8 agg45.out J (ke a6)) ?_;rintro u _ ⟨_,_,⟨b7,b9,c0,c8,c9,d0,rfl,rfl⟩,hu,rfl⟩;obtain rfl:u=.agg #[iV a6.Xw,iV a6.XD,iV a6.XB,iV a6.XC,W b7 b9 c0,W c8 c9 d0]:=hu
   refine dD fun d1=> ?_
   refine cR h (fun _ k=>kj k) fun d2 h=> ?_
   refine BK 5 24 19 h (fun _ b0 h=> ?_) fun b16 h=> ?_
   ·refine ab ?_;obtain ⟨d3,k,h⟩:=aa h;refine Hj (oR (tS k)) J (km b0 J) J ?_;rintro _ _ ⟨_,⟨d4,d6,e0,rfl,rfl⟩,rfl⟩;refine ie (ey J) J (km b0 J) J ?_;obtain ⟨e1,k,h⟩:=aa h;refine gU (oR (eM k ⟨t0 J (t0 J (t0 J aQ)),228, #[], #[pV B3 0],J,call228.out,fun _ _ hh=>Bt hh⟩)) (km b0 J) ?_;exact gY
   refine dU h ?_ ?_<;>intro h
   ·exact eY
   refine ab ?_;obtain ⟨e2,h⟩:=ac h;exact lY
  exact jY
 rintro _ _ ⟨h,rfl,rfl⟩;exact eY
def fW (N:Nat)(a0:Int):Option Bool:=
 (bif decide (0<a0) then (some (decide (a0.tmod 2=1))) else (some false)).bind fun b1=>some b1
theorem ne {N:Nat}{a0:Int}{r:Bool}(h:fW N a0=some r):Okc VK 162 [iV a0] ([]) (fun u post=>u=.bool r/\post=[]):=by
 refine bX Tryz.func162 ?_
 refine qi 4 9 5 h (fun _ g1 h=> ?_) fun b1 h=> ?_
 ·refine ab ?_;refine ie (oX J J (by decide)) J (ew g1 J) J ?_;exact gY
 exact eY
theorem CL {r:Bool}: ∀v post,((fun (u:Value) (post:VI)=>u=.bool r/\post=[])) v post-> ∀c∈post,mN c:=by
 rintro _ _ ⟨rfl,rfl⟩;exact aQ
def zT (N:Nat):Option Bool:=
 some true
def qS (N:Nat)(a0:Ve)(a2:Vx):Nat->Int->Option Bool
 |0,_=>none
 |a8+1,a6=>bif decide (a6<(a0.Xz.length:Int)) then ((ao a0.Xz a6).bind fun b0=>(jM N b0).bind fun b5=>(bD N b5 (fun x=>fW N x)).bind fun b6=>(bif b6 then (aD (in64 (2*a6)) (aD (in64 ((2*a6)+2)) ((dN N a2 ((2*a6)+2)).bind fun b7=>some (!b7)))) else (some false)).bind fun b9=>bif b9 then (some false) else (aD (in64 (a6+1)) ((qS N a0 a2 a8) (a6+1)))) else (zT N)
def mc (a2:Vx)(a0:Ve):Option Bool:=
 qS N a0 a2 N 0
def oo (N:Nat)(a2:Vx)(a0:Ve):Nat->Int->Option Bool
 |0,_=>none
 |b0+1,a6=>bif decide (a6<(a2.length:Int)) then ((ao a2 a6).bind fun a8=>(fW N a8).bind fun b5=>(bif b5 then (some true) else ((jH N a0 a8).bind fun b6=>some (!b6))).bind fun b16=>(bif b16 then (some true) else ((bif decide (0<a6) then (aD (in64 (a6 - 1)) ((ao a2 (a6 - 1)).bind fun b7=>some (decide (a8<=b7)))) else (some false)).bind fun b9=>some b9)).bind fun c0=>bif c0 then (some false) else (aD (in64 (a6+1)) ((oo N a2 a0 b0) (a6+1)))) else (mc N a2 a0)
def rA (a0:Ve)(a1:Vw)(a2:Vx):Option Bool:=
 (dc N a1 (fun x=>pI N x a0)).bind fun y6=>(bif y6 then (some true) else ((qQ N a0).bind fun y8=>some (!y8))).bind fun b7=>bif b7 then (some false) else (oo N a2 a0 N 0)
theorem HM {N:Nat}{a0:Ve}{a1:Vw}{a2:Vx}{r:Bool}(h:rA N a0 a1 a2=some r):Okc VK 154 [.agg #[W A1 n1 c1,W A2 n2 c2],W A3 n3 c3,W A4 n4 c4] ([bB A1 n1 c1 a0.XA,bB A2 n2 c2 a0.Xz,aZ A3 n3 c3 a1,fC A4 n4 c4 a2]) (fun u post=>u=.bool r/\post=[]):=by
 refine bX Tryz.func154 ?_;intro B5;refine ab ?_;refine dK (ey J) ?_;refine sZ ?_;obtain ⟨y6,k,h⟩:=aa h;refine BJ (oR (rS k ⟨t0 J (t0 J (t0 J aQ)),201, #[], #[pV B5 0],J,call201.out,fun _ _ hh=>DO hh⟩)) ?_
 refine BK 4 20 16 h (fun _ g7 h=> ?_) fun b7 h=> ?_
 ·refine cR h (fun _ k=>E8 k) fun y8 h=> ?_
  exact gY
 refine dU h ?_ ?_<;>intro h
 ·exact eY
 refine ab ?_;refine ak (fun s L=>mc N a2 a0=some r/\s=[(2,W A4 n4 c4),(3,pV B5 0),(6,.bool false)]/\L=[fC A4 n4 c4 a2,bB A1 n1 c1 a0.XA,bB A2 n2 c2 a0.Xz,ae B5 125 [W A1 n1 c1,W A2 n2 c2]]) ?_ ?_
 ·refine ab ?_;refine lK (fun m s L=> ∃(a6:Int),oo N a2 a0 m a6=some r/\s=[(2,W A4 n4 c4),(3,pV B5 0),(6,.bool false),(21,W A4 n4 c4),(22,iV (a2.length:Int)),(23,iV a6)]/\L=[fC A4 n4 c4 a2,bB A1 n1 c1 a0.XA,bB A2 n2 c2 a0.Xz,ae B5 125 [W A1 n1 c1,W A2 n2 c2]]) N ?_;rintro e5 _ _ ⟨a6,h,rfl,rfl⟩;rw [oo.eq_2] at h;refine ab ?_;refine au ?_;refine gH J h ?_ ?_<;>intro h
  ·refine sY ?_;obtain ⟨e6,b9,c0,c8,h⟩:=aI h
   refine cR h (fun _ k=>ne k) fun e7 h=> ?_
   refine BK 5 35 30 h (fun _ e8 h=> ?_) fun b16 h=> ?_
   ·refine cR h (fun _ k=>lB k) fun e9 h=> ?_
    exact gY
   refine ab ?_
   refine BK 12 48 36 h (fun _ f1 h=> ?_) fun f2 h=> ?_
   ·refine ab ?_
    refine qi 8 47 39 h (fun _ f3 h=> ?_) fun f4 h=> ?_
    ·refine ab ?_;obtain ⟨f9,h⟩:=ac h;refine ab ?_;obtain ⟨g0,c9,d0,d1,h⟩:=aI h;exact gY
    exact gY
   refine dU h ?_ ?_<;>intro h
   ·exact eY
   refine ab ?_;obtain ⟨g1,h⟩:=ac h;exact lY
  exact jY
 rintro _ _ ⟨h,rfl,rfl⟩;refine ak (fun s L=>zT N=some r/\s=[(6,.bool false)]/\L=[]) ?_ ?_
 ·refine ab ?_;refine lK (fun m s L=> ∃(a8:Int),qS N a0 a2 m a8=some r/\s=[(2,W A4 n4 c4),(6,.bool false),(51,W A2 n2 c2),(52,iV (a0.Xz.length:Int)),(53,iV a8)]/\L=[fC A4 n4 c4 a2,bB A2 n2 c2 a0.Xz]) N ?_;rintro g2 _ _ ⟨a8,h,rfl,rfl⟩;rw [qS.eq_2] at h;refine ab ?_;refine au ?_;refine gH J h ?_ ?_<;>intro h
  ·refine sY ?_;obtain ⟨b5,d2,d3,b0,h⟩:=aI h;refine ab ?_;refine Ch 1 J b0 (ke b5) ?_;rintro _ _ ⟨d4,d6,e0,e1,e2,e3,rfl,rfl⟩;refine H0 (sI (us:=(ga b5 d4 d6 e0 e1 e2 e3)) 0 J J agg45.out J) ?_;intro g3;refine ab ?_;obtain ⟨g4,k,h⟩:=aa h;refine gD (oR (tS k)) ?_;rintro _ _ ⟨_,⟨g5,g6,g8,rfl,rfl⟩,rfl⟩;obtain ⟨g9,k,h⟩:=aa h;refine BJ (oR (eM k ⟨aQ,162, #[], #[],J,call162.out,fun _ _ hh=>ne hh⟩)) ?_
   refine qi 7 68 61 h (fun _ e4 h=> ?_) fun h0 h=> ?_
   ·refine ab ?_;obtain ⟨b6,h⟩:=ac h;refine ie (nr J J b6.1 b6.2) J (ew e4 J) J ?_;obtain ⟨h1,h⟩:=ac h
    refine cR h (fun _ k=>lr k) fun h2 h=> ?_
    exact gY
   refine dU h ?_ ?_<;>intro h
   ·exact eY
   refine ab ?_;obtain ⟨h3,h⟩:=ac h;exact lY
  exact jY
 rintro _ _ ⟨h,rfl,rfl⟩;exact eY
def bV (a0:Vl)(a1:Int):Option Vl:=
 (fW N a1).bind fun y7=>(bif y7 then (some (!((lk a0.Yb a1).getD false))) else (some false)).bind fun b8=>bif b8 then (aD (bY (a0.XN.length+([a1]:List Int).length)) (some (⟨a0.m_,a0.Yc,a0.XN++([a1]:List Int),wI a0.Yb a1 true,a0.XV⟩:Vl))) else (some a0)
theorem jL {N:Nat}{a0:Vl}{a1:Int}{r:Vl}(h:bV N a0 a1=some r):Okc VK 205 [pV B1 0,iV a1] ([bB A2 n2 c2 a0.m_.XA,bB A3 n3 c3 a0.m_.Xz,fC A4 n4 c4 a0.Yc,ae B1 223 [W A2 n2 c2,W A3 n3 c3,W A4 n4 c4,W A5 n5 c5,.map (some M6),iV a0.XV],fm A5 n5 c5 a0.XN,ax cj ft M6 a0.Yb]) (fun u post=> ∃A0 n0 c0 A1 n1 c1 A2 n2 c2 A3 n3 c3 M4,u=.tuple #[]/\post=[ae B1 223 [W A0 n0 c0,W A1 n1 c1,W A2 n2 c2,W A3 n3 c3,.map (some M4),iV r.XV],bB A0 n0 c0 r.m_.XA,bB A1 n1 c1 r.m_.Xz,fC A2 n2 c2 r.Yc,fm A3 n3 c3 r.XN,ax cj ft M4 r.Yb]):=by
 refine bX Tryz.func205 ?_
 refine cR h (fun _ k=>ne k) fun y7 h=> ?_
 refine qi 8 14 6 h (fun _ g8 h=> ?_) fun b8 h=> ?_
 ·refine ab ?_;refine sj (EF (a:=a1) (z:=false) 5 J wp J J U3 (dX z9) zero4.out) J (ew g8 J) J ?_;exact gY
 refine dU h ?_ ?_<;>intro h
 ·refine ab ?_;refine Gc (iv (a:=a1) (b:=true) 5 J J J J U3 (dX z9)) ?_;refine gD (aL (R:=(jI .i64)) (vss:=[[iV a1]]) (xs:=[a1]) J (nv _) J J (fun _ _ hr=> .cons J All2.nil)) ?_;rintro _ _ ⟨a8,b0,b5,rfl,rfl⟩;obtain ⟨a6,h⟩:=ac h
  refine rP (aP 5 0 J J aj J J UV It J J a6) fun b6 b7 b9=> ?_
  exact eN
 exact eY
def bv (a0:Vl)(a1:Int):Option Vd:=
 (fW N a1).bind fun y8=>bif y8 then (aD (in64 (a1.tdiv 2)) ((ao a0.m_.XA (a1.tdiv 2)).bind fun a6=>some a6)) else (aD (in64 (a1.tdiv 2)) (aD (in64 ((a1.tdiv 2) - 1)) ((ao a0.m_.Xz ((a1.tdiv 2) - 1)).bind fun a8=>some a8)))
theorem gu {N:Nat}{a0:Vl}{a1:Int}{r:Vd}(h:bv N a0 a1=some r):Okc VK 161 [pV B1 0,iV a1] ([bB A2 n2 c2 a0.m_.XA,bB A3 n3 c3 a0.m_.Xz,fC A4 n4 c4 a0.Yc,ae B1 223 [W A2 n2 c2,W A3 n3 c3,W A4 n4 c4,W A5 n5 c5,.map (some M6),iV a0.XV],fm A5 n5 c5 a0.XN,ax cj ft M6 a0.Yb]) (fun u post=> ∃b0 b5 b6 b7 b9 c0,u=.agg #[iV r.Xw,iV r.XD,iV r.XB,iV r.XC,W b0 b5 b6,W b7 b9 c0]/\post=[aZ b0 b5 b6 r.Xy,aZ b7 b9 c0 r.Xx,ae B1 223 [W A2 n2 c2,W A3 n3 c3,W A4 n4 c4,W A5 n5 c5,.map (some M6),iV a0.XV],fm A5 n5 c5 a0.XN,ax cj ft M6 a0.Yb]):=by
 refine F6 Tryz.func161 J J ?_;simp only [uj];refine Y ?_
 refine gB (cF zero45.out J) fun B7=> ?_
 refine Y ?_;refine au ?_;refine Y ?_;obtain ⟨y8,k,h⟩:=aa h;refine gV (kR (ne k) J (aQ) CL) ?_;refine Y ?_;refine gH J h ?_ ?_<;>intro h
 ·refine Y ?_;obtain ⟨f1,h⟩:=ac h;refine gE (AB J J (by decide) f1.1 f1.2) ?_;obtain ⟨a6,e4,e5,e6,h⟩:=aI h;refine gR (cK 1 J bU J J UW size45.out e4 e5) ?_;refine Ch 1 J e6 (ke a6) ?_;rintro _ _ ⟨c8,c9,d0,d1,d2,d3,rfl,rfl⟩;refine gR (sI (us:=(ga a6 c8 c9 d0 d1 d2 d3)) 0 J J agg45.out J) ?_;refine gW (ar (us:=(ga a6 c8 c9 d0 d1 d2 d3)) (cs':=(ga a6 c8 c9 d0 d1 d2 d3)) 3 J J J J size45.out J J J) ?_;refine Y ?_;obtain rfl:=jg h;exact ul (rs:=[.cell 4 45]) (vs:=[.agg #[iV a6.Xw,iV a6.XD,iV a6.XB,iV a6.XC,W c8 c9 d0,W d1 d2 d3]]) J (.cons (lz 3 J J agg45.out) .nil) J (cS [1,2,7,8,9] 10) ⟨_,_,_,_,_,_,J,J⟩
 refine Y ?_;obtain ⟨f2,h⟩:=ac h;refine gE (AB J J (by decide) f2.1 f2.2) ?_;obtain ⟨f3,h⟩:=ac h;refine gE (wy J J f3.1 f3.2) ?_;obtain ⟨a8,e7,e8,e9,h⟩:=aI h;refine gR (cK 2 J bU J J UW size45.out e7 e8) ?_;refine Ch 2 J e9 (ke a8) ?_;rintro _ _ ⟨d4,d6,e0,e1,e2,e3,rfl,rfl⟩;refine gR (sI (us:=(ga a8 d4 d6 e0 e1 e2 e3)) 0 J J agg45.out J) ?_;refine gW (ar (us:=(ga a8 d4 d6 e0 e1 e2 e3)) (cs':=(ga a8 d4 d6 e0 e1 e2 e3)) 3 J J J J size45.out J J J) ?_;refine Y ?_;obtain rfl:=jg h;exact ul (rs:=[.cell 4 45]) (vs:=[.agg #[iV a8.Xw,iV a8.XD,iV a8.XB,iV a8.XC,W d4 d6 e0,W e1 e2 e3]]) J (.cons (lz 3 J J agg45.out) .nil) J (cS [1,2,7,8,9] 10) ⟨_,_,_,_,_,_,J,J⟩
end Go.Proofs.YthhiddkljcacaaaGreat