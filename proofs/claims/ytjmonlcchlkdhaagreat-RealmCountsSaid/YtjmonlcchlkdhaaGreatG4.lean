/- Merged texts: part 4. No conditions of their own. -/
import Derived.Test.YtjmonlcchlkdhaaGreatG3
set_option maxHeartbeats 4000000
namespace Go.Proofs.YtjmonlcchlkdhaaGreat
theorem Tj:type_of% Tryz.underlying170:=Tryz.underlying170
theorem Ti:type_of% Tryz.underlying145:=Tryz.underlying145
theorem Th:type_of% Tryz.underlying227:=Tryz.underlying227
variable {A1 A2 A3 A4 A5 A6 A7:Option Addr} {B1 B2 B3 B8 M2 M5 M6 M9 c1 c2 c3 c4 c5 c6 c7 n1 n2 n3 n4 n5 n6 n7:Nat}
open Go.RowKit Asn
set_option maxRecDepth 20000
def qv (N:Nat)(a0:TM)(a1:TO):Option Int:=
 (bF N a1 (fun x=>iC N x a0)).bind fun a2=>bif a2 then (some 50) else (some 0)
def nI (N:Nat)(a2:TO->Int->Option Int)(a1:TN)(a6:Int)(a0:TM)(a7:TO):Option Int:=
 be (in64 (a6+1)) (a2 a7 (a6+1))
def fz (N:Nat)(a1:TN)(a0:TM):Nat->TO->Int->Option Int
 |0,_,_=>none
 |a8+1,a2,a6=>bif decide (a6<(a1.length:Int)) then ((aw a1 a6).bind fun a7=>(bif decide (a7.Ui=7) then (some true) else (some (decide (a7.Ui=9)))).bind fun b0=>bif b0 then (be (bJ (a2.length+([a7.N]:List Int).length)) (nI N (fz N a1 a0 a8) a1 a6 a0 (a2++([a7.N]:List Int)))) else (nI N (fz N a1 a0 a8) a1 a6 a0 a2)) else (qv N a0 a2)
def oQ (N:Nat)(a1:TN)(a0:TM)(p6:TO):Option Int:=
 fz N a1 a0 N p6 0
def qw (N:Nat)(a6:TO->Int->Option Int)(a0:TM)(a2:Int)(a1:TN)(a7:TO):Option Int:=
 be (in64 (a2+1)) (a6 a7 (a2+1))
def lg (N:Nat)(b1:TO->Int->Option Int)(a0:TM)(b2:Int)(a7:TV)(a1:TN):Nat->TO->Int->Option Int
 |0,_,_=>none
 |b4+1,a2,a6=>bif decide (a6<(a7.length:Int)) then ((aw a7 a6).bind fun a8=>(fY N a8).bind fun b5=>bif !b5 then (some 51) else ((f0 N a8).bind fun b0=>be (bJ (a2.length+b0.length)) ((jH N a8).bind fun b3=>be (bJ ((a2++b0).length+b3.length)) (be (in64 (a6+1)) ((lg N b1 a0 b2 a7 a1 b4) ((a2++b0)++b3) (a6+1)))))) else (qw N b1 a0 b2 a1 a2)
def ms (N:Nat)(a0:TM)(a1:TN):Nat->TO->Int->Option Int
 |0,_,_=>none
 |m8+1,p9,a2=>bif decide (a2<(([a0.Uj,a0.Ul]:List TV).length:Int)) then ((aw ([a0.Uj,a0.Ul]:List TV) a2).bind fun a6=>lg N (ms N a0 a1 m8) a0 a2 a6 a1 N p9 0) else (oQ N a1 a0 p9)
def ls (N:Nat)(a0:TM)(a1:TN):Option Int:=
 ms N a0 a1 N [] 0
theorem Dj {N:Nat}{a0:TM}{a1:TN}{r:Int}(h:ls N a0 a1=some r):Okc Ua 123 [.agg #[U A1 n1 c1,U A2 n2 c2],U A3 n3 c3] ([bf A1 n1 c1 a0.Uj,bf A2 n2 c2 a0.Ul,bc A3 n3 c3 a1]) (fun u post=>u=iV r/\post=[]):=by
 refine cA Tryz.func123 ?_;intro B4;refine ac ?_;refine au (fun s L=> ∃p6 A6 n6 c6,oQ N a1 a0 p6=some r/\s=[(1,U A3 n3 c3),(2,pV B4 0),(4,iV 0),(5,U A6 n6 c6)]/\L=[bc A3 n3 c3 a1,eA A6 n6 c6 p6,bf A1 n1 c1 a0.Uj,bf A2 n2 c2 a0.Ul,ab B4 96 [U A1 n1 c1,U A2 n2 c2]]) ?_ ?_
 ·refine ac ?_
  refine nk (az (R:=(Rep.sl eT)) (vss:=[[U A1 n1 c1],[U A2 n2 c2]]) (xs:=[a0.Uj,a0.Ul]) J (Bo _ _ _ _ _ _) J J (fun _ _ hr=> .cons (⟨_,J,hr 1 _ J J⟩) (.cons (⟨_,J,hr 2 _ J J⟩) All2.nil))) fun A7 n7 c7=> ?_
  refine aY (fun m s L=> ∃p9 a6 A9 n9 c9,ms N a0 a1 m p9 a6=some r/\s=[(1,U A3 n3 c3),(2,pV B4 0),(4,iV 0),(5,U A9 n9 c9),(16,U A7 n7 c7),(17,iV (([a0.Uj,a0.Ul]:List TV).length:Int)),(18,iV a6)]/\L=[bc A3 n3 c3 a1,eA A9 n9 c9 p9,eK (Rep.sl eT) 94 (U A7 n7 c7) ([a0.Uj,a0.Ul]:List TV),bf A1 n1 c1 a0.Uj,bf A2 n2 c2 a0.Ul,ab B4 96 [U A1 n1 c1,U A2 n2 c2]]) N _ _ ⟨[],0,none,0,0,h,J,J⟩ sA ((aU (dg .i64) 3 _).trans (cS [5,0,1,3,4,2] 6)) ?_;rintro (_|m8) _ _ ⟨p9,a6,A9,n9,c9,h,rfl,rfl⟩
  ·exact ao h
  rw [ms.eq_2] at h;refine ac ?_;refine aG ?_;refine gH J h ?_ ?_<;>intro h
  ·refine ac ?_;refine au (fun s L=> ∃c0 c8 d0 d1,qw N (ms N a0 a1 m8) a0 a6 a1 c0=some r/\s=[(1,U A3 n3 c3),(2,pV B4 0),(4,iV 0),(5,U c8 d0 d1),(16,U A7 n7 c7),(17,iV (([a0.Uj,a0.Ul]:List TV).length:Int)),(18,iV a6)]/\L=[bc A3 n3 c3 a1,eA c8 d0 d1 c0,eK (Rep.sl eT) 94 (U A7 n7 c7) ([a0.Uj,a0.Ul]:List TV),bf A1 n1 c1 a0.Uj,bf A2 n2 c2 a0.Ul,ab B4 96 [U A1 n1 c1,U A2 n2 c2]]) ?_ ?_
   ·refine ac ?_;obtain ⟨a7,g3,g4,d2,h⟩:=bz h;refine ac ?_
    refine nk (K0 (R':=eT) (ys:=a7) 2 J aB J d2 EC (fun _ _ _ h=>by obtain ⟨u,e,k⟩:=h;exact ⟨u,by rw [e];rfl,k⟩)) fun b0 b1 b2=> ?_
    refine aY (fun m s L=> ∃d3 b3 d4 d6 e2,lg N (ms N a0 a1 m8) a0 a6 a7 a1 m d3 b3=some r/\s=[(1,U A3 n3 c3),(2,pV B4 0),(4,iV 0),(5,U d4 d6 e2),(16,U A7 n7 c7),(17,iV (([a0.Uj,a0.Ul]:List TV).length:Int)),(18,iV a6),(22,U b0 b1 b2),(23,iV (a7.length:Int)),(24,iV b3)]/\L=[bc A3 n3 c3 a1,eA d4 d6 e2 d3,eK (Rep.sl eT) 94 (U A7 n7 c7) ([a0.Uj,a0.Ul]:List TV),bf b0 b1 b2 a7,bf A1 n1 c1 a0.Uj,bf A2 n2 c2 a0.Ul,ab B4 96 [U A1 n1 c1,U A2 n2 c2]]) N _ _ ⟨p9,0,A9,n9,c9,h,J,J⟩ sA (cS [1,2,3,0,4,5,6] 7) ?_;rintro (_|h5) _ _ ⟨d3,b3,d4,d6,e2,h,rfl,rfl⟩
    ·exact ao h
    rw [lg.eq_2] at h;refine ac ?_;refine aG ?_;refine gH J h ?_ ?_<;>intro h
    ·refine sY ?_;obtain ⟨a2,g5,g6,e3,h⟩:=bz h;refine ac ?_;refine uw 3 J e3 (gK a2) ?_;rintro _ _ ⟨b4,b5,b6,b7,b8,b9,rfl,rfl⟩;refine EL (lM (us:=[iV a2.Ui,iV a2.Uw,iV a2.Uv,iV a2.Ux,U b4 b5 b6,U b7 b8 b9]) 0 J J agg42.out J) ?_;intro g7;refine sY ?_;obtain ⟨h6,k,h⟩:=aa h;refine kD (oR (lu k)) ?_;refine gH J h ?_ ?_<;>intro h
     ·exact eY
     refine ac ?_;refine bV I ([ab g7 42 [iV a2.Ui,iV a2.Uw,iV a2.Uv,iV a2.Ux,U b4 b5 b6,U b7 b8 b9],Cb (da (U b0 b1 b2) b3.toNat 6 0) [iV a2.Ui,iV a2.Uw,iV a2.Uv,iV a2.Ux,U b4 b5 b6,U b7 b8 b9],bc b4 b5 b6 a2.Uo,bc b7 b8 b9 a2.Um,bc A3 n3 c3 a1,eK (Rep.sl eT) 94 (U A7 n7 c7) ([a0.Uj,a0.Ul]:List TV),bf b0 b1 b2 a7,bf A1 n1 c1 a0.Uj,bf A2 n2 c2 a0.Ul,ab B4 96 [U A1 n1 c1,U A2 n2 c2]]) (cS [0,1,2,3,4,6,7,8,9,10] 11) ?_;refine zY [0,1,4] ?_;obtain ⟨h7,k,h⟩:=aa h;refine zD 2 J (oR (jI k)) ?_;rintro _ _ ⟨_,⟨h8,h9,i0,rfl,rfl⟩,rfl⟩;refine aA (cS [1,2,3,4,5,7,8,9,10,11] 12) ?_;obtain ⟨g8,h⟩:=ah h;refine zD 3 J (ay 6 0 J J aB J J t5 F5 J J g8) ?_;rintro _ _ ⟨i1,i2,i8,rfl,rfl⟩;refine aA (cS [1,2,3,4,5,7,8,9,10,11] 12) ?_;obtain ⟨j0,k,h⟩:=aa h;refine zD 5 J (oR (oZ k)) ?_;rintro _ _ ⟨_,⟨j1,j2,j3,rfl,rfl⟩,rfl⟩;refine aA (cS [2,3,4,5,6,8,9,10,11,12] 13) ?_;obtain ⟨g9,h⟩:=ah h;refine zD 6 J (ay 7 0 J J aB J J t5 F5 J J g9) ?_;rintro _ _ ⟨j4,j5,j6,rfl,rfl⟩;refine aA (cS [2,3,4,5,6,8,9,10,11,12] 13) ?_;refine zX [7] ?_;refine ac ?_;obtain ⟨j7,h⟩:=ah h;exact lY
    exact jY
   rintro _ _ ⟨c0,c8,d0,d1,h,rfl,rfl⟩;refine ac ?_;obtain ⟨j8,h⟩:=ah h;exact lY
  exact jY
 rintro _ _ ⟨p6,A6,n6,c6,h,rfl,rfl⟩;refine au (fun s L=> ∃e4 e5 e6 e7,qv N a0 e4=some r/\s=[(2,pV B4 0),(4,iV 0),(5,U e5 e6 e7)]/\L=[eA e5 e6 e7 e4,bf A1 n1 c1 a0.Uj,bf A2 n2 c2 a0.Ul,ab B4 96 [U A1 n1 c1,U A2 n2 c2]]) ?_ ?_
 ·refine ac ?_;refine aY (fun m s L=> ∃e8 a8 e9 f1 f2,fz N a1 a0 m e8 a8=some r/\s=[(2,pV B4 0),(4,iV 0),(5,U e9 f1 f2),(40,U A3 n3 c3),(41,iV (a1.length:Int)),(42,iV a8)]/\L=[eA e9 f1 f2 e8,bc A3 n3 c3 a1,bf A1 n1 c1 a0.Uj,bf A2 n2 c2 a0.Ul,ab B4 96 [U A1 n1 c1,U A2 n2 c2]]) N _ _ ⟨p6,0,A6,n6,c6,h,J,J⟩ sA (cS [1,0,2,3,4] 5) ?_;rintro (_|h0) _ _ ⟨e8,a8,e9,f1,f2,h,rfl,rfl⟩
  ·exact ao h
  rw [fz.eq_2] at h;refine ac ?_;refine aG ?_;refine gH J h ?_ ?_<;>intro h
  ·refine ac ?_;refine au (fun s L=> ∃f3 f4 g0 g1,nI N (fz N a1 a0 h0) a1 a8 a0 f3=some r/\s=[(2,pV B4 0),(4,iV 0),(5,U f4 g0 g1),(40,U A3 n3 c3),(41,iV (a1.length:Int)),(42,iV a8)]/\L=[eA f4 g0 g1 f3,bc A3 n3 c3 a1,bf A1 n1 c1 a0.Uj,bf A2 n2 c2 a0.Ul,ab B4 96 [U A1 n1 c1,U A2 n2 c2]]) ?_ ?_
   ·refine ac ?_;obtain ⟨g2,h1,h2,h3,h⟩:=bz h
    refine jg fun j9=> ?_
    refine gS 4 53 49 h ?_;intro k0 h;refine fw h ?_ ?_<;>intro h
    ·refine ac ?_;refine gD (az (R:=(dg .i64)) (vss:=[[iV g2.N]]) (xs:=[g2.N]) J (ll _) J J (fun _ _ hr=> .cons J All2.nil)) ?_;rintro _ _ ⟨k1,k2,k3,rfl,rfl⟩;obtain ⟨h4,h⟩:=ah h
     refine nk (ay 2 0 J J aB J J t5 F5 J J h4) fun k4 k5 k6=> ?_
     exact jN
    exact jY
   rintro _ _ ⟨f3,f4,g0,g1,h,rfl,rfl⟩;refine ac ?_;obtain ⟨k7,h⟩:=ah h;exact lY
  exact jY
 rintro _ _ ⟨e4,e5,e6,e7,h,rfl,rfl⟩;refine sZ ?_;refine gE (ed J) ?_;obtain ⟨k8,k,h⟩:=aa h;refine kD (oR (dz k ⟨hP J (hP J (hP J aD)),163, #[], #[pV B4 0],J,call163.out,fun _ _ hh=>zP hh⟩)) ?_;refine gH J h ?_ ?_<;>intro h
 ·exact eY
 exact eY
def nF (N:Nat)(a0:Ty):Option (Int×Bool):=
 (bif decide (a0.Ui=7) then (some true) else (some (decide (a0.Ui=9)))).bind fun b2=>some (a0.N,b2)
theorem AO {N:Nat}{a0:Ty}{r:Int×Bool}(h:nF N a0=some r):Okc Ua 208 [(gA a0)] ([]) (fun u post=>u=.tuple #[iV r.1,.bool r.2]/\post=[]):=by
 refine cA Tryz.func208 ?_;intro B1;refine ac ?_;refine dY [0,1,2,3,4,5,10] ?_;obtain ⟨b2,a1,h⟩:=aa h;refine nB (fun l=>((((l.setIfInBounds 6 true).setIfInBounds 7 true).setIfInBounds 8 true).setIfInBounds 9 true)) 1 13 b2 (fun rest=> ?_) ?_
 ·clear h;refine pP 9 J (fun g2=> ?_) (fun g2=> ?_)
  ·have h:=aE g2 a1;refine cV 6 J I (nw g2 J) J ?_;refine cV 7 J I (nw g2 J) J ?_;refine cV 8 J I (nw g2 J) J ?_;refine zE 9 J (gM g2 J J) ?_;obtain rfl:=bS h;exact jJ rest (dt J (ai (ai (ai (ai bu J) J) J) J)) (ad _) (ad _)
  have h:=aF g2 a1;refine iO 6 J I (ni J tf) (fN g2 J) J ?_;refine qi 7 J I (bp 0 J J oH J) (fN g2 J) J ?_;refine iO 8 J I (DI J J) (fN g2 J) J ?_;refine zE 9 J (gN g2 J J) ?_;obtain rfl:=bS h;exact jJ rest (dt J (ai (ai (ai (ai bu J) J) J) J)) (ad _) (ad _)
 refine zX [11] ?_;exact eY
def jp (N:Nat)(a2:Int->TO->(List (Int×Unit))->Option Tz)(a1:TO)(p8:Int)(a0:Tz)(p13:TO)(a6:(List (Int×Unit))):Option Tz:=
 be (in64 (p8+1)) (a2 (p8+1) p13 a6)
def df (N:Nat)(a1:TO)(a0:Tz):Nat->Int->TO->(List (Int×Unit))->Option Tz
 |0,_,_,_=>none
 |m7+1,p8,p9,a6=>bif decide (p8<(a1.length:Int)) then ((aw a1 p8).bind fun a2=>(bif !((lk a6 a2).isSome) then ((jq N a0.m_ a2).bind fun a7=>some a7) else (some false)).bind fun a8=>bif a8 then (be (bJ (p9.length+([a2]:List Int).length)) (jp N (df N a1 a0 m7) a1 p8 a0 (p9++([a2]:List Int)) (yy a6 a2 ()))) else (jp N (df N a1 a0 m7) a1 p8 a0 p9 a6)) else (some (⟨a0.m_,p9,a6,a0.Vc⟩:Tz))
def ew (N:Nat)(a0:Tz)(a1:TO):Option Tz:=
 df N a1 a0 N 0 a0.US a0.UM
theorem ue {N:Nat}{a0:Tz}{a1:TO}{r:Tz}(h:ew N a0 a1=some r):Okc Ua 209 [pV B1 0,U A6 n6 c6] ([bf A2 n2 c2 a0.m_.Uj,bf A3 n3 c3 a0.m_.Ul,db A6 n6 c6 a1,ab B1 229 [U A2 n2 c2,U A3 n3 c3,U A4 n4 c4,.map (some M5),iV a0.Vc],eA A4 n4 c4 a0.US,am bj BL M5 a0.UM]) (fun u post=> ∃A0 n0 c0 A1 n1 c1 A2 n2 c2 M3,u=.tuple #[]/\post=[ab B1 229 [U A0 n0 c0,U A1 n1 c1,U A2 n2 c2,.map (some M3),iV r.Vc],bf A0 n0 c0 r.m_.Uj,bf A1 n1 c1 r.m_.Ul,eA A2 n2 c2 r.US,am bj BL M3 r.UM]):=by
 refine cA Tryz.func209 ?_;refine aY (fun m s L=> ∃p8 p9 a8 A9 n9 c9,df N a1 a0 m p8 p9 a8=some r/\s=[(0,pV B1 0),(8,U A6 n6 c6),(9,iV (a1.length:Int)),(10,iV p8)]/\L=[db A6 n6 c6 a1,bf A2 n2 c2 a0.m_.Uj,bf A3 n3 c3 a0.m_.Ul,eA A9 n9 c9 p9,am bj BL M5 a8,ab B1 229 [U A2 n2 c2,U A3 n3 c3,U A9 n9 c9,.map (some M5),iV a0.Vc]]) N _ _ ⟨0,a0.US,a0.UM,A4,n4,c4,h,J,J⟩ sA (cS [2,0,1,4,5,3] 6) ?_;rintro (_|m7) _ _ ⟨p8,p9,a8,A9,n9,c9,h,rfl,rfl⟩
 ·exact ao h
 rw [df.eq_2] at h;refine ac ?_;refine aG ?_;refine gH J h ?_ ?_<;>intro h
 ·refine ac ?_;refine au (fun s L=> ∃p13 b0 b1 b2 b3,jp N (df N a1 a0 m7) a1 p8 a0 p13 b0=some r/\s=[(0,pV B1 0),(8,U A6 n6 c6),(9,iV (a1.length:Int)),(10,iV p8)]/\L=[db A6 n6 c6 a1,bf A2 n2 c2 a0.m_.Uj,bf A3 n3 c3 a0.m_.Ul,eA b1 b2 b3 p13,am bj BL M5 b0,ab B1 229 [U A2 n2 c2,U A3 n3 c3,U b1 b2 b3,.map (some M5),iV a0.Vc]]) ?_ ?_
  ·refine ac ?_;obtain ⟨a6,b4,b5,b6,h⟩:=bz h;refine ac ?_;refine EL (rR (a:=a6) (z:=()) 4 J uR J J Th (ei hU) zero253.out) ?_;intro b9;refine ac ?_;obtain ⟨b7,a2,h⟩:=aa h;refine aR 7 32 b7 ?_ ?_
   ·clear h;refine aP 25 J (fun a7=> ?_) (fun a7=> ?_)
    ·have h:=aE a7 a2;refine ac ?_;obtain ⟨c8,k,h⟩:=aa h;refine gU (oR (kO k)) (cB a7 J) ?_;exact gY
    have h:=aF a7 a2;exact gY
   refine fw h ?_ ?_<;>intro h
   ·refine ac ?_;refine HZ (ii (a:=a6) (b:=()) 5 J J J J Th (ei hU)) ?_;refine gD (az (R:=(dg .i64)) (vss:=[[iV a6]]) (xs:=[a6]) J (ll _) J J (fun _ _ hr=> .cons J All2.nil)) ?_;rintro _ _ ⟨d0,d1,d2,rfl,rfl⟩;obtain ⟨b8,h⟩:=ah h
    refine nk (ay 5 0 J J aB J J t5 F5 J J b8) fun d3 d4 d6=> ?_
    exact jN
   exact jY
  rintro _ _ ⟨p13,b0,b1,b2,b3,h,rfl,rfl⟩;refine ac ?_;obtain ⟨e2,h⟩:=ah h;exact lY
 exact eY
theorem yG {N:Nat}{f8:Value}{K:Nat}{a0:Tz}{a1:TO}{r:Tz}(h:ew N a0 a1=some r):Okc Ua 209 [pV B1 0,U A6 n6 c6] ([bf A2 n2 c2 a0.m_.Uj,bf A3 n3 c3 a0.m_.Ul,db A6 n6 c6 a1,ab B1 229 [U A2 n2 c2,U A3 n3 c3,U A4 n4 c4,.map (some M5),iV a0.Vc],mx (dg .i64) 3 (U A4 n4 c4) a0.US f8 K,am bj BL M5 a0.UM]) (fun u post=> ∃A0 n0 c0 A1 n1 c1 A2 n2 c2 M3,u=.tuple #[]/\post=[ab B1 229 [U A0 n0 c0,U A1 n1 c1,U A2 n2 c2,.map (some M3),iV r.Vc],bf A0 n0 c0 r.m_.Uj,bf A1 n1 c1 r.m_.Ul,mx (dg .i64) 3 (U A2 n2 c2) r.US f8 K,am bj BL M3 r.UM]):=by
 refine cA Tryz.func209 ?_;refine aY (fun m s L=> ∃p8 p9 a8 A9 n9 c9,df N a1 a0 m p8 p9 a8=some r/\s=[(0,pV B1 0),(8,U A6 n6 c6),(9,iV (a1.length:Int)),(10,iV p8)]/\L=[db A6 n6 c6 a1,bf A2 n2 c2 a0.m_.Uj,bf A3 n3 c3 a0.m_.Ul,mx (dg .i64) 3 (U A9 n9 c9) p9 f8 K,am bj BL M5 a8,ab B1 229 [U A2 n2 c2,U A3 n3 c3,U A9 n9 c9,.map (some M5),iV a0.Vc]]) N _ _ ⟨0,a0.US,a0.UM,A4,n4,c4,h,J,J⟩ sA (cS [2,0,1,4,5,3] 6) ?_;rintro (_|m7) _ _ ⟨p8,p9,a8,A9,n9,c9,h,rfl,rfl⟩
 ·exact ao h
 rw [df.eq_2] at h;refine ac ?_;refine aG ?_;refine gH J h ?_ ?_<;>intro h
 ·refine ac ?_;refine au (fun s L=> ∃p13 b0 b1 b2 b3,jp N (df N a1 a0 m7) a1 p8 a0 p13 b0=some r/\s=[(0,pV B1 0),(8,U A6 n6 c6),(9,iV (a1.length:Int)),(10,iV p8)]/\L=[db A6 n6 c6 a1,bf A2 n2 c2 a0.m_.Uj,bf A3 n3 c3 a0.m_.Ul,mx (dg .i64) 3 (U b1 b2 b3) p13 f8 K,am bj BL M5 b0,ab B1 229 [U A2 n2 c2,U A3 n3 c3,U b1 b2 b3,.map (some M5),iV a0.Vc]]) ?_ ?_
  ·refine ac ?_;obtain ⟨a6,b4,b5,b6,h⟩:=bz h;refine ac ?_;refine EL (rR (a:=a6) (z:=()) 4 J uR J J Th (ei hU) zero253.out) ?_;intro b9;refine ac ?_;obtain ⟨b7,a2,h⟩:=aa h;refine aR 7 32 b7 ?_ ?_
   ·clear h;refine aP 25 J (fun a7=> ?_) (fun a7=> ?_)
    ·have h:=aE a7 a2;refine ac ?_;obtain ⟨c8,k,h⟩:=aa h;refine gU (oR (kO k)) (cB a7 J) ?_;exact gY
    have h:=aF a7 a2;exact gY
   refine fw h ?_ ?_<;>intro h
   ·refine ac ?_;refine HZ (ii (a:=a6) (b:=()) 5 J J J J Th (ei hU)) ?_;refine gD (az (R:=(dg .i64)) (vss:=[[iV a6]]) (xs:=[a6]) J (ll _) J J (fun _ _ hr=> .cons J All2.nil)) ?_;rintro _ _ ⟨d0,d1,d2,rfl,rfl⟩;obtain ⟨b8,h⟩:=ah h
    refine nk (HL 5 0 J J aB J J t5 F5 J J b8) fun d3 d4 d6=> ?_
    exact jN
   exact jY
  rintro _ _ ⟨p13,b0,b1,b2,b3,h,rfl,rfl⟩;refine ac ?_;obtain ⟨e2,h⟩:=ah h;exact lY
 exact eY
def pi (N:Nat)(a0:Ty)(a1:Tz):Option Tz:=
 (nF N a0).bind fun y8=>bif y8.2 then ((ew N a1 ([y8.1]:List Int)).bind fun a2=>some a2) else (some a1)
theorem zt {N:Nat}{a0:Ty}{a1:Tz}{r:Tz}(h:pi N a0 a1=some r):Okc Ua 207 [(gA a0),pV B1 0] ([bf A3 n3 c3 a1.m_.Uj,bf A4 n4 c4 a1.m_.Ul,ab B1 225 [pV B2 0],ab B2 229 [U A3 n3 c3,U A4 n4 c4,U A5 n5 c5,.map (some M6),iV a1.Vc],eA A5 n5 c5 a1.US,am bj BL M6 a1.UM]) (fun u post=> ∃A0 n0 c0 A1 n1 c1 A2 n2 c2 M3,u=.tuple #[]/\post=[ab B2 229 [U A0 n0 c0,U A1 n1 c1,U A2 n2 c2,.map (some M3),iV r.Vc],bf A0 n0 c0 r.m_.Uj,bf A1 n1 c1 r.m_.Ul,eA A2 n2 c2 r.US,am bj BL M3 r.UM,ab B1 225 [pV B2 0]]):=by
 refine cA Tryz.func207 ?_;intro B7;refine ac ?_;obtain ⟨y8,k,h⟩:=aa h;refine kD (oR (AO k)) ?_;refine gH J h ?_ ?_<;>intro h
 ·refine ac ?_;refine gD (az (R:=(dg .i64)) (vss:=[[iV y8.1]]) (xs:=[y8.1]) J (ll _) J J (fun _ _ hr=> .cons J All2.nil)) ?_;rintro _ _ ⟨a2,a6,a7,rfl,rfl⟩;refine nX (bv 0 J) ?_;obtain ⟨a8,k,h⟩:=aa h;refine gD (oC (ue k)) ?_;rintro _ _ ⟨_,⟨b0,b1,b2,b3,b4,b5,b6,b7,b8,b9,rfl,rfl⟩,rfl⟩;exact eY
 exact eY
def kP (N:Nat)(a0:TM)(a1:Int):Option TB:=
 (np N a0 a1).bind fun y5=>bif !y5.2.2 then (some (⟨0,0,0,0,[],[]⟩:TB)) else ((aw y5.1 y5.2.1).bind fun a2=>(eG N a2).bind fun a6=>some a6)
theorem wy {N:Nat}{a0:TM}{a1:Int}{r:TB}(h:kP N a0 a1=some r):Okc Ua 126 [.agg #[U A1 n1 c1,U A2 n2 c2],iV a1] ([bf A1 n1 c1 a0.Uj,bf A2 n2 c2 a0.Ul]) (fun u post=> ∃A0 n0 c0 A1 n1 c1,u=.agg #[iV r.Ui,iV r.Uw,iV r.Uv,iV r.Ux,U A0 n0 c0,U A1 n1 c1]/\post=[aC A0 n0 c0 r.Uo,aC A1 n1 c1 r.Um]):=by
 refine cA Tryz.func126 ?_;intro B3
 refine jg fun B4=> ?_
 obtain ⟨y5,k,h⟩:=aa h
 refine nk (oC (wx k)) fun A6 n6 c6=> ?_
 refine sZ ?_;refine gH J h ?_ ?_<;>intro h
 ·refine ac ?_;obtain rfl:=bS h;exact fR (rs:=[.cell 4 42]) (vs:=[.agg #[iV 0,iV 0,iV 0,iV 0,U none 0 0,U none 0 0]]) J (.cons (bo 1 J J agg42.out) .nil) J ((aU ap 23 _).trans ((aU ap 23 _).trans (cS [1,0] 7))) ⟨_,_,_,_,_,_,J,J⟩
 refine ac ?_;obtain ⟨a2,a7,a8,a6,h⟩:=bz h;refine ac ?_;refine uw 0 J a6 (gK a2) ?_;rintro _ _ ⟨b0,b1,b2,b3,b4,b5,rfl,rfl⟩;refine gR (lM (us:=[iV a2.Ui,iV a2.Uw,iV a2.Uv,iV a2.Ux,U b0 b1 b2,U b3 b4 b5]) 0 J J agg42.out J) ?_;obtain ⟨b6,k,h⟩:=aa h
 refine FN (oR (jA k)) fun b7 b8 b9 c8 c9 d0=> ?_
 exact eN
def gh (N:Nat):Nat->TV->TV->TO->(List (Int×Unit))->Int->Option Tz
 |0,_,_,_,_,_=>none
 |m6+1,p7,p8,p9,a6,a2=>bif decide (a2<(p9.length:Int)) then ((aw p9 a2).bind fun a7=>(kP N (⟨p7,p8⟩:TM) a7).bind fun a8=>(f0 N a8).bind fun b0=>(ew N (⟨(⟨p7,p8⟩:TM),p9,a6,a2⟩:Tz) b0).bind fun a1=>be (in64 (a1.Vc+1)) ((gh N m6) a1.m_.Uj a1.m_.Ul a1.US a1.UM (a1.Vc+1))) else (some (⟨(⟨p7,p8⟩:TM),p9,a6,a2⟩:Tz))
def gT (N:Nat)(a0:Tz):Option Tz:=
 gh N N a0.m_.Uj a0.m_.Ul a0.US a0.UM a0.Vc
theorem pW {N:Nat}{a0:Tz}{r:Tz}(h:gT N a0=some r):Okc Ua 191 [pV B1 0] ([bf A2 n2 c2 a0.m_.Uj,bf A3 n3 c3 a0.m_.Ul,ab B1 229 [U A2 n2 c2,U A3 n3 c3,U A4 n4 c4,.map (some M5),iV a0.Vc],eA A4 n4 c4 a0.US,am bj BL M5 a0.UM]) (fun u post=> ∃A0 n0 c0 A1 n1 c1 A2 n2 c2 M3,u=.tuple #[]/\post=[ab B1 229 [U A0 n0 c0,U A1 n1 c1,U A2 n2 c2,.map (some M3),iV r.Vc],bf A0 n0 c0 r.m_.Uj,bf A1 n1 c1 r.m_.Ul,eA A2 n2 c2 r.US,am bj BL M3 r.UM]):=by
 refine cA Tryz.func191 ?_;refine aY (fun m s L=> ∃p7 p8 p9 a6 a1 A7 n7 c7 A8 n8 c8 A9 n9 c9 a2,gh N m p7 p8 p9 a6 a1=some r/\s=[(0,pV B1 0)]/\L=[bf A7 n7 c7 p7,bf A8 n8 c8 p8,eA A9 n9 c9 p9,am bj BL a2 a6,ab B1 229 [U A7 n7 c7,U A8 n8 c8,U A9 n9 c9,.map (some a2),iV a1]]) N _ _ ⟨a0.m_.Uj,a0.m_.Ul,a0.US,a0.UM,a0.Vc,A2,n2,c2,A3,n3,c3,A4,n4,c4,M5,h,J,J⟩ sA (cS [0,1,3,4,2] 5) ?_;rintro (_|m6) _ _ ⟨p7,p8,p9,a6,a1,A7,n7,c7,A8,n8,c8,A9,n9,c9,a2,h,rfl,rfl⟩
 ·exact ao h
 rw [gh.eq_2] at h;refine aG ?_;refine dY [] ?_;refine fw h ?_ ?_<;>intro h
 ·refine sY ?_;obtain ⟨a7,a8,b0,b1,h⟩:=bz h;refine ie (t:=[(0,pV B1 0)]) ?_ lW (ad _)
  refine iW I 15 [0] [0,4,14] [19,20,21,22,23,24,25,26,27,28,29,30,31,32,33] [[],[],[1],[2],[3],[],[5],[6],[7],[],[9],[10],[11],[8,12],[13]] [aV (pV B1 0),
 aV (pV B1 0),
 aV (pV B1 0),
 aV (pV B1 0),
 aV (.agg #[U A7 n7 c7,U A8 n8 c8]),
 aV (pV B1 0),
 aV (pV B1 0),
 aV (pV B1 2),
 aV (U A9 n9 c9),
 aV (pV B1 0),
 aV (pV B1 0),
 aV (pV B1 4),
 aV (iV a1),
 aV (da (U A9 n9 c9) a1.toNat 1 0),
 aV (iV a7)] [] (ad _) (uM rfl lB) I rfl rfl ?_ ?_ ?_
  ·refine uL J ?_ ?_
   ·exact DX (aX J) J (aQ J (ad _))
   exact lA
  ·refine ae J ?_ ?_
   ·exact dy (gX (u:=iV a7) 2 J aB J b1 oH (fun _ _ _ h=>by rw [show _=_ from h];rfl)) J (aQ J (ad _))
   refine ae J ?_ ?_
   ·exact dy (fA 2 J aB J J t5 size3.out a8 b0) J (aQ J (ad _))
   refine ae J ?_ ?_
   ·exact dy (bp 4 J J oH J) J (aQ J (ad _))
   refine ae J ?_ ?_
   ·exact bU (dj J GT) J (aQ J (ad _))
   refine ae J ?_ ?_
   ·exact bU (bE J) J (aQ J (ad _))
   refine ae J ?_ ?_
   ·exact bU (aX J) J (aQ J (ad _))
   refine ae J ?_ ?_
   ·exact dy (bp 4 J J zH J) J (aQ J (ad _))
   refine ae J ?_ ?_
   ·exact bU (dj J DF) J (aQ J (ad _))
   refine ae J ?_ ?_
   ·exact bU (bE J) J (aQ J (ad _))
   refine ae J ?_ ?_
   ·exact bU (aX J) J (aQ J (ad _))
   refine ae J ?_ ?_
   ·exact dy (cm (us:=[U A7 n7 c7,U A8 n8 c8]) 4 J J agg96.out J) J (aQ J (ad _))
   refine ae J ?_ ?_
   ·exact bU (ni J GU) J (aQ J (ad _))
   refine ae J ?_ ?_
   ·exact bU (bE J) J (aQ J (ad _))
   refine ae J ?_ ?_
   ·exact bU (aX J) J (aQ J (ad _))
   refine ae J ?_ ?_
   ·exact bU (aX J) J (aQ J (ad _))
   exact ee
  refine nD (t:=[(19,pV B1 0),(23,.agg #[U A7 n7 c7,U A8 n8 c8]),(33,iV a7),(0,pV B1 0)]) (L':=[bf A7 n7 c7 p7,bf A8 n8 c8 p8,eA A9 n9 c9 p9,am bj BL a2 a6,ab B1 229 [U A7 n7 c7,U A8 n8 c8,U A9 n9 c9,.map (some a2),iV a1]]) ?_ lW (ad _);obtain ⟨b2,k,h⟩:=aa h;refine pa 15 J I (oR (wy k)) J J J ?_;rintro _ _ ⟨_,⟨b3,b4,b5,b6,b7,b8,rfl,rfl⟩,rfl⟩;obtain ⟨b9,k,h⟩:=aa h;refine pa 16 J I (oR (jI k)) J J J ?_;rintro _ _ ⟨_,⟨d0,d1,d2,rfl,rfl⟩,rfl⟩;refine nD ?_ bu (bv 0 J);obtain ⟨d3,k,h⟩:=aa h;refine pa 17 J I (oC (ue k)) J J J ?_;rintro _ _ ⟨_,⟨d4,d6,e2,e3,e4,e5,e6,e7,e8,e9,rfl,rfl⟩,rfl⟩;refine lD I ?_;refine ac ?_;obtain ⟨f1,h⟩:=ah h;exact lY
 exact eY
def rP (N:Nat)(p9:TV)(a1:TV)(a2:TO)(a6:(List (Int×Unit)))(p13:Int):Option Tz:=
 (gT N (⟨(⟨p9,a1⟩:TM),a2,a6,p13⟩:Tz)).bind fun a7=>some a7
def ja (N:Nat)(a1:TN):Nat->Int->TV->TV->TO->(List (Int×Unit))->Int->Option Tz
 |0,_,_,_,_,_,_=>none
 |b3+1,a6,a7,a8,b0,b1,b2=>bif decide (a6<(a1.length:Int)) then ((aw a1 a6).bind fun b4=>(pi N b4 (⟨(⟨a7,a8⟩:TM),b0,b1,b2⟩:Tz)).bind fun a2=>be (in64 (a6+1)) ((ja N a1 b3) (a6+1) a2.m_.Uj a2.m_.Ul a2.US a2.UM a2.Vc)) else (rP N a7 a8 b0 b1 b2)
def nq (N:Nat)(a0:TM)(a1:TN):Option Tz:=
 ja N a1 N 0 a0.Uj a0.Ul [] ([]:(List (Int×Unit))) 0
theorem CQ {N:Nat}{a0:TM}{a1:TN}{r:Tz}(h:nq N a0 a1=some r):Okc Ua 189 [.agg #[U A1 n1 c1,U A2 n2 c2],U A3 n3 c3] ([bf A1 n1 c1 a0.Uj,bf A2 n2 c2 a0.Ul,bc A3 n3 c3 a1]) (fun u post=> ∃B0 A1 n1 c1 A2 n2 c2 A3 n3 c3 M4,u=pV B0 0/\post=[ab B0 229 [U A1 n1 c1,U A2 n2 c2,U A3 n3 c3,.map (some M4),iV r.Vc],bf A1 n1 c1 r.m_.Uj,bf A2 n2 c2 r.m_.Ul,eA A3 n3 c3 r.US,am bj BL M4 r.UM]):=by
 refine cA Tryz.func189 ?_;intro B4;refine ac ?_;refine gD (rX (ek:=bj) (ev:=BL)) ?_;rintro _ _ ⟨M5,rfl,rfl⟩
 refine jg fun B6=> ?_
 intro B7;refine ac ?_;refine fC (ed J) ?_;refine au (fun s L=> ∃p9 a2 a6 a7 p13 A9 n9 c9 a8 b0 b1 b2 b3 b4 b5,rP N p9 a2 a6 a7 p13=some r/\s=[(4,.pointer none),(5,pV B7 0)]/\L=[ab B7 225 [pV B6 0],bf A9 n9 c9 p9,bf a8 b0 b1 a2,eA b2 b3 b4 a6,am bj BL b5 a7,ab B6 229 [U A9 n9 c9,U a8 b0 b1,U b2 b3 b4,.map (some b5),iV p13]]) ?_ ?_
 ·refine ac ?_;refine aY (fun m s L=> ∃b6 b7 b8 b9 c0 c8 d0 d1 d2 d3 d4 d6 e2 e3 e4 e5,ja N a1 m b6 b7 b8 b9 c0 c8=some r/\s=[(4,.pointer none),(5,pV B7 0),(6,.func (.func 207) #[] #[pV B7 0]),(14,U A3 n3 c3),(15,iV (a1.length:Int)),(16,iV b6)]/\L=[bc A3 n3 c3 a1,ab B7 225 [pV B6 0],bf d0 d1 d2 b7,bf d3 d4 d6 b8,eA e2 e3 e4 b9,am bj BL e5 c0,ab B6 229 [U d0 d1 d2,U d3 d4 d6,U e2 e3 e4,.map (some e5),iV c8]]) N _ _ ⟨0,a0.Uj,a0.Ul,[],([]:(List (Int×Unit))),0,A1,n1,c1,A2,n2,c2,none,0,0,M5,h,J,J⟩ sA ((aU (dg .i64) 3 _).trans (cS [7,1,5,6,0,3,2] 8)) ?_;rintro (_|e9) _ _ ⟨b6,b7,b8,b9,c0,c8,d0,d1,d2,d3,d4,d6,e2,e3,e4,e5,h,rfl,rfl⟩
  ·exact ao h
  rw [ja.eq_2] at h;refine ac ?_;refine aG ?_;refine gH J h ?_ ?_<;>intro h
  ·refine sY ?_;obtain ⟨f1,e6,e7,e8,h⟩:=bz h
   refine jg fun f2=> ?_
   obtain ⟨f3,k,h⟩:=aa h;refine gD (gj (zt k) call207.out J J J (cL [3,4] [2,7,5,6] [0,1,3,4] 8 J)) ?_;rintro _ _ ⟨_,⟨f4,g0,g1,g2,g3,g4,g5,g6,g7,g8,rfl,rfl⟩,rfl⟩;refine ac ?_;obtain ⟨g9,h⟩:=ah h;exact lY
  exact jY
 rintro _ _ ⟨p9,a2,a6,a7,p13,A9,n9,c9,a8,b0,b1,b2,b3,b4,b5,h,rfl,rfl⟩;refine ac ?_;obtain ⟨h0,k,h⟩:=aa h;refine gD (oC (pW k)) ?_;rintro _ _ ⟨_,⟨h1,h2,h3,h4,h5,h6,h7,h8,h9,i0,rfl,rfl⟩,rfl⟩;exact eY
def tO (N:Nat)(a0:TB):Option Bool:=
 (bif decide (a0.Ui=8) then ((fY N a0).bind fun y5=>some y5) else (some false)).bind fun b4=>some b4
theorem Cw {N:Nat}{a0:TB}{r:Bool}(h:tO N a0=some r):Okc Ua 167 [.agg #[iV a0.Ui,iV a0.Uw,iV a0.Uv,iV a0.Ux,U A1 n1 c1,U A2 n2 c2]] ([bc A1 n1 c1 a0.Uo,bc A2 n2 c2 a0.Um]) (fun u post=>u=.bool r/\post=[]):=by
 refine cA Tryz.func167 ?_;intro B3;refine ac ?_;obtain ⟨b4,a1,h⟩:=aa h;refine aR 3 9 b4 ?_ ?_
 ·clear h;refine aP 6 J (fun g4=> ?_) (fun g4=> ?_)
  ·have h:=aE g4 a1;refine ac ?_;obtain ⟨y5,k,h⟩:=aa h;refine gU (oR (lu k)) (cB g4 J) ?_;exact gY
  have h:=aF g4 a1;exact gY
 exact eY
def ey (N:Nat){σ:Type}(fy:(Ty×Ty)->σ->Option (Bool×σ))(a1:TB):Nat->Int->σ->Option σ
 |0,_,_=>none
 |m4+1,p5,p6=>be (in64 (p5+1)) (bif decide (p5+1<(a1.Um.length:Int)) then ((aw a1.Um p5).bind fun x9=>be (in64 (p5+1)) ((aw a1.Um (p5+1)).bind fun a6=>(fy (x9,a6) p6).bind fun a2=>bif !a2.1 then (some a2.2) else (be (in64 (p5+2)) ((ey N fy a1 m4) (p5+2) a2.2)))) else (some p6))
def jd (N:Nat){σ:Type}(a1:TB)(fy:(Ty×Ty)->σ->Option (Bool×σ))(s0:σ):Option σ:=
 ey N fy a1 N 0 s0
theorem rv {N:Nat}{σ:Type}{a1:TB}{fy:(Ty×Ty)->σ->Option (Bool×σ)}{s0:σ}{r:σ}(h:jd N a1 fy s0=some r){l:Nat}{G:σ->List Chunk}(hY:tp Ua l G (fun x=> [.agg #[iV x.1.Ui,iV x.1.N,.string x.1.S],.agg #[iV x.2.Ui,iV x.2.N,.string x.2.S]]) fy):Okc Ua 210 [.func (.yield l) #[] #[],pV B1 0] (ar B1 42 [iV a1.Ui,iV a1.Uw,iV a1.Uv,iV a1.Ux,U A2 n2 c2,U A3 n3 c3]::bc A2 n2 c2 a1.Uo::bc A3 n3 c3 a1.Um::(G s0)) (fun u post=>u=.tuple #[]/\post=G r):=by
 refine cA Tryz.func210 ?_;refine aY (fun m s L=> ∃p5 p6,ey N fy a1 m p5 p6=some r/\s=[(0,.func (.yield l) #[] #[]),(1,pV B1 0),(3,iV p5)]/\L=bc A2 n2 c2 a1.Uo::bc A3 n3 c3 a1.Um::ar B1 42 [iV a1.Ui,iV a1.Uw,iV a1.Uv,iV a1.Ux,U A2 n2 c2,U A3 n3 c3]::(G p6)) N _ _ ⟨0,s0,h,J,J⟩ sA (cS [1,2,0] 3) ?_;rintro (_|m4) _ _ ⟨p5,p6,h,rfl,rfl⟩
 ·exact ao h
 rw [ey.eq_2] at h;refine sZ ?_;obtain ⟨q7,h⟩:=ah h;refine fw h ?_ ?_<;>intro h
 ·refine sY ?_;refine aG ?_;obtain ⟨x9,b1,b2,b3,h⟩:=bz h;obtain ⟨b0,h⟩:=ah h;obtain ⟨a2,a6,a7,a8,h⟩:=bz h;refine ie (t:=[(0,.func (.yield l) #[] #[]),(1,pV B1 0),(3,iV p5)]) ?_ lW (ad _)
  refine iW I 12 [] [0,5,11] [12,13,14,15,16,17,18,19,20,21,22,23] [[],[],[1],[],[2,3],[4],[],[6],[],[8],[7,9],[10]] [aV (.func (.yield l) #[] #[]),
 aV (pV B1 5),
 aV (U A3 n3 c3),
 aV (iV p5),
 aV (da (U A3 n3 c3) p5.toNat 3 0),
 aV (.agg #[iV x9.Ui,iV x9.N,.string x9.S]),
 aV (pV B1 5),
 aV (U A3 n3 c3),
 aV (iV p5),
 aV (iV (p5+1)),
 aV (da (U A3 n3 c3) ((p5+1).toNat) 3 0),
 aV (.agg #[iV a2.Ui,iV a2.N,.string a2.S])] [] (ad _) (lB) I rfl rfl ?_ ?_ ?_
  ·exact lA
  ·refine ae J ?_ ?_
   ·exact dy (pX (us:=[iV a2.Ui,iV a2.N,.string a2.S]) 1 J aM J a8 agg23.out (fun _ _ _ h=>by rw [show _=_ from h];rfl)) J (aQ J (ad _))
   refine ae J ?_ ?_
   ·exact dy (fA 1 J aM J J t0 size23.out a6 a7) J (aQ J (ad _))
   refine ae J ?_ ?_
   ·exact bU (dL J J b0.1 b0.2) J (aQ J (ad _))
   refine ae J ?_ ?_
   ·exact bU (aX J) J (aQ J (ad _))
   refine ae J ?_ ?_
   ·exact dy (rQ 2 J J vz J) J (aQ J (ad _))
   refine ae J ?_ ?_
   ·exact bU (dj J xJ) J (aQ J (ad _))
   refine ae J ?_ ?_
   ·exact dy (pX (us:=[iV x9.Ui,iV x9.N,.string x9.S]) 1 J aM J b3 agg23.out (fun _ _ _ h=>by rw [show _=_ from h];rfl)) J (aQ J (ad _))
   refine ae J ?_ ?_
   ·exact dy (fA 1 J aM J J t0 size23.out b1 b2) J (aQ J (ad _))
   refine ae J ?_ ?_
   ·exact bU (aX J) J (aQ J (ad _))
   refine ae J ?_ ?_
   ·exact dy (rQ 2 J J vz J) J (aQ J (ad _))
   refine ae J ?_ ?_
   ·exact bU (dj J xJ) J (aQ J (ad _))
   refine ae J ?_ ?_
   ·exact bU (aX J) J (aQ J (ad _))
   exact ee
  refine nD (t:=[(12,.func (.yield l) #[] #[]),(17,.agg #[iV x9.Ui,iV x9.N,.string x9.S]),(23,.agg #[iV a2.Ui,iV a2.N,.string a2.S]),(0,.func (.yield l) #[] #[]),(1,pV B1 0),(3,iV p5)]) (L':=bc A2 n2 c2 a1.Uo::bc A3 n3 c3 a1.Um::ar B1 42 [iV a1.Ui,iV a1.Uw,iV a1.Uv,iV a1.Ux,U A2 n2 c2,U A3 n3 c3]::(G p6)) ?_ lW (ad _);obtain ⟨b4,k,h⟩:=aa h;refine pa 12 J I (xy (a:=(x9,a2)) [bc A2 n2 c2 a1.Uo,bc A3 n3 c3 a1.Um,ar B1 42 [iV a1.Ui,iV a1.Uw,iV a1.Uv,iV a1.Ux,U A2 n2 c2,U A3 n3 c3]] hY k J J) J J J ?_;rintro _ _ ⟨rfl,rfl⟩;refine zc 13 J I (H1 J) J J J ?_;refine lD I ?_;refine fw h ?_ ?_<;>intro h
  ·exact eY
  refine ac ?_;obtain ⟨b5,h⟩:=ah h;exact lY
 exact eY
def lX (N:Nat)(a0:TB):Option Unit:=
 some ()
theorem vo {N:Nat}{a0:TB}{r:Unit}(h:lX N a0=some r):Okc Ua 192 [.agg #[iV a0.Ui,iV a0.Uw,iV a0.Uv,iV a0.Ux,U A1 n1 c1,U A2 n2 c2]] ([bc A1 n1 c1 a0.Uo,bc A2 n2 c2 a0.Um]) (fun u post=> ∃a1,u=.func (.func 210) #[] #[pV a1 0]/\post=[ab a1 42 [iV a0.Ui,iV a0.Uw,iV a0.Uv,iV a0.Ux,U A1 n1 c1,U A2 n2 c2]]):=by
 refine cA Tryz.func192 ?_;intro B3;refine ac ?_;refine fC (ed J) ?_;exact eN
def vt (N:Nat):Option Int:=
 some (-1)
def kX (N:Nat)(a1:Int)(a0:TO):Nat->Int->Option Int
 |0,_=>none
 |m3+1,p4=>bif decide (p4<(a0.length:Int)) then ((aw a0 p4).bind fun x6=>bif decide (a1=x6) then (some p4) else (be (in64 (p4+1)) ((kX N a1 a0 m3) (p4+1)))) else (vt N)
def rG (N:Nat)(a0:TO)(a1:Int):Option Int:=
 kX N a1 a0 N 0
theorem BW {N:Nat}{a0:TO}{a1:Int}{r:Int}(h:rG N a0 a1=some r):Okc Ua 180 [U A1 n1 c1,iV a1] ([db A1 n1 c1 a0]) (fun u post=>u=iV r/\post=[]):=by
 refine cA Tryz.func180 ?_;refine au (fun s L=>vt N=some r/\s=[(4,iV 0)]/\L=[]) ?_ ?_
 ·refine ac ?_;refine aY (fun m s L=> ∃p4,kX N a1 a0 m p4=some r/\s=[(0,U A1 n1 c1),(1,iV a1),(4,iV 0),(7,iV (a0.length:Int)),(8,iV p4)]/\L=[db A1 n1 c1 a0]) N _ _ ⟨0,h,J,J⟩ sA (cS [0] 1) ?_;rintro (_|m3) _ _ ⟨p4,h,rfl,rfl⟩
  ·exact ao h
  rw [kX.eq_2] at h;refine ac ?_;refine aG ?_;refine gH J h ?_ ?_<;>intro h
  ·refine sY ?_;obtain ⟨x6,a2,a6,a7,h⟩:=bz h;refine fw h ?_ ?_<;>intro h
   ·exact eY
   refine ac ?_;obtain ⟨q8,h⟩:=ah h;exact lY
  exact jY
 rintro _ _ ⟨h,rfl,rfl⟩;exact eY
def dN (N:Nat)(a0:TO)(a1:Int):Option Bool:=
 (rG N a0 a1).bind fun y2=>some (decide (0<=y2))
theorem kF {N:Nat}{a0:TO}{a1:Int}{r:Bool}(h:dN N a0 a1=some r):Okc Ua 134 [U A1 n1 c1,iV a1] ([db A1 n1 c1 a0]) (fun u post=>u=.bool r/\post=[]):=by
 refine cA Tryz.func134 ?_;obtain ⟨y2,k,h⟩:=aa h;refine kD (oR (BW k)) ?_;exact eN
def iG (N:Nat)(a1:TO)(a2:Ty×Ty):(TO)->Option (Option Exit×TO)
 |p13=>(bif decide (a2.2.Ui=7) then (some true) else (some (decide (a2.2.Ui=9)))).bind fun a6=>(bif a6 then ((dN N a1 a2.1.N).bind fun a7=>some a7) else (some false)).bind fun a8=>bif a8 then (be (bJ (p13.length+([a2.2.N]:List Int).length)) (some (none,p13++([a2.2.N]:List Int)))) else (some (none,p13))
def oo (N:Nat)(a0:TB)(a1:TO):Option TO:=
 (tO N a0).bind fun y6=>bif !y6 then (some []) else ((lX N a0).bind fun a6=>(jd N a0 (cY (fun x st=>iG N a1 x st)) (none,[])).bind fun a2=>qP a2.1 (some a2.2) none (fun _=>none))
theorem yd {N:Nat}{a0:TB}{a1:TO}{r:TO}(h:oo N a0 a1=some r):Okc Ua 195 [.agg #[iV a0.Ui,iV a0.Uw,iV a0.Uv,iV a0.Ux,U A1 n1 c1,U A2 n2 c2],U A3 n3 c3] ([bc A1 n1 c1 a0.Uo,bc A2 n2 c2 a0.Um,db A3 n3 c3 a1]) (fun u post=> ∃A0 n0 c0,u=U A0 n0 c0/\post=[eA A0 n0 c0 r]):=by
 refine cA Tryz.func195 ?_;intro B4
 refine jg fun B5=> ?_
 refine sZ ?_;obtain ⟨y6,k,h⟩:=aa h;refine kD (oR (Cw k)) ?_;refine gH J h ?_ ?_<;>intro h
 ·refine ac ?_;obtain rfl:=bS h;exact sr J J ((aU (dg .i64) 3 _).trans (cS [0] 6)) ⟨_,_,_,J,J⟩
 refine jg fun B9=> ?_
 refine sZ ?_;obtain ⟨b9,k,h⟩:=aa h;refine gD (oR (vo k)) ?_;rintro _ _ ⟨_,⟨b2,rfl,rfl⟩,rfl⟩;refine ac ?_;refine ie ?_ bu (iF 0 J);obtain ⟨b3,k,h⟩:=aa h;refine ux (en:=(fun x=> [.agg #[iV x.1.Ui,iV x.1.N,.string x.1.S],.agg #[iV x.2.Ui,iV x.2.N,.string x.2.S]])) (fun x st=>iG N a1 x st) (fun (st:TO) (mz:((Option Addr×Nat×Nat)))=> [db A3 n3 c3 a1,ab B5 39 [U A3 n3 c3],eK (dg .i64) 3 (.slice mz.1 mz.2.1 mz.2.2) st,ab B9 39 [.slice mz.1 mz.2.1 mz.2.2]]) [ar b2 42 [iV a0.Ui,iV a0.Uw,iV a0.Uv,iV a0.Ux,U A1 n1 c1,U A2 n2 c2],bc A1 n1 c1 a0.Uo,bc A2 n2 c2 a0.Um] ([]) ((none,0,0)) J J call210.out J (fun _=>J) (fun l G hY=>(rv k hY).mono fun _ _ hh=>hh.2) ((aU (dg .i64) 3 _).trans (cL [1,5,6] [] [7,3,0,2] 8 J)) h ?_ ?_ ?_ ?_
 ·rintro l b1 p13 je sr12 ⟨a2,a6,a7⟩ h;replace h:iG N a1 b1 p13=some (je,sr12):=h;simp only [An,List.zip_cons_cons,List.zip_nil_left,List.zip_nil_right,List.reverse_cons,List.reverse_nil,Ug,List.cons_append]
  refine jg fun c8=> ?_
  intro c9;refine ac ?_;refine gS 4 22 18 h ?_;intro d0 h;refine ac ?_;obtain ⟨b4,a8,h⟩:=aa h;refine aR 5 28 b4 ?_ ?_
  ·clear h;refine aP 23 J (fun b0=> ?_) (fun b0=> ?_)
   ·have h:=aE b0 a8;refine ac ?_;obtain ⟨d1,k,h⟩:=aa h;refine gU (oR (kF k)) (cB b0 J) ?_;exact gY
   have h:=aF b0 a8;exact gY
  refine fw h ?_ ?_<;>intro h
  ·refine ac ?_;refine gD (az (R:=(dg .i64)) (vss:=[[iV b1.2.N]]) (xs:=[b1.2.N]) J (ll _) J J (fun _ _ hr=> .cons J All2.nil)) ?_;rintro _ _ ⟨d2,d3,d4,rfl,rfl⟩;obtain ⟨b5,h⟩:=ah h
   refine nk (ay 5 0 J J aB J J t5 F5 J J b5) fun b6 b7 b8=> ?_
   obtain ⟨rfl,rfl⟩:=Prod.mk.inj (Option.some.inj h);exact Cf ((cS [3,4,5,6] 7).trans (gr (b6,b7,b8) J))
  refine ac ?_;obtain ⟨rfl,rfl⟩:=Prod.mk.inj (Option.some.inj h);exact Cf ((cS [2,3,4,5] 6).trans (gr (a2,a6,a7) J))
 ·rintro ⟨a2,a6,a7⟩ h;refine pQ ([db A3 n3 c3 a1,ab B5 39 [U A3 n3 c3],eA a2 a6 a7 b3.2,ab B9 39 [U a2 a6 a7]]) J ?_;exact eY
 ·rintro ⟨a2,a6,a7⟩ h;exact ao h
 rintro i ⟨a2,a6,a7⟩ h;exact ao h
theorem BU {r:TO}: ∀v post,((fun (u:Value) (post:List Chunk)=> ∃A0 n0 c0,u=U A0 n0 c0/\post=[eA A0 n0 c0 r])) v post-> ∀c∈post,jP c:=by
 rintro _ _ ⟨_,_,_,rfl,rfl⟩;exact hP sf (aD)
def sU (N:Nat)(a0:Tz)(p7:TV)(p8:TV)(p9:TO)(a1:(List (Int×Unit)))(a2:Int):Option (Bool×Tz):=
 some (decide ((a0.US.length:Int)<(p9.length:Int)),(⟨(⟨p7,p8⟩:TM),p9,a1,a2⟩:Tz))
def kN (N:Nat)(a1:Int->TV->TV->TO->(List (Int×Unit))->Int->Option (Bool×Tz))(a0:Tz)(a2:Int)(a6:TV)(a7:TV)(a8:TO)(b0:(List (Int×Unit)))(b1:Int):Option (Bool×Tz):=
 be (in64 (a2+1)) (a1 (a2+1) a6 a7 a8 b0 b1)
def dx (N:Nat)(a0:Tz):Nat->Int->TV->TV->TO->(List (Int×Unit))->Int->Option (Bool×Tz)
 |0,_,_,_,_,_,_=>none
 |b2+1,a6,a7,a8,a1,b0,b1=>bif decide (a6<((List.take a0.US.length a0.US).length:Int)) then ((aw (List.take a0.US.length a1) a6).bind fun b4=>(kP N (⟨a7,a8⟩:TM) b4).bind fun b3=>bif decide (b3.Ui=8) then ((oo N b3 a1).bind fun b5=>(ew N (⟨(⟨a7,a8⟩:TM),a1,b0,b1⟩:Tz) b5).bind fun a2=>kN N (dx N a0 b2) a0 a6 a2.m_.Uj a2.m_.Ul a2.US a2.UM a2.Vc) else (kN N (dx N a0 b2) a0 a6 a7 a8 a1 b0 b1)) else (sU N a0 a7 a8 a1 b0 b1)
def kh (N:Nat)(a0:Tz):Option (Bool×Tz):=
 dx N a0 N 0 a0.m_.Uj a0.m_.Ul a0.US a0.UM a0.Vc
theorem zr {N:Nat}{a0:Tz}{r:Bool×Tz}(h:kh N a0=some r):Okc Ua 190 [pV B1 0] ([bf A2 n2 c2 a0.m_.Uj,bf A3 n3 c3 a0.m_.Ul,ab B1 229 [U A2 n2 c2,U A3 n3 c3,U A4 n4 c4,.map (some M5),iV a0.Vc],eA A4 n4 c4 a0.US,am bj BL M5 a0.UM]) (fun u post=> ∃A0 n0 c0 A1 n1 c1 A2 n2 c2 M3,u=.bool r.1/\post=[ab B1 229 [U A0 n0 c0,U A1 n1 c1,U A2 n2 c2,.map (some M3),iV r.2.Vc],bf A0 n0 c0 r.2.m_.Uj,bf A1 n1 c1 r.2.m_.Ul,eA A2 n2 c2 r.2.US,am bj BL M3 r.2.UM]):=by
 refine cA Tryz.func190 ?_;refine au (fun s L=> ∃p7 p8 p9 e5 e6 A7 n7 c7 A8 n8 c8 A9 n9 c9 e7,sU N a0 p7 p8 p9 e5 e6=some r/\s=[(0,pV B1 0),(2,.bool false),(3,iV (a0.US.length:Int))]/\L=[bf A7 n7 c7 p7,bf A8 n8 c8 p8,eA A9 n9 c9 p9,am bj BL e7 e5,ab B1 229 [U A7 n7 c7,U A8 n8 c8,U A9 n9 c9,.map (some e7),iV e6]]) ?_ ?_
 ·refine ac ?_;refine nX (Mf 3 J) ?_;refine gD (Nc (n:=a0.US.length) 3 J J t5 size3.out J J J (Nat.le_refl _)) ?_;rintro _ _ ⟨a8,rfl,rfl⟩;refine EL (ki 3 J DK J t5) ?_;refine aY (fun m s L=> ∃b0 b8 b9 d0 d1 d2 b1 b2 b3 b4 b5 b6 a2 a6 a7 b7,dx N a0 m b0 b8 b9 d0 d1 d2=some r/\s=[(0,pV B1 0),(2,.bool false),(3,iV (a0.US.length:Int)),(18,.slice a8 a0.US.length a0.US.length),(19,iV ((List.take a0.US.length a0.US).length:Int)),(20,iV b0)]/\L=[bf b1 b2 b3 b8,bf b4 b5 b6 b9,mx (dg .i64) 3 (U a2 a6 a7) d0 (.slice a8 a0.US.length a0.US.length) a0.US.length,am bj BL b7 d1,ab B1 229 [U b1 b2 b3,U b4 b5 b6,U a2 a6 a7,.map (some b7),iV d2]]) N _ _ ⟨0,a0.m_.Uj,a0.m_.Ul,a0.US,a0.UM,a0.Vc,A2,n2,c2,A3,n3,c3,A4,n4,c4,M5,h,J,J⟩ sA (cS [0,1,3,4,2] 5) ?_;rintro (_|h3) _ _ ⟨b0,b8,b9,d0,d1,d2,b1,b2,b3,b4,b5,b6,a2,a6,a7,b7,h,rfl,rfl⟩
  ·exact ao h
  rw [dx.eq_2] at h;refine ac ?_;refine aG ?_;refine gH J h ?_ ?_<;>intro h
  ·refine ac ?_;refine au (fun s L=> ∃e8 e9 f1 f2 f3 f4 g0 g1 g2 g3 g4 g5 g6 g7 g8,kN N (dx N a0 h3) a0 b0 e8 e9 f1 f2 f3=some r/\s=[(0,pV B1 0),(2,.bool false),(3,iV (a0.US.length:Int)),(18,.slice a8 a0.US.length a0.US.length),(19,iV ((List.take a0.US.length a0.US).length:Int)),(20,iV b0)]/\L=[bf f4 g0 g1 e8,bf g2 g3 g4 e9,mx (dg .i64) 3 (U g5 g6 g7) f1 (.slice a8 a0.US.length a0.US.length) a0.US.length,am bj BL g8 f2,ab B1 229 [U f4 g0 g1,U g2 g3 g4,U g5 g6 g7,.map (some g8),iV f3]]) ?_ ?_
   ·refine ac ?_;obtain ⟨h4,g9,h0,h1,h⟩:=bz h;refine gR (fA 2 J DK J J t5 size3.out g9 h0) ?_;refine EL (gX (u:=iV h4) 2 J DK J h1 oH (fun _ _ _ h=>by rw [show _=_ from h];rfl)) ?_;obtain ⟨a1,k,h⟩:=aa h
    refine FN (oR (wy k)) fun d3 d4 d6 e2 e3 e4=> ?_
    intro h2;refine fw h ?_ ?_<;>intro h
    ·refine ie (t:=[(0,pV B1 0),(2,.bool false),(3,iV (a0.US.length:Int)),(6,pV h2 0),(18,.slice a8 a0.US.length a0.US.length),(19,iV ((List.take a0.US.length a0.US).length:Int)),(20,iV b0)]) ?_ lW (ad _)
     refine iW I 6 [0] [0,1,5] [33,34,35,36,37,38] [[],[],[],[2],[3],[4]] [aV (pV B1 0),
 aV (.agg #[iV a1.Ui,iV a1.Uw,iV a1.Uv,iV a1.Ux,U d3 d4 d6,U e2 e3 e4]),
 aV (pV B1 0),
 aV (pV B1 0),
 aV (pV B1 2),
 aV (U a2 a6 a7)] [] (ad _) (uM rfl lB) I rfl rfl ?_ ?_ ?_
     ·refine uL J ?_ ?_
      ·exact DX (aX J) J (aQ J (ad _))
      exact lA
     ·refine ae J ?_ ?_
      ·exact dy (bp 7 J J zH J) J (aQ J (ad _))
      refine ae J ?_ ?_
      ·exact bU (dj J DF) J (aQ J (ad _))
      refine ae J ?_ ?_
      ·exact bU (bE J) J (aQ J (ad _))
      refine ae J ?_ ?_
      ·exact bU (aX J) J (aQ J (ad _))
      refine ae J ?_ ?_
      ·exact dy (cm (us:=[iV a1.Ui,iV a1.Uw,iV a1.Uv,iV a1.Ux,U d3 d4 d6,U e2 e3 e4]) 0 J J agg42.out J) J (aQ J (ad _))
      refine ae J ?_ ?_
      ·exact bU (aX J) J (aQ J (ad _))
      exact ee
     refine nD (t:=[(33,pV B1 0),(34,.agg #[iV a1.Ui,iV a1.Uw,iV a1.Uv,iV a1.Ux,U d3 d4 d6,U e2 e3 e4]),(38,U a2 a6 a7),(0,pV B1 0),(2,.bool false),(3,iV (a0.US.length:Int)),(6,pV h2 0),(18,.slice a8 a0.US.length a0.US.length),(19,iV ((List.take a0.US.length a0.US).length:Int)),(20,iV b0)]) (L':=[ab h2 42 [iV a1.Ui,iV a1.Uw,iV a1.Uv,iV a1.Ux,U d3 d4 d6,U e2 e3 e4],aC d3 d4 d6 a1.Uo,aC e2 e3 e4 a1.Um,bf b1 b2 b3 b8,bf b4 b5 b6 b9,mx (dg .i64) 3 (U a2 a6 a7) d0 (.slice a8 a0.US.length a0.US.length) a0.US.length,am bj BL b7 d1,ab B1 229 [U b1 b2 b3,U b4 b5 b6,U a2 a6 a7,.map (some b7),iV d2]]) ?_ lW (ad _);obtain ⟨h5,k,h⟩:=aa h;refine pa 6 J I (cp (yd k) call195.out J (hP (ba (i:=1) J) (hP (ba (i:=2) J) (hP (JX (i:=5) J) aD))) BU) J J J ?_;rintro _ _ ⟨_,⟨h6,h7,h8,rfl,rfl⟩,rfl⟩;refine nD ?_ bu (bv 0 J);obtain ⟨h9,k,h⟩:=aa h;refine pa 7 J I (oC (yG k)) J J J ?_;rintro _ _ ⟨_,⟨i0,i1,i2,i8,j0,j1,j2,j3,j4,j5,rfl,rfl⟩,rfl⟩;refine lD I ?_;exact jY
    exact jY
   rintro _ _ ⟨e8,e9,f1,f2,f3,f4,g0,g1,g2,g3,g4,g5,g6,g7,g8,h,rfl,rfl⟩;refine ac ?_;obtain ⟨j6,h⟩:=ah h;exact lY
  refine ac ?_;exact ⟨_,_,⟨b8,b9,d0,d1,d2,b1,b2,b3,b4,b5,b6,a2,a6,a7,b7,h,J,J⟩,sA,(Km 2 J).trans (cS [0,1,2,3,4] 5)⟩
 rintro _ _ ⟨p7,p8,p9,e5,e6,A7,n7,c7,A8,n8,c8,A9,n9,c9,e7,h,rfl,rfl⟩;exact eY
def qt (N:Nat)(a2:TV)(p13:TV)(a1:TO)(a6:(List (Int×Unit)))(a7:Int):Option TO:=
 some a1
def lb (N:Nat):Nat->TV->TV->TO->(List (Int×Unit))->Int->Option TO
 |0,_,_,_,_,_=>none
 |a6+1,a7,a8,b0,p21,b1=>(kh N (⟨(⟨a7,a8⟩:TM),b0,p21,b1⟩:Tz)).bind fun a1=>bif a1.1 then ((gT N a1.2).bind fun a2=>(lb N a6) a2.m_.Uj a2.m_.Ul a2.US a2.UM a2.Vc) else (qt N a1.2.m_.Uj a1.2.m_.Ul a1.2.US a1.2.UM a1.2.Vc)
def lm (N:Nat)(a0:TM)(a1:TN):Option TO:=
 (nq N a0 a1).bind fun y5=>lb N N y5.m_.Uj y5.m_.Ul y5.US y5.UM y5.Vc
theorem CR {N:Nat}{a0:TM}{a1:TN}{r:TO}(h:lm N a0 a1=some r):Okc Ua 164 [.agg #[U A1 n1 c1,U A2 n2 c2],U A3 n3 c3] ([bf A1 n1 c1 a0.Uj,bf A2 n2 c2 a0.Ul,bc A3 n3 c3 a1]) (fun u post=> ∃A0 n0 c0,u=U A0 n0 c0/\post=[eA A0 n0 c0 r]):=by
 refine cA Tryz.func164 ?_;intro B4;refine ac ?_;obtain ⟨y5,k,h⟩:=aa h;refine gD (oC (CQ k)) ?_;rintro _ _ ⟨_,⟨B6,A7,n7,c7,A8,n8,c8,A9,n9,c9,f1,rfl,rfl⟩,rfl⟩;refine ac ?_;refine au (fun s L=> ∃a2 p13 a6 a7 a8 b0 b1 b2 b3 b4 b5 b6 b7 b8 b9,qt N a2 p13 a6 a7 a8=some r/\s=[(4,U none 0 0),(5,pV B6 0)]/\L=[bf b0 b1 b2 a2,bf b3 b4 b5 p13,eA b6 b7 b8 a6,am bj BL b9 a7,ab B6 229 [U b0 b1 b2,U b3 b4 b5,U b6 b7 b8,.map (some b9),iV a8]]) ?_ ?_
 ·refine ac ?_;refine aY (fun m s L=> ∃d0 d1 d2 p21 d3 d4 d6 e2 e3 e4 e5 e6 e7 e8 e9,lb N m d0 d1 d2 p21 d3=some r/\s=[(4,U none 0 0),(5,pV B6 0)]/\L=[bf d4 d6 e2 d0,bf e3 e4 e5 d1,eA e6 e7 e8 d2,am bj BL e9 p21,ab B6 229 [U d4 d6 e2,U e3 e4 e5,U e6 e7 e8,.map (some e9),iV d3]]) N _ _ ⟨y5.m_.Uj,y5.m_.Ul,y5.US,y5.UM,y5.Vc,A7,n7,c7,A8,n8,c8,A9,n9,c9,f1,h,J,J⟩ sA (cS [1,2,3,4,0] 9) ?_;rintro (_|f2) _ _ ⟨d0,d1,d2,p21,d3,d4,d6,e2,e3,e4,e5,e6,e7,e8,e9,h,rfl,rfl⟩
  ·exact ao h
  rw [lb.eq_2] at h;refine sZ ?_;obtain ⟨f3,k,h⟩:=aa h;refine gD (oC (zr k)) ?_;rintro _ _ ⟨_,⟨f4,g0,g1,g2,g3,g4,g5,g6,g7,g8,rfl,rfl⟩,rfl⟩;refine fw h ?_ ?_<;>intro h
  ·refine ac ?_;obtain ⟨g9,k,h⟩:=aa h;refine gD (oC (pW k)) ?_;rintro _ _ ⟨_,⟨h0,h1,h2,h3,h4,h5,h6,h7,h8,h9,rfl,rfl⟩,rfl⟩;exact lY
  exact jY
 rintro _ _ ⟨a2,p13,a6,a7,a8,b0,b1,b2,b3,b4,b5,b6,b7,b8,b9,h,rfl,rfl⟩;exact eY
def ti (N:Nat)(a0:Int):Option Bool:=
 some (!decide (a0=a0))
theorem Ar {N:Nat}{a0:Int}{r:Bool}(h:ti N a0=some r):Okc Ua 182 [iV a0] ([]) (fun u post=>u=.bool r/\post=[]):=by
 refine cA Tryz.func182 ?_;exact eN
def vh (N:Nat)(a0:Int)(a1:Int):Option Bool:=
 (ti N a0).bind fun y1=>(bif y1 then ((ti N a1).bind fun y3=>some (!y3)) else (some false)).bind fun b2=>(bif b2 then (some true) else (some (decide (a0<a1)))).bind fun b4=>some b4
theorem G7 {N:Nat}{a0:Int}{a1:Int}{r:Bool}(h:vh N a0 a1=some r):Okc Ua 144 [iV a0,iV a1] ([]) (fun u post=>u=.bool r/\post=[]):=by
 refine cA Tryz.func144 ?_;obtain ⟨y1,k,h⟩:=aa h;refine kD (oR (Ar k)) ?_;obtain ⟨b2,a2,h⟩:=aa h;refine aR 4 11 b2 ?_ ?_
 ·clear h;refine aP 7 J (fun g2=> ?_) (fun g2=> ?_)
  ·have h:=aE g2 a2;refine ac ?_;obtain ⟨y3,k,h⟩:=aa h;refine gU (oR (Ar k)) (cB g2 J) ?_;exact gY
  have h:=aF g2 a2;exact gY
 refine ac ?_;refine gS 4 16 12 h ?_;intro b4 h;exact eY
theorem Ed {r:Bool}: ∀v post,((fun (u:Value) (post:List Chunk)=>u=.bool r/\post=[])) v post-> ∀c∈post,jP c:=by
 rintro _ _ ⟨rfl,rfl⟩;exact aD
def mH (N:Nat)(a0:TM)(a1:TN):Option TO:=
 (lm N a0 a1).bind fun y5=>(pD N y5).bind fun y7=>some y7
theorem D5 {N:Nat}{a0:TM}{a1:TN}{r:TO}(h:mH N a0 a1=some r):Okc Ua 124 [.agg #[U A1 n1 c1,U A2 n2 c2],U A3 n3 c3] ([bf A1 n1 c1 a0.Uj,bf A2 n2 c2 a0.Ul,bc A3 n3 c3 a1]) (fun u post=> ∃A0 n0 c0,u=U A0 n0 c0/\post=[eA A0 n0 c0 r]):=by
 refine cA Tryz.func124 ?_;intro B4;refine ac ?_;obtain ⟨y5,k,h⟩:=aa h
 refine nk (oR (CR k)) fun A6 n6 c6=> ?_
 obtain ⟨y7,k,h⟩:=aa h;refine kD (oC (CG k)) ?_;exact eN
def oO (N:Nat){σ:Type}(a2:Int->Int->σ->Option σ)(fy:(Int×Int)->σ->Option (Bool×σ))(p6:Int)(a1:TO)(a6:Int)(a7:σ):Option σ:=
 be (in64 (p6+1)) (a2 a6 (p6+1) a7)
def kT (N:Nat){σ:Type}(b0:Int->Int->σ->Option σ)(a2:Int->Int->σ->Option σ)(fy:(Int×Int)->σ->Option (Bool×σ))(b1:Int)(p6:Int)(a1:TO)(a6:Int)(a7:Int)(a8:σ):Option σ:=
 be (in64 (a6+1)) (a2 a7 (a6+1) a8)
def cR (N:Nat){σ:Type}(a2:Int->Int->σ->Option σ)(fy:(Int×Int)->σ->Option (Bool×σ))(a6:Int)(p6:Int)(a1:TO):Nat->Int->Int->σ->Option σ
 |0,_,_,_=>none
 |b2+1,a7,a8,b0=>bif decide (a8<(a1.length:Int)) then ((aw a1 a8).bind fun b3=>bif !decide (b3.tmod 2=a6) then (kT N a2 (cR N a2 fy a6 p6 a1 b2) fy a6 p6 a1 a8 a7 b0) else ((fy (a7,b3) b0).bind fun b1=>bif !b1.1 then (some b1.2) else (be (in64 (a7+1)) (kT N a2 (cR N a2 fy a6 p6 a1 b2) fy a6 p6 a1 a8 (a7+1) b1.2)))) else (oO N a2 fy p6 a1 a7 b0)
def eX (N:Nat){σ:Type}(fy:(Int×Int)->σ->Option (Bool×σ))(a1:TO):Nat->Int->Int->σ->Option σ
 |0,_,_,_=>none
 |m4+1,p5,p6,p7=>bif decide (p6<(([0,1]:List Int).length:Int)) then ((aw ([0,1]:List Int) p6).bind fun a2=>cR N (eX N fy a1 m4) fy a2 p6 a1 N p5 0 p7) else (some p7)
def fL (N:Nat){σ:Type}(a1:TO)(fy:(Int×Int)->σ->Option (Bool×σ))(s0:σ):Option σ:=
 eX N fy a1 N 0 0 s0
theorem tc {N:Nat}{σ:Type}{a1:TO}{fy:(Int×Int)->σ->Option (Bool×σ)}{s0:σ}{r:σ}(h:fL N a1 fy s0=some r){l:Nat}{G:σ->List Chunk}(hY:tp Ua l G (fun x=> [iV x.1,iV x.2]) fy):Okc Ua 165 [.func (.yield l) #[] #[],pV B1 0] (ar B1 39 [U A2 n2 c2]::db A2 n2 c2 a1::(G s0)) (fun u post=>u=.tuple #[]/\post=G r):=by
 refine cA Tryz.func165 ?_
 refine nk (az (R:=(dg .i64)) (vss:=[[iV 0],[iV 1]]) (xs:=[0,1]) J (Mn _ _) J J (fun _ _ hr=> .cons J (.cons J All2.nil))) fun A3 n3 c3=> ?_
 refine aY (fun m s L=> ∃p5 p6 p7,eX N fy a1 m p5 p6 p7=some r/\s=[(0,.func (.yield l) #[] #[]),(1,pV B1 0),(3,iV p5),(8,U A3 n3 c3),(9,iV (([0,1]:List Int).length:Int)),(10,iV p6)]/\L=eA A3 n3 c3 ([0,1]:List Int)::db A2 n2 c2 a1::ar B1 39 [U A2 n2 c2]::(G p7)) N _ _ ⟨0,0,s0,h,J,J⟩ sA (cS [0,2,1] 3) ?_;rintro (_|m4) _ _ ⟨p5,p6,p7,h,rfl,rfl⟩
 ·exact ao h
 rw [eX.eq_2] at h;refine ac ?_;refine aG ?_;refine gH J h ?_ ?_<;>intro h
 ·refine ac ?_;refine au (fun s L=> ∃a8 b0,oO N (eX N fy a1 m4) fy p6 a1 a8 b0=some r/\s=[(0,.func (.yield l) #[] #[]),(1,pV B1 0),(3,iV a8),(8,U A3 n3 c3),(9,iV (([0,1]:List Int).length:Int)),(10,iV p6)]/\L=eA A3 n3 c3 ([0,1]:List Int)::db A2 n2 c2 a1::ar B1 39 [U A2 n2 c2]::(G b0)) ?_ ?_
  ·refine ac ?_;obtain ⟨a2,b4,b5,b6,h⟩:=bz h;refine ac ?_;refine aY (fun m s L=> ∃a7 a6 b1,cR N (eX N fy a1 m4) fy a2 p6 a1 m a7 a6 b1=some r/\s=[(0,.func (.yield l) #[] #[]),(1,pV B1 0),(3,iV a7),(5,iV a2),(8,U A3 n3 c3),(9,iV (([0,1]:List Int).length:Int)),(10,iV p6),(14,U A2 n2 c2),(15,iV (a1.length:Int)),(16,iV a6)]/\L=eA A3 n3 c3 ([0,1]:List Int)::db A2 n2 c2 a1::ar B1 39 [U A2 n2 c2]::(G b1)) N _ _ ⟨p5,0,p7,h,J,J⟩ sA (cS [0,1,2] 3) ?_;rintro (_|b7) _ _ ⟨a7,a6,b1,h,rfl,rfl⟩
   ·exact ao h
   rw [cR.eq_2] at h;refine ac ?_;refine aG ?_;refine gH J h ?_ ?_<;>intro h
   ·refine ac ?_;refine au (fun s L=> ∃b2 b3,kT N (eX N fy a1 m4) (cR N (eX N fy a1 m4) fy a2 p6 a1 b7) fy a2 p6 a1 a6 b2 b3=some r/\s=[(0,.func (.yield l) #[] #[]),(1,pV B1 0),(3,iV b2),(5,iV a2),(8,U A3 n3 c3),(9,iV (([0,1]:List Int).length:Int)),(10,iV p6),(14,U A2 n2 c2),(15,iV (a1.length:Int)),(16,iV a6)]/\L=eA A3 n3 c3 ([0,1]:List Int)::db A2 n2 c2 a1::ar B1 39 [U A2 n2 c2]::(G b3)) ?_ ?_
    ·refine ac ?_;obtain ⟨b8,b9,c0,c8,h⟩:=bz h;refine sY ?_;refine fC (si J J (by decide)) ?_;refine gH J h ?_ ?_<;>intro h
     ·exact jY
     refine sY ?_;obtain ⟨c9,k,h⟩:=aa h;refine gD (xy (a:=(a7,b8)) [eA A3 n3 c3 ([0,1]:List Int),db A2 n2 c2 a1,ar B1 39 [U A2 n2 c2]] hY k J J) ?_;rintro _ _ ⟨rfl,rfl⟩;refine fw h ?_ ?_<;>intro h
     ·exact eY
     refine ac ?_;obtain ⟨d0,h⟩:=ah h;exact jY
    rintro _ _ ⟨b2,b3,h,rfl,rfl⟩;refine ac ?_;obtain ⟨d1,h⟩:=ah h;exact lY
   exact jY
  rintro _ _ ⟨a8,b0,h,rfl,rfl⟩;refine ac ?_;obtain ⟨d2,h⟩:=ah h;exact lY
 exact eY
def lr (N:Nat)(a0:TO):Option Unit:=
 some ()
theorem wQ {N:Nat}{a0:TO}{r:Unit}(h:lr N a0=some r):Okc Ua 125 [U A1 n1 c1] ([db A1 n1 c1 a0]) (fun u post=> ∃a1,u=.func (.func 165) #[] #[pV a1 0]/\post=[ab a1 39 [U A1 n1 c1]]):=by
 refine cA Tryz.func125 ?_;intro B2;refine ac ?_;refine fC (ed J) ?_;exact eN
def i7 (N:Nat)(a0:Ty)(a1:TO):Option Bool:=
 (dN N a1 a0.N).bind fun y4=>some y4
theorem AD {N:Nat}{a0:Ty}{a1:TO}{r:Bool}(h:i7 N a0 a1=some r):Okc Ua 169 [(gA a0),pV B1 0] ([ar B1 39 [U A2 n2 c2],db A2 n2 c2 a1]) (fun u post=>u=.bool r/\post=[]):=by
 refine cA Tryz.func169 ?_;intro B3;refine ac ?_;obtain ⟨y4,k,h⟩:=aa h;refine kD (oR (kF k)) ?_;exact eN
def jB (N:Nat)(ff:Ty->Option Bool)(y6:TB)(a1:Ty×Ty):(TN)->Option (Option Exit×TN)
 |p13=>(ff a1.1).bind fun a2=>bif a2 then (be (bJ (p13.length+([a1.1,a1.2]:List Ty).length)) (some (none,p13++([a1.1,a1.2]:List Ty)))) else (some (none,p13))
def vT (N:Nat)(a0:TB)(ff:Ty->Option Bool):Option TB:=
 (eG N a0).bind fun y6=>(lX N a0).bind fun a2=>(jd N a0 (cY (fun x st=>jB N ff y6 x st)) (none,[])).bind fun a1=>qP a1.1 (some (⟨y6.Ui,y6.Uw,y6.Uv,y6.Ux,y6.Uo,a1.2⟩:TB)) none (fun _=>none)
theorem Ff {N:Nat}{a0:TB}{ff:Ty->Option Bool}{r:TB}(h:vT N a0 ff=some r){vf:Value}{G:List Chunk}(hf:Ik Ua vf G (fun x=> [.agg #[iV x.Ui,iV x.N,.string x.S]]) (fun r=> .bool r) ff):Okc Ua 168 [.agg #[iV a0.Ui,iV a0.Uw,iV a0.Uv,iV a0.Ux,U A1 n1 c1,U A2 n2 c2],vf] (bc A1 n1 c1 a0.Uo::bc A2 n2 c2 a0.Um::G) (fun u post=> ∃A0 n0 c0 A1 n1 c1,u=.agg #[iV r.Ui,iV r.Uw,iV r.Uv,iV r.Ux,U A0 n0 c0,U A1 n1 c1]/\post=[aC A0 n0 c0 r.Uo,aC A1 n1 c1 r.Um]):=by
 refine cA Tryz.func168 ?_;intro B3
 refine Sr (tz J (LB hf)) fun B4=> ?_
 intro B5;refine ac ?_;obtain ⟨y6,k,h⟩:=aa h
 refine FN (oR (jA k)) fun A7 n7 c7 A8 n8 c8=> ?_
 intro B9;refine sY ?_;obtain ⟨b7,k,h⟩:=aa h;refine gD (oR (vo k)) ?_;rintro _ _ ⟨_,⟨a8,rfl,rfl⟩,rfl⟩;refine ac ?_;refine ie ?_ bu (iF 0 J);refine ac ?_;obtain ⟨b0,k,h⟩:=aa h;refine ux (en:=(fun x=> [.agg #[iV x.1.Ui,iV x.1.N,.string x.1.S],.agg #[iV x.2.Ui,iV x.2.N,.string x.2.S]])) (fun x st=>jB N ff y6 x st) (fun (st:TN) (mz:((Option Addr×Nat×Nat)))=> [ab B4 89 [vf],ab B5 42 [iV 0,iV 0,iV 0,iV 0,U none 0 0,U none 0 0],aC A7 n7 c7 y6.Uo,eK ap 23 (.slice mz.1 mz.2.1 mz.2.2) st,ab B9 42 [iV y6.Ui,iV y6.Uw,iV y6.Uv,iV y6.Ux,U A7 n7 c7,.slice mz.1 mz.2.1 mz.2.2]]++G) [ar a8 42 [iV a0.Ui,iV a0.Uw,iV a0.Uv,iV a0.Ux,U A1 n1 c1,U A2 n2 c2],bc A1 n1 c1 a0.Uo,bc A2 n2 c2 a0.Um] ([]) ((none,0,0)) J J call210.out J (fun _=>J) (fun l G hY=>(rv k hY).mono fun _ _ hh=>hh.2) ((aU ap 23 _).trans (cL [1,8,9] [] [6,5,3,0,2] 10 J)) h ?_ ?_ ?_ ?_
 ·rintro l a1 p13 je sr12 ⟨a2,a6,a7⟩ h;replace h:jB N ff y6 a1 p13=some (je,sr12):=h;simp only [An,List.zip_cons_cons,List.zip_nil_left,List.zip_nil_right,List.reverse_cons,List.reverse_nil,Ug,List.cons_append]
  refine jg fun b1=> ?_
  intro b2;refine ac ?_;obtain ⟨b8,k,h⟩:=aa h;refine gD (Da (a:=a1.1) [ab b2 23 [iV a1.2.Ui,iV a1.2.N,.string a1.2.S],ab b1 23 [iV a1.1.Ui,iV a1.1.N,.string a1.1.S],ab B4 89 [vf],ab B5 42 [iV 0,iV 0,iV 0,iV 0,U none 0 0,U none 0 0],aC A7 n7 c7 y6.Uo,aC a2 a6 a7 p13,ab B9 42 [iV y6.Ui,iV y6.Uw,iV y6.Uv,iV y6.Ux,U A7 n7 c7,U a2 a6 a7]] hf k J J) ?_;rintro _ _ ⟨rfl,rfl⟩;refine fw h ?_ ?_<;>intro h
  ·refine ac ?_;refine gD (az (R:=ap) (vss:=[[iV a1.1.Ui,iV a1.1.N,.string a1.1.S],[iV a1.2.Ui,iV a1.2.N,.string a1.2.S]]) (xs:=[a1.1,a1.2]) J (xf _ _ _ _ _ _) J J (fun _ _ hr=> .cons J (.cons J All2.nil))) ?_;rintro _ _ ⟨b9,c9,d0,rfl,rfl⟩;obtain ⟨b3,h⟩:=ah h
   refine nk (ay 6 0 J J aB J J t0 zf J J b3) fun b4 b5 b6=> ?_
   obtain ⟨rfl,rfl⟩:=Prod.mk.inj (Option.some.inj h);exact Cf ((cS [3,4,5,6,7] 8).trans (gr (b4,b5,b6) J))
  refine ac ?_;obtain ⟨rfl,rfl⟩:=Prod.mk.inj (Option.some.inj h);exact Cf ((cS [2,3,4,5,6] 7).trans (gr (a2,a6,a7) J))
 ·rintro ⟨a2,a6,a7⟩ h;refine pQ (ab B4 89 [vf]::ab B5 42 [iV 0,iV 0,iV 0,iV 0,U none 0 0,U none 0 0]::aC A7 n7 c7 y6.Uo::aC a2 a6 a7 b0.2::ab B9 42 [iV y6.Ui,iV y6.Uw,iV y6.Uv,iV y6.Ux,U A7 n7 c7,U a2 a6 a7]::G) J ?_;refine ac ?_;obtain rfl:=bS h;exact fR (rs:=[.cell 4 42]) (vs:=[.agg #[iV y6.Ui,iV y6.Uw,iV y6.Uv,iV y6.Ux,U A7 n7 c7,U a2 a6 a7]]) J (.cons (bo 1 J J agg42.out) .nil) J (Om [2,3] 5 J J) ⟨_,_,_,_,_,_,J,J⟩
 ·rintro ⟨a2,a6,a7⟩ h;exact ao h
 rintro i ⟨a2,a6,a7⟩ h;exact ao h
def mE (N:Nat)(a0:TB)(a1:TO):Option TB:=
 (tO N a0).bind fun y7=>bif !y7 then (some (⟨0,0,0,0,[],[]⟩:TB)) else ((vT N a0 (fun x=>i7 N x a1)).bind fun a2=>some a2)
theorem ye {N:Nat}{a0:TB}{a1:TO}{r:TB}(h:mE N a0 a1=some r):Okc Ua 127 [.agg #[iV a0.Ui,iV a0.Uw,iV a0.Uv,iV a0.Ux,U A1 n1 c1,U A2 n2 c2],U A3 n3 c3] ([bc A1 n1 c1 a0.Uo,bc A2 n2 c2 a0.Um,db A3 n3 c3 a1]) (fun u post=> ∃A0 n0 c0 A1 n1 c1,u=.agg #[iV r.Ui,iV r.Uw,iV r.Uv,iV r.Ux,U A0 n0 c0,U A1 n1 c1]/\post=[aC A0 n0 c0 r.Uo,aC A1 n1 c1 r.Um]):=by
 refine cA Tryz.func127 ?_;intro B4
 refine jg fun B5=> ?_
 intro B6;refine sY ?_;obtain ⟨y7,k,h⟩:=aa h;refine kD (oR (Cw k)) ?_;refine gH J h ?_ ?_<;>intro h
 ·refine ac ?_;obtain rfl:=bS h;exact fR (rs:=[.cell 4 42]) (vs:=[.agg #[iV 0,iV 0,iV 0,iV 0,U none 0 0,U none 0 0]]) J (.cons (bo 0 J J agg42.out) .nil) J ((aU ap 23 _).trans ((aU ap 23 _).trans (cS [1,0] 8))) ⟨_,_,_,_,_,_,J,J⟩
 refine ac ?_;refine gE (ed J) ?_;obtain ⟨a2,k,h⟩:=aa h
 refine FN (oR (Ff k ⟨hP J (hP J aD),169, #[], #[pV B5 0],J,call169.out,fun _ _ hh=>AD hh⟩)) fun a6 a7 a8 b0 b1 b2=> ?_
 exact eN
def te (N:Nat)(a0:TB):Option Bool:=
 (bif decide (a0.Ui=10) then ((fY N a0).bind fun y5=>some y5) else (some false)).bind fun b4=>some b4
theorem FP {N:Nat}{a0:TB}{r:Bool}(h:te N a0=some r):Okc Ua 170 [.agg #[iV a0.Ui,iV a0.Uw,iV a0.Uv,iV a0.Ux,U A1 n1 c1,U A2 n2 c2]] ([bc A1 n1 c1 a0.Uo,bc A2 n2 c2 a0.Um]) (fun u post=>u=.bool r/\post=[]):=by
 refine cA Tryz.func170 ?_;intro B3;refine ac ?_;obtain ⟨b4,a1,h⟩:=aa h;refine aR 3 9 b4 ?_ ?_
 ·clear h;refine aP 6 J (fun g4=> ?_) (fun g4=> ?_)
  ·have h:=aE g4 a1;refine ac ?_;obtain ⟨y5,k,h⟩:=aa h;refine gU (oR (lu k)) (cB g4 J) ?_;exact gY
  have h:=aF g4 a1;exact gY
 exact eY
theorem DB {r:Bool}: ∀v post,((fun (u:Value) (post:List Chunk)=>u=.bool r/\post=[])) v post-> ∀c∈post,jP c:=by
 rintro _ _ ⟨rfl,rfl⟩;exact aD
def tI (N:Nat)(a0:TB):Option TB:=
 (cI N a0.Uo).bind fun y5=>(aw a0.Um 0).bind fun x7=>some (⟨a0.Ui,a0.Uw,a0.Uv,a0.Ux,y5,([x7]:List Ty)⟩:TB)
theorem DC {N:Nat}{a0:TB}{r:TB}(h:tI N a0=some r):Okc Ua 171 [.agg #[iV a0.Ui,iV a0.Uw,iV a0.Uv,iV a0.Ux,U A1 n1 c1,U A2 n2 c2]] ([bc A1 n1 c1 a0.Uo,bc A2 n2 c2 a0.Um]) (fun u post=> ∃A0 n0 c0 A1 n1 c1,u=.agg #[iV r.Ui,iV r.Uw,iV r.Uv,iV r.Ux,U A0 n0 c0,U A1 n1 c1]/\post=[aC A0 n0 c0 r.Uo,aC A1 n1 c1 r.Um]):=by
 refine cA Tryz.func171 ?_;intro B3
 refine jg fun B4=> ?_
 obtain ⟨y5,k,h⟩:=aa h
 refine nk (oR (fx k)) fun A6 n6 c6=> ?_
 obtain ⟨x7,a1,a2,a6,h⟩:=bz h;refine ac ?_
 refine nk (az (R:=ap) (vss:=[[iV x7.Ui,iV x7.N,.string x7.S]]) (xs:=[x7]) J (qh _ _ _) J J (fun _ _ hr=> .cons J All2.nil)) fun A8 n8 c8=> ?_
 exact eN
theorem Bh {r:TB}: ∀v post,((fun (u:Value) (post:List Chunk)=> ∃A0 n0 c0 A1 n1 c1,u=.agg #[iV r.Ui,iV r.Uw,iV r.Uv,iV r.Ux,U A0 n0 c0,U A1 n1 c1]/\post=[aC A0 n0 c0 r.Uo,aC A1 n1 c1 r.Um])) v post-> ∀c∈post,jP c:=by
 rintro _ _ ⟨_,_,_,_,_,_,rfl,rfl⟩;exact hP sf (hP sf (aD))
def gq (N:Nat){σ:Type}(fy:(Int×TN)->σ->Option (Bool×σ))(a1:TB):Nat->Int->σ->Option σ
 |0,_,_=>none
 |m4+1,p5,p6=>be (in64 (p5+4)) (bif decide (p5+4<=(a1.Um.length:Int)) then (be (in64 (p5+4)) (be (in64 (p5+4)) (be ((0:Int)<=p5/\(0:Int)<=p5+4/\p5.toNat<=(p5+4).toNat/\(p5+4).toNat<=a1.Um.length) ((fy (p5,(a1.Um.drop p5.toNat).take ((p5+4).toNat - p5.toNat)) p6).bind fun a2=>bif !a2.1 then (some a2.2) else (be (in64 (p5+4)) ((gq N fy a1 m4) (p5+4) a2.2)))))) else (some p6))
def nh (N:Nat){σ:Type}(a1:TB)(fy:(Int×TN)->σ->Option (Bool×σ))(s0:σ):Option σ:=
 gq N fy a1 N 1 s0
theorem wX {N:Nat}{σ:Type}{a1:TB}{fy:(Int×TN)->σ->Option (Bool×σ)}{s0:σ}{r:σ}(h:nh N a1 fy s0=some r){l:Nat}{G:σ->List Chunk}(hY:uu Ua l G (fun (x:Int×TN) vs cs=> ∃A1 n1 c1,vs=[iV x.1,U A1 n1 c1]/\cs=[bc A1 n1 c1 x.2]) fy):Okc Ua 193 [.func (.yield l) #[] #[],pV B1 0] (ar B1 42 [iV a1.Ui,iV a1.Uw,iV a1.Uv,iV a1.Ux,U A2 n2 c2,U A3 n3 c3]::bc A2 n2 c2 a1.Uo::bc A3 n3 c3 a1.Um::(G s0)) (fun u post=>u=.tuple #[]/\post=G r):=by
 refine cA Tryz.func193 ?_;refine aY (fun m s L=> ∃p5 p6,gq N fy a1 m p5 p6=some r/\s=[(0,.func (.yield l) #[] #[]),(1,pV B1 0),(3,iV p5)]/\L=bc A2 n2 c2 a1.Uo::bc A3 n3 c3 a1.Um::ar B1 42 [iV a1.Ui,iV a1.Uw,iV a1.Uv,iV a1.Ux,U A2 n2 c2,U A3 n3 c3]::(G p6)) N _ _ ⟨1,s0,h,J,J⟩ sA (cS [1,2,0] 3) ?_;rintro (_|m4) _ _ ⟨p5,p6,h,rfl,rfl⟩
 ·exact ao h
 rw [gq.eq_2] at h;refine sZ ?_;obtain ⟨q7,h⟩:=ah h;refine fw h ?_ ?_<;>intro h
 ·refine sY ?_;obtain ⟨q9,h⟩:=ah h;refine ac ?_;obtain ⟨b1,h⟩:=ah h;refine ac ?_;obtain ⟨a2,h⟩:=ah h;refine MH 1 J (l:=p5.toNat) (h:=(p5+4).toNat) a2.2.2.1 a2.2.2.2 ?_;rintro a6 a7 a8 b0;refine gR (IA 2 J b0 J t0 size23.out J (by rw [Int.toNat_of_nonneg a2.1];rfl) (by rw [Int.toNat_of_nonneg a2.2.1];rfl) (by rw [Int.toNat_of_nonneg a2.2.1];rfl) a2.2.2.1 a2.2.2.2) ?_;obtain ⟨b2,k,h⟩:=aa h;refine gD (EB (a:=(p5,(a1.Um.drop p5.toNat).take ((p5+4).toNat - p5.toNat))) [bc a6 a7 a8 ((a1.Um.drop p5.toNat).take ((p5+4).toNat - p5.toNat)),bc A2 n2 c2 a1.Uo,bc A3 n3 c3 a1.Um,ar B1 42 [iV a1.Ui,iV a1.Uw,iV a1.Uv,iV a1.Ux,U A2 n2 c2,U A3 n3 c3]] hY k J J ⟨_,_,_,J,J⟩ (my 0 J J)) ?_;rintro _ _ ⟨rfl,rfl⟩;refine fw h ?_ ?_<;>intro h
  ·exact eY
  refine ac ?_;obtain ⟨b3,h⟩:=ah h;exact lY
 exact eY
def pv (N:Nat)(a0:TB):Option Unit:=
 some ()
theorem Ac {N:Nat}{a0:TB}{r:Unit}(h:pv N a0=some r):Okc Ua 172 [.agg #[iV a0.Ui,iV a0.Uw,iV a0.Uv,iV a0.Ux,U A1 n1 c1,U A2 n2 c2]] ([bc A1 n1 c1 a0.Uo,bc A2 n2 c2 a0.Um]) (fun u post=> ∃a1,u=.func (.func 193) #[] #[pV a1 0]/\post=[ab a1 42 [iV a0.Ui,iV a0.Uw,iV a0.Uv,iV a0.Ux,U A1 n1 c1,U A2 n2 c2]]):=by
 refine cA Tryz.func172 ?_;intro B3;refine ac ?_;refine fC (ed J) ?_;exact eN
theorem yc {a0:TB}{A1:Option Addr}{n1:Nat}{c1:Nat}{A2:Option Addr}{n2:Nat}{c2:Nat}: ∀v post,((fun (u:Value) (post:List Chunk)=> ∃a1,u=.func (.func 193) #[] #[pV a1 0]/\post=[ab a1 42 [iV a0.Ui,iV a0.Uw,iV a0.Uv,iV a0.Ux,U A1 n1 c1,U A2 n2 c2]])) v post-> ∀c∈post,jP c:=by
 rintro _ _ ⟨_,rfl,rfl⟩;exact hP DA (aD)
end Go.Proofs.YtjmonlcchlkdhaaGreat
namespace Go.Proofs.YtjmonlcchlkdhaaGreat
variable {A1 A2 A3 A4 A5 A6 A7:Option Addr} {B1 B2 B3 B8 M2 M5 M6 M9 c1 c2 c3 c4 c5 c6 c7 n1 n2 n3 n4 n5 n6 n7:Nat}
open Go.RowKit Asn
set_option maxRecDepth 20000
def mQ (N:Nat)(a1:Int×TN)(a0:TB)(b4:TW)(b5:TB)(a2:TN)(b3:TN)(a6:Int)(a7:Int)(a8:ByteArray):Option (Option Exit×TN×TN):=
 (aw a1.2 0).bind fun b0=>(aw a1.2 1).bind fun b1=>(aw a1.2 3).bind fun b2=>be (bJ (a2.length+([b0,b1,(⟨a6,a7,a8⟩:Ty),b2]:List Ty).length)) (some (none,(a2++([b0,b1,(⟨a6,a7,a8⟩:Ty),b2]:List Ty),b3)))
def fO (N:Nat)(a0:TB)(a6:TW)(b0:TB)(a1:Int×TN):(TN×TN)->Option (Option Exit×(TN×TN))
 |(a8,a7)=>(aw a1.2 0).bind fun b4=>bif !((lk a6 b4.N).getD false) then ((aw a0.Um 0).bind fun b1=>(aw a1.2 1).bind fun b2=>(aw a1.2 3).bind fun b3=>be (bJ (a7.length+([b1,b2,b3]:List Ty).length)) (some (none,(a8,a7++([b1,b2,b3]:List Ty))))) else ((aw a1.2 2).bind fun a2=>(bif decide (a2.Ui=7) then (some (!((lk a6 a2.N).getD false))) else (some false)).bind fun b5=>bif b5 then (mQ N a1 a0 a6 b0 a8 a7 0 0 (⟨#[]⟩)) else (mQ N a1 a0 a6 b0 a8 a7 a2.Ui a2.N a2.S))
def pw (N:Nat)(a0:TB)(a6:TW):Option (TB×TN):=
 (tI N a0).bind fun a1=>(pv N a0).bind fun a7=>(nh N a0 (cY (fun x st=>fO N a0 a6 a1 x st)) (none,(a1.Um,[]))).bind fun a2=>qP a2.1 (some ((⟨a1.Ui,a1.Uw,a1.Uv,a1.Ux,a1.Uo,a2.2.1⟩:TB),a2.2.2)) none (fun _=>none)
def iE (N:Nat)(a1:TO)(a0:TB):Nat->Int->TW->Option (TB×TN)
 |0,_,_=>none
 |a7+1,a2,a6=>bif decide (a2<(a1.length:Int)) then ((aw a1 a2).bind fun a8=>be (in64 (a2+1)) ((iE N a1 a0 a7) (a2+1) (yy a6 a8 true))) else (pw N a0 a6)
def kq (N:Nat)(a0:TB)(a1:TO):Option (TB×TN):=
 (te N a0).bind fun y6=>bif !y6 then (some ((⟨0,0,0,0,[],[]⟩:TB),[])) else (iE N a1 a0 N 0 ([]:TW))
theorem vF {N:Nat}{a0:TB}{a1:TO}{r:TB×TN}(h:kq N a0 a1=some r):Okc Ua 128 [.agg #[iV a0.Ui,iV a0.Uw,iV a0.Uv,iV a0.Ux,U A1 n1 c1,U A2 n2 c2],U A3 n3 c3] ([bc A1 n1 c1 a0.Uo,bc A2 n2 c2 a0.Um,db A3 n3 c3 a1]) (fun u post=> ∃A0 n0 c0 A1 n1 c1 A2 n2 c2,u=.tuple #[.agg #[iV r.1.Ui,iV r.1.Uw,iV r.1.Uv,iV r.1.Ux,U A0 n0 c0,U A1 n1 c1],U A2 n2 c2]/\post=[aC A0 n0 c0 r.1.Uo,aC A1 n1 c1 r.1.Um,aC A2 n2 c2 r.2]):=by
 refine Dc Tryz.func128 J J ?_;simp only [qN];refine Y ?_
 refine gB (tz J J) fun B4=> ?_
 refine gB (bX zero42.out J) fun B5=> ?_
 refine Y ?_;refine aG ?_;refine Y ?_;refine gR (cm (us:=[iV a0.Ui,iV a0.Uw,iV a0.Uv,iV a0.Ux,U A1 n1 c1,U A2 n2 c2]) 1 J J agg42.out J) ?_;obtain ⟨y6,k,h⟩:=aa h;refine gV (cp (FP k) call170.out J (hP (cG (i:=2) J J) (hP (cG (i:=3) J J) aD)) DB) ?_;refine Y ?_;refine gH J h ?_ ?_<;>intro h
 ·refine Y ?_;refine gE (bM J bld_42_.out) ?_;refine gW (aj (us:=[iV 0,iV 0,iV 0,iV 0,U none 0 0,U none 0 0]) (cs':=[iV 0,iV 0,iV 0,iV 0,U none 0 0,U none 0 0]) 0 J J J J size42.out J J J) ?_;refine Y ?_;obtain rfl:=bS h;exact fR (rs:=[.cell 4 42,.tmp 5]) (vs:=[.agg #[iV 0,iV 0,iV 0,iV 0,U none 0 0,U none 0 0],U none 0 0]) J (.cons (bo 0 J J agg42.out) (.cons (pg J) .nil)) J ((aU ap 23 _).trans ((aU ap 23 _).trans ((aU ap 23 _).trans (cS [2,1,0] 8)))) ⟨_,_,_,_,_,_,_,_,_,J,J⟩
 refine Y ?_;refine gR (ki 4 J aM J t5) ?_;refine gD (BD (ek:=bj) (ev:=bH) J Ti) ?_;rintro _ _ ⟨a6,rfl,rfl⟩
 refine gB (bX zero145.out J) fun b7=> ?_
 refine gW (aj (us:=[.map (some a6)]) (cs':=[.map (some a6)]) 0 J J J J size145.out J J J) ?_;refine Y ?_;refine au (fun s L=> ∃b9,pw N a0 b9=some r/\s=[(2,pV B4 0),(4,pV B5 0),(5,U none 0 0),(6,pV b7 0)]/\L=[bc A1 n1 c1 a0.Uo,bc A2 n2 c2 a0.Um,ab B4 42 [iV a0.Ui,iV a0.Uw,iV a0.Uv,iV a0.Ux,U A1 n1 c1,U A2 n2 c2],ab B5 42 [iV 0,iV 0,iV 0,iV 0,U none 0 0,U none 0 0],am bj bH a6 b9,ab b7 145 [.map (some a6)]]) ?_ ?_
 ·refine Y ?_;refine gR (ki 6 J aM J t5) ?_;refine Y ?_;refine aY (fun m s L=> ∃f3 e8,iE N a1 a0 m f3 e8=some r/\s=[(2,pV B4 0),(4,pV B5 0),(5,U none 0 0),(6,pV b7 0),(21,U A3 n3 c3),(22,iV (a1.length:Int)),(23,iV f3)]/\L=[db A3 n3 c3 a1,bc A1 n1 c1 a0.Uo,bc A2 n2 c2 a0.Um,ab B4 42 [iV a0.Ui,iV a0.Uw,iV a0.Uv,iV a0.Ux,U A1 n1 c1,U A2 n2 c2],ab B5 42 [iV 0,iV 0,iV 0,iV 0,U none 0 0,U none 0 0],am bj bH a6 e8,ab b7 145 [.map (some a6)]]) N _ _ ⟨0,([]:TW),h,J,J⟩ sA (cS [6,4,5,3,2,1,0] 7) ?_;rintro (_|k0) _ _ ⟨f3,e8,h,rfl,rfl⟩
  ·exact ao h
  rw [iE.eq_2] at h;refine Y ?_;refine aG ?_;refine gH J h ?_ ?_<;>intro h
  ·refine Y ?_;refine aG ?_;refine Y ?_;obtain ⟨g5,g6,g7,g8,h⟩:=bz h;refine gR (fA 0 J aM J J t5 size3.out g6 g7) ?_;refine gR (gX (u:=iV g5) 0 J aM J g8 oH (fun _ _ _ h=>by rw [show _=_ from h];rfl)) ?_;refine Y ?_;refine gW (ii (a:=g5) (b:=true) 5 J J J J Ti (ei hU)) ?_;refine cU ?_;refine Y ?_;obtain ⟨j9,h⟩:=ah h;refine gE (dL J J j9.1 j9.2) ?_;refine Y ?_;exact ⟨k0,_,_,TR _,⟨f3+1,yy e8 g5 true,h,J,J⟩,sA,cS [0,1,2,3,4,5,6] 7⟩
  refine Y ?_;exact ⟨_,_,⟨e8,h,J,J⟩,sA,cS [1,2,3,4,5,6] 7⟩
 rintro _ _ ⟨b9,h,rfl,rfl⟩;refine Y ?_;refine gR (cm (us:=[iV a0.Ui,iV a0.Uw,iV a0.Uv,iV a0.Ux,U A1 n1 c1,U A2 n2 c2]) 2 J J agg42.out J) ?_;obtain ⟨a2,k,h⟩:=aa h;refine gD (cp (DC k) call171.out J (hP (cG (i:=0) J J) (hP (cG (i:=1) J J) aD)) Bh) ?_;rintro _ _ ⟨_,⟨a7,a8,b0,g9,h0,h1,rfl,rfl⟩,rfl⟩
 refine gB (bX zero42.out J) fun d4=> ?_
 refine gW (aj (us:=[iV a2.Ui,iV a2.Uw,iV a2.Uv,iV a2.Ux,U a7 a8 b0,U g9 h0 h1]) (cs':=[iV a2.Ui,iV a2.Uw,iV a2.Uv,iV a2.Ux,U a7 a8 b0,U g9 h0 h1]) 0 J J J J size42.out J J J) ?_;refine Y ?_
 refine gB (bX zero30.out J) fun d6=> ?_
 refine Y ?_;refine aG ?_;refine Y ?_;refine gR (cm (us:=[iV a0.Ui,iV a0.Uw,iV a0.Uv,iV a0.Ux,U A1 n1 c1,U A2 n2 c2]) 6 J J agg42.out J) ?_;obtain ⟨l9,k,h⟩:=aa h;refine gD (cp (Ac k) call172.out J (hP (cG (i:=4) J J) (hP (cG (i:=5) J J) aD)) yc) ?_;rintro _ _ ⟨_,⟨k1,rfl,rfl⟩,rfl⟩;refine MF ?_;refine yM ?_;refine ie ?_ bu (iF 0 J);obtain ⟨f4,k,h⟩:=aa h
 refine E9 (R:=(fun (x:Int×TN) vs cs=> ∃A1 n1 c1,vs=[iV x.1,U A1 n1 c1]/\cs=[bc A1 n1 c1 x.2])) (fun x st=>fO N a0 b9 a2 x st) (fun (st:TN×TN) (mz:((Option Addr×Nat×Nat)×(Option Addr×Nat×Nat)))=> [bc A1 n1 c1 a0.Uo,bc A2 n2 c2 a0.Um,ab B4 42 [iV a0.Ui,iV a0.Uw,iV a0.Uv,iV a0.Ux,U A1 n1 c1,U A2 n2 c2],ab B5 42 [iV 0,iV 0,iV 0,iV 0,U none 0 0,U none 0 0],am bj bH a6 b9,ab b7 145 [.map (some a6)],aC a7 a8 b0 a2.Uo,eK ap 23 (.slice mz.1.1 mz.1.2.1 mz.1.2.2) st.1,ab d4 42 [iV a2.Ui,iV a2.Uw,iV a2.Uv,iV a2.Ux,U a7 a8 b0,.slice mz.1.1 mz.1.2.1 mz.1.2.2],eK ap 23 (.slice mz.2.1 mz.2.2.1 mz.2.2.2) st.2,ab d6 30 [.slice mz.2.1 mz.2.2.1 mz.2.2.2]]) [ar k1 42 [iV a0.Ui,iV a0.Uw,iV a0.Uv,iV a0.Ux,U A1 n1 c1,U A2 n2 c2],bc A1 n1 c1 a0.Uo,bc A2 n2 c2 a0.Um] ((a2.Um,[])) (((g9,h0,h1),(none,0,0))) J J call193.out J (by rintro _ _ _ ⟨_,_,_,rfl,rfl⟩;rfl) (fun l G hY=>(wX k hY).mono fun _ _ hh=>hh.2) ((aU ap 23 _).trans (cL [1,6,7] [] [6,7,8,9,10,11,4,5,3,0,2] 12 J)) h ?_ ?_ ?_ ?_
 ·rintro l e9 ⟨g0,f1⟩ je sr28 ⟨⟨b4,b5,b6⟩,⟨b1,b2,b3⟩⟩ h _ _ ⟨d1,d2,d3,rfl,rfl⟩;replace h:fO N a0 b9 a2 e9 (g0,f1)=some (je,sr28):=h;simp only [An,List.zip_cons_cons,List.zip_nil_left,List.zip_nil_right,List.reverse_cons,List.reverse_nil,Ug,List.cons_append];refine Y ?_;refine aG ?_;refine dY [0,1] ?_;obtain ⟨k2,h2,h3,k3,h⟩:=bz h;refine zY [2] ?_;refine zR 3 J (sW 0 J aM J (bR h2 h3) vb) ?_;refine zY [4] ?_;refine zR 5 J (CS (a:=k2.N) (z:=false) 5 J uR J J Ti (ei hU) zero4.out) ?_;refine zX [6] ?_;refine yM ?_;refine gH J h ?_ ?_<;>intro h
  ·refine aG ?_;obtain ⟨c8,h4,h5,h6,h⟩:=bz h;obtain ⟨c9,h7,h8,h9,h⟩:=bz h;obtain ⟨d0,i0,i1,i2,h⟩:=bz h;refine ie (t:=[(2,pV B4 0),(4,pV B5 0),(5,U none 0 0),(6,pV b7 0),(9,pV d4 0),(10,pV d6 0),(12,U d1 d2 d3)]) ?_ lW (ad _)
   refine iW I 12 [] [0,11] [43,44,45,46,47,48,49,50,51,52,53,54] [[],[],[1],[2],[3],[],[5],[6],[],[8],[9],[4,7,10]] [aV (U b1 b2 b3),
aV (pV B4 5),
aV (U A2 n2 c2),
aV (da (U A2 n2 c2) ((0:Int).toNat) 3 0),
aV (.agg #[iV c8.Ui,iV c8.N,.string c8.S]),
aV (U d1 d2 d3),
aV (da (U d1 d2 d3) ((1:Int).toNat) 3 0),
aV (.agg #[iV c9.Ui,iV c9.N,.string c9.S]),
aV (U d1 d2 d3),
aV (da (U d1 d2 d3) ((3:Int).toNat) 3 0),
aV (.agg #[iV d0.Ui,iV d0.N,.string d0.S]),
aX3 (fun (e2:Option Addr) (e3 e4:Nat)=> U e2 e3 e4) (fun e2 e3 e4=> [aC e2 e3 e4 ([c8,c9,d0]:List Ty)])] [] (ad _) (lB) I rfl rfl ?_ ?_ ?_
   ·exact lA
   ·refine ae J ?_ ?_
    ·refine uv (az (R:=ap) (vss:=[[iV c8.Ui,iV c8.N,.string c8.S],[iV c9.Ui,iV c9.N,.string c9.S],[iV d0.Ui,iV d0.N,.string d0.S]]) (xs:=[c8,c9,d0]) J (Mq _ _ _ _ _ _ _ _ _) J J (fun _ _ hr=> .cons J (.cons J (.cons J All2.nil)))) J ?_;rintro _ _ ⟨k4,k5,k6,rfl,rfl⟩;exact vc k4 k5 k6 (ad _)
    refine ae J ?_ ?_
    ·exact dy (pX (us:=[iV d0.Ui,iV d0.N,.string d0.S]) 0 J aM J i2 agg23.out (fun _ _ _ h=>by rw [show _=_ from h];rfl)) J (aQ J (ad _))
    refine ae J ?_ ?_
    ·exact dy (fA 0 J aM J J t0 size23.out i0 i1) J (aQ J (ad _))
    refine ae J ?_ ?_
    ·exact bU (aX J) J (aQ J (ad _))
    refine ae J ?_ ?_
    ·exact dy (pX (us:=[iV c9.Ui,iV c9.N,.string c9.S]) 0 J aM J h9 agg23.out (fun _ _ _ h=>by rw [show _=_ from h];rfl)) J (aQ J (ad _))
    refine ae J ?_ ?_
    ·exact dy (fA 0 J aM J J t0 size23.out h7 h8) J (aQ J (ad _))
    refine ae J ?_ ?_
    ·exact bU (aX J) J (aQ J (ad _))
    refine ae J ?_ ?_
    ·exact dy (pX (us:=[iV c8.Ui,iV c8.N,.string c8.S]) 2 J aM J h6 agg23.out (fun _ _ _ h=>by rw [show _=_ from h];rfl)) J (aQ J (ad _))
    refine ae J ?_ ?_
    ·exact dy (fA 2 J aM J J t0 size23.out h4 h5) J (aQ J (ad _))
    refine ae J ?_ ?_
    ·exact dy (bp 3 J J vz J) J (aQ J (ad _))
    refine ae J ?_ ?_
    ·exact bU (dj J xJ) J (aQ J (ad _))
    refine ae J ?_ ?_
    ·exact dy (bp 11 J J vz J) J (aQ J (ad _))
    exact ee
   intro e2 e3 e4;refine nD (t:=[(43,U b1 b2 b3),(54,U e2 e3 e4),(2,pV B4 0),(4,pV B5 0),(5,U none 0 0),(6,pV b7 0),(9,pV d4 0),(10,pV d6 0),(12,U d1 d2 d3)]) (L':=[aC e2 e3 e4 ([c8,c9,d0]:List Ty),bc d1 d2 d3 e9.2,bc A1 n1 c1 a0.Uo,bc A2 n2 c2 a0.Um,ab B4 42 [iV a0.Ui,iV a0.Uw,iV a0.Uv,iV a0.Ux,U A1 n1 c1,U A2 n2 c2],ab B5 42 [iV 0,iV 0,iV 0,iV 0,U none 0 0,U none 0 0],am bj bH a6 b9,ab b7 145 [.map (some a6)],aC a7 a8 b0 a2.Uo,aC b4 b5 b6 g0,ab d4 42 [iV a2.Ui,iV a2.Uw,iV a2.Uv,iV a2.Ux,U a7 a8 b0,U b4 b5 b6],aC b1 b2 b3 f1,ab d6 30 [U b1 b2 b3]]) ?_ lW (ad _);obtain ⟨k7,h⟩:=ah h;refine pa 12 J I (ay 11 0 J J aB J J t0 zf J J k7) J J J ?_;rintro _ _ ⟨i8,j0,j1,rfl,rfl⟩;refine BE ?_;refine vI 13 J I (aj (us:=[U i8 j0 j1]) (cs':=[U i8 j0 j1]) 12 J J J J size30.out J J J) J J ?_;rintro _ _ rfl;refine lD I ?_;refine Y ?_;obtain ⟨rfl,rfl⟩:=Prod.mk.inj (Option.some.inj h);exact Cf ((cS [2,3,4,5,6,7,8,9,10,11,12] 13).trans (gr ((b4,b5,b6),(i8,j0,j1)) J))
  refine Y ?_;obtain ⟨b8,j2,j3,j4,h⟩:=bz h;refine gR (fA 0 J aM J J t0 size23.out j2 j3) ?_;refine gR (pX (us:=[iV b8.Ui,iV b8.N,.string b8.S]) 0 J aM J j4 agg23.out (fun _ _ _ h=>by rw [show _=_ from h];rfl)) ?_
  refine gB (bX zero23.out J) fun j5=> ?_
  refine gW (aj (us:=[iV b8.Ui,iV b8.N,.string b8.S]) (cs':=[iV b8.Ui,iV b8.N,.string b8.S]) 0 J J J J size23.out J J J) ?_;refine Y ?_;refine au (fun s L=> ∃e5 e6 e7,mQ N e9 a0 b9 a2 g0 f1 e5 e6 e7=some (je,sr28)/\s=[(2,pV B4 0),(4,pV B5 0),(5,U none 0 0),(6,pV b7 0),(9,pV d4 0),(10,pV d6 0),(12,U d1 d2 d3),(13,pV j5 0)]/\L=[bc d1 d2 d3 e9.2,bc A1 n1 c1 a0.Uo,bc A2 n2 c2 a0.Um,ab B4 42 [iV a0.Ui,iV a0.Uw,iV a0.Uv,iV a0.Ux,U A1 n1 c1,U A2 n2 c2],ab B5 42 [iV 0,iV 0,iV 0,iV 0,U none 0 0,U none 0 0],am bj bH a6 b9,ab b7 145 [.map (some a6)],aC a7 a8 b0 a2.Uo,aC b4 b5 b6 g0,ab d4 42 [iV a2.Ui,iV a2.Uw,iV a2.Uv,iV a2.Ux,U a7 a8 b0,U b4 b5 b6],aC b1 b2 b3 f1,ab d6 30 [U b1 b2 b3],ab j5 23 [iV e5,iV e6,.string e7]]) ?_ ?_
  ·refine Y ?_;obtain ⟨k8,f2,h⟩:=aa h;refine aR 6 68 k8 ?_ ?_
   ·clear h;refine aP 62 J (fun g1=> ?_) (fun g1=> ?_)
    ·have h:=aE g1 f2;refine Y ?_;refine vR (CS (a:=b8.N) (z:=false) 6 J uR J J Ti (ei hU) zero4.out) J (cB g1 J) J ?_;refine Y ?_;obtain rfl:=bS h;exact cJ sA (cS [0,1,2,3,4,5,6,7,8,9,10,11,12] 13)
    have h:=aF g1 f2;refine Y ?_;obtain rfl:=bS h;exact cJ sA (cS [0,1,2,3,4,5,6,7,8,9,10,11,12] 13)
   refine Y ?_;refine gH J h ?_ ?_<;>intro h
   ·refine qj ?_;refine gE (bM J bld_23_.out) ?_;refine gW (aj (us:=[iV 0,iV 0,.string (⟨#[]⟩)]) (cs':=[iV 0,iV 0,.string (⟨#[]⟩)]) 0 J J J J size23.out J J J) ?_;refine cU ?_;refine Y ?_;exact ⟨_,_,⟨0,0,⟨#[]⟩,h,J,J⟩,sA,cS [1,2,3,4,5,6,7,8,9,10,11,12,0] 13⟩
   refine Y ?_;exact ⟨_,_,⟨b8.Ui,b8.N,b8.S,h,J,J⟩,sA,cS [1,2,3,4,5,6,7,8,9,10,11,12,0] 13⟩
  rintro _ _ ⟨e5,e6,e7,h,rfl,rfl⟩;refine bV I ([bc d1 d2 d3 e9.2,bc A1 n1 c1 a0.Uo,bc A2 n2 c2 a0.Um,ab B4 42 [iV a0.Ui,iV a0.Uw,iV a0.Uv,iV a0.Ux,U A1 n1 c1,U A2 n2 c2],ab B5 42 [iV 0,iV 0,iV 0,iV 0,U none 0 0,U none 0 0],am bj bH a6 b9,ab b7 145 [.map (some a6)],aC a7 a8 b0 a2.Uo,ab d4 42 [iV a2.Ui,iV a2.Uw,iV a2.Uv,iV a2.Ux,U a7 a8 b0,U b4 b5 b6],aC b1 b2 b3 f1,ab d6 30 [U b1 b2 b3],ab j5 23 [iV e5,iV e6,.string e7]]) (cS [0,1,2,3,4,5,6,7,9,10,11,12] 13) ?_;refine zY [0,1,2] ?_;obtain ⟨g2,k9,l0,l1,h⟩:=bz h;refine zY [3,4,5] ?_;obtain ⟨g3,l2,l3,l4,h⟩:=bz h;refine zY [6,7,8,9] ?_;obtain ⟨g4,l5,l6,l7,h⟩:=bz h;refine zY [10,11] ?_;refine zD 12 J (az (R:=ap) (vss:=[[iV g2.Ui,iV g2.N,.string g2.S],[iV g3.Ui,iV g3.N,.string g3.S],[iV e5,iV e6,.string e7],[iV g4.Ui,iV g4.N,.string g4.S]]) (xs:=[g2,g3,(⟨e5,e6,e7⟩:Ty),g4]) J (Mo _ _ _ _ _ _ _ _ _ _ _ _) J J (fun _ _ hr=> .cons J (.cons J (.cons J (.cons J All2.nil))))) ?_;rintro _ _ ⟨m0,m1,m2,rfl,rfl⟩;refine aA (cS [1,2,3,4,5,6,7,8,10,11,12,13] 14) ?_;obtain ⟨l8,h⟩:=ah h;refine zD 13 J (ay 9 0 J J aB J J t0 zf J J l8) ?_;rintro _ _ ⟨j6,j7,j8,rfl,rfl⟩;refine aA (cS [1,2,3,4,5,6,7,8,10,11,12,13] 14) ?_;refine zY [14] ?_
  refine f9 15 J I I (aj (us:=[U j6 j7 j8]) (cs':=[iV a2.Ui,iV a2.Uw,iV a2.Uv,iV a2.Ux,U a7 a8 b0,U j6 j7 j8]) 10 J J J J size30.out J J J) ?_;rintro _ _ rfl;refine cT I ?_;refine Oq ?_;obtain ⟨rfl,rfl⟩:=Prod.mk.inj (Option.some.inj h);exact Cf ((cS [2,3,4,5,6,7,8,9,10,11,12] 14).trans (gr ((j6,j7,j8),(b1,b2,b3)) J))
 ·rintro ⟨⟨b4,b5,b6⟩,⟨b1,b2,b3⟩⟩ h;refine pQ ([bc A1 n1 c1 a0.Uo,bc A2 n2 c2 a0.Um,ab B4 42 [iV a0.Ui,iV a0.Uw,iV a0.Uv,iV a0.Ux,U A1 n1 c1,U A2 n2 c2],ab B5 42 [iV 0,iV 0,iV 0,iV 0,U none 0 0,U none 0 0],am bj bH a6 b9,ab b7 145 [.map (some a6)],aC a7 a8 b0 a2.Uo,aC b4 b5 b6 f4.2.1,ab d4 42 [iV a2.Ui,iV a2.Uw,iV a2.Uv,iV a2.Ux,U a7 a8 b0,U b4 b5 b6],aC b1 b2 b3 f4.2.2,ab d6 30 [U b1 b2 b3]]) J ?_;refine Y ?_;refine aG ?_;refine bV I ([bc A1 n1 c1 a0.Uo,bc A2 n2 c2 a0.Um,ab B4 42 [iV a0.Ui,iV a0.Uw,iV a0.Uv,iV a0.Ux,U A1 n1 c1,U A2 n2 c2],am bj bH a6 b9,ab b7 145 [.map (some a6)],aC a7 a8 b0 a2.Uo,aC b4 b5 b6 f4.2.1,ab d4 42 [iV a2.Ui,iV a2.Uw,iV a2.Uv,iV a2.Ux,U a7 a8 b0,U b4 b5 b6],aC b1 b2 b3 f4.2.2,ab d6 30 [U b1 b2 b3]]) (cS [0,1,2,4,5,6,7,8,9,10] 11) ?_;refine zY [0,1] ?_;refine zO 2 J (aj (us:=[iV a2.Ui,iV a2.Uw,iV a2.Uv,iV a2.Ux,U a7 a8 b0,U b4 b5 b6]) (cs':=[iV a2.Ui,iV a2.Uw,iV a2.Uv,iV a2.Ux,U a7 a8 b0,U b4 b5 b6]) 3 J J J J size42.out J J J) ?_;rintro _ _ rfl;refine aA (cS [0,1,2,4,5,6,7,8,9,10] 11) ?_;refine zX [3] ?_;refine Y ?_;obtain rfl:=bS h
  exact fR (rs:=[.cell 4 42,.tmp 5]) (vs:=[.agg #[iV a2.Ui,iV a2.Uw,iV a2.Uv,iV a2.Ux,U a7 a8 b0,U b4 b5 b6],U b1 b2 b3]) J (.cons (bo 3 J J agg42.out) (.cons (pg J) .nil)) J (cS [6,7,9] 11) ⟨_,_,_,_,_,_,_,_,_,J,J⟩
 ·rintro ⟨⟨b4,b5,b6⟩,⟨b1,b2,b3⟩⟩ h;exact ao h
 rintro i ⟨⟨b4,b5,b6⟩,⟨b1,b2,b3⟩⟩ h;exact ao h
def wR (N:Nat)(p4:TN):Option TN:=
 some p4
def nH (N:Nat)(a6:TN->Int->Option TN)(a0:TN)(p7:Int)(a1:TY)(p6:TN)(a2:Ty)(p13:Int):Option TN:=
 be (bJ (p6.length+([(⟨a2.Ui,p13,a2.S⟩:Ty)]:List Ty).length)) (be (in64 (p7+1)) (a6 (p6++([(⟨a2.Ui,p13,a2.S⟩:Ty)]:List Ty)) (p7+1)))
def gl (N:Nat)(a0:TN)(a1:TY):Nat->TN->Int->Option TN
 |0,_,_=>none
 |m5+1,p6,p7=>bif decide (p7<(a0.length:Int)) then ((aw a0 p7).bind fun a2=>(bif (lk a1 a2.N).isSome then ((bif decide (a2.Ui=7) then (some true) else (some (decide (a2.Ui=9)))).bind fun a6=>some a6) else (some false)).bind fun a7=>bif a7 then (nH N (gl N a0 a1 m5) a0 p7 a1 p6 a2 ((lk a1 a2.N).getD 0)) else (nH N (gl N a0 a1 m5) a0 p7 a1 p6 a2 a2.N)) else (wR N p6)
def eu (N:Nat)(a0:TN)(a1:TY):Option TN:=
 gl N a0 a1 N [] 0
theorem oP {N:Nat}{a0:TN}{a1:TY}{r:TN}(h:eu N a0 a1=some r):Okc Ua 129 [U A1 n1 c1,.map (some M2)] ([bc A1 n1 c1 a0,dk bj dq M2 a1]) (fun u post=> ∃A0 n0 c0,u=U A0 n0 c0/\post=[aC A0 n0 c0 r]):=by
 refine Dc Tryz.func129 J J ?_;simp only [qN];refine Y ?_;refine au (fun s L=> ∃p4 A4 n4 c4,wR N p4=some r/\s=[(4,U none 0 0),(5,U A4 n4 c4)]/\L=[aC A4 n4 c4 p4]) ?_ ?_
 ·refine Y ?_;refine gR (ki 0 J aM J t0) ?_;refine Y ?_;refine aY (fun m s L=> ∃p6 p7 A6 n6 c6,gl N a0 a1 m p6 p7=some r/\s=[(1,.map (some M2)),(4,U none 0 0),(5,U A6 n6 c6),(10,U A1 n1 c1),(11,iV (a0.length:Int)),(12,iV p7)]/\L=[dk bj dq M2 a1,aC A6 n6 c6 p6,bc A1 n1 c1 a0]) N _ _ ⟨[],0,none,0,0,h,J,J⟩ sA ((aU ap 23 _).trans (cS [2,0,1] 3)) ?_;rintro (_|m5) _ _ ⟨p6,p7,A6,n6,c6,h,rfl,rfl⟩
  ·exact ao h
  rw [gl.eq_2] at h;refine Y ?_;refine aG ?_;refine gH J h ?_ ?_<;>intro h
  ·refine Y ?_;refine aG ?_;refine Y ?_;obtain ⟨a2,a8,b0,b1,h⟩:=bz h;refine gR (fA 2 J aM J J t0 size23.out a8 b0) ?_;refine gR (pX (us:=[iV a2.Ui,iV a2.N,.string a2.S]) 2 J aM J b1 agg23.out (fun _ _ _ h=>by rw [show _=_ from h];rfl)) ?_
   refine gB (bX zero23.out J) fun b4=> ?_
   refine gW (aj (us:=[iV a2.Ui,iV a2.N,.string a2.S]) (cs':=[iV a2.Ui,iV a2.N,.string a2.S]) 0 J J J J size23.out J J J) ?_;refine Y ?_;refine au (fun s L=> ∃p13,nH N (gl N a0 a1 m5) a0 p7 a1 p6 a2 p13=some r/\s=[(1,.map (some M2)),(4,U none 0 0),(5,U A6 n6 c6),(7,pV b4 0),(10,U A1 n1 c1),(11,iV (a0.length:Int)),(12,iV p7)]/\L=[dk bj dq M2 a1,aC A6 n6 c6 p6,bc A1 n1 c1 a0,ab b4 23 [iV a2.Ui,iV p13,.string a2.S]]) ?_ ?_
   ·refine Y ?_;refine gR (rR (a:=a2.N) (z:=0) 1 J Pd J J Tj (ei hU) zero3.out) ?_;refine Y ?_;obtain ⟨b6,a6,h⟩:=aa h;refine aR 9 33 b6 ?_ ?_
    ·clear h;refine aP 24 J (fun b2=> ?_) (fun b2=> ?_)
     ·have h:=aE b2 a6;refine Y ?_;obtain ⟨b7,a7,h⟩:=aa h;refine aR 4 32 b7 ?_ ?_
      ·clear h;refine aP 28 J (fun b3=> ?_) (fun b3=> ?_)
       ·have h:=aE b3 a7;refine Y ?_;obtain rfl:=bS h;exact cJ sA (cS [0,1,2,3] 4)
       have h:=aF b3 a7;refine Y ?_;obtain rfl:=bS h;exact cJ sA (cS [0,1,2,3] 4)
      refine Y ?_;obtain rfl:=bS h;exact cJ sA (cS [0,1,2,3] 4)
     have h:=aF b2 a6;refine Y ?_;obtain rfl:=bS h;exact cJ sA (cS [0,1,2,3] 4)
    refine Y ?_;refine gH J h ?_ ?_<;>intro h
    ·refine Y ?_;refine gW (aj (us:=[iV ((lk a1 a2.N).getD 0)]) (cs':=[iV a2.Ui,iV ((lk a1 a2.N).getD 0),.string a2.S]) 0 J J J J size3.out J J J) ?_;refine Y ?_;exact ⟨_,_,⟨(lk a1 a2.N).getD 0,h,J,J⟩,sA,cS [1,2,3,0] 4⟩
    refine Y ?_;exact ⟨_,_,⟨a2.N,h,J,J⟩,sA,cS [1,2,3,0] 4⟩
   rintro _ _ ⟨p13,h,rfl,rfl⟩;refine Y ?_;refine gR (cm (us:=[iV a2.Ui,iV p13,.string a2.S]) 3 J J agg23.out J) ?_;refine gD (az (R:=ap) (vss:=[[iV a2.Ui,iV p13,.string a2.S]]) (xs:=[(⟨a2.Ui,p13,a2.S⟩:Ty)]) J (qh _ _ _) J J (fun _ _ hr=> .cons J All2.nil)) ?_;rintro _ _ ⟨d0,d1,d2,rfl,rfl⟩;obtain ⟨b8,h⟩:=ah h;refine gD (ay 2 0 J J aB J J t0 zf J J b8) ?_;rintro _ _ ⟨b9,c8,c9,rfl,rfl⟩;refine cU ?_;refine Y ?_;obtain ⟨b5,h⟩:=ah h;refine gE (dL J J b5.1 b5.2) ?_;refine Y ?_;exact ⟨m5,_,_,TR _,⟨p6++([(⟨a2.Ui,p13,a2.S⟩:Ty)]:List Ty),p7+1,b9,c8,c9,h,J,J⟩,sA,cS [1,2,3] 5⟩
  refine Y ?_;exact ⟨_,_,⟨p6,A6,n6,c6,h,J,J⟩,sA,cS [1] 3⟩
 rintro _ _ ⟨p4,A4,n4,c4,h,rfl,rfl⟩;refine Y ?_;obtain rfl:=bS h;exact sr J J (cS [0] 1) ⟨_,_,_,J,J⟩
def jw (N:Nat)(a1:TN)(a0:TM)(a2:TV)(b7:TO)(a6:Option Exit×TY)(b4:TN)(a7:Int)(a8:Int)(b0:Int)(b1:Int)(b5:TN)(b6:TN):Option (Option Exit×TV×TN):=
 (eu N b5 a6.2).bind fun b2=>(eu N b6 a6.2).bind fun b3=>be (bJ (a2.length+([(⟨a7,a8,b0,b1,b2,b3⟩:TB)]:List TB).length)) (some (none,(a2++([(⟨a7,a8,b0,b1,b2,b3⟩:TB)]:List TB),b4)))
def lP (N:Nat)(a1:TN)(a0:TM)(a8:TO)(b1:Option Exit×TY)(b3:Int×Int):(TV×TN)->Option (Option Exit×(TV×TN))
 |(b2,b0)=>(kP N a0 b3.2).bind fun a2=>bif decide (a2.Ui=8) then ((mE N a2 a8).bind fun a7=>jw N a1 a0 b2 a8 b1 b0 a7.Ui a7.Uw a7.Uv a7.Ux a7.Uo a7.Um) else (bif decide (a2.Ui=10) then ((kq N a2 a8).bind fun a6=>be (bJ (b0.length+a6.2.length)) (jw N a1 a0 b2 a8 b1 (b0++a6.2) a6.1.Ui a6.1.Uw a6.1.Uv a6.1.Ux a6.1.Uo a6.1.Um)) else (jw N a1 a0 b2 a8 b1 b0 a2.Ui a2.Uw a2.Uv a2.Ux a2.Uo a2.Um))
def lQ (N:Nat)(a1:TN)(a0:TM)(a6:TO)(a2:Int×Int):(TY)->Option (Option Exit×TY)
 |p21=>be (in64 (2*a2.1)) (be (in64 ((2*a2.1)+2)) (some (none,yy p21 a2.2 ((2*a2.1)+2))))
def nJ (N:Nat)(a0:TM)(a1:TN):Option (TM×TN×TN×Int):=
 (ls N a0 a1).bind fun y7=>bif !decide (y7=0) then (some ((⟨[],[]⟩:TM),[],[],y7)) else ((mH N a0 a1).bind fun a2=>(lr N a2).bind fun b1=>(fL N a2 (cY (fun x st=>lQ N a1 a0 a2 x st)) (none,([]:TY))).bind fun a6=>qP a6.1 ((lr N a2).bind fun b2=>(fL N a2 (cY (fun x st=>lP N a1 a0 a2 a6 x st)) (none,([],[]))).bind fun a7=>qP a7.1 ((eu N a1 a6.2).bind fun a8=>(eu N a7.2.2 a6.2).bind fun b0=>some ((⟨[],a7.2.1⟩:TM),a8,b0,0)) none (fun _=>none)) none (fun _=>none))
def jZ (N:Nat)(a1:TN)(a0:TM)(a2:TV)(b7:TO)(a6:Option Exit×TY)(b4:TN)(a7:Int)(a8:Int)(b0:Int)(b1:Int)(b5:TN)(b6:TN):Option (Option Exit×TV×TN):=
 (eu N b5 a6.2).bind fun b2=>(eu N b6 a6.2).bind fun b3=>be (bJ (a2.length+([(⟨a7,a8,b0,b1,b2,b3⟩:TB)]:List TB).length)) (some (none,(a2++([(⟨a7,a8,b0,b1,b2,b3⟩:TB)]:List TB),b4)))
def kc (N:Nat)(a1:TN)(a0:TM)(a8:TO)(b1:Option Exit×TY)(b3:Int×Int):(TV×TN)->Option (Option Exit×(TV×TN))
 |(b2,b0)=>(kP N a0 b3.2).bind fun a2=>bif decide (a2.Ui=8) then ((mE N a2 a8).bind fun a7=>jZ N a1 a0 b2 a8 b1 b0 a7.Ui a7.Uw a7.Uv a7.Ux a7.Uo a7.Um) else (bif decide (a2.Ui=10) then ((kq N a2 a8).bind fun a6=>be (bJ (b0.length+a6.2.length)) (jZ N a1 a0 b2 a8 b1 (b0++a6.2) a6.1.Ui a6.1.Uw a6.1.Uv a6.1.Ux a6.1.Uo a6.1.Um)) else (jZ N a1 a0 b2 a8 b1 b0 a2.Ui a2.Uw a2.Uv a2.Ux a2.Uo a2.Um))
def ke (N:Nat)(a1:TN)(a0:TM)(a6:TO)(a2:Int×Int):(TY)->Option (Option Exit×TY)
 |p21=>be (in64 (2*a2.1)) (be (in64 ((2*a2.1)+2)) (some (none,yy p21 a2.2 ((2*a2.1)+2))))
def dl (N:Nat)(a0:TM)(a1:TN):Option ((TM×TN×TN×Int) ⊕ (TM×TN×TN)):=
 (ls N a0 a1).bind fun y7=>bif !decide (y7=0) then (some (.inl ((⟨[],[]⟩:TM),[],[],y7))) else ((mH N a0 a1).bind fun a2=>(lr N a2).bind fun b1=>(fL N a2 (cY (fun x st=>ke N a1 a0 a2 x st)) (none,([]:TY))).bind fun a6=>qP a6.1 ((lr N a2).bind fun b2=>(fL N a2 (cY (fun x st=>kc N a1 a0 a2 a6 x st)) (none,([],[]))).bind fun a7=>qP a7.1 ((eu N a1 a6.2).bind fun a8=>(eu N a7.2.2 a6.2).bind fun b0=>some (.inr ((⟨[],a7.2.1⟩:TM),a8,b0))) none (fun _=>none)) none (fun _=>none))
theorem r9 {N:Nat}{a0:TM}{a1:TN}{r:((TM×TN×TN×Int) ⊕ (TM×TN×TN))}(h:dl N a0 a1=some r):Okc Ua 86 [.agg #[U A1 n1 c1,U A2 n2 c2],U A3 n3 c3] ([bc A3 n3 c3 a1,aZ A1 n1 c1 a0.Uj,aZ A2 n2 c2 a0.Ul]) (fun u post=>PG (fun (r:TM×TN×TN×Int)=> ∃b4 b5 b6 b7 b8 b9 c0 c8 c9 d0 d1 d2,u=.tuple #[.agg #[U b4 b5 b6,U b7 b8 b9],U c0 c8 c9,U d0 d1 d2,iV r.2.2.2]/\post=[aZ b4 b5 b6 r.1.Uj,aZ b7 b8 b9 r.1.Ul,aC c0 c8 c9 r.2.1,aC d0 d1 d2 r.2.2.1,aZ A1 n1 c1 a0.Uj,aZ A2 n2 c2 a0.Ul]) (fun (r:TM×TN×TN)=> ∃b4 b5 b6 b7 b8 b9 c0 c8 c9 d0 d1 d2,u=.tuple #[.agg #[U b4 b5 b6,U b7 b8 b9],U c0 c8 c9,U d0 d1 d2,iV 0]/\post=[aZ b4 b5 b6 r.1.Uj,aZ b7 b8 b9 r.1.Ul,aC c0 c8 c9 r.2.1,aC d0 d1 d2 r.2.2,aZ A1 n1 c1 a0.Uj,aZ A2 n2 c2 a0.Ul]) r):=by
 refine cA Tryz.func86 ?_;intro B4
 refine jg fun B5=> ?_
 intro B6;refine sY ?_;obtain ⟨y7,k,h⟩:=aa h;refine kD (oR (Dj k)) ?_;refine gH J h ?_ ?_<;>intro h
 ·refine ac ?_;obtain rfl:=bS h;exact fR (rs:=[.cell 4 96,.tmp 5,.cell 6 30,.tmp 7]) (vs:=[.agg #[U none 0 0,U none 0 0],U none 0 0,U none 0 0,iV y7]) J (.cons (bo 1 J J agg96.out) (.cons (pg J) (.cons (Fo 0 J J vz) (.cons (pg J) .nil)))) J ((aU eT 42 _).trans ((aU eT 42 _).trans ((aU ap 23 _).trans ((aU ap 23 _).trans (cS [3,2,1,0,8,9] 10))))) ⟨_,_,_,_,_,_,_,_,_,_,_,_,J,J⟩
 refine ac ?_;obtain ⟨b0,k,h⟩:=aa h
 refine nk (oR (D5 k)) fun a2 a6 a7=> ?_
 intro e2;refine ac ?_;refine gD (rX (ek:=bj) (ev:=dq)) ?_;rintro _ _ ⟨a8,rfl,rfl⟩
 refine jg fun e3=> ?_
 refine sZ ?_;obtain ⟨k9,k,h⟩:=aa h;refine gD (oR (wQ k)) ?_;rintro _ _ ⟨_,⟨j1,rfl,rfl⟩,rfl⟩;refine ac ?_;refine ie ?_ bu (iF 0 J);refine ie ?_ bu (bv 4 J);refine ac ?_;obtain ⟨e8,k,h⟩:=aa h;refine ux (en:=(fun x=> [iV x.1,iV x.2])) (fun x st=>ke N a1 a0 b0 x st) (fun (st:TY) (mz:Unit)=> [bc A3 n3 c3 a1,aZ A1 n1 c1 a0.Uj,aZ A2 n2 c2 a0.Ul,ab B4 96 [U A1 n1 c1,U A2 n2 c2],ab B5 96 [U none 0 0,U none 0 0],ab B6 30 [U none 0 0],db a2 a6 a7 b0,ab e2 39 [U a2 a6 a7],am bj dq a8 st,ab e3 170 [.map (some a8)]]) [ar j1 39 [U a2 a6 a7],db a2 a6 a7 b0] (([]:TY)) (()) J J call165.out J (fun _=>J) (fun l G hY=>(tc k hY).mono fun _ _ hh=>hh.2) (cL [0,4] [] [8,9,10,7,6,5,4,3,2,1] 11 J) h ?_ ?_ ?_ ?_
 ·rintro l h5 p21 je sr20 _ h;replace h:ke N a1 a0 b0 h5 p21=some (je,sr20):=h;simp only [An,List.zip_cons_cons,List.zip_nil_left,List.zip_nil_right,List.reverse_cons,List.reverse_nil,Ug,List.cons_append];refine ac ?_;obtain ⟨i8,h⟩:=ah h;refine gE (tJ J J i8.1 i8.2) ?_;obtain ⟨l0,h⟩:=ah h;refine ac ?_;refine HZ (ii (a:=h5.2) (b:=(2*h5.1)+2) 8 J J J J Tj (ei hU)) ?_;obtain ⟨rfl,rfl⟩:=Prod.mk.inj (Option.some.inj h);exact Cf ((cS [0,1,2,3,4,5,6,7,8,9] 10).trans (gr () J))
 ·rintro _ h;refine pQ ([bc A3 n3 c3 a1,aZ A1 n1 c1 a0.Uj,aZ A2 n2 c2 a0.Ul,ab B4 96 [U A1 n1 c1,U A2 n2 c2],ab B5 96 [U none 0 0,U none 0 0],ab B6 30 [U none 0 0],db a2 a6 a7 b0,ab e2 39 [U a2 a6 a7],am bj dq a8 e8.2,ab e3 170 [.map (some a8)]]) J ?_;refine sY ?_;obtain ⟨l1,k,h⟩:=aa h;refine gD (oR (wQ k)) ?_;rintro _ _ ⟨_,⟨j2,rfl,rfl⟩,rfl⟩;refine ac ?_;refine ie ?_ bu (iF 0 J);obtain ⟨j0,k,h⟩:=aa h;refine ux (en:=(fun x=> [iV x.1,iV x.2])) (fun x st=>kc N a1 a0 b0 e8 x st) (fun (st:TV×TN) (mz:((Option Addr×Nat×Nat)×(Option Addr×Nat×Nat)))=> [bc A3 n3 c3 a1,aZ A1 n1 c1 a0.Uj,aZ A2 n2 c2 a0.Ul,ab B4 96 [U A1 n1 c1,U A2 n2 c2],eK eT 42 (.slice mz.1.1 mz.1.2.1 mz.1.2.2) st.1,ab B5 96 [U none 0 0,.slice mz.1.1 mz.1.2.1 mz.1.2.2],eK ap 23 (.slice mz.2.1 mz.2.2.1 mz.2.2.2) st.2,ab B6 30 [.slice mz.2.1 mz.2.2.1 mz.2.2.2],db a2 a6 a7 b0,ab e2 39 [U a2 a6 a7],am bj dq a8 e8.2,ab e3 170 [.map (some a8)]]) [ar j2 39 [U a2 a6 a7],db a2 a6 a7 b0] (([],[])) (((none,0,0),(none,0,0))) J J call165.out J (fun _=>J) (fun l G hY=>(tc k hY).mono fun _ _ hh=>hh.2) ((aU eT 42 _).trans ((aU ap 23 _).trans (cL [2,9] [] [3,4,5,6,1,7,0,8,9,10,11,12] 13 J))) h ?_ ?_ ?_ ?_
  ·rintro l j3 ⟨h1,j4⟩ je sr27 ⟨⟨b1,b2,b3⟩,⟨g8,g9,h0⟩⟩ h;replace h:kc N a1 a0 b0 e8 j3 (h1,j4)=some (je,sr27):=h;simp only [An,List.zip_cons_cons,List.zip_nil_left,List.zip_nil_right,List.reverse_cons,List.reverse_nil,Ug,List.cons_append];refine ac ?_;obtain ⟨l2,k,h⟩:=aa h
   refine FN (oR (wy k)) fun l3 l4 l5 l6 l7 l8=> ?_
   intro e4;refine ac ?_;refine au (fun s L=> ∃h2 e9 f1 f2 f3 h3 h4 g2 g3 g4 g5 g6 g7 f4 g0 g1,jZ N a1 a0 h1 b0 e8 h2 e9 f1 f2 f3 h3 h4=some (je,sr27)/\s=[(1,U A3 n3 c3),(2,pV B4 0),(4,pV B5 0),(5,U none 0 0),(6,pV B6 0),(7,iV 0),(9,pV e2 0),(10,pV e3 0),(15,pV e4 0)]/\L=[bc A3 n3 c3 a1,aZ A1 n1 c1 a0.Uj,aZ A2 n2 c2 a0.Ul,ab B4 96 [U A1 n1 c1,U A2 n2 c2],aZ b1 b2 b3 h1,ab B5 96 [U none 0 0,U b1 b2 b3],aC g2 g3 g4 h2,ab B6 30 [U g2 g3 g4],db a2 a6 a7 b0,ab e2 39 [U a2 a6 a7],am bj dq a8 e8.2,ab e3 170 [.map (some a8)],aC g5 g6 g7 h3,aC f4 g0 g1 h4,ab e4 42 [iV e9,iV f1,iV f2,iV f3,U g5 g6 g7,U f4 g0 g1]]) ?_ ?_
   ·refine fw h ?_ ?_<;>intro h
    ·refine ac ?_;obtain ⟨l9,k,h⟩:=aa h
     refine FN (oR (ye k)) fun m0 m1 m2 m3 m4 m5=> ?_
     exact jN
    refine fw h ?_ ?_<;>intro h
    ·refine ac ?_;obtain ⟨m6,k,h⟩:=aa h
     refine Qx (oR (vF k)) fun m7 m8 m9 n0 n8 n9 o0 o1 o2=> ?_
     obtain ⟨j5,h⟩:=ah h
     refine nk (ay 12 2 J J aB J J t0 zf J J j5) fun p0 p1 p2=> ?_
     exact jN
    exact jY
   rintro _ _ ⟨h2,e9,f1,f2,f3,h3,h4,g2,g3,g4,g5,g6,g7,f4,g0,g1,h,rfl,rfl⟩;refine aG ?_;obtain ⟨h6,h7,h⟩:=aa h;obtain ⟨h8,h9,h⟩:=aa h;refine ie (t:=[(1,U A3 n3 c3),(2,pV B4 0),(4,pV B5 0),(5,U none 0 0),(6,pV B6 0),(7,iV 0),(9,pV e2 0),(10,pV e3 0),(15,pV e4 0)]) ?_ lW (ad _)
   refine iW I 9 [] [3,7,8] [62,63,64,65,66,67,68,69,70] [[],[0],[],[1,2],[],[4],[],[5,6],[]] [aV (pV e4 4),
aV (U g5 g6 g7),
aV (.map (some a8)),
aX3 (fun (d3:Option Addr) (d4 d6:Nat)=> U d3 d4 d6) (fun d3 d4 d6=> [aC d3 d4 d6 h6]),
aV (pV e4 5),
aV (U f4 g0 g1),
aV (.map (some a8)),
aX3 (fun (e5:Option Addr) (e6 e7:Nat)=> U e5 e6 e7) (fun e5 e6 e7=> [aC e5 e6 e7 h8]),
aV (pV e4 4)] [] (ad _) (lB) I rfl rfl ?_ ?_ ?_
   ·exact lA
   ·refine ae J ?_ ?_
    ·exact bU (dj J FU) J (aQ J (ad _))
    refine ae J ?_ ?_
    ·refine uv (oR (oP h9)) J ?_;rintro _ _ ⟨_,⟨j6,j7,j8,rfl,rfl⟩,rfl⟩;exact vc j6 j7 j8 (ad _)
    refine ae J ?_ ?_
    ·exact dy (bp 11 J J HN J) J (aQ J (ad _))
    refine ae J ?_ ?_
    ·exact dy (bp 14 J J vz J) J (aQ J (ad _))
    refine ae J ?_ ?_
    ·exact bU (dj J xJ) J (aQ J (ad _))
    refine ae J ?_ ?_
    ·refine uv (oR (oP h7)) J ?_;rintro _ _ ⟨_,⟨j9,k0,k1,rfl,rfl⟩,rfl⟩;exact vc j9 k0 k1 (ad _)
    refine ae J ?_ ?_
    ·exact dy (bp 11 J J HN J) J (aQ J (ad _))
    refine ae J ?_ ?_
    ·exact dy (bp 14 J J vz J) J (aQ J (ad _))
    refine ae J ?_ ?_
    ·exact bU (dj J FU) J (aQ J (ad _))
    exact ee
   intro d3 d4 d6 e5 e6 e7;refine nD (t:=[(65,U d3 d4 d6),(69,U e5 e6 e7),(70,pV e4 4),(1,U A3 n3 c3),(2,pV B4 0),(4,pV B5 0),(5,U none 0 0),(6,pV B6 0),(7,iV 0),(9,pV e2 0),(10,pV e3 0),(15,pV e4 0)]) (L':=[aC d3 d4 d6 h6,aC e5 e6 e7 h8,bc A3 n3 c3 a1,aZ A1 n1 c1 a0.Uj,aZ A2 n2 c2 a0.Ul,ab B4 96 [U A1 n1 c1,U A2 n2 c2],aZ b1 b2 b3 h1,ab B5 96 [U none 0 0,U b1 b2 b3],aC g2 g3 g4 h2,ab B6 30 [U g2 g3 g4],db a2 a6 a7 b0,ab e2 39 [U a2 a6 a7],am bj dq a8 e8.2,ab e3 170 [.map (some a8)],aC g5 g6 g7 h3,aC f4 g0 g1 h4,ab e4 42 [iV e9,iV f1,iV f2,iV f3,U g5 g6 g7,U f4 g0 g1]]) ?_ lW (ad _);refine vI 9 J I (aj (us:=[U d3 d4 d6]) (cs':=[iV e9,iV f1,iV f2,iV f3,U d3 d4 d6,U f4 g0 g1]) 16 J J J J size30.out J J J) J J ?_;rintro _ _ rfl;refine zc 10 J I (dj J xJ) J J J ?_;refine vI 11 J I (aj (us:=[U e5 e6 e7]) (cs':=[iV e9,iV f1,iV f2,iV f3,U d3 d4 d6,U e5 e6 e7]) 16 J J J J size30.out J J J) J J ?_;rintro _ _ rfl;refine BE ?_;refine lD I ?_;refine ac ?_;refine nX (bv 0 J) ?_;refine nX (bv 1 J) ?_
   refine gD (az (R:=eT) (vss:=[[iV e9,iV f1,iV f2,iV f3,U d3 d4 d6,U e5 e6 e7]]) (xs:=[(⟨e9,f1,f2,f3,h6,h8⟩:TB)]) J (xe _ _ _ _ _ _ _ _ _ _) J J (fun _ _ hr=> .cons (⟨_,_,_,_,_,_,J,hr 0 _ J J,hr 1 _ J J⟩) All2.nil)) ?_;rintro _ _ ⟨p3,p4,p5,rfl,rfl⟩;obtain ⟨k2,h⟩:=ah h
   refine nk (ay 7 0 J J aB J J SZ F7 J J k2) fun k3 k4 k5=> ?_
   obtain ⟨rfl,rfl⟩:=Prod.mk.inj (Option.some.inj h);exact Cf ((cS [3,4,5,6,7,8,9,10,11,12,13,14] 18).trans (gr ((k3,k4,k5),(g2,g3,g4)) J))
  ·rintro ⟨⟨b1,b2,b3⟩,⟨g8,g9,h0⟩⟩ h;refine pQ ([bc A3 n3 c3 a1,aZ A1 n1 c1 a0.Uj,aZ A2 n2 c2 a0.Ul,ab B4 96 [U A1 n1 c1,U A2 n2 c2],aZ b1 b2 b3 j0.2.1,ab B5 96 [U none 0 0,U b1 b2 b3],aC g8 g9 h0 j0.2.2,ab B6 30 [U g8 g9 h0],db a2 a6 a7 b0,ab e2 39 [U a2 a6 a7],am bj dq a8 e8.2,ab e3 170 [.map (some a8)]]) J ?_;refine ac ?_;refine dY [0,1,2,4,5] ?_;obtain ⟨p6,k,h⟩:=aa h;refine zD 3 J (oR (oP k)) ?_;rintro _ _ ⟨_,⟨k6,k7,k8,rfl,rfl⟩,rfl⟩;refine aA (cS [1,2,3,4,5,6,7,8,9,10,11,12] 13) ?_;obtain ⟨p7,k,h⟩:=aa h;refine zD 6 J (oR (oP k)) ?_;rintro _ _ ⟨_,⟨i0,i1,i2,rfl,rfl⟩,rfl⟩;refine aA (cS [2,3,4,5,6,7,8,9,10,11,12,13] 14) ?_;refine zO 7 J (aj (us:=[U none 0 0,U b1 b2 b3]) (cs':=[U none 0 0,U b1 b2 b3]) 7 J J J J size96.out J J J) ?_;rintro _ _ rfl;refine aA (cS [2,3,4,5,6,7,8,9,10,11,12,13] 14) ?_;refine zY [8] ?_;refine f9 9 J I I (aj (us:=[U i0 i1 i2]) (cs':=[U i0 i1 i2]) 9 J J J J size30.out J J J) ?_;rintro _ _ rfl;refine zX [10] ?_;refine ac ?_;obtain rfl:=bS h;exact fR (rs:=[.cell 4 96,.tmp 5,.cell 6 30,.tmp 7]) (vs:=[.agg #[U none 0 0,U b1 b2 b3],U k6 k7 k8,U i0 i1 i2,iV 0]) J (.cons (bo 7 J J agg96.out) (.cons (pg J) (.cons (Fo 9 J J vz) (.cons (pg J) .nil)))) J ((aU eT 42 _).trans (cS [0,7,2,1,4,5] 15)) ⟨_,_,_,_,_,_,_,_,_,_,_,_,J,J⟩
  ·rintro ⟨⟨b1,b2,b3⟩,⟨g8,g9,h0⟩⟩ h;exact ao h
  rintro i ⟨⟨b1,b2,b3⟩,⟨g8,g9,h0⟩⟩ h;exact ao h
 ·rintro _ h;exact ao h
 rintro i _ h;exact ao h
def mw (N:Nat)(a0:TN)(a1:TI):Option ((TM×TN×TN×Int) ⊕ (TM×TN×TN)):=
 (dl N a1.m_ a0).bind fun a2=>CF a2 (fun y11_0=>some (.inl (y11_0.1,y11_0.2.1,y11_0.2.2.1,y11_0.2.2.2))) (fun y11_1=>some (.inr (y11_1.1,y11_1.2.1,y11_1.2.2)))
theorem cF {N:Nat}{a0:TN}{a1:TI}{r:((TM×TN×TN×Int) ⊕ (TM×TN×TN))}(h:mw N a0 a1=some r):Okc Ua 85 [U A1 n1 c1,pV B2 0] ([bc A1 n1 c1 a0,ar B2 46 [pV B3 0],ab B3 99 [U A4 n4 c4,U A5 n5 c5,U A6 n6 c6,U A7 n7 c7,pV B8 0],aZ A4 n4 c4 a1.m_.Uj,aZ A5 n5 c5 a1.m_.Ul,aC A6 n6 c6 a1.Ur,aC A7 n7 c7 a1.Uz,ab B8 147 [.map (some M9)],am bj bH M9 a1.Uy.at_]) (fun u post=>PG (fun (r:TM×TN×TN×Int)=> ∃a2 a6 a7 a8 b0 b1 b2 b3 b4 b5 b6 b7,u=.tuple #[.agg #[U a2 a6 a7,U a8 b0 b1],U b2 b3 b4,U b5 b6 b7,iV r.2.2.2]/\post=[aZ a2 a6 a7 r.1.Uj,aZ a8 b0 b1 r.1.Ul,aC b2 b3 b4 r.2.1,aC b5 b6 b7 r.2.2.1,aZ A4 n4 c4 a1.m_.Uj,aZ A5 n5 c5 a1.m_.Ul,aC A6 n6 c6 a1.Ur,aC A7 n7 c7 a1.Uz,ab B3 99 [U A4 n4 c4,U A5 n5 c5,U A6 n6 c6,U A7 n7 c7,pV B8 0],ab B8 147 [.map (some M9)],am bj bH M9 a1.Uy.at_]) (fun (r:TM×TN×TN)=> ∃a2 a6 a7 a8 b0 b1 b2 b3 b4 b5 b6 b7,u=.tuple #[.agg #[U a2 a6 a7,U a8 b0 b1],U b2 b3 b4,U b5 b6 b7,iV 0]/\post=[aZ a2 a6 a7 r.1.Uj,aZ a8 b0 b1 r.1.Ul,aC b2 b3 b4 r.2.1,aC b5 b6 b7 r.2.2,aZ A4 n4 c4 a1.m_.Uj,aZ A5 n5 c5 a1.m_.Ul,aC A6 n6 c6 a1.Ur,aC A7 n7 c7 a1.Uz,ab B3 99 [U A4 n4 c4,U A5 n5 c5,U A6 n6 c6,U A7 n7 c7,pV B8 0],ab B8 147 [.map (some M9)],am bj bH M9 a1.Uy.at_]) r):=by
 refine cA Tryz.func85 ?_;intro c0;refine ac ?_;obtain ⟨b9,b8,h⟩:=aa h;rcases b9 with y11_0|y11_1
 ·replace h:=Iu h
  refine Qd (oC (r9 b8)) fun c8 c9 d0 d1 d2 d3 d4 d6 e2 e3 e4 e5=> ?_
  exact eN
 replace h:=It h
 refine Qd (oC (r9 b8)) fun e6 e7 e8 e9 f1 f2 f3 f4 g0 g1 g2 g3=> ?_
 exact eN
def jh (N:Nat)(a0:Tw):Option TO:=
 (wO N a0.at_).bind fun y3=>(qn N a0.at_).bind fun y5=>some y5
theorem rN {N:Nat}{a0:Tw}{r:TO}(h:jh N a0=some r):Okc Ua 57 [pV B1 0] ([ar B1 147 [.map (some M2)],dk bj bH M2 a0.at_]) (fun u post=> ∃A0 n0 c0,u=U A0 n0 c0/\post=[eA A0 n0 c0 r]):=by
 refine cA Tryz.func57 ?_;refine sZ ?_;refine fC (bD J Td) ?_;refine cy J ?_;refine ac ?_;obtain ⟨y3,k,h⟩:=aa h;refine gD (oR (FA k)) ?_;rintro _ _ ⟨_,⟨B4,rfl,rfl⟩,rfl⟩;obtain ⟨y5,k,h⟩:=aa h
 refine nk (oR (AJ k)) fun A6 n6 c6=> ?_
 exact eN
def ld (N:Nat)(a0:Ty):Option (Int×Bool):=
 (bif decide (a0.Ui=7) then (some true) else (some (decide (a0.Ui=9)))).bind fun b2=>some (a0.N,b2)
theorem uj {N:Nat}{a0:Ty}{r:Int×Bool}(h:ld N a0=some r):Okc Ua 174 [(gA a0)] ([]) (fun u post=>u=.tuple #[iV r.1,.bool r.2]/\post=[]):=by
 refine cA Tryz.func174 ?_;intro B1;refine ac ?_;refine dY [0,1,2,3,4,5,10] ?_;obtain ⟨b2,a1,h⟩:=aa h;refine nB (fun l=>((((l.setIfInBounds 6 true).setIfInBounds 7 true).setIfInBounds 8 true).setIfInBounds 9 true)) 1 13 b2 (fun rest=> ?_) ?_
 ·clear h;refine pP 9 J (fun g2=> ?_) (fun g2=> ?_)
  ·have h:=aE g2 a1;refine cV 6 J I (nw g2 J) J ?_;refine cV 7 J I (nw g2 J) J ?_;refine cV 8 J I (nw g2 J) J ?_;refine zE 9 J (gM g2 J J) ?_;obtain rfl:=bS h;exact jJ rest (dt J (ai (ai (ai (ai bu J) J) J) J)) (ad _) (ad _)
  have h:=aF g2 a1;refine iO 6 J I (ni J tf) (fN g2 J) J ?_;refine qi 7 J I (bp 0 J J oH J) (fN g2 J) J ?_;refine iO 8 J I (DI J J) (fN g2 J) J ?_;refine zE 9 J (gN g2 J J) ?_;obtain rfl:=bS h;exact jJ rest (dt J (ai (ai (ai (ai bu J) J) J) J)) (ad _) (ad _)
 refine zX [11] ?_;exact eY
def oL (N:Nat)(a0:Ty)(a1:TM):Option Bool:=
 (ld N a0).bind fun y5=>(bif y5.2 then ((jq N a1 y5.1).bind fun y7=>some (!y7)) else (some false)).bind fun b6=>some b6
theorem Cd {N:Nat}{a0:Ty}{a1:TM}{r:Bool}(h:oL N a0 a1=some r):Okc Ua 173 [(gA a0),pV B1 0] ([ar B1 96 [U A2 n2 c2,U A3 n3 c3],bf A2 n2 c2 a1.Uj,bf A3 n3 c3 a1.Ul]) (fun u post=>u=.bool r/\post=[]):=by
 refine cA Tryz.func173 ?_;intro B4;refine ac ?_;obtain ⟨y5,k,h⟩:=aa h;refine kD (oR (uj k)) ?_;obtain ⟨b6,a2,h⟩:=aa h;refine aR 5 17 b6 ?_ ?_
 ·clear h;refine aP 12 J (fun g6=> ?_) (fun g6=> ?_)
  ·have h:=aE g6 a2;refine ac ?_;obtain ⟨y7,k,h⟩:=aa h;refine gU (oR (kO k)) (cB g6 J) ?_;exact gY
  have h:=aF g6 a2;exact gY
 exact eY
def mU (N:Nat)(ff:Ty->Option Bool):Option Int:=
 some (-1)
def dD (N:Nat)(ff:Ty->Option Bool)(a0:TN):Nat->Int->Option Int
 |0,_=>none
 |m3+1,p4=>bif decide (p4<(a0.length:Int)) then ((aw a0 p4).bind fun x6=>(ff x6).bind fun y7=>bif y7 then (some p4) else (be (in64 (p4+1)) ((dD N ff a0 m3) (p4+1)))) else (mU N ff)
def jC (N:Nat)(a0:TN)(ff:Ty->Option Bool):Option Int:=
 dD N ff a0 N 0
theorem sH {N:Nat}{a0:TN}{ff:Ty->Option Bool}{r:Int}(h:jC N a0 ff=some r){vf:Value}{G:List Chunk}(hf:Ik Ua vf G (fun x=> [.agg #[iV x.Ui,iV x.N,.string x.S]]) (fun r=> .bool r) ff):Okc Ua 91 [U A1 n1 c1,vf] (bc A1 n1 c1 a0::G) (fun u post=>u=iV r/\post=[]):=by
 refine cA Tryz.func91 ?_;refine au (fun s L=>mU N ff=some r/\s=[(4,iV 0)]/\L=G) ?_ ?_
 ·refine ac ?_;refine aY (fun m s L=> ∃p4,dD N ff a0 m p4=some r/\s=[(0,U A1 n1 c1),(1,vf),(4,iV 0),(7,iV (a0.length:Int)),(8,iV p4)]/\L=bc A1 n1 c1 a0::G) N _ _ ⟨0,h,J,J⟩ sA (cS [0] 1) ?_;rintro (_|m3) _ _ ⟨p4,h,rfl,rfl⟩
  ·exact ao h
  rw [dD.eq_2] at h;refine ac ?_;refine aG ?_;refine gH J h ?_ ?_<;>intro h
  ·refine sY ?_;obtain ⟨x6,a1,a2,a6,h⟩:=bz h;refine ac ?_;obtain ⟨y7,k,h⟩:=aa h;refine gD (Da (a:=x6) [bc A1 n1 c1 a0] hf k J J) ?_;rintro _ _ ⟨rfl,rfl⟩;refine fw h ?_ ?_<;>intro h
   ·exact eY
   refine ac ?_;obtain ⟨q9,h⟩:=ah h;exact lY
  exact jY
 rintro _ _ ⟨h,rfl,rfl⟩;exact eY
theorem qW {r:Int}: ∀v post,((fun (u:Value) (post:List Chunk)=>u=iV r/\post=[])) v post-> ∀c∈post,jP c:=by
 rintro _ _ ⟨rfl,rfl⟩;exact aD
def cz (N:Nat)(a0:TN)(ff:Ty->Option Bool):Option Bool:=
 (jC N a0 ff).bind fun y2=>some (decide (0<=y2))
theorem kY {N:Nat}{a0:TN}{ff:Ty->Option Bool}{r:Bool}(h:cz N a0 ff=some r){vf:Value}{G:List Chunk}(hf:Ik Ua vf G (fun x=> [.agg #[iV x.Ui,iV x.N,.string x.S]]) (fun r=> .bool r) ff):Okc Ua 50 [U A1 n1 c1,vf] (bc A1 n1 c1 a0::G) (fun u post=>u=.bool r/\post=[]):=by
 refine cA Tryz.func50 ?_;obtain ⟨y2,k,h⟩:=aa h;refine kD (cp (sH k hf) call91.out J (hP (cG (i:=0) J J) (Bc (E:=[bc A1 n1 c1 a0]) hf.1)) qW) ?_;exact eN
def iQ (N:Nat)(p3:TV):Option TV:=
 some p3
def ma (N:Nat)(a1:Int):Option TV:=
 bif decide (a1<0) then none else (be (in64 (0 - 0)) (be (in64 (a1 - (0 - 0))) (bif decide (0<a1 - (0 - 0)) then (be ((0:Int)<(a1 - (0 - 0))/\(a1 - (0 - 0))<=1099511627776) (iQ N ([]:List TB))) else (iQ N []))))
theorem vK {N:Nat}{a1:Int}{r:TV}(h:ma N a1=some r):Okc Ua 94 [U none 0 0,iV a1] ([]) (fun u post=> ∃A0 n0 c0,u=U A0 n0 c0/\post=[aZ A0 n0 c0 r]):=by
 refine cA Tryz.func94 ?_;refine sZ ?_;refine gH J h ?_ ?_<;>intro h
 ·exact ao h
 refine ac ?_;refine au (fun s L=> ∃p3 A3 n3 c3,iQ N p3=some r/\s=[(0,U A3 n3 c3),(4,U none 0 0)]/\L=[aZ A3 n3 c3 p3]) ?_ ?_
 ·refine ac ?_;refine fC (xO J SZ) ?_;refine gE (oW J SZ) ?_;obtain ⟨q4,h⟩:=ah h;refine ac ?_;obtain ⟨q5,h⟩:=ah h;refine fw h ?_ ?_<;>intro h
  ·refine ac ?_;refine gE (xO J SZ) ?_;refine fC (Bi J SZ size42.out J) ?_;obtain ⟨q7,h⟩:=ah h
   refine nk (yL J J SZ hU F7 J q7.1 q7.2) fun A8 n8 c8=> ?_
   refine gE (oW J SZ) ?_
   refine nk (Fv (R:=eT) 0 J J SZ size42.out J J) fun A9 n9 c9=> ?_
   exact jN
  refine ac ?_;exact ⟨_,_,⟨[],none,0,0,h,J,J⟩,sA,(aU eT 42 _).trans (cS [0] 1)⟩
 rintro _ _ ⟨p3,A3,n3,c3,h,rfl,rfl⟩;exact eY
def kH (N:Nat)(a1:TV):Option TV:=
 some a1
def ly (N:Nat)(a0_0:TV)(a0_1:TV):Option TV:=
 (ma N ((0+(a0_0.length:Int))+(a0_1.length:Int))).bind fun y9=>be (bJ (y9.length+a0_0.length)) (be (bJ ((y9++a0_0).length+a0_1.length)) (kH N ((y9++a0_0)++a0_1)))
def ga (N:Nat)(a0_0:TV)(a0_1:TV):Option TV:=
 be (in64 (0+(a0_0.length:Int))) (bif decide (0+(a0_0.length:Int)<0) then none else (be (in64 ((0+(a0_0.length:Int))+(a0_1.length:Int))) (bif decide ((0+(a0_0.length:Int))+(a0_1.length:Int)<0) then none else (ly N a0_0 a0_1))))
theorem o6 {N:Nat}{a0_0:TV}{a0_1:TV}{r:TV}(h:ga N a0_0 a0_1=some r):Okc Ua 54 [.slice (some ⟨B1,0,none⟩) 2 2] ([ar B1 94 [U A2 n2 c2,U A3 n3 c3],bf A2 n2 c2 a0_0,bf A3 n3 c3 a0_1]) (fun u post=> ∃A0 n0 c0,u=U A0 n0 c0/\post=[aZ A0 n0 c0 r]):=by
 refine cA Tryz.func54 ?_;refine au (fun s L=>ly N a0_0 a0_1=some r/\s=[(0,.slice (some ⟨B1,0,none⟩) 2 2),(2,U none 0 0),(3,iV ((0+(a0_0.length:Int))+(a0_1.length:Int)))]/\L=[bf A2 n2 c2 a0_0,bf A3 n3 c3 a0_1,ar B1 94 [U A2 n2 c2,U A3 n3 c3]]) ?_ ?_
 ·refine ac ?_;refine fC (oW J Tb) ?_;refine sF 3 ?_;refine tM ?_;refine ac ?_;refine aG ?_;refine cK J ?_;refine sY ?_;refine fC (nU J J Tb size94.out (by decide) (by decide)) ?_;obtain ⟨q5,h⟩:=ah h;refine fw h ?_ ?_<;>intro h
  ·exact ao h
  refine ac ?_;refine fC (dL J J (by decide) (by decide)) ?_;refine tM ?_;refine ac ?_;refine aG ?_;refine cK J ?_;refine sY ?_;refine fC (nU J J Tb size94.out (by decide) (by decide)) ?_;obtain ⟨q7,h⟩:=ah h;refine fw h ?_ ?_<;>intro h
  ·exact ao h
  refine ac ?_;refine fC (dL J J (by decide) (by decide)) ?_;refine tM ?_;refine ac ?_;refine aG ?_;refine cy J ?_;exact jY
 rintro _ _ ⟨h,rfl,rfl⟩;refine ac ?_;obtain ⟨y9,k,h⟩:=aa h
 refine nk (oC (vK k)) fun b1 b2 b3=> ?_
 refine au (fun s L=> ∃a1 a2 a6 a7,kH N a1=some r/\s=[(2,U none 0 0),(6,U a2 a6 a7)]/\L=[aZ a2 a6 a7 a1]) ?_ ?_
 ·refine ac ?_;refine fC (oW J Tb) ?_;refine sF 3 ?_;refine tM ?_;refine ac ?_;refine aG ?_;refine cK J ?_;refine sY ?_;refine fC (nU J J Tb size94.out (by decide) (by decide)) ?_;obtain ⟨a8,h⟩:=ah h
  refine nk (ay 0 1 J J aM J J SZ F7 J J a8) fun b4 b5 b6=> ?_
  refine fC (dL J J (by decide) (by decide)) ?_;refine tM ?_;refine ac ?_;refine aG ?_;refine cK J ?_;refine sY ?_;refine fC (nU J J Tb size94.out (by decide) (by decide)) ?_;obtain ⟨b0,h⟩:=ah h
  refine nk (ay 0 2 J J aM J J SZ F7 J J b0) fun b7 b8 b9=> ?_
  refine fC (dL J J (by decide) (by decide)) ?_;refine tM ?_;refine ac ?_;refine aG ?_;refine cy J ?_;exact jY
 rintro _ _ ⟨a1,a2,a6,a7,h,rfl,rfl⟩;exact eY
def ju (N:Nat)(a0:TB):Option TO:=
 (f0 N a0).bind fun y4=>(jH N a0).bind fun y6=>be (bJ (y4.length+y6.length)) (some (y4++y6))
theorem rZ {N:Nat}{a0:TB}{r:TO}(h:ju N a0=some r):Okc Ua 176 [.agg #[iV a0.Ui,iV a0.Uw,iV a0.Uv,iV a0.Ux,U A1 n1 c1,U A2 n2 c2]] ([bc A1 n1 c1 a0.Uo,bc A2 n2 c2 a0.Um]) (fun u post=> ∃A0 n0 c0,u=U A0 n0 c0/\post=[eA A0 n0 c0 r]):=by
 refine cA Tryz.func176 ?_;intro B3;refine ac ?_;refine dY [0,2] ?_;obtain ⟨y4,k,h⟩:=aa h;refine zD 1 J (oR (jI k)) ?_;rintro _ _ ⟨_,⟨A5,n5,c5,rfl,rfl⟩,rfl⟩;refine aA (cS [1,2,3] 4) ?_;obtain ⟨y6,k,h⟩:=aa h;refine zD 3 J (oR (oZ k)) ?_;rintro _ _ ⟨_,⟨A7,n7,c7,rfl,rfl⟩,rfl⟩;refine aA (cS [2,3,4] 5) ?_;obtain ⟨q8,h⟩:=ah h;refine zD 4 J (ay 1 0 J J aB J J t5 F5 J J q8) ?_;rintro _ _ ⟨A9,n9,c9,rfl,rfl⟩;refine aA (cS [2,3,4] 5) ?_;refine zX [5] ?_;exact eY
def pn (N:Nat)(a0:Int)(a1:TM):Option Bool:=
 (jq N a1 a0).bind fun y4=>some (!y4)
theorem zM {N:Nat}{a0:Int}{a1:TM}{r:Bool}(h:pn N a0 a1=some r):Okc Ua 194 [iV a0,pV B1 0] ([ar B1 96 [U A2 n2 c2,U A3 n3 c3],bf A2 n2 c2 a1.Uj,bf A3 n3 c3 a1.Ul]) (fun u post=>u=.bool r/\post=[]):=by
 refine cA Tryz.func194 ?_;obtain ⟨y4,k,h⟩:=aa h;refine kD (oR (kO k)) ?_;exact eN
def wJ (N:Nat):Option Bool:=
 some true
def oJ (N:Nat)(y6:TV)(a0:TM):Nat->Int->Option Bool
 |0,_=>none
 |m8+1,p9=>bif decide (p9<(y6.length:Int)) then ((aw y6 p9).bind fun a1=>(fY N a1).bind fun a2=>(bif !a2 then (some true) else ((ju N a1).bind fun a6=>(bF N a6 (fun x=>pn N x a0)).bind fun a7=>some a7)).bind fun a8=>bif a8 then (some false) else (be (in64 (p9+1)) ((oJ N y6 a0 m8) (p9+1)))) else (wJ N)
def pH (N:Nat)(a0:TM):Option Bool:=
 (ga N a0.Uj a0.Ul).bind fun y6=>oJ N y6 a0 N 0
theorem Dh {N:Nat}{a0:TM}{r:Bool}(h:pH N a0=some r):Okc Ua 175 [.agg #[U A1 n1 c1,U A2 n2 c2]] ([bf A1 n1 c1 a0.Uj,bf A2 n2 c2 a0.Ul]) (fun u post=>u=.bool r/\post=[]):=by
 refine cA Tryz.func175 ?_;intro B3;refine ac ?_;refine au (fun s L=>wJ N=some r/\s=[(2,.bool false)]/\L=[]) ?_ ?_
 ·refine ac ?_
  refine gB (eU (cs:=[U A1 n1 c1,U A2 n2 c2]) J (Bo _ _ _ _ _ _)) fun B5=> ?_
  obtain ⟨y6,k,h⟩:=aa h;refine nX (iF 0 J) ?_
  refine nk (oC (o6 k)) fun A7 n7 c7=> ?_
  refine aY (fun m s L=> ∃p9,oJ N y6 a0 m p9=some r/\s=[(1,pV B3 0),(2,.bool false),(10,U A7 n7 c7),(11,iV (y6.length:Int)),(12,iV p9)]/\L=[aZ A7 n7 c7 y6,bf A1 n1 c1 a0.Uj,bf A2 n2 c2 a0.Ul,ab B3 96 [U A1 n1 c1,U A2 n2 c2]]) N _ _ ⟨0,h,J,J⟩ sA (cS [0,3,4,2] 5) ?_;rintro (_|m8) _ _ ⟨p9,h,rfl,rfl⟩
  ·exact ao h
  rw [oJ.eq_2] at h;refine ac ?_;refine aG ?_;refine gH J h ?_ ?_<;>intro h
  ·refine sY ?_;obtain ⟨a2,a8,b0,a7,h⟩:=bz h;refine ac ?_;refine gD (K1 0 J aB J a7 agg42.out J (gK a2)) ?_;rintro u _ ⟨_,_,⟨b1,b2,b3,b4,b5,b6,rfl,rfl⟩,hu,rfl⟩;obtain rfl:u=.agg #[iV a2.Ui,iV a2.Uw,iV a2.Uv,iV a2.Ux,U b1 b2 b3,U b4 b5 b6]:=hu
   refine jg fun b8=> ?_
   obtain ⟨b9,k,h⟩:=aa h;refine kD (oR (lu k)) ?_;obtain ⟨b7,a6,h⟩:=aa h;refine aR 5 24 b7 ?_ ?_
   ·clear h;refine aP 19 J (fun a1=> ?_) (fun a1=> ?_)
    ·have h:=aE a1 a6;exact gY
    have h:=aF a1 a6;refine ac ?_;obtain ⟨c0,k,h⟩:=aa h;refine Fa (oR (rZ k)) J (fN a1 J) J ?_;rintro _ _ ⟨_,⟨c8,c9,d0,rfl,rfl⟩,rfl⟩;refine qk (ed J) J (fN a1 J) J ?_;obtain ⟨d1,k,h⟩:=aa h;refine gU (oR (dz k ⟨hP J (hP J (hP J aD)),194, #[], #[pV B3 0],J,call194.out,fun _ _ hh=>zM hh⟩)) (fN a1 J) ?_;exact gY
   refine fw h ?_ ?_<;>intro h
   ·exact eY
   refine ac ?_;obtain ⟨d2,h⟩:=ah h;exact lY
  exact jY
 rintro _ _ ⟨h,rfl,rfl⟩;exact eY
def fU (N:Nat)(a0:Int):Option Bool:=
 (bif decide (0<a0) then (some (decide (a0.tmod 2=1))) else (some false)).bind fun b1=>some b1
theorem mj {N:Nat}{a0:Int}{r:Bool}(h:fU N a0=some r):Okc Ua 138 [iV a0] ([]) (fun u post=>u=.bool r/\post=[]):=by
 refine cA Tryz.func138 ?_;obtain ⟨b1,a1,h⟩:=aa h;refine aR 4 9 b1 ?_ ?_
 ·clear h;refine aP 5 J (fun g1=> ?_) (fun g1=> ?_)
  ·have h:=aE g1 a1;refine ac ?_;refine qk (si J J (by decide)) J (cB g1 J) J ?_;exact gY
  have h:=aF g1 a1;exact gY
 exact eY
theorem AW {r:Bool}: ∀v post,((fun (u:Value) (post:List Chunk)=>u=.bool r/\post=[])) v post-> ∀c∈post,jP c:=by
 rintro _ _ ⟨rfl,rfl⟩;exact aD
def yr (N:Nat):Option Bool:=
 some true
def pI (N:Nat)(a0:TM)(a2:TO):Nat->Int->Option Bool
 |0,_=>none
 |a6+1,a1=>bif decide (a1<(a0.Ul.length:Int)) then ((aw a0.Ul a1).bind fun a7=>(ju N a7).bind fun a8=>(bF N a8 (fun x=>fU N x)).bind fun b0=>(bif b0 then (be (in64 (2*a1)) (be (in64 ((2*a1)+2)) ((dN N a2 ((2*a1)+2)).bind fun b1=>some (!b1)))) else (some false)).bind fun b2=>bif b2 then (some false) else (be (in64 (a1+1)) ((pI N a0 a2 a6) (a1+1)))) else (yr N)
def lq (N:Nat)(a2:TO)(a0:TM):Option Bool:=
 pI N a0 a2 N 0
def nu (N:Nat)(a2:TO)(a0:TM):Nat->Int->Option Bool
 |0,_=>none
 |a7+1,a1=>bif decide (a1<(a2.length:Int)) then ((aw a2 a1).bind fun a6=>(fU N a6).bind fun a8=>(bif a8 then (some true) else ((jq N a0 a6).bind fun b0=>some (!b0))).bind fun b1=>(bif b1 then (some true) else ((bif decide (0<a1) then (be (in64 (a1 - 1)) ((aw a2 (a1 - 1)).bind fun b2=>some (decide (a6<=b2)))) else (some false)).bind fun b3=>some b3)).bind fun b4=>bif b4 then (some false) else (be (in64 (a1+1)) ((nu N a2 a0 a7) (a1+1)))) else (lq N a2 a0)
def pZ (N:Nat)(a0:TM)(a1:TN)(a2:TO):Option Bool:=
 (cz N a1 (fun x=>oL N x a0)).bind fun y6=>(bif y6 then (some true) else ((pH N a0).bind fun y8=>some (!y8))).bind fun b7=>bif b7 then (some false) else (nu N a2 a0 N 0)
theorem Fy {N:Nat}{a0:TM}{a1:TN}{a2:TO}{r:Bool}(h:pZ N a0 a1 a2=some r):Okc Ua 130 [.agg #[U A1 n1 c1,U A2 n2 c2],U A3 n3 c3,U A4 n4 c4] ([bf A1 n1 c1 a0.Uj,bf A2 n2 c2 a0.Ul,bc A3 n3 c3 a1,db A4 n4 c4 a2]) (fun u post=>u=.bool r/\post=[]):=by
 refine cA Tryz.func130 ?_;intro B5;refine ac ?_;refine fC (ed J) ?_;refine sZ ?_;obtain ⟨y6,k,h⟩:=aa h;refine kD (oR (kY k ⟨hP J (hP J (hP J aD)),173, #[], #[pV B5 0],J,call173.out,fun _ _ hh=>Cd hh⟩)) ?_;obtain ⟨b7,c0,h⟩:=aa h;refine aR 4 20 b7 ?_ ?_
 ·clear h;refine aP 16 J (fun g7=> ?_) (fun g7=> ?_)
  ·have h:=aE g7 c0;exact gY
  have h:=aF g7 c0;refine ac ?_;obtain ⟨y8,k,h⟩:=aa h;refine gU (oR (Dh k)) (fN g7 J) ?_;exact gY
 refine fw h ?_ ?_<;>intro h
 ·exact eY
 refine ac ?_;refine au (fun s L=>lq N a2 a0=some r/\s=[(2,U A4 n4 c4),(3,pV B5 0),(6,.bool false)]/\L=[db A4 n4 c4 a2,bf A1 n1 c1 a0.Uj,bf A2 n2 c2 a0.Ul,ab B5 96 [U A1 n1 c1,U A2 n2 c2]]) ?_ ?_
 ·refine ac ?_;refine aY (fun m s L=> ∃b4,nu N a2 a0 m b4=some r/\s=[(2,U A4 n4 c4),(3,pV B5 0),(6,.bool false),(21,U A4 n4 c4),(22,iV (a2.length:Int)),(23,iV b4)]/\L=[db A4 n4 c4 a2,bf A1 n1 c1 a0.Uj,bf A2 n2 c2 a0.Ul,ab B5 96 [U A1 n1 c1,U A2 n2 c2]]) N _ _ ⟨0,h,J,J⟩ sA (cS [4,1,2,0] 5) ?_;rintro (_|f4) _ _ ⟨b4,h,rfl,rfl⟩
  ·exact ao h
  rw [nu.eq_2] at h;refine ac ?_;refine aG ?_;refine gH J h ?_ ?_<;>intro h
  ·refine sY ?_;obtain ⟨g0,c9,d0,d1,h⟩:=bz h;refine ac ?_;obtain ⟨g1,k,h⟩:=aa h;refine kD (oR (mj k)) ?_;obtain ⟨d2,a6,h⟩:=aa h;refine aR 5 35 d2 ?_ ?_
   ·clear h;refine aP 30 J (fun b3=> ?_) (fun b3=> ?_)
    ·have h:=aE b3 a6;exact gY
    have h:=aF b3 a6;refine ac ?_;obtain ⟨g2,k,h⟩:=aa h;refine gU (oR (kO k)) (fN b3 J) ?_;exact gY
   refine ac ?_;obtain ⟨d3,a7,h⟩:=aa h;refine aR 12 48 d3 ?_ ?_
   ·clear h;refine aP 36 J (fun b5=> ?_) (fun b5=> ?_)
    ·have h:=aE b5 a7;exact gY
    have h:=aF b5 a7;refine ac ?_;obtain ⟨d4,a8,h⟩:=aa h;refine aR 8 47 d4 ?_ ?_
    ·clear h;refine aP 39 J (fun b6=> ?_) (fun b6=> ?_)
     ·have h:=aE b6 a8;refine ac ?_;obtain ⟨g3,h⟩:=ah h;refine ac ?_;obtain ⟨g4,d6,e2,e3,h⟩:=bz h;exact gY
     have h:=aF b6 a8;exact gY
    exact gY
   refine fw h ?_ ?_<;>intro h
   ·exact eY
   refine ac ?_;obtain ⟨g5,h⟩:=ah h;exact lY
  exact jY
 rintro _ _ ⟨h,rfl,rfl⟩;refine au (fun s L=>yr N=some r/\s=[(6,.bool false)]/\L=[]) ?_ ?_
 ·refine ac ?_;refine aY (fun m s L=> ∃b8,pI N a0 a2 m b8=some r/\s=[(2,U A4 n4 c4),(6,.bool false),(51,U A2 n2 c2),(52,iV (a0.Ul.length:Int)),(53,iV b8)]/\L=[db A4 n4 c4 a2,bf A2 n2 c2 a0.Ul]) N _ _ ⟨0,h,J,J⟩ sA (cS [0,2] 4) ?_;rintro (_|g6) _ _ ⟨b8,h,rfl,rfl⟩
  ·exact ao h
  rw [pI.eq_2] at h;refine ac ?_;refine aG ?_;refine gH J h ?_ ?_<;>intro h
  ·refine sY ?_;obtain ⟨b0,e4,e5,b9,h⟩:=bz h;refine ac ?_;refine uw 1 J b9 (gK b0) ?_;rintro _ _ ⟨e6,e7,e8,e9,f1,f2,rfl,rfl⟩;refine EL (lM (us:=[iV b0.Ui,iV b0.Uw,iV b0.Uv,iV b0.Ux,U e6 e7 e8,U e9 f1 f2]) 0 J J agg42.out J) ?_;intro g8;refine ac ?_;obtain ⟨g9,k,h⟩:=aa h;refine gD (oR (rZ k)) ?_;rintro _ _ ⟨_,⟨h0,h1,h2,rfl,rfl⟩,rfl⟩;obtain ⟨h3,k,h⟩:=aa h;refine kD (oR (dz k ⟨aD,138, #[], #[],J,call138.out,fun _ _ hh=>mj hh⟩)) ?_;obtain ⟨f3,b1,h⟩:=aa h;refine aR 7 68 f3 ?_ ?_
   ·clear h;refine aP 61 J (fun b2=> ?_) (fun b2=> ?_)
    ·have h:=aE b2 b1;refine ac ?_;obtain ⟨c8,h⟩:=ah h;refine qk (tJ J J c8.1 c8.2) J (cB b2 J) J ?_;obtain ⟨h4,h⟩:=ah h;refine ac ?_;obtain ⟨h5,k,h⟩:=aa h;refine gU (oR (kF k)) (cB b2 J) ?_;exact gY
    have h:=aF b2 b1;exact gY
   refine fw h ?_ ?_<;>intro h
   ·exact eY
   refine ac ?_;obtain ⟨h6,h⟩:=ah h;exact lY
  exact jY
 rintro _ _ ⟨h,rfl,rfl⟩;exact eY
def cg (N:Nat)(a0:Tv)(a1:Int):Option Tv:=
 (fU N a1).bind fun y7=>(bif y7 then (some (!((lk a0.Va a1).getD false))) else (some false)).bind fun b8=>bif b8 then (be (bJ (a0.UM.length+([a1]:List Int).length)) (some (⟨a0.m_,a0.Vb,a0.UM++([a1]:List Int),yy a0.Va a1 true,a0.UB⟩:Tv))) else (some a0)
theorem jt {N:Nat}{a0:Tv}{a1:Int}{r:Tv}(h:cg N a0 a1=some r):Okc Ua 177 [pV B1 0,iV a1] ([bf A2 n2 c2 a0.m_.Uj,bf A3 n3 c3 a0.m_.Ul,db A4 n4 c4 a0.Vb,ab B1 186 [U A2 n2 c2,U A3 n3 c3,U A4 n4 c4,U A5 n5 c5,.map (some M6),iV a0.UB],eA A5 n5 c5 a0.UM,am bj bH M6 a0.Va]) (fun u post=> ∃A0 n0 c0 A1 n1 c1 A2 n2 c2 A3 n3 c3 M4,u=.tuple #[]/\post=[ab B1 186 [U A0 n0 c0,U A1 n1 c1,U A2 n2 c2,U A3 n3 c3,.map (some M4),iV r.UB],bf A0 n0 c0 r.m_.Uj,bf A1 n1 c1 r.m_.Ul,db A2 n2 c2 r.Vb,eA A3 n3 c3 r.UM,am bj bH M4 r.Va]):=by
 refine cA Tryz.func177 ?_;obtain ⟨y7,k,h⟩:=aa h;refine kD (oR (mj k)) ?_;obtain ⟨b8,a2,h⟩:=aa h;refine aR 8 14 b8 ?_ ?_
 ·clear h;refine aP 6 J (fun g8=> ?_) (fun g8=> ?_)
  ·have h:=aE g8 a2;refine ac ?_;refine vR (CS (a:=a1) (z:=false) 5 J uR J J Ti (ei hU) zero4.out) J (cB g8 J) J ?_;exact gY
  have h:=aF g8 a2;exact gY
 refine fw h ?_ ?_<;>intro h
 ·refine ac ?_;refine HZ (ii (a:=a1) (b:=true) 5 J J J J Ti (ei hU)) ?_;refine gD (az (R:=(dg .i64)) (vss:=[[iV a1]]) (xs:=[a1]) J (ll _) J J (fun _ _ hr=> .cons J All2.nil)) ?_;rintro _ _ ⟨a7,a8,b0,rfl,rfl⟩;obtain ⟨a6,h⟩:=ah h
  refine nk (ay 5 0 J J aB J J t5 F5 J J a6) fun b1 b2 b3=> ?_
  exact eN
 exact eY
def bI (N:Nat)(a0:Tv)(a1:Int):Option TB:=
 (fU N a1).bind fun y8=>bif y8 then (be (in64 (a1.tdiv 2)) ((aw a0.m_.Uj (a1.tdiv 2)).bind fun a2=>some a2)) else (be (in64 (a1.tdiv 2)) (be (in64 ((a1.tdiv 2) - 1)) ((aw a0.m_.Ul ((a1.tdiv 2) - 1)).bind fun a6=>some a6)))
theorem gk {N:Nat}{a0:Tv}{a1:Int}{r:TB}(h:bI N a0 a1=some r):Okc Ua 137 [pV B1 0,iV a1] ([bf A2 n2 c2 a0.m_.Uj,bf A3 n3 c3 a0.m_.Ul,db A4 n4 c4 a0.Vb,ab B1 186 [U A2 n2 c2,U A3 n3 c3,U A4 n4 c4,U A5 n5 c5,.map (some M6),iV a0.UB],eA A5 n5 c5 a0.UM,am bj bH M6 a0.Va]) (fun u post=> ∃a7 a8 b0 b1 b2 b3,u=.agg #[iV r.Ui,iV r.Uw,iV r.Uv,iV r.Ux,U a7 a8 b0,U b1 b2 b3]/\post=[bc a7 a8 b0 r.Uo,bc b1 b2 b3 r.Um,ab B1 186 [U A2 n2 c2,U A3 n3 c3,U A4 n4 c4,U A5 n5 c5,.map (some M6),iV a0.UB],eA A5 n5 c5 a0.UM,am bj bH M6 a0.Va]):=by
 refine Dc Tryz.func137 J J ?_;simp only [qN];refine Y ?_
 refine gB (bX zero42.out J) fun B7=> ?_
 refine Y ?_;refine aG ?_;refine Y ?_;obtain ⟨y8,k,h⟩:=aa h;refine gV (cp (mj k) call138.out J (aD) AW) ?_;refine Y ?_;refine gH J h ?_ ?_<;>intro h
 ·refine Y ?_;obtain ⟨e5,h⟩:=ah h;refine gE (yY J J (by decide) e5.1 e5.2) ?_;obtain ⟨a2,d3,d4,d6,h⟩:=bz h;refine gR (fA 1 J aM J J SZ size42.out d3 d4) ?_;refine uw 1 J d6 (gK a2) ?_;rintro _ _ ⟨b4,b5,b6,b7,b8,b9,rfl,rfl⟩;refine gR (lM (us:=[iV a2.Ui,iV a2.Uw,iV a2.Uv,iV a2.Ux,U b4 b5 b6,U b7 b8 b9]) 0 J J agg42.out J) ?_;refine gW (aj (us:=[iV a2.Ui,iV a2.Uw,iV a2.Uv,iV a2.Ux,U b4 b5 b6,U b7 b8 b9]) (cs':=[iV a2.Ui,iV a2.Uw,iV a2.Uv,iV a2.Ux,U b4 b5 b6,U b7 b8 b9]) 3 J J J J size42.out J J J) ?_;refine Y ?_;obtain rfl:=bS h;exact fR (rs:=[.cell 4 42]) (vs:=[.agg #[iV a2.Ui,iV a2.Uw,iV a2.Uv,iV a2.Ux,U b4 b5 b6,U b7 b8 b9]]) J (.cons (bo 3 J J agg42.out) .nil) J (cS [1,2,7,8,9] 10) ⟨_,_,_,_,_,_,J,J⟩
 refine Y ?_;obtain ⟨e6,h⟩:=ah h;refine gE (yY J J (by decide) e6.1 e6.2) ?_;obtain ⟨e7,h⟩:=ah h;refine gE (yX J J e7.1 e7.2) ?_;obtain ⟨a6,e2,e3,e4,h⟩:=bz h;refine gR (fA 2 J aM J J SZ size42.out e2 e3) ?_;refine uw 2 J e4 (gK a6) ?_;rintro _ _ ⟨c0,c8,c9,d0,d1,d2,rfl,rfl⟩;refine gR (lM (us:=[iV a6.Ui,iV a6.Uw,iV a6.Uv,iV a6.Ux,U c0 c8 c9,U d0 d1 d2]) 0 J J agg42.out J) ?_;refine gW (aj (us:=[iV a6.Ui,iV a6.Uw,iV a6.Uv,iV a6.Ux,U c0 c8 c9,U d0 d1 d2]) (cs':=[iV a6.Ui,iV a6.Uw,iV a6.Uv,iV a6.Ux,U c0 c8 c9,U d0 d1 d2]) 3 J J J J size42.out J J J) ?_;refine Y ?_;obtain rfl:=bS h;exact fR (rs:=[.cell 4 42]) (vs:=[.agg #[iV a6.Ui,iV a6.Uw,iV a6.Uv,iV a6.Ux,U c0 c8 c9,U d0 d1 d2]]) J (.cons (bo 3 J J agg42.out) .nil) J (cS [1,2,7,8,9] 10) ⟨_,_,_,_,_,_,J,J⟩
end Go.Proofs.YtjmonlcchlkdhaaGreat