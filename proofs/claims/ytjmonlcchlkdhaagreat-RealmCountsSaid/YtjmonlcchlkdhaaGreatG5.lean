/- Merged texts: part 5. No conditions of their own. -/
import Derived.Test.YtjmonlcchlkdhaaGreatG4
set_option maxHeartbeats 4000000
namespace Go.Proofs.YtjmonlcchlkdhaaGreat
theorem Tl:type_of% Tryz.underlying191:=Tryz.underlying191
variable {A1 A2 A3 A4 A5 A6 A7:Option Addr} {B1 B2 B3 B6 B8 M2 M6 M7 M9 c1 c2 c3 c4 c5 c6 c7 n1 n2 n3 n4 n5 n6 n7:Nat}
open Go.RowKit Asn
set_option maxRecDepth 20000
def fW (N:Nat)(a1:TV->TV->TO->TO->TW->Int->Option Tv)(a2:TV)(a6:TV)(a7:TO)(a8:TO)(b0:TW)(p21:Int):Option Tv:=
 be (in64 (p21+1)) (a1 a2 a6 a7 a8 b0 (p21+1))
def fV (N:Nat)(a7:TV->TV->TO->TO->TW->Int->Option Tv)(a6:TO):Nat->Int->TV->TV->TO->TO->TW->Int->Option Tv
 |0,_,_,_,_,_,_,_=>none
 |b5+1,a2,a8,b0,b1,b2,b3,b4=>bif decide (a2<(a6.length:Int)) then ((aw a6 a2).bind fun b6=>(cg N (⟨(⟨a8,b0⟩:TM),b1,b2,b3,b4⟩:Tv) b6).bind fun a1=>be (in64 (a2+1)) ((fV N a7 a6 b5) (a2+1) a1.m_.Uj a1.m_.Ul a1.Vb a1.UM a1.Va a1.UB)) else (fW N a7 a8 b0 b1 b2 b3 b4)
def bO (N:Nat):Nat->TV->TV->TO->TO->TW->Int->Option Tv
 |0,_,_,_,_,_,_=>none
 |m7+1,p8,p9,a2,a1,a6,p13=>bif decide (p13<(a1.length:Int)) then ((aw a1 p13).bind fun a7=>(bI N (⟨(⟨p8,p9⟩:TM),a2,a1,a6,p13⟩:Tv) a7).bind fun a8=>(f0 N a8).bind fun b0=>fV N (bO N m7) b0 N 0 p8 p9 a2 a1 a6 p13) else (some (⟨(⟨p8,p9⟩:TM),a2,a1,a6,p13⟩:Tv))
def eV (N:Nat)(a0:Tv):Option Tv:=
 bO N N a0.m_.Uj a0.m_.Ul a0.Vb a0.UM a0.Va a0.UB
theorem oe {N:Nat}{a0:Tv}{r:Tv}(h:eV N a0=some r):Okc Ua 178 [pV B1 0] ([bf A2 n2 c2 a0.m_.Uj,bf A3 n3 c3 a0.m_.Ul,db A4 n4 c4 a0.Vb,ab B1 186 [U A2 n2 c2,U A3 n3 c3,U A4 n4 c4,U A5 n5 c5,.map (some M6),iV a0.UB],eA A5 n5 c5 a0.UM,am bj bH M6 a0.Va]) (fun u post=> ∃A0 n0 c0 A1 n1 c1 A2 n2 c2 A3 n3 c3 M4,u=.tuple #[]/\post=[ab B1 186 [U A0 n0 c0,U A1 n1 c1,U A2 n2 c2,U A3 n3 c3,.map (some M4),iV r.UB],bf A0 n0 c0 r.m_.Uj,bf A1 n1 c1 r.m_.Ul,db A2 n2 c2 r.Vb,eA A3 n3 c3 r.UM,am bj bH M4 r.Va]):=by
 refine cA Tryz.func178 ?_;refine aY (fun m s L=> ∃p8 p9 b7 b8 b9 p13 A8 n8 c8 A9 n9 c9 b2 b3 b4 a7 a8 b0 b5,bO N m p8 p9 b7 b8 b9 p13=some r/\s=[(0,pV B1 0)]/\L=[bf A8 n8 c8 p8,bf A9 n9 c9 p9,db b2 b3 b4 b7,eA a7 a8 b0 b8,am bj bH b5 b9,ab B1 186 [U A8 n8 c8,U A9 n9 c9,U b2 b3 b4,U a7 a8 b0,.map (some b5),iV p13]]) N _ _ ⟨a0.m_.Uj,a0.m_.Ul,a0.Vb,a0.UM,a0.Va,a0.UB,A2,n2,c2,A3,n3,c3,A4,n4,c4,A5,n5,c5,M6,h,J,J⟩ sA (cS [0,1,2,4,5,3] 6) ?_;rintro (_|m7) _ _ ⟨p8,p9,b7,b8,b9,p13,A8,n8,c8,A9,n9,c9,b2,b3,b4,a7,a8,b0,b5,h,rfl,rfl⟩
 ·exact ao h
 rw [bO.eq_2] at h;refine aG ?_;refine dY [] ?_;refine fw h ?_ ?_<;>intro h
 ·refine ac ?_;refine au (fun s L=> ∃e2 e3 e4 e5 e6 p21 e7 e8 e9 f1 f2 f3 f4 g0 g1 g2 g3 g4 g5,fW N (bO N m7) e2 e3 e4 e5 e6 p21=some r/\s=[(0,pV B1 0)]/\L=[bf e7 e8 e9 e2,bf f1 f2 f3 e3,db f4 g0 g1 e4,eA g2 g3 g4 e5,am bj bH g5 e6,ab B1 186 [U e7 e8 e9,U f1 f2 f3,U f4 g0 g1,U g2 g3 g4,.map (some g5),iV p21]]) ?_ ?_
  ·refine ac ?_;refine aG ?_;obtain ⟨j7,g6,g7,g8,h⟩:=bz h;obtain ⟨b6,g9,h⟩:=aa h;obtain ⟨b1,h0,h⟩:=aa h;refine ie (t:=[(0,pV B1 0)]) ?_ lW (ad _)
   refine iW I 15 [] [12,13,14] [21,22,23,24,25,26,27,28,29,30,31,32,33,34,35] [[],[],[1],[2],[3],[],[5],[6],[7],[4,8],[9],[0,10],[11],[12],[]] [aV (pV B1 0),
 aV (pV B1 0),
 aV (pV B1 0),
 aV (pV B1 3),
 aV (U a7 a8 b0),
 aV (pV B1 0),
 aV (pV B1 0),
 aV (pV B1 5),
 aV (iV p13),
 aV (da (U a7 a8 b0) p13.toNat 1 0),
 aV (iV j7),
 aX6 (fun (d0:Option Addr) (d1 d2:Nat) (d3:Option Addr) (d4 d6:Nat)=> .agg #[iV b6.Ui,iV b6.Uw,iV b6.Uv,iV b6.Ux,U d0 d1 d2,U d3 d4 d6]) (fun d0 d1 d2 d3 d4 d6=> [bc d0 d1 d2 b6.Uo,bc d3 d4 d6 b6.Um]),
 aX3 (fun (a1:Option Addr) (a2 a6:Nat)=> U a1 a2 a6) (fun a1 a2 a6=> [eA a1 a2 a6 b1]),
 aV (iV (b1.length:Int)),
 aV (iV 0)] [] (ad _) (lB) I rfl rfl ?_ ?_ ?_
   ·exact lA
   ·refine ae J ?_ ?_
    ·exact bU (aX J) J (aQ J (ad _))
    refine ae J ?_ ?_
    ·intro a1 a2 a6;exact dy (ki 0 J aB J t5) J (aQ J (ad _))
    refine ae J ?_ ?_
    ·intro d0 d1 d2 d3 d4 d6;refine uv (oR (jI h0)) J ?_;rintro _ _ ⟨_,⟨j8,j9,k0,rfl,rfl⟩,rfl⟩;exact vc j8 j9 k0 (ad _)
    refine ae J ?_ ?_
    ·refine uv (oC (gk g9)) J ?_;rintro _ _ ⟨_,⟨k1,k2,k3,k4,k5,k6,rfl,rfl⟩,rfl⟩;exact Qk k1 k2 k3 k4 k5 k6 (cS [0,1,5,6,7,3,4,2] 8)
    refine ae J ?_ ?_
    ·exact dy (gX (u:=iV j7) 3 J aB J g8 oH (fun _ _ _ h=>by rw [show _=_ from h];rfl)) J (aQ J (ad _))
    refine ae J ?_ ?_
    ·exact dy (fA 3 J aB J J t5 size3.out g6 g7) J (aQ J (ad _))
    refine ae J ?_ ?_
    ·exact dy (bp 5 J J oH J) J (aQ J (ad _))
    refine ae J ?_ ?_
    ·exact bU (dj J GV) J (aQ J (ad _))
    refine ae J ?_ ?_
    ·exact bU (bE J) J (aQ J (ad _))
    refine ae J ?_ ?_
    ·exact bU (aX J) J (aQ J (ad _))
    refine ae J ?_ ?_
    ·exact dy (bp 5 J J zH J) J (aQ J (ad _))
    refine ae J ?_ ?_
    ·exact bU (dj J Aj) J (aQ J (ad _))
    refine ae J ?_ ?_
    ·exact bU (bE J) J (aQ J (ad _))
    refine ae J ?_ ?_
    ·exact bU (aX J) J (aQ J (ad _))
    refine ae J ?_ ?_
    ·exact bU (aX J) J (aQ J (ad _))
    exact ee
   intro a1 a2 a6;refine nD (t:=[(33,U a1 a2 a6),(34,iV (b1.length:Int)),(35,iV 0),(0,pV B1 0)]) (L':=[eA a1 a2 a6 b1,bf A8 n8 c8 p8,bf A9 n9 c9 p9,db b2 b3 b4 b7,eA a7 a8 b0 b8,am bj bH b5 b9,ab B1 186 [U A8 n8 c8,U A9 n9 c9,U b2 b3 b4,U a7 a8 b0,.map (some b5),iV p13]]) ?_ lW (ad _);refine lD I ?_;refine ac ?_;refine aY (fun m s L=> ∃h1 h2 h3 h4 h5 h6 h7 h8 h9 i0 i1 i2 i8 j0 j1 j2 j3 j4 j5 j6,fV N (bO N m7) b1 m h1 h2 h3 h4 h5 h6 h7=some r/\s=[(0,pV B1 0),(33,U a1 a2 a6),(34,iV (b1.length:Int)),(35,iV h1)]/\L=[eA a1 a2 a6 b1,bf h8 h9 i0 h2,bf i1 i2 i8 h3,db j0 j1 j2 h4,eA j3 j4 j5 h5,am bj bH j6 h6,ab B1 186 [U h8 h9 i0,U i1 i2 i8,U j0 j1 j2,U j3 j4 j5,.map (some j6),iV h7]]) N _ _ ⟨0,p8,p9,b7,b8,b9,p13,A8,n8,c8,A9,n9,c9,b2,b3,b4,a7,a8,b0,b5,h,J,J⟩ sA (cS [0,1,2,3,4,5,6] 7) ?_;rintro (_|l0) _ _ ⟨h1,h2,h3,h4,h5,h6,h7,h8,h9,i0,i1,i2,i8,j0,j1,j2,j3,j4,j5,j6,h,rfl,rfl⟩
   ·exact ao h
   rw [fV.eq_2] at h;refine ac ?_;refine aG ?_;refine gH J h ?_ ?_<;>intro h
   ·refine sY ?_;obtain ⟨l1,k7,k8,k9,h⟩:=bz h;refine ac ?_;obtain ⟨l2,k,h⟩:=aa h;refine gD (oC (jt k)) ?_;rintro _ _ ⟨_,⟨l3,l4,l5,l6,l7,l8,l9,m0,m1,m2,m3,m4,m5,rfl,rfl⟩,rfl⟩;refine ac ?_;obtain ⟨m6,h⟩:=ah h;exact lY
   exact jY
  rintro _ _ ⟨e2,e3,e4,e5,e6,p21,e7,e8,e9,f1,f2,f3,f4,g0,g1,g2,g3,g4,g5,h,rfl,rfl⟩;refine ac ?_;obtain ⟨m8,h⟩:=ah h;exact lY
 exact eY
def mq (N:Nat)(a0:Tv)(p8:TO):Option TO:=
 be (bJ (p8.length+a0.UM.length)) (some (p8++a0.UM))
def eD (N:Nat)(a0:Tv):Nat->TO->Int->Option TO
 |0,_,_=>none
 |m9+1,a2,a1=>bif decide (a1<(a0.m_.Ul.length:Int)) then (be (in64 (2*a1)) (be (in64 ((2*a1)+2)) (be (bJ (a2.length+([(2*a1)+2]:List Int).length)) (be (in64 (a1+1)) ((eD N a0 m9) (a2++([(2*a1)+2]:List Int)) (a1+1)))))) else (mq N a0 a2)
def ft (N:Nat)(a0:Tv):Option TO:=
 eD N a0 N [] 0
theorem pY {N:Nat}{a0:Tv}{r:TO}(h:ft N a0=some r):Okc Ua 133 [pV B1 0] ([ar B1 186 [U A2 n2 c2,U A3 n3 c3,U A4 n4 c4,U A5 n5 c5,.map (some M6),iV a0.UB],bf A2 n2 c2 a0.m_.Uj,bf A3 n3 c3 a0.m_.Ul,db A4 n4 c4 a0.Vb,db A5 n5 c5 a0.UM,dk bj bH M6 a0.Va]) (fun u post=> ∃A0 n0 c0,u=U A0 n0 c0/\post=[eA A0 n0 c0 r]):=by
 refine cA Tryz.func133 ?_;refine au (fun s L=> ∃p8 A8 n8 c8,mq N a0 p8=some r/\s=[(0,pV B1 0),(2,U none 0 0),(3,U A8 n8 c8)]/\L=[eA A8 n8 c8 p8,bf A2 n2 c2 a0.m_.Uj,bf A3 n3 c3 a0.m_.Ul,db A4 n4 c4 a0.Vb,db A5 n5 c5 a0.UM,dk bj bH M6 a0.Va,ar B1 186 [U A2 n2 c2,U A3 n3 c3,U A4 n4 c4,U A5 n5 c5,.map (some M6),iV a0.UB]]) ?_ ?_
 ·refine ac ?_;refine aY (fun m s L=> ∃a2 a1 a6 a7 a8,eD N a0 m a2 a1=some r/\s=[(0,pV B1 0),(2,U none 0 0),(3,U a6 a7 a8),(10,iV (a0.m_.Ul.length:Int)),(11,iV a1)]/\L=[eA a6 a7 a8 a2,bf A2 n2 c2 a0.m_.Uj,bf A3 n3 c3 a0.m_.Ul,db A4 n4 c4 a0.Vb,db A5 n5 c5 a0.UM,dk bj bH M6 a0.Va,ar B1 186 [U A2 n2 c2,U A3 n3 c3,U A4 n4 c4,U A5 n5 c5,.map (some M6),iV a0.UB]]) N _ _ ⟨[],0,none,0,0,h,J,J⟩ sA ((aU (dg .i64) 3 _).trans (cS [0,2,3,4,5,6,1] 7)) ?_;rintro (_|m9) _ _ ⟨a2,a1,a6,a7,a8,h,rfl,rfl⟩
  ·exact ao h
  rw [eD.eq_2] at h;refine ac ?_;refine aG ?_;refine gH J h ?_ ?_<;>intro h
  ·refine sY ?_;obtain ⟨b0,h⟩:=ah h;refine gE (tJ J J b0.1 b0.2) ?_;obtain ⟨b3,h⟩:=ah h;refine ac ?_;refine gD (az (R:=(dg .i64)) (vss:=[[iV ((2*a1)+2)]]) (xs:=[(2*a1)+2]) J (ll _) J J (fun _ _ hr=> .cons J All2.nil)) ?_;rintro _ _ ⟨b4,b5,b6,rfl,rfl⟩;obtain ⟨b1,h⟩:=ah h
   refine nk (ay 1 0 J J aB J J t5 F5 J J b1) fun b7 b8 b9=> ?_
   obtain ⟨c9,h⟩:=ah h;exact lY
  exact jY
 rintro _ _ ⟨p8,A8,n8,c8,h,rfl,rfl⟩;refine ac ?_;obtain ⟨b2,h⟩:=ah h
 refine nk (ay 0 4 J J aM J J t5 F5 J J b2) fun d0 d1 d2=> ?_
 exact eN
def mF (N:Nat)(p3:TO):Option TO:=
 some p3
def qo (N:Nat)(a1:Int):Option TO:=
 bif decide (a1<0) then none else (be (in64 (0 - 0)) (be (in64 (a1 - (0 - 0))) (bif decide (0<a1 - (0 - 0)) then (be ((0:Int)<(a1 - (0 - 0))/\(a1 - (0 - 0))<=1099511627776) (mF N ([]:List Int))) else (mF N []))))
theorem AK {N:Nat}{a1:Int}{r:TO}(h:qo N a1=some r):Okc Ua 142 [U none 0 0,iV a1] ([]) (fun u post=> ∃A0 n0 c0,u=U A0 n0 c0/\post=[eA A0 n0 c0 r]):=by
 refine cA Tryz.func142 ?_;refine sZ ?_;refine gH J h ?_ ?_<;>intro h
 ·exact ao h
 refine ac ?_;refine au (fun s L=> ∃p3 A3 n3 c3,mF N p3=some r/\s=[(0,U A3 n3 c3),(4,U none 0 0)]/\L=[eA A3 n3 c3 p3]) ?_ ?_
 ·refine ac ?_;refine fC (xO J t5) ?_;refine gE (oW J t5) ?_;obtain ⟨q4,h⟩:=ah h;refine ac ?_;obtain ⟨q5,h⟩:=ah h;refine fw h ?_ ?_<;>intro h
  ·refine ac ?_;refine gE (xO J t5) ?_;refine fC (Bi J t5 size3.out J) ?_;obtain ⟨q7,h⟩:=ah h
   refine nk (yL J J t5 hU F5 J q7.1 q7.2) fun A8 n8 c8=> ?_
   refine gE (oW J t5) ?_
   refine nk (Fv (R:=(dg .i64)) 0 J J t5 size3.out J J) fun A9 n9 c9=> ?_
   exact jN
  refine ac ?_;exact ⟨_,_,⟨[],none,0,0,h,J,J⟩,sA,(aU (dg .i64) 3 _).trans (cS [0] 1)⟩
 rintro _ _ ⟨p3,A3,n3,c3,h,rfl,rfl⟩;exact eY
def ox (N:Nat)(a1:TO):Option TO:=
 some a1
def pf (N:Nat)(a0_0:TO)(a0_1:TO):Option TO:=
 (qo N ((0+(a0_0.length:Int))+(a0_1.length:Int))).bind fun y9=>be (bJ (y9.length+a0_0.length)) (be (bJ ((y9++a0_0).length+a0_1.length)) (ox N ((y9++a0_0)++a0_1)))
def kZ (N:Nat)(a0_0:TO)(a0_1:TO):Option TO:=
 be (in64 (0+(a0_0.length:Int))) (bif decide (0+(a0_0.length:Int)<0) then none else (be (in64 ((0+(a0_0.length:Int))+(a0_1.length:Int))) (bif decide ((0+(a0_0.length:Int))+(a0_1.length:Int)<0) then none else (pf N a0_0 a0_1))))
theorem tT {N:Nat}{a0_0:TO}{a0_1:TO}{r:TO}(h:kZ N a0_0 a0_1=some r):Okc Ua 96 [.slice (some ⟨B1,0,none⟩) 2 2] ([ar B1 39 [U A2 n2 c2,U A3 n3 c3],db A2 n2 c2 a0_0,db A3 n3 c3 a0_1]) (fun u post=> ∃A0 n0 c0,u=U A0 n0 c0/\post=[eA A0 n0 c0 r]):=by
 refine cA Tryz.func96 ?_;refine au (fun s L=>pf N a0_0 a0_1=some r/\s=[(0,.slice (some ⟨B1,0,none⟩) 2 2),(2,U none 0 0),(3,iV ((0+(a0_0.length:Int))+(a0_1.length:Int)))]/\L=[db A2 n2 c2 a0_0,db A3 n3 c3 a0_1,ar B1 39 [U A2 n2 c2,U A3 n3 c3]]) ?_ ?_
 ·refine ac ?_;refine fC (oW J Tl) ?_;refine sF 3 ?_;refine tM ?_;refine ac ?_;refine aG ?_;refine cK J ?_;refine sY ?_;refine fC (nU J J Tl size39.out (by decide) (by decide)) ?_;obtain ⟨q5,h⟩:=ah h;refine fw h ?_ ?_<;>intro h
  ·exact ao h
  refine ac ?_;refine fC (dL J J (by decide) (by decide)) ?_;refine tM ?_;refine ac ?_;refine aG ?_;refine cK J ?_;refine sY ?_;refine fC (nU J J Tl size39.out (by decide) (by decide)) ?_;obtain ⟨q7,h⟩:=ah h;refine fw h ?_ ?_<;>intro h
  ·exact ao h
  refine ac ?_;refine fC (dL J J (by decide) (by decide)) ?_;refine tM ?_;refine ac ?_;refine aG ?_;refine cy J ?_;exact jY
 rintro _ _ ⟨h,rfl,rfl⟩;refine ac ?_;obtain ⟨y9,k,h⟩:=aa h
 refine nk (oR (AK k)) fun b1 b2 b3=> ?_
 refine au (fun s L=> ∃a1 a2 a6 a7,ox N a1=some r/\s=[(2,U none 0 0),(6,U a2 a6 a7)]/\L=[eA a2 a6 a7 a1]) ?_ ?_
 ·refine ac ?_;refine fC (oW J Tl) ?_;refine sF 3 ?_;refine tM ?_;refine ac ?_;refine aG ?_;refine cK J ?_;refine sY ?_;refine fC (nU J J Tl size39.out (by decide) (by decide)) ?_;obtain ⟨a8,h⟩:=ah h
  refine nk (ay 0 1 J J aM J J t5 F5 J J a8) fun b4 b5 b6=> ?_
  refine fC (dL J J (by decide) (by decide)) ?_;refine tM ?_;refine ac ?_;refine aG ?_;refine cK J ?_;refine sY ?_;refine fC (nU J J Tl size39.out (by decide) (by decide)) ?_;obtain ⟨b0,h⟩:=ah h
  refine nk (ay 0 2 J J aM J J t5 F5 J J b0) fun b7 b8 b9=> ?_
  refine fC (dL J J (by decide) (by decide)) ?_;refine tM ?_;refine ac ?_;refine aG ?_;refine cy J ?_;exact jY
 rintro _ _ ⟨a1,a2,a6,a7,h,rfl,rfl⟩;exact eY
def ml (N:Nat)(a0:Tv)(a1:TV)(a2:TV)(a6:TO)(p13:TO)(a7:TW)(a8:Int):Option (Bool×Tv):=
 some (decide ((a0.UM.length:Int)<(p13.length:Int)),(⟨(⟨a1,a2⟩:TM),a6,p13,a7,a8⟩:Tv))
def iU (N:Nat)(a1:Int->TV->TV->TO->TO->TW->Int->Option (Bool×Tv))(a0:Tv)(b3:TO)(a2:Int)(y7:TO)(a6:TV)(a7:TV)(a8:TO)(b0:TO)(b1:TW)(b2:Int):Option (Bool×Tv):=
 be (in64 (a2+1)) (a1 (a2+1) a6 a7 a8 b0 b1 b2)
def iT (N:Nat)(a2:Int->TV->TV->TO->TO->TW->Int->Option (Bool×Tv))(a0:Tv)(a8:TO)(b0:Int)(a7:TO)(y7:TO):Nat->Int->TV->TV->TO->TO->TW->Int->Option (Bool×Tv)
 |0,_,_,_,_,_,_,_=>none
 |b7+1,a6,b1,b2,b3,b4,b5,b6=>bif decide (a6<(a7.length:Int)) then ((aw a7 a6).bind fun b8=>(cg N (⟨(⟨b1,b2⟩:TM),b3,b4,b5,b6⟩:Tv) b8).bind fun a1=>be (in64 (a6+1)) ((iT N a2 a0 a8 b0 a7 y7 b7) (a6+1) a1.m_.Uj a1.m_.Ul a1.Vb a1.UM a1.Va a1.UB)) else (iU N a2 a0 a8 b0 y7 b1 b2 b3 b4 b5 b6)
def bP (N:Nat)(a0:Tv)(a1:TO)(y7:TO):Nat->Int->TV->TV->TO->TO->TW->Int->Option (Bool×Tv)
 |0,_,_,_,_,_,_,_=>none
 |b3+1,a2,a6,a7,a8,b0,b1,b2=>bif decide (a2<(a1.length:Int)) then ((aw a1 a2).bind fun b4=>(bI N (⟨(⟨a6,a7⟩:TM),a8,b0,b1,b2⟩:Tv) b4).bind fun b5=>(oo N b5 y7).bind fun b6=>iT N (bP N a0 a1 y7 b3) a0 a1 a2 b6 y7 N 0 a6 a7 a8 b0 b1 b2) else (ml N a0 a6 a7 a8 b0 b1 b2)
def ia (N:Nat)(a0:Tv):Option (Bool×Tv):=
 (ft N a0).bind fun y7=>(kZ N a0.Vb a0.UM).bind fun a1=>bP N a0 a1 y7 N 0 a0.m_.Uj a0.m_.Ul a0.Vb a0.UM a0.Va a0.UB
theorem wL {N:Nat}{a0:Tv}{r:Bool×Tv}(h:ia N a0=some r):Okc Ua 179 [pV B1 0] ([bf A2 n2 c2 a0.m_.Uj,bf A3 n3 c3 a0.m_.Ul,db A4 n4 c4 a0.Vb,ab B1 186 [U A2 n2 c2,U A3 n3 c3,U A4 n4 c4,U A5 n5 c5,.map (some M6),iV a0.UB],eA A5 n5 c5 a0.UM,am bj bH M6 a0.Va]) (fun u post=> ∃A0 n0 c0 A1 n1 c1 A2 n2 c2 A3 n3 c3 M4,u=.bool r.1/\post=[ab B1 186 [U A0 n0 c0,U A1 n1 c1,U A2 n2 c2,U A3 n3 c3,.map (some M4),iV r.2.UB],bf A0 n0 c0 r.2.m_.Uj,bf A1 n1 c1 r.2.m_.Ul,db A2 n2 c2 r.2.Vb,eA A3 n3 c3 r.2.UM,am bj bH M4 r.2.Va]):=by
 refine cA Tryz.func179 ?_;obtain ⟨y7,k,h⟩:=aa h
 refine nk (oR (pY k)) fun A8 n8 c8=> ?_
 refine au (fun s L=> ∃e5 e6 e7 p13 e8 e9 f1 f2 f3 f4 g0 g1 g2 g3 g4 g5 g6 g7 g8,ml N a0 e5 e6 e7 p13 e8 e9=some r/\s=[(0,pV B1 0),(2,.bool false),(3,iV (a0.UM.length:Int))]/\L=[bf f1 f2 f3 e5,bf f4 g0 g1 e6,db g2 g3 g4 e7,eA g5 g6 g7 p13,am bj bH g8 e8,ab B1 186 [U f1 f2 f3,U f4 g0 g1,U g2 g3 g4,U g5 g6 g7,.map (some g8),iV e9]]) ?_ ?_
 ·refine aG ?_;obtain ⟨a1,g9,h⟩:=aa h;refine ie (t:=[(0,pV B1 0),(2,.bool false),(3,iV (a0.UM.length:Int)),(4,U A8 n8 c8)]) ?_ lW (ad _)
  refine iW I 12 [] [9,10,11] [16,17,18,19,20,21,22,23,24,25,26,27] [[],[0],[1],[2],[],[4],[5],[6],[3,7],[8],[9],[]] [aV (pV B1 0),
 aV (pV B1 0),
 aV (pV B1 2),
 aV (U A4 n4 c4),
 aV (pV B1 0),
 aV (pV B1 0),
 aV (pV B1 3),
 aV (U A5 n5 c5),
 aX1 (fun (b0:Nat)=> .slice (some ⟨b0,0,none⟩) 2 2) (fun b0=> [ab b0 39 [U A4 n4 c4,U A5 n5 c5]]),
 aX3 (fun (a2:Option Addr) (a6 a7:Nat)=> U a2 a6 a7) (fun a2 a6 a7=> [eA a2 a6 a7 a1]),
 aV (iV (a1.length:Int)),
 aV (iV 0)] [] (ad _) (lB) I rfl rfl ?_ ?_ ?_
  ·exact lA
  ·refine ae J ?_ ?_
   ·exact bU (aX J) J (aQ J (ad _))
   refine ae J ?_ ?_
   ·intro a2 a6 a7;exact dy (ki 0 J aB J t5) J (aQ J (ad _))
   refine ae J ?_ ?_
   ·intro b0;refine uv (oR (tT g9)) J ?_;rintro _ _ ⟨_,⟨m0,m1,m2,rfl,rfl⟩,rfl⟩;exact vc m0 m1 m2 (ad _)
   refine ae J ?_ ?_
   ·refine uv (eU (cs:=[U A4 n4 c4,U A5 n5 c5]) J (E3 _ _ _ _ _ _)) J ?_;rintro _ _ ⟨m3,rfl,rfl⟩;exact Qm m3 (ad _)
   refine ae J ?_ ?_
   ·exact dy (bp 4 J J zH J) J (aQ J (ad _))
   refine ae J ?_ ?_
   ·exact bU (dj J Aj) J (aQ J (ad _))
   refine ae J ?_ ?_
   ·exact bU (bE J) J (aQ J (ad _))
   refine ae J ?_ ?_
   ·exact bU (aX J) J (aQ J (ad _))
   refine ae J ?_ ?_
   ·exact dy (bp 4 J J zH J) J (aQ J (ad _))
   refine ae J ?_ ?_
   ·exact bU (dj J GW) J (aQ J (ad _))
   refine ae J ?_ ?_
   ·exact bU (bE J) J (aQ J (ad _))
   refine ae J ?_ ?_
   ·exact bU (aX J) J (aQ J (ad _))
   exact ee
  intro a2 a6 a7;refine nD (t:=[(25,U a2 a6 a7),(26,iV (a1.length:Int)),(27,iV 0),(0,pV B1 0),(2,.bool false),(3,iV (a0.UM.length:Int)),(4,U A8 n8 c8)]) (L':=[eA a2 a6 a7 a1,eA A8 n8 c8 y7,bf A2 n2 c2 a0.m_.Uj,bf A3 n3 c3 a0.m_.Ul,db A4 n4 c4 a0.Vb,ab B1 186 [U A2 n2 c2,U A3 n3 c3,U A4 n4 c4,U A5 n5 c5,.map (some M6),iV a0.UB],eA A5 n5 c5 a0.UM,am bj bH M6 a0.Va]) ?_ lW (ad _);refine lD I ?_;refine ac ?_;refine aY (fun m s L=> ∃a8 b1 b2 b3 b4 b5 b6 b7 b8 b9 c9 d0 d1 d2 d3 d4 d6 e2 e3 e4,bP N a0 a1 y7 m a8 b1 b2 b3 b4 b5 b6=some r/\s=[(0,pV B1 0),(2,.bool false),(3,iV (a0.UM.length:Int)),(4,U A8 n8 c8),(25,U a2 a6 a7),(26,iV (a1.length:Int)),(27,iV a8)]/\L=[eA A8 n8 c8 y7,eA a2 a6 a7 a1,bf b7 b8 b9 b1,bf c9 d0 d1 b2,db d2 d3 d4 b3,eA d6 e2 e3 b4,am bj bH e4 b5,ab B1 186 [U b7 b8 b9,U c9 d0 d1,U d2 d3 d4,U d6 e2 e3,.map (some e4),iV b6]]) N _ _ ⟨0,a0.m_.Uj,a0.m_.Ul,a0.Vb,a0.UM,a0.Va,a0.UB,A2,n2,c2,A3,n3,c3,A4,n4,c4,A5,n5,c5,M6,h,J,J⟩ sA (cS [1,0,2,3,4,6,7,5] 8) ?_;rintro (_|l6) _ _ ⟨a8,b1,b2,b3,b4,b5,b6,b7,b8,b9,c9,d0,d1,d2,d3,d4,d6,e2,e3,e4,h,rfl,rfl⟩
  ·exact ao h
  rw [bP.eq_2] at h;refine ac ?_;refine aG ?_;refine gH J h ?_ ?_<;>intro h
  ·refine ac ?_;refine au (fun s L=> ∃h0 h1 h2 h3 h4 h5 h6 h7 h8 h9 i0 i1 i2 i8 j0 j1 j2 j3 j4,iU N (bP N a0 a1 y7 l6) a0 a1 a8 y7 h0 h1 h2 h3 h4 h5=some r/\s=[(0,pV B1 0),(2,.bool false),(3,iV (a0.UM.length:Int)),(4,U A8 n8 c8),(25,U a2 a6 a7),(26,iV (a1.length:Int)),(27,iV a8)]/\L=[eA A8 n8 c8 y7,eA a2 a6 a7 a1,bf h6 h7 h8 h0,bf h9 i0 i1 h1,db i2 i8 j0 h2,eA j1 j2 j3 h3,am bj bH j4 h4,ab B1 186 [U h6 h7 h8,U h9 i0 i1,U i2 i8 j0,U j1 j2 j3,.map (some j4),iV h5]]) ?_ ?_
   ·refine ac ?_;obtain ⟨n9,m4,m5,m6,h⟩:=bz h;refine ac ?_;obtain ⟨o0,k,h⟩:=aa h
    refine FN (oC (gk k)) fun o1 o2 p0 p1 p2 p3=> ?_
    obtain ⟨j5,k,h⟩:=aa h
    refine nk (oR (yd k)) fun l7 l8 l9=> ?_
    refine aY (fun m s L=> ∃j6 j7 j8 j9 k0 k1 k2 k3 k4 k5 k6 k7 k8 k9 l0 l1 l2 l3 l4 l5,iT N (bP N a0 a1 y7 l6) a0 a1 a8 j5 y7 m j6 j7 j8 j9 k0 k1 k2=some r/\s=[(0,pV B1 0),(2,.bool false),(3,iV (a0.UM.length:Int)),(4,U A8 n8 c8),(25,U a2 a6 a7),(26,iV (a1.length:Int)),(27,iV a8),(35,U l7 l8 l9),(36,iV (j5.length:Int)),(37,iV j6)]/\L=[eA A8 n8 c8 y7,eA a2 a6 a7 a1,eA l7 l8 l9 j5,bf k3 k4 k5 j7,bf k6 k7 k8 j8,db k9 l0 l1 j9,eA l2 l3 l4 k0,am bj bH l5 k1,ab B1 186 [U k3 k4 k5,U k6 k7 k8,U k9 l0 l1,U l2 l3 l4,.map (some l5),iV k2]]) N _ _ ⟨0,b1,b2,b3,b4,b5,b6,b7,b8,b9,c9,d0,d1,d2,d3,d4,d6,e2,e3,e4,h,J,J⟩ sA (cS [6,7,0,8,9,10,4,5,3] 11) ?_;rintro (_|p4) _ _ ⟨j6,j7,j8,j9,k0,k1,k2,k3,k4,k5,k6,k7,k8,k9,l0,l1,l2,l3,l4,l5,h,rfl,rfl⟩
    ·exact ao h
    rw [iT.eq_2] at h;refine ac ?_;refine aG ?_;refine gH J h ?_ ?_<;>intro h
    ·refine sY ?_;obtain ⟨p5,m7,m8,m9,h⟩:=bz h;refine ac ?_;obtain ⟨p6,k,h⟩:=aa h;refine gD (oC (jt k)) ?_;rintro _ _ ⟨_,⟨p7,p8,q0,q1,q2,q3,q4,q5,q6,q7,q8,q9,r0,rfl,rfl⟩,rfl⟩;refine ac ?_;obtain ⟨r1,h⟩:=ah h;exact lY
    exact jY
   rintro _ _ ⟨h0,h1,h2,h3,h4,h5,h6,h7,h8,h9,i0,i1,i2,i8,j0,j1,j2,j3,j4,h,rfl,rfl⟩;refine ac ?_;obtain ⟨r2,h⟩:=ah h;exact lY
  exact jY
 rintro _ _ ⟨e5,e6,e7,p13,e8,e9,f1,f2,f3,f4,g0,g1,g2,g3,g4,g5,g6,g7,g8,h,rfl,rfl⟩;exact eY
def tC (N:Nat)(a8:TV)(b0:TV)(a1:TO)(a2:TO)(a6:TW)(a7:Int):Option Tv:=
 some (⟨(⟨a8,b0⟩:TM),a1,a2,a6,a7⟩:Tv)
def kk (N:Nat):Nat->TV->TV->TO->TO->TW->Int->Option Tv
 |0,_,_,_,_,_,_=>none
 |a6+1,a7,a8,b0,b1,b2,b3=>(ia N (⟨(⟨a7,a8⟩:TM),b0,b1,b2,b3⟩:Tv)).bind fun a1=>bif a1.1 then ((eV N a1.2).bind fun a2=>(kk N a6) a2.m_.Uj a2.m_.Ul a2.Vb a2.UM a2.Va a2.UB) else (tC N a1.2.m_.Uj a1.2.m_.Ul a1.2.Vb a1.2.UM a1.2.Va a1.2.UB)
def tD (N:Nat)(a2:TV)(a6:TV)(a7:TO)(a8:TO)(b0:TW)(b1:Int):Option Tv:=
 (eV N (⟨(⟨a2,a6⟩:TM),a7,a8,b0,b1⟩:Tv)).bind fun a1=>kk N N a1.m_.Uj a1.m_.Ul a1.Vb a1.UM a1.Va a1.UB
def pK (N:Nat)(a1:Int->TV->TV->TO->TO->TW->Int->Option Tv)(a2:TO)(a6:Int)(a7:TV)(a8:TV)(b0:TO)(b1:TO)(b2:TW)(b3:Int):Option Tv:=
 be (in64 (a6+1)) (a1 (a6+1) a7 a8 b0 b1 b2 b3)
def pJ (N:Nat)(a6:Int->TV->TV->TO->TO->TW->Int->Option Tv)(a2:TO)(b0:Int)(a8:TO):Nat->Int->TV->TV->TO->TO->TW->Int->Option Tv
 |0,_,_,_,_,_,_,_=>none
 |b7+1,a7,b1,b2,b3,b4,b5,b6=>bif decide (a7<(a8.length:Int)) then ((aw a8 a7).bind fun b8=>(cg N (⟨(⟨b1,b2⟩:TM),b3,b4,b5,b6⟩:Tv) b8).bind fun a1=>be (in64 (a7+1)) ((pJ N a6 a2 b0 a8 b7) (a7+1) a1.m_.Uj a1.m_.Ul a1.Vb a1.UM a1.Va a1.UB)) else (pK N a6 a2 b0 b1 b2 b3 b4 b5 b6)
def eo (N:Nat)(a2:TO):Nat->Int->TV->TV->TO->TO->TW->Int->Option Tv
 |0,_,_,_,_,_,_,_=>none
 |b3+1,a1,a6,a7,a8,b0,b1,b2=>bif decide (a1<(a2.length:Int)) then ((aw a2 a1).bind fun b4=>(bI N (⟨(⟨a6,a7⟩:TM),a8,b0,b1,b2⟩:Tv) b4).bind fun b5=>(f0 N b5).bind fun b6=>pJ N (eo N a2 b3) a2 a1 b6 N 0 a6 a7 a8 b0 b1 b2) else (tD N a6 a7 a8 b0 b1 b2)
def uQ (N:Nat)(a2:TO)(p9:TV)(a1:TV)(a6:TO)(a7:TO)(p13:TW)(a8:Int):Option Tv:=
 eo N a2 N 0 p9 a1 a6 a7 p13 a8
def pL (N:Nat)(a6:Int->TV->TV->TO->TO->TW->Int->Option Tv)(a1:TN)(a7:Int)(a2:TO)(a8:TV)(b0:TV)(b1:TO)(b2:TO)(b3:TW)(b4:Int):Option Tv:=
 be (in64 (a7+1)) (a6 (a7+1) a8 b0 b1 b2 b3 b4)
def iv (N:Nat)(a1:TN)(a2:TO):Nat->Int->TV->TV->TO->TO->TW->Int->Option Tv
 |0,_,_,_,_,_,_,_=>none
 |b4+1,a7,a8,b0,b1,b2,p21,b3=>bif decide (a7<(a1.length:Int)) then ((aw a1 a7).bind fun b6=>(ld N b6).bind fun b5=>bif b5.2 then ((cg N (⟨(⟨a8,b0⟩:TM),b1,b2,p21,b3⟩:Tv) b5.1).bind fun a6=>pL N (iv N a1 a2 b4) a1 a7 a2 a6.m_.Uj a6.m_.Ul a6.Vb a6.UM a6.Va a6.UB) else (pL N (iv N a1 a2 b4) a1 a7 a2 a8 b0 b1 b2 p21 b3)) else (uQ N a2 a8 b0 b1 b2 p21 b3)
def og (N:Nat)(a0:TM)(a1:TN)(a2:TO):Option Tv:=
 iv N a1 a2 N 0 a0.Uj a0.Ul a2 [] ([]:TW) 0
theorem Fz {N:Nat}{a0:TM}{a1:TN}{a2:TO}{r:Tv}(h:og N a0 a1 a2=some r):Okc Ua 131 [.agg #[U A1 n1 c1,U A2 n2 c2],U A3 n3 c3,U A4 n4 c4] ([bf A1 n1 c1 a0.Uj,bf A2 n2 c2 a0.Ul,bc A3 n3 c3 a1,db A4 n4 c4 a2]) (fun u post=> ∃B0 A1 n1 c1 A2 n2 c2 A3 n3 c3 A4 n4 c4 M5,u=pV B0 0/\post=[ab B0 186 [U A1 n1 c1,U A2 n2 c2,U A3 n3 c3,U A4 n4 c4,.map (some M5),iV r.UB],bf A1 n1 c1 r.m_.Uj,bf A2 n2 c2 r.m_.Ul,db A3 n3 c3 r.Vb,eA A4 n4 c4 r.UM,am bj bH M5 r.Va]):=by
 refine cA Tryz.func131 ?_;intro B5;refine ac ?_;refine gD (rX (ek:=bj) (ev:=bH)) ?_;rintro _ _ ⟨M6,rfl,rfl⟩
 refine jg fun B7=> ?_
 refine au (fun s L=> ∃p9 g0 g1 g2 p13 g3 A9 n9 c9 g4 g5 g6 g7 g8 g9 h0 h1 h2 h3,uQ N a2 p9 g0 g1 g2 p13 g3=some r/\s=[(2,U A4 n4 c4),(6,.pointer none),(7,pV B7 0)]/\L=[db A4 n4 c4 a2,bf A9 n9 c9 p9,bf g4 g5 g6 g0,db g7 g8 g9 g1,eA h0 h1 h2 g2,am bj bH h3 p13,ab B7 186 [U A9 n9 c9,U g4 g5 g6,U g7 g8 g9,U h0 h1 h2,.map (some h3),iV g3]]) ?_ ?_
 ·refine ac ?_;refine aY (fun m s L=> ∃f4 j9 k0 k1 k2 p21 k3 k4 k5 k6 k7 k8 k9 l0 l1 l2 l3 l4 l5 l6,iv N a1 a2 m f4 j9 k0 k1 k2 p21 k3=some r/\s=[(2,U A4 n4 c4),(6,.pointer none),(7,pV B7 0),(21,U A3 n3 c3),(22,iV (a1.length:Int)),(23,iV f4)]/\L=[db A4 n4 c4 a2,bc A3 n3 c3 a1,bf k4 k5 k6 j9,bf k7 k8 k9 k0,db l0 l1 l2 k1,eA l3 l4 l5 k2,am bj bH l6 p21,ab B7 186 [U k4 k5 k6,U k7 k8 k9,U l0 l1 l2,U l3 l4 l5,.map (some l6),iV k3]]) N _ _ ⟨0,a0.Uj,a0.Ul,a2,[],([]:TW),0,A1,n1,c1,A2,n2,c2,A4,n4,c4,none,0,0,M6,h,J,J⟩ sA ((my 6 J J).trans ((aU (dg .i64) 3 _).trans (cS [8,7,5,6,1,0,3,2] 9))) ?_;rintro (_|y0) _ _ ⟨f4,j9,k0,k1,k2,p21,k3,k4,k5,k6,k7,k8,k9,l0,l1,l2,l3,l4,l5,l6,h,rfl,rfl⟩
  ·exact ao h
  rw [iv.eq_2] at h;refine ac ?_;refine aG ?_;refine gH J h ?_ ?_<;>intro h
  ·refine ac ?_;refine au (fun s L=> ∃l7 l8 l9 m0 m1 m2 m3 m4 m5 m6 m7 m8 m9 n0 n8 o0 o1 o2 p0,pL N (iv N a1 a2 y0) a1 f4 a2 l7 l8 l9 m0 m1 m2=some r/\s=[(2,U A4 n4 c4),(6,.pointer none),(7,pV B7 0),(21,U A3 n3 c3),(22,iV (a1.length:Int)),(23,iV f4)]/\L=[db A4 n4 c4 a2,bc A3 n3 c3 a1,bf m3 m4 m5 l7,bf m6 m7 m8 l8,db m9 n0 n8 l9,eA o0 o1 o2 m0,am bj bH p0 m1,ab B7 186 [U m3 m4 m5,U m6 m7 m8,U m9 n0 n8,U o0 o1 o2,.map (some p0),iV m2]]) ?_ ?_
   ·refine ac ?_;obtain ⟨U1,y1,y2,y3,h⟩:=bz h
    refine jg fun U2=> ?_
    obtain ⟨U3,k,h⟩:=aa h;refine kD (oR (uj k)) ?_;refine gH J h ?_ ?_<;>intro h
    ·refine ac ?_;obtain ⟨U4,k,h⟩:=aa h;refine gD (oC (jt k)) ?_;rintro _ _ ⟨_,⟨U5,U6,U7,U8,U9,V0,V1,V2,V4,V5,V6,V7,V8,rfl,rfl⟩,rfl⟩;exact jY
    exact jY
   rintro _ _ ⟨l7,l8,l9,m0,m1,m2,m3,m4,m5,m6,m7,m8,m9,n0,n8,o0,o1,o2,p0,h,rfl,rfl⟩;refine ac ?_;obtain ⟨V9,h⟩:=ah h;exact lY
  exact jY
 rintro _ _ ⟨p9,g0,g1,g2,p13,g3,A9,n9,c9,g4,g5,g6,g7,g8,g9,h0,h1,h2,h3,h,rfl,rfl⟩;refine au (fun s L=> ∃p1 p2 p3 p4 p5 p6 p7 p8 q0 q1 q2 q3 q4 q5 q6 q7 q8 q9 r0,tD N p1 p2 p3 p4 p5 p6=some r/\s=[(6,.pointer none),(7,pV B7 0)]/\L=[bf p7 p8 q0 p1,bf q1 q2 q3 p2,db q4 q5 q6 p3,eA q7 q8 q9 p4,am bj bH r0 p5,ab B7 186 [U p7 p8 q0,U q1 q2 q3,U q4 q5 q6,U q7 q8 q9,.map (some r0),iV p6]]) ?_ ?_
 ·refine ac ?_;refine aY (fun m s L=> ∃a6 h4 h5 h6 h7 h8 h9 i0 i1 i2 i8 j0 j1 j2 j3 j4 j5 j6 j7 j8,eo N a2 m a6 h4 h5 h6 h7 h8 h9=some r/\s=[(6,.pointer none),(7,pV B7 0),(37,U A4 n4 c4),(38,iV (a2.length:Int)),(39,iV a6)]/\L=[db A4 n4 c4 a2,bf i0 i1 i2 h4,bf i8 j0 j1 h5,db j2 j3 j4 h6,eA j5 j6 j7 h7,am bj bH j8 h8,ab B7 186 [U i0 i1 i2,U i8 j0 j1,U j2 j3 j4,U j5 j6 j7,.map (some j8),iV h9]]) N _ _ ⟨0,p9,g0,g1,g2,p13,g3,A9,n9,c9,g4,g5,g6,g7,g8,g9,h0,h1,h2,h3,h,J,J⟩ sA (cS [0,1,2,3,4,5,6] 7) ?_;rintro (_|x6) _ _ ⟨a6,h4,h5,h6,h7,h8,h9,i0,i1,i2,i8,j0,j1,j2,j3,j4,j5,j6,j7,j8,h,rfl,rfl⟩
  ·exact ao h
  rw [eo.eq_2] at h;refine ac ?_;refine aG ?_;refine gH J h ?_ ?_<;>intro h
  ·refine ac ?_;refine au (fun s L=> ∃r1 r2 r3 r4 r5 r6 s0 s1 s2 s3 s4 s5 s6 s7 s8 s9 t1 t2 u0,pK N (eo N a2 x6) a2 a6 r1 r2 r3 r4 r5 r6=some r/\s=[(6,.pointer none),(7,pV B7 0),(37,U A4 n4 c4),(38,iV (a2.length:Int)),(39,iV a6)]/\L=[db A4 n4 c4 a2,bf s0 s1 s2 r1,bf s3 s4 s5 r2,db s6 s7 s8 r3,eA s9 t1 t2 r4,am bj bH u0 r5,ab B7 186 [U s0 s1 s2,U s3 s4 s5,U s6 s7 s8,U s9 t1 t2,.map (some u0),iV r6]]) ?_ ?_
   ·refine ac ?_;obtain ⟨W0,y4,y5,y6,h⟩:=bz h;refine ac ?_;obtain ⟨W1,k,h⟩:=aa h
    refine FN (oC (gk k)) fun W2 W3 W4 W5 W7 W8=> ?_
    obtain ⟨u1,k,h⟩:=aa h
    refine nk (oR (jI k)) fun x7 x8 x9=> ?_
    refine aY (fun m s L=> ∃u2 u3 u4 u5 u6 u7 u8 u9 v1 v2 v6 v7 v8 w1 w2 w3 w4 w5 w6 w7,pJ N (eo N a2 x6) a2 a6 u1 m u2 u3 u4 u5 u6 u7 u8=some r/\s=[(6,.pointer none),(7,pV B7 0),(37,U A4 n4 c4),(38,iV (a2.length:Int)),(39,iV a6),(46,U x7 x8 x9),(47,iV (u1.length:Int)),(48,iV u2)]/\L=[db A4 n4 c4 a2,eA x7 x8 x9 u1,bf u9 v1 v2 u3,bf v6 v7 v8 u4,db w1 w2 w3 u5,eA w4 w5 w6 u6,am bj bH w7 u7,ab B7 186 [U u9 v1 v2,U v6 v7 v8,U w1 w2 w3,U w4 w5 w6,.map (some w7),iV u8]]) N _ _ ⟨0,h4,h5,h6,h7,h8,h9,i0,i1,i2,i8,j0,j1,j2,j3,j4,j5,j6,j7,j8,h,J,J⟩ sA (cS [6,0,7,8,9,4,5,3] 10) ?_;rintro (_|W9) _ _ ⟨u2,u3,u4,u5,u6,u7,u8,u9,v1,v2,v6,v7,v8,w1,w2,w3,w4,w5,w6,w7,h,rfl,rfl⟩
    ·exact ao h
    rw [pJ.eq_2] at h;refine ac ?_;refine aG ?_;refine gH J h ?_ ?_<;>intro h
    ·refine sY ?_;obtain ⟨X0,y7,y8,y9,h⟩:=bz h;refine ac ?_;obtain ⟨X1,k,h⟩:=aa h;refine gD (oC (jt k)) ?_;rintro _ _ ⟨_,⟨X2,X3,X4,X5,X6,X7,X8,X9,Y0,Y1,Y2,Y3,Y4,rfl,rfl⟩,rfl⟩;refine ac ?_;obtain ⟨Y5,h⟩:=ah h;exact lY
    exact jY
   rintro _ _ ⟨r1,r2,r3,r4,r5,r6,s0,s1,s2,s3,s4,s5,s6,s7,s8,s9,t1,t2,u0,h,rfl,rfl⟩;refine ac ?_;obtain ⟨Y6,h⟩:=ah h;exact lY
  exact jY
 rintro _ _ ⟨p1,p2,p3,p4,p5,p6,p7,p8,q0,q1,q2,q3,q4,q5,q6,q7,q8,q9,r0,h,rfl,rfl⟩;refine ac ?_;obtain ⟨f3,k,h⟩:=aa h;refine gD (oC (oe k)) ?_;rintro _ _ ⟨_,⟨z1,z2,z6,A8,B4,B9,L0,L1,L2,L3,L4,L5,L6,rfl,rfl⟩,rfl⟩;refine ac ?_;refine au (fun s L=> ∃w8 w9 a7 a8 b0 b1 x0 x1 x2 x3 x4 x5 b2 b3 b4 b5 b6 b7 b8,tC N w8 w9 a7 a8 b0 b1=some r/\s=[(6,.pointer none),(7,pV B7 0)]/\L=[bf x0 x1 x2 w8,bf x3 x4 x5 w9,db b2 b3 b4 a7,eA b5 b6 b7 a8,am bj bH b8 b0,ab B7 186 [U x0 x1 x2,U x3 x4 x5,U b2 b3 b4,U b5 b6 b7,.map (some b8),iV b1]]) ?_ ?_
 ·refine ac ?_;refine aY (fun m s L=> ∃b9 c0 c8 d0 d1 d2 d3 d4 d6 e2 e3 e4 e5 e6 e7 e8 e9 f1 f2,kk N m b9 c0 c8 d0 d1 d2=some r/\s=[(6,.pointer none),(7,pV B7 0)]/\L=[bf d3 d4 d6 b9,bf e2 e3 e4 c0,db e5 e6 e7 c8,eA e8 e9 f1 d0,am bj bH f2 d1,ab B7 186 [U d3 d4 d6,U e2 e3 e4,U e5 e6 e7,U e8 e9 f1,.map (some f2),iV d2]]) N _ _ ⟨f3.m_.Uj,f3.m_.Ul,f3.Vb,f3.UM,f3.Va,f3.UB,z1,z2,z6,A8,B4,B9,L0,L1,L2,L3,L4,L5,L6,h,J,J⟩ sA (cS [1,2,3,4,5,0] 9) ?_;rintro (_|L7) _ _ ⟨b9,c0,c8,d0,d1,d2,d3,d4,d6,e2,e3,e4,e5,e6,e7,e8,e9,f1,f2,h,rfl,rfl⟩
  ·exact ao h
  rw [kk.eq_2] at h;refine sZ ?_;obtain ⟨L8,k,h⟩:=aa h;refine gD (oC (wL k)) ?_;rintro _ _ ⟨_,⟨L9,M0,M1,M3,M4,M8,Q1,S0,S1,S2,S3,S4,S5,rfl,rfl⟩,rfl⟩;refine fw h ?_ ?_<;>intro h
  ·refine ac ?_;obtain ⟨S6,k,h⟩:=aa h;refine gD (oC (oe k)) ?_;rintro _ _ ⟨_,⟨S7,S8,S9,T1,T2,T3,T4,T5,T6,T7,T8,T9,U0,rfl,rfl⟩,rfl⟩;exact lY
  exact jY
 rintro _ _ ⟨w8,w9,a7,a8,b0,b1,x0,x1,x2,x3,x4,x5,b2,b3,b4,b5,b6,b7,b8,h,rfl,rfl⟩;exact eY
def oK (N:Nat)(a0:Tv)(p8:TO):Option TO:=
 some p8
def gy (N:Nat)(a1:TO->Int->Int->Int->Option TO)(a0:Tv)(p13:Int)(a2:TO)(a6:Int)(a7:Int):Option TO:=
 be (in64 (p13+1)) (a1 a2 a6 a7 (p13+1))
def cq (N:Nat)(a0:Tv):Nat->TO->Int->Int->Int->Option TO
 |0,_,_,_,_=>none
 |m9+1,a6,a1,a2,p13=>bif decide (p13<(a0.UM.length:Int)) then ((aw a0.UM p13).bind fun a7=>(bI N a0 a7).bind fun a8=>bif decide (a8.Ux=0) then (be (in64 (2*a1)) (be (in64 ((2*a1)+1)) (be (bJ (a6.length+([(2*a1)+1]:List Int).length)) (be (in64 (a1+1)) (gy N (cq N a0 m9) a0 p13 (a6++([(2*a1)+1]:List Int)) (a1+1) a2))))) else (be (in64 (2*a2)) (be (in64 ((2*a2)+2)) (be (bJ (a6.length+([(2*a2)+2]:List Int).length)) (be (in64 (a2+1)) (gy N (cq N a0 m9) a0 p13 (a6++([(2*a2)+2]:List Int)) a1 (a2+1))))))) else (oK N a0 a6)
def fF (N:Nat)(a0:Tv):Option TO:=
 cq N a0 N [] 0 (a0.m_.Ul.length:Int) 0
theorem uP {N:Nat}{a0:Tv}{r:TO}(h:fF N a0=some r):Okc Ua 132 [pV B1 0] ([bf A2 n2 c2 a0.m_.Uj,bf A3 n3 c3 a0.m_.Ul,db A4 n4 c4 a0.Vb,ab B1 186 [U A2 n2 c2,U A3 n3 c3,U A4 n4 c4,U A5 n5 c5,.map (some M6),iV a0.UB],eA A5 n5 c5 a0.UM,am bj bH M6 a0.Va]) (fun u post=> ∃a1 a2 a6,u=U a1 a2 a6/\post=[eA a1 a2 a6 r,ab B1 186 [U A2 n2 c2,U A3 n3 c3,U A4 n4 c4,U A5 n5 c5,.map (some M6),iV a0.UB],eA A5 n5 c5 a0.UM,am bj bH M6 a0.Va]):=by
 refine cA Tryz.func132 ?_;refine dY [] ?_;refine ac ?_;refine au (fun s L=> ∃p8 A8 n8 c8,oK N a0 p8=some r/\s=[(2,U none 0 0),(3,U A8 n8 c8)]/\L=[eA A8 n8 c8 p8,bf A2 n2 c2 a0.m_.Uj,bf A3 n3 c3 a0.m_.Ul,db A4 n4 c4 a0.Vb,eA A5 n5 c5 a0.UM,am bj bH M6 a0.Va,ab B1 186 [U A2 n2 c2,U A3 n3 c3,U A4 n4 c4,U A5 n5 c5,.map (some M6),iV a0.UB]]) ?_ ?_
 ·refine ac ?_;refine aY (fun m s L=> ∃b0 a7 a8 p13 b1 b2 b3,cq N a0 m b0 a7 a8 p13=some r/\s=[(0,pV B1 0),(2,U none 0 0),(3,U b1 b2 b3),(4,iV a7),(5,iV a8),(17,U A5 n5 c5),(18,iV (a0.UM.length:Int)),(19,iV p13)]/\L=[eA b1 b2 b3 b0,eA A5 n5 c5 a0.UM,bf A2 n2 c2 a0.m_.Uj,bf A3 n3 c3 a0.m_.Ul,db A4 n4 c4 a0.Vb,am bj bH M6 a0.Va,ab B1 186 [U A2 n2 c2,U A3 n3 c3,U A4 n4 c4,U A5 n5 c5,.map (some M6),iV a0.UB]]) N _ _ ⟨[],0,(a0.m_.Ul.length:Int),0,none,0,0,h,J,J⟩ sA ((aU (dg .i64) 3 _).trans (cS [0,5,1,2,3,6,4] 7)) ?_;rintro (_|m9) _ _ ⟨b0,a7,a8,p13,b1,b2,b3,h,rfl,rfl⟩
  ·exact ao h
  rw [cq.eq_2] at h;refine ac ?_;refine aG ?_;refine gH J h ?_ ?_<;>intro h
  ·refine ac ?_;refine au (fun s L=> ∃b4 b5 b6 b7 b8 b9,gy N (cq N a0 m9) a0 p13 b4 b5 b6=some r/\s=[(0,pV B1 0),(2,U none 0 0),(3,U b7 b8 b9),(4,iV b5),(5,iV b6),(17,U A5 n5 c5),(18,iV (a0.UM.length:Int)),(19,iV p13)]/\L=[eA b7 b8 b9 b4,eA A5 n5 c5 a0.UM,bf A2 n2 c2 a0.m_.Uj,bf A3 n3 c3 a0.m_.Ul,db A4 n4 c4 a0.Vb,am bj bH M6 a0.Va,ab B1 186 [U A2 n2 c2,U A3 n3 c3,U A4 n4 c4,U A5 n5 c5,.map (some M6),iV a0.UB]]) ?_ ?_
   ·refine ac ?_;obtain ⟨d6,d0,d1,d2,h⟩:=bz h;refine ac ?_;obtain ⟨e2,k,h⟩:=aa h;refine gD (oC (gk k)) ?_;rintro _ _ ⟨_,⟨e3,e4,e5,e6,e7,e8,rfl,rfl⟩,rfl⟩;refine fC (qc J (LC _ _ _ _ _ _ _ _ _ _)) ?_;refine gH J h ?_ ?_<;>intro h
    ·refine ac ?_;obtain ⟨c0,h⟩:=ah h;refine gE (tJ J J c0.1 c0.2) ?_;obtain ⟨e9,h⟩:=ah h;refine ac ?_;refine gD (az (R:=(dg .i64)) (vss:=[[iV ((2*a7)+1)]]) (xs:=[(2*a7)+1]) J (ll _) J J (fun _ _ hr=> .cons J All2.nil)) ?_;rintro _ _ ⟨f1,f2,f3,rfl,rfl⟩;obtain ⟨d3,h⟩:=ah h
     refine nk (ay 6 0 J J aB J J t5 F5 J J d3) fun f4 g0 g1=> ?_
     obtain ⟨g2,h⟩:=ah h;exact jY
    refine ac ?_;obtain ⟨c9,h⟩:=ah h;refine gE (tJ J J c9.1 c9.2) ?_;obtain ⟨g3,h⟩:=ah h;refine ac ?_;refine gD (az (R:=(dg .i64)) (vss:=[[iV ((2*a8)+2)]]) (xs:=[(2*a8)+2]) J (ll _) J J (fun _ _ hr=> .cons J All2.nil)) ?_;rintro _ _ ⟨g4,g5,g6,rfl,rfl⟩;obtain ⟨d4,h⟩:=ah h
    refine nk (ay 6 0 J J aB J J t5 F5 J J d4) fun g7 g8 g9=> ?_
    obtain ⟨h0,h⟩:=ah h;exact jY
   rintro _ _ ⟨b4,b5,b6,b7,b8,b9,h,rfl,rfl⟩;refine ac ?_;obtain ⟨h1,h⟩:=ah h;exact lY
  exact jY
 rintro _ _ ⟨p8,A8,n8,c8,h,rfl,rfl⟩;exact eY
def jG (N:Nat)(a0:TB)(a1:TO)(a2:TN):Option (TB×TN):=
 bif decide (a0.Ui=8) then ((mE N a0 a1).bind fun y8=>some (y8,a2)) else (bif decide (a0.Ui=10) then ((kq N a0 a1).bind fun a6=>be (bJ (a2.length+a6.2.length)) (some (a6.1,a2++a6.2))) else (some (a0,a2)))
theorem wM {N:Nat}{a0:TB}{a1:TO}{a2:TN}{r:TB×TN}(h:jG N a0 a1 a2=some r):Okc Ua 135 [.agg #[iV a0.Ui,iV a0.Uw,iV a0.Uv,iV a0.Ux,U A1 n1 c1,U A2 n2 c2],U A3 n3 c3,U A4 n4 c4] ([bc A1 n1 c1 a0.Uo,bc A2 n2 c2 a0.Um,db A3 n3 c3 a1,aC A4 n4 c4 a2]) (fun u post=> ∃A0 n0 c0 A1 n1 c1 A2 n2 c2,u=.tuple #[.agg #[iV r.1.Ui,iV r.1.Uw,iV r.1.Uv,iV r.1.Ux,U A0 n0 c0,U A1 n1 c1],U A2 n2 c2]/\post=[bc A0 n0 c0 r.1.Uo,bc A1 n1 c1 r.1.Um,aC A2 n2 c2 r.2]):=by
 refine cA Tryz.func135 ?_;intro B5
 refine jg fun B6=> ?_
 refine sZ ?_;refine gH J h ?_ ?_<;>intro h
 ·refine ac ?_;obtain ⟨y8,k,h⟩:=aa h
  refine FN (oR (ye k)) fun A9 n9 c9 b4 b5 b6=> ?_
  obtain rfl:=bS h;exact fR (rs:=[.cell 6 42,.tmp 7]) (vs:=[.agg #[iV y8.Ui,iV y8.Uw,iV y8.Uv,iV y8.Ux,U A9 n9 c9,U b4 b5 b6],U A4 n4 c4]) J (.cons (bo 2 J J agg42.out) (.cons (pg J) .nil)) J ((bv 0 J).trans ((bv 1 J).trans (cS [0,1,7] 8))) ⟨_,_,_,_,_,_,_,_,_,J,J⟩
 refine fw h ?_ ?_<;>intro h
 ·refine ac ?_;obtain ⟨a6,k,h⟩:=aa h
  refine Qx (oR (vF k)) fun a7 a8 b0 b1 b2 b3 b7 b8 b9=> ?_
  intro c8;refine ac ?_;refine aG ?_;refine bV I ([ab c8 42 [iV a6.1.Ui,iV a6.1.Uw,iV a6.1.Uv,iV a6.1.Ux,U a7 a8 b0,U b1 b2 b3],aC a7 a8 b0 a6.1.Uo,aC b1 b2 b3 a6.1.Um,aC b7 b8 b9 a6.2,ab B5 42 [iV a0.Ui,iV a0.Uw,iV a0.Uv,iV a0.Ux,U A1 n1 c1,U A2 n2 c2],bc A1 n1 c1 a0.Uo,bc A2 n2 c2 a0.Um,db A3 n3 c3 a1]) (cS [0,1,2,3,5,6,7,8] 10) ?_;refine ac ?_;obtain ⟨d0,h⟩:=ah h;refine zD 3 J (ay 9 3 J J aB J J t0 zf J J d0) ?_;rintro _ _ ⟨d1,d2,d3,rfl,rfl⟩;refine aA (cS [0,1,2,3,5,6,7,8] 10) ?_;refine zO 4 J (aj (us:=[iV a6.1.Ui,iV a6.1.Uw,iV a6.1.Uv,iV a6.1.Ux,U a7 a8 b0,U b1 b2 b3]) (cs':=[iV a6.1.Ui,iV a6.1.Uw,iV a6.1.Uv,iV a6.1.Ux,U a7 a8 b0,U b1 b2 b3]) 4 J J J J size42.out J J J) ?_;rintro _ _ rfl;refine aA (cS [0,1,2,3,5,6,7,8] 10) ?_;refine ac ?_;obtain rfl:=bS h;exact fR (rs:=[.cell 6 42,.tmp 7]) (vs:=[.agg #[iV a6.1.Ui,iV a6.1.Uw,iV a6.1.Uv,iV a6.1.Ux,U a7 a8 b0,U b1 b2 b3],U d1 d2 d3]) J (.cons (bo 4 J J agg42.out) (.cons (pg J) .nil)) J ((bv 1 J).trans ((bv 2 J).trans (cS [1,2,9] 10))) ⟨_,_,_,_,_,_,_,_,_,J,J⟩
 exact eY
def sC (N:Nat)(a1:TB)(a2:TN)(a6:TN):Option TB:=
 some (⟨a1.Ui,a1.Uw,a1.Uv,a1.Ux,a2,a6⟩:TB)
def sx (N:Nat)(p9:TY)(a1:TN)(a2:TB)(a6:TN):Option TB:=
 sC N a2 a1 a6
def o3 (N:Nat)(a1:TN->Int->Option TB)(a7:TB)(a2:Int)(p9:TY)(a8:TN)(a6:TN):Option TB:=
 be (in64 (a2+1)) (a1 a6 (a2+1))
def gu (N:Nat)(a1:TB)(p9:TY)(a6:TN):Nat->TN->Int->Option TB
 |0,_,_=>none
 |b0+1,a7,a2=>bif decide (a2<(a1.Um.length:Int)) then ((aw a7 a2).bind fun a8=>(bif (lk p9 a8.N).isSome then ((mR N a8).bind fun b2=>some b2) else (some false)).bind fun b3=>bif b3 then ((aw a7 a2).bind fun b1=>o3 N (gu N a1 p9 a6 b0) a1 a2 p9 a6 (List.set a7 a2.toNat (⟨b1.Ui,(lk p9 a8.N).getD 0,b1.S⟩:Ty))) else (o3 N (gu N a1 p9 a6 b0) a1 a2 p9 a6 a7)) else (sx N p9 a6 a1 a7)
def sB (N:Nat)(p9:TY)(a1:TB)(a2:TN):Option TB:=
 gu N a1 p9 a2 N a1.Um 0
def o4 (N:Nat)(a1:TN->Int->Option TB)(a7:TB)(a2:Int)(p9:TY)(a6:TN):Option TB:=
 be (in64 (a2+1)) (a1 a6 (a2+1))
def gv (N:Nat)(a1:TB)(p9:TY):Nat->TN->Int->Option TB
 |0,_,_=>none
 |a8+1,a6,a2=>bif decide (a2<(a1.Uo.length:Int)) then ((aw a6 a2).bind fun a7=>(bif (lk p9 a7.N).isSome then ((mR N a7).bind fun b1=>some b1) else (some false)).bind fun b2=>bif b2 then ((aw a6 a2).bind fun b0=>o4 N (gv N a1 p9 a8) a1 a2 p9 (List.set a6 a2.toNat (⟨b0.Ui,(lk p9 a7.N).getD 0,b0.S⟩:Ty))) else (o4 N (gv N a1 p9 a8) a1 a2 p9 a6)) else (sB N p9 a1 a6)
def pO (N:Nat)(a0:TB)(p9:TY):Option TB:=
 (eG N a0).bind fun a1=>gv N a1 p9 N a1.Uo 0
def mC (N:Nat)(a6:TY->Int->Option TB)(a1:TO)(a7:Int)(a2:TO)(a0:TB)(a8:TY):Option TB:=
 be (in64 (a7+1)) (a6 a8 (a7+1))
def fb (N:Nat)(a1:TO)(a2:TO)(a0:TB):Nat->TY->Int->Option TB
 |0,_,_=>none
 |b0+1,a8,a6=>bif decide (a6<(a1.length:Int)) then ((aw a1 a6).bind fun a7=>bif (lk a8 a7).isSome then (mC N (fb N a1 a2 a0 b0) a1 a6 a2 a0 a8) else (bif decide (a6<(a2.length:Int)) then ((aw a2 a6).bind fun b1=>mC N (fb N a1 a2 a0 b0) a1 a6 a2 a0 (yy (yy a8 a7 a7) a7 b1)) else (mC N (fb N a1 a2 a0 b0) a1 a6 a2 a0 (yy a8 a7 a7)))) else (pO N a0 a8)
def fZ (N:Nat)(a0:TB)(a1:TO)(a2:TO):Option TB:=
 fb N a1 a2 a0 N ([]:TY) 0
theorem tL {N:Nat}{a0:TB}{a1:TO}{a2:TO}{r:TB}(h:fZ N a0 a1 a2=some r):Okc Ua 136 [.agg #[iV a0.Ui,iV a0.Uw,iV a0.Uv,iV a0.Ux,U A1 n1 c1,U A2 n2 c2],U A3 n3 c3,U A4 n4 c4] ([bc A1 n1 c1 a0.Uo,bc A2 n2 c2 a0.Um,db A3 n3 c3 a1,db A4 n4 c4 a2]) (fun u post=> ∃A0 n0 c0 A1 n1 c1,u=.agg #[iV r.Ui,iV r.Uw,iV r.Uv,iV r.Ux,U A0 n0 c0,U A1 n1 c1]/\post=[aC A0 n0 c0 r.Uo,aC A1 n1 c1 r.Um]):=by
 refine cA Tryz.func136 ?_;intro B5
 refine jg fun B6=> ?_
 refine gD (BD (ek:=bj) (ev:=dq) J Tj) ?_;rintro _ _ ⟨M7,rfl,rfl⟩;refine ac ?_;refine au (fun s L=> ∃p9,pO N a0 p9=some r/\s=[(3,pV B5 0),(6,pV B6 0),(7,.map (some M7))]/\L=[am bj dq M7 p9,bc A1 n1 c1 a0.Uo,bc A2 n2 c2 a0.Um,ab B5 42 [iV a0.Ui,iV a0.Uw,iV a0.Uv,iV a0.Ux,U A1 n1 c1,U A2 n2 c2],ab B6 42 [iV 0,iV 0,iV 0,iV 0,U none 0 0,U none 0 0]]) ?_ ?_
 ·refine ac ?_;refine aY (fun m s L=> ∃g3 e2,fb N a1 a2 a0 m g3 e2=some r/\s=[(2,U A4 n4 c4),(3,pV B5 0),(6,pV B6 0),(7,.map (some M7)),(21,U A3 n3 c3),(22,iV (a1.length:Int)),(23,iV e2)]/\L=[db A4 n4 c4 a2,am bj dq M7 g3,db A3 n3 c3 a1,bc A1 n1 c1 a0.Uo,bc A2 n2 c2 a0.Um,ab B5 42 [iV a0.Ui,iV a0.Uw,iV a0.Uv,iV a0.Ux,U A1 n1 c1,U A2 n2 c2],ab B6 42 [iV 0,iV 0,iV 0,iV 0,U none 0 0,U none 0 0]]) N _ _ ⟨([]:TY),0,h,J,J⟩ sA (cS [6,0,5,3,4,2,1] 7) ?_;rintro (_|j3) _ _ ⟨g3,e2,h,rfl,rfl⟩
  ·exact ao h
  rw [fb.eq_2] at h;refine ac ?_;refine aG ?_;refine gH J h ?_ ?_<;>intro h
  ·refine ac ?_;refine au (fun s L=> ∃g4,mC N (fb N a1 a2 a0 j3) a1 e2 a2 a0 g4=some r/\s=[(2,U A4 n4 c4),(3,pV B5 0),(6,pV B6 0),(7,.map (some M7)),(21,U A3 n3 c3),(22,iV (a1.length:Int)),(23,iV e2)]/\L=[db A4 n4 c4 a2,am bj dq M7 g4,db A3 n3 c3 a1,bc A1 n1 c1 a0.Uo,bc A2 n2 c2 a0.Um,ab B5 42 [iV a0.Ui,iV a0.Uw,iV a0.Uv,iV a0.Ux,U A1 n1 c1,U A2 n2 c2],ab B6 42 [iV 0,iV 0,iV 0,iV 0,U none 0 0,U none 0 0]]) ?_ ?_
   ·refine ac ?_;obtain ⟨f2,j4,j5,j6,h⟩:=bz h;refine sY ?_;refine EL (rR (a:=f2) (z:=0) 1 J uR J J Tj (ei hU) zero3.out) ?_;refine gH J h ?_ ?_<;>intro h
    ·exact jY
    refine ac ?_;refine HZ (ii (a:=f2) (b:=f2) 1 J J J J Tj (ei hU)) ?_;refine gH J h ?_ ?_<;>intro h
    ·refine ac ?_;obtain ⟨j7,j8,j9,k0,h⟩:=bz h;refine ac ?_;refine HZ (ii (a:=f2) (b:=j7) 1 J J J J Tj (ei hU)) ?_;exact jN
    exact jY
   rintro _ _ ⟨g4,h,rfl,rfl⟩;refine ac ?_;obtain ⟨l1,h⟩:=ah h;exact lY
  exact jY
 rintro _ _ ⟨p9,h,rfl,rfl⟩;refine ac ?_;obtain ⟨a6,k,h⟩:=aa h
 refine FN (oR (jA k)) fun i2 i8 j0 b2 b3 b4=> ?_
 refine au (fun s L=> ∃g5 g6 g7 g8 g9 h0 h1 h2,sC N a6 g5 g6=some r/\s=[(3,pV B5 0),(6,pV B6 0)]/\L=[aC g7 g8 g9 g5,aC h0 h1 h2 g6,ab B5 42 [iV a6.Ui,iV a6.Uw,iV a6.Uv,iV a6.Ux,U g7 g8 g9,U h0 h1 h2],ab B6 42 [iV 0,iV 0,iV 0,iV 0,U none 0 0,U none 0 0]]) ?_ ?_
 ·refine ac ?_
  refine gB (eU (cs:=[U i2 i8 j0,U b2 b3 b4]) J (nA _ _ _ _ _ _)) fun b1=> ?_
  refine fC (oW J EM) ?_;refine sF 3 ?_;refine tM ?_;refine ac ?_;refine aG ?_;refine cK J ?_;refine ac ?_;refine au (fun s L=> ∃b5 a7 a8 b0,sB N p9 a6 b5=some r/\s=[(3,pV B5 0),(6,pV B6 0),(7,.map (some M7)),(55,.slice (some ⟨b1,0,none⟩) 2 2),(56,iV 2),(57,iV 0)]/\L=[am bj dq M7 p9,aC a7 a8 b0 b5,aC b2 b3 b4 a6.Um,ab B5 42 [iV a6.Ui,iV a6.Uw,iV a6.Uv,iV a6.Ux,U a7 a8 b0,U b2 b3 b4],ab B6 42 [iV 0,iV 0,iV 0,iV 0,U none 0 0,U none 0 0],ab b1 30 [U a7 a8 b0,U b2 b3 b4]]) ?_ ?_
  ·refine ac ?_;refine fC (nU J J EM size30.out (by decide) (by decide)) ?_;refine aY (fun m s L=> ∃h3 e3 b6 b7 b8,gv N a6 p9 m h3 e3=some r/\s=[(3,pV B5 0),(6,pV B6 0),(7,.map (some M7)),(13,U b6 b7 b8),(55,.slice (some ⟨b1,0,none⟩) 2 2),(56,iV 2),(57,iV 0),(61,U b6 b7 b8),(62,iV (a6.Uo.length:Int)),(63,iV e3)]/\L=[am bj dq M7 p9,aC b6 b7 b8 h3,aC b2 b3 b4 a6.Um,ab B5 42 [iV a6.Ui,iV a6.Uw,iV a6.Uv,iV a6.Ux,U b6 b7 b8,U b2 b3 b4],ab B6 42 [iV 0,iV 0,iV 0,iV 0,U none 0 0,U none 0 0],ab b1 30 [U b6 b7 b8,U b2 b3 b4]]) N _ _ ⟨a6.Uo,0,i2,i8,j0,h,J,J⟩ sA (cS [3,1,2,6,7,0] 8) ?_;rintro (_|k1) _ _ ⟨h3,e3,b6,b7,b8,h,rfl,rfl⟩
   ·exact ao h
   rw [gv.eq_2] at h;refine ac ?_;refine aG ?_;refine gH J h ?_ ?_<;>intro h
   ·refine ac ?_;refine au (fun s L=> ∃h4 b9 c8 c9,o4 N (gv N a6 p9 k1) a6 e3 p9 h4=some r/\s=[(3,pV B5 0),(6,pV B6 0),(7,.map (some M7)),(13,U b9 c8 c9),(55,.slice (some ⟨b1,0,none⟩) 2 2),(56,iV 2),(57,iV 0),(61,U b9 c8 c9),(62,iV (a6.Uo.length:Int)),(63,iV e3)]/\L=[am bj dq M7 p9,aC b9 c8 c9 h4,aC b2 b3 b4 a6.Um,ab B5 42 [iV a6.Ui,iV a6.Uw,iV a6.Uv,iV a6.Ux,U b9 c8 c9,U b2 b3 b4],ab B6 42 [iV 0,iV 0,iV 0,iV 0,U none 0 0,U none 0 0],ab b1 30 [U b9 c8 c9,U b2 b3 b4]]) ?_ ?_
    ·refine ac ?_;obtain ⟨h5,k2,k3,k4,h⟩:=bz h
     refine jg fun l2=> ?_
     refine EL (rR (a:=h5.N) (z:=0) 1 J uR J J Tj (ei hU) zero3.out) ?_;obtain ⟨k5,e4,h⟩:=aa h;refine aR 3 79 k5 ?_ ?_
     ·clear h;refine aP 76 J (fun f3=> ?_) (fun f3=> ?_)
      ·have h:=aE f3 e4;refine ac ?_;obtain ⟨l3,k,h⟩:=aa h;refine gU (oR (tK k)) (cB f3 J) ?_;exact gY
      have h:=aF f3 e4;exact gY
     refine fw h ?_ ?_<;>intro h
     ·refine ac ?_;obtain ⟨j1,e5,e6,h6,h⟩:=bz h;refine ac ?_;refine gR (sW 2 J aB J (bR e5 e6) vb) ?_;refine HZ (rp (us:=[iV ((lk p9 h5.N).getD 0)]) (z:=(⟨j1.Ui,(lk p9 h5.N).getD 0,j1.S⟩:Ty)) 2 J J J J size3.out J (bR e5 e6) J (fun S w vs xk hk hr ho=>by obtain rfl:=Option.some.inj (hk.symm.trans h6);rw [show _=_ from hr];rfl)) ?_;exact jN
     exact jY
    rintro _ _ ⟨h4,b9,c8,c9,h,rfl,rfl⟩;refine ac ?_;obtain ⟨l4,h⟩:=ah h;exact lY
   exact jY
  rintro _ _ ⟨b5,a7,a8,b0,h,rfl,rfl⟩;refine ac ?_;refine fC (dL J J (by decide) (by decide)) ?_;refine tM ?_;refine ac ?_;refine aG ?_;refine cK J ?_;refine ac ?_;refine au (fun s L=> ∃h7 f4 g0 g1,sx N p9 b5 a6 h7=some r/\s=[(3,pV B5 0),(6,pV B6 0),(7,.map (some M7)),(55,.slice (some ⟨b1,0,none⟩) 2 2),(56,iV 2),(57,iV 1)]/\L=[am bj dq M7 p9,aC a7 a8 b0 b5,aC f4 g0 g1 h7,ab B5 42 [iV a6.Ui,iV a6.Uw,iV a6.Uv,iV a6.Ux,U a7 a8 b0,U f4 g0 g1],ab B6 42 [iV 0,iV 0,iV 0,iV 0,U none 0 0,U none 0 0],ab b1 30 [U a7 a8 b0,U f4 g0 g1]]) ?_ ?_
  ·refine ac ?_;refine fC (nU J J EM size30.out (by decide) (by decide)) ?_;refine aY (fun m s L=> ∃h8 e7 d0 d1 d2,gu N a6 p9 b5 m h8 e7=some r/\s=[(3,pV B5 0),(6,pV B6 0),(7,.map (some M7)),(13,U d0 d1 d2),(55,.slice (some ⟨b1,0,none⟩) 2 2),(56,iV 2),(57,iV 1),(61,U d0 d1 d2),(62,iV (a6.Um.length:Int)),(63,iV e7)]/\L=[am bj dq M7 p9,aC d0 d1 d2 h8,aC a7 a8 b0 b5,ab B5 42 [iV a6.Ui,iV a6.Uw,iV a6.Uv,iV a6.Ux,U a7 a8 b0,U d0 d1 d2],ab B6 42 [iV 0,iV 0,iV 0,iV 0,U none 0 0,U none 0 0],ab b1 30 [U a7 a8 b0,U d0 d1 d2]]) N _ _ ⟨a6.Um,0,b2,b3,b4,h,J,J⟩ sA (cS [0,2,1,3,4,5] 6) ?_;rintro (_|k6) _ _ ⟨h8,e7,d0,d1,d2,h,rfl,rfl⟩
   ·exact ao h
   rw [gu.eq_2] at h;refine ac ?_;refine aG ?_;refine gH J h ?_ ?_<;>intro h
   ·refine ac ?_;refine au (fun s L=> ∃h9 d3 d4 d6,o3 N (gu N a6 p9 b5 k6) a6 e7 p9 b5 h9=some r/\s=[(3,pV B5 0),(6,pV B6 0),(7,.map (some M7)),(13,U d3 d4 d6),(55,.slice (some ⟨b1,0,none⟩) 2 2),(56,iV 2),(57,iV 1),(61,U d3 d4 d6),(62,iV (a6.Um.length:Int)),(63,iV e7)]/\L=[am bj dq M7 p9,aC d3 d4 d6 h9,aC a7 a8 b0 b5,ab B5 42 [iV a6.Ui,iV a6.Uw,iV a6.Uv,iV a6.Ux,U a7 a8 b0,U d3 d4 d6],ab B6 42 [iV 0,iV 0,iV 0,iV 0,U none 0 0,U none 0 0],ab b1 30 [U a7 a8 b0,U d3 d4 d6]]) ?_ ?_
    ·refine ac ?_;obtain ⟨i0,k7,k8,k9,h⟩:=bz h
     refine jg fun l5=> ?_
     refine EL (rR (a:=i0.N) (z:=0) 1 J uR J J Tj (ei hU) zero3.out) ?_;obtain ⟨l0,e8,h⟩:=aa h;refine aR 3 79 l0 ?_ ?_
     ·clear h;refine aP 76 J (fun g2=> ?_) (fun g2=> ?_)
      ·have h:=aE g2 e8;refine ac ?_;obtain ⟨l6,k,h⟩:=aa h;refine gU (oR (tK k)) (cB g2 J) ?_;exact gY
      have h:=aF g2 e8;exact gY
     refine fw h ?_ ?_<;>intro h
     ·refine ac ?_;obtain ⟨j2,e9,f1,i1,h⟩:=bz h;refine ac ?_;refine gR (sW 2 J aB J (bR e9 f1) vb) ?_;refine HZ (rp (us:=[iV ((lk p9 i0.N).getD 0)]) (z:=(⟨j2.Ui,(lk p9 i0.N).getD 0,j2.S⟩:Ty)) 2 J J J J size3.out J (bR e9 f1) J (fun S w vs xk hk hr ho=>by obtain rfl:=Option.some.inj (hk.symm.trans i1);rw [show _=_ from hr];rfl)) ?_;exact jN
     exact jY
    rintro _ _ ⟨h9,d3,d4,d6,h,rfl,rfl⟩;refine ac ?_;obtain ⟨l7,h⟩:=ah h;exact lY
   exact jY
  rintro _ _ ⟨h7,f4,g0,g1,h,rfl,rfl⟩;refine ac ?_;refine fC (dL J J (by decide) (by decide)) ?_;refine tM ?_;refine ac ?_;refine aG ?_;refine cy J ?_;exact jY
 rintro _ _ ⟨g5,g6,g7,g8,g9,h0,h1,h2,h,rfl,rfl⟩;exact eY
theorem Ce {r:TB}: ∀v post,((fun (u:Value) (post:List Chunk)=> ∃A0 n0 c0 A1 n1 c1,u=.agg #[iV r.Ui,iV r.Uw,iV r.Uv,iV r.Ux,U A0 n0 c0,U A1 n1 c1]/\post=[aC A0 n0 c0 r.Uo,aC A1 n1 c1 r.Um])) v post-> ∀c∈post,jP c:=by
 rintro _ _ ⟨_,_,_,_,_,_,rfl,rfl⟩;exact hP sf (hP sf (aD))
def jF (N:Nat)(a0:TN)(a1:TO)(a2:TO):Option TN:=
 (fZ N (⟨0,0,0,0,[],a0⟩:TB) a1 a2).bind fun y4=>some y4.Um
theorem wK {N:Nat}{a0:TN}{a1:TO}{a2:TO}{r:TN}(h:jF N a0 a1 a2=some r):Okc Ua 139 [U A1 n1 c1,U A2 n2 c2,U A3 n3 c3] ([bc A1 n1 c1 a0,db A2 n2 c2 a1,db A3 n3 c3 a2]) (fun u post=> ∃A0 n0 c0,u=U A0 n0 c0/\post=[aC A0 n0 c0 r]):=by
 refine Dc Tryz.func139 J J ?_;simp only [qN];refine Y ?_;refine gE (bM J (bld_42_5 _ _ _).out) ?_;refine Y ?_;obtain ⟨y4,k,h⟩:=aa h;refine gD (cp (tL k) call136.out J (hP (Lt) (hP (cG (i:=0) J J) (hP (cG (i:=1) J J) (hP (cG (i:=2) J J) aD)))) Ce) ?_;rintro _ _ ⟨_,⟨A5,n5,c5,A6,n6,c6,rfl,rfl⟩,rfl⟩;refine gE (qc J (wV _ _ _ _ _ _ _ _ _ _)) ?_;refine Y ?_;obtain rfl:=bS h;exact sr J J (cS [1] 5) ⟨_,_,_,J,J⟩
end Go.Proofs.YtjmonlcchlkdhaaGreat
namespace Go.Proofs.YtjmonlcchlkdhaaGreat
variable {A1 A2 A3 A4 A5 A6 A7:Option Addr} {B1 B2 B3 B6 B8 M2 M6 M7 M9 c1 c2 c3 c4 c5 c6 c7 n1 n2 n3 n4 n5 n6 n7:Nat}
open Go.RowKit Asn
set_option maxRecDepth 20000
def oM (N:Nat)(a1:TN)(a7:TO)(a8:Tv)(b0:TN)(b1:TV)(b2:TV):Option (TM×TN×TN×Int):=
 (jF N a1 a8.UM a7).bind fun a2=>(jF N b0 a8.UM a7).bind fun a6=>some ((⟨b1,b2⟩:TM),a2,a6,0)
def lO (N:Nat)(a2:TN->Int->TV->TV->Option (TM×TN×TN×Int))(b1:Tv)(a6:Int)(a1:TN)(b2:TO)(b3:TO)(a7:TN)(a8:TV)(b0:TV):Option (TM×TN×TN×Int):=
 be (in64 (a6+1)) (a2 a7 (a6+1) a8 b0)
def dV (N:Nat)(a6:Tv)(a1:TN)(a7:TO)(a8:TO):Nat->TN->Int->TV->TV->Option (TM×TN×TN×Int)
 |0,_,_,_,_=>none
 |b4+1,b5,b0,b1,b2=>bif decide (b0<(a6.UM.length:Int)) then ((aw a6.UM b0).bind fun b6=>(bI N a6 b6).bind fun b7=>(jG N b7 a8 b5).bind fun b3=>(fZ N b3.1 a6.UM a7).bind fun a2=>(aw a7 b0).bind fun b8=>(fU N b8).bind fun b9=>bif b9 then (be (bJ (b1.length+([(⟨a2.Ui,a2.Uw,a2.Uv,1,a2.Uo,a2.Um⟩:TB)]:List TB).length)) (lO N (dV N a6 a1 a7 a8 b4) a6 b0 a1 a7 a8 b3.2 (b1++([(⟨a2.Ui,a2.Uw,a2.Uv,1,a2.Uo,a2.Um⟩:TB)]:List TB)) b2)) else (be (bJ (b2.length+([(⟨a2.Ui,a2.Uw,a2.Uv,1,a2.Uo,a2.Um⟩:TB)]:List TB).length)) (lO N (dV N a6 a1 a7 a8 b4) a6 b0 a1 a7 a8 b3.2 b1 (b2++([(⟨a2.Ui,a2.Uw,a2.Uv,1,a2.Uo,a2.Um⟩:TB)]:List TB))))) else (oM N a1 a7 a6 b5 b1 b2)
def oN (N:Nat)(a1:TN)(a2:TO)(a6:Tv)(a7:TN)(a8:TO)(b0:TV):Option (TM×TN×TN×Int):=
 dV N a6 a1 a2 a8 N a7 0 [] b0
def jv (N:Nat)(a6:TN->TO->Int->TV->Option (TM×TN×TN×Int))(a0:TM)(a7:Int)(a1:TN)(a2:TO)(b1:TO)(b2:TO)(a8:TV)(b3:Tv)(b4:TN)(b5:Int)(b6:Int)(b7:Int)(b8:Int)(b9:TN)(c0:TN):Option (TM×TN×TN×Int):=
 (fZ N (⟨b5,b6,b7,b8,b9,c0⟩:TB) b3.UM b1).bind fun b0=>be (bJ (a8.length+([b0]:List TB).length)) (be (in64 (a7+1)) (a6 b4 b2 (a7+1) (a8++([b0]:List TB))))
def eW (N:Nat)(a0:TM)(a1:TN)(a2:TO)(b0:TO)(b1:Tv):Nat->TN->TO->Int->TV->Option (TM×TN×TN×Int)
 |0,_,_,_,_=>none
 |b5+1,b3,b2,a6,b4=>bif decide (a6<(a0.Ul.length:Int)) then ((aw a0.Ul a6).bind fun a7=>be (in64 (2*a6)) (be (in64 ((2*a6)+2)) ((dN N a2 ((2*a6)+2)).bind fun b6=>bif b6 then ((jG N a7 b2 b3).bind fun a8=>jv N (eW N a0 a1 a2 b0 b1 b5) a0 a6 a1 a2 b0 b2 b4 b1 a8.2 a8.1.Ui a8.1.Uw a8.1.Uv a8.1.Ux a8.1.Uo a8.1.Um) else (jv N (eW N a0 a1 a2 b0 b1 b5) a0 a6 a1 a2 b0 b2 b4 b1 b3 a7.Ui a7.Uw a7.Uv a7.Ux a7.Uo a7.Um)))) else (oN N a1 b0 b1 b3 b2 b4)
def jc (N:Nat)(a0:TM)(a1:TN)(a2:TO):Option (TM×TN×TN×Int):=
 (pZ N a0 a1 a2).bind fun y7=>bif !y7 then (some ((⟨[],[]⟩:TM),[],[],1)) else ((og N a0 a1 a2).bind fun a6=>(fF N a6).bind fun a7=>(ft N a6).bind fun a8=>eW N a0 a1 a2 a7 a6 N [] a8 0 [])
def nb (N:Nat)(a1:TN)(a7:TO)(a8:Tv)(a0:TM)(b0:TN)(b1:TV)(b2:TV):Option ((TM×TN×TN) ⊕ (TM×TN×TN)):=
 (jF N a1 a8.UM a7).bind fun a2=>(jF N b0 a8.UM a7).bind fun a6=>some (.inr ((⟨b1,b2⟩:TM),a2,a6))
def jW (N:Nat)(a2:TN->Int->TV->TV->Option ((TM×TN×TN) ⊕ (TM×TN×TN)))(b1:Tv)(a6:Int)(a1:TN)(b2:TO)(b3:TO)(a0:TM)(a7:TN)(a8:TV)(b0:TV):Option ((TM×TN×TN) ⊕ (TM×TN×TN)):=
 be (in64 (a6+1)) (a2 a7 (a6+1) a8 b0)
def fu (N:Nat)(a6:Tv)(a1:TN)(a7:TO)(a8:TO)(a0:TM):Nat->TN->Int->TV->TV->Option ((TM×TN×TN) ⊕ (TM×TN×TN))
 |0,_,_,_,_=>none
 |b4+1,b5,b0,b1,b2=>bif decide (b0<(a6.UM.length:Int)) then ((aw a6.UM b0).bind fun b6=>(bI N a6 b6).bind fun b7=>(jG N b7 a8 b5).bind fun b3=>(fZ N b3.1 a6.UM a7).bind fun a2=>(aw a7 b0).bind fun b8=>(fU N b8).bind fun b9=>bif b9 then (be (bJ (b1.length+([(⟨a2.Ui,a2.Uw,a2.Uv,1,a2.Uo,a2.Um⟩:TB)]:List TB).length)) (jW N (fu N a6 a1 a7 a8 a0 b4) a6 b0 a1 a7 a8 a0 b3.2 (b1++([(⟨a2.Ui,a2.Uw,a2.Uv,1,a2.Uo,a2.Um⟩:TB)]:List TB)) b2)) else (be (bJ (b2.length+([(⟨a2.Ui,a2.Uw,a2.Uv,1,a2.Uo,a2.Um⟩:TB)]:List TB).length)) (jW N (fu N a6 a1 a7 a8 a0 b4) a6 b0 a1 a7 a8 a0 b3.2 b1 (b2++([(⟨a2.Ui,a2.Uw,a2.Uv,1,a2.Uo,a2.Um⟩:TB)]:List TB))))) else (nb N a1 a7 a6 a0 b5 b1 b2)
def nc (N:Nat)(a1:TN)(a2:TO)(a6:Tv)(a0:TM)(a7:TN)(a8:TO)(b0:TV):Option ((TM×TN×TN) ⊕ (TM×TN×TN)):=
 fu N a6 a1 a2 a8 a0 N a7 0 [] b0
def jX (N:Nat)(a6:TN->TO->Int->TV->Option ((TM×TN×TN) ⊕ (TM×TN×TN)))(a0:TM)(a7:Int)(a1:TN)(a2:TO)(b1:TO)(b2:TO)(a8:TV)(b3:Tv)(b4:TN)(b5:Int)(b6:Int)(b7:Int)(b8:Int)(b9:TN)(c0:TN):Option ((TM×TN×TN) ⊕ (TM×TN×TN)):=
 (fZ N (⟨b5,b6,b7,b8,b9,c0⟩:TB) b3.UM b1).bind fun b0=>be (bJ (a8.length+([b0]:List TB).length)) (be (in64 (a7+1)) (a6 b4 b2 (a7+1) (a8++([b0]:List TB))))
def fv (N:Nat)(a0:TM)(a1:TN)(a2:TO)(b0:TO)(b1:Tv):Nat->TN->TO->Int->TV->Option ((TM×TN×TN) ⊕ (TM×TN×TN))
 |0,_,_,_,_=>none
 |b5+1,b3,b2,a6,b4=>bif decide (a6<(a0.Ul.length:Int)) then ((aw a0.Ul a6).bind fun a7=>be (in64 (2*a6)) (be (in64 ((2*a6)+2)) ((dN N a2 ((2*a6)+2)).bind fun b6=>bif b6 then ((jG N a7 b2 b3).bind fun a8=>jX N (fv N a0 a1 a2 b0 b1 b5) a0 a6 a1 a2 b0 b2 b4 b1 a8.2 a8.1.Ui a8.1.Uw a8.1.Uv a8.1.Ux a8.1.Uo a8.1.Um) else (jX N (fv N a0 a1 a2 b0 b1 b5) a0 a6 a1 a2 b0 b2 b4 b1 b3 a7.Ui a7.Uw a7.Uv a7.Ux a7.Uo a7.Um)))) else (nc N a1 b0 b1 a0 b3 b2 b4)
def dW (N:Nat)(a0:TM)(a1:TN)(a2:TO):Option ((TM×TN×TN) ⊕ (TM×TN×TN)):=
 (pZ N a0 a1 a2).bind fun y7=>bif !y7 then (some (.inl ((⟨[],[]⟩:TM),[],[]))) else ((og N a0 a1 a2).bind fun a6=>(fF N a6).bind fun a7=>(ft N a6).bind fun a8=>fv N a0 a1 a2 a7 a6 N [] a8 0 [])
theorem r7 {N:Nat}{a0:TM}{a1:TN}{a2:TO}{r:((TM×TN×TN) ⊕ (TM×TN×TN))}(h:dW N a0 a1 a2=some r):Okc Ua 88 [.agg #[U A1 n1 c1,U A2 n2 c2],U A3 n3 c3,U A4 n4 c4] ([bc A3 n3 c3 a1,db A4 n4 c4 a2,aZ A1 n1 c1 a0.Uj,aZ A2 n2 c2 a0.Ul]) (fun u post=>PG (fun (r:TM×TN×TN)=> ∃d6 e2 e3 e4 e5 e6 e7 e8 e9 f1 f2 f3,u=.tuple #[.agg #[U d6 e2 e3,U e4 e5 e6],U e7 e8 e9,U f1 f2 f3,iV 1]/\post=[aZ d6 e2 e3 r.1.Uj,aZ e4 e5 e6 r.1.Ul,aC e7 e8 e9 r.2.1,aC f1 f2 f3 r.2.2,aZ A1 n1 c1 a0.Uj,aZ A2 n2 c2 a0.Ul]) (fun (r:TM×TN×TN)=> ∃d6 e2 e3 e4 e5 e6 e7 e8 e9 f1 f2 f3,u=.tuple #[.agg #[U d6 e2 e3,U e4 e5 e6],U e7 e8 e9,U f1 f2 f3,iV 0]/\post=[aZ d6 e2 e3 r.1.Uj,aZ e4 e5 e6 r.1.Ul,aC e7 e8 e9 r.2.1,aC f1 f2 f3 r.2.2]) r):=by
 refine cA Tryz.func88 ?_;intro B5
 refine jg fun B6=> ?_
 refine sZ ?_;obtain ⟨y7,k,h⟩:=aa h;refine kD (oR (Fy k)) ?_;refine gH J h ?_ ?_<;>intro h
 ·refine ac ?_;obtain rfl:=bS h;exact fR (rs:=[.cell 6 96,.tmp 7,.tmp 8,.tmp 9]) (vs:=[.agg #[U none 0 0,U none 0 0],U none 0 0,U none 0 0,iV 1]) J (.cons (bo 0 J J agg96.out) (.cons (pg J) (.cons (pg J) (.cons (pg J) .nil)))) J ((aU eT 42 _).trans ((aU eT 42 _).trans ((aU ap 23 _).trans ((aU ap 23 _).trans (cS [3,2,1,0,8,9] 10))))) ⟨_,_,_,_,_,_,_,_,_,_,_,_,J,J⟩
 refine ac ?_;obtain ⟨a6,m6,h⟩:=aa h;refine nX (bv 4 J) ?_;refine nX (bv 5 J) ?_;refine ac ?_;refine gD (oC (Fz m6)) ?_;rintro _ _ ⟨_,⟨a8,b7,b8,b9,c0,c8,c9,d0,d1,d2,b0,b1,b2,d3,rfl,rfl⟩,rfl⟩;refine ac ?_;obtain ⟨b6,k,h⟩:=aa h
 refine nk (oC (uP k)) fun b3 b4 b5=> ?_
 obtain ⟨s6,k,h⟩:=aa h
 refine nk (oR (pY k)) fun s7 s8 s9=> ?_
 refine au (fun s L=> ∃k9 g2 l0 l1 l2 l3 g6 g7 g8 l4 l5 l6,nc N a1 b6 a6 a0 k9 g2 l0=some r/\s=[(1,U A3 n3 c3),(6,pV B6 0),(7,U none 0 0),(8,U l1 l2 l3),(9,iV 0),(10,pV a8 0),(11,U b3 b4 b5),(12,U g6 g7 g8)]/\L=[bc A3 n3 c3 a1,aC l1 l2 l3 k9,eA b3 b4 b5 b6,db g6 g7 g8 g2,aZ l4 l5 l6 l0,ab B6 96 [U none 0 0,U l4 l5 l6],bf b7 b8 b9 a6.m_.Uj,bf c0 c8 c9 a6.m_.Ul,db d0 d1 d2 a6.Vb,eA b0 b1 b2 a6.UM,am bj bH d3 a6.Va,ab a8 186 [U b7 b8 b9,U c0 c8 c9,U d0 d1 d2,U b0 b1 b2,.map (some d3),iV a6.UB],bf A1 n1 c1 a0.Uj,bf A2 n2 c2 a0.Ul]) ?_ ?_
 ·refine ac ?_;refine aY (fun m s L=> ∃m7 h6 g9 h7 m8 m9 n0 g3 g4 g5 f4 g0 g1,fv N a0 a1 a2 b6 a6 m m7 h6 g9 h7=some r/\s=[(1,U A3 n3 c3),(2,U A4 n4 c4),(6,pV B6 0),(7,U none 0 0),(8,U m8 m9 n0),(9,iV 0),(10,pV a8 0),(11,U b3 b4 b5),(12,U g3 g4 g5),(33,U A2 n2 c2),(34,iV (a0.Ul.length:Int)),(35,iV g9)]/\L=[bc A3 n3 c3 a1,db A4 n4 c4 a2,aC m8 m9 n0 m7,eA b3 b4 b5 b6,db g3 g4 g5 h6,bf A2 n2 c2 a0.Ul,aZ f4 g0 g1 h7,ab B6 96 [U none 0 0,U f4 g0 g1],bf b7 b8 b9 a6.m_.Uj,bf c0 c8 c9 a6.m_.Ul,db d0 d1 d2 a6.Vb,eA b0 b1 b2 a6.UM,am bj bH d3 a6.Va,ab a8 186 [U b7 b8 b9,U c0 c8 c9,U d0 d1 d2,U b0 b1 b2,.map (some d3),iV a6.UB],bf A1 n1 c1 a0.Uj]) N _ _ ⟨[],s6,0,[],none,0,0,s7,s8,s9,none,0,0,h,J,J⟩ sA ((aU ap 23 _).trans ((bv 1 J).trans ((aU eT 42 _).trans (cS [12,13,1,3,2,15,0,10,7,8,9,5,6,4,14] 16)))) ?_;rintro (_|t1) _ _ ⟨m7,h6,g9,h7,m8,m9,n0,g3,g4,g5,f4,g0,g1,h,rfl,rfl⟩
  ·exact ao h
  rw [fv.eq_2] at h;refine ac ?_;refine aG ?_;refine gH J h ?_ ?_<;>intro h
  ·refine sY ?_;obtain ⟨j4,t2,u0,n8,h⟩:=bz h;refine ac ?_;refine uw 5 J n8 (gK j4) ?_;rintro _ _ ⟨u1,u2,u3,u4,u5,u6,rfl,rfl⟩;refine EL (lM (us:=[iV j4.Ui,iV j4.Uw,iV j4.Uv,iV j4.Ux,U u1 u2 u3,U u4 u5 u6]) 0 J J agg42.out J) ?_;intro j5;refine ac ?_;refine au (fun s L=> ∃l7 h8 h9 i0 i1 l8 l9 i2 i8 j0 h0 h1 h2 h3 h4 h5,jX N (fv N a0 a1 a2 b6 a6 t1) a0 g9 a1 a2 b6 h6 h7 a6 l7 h8 h9 i0 i1 l8 l9=some r/\s=[(1,U A3 n3 c3),(2,U A4 n4 c4),(6,pV B6 0),(7,U none 0 0),(8,U i2 i8 j0),(9,iV 0),(10,pV a8 0),(11,U b3 b4 b5),(12,U g3 g4 g5),(14,pV j5 0),(33,U A2 n2 c2),(34,iV (a0.Ul.length:Int)),(35,iV g9)]/\L=[bc A3 n3 c3 a1,db A4 n4 c4 a2,aC i2 i8 j0 l7,eA b3 b4 b5 b6,db g3 g4 g5 h6,bf A2 n2 c2 a0.Ul,aZ f4 g0 g1 h7,ab B6 96 [U none 0 0,U f4 g0 g1],bf b7 b8 b9 a6.m_.Uj,bf c0 c8 c9 a6.m_.Ul,db d0 d1 d2 a6.Vb,eA b0 b1 b2 a6.UM,am bj bH d3 a6.Va,ab a8 186 [U b7 b8 b9,U c0 c8 c9,U d0 d1 d2,U b0 b1 b2,.map (some d3),iV a6.UB],bc h0 h1 h2 l8,bc h3 h4 h5 l9,ab j5 42 [iV h8,iV h9,iV i0,iV i1,U h0 h1 h2,U h3 h4 h5],bf A1 n1 c1 a0.Uj]) ?_ ?_
   ·refine ac ?_;obtain ⟨s2,h⟩:=ah h;refine gE (tJ J J s2.1 s2.2) ?_;obtain ⟨y6,h⟩:=ah h;refine ac ?_;obtain ⟨y8,k,h⟩:=aa h;refine kD (oR (kF k)) ?_;refine gH J h ?_ ?_<;>intro h
    ·refine ac ?_;obtain ⟨y9,k,h⟩:=aa h
     refine Qx (oC (wM k)) fun z1 z2 z6 A8 A9 B0 B4 B7 B9=> ?_
     exact jN
    exact jY
   rintro _ _ ⟨l7,h8,h9,i0,i1,l8,l9,i2,i8,j0,h0,h1,h2,h3,h4,h5,h,rfl,rfl⟩;obtain ⟨d4,n9,h⟩:=aa h;refine ie (t:=[(1,U A3 n3 c3),(2,U A4 n4 c4),(6,pV B6 0),(7,U none 0 0),(8,U i2 i8 j0),(9,iV 0),(10,pV a8 0),(11,U b3 b4 b5),(12,U g3 g4 g5),(14,pV j5 0),(33,U A2 n2 c2),(34,iV (a0.Ul.length:Int)),(35,iV g9)]) ?_ lW (ad _)
   refine iW I 10 [] [1,9] [52,53,54,55,56,57,58,59,60,61] [[],[0],[],[],[3],[4],[5],[],[2,6,7],[8]] [aV (pV B6 1),
aV (U f4 g0 g1),
aV (.agg #[iV h8,iV h9,iV i0,iV i1,U h0 h1 h2,U h3 h4 h5]),
aV (pV a8 0),
aV (pV a8 0),
aV (pV a8 3),
aV (U b0 b1 b2),
aV (U b3 b4 b5),
aX6 (fun (j6:Option Addr) (j7 j8:Nat) (j9:Option Addr) (k0 k1:Nat)=> .agg #[iV d4.Ui,iV d4.Uw,iV d4.Uv,iV d4.Ux,U j6 j7 j8,U j9 k0 k1]) (fun j6 j7 j8 j9 k0 k1=> [bc j6 j7 j8 d4.Uo,bc j9 k0 k1 d4.Um]),
aX3 (fun (j1:Option Addr) (j2 j3:Nat)=> U j1 j2 j3) (fun j1 j2 j3=> [aZ j1 j2 j3 ([d4]:List TB)])] [] (ad _) (lB) I rfl rfl ?_ ?_ ?_
   ·exact lA
   ·refine ae J ?_ ?_
    ·intro j6 j7 j8 j9 k0 k1;refine uv (az (R:=eT) (vss:=[[iV d4.Ui,iV d4.Uw,iV d4.Uv,iV d4.Ux,U j6 j7 j8,U j9 k0 k1]]) (xs:=[d4]) J (xe _ _ _ _ _ _ _ _ _ _) J J (fun _ _ hr=> .cons (⟨_,_,_,_,_,_,J,hr 0 _ J J,hr 1 _ J J⟩) All2.nil)) J ?_;rintro _ _ ⟨u7,u8,u9,rfl,rfl⟩;exact vc u7 u8 u9 (ad _)
    refine ae J ?_ ?_
    ·refine uv (oR (tL n9)) J ?_;rintro _ _ ⟨_,⟨v1,v2,v6,v7,v8,w1,rfl,rfl⟩,rfl⟩;exact Qk v1 v2 v6 v7 v8 w1 ((bv 0 J).trans ((bv 1 J).trans (ad _)))
    refine ae J ?_ ?_
    ·exact bU (aX J) J (aQ J (ad _))
    refine ae J ?_ ?_
    ·exact dy (bp 13 J J zH J) J (aQ J (ad _))
    refine ae J ?_ ?_
    ·exact bU (dj J Aj) J (aQ J (ad _))
    refine ae J ?_ ?_
    ·exact bU (bE J) J (aQ J (ad _))
    refine ae J ?_ ?_
    ·exact bU (aX J) J (aQ J (ad _))
    refine ae J ?_ ?_
    ·exact dy (cm (us:=[iV h8,iV h9,iV i0,iV i1,U h0 h1 h2,U h3 h4 h5]) 16 J J agg42.out J) J (aQ J (ad _))
    refine ae J ?_ ?_
    ·exact dy (bp 7 J J EC J) J (aQ J (ad _))
    refine ae J ?_ ?_
    ·exact bU (dj J Cm) J (aQ J (ad _))
    exact ee
   intro j1 j2 j3;refine nD (t:=[(53,U f4 g0 g1),(61,U j1 j2 j3),(1,U A3 n3 c3),(2,U A4 n4 c4),(6,pV B6 0),(7,U none 0 0),(8,U i2 i8 j0),(9,iV 0),(10,pV a8 0),(11,U b3 b4 b5),(12,U g3 g4 g5),(14,pV j5 0),(33,U A2 n2 c2),(34,iV (a0.Ul.length:Int)),(35,iV g9)]) (L':=[aZ j1 j2 j3 ([d4]:List TB),bc A3 n3 c3 a1,db A4 n4 c4 a2,aC i2 i8 j0 l7,eA b3 b4 b5 b6,db g3 g4 g5 h6,bf A2 n2 c2 a0.Ul,aZ f4 g0 g1 h7,ab B6 96 [U none 0 0,U f4 g0 g1],bf b7 b8 b9 a6.m_.Uj,bf c0 c8 c9 a6.m_.Ul,db d0 d1 d2 a6.Vb,eA b0 b1 b2 a6.UM,am bj bH d3 a6.Va,ab a8 186 [U b7 b8 b9,U c0 c8 c9,U d0 d1 d2,U b0 b1 b2,.map (some d3),iV a6.UB],bc h0 h1 h2 l8,bc h3 h4 h5 l9,ab j5 42 [iV h8,iV h9,iV i0,iV i1,U h0 h1 h2,U h3 h4 h5],bf A1 n1 c1 a0.Uj]) ?_ lW (ad _);obtain ⟨w2,h⟩:=ah h;refine pa 10 J I (ay 7 0 J J aB J J SZ F7 J J w2) J J J ?_;rintro _ _ ⟨s3,s4,s5,rfl,rfl⟩;refine BE ?_;refine zc 11 J I (dj J Cm) J J J ?_;refine vI 12 J I (aj (us:=[U s3 s4 s5]) (cs':=[U none 0 0,U s3 s4 s5]) 8 J J J J size94.out J J J) J J ?_;rintro _ _ rfl;refine lD I ?_;refine ac ?_;obtain ⟨L0,h⟩:=ah h;exact lY
  exact jY
 rintro _ _ ⟨k9,g2,l0,l1,l2,l3,g6,g7,g8,l4,l5,l6,h,rfl,rfl⟩;refine au (fun s L=> ∃o0 o1 o2 p0 p1 p2 k2 k3 k4 k5 k6 k7,nb N a1 b6 a6 a0 o0 o1 o2=some r/\s=[(1,U A3 n3 c3),(6,pV B6 0),(7,U none 0 0),(8,U p0 p1 p2),(9,iV 0),(10,pV a8 0),(11,U b3 b4 b5)]/\L=[bc A3 n3 c3 a1,aC p0 p1 p2 o0,eA b3 b4 b5 b6,aZ k2 k3 k4 o1,aZ k5 k6 k7 o2,ab B6 96 [U k2 k3 k4,U k5 k6 k7],bf b7 b8 b9 a6.m_.Uj,bf c0 c8 c9 a6.m_.Ul,db d0 d1 d2 a6.Vb,eA b0 b1 b2 a6.UM,am bj bH d3 a6.Va,ab a8 186 [U b7 b8 b9,U c0 c8 c9,U d0 d1 d2,U b0 b1 b2,.map (some d3),iV a6.UB],bf A1 n1 c1 a0.Uj,bf A2 n2 c2 a0.Ul]) ?_ ?_
 ·refine ac ?_;refine aY (fun m s L=> ∃p3 k8 p4 p5 p6 p7 p8 q0 q1 q2 q3 q4 q5,fu N a6 a1 b6 g2 a0 m p3 k8 p4 p5=some r/\s=[(1,U A3 n3 c3),(6,pV B6 0),(7,U none 0 0),(8,U p6 p7 p8),(9,iV 0),(10,pV a8 0),(11,U b3 b4 b5),(12,U g6 g7 g8),(68,U b0 b1 b2),(69,iV (a6.UM.length:Int)),(70,iV k8)]/\L=[bc A3 n3 c3 a1,aC p6 p7 p8 p3,eA b3 b4 b5 b6,db g6 g7 g8 g2,eA b0 b1 b2 a6.UM,aZ q0 q1 q2 p4,aZ q3 q4 q5 p5,ab B6 96 [U q0 q1 q2,U q3 q4 q5],bf b7 b8 b9 a6.m_.Uj,bf c0 c8 c9 a6.m_.Ul,db d0 d1 d2 a6.Vb,am bj bH d3 a6.Va,ab a8 186 [U b7 b8 b9,U c0 c8 c9,U d0 d1 d2,U b0 b1 b2,.map (some d3),iV a6.UB],bf A1 n1 c1 a0.Uj,bf A2 n2 c2 a0.Ul]) N _ _ ⟨k9,0,[],l0,l1,l2,l3,none,0,0,l4,l5,l6,h,J,J⟩ sA ((aU eT 42 _).trans (cS [1,2,3,4,10,0,5,6,7,8,9,11,12,13,14] 15)) ?_;rintro (_|w3) _ _ ⟨p3,k8,p4,p5,p6,p7,p8,q0,q1,q2,q3,q4,q5,h,rfl,rfl⟩
  ·exact ao h
  rw [fu.eq_2] at h;refine ac ?_;refine aG ?_;refine gH J h ?_ ?_<;>intro h
  ·refine ac ?_;refine au (fun s L=> ∃q6 q7 q8 q9 r0 r1 r2 r3 r4 r5 r6 s0,jW N (fu N a6 a1 b6 g2 a0 w3) a6 k8 a1 b6 g2 a0 q6 q7 q8=some r/\s=[(1,U A3 n3 c3),(6,pV B6 0),(7,U none 0 0),(8,U q9 r0 r1),(9,iV 0),(10,pV a8 0),(11,U b3 b4 b5),(12,U g6 g7 g8),(68,U b0 b1 b2),(69,iV (a6.UM.length:Int)),(70,iV k8)]/\L=[bc A3 n3 c3 a1,aC q9 r0 r1 q6,eA b3 b4 b5 b6,db g6 g7 g8 g2,eA b0 b1 b2 a6.UM,aZ r2 r3 r4 q7,aZ r5 r6 s0 q8,ab B6 96 [U r2 r3 r4,U r5 r6 s0],bf b7 b8 b9 a6.m_.Uj,bf c0 c8 c9 a6.m_.Ul,db d0 d1 d2 a6.Vb,am bj bH d3 a6.Va,ab a8 186 [U b7 b8 b9,U c0 c8 c9,U d0 d1 d2,U b0 b1 b2,.map (some d3),iV a6.UB],bf A1 n1 c1 a0.Uj,bf A2 n2 c2 a0.Ul]) ?_ ?_
   ·refine ac ?_;obtain ⟨L1,w4,w5,w6,h⟩:=bz h;refine ac ?_;obtain ⟨L2,k,h⟩:=aa h
    refine FN (oC (gk k)) fun L3 L4 L5 L6 L7 L8=> ?_
    intro L9;refine ac ?_;obtain ⟨M0,k,h⟩:=aa h
    refine Qx (oC (wM k)) fun M1 M3 M4 M5 M8 Q1 S0 S1 S2=> ?_
    refine dY [] ?_;refine ac ?_;obtain ⟨a7,k,h⟩:=aa h;refine zD 6 J (oR (tL k)) ?_;rintro _ _ ⟨_,⟨m0,m1,m2,m3,m4,m5,rfl,rfl⟩,rfl⟩;refine aA (cS [2,3,4,5,6,7,8,9,10,11,12,13,14,15,16,17,18,19,20,21] 22) ?_;refine f9 7 J I I (aj (us:=[iV a7.Ui,iV a7.Uw,iV a7.Uv,iV a7.Ux,U m0 m1 m2,U m3 m4 m5]) (cs':=[iV a7.Ui,iV a7.Uw,iV a7.Uv,iV a7.Ux,U m0 m1 m2,U m3 m4 m5]) 5 J J J J size42.out J J J) ?_;rintro _ _ rfl;refine aH ?_;refine ac ?_;obtain ⟨S3,w7,w8,w9,h⟩:=bz h;refine ac ?_;obtain ⟨S4,k,h⟩:=aa h;refine kD (oR (mj k)) ?_;refine gH J h ?_ ?_<;>intro h
    ·refine ac ?_;refine nX (bv 0 J) ?_;refine nX (bv 1 J) ?_;refine gD (az (R:=eT) (vss:=[[iV a7.Ui,iV a7.Uw,iV a7.Uv,iV 1,U m0 m1 m2,U m3 m4 m5]]) (xs:=[(⟨a7.Ui,a7.Uw,a7.Uv,1,a7.Uo,a7.Um⟩:TB)]) J (xe _ _ _ _ _ _ _ _ _ _) J J (fun _ _ hr=> .cons (⟨_,_,_,_,_,_,J,hr 0 _ J J,hr 1 _ J J⟩) All2.nil)) ?_;rintro _ _ ⟨S5,S6,S7,rfl,rfl⟩;obtain ⟨x0,h⟩:=ah h
     refine nk (ay 15 0 J J aB J J SZ F7 J J x0) fun S8 S9 T1=> ?_
     exact jN
    refine ac ?_;refine nX (bv 0 J) ?_;refine nX (bv 1 J) ?_;refine ac ?_;refine gD (az (R:=eT) (vss:=[[iV a7.Ui,iV a7.Uw,iV a7.Uv,iV 1,U m0 m1 m2,U m3 m4 m5]]) (xs:=[(⟨a7.Ui,a7.Uw,a7.Uv,1,a7.Uo,a7.Um⟩:TB)]) J (xe _ _ _ _ _ _ _ _ _ _) J J (fun _ _ hr=> .cons (⟨_,_,_,_,_,_,J,hr 0 _ J J,hr 1 _ J J⟩) All2.nil)) ?_;rintro _ _ ⟨x1,x2,x3,rfl,rfl⟩;obtain ⟨s1,h⟩:=ah h
    refine nk (ay 16 0 J J aB J J SZ F7 J J s1) fun x4 x5 x6=> ?_
    exact jN
   rintro _ _ ⟨q6,q7,q8,q9,r0,r1,r2,r3,r4,r5,r6,s0,h,rfl,rfl⟩;refine ac ?_;obtain ⟨x7,h⟩:=ah h;exact lY
  exact jY
 rintro _ _ ⟨o0,o1,o2,p0,p1,p2,k2,k3,k4,k5,k6,k7,h,rfl,rfl⟩;refine dY [0,1,2,3,4,5,6,8,9,10,11,12,13] ?_;obtain ⟨x8,k,h⟩:=aa h;refine zD 7 J (oR (wK k)) ?_;rintro _ _ ⟨_,⟨x9,y0,y1,rfl,rfl⟩,rfl⟩;refine aA (cS [1,2,3,4,5,6,7,8,9,10,11,12,13,14] 15) ?_;obtain ⟨y2,k,h⟩:=aa h;refine zD 14 J (oR (wK k)) ?_;rintro _ _ ⟨_,⟨y3,y4,y5,rfl,rfl⟩,rfl⟩;refine aA (cS [2,3,4,5,6,7,8,9,10,11,12,13,14,15] 16) ?_;refine zO 15 J (aj (us:=[U k2 k3 k4,U k5 k6 k7]) (cs':=[U k2 k3 k4,U k5 k6 k7]) 7 J J J J size96.out J J J) ?_;rintro _ _ rfl;refine aA (cS [2,3,4,5,6,7,8,9,10,11,12,13,14,15] 16) ?_;refine aH ?_;refine zX [16,17,18] ?_;exact eY
def mu (N:Nat)(a0:TN)(a1:TI):Option ((TM×TN×TN) ⊕ (TM×TN×TN)):=
 (jh N a1.Uy).bind fun a2=>(dW N a1.m_ a0 a2).bind fun a6=>CF a6 (fun y13_0=>some (.inl (y13_0.1,y13_0.2.1,y13_0.2.2))) (fun y13_1=>some (.inr (y13_1.1,y13_1.2.1,y13_1.2.2)))
theorem cE {N:Nat}{a0:TN}{a1:TI}{r:((TM×TN×TN) ⊕ (TM×TN×TN))}(h:mu N a0 a1=some r):Okc Ua 87 [U A1 n1 c1,pV B2 0] ([bc A1 n1 c1 a0,ar B2 46 [pV B3 0],ab B3 99 [U A4 n4 c4,U A5 n5 c5,U A6 n6 c6,U A7 n7 c7,pV B8 0],aZ A4 n4 c4 a1.m_.Uj,aZ A5 n5 c5 a1.m_.Ul,aC A6 n6 c6 a1.Ur,aC A7 n7 c7 a1.Uz,ab B8 147 [.map (some M9)],am bj bH M9 a1.Uy.at_]) (fun u post=>PG (fun (r:TM×TN×TN)=> ∃a2 a6 a7 a8 b0 b1 b2 b3 b4 b5 b6 b7,u=.tuple #[.agg #[U a2 a6 a7,U a8 b0 b1],U b2 b3 b4,U b5 b6 b7,iV 1]/\post=[aZ a2 a6 a7 r.1.Uj,aZ a8 b0 b1 r.1.Ul,aC b2 b3 b4 r.2.1,aC b5 b6 b7 r.2.2,aZ A4 n4 c4 a1.m_.Uj,aZ A5 n5 c5 a1.m_.Ul,aC A6 n6 c6 a1.Ur,aC A7 n7 c7 a1.Uz,ab B3 99 [U A4 n4 c4,U A5 n5 c5,U A6 n6 c6,U A7 n7 c7,pV B8 0],ab B8 147 [.map (some M9)],am bj bH M9 a1.Uy.at_]) (fun (r:TM×TN×TN)=> ∃a2 a6 a7 a8 b0 b1 b2 b3 b4 b5 b6 b7,u=.tuple #[.agg #[U a2 a6 a7,U a8 b0 b1],U b2 b3 b4,U b5 b6 b7,iV 0]/\post=[aZ a2 a6 a7 r.1.Uj,aZ a8 b0 b1 r.1.Ul,aC b2 b3 b4 r.2.1,aC b5 b6 b7 r.2.2,aC A6 n6 c6 a1.Ur,aC A7 n7 c7 a1.Uz,ab B3 99 [U A4 n4 c4,U A5 n5 c5,U A6 n6 c6,U A7 n7 c7,pV B8 0],ab B8 147 [.map (some M9)],am bj bH M9 a1.Uy.at_]) r):=by
 refine cA Tryz.func87 ?_;intro e4;refine ac ?_;refine aG ?_;refine bV I ([ab e4 96 [U none 0 0,U none 0 0],bc A1 n1 c1 a0,ar B2 46 [pV B3 0],ab B3 99 [U A4 n4 c4,U A5 n5 c5,U A6 n6 c6,U A7 n7 c7,pV B8 0],aC A6 n6 c6 a1.Ur,aC A7 n7 c7 a1.Uz,ab B8 147 [.map (some M9)],am bj bH M9 a1.Uy.at_]) (cS [0,1,2,3,6,7,8,9] 10) ?_;refine zY [0,1,2,3,4,5,6,7,8] ?_;obtain ⟨e6,k,h⟩:=aa h;refine zD 9 J (oR (rN k)) ?_;rintro _ _ ⟨_,⟨e7,e8,e9,rfl,rfl⟩,rfl⟩;refine aA (cS [1,2,3,4,7,8,9,10] 11) ?_;refine mD (bv 0 J) (cS [1,2,3,4,7,8,9,10] 11) ?_;obtain ⟨e5,b8,h⟩:=aa h;rcases e5 with y13_0|y13_1
 ·replace h:=Iu h;refine zD 10 J (oC (r7 b8)) ?_;rintro _ _ ⟨_,⟨b9,c0,c8,c9,d0,d1,f1,f2,f3,f4,g0,g1,rfl,rfl⟩,rfl⟩;refine aA (cS [7,8,9,10,11,12,13,14] 15) ?_;refine aH ?_;refine zY [11,12,13,14] ?_;refine f9 15 J I I (aj (us:=[U b9 c0 c8,U c9 d0 d1]) (cs':=[U b9 c0 c8,U c9 d0 d1]) 7 J J J J size96.out J J J) ?_;rintro _ _ rfl;refine aH ?_;refine zX [16,17,18] ?_;exact eY
 replace h:=It h;refine zD 10 J (oC (r7 b8)) ?_;rintro _ _ ⟨_,⟨d2,d3,d4,d6,e2,e3,g2,g3,g4,g5,g6,g7,rfl,rfl⟩,rfl⟩;refine aA (cS [5,6,7,8,9,10,11,12] 13) ?_;refine zY [11,12,13,14] ?_;refine f9 15 J I I (aj (us:=[U d2 d3 d4,U d6 e2 e3]) (cs':=[U d2 d3 d4,U d6 e2 e3]) 5 J J J J size96.out J J J) ?_;rintro _ _ rfl;refine zX [16,17,18] ?_;exact eY
def ig (N:Nat)(p3:TN):Option TN:=
 some p3
def lx (N:Nat)(a1:Int):Option TN:=
 bif decide (a1<0) then none else (be (in64 (0 - 0)) (be (in64 (a1 - (0 - 0))) (bif decide (0<a1 - (0 - 0)) then (be ((0:Int)<(a1 - (0 - 0))/\(a1 - (0 - 0))<=1099511627776) (ig N ([]:List Ty))) else (ig N []))))
theorem uD {N:Nat}{a1:Int}{r:TN}(h:lx N a1=some r):Okc Ua 92 [U none 0 0,iV a1] ([]) (fun u post=> ∃A0 n0 c0,u=U A0 n0 c0/\post=[aC A0 n0 c0 r]):=by
 refine cA Tryz.func92 ?_;refine sZ ?_;refine gH J h ?_ ?_<;>intro h
 ·exact ao h
 refine ac ?_;refine au (fun s L=> ∃p3 A3 n3 c3,ig N p3=some r/\s=[(0,U A3 n3 c3),(4,U none 0 0)]/\L=[aC A3 n3 c3 p3]) ?_ ?_
 ·refine ac ?_;refine fC (xO J t0) ?_;refine gE (oW J t0) ?_;obtain ⟨q4,h⟩:=ah h;refine ac ?_;obtain ⟨q5,h⟩:=ah h;refine fw h ?_ ?_<;>intro h
  ·refine ac ?_;refine gE (xO J t0) ?_;refine fC (Bi J t0 size23.out J) ?_;obtain ⟨q7,h⟩:=ah h
   refine nk (yL J J t0 hU zf J q7.1 q7.2) fun A8 n8 c8=> ?_
   refine gE (oW J t0) ?_
   refine nk (Fv (R:=ap) 0 J J t0 size23.out J J) fun A9 n9 c9=> ?_
   exact jN
  refine ac ?_;exact ⟨_,_,⟨[],none,0,0,h,J,J⟩,sA,(aU ap 23 _).trans (cS [0] 1)⟩
 rintro _ _ ⟨p3,A3,n3,c3,h,rfl,rfl⟩;exact eY
def kf (N:Nat)(a1:TN):Option TN:=
 some a1
def kG (N:Nat)(a0_0:TN)(a0_1:TN):Option TN:=
 (lx N ((0+(a0_0.length:Int))+(a0_1.length:Int))).bind fun y9=>be (bJ (y9.length+a0_0.length)) (be (bJ ((y9++a0_0).length+a0_1.length)) (kf N ((y9++a0_0)++a0_1)))
def cc (N:Nat)(a0_0:TN)(a0_1:TN):Option TN:=
 be (in64 (0+(a0_0.length:Int))) (bif decide (0+(a0_0.length:Int)<0) then none else (be (in64 ((0+(a0_0.length:Int))+(a0_1.length:Int))) (bif decide ((0+(a0_0.length:Int))+(a0_1.length:Int)<0) then none else (kG N a0_0 a0_1))))
theorem bA {N:Nat}{a0_0:TN}{a0_1:TN}{r:TN}(h:cc N a0_0 a0_1=some r):Okc Ua 51 [.slice (some ⟨B1,0,none⟩) 2 2] ([ar B1 30 [U A2 n2 c2,U A3 n3 c3],bc A2 n2 c2 a0_0,bc A3 n3 c3 a0_1]) (fun u post=> ∃A0 n0 c0,u=U A0 n0 c0/\post=[aC A0 n0 c0 r]):=by
 refine cA Tryz.func51 ?_;refine au (fun s L=>kG N a0_0 a0_1=some r/\s=[(0,.slice (some ⟨B1,0,none⟩) 2 2),(2,U none 0 0),(3,iV ((0+(a0_0.length:Int))+(a0_1.length:Int)))]/\L=[bc A2 n2 c2 a0_0,bc A3 n3 c3 a0_1,ar B1 30 [U A2 n2 c2,U A3 n3 c3]]) ?_ ?_
 ·refine ac ?_;refine fC (oW J EM) ?_;refine sF 3 ?_;refine tM ?_;refine ac ?_;refine aG ?_;refine cK J ?_;refine sY ?_;refine fC (nU J J EM size30.out (by decide) (by decide)) ?_;obtain ⟨q5,h⟩:=ah h;refine fw h ?_ ?_<;>intro h
  ·exact ao h
  refine ac ?_;refine fC (dL J J (by decide) (by decide)) ?_;refine tM ?_;refine ac ?_;refine aG ?_;refine cK J ?_;refine sY ?_;refine fC (nU J J EM size30.out (by decide) (by decide)) ?_;obtain ⟨q7,h⟩:=ah h;refine fw h ?_ ?_<;>intro h
  ·exact ao h
  refine ac ?_;refine fC (dL J J (by decide) (by decide)) ?_;refine tM ?_;refine ac ?_;refine aG ?_;refine cy J ?_;exact jY
 rintro _ _ ⟨h,rfl,rfl⟩;refine ac ?_;obtain ⟨y9,k,h⟩:=aa h
 refine nk (oR (uD k)) fun b1 b2 b3=> ?_
 refine au (fun s L=> ∃a1 a2 a6 a7,kf N a1=some r/\s=[(2,U none 0 0),(6,U a2 a6 a7)]/\L=[aC a2 a6 a7 a1]) ?_ ?_
 ·refine ac ?_;refine fC (oW J EM) ?_;refine sF 3 ?_;refine tM ?_;refine ac ?_;refine aG ?_;refine cK J ?_;refine sY ?_;refine fC (nU J J EM size30.out (by decide) (by decide)) ?_;obtain ⟨a8,h⟩:=ah h
  refine nk (ay 0 1 J J aM J J t0 zf J J a8) fun b4 b5 b6=> ?_
  refine fC (dL J J (by decide) (by decide)) ?_;refine tM ?_;refine ac ?_;refine aG ?_;refine cK J ?_;refine sY ?_;refine fC (nU J J EM size30.out (by decide) (by decide)) ?_;obtain ⟨b0,h⟩:=ah h
  refine nk (ay 0 2 J J aM J J t0 zf J J b0) fun b7 b8 b9=> ?_
  refine fC (dL J J (by decide) (by decide)) ?_;refine tM ?_;refine ac ?_;refine aG ?_;refine cy J ?_;exact jY
 rintro _ _ ⟨a1,a2,a6,a7,h,rfl,rfl⟩;exact eY
def nQ (N:Nat)(a0:Tw):Option Tw:=
 some (⟨[]⟩:Tw)
theorem xW {N:Nat}{a0:Tw}{r:Tw}(h:nQ N a0=some r):Okc Ua 161 [pV B1 0] ([ab B1 147 [.map (some M2)],am bj bH M2 a0.at_]) (fun u post=> ∃M0,u=.tuple #[]/\post=[ab B1 147 [.map (some M0)],am bj bH M0 r.at_]):=by
 refine cA Tryz.func161 ?_;refine fC (kr J Td) ?_;refine cK J ?_;refine ac ?_;refine HZ (K2 1 J J Ti) ?_;exact eN
def mG (N:Nat)(a0:Int):Option Bool:=
 (bif decide (0<a0) then (some (decide (a0.tmod 2=0))) else (some false)).bind fun b1=>some b1
theorem yh {N:Nat}{a0:Int}{r:Bool}(h:mG N a0=some r):Okc Ua 100 [iV a0] ([]) (fun u post=>u=.bool r/\post=[]):=by
 refine cA Tryz.func100 ?_;obtain ⟨b1,a1,h⟩:=aa h;refine aR 4 9 b1 ?_ ?_
 ·clear h;refine aP 5 J (fun g1=> ?_) (fun g1=> ?_)
  ·have h:=aE g1 a1;refine ac ?_;refine qk (si J J (by decide)) J (cB g1 J) J ?_;exact gY
  have h:=aF g1 a1;exact gY
 exact eY
def mf (N:Nat)(a0:Int):Option Bool:=
 (bif decide (0<a0) then (some (decide (a0.tmod 2=1))) else (some false)).bind fun b1=>some b1
theorem vu {N:Nat}{a0:Int}{r:Bool}(h:mf N a0=some r):Okc Ua 146 [iV a0] ([]) (fun u post=>u=.bool r/\post=[]):=by
 refine cA Tryz.func146 ?_;obtain ⟨b1,a1,h⟩:=aa h;refine aR 4 9 b1 ?_ ?_
 ·clear h;refine aP 5 J (fun g1=> ?_) (fun g1=> ?_)
  ·have h:=aE g1 a1;refine ac ?_;refine qk (si J J (by decide)) J (cB g1 J) J ?_;exact gY
  have h:=aF g1 a1;exact gY
 exact eY
def mg (N:Nat)(a0:TB):Option Bool:=
 (f0 N a0).bind fun y4=>(bF N y4 (fun x=>mf N x)).bind fun y6=>(bif y6 then (some true) else ((jH N a0).bind fun y8=>(bF N y8 (fun x=>mf N x)).bind fun a1=>some a1)).bind fun b7=>some b7
theorem vv {N:Nat}{a0:TB}{r:Bool}(h:mg N a0=some r):Okc Ua 102 [.agg #[iV a0.Ui,iV a0.Uw,iV a0.Uv,iV a0.Ux,U A1 n1 c1,U A2 n2 c2]] ([bc A1 n1 c1 a0.Uo,bc A2 n2 c2 a0.Um]) (fun u post=>u=.bool r/\post=[]):=by
 refine cA Tryz.func102 ?_;intro B3;refine ac ?_;obtain ⟨y4,k,h⟩:=aa h;refine gD (oR (jI k)) ?_;rintro _ _ ⟨_,⟨A5,n5,c5,rfl,rfl⟩,rfl⟩;obtain ⟨y6,k,h⟩:=aa h;refine kD (oR (dz k ⟨aD,146, #[], #[],J,call146.out,fun _ _ hh=>vu hh⟩)) ?_;obtain ⟨b7,a1,h⟩:=aa h;refine aR 4 10 b7 ?_ ?_
 ·clear h;refine aP 6 J (fun g7=> ?_) (fun g7=> ?_)
  ·have h:=aE g7 a1;exact gY
  have h:=aF g7 a1;refine ac ?_;obtain ⟨y8,k,h⟩:=aa h;refine Fa (oR (oZ k)) J (fN g7 J) J ?_;rintro _ _ ⟨_,⟨A9,n9,c9,rfl,rfl⟩,rfl⟩;obtain ⟨a2,k,h⟩:=aa h;refine gU (oR (dz k ⟨aD,146, #[], #[],J,call146.out,fun _ _ hh=>vu hh⟩)) (fN g7 J) ?_;exact gY
 exact eY
def jR (N:Nat)(a1:Int)(a0:Tw):Option (Bool×Tw):=
 some (true,(⟨yy a0.at_ a1 true⟩:Tw))
def dP (N:Nat)(a0:Tw)(a1:Int)(a2:TB):Option (Bool×Tw):=
 (mG N a1).bind fun y6=>bif !y6 then (some (false,a0)) else ((mg N a2).bind fun y8=>bif !y8 then (some (false,(⟨Bm a0.at_ a1⟩:Tw))) else (jR N a1 a0))
theorem nP {N:Nat}{a0:Tw}{a1:Int}{a2:TB}{r:Bool×Tw}(h:dP N a0 a1 a2=some r):Okc Ua 162 [pV B1 0,iV a1,.agg #[iV a2.Ui,iV a2.Uw,iV a2.Uv,iV a2.Ux,U A3 n3 c3,U A4 n4 c4]] ([bc A3 n3 c3 a2.Uo,bc A4 n4 c4 a2.Um,ab B1 147 [.map (some M2)],am bj bH M2 a0.at_]) (fun u post=> ∃M0,u=.bool r.1/\post=[ab B1 147 [.map (some M0)],am bj bH M0 r.2.at_]):=by
 refine cA Tryz.func162 ?_;intro B5;refine sY ?_;refine fC (bD J Td) ?_;obtain ⟨y6,k,h⟩:=aa h;refine kD (oR (yh k)) ?_;refine gH J h ?_ ?_<;>intro h
 ·exact eY
 refine sY ?_;obtain ⟨y8,k,h⟩:=aa h;refine kD (oR (vv k)) ?_;refine gH J h ?_ ?_<;>intro h
 ·refine ac ?_;refine HZ (JK (a:=a1) 4 J J J Ti (ei hU)) ?_;exact eN
 refine ac ?_;refine au (fun s L=>jR N a1 a0=some r/\s=[(0,pV B1 0),(1,iV a1),(6,.bool false)]/\L=[am bj bH M2 a0.at_,ab B1 147 [.map (some M2)]]) ?_ ?_
 ·refine ac ?_;refine fC (Kj J Ti) ?_;refine cy J ?_;exact jY
 rintro _ _ ⟨h,rfl,rfl⟩;refine ac ?_;refine HZ (ii (a:=a1) (b:=true) 0 J J J J Ti (ei hU)) ?_;exact eN
def fd (N:Nat)(a1:TM):Nat->Int->TW->Option Tw
 |0,_,_=>none
 |m8+1,p9,a2=>bif decide (p9<(a1.Ul.length:Int)) then ((aw a1.Ul p9).bind fun a6=>be (in64 (2*p9)) (be (in64 ((2*p9)+2)) ((dP N (⟨a2⟩:Tw) ((2*p9)+2) a6).bind fun a7=>be (in64 (p9+1)) ((fd N a1 m8) (p9+1) a7.2.at_)))) else (some (⟨a2⟩:Tw))
def cP (N:Nat)(a0:Tw)(a1:TM):Option Tw:=
 (nQ N a0).bind fun y6=>fd N a1 N 0 y6.at_
theorem qJ {N:Nat}{a0:Tw}{a1:TM}{r:Tw}(h:cP N a0 a1=some r):Okc Ua 122 [pV B1 0,.agg #[U A3 n3 c3,U A4 n4 c4]] ([bf A3 n3 c3 a1.Uj,bf A4 n4 c4 a1.Ul,ab B1 147 [.map (some M2)],am bj bH M2 a0.at_]) (fun u post=> ∃M0,u=.tuple #[]/\post=[ab B1 147 [.map (some M0)],am bj bH M0 r.at_]):=by
 refine cA Tryz.func122 ?_;intro B5;refine sY ?_;refine fC (bD J Td) ?_;refine cy J ?_;refine ac ?_;obtain ⟨y6,k,h⟩:=aa h;refine gD (oC (xW k)) ?_;rintro _ _ ⟨_,⟨M7,rfl,rfl⟩,rfl⟩;refine ac ?_;refine aY (fun m s L=> ∃p9 a6 a7,fd N a1 m p9 a6=some r/\s=[(0,pV B1 0),(11,U A4 n4 c4),(12,iV (a1.Ul.length:Int)),(13,iV p9)]/\L=[bf A4 n4 c4 a1.Ul,am bj bH a7 a6,ab B1 147 [.map (some a7)]]) N _ _ ⟨0,y6.at_,M7,h,J,J⟩ sA (cS [4,1,0] 5) ?_;rintro (_|m8) _ _ ⟨p9,a6,a7,h,rfl,rfl⟩
 ·exact ao h
 rw [fd.eq_2] at h;refine ac ?_;refine aG ?_;refine gH J h ?_ ?_<;>intro h
 ·refine sY ?_;obtain ⟨a2,b1,b2,a8,h⟩:=bz h;refine ac ?_;refine uw 0 J a8 (gK a2) ?_;rintro _ _ ⟨b3,b4,b5,b6,b7,b8,rfl,rfl⟩;refine EL (lM (us:=[iV a2.Ui,iV a2.Uw,iV a2.Uv,iV a2.Ux,U b3 b4 b5,U b6 b7 b8]) 0 J J agg42.out J) ?_;intro b9;refine ac ?_;obtain ⟨b0,h⟩:=ah h;refine gE (tJ J J b0.1 b0.2) ?_;obtain ⟨c0,h⟩:=ah h;refine ac ?_;obtain ⟨c8,k,h⟩:=aa h;refine gD (oC (nP k)) ?_;rintro _ _ ⟨_,⟨c9,rfl,rfl⟩,rfl⟩;refine ac ?_;obtain ⟨d0,h⟩:=ah h;exact lY
 exact eY
theorem oy {r:Tw}{B1:Nat}: ∀v post,((fun (u:Value) (post:List Chunk)=> ∃M0,u=.tuple #[]/\post=[ab B1 147 [.map (some M0)],am bj bH M0 r.at_])) v post-> ∀c∈post,jP c:=by
 rintro _ _ ⟨_,rfl,rfl⟩;exact hP DA (hP Kd (aD))
def gn (N:Nat)(a0:TI)(p13:TV)(a1:TV)(a2:TN)(a6:TN):Option (Int×TI):=
 some (1,a0)
def gm (N:Nat)(a1:TV)(a2:TV)(a0:TI)(a6:TN)(a7:TN):Option (Int×TI):=
 (cP N a0.Uy (⟨a1,a2⟩:TM)).bind fun a8=>some (0,(⟨(⟨a1,a2⟩:TM),a6,a7,a8⟩:TI))
def dX (N:Nat)(a0:TI)(a1:TV)(a2:TV)(p21:TN)(a6:TN):Option (Int×TI):=
 be ((0:Int)<=(a0.Ur.length:Int)/\0<=(a0.Ur.length:Int).toNat/\(a0.Ur.length:Int).toNat<=p21.length) (be ((0:Int)<=(a0.Ur.length:Int)/\(a0.Ur.length:Int).toNat<=p21.length/\p21.length<=p21.length) ((cI N ((p21.drop 0).take ((a0.Ur.length:Int).toNat - 0))).bind fun a7=>(cc N ((p21.drop ((a0.Ur.length:Int).toNat)).take (p21.length - (a0.Ur.length:Int).toNat)) a6).bind fun a8=>gm N a1 a2 a0 a7 a8))
def il (N:Nat)(a0:TI):Option (Int×TI):=
 (aK N a0).bind fun y9=>bif y9 then (some (1,a0)) else ((cc N a0.Ur a0.Uz).bind fun a1=>(mu N a1 a0).bind fun a2=>CF a2 (fun y26_0=>gn N a0 y26_0.1.Uj y26_0.1.Ul y26_0.2.1 y26_0.2.2) (fun y26_1=>dX N a0 y26_1.1.Uj y26_1.1.Ul y26_1.2.1 y26_1.2.2))
theorem qy {N:Nat}{a0:TI}{r:Int×TI}(h:il N a0=some r):Okc Ua 84 [pV B1 0,.func (.func 87) #[] #[pV B8 0]] ([ar B8 46 [pV B1 0],ab B1 99 [U A2 n2 c2,U A3 n3 c3,U A4 n4 c4,U A5 n5 c5,pV B6 0],aZ A2 n2 c2 a0.m_.Uj,aZ A3 n3 c3 a0.m_.Ul,aC A4 n4 c4 a0.Ur,aC A5 n5 c5 a0.Uz,ab B6 147 [.map (some M7)],am bj bH M7 a0.Uy.at_]) (fun u post=> ∃A0 n0 c0 A1 n1 c1 A2 n2 c2 A3 n3 c3 M4,u=iV r.1/\post=[ab B1 99 [U A0 n0 c0,U A1 n1 c1,U A2 n2 c2,U A3 n3 c3,pV B6 0],aZ A0 n0 c0 r.2.m_.Uj,aZ A1 n1 c1 r.2.m_.Ul,aC A2 n2 c2 r.2.Ur,aC A3 n3 c3 r.2.Uz,ab B6 147 [.map (some M4)],am bj bH M4 r.2.Uy.at_]):=by
 refine cA Tryz.func84 ?_;refine sZ ?_;obtain ⟨y9,k,h⟩:=aa h;refine kD (oR (ci k)) ?_;refine gH J h ?_ ?_<;>intro h
 ·exact eY
 refine ac ?_;refine au (fun s L=>(∃p13 i8 j0 j1 j2 j3 j4 j5 j6 j7 j8 j9 k0 k1 k2 k3 k4,gn N a0 p13 i8 j0 j1=some r/\s=[(0,pV B1 0),(4,iV 0),(5,pV j2 0),(6,U j9 k0 k1),(7,U k2 k3 k4),(8,iV 1)]/\L=[aZ j3 j4 j5 p13,aZ j6 j7 j8 i8,ab j2 96 [U j3 j4 j5,U j6 j7 j8],aC j9 k0 k1 j0,aC k2 k3 k4 j1,aZ A2 n2 c2 a0.m_.Uj,aZ A3 n3 c3 a0.m_.Ul,aC A4 n4 c4 a0.Ur,aC A5 n5 c5 a0.Uz,ab B1 99 [U A2 n2 c2,U A3 n3 c3,U A4 n4 c4,U A5 n5 c5,pV B6 0],am bj bH M7 a0.Uy.at_,ab B6 147 [.map (some M7)]])\/(∃(d2:TV) (d3:TV) (p21:TN) (h5:TN) (h6:Nat) (a1:Option Addr) (a2 a6:Nat) (a7:Option Addr) (a8 b0:Nat) (h7:Option Addr) (h8 h9:Nat) (f2:Option Addr) (f3 f4:Nat),dX N a0 d2 d3 p21 h5=some r/\s=[(0,pV B1 0),(4,iV 0),(5,pV h6 0),(6,U h7 h8 h9),(7,U f2 f3 f4),(8,iV 0)]/\L=[aZ a1 a2 a6 d2,aZ a7 a8 b0 d3,ab h6 96 [U a1 a2 a6,U a7 a8 b0],aC h7 h8 h9 p21,aC f2 f3 f4 h5,aC A4 n4 c4 a0.Ur,aC A5 n5 c5 a0.Uz,ab B1 99 [U A2 n2 c2,U A3 n3 c3,U A4 n4 c4,U A5 n5 c5,pV B6 0],am bj bH M7 a0.Uy.at_,ab B6 147 [.map (some M7)]])) ?_ ?_
 ·refine bV I ([ar B8 46 [pV B1 0],ab B1 99 [U A2 n2 c2,U A3 n3 c3,U A4 n4 c4,U A5 n5 c5,pV B6 0],aC A4 n4 c4 a0.Ur,aC A5 n5 c5 a0.Uz,ab B6 147 [.map (some M7)],am bj bH M7 a0.Uy.at_]) (cS [0,1,4,5,6,7] 8) ?_;refine zY [0,1,2,3,4,5,6,7,8] ?_;refine i4 9 17 I ?_ ?_
  ·refine bh J (eU (cs:=[U A4 n4 c4,U A5 n5 c5]) J (nA _ _ _ _ _ _)) J J J ?_;rintro _ _ ⟨k5,rfl,rfl⟩;refine aA (cS [1,2,5,6,7,8] 9) ?_;refine i4 10 17 I ?_ ?_
   ·obtain ⟨n9,k,h⟩:=aa h;refine bh J (oR (bA k)) J J J ?_;rintro _ _ ⟨_,⟨o0,o1,o2,rfl,rfl⟩,rfl⟩;refine aA (cS [2,3,6,7,8,9] 10) ?_;refine i4 11 17 I ?_ ?_
    ·refine sO (bv 0 J) (cS [2,3,6,7,8,9] 10) ?_;refine Kz ?_;obtain ⟨m1,g0,h⟩:=aa h;rcases m1 with y26_0|y26_1
     ·replace h:=Iu h;refine bh J (gj (cE g0) call87.out J J J (cL [0,2] [3,4,5,6,7,8,9] [0,1,2] 10 J)) J J J ?_;rintro _ _ ⟨_,⟨k6,k7,k8,b2,b3,b4,c9,d0,d1,d4,d6,e2,rfl,rfl⟩,rfl⟩;refine aA (cS [13,8,6,7,9,10] 14) ?_;refine aH ?_;refine zY [12,13,14,15,16] ?_;refine zD 17 J (bX zero96.out J) ?_;rintro _ _ ⟨m2,rfl,rfl⟩;refine aA (cS [14,9,7,8,10,11] 15) ?_;refine zO 18 J (aj (us:=[U k6 k7 k8,U b2 b3 b4]) (cs':=[U k6 k7 k8,U b2 b3 b4]) 0 J J J J size96.out J J J) ?_;rintro _ _ rfl;refine aA (cS [14,9,7,8,10,11] 15) ?_;refine aH ?_;refine zX [19,20,21] ?_;refine ac ?_;exact ⟨_,_,.inl (⟨y26_0.1.Uj,y26_0.1.Ul,y26_0.2.1,y26_0.2.2,m2,k6,k7,k8,b2,b3,b4,c9,d0,d1,d4,d6,e2,h,J,J⟩),sA,cS [1,2,0,3,4,5,6,7,8,9,11,10] 15⟩
     replace h:=It h;refine bh J (gj (cE g0) call87.out J J J (cL [0,2] [3,4,5,6,7,8,9] [0,1,2] 10 J)) J J J ?_;rintro _ _ ⟨_,⟨b5,b6,b7,b8,b9,c8,e3,e4,e5,e6,e7,e8,rfl,rfl⟩,rfl⟩;refine aA (cS [11,6,4,5,7,8] 12) ?_;refine aH ?_;refine zY [12,13,14,15,16] ?_;refine zD 17 J (bX zero96.out J) ?_;rintro _ _ ⟨m3,rfl,rfl⟩;refine aA (cS [12,7,5,6,8,9] 13) ?_;refine zO 18 J (aj (us:=[U b5 b6 b7,U b8 b9 c8]) (cs':=[U b5 b6 b7,U b8 b9 c8]) 0 J J J J size96.out J J J) ?_;rintro _ _ rfl;refine aA (cS [12,7,5,6,8,9] 13) ?_;refine aH ?_;refine zX [19,20,21] ?_;refine ac ?_;exact ⟨_,_,.inr (⟨y26_1.1.Uj,y26_1.1.Ul,y26_1.2.1,y26_1.2.2,m3,b5,b6,b7,b8,b9,c8,e3,e4,e5,e6,e7,e8,h,J,J⟩),sA,cS [1,2,0,3,4,5,6,7,9,8] 13⟩
    refine bh J (bX zero96.out J) J J J ?_;rintro _ _ ⟨l7,rfl,rfl⟩;refine aA (cS [3,4,7,8,9,10] 11) ?_;refine mD (bv 1 J) (cS [3,4,7,8,9,10] 11) ?_;refine aH ?_;obtain ⟨g1,b1,h⟩:=aa h;rcases g1 with y27_0|y27_1
    ·replace h:=Iu h;refine zD 11 J (gj (cE b1) call87.out J J J (cL [1,3] [4,5,6,7,8,9,10] [0,1,2,3] 11 J)) ?_;rintro _ _ ⟨_,⟨b2,b3,b4,c9,d0,d1,d4,d6,e2,g2,g3,g4,rfl,rfl⟩,rfl⟩;refine aA (cS [14,8,6,7,9,10] 15) ?_;refine aH ?_;refine zY [12,13,14,15,16] ?_;refine zO 18 J (aj (us:=[U b2 b3 b4,U c9 d0 d1]) (cs':=[U b2 b3 b4,U c9 d0 d1]) 11 J J J J size96.out J J J) ?_;rintro _ _ rfl;refine aA (cS [14,8,6,7,9,10] 15) ?_;refine aH ?_;refine zX [19,20,21] ?_;refine ac ?_;exact ⟨_,_,.inl (⟨y27_0.1.Uj,y27_0.1.Ul,y27_0.2.1,y27_0.2.2,l7,b2,b3,b4,c9,d0,d1,d4,d6,e2,g2,g3,g4,h,J,J⟩),sA,cS [0,1,11,2,3,4,5,6,7,8,10,9] 15⟩
    replace h:=It h;refine zD 11 J (gj (cE b1) call87.out J J J (cL [1,3] [4,5,6,7,8,9,10] [0,1,2,3] 11 J)) ?_;rintro _ _ ⟨_,⟨b5,b6,b7,b8,b9,c8,e3,e4,e5,e6,e7,e8,rfl,rfl⟩,rfl⟩;refine aA (cS [12,6,4,5,7,8] 13) ?_;refine aH ?_;refine zY [12,13,14,15,16] ?_;refine zO 18 J (aj (us:=[U b5 b6 b7,U b8 b9 c8]) (cs':=[U b5 b6 b7,U b8 b9 c8]) 9 J J J J size96.out J J J) ?_;rintro _ _ rfl;refine aA (cS [12,6,4,5,7,8] 13) ?_;refine aH ?_;refine zX [19,20,21] ?_;refine ac ?_;exact ⟨_,_,.inr (⟨y27_1.1.Uj,y27_1.1.Ul,y27_1.2.1,y27_1.2.2,l7,b5,b6,b7,b8,b9,c8,e3,e4,e5,e6,e7,e8,h,J,J⟩),sA,cS [0,1,9,2,3,4,5,6,8,7] 13⟩
   refine bh J (bX zero96.out J) J J J ?_;rintro _ _ ⟨k9,rfl,rfl⟩;refine aA (cS [2,3,6,7,8,9] 10) ?_;obtain ⟨m4,e9,h⟩:=aa h;refine zD 10 J (oR (bA e9)) ?_;rintro _ _ ⟨_,⟨m5,m6,m7,rfl,rfl⟩,rfl⟩;refine aA (cS [3,4,7,8,9,10] 11) ?_;refine mD (bv 0 J) (cS [3,4,7,8,9,10] 11) ?_;refine aH ?_;obtain ⟨g1,b1,h⟩:=aa h;rcases g1 with y27_0|y27_1
   ·replace h:=Iu h;refine zD 11 J (gj (cE b1) call87.out J J J (cL [0,3] [4,5,6,7,8,9,10] [0,1,2,3] 11 J)) ?_;rintro _ _ ⟨_,⟨b2,b3,b4,c9,d0,d1,d4,d6,e2,g2,g3,g4,rfl,rfl⟩,rfl⟩;refine aA (cS [14,8,6,7,9,10] 15) ?_;refine aH ?_;refine zY [12,13,14,15,16] ?_;refine zO 18 J (aj (us:=[U b2 b3 b4,U c9 d0 d1]) (cs':=[U b2 b3 b4,U c9 d0 d1]) 12 J J J J size96.out J J J) ?_;rintro _ _ rfl;refine aA (cS [14,8,6,7,9,10] 15) ?_;refine aH ?_;refine zX [19,20,21] ?_;refine ac ?_;exact ⟨_,_,.inl (⟨y27_0.1.Uj,y27_0.1.Ul,y27_0.2.1,y27_0.2.2,k9,b2,b3,b4,c9,d0,d1,d4,d6,e2,g2,g3,g4,h,J,J⟩),sA,cS [0,1,12,2,3,4,5,6,7,8,10,9] 15⟩
   replace h:=It h;refine zD 11 J (gj (cE b1) call87.out J J J (cL [0,3] [4,5,6,7,8,9,10] [0,1,2,3] 11 J)) ?_;rintro _ _ ⟨_,⟨b5,b6,b7,b8,b9,c8,e3,e4,e5,e6,e7,e8,rfl,rfl⟩,rfl⟩;refine aA (cS [12,6,4,5,7,8] 13) ?_;refine aH ?_;refine zY [12,13,14,15,16] ?_;refine zO 18 J (aj (us:=[U b5 b6 b7,U b8 b9 c8]) (cs':=[U b5 b6 b7,U b8 b9 c8]) 10 J J J J size96.out J J J) ?_;rintro _ _ rfl;refine aA (cS [12,6,4,5,7,8] 13) ?_;refine aH ?_;refine zX [19,20,21] ?_;refine ac ?_;exact ⟨_,_,.inr (⟨y27_1.1.Uj,y27_1.1.Ul,y27_1.2.1,y27_1.2.2,k9,b5,b6,b7,b8,b9,c8,e3,e4,e5,e6,e7,e8,h,J,J⟩),sA,cS [0,1,10,2,3,4,5,6,8,7] 13⟩
  refine bh J (bX zero96.out J) J J J ?_;rintro _ _ ⟨k5,rfl,rfl⟩;refine aA (cS [1,2,5,6,7,8] 9) ?_;refine zD 9 J (eU (cs:=[U A4 n4 c4,U A5 n5 c5]) J (nA _ _ _ _ _ _)) ?_;rintro _ _ ⟨k9,rfl,rfl⟩;refine aA (cS [2,3,6,7,8,9] 10) ?_;obtain ⟨m4,e9,h⟩:=aa h;refine zD 10 J (oR (bA e9)) ?_;rintro _ _ ⟨_,⟨m5,m6,m7,rfl,rfl⟩,rfl⟩;refine aA (cS [3,4,7,8,9,10] 11) ?_;refine mD (bv 0 J) (cS [3,4,7,8,9,10] 11) ?_;refine aH ?_;obtain ⟨g1,b1,h⟩:=aa h;rcases g1 with y27_0|y27_1
  ·replace h:=Iu h;refine zD 11 J (gj (cE b1) call87.out J J J (cL [0,3] [4,5,6,7,8,9,10] [0,1,2,3] 11 J)) ?_;rintro _ _ ⟨_,⟨b2,b3,b4,c9,d0,d1,d4,d6,e2,g2,g3,g4,rfl,rfl⟩,rfl⟩;refine aA (cS [14,8,6,7,9,10] 15) ?_;refine aH ?_;refine zY [12,13,14,15,16] ?_;refine zO 18 J (aj (us:=[U b2 b3 b4,U c9 d0 d1]) (cs':=[U b2 b3 b4,U c9 d0 d1]) 13 J J J J size96.out J J J) ?_;rintro _ _ rfl;refine aA (cS [14,8,6,7,9,10] 15) ?_;refine aH ?_;refine zX [19,20,21] ?_;refine ac ?_;exact ⟨_,_,.inl (⟨y27_0.1.Uj,y27_0.1.Ul,y27_0.2.1,y27_0.2.2,k5,b2,b3,b4,c9,d0,d1,d4,d6,e2,g2,g3,g4,h,J,J⟩),sA,cS [0,1,13,2,3,4,5,6,7,8,10,9] 15⟩
  replace h:=It h;refine zD 11 J (gj (cE b1) call87.out J J J (cL [0,3] [4,5,6,7,8,9,10] [0,1,2,3] 11 J)) ?_;rintro _ _ ⟨_,⟨b5,b6,b7,b8,b9,c8,e3,e4,e5,e6,e7,e8,rfl,rfl⟩,rfl⟩;refine aA (cS [12,6,4,5,7,8] 13) ?_;refine aH ?_;refine zY [12,13,14,15,16] ?_;refine zO 18 J (aj (us:=[U b5 b6 b7,U b8 b9 c8]) (cs':=[U b5 b6 b7,U b8 b9 c8]) 11 J J J J size96.out J J J) ?_;rintro _ _ rfl;refine aA (cS [12,6,4,5,7,8] 13) ?_;refine aH ?_;refine zX [19,20,21] ?_;refine ac ?_;exact ⟨_,_,.inr (⟨y27_1.1.Uj,y27_1.1.Ul,y27_1.2.1,y27_1.2.2,k5,b5,b6,b7,b8,b9,c8,e3,e4,e5,e6,e7,e8,h,J,J⟩),sA,cS [0,1,11,2,3,4,5,6,8,7] 13⟩
 rintro _ _ (⟨p13,i8,j0,j1,j2,j3,j4,j5,j6,j7,j8,j9,k0,k1,k2,k3,k4,h,rfl,rfl⟩|⟨d2,d3,p21,h5,h6,a1,a2,a6,a7,a8,b0,h7,h8,h9,f2,f3,f4,h,rfl,rfl⟩)
 ·refine sZ ?_;refine cK J ?_;exact eY
 refine sZ ?_;refine cy J ?_;refine ac ?_;refine au (fun s L=> ∃i0 i1 g5 g6 g7 g8 g9 h0,gm N d2 d3 a0 i0 i1=some r/\s=[(0,pV B1 0),(4,iV 0)]/\L=[aZ a1 a2 a6 d2,aZ a7 a8 b0 d3,aC g5 g6 g7 i0,aC g8 g9 h0 i1,ab B1 99 [U a1 a2 a6,U a7 a8 b0,U g5 g6 g7,U g8 g9 h0,pV B6 0],am bj bH M7 a0.Uy.at_,ab B6 147 [.map (some M7)]]) ?_ ?_
 ·refine ie ?_ bu (bv 3 J);refine ac ?_;refine bV I ([aZ a1 a2 a6 d2,aZ a7 a8 b0 d3,ab h6 96 [U a1 a2 a6,U a7 a8 b0],bc h7 h8 h9 p21,aC f2 f3 f4 h5,aC A4 n4 c4 a0.Ur,aC A5 n5 c5 a0.Uz,am bj bH M7 a0.Uy.at_,ab B6 147 [.map (some M7)]]) (cS [0,1,2,3,4,5,6,8,9] 10) ?_;refine zY [0,1,2,3,4,5] ?_;obtain ⟨h1,h⟩:=ah h;refine Bt 3 J (l:=0) (h:=(a0.Ur.length:Int).toNat) h1.2.1 h1.2.2 ?_;rintro p0 p1 p2 m8;refine zR 6 J (KO 4 J m8 J t0 size23.out J J (by rw [Int.toNat_of_nonneg h1.1];rfl) h1.2.1 h1.2.2) ?_;refine zY [8,9] ?_;obtain ⟨i2,h⟩:=ah h;refine Bt 4 J (l:=(a0.Ur.length:Int).toNat) (h:=p21.length) i2.2.1 i2.2.2 ?_;rintro l8 l9 m0 m9;refine zR 10 J (uH 5 J m9 J t0 size23.out J (by rw [Int.toNat_of_nonneg i2.1];rfl) i2.2.1) ?_;refine zY [11] ?_;refine i4 7 12 I ?_ ?_
  ·obtain ⟨p3,k,h⟩:=aa h;refine bh J (oR (fx k)) J J J ?_;rintro _ _ ⟨_,⟨l0,l1,l2,rfl,rfl⟩,rfl⟩;refine aA (cS [1,2,3,4,5,6,7,8,9,11,12] 13) ?_;refine zD 12 J (eU (cs:=[U l8 l9 m0,U f2 f3 f4]) J (nA _ _ _ _ _ _)) ?_;rintro _ _ ⟨p4,rfl,rfl⟩;refine aA (cS [2,3,4,5,6,7,8,9,10,12,13] 14) ?_;obtain ⟨n8,f1,h⟩:=aa h;refine zD 13 J (oR (bA f1)) ?_;rintro _ _ ⟨_,⟨h2,h3,h4,rfl,rfl⟩,rfl⟩;refine aA (cS [3,4,5,6,7,8,9,10,11,13,14] 15) ?_;refine zY [14,15] ?_;refine zO 16 J (aj (us:=[U a1 a2 a6,U a7 a8 b0]) (cs':=[U a1 a2 a6,U a7 a8 b0,U A4 n4 c4,U A5 n5 c5,pV B6 0]) 12 J J J J size96.out J J J) ?_;rintro _ _ rfl;refine aA (cS [3,4,5,6,7,8,9,10,11,13,14] 15) ?_;refine aH ?_;refine zY [17,18] ?_;refine zO 19 J (aj (us:=[U l0 l1 l2]) (cs':=[U a1 a2 a6,U a7 a8 b0,U l0 l1 l2,U A5 n5 c5,pV B6 0]) 12 J J J J size30.out J J J) ?_;rintro _ _ rfl;refine aA (cS [3,4,5,6,7,8,9,10,11,13,14] 15) ?_;refine aH ?_;refine zY [20,21] ?_;refine zO 22 J (aj (us:=[U h2 h3 h4]) (cs':=[U a1 a2 a6,U a7 a8 b0,U l0 l1 l2,U h2 h3 h4,pV B6 0]) 12 J J J J size30.out J J J) ?_;rintro _ _ rfl;refine aA (cS [3,4,5,6,7,8,9,10,11,13,14] 15) ?_;refine aH ?_;refine cT I ?_;exact jY
  refine bh J (eU (cs:=[U l8 l9 m0,U f2 f3 f4]) J (nA _ _ _ _ _ _)) J J J ?_;rintro _ _ ⟨p5,rfl,rfl⟩;refine aA (cS [1,2,3,4,5,6,7,8,9,11,12] 13) ?_;obtain ⟨p6,k,h⟩:=aa h;refine zD 7 J (oR (fx k)) ?_;rintro _ _ ⟨_,⟨l3,l4,l5,rfl,rfl⟩,rfl⟩;refine aA (cS [2,3,4,5,6,7,8,9,10,12,13] 14) ?_;obtain ⟨n8,f1,h⟩:=aa h;refine zD 13 J (oR (bA f1)) ?_;rintro _ _ ⟨_,⟨h2,h3,h4,rfl,rfl⟩,rfl⟩;refine aA (cS [3,4,5,6,7,8,9,10,11,13,14] 15) ?_;refine zY [14,15] ?_;refine zO 16 J (aj (us:=[U a1 a2 a6,U a7 a8 b0]) (cs':=[U a1 a2 a6,U a7 a8 b0,U A4 n4 c4,U A5 n5 c5,pV B6 0]) 12 J J J J size96.out J J J) ?_;rintro _ _ rfl;refine aA (cS [3,4,5,6,7,8,9,10,11,13,14] 15) ?_;refine aH ?_;refine zY [17,18] ?_;refine zO 19 J (aj (us:=[U l3 l4 l5]) (cs':=[U a1 a2 a6,U a7 a8 b0,U l3 l4 l5,U A5 n5 c5,pV B6 0]) 12 J J J J size30.out J J J) ?_;rintro _ _ rfl;refine aA (cS [3,4,5,6,7,8,9,10,11,13,14] 15) ?_;refine aH ?_;refine zY [20,21] ?_;refine zO 22 J (aj (us:=[U h2 h3 h4]) (cs':=[U a1 a2 a6,U a7 a8 b0,U l3 l4 l5,U h2 h3 h4,pV B6 0]) 12 J J J J size30.out J J J) ?_;rintro _ _ rfl;refine aA (cS [3,4,5,6,7,8,9,10,11,13,14] 15) ?_;refine aH ?_;refine cT I ?_;exact jY
 rintro _ _ ⟨i0,i1,g5,g6,g7,g8,g9,h0,h,rfl,rfl⟩;refine aG ?_;refine bV I ([aZ a1 a2 a6 d2,aZ a7 a8 b0 d3,aC g5 g6 g7 i0,aC g8 g9 h0 i1,ab B1 99 [U a1 a2 a6,U a7 a8 b0,U g5 g6 g7,U g8 g9 h0,pV B6 0]]) (cS [0,1,2,3,4] 7) ?_;refine ac ?_;obtain ⟨p7,l6,h⟩:=aa h;refine mD (cS [6,5,0,1,2,3,4] 7) (cS [2,3,4,5,6] 7) ?_;refine aH ?_;refine zD 8 J (Gu 2 2 (qJ l6) call122.out J J J J (hP (xC (i:=2) J J) (hP (xC (i:=3) J J) aD)) oy) ?_;rintro _ _ ⟨_,⟨p8,rfl,rfl⟩,rfl⟩;refine aA (cS [2,3,4,5,6] 7) ?_;refine aH ?_;exact eY
end Go.Proofs.YtjmonlcchlkdhaaGreat