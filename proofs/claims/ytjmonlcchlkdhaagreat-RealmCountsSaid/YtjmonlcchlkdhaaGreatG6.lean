/- Merged texts: part 6. No conditions of their own. -/
import Derived.Test.YtjmonlcchlkdhaaGreatG5
set_option maxHeartbeats 4000000
namespace Go.Proofs.YtjmonlcchlkdhaaGreat
variable {A1 A10 A12 A13 A14 A15 A16 A2 A3 A4 A5 A6:Option Addr} {B1 B2 B6 B7 B8 B9 M11 M3 M7 M8 c1 c10 c12 c13 c14 c15 c16 c2 c3 c4 c5 c6 n1 n10 n12 n13 n14 n15 n16 n2 n3 n4 n5 n6:Nat}
open Go.RowKit Asn
set_option maxRecDepth 20000
def d5 (N:Nat)(a0:TI)(p13:TV)(a2:TV)(a6:TN)(a7:TN)(a1:Int):Option (Int×TI):=
 bif !decide (a1=0) then (some (a1,a0)) else none
def gp (N:Nat)(a1:TV)(p21:TV)(a0:TI)(a2:TN)(a6:TN):Option (Int×TI):=
 (cP N a0.Uy (⟨a1,p21⟩:TM)).bind fun a7=>some (0,(⟨(⟨a1,p21⟩:TM),a2,a6,a7⟩:TI))
def dZ (N:Nat)(a0:TI)(a2:TV)(p21:TV)(a1:TN)(a6:TN):Option (Int×TI):=
 be ((0:Int)<=(a0.Ur.length:Int)/\0<=(a0.Ur.length:Int).toNat/\(a0.Ur.length:Int).toNat<=a1.length) (be ((0:Int)<=(a0.Ur.length:Int)/\(a0.Ur.length:Int).toNat<=a1.length/\a1.length<=a1.length) ((cI N ((a1.drop 0).take ((a0.Ur.length:Int).toNat - 0))).bind fun a7=>(cc N ((a1.drop ((a0.Ur.length:Int).toNat)).take (a1.length - (a0.Ur.length:Int).toNat)) a6).bind fun a8=>gp N a2 p21 a0 a7 a8))
def im (N:Nat)(a0:TI):Option (Int×TI):=
 (aK N a0).bind fun y9=>bif y9 then (some (1,a0)) else ((cc N a0.Ur a0.Uz).bind fun a1=>(mw N a1 a0).bind fun a2=>CF a2 (fun y27_0=>d5 N a0 y27_0.1.Uj y27_0.1.Ul y27_0.2.1 y27_0.2.2.1 y27_0.2.2.2) (fun y27_1=>dZ N a0 y27_1.1.Uj y27_1.1.Ul y27_1.2.1 y27_1.2.2))
theorem qz {N:Nat}{a0:TI}{r:Int×TI}(h:im N a0=some r):Okc Ua 84 [pV B1 0,.func (.func 85) #[] #[pV B8 0]] ([ar B8 46 [pV B1 0],ab B1 99 [U A2 n2 c2,U A3 n3 c3,U A4 n4 c4,U A5 n5 c5,pV B6 0],aZ A2 n2 c2 a0.m_.Uj,aZ A3 n3 c3 a0.m_.Ul,aC A4 n4 c4 a0.Ur,aC A5 n5 c5 a0.Uz,ab B6 147 [.map (some M7)],am bj bH M7 a0.Uy.at_]) (fun u post=> ∃A0 n0 c0 A1 n1 c1 A2 n2 c2 A3 n3 c3 M4,u=iV r.1/\post=[ab B1 99 [U A0 n0 c0,U A1 n1 c1,U A2 n2 c2,U A3 n3 c3,pV B6 0],aZ A0 n0 c0 r.2.m_.Uj,aZ A1 n1 c1 r.2.m_.Ul,aC A2 n2 c2 r.2.Ur,aC A3 n3 c3 r.2.Uz,ab B6 147 [.map (some M4)],am bj bH M4 r.2.Uy.at_]):=by
 refine cA Tryz.func84 ?_;refine sZ ?_;obtain ⟨y9,k,h⟩:=aa h;refine kD (oR (ci k)) ?_;refine gH J h ?_ ?_<;>intro h
 ·exact eY
 refine ac ?_;refine au (fun s L=>(∃p13 i2 i8 j0 j1 j2 A13 n13 c13 A14 n14 c14 A15 n15 c15 A16 n16 c16,d5 N a0 p13 i2 i8 j0 j1=some r/\s=[(0,pV B1 0),(4,iV 0),(5,pV j2 0),(6,U A15 n15 c15),(7,U A16 n16 c16),(8,iV j1)]/\L=[aZ A13 n13 c13 p13,aZ A14 n14 c14 i2,ab j2 96 [U A13 n13 c13,U A14 n14 c14],aC A15 n15 c15 i8,aC A16 n16 c16 j0,aZ A2 n2 c2 a0.m_.Uj,aZ A3 n3 c3 a0.m_.Ul,aC A4 n4 c4 a0.Ur,aC A5 n5 c5 a0.Uz,ab B1 99 [U A2 n2 c2,U A3 n3 c3,U A4 n4 c4,U A5 n5 c5,pV B6 0],am bj bH M7 a0.Uy.at_,ab B6 147 [.map (some M7)]])\/(∃(d1:TV) (p21:TV) (f3:TN) (h4:TN) (h5:Nat) (a1:Option Addr) (a2 a6:Nat) (a7:Option Addr) (a8 b0:Nat) (h6:Option Addr) (h7 h8:Nat) (e9:Option Addr) (f1 f2:Nat),dZ N a0 d1 p21 f3 h4=some r/\s=[(0,pV B1 0),(4,iV 0),(5,pV h5 0),(6,U h6 h7 h8),(7,U e9 f1 f2),(8,iV 0)]/\L=[aZ a1 a2 a6 d1,aZ a7 a8 b0 p21,ab h5 96 [U a1 a2 a6,U a7 a8 b0],aC h6 h7 h8 f3,aC e9 f1 f2 h4,aZ A2 n2 c2 a0.m_.Uj,aZ A3 n3 c3 a0.m_.Ul,aC A4 n4 c4 a0.Ur,aC A5 n5 c5 a0.Uz,ab B1 99 [U A2 n2 c2,U A3 n3 c3,U A4 n4 c4,U A5 n5 c5,pV B6 0],am bj bH M7 a0.Uy.at_,ab B6 147 [.map (some M7)]])) ?_ ?_
 ·refine bV I _ (ad _) ?_;refine zY [0,1,2,3,4,5,6,7,8] ?_;refine i4 9 17 I ?_ ?_
  ·refine bh J (eU (cs:=[U A4 n4 c4,U A5 n5 c5]) J (nA _ _ _ _ _ _)) J J J ?_;rintro _ _ ⟨j3,rfl,rfl⟩;refine aA (cS [1,2,3,4,5,6,7,8] 9) ?_;refine i4 10 17 I ?_ ?_
   ·obtain ⟨l9,k,h⟩:=aa h;refine bh J (oR (bA k)) J J J ?_;rintro _ _ ⟨_,⟨m0,m1,m2,rfl,rfl⟩,rfl⟩;refine aA (cS [2,3,4,5,6,7,8,9] 10) ?_;refine i4 11 17 I ?_ ?_
    ·refine sO (bv 0 J) (cS [2,3,4,5,6,7,8,9] 10) ?_;refine Kz ?_;obtain ⟨k9,f4,h⟩:=aa h;rcases k9 with y27_0|y27_1
     ·replace h:=Iu h;refine bh J (gj (cF f4) call85.out J J J (cL [0,2] [3,4,5,6,7,8,9] [0,1,2] 10 J)) J J J ?_;rintro _ _ ⟨_,⟨j4,j5,j6,b2,b3,b4,c8,c9,d0,d2,d3,d4,rfl,rfl⟩,rfl⟩;refine aA (cS [13,8,4,5,6,7,9,10] 14) ?_;refine aH ?_;refine zY [12,13,14,15,16] ?_;refine zD 17 J (bX zero96.out J) ?_;rintro _ _ ⟨l0,rfl,rfl⟩;refine aA (cS [14,9,5,6,7,8,10,11] 15) ?_;refine zO 18 J (aj (us:=[U j4 j5 j6,U b2 b3 b4]) (cs':=[U j4 j5 j6,U b2 b3 b4]) 0 J J J J size96.out J J J) ?_;rintro _ _ rfl;refine aA (cS [14,9,5,6,7,8,10,11] 15) ?_;refine aH ?_;refine zX [19,20,21] ?_;refine ac ?_;exact ⟨_,_,.inl (⟨y27_0.1.Uj,y27_0.1.Ul,y27_0.2.1,y27_0.2.2.1,y27_0.2.2.2,l0,j4,j5,j6,b2,b3,b4,c8,c9,d0,d2,d3,d4,h,J,J⟩),sA,cS [1,2,0,3,4,5,6,7,8,9,11,10] 15⟩
     replace h:=It h;refine bh J (gj (cF f4) call85.out J J J (cL [0,2] [3,4,5,6,7,8,9] [0,1,2] 10 J)) J J J ?_;rintro _ _ ⟨_,⟨b5,b6,b7,b8,b9,c7,d6,e2,e3,e4,e5,e6,rfl,rfl⟩,rfl⟩;refine aA (cS [13,8,4,5,6,7,9,10] 14) ?_;refine aH ?_;refine zY [12,13,14,15,16] ?_;refine zD 17 J (bX zero96.out J) ?_;rintro _ _ ⟨l1,rfl,rfl⟩;refine aA (cS [14,9,5,6,7,8,10,11] 15) ?_;refine zO 18 J (aj (us:=[U b5 b6 b7,U b8 b9 c7]) (cs':=[U b5 b6 b7,U b8 b9 c7]) 0 J J J J size96.out J J J) ?_;rintro _ _ rfl;refine aA (cS [14,9,5,6,7,8,10,11] 15) ?_;refine aH ?_;refine zX [19,20,21] ?_;refine ac ?_;exact ⟨_,_,.inr (⟨y27_1.1.Uj,y27_1.1.Ul,y27_1.2.1,y27_1.2.2,l1,b5,b6,b7,b8,b9,c7,d6,e2,e3,e4,e5,e6,h,J,J⟩),sA,cS [1,2,0,3,4,5,6,7,8,9,11,10] 15⟩
    refine bh J (bX zero96.out J) J J J ?_;rintro _ _ ⟨k5,rfl,rfl⟩;refine aA (cS [3,4,5,6,7,8,9,10] 11) ?_;refine mD (bv 1 J) (cS [3,4,5,6,7,8,9,10] 11) ?_;refine aH ?_;obtain ⟨g0,b1,h⟩:=aa h;rcases g0 with y28_0|y28_1
    ·replace h:=Iu h;refine zD 11 J (gj (cF b1) call85.out J J J (cL [1,3] [4,5,6,7,8,9,10] [0,1,2,3] 11 J)) ?_;rintro _ _ ⟨_,⟨b2,b3,b4,c8,c9,d0,d2,d3,d4,g1,g2,g3,rfl,rfl⟩,rfl⟩;refine aA (cS [14,8,4,5,6,7,9,10] 15) ?_;refine aH ?_;refine zY [12,13,14,15,16] ?_;refine zO 18 J (aj (us:=[U b2 b3 b4,U c8 c9 d0]) (cs':=[U b2 b3 b4,U c8 c9 d0]) 11 J J J J size96.out J J J) ?_;rintro _ _ rfl;refine aA (cS [14,8,4,5,6,7,9,10] 15) ?_;refine aH ?_;refine zX [19,20,21] ?_;refine ac ?_;exact ⟨_,_,.inl (⟨y28_0.1.Uj,y28_0.1.Ul,y28_0.2.1,y28_0.2.2.1,y28_0.2.2.2,k5,b2,b3,b4,c8,c9,d0,d2,d3,d4,g1,g2,g3,h,J,J⟩),sA,cS [0,1,11,2,3,4,5,6,7,8,10,9] 15⟩
    replace h:=It h;refine zD 11 J (gj (cF b1) call85.out J J J (cL [1,3] [4,5,6,7,8,9,10] [0,1,2,3] 11 J)) ?_;rintro _ _ ⟨_,⟨b5,b6,b7,b8,b9,c7,d6,e2,e3,e4,e5,e6,rfl,rfl⟩,rfl⟩;refine aA (cS [14,8,4,5,6,7,9,10] 15) ?_;refine aH ?_;refine zY [12,13,14,15,16] ?_;refine zO 18 J (aj (us:=[U b5 b6 b7,U b8 b9 c7]) (cs':=[U b5 b6 b7,U b8 b9 c7]) 11 J J J J size96.out J J J) ?_;rintro _ _ rfl;refine aA (cS [14,8,4,5,6,7,9,10] 15) ?_;refine aH ?_;refine zX [19,20,21] ?_;refine ac ?_;exact ⟨_,_,.inr (⟨y28_1.1.Uj,y28_1.1.Ul,y28_1.2.1,y28_1.2.2,k5,b5,b6,b7,b8,b9,c7,d6,e2,e3,e4,e5,e6,h,J,J⟩),sA,cS [0,1,11,2,3,4,5,6,7,8,10,9] 15⟩
   refine bh J (bX zero96.out J) J J J ?_;rintro _ _ ⟨j7,rfl,rfl⟩;refine aA (cS [2,3,4,5,6,7,8,9] 10) ?_;obtain ⟨l2,e7,h⟩:=aa h;refine zD 10 J (oR (bA e7)) ?_;rintro _ _ ⟨_,⟨l3,l4,l5,rfl,rfl⟩,rfl⟩;refine aA (cS [3,4,5,6,7,8,9,10] 11) ?_;refine mD (bv 0 J) (cS [3,4,5,6,7,8,9,10] 11) ?_;refine aH ?_;obtain ⟨g0,b1,h⟩:=aa h;rcases g0 with y28_0|y28_1
   ·replace h:=Iu h;refine zD 11 J (gj (cF b1) call85.out J J J (cL [0,3] [4,5,6,7,8,9,10] [0,1,2,3] 11 J)) ?_;rintro _ _ ⟨_,⟨b2,b3,b4,c8,c9,d0,d2,d3,d4,g1,g2,g3,rfl,rfl⟩,rfl⟩;refine aA (cS [14,8,4,5,6,7,9,10] 15) ?_;refine aH ?_;refine zY [12,13,14,15,16] ?_;refine zO 18 J (aj (us:=[U b2 b3 b4,U c8 c9 d0]) (cs':=[U b2 b3 b4,U c8 c9 d0]) 12 J J J J size96.out J J J) ?_;rintro _ _ rfl;refine aA (cS [14,8,4,5,6,7,9,10] 15) ?_;refine aH ?_;refine zX [19,20,21] ?_;refine ac ?_;exact ⟨_,_,.inl (⟨y28_0.1.Uj,y28_0.1.Ul,y28_0.2.1,y28_0.2.2.1,y28_0.2.2.2,j7,b2,b3,b4,c8,c9,d0,d2,d3,d4,g1,g2,g3,h,J,J⟩),sA,cS [0,1,12,2,3,4,5,6,7,8,10,9] 15⟩
   replace h:=It h;refine zD 11 J (gj (cF b1) call85.out J J J (cL [0,3] [4,5,6,7,8,9,10] [0,1,2,3] 11 J)) ?_;rintro _ _ ⟨_,⟨b5,b6,b7,b8,b9,c7,d6,e2,e3,e4,e5,e6,rfl,rfl⟩,rfl⟩;refine aA (cS [14,8,4,5,6,7,9,10] 15) ?_;refine aH ?_;refine zY [12,13,14,15,16] ?_;refine zO 18 J (aj (us:=[U b5 b6 b7,U b8 b9 c7]) (cs':=[U b5 b6 b7,U b8 b9 c7]) 12 J J J J size96.out J J J) ?_;rintro _ _ rfl;refine aA (cS [14,8,4,5,6,7,9,10] 15) ?_;refine aH ?_;refine zX [19,20,21] ?_;refine ac ?_;exact ⟨_,_,.inr (⟨y28_1.1.Uj,y28_1.1.Ul,y28_1.2.1,y28_1.2.2,j7,b5,b6,b7,b8,b9,c7,d6,e2,e3,e4,e5,e6,h,J,J⟩),sA,cS [0,1,12,2,3,4,5,6,7,8,10,9] 15⟩
  refine bh J (bX zero96.out J) J J J ?_;rintro _ _ ⟨j3,rfl,rfl⟩;refine aA (cS [1,2,3,4,5,6,7,8] 9) ?_;refine zD 9 J (eU (cs:=[U A4 n4 c4,U A5 n5 c5]) J (nA _ _ _ _ _ _)) ?_;rintro _ _ ⟨j7,rfl,rfl⟩;refine aA (cS [2,3,4,5,6,7,8,9] 10) ?_;obtain ⟨l2,e7,h⟩:=aa h;refine zD 10 J (oR (bA e7)) ?_;rintro _ _ ⟨_,⟨l3,l4,l5,rfl,rfl⟩,rfl⟩;refine aA (cS [3,4,5,6,7,8,9,10] 11) ?_;refine mD (bv 0 J) (cS [3,4,5,6,7,8,9,10] 11) ?_;refine aH ?_;obtain ⟨g0,b1,h⟩:=aa h;rcases g0 with y28_0|y28_1
  ·replace h:=Iu h;refine zD 11 J (gj (cF b1) call85.out J J J (cL [0,3] [4,5,6,7,8,9,10] [0,1,2,3] 11 J)) ?_;rintro _ _ ⟨_,⟨b2,b3,b4,c8,c9,d0,d2,d3,d4,g1,g2,g3,rfl,rfl⟩,rfl⟩;refine aA (cS [14,8,4,5,6,7,9,10] 15) ?_;refine aH ?_;refine zY [12,13,14,15,16] ?_;refine zO 18 J (aj (us:=[U b2 b3 b4,U c8 c9 d0]) (cs':=[U b2 b3 b4,U c8 c9 d0]) 13 J J J J size96.out J J J) ?_;rintro _ _ rfl;refine aA (cS [14,8,4,5,6,7,9,10] 15) ?_;refine aH ?_;refine zX [19,20,21] ?_;refine ac ?_;exact ⟨_,_,.inl (⟨y28_0.1.Uj,y28_0.1.Ul,y28_0.2.1,y28_0.2.2.1,y28_0.2.2.2,j3,b2,b3,b4,c8,c9,d0,d2,d3,d4,g1,g2,g3,h,J,J⟩),sA,cS [0,1,13,2,3,4,5,6,7,8,10,9] 15⟩
  replace h:=It h;refine zD 11 J (gj (cF b1) call85.out J J J (cL [0,3] [4,5,6,7,8,9,10] [0,1,2,3] 11 J)) ?_;rintro _ _ ⟨_,⟨b5,b6,b7,b8,b9,c7,d6,e2,e3,e4,e5,e6,rfl,rfl⟩,rfl⟩;refine aA (cS [14,8,4,5,6,7,9,10] 15) ?_;refine aH ?_;refine zY [12,13,14,15,16] ?_;refine zO 18 J (aj (us:=[U b5 b6 b7,U b8 b9 c7]) (cs':=[U b5 b6 b7,U b8 b9 c7]) 13 J J J J size96.out J J J) ?_;rintro _ _ rfl;refine aA (cS [14,8,4,5,6,7,9,10] 15) ?_;refine aH ?_;refine zX [19,20,21] ?_;refine ac ?_;exact ⟨_,_,.inr (⟨y28_1.1.Uj,y28_1.1.Ul,y28_1.2.1,y28_1.2.2,j3,b5,b6,b7,b8,b9,c7,d6,e2,e3,e4,e5,e6,h,J,J⟩),sA,cS [0,1,13,2,3,4,5,6,7,8,10,9] 15⟩
 rintro _ _ (⟨p13,i2,i8,j0,j1,j2,A13,n13,c13,A14,n14,c14,A15,n15,c15,A16,n16,c16,h,rfl,rfl⟩|⟨d1,p21,f3,h4,h5,a1,a2,a6,a7,a8,b0,h6,h7,h8,e9,f1,f2,h,rfl,rfl⟩)
 ·refine sZ ?_;refine gH J h ?_ ?_<;>intro h
  ·exact eY
  exact ao h
 refine sZ ?_;refine cy J ?_;refine ac ?_;refine au (fun s L=> ∃h9 i0 g4 g5 g6 g7 g8 g9,gp N d1 p21 a0 h9 i0=some r/\s=[(0,pV B1 0),(4,iV 0)]/\L=[aZ a1 a2 a6 d1,aZ a7 a8 b0 p21,aC g4 g5 g6 h9,aC g7 g8 g9 i0,ab B1 99 [U a1 a2 a6,U a7 a8 b0,U g4 g5 g6,U g7 g8 g9,pV B6 0],am bj bH M7 a0.Uy.at_,ab B6 147 [.map (some M7)]]) ?_ ?_
 ·refine ie ?_ bu (bv 3 J);refine ac ?_;refine bV I ([aZ a1 a2 a6 d1,aZ a7 a8 b0 p21,ab h5 96 [U a1 a2 a6,U a7 a8 b0],bc h6 h7 h8 f3,aC e9 f1 f2 h4,aZ A2 n2 c2 a0.m_.Uj,aZ A3 n3 c3 a0.m_.Ul,aC A4 n4 c4 a0.Ur,aC A5 n5 c5 a0.Uz,am bj bH M7 a0.Uy.at_,ab B6 147 [.map (some M7)]]) (cS [0,1,2,3,4,5,6,7,8,10,11] 12) ?_;refine zY [0,1,2,3,4,5] ?_;obtain ⟨h0,h⟩:=ah h;refine Bt 3 J (l:=0) (h:=(a0.Ur.length:Int).toNat) h0.2.1 h0.2.2 ?_;rintro m3 m4 m5 l6;refine zR 6 J (KO 4 J l6 J t0 size23.out J J (by rw [Int.toNat_of_nonneg h0.1];rfl) h0.2.1 h0.2.2) ?_;refine zY [8,9] ?_;obtain ⟨i1,h⟩:=ah h;refine Bt 4 J (l:=(a0.Ur.length:Int).toNat) (h:=f3.length) i1.2.1 i1.2.2 ?_;rintro k6 k7 k8 l7;refine zR 10 J (uH 5 J l7 J t0 size23.out J (by rw [Int.toNat_of_nonneg i1.1];rfl) i1.2.1) ?_;refine zY [11] ?_;refine i4 7 12 I ?_ ?_
  ·obtain ⟨m6,k,h⟩:=aa h;refine bh J (oR (fx k)) J J J ?_;rintro _ _ ⟨_,⟨j8,j9,k0,rfl,rfl⟩,rfl⟩;refine aA (cS [1,2,3,4,5,6,7,8,9,10,11,13,14] 15) ?_;refine zD 12 J (eU (cs:=[U k6 k7 k8,U e9 f1 f2]) J (nA _ _ _ _ _ _)) ?_;rintro _ _ ⟨m7,rfl,rfl⟩;refine aA (cS [2,3,4,5,6,7,8,9,10,11,12,14,15] 16) ?_;obtain ⟨l8,e8,h⟩:=aa h;refine zD 13 J (oR (bA e8)) ?_;rintro _ _ ⟨_,⟨h1,h2,h3,rfl,rfl⟩,rfl⟩;refine aA (cS [3,4,5,6,7,8,9,10,11,12,13,15,16] 17) ?_;refine zY [14,15] ?_;refine zO 16 J (aj (us:=[U a1 a2 a6,U a7 a8 b0]) (cs':=[U a1 a2 a6,U a7 a8 b0,U A4 n4 c4,U A5 n5 c5,pV B6 0]) 14 J J J J size96.out J J J) ?_;rintro _ _ rfl;refine aA (cS [3,4,5,6,7,8,9,10,11,12,13,15,16] 17) ?_;refine aH ?_;refine zY [17,18] ?_;refine zO 19 J (aj (us:=[U j8 j9 k0]) (cs':=[U a1 a2 a6,U a7 a8 b0,U j8 j9 k0,U A5 n5 c5,pV B6 0]) 14 J J J J size30.out J J J) ?_;rintro _ _ rfl;refine aA (cS [3,4,5,6,7,8,9,10,11,12,13,15,16] 17) ?_;refine aH ?_;refine zY [20,21] ?_;refine zO 22 J (aj (us:=[U h1 h2 h3]) (cs':=[U a1 a2 a6,U a7 a8 b0,U j8 j9 k0,U h1 h2 h3,pV B6 0]) 14 J J J J size30.out J J J) ?_;rintro _ _ rfl;refine aA (cS [3,4,5,6,7,8,9,10,11,12,13,15,16] 17) ?_;refine aH ?_;refine cT I ?_;exact jY
  refine bh J (eU (cs:=[U k6 k7 k8,U e9 f1 f2]) J (nA _ _ _ _ _ _)) J J J ?_;rintro _ _ ⟨m8,rfl,rfl⟩;refine aA (cS [1,2,3,4,5,6,7,8,9,10,11,13,14] 15) ?_;obtain ⟨m9,k,h⟩:=aa h;refine zD 7 J (oR (fx k)) ?_;rintro _ _ ⟨_,⟨k1,k2,k3,rfl,rfl⟩,rfl⟩;refine aA (cS [2,3,4,5,6,7,8,9,10,11,12,14,15] 16) ?_;obtain ⟨l8,e8,h⟩:=aa h;refine zD 13 J (oR (bA e8)) ?_;rintro _ _ ⟨_,⟨h1,h2,h3,rfl,rfl⟩,rfl⟩;refine aA (cS [3,4,5,6,7,8,9,10,11,12,13,15,16] 17) ?_;refine zY [14,15] ?_;refine zO 16 J (aj (us:=[U a1 a2 a6,U a7 a8 b0]) (cs':=[U a1 a2 a6,U a7 a8 b0,U A4 n4 c4,U A5 n5 c5,pV B6 0]) 14 J J J J size96.out J J J) ?_;rintro _ _ rfl;refine aA (cS [3,4,5,6,7,8,9,10,11,12,13,15,16] 17) ?_;refine aH ?_;refine zY [17,18] ?_;refine zO 19 J (aj (us:=[U k1 k2 k3]) (cs':=[U a1 a2 a6,U a7 a8 b0,U k1 k2 k3,U A5 n5 c5,pV B6 0]) 14 J J J J size30.out J J J) ?_;rintro _ _ rfl;refine aA (cS [3,4,5,6,7,8,9,10,11,12,13,15,16] 17) ?_;refine aH ?_;refine zY [20,21] ?_;refine zO 22 J (aj (us:=[U h1 h2 h3]) (cs':=[U a1 a2 a6,U a7 a8 b0,U k1 k2 k3,U h1 h2 h3,pV B6 0]) 14 J J J J size30.out J J J) ?_;rintro _ _ rfl;refine aA (cS [3,4,5,6,7,8,9,10,11,12,13,15,16] 17) ?_;refine aH ?_;refine cT I ?_;exact jY
 rintro _ _ ⟨h9,i0,g4,g5,g6,g7,g8,g9,h,rfl,rfl⟩;refine aG ?_;refine bV I ([aZ a1 a2 a6 d1,aZ a7 a8 b0 p21,aC g4 g5 g6 h9,aC g7 g8 g9 i0,ab B1 99 [U a1 a2 a6,U a7 a8 b0,U g4 g5 g6,U g7 g8 g9,pV B6 0]]) (cS [0,1,2,3,4] 7) ?_;refine ac ?_;obtain ⟨n7,k4,h⟩:=aa h;refine mD (cS [6,5,0,1,2,3,4] 7) (cS [2,3,4,5,6] 7) ?_;refine aH ?_;refine zD 8 J (Gu 2 2 (qJ k4) call122.out J J J J (hP (xC (i:=2) J J) (hP (xC (i:=3) J J) aD)) oy) ?_;rintro _ _ ⟨_,⟨n8,rfl,rfl⟩,rfl⟩;refine aA (cS [2,3,4,5,6] 7) ?_;refine aH ?_;exact eY
def d8 (N:Nat)(a0:TI):Option (Int×TI):=
 (im N a0).bind fun y9=>some (y9.1,y9.2)
theorem yU {N:Nat}{a0:TI}{r:Int×TI}(h:d8 N a0=some r):Okc Ua 45 [pV B1 0] ([ab B1 99 [U A2 n2 c2,U A3 n3 c3,U A4 n4 c4,U A5 n5 c5,pV B6 0],aZ A2 n2 c2 a0.m_.Uj,aZ A3 n3 c3 a0.m_.Ul,aC A4 n4 c4 a0.Ur,aC A5 n5 c5 a0.Uz,ab B6 147 [.map (some M7)],am bj bH M7 a0.Uy.at_]) (fun u post=> ∃A0 n0 c0 A1 n1 c1 A2 n2 c2 A3 n3 c3 M4,u=iV r.1/\post=[ab B1 99 [U A0 n0 c0,U A1 n1 c1,U A2 n2 c2,U A3 n3 c3,pV B6 0],aZ A0 n0 c0 r.2.m_.Uj,aZ A1 n1 c1 r.2.m_.Ul,aC A2 n2 c2 r.2.Ur,aC A3 n3 c3 r.2.Uz,ab B6 147 [.map (some M4)],am bj bH M4 r.2.Uy.at_]):=by
 refine cA Tryz.func45 ?_;intro B8;refine ac ?_;refine gE (ed J) ?_;obtain ⟨y9,k,h⟩:=aa h;refine nX (iF 0 J) ?_;refine gD (oC (qz k)) ?_;rintro _ _ ⟨_,⟨A10,n10,c10,a1,a2,a6,A12,n12,c12,A13,n13,c13,a7,rfl,rfl⟩,rfl⟩;exact eY
def d7 (N:Nat)(a0:TI):Option (Int×TI):=
 (il N a0).bind fun y9=>some (y9.1,y9.2)
theorem yT {N:Nat}{a0:TI}{r:Int×TI}(h:d7 N a0=some r):Okc Ua 46 [pV B1 0] ([ab B1 99 [U A2 n2 c2,U A3 n3 c3,U A4 n4 c4,U A5 n5 c5,pV B6 0],aZ A2 n2 c2 a0.m_.Uj,aZ A3 n3 c3 a0.m_.Ul,aC A4 n4 c4 a0.Ur,aC A5 n5 c5 a0.Uz,ab B6 147 [.map (some M7)],am bj bH M7 a0.Uy.at_]) (fun u post=> ∃A0 n0 c0 A1 n1 c1 A2 n2 c2 A3 n3 c3 M4,u=iV r.1/\post=[ab B1 99 [U A0 n0 c0,U A1 n1 c1,U A2 n2 c2,U A3 n3 c3,pV B6 0],aZ A0 n0 c0 r.2.m_.Uj,aZ A1 n1 c1 r.2.m_.Ul,aC A2 n2 c2 r.2.Ur,aC A3 n3 c3 r.2.Uz,ab B6 147 [.map (some M4)],am bj bH M4 r.2.Uy.at_]):=by
 refine cA Tryz.func46 ?_;intro B8;refine ac ?_;refine gE (ed J) ?_;obtain ⟨y9,k,h⟩:=aa h;refine nX (iF 0 J) ?_;refine gD (oC (qy k)) ?_;rintro _ _ ⟨_,⟨A10,n10,c10,a1,a2,a6,A12,n12,c12,A13,n13,c13,a7,rfl,rfl⟩,rfl⟩;exact eY
def lR (N:Nat)(a0:TI):Option TN:=
 (aK N a0).bind fun y8=>bif y8 then (some []) else ((cI N a0.Ur).bind fun a1=>some a1)
theorem yR {N:Nat}{a0:TI}{r:TN}(h:lR N a0=some r):Okc Ua 40 [pV B1 0] ([ar B1 99 [U A2 n2 c2,U A3 n3 c3,U A4 n4 c4,U A5 n5 c5,pV B6 0],bf A2 n2 c2 a0.m_.Uj,bf A3 n3 c3 a0.m_.Ul,bc A4 n4 c4 a0.Ur,bc A5 n5 c5 a0.Uz,ar B6 147 [.map (some M7)],dk bj bH M7 a0.Uy.at_]) (fun u post=> ∃A0 n0 c0,u=U A0 n0 c0/\post=[aC A0 n0 c0 r]):=by
 refine cA Tryz.func40 ?_;refine sZ ?_;obtain ⟨y8,k,h⟩:=aa h;refine kD (oR (ci k)) ?_;refine gH J h ?_ ?_<;>intro h
 ·refine ac ?_;obtain rfl:=bS h;exact sr J J ((aU ap 23 _).trans (cS [0] 8)) ⟨_,_,_,J,J⟩
 refine ac ?_;obtain ⟨a1,k,h⟩:=aa h
 refine nk (oR (fx k)) fun A12 n12 c12=> ?_
 exact eN
def cQ (N:Nat)(a0:TC):Option Int:=
 (lR N a0.Uk).bind fun a1=>some (a1.length:Int)
theorem mZ {N:Nat}{a0:TC}{r:Int}(h:cQ N a0=some r):Okc Ua 12 [pV B1 0] ([ar B1 79 (iD a0 B2 B9 A12 n12 c12 A13 n13 c13 A14 n14 c14),ar B2 99 [U A3 n3 c3,U A4 n4 c4,U A5 n5 c5,U A6 n6 c6,pV B7 0],bf A3 n3 c3 a0.Uk.m_.Uj,bf A4 n4 c4 a0.Uk.m_.Ul,bc A5 n5 c5 a0.Uk.Ur,bc A6 n6 c6 a0.Uk.Uz,ar B7 147 [.map (some M8)],dk bj bH M8 a0.Uk.Uy.at_,ar B9 118 [U A10 n10 c10,.map (some M11)],om A10 n10 c10 a0.Un.Un,dk av dq M11 a0.Un.UB,gz A12 n12 c12 a0.UF,fX A13 n13 c13 a0.UH,gz A14 n14 c14 a0.UG]) (fun u post=>u=iV r/\post=[]):=by
 refine cA Tryz.func12 ?_;refine sZ ?_;refine fC (bD J Tf) ?_;refine cy J ?_;refine ac ?_;obtain ⟨a1,k,h⟩:=aa h
 refine nk (oR (yR k)) fun A16 n16 c16=> ?_
 exact eN
def fS (N:Nat)(a0:Ty):Option Bool:=
 (bif decide (a0.Ui=7) then (some true) else (some (decide (a0.Ui=9)))).bind fun b2=>some b2
theorem wl {N:Nat}{a0:Ty}{r:Bool}(h:fS N a0=some r):Okc Ua 47 [(gA a0)] ([]) (fun u post=>u=.bool r/\post=[]):=by
 refine cA Tryz.func47 ?_;intro B1;refine ac ?_;refine gS 4 10 6 h ?_;intro b2 h;exact eY
def gL (N:Nat)(a0:TI)(a1:Int):Option Bool:=
 (aK N a0).bind fun y8=>(bif !y8 then ((jq N a0.m_ a1).bind fun a2=>some a2) else (some false)).bind fun b9=>some b9
theorem mP {N:Nat}{a0:TI}{a1:Int}{r:Bool}(h:gL N a0 a1=some r):Okc Ua 89 [pV B1 0,iV a1] ([ar B1 99 [U A2 n2 c2,U A3 n3 c3,U A4 n4 c4,U A5 n5 c5,pV B6 0],bf A2 n2 c2 a0.m_.Uj,bf A3 n3 c3 a0.m_.Ul,bc A4 n4 c4 a0.Ur,bc A5 n5 c5 a0.Uz,ar B6 147 [.map (some M7)],dk bj bH M7 a0.Uy.at_]) (fun u post=>u=.bool r/\post=[]):=by
 refine cA Tryz.func89 ?_;obtain ⟨y8,k,h⟩:=aa h;refine kD (oR (ci k)) ?_;obtain ⟨b9,a2,h⟩:=aa h;refine aR 7 15 b9 ?_ ?_
 ·clear h;refine aP 8 J (fun g9=> ?_) (fun g9=> ?_)
  ·have h:=aE g9 a2;refine ac ?_;obtain ⟨a6,k,h⟩:=aa h;refine gU (oR (kO k)) (cB g9 J) ?_;exact gY
  have h:=aF g9 a2;exact gY
 exact eY
def jx (N:Nat)(a0:TI)(a1:Int):Option (Int ⊕ Int):=
 bif decide (a1.tmod 2=1) then (be (in64 (a1.tdiv 2)) ((aw a0.m_.Uj (a1.tdiv 2)).bind fun a2=>some (.inl (a1.tdiv 2)))) else (be (in64 (a1.tdiv 2)) (be (in64 ((a1.tdiv 2) - 1)) ((aw a0.m_.Ul ((a1.tdiv 2) - 1)).bind fun a6=>some (.inr ((a1.tdiv 2) - 1)))))
theorem kV {N:Nat}{a0:TI}{a1:Int}{r:(Int ⊕ Int)}(h:jx N a0 a1=some r):Okc Ua 90 [pV B1 0,iV a1] ([ar B1 99 [U A2 n2 c2,U A3 n3 c3,U A4 n4 c4,U A5 n5 c5,pV B6 0],bf A2 n2 c2 a0.m_.Uj,bf A3 n3 c3 a0.m_.Ul,bc A4 n4 c4 a0.Ur,bc A5 n5 c5 a0.Uz,ar B6 147 [.map (some M7)],dk bj bH M7 a0.Uy.at_]) (fun u post=>PG (fun (r:Int)=>u=da (U A2 n2 c2) r.toNat 6 0/\post=[]) (fun (r:Int)=>u=da (U A3 n3 c3) r.toNat 6 0/\post=[]) r):=by
 refine cA Tryz.func90 ?_;refine sZ ?_;refine fC (si J J (by decide)) ?_;refine gH J h ?_ ?_<;>intro h
 ·refine ac ?_;obtain ⟨q9,h⟩:=ah h;refine gE (yY J J (by decide) q9.1 q9.2) ?_;obtain ⟨b3,a6,a7,a8,h⟩:=bz h;exact eY
 refine ac ?_;obtain ⟨a2,h⟩:=ah h;refine gE (yY J J (by decide) a2.1 a2.2) ?_;obtain ⟨b4,h⟩:=ah h;refine ac ?_;obtain ⟨b5,b0,b1,b2,h⟩:=bz h;exact eY
def oV (N:Nat)(a0:TI)(a1:Int):Option (TB×Bool):=
 (gL N a0 a1).bind fun y9=>bif !y9 then (some ((⟨0,0,0,0,[],[]⟩:TB),false)) else ((jx N a0 a1).bind fun a2=>CF a2 (fun y13_0=>(aw a0.m_.Uj y13_0).bind fun a6=>(eG N a6).bind fun a7=>some (a7,true)) (fun y13_1=>(aw a0.m_.Ul y13_1).bind fun a8=>(eG N a8).bind fun b0=>some (b0,true)))
theorem vD {N:Nat}{a0:TI}{a1:Int}{r:TB×Bool}(h:oV N a0 a1=some r):Okc Ua 48 [pV B1 0,iV a1] ([ar B1 99 [U A2 n2 c2,U A3 n3 c3,U A4 n4 c4,U A5 n5 c5,pV B6 0],bf A2 n2 c2 a0.m_.Uj,bf A3 n3 c3 a0.m_.Ul,bc A4 n4 c4 a0.Ur,bc A5 n5 c5 a0.Uz,ar B6 147 [.map (some M7)],dk bj bH M7 a0.Uy.at_]) (fun u post=> ∃A0 n0 c0 A1 n1 c1,u=.tuple #[.agg #[iV r.1.Ui,iV r.1.Uw,iV r.1.Uv,iV r.1.Ux,U A0 n0 c0,U A1 n1 c1],.bool r.2]/\post=[aC A0 n0 c0 r.1.Uo,aC A1 n1 c1 r.1.Um]):=by
 refine cA Tryz.func48 ?_;intro B8;refine sY ?_;obtain ⟨y9,k,h⟩:=aa h;refine kD (oR (mP k)) ?_;refine gH J h ?_ ?_<;>intro h
 ·refine ac ?_;obtain rfl:=bS h;exact fR (rs:=[.cell 4 42,.tmp 5]) (vs:=[.agg #[iV 0,iV 0,iV 0,iV 0,U none 0 0,U none 0 0],.bool false]) J (.cons (bo 0 J J agg42.out) (.cons (pg J) .nil)) J ((aU ap 23 _).trans ((aU ap 23 _).trans (cS [1,0] 10))) ⟨_,_,_,_,_,_,J,J⟩
 refine ac ?_;obtain ⟨b5,a2,h⟩:=aa h;rcases b5 with y13_0|y13_1
 ·replace h:=Iu h;refine gD (oR (kV a2)) ?_;rintro _ _ ⟨_,⟨rfl,rfl⟩,rfl⟩;obtain ⟨a6,a8,b0,b1,h⟩:=bz h;refine gR (sV 2 J aM J (bR a8 b0)) ?_;refine uw 2 J b1 (gK a6) ?_;rintro _ _ ⟨A15,n15,c15,A16,n16,c16,rfl,rfl⟩;refine gR (lM (us:=[iV a6.Ui,iV a6.Uw,iV a6.Uv,iV a6.Ux,U A15 n15 c15,U A16 n16 c16]) 0 J J agg42.out J) ?_;obtain ⟨c9,k,h⟩:=aa h
  refine FN (oR (jA k)) fun d0 d1 d2 d3 d4 d6=> ?_
  exact eN
 replace h:=It h;refine gD (oR (kV a2)) ?_;rintro _ _ ⟨_,⟨rfl,rfl⟩,rfl⟩;obtain ⟨a7,b2,b3,b4,h⟩:=bz h;refine gR (sV 3 J aM J (bR b2 b3)) ?_;refine uw 3 J b4 (gK a7) ?_;rintro _ _ ⟨b6,b7,b8,b9,c7,c8,rfl,rfl⟩;refine gR (lM (us:=[iV a7.Ui,iV a7.Uw,iV a7.Uv,iV a7.Ux,U b6 b7 b8,U b9 c7 c8]) 0 J J agg42.out J) ?_;obtain ⟨e2,k,h⟩:=aa h
 refine FN (oR (jA k)) fun e3 e4 e5 e6 e7 e8=> ?_
 exact eN
def pU (N:Nat)(a1:Int)(a2:Int)(a6:Int)(a7:Int)(a8:TN)(b0:TN):Option TB:=
 some (⟨a1,a2,a6,a7,a8,b0⟩:TB)
def aI (N:Nat)(a0:TC)(a1:Ty):Option TB:=
 (fS N a1).bind fun a6=>bif !a6 then (some (⟨0,0,0,0,[],[]⟩:TB)) else ((oV N a0.Uk a1.N).bind fun a2=>pU N a2.1.Ui a2.1.Uw a2.1.Uv a2.1.Ux a2.1.Uo a2.1.Um)
theorem ce {N:Nat}{a0:TC}{a1:Ty}{r:TB}(h:aI N a0 a1=some r):Okc Ua 17 [pV B1 0,(gA a1)] ([ar B1 79 (iD a0 B2 B9 A12 n12 c12 A13 n13 c13 A14 n14 c14),ar B2 99 [U A3 n3 c3,U A4 n4 c4,U A5 n5 c5,U A6 n6 c6,pV B7 0],bf A3 n3 c3 a0.Uk.m_.Uj,bf A4 n4 c4 a0.Uk.m_.Ul,bc A5 n5 c5 a0.Uk.Ur,bc A6 n6 c6 a0.Uk.Uz,ar B7 147 [.map (some M8)],dk bj bH M8 a0.Uk.Uy.at_,ar B9 118 [U A10 n10 c10,.map (some M11)],om A10 n10 c10 a0.Un.Un,dk av dq M11 a0.Un.UB,gz A12 n12 c12 a0.UF,fX A13 n13 c13 a0.UH,gz A14 n14 c14 a0.UG]) (fun u post=> ∃A0 n0 c0 A1 n1 c1,u=.agg #[iV r.Ui,iV r.Uw,iV r.Uv,iV r.Ux,U A0 n0 c0,U A1 n1 c1]/\post=[aC A0 n0 c0 r.Uo,aC A1 n1 c1 r.Um]):=by
 refine cA Tryz.func17 ?_;intro e4
 refine jg fun d1=> ?_
 refine sZ ?_;refine fC (bD J Tf) ?_;obtain ⟨e5,k,h⟩:=aa h;refine kD (oR (wl k)) ?_;refine gH J h ?_ ?_<;>intro h
 ·refine ac ?_;obtain rfl:=bS h;exact fR (rs:=[.cell 4 42]) (vs:=[.agg #[iV 0,iV 0,iV 0,iV 0,U none 0 0,U none 0 0]]) J (.cons (bo 0 J J agg42.out) .nil) J ((aU ap 23 _).trans ((aU ap 23 _).trans (cS [1,0] 18))) ⟨_,_,_,_,_,_,J,J⟩
 refine ac ?_;refine au (fun s L=> ∃b1 b2 b3 b4 b5 b6 b7 b8 b9 c7 c8 c9 d0,pU N b1 b2 b3 b4 b5 b6=some r/\s=[(4,pV d1 0),(5,pV b7 0)]/\L=[aC b8 b9 c7 b5,aC c8 c9 d0 b6,ab b7 42 [iV b1,iV b2,iV b3,iV b4,U b8 b9 c7,U c8 c9 d0],ab d1 42 [iV 0,iV 0,iV 0,iV 0,U none 0 0,U none 0 0]]) ?_ ?_
 ·refine bV I _ (ad _) ?_;refine zY [0,1,2,3,4,5] ?_;refine i4 6 10 I ?_ ?_
  ·obtain ⟨a2,k,h⟩:=aa h;refine bh J (oR (vD k)) J J J ?_;rintro _ _ ⟨_,⟨d2,d3,d4,a7,a8,b0,rfl,rfl⟩,rfl⟩;refine aA (cS [2,3,4,5,6,7,8,9,10,11,12,13,14,15,16,17] 18) ?_;refine zY [7,8,9] ?_;refine zD 10 J (bX zero42.out J) ?_;rintro _ _ ⟨e6,rfl,rfl⟩;refine aA (cS [3,4,5,6,7,8,9,10,11,12,13,14,15,16,17,18] 19) ?_;refine zO 11 J (aj (us:=[iV a2.1.Ui,iV a2.1.Uw,iV a2.1.Uv,iV a2.1.Ux,U d2 d3 d4,U a7 a8 b0]) (cs':=[iV a2.1.Ui,iV a2.1.Uw,iV a2.1.Uv,iV a2.1.Ux,U d2 d3 d4,U a7 a8 b0]) 0 J J J J size42.out J J J) ?_;rintro _ _ rfl;refine aA (cS [3,4,5,6,7,8,9,10,11,12,13,14,15,16,17,18] 19) ?_;refine aH ?_;refine zX [12] ?_;exact jY
  refine bh J (bX zero42.out J) J J J ?_;rintro _ _ ⟨e7,rfl,rfl⟩;refine aA (cS [1,2,3,4,5,6,7,8,9,10,11,12,13,14,15,16] 17) ?_;obtain ⟨a6,k,h⟩:=aa h;refine zD 6 J (oR (vD k)) ?_;rintro _ _ ⟨_,⟨a7,a8,b0,d6,e2,e3,rfl,rfl⟩,rfl⟩;refine aA (cS [3,4,5,6,7,8,9,10,11,12,13,14,15,16,17,18] 19) ?_;refine zY [7,8,9] ?_;refine zO 11 J (aj (us:=[iV a6.1.Ui,iV a6.1.Uw,iV a6.1.Uv,iV a6.1.Ux,U a7 a8 b0,U d6 e2 e3]) (cs':=[iV a6.1.Ui,iV a6.1.Uw,iV a6.1.Uv,iV a6.1.Ux,U a7 a8 b0,U d6 e2 e3]) 2 J J J J size42.out J J J) ?_;rintro _ _ rfl;refine aA (cS [3,4,5,6,7,8,9,10,11,12,13,14,15,16,17,18] 19) ?_;refine aH ?_;refine zX [12] ?_;exact jY
 rintro _ _ ⟨b1,b2,b3,b4,b5,b6,b7,b8,b9,c7,c8,c9,d0,h,rfl,rfl⟩;exact eY
def ex (N:Nat)(a0:TI)(a1:Int):Option TI:=
 (aK N a0).bind fun y8=>(bif !y8 then (some (decide (max a1 0<(a0.Ur.length:Int)))) else (some false)).bind fun b9=>bif b9 then (be ((0:Int)<=max a1 0/\(max a1 0).toNat<=a0.Ur.length) (some (⟨a0.m_,List.take ((max a1 0).toNat) a0.Ur,a0.Uz,a0.Uy⟩:TI))) else (some a0)
theorem pp {N:Nat}{a0:TI}{a1:Int}{r:TI}(h:ex N a0 a1=some r):Okc Ua 83 [pV B1 0,iV a1] ([ab B1 99 [U A2 n2 c2,U A3 n3 c3,U A4 n4 c4,U A5 n5 c5,pV B6 0],aZ A2 n2 c2 a0.m_.Uj,aZ A3 n3 c3 a0.m_.Ul,aC A4 n4 c4 a0.Ur,aC A5 n5 c5 a0.Uz,ab B6 147 [.map (some M7)],am bj bH M7 a0.Uy.at_]) (fun u post=> ∃A0 n0 c0 A1 n1 c1 A2 n2 c2 A3 n3 c3 M4,u=.tuple #[]/\post=[ab B1 99 [U A0 n0 c0,U A1 n1 c1,U A2 n2 c2,U A3 n3 c3,pV B6 0],aZ A0 n0 c0 r.m_.Uj,aZ A1 n1 c1 r.m_.Ul,aC A2 n2 c2 r.Ur,aC A3 n3 c3 r.Uz,ab B6 147 [.map (some M4)],am bj bH M4 r.Uy.at_]):=by
 refine cA Tryz.func83 ?_;refine fC (LT J J hU hU) ?_;obtain ⟨y8,k,h⟩:=aa h;refine kD (oR (ci k)) ?_;obtain ⟨b9,a6,h⟩:=aa h;refine aR 8 17 b9 ?_ ?_
 ·clear h;refine aP 9 J (fun g9=> ?_) (fun g9=> ?_)
  ·have h:=aE g9 a6;refine ac ?_;obtain rfl:=bS h;exact cJ (dt J (ai (ai (ai (ai (ai (ai (ai (ai bu J) J) J) J) J) J) J) J)) (cS [0,1,2,3,4,5,6] 7)
  have h:=aF g9 a6;refine ac ?_;obtain rfl:=bS h;exact cJ (dt J (ai (ai (ai (ai (ai (ai (ai (ai bu J) J) J) J) J) J) J) J)) (cS [0,1,2,3,4,5,6] 7)
 refine fw h ?_ ?_<;>intro h
 ·refine ac ?_;obtain ⟨a2,h⟩:=ah h
  refine nk (Nf (k:=(max a1 0).toNat) 3 J J t0 size23.out J (by rw [Int.toNat_of_nonneg a2.1];rfl) (by rw [Int.toNat_of_nonneg a2.1];rfl) a2.2) fun A12 n12 c12=> ?_
  exact eN
 exact eY
def dT (N:Nat)(a1:Int)(a0:TC)(a2:TV)(a6:TV)(a7:TN)(a8:TN)(p21:TW):Option TC:=
 (d8 N (⟨(⟨a2,a6⟩:TM),a7,a8,(⟨p21⟩:Tw)⟩:TI)).bind fun b0=>(ex N b0.2 a1).bind fun b1=>some (⟨a0.UA,a0.Us,(),b1,a0.Un,a0.UF,a0.UO,a0.UP,a0.UQ,a0.UH,a0.UG⟩:TC)
def dS (N:Nat)(a1:Int->TV->TV->TN->TN->TW->Option TC)(b2:Int)(b3:TB)(a2:Int)(a0:TC)(a6:TV)(a7:TV)(a8:TN)(b0:TN)(b1:TW):Option TC:=
 be (in64 (a2+1)) (a1 (a2+1) a6 a7 a8 b0 b1)
def ge (N:Nat)(a1:Int->TV->TV->TN->TN->TW->Option TC)(a8:Int)(b0:TB)(b1:Int)(a0:TC)(a7:TB):Nat->Int->TV->TV->TN->TN->TW->Option TC
 |0,_,_,_,_,_,_=>none
 |b7+1,a2,b2,b3,b4,b5,b6=>be (in64 (a2+3)) (bif decide (a2+3<(a7.Um.length:Int)) then ((aw a7.Um a2).bind fun b8=>(dC N (⟨(⟨b2,b3⟩:TM),b4,b5,(⟨b6⟩:Tw)⟩:TI) b8).bind fun a6=>be (in64 (a2+4)) ((ge N a1 a8 b0 b1 a0 a7 b7) (a2+4) a6.2.m_.Uj a6.2.m_.Ul a6.2.Ur a6.2.Uz a6.2.Uy.at_)) else (dS N a1 a8 b0 b1 a0 b2 b3 b4 b5 b6))
def bL (N:Nat)(a2:Int)(a1:TB)(a0:TC):Nat->Int->TV->TV->TN->TN->TW->Option TC
 |0,_,_,_,_,_,_=>none
 |b3+1,a6,a7,a8,b0,b1,b2=>bif decide (a6<(a1.Um.length:Int)) then ((aw a1.Um a6).bind fun b5=>(aI N (⟨a0.UA,a0.Us,(),(⟨(⟨a7,a8⟩:TM),b0,b1,(⟨b2⟩:Tw)⟩:TI),a0.Un,a0.UF,a0.UO,a0.UP,a0.UQ,a0.UH,a0.UG⟩:TC) b5).bind fun b4=>bif !decide (b4.Ui=10) then (dS N (bL N a2 a1 a0 b3) a2 a1 a6 a0 a7 a8 b0 b1 b2) else (ge N (bL N a2 a1 a0 b3) a2 a1 a6 a0 b4 N 1 a7 a8 b0 b1 b2)) else (dT N a2 a0 a7 a8 b0 b1 b2)
def eI (N:Nat)(a0:TC):Option TC:=
 (cQ N a0).bind fun a1=>(bi N a0.Uk 19).bind fun a2=>(aI N a0 a2).bind fun a6=>bL N a1 a6 a0 N 0 a0.Uk.m_.Uj a0.Uk.m_.Ul a0.Uk.Ur a0.Uk.Uz a0.Uk.Uy.at_
theorem qr {N:Nat}{a0:TC}{r:TC}(h:eI N a0=some r):Okc Ua 44 [pV B1 0,.func (.func 45) #[pV B2 0] #[]] ([ab B1 79 (iD a0 B2 B9 A12 n12 c12 A13 n13 c13 A14 n14 c14),ab B2 99 [U A3 n3 c3,U A4 n4 c4,U A5 n5 c5,U A6 n6 c6,pV B7 0],aZ A3 n3 c3 a0.Uk.m_.Uj,aZ A4 n4 c4 a0.Uk.m_.Ul,aC A5 n5 c5 a0.Uk.Ur,aC A6 n6 c6 a0.Uk.Uz,ab B7 147 [.map (some M8)],am bj bH M8 a0.Uk.Uy.at_,ab B9 118 [U A10 n10 c10,.map (some M11)],gQ A10 n10 c10 a0.Un.Un,am av dq M11 a0.Un.UB,cj A12 n12 c12 a0.UF,ik A13 n13 c13 a0.UH,cj A14 n14 c14 a0.UG]) (fun u post=> ∃A0 n0 c0 A1 n1 c1 A2 n2 c2 A3 n3 c3 M4 A5 n5 c5 M6 A7 n7 c7 A8 n8 c8 A9 n9 c9,u=.tuple #[]/\post=[ab B1 79 (iD r B2 B9 A7 n7 c7 A8 n8 c8 A9 n9 c9),ab B2 99 [U A0 n0 c0,U A1 n1 c1,U A2 n2 c2,U A3 n3 c3,pV B7 0],aZ A0 n0 c0 r.Uk.m_.Uj,aZ A1 n1 c1 r.Uk.m_.Ul,aC A2 n2 c2 r.Uk.Ur,aC A3 n3 c3 r.Uk.Uz,ab B7 147 [.map (some M4)],am bj bH M4 r.Uk.Uy.at_,ab B9 118 [U A5 n5 c5,.map (some M6)],gQ A5 n5 c5 r.Un.Un,am av dq M6 r.Un.UB,cj A7 n7 c7 r.UF,ik A8 n8 c8 r.UH,cj A9 n9 c9 r.UG]):=by
 refine cA Tryz.func44 ?_;obtain ⟨a6,k,h⟩:=aa h;refine kD (oR (mZ k)) ?_;refine au (fun s L=> ∃f3 f4 g0 g1 p21 g2 g3 g4 g5 g6 g7 g8 g9 h0 h1 h2 h3 h4,dT N a6 a0 f3 f4 g0 g1 p21=some r/\s=[(0,pV B1 0),(1,.func (.func 45) #[pV B2 0] #[]),(4,iV a6)]/\L=[aZ g2 g3 g4 f3,aZ g5 g6 g7 f4,aC g8 g9 h0 g0,aC h1 h2 h3 g1,ab B2 99 [U g2 g3 g4,U g5 g6 g7,U g8 g9 h0,U h1 h2 h3,pV B7 0],cj A12 n12 c12 a0.UF,ik A13 n13 c13 a0.UH,cj A14 n14 c14 a0.UG,ab B1 79 (iD a0 B2 B9 A12 n12 c12 A13 n13 c13 A14 n14 c14),am bj bH h4 p21,ab B7 147 [.map (some h4)],gQ A10 n10 c10 a0.Un.Un,am av dq M11 a0.Un.UB,ab B9 118 [U A10 n10 c10,.map (some M11)]]) ?_ ?_
 ·refine ac ?_;obtain ⟨m6,k,h⟩:=aa h;refine gV (oR (cx k)) ?_;obtain ⟨a2,k,h⟩:=aa h;refine gD (oR (ce k)) ?_;rintro _ _ ⟨_,⟨m7,m8,m9,a7,a8,b0,rfl,rfl⟩,rfl⟩;refine fC (qc J (wV _ _ _ _ _ _ _ _ _ _)) ?_;refine aY (fun m s L=> ∃b1 b2 b3 b4 b5 b6 b7 b8 b9 d0 d1 d2 d3 d4 d6 e2 e3 e4 e5,bL N a6 a2 a0 m b1 b2 b3 b4 b5 b6=some r/\s=[(0,pV B1 0),(1,.func (.func 45) #[pV B2 0] #[]),(4,iV a6),(18,U a7 a8 b0),(19,iV (a2.Um.length:Int)),(20,iV b1)]/\L=[aC a7 a8 b0 a2.Um,aZ b7 b8 b9 b2,aZ d0 d1 d2 b3,aC d3 d4 d6 b4,aC e2 e3 e4 b5,ab B2 99 [U b7 b8 b9,U d0 d1 d2,U d3 d4 d6,U e2 e3 e4,pV B7 0],cj A12 n12 c12 a0.UF,ik A13 n13 c13 a0.UH,cj A14 n14 c14 a0.UG,ab B1 79 (iD a0 B2 B9 A12 n12 c12 A13 n13 c13 A14 n14 c14),am bj bH e5 b6,ab B7 147 [.map (some e5)],gQ A10 n10 c10 a0.Un.Un,am av dq M11 a0.Un.UB,ab B9 118 [U A10 n10 c10,.map (some M11)]]) N _ _ ⟨0,a0.Uk.m_.Uj,a0.Uk.m_.Ul,a0.Uk.Ur,a0.Uk.Uz,a0.Uk.Uy.at_,A3,n3,c3,A4,n4,c4,A5,n5,c5,A6,n6,c6,M8,h,J,J⟩ sA (cS [1,4,5,6,7,3,13,14,15,2,9,8,11,12,10] 16) ?_;rintro (_|l9) _ _ ⟨b1,b2,b3,b4,b5,b6,b7,b8,b9,d0,d1,d2,d3,d4,d6,e2,e3,e4,e5,h,rfl,rfl⟩
  ·exact ao h
  rw [bL.eq_2] at h;refine ac ?_;refine aG ?_;refine gH J h ?_ ?_<;>intro h
  ·refine ac ?_;refine au (fun s L=> ∃h5 h6 h7 h8 h9 i0 i1 i2 i8 j0 j1 j2 j3 j4 j5 j6 j7 j8,dS N (bL N a6 a2 a0 l9) a6 a2 b1 a0 h5 h6 h7 h8 h9=some r/\s=[(0,pV B1 0),(1,.func (.func 45) #[pV B2 0] #[]),(4,iV a6),(18,U a7 a8 b0),(19,iV (a2.Um.length:Int)),(20,iV b1)]/\L=[aC a7 a8 b0 a2.Um,aZ i0 i1 i2 h5,aZ i8 j0 j1 h6,aC j2 j3 j4 h7,aC j5 j6 j7 h8,ab B2 99 [U i0 i1 i2,U i8 j0 j1,U j2 j3 j4,U j5 j6 j7,pV B7 0],cj A12 n12 c12 a0.UF,ik A13 n13 c13 a0.UH,cj A14 n14 c14 a0.UG,ab B1 79 (iD a0 B2 B9 A12 n12 c12 A13 n13 c13 A14 n14 c14),am bj bH j8 h9,ab B7 147 [.map (some j8)],gQ A10 n10 c10 a0.Un.Un,am av dq M11 a0.Un.UB,ab B9 118 [U A10 n10 c10,.map (some M11)]]) ?_ ?_
   ·refine ac ?_;obtain ⟨o0,m0,m1,m2,h⟩:=bz h
    refine jg fun o1=> ?_
    obtain ⟨a1,k,h⟩:=aa h
    refine FN (oR (ce k)) fun e6 e7 e8 e9 f1 f2=> ?_
    intro j9;refine sY ?_;refine gH J h ?_ ?_<;>intro h
    ·exact jY
    refine ac ?_;refine aY (fun m s L=> ∃k0 k1 k2 k3 k4 k5 k6 k7 k8 k9 l0 l1 l2 l3 l4 l5 l6 l7 l8,ge N (bL N a6 a2 a0 l9) a6 a2 b1 a0 a1 m k0 k1 k2 k3 k4 k5=some r/\s=[(0,pV B1 0),(1,.func (.func 45) #[pV B2 0] #[]),(4,iV a6),(7,pV j9 0),(8,iV k0),(18,U a7 a8 b0),(19,iV (a2.Um.length:Int)),(20,iV b1)]/\L=[aC a7 a8 b0 a2.Um,aZ k6 k7 k8 k1,aZ k9 l0 l1 k2,aC l2 l3 l4 k3,aC l5 l6 l7 k4,ab B2 99 [U k6 k7 k8,U k9 l0 l1,U l2 l3 l4,U l5 l6 l7,pV B7 0],cj A12 n12 c12 a0.UF,ik A13 n13 c13 a0.UH,cj A14 n14 c14 a0.UG,ab B1 79 (iD a0 B2 B9 A12 n12 c12 A13 n13 c13 A14 n14 c14),aC e6 e7 e8 a1.Uo,aC e9 f1 f2 a1.Um,ab j9 42 [iV a1.Ui,iV a1.Uw,iV a1.Uv,iV a1.Ux,U e6 e7 e8,U e9 f1 f2],am bj bH l8 k5,ab B7 147 [.map (some l8)],gQ A10 n10 c10 a0.Un.Un,am av dq M11 a0.Un.UB,ab B9 118 [U A10 n10 c10,.map (some M11)]]) N _ _ ⟨1,b2,b3,b4,b5,b6,b7,b8,b9,d0,d1,d2,d3,d4,d6,e2,e3,e4,e5,h,J,J⟩ sA (cS [4,5,6,7,8,9,10,11,12,13,1,2,0,14,15,16,17,18] 19) ?_;rintro (_|o2) _ _ ⟨k0,k1,k2,k3,k4,k5,k6,k7,k8,k9,l0,l1,l2,l3,l4,l5,l6,l7,l8,h,rfl,rfl⟩
    ·exact ao h
    rw [ge.eq_2] at h;refine sZ ?_;obtain ⟨p0,h⟩:=ah h;refine fw h ?_ ?_<;>intro h
    ·refine sY ?_;refine bV I ([aC a7 a8 b0 a2.Um,cj A12 n12 c12 a0.UF,ik A13 n13 c13 a0.UH,cj A14 n14 c14 a0.UG,ab B1 79 (iD a0 B2 B9 A12 n12 c12 A13 n13 c13 A14 n14 c14),aC e6 e7 e8 a1.Uo,aC e9 f1 f2 a1.Um,ab j9 42 [iV a1.Ui,iV a1.Uw,iV a1.Uv,iV a1.Ux,U e6 e7 e8,U e9 f1 f2],gQ A10 n10 c10 a0.Un.Un,am av dq M11 a0.Un.UB,ab B9 118 [U A10 n10 c10,.map (some M11)]]) (cS [0,6,7,8,9,10,11,12,15,16,17] 18) ?_;refine ac ?_;obtain ⟨p1,m3,m4,m5,h⟩:=bz h;refine ac ?_;obtain ⟨p2,k,h⟩:=aa h;refine zD 9 J (oC (dm k)) ?_;rintro _ _ ⟨_,⟨p3,p4,p5,p6,p7,p8,q0,q1,q2,q3,q4,q5,q6,rfl,rfl⟩,rfl⟩;refine aA (cS [7,8,9,10,11,12,13,14,15,16,17] 18) ?_;refine aH ?_;refine ac ?_;obtain ⟨q7,h⟩:=ah h;exact lY
    exact jY
   rintro _ _ ⟨h5,h6,h7,h8,h9,i0,i1,i2,i8,j0,j1,j2,j3,j4,j5,j6,j7,j8,h,rfl,rfl⟩;refine ac ?_;obtain ⟨q8,h⟩:=ah h;exact lY
  exact jY
 rintro _ _ ⟨f3,f4,g0,g1,p21,g2,g3,g4,g5,g6,g7,g8,g9,h0,h1,h2,h3,h4,h,rfl,rfl⟩;refine ac ?_;obtain ⟨q9,k,h⟩:=aa h;refine gD (Gt (yU k) call45.out J J J (cL [] [4,0,1,2,3,10,9] [5,6,7,8,11,12,13] 14 J)) ?_;rintro _ _ ⟨_,⟨r0,r1,r2,r3,r4,r5,r6,s0,s1,s2,s3,s4,s5,rfl,rfl⟩,rfl⟩;refine ac ?_;obtain ⟨s6,k,h⟩:=aa h;refine gD (oC (pp k)) ?_;rintro _ _ ⟨_,⟨s7,s8,s9,t1,t2,u0,u1,u2,u3,u4,u5,u6,u7,rfl,rfl⟩,rfl⟩;exact eY
def dR (N:Nat)(a1:Int)(a0:TC)(a2:TV)(a6:TV)(a7:TN)(a8:TN)(p21:TW):Option TC:=
 (d7 N (⟨(⟨a2,a6⟩:TM),a7,a8,(⟨p21⟩:Tw)⟩:TI)).bind fun b0=>(ex N b0.2 a1).bind fun b1=>some (⟨a0.UA,a0.Us,(),b1,a0.Un,a0.UF,a0.UO,a0.UP,a0.UQ,a0.UH,a0.UG⟩:TC)
def dQ (N:Nat)(a1:Int->TV->TV->TN->TN->TW->Option TC)(b2:Int)(b3:TB)(a2:Int)(a0:TC)(a6:TV)(a7:TV)(a8:TN)(b0:TN)(b1:TW):Option TC:=
 be (in64 (a2+1)) (a1 (a2+1) a6 a7 a8 b0 b1)
def gb (N:Nat)(a1:Int->TV->TV->TN->TN->TW->Option TC)(a8:Int)(b0:TB)(b1:Int)(a0:TC)(a7:TB):Nat->Int->TV->TV->TN->TN->TW->Option TC
 |0,_,_,_,_,_,_=>none
 |b7+1,a2,b2,b3,b4,b5,b6=>be (in64 (a2+3)) (bif decide (a2+3<(a7.Um.length:Int)) then ((aw a7.Um a2).bind fun b8=>(dC N (⟨(⟨b2,b3⟩:TM),b4,b5,(⟨b6⟩:Tw)⟩:TI) b8).bind fun a6=>be (in64 (a2+4)) ((gb N a1 a8 b0 b1 a0 a7 b7) (a2+4) a6.2.m_.Uj a6.2.m_.Ul a6.2.Ur a6.2.Uz a6.2.Uy.at_)) else (dQ N a1 a8 b0 b1 a0 b2 b3 b4 b5 b6))
def bK (N:Nat)(a2:Int)(a1:TB)(a0:TC):Nat->Int->TV->TV->TN->TN->TW->Option TC
 |0,_,_,_,_,_,_=>none
 |b3+1,a6,a7,a8,b0,b1,b2=>bif decide (a6<(a1.Um.length:Int)) then ((aw a1.Um a6).bind fun b5=>(aI N (⟨a0.UA,a0.Us,(),(⟨(⟨a7,a8⟩:TM),b0,b1,(⟨b2⟩:Tw)⟩:TI),a0.Un,a0.UF,a0.UO,a0.UP,a0.UQ,a0.UH,a0.UG⟩:TC) b5).bind fun b4=>bif !decide (b4.Ui=10) then (dQ N (bK N a2 a1 a0 b3) a2 a1 a6 a0 a7 a8 b0 b1 b2) else (gb N (bK N a2 a1 a0 b3) a2 a1 a6 a0 b4 N 1 a7 a8 b0 b1 b2)) else (dR N a2 a0 a7 a8 b0 b1 b2)
def eH (N:Nat)(a0:TC):Option TC:=
 (cQ N a0).bind fun a1=>(bi N a0.Uk 19).bind fun a2=>(aI N a0 a2).bind fun a6=>bK N a1 a6 a0 N 0 a0.Uk.m_.Uj a0.Uk.m_.Ul a0.Uk.Ur a0.Uk.Uz a0.Uk.Uy.at_
theorem qq {N:Nat}{a0:TC}{r:TC}(h:eH N a0=some r):Okc Ua 44 [pV B1 0,.func (.func 46) #[pV B2 0] #[]] ([ab B1 79 (iD a0 B2 B9 A12 n12 c12 A13 n13 c13 A14 n14 c14),ab B2 99 [U A3 n3 c3,U A4 n4 c4,U A5 n5 c5,U A6 n6 c6,pV B7 0],aZ A3 n3 c3 a0.Uk.m_.Uj,aZ A4 n4 c4 a0.Uk.m_.Ul,aC A5 n5 c5 a0.Uk.Ur,aC A6 n6 c6 a0.Uk.Uz,ab B7 147 [.map (some M8)],am bj bH M8 a0.Uk.Uy.at_,ab B9 118 [U A10 n10 c10,.map (some M11)],gQ A10 n10 c10 a0.Un.Un,am av dq M11 a0.Un.UB,cj A12 n12 c12 a0.UF,ik A13 n13 c13 a0.UH,cj A14 n14 c14 a0.UG]) (fun u post=> ∃A0 n0 c0 A1 n1 c1 A2 n2 c2 A3 n3 c3 M4 A5 n5 c5 M6 A7 n7 c7 A8 n8 c8 A9 n9 c9,u=.tuple #[]/\post=[ab B1 79 (iD r B2 B9 A7 n7 c7 A8 n8 c8 A9 n9 c9),ab B2 99 [U A0 n0 c0,U A1 n1 c1,U A2 n2 c2,U A3 n3 c3,pV B7 0],aZ A0 n0 c0 r.Uk.m_.Uj,aZ A1 n1 c1 r.Uk.m_.Ul,aC A2 n2 c2 r.Uk.Ur,aC A3 n3 c3 r.Uk.Uz,ab B7 147 [.map (some M4)],am bj bH M4 r.Uk.Uy.at_,ab B9 118 [U A5 n5 c5,.map (some M6)],gQ A5 n5 c5 r.Un.Un,am av dq M6 r.Un.UB,cj A7 n7 c7 r.UF,ik A8 n8 c8 r.UH,cj A9 n9 c9 r.UG]):=by
 refine cA Tryz.func44 ?_;obtain ⟨a6,k,h⟩:=aa h;refine kD (oR (mZ k)) ?_;refine au (fun s L=> ∃f3 f4 g0 g1 p21 g2 g3 g4 g5 g6 g7 g8 g9 h0 h1 h2 h3 h4,dR N a6 a0 f3 f4 g0 g1 p21=some r/\s=[(0,pV B1 0),(1,.func (.func 46) #[pV B2 0] #[]),(4,iV a6)]/\L=[aZ g2 g3 g4 f3,aZ g5 g6 g7 f4,aC g8 g9 h0 g0,aC h1 h2 h3 g1,ab B2 99 [U g2 g3 g4,U g5 g6 g7,U g8 g9 h0,U h1 h2 h3,pV B7 0],cj A12 n12 c12 a0.UF,ik A13 n13 c13 a0.UH,cj A14 n14 c14 a0.UG,ab B1 79 (iD a0 B2 B9 A12 n12 c12 A13 n13 c13 A14 n14 c14),am bj bH h4 p21,ab B7 147 [.map (some h4)],gQ A10 n10 c10 a0.Un.Un,am av dq M11 a0.Un.UB,ab B9 118 [U A10 n10 c10,.map (some M11)]]) ?_ ?_
 ·refine ac ?_;obtain ⟨m6,k,h⟩:=aa h;refine gV (oR (cx k)) ?_;obtain ⟨a2,k,h⟩:=aa h;refine gD (oR (ce k)) ?_;rintro _ _ ⟨_,⟨m7,m8,m9,a7,a8,b0,rfl,rfl⟩,rfl⟩;refine fC (qc J (wV _ _ _ _ _ _ _ _ _ _)) ?_;refine aY (fun m s L=> ∃b1 b2 b3 b4 b5 b6 b7 b8 b9 d0 d1 d2 d3 d4 d6 e2 e3 e4 e5,bK N a6 a2 a0 m b1 b2 b3 b4 b5 b6=some r/\s=[(0,pV B1 0),(1,.func (.func 46) #[pV B2 0] #[]),(4,iV a6),(18,U a7 a8 b0),(19,iV (a2.Um.length:Int)),(20,iV b1)]/\L=[aC a7 a8 b0 a2.Um,aZ b7 b8 b9 b2,aZ d0 d1 d2 b3,aC d3 d4 d6 b4,aC e2 e3 e4 b5,ab B2 99 [U b7 b8 b9,U d0 d1 d2,U d3 d4 d6,U e2 e3 e4,pV B7 0],cj A12 n12 c12 a0.UF,ik A13 n13 c13 a0.UH,cj A14 n14 c14 a0.UG,ab B1 79 (iD a0 B2 B9 A12 n12 c12 A13 n13 c13 A14 n14 c14),am bj bH e5 b6,ab B7 147 [.map (some e5)],gQ A10 n10 c10 a0.Un.Un,am av dq M11 a0.Un.UB,ab B9 118 [U A10 n10 c10,.map (some M11)]]) N _ _ ⟨0,a0.Uk.m_.Uj,a0.Uk.m_.Ul,a0.Uk.Ur,a0.Uk.Uz,a0.Uk.Uy.at_,A3,n3,c3,A4,n4,c4,A5,n5,c5,A6,n6,c6,M8,h,J,J⟩ sA (cS [1,4,5,6,7,3,13,14,15,2,9,8,11,12,10] 16) ?_;rintro (_|l9) _ _ ⟨b1,b2,b3,b4,b5,b6,b7,b8,b9,d0,d1,d2,d3,d4,d6,e2,e3,e4,e5,h,rfl,rfl⟩
  ·exact ao h
  rw [bK.eq_2] at h;refine ac ?_;refine aG ?_;refine gH J h ?_ ?_<;>intro h
  ·refine ac ?_;refine au (fun s L=> ∃h5 h6 h7 h8 h9 i0 i1 i2 i8 j0 j1 j2 j3 j4 j5 j6 j7 j8,dQ N (bK N a6 a2 a0 l9) a6 a2 b1 a0 h5 h6 h7 h8 h9=some r/\s=[(0,pV B1 0),(1,.func (.func 46) #[pV B2 0] #[]),(4,iV a6),(18,U a7 a8 b0),(19,iV (a2.Um.length:Int)),(20,iV b1)]/\L=[aC a7 a8 b0 a2.Um,aZ i0 i1 i2 h5,aZ i8 j0 j1 h6,aC j2 j3 j4 h7,aC j5 j6 j7 h8,ab B2 99 [U i0 i1 i2,U i8 j0 j1,U j2 j3 j4,U j5 j6 j7,pV B7 0],cj A12 n12 c12 a0.UF,ik A13 n13 c13 a0.UH,cj A14 n14 c14 a0.UG,ab B1 79 (iD a0 B2 B9 A12 n12 c12 A13 n13 c13 A14 n14 c14),am bj bH j8 h9,ab B7 147 [.map (some j8)],gQ A10 n10 c10 a0.Un.Un,am av dq M11 a0.Un.UB,ab B9 118 [U A10 n10 c10,.map (some M11)]]) ?_ ?_
   ·refine ac ?_;obtain ⟨o0,m0,m1,m2,h⟩:=bz h
    refine jg fun o1=> ?_
    obtain ⟨a1,k,h⟩:=aa h
    refine FN (oR (ce k)) fun e6 e7 e8 e9 f1 f2=> ?_
    intro j9;refine sY ?_;refine gH J h ?_ ?_<;>intro h
    ·exact jY
    refine ac ?_;refine aY (fun m s L=> ∃k0 k1 k2 k3 k4 k5 k6 k7 k8 k9 l0 l1 l2 l3 l4 l5 l6 l7 l8,gb N (bK N a6 a2 a0 l9) a6 a2 b1 a0 a1 m k0 k1 k2 k3 k4 k5=some r/\s=[(0,pV B1 0),(1,.func (.func 46) #[pV B2 0] #[]),(4,iV a6),(7,pV j9 0),(8,iV k0),(18,U a7 a8 b0),(19,iV (a2.Um.length:Int)),(20,iV b1)]/\L=[aC a7 a8 b0 a2.Um,aZ k6 k7 k8 k1,aZ k9 l0 l1 k2,aC l2 l3 l4 k3,aC l5 l6 l7 k4,ab B2 99 [U k6 k7 k8,U k9 l0 l1,U l2 l3 l4,U l5 l6 l7,pV B7 0],cj A12 n12 c12 a0.UF,ik A13 n13 c13 a0.UH,cj A14 n14 c14 a0.UG,ab B1 79 (iD a0 B2 B9 A12 n12 c12 A13 n13 c13 A14 n14 c14),aC e6 e7 e8 a1.Uo,aC e9 f1 f2 a1.Um,ab j9 42 [iV a1.Ui,iV a1.Uw,iV a1.Uv,iV a1.Ux,U e6 e7 e8,U e9 f1 f2],am bj bH l8 k5,ab B7 147 [.map (some l8)],gQ A10 n10 c10 a0.Un.Un,am av dq M11 a0.Un.UB,ab B9 118 [U A10 n10 c10,.map (some M11)]]) N _ _ ⟨1,b2,b3,b4,b5,b6,b7,b8,b9,d0,d1,d2,d3,d4,d6,e2,e3,e4,e5,h,J,J⟩ sA (cS [4,5,6,7,8,9,10,11,12,13,1,2,0,14,15,16,17,18] 19) ?_;rintro (_|o2) _ _ ⟨k0,k1,k2,k3,k4,k5,k6,k7,k8,k9,l0,l1,l2,l3,l4,l5,l6,l7,l8,h,rfl,rfl⟩
    ·exact ao h
    rw [gb.eq_2] at h;refine sZ ?_;obtain ⟨p0,h⟩:=ah h;refine fw h ?_ ?_<;>intro h
    ·refine sY ?_;refine bV I ([aC a7 a8 b0 a2.Um,cj A12 n12 c12 a0.UF,ik A13 n13 c13 a0.UH,cj A14 n14 c14 a0.UG,ab B1 79 (iD a0 B2 B9 A12 n12 c12 A13 n13 c13 A14 n14 c14),aC e6 e7 e8 a1.Uo,aC e9 f1 f2 a1.Um,ab j9 42 [iV a1.Ui,iV a1.Uw,iV a1.Uv,iV a1.Ux,U e6 e7 e8,U e9 f1 f2],gQ A10 n10 c10 a0.Un.Un,am av dq M11 a0.Un.UB,ab B9 118 [U A10 n10 c10,.map (some M11)]]) (cS [0,6,7,8,9,10,11,12,15,16,17] 18) ?_;refine ac ?_;obtain ⟨p1,m3,m4,m5,h⟩:=bz h;refine ac ?_;obtain ⟨p2,k,h⟩:=aa h;refine zD 9 J (oC (dm k)) ?_;rintro _ _ ⟨_,⟨p3,p4,p5,p6,p7,p8,q0,q1,q2,q3,q4,q5,q6,rfl,rfl⟩,rfl⟩;refine aA (cS [7,8,9,10,11,12,13,14,15,16,17] 18) ?_;refine aH ?_;refine ac ?_;obtain ⟨q7,h⟩:=ah h;exact lY
    exact jY
   rintro _ _ ⟨h5,h6,h7,h8,h9,i0,i1,i2,i8,j0,j1,j2,j3,j4,j5,j6,j7,j8,h,rfl,rfl⟩;refine ac ?_;obtain ⟨q8,h⟩:=ah h;exact lY
  exact jY
 rintro _ _ ⟨f3,f4,g0,g1,p21,g2,g3,g4,g5,g6,g7,g8,g9,h0,h1,h2,h3,h4,h,rfl,rfl⟩;refine ac ?_;obtain ⟨q9,k,h⟩:=aa h;refine gD (Gt (yT k) call46.out J J J (cL [] [4,0,1,2,3,10,9] [5,6,7,8,11,12,13] 14 J)) ?_;rintro _ _ ⟨_,⟨r0,r1,r2,r3,r4,r5,r6,s0,s1,s2,s3,s4,s5,rfl,rfl⟩,rfl⟩;refine ac ?_;obtain ⟨s6,k,h⟩:=aa h;refine gD (oC (pp k)) ?_;rintro _ _ ⟨_,⟨s7,s8,s9,t1,t2,u0,u1,u2,u3,u4,u5,u6,u7,rfl,rfl⟩,rfl⟩;exact eY
def ji (N:Nat)(a1:Int)(a2:Int)(p21:Int)(a6:Int)(a7:Int)(a8:Int)(b0:Int)(b1:Int)(b2:Int)(b3:Int)(b4:TX)(b5:Int)(b6:Int)(b7:Int)(b8:TZ)(b9:TX)(c0:TV)(c7:TV)(c8:TN)(c9:TN)(d0:List TA)(d1:(List (TH×Int)))(d2:TW):Option (Bool×TC):=
 some (true,(⟨(⟨a1,a2,p21⟩:TL),(⟨a6,a7,a8,b0,b1,b2,b3⟩:Tx),(),(⟨(⟨c0,c7⟩:TM),c8,c9,(⟨d2⟩:Tw)⟩:TI),(⟨d0,d1⟩:Tt),b4,b5,b6,b7,b8,b9⟩:TC))
def fH (N:Nat)(a0:TC):Option (Bool×TC):=
 bif decide (a0.Us.Uu<=a0.UA.UV) then (some (false,a0)) else (be (in64 (a0.UA.UV+1)) ((fD N a0.Us.UC (⟨(⟨a0.UA.UV+1,a0.UA.UT,a0.UA.UU⟩:TL),a0.Us,(),a0.Uk,a0.Un,a0.UF,a0.UO,a0.UP,a0.UQ,a0.UH,a0.UG⟩:TC)).bind fun a6=>bif a6 then ((eI N (⟨(⟨a0.UA.UV+1,a0.UA.UT,a0.UA.UU⟩:TL),a0.Us,(),a0.Uk,a0.Un,a0.UF,a0.UO,a0.UP,a0.UQ,a0.UH,a0.UG⟩:TC)).bind fun a1=>ji N a1.UA.UV a1.UA.UT a1.UA.UU a1.Us.UD a1.Us.Uu a1.Us.Uq a1.Us.Ut a1.Us.Uj a1.Us.UC a1.Us.UE a1.UF a1.UO a1.UP a1.UQ a1.UH a1.UG a1.Uk.m_.Uj a1.Uk.m_.Ul a1.Uk.Ur a1.Uk.Uz a1.Un.Un a1.Un.UB a1.Uk.Uy.at_) else ((fD N a0.Us.Uj (⟨(⟨a0.UA.UV+1,a0.UA.UT,a0.UA.UU⟩:TL),a0.Us,(),a0.Uk,a0.Un,a0.UF,a0.UO,a0.UP,a0.UQ,a0.UH,a0.UG⟩:TC)).bind fun a7=>bif a7 then ((eH N (⟨(⟨a0.UA.UV+1,a0.UA.UT,a0.UA.UU⟩:TL),a0.Us,(),a0.Uk,a0.Un,a0.UF,a0.UO,a0.UP,a0.UQ,a0.UH,a0.UG⟩:TC)).bind fun a2=>ji N a2.UA.UV a2.UA.UT a2.UA.UU a2.Us.UD a2.Us.Uu a2.Us.Uq a2.Us.Ut a2.Us.Uj a2.Us.UC a2.Us.UE a2.UF a2.UO a2.UP a2.UQ a2.UH a2.UG a2.Uk.m_.Uj a2.Uk.m_.Ul a2.Uk.Ur a2.Uk.Uz a2.Un.Un a2.Un.UB a2.Uk.Uy.at_) else (ji N (a0.UA.UV+1) a0.UA.UT a0.UA.UU a0.Us.UD a0.Us.Uu a0.Us.Uq a0.Us.Ut a0.Us.Uj a0.Us.UC a0.Us.UE a0.UF a0.UO a0.UP a0.UQ a0.UH a0.UG a0.Uk.m_.Uj a0.Uk.m_.Ul a0.Uk.Ur a0.Uk.Uz a0.Un.Un a0.Un.UB a0.Uk.Uy.at_))))
theorem mY {N:Nat}{a0:TC}{r:Bool×TC}(h:fH N a0=some r):Okc Ua 16 [pV B1 0] ([ab B1 79 (iD a0 B2 B9 A12 n12 c12 A13 n13 c13 A14 n14 c14),ab B2 99 [U A3 n3 c3,U A4 n4 c4,U A5 n5 c5,U A6 n6 c6,pV B7 0],aZ A3 n3 c3 a0.Uk.m_.Uj,aZ A4 n4 c4 a0.Uk.m_.Ul,aC A5 n5 c5 a0.Uk.Ur,aC A6 n6 c6 a0.Uk.Uz,ab B7 147 [.map (some M8)],am bj bH M8 a0.Uk.Uy.at_,ab B9 118 [U A10 n10 c10,.map (some M11)],gQ A10 n10 c10 a0.Un.Un,am av dq M11 a0.Un.UB,cj A12 n12 c12 a0.UF,ik A13 n13 c13 a0.UH,cj A14 n14 c14 a0.UG]) (fun u post=> ∃A0 n0 c0 A1 n1 c1 A2 n2 c2 A3 n3 c3 M4 A5 n5 c5 M6 A7 n7 c7 A8 n8 c8 A9 n9 c9,u=.bool r.1/\post=[ab B1 79 (iD r.2 B2 B9 A7 n7 c7 A8 n8 c8 A9 n9 c9),ab B2 99 [U A0 n0 c0,U A1 n1 c1,U A2 n2 c2,U A3 n3 c3,pV B7 0],aZ A0 n0 c0 r.2.Uk.m_.Uj,aZ A1 n1 c1 r.2.Uk.m_.Ul,aC A2 n2 c2 r.2.Uk.Ur,aC A3 n3 c3 r.2.Uk.Uz,ab B7 147 [.map (some M4)],am bj bH M4 r.2.Uk.Uy.at_,ab B9 118 [U A5 n5 c5,.map (some M6)],gQ A5 n5 c5 r.2.Un.Un,am av dq M6 r.2.Un.UB,cj A7 n7 c7 r.2.UF,ik A8 n8 c8 r.2.UH,cj A9 n9 c9 r.2.UG]):=by
 refine cA Tryz.func16 ?_;intro a1;refine ac ?_;refine aG ?_;refine dY [] ?_;refine ac ?_;refine zE 1 J (bD J Tf) ?_;refine fw h ?_ ?_<;>intro h
 ·exact eY
 refine ac ?_;obtain ⟨h6,h⟩:=ah h;refine ac ?_;refine fC (ed J) ?_;refine au (fun s L=> ∃a2 a6 p21 a7 a8 b0 b1 b2 b3 b4 b5 b6 b7 b8 b9 d0 d1 d2 d3 d4 d6 e2 e3 e4 e5 e6 e7 e8 e9 f1 f2 f3 f4 g0 g1 g2 g3 g4 g5 g6 g7 g8 g9 h0 h1 h2 h3 h4 h5,ji N a2 a6 p21 a7 a8 b0 b1 b2 b3 b4 b5 b6 b7 b8 b9 d0 d1 d2 d3 d4 d6 e2 e3=some r/\s=[(2,.bool false)]/\L=[cj e4 e5 e6 b5,ik e7 e8 e9 b9,cj f1 f2 f3 d0,ab B1 79 [iV a2,iV a6,iV p21,iV a7,iV a8,iV b0,iV b1,iV b2,iV b3,iV b4,.nilIface,pV B2 0,pV B9 0,U e4 e5 e6,iV b6,iV b7,iV b8,U e7 e8 e9,U f1 f2 f3],aZ f4 g0 g1 d1,aZ g2 g3 g4 d2,aC g5 g6 g7 d3,aC g8 g9 h0 d4,ab B2 99 [U f4 g0 g1,U g2 g3 g4,U g5 g6 g7,U g8 g9 h0,pV B7 0],gQ h1 h2 h3 d6,am av dq h4 e2,ab B9 118 [U h1 h2 h3,.map (some h4)],am bj bH h5 e3,ab B7 147 [.map (some h5)]]) ?_ ?_
 ·refine ac ?_;obtain ⟨h7,k,h⟩:=aa h;refine kD (mN (oA k) call43.out J J J (hP (cZ (i:=0) J) (hP (cZ (i:=1) J) (hP (cZ (i:=2) J) (hP (ba (i:=3) J) (hP (ba (i:=4) J) (hP (ba (i:=5) J) (hP (ba (i:=6) J) (hP (cZ (i:=7) J) (hP (lh (i:=8) J) (hP (cZ (i:=9) J) (hP (ba (i:=10) J) (hP (lh (i:=11) J) (hP (ba (i:=12) J) (hP (ba (i:=13) J) (hP (ba (i:=14) J) aD))))))))))))))) nn) ?_;refine gH J h ?_ ?_<;>intro h
  ·refine ie (t:=[(1,pV a1 0),(2,.bool false)]) ?_ lW (ad _)
   refine iW I 6 [] [0,5] [37,38,39,40,41,42] [[],[],[1],[2],[3],[4]] [aV (pV B1 0),
aV (pV B1 0),
aV (pV B1 0),
aV (pV B1 11),
aV (pV B2 0),
aV (.func (.func 45) #[pV B2 0] #[])] [] (ad _) (lB) I rfl rfl ?_ ?_ ?_
   ·exact lA
   ·refine ae J ?_ ?_
    ·exact bU (rh (caps:=[]) J J) J (aQ J (ad _))
    refine ae J ?_ ?_
    ·exact dy (bp 1 J J wG J) J (aQ J (ad _))
    refine ae J ?_ ?_
    ·exact bU (dj J FS) J (aQ J (ad _))
    refine ae J ?_ ?_
    ·exact bU (bE J) J (aQ J (ad _))
    refine ae J ?_ ?_
    ·exact dy (bp 0 J J Gv J) J (aQ J (ad _))
    refine ae J ?_ ?_
    ·exact dy (bp 0 J J Gv J) J (aQ J (ad _))
    exact ee
   refine nD (t:=[(37,pV B1 0),(42,.func (.func 45) #[pV B2 0] #[]),(1,pV a1 0),(2,.bool false)]) (L':=[ab a1 24 [pV B1 0],ab B1 79 [iV (a0.UA.UV+1),iV a0.UA.UT,iV a0.UA.UU,iV a0.Us.UD,iV a0.Us.Uu,iV a0.Us.Uq,iV a0.Us.Ut,iV a0.Us.Uj,iV a0.Us.UC,iV a0.Us.UE,.nilIface,pV B2 0,pV B9 0,U A12 n12 c12,iV a0.UO,iV a0.UP,iV a0.UQ,U A13 n13 c13,U A14 n14 c14],ab B2 99 [U A3 n3 c3,U A4 n4 c4,U A5 n5 c5,U A6 n6 c6,pV B7 0],aZ A3 n3 c3 a0.Uk.m_.Uj,aZ A4 n4 c4 a0.Uk.m_.Ul,aC A5 n5 c5 a0.Uk.Ur,aC A6 n6 c6 a0.Uk.Uz,ab B7 147 [.map (some M8)],am bj bH M8 a0.Uk.Uy.at_,ab B9 118 [U A10 n10 c10,.map (some M11)],gQ A10 n10 c10 a0.Un.Un,am av dq M11 a0.Un.UB,cj A12 n12 c12 a0.UF,ik A13 n13 c13 a0.UH,cj A14 n14 c14 a0.UG]) ?_ lW (ad _);obtain ⟨h8,k,h⟩:=aa h;refine pa 6 J I (oC (qr k)) J J J ?_;rintro _ _ ⟨_,⟨h9,i0,i1,i2,i8,j0,j1,j2,j3,j4,j5,j6,j7,j8,j9,k0,k1,k2,k3,k4,k5,k6,k7,k8,k9,l0,rfl,rfl⟩,rfl⟩;refine lD I ?_;exact jY
  refine ac ?_;obtain ⟨l1,k,h⟩:=aa h;refine kD (mN (oA k) call43.out J J J (hP (cZ (i:=0) J) (hP (cZ (i:=1) J) (hP (cZ (i:=2) J) (hP (ba (i:=3) J) (hP (ba (i:=4) J) (hP (ba (i:=5) J) (hP (ba (i:=6) J) (hP (cZ (i:=7) J) (hP (lh (i:=8) J) (hP (cZ (i:=9) J) (hP (ba (i:=10) J) (hP (lh (i:=11) J) (hP (ba (i:=12) J) (hP (ba (i:=13) J) (hP (ba (i:=14) J) aD))))))))))))))) nn) ?_;refine gH J h ?_ ?_<;>intro h
  ·refine ie (t:=[(1,pV a1 0),(2,.bool false)]) ?_ lW (ad _)
   refine iW I 6 [] [0,5] [52,53,54,55,56,57] [[],[],[1],[2],[3],[4]] [aV (pV B1 0),
aV (pV B1 0),
aV (pV B1 0),
aV (pV B1 11),
aV (pV B2 0),
aV (.func (.func 46) #[pV B2 0] #[])] [] (ad _) (lB) I rfl rfl ?_ ?_ ?_
   ·exact lA
   ·refine ae J ?_ ?_
    ·exact bU (rh (caps:=[]) J J) J (aQ J (ad _))
    refine ae J ?_ ?_
    ·exact dy (bp 1 J J wG J) J (aQ J (ad _))
    refine ae J ?_ ?_
    ·exact bU (dj J FS) J (aQ J (ad _))
    refine ae J ?_ ?_
    ·exact bU (bE J) J (aQ J (ad _))
    refine ae J ?_ ?_
    ·exact dy (bp 0 J J Gv J) J (aQ J (ad _))
    refine ae J ?_ ?_
    ·exact dy (bp 0 J J Gv J) J (aQ J (ad _))
    exact ee
   refine nD (t:=[(52,pV B1 0),(57,.func (.func 46) #[pV B2 0] #[]),(1,pV a1 0),(2,.bool false)]) (L':=[ab a1 24 [pV B1 0],ab B1 79 [iV (a0.UA.UV+1),iV a0.UA.UT,iV a0.UA.UU,iV a0.Us.UD,iV a0.Us.Uu,iV a0.Us.Uq,iV a0.Us.Ut,iV a0.Us.Uj,iV a0.Us.UC,iV a0.Us.UE,.nilIface,pV B2 0,pV B9 0,U A12 n12 c12,iV a0.UO,iV a0.UP,iV a0.UQ,U A13 n13 c13,U A14 n14 c14],ab B2 99 [U A3 n3 c3,U A4 n4 c4,U A5 n5 c5,U A6 n6 c6,pV B7 0],aZ A3 n3 c3 a0.Uk.m_.Uj,aZ A4 n4 c4 a0.Uk.m_.Ul,aC A5 n5 c5 a0.Uk.Ur,aC A6 n6 c6 a0.Uk.Uz,ab B7 147 [.map (some M8)],am bj bH M8 a0.Uk.Uy.at_,ab B9 118 [U A10 n10 c10,.map (some M11)],gQ A10 n10 c10 a0.Un.Un,am av dq M11 a0.Un.UB,cj A12 n12 c12 a0.UF,ik A13 n13 c13 a0.UH,cj A14 n14 c14 a0.UG]) ?_ lW (ad _);obtain ⟨l2,k,h⟩:=aa h;refine pa 6 J I (oC (qq k)) J J J ?_;rintro _ _ ⟨_,⟨l3,l4,l5,l6,l7,l8,l9,m0,m1,m2,m3,m4,m5,m6,m7,m8,m9,o0,o1,o2,p0,p1,p2,p3,p4,p5,rfl,rfl⟩,rfl⟩;refine BE ?_;refine lD I ?_;exact jY
  exact jY
 rintro _ _ ⟨a2,a6,p21,a7,a8,b0,b1,b2,b3,b4,b5,b6,b7,b8,b9,d0,d1,d2,d3,d4,d6,e2,e3,e4,e5,e6,e7,e8,e9,f1,f2,f3,f4,g0,g1,g2,g3,g4,g5,g6,g7,g8,g9,h0,h1,h2,h3,h4,h5,h,rfl,rfl⟩;exact eY
def gP (N:Nat)(a0:Int):Option ByteArray:=
 (bif decide (a0<0) then (some true) else (some (decide (4<=a0)))).bind fun b2=>bif b2 then (some (⟨#[]⟩:ByteArray)) else ((aw ([(⟨#[69,114,114,111,114]⟩:ByteArray),(⟨#[84,121,112,101,69,114,114,111,114]⟩:ByteArray),(⟨#[82,101,102,101,114,101,110,99,101,69,114,114,111,114]⟩:ByteArray),(⟨#[82,97,110,103,101,69,114,114,111,114]⟩:ByteArray)]:List ByteArray) a0).bind fun x4=>some x4)
theorem Bn {N:Nat}{a0:Int}{r:ByteArray}(h:gP N a0=some r):Okc Ua 77 [iV a0] ([]) (fun u post=>u=.string r/\post=[]):=by
 refine cA Tryz.func77 ?_;intro B1;refine sY ?_;refine gS 3 10 7 h ?_;intro b2 h;refine fw h ?_ ?_<;>intro h
 ·exact eY
 refine ac ?_;obtain ⟨x4,a1,a2,a6,h⟩:=bz h;refine gE (LU (n:=4) J J Tryz.underlying156 size9.out a1 a2) ?_;refine EL (IB Value.string ([(⟨#[69,114,114,111,114]⟩:ByteArray),(⟨#[84,121,112,101,69,114,114,111,114]⟩:ByteArray),(⟨#[82,101,102,101,114,101,110,99,101,69,114,114,111,114]⟩:ByteArray),(⟨#[82,97,110,103,101,69,114,114,111,114]⟩:ByteArray)]:List ByteArray) 0 J J Ng a6) ?_;exact eN
def iw (N:Nat)(a0:Int):Option ByteArray:=
 (bif decide (a0<0) then (some true) else (some (decide (22<=a0)))).bind fun b2=>bif b2 then (some (⟨#[]⟩:ByteArray)) else ((aw ([(⟨#[]⟩:ByteArray),(⟨#[110,111,116,32,99,97,108,108,97,98,108,101]⟩:ByteArray),(⟨#[110,111,116,32,97,32,99,111,110,115,116,114,117,99,116,111,114]⟩:ByteArray),(⟨#[110,111,116,32,97,110,32,111,98,106,101,99,116]⟩:ByteArray),(⟨#[110,111,32,112,114,111,112,101,114,116,105,101,115]⟩:ByteArray),(⟨#[110,111,116,32,105,116,101,114,97,98,108,101]⟩:ByteArray),(⟨#[110,111,116,32,100,101,102,105,110,101,100]⟩:ByteArray),(⟨#[116,111,111,32,101,97,114,108,121]⟩:ByteArray),(⟨#[99,111,110,115,116,97,110,116]⟩:ByteArray),(⟨#[114,101,97,100,32,111,110,108,121]⟩:ByteArray),(⟨#[110,111,116,32,101,120,116,101,110,115,105,98,108,101]⟩:ByteArray),(⟨#[110,111,116,32,99,111,110,102,105,103,117,114,97,98,108,101]⟩:ByteArray),(⟨#[115,121,109,98,111,108]⟩:ByteArray),(⟨#[110,111,32,112,114,105,109,105,116,105,118,101]⟩:ByteArray),(⟨#[116,111,111,32,108,111,110,103]⟩:ByteArray),(⟨#[116,111,111,32,100,101,101,112]⟩:ByteArray),(⟨#[110,111,32,108,101,110,103,116,104]⟩:ByteArray),(⟨#[114,117,110,110,105,110,103]⟩:ByteArray),(⟨#[114,105,110,103]⟩:ByteArray),(⟨#[110,111,32,116,104,114,111,119]⟩:ByteArray),(⟨#[110,111,32,100,101,115,99,114,105,112,116,105,111,110]⟩:ByteArray),(⟨#[110,111,32,107,101,121]⟩:ByteArray)]:List ByteArray) a0).bind fun x4=>some x4)
theorem xa {N:Nat}{a0:Int}{r:ByteArray}(h:iw N a0=some r):Okc Ua 78 [iV a0] ([]) (fun u post=>u=.string r/\post=[]):=by
 refine cA Tryz.func78 ?_;intro B1;refine sY ?_;refine gS 3 10 7 h ?_;intro b2 h;refine fw h ?_ ?_<;>intro h
 ·exact eY
 refine ac ?_;obtain ⟨x4,a1,a2,a6,h⟩:=bz h;refine gE (LU (n:=22) J J Tryz.underlying157 size9.out a1 a2) ?_;refine EL (IB Value.string ([(⟨#[]⟩:ByteArray),(⟨#[110,111,116,32,99,97,108,108,97,98,108,101]⟩:ByteArray),(⟨#[110,111,116,32,97,32,99,111,110,115,116,114,117,99,116,111,114]⟩:ByteArray),(⟨#[110,111,116,32,97,110,32,111,98,106,101,99,116]⟩:ByteArray),(⟨#[110,111,32,112,114,111,112,101,114,116,105,101,115]⟩:ByteArray),(⟨#[110,111,116,32,105,116,101,114,97,98,108,101]⟩:ByteArray),(⟨#[110,111,116,32,100,101,102,105,110,101,100]⟩:ByteArray),(⟨#[116,111,111,32,101,97,114,108,121]⟩:ByteArray),(⟨#[99,111,110,115,116,97,110,116]⟩:ByteArray),(⟨#[114,101,97,100,32,111,110,108,121]⟩:ByteArray),(⟨#[110,111,116,32,101,120,116,101,110,115,105,98,108,101]⟩:ByteArray),(⟨#[110,111,116,32,99,111,110,102,105,103,117,114,97,98,108,101]⟩:ByteArray),(⟨#[115,121,109,98,111,108]⟩:ByteArray),(⟨#[110,111,32,112,114,105,109,105,116,105,118,101]⟩:ByteArray),(⟨#[116,111,111,32,108,111,110,103]⟩:ByteArray),(⟨#[116,111,111,32,100,101,101,112]⟩:ByteArray),(⟨#[110,111,32,108,101,110,103,116,104]⟩:ByteArray),(⟨#[114,117,110,110,105,110,103]⟩:ByteArray),(⟨#[114,105,110,103]⟩:ByteArray),(⟨#[110,111,32,116,104,114,111,119]⟩:ByteArray),(⟨#[110,111,32,100,101,115,99,114,105,112,116,105,111,110]⟩:ByteArray),(⟨#[110,111,32,107,101,121]⟩:ByteArray)]:List ByteArray) 0 J J Ng a6) ?_;exact eN
def dU (N:Nat)(a0:TC)(a1:TG):Option TC:=
 be (bJ (a0.UH.length+([a1]:List TG).length)) (some (⟨a0.UA,a0.Us,(),a0.Uk,a0.Un,a0.UF,a0.UO,a0.UP,a0.UQ,a0.UH++([a1]:List TG),a0.UG⟩:TC))
theorem nR {N:Nat}{a0:TC}{a1:TG}{r:TC}(h:dU N a0 a1=some r):Okc Ua 79 [pV B1 0,(uY a1)] ([ab B1 79 (iD a0 B2 B9 A12 n12 c12 A13 n13 c13 A14 n14 c14),ab B2 99 [U A3 n3 c3,U A4 n4 c4,U A5 n5 c5,U A6 n6 c6,pV B7 0],aZ A3 n3 c3 a0.Uk.m_.Uj,aZ A4 n4 c4 a0.Uk.m_.Ul,aC A5 n5 c5 a0.Uk.Ur,aC A6 n6 c6 a0.Uk.Uz,ab B7 147 [.map (some M8)],am bj bH M8 a0.Uk.Uy.at_,ab B9 118 [U A10 n10 c10,.map (some M11)],gQ A10 n10 c10 a0.Un.Un,am av dq M11 a0.Un.UB,cj A12 n12 c12 a0.UF,ik A13 n13 c13 a0.UH,cj A14 n14 c14 a0.UG]) (fun u post=> ∃A0 n0 c0 A1 n1 c1 A2 n2 c2 A3 n3 c3 M4 A5 n5 c5 M6 A7 n7 c7 A8 n8 c8 A9 n9 c9,u=.tuple #[]/\post=[ab B1 79 (iD r B2 B9 A7 n7 c7 A8 n8 c8 A9 n9 c9),ab B2 99 [U A0 n0 c0,U A1 n1 c1,U A2 n2 c2,U A3 n3 c3,pV B7 0],aZ A0 n0 c0 r.Uk.m_.Uj,aZ A1 n1 c1 r.Uk.m_.Ul,aC A2 n2 c2 r.Uk.Ur,aC A3 n3 c3 r.Uk.Uz,ab B7 147 [.map (some M4)],am bj bH M4 r.Uk.Uy.at_,ab B9 118 [U A5 n5 c5,.map (some M6)],gQ A5 n5 c5 r.Un.Un,am av dq M6 r.Un.UB,cj A7 n7 c7 r.UF,ik A8 n8 c8 r.UH,cj A9 n9 c9 r.UG]):=by
 refine cA Tryz.func79 ?_;intro a8;refine ac ?_;refine fC (kr J Tf) ?_;refine cK J ?_;refine ie (t:=[(0,pV B1 0),(3,pV a8 0)]) ?_ lW (ad _)
 refine iW I 7 [0] [0,4,6] [6,7,8,9,10,11,12] [[],[],[1],[2],[3],[],[5]] [aV (pV B1 0),
 aV (pV B1 0),
 aV (pV B1 0),
 aV (pV B1 17),
 aV (U A13 n13 c13),
 aV ((uY a1)),
 aX3 (fun (a2:Option Addr) (a6 a7:Nat)=> U a2 a6 a7) (fun a2 a6 a7=> [ik a2 a6 a7 ([a1]:List TG)])] [] (ad _) (uM rfl lB) I rfl rfl ?_ ?_ ?_
 ·refine uL J ?_ ?_
  ·exact DX (aX J) J (aQ J (ad _))
  exact lA
 ·refine ae J ?_ ?_
  ·refine uv (az (R:=mI) (vss:=[(xD a1)]) (xs:=[a1]) J (Ay _ _ _ _ _) J J (fun _ _ hr=> .cons J All2.nil)) J ?_;rintro _ _ ⟨A16,n16,c16,rfl,rfl⟩;exact vc A16 n16 c16 (ad _)
  refine ae J ?_ ?_
  ·exact dy (cm (us:=xD a1) 0 J J agg84.out J) J (aQ J (ad _))
  refine ae J ?_ ?_
  ·exact dy (bp 1 J J K5 J) J (aQ J (ad _))
  refine ae J ?_ ?_
  ·exact bU (dj J FR) J (aQ J (ad _))
  refine ae J ?_ ?_
  ·exact bU (bE J) J (aQ J (ad _))
  refine ae J ?_ ?_
  ·exact bU (aX J) J (aQ J (ad _))
  refine ae J ?_ ?_
  ·exact bU (aX J) J (aQ J (ad _))
  exact ee
 intro a2 a6 a7;refine nD (t:=[(6,pV B1 0),(10,U A13 n13 c13),(12,U a2 a6 a7),(0,pV B1 0),(3,pV a8 0)]) (L':=[ik a2 a6 a7 ([a1]:List TG),ab a8 84 (xD a1),ab B1 79 (iD a0 B2 B9 A12 n12 c12 A13 n13 c13 A14 n14 c14),ab B2 99 [U A3 n3 c3,U A4 n4 c4,U A5 n5 c5,U A6 n6 c6,pV B7 0],aZ A3 n3 c3 a0.Uk.m_.Uj,aZ A4 n4 c4 a0.Uk.m_.Ul,aC A5 n5 c5 a0.Uk.Ur,aC A6 n6 c6 a0.Uk.Uz,ab B7 147 [.map (some M8)],am bj bH M8 a0.Uk.Uy.at_,ab B9 118 [U A10 n10 c10,.map (some M11)],gQ A10 n10 c10 a0.Un.Un,am av dq M11 a0.Un.UB,cj A12 n12 c12 a0.UF,ik A13 n13 c13 a0.UH,cj A14 n14 c14 a0.UG]) ?_ lW (ad _);obtain ⟨b3,h⟩:=ah h;refine pa 7 J I (ay 14 0 J J aB J J z9 F6 J J b3) J J J ?_;rintro _ _ ⟨b0,b1,b2,rfl,rfl⟩;refine zc 8 J I (bE J) J J J ?_;refine zc 9 J I (dj J FR) J J J ?_;refine vI 10 J I (aj (us:=[U b0 b1 b2]) (cs':=(iD a0 B2 B9 A12 n12 c12 b0 b1 b2 A14 n14 c14)) 2 J J J J size58.out J J J) J J ?_;rintro _ _ rfl;refine lD I ?_;exact eN
def lK (N:Nat)(a0:Tt)(a1:Int):Option Bool:=
 (bif decide (0<=a1) then (some (decide (a1<(a0.Un.length:Int)))) else (some false)).bind fun b4=>some b4
theorem nO {N:Nat}{a0:Tt}{a1:Int}{r:Bool}(h:lK N a0 a1=some r):Okc Ua 152 [pV B1 0,iV a1] ([ar B1 118 [U A2 n2 c2,.map (some M3)],om A2 n2 c2 a0.Un,dk av dq M3 a0.UB]) (fun u post=>u=.bool r/\post=[]):=by
 refine cA Tryz.func152 ?_;refine fC (kr J Tryz.underlying72) ?_;refine gS 8 19 11 h ?_;intro b4 h;exact eY
end Go.Proofs.YtjmonlcchlkdhaaGreat
namespace Go.Proofs.YtjmonlcchlkdhaaGreat
variable {A1 A10 A12 A13 A14 A15 A16 A2 A3 A4 A5 A6:Option Addr} {B1 B2 B6 B7 B8 B9 M11 M3 M7 M8 c1 c10 c12 c13 c14 c15 c16 c2 c3 c4 c5 c6 n1 n10 n12 n13 n14 n15 n16 n2 n3 n4 n5 n6:Nat}
open Go.RowKit Asn
set_option maxRecDepth 20000
def zW (N:Nat)(p7:Int):Option (Int×Bool):=
 bif decide (4294967294<p7) then (some (0,false)) else (some (p7,true))
def uT (N:Nat)(a0:ByteArray):Nat->Int->Int->Option (Int×Bool)
 |0,_,_=>none
 |m8+1,p9,a1=>bif decide (a1<(a0.size:Int)) then ((Kb a0 a1).bind fun a6=>(bif decide (a6<48) then (some true) else ((Kb a0 a1).bind fun a7=>some (decide (57<a7)))).bind fun a8=>bif a8 then (some (0,false)) else (be (in64 (10*p9)) ((Kb a0 a1).bind fun a2=>be (in64 ((10*p9)+(IntKind.i64.wrap (IntKind.u8.wrap (a2 - 48))))) (be (in64 (a1+1)) ((uT N a0 m8) ((10*p9)+(IntKind.i64.wrap (IntKind.u8.wrap (a2 - 48)))) (a1+1)))))) else (zW N p9)
def BJ (N:Nat)(a0:ByteArray):Option (Int×Bool):=
 (bif a0.toList==(⟨#[]⟩:ByteArray).toList then (some true) else (some (decide (10<(a0.size:Int))))).bind fun b1=>(bif b1 then (some true) else ((Kb a0 0).bind fun x3=>(bif decide (x3=48) then (some (decide (1<(a0.size:Int)))) else (some false)).bind fun b4=>some b4)).bind fun b2=>bif b2 then (some (0,false)) else (uT N a0 N 0 0)
theorem FF {N:Nat}{a0:ByteArray}{r:Int×Bool}(h:BJ N a0=some r):Okc Ua 187 [.string a0] ([]) (fun u post=>u=.tuple #[iV r.1,.bool r.2]/\post=[]):=by
 refine cA Tryz.func187 ?_;refine sZ ?_;refine fC (wY J J) ?_;obtain ⟨b1,b3,h⟩:=aa h;refine aR 4 12 b1 ?_ ?_
 ·clear h;refine aP 8 J (fun g1=> ?_) (fun g1=> ?_)
  ·have h:=aE g1 b3;exact gY
  have h:=aF g1 b3;refine ac ?_;refine qk (Am J Te) J (fN g1 J) J ?_;exact gY
 refine ac ?_;obtain ⟨b2,b5,h⟩:=aa h;refine aR 9 22 b2 ?_ ?_
 ·clear h;refine aP 13 J (fun g2=> ?_) (fun g2=> ?_)
  ·have h:=aE g2 b5;exact gY
  have h:=aF g2 b5;refine ac ?_;obtain ⟨x3,b8,h⟩:=aa h;refine qk (xK J J Te b8) J (fN g2 J) J ?_;refine ac ?_;obtain ⟨b4,b6,h⟩:=aa h;refine aR 4 21 b4 ?_ ?_
  ·clear h;refine aP 17 J (fun g4=> ?_) (fun g4=> ?_)
   ·have h:=aE g4 b6;refine ac ?_;refine qk (Am J Te) J (cB g4 J) J ?_;exact gY
   have h:=aF g4 b6;exact gY
  exact gY
 refine fw h ?_ ?_<;>intro h
 ·exact eY
 refine ac ?_;refine au (fun s L=> ∃p7,zW N p7=some r/\s=[(2,iV 0),(3,.bool false),(4,iV p7)]/\L=[]) ?_ ?_
 ·refine ac ?_;refine fC (Am J Te) ?_;refine aY (fun m s L=> ∃p9 a6,uT N a0 m p9 a6=some r/\s=[(0,.string a0),(2,iV 0),(3,.bool false),(4,iV p9),(24,iV (a0.size:Int)),(25,iV a6)]/\L=[]) N _ _ ⟨0,0,h,J,J⟩ sA (cS [] 0) ?_;rintro (_|m8) _ _ ⟨p9,a6,h,rfl,rfl⟩
  ·exact ao h
  rw [uT.eq_2] at h;refine ac ?_;refine aG ?_;refine gH J h ?_ ?_<;>intro h
  ·refine sY ?_;refine sZ ?_;obtain ⟨c0,a7,h⟩:=aa h;refine fC (xK J J Te a7) ?_;obtain ⟨b9,a1,h⟩:=aa h;refine aR 5 37 b9 ?_ ?_
   ·clear h;refine aP 32 J (fun a2=> ?_) (fun a2=> ?_)
    ·have h:=aE a2 a1;exact gY
    have h:=aF a2 a1;refine ac ?_;obtain ⟨c7,a8,h⟩:=aa h;refine qk (xK J J Te a8) J (fN a2 J) J ?_;exact gY
   refine fw h ?_ ?_<;>intro h
   ·exact eY
   refine ac ?_;obtain ⟨b7,h⟩:=ah h;refine fC (tJ J J b7.1 b7.2) ?_;obtain ⟨c8,b0,h⟩:=aa h;refine gE (xK J J Te b0) ?_;refine gE (Oe J J) ?_;refine gE (LV J J hU) ?_;obtain ⟨c9,h⟩:=ah h;refine ac ?_;obtain ⟨d0,h⟩:=ah h;exact lY
  exact jY
 rintro _ _ ⟨p7,h,rfl,rfl⟩;refine sZ ?_;refine gH J h ?_ ?_<;>intro h
 ·exact eY
 exact eY
def BI (N:Nat)(a0:TE):Option Bool:=
 bif decide (a0.Ui=0) then ((bif a0.S.toList==(⟨#[]⟩:ByteArray).toList then (some (decide (0<=a0.N))) else (some false)).bind fun b3=>(bif b3 then (some (decide (a0.N<=4294967294))) else (some false)).bind fun b4=>some b4) else (bif decide (a0.Ui=1) then ((BJ N a0.S).bind fun y6=>(bif decide (a0.N=0) then (some (decide ((a0.S.size:Int)<=65536))) else (some false)).bind fun b7=>(bif b7 then (some (!y6.2)) else (some false)).bind fun b8=>some b8) else (bif decide (a0.Ui=2) then ((bif a0.S.toList==(⟨#[]⟩:ByteArray).toList then (some (decide (1<=a0.N))) else (some false)).bind fun a1=>some a1) else (some false)))
theorem FE {N:Nat}{a0:TE}{r:Bool}(h:BI N a0=some r):Okc Ua 153 [(GN a0)] ([]) (fun u post=>u=.bool r/\post=[]):=by
 refine cA Tryz.func153 ?_;intro B1;refine sY ?_;refine gH J h ?_ ?_<;>intro h
 ·refine ac ?_;refine fC (wY J J) ?_;refine gS 4 16 12 h ?_;intro b3 h;refine ac ?_;refine gS 4 21 17 h ?_;intro b4 h;exact eY
 refine fw h ?_ ?_<;>intro h
 ·refine ac ?_;obtain ⟨y6,k,h⟩:=aa h;refine kD (oR (FF k)) ?_;obtain ⟨b7,a1,h⟩:=aa h;refine aR 5 38 b7 ?_ ?_
  ·clear h;refine aP 33 J (fun g7=> ?_) (fun g7=> ?_)
   ·have h:=aE g7 a1;refine ac ?_;refine qk (Am J Te) J (cB g7 J) J ?_;exact gY
   have h:=aF g7 a1;exact gY
  refine ac ?_;refine gS 3 42 39 h ?_;intro b8 h;exact eY
 refine fw h ?_ ?_<;>intro h
 ·refine ac ?_;refine fC (wY J J) ?_;refine gS 4 52 48 h ?_;intro a2 h;exact eY
 exact eY
def By (N:Nat)(a0:Int):Option Bool:=
 (bif decide (0<=a0) then (some (decide (a0<=15))) else (some false)).bind fun b1=>(bif b1 then (some (!decide (Jc .i64 a0 9=9))) else (some false)).bind fun b2=>some b2
theorem Fk {N:Nat}{a0:Int}{r:Bool}(h:By N a0=some r):Okc Ua 154 [iV a0] ([]) (fun u post=>u=.bool r/\post=[]):=by
 refine cA Tryz.func154 ?_;refine gS 3 8 5 h ?_;intro b1 h;refine ac ?_;obtain ⟨b2,a1,h⟩:=aa h;refine aR 4 13 b2 ?_ ?_
 ·clear h;refine aP 9 J (fun g2=> ?_) (fun g2=> ?_)
  ·have h:=aE g2 a1;refine ac ?_;refine qk (H4 J J) J (cB g2 J) J ?_;exact gY
  have h:=aF g2 a1;exact gY
 exact eY
def qH (N:Nat)(a0:Tt)(a1:Int)(a2:TE)(a3:Int):Option Int:=
 (lK N a0 a1).bind fun y5=>bif !y5 then (some 2) else ((BI N a2).bind fun y7=>(bif !y7 then (some true) else ((By N a3).bind fun y9=>some (!y9))).bind fun b8=>bif b8 then (some 1) else (some 0))
theorem wc {N:Nat}{a0:Tt}{a1:Int}{a2:TE}{a3:Int}{r:Int}(h:qH N a0 a1 a2 a3=some r):Okc Ua 114 [pV B1 0,iV a1,(GN a2),iV a3] ([ar B1 118 [U A2 n2 c2,.map (some M3)],om A2 n2 c2 a0.Un,dk av dq M3 a0.UB]) (fun u post=>u=iV r/\post=[]):=by
 refine cA Tryz.func114 ?_;intro B4;refine sY ?_;refine fC (bD J Tryz.underlying72) ?_;refine cy J ?_;refine ac ?_;obtain ⟨y5,k,h⟩:=aa h;refine kD (oR (nO k)) ?_;refine gH J h ?_ ?_<;>intro h
 ·exact eY
 refine ac ?_;obtain ⟨y7,k,h⟩:=aa h;refine kD (oR (FE k)) ?_;obtain ⟨b8,a6,h⟩:=aa h;refine aR 4 25 b8 ?_ ?_
 ·clear h;refine aP 21 J (fun g8=> ?_) (fun g8=> ?_)
  ·have h:=aE g8 a6;exact gY
  have h:=aF g8 a6;refine ac ?_;obtain ⟨y9,k,h⟩:=aa h;refine gU (oR (Fk k)) (fN g8 J) ?_;exact gY
 refine fw h ?_ ?_<;>intro h
 ·exact eY
 exact eY
def qI (N:Nat):Option (Int×Int×Bool):=
 some (0,0,false)
def mc (N:Nat)(a0:Tt)(a2:TE):Nat->Int->Int->Int->ByteArray->Int->Int->Option (Int×Int×Bool)
 |0,_,_,_,_,_,_=>none
 |a7+1,a8,p13,b0,b1,b2,a6=>bif decide (0<a6) then (bif decide ((⟨p13,b0,b1⟩:TE)=a2) then (be (in64 (a6 - 1)) (some (a6 - 1,b2,true))) else ((aw a0.Un a8).bind fun a1=>(mc N a0 a2 a7) a1.Up a1.UZ.Ui a1.UZ.N a1.UZ.S a1.Vd a1.Ve)) else (qI N)
def rI (N:Nat)(a0:Tt)(a1:Int)(a2:TE):Option (Int×Int×Bool):=
 (lK N a0 a1).bind fun y5=>bif !y5 then (some (0,0,false)) else ((aw a0.Un a1).bind fun x8=>mc N a0 a2 N x8.Up x8.UZ.Ui x8.UZ.N x8.UZ.S x8.Vd x8.Ve)
theorem xV {N:Nat}{a0:Tt}{a1:Int}{a2:TE}{r:Int×Int×Bool}(h:rI N a0 a1 a2=some r):Okc Ua 115 [pV B1 0,iV a1,(GN a2)] ([ar B1 118 [U A2 n2 c2,.map (some M3)],om A2 n2 c2 a0.Un,dk av dq M3 a0.UB]) (fun u post=>u=.tuple #[iV r.1,iV r.2.1,.bool r.2.2]/\post=[]):=by
 refine cA Tryz.func115 ?_;intro B4;refine sY ?_;obtain ⟨y5,k,h⟩:=aa h;refine kD (oR (nO k)) ?_;refine gH J h ?_ ?_<;>intro h
 ·exact eY
 refine ac ?_;refine au (fun s L=>qI N=some r/\s=[(6,iV 0),(7,iV 0),(8,.bool false)]/\L=[]) ?_ ?_
 ·refine ac ?_;obtain ⟨x8,b7,b8,b9,h⟩:=bz h
  refine jg fun B9=> ?_
  refine aY (fun m s L=> ∃a8 p13 a6 a7 b0 b1 b2,mc N a0 a2 m a8 p13 a6 a7 b0 b1=some r/\s=[(0,pV B1 0),(5,pV B4 0),(6,iV 0),(7,iV 0),(8,.bool false),(9,pV b2 0)]/\L=[ab b2 114 [iV a8,iV p13,iV a6,.string a7,iV b0,iV b1],om A2 n2 c2 a0.Un,dk av dq M3 a0.UB,ar B1 118 [U A2 n2 c2,.map (some M3)],ab B4 82 (OE a2)]) N _ _ ⟨x8.Up,x8.UZ.Ui,x8.UZ.N,x8.UZ.S,x8.Vd,x8.Ve,B9,h,J,J⟩ sA (cS [0,3,4,2,1] 5) ?_;rintro (_|c0) _ _ ⟨a8,p13,a6,a7,b0,b1,b2,h,rfl,rfl⟩
  ·exact ao h
  rw [mc.eq_2] at h;refine sZ ?_;refine gH J h ?_ ?_<;>intro h
  ·refine sY ?_;refine fC (LR (x:=(⟨p13,a6,a7⟩:TE)) (y:=a2) J J) ?_;refine gH J h ?_ ?_<;>intro h
   ·refine dY [] ?_;refine ac ?_;obtain ⟨c7,h⟩:=ah h;exact eY
   refine sY ?_;intro c8;refine ac ?_;refine bV I _ (ad _) ?_;refine ac ?_;obtain ⟨b3,b4,b5,b6,h⟩:=bz h;refine ac ?_;refine f9 8 J I I (aj (us:=FH b3) (cs':=FH b3) 0 J J J J size114.out J J J) ?_;rintro _ _ rfl;exact lY
  exact jY
 rintro _ _ ⟨h,rfl,rfl⟩;exact eY
def tV (N:Nat)(a0:Tt)(a1:Int):Option (TA×Bool):=
 (lK N a0 a1).bind fun y5=>bif !y5 then (some ((⟨0,(⟨0,0,⟨#[]⟩⟩:TE),0,0⟩:TA),false)) else ((aw a0.Un a1).bind fun x7=>some (x7,true))
theorem zm {N:Nat}{a0:Tt}{a1:Int}{r:TA×Bool}(h:tV N a0 a1=some r):Okc Ua 155 [pV B1 0,iV a1] ([ar B1 118 [U A2 n2 c2,.map (some M3)],om A2 n2 c2 a0.Un,dk av dq M3 a0.UB]) (fun u post=>u=.tuple #[(Nz r.1),.bool r.2]/\post=[]):=by
 refine cA Tryz.func155 ?_;intro B4;refine sY ?_;obtain ⟨y5,k,h⟩:=aa h;refine kD (oR (nO k)) ?_;refine gH J h ?_ ?_<;>intro h
 ·exact eY
 refine ac ?_;obtain ⟨x7,a2,a6,a7,h⟩:=bz h;exact eY
def sR (N:Nat)(a0:Tt)(a1:Int):Option Int:=
 (tV N a0 a1).bind fun y4=>some y4.1.Ve
theorem yA {N:Nat}{a0:Tt}{a1:Int}{r:Int}(h:sR N a0 a1=some r):Okc Ua 116 [pV B1 0,iV a1] ([ar B1 118 [U A2 n2 c2,.map (some M3)],om A2 n2 c2 a0.Un,dk av dq M3 a0.UB]) (fun u post=>u=iV r/\post=[]):=by
 refine cA Tryz.func116 ?_;obtain ⟨y4,k,h⟩:=aa h;refine kD (oR (zm k)) ?_;intro B5;exact eY
def qG (N:Nat)(a1:Int)(p21:List TA)(a2:(List (TH×Int))):Option (Int×Int×Tt):=
 some (a1,0,(⟨p21,a2⟩:Tt))
def mX (N:Nat)(p7:List TA):Nat->Int->Int->(List TA)->(List (TH×Int))->Option (Int×Int×Tt)
 |0,_,_,_,_=>none
 |b1+1,a2,a8,a6,b0=>bif decide (a8<(p7.length:Int)) then ((aw p7 a8).bind fun a1=>(aw a6 a2).bind fun a7=>be (in64 (a7.Ve+1)) (be (bJ (a6.length+([(⟨a2,a1.UZ,a1.Vd,a7.Ve+1⟩:TA)]:List TA).length)) (be (in64 (((a6++([(⟨a2,a1.UZ,a1.Vd,a7.Ve+1⟩:TA)]:List TA)).length:Int) - 1)) (be (in64 (a8+1)) ((mX N p7 b1) (((a6++([(⟨a2,a1.UZ,a1.Vd,a7.Ve+1⟩:TA)]:List TA)).length:Int) - 1) (a8+1) (a6++([(⟨a2,a1.UZ,a1.Vd,a7.Ve+1⟩:TA)]:List TA)) (yy b0 (⟨a2,a1.UZ,a1.Vd⟩:TH) (a6.length:Int))))))) else (qG N a2 a6 b0)
def nN (N:Nat)(a0:Tt)(p6:Int)(p7:List TA):Option (Int×Int×Tt):=
 be (in64 (1073741824 - (a0.Un.length:Int))) (bif decide (1073741824 - (a0.Un.length:Int)<(p7.length:Int)) then (some (0,5,a0)) else (mX N p7 N p6 0 a0.Un a0.UB))
def nM (N:Nat)(a0:Tt):Nat->Int->(List TA)->Option (Int×Int×Tt)
 |0,_,_=>none
 |m8+1,p9,a1=>bif decide (0<(a1.length:Int)) then ((aw a1 0).bind fun a2=>(aw a1 0).bind fun a6=>bif !((lk a0.UB (⟨p9,a2.UZ,a6.Vd⟩:TH)).isSome) then (nN N a0 p9 a1) else (be ((0:Int)<=1/\(1:Int).toNat<=a1.length/\a1.length<=a1.length) ((nM N a0 m8) ((lk a0.UB (⟨p9,a2.UZ,a6.Vd⟩:TH)).getD 0) ((a1.drop ((1:Int).toNat)).take (a1.length - (1:Int).toNat))))) else (nN N a0 p9 a1)
def sQ (N:Nat)(a0:Tt)(a1:Int)(a2:List TA):Option (Int×Int×Tt):=
 nM N a0 N a1 a2
theorem yz {N:Nat}{a0:Tt}{a1:Int}{a2:List TA}{r:Int×Int×Tt}(h:sQ N a0 a1 a2=some r):Okc Ua 117 [pV B1 0,iV a1,U A4 n4 c4] ([om A4 n4 c4 a2,ab B1 118 [U A2 n2 c2,.map (some M3)],gQ A2 n2 c2 a0.Un,am av dq M3 a0.UB]) (fun u post=> ∃A0 n0 c0 M1,u=.tuple #[iV r.1,iV r.2.1]/\post=[ab B1 118 [U A0 n0 c0,.map (some M1)],gQ A0 n0 c0 r.2.2.Un,am av dq M1 r.2.2.UB]):=by
 refine cA Tryz.func117 ?_;refine au (fun s L=> ∃p6 p7 A7 n7 c7,nN N a0 p6 p7=some r/\s=[(0,pV B1 0),(6,iV 0),(7,iV 0),(8,iV p6),(9,U A7 n7 c7)]/\L=[om A7 n7 c7 p7,gQ A2 n2 c2 a0.Un,am av dq M3 a0.UB,ab B1 118 [U A2 n2 c2,.map (some M3)]]) ?_ ?_
 ·refine ac ?_;refine aY (fun m s L=> ∃p9 c9 A10 n10 c10,nM N a0 m p9 c9=some r/\s=[(0,pV B1 0),(6,iV 0),(7,iV 0),(8,iV p9),(9,U A10 n10 c10)]/\L=[om A10 n10 c10 c9,gQ A2 n2 c2 a0.Un,am av dq M3 a0.UB,ab B1 118 [U A2 n2 c2,.map (some M3)]]) N _ _ ⟨a1,a2,A4,n4,c4,h,J,J⟩ sA (cS [0,2,3,1] 4) ?_;rintro (_|m8) _ _ ⟨p9,c9,A10,n10,c10,h,rfl,rfl⟩
  ·exact ao h
  rw [nM.eq_2] at h;refine sZ ?_;refine gH J h ?_ ?_<;>intro h
  ·refine ac ?_;refine dY [] ?_;refine ac ?_;obtain ⟨f3,d2,d3,f4,h⟩:=bz h;refine ac ?_;refine zR 7 J (sW 0 J aM J (bR d2 d3) DH) ?_;refine ac ?_;obtain ⟨g0,d4,d6,g1,h⟩:=bz h;refine ac ?_;refine zR 11 J (sW 0 J aM J (bR d4 d6) DG) ?_;refine ac ?_;refine zR 14 J (rR (a:=(⟨p9,f3.UZ,g0.Vd⟩:TH)) (z:=0) 2 J uR J J Tryz.underlying116 Dp zero3.out) ?_;refine sY ?_;refine gH J h ?_ ?_<;>intro h
   ·refine ac ?_;refine Ri J ?_;exact jY
   refine ac ?_;refine bV I _ (ad _) ?_;refine zY [0,1] ?_;obtain ⟨d0,h⟩:=ah h;refine Bt 0 J (l:=(1:Int).toNat) (h:=c9.length) d0.2.1 d0.2.2 ?_;rintro A16 n16 c16 g2;refine zR 2 J (uH 1 J g2 J Ta size114.out J (by rw [Int.toNat_of_nonneg d0.1];rfl) d0.2.1) ?_;refine zX [3,4] ?_;exact lY
  exact jY
 rintro _ _ ⟨p6,p7,A7,n7,c7,h,rfl,rfl⟩;refine sZ ?_;obtain ⟨h0,h⟩:=ah h;refine fw h ?_ ?_<;>intro h
 ·exact eY
 refine ac ?_;refine au (fun s L=> ∃e2 p21 e3 e4 e5 e6,qG N e2 p21 e3=some r/\s=[(6,iV 0),(7,iV 0),(8,iV e2)]/\L=[gQ e4 e5 e6 p21,am av dq M3 e3,ab B1 118 [U e4 e5 e6,.map (some M3)]]) ?_ ?_
 ·refine ac ?_;refine aY (fun m s L=> ∃a7 b7 b3 d1 a8 b0 b1,mX N p7 m a7 b7 b3 d1=some r/\s=[(0,pV B1 0),(6,iV 0),(7,iV 0),(8,iV a7),(51,U A7 n7 c7),(52,iV (p7.length:Int)),(53,iV b7)]/\L=[om A7 n7 c7 p7,gQ a8 b0 b1 b3,am av dq M3 d1,ab B1 118 [U a8 b0 b1,.map (some M3)]]) N _ _ ⟨p6,0,a0.Un,a0.UB,A2,n2,c2,h,J,J⟩ sA (cS [0,1,2,3] 4) ?_;rintro (_|h1) _ _ ⟨a7,b7,b3,d1,a8,b0,b1,h,rfl,rfl⟩
  ·exact ao h
  rw [mX.eq_2] at h;refine ac ?_;refine aG ?_;refine gH J h ?_ ?_<;>intro h
  ·refine sY ?_;obtain ⟨a6,g3,g4,g5,h⟩:=bz h
   refine jg fun b8=> ?_
   refine dY [] ?_;refine ac ?_;refine f9 15 J I I (ii (a:=(⟨a7,a6.UZ,a6.Vd⟩:TH)) (b:=(b3.length:Int)) 3 J J J J Tryz.underlying116 Dp) ?_;rintro _ _ rfl;refine ac ?_;refine aG ?_;obtain ⟨b2,b9,c8,e7,h⟩:=bz h;obtain ⟨e8,h⟩:=ah h;refine ie (t:=[(0,pV B1 0),(6,iV 0),(7,iV 0),(8,iV a7),(13,pV b8 0),(51,U A7 n7 c7),(52,iV (p7.length:Int)),(53,iV b7)]) ?_ lW (ad _)
   refine iW I 21 [0] [0,4,20] [72,73,74,75,76,77,78,79,80,81,82,83,84,85,86,87,88,89,90,91,92] [[],[],[1],[2],[3],[],[],[6],[],[8],[],[10],[11],[12],[],[13,14],[15],[16],[17],[5,7,9,18],[19]] [aV (pV B1 0),
aV (pV B1 0),
aV (pV B1 0),
aV (pV B1 0),
aV (U a8 b0 b1),
aV (iV a7),
aV (pV b8 1),
aV ((GN a6.UZ)),
aV (pV b8 4),
aV (iV a6.Vd),
aV (pV B1 0),
aV (pV B1 0),
aV (pV B1 0),
aV (U a8 b0 b1),
aV (iV a7),
aV (da (U a8 b0 b1) a7.toNat 6 0),
aV (da (U a8 b0 b1) a7.toNat 6 5),
aV (iV b2.Ve),
aV (iV (b2.Ve+1)),
aV (.agg #[iV a7,iV a6.UZ.Ui,iV a6.UZ.N,.string a6.UZ.S,iV a6.Vd,iV (b2.Ve+1)]),
aX3 (fun (b4:Option Addr) (b5 b6:Nat)=> U b4 b5 b6) (fun b4 b5 b6=> [gQ b4 b5 b6 ([(⟨a7,a6.UZ,a6.Vd,b2.Ve+1⟩:TA)]:List TA)])] [] (ad _) (uM rfl lB) I rfl rfl ?_ ?_ ?_
   ·refine uL J ?_ ?_
    ·exact DX (aX J) J (aQ J (ad _))
    exact lA
   ·refine ae J ?_ ?_
    ·refine uv (az (R:=xt) (vss:=[[iV a7,iV a6.UZ.Ui,iV a6.UZ.N,.string a6.UZ.S,iV a6.Vd,iV (b2.Ve+1)]]) (xs:=[(⟨a7,a6.UZ,a6.Vd,b2.Ve+1⟩:TA)]) J (Bp _ _ _ _ _ _) J J (fun _ _ hr=> .cons J All2.nil)) J ?_;rintro _ _ ⟨g6,g7,g8,rfl,rfl⟩;exact vc g6 g7 g8 (ad _)
    refine ae J ?_ ?_
    ·exact bU (bM J (bld_114_0_1_2_3 _ _ _ _ _ _).out) J (aQ J (ad _))
    refine ae J ?_ ?_
    ·exact bU (dL J J e8.1 e8.2) J (aQ J (ad _))
    refine ae J ?_ ?_
    ·exact dy (gX (u:=iV b2.Ve) 2 J aB J e7 oH (fun _ _ _ h=>by rw [show _=_ from h];rfl)) J (aQ J (ad _))
    refine ae J ?_ ?_
    ·exact dy (sW 2 J aB J (bR b9 c8) GX) J (aQ J (ad _))
    refine ae J ?_ ?_
    ·exact dy (fA 2 J aB J J Ta size114.out b9 c8) J (aQ J (ad _))
    refine ae J ?_ ?_
    ·exact bU (aX J) J (aQ J (ad _))
    refine ae J ?_ ?_
    ·exact dy (bp 4 J J HO J) J (aQ J (ad _))
    refine ae J ?_ ?_
    ·exact bU (ni J Ak) J (aQ J (ad _))
    refine ae J ?_ ?_
    ·exact bU (bE J) J (aQ J (ad _))
    refine ae J ?_ ?_
    ·exact bU (aX J) J (aQ J (ad _))
    refine ae J ?_ ?_
    ·exact dy (bp 0 J J oH J) J (aQ J (ad _))
    refine ae J ?_ ?_
    ·exact bU (dj J DG) J (aQ J (ad _))
    refine ae J ?_ ?_
    ·exact dy (cm (us:=OE a6.UZ) 0 J J agg82.out J) J (aQ J (ad _))
    refine ae J ?_ ?_
    ·exact bU (dj J DH) J (aQ J (ad _))
    refine ae J ?_ ?_
    ·exact bU (aX J) J (aQ J (ad _))
    refine ae J ?_ ?_
    ·exact dy (bp 4 J J HO J) J (aQ J (ad _))
    refine ae J ?_ ?_
    ·exact bU (ni J Ak) J (aQ J (ad _))
    refine ae J ?_ ?_
    ·exact bU (bE J) J (aQ J (ad _))
    refine ae J ?_ ?_
    ·exact bU (aX J) J (aQ J (ad _))
    refine ae J ?_ ?_
    ·exact bU (aX J) J (aQ J (ad _))
    exact ee
   intro b4 b5 b6;refine nD (t:=[(72,pV B1 0),(76,U a8 b0 b1),(92,U b4 b5 b6),(0,pV B1 0),(6,iV 0),(7,iV 0),(8,iV a7),(13,pV b8 0),(51,U A7 n7 c7),(52,iV (p7.length:Int)),(53,iV b7)]) (L':=[gQ b4 b5 b6 ([(⟨a7,a6.UZ,a6.Vd,b2.Ve+1⟩:TA)]:List TA),ab b8 114 (FH a6),om A7 n7 c7 p7,gQ a8 b0 b1 b3,am av dq M3 (yy d1 (⟨a7,a6.UZ,a6.Vd⟩:TH) (b3.length:Int)),ab B1 118 [U a8 b0 b1,.map (some M3)]]) ?_ lW (ad _);obtain ⟨g9,h⟩:=ah h;refine pa 21 J I (ay 3 0 J J aB J J Ta PL J J g9) J J J ?_;rintro _ _ ⟨e9,f1,f2,rfl,rfl⟩;refine zc 22 J I (bE J) J J J ?_;refine zc 23 J I (ni J Ak) J J J ?_;refine vI 24 J I (aj (us:=[U e9 f1 f2]) (cs':=[U e9 f1 f2,.map (some M3)]) 5 J J J J size115.out J J J) J J ?_;rintro _ _ rfl;refine BE ?_;refine lD I ?_;refine ac ?_;obtain ⟨h2,h⟩:=ah h;refine ac ?_;obtain ⟨h3,h⟩:=ah h;exact lY
  exact jY
 rintro _ _ ⟨e2,p21,e3,e4,e5,e6,h,rfl,rfl⟩;exact eY
def cO (N:Nat)(a0:Tt)(a1:Int)(a2:TE)(a3:Int):Option (Int×Int×Tt):=
 (qH N a0 a1 a2 a3).bind fun y5=>bif !decide (y5=0) then (some (0,y5,a0)) else ((rI N a0 a1 a2).bind fun y7=>bif y7.2.2 then (some (0,4,a0)) else ((sR N a0 a1).bind fun y9=>bif decide (1024<=y9) then (some (0,9,a0)) else ((sQ N a0 a1 ([(⟨0,a2,a3,0⟩:TA)]:List TA)).bind fun a6=>some (a6.1,a6.2.1,a6.2.2))))
theorem xU {N:Nat}{a0:Tt}{a1:Int}{a2:TE}{a3:Int}{r:Int×Int×Tt}(h:cO N a0 a1 a2 a3=some r):Okc Ua 80 [pV B1 0,iV a1,(GN a2),iV a3] ([ab B1 118 [U A2 n2 c2,.map (some M3)],gQ A2 n2 c2 a0.Un,am av dq M3 a0.UB]) (fun u post=> ∃A0 n0 c0 M1,u=.tuple #[iV r.1,iV r.2.1]/\post=[ab B1 118 [U A0 n0 c0,.map (some M1)],gQ A0 n0 c0 r.2.2.Un,am av dq M1 r.2.2.UB]):=by
 refine cA Tryz.func80 ?_;intro B4;refine sY ?_;obtain ⟨y5,k,h⟩:=aa h;refine kD (oR (wc k)) ?_;refine gH J h ?_ ?_<;>intro h
 ·exact eY
 refine sY ?_;obtain ⟨y7,k,h⟩:=aa h;refine kD (oR (xV k)) ?_;refine gH J h ?_ ?_<;>intro h
 ·exact eY
 refine sY ?_;obtain ⟨y9,k,h⟩:=aa h;refine kD (oR (yA k)) ?_;refine gH J h ?_ ?_<;>intro h
 ·exact eY
 refine ac ?_;refine gD (az (R:=xt) (vss:=[[iV 0,iV a2.Ui,iV a2.N,.string a2.S,iV a3,iV 0]]) (xs:=[(⟨0,a2,a3,0⟩:TA)]) J (Bp _ _ _ _ _ _) J J (fun _ _ hr=> .cons J All2.nil)) ?_;rintro _ _ ⟨a6,a7,a8,rfl,rfl⟩;refine nX (bv 0 J) ?_;obtain ⟨b0,k,h⟩:=aa h;refine gD (oC (yz k)) ?_;rintro _ _ ⟨_,⟨A13,n13,c13,b1,rfl,rfl⟩,rfl⟩;exact eY
def mh (N:Nat)(a0:TC):Option TJ:=
 some (⟨6,2,(⟨0,0,⟨#[]⟩⟩:Ty)⟩:TJ)
theorem o8 {N:Nat}{a0:TC}{r:TJ}(h:mh N a0=some r):Okc Ua 11 [pV B1 0] ([ar B1 79 (iD a0 B2 B9 A12 n12 c12 A13 n13 c13 A14 n14 c14),ar B2 99 [U A3 n3 c3,U A4 n4 c4,U A5 n5 c5,U A6 n6 c6,pV B7 0],bf A3 n3 c3 a0.Uk.m_.Uj,bf A4 n4 c4 a0.Uk.m_.Ul,bc A5 n5 c5 a0.Uk.Ur,bc A6 n6 c6 a0.Uk.Uz,ar B7 147 [.map (some M8)],dk bj bH M8 a0.Uk.Uy.at_,ar B9 118 [U A10 n10 c10,.map (some M11)],om A10 n10 c10 a0.Un.Un,dk av dq M11 a0.Un.UB,gz A12 n12 c12 a0.UF,fX A13 n13 c13 a0.UH,gz A14 n14 c14 a0.UG]) (fun u post=>u=(EN r)/\post=[]):=by
 refine cA Tryz.func11 ?_;intro a1;refine sY ?_;refine fC (bD J Tf) ?_;refine cy J ?_;exact eY
def du (N:Nat)(a0:TC)(a1:TB):Option (Ty×Bool×TC):=
 bif decide (a0.Us.Ut<=a0.UA.UT) then (some ((⟨0,0,⟨#[]⟩⟩:Ty),false,a0)) else ((eF N a0.Uk a1).bind fun a2=>bif !decide (a2.2.1=0) then (some ((⟨0,0,⟨#[]⟩⟩:Ty),false,(⟨a0.UA,a0.Us,(),a2.2.2,a0.Un,a0.UF,a0.UO,a0.UP,a0.UQ,a0.UH,a0.UG⟩:TC))) else (be (in64 (a0.UA.UT+1)) (some ((⟨7,a2.1,⟨#[]⟩⟩:Ty),true,(⟨(⟨a0.UA.UV,a0.UA.UT+1,a0.UA.UU⟩:TL),a0.Us,(),a2.2.2,a0.Un,a0.UF,a0.UO,a0.UP,a0.UQ,a0.UH,a0.UG⟩:TC)))))
theorem fi {N:Nat}{a0:TC}{a1:TB}{r:Ty×Bool×TC}(h:du N a0 a1=some r):Okc Ua 61 [pV B1 0,.agg #[iV a1.Ui,iV a1.Uw,iV a1.Uv,iV a1.Ux,U A15 n15 c15,U A16 n16 c16]] ([bc A15 n15 c15 a1.Uo,bc A16 n16 c16 a1.Um,ab B1 79 (iD a0 B2 B9 A12 n12 c12 A13 n13 c13 A14 n14 c14),ab B2 99 [U A3 n3 c3,U A4 n4 c4,U A5 n5 c5,U A6 n6 c6,pV B7 0],aZ A3 n3 c3 a0.Uk.m_.Uj,aZ A4 n4 c4 a0.Uk.m_.Ul,aC A5 n5 c5 a0.Uk.Ur,aC A6 n6 c6 a0.Uk.Uz,ab B7 147 [.map (some M8)],am bj bH M8 a0.Uk.Uy.at_,ab B9 118 [U A10 n10 c10,.map (some M11)],gQ A10 n10 c10 a0.Un.Un,am av dq M11 a0.Un.UB,cj A12 n12 c12 a0.UF,ik A13 n13 c13 a0.UH,cj A14 n14 c14 a0.UG]) (fun u post=> ∃A0 n0 c0 A1 n1 c1 A2 n2 c2 A3 n3 c3 M4 A5 n5 c5 M6 A7 n7 c7 A8 n8 c8 A9 n9 c9,u=.tuple #[.agg #[iV r.1.Ui,iV r.1.N,.string r.1.S],.bool r.2.1]/\post=[ab B1 79 (iD r.2.2 B2 B9 A7 n7 c7 A8 n8 c8 A9 n9 c9),ab B2 99 [U A0 n0 c0,U A1 n1 c1,U A2 n2 c2,U A3 n3 c3,pV B7 0],aZ A0 n0 c0 r.2.2.Uk.m_.Uj,aZ A1 n1 c1 r.2.2.Uk.m_.Ul,aC A2 n2 c2 r.2.2.Uk.Ur,aC A3 n3 c3 r.2.2.Uk.Uz,ab B7 147 [.map (some M4)],am bj bH M4 r.2.2.Uk.Uy.at_,ab B9 118 [U A5 n5 c5,.map (some M6)],gQ A5 n5 c5 r.2.2.Un.Un,am av dq M6 r.2.2.Un.UB,cj A7 n7 c7 r.2.2.UF,ik A8 n8 c8 r.2.2.UH,cj A9 n9 c9 r.2.2.UG]):=by
 refine cA Tryz.func61 ?_;intro a2
 refine jg fun a6=> ?_
 refine aG ?_;refine dY [] ?_;refine ac ?_;refine zE 1 J (bD J Tf) ?_;refine fw h ?_ ?_<;>intro h
 ·exact eY
 refine ac ?_;refine aG ?_;refine bV I ([ab a6 23 [iV 0,iV 0,.string (⟨#[]⟩)],ab a2 42 [iV a1.Ui,iV a1.Uw,iV a1.Uv,iV a1.Ux,U A15 n15 c15,U A16 n16 c16],bc A15 n15 c15 a1.Uo,bc A16 n16 c16 a1.Um,ab B1 79 (iD a0 B2 B9 A12 n12 c12 A13 n13 c13 A14 n14 c14),ab B9 118 [U A10 n10 c10,.map (some M11)],gQ A10 n10 c10 a0.Un.Un,am av dq M11 a0.Un.UB,cj A12 n12 c12 a0.UF,ik A13 n13 c13 a0.UH,cj A14 n14 c14 a0.UG]) (cS [0,1,2,3,4,12,13,14,15,16,17] 18) ?_;refine ac ?_;obtain ⟨a7,k,h⟩:=aa h;refine zD 5 J (oC (oU k)) ?_;rintro _ _ ⟨_,⟨a8,b0,b1,b2,b3,b4,b5,b6,b7,b8,b9,d0,d1,rfl,rfl⟩,rfl⟩;refine aA (cS [7,8,9,10,11,12,13,14,15,16,17] 18) ?_;refine aH ?_;refine sY ?_;refine gH J h ?_ ?_<;>intro h
 ·exact eY
 refine ac ?_;obtain ⟨d2,h⟩:=ah h;exact eY
def lz (N:Nat)(d4:Int)(d6:Int)(e2:ByteArray)(e3:Bool)(a1:Int)(a2:Int)(a6:Int)(a7:Int)(a8:Int)(b0:Int)(b1:Int)(b2:Int)(b3:Int)(b4:Int)(b5:TX)(b6:Int)(b7:Int)(b8:Int)(b9:TZ)(c0:TX)(c7:TV)(c8:TV)(c9:TN)(d0:TN)(d1:List TA)(d2:(List (TH×Int)))(d3:TW):Option (TJ×TC):=
 bif !e3 then ((mh N (⟨(⟨a1,a2,a6⟩:TL),(⟨a7,a8,b0,b1,b2,b3,b4⟩:Tx),(),(⟨(⟨c7,c8⟩:TM),c9,d0,(⟨d3⟩:Tw)⟩:TI),(⟨d1,d2⟩:Tt),b5,b6,b7,b8,b9,c0⟩:TC)).bind fun e4=>some (e4,(⟨(⟨a1,a2,a6⟩:TL),(⟨a7,a8,b0,b1,b2,b3,b4⟩:Tx),(),(⟨(⟨c7,c8⟩:TM),c9,d0,(⟨d3⟩:Tw)⟩:TI),(⟨d1,d2⟩:Tt),b5,b6,b7,b8,b9,c0⟩:TC))) else (some ((⟨1,0,(⟨d4,d6,e2⟩:Ty)⟩:TJ),(⟨(⟨a1,a2,a6⟩:TL),(⟨a7,a8,b0,b1,b2,b3,b4⟩:Tx),(),(⟨(⟨c7,c8⟩:TM),c9,d0,(⟨d3⟩:Tw)⟩:TI),(⟨d1,d2⟩:Tt),b5,b6,b7,b8,b9,c0⟩:TC)))
def cD (N:Nat)(a2:Int)(a1:TC)(a8:Int):Option (TJ×TC):=
 (cO N a1.Un 0 (⟨1,0,(⟨#[109,101,115,115,97,103,101]⟩:ByteArray)⟩:TE) 5).bind fun a7=>bif !decide (a7.2.1=0) then ((mh N (⟨a1.UA,a1.Us,(),a1.Uk,a7.2.2,a1.UF,a1.UO,a1.UP,a1.UQ,a1.UH,a1.UG⟩:TC)).bind fun b0=>some (b0,(⟨a1.UA,a1.Us,(),a1.Uk,a7.2.2,a1.UF,a1.UO,a1.UP,a1.UQ,a1.UH,a1.UG⟩:TC))) else ((iw N a2).bind fun b1=>(bi N a1.Uk a8).bind fun b2=>(du N (⟨a1.UA,a1.Us,(),a1.Uk,a7.2.2,a1.UF,a1.UO,a1.UP,a1.UQ,a1.UH,a1.UG⟩:TC) (⟨1,a7.1,9,0,([b2,(⟨5,0,b1⟩:Ty)]:List Ty),[]⟩:TB)).bind fun a6=>lz N a6.1.Ui a6.1.N a6.1.S a6.2.1 a6.2.2.UA.UV a6.2.2.UA.UT a6.2.2.UA.UU a6.2.2.Us.UD a6.2.2.Us.Uu a6.2.2.Us.Uq a6.2.2.Us.Ut a6.2.2.Us.Uj a6.2.2.Us.UC a6.2.2.Us.UE a6.2.2.UF a6.2.2.UO a6.2.2.UP a6.2.2.UQ a6.2.2.UH a6.2.2.UG a6.2.2.Uk.m_.Uj a6.2.2.Uk.m_.Ul a6.2.2.Uk.Ur a6.2.2.Uk.Uz a6.2.2.Un.Un a6.2.2.Un.UB a6.2.2.Uk.Uy.at_)
def eg (N:Nat)(a1:Int)(a2:Int)(a0:TC)(a7:ByteArray):Option (TJ×TC):=
 (dU N a0 (⟨10,(⟨0,0,⟨#[]⟩⟩:TE),a7⟩:TG)).bind fun a6=>(bif decide (0<=a1) then (some (decide (a1<=3))) else (some false)).bind fun a8=>bif a8 then (be (in64 (5+a1)) (cD N a2 a6 (5+a1))) else (cD N a2 a6 5)
def dI (N:Nat)(a0:TC)(a1:Int)(a2:Int):Option (TJ×TC):=
 (gP N a1).bind fun a6=>bif !decide (a2=0) then ((iw N a2).bind fun a7=>be ((⟨#[58,32]⟩:ByteArray).size+a7.size<=9223372036854775807) (be (a6.size+((⟨#[58,32]⟩:ByteArray)++a7).size<=9223372036854775807) (eg N a1 a2 a0 (a6++((⟨#[58,32]⟩:ByteArray)++a7))))) else (eg N a1 a2 a0 a6)
theorem pT {N:Nat}{a0:TC}{a1:Int}{a2:Int}{r:TJ×TC}(h:dI N a0 a1 a2=some r):Okc Ua 41 [pV B1 0,iV a1,iV a2] ([ab B1 79 (iD a0 B2 B9 A12 n12 c12 A13 n13 c13 A14 n14 c14),ab B2 99 [U A3 n3 c3,U A4 n4 c4,U A5 n5 c5,U A6 n6 c6,pV B7 0],aZ A3 n3 c3 a0.Uk.m_.Uj,aZ A4 n4 c4 a0.Uk.m_.Ul,aC A5 n5 c5 a0.Uk.Ur,aC A6 n6 c6 a0.Uk.Uz,ab B7 147 [.map (some M8)],am bj bH M8 a0.Uk.Uy.at_,ab B9 118 [U A10 n10 c10,.map (some M11)],gQ A10 n10 c10 a0.Un.Un,am av dq M11 a0.Un.UB,cj A12 n12 c12 a0.UF,ik A13 n13 c13 a0.UH,cj A14 n14 c14 a0.UG]) (fun u post=> ∃A0 n0 c0 A1 n1 c1 A2 n2 c2 A3 n3 c3 M4 A5 n5 c5 M6 A7 n7 c7 A8 n8 c8 A9 n9 c9,u=(EN r.1)/\post=[ab B1 79 (iD r.2 B2 B9 A7 n7 c7 A8 n8 c8 A9 n9 c9),ab B2 99 [U A0 n0 c0,U A1 n1 c1,U A2 n2 c2,U A3 n3 c3,pV B7 0],aZ A0 n0 c0 r.2.Uk.m_.Uj,aZ A1 n1 c1 r.2.Uk.m_.Ul,aC A2 n2 c2 r.2.Uk.Ur,aC A3 n3 c3 r.2.Uk.Uz,ab B7 147 [.map (some M4)],am bj bH M4 r.2.Uk.Uy.at_,ab B9 118 [U A5 n5 c5,.map (some M6)],gQ A5 n5 c5 r.2.Un.Un,am av dq M6 r.2.Un.UB,cj A7 n7 c7 r.2.UF,ik A8 n8 c8 r.2.UH,cj A9 n9 c9 r.2.UG]):=by
 refine cA Tryz.func41 ?_;intro b3;refine sY ?_;refine fC (bD J Tf) ?_;refine cy J ?_;refine ac ?_;obtain ⟨s0,k,h⟩:=aa h;refine kD (oR (Bn k)) ?_;refine au (fun s L=> ∃e7,eg N a1 a2 a0 e7=some r/\s=[(0,pV B1 0),(1,iV a1),(2,iV a2),(6,pV b3 0),(7,.string e7)]/\L=[cj A12 n12 c12 a0.UF,ik A13 n13 c13 a0.UH,cj A14 n14 c14 a0.UG,ab B1 79 (iD a0 B2 B9 A12 n12 c12 A13 n13 c13 A14 n14 c14),ab b3 34 [iV 0,iV 0,iV 0,iV 0,.string (⟨#[]⟩)],aZ A3 n3 c3 a0.Uk.m_.Uj,aZ A4 n4 c4 a0.Uk.m_.Ul,aC A5 n5 c5 a0.Uk.Ur,aC A6 n6 c6 a0.Uk.Uz,ab B2 99 [U A3 n3 c3,U A4 n4 c4,U A5 n5 c5,U A6 n6 c6,pV B7 0],gQ A10 n10 c10 a0.Un.Un,am av dq M11 a0.Un.UB,ab B9 118 [U A10 n10 c10,.map (some M11)],am bj bH M8 a0.Uk.Uy.at_,ab B7 147 [.map (some M8)]]) ?_ ?_
 ·refine fw h ?_ ?_<;>intro h
  ·refine ac ?_;obtain ⟨s1,k,h⟩:=aa h;refine gV (oR (xa k)) ?_;obtain ⟨r3,h⟩:=ah h;refine gE (xL J J r3) ?_;obtain ⟨r4,h⟩:=ah h;refine fC (xL J J r4) ?_;exact jN
  exact jY
 rintro _ _ ⟨e7,h,rfl,rfl⟩;refine ac ?_;obtain ⟨a8,k,h⟩:=aa h;refine gD (oC (nR k)) ?_;rintro _ _ ⟨_,⟨m6,m7,m8,m9,o0,o1,o2,p0,p1,p2,p3,p4,p5,p6,p7,p8,q0,q1,q2,q3,q4,q5,q6,q7,q8,q9,rfl,rfl⟩,rfl⟩;refine ac ?_;refine au (fun s L=> ∃e8,cD N a2 a8 e8=some r/\s=[(0,pV B1 0),(2,iV a2),(6,pV b3 0),(8,iV e8)]/\L=[cj q1 q2 q3 a8.UF,ik q4 q5 q6 a8.UH,cj q7 q8 q9 a8.UG,ab B1 79 (iD a8 B2 B9 q1 q2 q3 q4 q5 q6 q7 q8 q9),ab b3 34 [iV 0,iV 0,iV 0,iV 0,.string (⟨#[]⟩)],aZ m6 m7 m8 a8.Uk.m_.Uj,aZ m9 o0 o1 a8.Uk.m_.Ul,aC o2 p0 p1 a8.Uk.Ur,aC p2 p3 p4 a8.Uk.Uz,ab B2 99 [U m6 m7 m8,U m9 o0 o1,U o2 p0 p1,U p2 p3 p4,pV B7 0],gQ p6 p7 p8 a8.Un.Un,am av dq q0 a8.Un.UB,ab B9 118 [U p6 p7 p8,.map (some q0)],am bj bH p5 a8.Uk.Uy.at_,ab B7 147 [.map (some p5)]]) ?_ ?_
 ·refine ac ?_;refine gS 3 35 32 h ?_;intro s2 h;refine fw h ?_ ?_<;>intro h
  ·refine ac ?_;obtain ⟨s3,h⟩:=ah h;exact jY
  exact jY
 rintro _ _ ⟨e8,h,rfl,rfl⟩;refine ac ?_;obtain ⟨s4,k,h⟩:=aa h;refine gD (oC (xU k)) ?_;rintro _ _ ⟨_,⟨s5,s6,s7,s8,rfl,rfl⟩,rfl⟩;refine sY ?_;refine gH J h ?_ ?_<;>intro h
 ·refine ac ?_;obtain ⟨s9,k,h⟩:=aa h;refine kD (oR (o8 k)) ?_;exact eN
 refine ac ?_;obtain ⟨b0,k,h⟩:=aa h;refine kD (oR (xa k)) ?_;intro r5;refine ac ?_;refine au (fun s L=> ∃e9 f1 f2 f3 f4 g0 g1 g2 g3 g4 g5 g6 g7 g8 g9 h0 h1 h2 h3 h4 h5 h6 h7 h8 h9 i0 i1 i2 i8 j0 j1 j2 j3 j4 j5 j6 j7 j8 j9 k0 k1 k2 k3 k4 k5 k6 k7 k8 k9 l0 l1 l2 l3 l4,lz N e9 f1 f2 f3 f4 g0 g1 g2 g3 g4 g5 g6 g7 g8 g9 h0 h1 h2 h3 h4 h5 h6 h7 h8 h9 i0 i1=some r/\s=[(0,pV B1 0),(6,pV b3 0),(12,pV i2 0),(13,.bool f3)]/\L=[ab i2 23 [iV e9,iV f1,.string f2],cj i8 j0 j1 g9,ik j2 j3 j4 h3,cj j5 j6 j7 h4,ab B1 79 [iV f4,iV g0,iV g1,iV g2,iV g3,iV g4,iV g5,iV g6,iV g7,iV g8,.nilIface,pV B2 0,pV B9 0,U i8 j0 j1,iV h0,iV h1,iV h2,U j2 j3 j4,U j5 j6 j7],ab b3 34 [iV 0,iV 0,iV 0,iV 0,.string (⟨#[]⟩)],aZ j8 j9 k0 h5,aZ k1 k2 k3 h6,aC k4 k5 k6 h7,aC k7 k8 k9 h8,ab B2 99 [U j8 j9 k0,U k1 k2 k3,U k4 k5 k6,U k7 k8 k9,pV B7 0],gQ l0 l1 l2 h9,am av dq l3 i0,ab B9 118 [U l0 l1 l2,.map (some l3)],am bj bH l4 i1,ab B7 147 [.map (some l4)]]) ?_ ?_
 ·refine bV I ([ab r5 23 [iV 5,iV 0,.string b0],ab b3 34 [iV 0,iV 0,iV 0,iV 0,.string (⟨#[]⟩)]]) (cS [0,8] 16) ?_;refine zY [0,1,2,3,4,6,8] ?_;refine i4 5 15 I ?_ ?_
  ·refine bh J (yo (bp 7 J J wG J)) J J J ?_;rintro _ _ ⟨rfl,rfl⟩;refine aA (cS [0,8] 16) ?_;refine i4 7 15 I ?_ ?_
   ·obtain ⟨b2,k,h⟩:=aa h;refine bh J (oR (cx k)) J J J ?_;rintro _ _ ⟨_,⟨rfl,rfl⟩,rfl⟩;refine aA (cS [0,8] 16) ?_;refine i4 9 15 I ?_ ?_
    ·refine bh J (az (R:=ap) (vss:=[[iV b2.Ui,iV b2.N,.string b2.S],[iV 5,iV 0,.string b0]]) (xs:=[b2,(⟨5,0,b0⟩:Ty)]) J (xf _ _ _ _ _ _) J J (fun _ _ hr=> .cons J (.cons J All2.nil))) J J J ?_;rintro _ _ ⟨t1,t2,u0,rfl,rfl⟩;refine aA (cS [1,9] 17) ?_;refine zE 10 J (bM J (bld_42_0_1_2_4 _ _ _ _ _ _).out) ?_;refine i4 11 15 I ?_ ?_
     ·refine sO (bv 0 J) (cS [1,9] 17) ?_;refine Kz ?_;obtain ⟨b5,k,h⟩:=aa h;refine sO (ip ap _) (cS [2,10] 18) ?_;refine bh J (oC (fi k)) J J J ?_;rintro _ _ ⟨_,⟨u1,u2,u3,b6,b7,b8,b9,d0,d1,d2,d3,d4,u4,u5,u6,u7,u8,u9,v1,v2,d6,e2,e3,e4,e5,e6,rfl,rfl⟩,rfl⟩;refine aA (cS [16,17] 18) ?_;refine aH ?_;refine zY [12,13,14] ?_;refine zD 15 J (bX zero23.out J) ?_;rintro _ _ ⟨v6,rfl,rfl⟩;refine aA (cS [17,18] 19) ?_;refine zO 16 J (aj (us:=[iV b5.1.Ui,iV b5.1.N,.string b5.1.S]) (cs':=[iV b5.1.Ui,iV b5.1.N,.string b5.1.S]) 0 J J J J size23.out J J J) ?_;rintro _ _ rfl;refine aA (cS [17,18] 19) ?_;refine aH ?_;refine zX [17] ?_;exact jY
     refine bh J (bX zero23.out J) J J J ?_;rintro _ _ ⟨v7,rfl,rfl⟩;refine aA (cS [2,10] 18) ?_;refine mD (bv 1 J) (cS [2,10] 18) ?_;refine aH ?_;obtain ⟨a6,a7,h⟩:=aa h;refine mD (ip ap _) (cS [3,11] 19) ?_;refine zD 11 J (oC (fi a7)) ?_;rintro _ _ ⟨_,⟨b6,b7,b8,b9,d0,d1,d2,d3,d4,l5,l6,l7,l8,l9,m0,m1,m2,d6,e2,e3,e4,e5,e6,m3,m4,m5,rfl,rfl⟩,rfl⟩;refine aA (cS [17,18] 19) ?_;refine aH ?_;refine zY [12,13,14] ?_;refine zO 16 J (aj (us:=[iV a6.1.Ui,iV a6.1.N,.string a6.1.S]) (cs':=[iV a6.1.Ui,iV a6.1.N,.string a6.1.S]) 15 J J J J size23.out J J J) ?_;rintro _ _ rfl;refine aA (cS [17,18] 19) ?_;refine aH ?_;refine zX [17] ?_;exact jY
    refine bh J (bX zero23.out J) J J J ?_;rintro _ _ ⟨v8,rfl,rfl⟩;refine aA (cS [1,9] 17) ?_;refine zD 9 J (az (R:=ap) (vss:=[[iV b2.Ui,iV b2.N,.string b2.S],[iV 5,iV 0,.string b0]]) (xs:=[b2,(⟨5,0,b0⟩:Ty)]) J (xf _ _ _ _ _ _) J J (fun _ _ hr=> .cons J (.cons J All2.nil))) ?_;rintro _ _ ⟨r0,r1,r2,rfl,rfl⟩;refine aA (cS [2,10] 18) ?_;refine zE 10 J (bM J (bld_42_0_1_2_4 _ _ _ _ _ _).out) ?_;refine mD (bv 0 J) (cS [2,10] 18) ?_;refine aH ?_;obtain ⟨a6,a7,h⟩:=aa h;refine mD (ip ap _) (cS [3,11] 19) ?_;refine zD 11 J (oC (fi a7)) ?_;rintro _ _ ⟨_,⟨b6,b7,b8,b9,d0,d1,d2,d3,d4,l5,l6,l7,l8,l9,m0,m1,m2,d6,e2,e3,e4,e5,e6,m3,m4,m5,rfl,rfl⟩,rfl⟩;refine aA (cS [17,18] 19) ?_;refine aH ?_;refine zY [12,13,14] ?_;refine zO 16 J (aj (us:=[iV a6.1.Ui,iV a6.1.N,.string a6.1.S]) (cs':=[iV a6.1.Ui,iV a6.1.N,.string a6.1.S]) 16 J J J J size23.out J J J) ?_;rintro _ _ rfl;refine aA (cS [17,18] 19) ?_;refine aH ?_;refine zX [17] ?_;exact jY
   refine bh J (bX zero23.out J) J J J ?_;rintro _ _ ⟨r6,rfl,rfl⟩;refine aA (cS [1,9] 17) ?_;obtain ⟨b1,b4,h⟩:=aa h;refine zD 7 J (oR (cx b4)) ?_;rintro _ _ ⟨_,⟨rfl,rfl⟩,rfl⟩;refine aA (cS [1,9] 17) ?_;refine zD 9 J (az (R:=ap) (vss:=[[iV b1.Ui,iV b1.N,.string b1.S],[iV 5,iV 0,.string b0]]) (xs:=[b1,(⟨5,0,b0⟩:Ty)]) J (xf _ _ _ _ _ _) J J (fun _ _ hr=> .cons J (.cons J All2.nil))) ?_;rintro _ _ ⟨r0,r1,r2,rfl,rfl⟩;refine aA (cS [2,10] 18) ?_;refine zE 10 J (bM J (bld_42_0_1_2_4 _ _ _ _ _ _).out) ?_;refine mD (bv 0 J) (cS [2,10] 18) ?_;refine aH ?_;obtain ⟨a6,a7,h⟩:=aa h;refine mD (ip ap _) (cS [3,11] 19) ?_;refine zD 11 J (oC (fi a7)) ?_;rintro _ _ ⟨_,⟨b6,b7,b8,b9,d0,d1,d2,d3,d4,l5,l6,l7,l8,l9,m0,m1,m2,d6,e2,e3,e4,e5,e6,m3,m4,m5,rfl,rfl⟩,rfl⟩;refine aA (cS [17,18] 19) ?_;refine aH ?_;refine zY [12,13,14] ?_;refine zO 16 J (aj (us:=[iV a6.1.Ui,iV a6.1.N,.string a6.1.S]) (cs':=[iV a6.1.Ui,iV a6.1.N,.string a6.1.S]) 16 J J J J size23.out J J J) ?_;rintro _ _ rfl;refine aA (cS [17,18] 19) ?_;refine aH ?_;refine zX [17] ?_;exact jY
  refine bh J (bX zero23.out J) J J J ?_;rintro _ _ ⟨r6,rfl,rfl⟩;refine aA (cS [1,9] 17) ?_;refine zD 5 J (yo (bp 8 J J wG J)) ?_;rintro _ _ ⟨rfl,rfl⟩;refine aA (cS [1,9] 17) ?_;obtain ⟨b1,b4,h⟩:=aa h;refine zD 7 J (oR (cx b4)) ?_;rintro _ _ ⟨_,⟨rfl,rfl⟩,rfl⟩;refine aA (cS [1,9] 17) ?_;refine zD 9 J (az (R:=ap) (vss:=[[iV b1.Ui,iV b1.N,.string b1.S],[iV 5,iV 0,.string b0]]) (xs:=[b1,(⟨5,0,b0⟩:Ty)]) J (xf _ _ _ _ _ _) J J (fun _ _ hr=> .cons J (.cons J All2.nil))) ?_;rintro _ _ ⟨r0,r1,r2,rfl,rfl⟩;refine aA (cS [2,10] 18) ?_;refine zE 10 J (bM J (bld_42_0_1_2_4 _ _ _ _ _ _).out) ?_;refine mD (bv 0 J) (cS [2,10] 18) ?_;refine aH ?_;obtain ⟨a6,a7,h⟩:=aa h;refine mD (ip ap _) (cS [3,11] 19) ?_;refine zD 11 J (oC (fi a7)) ?_;rintro _ _ ⟨_,⟨b6,b7,b8,b9,d0,d1,d2,d3,d4,l5,l6,l7,l8,l9,m0,m1,m2,d6,e2,e3,e4,e5,e6,m3,m4,m5,rfl,rfl⟩,rfl⟩;refine aA (cS [17,18] 19) ?_;refine aH ?_;refine zY [12,13,14] ?_;refine zO 16 J (aj (us:=[iV a6.1.Ui,iV a6.1.N,.string a6.1.S]) (cs':=[iV a6.1.Ui,iV a6.1.N,.string a6.1.S]) 16 J J J J size23.out J J J) ?_;rintro _ _ rfl;refine aA (cS [17,18] 19) ?_;refine aH ?_;refine zX [17] ?_;exact jY
 rintro _ _ ⟨e9,f1,f2,f3,f4,g0,g1,g2,g3,g4,g5,g6,g7,g8,g9,h0,h1,h2,h3,h4,h5,h6,h7,h8,h9,i0,i1,i2,i8,j0,j1,j2,j3,j4,j5,j6,j7,j8,j9,k0,k1,k2,k3,k4,k5,k6,k7,k8,k9,l0,l1,l2,l3,l4,h,rfl,rfl⟩;refine sZ ?_;refine gH J h ?_ ?_<;>intro h
 ·refine ac ?_;obtain ⟨w1,k,h⟩:=aa h;refine kD (oR (o8 k)) ?_;exact eN
 exact eY
def dw (N:Nat)(a0:TC):Option TZ:=
 be (bJ (([]:List TG).length+a0.UH.length)) (some (([]:List TG)++a0.UH))
theorem o9 {N:Nat}{a0:TC}{r:TZ}(h:dw N a0=some r):Okc Ua 25 [pV B1 0] ([ar B1 79 (iD a0 B2 B9 A12 n12 c12 A13 n13 c13 A14 n14 c14),ar B2 99 [U A3 n3 c3,U A4 n4 c4,U A5 n5 c5,U A6 n6 c6,pV B7 0],bf A3 n3 c3 a0.Uk.m_.Uj,bf A4 n4 c4 a0.Uk.m_.Ul,bc A5 n5 c5 a0.Uk.Ur,bc A6 n6 c6 a0.Uk.Uz,ar B7 147 [.map (some M8)],dk bj bH M8 a0.Uk.Uy.at_,ar B9 118 [U A10 n10 c10,.map (some M11)],om A10 n10 c10 a0.Un.Un,dk av dq M11 a0.Un.UB,gz A12 n12 c12 a0.UF,fX A13 n13 c13 a0.UH,gz A14 n14 c14 a0.UG]) (fun u post=> ∃A0 n0 c0,u=U A0 n0 c0/\post=[ik A0 n0 c0 r]):=by
 refine cA Tryz.func25 ?_;refine sZ ?_;refine fC (bD J Tf) ?_;refine cy J ?_;refine ac ?_;refine nX (aU mI 84 _) ?_;obtain ⟨a1,h⟩:=ah h
 refine nk (ay 0 13 J J aM J J z9 F6 J J a1) fun a2 a6 a7=> ?_
 exact eN
def ez (N:Nat)(a0:TC):Option Int:=
 some a0.UA.UT
theorem qL {N:Nat}{a0:TC}{r:Int}(h:ez N a0=some r):Okc Ua 28 [pV B1 0] ([ar B1 79 (iD a0 B2 B9 A12 n12 c12 A13 n13 c13 A14 n14 c14),ar B2 99 [U A3 n3 c3,U A4 n4 c4,U A5 n5 c5,U A6 n6 c6,pV B7 0],bf A3 n3 c3 a0.Uk.m_.Uj,bf A4 n4 c4 a0.Uk.m_.Ul,bc A5 n5 c5 a0.Uk.Ur,bc A6 n6 c6 a0.Uk.Uz,ar B7 147 [.map (some M8)],dk bj bH M8 a0.Uk.Uy.at_,ar B9 118 [U A10 n10 c10,.map (some M11)],om A10 n10 c10 a0.Un.Un,dk av dq M11 a0.Un.UB,gz A12 n12 c12 a0.UF,fX A13 n13 c13 a0.UH,gz A14 n14 c14 a0.UG]) (fun u post=>u=iV r/\post=[]):=by
 refine cA Tryz.func28 ?_;refine sZ ?_;refine fC (bD J Tf) ?_;refine cy J ?_;exact eY
def jf (N:Nat):Option Bool:=
 (jo N (⟨0,1,1,3,0,0,0⟩:Tx)).bind fun y1=>CF y1 (fun y1_0=>some false) (fun y1_1=>bif !decide (y1_1.2=0) then (some false) else ((fH N y1_1.1).bind fun a2=>bif !a2.1 then (some false) else ((fH N a2.2).bind fun a6=>bif a6.1 then (some false) else ((dI N a6.2 1 1).bind fun a1=>(dw N a1.2).bind fun a7=>(bif decide (a1.1.Ui=1) then (some (decide ((a7.length:Int)=1))) else (some false)).bind fun a8=>(bif a8 then ((aw a7 0).bind fun b0=>some (b0.S.toList==(⟨#[84,121,112,101,69,114,114,111,114,58,32,110,111,116,32,99,97,108,108,97,98,108,101]⟩:ByteArray).toList)) else (some false)).bind fun b1=>(bif b1 then ((ez N a1.2).bind fun b2=>some (decide (b2=1))) else (some false)).bind fun b3=>(bif b3 then ((aI N a1.2 a1.1.Value).bind fun b4=>some (decide (b4.Uv=9))) else (some false)).bind fun b5=>some b5))))
theorem uC {N:Nat}{r:Bool}(h:jf N=some r):Okc Ua 13 [] ([]) (fun u post=>u=.bool r/\post=[]):=by
 refine cA Tryz.func13 ?_;obtain ⟨y1,b5,h⟩:=aa h;rcases y1 with y1_0|y1_1
 ·replace h:=Iu h;refine kD (oC (qY b5)) ?_;refine sZ ?_;refine fC (bD J Tf) ?_;refine cK J ?_;exact eY
 replace h:=It h;refine gD (oC (qY b5)) ?_;rintro _ _ ⟨_,⟨B2,B3,A4,n4,c4,A5,n5,c5,A6,n6,c6,A7,n7,c7,B8,M9,c0,c8,c9,d0,d1,A13,n13,c13,A14,n14,c14,A15,n15,c15,rfl,rfl⟩,rfl⟩;refine sY ?_;refine fC (bD J Tf) ?_;refine aP 16 J (fun b0=> ?_) (fun b0=> ?_)
 ·replace h:=aE b0 h;refine ac ?_;refine cK J ?_;exact eY
 replace h:=aF b0 h;refine ac ?_;obtain ⟨d2,k,h⟩:=aa h;refine Fa (oC (mY k)) J (fN b0 J) J ?_;rintro _ _ ⟨_,⟨d3,d4,d6,e2,e3,e4,e5,e6,e7,e8,e9,f1,f2,f3,f4,g0,g1,g2,g3,g4,g5,g6,g7,g8,g9,h0,rfl,rfl⟩,rfl⟩;refine ac ?_;refine aP 21 J (fun b1=> ?_) (fun b1=> ?_)
 ·replace h:=aE b1 h;refine ac ?_;refine cK J ?_;exact eY
 replace h:=aF b1 h;refine ac ?_;obtain ⟨h1,k,h⟩:=aa h;refine Fa (oC (mY k)) J (fN b1 J) J ?_;rintro _ _ ⟨_,⟨h2,h3,h4,h5,h6,h7,h8,h9,i0,i1,i2,i8,j0,j1,j2,j3,j4,j5,j6,j7,j8,j9,k0,k1,k2,k3,rfl,rfl⟩,rfl⟩;refine fw h ?_ ?_<;>intro h
 ·exact eY
 refine ac ?_;obtain ⟨k4,k,h⟩:=aa h;refine gD (oC (pT k)) ?_;rintro _ _ ⟨_,⟨k5,k6,k7,k8,k9,l0,l1,l2,l3,l4,l5,l6,l7,l8,l9,m0,m1,m2,m3,m4,m5,m6,m7,m8,m9,n0,rfl,rfl⟩,rfl⟩
 refine jg fun n8=> ?_
 obtain ⟨n9,k,h⟩:=aa h
 refine nk (oR (o9 k)) fun o0 o1 o2=> ?_
 refine gS 4 36 32 h ?_;intro p0 h;refine ac ?_;obtain ⟨b6,a1,h⟩:=aa h;refine aR 6 43 b6 ?_ ?_
 ·clear h;refine aP 37 J (fun a2=> ?_) (fun a2=> ?_)
  ·have h:=aE a2 a1;refine ac ?_;obtain ⟨p1,b3,b4,b7,h⟩:=bz h;refine ac ?_;refine vR (sW 0 J aB J (bR b3 b4) IV) J (cB a2 J) J ?_;refine ac ?_;refine qk (wY J J) J (cB a2 J) J ?_;exact gY
  have h:=aF a2 a1;exact gY
 refine ac ?_;obtain ⟨b8,a6,h⟩:=aa h;refine aR 4 48 b8 ?_ ?_
 ·clear h;refine aP 44 J (fun b2=> ?_) (fun b2=> ?_)
  ·have h:=aE b2 a6;refine ac ?_;obtain ⟨p2,k,h⟩:=aa h;refine gU (oR (qL k)) (cB b2 J) ?_;exact gY
  have h:=aF b2 a6;exact gY
 refine ac ?_;obtain ⟨b9,a7,h⟩:=aa h;refine aR 7 56 b9 ?_ ?_
 ·clear h;refine aP 49 J (fun a8=> ?_) (fun a8=> ?_)
  ·have h:=aE a8 a7;refine ac ?_;obtain ⟨p3,k,h⟩:=aa h;refine Fa (oR (ce k)) J (cB a8 J) J ?_;rintro _ _ ⟨_,⟨p4,p5,p6,p7,p8,q0,rfl,rfl⟩,rfl⟩;refine qk (qc J (LD _ _ _ _ _ _ _ _ _ _)) J (cB a8 J) J ?_;exact gY
  have h:=aF a8 a7;exact gY
 exact eY
theorem rz {r:Bool}: ∀v post,((fun (u:Value) (post:List Chunk)=>u=.bool r/\post=[])) v post-> ∀c∈post,jP c:=by
 rintro _ _ ⟨rfl,rfl⟩;exact aD
def zi (N:Nat)(a0:Tp):Option Bool:=
 some (decide ((a0.L.length:Int)<=40))
def qR (N:Nat)(a0:Tp):Nat->Int->Option Bool
 |0,_=>none
 |m4+1,p5=>bif decide (p5<(a0.L.length:Int)) then ((aw a0.L p5).bind fun x7=>(bif decide (x7<(-9007199254740992)) then (some true) else ((aw a0.L p5).bind fun x9=>some (decide (9007199254740992<x9)))).bind fun b8=>bif b8 then (some false) else (be (in64 (p5+1)) ((qR N a0 m4) (p5+1)))) else (zi N a0)
def sM (N:Nat)(a0:Tp):Option Bool:=
 qR N a0 N 0
theorem Fg {N:Nat}{a0:Tp}{r:Bool}(h:sM N a0=some r):Okc Ua 22 [.agg #[iV a0.Ui,iV a0.N,iV a0.M,.string a0.S,U A1 n1 c1]] ([db A1 n1 c1 a0.L]) (fun u post=>u=.bool r/\post=[]):=by
 refine Dc Tryz.func22 J J ?_;simp only [qN];refine Y ?_
 refine gB (tz J J) fun B2=> ?_
 refine Y ?_;refine au (fun s L=>zi N a0=some r/\s=[(1,pV B2 0),(2,.bool false)]/\L=[db A1 n1 c1 a0.L,ab B2 53 [iV a0.Ui,iV a0.N,iV a0.M,.string a0.S,U A1 n1 c1]]) ?_ ?_
 ·refine Y ?_;refine aY (fun m s L=> ∃p5,qR N a0 m p5=some r/\s=[(1,pV B2 0),(2,.bool false),(3,iV p5)]/\L=[db A1 n1 c1 a0.L,ab B2 53 [iV a0.Ui,iV a0.N,iV a0.M,.string a0.S,U A1 n1 c1]]) N _ _ ⟨0,h,J,J⟩ sA (cS [1,0] 2) ?_;rintro (_|m4) _ _ ⟨p5,h,rfl,rfl⟩
  ·exact ao h
  rw [qR.eq_2] at h;refine aG ?_;refine Y ?_;refine gR (ki 0 J aM J t5) ?_;refine Y ?_;refine gH J h ?_ ?_<;>intro h
  ·refine Y ?_;refine aG ?_;refine Y ?_;obtain ⟨x7,a6,a7,a8,h⟩:=bz h;refine gR (fA 0 J aM J J t5 size3.out a6 a7) ?_;refine gR (gX (u:=iV x7) 0 J aM J a8 oH (fun _ _ _ h=>by rw [show _=_ from h];rfl)) ?_;refine Y ?_;obtain ⟨b8,a1,h⟩:=aa h;refine aR 7 24 b8 ?_ ?_
   ·clear h;refine aP 17 J (fun g8=> ?_) (fun g8=> ?_)
    ·have h:=aE g8 a1;refine Y ?_;obtain rfl:=bS h;exact cJ sA (cS [0,1] 2)
    have h:=aF g8 a1;refine Y ?_;obtain ⟨x9,b0,b1,b2,h⟩:=bz h;refine vR (fA 0 J aM J J t5 size3.out b0 b1) J (fN g8 J) J ?_;refine vR (gX (u:=iV x9) 0 J aM J b2 oH (fun _ _ _ h=>by rw [show _=_ from h];rfl)) J (fN g8 J) J ?_;refine Y ?_;obtain rfl:=bS h;exact cJ sA (cS [0,1] 2)
   refine Y ?_;refine gH J h ?_ ?_<;>intro h
   ·refine Y ?_;obtain rfl:=bS h;exact sr J J (cS [] 2) ⟨J,J⟩
   refine Y ?_;obtain ⟨a2,h⟩:=ah h;refine gE (dL J J a2.1 a2.2) ?_;refine Y ?_;exact ⟨m4,_,_,TR _,⟨p5+1,h,J,J⟩,sA,cS [0,1] 2⟩
  refine Y ?_;exact ⟨_,_,⟨h,J,J⟩,sA,cS [0,1] 2⟩
 rintro _ _ ⟨h,rfl,rfl⟩;refine Y ?_;refine gR (ki 0 J aM J t5) ?_;refine Y ?_;obtain rfl:=bS h;exact sr J J (cS [] 2) ⟨J,J⟩
theorem Cy {r:Bool}: ∀v post,((fun (u:Value) (post:List Chunk)=>u=.bool r/\post=[])) v post-> ∀c∈post,jP c:=by
 rintro _ _ ⟨rfl,rfl⟩;exact aD
def jV (N:Nat)(a0:TC):Option (Bool×TC):=
 bif decide (a0.Us.Uq<=a0.UA.UU) then (some (false,a0)) else (be (in64 (a0.UA.UU+1)) (some (true,(⟨(⟨a0.UA.UV,a0.UA.UT,a0.UA.UU+1⟩:TL),a0.Us,(),a0.Uk,a0.Un,a0.UF,a0.UO,a0.UP,a0.UQ,a0.UH,a0.UG⟩:TC))))
theorem wu {N:Nat}{a0:TC}{r:Bool×TC}(h:jV N a0=some r):Okc Ua 59 [pV B1 0] ([ab B1 79 (iD a0 B2 B9 A12 n12 c12 A13 n13 c13 A14 n14 c14),ab B2 99 [U A3 n3 c3,U A4 n4 c4,U A5 n5 c5,U A6 n6 c6,pV B7 0],aZ A3 n3 c3 a0.Uk.m_.Uj,aZ A4 n4 c4 a0.Uk.m_.Ul,aC A5 n5 c5 a0.Uk.Ur,aC A6 n6 c6 a0.Uk.Uz,ab B7 147 [.map (some M8)],am bj bH M8 a0.Uk.Uy.at_,ab B9 118 [U A10 n10 c10,.map (some M11)],gQ A10 n10 c10 a0.Un.Un,am av dq M11 a0.Un.UB,cj A12 n12 c12 a0.UF,ik A13 n13 c13 a0.UH,cj A14 n14 c14 a0.UG]) (fun u post=> ∃A0 n0 c0 A1 n1 c1 A2 n2 c2 A3 n3 c3 M4 A5 n5 c5 M6 A7 n7 c7 A8 n8 c8 A9 n9 c9,u=.bool r.1/\post=[ab B1 79 (iD r.2 B2 B9 A7 n7 c7 A8 n8 c8 A9 n9 c9),ab B2 99 [U A0 n0 c0,U A1 n1 c1,U A2 n2 c2,U A3 n3 c3,pV B7 0],aZ A0 n0 c0 r.2.Uk.m_.Uj,aZ A1 n1 c1 r.2.Uk.m_.Ul,aC A2 n2 c2 r.2.Uk.Ur,aC A3 n3 c3 r.2.Uk.Uz,ab B7 147 [.map (some M4)],am bj bH M4 r.2.Uk.Uy.at_,ab B9 118 [U A5 n5 c5,.map (some M6)],gQ A5 n5 c5 r.2.Un.Un,am av dq M6 r.2.Un.UB,cj A7 n7 c7 r.2.UF,ik A8 n8 c8 r.2.UH,cj A9 n9 c9 r.2.UG]):=by
 refine cA Tryz.func59 ?_;refine aG ?_;refine dY [] ?_;refine ac ?_;refine zE 1 J (bD J Tf) ?_;refine fw h ?_ ?_<;>intro h
 ·exact eY
 refine ac ?_;obtain ⟨a1,h⟩:=ah h;exact eY
def jU (N:Nat)(a0:TC):Option TC:=
 bif decide (0<a0.UA.UU) then (be (in64 (a0.UA.UU - 1)) (some (⟨(⟨a0.UA.UV,a0.UA.UT,a0.UA.UU - 1⟩:TL),a0.Us,(),a0.Uk,a0.Un,a0.UF,a0.UO,a0.UP,a0.UQ,a0.UH,a0.UG⟩:TC))) else (some a0)
theorem wr {N:Nat}{a0:TC}{r:TC}(h:jU N a0=some r):Okc Ua 60 [pV B1 0] ([ab B1 79 (iD a0 B2 B9 A12 n12 c12 A13 n13 c13 A14 n14 c14),ab B2 99 [U A3 n3 c3,U A4 n4 c4,U A5 n5 c5,U A6 n6 c6,pV B7 0],aZ A3 n3 c3 a0.Uk.m_.Uj,aZ A4 n4 c4 a0.Uk.m_.Ul,aC A5 n5 c5 a0.Uk.Ur,aC A6 n6 c6 a0.Uk.Uz,ab B7 147 [.map (some M8)],am bj bH M8 a0.Uk.Uy.at_,ab B9 118 [U A10 n10 c10,.map (some M11)],gQ A10 n10 c10 a0.Un.Un,am av dq M11 a0.Un.UB,cj A12 n12 c12 a0.UF,ik A13 n13 c13 a0.UH,cj A14 n14 c14 a0.UG]) (fun u post=> ∃A0 n0 c0 A1 n1 c1 A2 n2 c2 A3 n3 c3 M4 A5 n5 c5 M6 A7 n7 c7 A8 n8 c8 A9 n9 c9,u=.tuple #[]/\post=[ab B1 79 (iD r B2 B9 A7 n7 c7 A8 n8 c8 A9 n9 c9),ab B2 99 [U A0 n0 c0,U A1 n1 c1,U A2 n2 c2,U A3 n3 c3,pV B7 0],aZ A0 n0 c0 r.Uk.m_.Uj,aZ A1 n1 c1 r.Uk.m_.Ul,aC A2 n2 c2 r.Uk.Ur,aC A3 n3 c3 r.Uk.Uz,ab B7 147 [.map (some M4)],am bj bH M4 r.Uk.Uy.at_,ab B9 118 [U A5 n5 c5,.map (some M6)],gQ A5 n5 c5 r.Un.Un,am av dq M6 r.Un.UB,cj A7 n7 c7 r.UF,ik A8 n8 c8 r.UH,cj A9 n9 c9 r.UG]):=by
 refine cA Tryz.func60 ?_;refine fC (kr J Tf) ?_;refine gH J h ?_ ?_<;>intro h
 ·refine ac ?_;obtain ⟨a1,h⟩:=ah h;exact eY
 exact eY
def vU (N:Nat):Option TB:=
 some (⟨1,0,1,0,([(⟨1,0,⟨#[]⟩⟩:Ty)]:List Ty),[]⟩:TB)
theorem Fh {N:Nat}{r:TB}(h:vU N=some r):Okc Ua 62 [] ([]) (fun u post=> ∃A0 n0 c0 A1 n1 c1,u=.agg #[iV r.Ui,iV r.Uw,iV r.Uv,iV r.Ux,U A0 n0 c0,U A1 n1 c1]/\post=[aC A0 n0 c0 r.Uo,aC A1 n1 c1 r.Um]):=by
 refine cA Tryz.func62 ?_;intro B1;refine ac ?_
 refine nk (az (R:=ap) (vss:=[[iV 1,iV 0,.string (⟨#[]⟩)]]) (xs:=[(⟨1,0,⟨#[]⟩⟩:Ty)]) J (qh _ _ _) J J (fun _ _ hr=> .cons J All2.nil)) fun A2 n2 c2=> ?_
 obtain rfl:=bS h;exact fR (rs:=[.cell 0 42]) (vs:=[.agg #[iV 1,iV 0,iV 1,iV 0,U A2 n2 c2,U none 0 0]]) J (.cons (bo 1 J J agg42.out) .nil) J ((aU ap 23 _).trans (cS [1,0] 3)) ⟨_,_,_,_,_,_,J,J⟩
def jj (N:Nat)(a0:TC)(a1:ByteArray):Option (Ty×TC):=
 be (bJ (a0.UF.length+([a1]:List ByteArray).length)) (be (in64 (3+((a0.UF++([a1]:List ByteArray)).length:Int))) (be (in64 ((3+((a0.UF++([a1]:List ByteArray)).length:Int)) - 1)) (some ((⟨6,(3+((a0.UF++([a1]:List ByteArray)).length:Int)) - 1,⟨#[]⟩⟩:Ty),(⟨a0.UA,a0.Us,(),a0.Uk,a0.Un,a0.UF++([a1]:List ByteArray),a0.UO,a0.UP,a0.UQ,a0.UH,a0.UG⟩:TC)))))
theorem vL {N:Nat}{a0:TC}{a1:ByteArray}{r:Ty×TC}(h:jj N a0 a1=some r):Okc Ua 63 [pV B1 0,.string a1] ([ab B1 79 (iD a0 B2 B9 A12 n12 c12 A13 n13 c13 A14 n14 c14),ab B2 99 [U A3 n3 c3,U A4 n4 c4,U A5 n5 c5,U A6 n6 c6,pV B7 0],aZ A3 n3 c3 a0.Uk.m_.Uj,aZ A4 n4 c4 a0.Uk.m_.Ul,aC A5 n5 c5 a0.Uk.Ur,aC A6 n6 c6 a0.Uk.Uz,ab B7 147 [.map (some M8)],am bj bH M8 a0.Uk.Uy.at_,ab B9 118 [U A10 n10 c10,.map (some M11)],gQ A10 n10 c10 a0.Un.Un,am av dq M11 a0.Un.UB,cj A12 n12 c12 a0.UF,ik A13 n13 c13 a0.UH,cj A14 n14 c14 a0.UG]) (fun u post=> ∃A0 n0 c0 A1 n1 c1 A2 n2 c2 A3 n3 c3 M4 A5 n5 c5 M6 A7 n7 c7 A8 n8 c8 A9 n9 c9,u=.agg #[iV r.1.Ui,iV r.1.N,.string r.1.S]/\post=[ab B1 79 (iD r.2 B2 B9 A7 n7 c7 A8 n8 c8 A9 n9 c9),ab B2 99 [U A0 n0 c0,U A1 n1 c1,U A2 n2 c2,U A3 n3 c3,pV B7 0],aZ A0 n0 c0 r.2.Uk.m_.Uj,aZ A1 n1 c1 r.2.Uk.m_.Ul,aC A2 n2 c2 r.2.Uk.Ur,aC A3 n3 c3 r.2.Uk.Uz,ab B7 147 [.map (some M4)],am bj bH M4 r.2.Uk.Uy.at_,ab B9 118 [U A5 n5 c5,.map (some M6)],gQ A5 n5 c5 r.2.Un.Un,am av dq M6 r.2.Un.UB,cj A7 n7 c7 r.2.UF,ik A8 n8 c8 r.2.UH,cj A9 n9 c9 r.2.UG]):=by
 refine cA Tryz.func63 ?_;intro a6;refine sY ?_;refine fC (bD J Tf) ?_;refine cy J ?_;refine ac ?_;refine gD (az (R:=qu) (vss:=[[.string a1]]) (xs:=[a1]) J (qg _) J J (fun _ _ hr=> .cons J All2.nil)) ?_;rintro _ _ ⟨A16,n16,c16,rfl,rfl⟩;obtain ⟨a2,h⟩:=ah h
 refine nk (ay 13 0 J J aB J J Ex Hk J J a2) fun a7 a8 b0=> ?_
 obtain ⟨b1,h⟩:=ah h;refine ac ?_;obtain ⟨b2,h⟩:=ah h;exact eY
def jS (N:Nat)(a0:TC):Option TC:=
 be (in64 (a0.UO+1)) (some (⟨a0.UA,a0.Us,(),a0.Uk,a0.Un,a0.UF,a0.UO+1,a0.UP,a0.UQ,a0.UH,a0.UG⟩:TC))
theorem wn {N:Nat}{a0:TC}{r:TC}(h:jS N a0=some r):Okc Ua 64 [pV B1 0] ([ab B1 79 (iD a0 B2 B9 A12 n12 c12 A13 n13 c13 A14 n14 c14),ab B2 99 [U A3 n3 c3,U A4 n4 c4,U A5 n5 c5,U A6 n6 c6,pV B7 0],aZ A3 n3 c3 a0.Uk.m_.Uj,aZ A4 n4 c4 a0.Uk.m_.Ul,aC A5 n5 c5 a0.Uk.Ur,aC A6 n6 c6 a0.Uk.Uz,ab B7 147 [.map (some M8)],am bj bH M8 a0.Uk.Uy.at_,ab B9 118 [U A10 n10 c10,.map (some M11)],gQ A10 n10 c10 a0.Un.Un,am av dq M11 a0.Un.UB,cj A12 n12 c12 a0.UF,ik A13 n13 c13 a0.UH,cj A14 n14 c14 a0.UG]) (fun u post=> ∃A0 n0 c0 A1 n1 c1 A2 n2 c2 A3 n3 c3 M4 A5 n5 c5 M6 A7 n7 c7 A8 n8 c8 A9 n9 c9,u=.tuple #[]/\post=[ab B1 79 (iD r B2 B9 A7 n7 c7 A8 n8 c8 A9 n9 c9),ab B2 99 [U A0 n0 c0,U A1 n1 c1,U A2 n2 c2,U A3 n3 c3,pV B7 0],aZ A0 n0 c0 r.Uk.m_.Uj,aZ A1 n1 c1 r.Uk.m_.Ul,aC A2 n2 c2 r.Uk.Ur,aC A3 n3 c3 r.Uk.Uz,ab B7 147 [.map (some M4)],am bj bH M4 r.Uk.Uy.at_,ab B9 118 [U A5 n5 c5,.map (some M6)],gQ A5 n5 c5 r.Un.Un,am av dq M6 r.Un.UB,cj A7 n7 c7 r.UF,ik A8 n8 c8 r.UH,cj A9 n9 c9 r.UG]):=by
 refine cA Tryz.func64 ?_;refine fC (kr J Tf) ?_;refine cK J ?_;refine ac ?_;obtain ⟨a1,h⟩:=ah h;exact eY
def jn (N:Nat)(a0:TC)(a1:Int):Option TC:=
 some (⟨a0.UA,a0.Us,(),a0.Uk,a0.Un,a0.UF,a0.UO,a0.UP,(IntKind.i64.wrap (a0.UQ+a1)),a0.UH,a0.UG⟩:TC)
theorem vP {N:Nat}{a0:TC}{a1:Int}{r:TC}(h:jn N a0 a1=some r):Okc Ua 65 [pV B1 0,iV a1] ([ab B1 79 (iD a0 B2 B9 A12 n12 c12 A13 n13 c13 A14 n14 c14),ab B2 99 [U A3 n3 c3,U A4 n4 c4,U A5 n5 c5,U A6 n6 c6,pV B7 0],aZ A3 n3 c3 a0.Uk.m_.Uj,aZ A4 n4 c4 a0.Uk.m_.Ul,aC A5 n5 c5 a0.Uk.Ur,aC A6 n6 c6 a0.Uk.Uz,ab B7 147 [.map (some M8)],am bj bH M8 a0.Uk.Uy.at_,ab B9 118 [U A10 n10 c10,.map (some M11)],gQ A10 n10 c10 a0.Un.Un,am av dq M11 a0.Un.UB,cj A12 n12 c12 a0.UF,ik A13 n13 c13 a0.UH,cj A14 n14 c14 a0.UG]) (fun u post=> ∃A0 n0 c0 A1 n1 c1 A2 n2 c2 A3 n3 c3 M4 A5 n5 c5 M6 A7 n7 c7 A8 n8 c8 A9 n9 c9,u=.tuple #[]/\post=[ab B1 79 (iD r B2 B9 A7 n7 c7 A8 n8 c8 A9 n9 c9),ab B2 99 [U A0 n0 c0,U A1 n1 c1,U A2 n2 c2,U A3 n3 c3,pV B7 0],aZ A0 n0 c0 r.Uk.m_.Uj,aZ A1 n1 c1 r.Uk.m_.Ul,aC A2 n2 c2 r.Uk.Ur,aC A3 n3 c3 r.Uk.Uz,ab B7 147 [.map (some M4)],am bj bH M4 r.Uk.Uy.at_,ab B9 118 [U A5 n5 c5,.map (some M6)],gQ A5 n5 c5 r.Un.Un,am av dq M6 r.Un.UB,cj A7 n7 c7 r.UF,ik A8 n8 c8 r.UH,cj A9 n9 c9 r.UG]):=by
 refine cA Tryz.func65 ?_;refine fC (kr J Tf) ?_;refine cK J ?_;refine ac ?_;refine fC (I5 J J) ?_;exact eN
end Go.Proofs.YtjmonlcchlkdhaaGreat