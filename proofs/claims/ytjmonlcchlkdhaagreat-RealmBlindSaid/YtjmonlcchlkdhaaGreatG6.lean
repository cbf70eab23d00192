/- Merged texts: part 6. No conditions of their own. -/
import Derived.Test.YtjmonlcchlkdhaaGreatG5
set_option maxHeartbeats 4000000
namespace Go.Proofs.YtjmonlcchlkdhaaGreat
variable {A1 A10 A12 A13 A14 A15 A16 A2 A3 A4 A5 A6:Option Addr} {B1 B2 B6 B7 B8 B9 M11 M3 M7 M8 c1 c10 c12 c13 c14 c15 c16 c2 c3 c4 c5 c6 n1 n10 n12 n13 n14 n15 n16 n2 n3 n4 n5 n6:Nat}
open Go.RowKit Asn
set_option maxRecDepth 20000
def dN (N:Nat)(a0:RG)(p13:RS)(a2:RS)(a6:RJ)(a7:RJ)(a1:Int):Option (Int×RG):=
 bif !decide (a1=0) then (some (a1,a0)) else none
def fO (N:Nat)(a1:RS)(p21:RS)(a0:RG)(a2:RJ)(a6:RJ):Option (Int×RG):=
 (cL N a0.So (⟨a1,p21⟩:Rp)).bind fun a7=>some (0,(⟨(⟨a1,p21⟩:Rp),a2,a6,a7⟩:RG))
def dM (N:Nat)(a0:RG)(a2:RS)(p21:RS)(a1:RJ)(a6:RJ):Option (Int×RG):=
 bn ((0:Int)<=(a0.Si.length:Int)/\0<=(a0.Si.length:Int).toNat/\(a0.Si.length:Int).toNat<=a1.length) (bn ((0:Int)<=(a0.Si.length:Int)/\(a0.Si.length:Int).toNat<=a1.length/\a1.length<=a1.length) ((cF N ((a1.drop 0).take ((a0.Si.length:Int).toNat - 0))).bind fun a7=>(bX N ((a1.drop ((a0.Si.length:Int).toNat)).take (a1.length - (a0.Si.length:Int).toNat)) a6).bind fun a8=>fO N a2 p21 a0 a7 a8))
def gt (N:Nat)(a0:RG):Option (Int×RG):=
 (aG N a0).bind fun y9=>bif y9 then (some (1,a0)) else ((bX N a0.Si a0.Sq).bind fun a1=>(lC N a1 a0).bind fun a2=>Au a2 (fun y27_0=>dN N a0 y27_0.1.Se y27_0.1.Sc y27_0.2.1 y27_0.2.2.1 y27_0.2.2.2) (fun y27_1=>dM N a0 y27_1.1.Se y27_1.1.Sc y27_1.2.1 y27_1.2.2))
theorem pM {N:Nat}{a0:RG}{r:Int×RG}(h:gt N a0=some r):Okc RY 84 [pV B1 0,.func (.func 85) #[] #[pV B8 0]] ([ar B8 46 [pV B1 0],ac B1 99 [U A2 n2 c2,U A3 n3 c3,U A4 n4 c4,U A5 n5 c5,pV B6 0],aR A2 n2 c2 a0.m_.Se,aR A3 n3 c3 a0.m_.Sc,aw A4 n4 c4 a0.Si,aw A5 n5 c5 a0.Sq,ac B6 147 [.map (some M7)],aj bf bI M7 a0.So.at_]) (fun u post=> ∃A0 n0 c0 A1 n1 c1 A2 n2 c2 A3 n3 c3 M4,u=iV r.1/\post=[ac B1 99 [U A0 n0 c0,U A1 n1 c1,U A2 n2 c2,U A3 n3 c3,pV B6 0],aR A0 n0 c0 r.2.m_.Se,aR A1 n1 c1 r.2.m_.Sc,aw A2 n2 c2 r.2.Si,aw A3 n3 c3 r.2.Sq,ac B6 147 [.map (some M4)],aj bf bI M4 r.2.So.at_]):=by
 refine cG Tryz.func84 ?_;refine sZ ?_;obtain ⟨y9,k,h⟩:=aa h;refine jQ (oR (ca k)) ?_;refine gH J h ?_ ?_<;>intro h
 ·exact eY
 refine ab ?_;refine ao (fun s L=>(∃p13 i2 i8 j0 j1 j2 A13 n13 c13 A14 n14 c14 A15 n15 c15 A16 n16 c16,dN N a0 p13 i2 i8 j0 j1=some r/\s=[(0,pV B1 0),(4,iV 0),(5,pV j2 0),(6,U A15 n15 c15),(7,U A16 n16 c16),(8,iV j1)]/\L=[aR A13 n13 c13 p13,aR A14 n14 c14 i2,ac j2 96 [U A13 n13 c13,U A14 n14 c14],aw A15 n15 c15 i8,aw A16 n16 c16 j0,aR A2 n2 c2 a0.m_.Se,aR A3 n3 c3 a0.m_.Sc,aw A4 n4 c4 a0.Si,aw A5 n5 c5 a0.Sq,ac B1 99 [U A2 n2 c2,U A3 n3 c3,U A4 n4 c4,U A5 n5 c5,pV B6 0],aj bf bI M7 a0.So.at_,ac B6 147 [.map (some M7)]])\/(∃(d1:RS) (p21:RS) (f3:RJ) (h4:RJ) (h5:Nat) (a1:Option Addr) (a2 a6:Nat) (a7:Option Addr) (a8 b0:Nat) (h6:Option Addr) (h7 h8:Nat) (e9:Option Addr) (f1 f2:Nat),dM N a0 d1 p21 f3 h4=some r/\s=[(0,pV B1 0),(4,iV 0),(5,pV h5 0),(6,U h6 h7 h8),(7,U e9 f1 f2),(8,iV 0)]/\L=[aR a1 a2 a6 d1,aR a7 a8 b0 p21,ac h5 96 [U a1 a2 a6,U a7 a8 b0],aw h6 h7 h8 f3,aw e9 f1 f2 h4,aR A2 n2 c2 a0.m_.Se,aR A3 n3 c3 a0.m_.Sc,aw A4 n4 c4 a0.Si,aw A5 n5 c5 a0.Sq,ac B1 99 [U A2 n2 c2,U A3 n3 c3,U A4 n4 c4,U A5 n5 c5,pV B6 0],aj bf bI M7 a0.So.at_,ac B6 147 [.map (some M7)]])) ?_ ?_
 ·refine cZ I _ (ae _) ?_;refine zY [0,1,2,3,4,5,6,7,8] ?_;refine mq 9 17 I ?_ ?_
  ·refine bK J (eC (cs:=[U A4 n4 c4,U A5 n5 c5]) J (mJ _ _ _ _ _ _)) J J J ?_;rintro _ _ ⟨j3,rfl,rfl⟩;refine aJ (cS [1,2,3,4,5,6,7,8] 9) ?_;refine mq 10 17 I ?_ ?_
   ·obtain ⟨l9,k,h⟩:=aa h;refine bK J (oR (bv k)) J J J ?_;rintro _ _ ⟨_,⟨m0,m1,m2,rfl,rfl⟩,rfl⟩;refine aJ (cS [2,3,4,5,6,7,8,9] 10) ?_;refine mq 11 17 I ?_ ?_
    ·refine rP (bJ 0 J) (cS [2,3,4,5,6,7,8,9] 10) ?_;refine I0 ?_;obtain ⟨k9,f4,h⟩:=aa h;rcases k9 with y27_0|y27_1
     ·replace h:=F6 h;refine bK J (fJ (cA f4) call85.out J J J (cp [0,2] [3,4,5,6,7,8,9] [0,1,2] 10 J)) J J J ?_;rintro _ _ ⟨_,⟨j4,j5,j6,b2,b3,b4,c8,c9,d0,d2,d3,d4,rfl,rfl⟩,rfl⟩;refine aJ (cS [13,8,4,5,6,7,9,10] 14) ?_;refine aU ?_;refine zY [12,13,14,15,16] ?_;refine zD 17 J (cP zero96.out J) ?_;rintro _ _ ⟨l0,rfl,rfl⟩;refine aJ (cS [14,9,5,6,7,8,10,11] 15) ?_;refine zO 18 J (ax (us:=[U j4 j5 j6,U b2 b3 b4]) (cs':=[U j4 j5 j6,U b2 b3 b4]) 0 J J J J size96.out J J J) ?_;rintro _ _ rfl;refine aJ (cS [14,9,5,6,7,8,10,11] 15) ?_;refine aU ?_;refine zX [19,20,21] ?_;refine ab ?_;exact ⟨_,_,.inl (⟨y27_0.1.Se,y27_0.1.Sc,y27_0.2.1,y27_0.2.2.1,y27_0.2.2.2,l0,j4,j5,j6,b2,b3,b4,c8,c9,d0,d2,d3,d4,h,J,J⟩),sA,cS [1,2,0,3,4,5,6,7,8,9,11,10] 15⟩
     replace h:=F5 h;refine bK J (fJ (cA f4) call85.out J J J (cp [0,2] [3,4,5,6,7,8,9] [0,1,2] 10 J)) J J J ?_;rintro _ _ ⟨_,⟨b5,b6,b7,b8,b9,c7,d6,e2,e3,e4,e5,e6,rfl,rfl⟩,rfl⟩;refine aJ (cS [13,8,4,5,6,7,9,10] 14) ?_;refine aU ?_;refine zY [12,13,14,15,16] ?_;refine zD 17 J (cP zero96.out J) ?_;rintro _ _ ⟨l1,rfl,rfl⟩;refine aJ (cS [14,9,5,6,7,8,10,11] 15) ?_;refine zO 18 J (ax (us:=[U b5 b6 b7,U b8 b9 c7]) (cs':=[U b5 b6 b7,U b8 b9 c7]) 0 J J J J size96.out J J J) ?_;rintro _ _ rfl;refine aJ (cS [14,9,5,6,7,8,10,11] 15) ?_;refine aU ?_;refine zX [19,20,21] ?_;refine ab ?_;exact ⟨_,_,.inr (⟨y27_1.1.Se,y27_1.1.Sc,y27_1.2.1,y27_1.2.2,l1,b5,b6,b7,b8,b9,c7,d6,e2,e3,e4,e5,e6,h,J,J⟩),sA,cS [1,2,0,3,4,5,6,7,8,9,11,10] 15⟩
    refine bK J (cP zero96.out J) J J J ?_;rintro _ _ ⟨k5,rfl,rfl⟩;refine aJ (cS [3,4,5,6,7,8,9,10] 11) ?_;refine lG (bJ 1 J) (cS [3,4,5,6,7,8,9,10] 11) ?_;refine aU ?_;obtain ⟨g0,b1,h⟩:=aa h;rcases g0 with y28_0|y28_1
    ·replace h:=F6 h;refine zD 11 J (fJ (cA b1) call85.out J J J (cp [1,3] [4,5,6,7,8,9,10] [0,1,2,3] 11 J)) ?_;rintro _ _ ⟨_,⟨b2,b3,b4,c8,c9,d0,d2,d3,d4,g1,g2,g3,rfl,rfl⟩,rfl⟩;refine aJ (cS [14,8,4,5,6,7,9,10] 15) ?_;refine aU ?_;refine zY [12,13,14,15,16] ?_;refine zO 18 J (ax (us:=[U b2 b3 b4,U c8 c9 d0]) (cs':=[U b2 b3 b4,U c8 c9 d0]) 11 J J J J size96.out J J J) ?_;rintro _ _ rfl;refine aJ (cS [14,8,4,5,6,7,9,10] 15) ?_;refine aU ?_;refine zX [19,20,21] ?_;refine ab ?_;exact ⟨_,_,.inl (⟨y28_0.1.Se,y28_0.1.Sc,y28_0.2.1,y28_0.2.2.1,y28_0.2.2.2,k5,b2,b3,b4,c8,c9,d0,d2,d3,d4,g1,g2,g3,h,J,J⟩),sA,cS [0,1,11,2,3,4,5,6,7,8,10,9] 15⟩
    replace h:=F5 h;refine zD 11 J (fJ (cA b1) call85.out J J J (cp [1,3] [4,5,6,7,8,9,10] [0,1,2,3] 11 J)) ?_;rintro _ _ ⟨_,⟨b5,b6,b7,b8,b9,c7,d6,e2,e3,e4,e5,e6,rfl,rfl⟩,rfl⟩;refine aJ (cS [14,8,4,5,6,7,9,10] 15) ?_;refine aU ?_;refine zY [12,13,14,15,16] ?_;refine zO 18 J (ax (us:=[U b5 b6 b7,U b8 b9 c7]) (cs':=[U b5 b6 b7,U b8 b9 c7]) 11 J J J J size96.out J J J) ?_;rintro _ _ rfl;refine aJ (cS [14,8,4,5,6,7,9,10] 15) ?_;refine aU ?_;refine zX [19,20,21] ?_;refine ab ?_;exact ⟨_,_,.inr (⟨y28_1.1.Se,y28_1.1.Sc,y28_1.2.1,y28_1.2.2,k5,b5,b6,b7,b8,b9,c7,d6,e2,e3,e4,e5,e6,h,J,J⟩),sA,cS [0,1,11,2,3,4,5,6,7,8,10,9] 15⟩
   refine bK J (cP zero96.out J) J J J ?_;rintro _ _ ⟨j7,rfl,rfl⟩;refine aJ (cS [2,3,4,5,6,7,8,9] 10) ?_;obtain ⟨l2,e7,h⟩:=aa h;refine zD 10 J (oR (bv e7)) ?_;rintro _ _ ⟨_,⟨l3,l4,l5,rfl,rfl⟩,rfl⟩;refine aJ (cS [3,4,5,6,7,8,9,10] 11) ?_;refine lG (bJ 0 J) (cS [3,4,5,6,7,8,9,10] 11) ?_;refine aU ?_;obtain ⟨g0,b1,h⟩:=aa h;rcases g0 with y28_0|y28_1
   ·replace h:=F6 h;refine zD 11 J (fJ (cA b1) call85.out J J J (cp [0,3] [4,5,6,7,8,9,10] [0,1,2,3] 11 J)) ?_;rintro _ _ ⟨_,⟨b2,b3,b4,c8,c9,d0,d2,d3,d4,g1,g2,g3,rfl,rfl⟩,rfl⟩;refine aJ (cS [14,8,4,5,6,7,9,10] 15) ?_;refine aU ?_;refine zY [12,13,14,15,16] ?_;refine zO 18 J (ax (us:=[U b2 b3 b4,U c8 c9 d0]) (cs':=[U b2 b3 b4,U c8 c9 d0]) 12 J J J J size96.out J J J) ?_;rintro _ _ rfl;refine aJ (cS [14,8,4,5,6,7,9,10] 15) ?_;refine aU ?_;refine zX [19,20,21] ?_;refine ab ?_;exact ⟨_,_,.inl (⟨y28_0.1.Se,y28_0.1.Sc,y28_0.2.1,y28_0.2.2.1,y28_0.2.2.2,j7,b2,b3,b4,c8,c9,d0,d2,d3,d4,g1,g2,g3,h,J,J⟩),sA,cS [0,1,12,2,3,4,5,6,7,8,10,9] 15⟩
   replace h:=F5 h;refine zD 11 J (fJ (cA b1) call85.out J J J (cp [0,3] [4,5,6,7,8,9,10] [0,1,2,3] 11 J)) ?_;rintro _ _ ⟨_,⟨b5,b6,b7,b8,b9,c7,d6,e2,e3,e4,e5,e6,rfl,rfl⟩,rfl⟩;refine aJ (cS [14,8,4,5,6,7,9,10] 15) ?_;refine aU ?_;refine zY [12,13,14,15,16] ?_;refine zO 18 J (ax (us:=[U b5 b6 b7,U b8 b9 c7]) (cs':=[U b5 b6 b7,U b8 b9 c7]) 12 J J J J size96.out J J J) ?_;rintro _ _ rfl;refine aJ (cS [14,8,4,5,6,7,9,10] 15) ?_;refine aU ?_;refine zX [19,20,21] ?_;refine ab ?_;exact ⟨_,_,.inr (⟨y28_1.1.Se,y28_1.1.Sc,y28_1.2.1,y28_1.2.2,j7,b5,b6,b7,b8,b9,c7,d6,e2,e3,e4,e5,e6,h,J,J⟩),sA,cS [0,1,12,2,3,4,5,6,7,8,10,9] 15⟩
  refine bK J (cP zero96.out J) J J J ?_;rintro _ _ ⟨j3,rfl,rfl⟩;refine aJ (cS [1,2,3,4,5,6,7,8] 9) ?_;refine zD 9 J (eC (cs:=[U A4 n4 c4,U A5 n5 c5]) J (mJ _ _ _ _ _ _)) ?_;rintro _ _ ⟨j7,rfl,rfl⟩;refine aJ (cS [2,3,4,5,6,7,8,9] 10) ?_;obtain ⟨l2,e7,h⟩:=aa h;refine zD 10 J (oR (bv e7)) ?_;rintro _ _ ⟨_,⟨l3,l4,l5,rfl,rfl⟩,rfl⟩;refine aJ (cS [3,4,5,6,7,8,9,10] 11) ?_;refine lG (bJ 0 J) (cS [3,4,5,6,7,8,9,10] 11) ?_;refine aU ?_;obtain ⟨g0,b1,h⟩:=aa h;rcases g0 with y28_0|y28_1
  ·replace h:=F6 h;refine zD 11 J (fJ (cA b1) call85.out J J J (cp [0,3] [4,5,6,7,8,9,10] [0,1,2,3] 11 J)) ?_;rintro _ _ ⟨_,⟨b2,b3,b4,c8,c9,d0,d2,d3,d4,g1,g2,g3,rfl,rfl⟩,rfl⟩;refine aJ (cS [14,8,4,5,6,7,9,10] 15) ?_;refine aU ?_;refine zY [12,13,14,15,16] ?_;refine zO 18 J (ax (us:=[U b2 b3 b4,U c8 c9 d0]) (cs':=[U b2 b3 b4,U c8 c9 d0]) 13 J J J J size96.out J J J) ?_;rintro _ _ rfl;refine aJ (cS [14,8,4,5,6,7,9,10] 15) ?_;refine aU ?_;refine zX [19,20,21] ?_;refine ab ?_;exact ⟨_,_,.inl (⟨y28_0.1.Se,y28_0.1.Sc,y28_0.2.1,y28_0.2.2.1,y28_0.2.2.2,j3,b2,b3,b4,c8,c9,d0,d2,d3,d4,g1,g2,g3,h,J,J⟩),sA,cS [0,1,13,2,3,4,5,6,7,8,10,9] 15⟩
  replace h:=F5 h;refine zD 11 J (fJ (cA b1) call85.out J J J (cp [0,3] [4,5,6,7,8,9,10] [0,1,2,3] 11 J)) ?_;rintro _ _ ⟨_,⟨b5,b6,b7,b8,b9,c7,d6,e2,e3,e4,e5,e6,rfl,rfl⟩,rfl⟩;refine aJ (cS [14,8,4,5,6,7,9,10] 15) ?_;refine aU ?_;refine zY [12,13,14,15,16] ?_;refine zO 18 J (ax (us:=[U b5 b6 b7,U b8 b9 c7]) (cs':=[U b5 b6 b7,U b8 b9 c7]) 13 J J J J size96.out J J J) ?_;rintro _ _ rfl;refine aJ (cS [14,8,4,5,6,7,9,10] 15) ?_;refine aU ?_;refine zX [19,20,21] ?_;refine ab ?_;exact ⟨_,_,.inr (⟨y28_1.1.Se,y28_1.1.Sc,y28_1.2.1,y28_1.2.2,j3,b5,b6,b7,b8,b9,c7,d6,e2,e3,e4,e5,e6,h,J,J⟩),sA,cS [0,1,13,2,3,4,5,6,7,8,10,9] 15⟩
 rintro _ _ (⟨p13,i2,i8,j0,j1,j2,A13,n13,c13,A14,n14,c14,A15,n15,c15,A16,n16,c16,h,rfl,rfl⟩|⟨d1,p21,f3,h4,h5,a1,a2,a6,a7,a8,b0,h6,h7,h8,e9,f1,f2,h,rfl,rfl⟩)
 ·refine sZ ?_;refine gH J h ?_ ?_<;>intro h
  ·exact eY
  exact am h
 refine sZ ?_;refine cJ J ?_;refine ab ?_;refine ao (fun s L=> ∃h9 i0 g4 g5 g6 g7 g8 g9,fO N d1 p21 a0 h9 i0=some r/\s=[(0,pV B1 0),(4,iV 0)]/\L=[aR a1 a2 a6 d1,aR a7 a8 b0 p21,aw g4 g5 g6 h9,aw g7 g8 g9 i0,ac B1 99 [U a1 a2 a6,U a7 a8 b0,U g4 g5 g6,U g7 g8 g9,pV B6 0],aj bf bI M7 a0.So.at_,ac B6 147 [.map (some M7)]]) ?_ ?_
 ·refine ic ?_ cD (bJ 3 J);refine ab ?_;refine cZ I ([aR a1 a2 a6 d1,aR a7 a8 b0 p21,ac h5 96 [U a1 a2 a6,U a7 a8 b0],bc h6 h7 h8 f3,aw e9 f1 f2 h4,aR A2 n2 c2 a0.m_.Se,aR A3 n3 c3 a0.m_.Sc,aw A4 n4 c4 a0.Si,aw A5 n5 c5 a0.Sq,aj bf bI M7 a0.So.at_,ac B6 147 [.map (some M7)]]) (cS [0,1,2,3,4,5,6,7,8,10,11] 12) ?_;refine zY [0,1,2,3,4,5] ?_;obtain ⟨h0,h⟩:=ah h;refine zP 3 J (l:=0) (h:=(a0.Si.length:Int).toNat) h0.2.1 h0.2.2 ?_;rintro m3 m4 m5 l6;refine zR 6 J (Jg 4 J l6 J hU size23.out J J (by rw [Int.toNat_of_nonneg h0.1];rfl) h0.2.1 h0.2.2) ?_;refine zY [8,9] ?_;obtain ⟨i1,h⟩:=ah h;refine zP 4 J (l:=(a0.Si.length:Int).toNat) (h:=f3.length) i1.2.1 i1.2.2 ?_;rintro k6 k7 k8 l7;refine zR 10 J (vX 5 J l7 J hU size23.out J (by rw [Int.toNat_of_nonneg i1.1];rfl) i1.2.1) ?_;refine zY [11] ?_;refine mq 7 12 I ?_ ?_
  ·obtain ⟨m6,k,h⟩:=aa h;refine bK J (oR (eU k)) J J J ?_;rintro _ _ ⟨_,⟨j8,j9,k0,rfl,rfl⟩,rfl⟩;refine aJ (cS [1,2,3,4,5,6,7,8,9,10,11,13,14] 15) ?_;refine zD 12 J (eC (cs:=[U k6 k7 k8,U e9 f1 f2]) J (mJ _ _ _ _ _ _)) ?_;rintro _ _ ⟨m7,rfl,rfl⟩;refine aJ (cS [2,3,4,5,6,7,8,9,10,11,12,14,15] 16) ?_;obtain ⟨l8,e8,h⟩:=aa h;refine zD 13 J (oR (bv e8)) ?_;rintro _ _ ⟨_,⟨h1,h2,h3,rfl,rfl⟩,rfl⟩;refine aJ (cS [3,4,5,6,7,8,9,10,11,12,13,15,16] 17) ?_;refine zY [14,15] ?_;refine zO 16 J (ax (us:=[U a1 a2 a6,U a7 a8 b0]) (cs':=[U a1 a2 a6,U a7 a8 b0,U A4 n4 c4,U A5 n5 c5,pV B6 0]) 14 J J J J size96.out J J J) ?_;rintro _ _ rfl;refine aJ (cS [3,4,5,6,7,8,9,10,11,12,13,15,16] 17) ?_;refine aU ?_;refine zY [17,18] ?_;refine zO 19 J (ax (us:=[U j8 j9 k0]) (cs':=[U a1 a2 a6,U a7 a8 b0,U j8 j9 k0,U A5 n5 c5,pV B6 0]) 14 J J J J size30.out J J J) ?_;rintro _ _ rfl;refine aJ (cS [3,4,5,6,7,8,9,10,11,12,13,15,16] 17) ?_;refine aU ?_;refine zY [20,21] ?_;refine zO 22 J (ax (us:=[U h1 h2 h3]) (cs':=[U a1 a2 a6,U a7 a8 b0,U j8 j9 k0,U h1 h2 h3,pV B6 0]) 14 J J J J size30.out J J J) ?_;rintro _ _ rfl;refine aJ (cS [3,4,5,6,7,8,9,10,11,12,13,15,16] 17) ?_;refine aU ?_;refine ju I ?_;exact jY
  refine bK J (eC (cs:=[U k6 k7 k8,U e9 f1 f2]) J (mJ _ _ _ _ _ _)) J J J ?_;rintro _ _ ⟨m8,rfl,rfl⟩;refine aJ (cS [1,2,3,4,5,6,7,8,9,10,11,13,14] 15) ?_;obtain ⟨m9,k,h⟩:=aa h;refine zD 7 J (oR (eU k)) ?_;rintro _ _ ⟨_,⟨k1,k2,k3,rfl,rfl⟩,rfl⟩;refine aJ (cS [2,3,4,5,6,7,8,9,10,11,12,14,15] 16) ?_;obtain ⟨l8,e8,h⟩:=aa h;refine zD 13 J (oR (bv e8)) ?_;rintro _ _ ⟨_,⟨h1,h2,h3,rfl,rfl⟩,rfl⟩;refine aJ (cS [3,4,5,6,7,8,9,10,11,12,13,15,16] 17) ?_;refine zY [14,15] ?_;refine zO 16 J (ax (us:=[U a1 a2 a6,U a7 a8 b0]) (cs':=[U a1 a2 a6,U a7 a8 b0,U A4 n4 c4,U A5 n5 c5,pV B6 0]) 14 J J J J size96.out J J J) ?_;rintro _ _ rfl;refine aJ (cS [3,4,5,6,7,8,9,10,11,12,13,15,16] 17) ?_;refine aU ?_;refine zY [17,18] ?_;refine zO 19 J (ax (us:=[U k1 k2 k3]) (cs':=[U a1 a2 a6,U a7 a8 b0,U k1 k2 k3,U A5 n5 c5,pV B6 0]) 14 J J J J size30.out J J J) ?_;rintro _ _ rfl;refine aJ (cS [3,4,5,6,7,8,9,10,11,12,13,15,16] 17) ?_;refine aU ?_;refine zY [20,21] ?_;refine zO 22 J (ax (us:=[U h1 h2 h3]) (cs':=[U a1 a2 a6,U a7 a8 b0,U k1 k2 k3,U h1 h2 h3,pV B6 0]) 14 J J J J size30.out J J J) ?_;rintro _ _ rfl;refine aJ (cS [3,4,5,6,7,8,9,10,11,12,13,15,16] 17) ?_;refine aU ?_;refine ju I ?_;exact jY
 rintro _ _ ⟨h9,i0,g4,g5,g6,g7,g8,g9,h,rfl,rfl⟩;refine aL ?_;refine cZ I ([aR a1 a2 a6 d1,aR a7 a8 b0 p21,aw g4 g5 g6 h9,aw g7 g8 g9 i0,ac B1 99 [U a1 a2 a6,U a7 a8 b0,U g4 g5 g6,U g7 g8 g9,pV B6 0]]) (cS [0,1,2,3,4] 7) ?_;refine ab ?_;obtain ⟨n7,k4,h⟩:=aa h;refine lG (cS [6,5,0,1,2,3,4] 7) (cS [2,3,4,5,6] 7) ?_;refine aU ?_;refine zD 8 J (Ff 2 2 (pW k4) call122.out J J J J (hJ (wn (i:=2) J J) (hJ (wn (i:=3) J J) ay)) nD) ?_;rintro _ _ ⟨_,⟨n8,rfl,rfl⟩,rfl⟩;refine aJ (cS [2,3,4,5,6] 7) ?_;refine aU ?_;exact eY
def dP (N:Nat)(a0:RG):Option (Int×RG):=
 (gt N a0).bind fun y9=>some (y9.1,y9.2)
theorem xA {N:Nat}{a0:RG}{r:Int×RG}(h:dP N a0=some r):Okc RY 45 [pV B1 0] ([ac B1 99 [U A2 n2 c2,U A3 n3 c3,U A4 n4 c4,U A5 n5 c5,pV B6 0],aR A2 n2 c2 a0.m_.Se,aR A3 n3 c3 a0.m_.Sc,aw A4 n4 c4 a0.Si,aw A5 n5 c5 a0.Sq,ac B6 147 [.map (some M7)],aj bf bI M7 a0.So.at_]) (fun u post=> ∃A0 n0 c0 A1 n1 c1 A2 n2 c2 A3 n3 c3 M4,u=iV r.1/\post=[ac B1 99 [U A0 n0 c0,U A1 n1 c1,U A2 n2 c2,U A3 n3 c3,pV B6 0],aR A0 n0 c0 r.2.m_.Se,aR A1 n1 c1 r.2.m_.Sc,aw A2 n2 c2 r.2.Si,aw A3 n3 c3 r.2.Sq,ac B6 147 [.map (some M4)],aj bf bI M4 r.2.So.at_]):=by
 refine cG Tryz.func45 ?_;intro B8;refine ab ?_;refine gE (dR J) ?_;obtain ⟨y9,k,h⟩:=aa h;refine nu (gL 0 J) ?_;refine gD (oC (pM k)) ?_;rintro _ _ ⟨_,⟨A10,n10,c10,a1,a2,a6,A12,n12,c12,A13,n13,c13,a7,rfl,rfl⟩,rfl⟩;exact eY
def dO (N:Nat)(a0:RG):Option (Int×RG):=
 (gr N a0).bind fun y9=>some (y9.1,y9.2)
theorem xz {N:Nat}{a0:RG}{r:Int×RG}(h:dO N a0=some r):Okc RY 46 [pV B1 0] ([ac B1 99 [U A2 n2 c2,U A3 n3 c3,U A4 n4 c4,U A5 n5 c5,pV B6 0],aR A2 n2 c2 a0.m_.Se,aR A3 n3 c3 a0.m_.Sc,aw A4 n4 c4 a0.Si,aw A5 n5 c5 a0.Sq,ac B6 147 [.map (some M7)],aj bf bI M7 a0.So.at_]) (fun u post=> ∃A0 n0 c0 A1 n1 c1 A2 n2 c2 A3 n3 c3 M4,u=iV r.1/\post=[ac B1 99 [U A0 n0 c0,U A1 n1 c1,U A2 n2 c2,U A3 n3 c3,pV B6 0],aR A0 n0 c0 r.2.m_.Se,aR A1 n1 c1 r.2.m_.Sc,aw A2 n2 c2 r.2.Si,aw A3 n3 c3 r.2.Sq,ac B6 147 [.map (some M4)],aj bf bI M4 r.2.So.at_]):=by
 refine cG Tryz.func46 ?_;intro B8;refine ab ?_;refine gE (dR J) ?_;obtain ⟨y9,k,h⟩:=aa h;refine nu (gL 0 J) ?_;refine gD (oC (pL k)) ?_;rintro _ _ ⟨_,⟨A10,n10,c10,a1,a2,a6,A12,n12,c12,A13,n13,c13,a7,rfl,rfl⟩,rfl⟩;exact eY
def lf (N:Nat)(a0:RG):Option RJ:=
 (aG N a0).bind fun y8=>bif y8 then (some []) else ((cF N a0.Si).bind fun a1=>some a1)
theorem xy {N:Nat}{a0:RG}{r:RJ}(h:lf N a0=some r):Okc RY 40 [pV B1 0] ([ar B1 99 [U A2 n2 c2,U A3 n3 c3,U A4 n4 c4,U A5 n5 c5,pV B6 0],bi A2 n2 c2 a0.m_.Se,bi A3 n3 c3 a0.m_.Sc,bc A4 n4 c4 a0.Si,bc A5 n5 c5 a0.Sq,ar B6 147 [.map (some M7)],eS bf bI M7 a0.So.at_]) (fun u post=> ∃A0 n0 c0,u=U A0 n0 c0/\post=[aw A0 n0 c0 r]):=by
 refine cG Tryz.func40 ?_;refine sZ ?_;obtain ⟨y8,k,h⟩:=aa h;refine jQ (oR (ca k)) ?_;refine gH J h ?_ ?_<;>intro h
 ·refine ab ?_;obtain rfl:=cB h;exact qb J J ((bh aF 23 _).trans (cS [0] 8)) ⟨_,_,_,J,J⟩
 refine ab ?_;obtain ⟨a1,k,h⟩:=aa h
 refine nr (oR (eU k)) fun A12 n12 c12=> ?_
 exact eN
def cr (N:Nat)(a0:Rn):Option Int:=
 (lf N a0.Sb).bind fun a1=>some (a1.length:Int)
theorem jk {N:Nat}{a0:Rn}{r:Int}(h:cr N a0=some r):Okc RY 12 [pV B1 0] ([ar B1 79 (iU a0 B2 B9 A12 n12 c12 A13 n13 c13 A14 n14 c14),ar B2 99 [U A3 n3 c3,U A4 n4 c4,U A5 n5 c5,U A6 n6 c6,pV B7 0],bi A3 n3 c3 a0.Sb.m_.Se,bi A4 n4 c4 a0.Sb.m_.Sc,bc A5 n5 c5 a0.Sb.Si,bc A6 n6 c6 a0.Sb.Sq,ar B7 147 [.map (some M8)],eS bf bI M8 a0.Sb.So.at_,ar B9 118 [U A10 n10 c10,.map (some M11)],rK A10 n10 c10 a0.Sf.Sf,eS ap dp M11 a0.Sf.Ss,CI A12 n12 c12 a0.St,BZ A13 n13 c13 a0.Sv,CI A14 n14 c14 a0.Su]) (fun u post=>u=iV r/\post=[]):=by
 refine cG Tryz.func12 ?_;refine sZ ?_;refine fm (bA J Ra) ?_;refine cJ J ?_;refine ab ?_;obtain ⟨a1,k,h⟩:=aa h
 refine nr (oR (xy k)) fun A16 n16 c16=> ?_
 exact eN
theorem oq {r:Int}: ∀v post,((fun (u:Value) (post:List Chunk)=>u=iV r/\post=[])) v post-> ∀c∈post,jJ c:=by
 rintro _ _ ⟨rfl,rfl⟩;exact ay
def fu (N:Nat)(a0:Ry):Option Bool:=
 (bif decide (a0.Sa=7) then (some true) else (some (decide (a0.Sa=9)))).bind fun b2=>some b2
theorem uM {N:Nat}{a0:Ry}{r:Bool}(h:fu N a0=some r):Okc RY 47 [(fX a0)] ([]) (fun u post=>u=.bool r/\post=[]):=by
 refine cG Tryz.func47 ?_;intro B1;refine ab ?_;refine gS 4 10 6 h ?_;intro b2 h;exact eY
def ga (N:Nat)(a0:RG)(a1:Int):Option Bool:=
 (aG N a0).bind fun y8=>(bif !y8 then ((iN N a0.m_ a1).bind fun a2=>some a2) else (some false)).bind fun b9=>some b9
theorem lR {N:Nat}{a0:RG}{a1:Int}{r:Bool}(h:ga N a0 a1=some r):Okc RY 89 [pV B1 0,iV a1] ([ar B1 99 [U A2 n2 c2,U A3 n3 c3,U A4 n4 c4,U A5 n5 c5,pV B6 0],bi A2 n2 c2 a0.m_.Se,bi A3 n3 c3 a0.m_.Sc,bc A4 n4 c4 a0.Si,bc A5 n5 c5 a0.Sq,ar B6 147 [.map (some M7)],eS bf bI M7 a0.So.at_]) (fun u post=>u=.bool r/\post=[]):=by
 refine cG Tryz.func89 ?_;obtain ⟨y8,k,h⟩:=aa h;refine jQ (oR (ca k)) ?_;obtain ⟨b9,a2,h⟩:=aa h;refine aH 7 15 b9 ?_ ?_
 ·clear h;refine aE 8 J (fun g9=> ?_) (fun g9=> ?_)
  ·have h:=az g9 a2;refine ab ?_;obtain ⟨a6,k,h⟩:=aa h;refine gU (oR (kf k)) (cY g9 J) ?_;exact gY
  have h:=aA g9 a2;exact gY
 exact eY
def iW (N:Nat)(a0:RG)(a1:Int):Option (Int ⊕ Int):=
 bif decide (a1.tmod 2=1) then (bn (in64 (a1.tdiv 2)) ((au a0.m_.Se (a1.tdiv 2)).bind fun a2=>some (.inl (a1.tdiv 2)))) else (bn (in64 (a1.tdiv 2)) (bn (in64 ((a1.tdiv 2) - 1)) ((au a0.m_.Sc ((a1.tdiv 2) - 1)).bind fun a6=>some (.inr ((a1.tdiv 2) - 1)))))
theorem km {N:Nat}{a0:RG}{a1:Int}{r:(Int ⊕ Int)}(h:iW N a0 a1=some r):Okc RY 90 [pV B1 0,iV a1] ([ar B1 99 [U A2 n2 c2,U A3 n3 c3,U A4 n4 c4,U A5 n5 c5,pV B6 0],bi A2 n2 c2 a0.m_.Se,bi A3 n3 c3 a0.m_.Sc,bc A4 n4 c4 a0.Si,bc A5 n5 c5 a0.Sq,ar B6 147 [.map (some M7)],eS bf bI M7 a0.So.at_]) (fun u post=>NY (fun (r:Int)=>u=d5 (U A2 n2 c2) r.toNat 6 0/\post=[]) (fun (r:Int)=>u=d5 (U A3 n3 c3) r.toNat 6 0/\post=[]) r):=by
 refine cG Tryz.func90 ?_;refine sZ ?_;refine fm (rk J J (by decide)) ?_;refine gH J h ?_ ?_<;>intro h
 ·refine ab ?_;obtain ⟨q9,h⟩:=ah h;refine gE (xB J J (by decide) q9.1 q9.2) ?_;obtain ⟨b3,a6,a7,a8,h⟩:=bG h;exact eY
 refine ab ?_;obtain ⟨a2,h⟩:=ah h;refine gE (xB J J (by decide) a2.1 a2.2) ?_;obtain ⟨b4,h⟩:=ah h;refine ab ?_;obtain ⟨b5,b0,b1,b2,h⟩:=bG h;exact eY
def nW (N:Nat)(a0:RG)(a1:Int):Option (Rk×Bool):=
 (ga N a0 a1).bind fun y9=>bif !y9 then (some ((⟨0,0,0,0,[],[]⟩:Rk),false)) else ((iW N a0 a1).bind fun a2=>Au a2 (fun y13_0=>(au a0.m_.Se y13_0).bind fun a6=>(eg N a6).bind fun a7=>some (a7,true)) (fun y13_1=>(au a0.m_.Sc y13_1).bind fun a8=>(eg N a8).bind fun b0=>some (b0,true)))
theorem uk {N:Nat}{a0:RG}{a1:Int}{r:Rk×Bool}(h:nW N a0 a1=some r):Okc RY 48 [pV B1 0,iV a1] ([ar B1 99 [U A2 n2 c2,U A3 n3 c3,U A4 n4 c4,U A5 n5 c5,pV B6 0],bi A2 n2 c2 a0.m_.Se,bi A3 n3 c3 a0.m_.Sc,bc A4 n4 c4 a0.Si,bc A5 n5 c5 a0.Sq,ar B6 147 [.map (some M7)],eS bf bI M7 a0.So.at_]) (fun u post=> ∃A0 n0 c0 A1 n1 c1,u=.tuple #[.agg #[iV r.1.Sa,iV r.1.Sk,iV r.1.Sj,iV r.1.Sn,U A0 n0 c0,U A1 n1 c1],.bool r.2]/\post=[aw A0 n0 c0 r.1.Sg,aw A1 n1 c1 r.1.Sd]):=by
 refine cG Tryz.func48 ?_;intro B8;refine sY ?_;obtain ⟨y9,k,h⟩:=aa h;refine jQ (oR (lR k)) ?_;refine gH J h ?_ ?_<;>intro h
 ·refine ab ?_;obtain rfl:=cB h;exact ox (rs:=[.cell 4 42,.tmp 5]) (vs:=[.agg #[iV 0,iV 0,iV 0,iV 0,U none 0 0,U none 0 0],.bool false]) J (.cons (ij 0 J J agg42.out) (.cons (oB J) .nil)) J ((bh aF 23 _).trans ((bh aF 23 _).trans (cS [1,0] 10))) ⟨_,_,_,_,_,_,J,J⟩
 refine ab ?_;obtain ⟨b5,a2,h⟩:=aa h;rcases b5 with y13_0|y13_1
 ·replace h:=F6 h;refine gD (oR (km a2)) ?_;rintro _ _ ⟨_,⟨rfl,rfl⟩,rfl⟩;obtain ⟨a6,a8,b0,b1,h⟩:=bG h;refine gR (rX 2 J bj J (bP a8 b0)) ?_;refine ur 2 J b1 (f0 a6) ?_;rintro _ _ ⟨A15,n15,c15,A16,n16,c16,rfl,rfl⟩;refine gR (la (us:=[iV a6.Sa,iV a6.Sk,iV a6.Sj,iV a6.Sn,U A15 n15 c15,U A16 n16 c16]) 0 J J agg42.out J) ?_;obtain ⟨c9,k,h⟩:=aa h
  refine Ew (oR (i3 k)) fun d0 d1 d2 d3 d4 d6=> ?_
  exact eN
 replace h:=F5 h;refine gD (oR (km a2)) ?_;rintro _ _ ⟨_,⟨rfl,rfl⟩,rfl⟩;obtain ⟨a7,b2,b3,b4,h⟩:=bG h;refine gR (rX 3 J bj J (bP b2 b3)) ?_;refine ur 3 J b4 (f0 a7) ?_;rintro _ _ ⟨b6,b7,b8,b9,c7,c8,rfl,rfl⟩;refine gR (la (us:=[iV a7.Sa,iV a7.Sk,iV a7.Sj,iV a7.Sn,U b6 b7 b8,U b9 c7 c8]) 0 J J agg42.out J) ?_;obtain ⟨e2,k,h⟩:=aa h
 refine Ew (oR (i3 k)) fun e3 e4 e5 e6 e7 e8=> ?_
 exact eN
def pj (N:Nat)(a1:Int)(a2:Int)(a6:Int)(a7:Int)(a8:RJ)(b0:RJ):Option Rk:=
 some (⟨a1,a2,a6,a7,a8,b0⟩:Rk)
def aB (N:Nat)(a0:Rn)(a1:Ry):Option Rk:=
 (fu N a1).bind fun a6=>bif !a6 then (some (⟨0,0,0,0,[],[]⟩:Rk)) else ((nW N a0.Sb a1.N).bind fun a2=>pj N a2.1.Sa a2.1.Sk a2.1.Sj a2.1.Sn a2.1.Sg a2.1.Sd)
theorem bY {N:Nat}{a0:Rn}{a1:Ry}{r:Rk}(h:aB N a0 a1=some r):Okc RY 17 [pV B1 0,(fX a1)] ([ar B1 79 (iU a0 B2 B9 A12 n12 c12 A13 n13 c13 A14 n14 c14),ar B2 99 [U A3 n3 c3,U A4 n4 c4,U A5 n5 c5,U A6 n6 c6,pV B7 0],bi A3 n3 c3 a0.Sb.m_.Se,bi A4 n4 c4 a0.Sb.m_.Sc,bc A5 n5 c5 a0.Sb.Si,bc A6 n6 c6 a0.Sb.Sq,ar B7 147 [.map (some M8)],eS bf bI M8 a0.Sb.So.at_,ar B9 118 [U A10 n10 c10,.map (some M11)],rK A10 n10 c10 a0.Sf.Sf,eS ap dp M11 a0.Sf.Ss,CI A12 n12 c12 a0.St,BZ A13 n13 c13 a0.Sv,CI A14 n14 c14 a0.Su]) (fun u post=> ∃A0 n0 c0 A1 n1 c1,u=.agg #[iV r.Sa,iV r.Sk,iV r.Sj,iV r.Sn,U A0 n0 c0,U A1 n1 c1]/\post=[aw A0 n0 c0 r.Sg,aw A1 n1 c1 r.Sd]):=by
 refine cG Tryz.func17 ?_;intro e4
 refine iD fun d1=> ?_
 refine sZ ?_;refine fm (bA J Ra) ?_;obtain ⟨e5,k,h⟩:=aa h;refine jQ (oR (uM k)) ?_;refine gH J h ?_ ?_<;>intro h
 ·refine ab ?_;obtain rfl:=cB h;exact ox (rs:=[.cell 4 42]) (vs:=[.agg #[iV 0,iV 0,iV 0,iV 0,U none 0 0,U none 0 0]]) J (.cons (ij 0 J J agg42.out) .nil) J ((bh aF 23 _).trans ((bh aF 23 _).trans (cS [1,0] 18))) ⟨_,_,_,_,_,_,J,J⟩
 refine ab ?_;refine ao (fun s L=> ∃b1 b2 b3 b4 b5 b6 b7 b8 b9 c7 c8 c9 d0,pj N b1 b2 b3 b4 b5 b6=some r/\s=[(4,pV d1 0),(5,pV b7 0)]/\L=[aw b8 b9 c7 b5,aw c8 c9 d0 b6,ac b7 42 [iV b1,iV b2,iV b3,iV b4,U b8 b9 c7,U c8 c9 d0],ac d1 42 [iV 0,iV 0,iV 0,iV 0,U none 0 0,U none 0 0]]) ?_ ?_
 ·refine cZ I _ (ae _) ?_;refine zY [0,1,2,3,4,5] ?_;refine mq 6 10 I ?_ ?_
  ·obtain ⟨a2,k,h⟩:=aa h;refine bK J (oR (uk k)) J J J ?_;rintro _ _ ⟨_,⟨d2,d3,d4,a7,a8,b0,rfl,rfl⟩,rfl⟩;refine aJ (cS [2,3,4,5,6,7,8,9,10,11,12,13,14,15,16,17] 18) ?_;refine zY [7,8,9] ?_;refine zD 10 J (cP zero42.out J) ?_;rintro _ _ ⟨e6,rfl,rfl⟩;refine aJ (cS [3,4,5,6,7,8,9,10,11,12,13,14,15,16,17,18] 19) ?_;refine zO 11 J (ax (us:=[iV a2.1.Sa,iV a2.1.Sk,iV a2.1.Sj,iV a2.1.Sn,U d2 d3 d4,U a7 a8 b0]) (cs':=[iV a2.1.Sa,iV a2.1.Sk,iV a2.1.Sj,iV a2.1.Sn,U d2 d3 d4,U a7 a8 b0]) 0 J J J J size42.out J J J) ?_;rintro _ _ rfl;refine aJ (cS [3,4,5,6,7,8,9,10,11,12,13,14,15,16,17,18] 19) ?_;refine aU ?_;refine zX [12] ?_;exact jY
  refine bK J (cP zero42.out J) J J J ?_;rintro _ _ ⟨e7,rfl,rfl⟩;refine aJ (cS [1,2,3,4,5,6,7,8,9,10,11,12,13,14,15,16] 17) ?_;obtain ⟨a6,k,h⟩:=aa h;refine zD 6 J (oR (uk k)) ?_;rintro _ _ ⟨_,⟨a7,a8,b0,d6,e2,e3,rfl,rfl⟩,rfl⟩;refine aJ (cS [3,4,5,6,7,8,9,10,11,12,13,14,15,16,17,18] 19) ?_;refine zY [7,8,9] ?_;refine zO 11 J (ax (us:=[iV a6.1.Sa,iV a6.1.Sk,iV a6.1.Sj,iV a6.1.Sn,U a7 a8 b0,U d6 e2 e3]) (cs':=[iV a6.1.Sa,iV a6.1.Sk,iV a6.1.Sj,iV a6.1.Sn,U a7 a8 b0,U d6 e2 e3]) 2 J J J J size42.out J J J) ?_;rintro _ _ rfl;refine aJ (cS [3,4,5,6,7,8,9,10,11,12,13,14,15,16,17,18] 19) ?_;refine aU ?_;refine zX [12] ?_;exact jY
 rintro _ _ ⟨b1,b2,b3,b4,b5,b6,b7,b8,b9,c7,c8,c9,d0,h,rfl,rfl⟩;exact eY
def dZ (N:Nat)(a0:RG)(a1:Int):Option RG:=
 (aG N a0).bind fun y8=>(bif !y8 then (some (decide (max a1 0<(a0.Si.length:Int)))) else (some false)).bind fun b9=>bif b9 then (bn ((0:Int)<=max a1 0/\(max a1 0).toNat<=a0.Si.length) (some (⟨a0.m_,List.take ((max a1 0).toNat) a0.Si,a0.Sq,a0.So⟩:RG))) else (some a0)
theorem oK {N:Nat}{a0:RG}{a1:Int}{r:RG}(h:dZ N a0 a1=some r):Okc RY 83 [pV B1 0,iV a1] ([ac B1 99 [U A2 n2 c2,U A3 n3 c3,U A4 n4 c4,U A5 n5 c5,pV B6 0],aR A2 n2 c2 a0.m_.Se,aR A3 n3 c3 a0.m_.Sc,aw A4 n4 c4 a0.Si,aw A5 n5 c5 a0.Sq,ac B6 147 [.map (some M7)],aj bf bI M7 a0.So.at_]) (fun u post=> ∃A0 n0 c0 A1 n1 c1 A2 n2 c2 A3 n3 c3 M4,u=.tuple #[]/\post=[ac B1 99 [U A0 n0 c0,U A1 n1 c1,U A2 n2 c2,U A3 n3 c3,pV B6 0],aR A0 n0 c0 r.m_.Se,aR A1 n1 c1 r.m_.Sc,aw A2 n2 c2 r.Si,aw A3 n3 c3 r.Sq,ac B6 147 [.map (some M4)],aj bf bI M4 r.So.at_]):=by
 refine cG Tryz.func83 ?_;refine fm (Kh J J hP hP) ?_;obtain ⟨y8,k,h⟩:=aa h;refine jQ (oR (ca k)) ?_;obtain ⟨b9,a6,h⟩:=aa h;refine aH 8 17 b9 ?_ ?_
 ·clear h;refine aE 9 J (fun g9=> ?_) (fun g9=> ?_)
  ·have h:=az g9 a6;refine ab ?_;obtain rfl:=cB h;exact bp (ny J (aP (aP (aP (aP (aP (aP (aP (aP cD J) J) J) J) J) J) J) J)) (cS [0,1,2,3,4,5,6] 7)
  have h:=aA g9 a6;refine ab ?_;obtain rfl:=cB h;exact bp (ny J (aP (aP (aP (aP (aP (aP (aP (aP cD J) J) J) J) J) J) J) J)) (cS [0,1,2,3,4,5,6] 7)
 refine fd h ?_ ?_<;>intro h
 ·refine ab ?_;obtain ⟨a2,h⟩:=ah h
  refine nr (Lc (k:=(max a1 0).toNat) 3 J J hU size23.out J (by rw [Int.toNat_of_nonneg a2.1];rfl) (by rw [Int.toNat_of_nonneg a2.1];rfl) a2.2) fun A12 n12 c12=> ?_
  exact eN
 exact eY
def dG (N:Nat)(a1:Int)(a0:Rn)(a2:RS)(a6:RS)(a7:RJ)(a8:RJ)(p21:RU):Option Rn:=
 (dP N (⟨(⟨a2,a6⟩:Rp),a7,a8,(⟨p21⟩:Rr)⟩:RG)).bind fun b0=>(dZ N b0.2 a1).bind fun b1=>some (⟨a0.Sr,a0.Sh,(),b1,a0.Sf,a0.St,a0.Sy,a0.Sx,a0.Sz,a0.Sv,a0.Su⟩:Rn)
def dF (N:Nat)(a1:Int->RS->RS->RJ->RJ->RU->Option Rn)(b2:Int)(b3:Rk)(a2:Int)(a0:Rn)(a6:RS)(a7:RS)(a8:RJ)(b0:RJ)(b1:RU):Option Rn:=
 bn (in64 (a2+1)) (a1 (a2+1) a6 a7 a8 b0 b1)
def fF (N:Nat)(a1:Int->RS->RS->RJ->RJ->RU->Option Rn)(a8:Int)(b0:Rk)(b1:Int)(a0:Rn)(a7:Rk):Nat->Int->RS->RS->RJ->RJ->RU->Option Rn
 |0,_,_,_,_,_,_=>none
 |b7+1,a2,b2,b3,b4,b5,b6=>bn (in64 (a2+3)) (bif decide (a2+3<(a7.Sd.length:Int)) then ((au a7.Sd a2).bind fun b8=>(dn N (⟨(⟨b2,b3⟩:Rp),b4,b5,(⟨b6⟩:Rr)⟩:RG) b8).bind fun a6=>bn (in64 (a2+4)) ((fF N a1 a8 b0 b1 a0 a7 b7) (a2+4) a6.2.m_.Se a6.2.m_.Sc a6.2.Si a6.2.Sq a6.2.So.at_)) else (dF N a1 a8 b0 b1 a0 b2 b3 b4 b5 b6))
def bF (N:Nat)(a2:Int)(a1:Rk)(a0:Rn):Nat->Int->RS->RS->RJ->RJ->RU->Option Rn
 |0,_,_,_,_,_,_=>none
 |b3+1,a6,a7,a8,b0,b1,b2=>bif decide (a6<(a1.Sd.length:Int)) then ((au a1.Sd a6).bind fun b5=>(aB N (⟨a0.Sr,a0.Sh,(),(⟨(⟨a7,a8⟩:Rp),b0,b1,(⟨b2⟩:Rr)⟩:RG),a0.Sf,a0.St,a0.Sy,a0.Sx,a0.Sz,a0.Sv,a0.Su⟩:Rn) b5).bind fun b4=>bif !decide (b4.Sa=10) then (dF N (bF N a2 a1 a0 b3) a2 a1 a6 a0 a7 a8 b0 b1 b2) else (fF N (bF N a2 a1 a0 b3) a2 a1 a6 a0 b4 N 1 a7 a8 b0 b1 b2)) else (dG N a2 a0 a7 a8 b0 b1 b2)
def el (N:Nat)(a0:Rn):Option Rn:=
 (cr N a0).bind fun a1=>(aZ N a0.Sb 19).bind fun a2=>(aB N a0 a2).bind fun a6=>bF N a1 a6 a0 N 0 a0.Sb.m_.Se a0.Sb.m_.Sc a0.Sb.Si a0.Sb.Sq a0.Sb.So.at_
theorem pF {N:Nat}{a0:Rn}{r:Rn}(h:el N a0=some r):Okc RY 44 [pV B1 0,.func (.func 45) #[pV B2 0] #[]] ([ac B1 79 (iU a0 B2 B9 A12 n12 c12 A13 n13 c13 A14 n14 c14),ac B2 99 [U A3 n3 c3,U A4 n4 c4,U A5 n5 c5,U A6 n6 c6,pV B7 0],aR A3 n3 c3 a0.Sb.m_.Se,aR A4 n4 c4 a0.Sb.m_.Sc,aw A5 n5 c5 a0.Sb.Si,aw A6 n6 c6 a0.Sb.Sq,ac B7 147 [.map (some M8)],aj bf bI M8 a0.Sb.So.at_,ac B9 118 [U A10 n10 c10,.map (some M11)],f9 A10 n10 c10 a0.Sf.Sf,aj ap dp M11 a0.Sf.Ss,ce A12 n12 c12 a0.St,gX A13 n13 c13 a0.Sv,ce A14 n14 c14 a0.Su]) (fun u post=> ∃A0 n0 c0 A1 n1 c1 A2 n2 c2 A3 n3 c3 M4 A5 n5 c5 M6 A7 n7 c7 A8 n8 c8 A9 n9 c9,u=.tuple #[]/\post=[ac B1 79 (iU r B2 B9 A7 n7 c7 A8 n8 c8 A9 n9 c9),ac B2 99 [U A0 n0 c0,U A1 n1 c1,U A2 n2 c2,U A3 n3 c3,pV B7 0],aR A0 n0 c0 r.Sb.m_.Se,aR A1 n1 c1 r.Sb.m_.Sc,aw A2 n2 c2 r.Sb.Si,aw A3 n3 c3 r.Sb.Sq,ac B7 147 [.map (some M4)],aj bf bI M4 r.Sb.So.at_,ac B9 118 [U A5 n5 c5,.map (some M6)],f9 A5 n5 c5 r.Sf.Sf,aj ap dp M6 r.Sf.Ss,ce A7 n7 c7 r.St,gX A8 n8 c8 r.Sv,ce A9 n9 c9 r.Su]):=by
 refine cG Tryz.func44 ?_;obtain ⟨a6,k,h⟩:=aa h;refine jQ (oR (jk k)) ?_;refine ao (fun s L=> ∃f3 f4 g0 g1 p21 g2 g3 g4 g5 g6 g7 g8 g9 h0 h1 h2 h3 h4,dG N a6 a0 f3 f4 g0 g1 p21=some r/\s=[(0,pV B1 0),(1,.func (.func 45) #[pV B2 0] #[]),(4,iV a6)]/\L=[aR g2 g3 g4 f3,aR g5 g6 g7 f4,aw g8 g9 h0 g0,aw h1 h2 h3 g1,ac B2 99 [U g2 g3 g4,U g5 g6 g7,U g8 g9 h0,U h1 h2 h3,pV B7 0],ce A12 n12 c12 a0.St,gX A13 n13 c13 a0.Sv,ce A14 n14 c14 a0.Su,ac B1 79 (iU a0 B2 B9 A12 n12 c12 A13 n13 c13 A14 n14 c14),aj bf bI h4 p21,ac B7 147 [.map (some h4)],f9 A10 n10 c10 a0.Sf.Sf,aj ap dp M11 a0.Sf.Ss,ac B9 118 [U A10 n10 c10,.map (some M11)]]) ?_ ?_
 ·refine ab ?_;obtain ⟨m6,k,h⟩:=aa h;refine gV (oR (co k)) ?_;obtain ⟨a2,k,h⟩:=aa h;refine gD (oR (bY k)) ?_;rintro _ _ ⟨_,⟨m7,m8,m9,a7,a8,b0,rfl,rfl⟩,rfl⟩;refine fm (pu J (vv _ _ _ _ _ _ _ _ _ _)) ?_;refine aW (fun m s L=> ∃b1 b2 b3 b4 b5 b6 b7 b8 b9 d0 d1 d2 d3 d4 d6 e2 e3 e4 e5,bF N a6 a2 a0 m b1 b2 b3 b4 b5 b6=some r/\s=[(0,pV B1 0),(1,.func (.func 45) #[pV B2 0] #[]),(4,iV a6),(18,U a7 a8 b0),(19,iV (a2.Sd.length:Int)),(20,iV b1)]/\L=[aw a7 a8 b0 a2.Sd,aR b7 b8 b9 b2,aR d0 d1 d2 b3,aw d3 d4 d6 b4,aw e2 e3 e4 b5,ac B2 99 [U b7 b8 b9,U d0 d1 d2,U d3 d4 d6,U e2 e3 e4,pV B7 0],ce A12 n12 c12 a0.St,gX A13 n13 c13 a0.Sv,ce A14 n14 c14 a0.Su,ac B1 79 (iU a0 B2 B9 A12 n12 c12 A13 n13 c13 A14 n14 c14),aj bf bI e5 b6,ac B7 147 [.map (some e5)],f9 A10 n10 c10 a0.Sf.Sf,aj ap dp M11 a0.Sf.Ss,ac B9 118 [U A10 n10 c10,.map (some M11)]]) N _ _ ⟨0,a0.Sb.m_.Se,a0.Sb.m_.Sc,a0.Sb.Si,a0.Sb.Sq,a0.Sb.So.at_,A3,n3,c3,A4,n4,c4,A5,n5,c5,A6,n6,c6,M8,h,J,J⟩ sA (cS [1,4,5,6,7,3,13,14,15,2,9,8,11,12,10] 16) ?_;rintro (_|l9) _ _ ⟨b1,b2,b3,b4,b5,b6,b7,b8,b9,d0,d1,d2,d3,d4,d6,e2,e3,e4,e5,h,rfl,rfl⟩
  ·exact am h
  rw [bF.eq_2] at h;refine ab ?_;refine aL ?_;refine gH J h ?_ ?_<;>intro h
  ·refine ab ?_;refine ao (fun s L=> ∃h5 h6 h7 h8 h9 i0 i1 i2 i8 j0 j1 j2 j3 j4 j5 j6 j7 j8,dF N (bF N a6 a2 a0 l9) a6 a2 b1 a0 h5 h6 h7 h8 h9=some r/\s=[(0,pV B1 0),(1,.func (.func 45) #[pV B2 0] #[]),(4,iV a6),(18,U a7 a8 b0),(19,iV (a2.Sd.length:Int)),(20,iV b1)]/\L=[aw a7 a8 b0 a2.Sd,aR i0 i1 i2 h5,aR i8 j0 j1 h6,aw j2 j3 j4 h7,aw j5 j6 j7 h8,ac B2 99 [U i0 i1 i2,U i8 j0 j1,U j2 j3 j4,U j5 j6 j7,pV B7 0],ce A12 n12 c12 a0.St,gX A13 n13 c13 a0.Sv,ce A14 n14 c14 a0.Su,ac B1 79 (iU a0 B2 B9 A12 n12 c12 A13 n13 c13 A14 n14 c14),aj bf bI j8 h9,ac B7 147 [.map (some j8)],f9 A10 n10 c10 a0.Sf.Sf,aj ap dp M11 a0.Sf.Ss,ac B9 118 [U A10 n10 c10,.map (some M11)]]) ?_ ?_
   ·refine ab ?_;obtain ⟨o0,m0,m1,m2,h⟩:=bG h
    refine iD fun o1=> ?_
    obtain ⟨a1,k,h⟩:=aa h
    refine Ew (oR (bY k)) fun e6 e7 e8 e9 f1 f2=> ?_
    intro j9;refine sY ?_;refine gH J h ?_ ?_<;>intro h
    ·exact jY
    refine ab ?_;refine aW (fun m s L=> ∃k0 k1 k2 k3 k4 k5 k6 k7 k8 k9 l0 l1 l2 l3 l4 l5 l6 l7 l8,fF N (bF N a6 a2 a0 l9) a6 a2 b1 a0 a1 m k0 k1 k2 k3 k4 k5=some r/\s=[(0,pV B1 0),(1,.func (.func 45) #[pV B2 0] #[]),(4,iV a6),(7,pV j9 0),(8,iV k0),(18,U a7 a8 b0),(19,iV (a2.Sd.length:Int)),(20,iV b1)]/\L=[aw a7 a8 b0 a2.Sd,aR k6 k7 k8 k1,aR k9 l0 l1 k2,aw l2 l3 l4 k3,aw l5 l6 l7 k4,ac B2 99 [U k6 k7 k8,U k9 l0 l1,U l2 l3 l4,U l5 l6 l7,pV B7 0],ce A12 n12 c12 a0.St,gX A13 n13 c13 a0.Sv,ce A14 n14 c14 a0.Su,ac B1 79 (iU a0 B2 B9 A12 n12 c12 A13 n13 c13 A14 n14 c14),aw e6 e7 e8 a1.Sg,aw e9 f1 f2 a1.Sd,ac j9 42 [iV a1.Sa,iV a1.Sk,iV a1.Sj,iV a1.Sn,U e6 e7 e8,U e9 f1 f2],aj bf bI l8 k5,ac B7 147 [.map (some l8)],f9 A10 n10 c10 a0.Sf.Sf,aj ap dp M11 a0.Sf.Ss,ac B9 118 [U A10 n10 c10,.map (some M11)]]) N _ _ ⟨1,b2,b3,b4,b5,b6,b7,b8,b9,d0,d1,d2,d3,d4,d6,e2,e3,e4,e5,h,J,J⟩ sA (cS [4,5,6,7,8,9,10,11,12,13,1,2,0,14,15,16,17,18] 19) ?_;rintro (_|o2) _ _ ⟨k0,k1,k2,k3,k4,k5,k6,k7,k8,k9,l0,l1,l2,l3,l4,l5,l6,l7,l8,h,rfl,rfl⟩
    ·exact am h
    rw [fF.eq_2] at h;refine sZ ?_;obtain ⟨p0,h⟩:=ah h;refine fd h ?_ ?_<;>intro h
    ·refine sY ?_;refine cZ I ([aw a7 a8 b0 a2.Sd,ce A12 n12 c12 a0.St,gX A13 n13 c13 a0.Sv,ce A14 n14 c14 a0.Su,ac B1 79 (iU a0 B2 B9 A12 n12 c12 A13 n13 c13 A14 n14 c14),aw e6 e7 e8 a1.Sg,aw e9 f1 f2 a1.Sd,ac j9 42 [iV a1.Sa,iV a1.Sk,iV a1.Sj,iV a1.Sn,U e6 e7 e8,U e9 f1 f2],f9 A10 n10 c10 a0.Sf.Sf,aj ap dp M11 a0.Sf.Ss,ac B9 118 [U A10 n10 c10,.map (some M11)]]) (cS [0,6,7,8,9,10,11,12,15,16,17] 18) ?_;refine ab ?_;obtain ⟨p1,m3,m4,m5,h⟩:=bG h;refine ab ?_;obtain ⟨p2,k,h⟩:=aa h;refine zD 9 J (oC (cW k)) ?_;rintro _ _ ⟨_,⟨p3,p4,p5,p6,p7,p8,q0,q1,q2,q3,q4,q5,q6,rfl,rfl⟩,rfl⟩;refine aJ (cS [7,8,9,10,11,12,13,14,15,16,17] 18) ?_;refine aU ?_;refine ab ?_;obtain ⟨q7,h⟩:=ah h;exact lY
    exact jY
   rintro _ _ ⟨h5,h6,h7,h8,h9,i0,i1,i2,i8,j0,j1,j2,j3,j4,j5,j6,j7,j8,h,rfl,rfl⟩;refine ab ?_;obtain ⟨q8,h⟩:=ah h;exact lY
  exact jY
 rintro _ _ ⟨f3,f4,g0,g1,p21,g2,g3,g4,g5,g6,g7,g8,g9,h0,h1,h2,h3,h4,h,rfl,rfl⟩;refine ab ?_;obtain ⟨q9,k,h⟩:=aa h;refine gD (Fe (xA k) call45.out J J J (cp [] [4,0,1,2,3,10,9] [5,6,7,8,11,12,13] 14 J)) ?_;rintro _ _ ⟨_,⟨r0,r1,r2,r3,r4,r5,r6,s0,s1,s2,s3,s4,s5,rfl,rfl⟩,rfl⟩;refine ab ?_;obtain ⟨s6,k,h⟩:=aa h;refine gD (oC (oK k)) ?_;rintro _ _ ⟨_,⟨s7,s8,s9,t1,t2,u0,u1,u2,u3,u4,u5,u6,u7,rfl,rfl⟩,rfl⟩;exact eY
def dE (N:Nat)(a1:Int)(a0:Rn)(a2:RS)(a6:RS)(a7:RJ)(a8:RJ)(p21:RU):Option Rn:=
 (dO N (⟨(⟨a2,a6⟩:Rp),a7,a8,(⟨p21⟩:Rr)⟩:RG)).bind fun b0=>(dZ N b0.2 a1).bind fun b1=>some (⟨a0.Sr,a0.Sh,(),b1,a0.Sf,a0.St,a0.Sy,a0.Sx,a0.Sz,a0.Sv,a0.Su⟩:Rn)
def dD (N:Nat)(a1:Int->RS->RS->RJ->RJ->RU->Option Rn)(b2:Int)(b3:Rk)(a2:Int)(a0:Rn)(a6:RS)(a7:RS)(a8:RJ)(b0:RJ)(b1:RU):Option Rn:=
 bn (in64 (a2+1)) (a1 (a2+1) a6 a7 a8 b0 b1)
def fE (N:Nat)(a1:Int->RS->RS->RJ->RJ->RU->Option Rn)(a8:Int)(b0:Rk)(b1:Int)(a0:Rn)(a7:Rk):Nat->Int->RS->RS->RJ->RJ->RU->Option Rn
 |0,_,_,_,_,_,_=>none
 |b7+1,a2,b2,b3,b4,b5,b6=>bn (in64 (a2+3)) (bif decide (a2+3<(a7.Sd.length:Int)) then ((au a7.Sd a2).bind fun b8=>(dn N (⟨(⟨b2,b3⟩:Rp),b4,b5,(⟨b6⟩:Rr)⟩:RG) b8).bind fun a6=>bn (in64 (a2+4)) ((fE N a1 a8 b0 b1 a0 a7 b7) (a2+4) a6.2.m_.Se a6.2.m_.Sc a6.2.Si a6.2.Sq a6.2.So.at_)) else (dD N a1 a8 b0 b1 a0 b2 b3 b4 b5 b6))
def bE (N:Nat)(a2:Int)(a1:Rk)(a0:Rn):Nat->Int->RS->RS->RJ->RJ->RU->Option Rn
 |0,_,_,_,_,_,_=>none
 |b3+1,a6,a7,a8,b0,b1,b2=>bif decide (a6<(a1.Sd.length:Int)) then ((au a1.Sd a6).bind fun b5=>(aB N (⟨a0.Sr,a0.Sh,(),(⟨(⟨a7,a8⟩:Rp),b0,b1,(⟨b2⟩:Rr)⟩:RG),a0.Sf,a0.St,a0.Sy,a0.Sx,a0.Sz,a0.Sv,a0.Su⟩:Rn) b5).bind fun b4=>bif !decide (b4.Sa=10) then (dD N (bE N a2 a1 a0 b3) a2 a1 a6 a0 a7 a8 b0 b1 b2) else (fE N (bE N a2 a1 a0 b3) a2 a1 a6 a0 b4 N 1 a7 a8 b0 b1 b2)) else (dE N a2 a0 a7 a8 b0 b1 b2)
def ei (N:Nat)(a0:Rn):Option Rn:=
 (cr N a0).bind fun a1=>(aZ N a0.Sb 19).bind fun a2=>(aB N a0 a2).bind fun a6=>bE N a1 a6 a0 N 0 a0.Sb.m_.Se a0.Sb.m_.Sc a0.Sb.Si a0.Sb.Sq a0.Sb.So.at_
theorem pE {N:Nat}{a0:Rn}{r:Rn}(h:ei N a0=some r):Okc RY 44 [pV B1 0,.func (.func 46) #[pV B2 0] #[]] ([ac B1 79 (iU a0 B2 B9 A12 n12 c12 A13 n13 c13 A14 n14 c14),ac B2 99 [U A3 n3 c3,U A4 n4 c4,U A5 n5 c5,U A6 n6 c6,pV B7 0],aR A3 n3 c3 a0.Sb.m_.Se,aR A4 n4 c4 a0.Sb.m_.Sc,aw A5 n5 c5 a0.Sb.Si,aw A6 n6 c6 a0.Sb.Sq,ac B7 147 [.map (some M8)],aj bf bI M8 a0.Sb.So.at_,ac B9 118 [U A10 n10 c10,.map (some M11)],f9 A10 n10 c10 a0.Sf.Sf,aj ap dp M11 a0.Sf.Ss,ce A12 n12 c12 a0.St,gX A13 n13 c13 a0.Sv,ce A14 n14 c14 a0.Su]) (fun u post=> ∃A0 n0 c0 A1 n1 c1 A2 n2 c2 A3 n3 c3 M4 A5 n5 c5 M6 A7 n7 c7 A8 n8 c8 A9 n9 c9,u=.tuple #[]/\post=[ac B1 79 (iU r B2 B9 A7 n7 c7 A8 n8 c8 A9 n9 c9),ac B2 99 [U A0 n0 c0,U A1 n1 c1,U A2 n2 c2,U A3 n3 c3,pV B7 0],aR A0 n0 c0 r.Sb.m_.Se,aR A1 n1 c1 r.Sb.m_.Sc,aw A2 n2 c2 r.Sb.Si,aw A3 n3 c3 r.Sb.Sq,ac B7 147 [.map (some M4)],aj bf bI M4 r.Sb.So.at_,ac B9 118 [U A5 n5 c5,.map (some M6)],f9 A5 n5 c5 r.Sf.Sf,aj ap dp M6 r.Sf.Ss,ce A7 n7 c7 r.St,gX A8 n8 c8 r.Sv,ce A9 n9 c9 r.Su]):=by
 refine cG Tryz.func44 ?_;obtain ⟨a6,k,h⟩:=aa h;refine jQ (oR (jk k)) ?_;refine ao (fun s L=> ∃f3 f4 g0 g1 p21 g2 g3 g4 g5 g6 g7 g8 g9 h0 h1 h2 h3 h4,dE N a6 a0 f3 f4 g0 g1 p21=some r/\s=[(0,pV B1 0),(1,.func (.func 46) #[pV B2 0] #[]),(4,iV a6)]/\L=[aR g2 g3 g4 f3,aR g5 g6 g7 f4,aw g8 g9 h0 g0,aw h1 h2 h3 g1,ac B2 99 [U g2 g3 g4,U g5 g6 g7,U g8 g9 h0,U h1 h2 h3,pV B7 0],ce A12 n12 c12 a0.St,gX A13 n13 c13 a0.Sv,ce A14 n14 c14 a0.Su,ac B1 79 (iU a0 B2 B9 A12 n12 c12 A13 n13 c13 A14 n14 c14),aj bf bI h4 p21,ac B7 147 [.map (some h4)],f9 A10 n10 c10 a0.Sf.Sf,aj ap dp M11 a0.Sf.Ss,ac B9 118 [U A10 n10 c10,.map (some M11)]]) ?_ ?_
 ·refine ab ?_;obtain ⟨m6,k,h⟩:=aa h;refine gV (oR (co k)) ?_;obtain ⟨a2,k,h⟩:=aa h;refine gD (oR (bY k)) ?_;rintro _ _ ⟨_,⟨m7,m8,m9,a7,a8,b0,rfl,rfl⟩,rfl⟩;refine fm (pu J (vv _ _ _ _ _ _ _ _ _ _)) ?_;refine aW (fun m s L=> ∃b1 b2 b3 b4 b5 b6 b7 b8 b9 d0 d1 d2 d3 d4 d6 e2 e3 e4 e5,bE N a6 a2 a0 m b1 b2 b3 b4 b5 b6=some r/\s=[(0,pV B1 0),(1,.func (.func 46) #[pV B2 0] #[]),(4,iV a6),(18,U a7 a8 b0),(19,iV (a2.Sd.length:Int)),(20,iV b1)]/\L=[aw a7 a8 b0 a2.Sd,aR b7 b8 b9 b2,aR d0 d1 d2 b3,aw d3 d4 d6 b4,aw e2 e3 e4 b5,ac B2 99 [U b7 b8 b9,U d0 d1 d2,U d3 d4 d6,U e2 e3 e4,pV B7 0],ce A12 n12 c12 a0.St,gX A13 n13 c13 a0.Sv,ce A14 n14 c14 a0.Su,ac B1 79 (iU a0 B2 B9 A12 n12 c12 A13 n13 c13 A14 n14 c14),aj bf bI e5 b6,ac B7 147 [.map (some e5)],f9 A10 n10 c10 a0.Sf.Sf,aj ap dp M11 a0.Sf.Ss,ac B9 118 [U A10 n10 c10,.map (some M11)]]) N _ _ ⟨0,a0.Sb.m_.Se,a0.Sb.m_.Sc,a0.Sb.Si,a0.Sb.Sq,a0.Sb.So.at_,A3,n3,c3,A4,n4,c4,A5,n5,c5,A6,n6,c6,M8,h,J,J⟩ sA (cS [1,4,5,6,7,3,13,14,15,2,9,8,11,12,10] 16) ?_;rintro (_|l9) _ _ ⟨b1,b2,b3,b4,b5,b6,b7,b8,b9,d0,d1,d2,d3,d4,d6,e2,e3,e4,e5,h,rfl,rfl⟩
  ·exact am h
  rw [bE.eq_2] at h;refine ab ?_;refine aL ?_;refine gH J h ?_ ?_<;>intro h
  ·refine ab ?_;refine ao (fun s L=> ∃h5 h6 h7 h8 h9 i0 i1 i2 i8 j0 j1 j2 j3 j4 j5 j6 j7 j8,dD N (bE N a6 a2 a0 l9) a6 a2 b1 a0 h5 h6 h7 h8 h9=some r/\s=[(0,pV B1 0),(1,.func (.func 46) #[pV B2 0] #[]),(4,iV a6),(18,U a7 a8 b0),(19,iV (a2.Sd.length:Int)),(20,iV b1)]/\L=[aw a7 a8 b0 a2.Sd,aR i0 i1 i2 h5,aR i8 j0 j1 h6,aw j2 j3 j4 h7,aw j5 j6 j7 h8,ac B2 99 [U i0 i1 i2,U i8 j0 j1,U j2 j3 j4,U j5 j6 j7,pV B7 0],ce A12 n12 c12 a0.St,gX A13 n13 c13 a0.Sv,ce A14 n14 c14 a0.Su,ac B1 79 (iU a0 B2 B9 A12 n12 c12 A13 n13 c13 A14 n14 c14),aj bf bI j8 h9,ac B7 147 [.map (some j8)],f9 A10 n10 c10 a0.Sf.Sf,aj ap dp M11 a0.Sf.Ss,ac B9 118 [U A10 n10 c10,.map (some M11)]]) ?_ ?_
   ·refine ab ?_;obtain ⟨o0,m0,m1,m2,h⟩:=bG h
    refine iD fun o1=> ?_
    obtain ⟨a1,k,h⟩:=aa h
    refine Ew (oR (bY k)) fun e6 e7 e8 e9 f1 f2=> ?_
    intro j9;refine sY ?_;refine gH J h ?_ ?_<;>intro h
    ·exact jY
    refine ab ?_;refine aW (fun m s L=> ∃k0 k1 k2 k3 k4 k5 k6 k7 k8 k9 l0 l1 l2 l3 l4 l5 l6 l7 l8,fE N (bE N a6 a2 a0 l9) a6 a2 b1 a0 a1 m k0 k1 k2 k3 k4 k5=some r/\s=[(0,pV B1 0),(1,.func (.func 46) #[pV B2 0] #[]),(4,iV a6),(7,pV j9 0),(8,iV k0),(18,U a7 a8 b0),(19,iV (a2.Sd.length:Int)),(20,iV b1)]/\L=[aw a7 a8 b0 a2.Sd,aR k6 k7 k8 k1,aR k9 l0 l1 k2,aw l2 l3 l4 k3,aw l5 l6 l7 k4,ac B2 99 [U k6 k7 k8,U k9 l0 l1,U l2 l3 l4,U l5 l6 l7,pV B7 0],ce A12 n12 c12 a0.St,gX A13 n13 c13 a0.Sv,ce A14 n14 c14 a0.Su,ac B1 79 (iU a0 B2 B9 A12 n12 c12 A13 n13 c13 A14 n14 c14),aw e6 e7 e8 a1.Sg,aw e9 f1 f2 a1.Sd,ac j9 42 [iV a1.Sa,iV a1.Sk,iV a1.Sj,iV a1.Sn,U e6 e7 e8,U e9 f1 f2],aj bf bI l8 k5,ac B7 147 [.map (some l8)],f9 A10 n10 c10 a0.Sf.Sf,aj ap dp M11 a0.Sf.Ss,ac B9 118 [U A10 n10 c10,.map (some M11)]]) N _ _ ⟨1,b2,b3,b4,b5,b6,b7,b8,b9,d0,d1,d2,d3,d4,d6,e2,e3,e4,e5,h,J,J⟩ sA (cS [4,5,6,7,8,9,10,11,12,13,1,2,0,14,15,16,17,18] 19) ?_;rintro (_|o2) _ _ ⟨k0,k1,k2,k3,k4,k5,k6,k7,k8,k9,l0,l1,l2,l3,l4,l5,l6,l7,l8,h,rfl,rfl⟩
    ·exact am h
    rw [fE.eq_2] at h;refine sZ ?_;obtain ⟨p0,h⟩:=ah h;refine fd h ?_ ?_<;>intro h
    ·refine sY ?_;refine cZ I ([aw a7 a8 b0 a2.Sd,ce A12 n12 c12 a0.St,gX A13 n13 c13 a0.Sv,ce A14 n14 c14 a0.Su,ac B1 79 (iU a0 B2 B9 A12 n12 c12 A13 n13 c13 A14 n14 c14),aw e6 e7 e8 a1.Sg,aw e9 f1 f2 a1.Sd,ac j9 42 [iV a1.Sa,iV a1.Sk,iV a1.Sj,iV a1.Sn,U e6 e7 e8,U e9 f1 f2],f9 A10 n10 c10 a0.Sf.Sf,aj ap dp M11 a0.Sf.Ss,ac B9 118 [U A10 n10 c10,.map (some M11)]]) (cS [0,6,7,8,9,10,11,12,15,16,17] 18) ?_;refine ab ?_;obtain ⟨p1,m3,m4,m5,h⟩:=bG h;refine ab ?_;obtain ⟨p2,k,h⟩:=aa h;refine zD 9 J (oC (cW k)) ?_;rintro _ _ ⟨_,⟨p3,p4,p5,p6,p7,p8,q0,q1,q2,q3,q4,q5,q6,rfl,rfl⟩,rfl⟩;refine aJ (cS [7,8,9,10,11,12,13,14,15,16,17] 18) ?_;refine aU ?_;refine ab ?_;obtain ⟨q7,h⟩:=ah h;exact lY
    exact jY
   rintro _ _ ⟨h5,h6,h7,h8,h9,i0,i1,i2,i8,j0,j1,j2,j3,j4,j5,j6,j7,j8,h,rfl,rfl⟩;refine ab ?_;obtain ⟨q8,h⟩:=ah h;exact lY
  exact jY
 rintro _ _ ⟨f3,f4,g0,g1,p21,g2,g3,g4,g5,g6,g7,g8,g9,h0,h1,h2,h3,h4,h,rfl,rfl⟩;refine ab ?_;obtain ⟨q9,k,h⟩:=aa h;refine gD (Fe (xz k) call46.out J J J (cp [] [4,0,1,2,3,10,9] [5,6,7,8,11,12,13] 14 J)) ?_;rintro _ _ ⟨_,⟨r0,r1,r2,r3,r4,r5,r6,s0,s1,s2,s3,s4,s5,rfl,rfl⟩,rfl⟩;refine ab ?_;obtain ⟨s6,k,h⟩:=aa h;refine gD (oC (oK k)) ?_;rintro _ _ ⟨_,⟨s7,s8,s9,t1,t2,u0,u1,u2,u3,u4,u5,u6,u7,rfl,rfl⟩,rfl⟩;exact eY
def iF (N:Nat)(a1:Int)(a2:Int)(p21:Int)(a6:Int)(a7:Int)(a8:Int)(b0:Int)(b1:Int)(b2:Int)(b3:Int)(b4:RV)(b5:Int)(b6:Int)(b7:Int)(b8:List RF)(b9:RV)(c0:RS)(c7:RS)(c8:RJ)(c9:RJ)(d0:List RI)(d1:(List (Rx×Int)))(d2:RU):Option (Bool×Rn):=
 some (true,(⟨(⟨a1,a2,p21⟩:RD),(⟨a6,a7,a8,b0,b1,b2,b3⟩:Rs),(),(⟨(⟨c0,c7⟩:Rp),c8,c9,(⟨d2⟩:Rr)⟩:RG),(⟨d0,d1⟩:Rl),b4,b5,b6,b7,b8,b9⟩:Rn))
def fe (N:Nat)(a0:Rn):Option (Bool×Rn):=
 bif decide (a0.Sh.SG<=a0.Sr.SE) then (some (false,a0)) else (bn (in64 (a0.Sr.SE+1)) ((eX N a0.Sh.SH (⟨(⟨a0.Sr.SE+1,a0.Sr.SC,a0.Sr.SD⟩:RD),a0.Sh,(),a0.Sb,a0.Sf,a0.St,a0.Sy,a0.Sx,a0.Sz,a0.Sv,a0.Su⟩:Rn)).bind fun a6=>bif a6 then ((el N (⟨(⟨a0.Sr.SE+1,a0.Sr.SC,a0.Sr.SD⟩:RD),a0.Sh,(),a0.Sb,a0.Sf,a0.St,a0.Sy,a0.Sx,a0.Sz,a0.Sv,a0.Su⟩:Rn)).bind fun a1=>iF N a1.Sr.SE a1.Sr.SC a1.Sr.SD a1.Sh.SI a1.Sh.SG a1.Sh.SA a1.Sh.SF a1.Sh.Se a1.Sh.SH a1.Sh.SJ a1.St a1.Sy a1.Sx a1.Sz a1.Sv a1.Su a1.Sb.m_.Se a1.Sb.m_.Sc a1.Sb.Si a1.Sb.Sq a1.Sf.Sf a1.Sf.Ss a1.Sb.So.at_) else ((eX N a0.Sh.Se (⟨(⟨a0.Sr.SE+1,a0.Sr.SC,a0.Sr.SD⟩:RD),a0.Sh,(),a0.Sb,a0.Sf,a0.St,a0.Sy,a0.Sx,a0.Sz,a0.Sv,a0.Su⟩:Rn)).bind fun a7=>bif a7 then ((ei N (⟨(⟨a0.Sr.SE+1,a0.Sr.SC,a0.Sr.SD⟩:RD),a0.Sh,(),a0.Sb,a0.Sf,a0.St,a0.Sy,a0.Sx,a0.Sz,a0.Sv,a0.Su⟩:Rn)).bind fun a2=>iF N a2.Sr.SE a2.Sr.SC a2.Sr.SD a2.Sh.SI a2.Sh.SG a2.Sh.SA a2.Sh.SF a2.Sh.Se a2.Sh.SH a2.Sh.SJ a2.St a2.Sy a2.Sx a2.Sz a2.Sv a2.Su a2.Sb.m_.Se a2.Sb.m_.Sc a2.Sb.Si a2.Sb.Sq a2.Sf.Sf a2.Sf.Ss a2.Sb.So.at_) else (iF N (a0.Sr.SE+1) a0.Sr.SC a0.Sr.SD a0.Sh.SI a0.Sh.SG a0.Sh.SA a0.Sh.SF a0.Sh.Se a0.Sh.SH a0.Sh.SJ a0.St a0.Sy a0.Sx a0.Sz a0.Sv a0.Su a0.Sb.m_.Se a0.Sb.m_.Sc a0.Sb.Si a0.Sb.Sq a0.Sf.Sf a0.Sf.Ss a0.Sb.So.at_))))
theorem ma {N:Nat}{a0:Rn}{r:Bool×Rn}(h:fe N a0=some r):Okc RY 16 [pV B1 0] ([ac B1 79 (iU a0 B2 B9 A12 n12 c12 A13 n13 c13 A14 n14 c14),ac B2 99 [U A3 n3 c3,U A4 n4 c4,U A5 n5 c5,U A6 n6 c6,pV B7 0],aR A3 n3 c3 a0.Sb.m_.Se,aR A4 n4 c4 a0.Sb.m_.Sc,aw A5 n5 c5 a0.Sb.Si,aw A6 n6 c6 a0.Sb.Sq,ac B7 147 [.map (some M8)],aj bf bI M8 a0.Sb.So.at_,ac B9 118 [U A10 n10 c10,.map (some M11)],f9 A10 n10 c10 a0.Sf.Sf,aj ap dp M11 a0.Sf.Ss,ce A12 n12 c12 a0.St,gX A13 n13 c13 a0.Sv,ce A14 n14 c14 a0.Su]) (fun u post=> ∃A0 n0 c0 A1 n1 c1 A2 n2 c2 A3 n3 c3 M4 A5 n5 c5 M6 A7 n7 c7 A8 n8 c8 A9 n9 c9,u=.bool r.1/\post=[ac B1 79 (iU r.2 B2 B9 A7 n7 c7 A8 n8 c8 A9 n9 c9),ac B2 99 [U A0 n0 c0,U A1 n1 c1,U A2 n2 c2,U A3 n3 c3,pV B7 0],aR A0 n0 c0 r.2.Sb.m_.Se,aR A1 n1 c1 r.2.Sb.m_.Sc,aw A2 n2 c2 r.2.Sb.Si,aw A3 n3 c3 r.2.Sb.Sq,ac B7 147 [.map (some M4)],aj bf bI M4 r.2.Sb.So.at_,ac B9 118 [U A5 n5 c5,.map (some M6)],f9 A5 n5 c5 r.2.Sf.Sf,aj ap dp M6 r.2.Sf.Ss,ce A7 n7 c7 r.2.St,gX A8 n8 c8 r.2.Sv,ce A9 n9 c9 r.2.Su]):=by
 refine cG Tryz.func16 ?_;intro a1;refine ab ?_;refine aL ?_;refine dY [] ?_;refine ab ?_;refine zE 1 J (bA J Ra) ?_;refine fd h ?_ ?_<;>intro h
 ·exact eY
 refine ab ?_;obtain ⟨h6,h⟩:=ah h;refine ab ?_;refine fm (dR J) ?_;refine ao (fun s L=> ∃a2 a6 p21 a7 a8 b0 b1 b2 b3 b4 b5 b6 b7 b8 b9 d0 d1 d2 d3 d4 d6 e2 e3 e4 e5 e6 e7 e8 e9 f1 f2 f3 f4 g0 g1 g2 g3 g4 g5 g6 g7 g8 g9 h0 h1 h2 h3 h4 h5,iF N a2 a6 p21 a7 a8 b0 b1 b2 b3 b4 b5 b6 b7 b8 b9 d0 d1 d2 d3 d4 d6 e2 e3=some r/\s=[(2,.bool false)]/\L=[ce e4 e5 e6 b5,gX e7 e8 e9 b9,ce f1 f2 f3 d0,ac B1 79 [iV a2,iV a6,iV p21,iV a7,iV a8,iV b0,iV b1,iV b2,iV b3,iV b4,.nilIface,pV B2 0,pV B9 0,U e4 e5 e6,iV b6,iV b7,iV b8,U e7 e8 e9,U f1 f2 f3],aR f4 g0 g1 d1,aR g2 g3 g4 d2,aw g5 g6 g7 d3,aw g8 g9 h0 d4,ac B2 99 [U f4 g0 g1,U g2 g3 g4,U g5 g6 g7,U g8 g9 h0,pV B7 0],f9 h1 h2 h3 d6,aj ap dp h4 e2,ac B9 118 [U h1 h2 h3,.map (some h4)],aj bf bI h5 e3,ac B7 147 [.map (some h5)]]) ?_ ?_
 ·refine ab ?_;obtain ⟨h7,k,h⟩:=aa h;refine jQ (lP (nF k) call43.out J J J (hJ (aC (i:=0) J) (hJ (aC (i:=1) J) (hJ (aC (i:=2) J) (hJ (ai (i:=3) J) (hJ (ai (i:=4) J) (hJ (ai (i:=5) J) (hJ (ai (i:=6) J) (hJ (aC (i:=7) J) (hJ (bW (i:=8) J) (hJ (aC (i:=9) J) (hJ (ai (i:=10) J) (hJ (bW (i:=11) J) (hJ (ai (i:=12) J) (hJ (ai (i:=13) J) (hJ (ai (i:=14) J) ay))))))))))))))) my) ?_;refine gH J h ?_ ?_<;>intro h
  ·refine ic (t:=[(1,pV a1 0),(2,.bool false)]) ?_ mw (ae _)
   refine jv I 6 [] [0,5] [37,38,39,40,41,42] [[],[],[1],[2],[3],[4]] [aV (pV B1 0),
aV (pV B1 0),
aV (pV B1 0),
aV (pV B1 11),
aV (pV B2 0),
aV (.func (.func 45) #[pV B2 0] #[])] [] (ae _) (mf) I rfl rfl ?_ ?_ ?_
   ·exact me
   ·refine ad J ?_ ?_
    ·exact ci (qj (caps:=[]) J J) J (aQ J (ae _))
    refine ad J ?_ ?_
    ·exact er (bL 1 J J uY J) J (aQ J (ae _))
    refine ad J ?_ ?_
    ·exact ci (gk J EC) J (aQ J (ae _))
    refine ad J ?_ ?_
    ·exact ci (bz J) J (aQ J (ae _))
    refine ad J ?_ ?_
    ·exact er (bL 0 J J Fg J) J (aQ J (ae _))
    refine ad J ?_ ?_
    ·exact er (bL 0 J J Fg J) J (aQ J (ae _))
    exact eJ
   refine oe (t:=[(37,pV B1 0),(42,.func (.func 45) #[pV B2 0] #[]),(1,pV a1 0),(2,.bool false)]) (L':=[ac a1 24 [pV B1 0],ac B1 79 [iV (a0.Sr.SE+1),iV a0.Sr.SC,iV a0.Sr.SD,iV a0.Sh.SI,iV a0.Sh.SG,iV a0.Sh.SA,iV a0.Sh.SF,iV a0.Sh.Se,iV a0.Sh.SH,iV a0.Sh.SJ,.nilIface,pV B2 0,pV B9 0,U A12 n12 c12,iV a0.Sy,iV a0.Sx,iV a0.Sz,U A13 n13 c13,U A14 n14 c14],ac B2 99 [U A3 n3 c3,U A4 n4 c4,U A5 n5 c5,U A6 n6 c6,pV B7 0],aR A3 n3 c3 a0.Sb.m_.Se,aR A4 n4 c4 a0.Sb.m_.Sc,aw A5 n5 c5 a0.Sb.Si,aw A6 n6 c6 a0.Sb.Sq,ac B7 147 [.map (some M8)],aj bf bI M8 a0.Sb.So.at_,ac B9 118 [U A10 n10 c10,.map (some M11)],f9 A10 n10 c10 a0.Sf.Sf,aj ap dp M11 a0.Sf.Ss,ce A12 n12 c12 a0.St,gX A13 n13 c13 a0.Sv,ce A14 n14 c14 a0.Su]) ?_ mw (ae _);obtain ⟨h8,k,h⟩:=aa h;refine pz 6 J I (oC (pF k)) J J J ?_;rintro _ _ ⟨_,⟨h9,i0,i1,i2,i8,j0,j1,j2,j3,j4,j5,j6,j7,j8,j9,k0,k1,k2,k3,k4,k5,k6,k7,k8,k9,l0,rfl,rfl⟩,rfl⟩;refine ms I ?_;exact jY
  refine ab ?_;obtain ⟨l1,k,h⟩:=aa h;refine jQ (lP (nF k) call43.out J J J (hJ (aC (i:=0) J) (hJ (aC (i:=1) J) (hJ (aC (i:=2) J) (hJ (ai (i:=3) J) (hJ (ai (i:=4) J) (hJ (ai (i:=5) J) (hJ (ai (i:=6) J) (hJ (aC (i:=7) J) (hJ (bW (i:=8) J) (hJ (aC (i:=9) J) (hJ (ai (i:=10) J) (hJ (bW (i:=11) J) (hJ (ai (i:=12) J) (hJ (ai (i:=13) J) (hJ (ai (i:=14) J) ay))))))))))))))) my) ?_;refine gH J h ?_ ?_<;>intro h
  ·refine ic (t:=[(1,pV a1 0),(2,.bool false)]) ?_ mw (ae _)
   refine jv I 6 [] [0,5] [52,53,54,55,56,57] [[],[],[1],[2],[3],[4]] [aV (pV B1 0),
aV (pV B1 0),
aV (pV B1 0),
aV (pV B1 11),
aV (pV B2 0),
aV (.func (.func 46) #[pV B2 0] #[])] [] (ae _) (mf) I rfl rfl ?_ ?_ ?_
   ·exact me
   ·refine ad J ?_ ?_
    ·exact ci (qj (caps:=[]) J J) J (aQ J (ae _))
    refine ad J ?_ ?_
    ·exact er (bL 1 J J uY J) J (aQ J (ae _))
    refine ad J ?_ ?_
    ·exact ci (gk J EC) J (aQ J (ae _))
    refine ad J ?_ ?_
    ·exact ci (bz J) J (aQ J (ae _))
    refine ad J ?_ ?_
    ·exact er (bL 0 J J Fg J) J (aQ J (ae _))
    refine ad J ?_ ?_
    ·exact er (bL 0 J J Fg J) J (aQ J (ae _))
    exact eJ
   refine oe (t:=[(52,pV B1 0),(57,.func (.func 46) #[pV B2 0] #[]),(1,pV a1 0),(2,.bool false)]) (L':=[ac a1 24 [pV B1 0],ac B1 79 [iV (a0.Sr.SE+1),iV a0.Sr.SC,iV a0.Sr.SD,iV a0.Sh.SI,iV a0.Sh.SG,iV a0.Sh.SA,iV a0.Sh.SF,iV a0.Sh.Se,iV a0.Sh.SH,iV a0.Sh.SJ,.nilIface,pV B2 0,pV B9 0,U A12 n12 c12,iV a0.Sy,iV a0.Sx,iV a0.Sz,U A13 n13 c13,U A14 n14 c14],ac B2 99 [U A3 n3 c3,U A4 n4 c4,U A5 n5 c5,U A6 n6 c6,pV B7 0],aR A3 n3 c3 a0.Sb.m_.Se,aR A4 n4 c4 a0.Sb.m_.Sc,aw A5 n5 c5 a0.Sb.Si,aw A6 n6 c6 a0.Sb.Sq,ac B7 147 [.map (some M8)],aj bf bI M8 a0.Sb.So.at_,ac B9 118 [U A10 n10 c10,.map (some M11)],f9 A10 n10 c10 a0.Sf.Sf,aj ap dp M11 a0.Sf.Ss,ce A12 n12 c12 a0.St,gX A13 n13 c13 a0.Sv,ce A14 n14 c14 a0.Su]) ?_ mw (ae _);obtain ⟨l2,k,h⟩:=aa h;refine pz 6 J I (oC (pE k)) J J J ?_;rintro _ _ ⟨_,⟨l3,l4,l5,l6,l7,l8,l9,m0,m1,m2,m3,m4,m5,m6,m7,m8,m9,o0,o1,o2,p0,p1,p2,p3,p4,p5,rfl,rfl⟩,rfl⟩;refine Dn ?_;refine ms I ?_;exact jY
  exact jY
 rintro _ _ ⟨a2,a6,p21,a7,a8,b0,b1,b2,b3,b4,b5,b6,b7,b8,b9,d0,d1,d2,d3,d4,d6,e2,e3,e4,e5,e6,e7,e8,e9,f1,f2,f3,f4,g0,g1,g2,g3,g4,g5,g6,g7,g8,g9,h0,h1,h2,h3,h4,h5,h,rfl,rfl⟩;exact eY
def ge (N:Nat)(a0:Int):Option ByteArray:=
 (bif decide (a0<0) then (some true) else (some (decide (4<=a0)))).bind fun b2=>bif b2 then (some (⟨#[]⟩:ByteArray)) else ((au ([(⟨#[69,114,114,111,114]⟩:ByteArray),(⟨#[84,121,112,101,69,114,114,111,114]⟩:ByteArray),(⟨#[82,101,102,101,114,101,110,99,101,69,114,114,111,114]⟩:ByteArray),(⟨#[82,97,110,103,101,69,114,114,111,114]⟩:ByteArray)]:List ByteArray) a0).bind fun x4=>some x4)
theorem zJ {N:Nat}{a0:Int}{r:ByteArray}(h:ge N a0=some r):Okc RY 77 [iV a0] ([]) (fun u post=>u=.string r/\post=[]):=by
 refine cG Tryz.func77 ?_;intro B1;refine sY ?_;refine gS 3 10 7 h ?_;intro b2 h;refine fd h ?_ ?_<;>intro h
 ·exact eY
 refine ab ?_;obtain ⟨x4,a1,a2,a6,h⟩:=bG h;refine gE (Ki (n:=4) J J Tryz.underlying156 size9.out a1 a2) ?_;refine Dv (Hh Value.string ([(⟨#[69,114,114,111,114]⟩:ByteArray),(⟨#[84,121,112,101,69,114,114,111,114]⟩:ByteArray),(⟨#[82,101,102,101,114,101,110,99,101,69,114,114,111,114]⟩:ByteArray),(⟨#[82,97,110,103,101,69,114,114,111,114]⟩:ByteArray)]:List ByteArray) 0 J J Nj a6) ?_;exact eN
def gz (N:Nat)(a0:Int):Option ByteArray:=
 (bif decide (a0<0) then (some true) else (some (decide (22<=a0)))).bind fun b2=>bif b2 then (some (⟨#[]⟩:ByteArray)) else ((au ([(⟨#[]⟩:ByteArray),(⟨#[110,111,116,32,99,97,108,108,97,98,108,101]⟩:ByteArray),(⟨#[110,111,116,32,97,32,99,111,110,115,116,114,117,99,116,111,114]⟩:ByteArray),(⟨#[110,111,116,32,97,110,32,111,98,106,101,99,116]⟩:ByteArray),(⟨#[110,111,32,112,114,111,112,101,114,116,105,101,115]⟩:ByteArray),(⟨#[110,111,116,32,105,116,101,114,97,98,108,101]⟩:ByteArray),(⟨#[110,111,116,32,100,101,102,105,110,101,100]⟩:ByteArray),(⟨#[116,111,111,32,101,97,114,108,121]⟩:ByteArray),(⟨#[99,111,110,115,116,97,110,116]⟩:ByteArray),(⟨#[114,101,97,100,32,111,110,108,121]⟩:ByteArray),(⟨#[110,111,116,32,101,120,116,101,110,115,105,98,108,101]⟩:ByteArray),(⟨#[110,111,116,32,99,111,110,102,105,103,117,114,97,98,108,101]⟩:ByteArray),(⟨#[115,121,109,98,111,108]⟩:ByteArray),(⟨#[110,111,32,112,114,105,109,105,116,105,118,101]⟩:ByteArray),(⟨#[116,111,111,32,108,111,110,103]⟩:ByteArray),(⟨#[116,111,111,32,100,101,101,112]⟩:ByteArray),(⟨#[110,111,32,108,101,110,103,116,104]⟩:ByteArray),(⟨#[114,117,110,110,105,110,103]⟩:ByteArray),(⟨#[114,105,110,103]⟩:ByteArray),(⟨#[110,111,32,116,104,114,111,119]⟩:ByteArray),(⟨#[110,111,32,100,101,115,99,114,105,112,116,105,111,110]⟩:ByteArray),(⟨#[110,111,32,107,101,121]⟩:ByteArray)]:List ByteArray) a0).bind fun x4=>some x4)
theorem vF {N:Nat}{a0:Int}{r:ByteArray}(h:gz N a0=some r):Okc RY 78 [iV a0] ([]) (fun u post=>u=.string r/\post=[]):=by
 refine cG Tryz.func78 ?_;intro B1;refine sY ?_;refine gS 3 10 7 h ?_;intro b2 h;refine fd h ?_ ?_<;>intro h
 ·exact eY
 refine ab ?_;obtain ⟨x4,a1,a2,a6,h⟩:=bG h;refine gE (Ki (n:=22) J J Tryz.underlying157 size9.out a1 a2) ?_;refine Dv (Hh Value.string ([(⟨#[]⟩:ByteArray),(⟨#[110,111,116,32,99,97,108,108,97,98,108,101]⟩:ByteArray),(⟨#[110,111,116,32,97,32,99,111,110,115,116,114,117,99,116,111,114]⟩:ByteArray),(⟨#[110,111,116,32,97,110,32,111,98,106,101,99,116]⟩:ByteArray),(⟨#[110,111,32,112,114,111,112,101,114,116,105,101,115]⟩:ByteArray),(⟨#[110,111,116,32,105,116,101,114,97,98,108,101]⟩:ByteArray),(⟨#[110,111,116,32,100,101,102,105,110,101,100]⟩:ByteArray),(⟨#[116,111,111,32,101,97,114,108,121]⟩:ByteArray),(⟨#[99,111,110,115,116,97,110,116]⟩:ByteArray),(⟨#[114,101,97,100,32,111,110,108,121]⟩:ByteArray),(⟨#[110,111,116,32,101,120,116,101,110,115,105,98,108,101]⟩:ByteArray),(⟨#[110,111,116,32,99,111,110,102,105,103,117,114,97,98,108,101]⟩:ByteArray),(⟨#[115,121,109,98,111,108]⟩:ByteArray),(⟨#[110,111,32,112,114,105,109,105,116,105,118,101]⟩:ByteArray),(⟨#[116,111,111,32,108,111,110,103]⟩:ByteArray),(⟨#[116,111,111,32,100,101,101,112]⟩:ByteArray),(⟨#[110,111,32,108,101,110,103,116,104]⟩:ByteArray),(⟨#[114,117,110,110,105,110,103]⟩:ByteArray),(⟨#[114,105,110,103]⟩:ByteArray),(⟨#[110,111,32,116,104,114,111,119]⟩:ByteArray),(⟨#[110,111,32,100,101,115,99,114,105,112,116,105,111,110]⟩:ByteArray),(⟨#[110,111,32,107,101,121]⟩:ByteArray)]:List ByteArray) 0 J J Nj a6) ?_;exact eN
def dH (N:Nat)(a0:Rn)(a1:RF):Option Rn:=
 bn (cc (a0.Sv.length+([a1]:List RF).length)) (some (⟨a0.Sr,a0.Sh,(),a0.Sb,a0.Sf,a0.St,a0.Sy,a0.Sx,a0.Sz,a0.Sv++([a1]:List RF),a0.Su⟩:Rn))
theorem mZ {N:Nat}{a0:Rn}{a1:RF}{r:Rn}(h:dH N a0 a1=some r):Okc RY 79 [pV B1 0,(Hx a1)] ([ac B1 79 (iU a0 B2 B9 A12 n12 c12 A13 n13 c13 A14 n14 c14),ac B2 99 [U A3 n3 c3,U A4 n4 c4,U A5 n5 c5,U A6 n6 c6,pV B7 0],aR A3 n3 c3 a0.Sb.m_.Se,aR A4 n4 c4 a0.Sb.m_.Sc,aw A5 n5 c5 a0.Sb.Si,aw A6 n6 c6 a0.Sb.Sq,ac B7 147 [.map (some M8)],aj bf bI M8 a0.Sb.So.at_,ac B9 118 [U A10 n10 c10,.map (some M11)],f9 A10 n10 c10 a0.Sf.Sf,aj ap dp M11 a0.Sf.Ss,ce A12 n12 c12 a0.St,gX A13 n13 c13 a0.Sv,ce A14 n14 c14 a0.Su]) (fun u post=> ∃A0 n0 c0 A1 n1 c1 A2 n2 c2 A3 n3 c3 M4 A5 n5 c5 M6 A7 n7 c7 A8 n8 c8 A9 n9 c9,u=.tuple #[]/\post=[ac B1 79 (iU r B2 B9 A7 n7 c7 A8 n8 c8 A9 n9 c9),ac B2 99 [U A0 n0 c0,U A1 n1 c1,U A2 n2 c2,U A3 n3 c3,pV B7 0],aR A0 n0 c0 r.Sb.m_.Se,aR A1 n1 c1 r.Sb.m_.Sc,aw A2 n2 c2 r.Sb.Si,aw A3 n3 c3 r.Sb.Sq,ac B7 147 [.map (some M4)],aj bf bI M4 r.Sb.So.at_,ac B9 118 [U A5 n5 c5,.map (some M6)],f9 A5 n5 c5 r.Sf.Sf,aj ap dp M6 r.Sf.Ss,ce A7 n7 c7 r.St,gX A8 n8 c8 r.Sv,ce A9 n9 c9 r.Su]):=by
 refine cG Tryz.func79 ?_;intro a8;refine ab ?_;refine fm (jD J Ra) ?_;refine cq J ?_;refine ic (t:=[(0,pV B1 0),(3,pV a8 0)]) ?_ mw (ae _)
 refine jv I 7 [0] [0,4,6] [6,7,8,9,10,11,12] [[],[],[1],[2],[3],[],[5]] [aV (pV B1 0),
 aV (pV B1 0),
 aV (pV B1 0),
 aV (pV B1 17),
 aV (U A13 n13 c13),
 aV ((Hx a1)),
 aX3 (fun (a2:Option Addr) (a6 a7:Nat)=> U a2 a6 a7) (fun a2 a6 a7=> [gX a2 a6 a7 ([a1]:List RF)])] [] (ae _) (wg rfl mf) I rfl rfl ?_ ?_ ?_
 ·refine we J ?_ ?_
  ·exact DS (bo J) J (aQ J (ae _))
  exact me
 ·refine ad J ?_ ?_
  ·refine uz (aY (R:=tz) (vss:=[(Ep a1)]) (xs:=[a1]) J (Kz _ _ _ _ _) J J (fun _ _ hr=> .cons J All2.nil)) J ?_;rintro _ _ ⟨A16,n16,c16,rfl,rfl⟩;exact AE A16 n16 c16 (ae _)
  refine ad J ?_ ?_
  ·exact er (mM (us:=Ep a1) 0 J J agg84.out J) J (aQ J (ae _))
  refine ad J ?_ ?_
  ·exact er (bL 1 J J MI J) J (aQ J (ae _))
  refine ad J ?_ ?_
  ·exact ci (gk J EB) J (aQ J (ae _))
  refine ad J ?_ ?_
  ·exact ci (bz J) J (aQ J (ae _))
  refine ad J ?_ ?_
  ·exact ci (bo J) J (aQ J (ae _))
  refine ad J ?_ ?_
  ·exact ci (bo J) J (aQ J (ae _))
  exact eJ
 intro a2 a6 a7;refine oe (t:=[(6,pV B1 0),(10,U A13 n13 c13),(12,U a2 a6 a7),(0,pV B1 0),(3,pV a8 0)]) (L':=[gX a2 a6 a7 ([a1]:List RF),ac a8 84 (Ep a1),ac B1 79 (iU a0 B2 B9 A12 n12 c12 A13 n13 c13 A14 n14 c14),ac B2 99 [U A3 n3 c3,U A4 n4 c4,U A5 n5 c5,U A6 n6 c6,pV B7 0],aR A3 n3 c3 a0.Sb.m_.Se,aR A4 n4 c4 a0.Sb.m_.Sc,aw A5 n5 c5 a0.Sb.Si,aw A6 n6 c6 a0.Sb.Sq,ac B7 147 [.map (some M8)],aj bf bI M8 a0.Sb.So.at_,ac B9 118 [U A10 n10 c10,.map (some M11)],f9 A10 n10 c10 a0.Sf.Sf,aj ap dp M11 a0.Sf.Ss,ce A12 n12 c12 a0.St,gX A13 n13 c13 a0.Sv,ce A14 n14 c14 a0.Su]) ?_ mw (ae _);obtain ⟨b3,h⟩:=ah h;refine pz 7 J I (aX 14 0 J J aI J J t9 N2 J J b3) J J J ?_;rintro _ _ ⟨b0,b1,b2,rfl,rfl⟩;refine yU 8 J I (bz J) J J J ?_;refine yU 9 J I (gk J EB) J J J ?_;refine yT 10 J I (ax (us:=[U b0 b1 b2]) (cs':=(iU a0 B2 B9 A12 n12 c12 b0 b1 b2 A14 n14 c14)) 2 J J J J size58.out J J J) J J ?_;rintro _ _ rfl;refine ms I ?_;exact eN
def kY (N:Nat)(a0:Rl)(a1:Int):Option Bool:=
 (bif decide (0<=a1) then (some (decide (a1<(a0.Sf.length:Int)))) else (some false)).bind fun b4=>some b4
theorem mW {N:Nat}{a0:Rl}{a1:Int}{r:Bool}(h:kY N a0 a1=some r):Okc RY 152 [pV B1 0,iV a1] ([ar B1 118 [U A2 n2 c2,.map (some M3)],rK A2 n2 c2 a0.Sf,eS ap dp M3 a0.Ss]) (fun u post=>u=.bool r/\post=[]):=by
 refine cG Tryz.func152 ?_;refine fm (jD J Tryz.underlying72) ?_;refine gS 8 19 11 h ?_;intro b4 h;exact eY
end Go.Proofs.YtjmonlcchlkdhaaGreat
namespace Go.Proofs.YtjmonlcchlkdhaaGreat
variable {A1 A10 A12 A13 A14 A15 A16 A2 A3 A4 A5 A6:Option Addr} {B1 B2 B6 B7 B8 B9 M11 M3 M7 M8 c1 c10 c12 c13 c14 c15 c16 c2 c3 c4 c5 c6 n1 n10 n12 n13 n14 n15 n16 n2 n3 n4 n5 n6:Nat}
open Go.RowKit Asn
set_option maxRecDepth 20000
def yr (N:Nat)(p7:Int):Option (Int×Bool):=
 bif decide (4294967294<p7) then (some (0,false)) else (some (p7,true))
def tL (N:Nat)(a0:ByteArray):Nat->Int->Int->Option (Int×Bool)
 |0,_,_=>none
 |m8+1,p9,a1=>bif decide (a1<(a0.size:Int)) then ((IF a0 a1).bind fun a6=>(bif decide (a6<48) then (some true) else ((IF a0 a1).bind fun a7=>some (decide (57<a7)))).bind fun a8=>bif a8 then (some (0,false)) else (bn (in64 (10*p9)) ((IF a0 a1).bind fun a2=>bn (in64 ((10*p9)+(IntKind.i64.wrap (IntKind.u8.wrap (a2 - 48))))) (bn (in64 (a1+1)) ((tL N a0 m8) ((10*p9)+(IntKind.i64.wrap (IntKind.u8.wrap (a2 - 48)))) (a1+1)))))) else (yr N p9)
def Ag (N:Nat)(a0:ByteArray):Option (Int×Bool):=
 (bif a0.toList==(⟨#[]⟩:ByteArray).toList then (some true) else (some (decide (10<(a0.size:Int))))).bind fun b1=>(bif b1 then (some true) else ((IF a0 0).bind fun x3=>(bif decide (x3=48) then (some (decide (1<(a0.size:Int)))) else (some false)).bind fun b4=>some b4)).bind fun b2=>bif b2 then (some (0,false)) else (tL N a0 N 0 0)
theorem Em {N:Nat}{a0:ByteArray}{r:Int×Bool}(h:Ag N a0=some r):Okc RY 187 [.string a0] ([]) (fun u post=>u=.tuple #[iV r.1,.bool r.2]/\post=[]):=by
 refine cG Tryz.func187 ?_;refine sZ ?_;refine fm (vC J J) ?_;obtain ⟨b1,b3,h⟩:=aa h;refine aH 4 12 b1 ?_ ?_
 ·clear h;refine aE 8 J (fun g1=> ?_) (fun g1=> ?_)
  ·have h:=az g1 b3;exact gY
  have h:=aA g1 b3;refine ab ?_;refine pP (yI J Q9) J (jK g1 J) J ?_;exact gY
 refine ab ?_;obtain ⟨b2,b5,h⟩:=aa h;refine aH 9 22 b2 ?_ ?_
 ·clear h;refine aE 13 J (fun g2=> ?_) (fun g2=> ?_)
  ·have h:=az g2 b5;exact gY
  have h:=aA g2 b5;refine ab ?_;obtain ⟨x3,b8,h⟩:=aa h;refine pP (wx J J Q9 b8) J (jK g2 J) J ?_;refine ab ?_;obtain ⟨b4,b6,h⟩:=aa h;refine aH 4 21 b4 ?_ ?_
  ·clear h;refine aE 17 J (fun g4=> ?_) (fun g4=> ?_)
   ·have h:=az g4 b6;refine ab ?_;refine pP (yI J Q9) J (cY g4 J) J ?_;exact gY
   have h:=aA g4 b6;exact gY
  exact gY
 refine fd h ?_ ?_<;>intro h
 ·exact eY
 refine ab ?_;refine ao (fun s L=> ∃p7,yr N p7=some r/\s=[(2,iV 0),(3,.bool false),(4,iV p7)]/\L=[]) ?_ ?_
 ·refine ab ?_;refine fm (yI J Q9) ?_;refine aW (fun m s L=> ∃p9 a6,tL N a0 m p9 a6=some r/\s=[(0,.string a0),(2,iV 0),(3,.bool false),(4,iV p9),(24,iV (a0.size:Int)),(25,iV a6)]/\L=[]) N _ _ ⟨0,0,h,J,J⟩ sA (cS [] 0) ?_;rintro (_|m8) _ _ ⟨p9,a6,h,rfl,rfl⟩
  ·exact am h
  rw [tL.eq_2] at h;refine ab ?_;refine aL ?_;refine gH J h ?_ ?_<;>intro h
  ·refine sY ?_;refine sZ ?_;obtain ⟨c0,a7,h⟩:=aa h;refine fm (wx J J Q9 a7) ?_;obtain ⟨b9,a1,h⟩:=aa h;refine aH 5 37 b9 ?_ ?_
   ·clear h;refine aE 32 J (fun a2=> ?_) (fun a2=> ?_)
    ·have h:=az a2 a1;exact gY
    have h:=aA a2 a1;refine ab ?_;obtain ⟨c7,a8,h⟩:=aa h;refine pP (wx J J Q9 a8) J (jK a2 J) J ?_;exact gY
   refine fd h ?_ ?_<;>intro h
   ·exact eY
   refine ab ?_;obtain ⟨b7,h⟩:=ah h;refine fm (sC J J b7.1 b7.2) ?_;obtain ⟨c8,b0,h⟩:=aa h;refine gE (wx J J Q9 b0) ?_;refine gE (Mj J J) ?_;refine gE (Kk J J hP) ?_;obtain ⟨c9,h⟩:=ah h;refine ab ?_;obtain ⟨d0,h⟩:=ah h;exact lY
  exact jY
 rintro _ _ ⟨p7,h,rfl,rfl⟩;refine sZ ?_;refine gH J h ?_ ?_<;>intro h
 ·exact eY
 exact eY
def Af (N:Nat)(a0:Rq):Option Bool:=
 bif decide (a0.Sa=0) then ((bif a0.S.toList==(⟨#[]⟩:ByteArray).toList then (some (decide (0<=a0.N))) else (some false)).bind fun b3=>(bif b3 then (some (decide (a0.N<=4294967294))) else (some false)).bind fun b4=>some b4) else (bif decide (a0.Sa=1) then ((Ag N a0.S).bind fun y6=>(bif decide (a0.N=0) then (some (decide ((a0.S.size:Int)<=65536))) else (some false)).bind fun b7=>(bif b7 then (some (!y6.2)) else (some false)).bind fun b8=>some b8) else (bif decide (a0.Sa=2) then ((bif a0.S.toList==(⟨#[]⟩:ByteArray).toList then (some (decide (1<=a0.N))) else (some false)).bind fun a1=>some a1) else (some false)))
theorem El {N:Nat}{a0:Rq}{r:Bool}(h:Af N a0=some r):Okc RY 153 [(FB a0)] ([]) (fun u post=>u=.bool r/\post=[]):=by
 refine cG Tryz.func153 ?_;intro B1;refine sY ?_;refine gH J h ?_ ?_<;>intro h
 ·refine ab ?_;refine fm (vC J J) ?_;refine gS 4 16 12 h ?_;intro b3 h;refine ab ?_;refine gS 4 21 17 h ?_;intro b4 h;exact eY
 refine fd h ?_ ?_<;>intro h
 ·refine ab ?_;obtain ⟨y6,k,h⟩:=aa h;refine jQ (oR (Em k)) ?_;obtain ⟨b7,a1,h⟩:=aa h;refine aH 5 38 b7 ?_ ?_
  ·clear h;refine aE 33 J (fun g7=> ?_) (fun g7=> ?_)
   ·have h:=az g7 a1;refine ab ?_;refine pP (yI J Q9) J (cY g7 J) J ?_;exact gY
   have h:=aA g7 a1;exact gY
  refine ab ?_;refine gS 3 42 39 h ?_;intro b8 h;exact eY
 refine fd h ?_ ?_<;>intro h
 ·refine ab ?_;refine fm (vC J J) ?_;refine gS 4 52 48 h ?_;intro a2 h;exact eY
 exact eY
def zV (N:Nat)(a0:Int):Option Bool:=
 (bif decide (0<=a0) then (some (decide (a0<=15))) else (some false)).bind fun b1=>(bif b1 then (some (!decide (HI .i64 a0 9=9))) else (some false)).bind fun b2=>some b2
theorem D5 {N:Nat}{a0:Int}{r:Bool}(h:zV N a0=some r):Okc RY 154 [iV a0] ([]) (fun u post=>u=.bool r/\post=[]):=by
 refine cG Tryz.func154 ?_;refine gS 3 8 5 h ?_;intro b1 h;refine ab ?_;obtain ⟨b2,a1,h⟩:=aa h;refine aH 4 13 b2 ?_ ?_
 ·clear h;refine aE 9 J (fun g2=> ?_) (fun g2=> ?_)
  ·have h:=az g2 a1;refine ab ?_;refine pP (GQ J J) J (cY g2 J) J ?_;exact gY
  have h:=aA g2 a1;exact gY
 exact eY
def pT (N:Nat)(a0:Rl)(a1:Int)(a2:Rq)(a3:Int):Option Int:=
 (kY N a0 a1).bind fun y5=>bif !y5 then (some 2) else ((Af N a2).bind fun y7=>(bif !y7 then (some true) else ((zV N a3).bind fun y9=>some (!y9))).bind fun b8=>bif b8 then (some 1) else (some 0))
theorem uF {N:Nat}{a0:Rl}{a1:Int}{a2:Rq}{a3:Int}{r:Int}(h:pT N a0 a1 a2 a3=some r):Okc RY 114 [pV B1 0,iV a1,(FB a2),iV a3] ([ar B1 118 [U A2 n2 c2,.map (some M3)],rK A2 n2 c2 a0.Sf,eS ap dp M3 a0.Ss]) (fun u post=>u=iV r/\post=[]):=by
 refine cG Tryz.func114 ?_;intro B4;refine sY ?_;refine fm (bA J Tryz.underlying72) ?_;refine cJ J ?_;refine ab ?_;obtain ⟨y5,k,h⟩:=aa h;refine jQ (oR (mW k)) ?_;refine gH J h ?_ ?_<;>intro h
 ·exact eY
 refine ab ?_;obtain ⟨y7,k,h⟩:=aa h;refine jQ (oR (El k)) ?_;obtain ⟨b8,a6,h⟩:=aa h;refine aH 4 25 b8 ?_ ?_
 ·clear h;refine aE 21 J (fun g8=> ?_) (fun g8=> ?_)
  ·have h:=az g8 a6;exact gY
  have h:=aA g8 a6;refine ab ?_;obtain ⟨y9,k,h⟩:=aa h;refine gU (oR (D5 k)) (jK g8 J) ?_;exact gY
 refine fd h ?_ ?_<;>intro h
 ·exact eY
 exact eY
def pU (N:Nat):Option (Int×Int×Bool):=
 some (0,0,false)
def lp (N:Nat)(a0:Rl)(a2:Rq):Nat->Int->Int->Int->ByteArray->Int->Int->Option (Int×Int×Bool)
 |0,_,_,_,_,_,_=>none
 |a7+1,a8,p13,b0,b1,b2,a6=>bif decide (0<a6) then (bif decide ((⟨p13,b0,b1⟩:Rq)=a2) then (bn (in64 (a6 - 1)) (some (a6 - 1,b2,true))) else ((au a0.Sf a8).bind fun a1=>(lp N a0 a2 a7) a1.Up a1.SK.Sa a1.SK.N a1.SK.S a1.SP a1.SQ)) else (pU N)
def qG (N:Nat)(a0:Rl)(a1:Int)(a2:Rq):Option (Int×Int×Bool):=
 (kY N a0 a1).bind fun y5=>bif !y5 then (some (0,0,false)) else ((au a0.Sf a1).bind fun x8=>lp N a0 a2 N x8.Up x8.SK.Sa x8.SK.N x8.SK.S x8.SP x8.SQ)
theorem wF {N:Nat}{a0:Rl}{a1:Int}{a2:Rq}{r:Int×Int×Bool}(h:qG N a0 a1 a2=some r):Okc RY 115 [pV B1 0,iV a1,(FB a2)] ([ar B1 118 [U A2 n2 c2,.map (some M3)],rK A2 n2 c2 a0.Sf,eS ap dp M3 a0.Ss]) (fun u post=>u=.tuple #[iV r.1,iV r.2.1,.bool r.2.2]/\post=[]):=by
 refine cG Tryz.func115 ?_;intro B4;refine sY ?_;obtain ⟨y5,k,h⟩:=aa h;refine jQ (oR (mW k)) ?_;refine gH J h ?_ ?_<;>intro h
 ·exact eY
 refine ab ?_;refine ao (fun s L=>pU N=some r/\s=[(6,iV 0),(7,iV 0),(8,.bool false)]/\L=[]) ?_ ?_
 ·refine ab ?_;obtain ⟨x8,b7,b8,b9,h⟩:=bG h
  refine iD fun B9=> ?_
  refine aW (fun m s L=> ∃a8 p13 a6 a7 b0 b1 b2,lp N a0 a2 m a8 p13 a6 a7 b0 b1=some r/\s=[(0,pV B1 0),(5,pV B4 0),(6,iV 0),(7,iV 0),(8,.bool false),(9,pV b2 0)]/\L=[ac b2 114 [iV a8,iV p13,iV a6,.string a7,iV b0,iV b1],rK A2 n2 c2 a0.Sf,eS ap dp M3 a0.Ss,ar B1 118 [U A2 n2 c2,.map (some M3)],ac B4 82 (MK a2)]) N _ _ ⟨x8.Up,x8.SK.Sa,x8.SK.N,x8.SK.S,x8.SP,x8.SQ,B9,h,J,J⟩ sA (cS [0,3,4,2,1] 5) ?_;rintro (_|c0) _ _ ⟨a8,p13,a6,a7,b0,b1,b2,h,rfl,rfl⟩
  ·exact am h
  rw [lp.eq_2] at h;refine sZ ?_;refine gH J h ?_ ?_<;>intro h
  ·refine sY ?_;refine fm (Kf (x:=(⟨p13,a6,a7⟩:Rq)) (y:=a2) J J) ?_;refine gH J h ?_ ?_<;>intro h
   ·refine dY [] ?_;refine ab ?_;obtain ⟨c7,h⟩:=ah h;exact eY
   refine sY ?_;intro c8;refine ab ?_;refine cZ I _ (ae _) ?_;refine ab ?_;obtain ⟨b3,b4,b5,b6,h⟩:=bG h;refine ab ?_;refine qo 8 J I I (ax (us:=Eo b3) (cs':=Eo b3) 0 J J J J size114.out J J J) ?_;rintro _ _ rfl;exact lY
  exact jY
 rintro _ _ ⟨h,rfl,rfl⟩;exact eY
def sL (N:Nat)(a0:Rl)(a1:Int):Option (RI×Bool):=
 (kY N a0 a1).bind fun y5=>bif !y5 then (some ((⟨0,(⟨0,0,⟨#[]⟩⟩:Rq),0,0⟩:RI),false)) else ((au a0.Sf a1).bind fun x7=>some (x7,true))
theorem xO {N:Nat}{a0:Rl}{a1:Int}{r:RI×Bool}(h:sL N a0 a1=some r):Okc RY 155 [pV B1 0,iV a1] ([ar B1 118 [U A2 n2 c2,.map (some M3)],rK A2 n2 c2 a0.Sf,eS ap dp M3 a0.Ss]) (fun u post=>u=.tuple #[(Lw r.1),.bool r.2]/\post=[]):=by
 refine cG Tryz.func155 ?_;intro B4;refine sY ?_;obtain ⟨y5,k,h⟩:=aa h;refine jQ (oR (mW k)) ?_;refine gH J h ?_ ?_<;>intro h
 ·exact eY
 refine ab ?_;obtain ⟨x7,a2,a6,a7,h⟩:=bG h;exact eY
def rT (N:Nat)(a0:Rl)(a1:Int):Option Int:=
 (sL N a0 a1).bind fun y4=>some y4.1.SQ
theorem xl {N:Nat}{a0:Rl}{a1:Int}{r:Int}(h:rT N a0 a1=some r):Okc RY 116 [pV B1 0,iV a1] ([ar B1 118 [U A2 n2 c2,.map (some M3)],rK A2 n2 c2 a0.Sf,eS ap dp M3 a0.Ss]) (fun u post=>u=iV r/\post=[]):=by
 refine cG Tryz.func116 ?_;obtain ⟨y4,k,h⟩:=aa h;refine jQ (oR (xO k)) ?_;intro B5;exact eY
def pS (N:Nat)(a1:Int)(p21:List RI)(a2:(List (Rx×Int))):Option (Int×Int×Rl):=
 some (a1,0,(⟨p21,a2⟩:Rl))
def lZ (N:Nat)(p7:List RI):Nat->Int->Int->(List RI)->(List (Rx×Int))->Option (Int×Int×Rl)
 |0,_,_,_,_=>none
 |b1+1,a2,a8,a6,b0=>bif decide (a8<(p7.length:Int)) then ((au p7 a8).bind fun a1=>(au a6 a2).bind fun a7=>bn (in64 (a7.SQ+1)) (bn (cc (a6.length+([(⟨a2,a1.SK,a1.SP,a7.SQ+1⟩:RI)]:List RI).length)) (bn (in64 (((a6++([(⟨a2,a1.SK,a1.SP,a7.SQ+1⟩:RI)]:List RI)).length:Int) - 1)) (bn (in64 (a8+1)) ((lZ N p7 b1) (((a6++([(⟨a2,a1.SK,a1.SP,a7.SQ+1⟩:RI)]:List RI)).length:Int) - 1) (a8+1) (a6++([(⟨a2,a1.SK,a1.SP,a7.SQ+1⟩:RI)]:List RI)) (xi b0 (⟨a2,a1.SK,a1.SP⟩:Rx) (a6.length:Int))))))) else (pS N a2 a6 b0)
def mV (N:Nat)(a0:Rl)(p6:Int)(p7:List RI):Option (Int×Int×Rl):=
 bn (in64 (1073741824 - (a0.Sf.length:Int))) (bif decide (1073741824 - (a0.Sf.length:Int)<(p7.length:Int)) then (some (0,5,a0)) else (lZ N p7 N p6 0 a0.Sf a0.Ss))
def mU (N:Nat)(a0:Rl):Nat->Int->(List RI)->Option (Int×Int×Rl)
 |0,_,_=>none
 |m8+1,p9,a1=>bif decide (0<(a1.length:Int)) then ((au a1 0).bind fun a2=>(au a1 0).bind fun a6=>bif !((lk a0.Ss (⟨p9,a2.SK,a6.SP⟩:Rx)).isSome) then (mV N a0 p9 a1) else (bn ((0:Int)<=1/\(1:Int).toNat<=a1.length/\a1.length<=a1.length) ((mU N a0 m8) ((lk a0.Ss (⟨p9,a2.SK,a6.SP⟩:Rx)).getD 0) ((a1.drop ((1:Int).toNat)).take (a1.length - (1:Int).toNat))))) else (mV N a0 p9 a1)
def rS (N:Nat)(a0:Rl)(a1:Int)(a2:List RI):Option (Int×Int×Rl):=
 mU N a0 N a1 a2
theorem xj {N:Nat}{a0:Rl}{a1:Int}{a2:List RI}{r:Int×Int×Rl}(h:rS N a0 a1 a2=some r):Okc RY 117 [pV B1 0,iV a1,U A4 n4 c4] ([rK A4 n4 c4 a2,ac B1 118 [U A2 n2 c2,.map (some M3)],f9 A2 n2 c2 a0.Sf,aj ap dp M3 a0.Ss]) (fun u post=> ∃A0 n0 c0 M1,u=.tuple #[iV r.1,iV r.2.1]/\post=[ac B1 118 [U A0 n0 c0,.map (some M1)],f9 A0 n0 c0 r.2.2.Sf,aj ap dp M1 r.2.2.Ss]):=by
 refine cG Tryz.func117 ?_;refine ao (fun s L=> ∃p6 p7 A7 n7 c7,mV N a0 p6 p7=some r/\s=[(0,pV B1 0),(6,iV 0),(7,iV 0),(8,iV p6),(9,U A7 n7 c7)]/\L=[rK A7 n7 c7 p7,f9 A2 n2 c2 a0.Sf,aj ap dp M3 a0.Ss,ac B1 118 [U A2 n2 c2,.map (some M3)]]) ?_ ?_
 ·refine ab ?_;refine aW (fun m s L=> ∃p9 c9 A10 n10 c10,mU N a0 m p9 c9=some r/\s=[(0,pV B1 0),(6,iV 0),(7,iV 0),(8,iV p9),(9,U A10 n10 c10)]/\L=[rK A10 n10 c10 c9,f9 A2 n2 c2 a0.Sf,aj ap dp M3 a0.Ss,ac B1 118 [U A2 n2 c2,.map (some M3)]]) N _ _ ⟨a1,a2,A4,n4,c4,h,J,J⟩ sA (cS [0,2,3,1] 4) ?_;rintro (_|m8) _ _ ⟨p9,c9,A10,n10,c10,h,rfl,rfl⟩
  ·exact am h
  rw [mU.eq_2] at h;refine sZ ?_;refine gH J h ?_ ?_<;>intro h
  ·refine ab ?_;refine dY [] ?_;refine ab ?_;obtain ⟨f3,d2,d3,f4,h⟩:=bG h;refine ab ?_;refine zR 7 J (sT 0 J bj J (bP d2 d3) Cm) ?_;refine ab ?_;obtain ⟨g0,d4,d6,g1,h⟩:=bG h;refine ab ?_;refine zR 11 J (sT 0 J bj J (bP d4 d6) Cl) ?_;refine ab ?_;refine zR 14 J (qP (a:=(⟨p9,f3.SK,g0.SP⟩:Rx)) (z:=0) 2 J tJ J J Tryz.underlying116 BW zero3.out) ?_;refine sY ?_;refine gH J h ?_ ?_<;>intro h
   ·refine ab ?_;refine Py J ?_;exact jY
   refine ab ?_;refine cZ I _ (ae _) ?_;refine zY [0,1] ?_;obtain ⟨d0,h⟩:=ah h;refine zP 0 J (l:=(1:Int).toNat) (h:=c9.length) d0.2.1 d0.2.2 ?_;rintro A16 n16 c16 g2;refine zR 2 J (vX 1 J g2 J EM size114.out J (by rw [Int.toNat_of_nonneg d0.1];rfl) d0.2.1) ?_;refine zX [3,4] ?_;exact lY
  exact jY
 rintro _ _ ⟨p6,p7,A7,n7,c7,h,rfl,rfl⟩;refine sZ ?_;obtain ⟨h0,h⟩:=ah h;refine fd h ?_ ?_<;>intro h
 ·exact eY
 refine ab ?_;refine ao (fun s L=> ∃e2 p21 e3 e4 e5 e6,pS N e2 p21 e3=some r/\s=[(6,iV 0),(7,iV 0),(8,iV e2)]/\L=[f9 e4 e5 e6 p21,aj ap dp M3 e3,ac B1 118 [U e4 e5 e6,.map (some M3)]]) ?_ ?_
 ·refine ab ?_;refine aW (fun m s L=> ∃a7 b7 b3 d1 a8 b0 b1,lZ N p7 m a7 b7 b3 d1=some r/\s=[(0,pV B1 0),(6,iV 0),(7,iV 0),(8,iV a7),(51,U A7 n7 c7),(52,iV (p7.length:Int)),(53,iV b7)]/\L=[rK A7 n7 c7 p7,f9 a8 b0 b1 b3,aj ap dp M3 d1,ac B1 118 [U a8 b0 b1,.map (some M3)]]) N _ _ ⟨p6,0,a0.Sf,a0.Ss,A2,n2,c2,h,J,J⟩ sA (cS [0,1,2,3] 4) ?_;rintro (_|h1) _ _ ⟨a7,b7,b3,d1,a8,b0,b1,h,rfl,rfl⟩
  ·exact am h
  rw [lZ.eq_2] at h;refine ab ?_;refine aL ?_;refine gH J h ?_ ?_<;>intro h
  ·refine sY ?_;obtain ⟨a6,g3,g4,g5,h⟩:=bG h
   refine iD fun b8=> ?_
   refine dY [] ?_;refine ab ?_;refine qo 15 J I I (gp (a:=(⟨a7,a6.SK,a6.SP⟩:Rx)) (b:=(b3.length:Int)) 3 J J J J Tryz.underlying116 BW) ?_;rintro _ _ rfl;refine ab ?_;refine aL ?_;obtain ⟨b2,b9,c8,e7,h⟩:=bG h;obtain ⟨e8,h⟩:=ah h;refine ic (t:=[(0,pV B1 0),(6,iV 0),(7,iV 0),(8,iV a7),(13,pV b8 0),(51,U A7 n7 c7),(52,iV (p7.length:Int)),(53,iV b7)]) ?_ mw (ae _)
   refine jv I 21 [0] [0,4,20] [72,73,74,75,76,77,78,79,80,81,82,83,84,85,86,87,88,89,90,91,92] [[],[],[1],[2],[3],[],[],[6],[],[8],[],[10],[11],[12],[],[13,14],[15],[16],[17],[5,7,9,18],[19]] [aV (pV B1 0),
aV (pV B1 0),
aV (pV B1 0),
aV (pV B1 0),
aV (U a8 b0 b1),
aV (iV a7),
aV (pV b8 1),
aV ((FB a6.SK)),
aV (pV b8 4),
aV (iV a6.SP),
aV (pV B1 0),
aV (pV B1 0),
aV (pV B1 0),
aV (U a8 b0 b1),
aV (iV a7),
aV (d5 (U a8 b0 b1) a7.toNat 6 0),
aV (d5 (U a8 b0 b1) a7.toNat 6 5),
aV (iV b2.SQ),
aV (iV (b2.SQ+1)),
aV (.agg #[iV a7,iV a6.SK.Sa,iV a6.SK.N,.string a6.SK.S,iV a6.SP,iV (b2.SQ+1)]),
aX3 (fun (b4:Option Addr) (b5 b6:Nat)=> U b4 b5 b6) (fun b4 b5 b6=> [f9 b4 b5 b6 ([(⟨a7,a6.SK,a6.SP,b2.SQ+1⟩:RI)]:List RI)])] [] (ae _) (wg rfl mf) I rfl rfl ?_ ?_ ?_
   ·refine we J ?_ ?_
    ·exact DS (bo J) J (aQ J (ae _))
    exact me
   ·refine ad J ?_ ?_
    ·refine uz (aY (R:=vY) (vss:=[[iV a7,iV a6.SK.Sa,iV a6.SK.N,.string a6.SK.S,iV a6.SP,iV (b2.SQ+1)]]) (xs:=[(⟨a7,a6.SK,a6.SP,b2.SQ+1⟩:RI)]) J (zL _ _ _ _ _ _) J J (fun _ _ hr=> .cons J All2.nil)) J ?_;rintro _ _ ⟨g6,g7,g8,rfl,rfl⟩;exact AE g6 g7 g8 (ae _)
    refine ad J ?_ ?_
    ·exact ci (iX J (bld_114_0_1_2_3 _ _ _ _ _ _).out) J (aQ J (ae _))
    refine ad J ?_ ?_
    ·exact ci (ia J J e8.1 e8.2) J (aQ J (ae _))
    refine ad J ?_ ?_
    ·exact er (iO (u:=iV b2.SQ) 2 J aI J e7 su (fun _ _ _ h=>by rw [show _=_ from h];rfl)) J (aQ J (ae _))
    refine ad J ?_ ?_
    ·exact er (sT 2 J aI J (bP b9 c8) FL) J (aQ J (ae _))
    refine ad J ?_ ?_
    ·exact er (gn 2 J aI J J EM size114.out b9 c8) J (aQ J (ae _))
    refine ad J ?_ ?_
    ·exact ci (bo J) J (aQ J (ae _))
    refine ad J ?_ ?_
    ·exact er (bL 4 J J Gy J) J (aQ J (ae _))
    refine ad J ?_ ?_
    ·exact ci (ml J yG) J (aQ J (ae _))
    refine ad J ?_ ?_
    ·exact ci (bz J) J (aQ J (ae _))
    refine ad J ?_ ?_
    ·exact ci (bo J) J (aQ J (ae _))
    refine ad J ?_ ?_
    ·exact er (bL 0 J J su J) J (aQ J (ae _))
    refine ad J ?_ ?_
    ·exact ci (gk J Cl) J (aQ J (ae _))
    refine ad J ?_ ?_
    ·exact er (mM (us:=MK a6.SK) 0 J J agg82.out J) J (aQ J (ae _))
    refine ad J ?_ ?_
    ·exact ci (gk J Cm) J (aQ J (ae _))
    refine ad J ?_ ?_
    ·exact ci (bo J) J (aQ J (ae _))
    refine ad J ?_ ?_
    ·exact er (bL 4 J J Gy J) J (aQ J (ae _))
    refine ad J ?_ ?_
    ·exact ci (ml J yG) J (aQ J (ae _))
    refine ad J ?_ ?_
    ·exact ci (bz J) J (aQ J (ae _))
    refine ad J ?_ ?_
    ·exact ci (bo J) J (aQ J (ae _))
    refine ad J ?_ ?_
    ·exact ci (bo J) J (aQ J (ae _))
    exact eJ
   intro b4 b5 b6;refine oe (t:=[(72,pV B1 0),(76,U a8 b0 b1),(92,U b4 b5 b6),(0,pV B1 0),(6,iV 0),(7,iV 0),(8,iV a7),(13,pV b8 0),(51,U A7 n7 c7),(52,iV (p7.length:Int)),(53,iV b7)]) (L':=[f9 b4 b5 b6 ([(⟨a7,a6.SK,a6.SP,b2.SQ+1⟩:RI)]:List RI),ac b8 114 (Eo a6),rK A7 n7 c7 p7,f9 a8 b0 b1 b3,aj ap dp M3 (xi d1 (⟨a7,a6.SK,a6.SP⟩:Rx) (b3.length:Int)),ac B1 118 [U a8 b0 b1,.map (some M3)]]) ?_ mw (ae _);obtain ⟨g9,h⟩:=ah h;refine pz 21 J I (aX 3 0 J J aI J J EM N3 J J g9) J J J ?_;rintro _ _ ⟨e9,f1,f2,rfl,rfl⟩;refine yU 22 J I (bz J) J J J ?_;refine yU 23 J I (ml J yG) J J J ?_;refine yT 24 J I (ax (us:=[U e9 f1 f2]) (cs':=[U e9 f1 f2,.map (some M3)]) 5 J J J J size115.out J J J) J J ?_;rintro _ _ rfl;refine Dn ?_;refine ms I ?_;refine ab ?_;obtain ⟨h2,h⟩:=ah h;refine ab ?_;obtain ⟨h3,h⟩:=ah h;exact lY
  exact jY
 rintro _ _ ⟨e2,p21,e3,e4,e5,e6,h,rfl,rfl⟩;exact eY
def cK (N:Nat)(a0:Rl)(a1:Int)(a2:Rq)(a3:Int):Option (Int×Int×Rl):=
 (pT N a0 a1 a2 a3).bind fun y5=>bif !decide (y5=0) then (some (0,y5,a0)) else ((qG N a0 a1 a2).bind fun y7=>bif y7.2.2 then (some (0,4,a0)) else ((rT N a0 a1).bind fun y9=>bif decide (1024<=y9) then (some (0,9,a0)) else ((rS N a0 a1 ([(⟨0,a2,a3,0⟩:RI)]:List RI)).bind fun a6=>some (a6.1,a6.2.1,a6.2.2))))
theorem wE {N:Nat}{a0:Rl}{a1:Int}{a2:Rq}{a3:Int}{r:Int×Int×Rl}(h:cK N a0 a1 a2 a3=some r):Okc RY 80 [pV B1 0,iV a1,(FB a2),iV a3] ([ac B1 118 [U A2 n2 c2,.map (some M3)],f9 A2 n2 c2 a0.Sf,aj ap dp M3 a0.Ss]) (fun u post=> ∃A0 n0 c0 M1,u=.tuple #[iV r.1,iV r.2.1]/\post=[ac B1 118 [U A0 n0 c0,.map (some M1)],f9 A0 n0 c0 r.2.2.Sf,aj ap dp M1 r.2.2.Ss]):=by
 refine cG Tryz.func80 ?_;intro B4;refine sY ?_;obtain ⟨y5,k,h⟩:=aa h;refine jQ (oR (uF k)) ?_;refine gH J h ?_ ?_<;>intro h
 ·exact eY
 refine sY ?_;obtain ⟨y7,k,h⟩:=aa h;refine jQ (oR (wF k)) ?_;refine gH J h ?_ ?_<;>intro h
 ·exact eY
 refine sY ?_;obtain ⟨y9,k,h⟩:=aa h;refine jQ (oR (xl k)) ?_;refine gH J h ?_ ?_<;>intro h
 ·exact eY
 refine ab ?_;refine gD (aY (R:=vY) (vss:=[[iV 0,iV a2.Sa,iV a2.N,.string a2.S,iV a3,iV 0]]) (xs:=[(⟨0,a2,a3,0⟩:RI)]) J (zL _ _ _ _ _ _) J J (fun _ _ hr=> .cons J All2.nil)) ?_;rintro _ _ ⟨a6,a7,a8,rfl,rfl⟩;refine nu (bJ 0 J) ?_;obtain ⟨b0,k,h⟩:=aa h;refine gD (oC (xj k)) ?_;rintro _ _ ⟨_,⟨A13,n13,c13,b1,rfl,rfl⟩,rfl⟩;exact eY
def lu (N:Nat)(a0:Rn):Option RH:=
 some (⟨6,2,(⟨0,0,⟨#[]⟩⟩:Ry)⟩:RH)
theorem oo {N:Nat}{a0:Rn}{r:RH}(h:lu N a0=some r):Okc RY 11 [pV B1 0] ([ar B1 79 (iU a0 B2 B9 A12 n12 c12 A13 n13 c13 A14 n14 c14),ar B2 99 [U A3 n3 c3,U A4 n4 c4,U A5 n5 c5,U A6 n6 c6,pV B7 0],bi A3 n3 c3 a0.Sb.m_.Se,bi A4 n4 c4 a0.Sb.m_.Sc,bc A5 n5 c5 a0.Sb.Si,bc A6 n6 c6 a0.Sb.Sq,ar B7 147 [.map (some M8)],eS bf bI M8 a0.Sb.So.at_,ar B9 118 [U A10 n10 c10,.map (some M11)],rK A10 n10 c10 a0.Sf.Sf,eS ap dp M11 a0.Sf.Ss,CI A12 n12 c12 a0.St,BZ A13 n13 c13 a0.Sv,CI A14 n14 c14 a0.Su]) (fun u post=>u=(Dw r)/\post=[]):=by
 refine cG Tryz.func11 ?_;intro a1;refine sY ?_;refine fm (bA J Ra) ?_;refine cJ J ?_;exact eY
def df (N:Nat)(a0:Rn)(a1:Rk):Option (Ry×Bool×Rn):=
 bif decide (a0.Sh.SF<=a0.Sr.SC) then (some ((⟨0,0,⟨#[]⟩⟩:Ry),false,a0)) else ((ee N a0.Sb a1).bind fun a2=>bif !decide (a2.2.1=0) then (some ((⟨0,0,⟨#[]⟩⟩:Ry),false,(⟨a0.Sr,a0.Sh,(),a2.2.2,a0.Sf,a0.St,a0.Sy,a0.Sx,a0.Sz,a0.Sv,a0.Su⟩:Rn))) else (bn (in64 (a0.Sr.SC+1)) (some ((⟨7,a2.1,⟨#[]⟩⟩:Ry),true,(⟨(⟨a0.Sr.SE,a0.Sr.SC+1,a0.Sr.SD⟩:RD),a0.Sh,(),a2.2.2,a0.Sf,a0.St,a0.Sy,a0.Sx,a0.Sz,a0.Sv,a0.Su⟩:Rn)))))
theorem eL {N:Nat}{a0:Rn}{a1:Rk}{r:Ry×Bool×Rn}(h:df N a0 a1=some r):Okc RY 61 [pV B1 0,.agg #[iV a1.Sa,iV a1.Sk,iV a1.Sj,iV a1.Sn,U A15 n15 c15,U A16 n16 c16]] ([bc A15 n15 c15 a1.Sg,bc A16 n16 c16 a1.Sd,ac B1 79 (iU a0 B2 B9 A12 n12 c12 A13 n13 c13 A14 n14 c14),ac B2 99 [U A3 n3 c3,U A4 n4 c4,U A5 n5 c5,U A6 n6 c6,pV B7 0],aR A3 n3 c3 a0.Sb.m_.Se,aR A4 n4 c4 a0.Sb.m_.Sc,aw A5 n5 c5 a0.Sb.Si,aw A6 n6 c6 a0.Sb.Sq,ac B7 147 [.map (some M8)],aj bf bI M8 a0.Sb.So.at_,ac B9 118 [U A10 n10 c10,.map (some M11)],f9 A10 n10 c10 a0.Sf.Sf,aj ap dp M11 a0.Sf.Ss,ce A12 n12 c12 a0.St,gX A13 n13 c13 a0.Sv,ce A14 n14 c14 a0.Su]) (fun u post=> ∃A0 n0 c0 A1 n1 c1 A2 n2 c2 A3 n3 c3 M4 A5 n5 c5 M6 A7 n7 c7 A8 n8 c8 A9 n9 c9,u=.tuple #[.agg #[iV r.1.Sa,iV r.1.N,.string r.1.S],.bool r.2.1]/\post=[ac B1 79 (iU r.2.2 B2 B9 A7 n7 c7 A8 n8 c8 A9 n9 c9),ac B2 99 [U A0 n0 c0,U A1 n1 c1,U A2 n2 c2,U A3 n3 c3,pV B7 0],aR A0 n0 c0 r.2.2.Sb.m_.Se,aR A1 n1 c1 r.2.2.Sb.m_.Sc,aw A2 n2 c2 r.2.2.Sb.Si,aw A3 n3 c3 r.2.2.Sb.Sq,ac B7 147 [.map (some M4)],aj bf bI M4 r.2.2.Sb.So.at_,ac B9 118 [U A5 n5 c5,.map (some M6)],f9 A5 n5 c5 r.2.2.Sf.Sf,aj ap dp M6 r.2.2.Sf.Ss,ce A7 n7 c7 r.2.2.St,gX A8 n8 c8 r.2.2.Sv,ce A9 n9 c9 r.2.2.Su]):=by
 refine cG Tryz.func61 ?_;intro a2
 refine iD fun a6=> ?_
 refine aL ?_;refine dY [] ?_;refine ab ?_;refine zE 1 J (bA J Ra) ?_;refine fd h ?_ ?_<;>intro h
 ·exact eY
 refine ab ?_;refine aL ?_;refine cZ I ([ac a6 23 [iV 0,iV 0,.string (⟨#[]⟩)],ac a2 42 [iV a1.Sa,iV a1.Sk,iV a1.Sj,iV a1.Sn,U A15 n15 c15,U A16 n16 c16],bc A15 n15 c15 a1.Sg,bc A16 n16 c16 a1.Sd,ac B1 79 (iU a0 B2 B9 A12 n12 c12 A13 n13 c13 A14 n14 c14),ac B9 118 [U A10 n10 c10,.map (some M11)],f9 A10 n10 c10 a0.Sf.Sf,aj ap dp M11 a0.Sf.Ss,ce A12 n12 c12 a0.St,gX A13 n13 c13 a0.Sv,ce A14 n14 c14 a0.Su]) (cS [0,1,2,3,4,12,13,14,15,16,17] 18) ?_;refine ab ?_;obtain ⟨a7,k,h⟩:=aa h;refine zD 5 J (oC (nV k)) ?_;rintro _ _ ⟨_,⟨a8,b0,b1,b2,b3,b4,b5,b6,b7,b8,b9,d0,d1,rfl,rfl⟩,rfl⟩;refine aJ (cS [7,8,9,10,11,12,13,14,15,16,17] 18) ?_;refine aU ?_;refine sY ?_;refine gH J h ?_ ?_<;>intro h
 ·exact eY
 refine ab ?_;obtain ⟨d2,h⟩:=ah h;exact eY
def kQ (N:Nat)(d4:Int)(d6:Int)(e2:ByteArray)(e3:Bool)(a1:Int)(a2:Int)(a6:Int)(a7:Int)(a8:Int)(b0:Int)(b1:Int)(b2:Int)(b3:Int)(b4:Int)(b5:RV)(b6:Int)(b7:Int)(b8:Int)(b9:List RF)(c0:RV)(c7:RS)(c8:RS)(c9:RJ)(d0:RJ)(d1:List RI)(d2:(List (Rx×Int)))(d3:RU):Option (RH×Rn):=
 bif !e3 then ((lu N (⟨(⟨a1,a2,a6⟩:RD),(⟨a7,a8,b0,b1,b2,b3,b4⟩:Rs),(),(⟨(⟨c7,c8⟩:Rp),c9,d0,(⟨d3⟩:Rr)⟩:RG),(⟨d1,d2⟩:Rl),b5,b6,b7,b8,b9,c0⟩:Rn)).bind fun e4=>some (e4,(⟨(⟨a1,a2,a6⟩:RD),(⟨a7,a8,b0,b1,b2,b3,b4⟩:Rs),(),(⟨(⟨c7,c8⟩:Rp),c9,d0,(⟨d3⟩:Rr)⟩:RG),(⟨d1,d2⟩:Rl),b5,b6,b7,b8,b9,c0⟩:Rn))) else (some ((⟨1,0,(⟨d4,d6,e2⟩:Ry)⟩:RH),(⟨(⟨a1,a2,a6⟩:RD),(⟨a7,a8,b0,b1,b2,b3,b4⟩:Rs),(),(⟨(⟨c7,c8⟩:Rp),c9,d0,(⟨d3⟩:Rr)⟩:RG),(⟨d1,d2⟩:Rl),b5,b6,b7,b8,b9,c0⟩:Rn)))
def cy (N:Nat)(a2:Int)(a1:Rn)(a8:Int):Option (RH×Rn):=
 (cK N a1.Sf 0 (⟨1,0,(⟨#[109,101,115,115,97,103,101]⟩:ByteArray)⟩:Rq) 5).bind fun a7=>bif !decide (a7.2.1=0) then ((lu N (⟨a1.Sr,a1.Sh,(),a1.Sb,a7.2.2,a1.St,a1.Sy,a1.Sx,a1.Sz,a1.Sv,a1.Su⟩:Rn)).bind fun b0=>some (b0,(⟨a1.Sr,a1.Sh,(),a1.Sb,a7.2.2,a1.St,a1.Sy,a1.Sx,a1.Sz,a1.Sv,a1.Su⟩:Rn))) else ((gz N a2).bind fun b1=>(aZ N a1.Sb a8).bind fun b2=>(df N (⟨a1.Sr,a1.Sh,(),a1.Sb,a7.2.2,a1.St,a1.Sy,a1.Sx,a1.Sz,a1.Sv,a1.Su⟩:Rn) (⟨1,a7.1,9,0,([b2,(⟨5,0,b1⟩:Ry)]:List Ry),[]⟩:Rk)).bind fun a6=>kQ N a6.1.Sa a6.1.N a6.1.S a6.2.1 a6.2.2.Sr.SE a6.2.2.Sr.SC a6.2.2.Sr.SD a6.2.2.Sh.SI a6.2.2.Sh.SG a6.2.2.Sh.SA a6.2.2.Sh.SF a6.2.2.Sh.Se a6.2.2.Sh.SH a6.2.2.Sh.SJ a6.2.2.St a6.2.2.Sy a6.2.2.Sx a6.2.2.Sz a6.2.2.Sv a6.2.2.Su a6.2.2.Sb.m_.Se a6.2.2.Sb.m_.Sc a6.2.2.Sb.Si a6.2.2.Sb.Sq a6.2.2.Sf.Sf a6.2.2.Sf.Ss a6.2.2.Sb.So.at_)
def dS (N:Nat)(a1:Int)(a2:Int)(a0:Rn)(a7:ByteArray):Option (RH×Rn):=
 (dH N a0 (⟨10,(⟨0,0,⟨#[]⟩⟩:Rq),a7⟩:RF)).bind fun a6=>(bif decide (0<=a1) then (some (decide (a1<=3))) else (some false)).bind fun a8=>bif a8 then (bn (in64 (5+a1)) (cy N a2 a6 (5+a1))) else (cy N a2 a6 5)
def dv (N:Nat)(a0:Rn)(a1:Int)(a2:Int):Option (RH×Rn):=
 (ge N a1).bind fun a6=>bif !decide (a2=0) then ((gz N a2).bind fun a7=>bn ((⟨#[58,32]⟩:ByteArray).size+a7.size<=9223372036854775807) (bn (a6.size+((⟨#[58,32]⟩:ByteArray)++a7).size<=9223372036854775807) (dS N a1 a2 a0 (a6++((⟨#[58,32]⟩:ByteArray)++a7))))) else (dS N a1 a2 a0 a6)
theorem pg {N:Nat}{a0:Rn}{a1:Int}{a2:Int}{r:RH×Rn}(h:dv N a0 a1 a2=some r):Okc RY 41 [pV B1 0,iV a1,iV a2] ([ac B1 79 (iU a0 B2 B9 A12 n12 c12 A13 n13 c13 A14 n14 c14),ac B2 99 [U A3 n3 c3,U A4 n4 c4,U A5 n5 c5,U A6 n6 c6,pV B7 0],aR A3 n3 c3 a0.Sb.m_.Se,aR A4 n4 c4 a0.Sb.m_.Sc,aw A5 n5 c5 a0.Sb.Si,aw A6 n6 c6 a0.Sb.Sq,ac B7 147 [.map (some M8)],aj bf bI M8 a0.Sb.So.at_,ac B9 118 [U A10 n10 c10,.map (some M11)],f9 A10 n10 c10 a0.Sf.Sf,aj ap dp M11 a0.Sf.Ss,ce A12 n12 c12 a0.St,gX A13 n13 c13 a0.Sv,ce A14 n14 c14 a0.Su]) (fun u post=> ∃A0 n0 c0 A1 n1 c1 A2 n2 c2 A3 n3 c3 M4 A5 n5 c5 M6 A7 n7 c7 A8 n8 c8 A9 n9 c9,u=(Dw r.1)/\post=[ac B1 79 (iU r.2 B2 B9 A7 n7 c7 A8 n8 c8 A9 n9 c9),ac B2 99 [U A0 n0 c0,U A1 n1 c1,U A2 n2 c2,U A3 n3 c3,pV B7 0],aR A0 n0 c0 r.2.Sb.m_.Se,aR A1 n1 c1 r.2.Sb.m_.Sc,aw A2 n2 c2 r.2.Sb.Si,aw A3 n3 c3 r.2.Sb.Sq,ac B7 147 [.map (some M4)],aj bf bI M4 r.2.Sb.So.at_,ac B9 118 [U A5 n5 c5,.map (some M6)],f9 A5 n5 c5 r.2.Sf.Sf,aj ap dp M6 r.2.Sf.Ss,ce A7 n7 c7 r.2.St,gX A8 n8 c8 r.2.Sv,ce A9 n9 c9 r.2.Su]):=by
 refine cG Tryz.func41 ?_;intro b3;refine sY ?_;refine fm (bA J Ra) ?_;refine cJ J ?_;refine ab ?_;obtain ⟨s0,k,h⟩:=aa h;refine jQ (oR (zJ k)) ?_;refine ao (fun s L=> ∃e7,dS N a1 a2 a0 e7=some r/\s=[(0,pV B1 0),(1,iV a1),(2,iV a2),(6,pV b3 0),(7,.string e7)]/\L=[ce A12 n12 c12 a0.St,gX A13 n13 c13 a0.Sv,ce A14 n14 c14 a0.Su,ac B1 79 (iU a0 B2 B9 A12 n12 c12 A13 n13 c13 A14 n14 c14),ac b3 34 [iV 0,iV 0,iV 0,iV 0,.string (⟨#[]⟩)],aR A3 n3 c3 a0.Sb.m_.Se,aR A4 n4 c4 a0.Sb.m_.Sc,aw A5 n5 c5 a0.Sb.Si,aw A6 n6 c6 a0.Sb.Sq,ac B2 99 [U A3 n3 c3,U A4 n4 c4,U A5 n5 c5,U A6 n6 c6,pV B7 0],f9 A10 n10 c10 a0.Sf.Sf,aj ap dp M11 a0.Sf.Ss,ac B9 118 [U A10 n10 c10,.map (some M11)],aj bf bI M8 a0.Sb.So.at_,ac B7 147 [.map (some M8)]]) ?_ ?_
 ·refine fd h ?_ ?_<;>intro h
  ·refine ab ?_;obtain ⟨s1,k,h⟩:=aa h;refine gV (oR (vF k)) ?_;obtain ⟨r3,h⟩:=ah h;refine gE (Dy J J r3) ?_;obtain ⟨r4,h⟩:=ah h;refine fm (Dy J J r4) ?_;exact jN
  exact jY
 rintro _ _ ⟨e7,h,rfl,rfl⟩;refine ab ?_;obtain ⟨a8,k,h⟩:=aa h;refine gD (oC (mZ k)) ?_;rintro _ _ ⟨_,⟨m6,m7,m8,m9,o0,o1,o2,p0,p1,p2,p3,p4,p5,p6,p7,p8,q0,q1,q2,q3,q4,q5,q6,q7,q8,q9,rfl,rfl⟩,rfl⟩;refine ab ?_;refine ao (fun s L=> ∃e8,cy N a2 a8 e8=some r/\s=[(0,pV B1 0),(2,iV a2),(6,pV b3 0),(8,iV e8)]/\L=[ce q1 q2 q3 a8.St,gX q4 q5 q6 a8.Sv,ce q7 q8 q9 a8.Su,ac B1 79 (iU a8 B2 B9 q1 q2 q3 q4 q5 q6 q7 q8 q9),ac b3 34 [iV 0,iV 0,iV 0,iV 0,.string (⟨#[]⟩)],aR m6 m7 m8 a8.Sb.m_.Se,aR m9 o0 o1 a8.Sb.m_.Sc,aw o2 p0 p1 a8.Sb.Si,aw p2 p3 p4 a8.Sb.Sq,ac B2 99 [U m6 m7 m8,U m9 o0 o1,U o2 p0 p1,U p2 p3 p4,pV B7 0],f9 p6 p7 p8 a8.Sf.Sf,aj ap dp q0 a8.Sf.Ss,ac B9 118 [U p6 p7 p8,.map (some q0)],aj bf bI p5 a8.Sb.So.at_,ac B7 147 [.map (some p5)]]) ?_ ?_
 ·refine ab ?_;refine gS 3 35 32 h ?_;intro s2 h;refine fd h ?_ ?_<;>intro h
  ·refine ab ?_;obtain ⟨s3,h⟩:=ah h;exact jY
  exact jY
 rintro _ _ ⟨e8,h,rfl,rfl⟩;refine ab ?_;obtain ⟨s4,k,h⟩:=aa h;refine gD (oC (wE k)) ?_;rintro _ _ ⟨_,⟨s5,s6,s7,s8,rfl,rfl⟩,rfl⟩;refine sY ?_;refine gH J h ?_ ?_<;>intro h
 ·refine ab ?_;obtain ⟨s9,k,h⟩:=aa h;refine jQ (oR (oo k)) ?_;exact eN
 refine ab ?_;obtain ⟨b0,k,h⟩:=aa h;refine jQ (oR (vF k)) ?_;intro r5;refine ab ?_;refine ao (fun s L=> ∃e9 f1 f2 f3 f4 g0 g1 g2 g3 g4 g5 g6 g7 g8 g9 h0 h1 h2 h3 h4 h5 h6 h7 h8 h9 i0 i1 i2 i8 j0 j1 j2 j3 j4 j5 j6 j7 j8 j9 k0 k1 k2 k3 k4 k5 k6 k7 k8 k9 l0 l1 l2 l3 l4,kQ N e9 f1 f2 f3 f4 g0 g1 g2 g3 g4 g5 g6 g7 g8 g9 h0 h1 h2 h3 h4 h5 h6 h7 h8 h9 i0 i1=some r/\s=[(0,pV B1 0),(6,pV b3 0),(12,pV i2 0),(13,.bool f3)]/\L=[ac i2 23 [iV e9,iV f1,.string f2],ce i8 j0 j1 g9,gX j2 j3 j4 h3,ce j5 j6 j7 h4,ac B1 79 [iV f4,iV g0,iV g1,iV g2,iV g3,iV g4,iV g5,iV g6,iV g7,iV g8,.nilIface,pV B2 0,pV B9 0,U i8 j0 j1,iV h0,iV h1,iV h2,U j2 j3 j4,U j5 j6 j7],ac b3 34 [iV 0,iV 0,iV 0,iV 0,.string (⟨#[]⟩)],aR j8 j9 k0 h5,aR k1 k2 k3 h6,aw k4 k5 k6 h7,aw k7 k8 k9 h8,ac B2 99 [U j8 j9 k0,U k1 k2 k3,U k4 k5 k6,U k7 k8 k9,pV B7 0],f9 l0 l1 l2 h9,aj ap dp l3 i0,ac B9 118 [U l0 l1 l2,.map (some l3)],aj bf bI l4 i1,ac B7 147 [.map (some l4)]]) ?_ ?_
 ·refine cZ I ([ac r5 23 [iV 5,iV 0,.string b0],ac b3 34 [iV 0,iV 0,iV 0,iV 0,.string (⟨#[]⟩)]]) (cS [0,8] 16) ?_;refine zY [0,1,2,3,4,6,8] ?_;refine mq 5 15 I ?_ ?_
  ·refine bK J (wY (bL 7 J J uY J)) J J J ?_;rintro _ _ ⟨rfl,rfl⟩;refine aJ (cS [0,8] 16) ?_;refine mq 7 15 I ?_ ?_
   ·obtain ⟨b2,k,h⟩:=aa h;refine bK J (oR (co k)) J J J ?_;rintro _ _ ⟨_,⟨rfl,rfl⟩,rfl⟩;refine aJ (cS [0,8] 16) ?_;refine mq 9 15 I ?_ ?_
    ·refine bK J (aY (R:=aF) (vss:=[[iV b2.Sa,iV b2.N,.string b2.S],[iV 5,iV 0,.string b0]]) (xs:=[b2,(⟨5,0,b0⟩:Ry)]) J (vK _ _ _ _ _ _) J J (fun _ _ hr=> .cons J (.cons J All2.nil))) J J J ?_;rintro _ _ ⟨t1,t2,u0,rfl,rfl⟩;refine aJ (cS [1,9] 17) ?_;refine zE 10 J (iX J (bld_42_0_1_2_4 _ _ _ _ _ _).out) ?_;refine mq 11 15 I ?_ ?_
     ·refine rP (bJ 0 J) (cS [1,9] 17) ?_;refine I0 ?_;obtain ⟨b5,k,h⟩:=aa h;refine rP (kq aF _) (cS [2,10] 18) ?_;refine bK J (oC (eL k)) J J J ?_;rintro _ _ ⟨_,⟨u1,u2,u3,b6,b7,b8,b9,d0,d1,d2,d3,d4,u4,u5,u6,u7,u8,u9,v1,v2,d6,e2,e3,e4,e5,e6,rfl,rfl⟩,rfl⟩;refine aJ (cS [16,17] 18) ?_;refine aU ?_;refine zY [12,13,14] ?_;refine zD 15 J (cP zero23.out J) ?_;rintro _ _ ⟨v6,rfl,rfl⟩;refine aJ (cS [17,18] 19) ?_;refine zO 16 J (ax (us:=[iV b5.1.Sa,iV b5.1.N,.string b5.1.S]) (cs':=[iV b5.1.Sa,iV b5.1.N,.string b5.1.S]) 0 J J J J size23.out J J J) ?_;rintro _ _ rfl;refine aJ (cS [17,18] 19) ?_;refine aU ?_;refine zX [17] ?_;exact jY
     refine bK J (cP zero23.out J) J J J ?_;rintro _ _ ⟨v7,rfl,rfl⟩;refine aJ (cS [2,10] 18) ?_;refine lG (bJ 1 J) (cS [2,10] 18) ?_;refine aU ?_;obtain ⟨a6,a7,h⟩:=aa h;refine lG (kq aF _) (cS [3,11] 19) ?_;refine zD 11 J (oC (eL a7)) ?_;rintro _ _ ⟨_,⟨b6,b7,b8,b9,d0,d1,d2,d3,d4,l5,l6,l7,l8,l9,m0,m1,m2,d6,e2,e3,e4,e5,e6,m3,m4,m5,rfl,rfl⟩,rfl⟩;refine aJ (cS [17,18] 19) ?_;refine aU ?_;refine zY [12,13,14] ?_;refine zO 16 J (ax (us:=[iV a6.1.Sa,iV a6.1.N,.string a6.1.S]) (cs':=[iV a6.1.Sa,iV a6.1.N,.string a6.1.S]) 15 J J J J size23.out J J J) ?_;rintro _ _ rfl;refine aJ (cS [17,18] 19) ?_;refine aU ?_;refine zX [17] ?_;exact jY
    refine bK J (cP zero23.out J) J J J ?_;rintro _ _ ⟨v8,rfl,rfl⟩;refine aJ (cS [1,9] 17) ?_;refine zD 9 J (aY (R:=aF) (vss:=[[iV b2.Sa,iV b2.N,.string b2.S],[iV 5,iV 0,.string b0]]) (xs:=[b2,(⟨5,0,b0⟩:Ry)]) J (vK _ _ _ _ _ _) J J (fun _ _ hr=> .cons J (.cons J All2.nil))) ?_;rintro _ _ ⟨r0,r1,r2,rfl,rfl⟩;refine aJ (cS [2,10] 18) ?_;refine zE 10 J (iX J (bld_42_0_1_2_4 _ _ _ _ _ _).out) ?_;refine lG (bJ 0 J) (cS [2,10] 18) ?_;refine aU ?_;obtain ⟨a6,a7,h⟩:=aa h;refine lG (kq aF _) (cS [3,11] 19) ?_;refine zD 11 J (oC (eL a7)) ?_;rintro _ _ ⟨_,⟨b6,b7,b8,b9,d0,d1,d2,d3,d4,l5,l6,l7,l8,l9,m0,m1,m2,d6,e2,e3,e4,e5,e6,m3,m4,m5,rfl,rfl⟩,rfl⟩;refine aJ (cS [17,18] 19) ?_;refine aU ?_;refine zY [12,13,14] ?_;refine zO 16 J (ax (us:=[iV a6.1.Sa,iV a6.1.N,.string a6.1.S]) (cs':=[iV a6.1.Sa,iV a6.1.N,.string a6.1.S]) 16 J J J J size23.out J J J) ?_;rintro _ _ rfl;refine aJ (cS [17,18] 19) ?_;refine aU ?_;refine zX [17] ?_;exact jY
   refine bK J (cP zero23.out J) J J J ?_;rintro _ _ ⟨r6,rfl,rfl⟩;refine aJ (cS [1,9] 17) ?_;obtain ⟨b1,b4,h⟩:=aa h;refine zD 7 J (oR (co b4)) ?_;rintro _ _ ⟨_,⟨rfl,rfl⟩,rfl⟩;refine aJ (cS [1,9] 17) ?_;refine zD 9 J (aY (R:=aF) (vss:=[[iV b1.Sa,iV b1.N,.string b1.S],[iV 5,iV 0,.string b0]]) (xs:=[b1,(⟨5,0,b0⟩:Ry)]) J (vK _ _ _ _ _ _) J J (fun _ _ hr=> .cons J (.cons J All2.nil))) ?_;rintro _ _ ⟨r0,r1,r2,rfl,rfl⟩;refine aJ (cS [2,10] 18) ?_;refine zE 10 J (iX J (bld_42_0_1_2_4 _ _ _ _ _ _).out) ?_;refine lG (bJ 0 J) (cS [2,10] 18) ?_;refine aU ?_;obtain ⟨a6,a7,h⟩:=aa h;refine lG (kq aF _) (cS [3,11] 19) ?_;refine zD 11 J (oC (eL a7)) ?_;rintro _ _ ⟨_,⟨b6,b7,b8,b9,d0,d1,d2,d3,d4,l5,l6,l7,l8,l9,m0,m1,m2,d6,e2,e3,e4,e5,e6,m3,m4,m5,rfl,rfl⟩,rfl⟩;refine aJ (cS [17,18] 19) ?_;refine aU ?_;refine zY [12,13,14] ?_;refine zO 16 J (ax (us:=[iV a6.1.Sa,iV a6.1.N,.string a6.1.S]) (cs':=[iV a6.1.Sa,iV a6.1.N,.string a6.1.S]) 16 J J J J size23.out J J J) ?_;rintro _ _ rfl;refine aJ (cS [17,18] 19) ?_;refine aU ?_;refine zX [17] ?_;exact jY
  refine bK J (cP zero23.out J) J J J ?_;rintro _ _ ⟨r6,rfl,rfl⟩;refine aJ (cS [1,9] 17) ?_;refine zD 5 J (wY (bL 8 J J uY J)) ?_;rintro _ _ ⟨rfl,rfl⟩;refine aJ (cS [1,9] 17) ?_;obtain ⟨b1,b4,h⟩:=aa h;refine zD 7 J (oR (co b4)) ?_;rintro _ _ ⟨_,⟨rfl,rfl⟩,rfl⟩;refine aJ (cS [1,9] 17) ?_;refine zD 9 J (aY (R:=aF) (vss:=[[iV b1.Sa,iV b1.N,.string b1.S],[iV 5,iV 0,.string b0]]) (xs:=[b1,(⟨5,0,b0⟩:Ry)]) J (vK _ _ _ _ _ _) J J (fun _ _ hr=> .cons J (.cons J All2.nil))) ?_;rintro _ _ ⟨r0,r1,r2,rfl,rfl⟩;refine aJ (cS [2,10] 18) ?_;refine zE 10 J (iX J (bld_42_0_1_2_4 _ _ _ _ _ _).out) ?_;refine lG (bJ 0 J) (cS [2,10] 18) ?_;refine aU ?_;obtain ⟨a6,a7,h⟩:=aa h;refine lG (kq aF _) (cS [3,11] 19) ?_;refine zD 11 J (oC (eL a7)) ?_;rintro _ _ ⟨_,⟨b6,b7,b8,b9,d0,d1,d2,d3,d4,l5,l6,l7,l8,l9,m0,m1,m2,d6,e2,e3,e4,e5,e6,m3,m4,m5,rfl,rfl⟩,rfl⟩;refine aJ (cS [17,18] 19) ?_;refine aU ?_;refine zY [12,13,14] ?_;refine zO 16 J (ax (us:=[iV a6.1.Sa,iV a6.1.N,.string a6.1.S]) (cs':=[iV a6.1.Sa,iV a6.1.N,.string a6.1.S]) 16 J J J J size23.out J J J) ?_;rintro _ _ rfl;refine aJ (cS [17,18] 19) ?_;refine aU ?_;refine zX [17] ?_;exact jY
 rintro _ _ ⟨e9,f1,f2,f3,f4,g0,g1,g2,g3,g4,g5,g6,g7,g8,g9,h0,h1,h2,h3,h4,h5,h6,h7,h8,h9,i0,i1,i2,i8,j0,j1,j2,j3,j4,j5,j6,j7,j8,j9,k0,k1,k2,k3,k4,k5,k6,k7,k8,k9,l0,l1,l2,l3,l4,h,rfl,rfl⟩;refine sZ ?_;refine gH J h ?_ ?_<;>intro h
 ·refine ab ?_;obtain ⟨w1,k,h⟩:=aa h;refine jQ (oR (oo k)) ?_;exact eN
 exact eY
def cH (N:Nat)(a0:Rn):Option (List RF):=
 bn (cc (([]:List RF).length+a0.Sv.length)) (some (([]:List RF)++a0.Sv))
theorem kR {N:Nat}{a0:Rn}{r:List RF}(h:cH N a0=some r):Okc RY 25 [pV B1 0] ([ar B1 79 (iU a0 B2 B9 A12 n12 c12 A13 n13 c13 A14 n14 c14),ar B2 99 [U A3 n3 c3,U A4 n4 c4,U A5 n5 c5,U A6 n6 c6,pV B7 0],bi A3 n3 c3 a0.Sb.m_.Se,bi A4 n4 c4 a0.Sb.m_.Sc,bc A5 n5 c5 a0.Sb.Si,bc A6 n6 c6 a0.Sb.Sq,ar B7 147 [.map (some M8)],eS bf bI M8 a0.Sb.So.at_,ar B9 118 [U A10 n10 c10,.map (some M11)],rK A10 n10 c10 a0.Sf.Sf,eS ap dp M11 a0.Sf.Ss,CI A12 n12 c12 a0.St,BZ A13 n13 c13 a0.Sv,CI A14 n14 c14 a0.Su]) (fun u post=> ∃A0 n0 c0,u=U A0 n0 c0/\post=[gX A0 n0 c0 r]):=by
 refine cG Tryz.func25 ?_;refine sZ ?_;refine fm (bA J Ra) ?_;refine cJ J ?_;refine ab ?_;refine nu (bh tz 84 _) ?_;obtain ⟨a1,h⟩:=ah h
 refine nr (aX 0 13 J J bj J J t9 N2 J J a1) fun a2 a6 a7=> ?_
 exact eN
theorem nl {r:List RF}: ∀v post,((fun (u:Value) (post:List Chunk)=> ∃A0 n0 c0,u=U A0 n0 c0/\post=[gX A0 n0 c0 r])) v post-> ∀c∈post,jJ c:=by
 rintro _ _ ⟨_,_,_,rfl,rfl⟩;exact hJ pt (ay)
def dg (N:Nat)(a0:Rn):Option Int:=
 some a0.Sr.SC
theorem mc {N:Nat}{a0:Rn}{r:Int}(h:dg N a0=some r):Okc RY 28 [pV B1 0] ([ar B1 79 (iU a0 B2 B9 A12 n12 c12 A13 n13 c13 A14 n14 c14),ar B2 99 [U A3 n3 c3,U A4 n4 c4,U A5 n5 c5,U A6 n6 c6,pV B7 0],bi A3 n3 c3 a0.Sb.m_.Se,bi A4 n4 c4 a0.Sb.m_.Sc,bc A5 n5 c5 a0.Sb.Si,bc A6 n6 c6 a0.Sb.Sq,ar B7 147 [.map (some M8)],eS bf bI M8 a0.Sb.So.at_,ar B9 118 [U A10 n10 c10,.map (some M11)],rK A10 n10 c10 a0.Sf.Sf,eS ap dp M11 a0.Sf.Ss,CI A12 n12 c12 a0.St,BZ A13 n13 c13 a0.Sv,CI A14 n14 c14 a0.Su]) (fun u post=>u=iV r/\post=[]):=by
 refine cG Tryz.func28 ?_;refine sZ ?_;refine fm (bA J Ra) ?_;refine cJ J ?_;exact eY
theorem ot {r:Int}: ∀v post,((fun (u:Value) (post:List Chunk)=>u=iV r/\post=[])) v post-> ∀c∈post,jJ c:=by
 rintro _ _ ⟨rfl,rfl⟩;exact ay
def jL (N:Nat):Option Bool:=
 (iL N (⟨0,1,1,3,0,0,0⟩:Rs)).bind fun y1=>Au y1 (fun y1_0=>some false) (fun y1_1=>bif !decide (y1_1.2=0) then (some false) else ((fe N y1_1.1).bind fun a2=>bif !a2.1 then (some false) else ((fe N a2.2).bind fun a6=>bif a6.1 then (some false) else ((dv N a6.2 1 1).bind fun a1=>(cH N a1.2).bind fun a7=>(bif decide (a1.1.Sa=1) then (some (decide ((a7.length:Int)=1))) else (some false)).bind fun a8=>(bif a8 then ((au a7 0).bind fun b0=>some (b0.S.toList==(⟨#[84,121,112,101,69,114,114,111,114,58,32,110,111,116,32,99,97,108,108,97,98,108,101]⟩:ByteArray).toList)) else (some false)).bind fun b1=>(bif b1 then ((dg N a1.2).bind fun b2=>some (decide (b2=1))) else (some false)).bind fun b3=>(bif b3 then ((aB N a1.2 a1.1.Value).bind fun b4=>some (decide (b4.Sj=9))) else (some false)).bind fun b5=>some b5))))
theorem ts {N:Nat}{r:Bool}(h:jL N=some r):Okc RY 13 [] ([]) (fun u post=>u=.bool r/\post=[]):=by
 refine cG Tryz.func13 ?_;obtain ⟨y1,b5,h⟩:=aa h;rcases y1 with y1_0|y1_1
 ·replace h:=F6 h;refine jQ (oC (iK b5)) ?_;refine sZ ?_;refine fm (bA J Ra) ?_;refine cq J ?_;exact eY
 replace h:=F5 h;refine gD (oC (iK b5)) ?_;rintro _ _ ⟨_,⟨B2,B3,A4,n4,c4,A5,n5,c5,A6,n6,c6,A7,n7,c7,B8,M9,c0,c8,c9,d0,d1,A13,n13,c13,A14,n14,c14,A15,n15,c15,rfl,rfl⟩,rfl⟩;refine sY ?_;refine fm (bA J Ra) ?_;refine aE 16 J (fun b0=> ?_) (fun b0=> ?_)
 ·replace h:=az b0 h;refine ab ?_;refine cq J ?_;exact eY
 replace h:=aA b0 h;refine ab ?_;obtain ⟨d2,k,h⟩:=aa h;refine Aq (oC (ma k)) J (jK b0 J) J ?_;rintro _ _ ⟨_,⟨d3,d4,d6,e2,e3,e4,e5,e6,e7,e8,e9,f1,f2,f3,f4,g0,g1,g2,g3,g4,g5,g6,g7,g8,g9,h0,rfl,rfl⟩,rfl⟩;refine ab ?_;refine aE 21 J (fun b1=> ?_) (fun b1=> ?_)
 ·replace h:=az b1 h;refine ab ?_;refine cq J ?_;exact eY
 replace h:=aA b1 h;refine ab ?_;obtain ⟨h1,k,h⟩:=aa h;refine Aq (oC (ma k)) J (jK b1 J) J ?_;rintro _ _ ⟨_,⟨h2,h3,h4,h5,h6,h7,h8,h9,i0,i1,i2,i8,j0,j1,j2,j3,j4,j5,j6,j7,j8,j9,k0,k1,k2,k3,rfl,rfl⟩,rfl⟩;refine fd h ?_ ?_<;>intro h
 ·exact eY
 refine ab ?_;obtain ⟨k4,k,h⟩:=aa h;refine gD (oC (pg k)) ?_;rintro _ _ ⟨_,⟨k5,k6,k7,k8,k9,l0,l1,l2,l3,l4,l5,l6,l7,l8,l9,m0,m1,m2,m3,m4,m5,m6,m7,m8,m9,n0,rfl,rfl⟩,rfl⟩
 refine iD fun n8=> ?_
 obtain ⟨n9,k,h⟩:=aa h
 refine nr (oR (kR k)) fun o0 o1 o2=> ?_
 refine gS 4 36 32 h ?_;intro p0 h;refine ab ?_;obtain ⟨b6,a1,h⟩:=aa h;refine aH 6 43 b6 ?_ ?_
 ·clear h;refine aE 37 J (fun a2=> ?_) (fun a2=> ?_)
  ·have h:=az a2 a1;refine ab ?_;obtain ⟨p1,b3,b4,b7,h⟩:=bG h;refine ab ?_;refine tg (sT 0 J aI J (bP b3 b4) HA) J (cY a2 J) J ?_;refine ab ?_;refine pP (vC J J) J (cY a2 J) J ?_;exact gY
  have h:=aA a2 a1;exact gY
 refine ab ?_;obtain ⟨b8,a6,h⟩:=aa h;refine aH 4 48 b8 ?_ ?_
 ·clear h;refine aE 44 J (fun b2=> ?_) (fun b2=> ?_)
  ·have h:=az b2 a6;refine ab ?_;obtain ⟨p2,k,h⟩:=aa h;refine gU (oR (mc k)) (cY b2 J) ?_;exact gY
  have h:=aA b2 a6;exact gY
 refine ab ?_;obtain ⟨b9,a7,h⟩:=aa h;refine aH 7 56 b9 ?_ ?_
 ·clear h;refine aE 49 J (fun a8=> ?_) (fun a8=> ?_)
  ·have h:=az a8 a7;refine ab ?_;obtain ⟨p3,k,h⟩:=aa h;refine Aq (oR (bY k)) J (cY a8 J) J ?_;rintro _ _ ⟨_,⟨p4,p5,p6,p7,p8,q0,rfl,rfl⟩,rfl⟩;refine pP (pu J (J2 _ _ _ _ _ _ _ _ _ _)) J (cY a8 J) J ?_;exact gY
  have h:=aA a8 a7;exact gY
 exact eY
theorem qz {r:Bool}: ∀v post,((fun (u:Value) (post:List Chunk)=>u=.bool r/\post=[])) v post-> ∀c∈post,jJ c:=by
 rintro _ _ ⟨rfl,rfl⟩;exact ay
def xI (N:Nat)(a0:Rz):Option Bool:=
 some (decide ((a0.L.length:Int)<=40))
def qe (N:Nat)(a0:Rz):Nat->Int->Option Bool
 |0,_=>none
 |m4+1,p5=>bif decide (p5<(a0.L.length:Int)) then ((au a0.L p5).bind fun x7=>(bif decide (x7<(-9007199254740992)) then (some true) else ((au a0.L p5).bind fun x9=>some (decide (9007199254740992<x9)))).bind fun b8=>bif b8 then (some false) else (bn (in64 (p5+1)) ((qe N a0 m4) (p5+1)))) else (xI N a0)
def rN (N:Nat)(a0:Rz):Option Bool:=
 qe N a0 N 0
theorem D0 {N:Nat}{a0:Rz}{r:Bool}(h:rN N a0=some r):Okc RY 22 [.agg #[iV a0.Sa,iV a0.N,iV a0.M,.string a0.S,U A1 n1 c1]] ([dK A1 n1 c1 a0.L]) (fun u post=>u=.bool r/\post=[]):=by
 refine Ed Tryz.func22 J J ?_;simp only [sc];refine W ?_
 refine gB (BI J J) fun B2=> ?_
 refine W ?_;refine ao (fun s L=>xI N a0=some r/\s=[(1,pV B2 0),(2,.bool false)]/\L=[dK A1 n1 c1 a0.L,ac B2 53 [iV a0.Sa,iV a0.N,iV a0.M,.string a0.S,U A1 n1 c1]]) ?_ ?_
 ·refine W ?_;refine aW (fun m s L=> ∃p5,qe N a0 m p5=some r/\s=[(1,pV B2 0),(2,.bool false),(3,iV p5)]/\L=[dK A1 n1 c1 a0.L,ac B2 53 [iV a0.Sa,iV a0.N,iV a0.M,.string a0.S,U A1 n1 c1]]) N _ _ ⟨0,h,J,J⟩ sA (cS [1,0] 2) ?_;rintro (_|m4) _ _ ⟨p5,h,rfl,rfl⟩
  ·exact am h
  rw [qe.eq_2] at h;refine aL ?_;refine W ?_;refine gR (lw 0 J bj J t0) ?_;refine W ?_;refine gH J h ?_ ?_<;>intro h
  ·refine W ?_;refine aL ?_;refine W ?_;obtain ⟨x7,a6,a7,a8,h⟩:=bG h;refine gR (gn 0 J bj J J t0 size3.out a6 a7) ?_;refine gR (iO (u:=iV x7) 0 J bj J a8 su (fun _ _ _ h=>by rw [show _=_ from h];rfl)) ?_;refine W ?_;obtain ⟨b8,a1,h⟩:=aa h;refine aH 7 24 b8 ?_ ?_
   ·clear h;refine aE 17 J (fun g8=> ?_) (fun g8=> ?_)
    ·have h:=az g8 a1;refine W ?_;obtain rfl:=cB h;exact bp sA (cS [0,1] 2)
    have h:=aA g8 a1;refine W ?_;obtain ⟨x9,b0,b1,b2,h⟩:=bG h;refine tg (gn 0 J bj J J t0 size3.out b0 b1) J (jK g8 J) J ?_;refine tg (iO (u:=iV x9) 0 J bj J b2 su (fun _ _ _ h=>by rw [show _=_ from h];rfl)) J (jK g8 J) J ?_;refine W ?_;obtain rfl:=cB h;exact bp sA (cS [0,1] 2)
   refine W ?_;refine gH J h ?_ ?_<;>intro h
   ·refine W ?_;obtain rfl:=cB h;exact qb J J (cS [] 2) ⟨J,J⟩
   refine W ?_;obtain ⟨a2,h⟩:=ah h;refine gE (ia J J a2.1 a2.2) ?_;refine W ?_;exact ⟨m4,_,_,RO _,⟨p5+1,h,J,J⟩,sA,cS [0,1] 2⟩
  refine W ?_;exact ⟨_,_,⟨h,J,J⟩,sA,cS [0,1] 2⟩
 rintro _ _ ⟨h,rfl,rfl⟩;refine W ?_;refine gR (lw 0 J bj J t0) ?_;refine W ?_;obtain rfl:=cB h;exact qb J J (cS [] 2) ⟨J,J⟩
theorem AX {r:Bool}: ∀v post,((fun (u:Value) (post:List Chunk)=>u=.bool r/\post=[])) v post-> ∀c∈post,jJ c:=by
 rintro _ _ ⟨rfl,rfl⟩;exact ay
def jn (N:Nat)(a0:Rn):Option (Bool×Rn):=
 bif decide (a0.Sh.SA<=a0.Sr.SD) then (some (false,a0)) else (bn (in64 (a0.Sr.SD+1)) (some (true,(⟨(⟨a0.Sr.SE,a0.Sr.SC,a0.Sr.SD+1⟩:RD),a0.Sh,(),a0.Sb,a0.Sf,a0.St,a0.Sy,a0.Sx,a0.Sz,a0.Sv,a0.Su⟩:Rn))))
theorem uQ {N:Nat}{a0:Rn}{r:Bool×Rn}(h:jn N a0=some r):Okc RY 59 [pV B1 0] ([ac B1 79 (iU a0 B2 B9 A12 n12 c12 A13 n13 c13 A14 n14 c14),ac B2 99 [U A3 n3 c3,U A4 n4 c4,U A5 n5 c5,U A6 n6 c6,pV B7 0],aR A3 n3 c3 a0.Sb.m_.Se,aR A4 n4 c4 a0.Sb.m_.Sc,aw A5 n5 c5 a0.Sb.Si,aw A6 n6 c6 a0.Sb.Sq,ac B7 147 [.map (some M8)],aj bf bI M8 a0.Sb.So.at_,ac B9 118 [U A10 n10 c10,.map (some M11)],f9 A10 n10 c10 a0.Sf.Sf,aj ap dp M11 a0.Sf.Ss,ce A12 n12 c12 a0.St,gX A13 n13 c13 a0.Sv,ce A14 n14 c14 a0.Su]) (fun u post=> ∃A0 n0 c0 A1 n1 c1 A2 n2 c2 A3 n3 c3 M4 A5 n5 c5 M6 A7 n7 c7 A8 n8 c8 A9 n9 c9,u=.bool r.1/\post=[ac B1 79 (iU r.2 B2 B9 A7 n7 c7 A8 n8 c8 A9 n9 c9),ac B2 99 [U A0 n0 c0,U A1 n1 c1,U A2 n2 c2,U A3 n3 c3,pV B7 0],aR A0 n0 c0 r.2.Sb.m_.Se,aR A1 n1 c1 r.2.Sb.m_.Sc,aw A2 n2 c2 r.2.Sb.Si,aw A3 n3 c3 r.2.Sb.Sq,ac B7 147 [.map (some M4)],aj bf bI M4 r.2.Sb.So.at_,ac B9 118 [U A5 n5 c5,.map (some M6)],f9 A5 n5 c5 r.2.Sf.Sf,aj ap dp M6 r.2.Sf.Ss,ce A7 n7 c7 r.2.St,gX A8 n8 c8 r.2.Sv,ce A9 n9 c9 r.2.Su]):=by
 refine cG Tryz.func59 ?_;refine aL ?_;refine dY [] ?_;refine ab ?_;refine zE 1 J (bA J Ra) ?_;refine fd h ?_ ?_<;>intro h
 ·exact eY
 refine ab ?_;obtain ⟨a1,h⟩:=ah h;exact eY
def jm (N:Nat)(a0:Rn):Option Rn:=
 bif decide (0<a0.Sr.SD) then (bn (in64 (a0.Sr.SD - 1)) (some (⟨(⟨a0.Sr.SE,a0.Sr.SC,a0.Sr.SD - 1⟩:RD),a0.Sh,(),a0.Sb,a0.Sf,a0.St,a0.Sy,a0.Sx,a0.Sz,a0.Sv,a0.Su⟩:Rn))) else (some a0)
theorem uP {N:Nat}{a0:Rn}{r:Rn}(h:jm N a0=some r):Okc RY 60 [pV B1 0] ([ac B1 79 (iU a0 B2 B9 A12 n12 c12 A13 n13 c13 A14 n14 c14),ac B2 99 [U A3 n3 c3,U A4 n4 c4,U A5 n5 c5,U A6 n6 c6,pV B7 0],aR A3 n3 c3 a0.Sb.m_.Se,aR A4 n4 c4 a0.Sb.m_.Sc,aw A5 n5 c5 a0.Sb.Si,aw A6 n6 c6 a0.Sb.Sq,ac B7 147 [.map (some M8)],aj bf bI M8 a0.Sb.So.at_,ac B9 118 [U A10 n10 c10,.map (some M11)],f9 A10 n10 c10 a0.Sf.Sf,aj ap dp M11 a0.Sf.Ss,ce A12 n12 c12 a0.St,gX A13 n13 c13 a0.Sv,ce A14 n14 c14 a0.Su]) (fun u post=> ∃A0 n0 c0 A1 n1 c1 A2 n2 c2 A3 n3 c3 M4 A5 n5 c5 M6 A7 n7 c7 A8 n8 c8 A9 n9 c9,u=.tuple #[]/\post=[ac B1 79 (iU r B2 B9 A7 n7 c7 A8 n8 c8 A9 n9 c9),ac B2 99 [U A0 n0 c0,U A1 n1 c1,U A2 n2 c2,U A3 n3 c3,pV B7 0],aR A0 n0 c0 r.Sb.m_.Se,aR A1 n1 c1 r.Sb.m_.Sc,aw A2 n2 c2 r.Sb.Si,aw A3 n3 c3 r.Sb.Sq,ac B7 147 [.map (some M4)],aj bf bI M4 r.Sb.So.at_,ac B9 118 [U A5 n5 c5,.map (some M6)],f9 A5 n5 c5 r.Sf.Sf,aj ap dp M6 r.Sf.Ss,ce A7 n7 c7 r.St,gX A8 n8 c8 r.Sv,ce A9 n9 c9 r.Su]):=by
 refine cG Tryz.func60 ?_;refine fm (jD J Ra) ?_;refine gH J h ?_ ?_<;>intro h
 ·refine ab ?_;obtain ⟨a1,h⟩:=ah h;exact eY
 exact eY
def uC (N:Nat):Option Rk:=
 some (⟨1,0,1,0,([(⟨1,0,⟨#[]⟩⟩:Ry)]:List Ry),[]⟩:Rk)
theorem D1 {N:Nat}{r:Rk}(h:uC N=some r):Okc RY 62 [] ([]) (fun u post=> ∃A0 n0 c0 A1 n1 c1,u=.agg #[iV r.Sa,iV r.Sk,iV r.Sj,iV r.Sn,U A0 n0 c0,U A1 n1 c1]/\post=[aw A0 n0 c0 r.Sg,aw A1 n1 c1 r.Sd]):=by
 refine cG Tryz.func62 ?_;intro B1;refine ab ?_
 refine nr (aY (R:=aF) (vss:=[[iV 1,iV 0,.string (⟨#[]⟩)]]) (xs:=[(⟨1,0,⟨#[]⟩⟩:Ry)]) J (rC _ _ _) J J (fun _ _ hr=> .cons J All2.nil)) fun A2 n2 c2=> ?_
 obtain rfl:=cB h;exact ox (rs:=[.cell 0 42]) (vs:=[.agg #[iV 1,iV 0,iV 1,iV 0,U A2 n2 c2,U none 0 0]]) J (.cons (ij 1 J J agg42.out) .nil) J ((bh aF 23 _).trans (cS [1,0] 3)) ⟨_,_,_,_,_,_,J,J⟩
def iG (N:Nat)(a0:Rn)(a1:ByteArray):Option (Ry×Rn):=
 bn (cc (a0.St.length+([a1]:List ByteArray).length)) (bn (in64 (3+((a0.St++([a1]:List ByteArray)).length:Int))) (bn (in64 ((3+((a0.St++([a1]:List ByteArray)).length:Int)) - 1)) (some ((⟨6,(3+((a0.St++([a1]:List ByteArray)).length:Int)) - 1,⟨#[]⟩⟩:Ry),(⟨a0.Sr,a0.Sh,(),a0.Sb,a0.Sf,a0.St++([a1]:List ByteArray),a0.Sy,a0.Sx,a0.Sz,a0.Sv,a0.Su⟩:Rn)))))
theorem uw {N:Nat}{a0:Rn}{a1:ByteArray}{r:Ry×Rn}(h:iG N a0 a1=some r):Okc RY 63 [pV B1 0,.string a1] ([ac B1 79 (iU a0 B2 B9 A12 n12 c12 A13 n13 c13 A14 n14 c14),ac B2 99 [U A3 n3 c3,U A4 n4 c4,U A5 n5 c5,U A6 n6 c6,pV B7 0],aR A3 n3 c3 a0.Sb.m_.Se,aR A4 n4 c4 a0.Sb.m_.Sc,aw A5 n5 c5 a0.Sb.Si,aw A6 n6 c6 a0.Sb.Sq,ac B7 147 [.map (some M8)],aj bf bI M8 a0.Sb.So.at_,ac B9 118 [U A10 n10 c10,.map (some M11)],f9 A10 n10 c10 a0.Sf.Sf,aj ap dp M11 a0.Sf.Ss,ce A12 n12 c12 a0.St,gX A13 n13 c13 a0.Sv,ce A14 n14 c14 a0.Su]) (fun u post=> ∃A0 n0 c0 A1 n1 c1 A2 n2 c2 A3 n3 c3 M4 A5 n5 c5 M6 A7 n7 c7 A8 n8 c8 A9 n9 c9,u=.agg #[iV r.1.Sa,iV r.1.N,.string r.1.S]/\post=[ac B1 79 (iU r.2 B2 B9 A7 n7 c7 A8 n8 c8 A9 n9 c9),ac B2 99 [U A0 n0 c0,U A1 n1 c1,U A2 n2 c2,U A3 n3 c3,pV B7 0],aR A0 n0 c0 r.2.Sb.m_.Se,aR A1 n1 c1 r.2.Sb.m_.Sc,aw A2 n2 c2 r.2.Sb.Si,aw A3 n3 c3 r.2.Sb.Sq,ac B7 147 [.map (some M4)],aj bf bI M4 r.2.Sb.So.at_,ac B9 118 [U A5 n5 c5,.map (some M6)],f9 A5 n5 c5 r.2.Sf.Sf,aj ap dp M6 r.2.Sf.Ss,ce A7 n7 c7 r.2.St,gX A8 n8 c8 r.2.Sv,ce A9 n9 c9 r.2.Su]):=by
 refine cG Tryz.func63 ?_;intro a6;refine sY ?_;refine fm (bA J Ra) ?_;refine cJ J ?_;refine ab ?_;refine gD (aY (R:=Bt) (vss:=[[.string a1]]) (xs:=[a1]) J (F0 _) J J (fun _ _ hr=> .cons J All2.nil)) ?_;rintro _ _ ⟨A16,n16,c16,rfl,rfl⟩;obtain ⟨a2,h⟩:=ah h
 refine nr (aX 13 0 J J aI J J z5 O0 J J a2) fun a7 a8 b0=> ?_
 obtain ⟨b1,h⟩:=ah h;refine ab ?_;obtain ⟨b2,h⟩:=ah h;exact eY
def ji (N:Nat)(a0:Rn):Option Rn:=
 bn (in64 (a0.Sy+1)) (some (⟨a0.Sr,a0.Sh,(),a0.Sb,a0.Sf,a0.St,a0.Sy+1,a0.Sx,a0.Sz,a0.Sv,a0.Su⟩:Rn))
theorem uN {N:Nat}{a0:Rn}{r:Rn}(h:ji N a0=some r):Okc RY 64 [pV B1 0] ([ac B1 79 (iU a0 B2 B9 A12 n12 c12 A13 n13 c13 A14 n14 c14),ac B2 99 [U A3 n3 c3,U A4 n4 c4,U A5 n5 c5,U A6 n6 c6,pV B7 0],aR A3 n3 c3 a0.Sb.m_.Se,aR A4 n4 c4 a0.Sb.m_.Sc,aw A5 n5 c5 a0.Sb.Si,aw A6 n6 c6 a0.Sb.Sq,ac B7 147 [.map (some M8)],aj bf bI M8 a0.Sb.So.at_,ac B9 118 [U A10 n10 c10,.map (some M11)],f9 A10 n10 c10 a0.Sf.Sf,aj ap dp M11 a0.Sf.Ss,ce A12 n12 c12 a0.St,gX A13 n13 c13 a0.Sv,ce A14 n14 c14 a0.Su]) (fun u post=> ∃A0 n0 c0 A1 n1 c1 A2 n2 c2 A3 n3 c3 M4 A5 n5 c5 M6 A7 n7 c7 A8 n8 c8 A9 n9 c9,u=.tuple #[]/\post=[ac B1 79 (iU r B2 B9 A7 n7 c7 A8 n8 c8 A9 n9 c9),ac B2 99 [U A0 n0 c0,U A1 n1 c1,U A2 n2 c2,U A3 n3 c3,pV B7 0],aR A0 n0 c0 r.Sb.m_.Se,aR A1 n1 c1 r.Sb.m_.Sc,aw A2 n2 c2 r.Sb.Si,aw A3 n3 c3 r.Sb.Sq,ac B7 147 [.map (some M4)],aj bf bI M4 r.Sb.So.at_,ac B9 118 [U A5 n5 c5,.map (some M6)],f9 A5 n5 c5 r.Sf.Sf,aj ap dp M6 r.Sf.Ss,ce A7 n7 c7 r.St,gX A8 n8 c8 r.Sv,ce A9 n9 c9 r.Su]):=by
 refine cG Tryz.func64 ?_;refine fm (jD J Ra) ?_;refine cq J ?_;refine ab ?_;obtain ⟨a1,h⟩:=ah h;exact eY
def iJ (N:Nat)(a0:Rn)(a1:Int):Option Rn:=
 some (⟨a0.Sr,a0.Sh,(),a0.Sb,a0.Sf,a0.St,a0.Sy,a0.Sx,(IntKind.i64.wrap (a0.Sz+a1)),a0.Sv,a0.Su⟩:Rn)
theorem uy {N:Nat}{a0:Rn}{a1:Int}{r:Rn}(h:iJ N a0 a1=some r):Okc RY 65 [pV B1 0,iV a1] ([ac B1 79 (iU a0 B2 B9 A12 n12 c12 A13 n13 c13 A14 n14 c14),ac B2 99 [U A3 n3 c3,U A4 n4 c4,U A5 n5 c5,U A6 n6 c6,pV B7 0],aR A3 n3 c3 a0.Sb.m_.Se,aR A4 n4 c4 a0.Sb.m_.Sc,aw A5 n5 c5 a0.Sb.Si,aw A6 n6 c6 a0.Sb.Sq,ac B7 147 [.map (some M8)],aj bf bI M8 a0.Sb.So.at_,ac B9 118 [U A10 n10 c10,.map (some M11)],f9 A10 n10 c10 a0.Sf.Sf,aj ap dp M11 a0.Sf.Ss,ce A12 n12 c12 a0.St,gX A13 n13 c13 a0.Sv,ce A14 n14 c14 a0.Su]) (fun u post=> ∃A0 n0 c0 A1 n1 c1 A2 n2 c2 A3 n3 c3 M4 A5 n5 c5 M6 A7 n7 c7 A8 n8 c8 A9 n9 c9,u=.tuple #[]/\post=[ac B1 79 (iU r B2 B9 A7 n7 c7 A8 n8 c8 A9 n9 c9),ac B2 99 [U A0 n0 c0,U A1 n1 c1,U A2 n2 c2,U A3 n3 c3,pV B7 0],aR A0 n0 c0 r.Sb.m_.Se,aR A1 n1 c1 r.Sb.m_.Sc,aw A2 n2 c2 r.Sb.Si,aw A3 n3 c3 r.Sb.Sq,ac B7 147 [.map (some M4)],aj bf bI M4 r.Sb.So.at_,ac B9 118 [U A5 n5 c5,.map (some M6)],f9 A5 n5 c5 r.Sf.Sf,aj ap dp M6 r.Sf.Ss,ce A7 n7 c7 r.St,gX A8 n8 c8 r.Sv,ce A9 n9 c9 r.Su]):=by
 refine cG Tryz.func65 ?_;refine fm (jD J Ra) ?_;refine cq J ?_;refine ab ?_;refine fm (Ml J J) ?_;exact eN
end Go.Proofs.YtjmonlcchlkdhaaGreat