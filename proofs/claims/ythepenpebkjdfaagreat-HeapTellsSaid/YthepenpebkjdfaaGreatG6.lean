/- Merged texts: part 6. No conditions of their own. -/
import Derived.Test.YthepenpebkjdfaaGreatG5
set_option maxHeartbeats 4000000
namespace Go.Proofs.YthepenpebkjdfaaGreat
variable {A1 A2 A3 A4 A5 A6 A8 A9:Option Addr} {B1 B2 B6 B7 B8 M7 M8 c1 c2 c3 c4 c5 c6 c8 c9 n1 n2 n3 n4 n5 n6 n8 n9:Nat}
open Go.RowKit Asn
set_option maxRecDepth 20000
def dS (N:Nat)(a0:Qe)(p13:Qy)(p14:Qy)(p15:Qr)(p16:Qr)(p17:Int):Option (Int×Qe):=
 bif !decide (p17=0) then (some (p17,a0)) else none
def fS (N:Nat)(p20:Qy)(p21:Qy)(a0:Qe)(p39:Qr)(p40:Qr):Option (Int×Qe):=
 (dc N a0.set_ (⟨p20,p21⟩:Qg)).bind fun y50=>some (0,(⟨(⟨p20,p21⟩:Qg),p39,p40,y50⟩:Qe))
def dR (N:Nat)(a0:Qe)(p20:Qy)(p21:Qy)(p22:Qr)(p23:Qr):Option (Int×Qe):=
 aZ ((0:Int)<=(a0.roots_.length:Int)/\0<=(a0.roots_.length:Int).toNat/\(a0.roots_.length:Int).toNat<=p22.length) (aZ ((0:Int)<=(a0.roots_.length:Int)/\(a0.roots_.length:Int).toNat<=p22.length/\p22.length<=p22.length) ((cT N ((p22.drop 0).take ((a0.roots_.length:Int).toNat - 0))).bind fun y45=>(cu N ((p22.drop ((a0.roots_.length:Int).toNat)).take (p22.length - (a0.roots_.length:Int).toNat)) p23).bind fun y48=>fS N p20 p21 a0 y45 y48))
def gF (N:Nat)(a0:Qe):Option (Int×Qe):=
 (aI N a0).bind fun y9=>bif y9 then (some (1,a0)) else ((cu N a0.roots_ a0.pending_).bind fun y25=>(md N y25 a0).bind fun y27=>ET y27 (fun y27_0=>dS N a0 y27_0.1.Young y27_0.1.Old y27_0.2.1 y27_0.2.2.1 y27_0.2.2.2) (fun y27_1=>dR N a0 y27_1.1.Young y27_1.1.Old y27_1.2.1 y27_1.2.2))
theorem qH {N:Nat}{a0:Qe}{r:Int×Qe}(h:gF N a0=some r):Okc QB 51 [pV B1 0,.func (.func 56) #[] #[pV B8 0]] ([bu B8 23 [pV B1 0],ah B1 56 [W A2 n2 c2,W A3 n3 c3,W A4 n4 c4,W A5 n5 c5,pV B6 0],bY A2 n2 c2 a0.m_.Young,bY A3 n3 c3 a0.m_.Old,bh A4 n4 c4 a0.roots_,bh A5 n5 c5 a0.pending_,ah B6 87 [.map (some M7)],bj cx dW M7 a0.set_.at_]) (fun u post=> ∃A0 n0 c0 A1 n1 c1 A2 n2 c2 A3 n3 c3 M4,u=iV r.1/\post=[ah B1 56 [W A0 n0 c0,W A1 n1 c1,W A2 n2 c2,W A3 n3 c3,pV B6 0],bY A0 n0 c0 r.2.m_.Young,bY A1 n1 c1 r.2.m_.Old,bh A2 n2 c2 r.2.roots_,bh A3 n3 c3 r.2.pending_,ah B6 87 [.map (some M4)],bj cx dW M4 r.2.set_.at_]):=by
 refine cQ Tryz.func51 ?_;refine sZ ?_;obtain ⟨y9,k,h⟩:=aa h;refine kw (oR (bL k)) ?_;refine gH J h ?_ ?_<;>intro h
 ·exact eY
 refine ae ?_;refine am (fun s L=>(∃p13 p14 p15 p16 p17 B12 A13 n13 c13 A14 n14 c14 A15 n15 c15 A16 n16 c16,dS N a0 p13 p14 p15 p16 p17=some r/\s=[(0,pV B1 0),(4,iV 0),(5,pV B12 0),(6,W A15 n15 c15),(7,W A16 n16 c16),(8,iV p17)]/\L=[bY A13 n13 c13 p13,bY A14 n14 c14 p14,ah B12 29 [W A13 n13 c13,W A14 n14 c14],bh A15 n15 c15 p15,bh A16 n16 c16 p16,bY A2 n2 c2 a0.m_.Young,bY A3 n3 c3 a0.m_.Old,bh A4 n4 c4 a0.roots_,bh A5 n5 c5 a0.pending_,ah B1 56 [W A2 n2 c2,W A3 n3 c3,W A4 n4 c4,W A5 n5 c5,pV B6 0],bj cx dW M7 a0.set_.at_,ah B6 87 [.map (some M7)]])\/(∃(p20:Qy) (p21:Qy) (p22:Qr) (p23:Qr) (B19:Nat) (A20:Option Addr) (n20 c20:Nat) (A21:Option Addr) (n21 c21:Nat) (A22:Option Addr) (n22 c22:Nat) (A23:Option Addr) (n23 c23:Nat),dR N a0 p20 p21 p22 p23=some r/\s=[(0,pV B1 0),(4,iV 0),(5,pV B19 0),(6,W A22 n22 c22),(7,W A23 n23 c23),(8,iV 0)]/\L=[bY A20 n20 c20 p20,bY A21 n21 c21 p21,ah B19 29 [W A20 n20 c20,W A21 n21 c21],bh A22 n22 c22 p22,bh A23 n23 c23 p23,bY A2 n2 c2 a0.m_.Young,bY A3 n3 c3 a0.m_.Old,bh A4 n4 c4 a0.roots_,bh A5 n5 c5 a0.pending_,ah B1 56 [W A2 n2 c2,W A3 n3 c3,W A4 n4 c4,W A5 n5 c5,pV B6 0],bj cx dW M7 a0.set_.at_,ah B6 87 [.map (some M7)]])) ?_ ?_
 ·refine bm I _ (ab _) ?_;refine zE 0 J (ai J) ?_;refine zE 1 J (ai J) ?_;refine zE 2 J (aX J) ?_;refine zE 3 J (bB J pN) ?_;refine zR 4 J (aL 1 J J dr J) ?_;refine zE 5 J (ai J) ?_;refine zE 6 J (aX J) ?_;refine zE 7 J (bB J tc) ?_;refine zR 8 J (aL 1 J J dr J) ?_;refine xj 9 17 I ?_ ?_
  ·refine fd J (eD (cs:=[W A4 n4 c4,W A5 n5 c5]) J (lj _ _ _ _ _ _)) J J J ?_;rintro _ _ ⟨B24,rfl,rfl⟩;refine bq (cS [1,2,3,4,5,6,7,8] 9) ?_;refine xj 10 17 I ?_ ?_
   ·obtain ⟨y25,k,h⟩:=aa h;refine fd J (oR (bQ k)) J J J ?_;rintro _ _ ⟨_,⟨A26,n26,c26,rfl,rfl⟩,rfl⟩;refine bq (cS [2,3,4,5,6,7,8,9] 10) ?_;refine xj 11 17 I ?_ ?_
    ·refine HI (aY 0 J) (cS [2,3,4,5,6,7,8,9] 10) ?_;refine Me ?_;obtain ⟨y27,hy27,h⟩:=aa h;rcases y27 with y27_0|y27_1
     ·replace h:=Jy h;refine fd J (fM (cO hy27) call56.out J J J (ce [0,2] [3,4,5,6,7,8,9] [0,1,2] 10 J)) J J J ?_;rintro _ _ ⟨_,⟨A28,n28,c28,A29,n29,c29,A30,n30,c30,A31,n31,c31,rfl,rfl⟩,rfl⟩;refine bq (cS [13,8,4,5,6,7,9,10] 14) ?_;refine cn ?_;refine zE 12 J (ai J) ?_;refine zE 13 J (au J J) ?_;refine zE 14 J (au J J) ?_;refine zE 15 J (au J J) ?_;refine zE 16 J (au J J) ?_;refine zD 17 J (ci zero29.out J) ?_;rintro _ _ ⟨B32,rfl,rfl⟩;refine bq (cS [14,9,5,6,7,8,10,11] 15) ?_;refine zO 18 J (aq (us:=[W A28 n28 c28,W A29 n29 c29]) (cs':=[W A28 n28 c28,W A29 n29 c29]) 0 J J J J size29.out J J J) ?_;rintro _ _ rfl;refine bq (cS [14,9,5,6,7,8,10,11] 15) ?_;refine cn ?_;refine zE 19 J (av J) ?_;refine zE 20 J (av J) ?_;refine zE 21 J (av J) ?_;refine bv I ?_;refine ae ?_;exact ⟨_,_,.inl (⟨y27_0.1.Young,y27_0.1.Old,y27_0.2.1,y27_0.2.2.1,y27_0.2.2.2,B32,A28,n28,c28,A29,n29,c29,A30,n30,c30,A31,n31,c31,h,J,J⟩),sA,cS [1,2,0,3,4,5,6,7,8,9,11,10] 15⟩
     replace h:=Jx h;refine fd J (fM (cO hy27) call56.out J J J (ce [0,2] [3,4,5,6,7,8,9] [0,1,2] 10 J)) J J J ?_;rintro _ _ ⟨_,⟨A33,n33,c33,A34,n34,c34,A35,n35,c35,A36,n36,c36,rfl,rfl⟩,rfl⟩;refine bq (cS [13,8,4,5,6,7,9,10] 14) ?_;refine cn ?_;refine zE 12 J (ai J) ?_;refine zE 13 J (au J J) ?_;refine zE 14 J (au J J) ?_;refine zE 15 J (au J J) ?_;refine zE 16 J (au J J) ?_;refine zD 17 J (ci zero29.out J) ?_;rintro _ _ ⟨B37,rfl,rfl⟩;refine bq (cS [14,9,5,6,7,8,10,11] 15) ?_;refine zO 18 J (aq (us:=[W A33 n33 c33,W A34 n34 c34]) (cs':=[W A33 n33 c33,W A34 n34 c34]) 0 J J J J size29.out J J J) ?_;rintro _ _ rfl;refine bq (cS [14,9,5,6,7,8,10,11] 15) ?_;refine cn ?_;refine zE 19 J (av J) ?_;refine zE 20 J (av J) ?_;refine zE 21 J (av J) ?_;refine bv I ?_;refine ae ?_;exact ⟨_,_,.inr (⟨y27_1.1.Young,y27_1.1.Old,y27_1.2.1,y27_1.2.2,B37,A33,n33,c33,A34,n34,c34,A35,n35,c35,A36,n36,c36,h,J,J⟩),sA,cS [1,2,0,3,4,5,6,7,8,9,11,10] 15⟩
    refine fd J (ci zero29.out J) J J J ?_;rintro _ _ ⟨B27,rfl,rfl⟩;refine bq (cS [3,4,5,6,7,8,9,10] 11) ?_;refine vP (aY 1 J) (cS [3,4,5,6,7,8,9,10] 11) ?_;refine cn ?_;obtain ⟨y28,hy28,h⟩:=aa h;rcases y28 with y28_0|y28_1
    ·replace h:=Jy h;refine zD 11 J (fM (cO hy28) call56.out J J J (ce [1,3] [4,5,6,7,8,9,10] [0,1,2,3] 11 J)) ?_;rintro _ _ ⟨_,⟨A29,n29,c29,A30,n30,c30,A31,n31,c31,A32,n32,c32,rfl,rfl⟩,rfl⟩;refine bq (cS [14,8,4,5,6,7,9,10] 15) ?_;refine cn ?_;refine zE 12 J (ai J) ?_;refine zE 13 J (au J J) ?_;refine zE 14 J (au J J) ?_;refine zE 15 J (au J J) ?_;refine zE 16 J (au J J) ?_;refine zO 18 J (aq (us:=[W A29 n29 c29,W A30 n30 c30]) (cs':=[W A29 n29 c29,W A30 n30 c30]) 11 J J J J size29.out J J J) ?_;rintro _ _ rfl;refine bq (cS [14,8,4,5,6,7,9,10] 15) ?_;refine cn ?_;refine zE 19 J (av J) ?_;refine zE 20 J (av J) ?_;refine zE 21 J (av J) ?_;refine bv I ?_;refine ae ?_;exact ⟨_,_,.inl (⟨y28_0.1.Young,y28_0.1.Old,y28_0.2.1,y28_0.2.2.1,y28_0.2.2.2,B27,A29,n29,c29,A30,n30,c30,A31,n31,c31,A32,n32,c32,h,J,J⟩),sA,cS [0,1,11,2,3,4,5,6,7,8,10,9] 15⟩
    replace h:=Jx h;refine zD 11 J (fM (cO hy28) call56.out J J J (ce [1,3] [4,5,6,7,8,9,10] [0,1,2,3] 11 J)) ?_;rintro _ _ ⟨_,⟨A33,n33,c33,A34,n34,c34,A35,n35,c35,A36,n36,c36,rfl,rfl⟩,rfl⟩;refine bq (cS [14,8,4,5,6,7,9,10] 15) ?_;refine cn ?_;refine zE 12 J (ai J) ?_;refine zE 13 J (au J J) ?_;refine zE 14 J (au J J) ?_;refine zE 15 J (au J J) ?_;refine zE 16 J (au J J) ?_;refine zO 18 J (aq (us:=[W A33 n33 c33,W A34 n34 c34]) (cs':=[W A33 n33 c33,W A34 n34 c34]) 11 J J J J size29.out J J J) ?_;rintro _ _ rfl;refine bq (cS [14,8,4,5,6,7,9,10] 15) ?_;refine cn ?_;refine zE 19 J (av J) ?_;refine zE 20 J (av J) ?_;refine zE 21 J (av J) ?_;refine bv I ?_;refine ae ?_;exact ⟨_,_,.inr (⟨y28_1.1.Young,y28_1.1.Old,y28_1.2.1,y28_1.2.2,B27,A33,n33,c33,A34,n34,c34,A35,n35,c35,A36,n36,c36,h,J,J⟩),sA,cS [0,1,11,2,3,4,5,6,7,8,10,9] 15⟩
   refine fd J (ci zero29.out J) J J J ?_;rintro _ _ ⟨B25,rfl,rfl⟩;refine bq (cS [2,3,4,5,6,7,8,9] 10) ?_;obtain ⟨y26,hy26,h⟩:=aa h;refine zD 10 J (oR (bQ hy26)) ?_;rintro _ _ ⟨_,⟨A27,n27,c27,rfl,rfl⟩,rfl⟩;refine bq (cS [3,4,5,6,7,8,9,10] 11) ?_;refine vP (aY 0 J) (cS [3,4,5,6,7,8,9,10] 11) ?_;refine cn ?_;obtain ⟨y28,hy28,h⟩:=aa h;rcases y28 with y28_0|y28_1
   ·replace h:=Jy h;refine zD 11 J (fM (cO hy28) call56.out J J J (ce [0,3] [4,5,6,7,8,9,10] [0,1,2,3] 11 J)) ?_;rintro _ _ ⟨_,⟨A29,n29,c29,A30,n30,c30,A31,n31,c31,A32,n32,c32,rfl,rfl⟩,rfl⟩;refine bq (cS [14,8,4,5,6,7,9,10] 15) ?_;refine cn ?_;refine zE 12 J (ai J) ?_;refine zE 13 J (au J J) ?_;refine zE 14 J (au J J) ?_;refine zE 15 J (au J J) ?_;refine zE 16 J (au J J) ?_;refine zO 18 J (aq (us:=[W A29 n29 c29,W A30 n30 c30]) (cs':=[W A29 n29 c29,W A30 n30 c30]) 12 J J J J size29.out J J J) ?_;rintro _ _ rfl;refine bq (cS [14,8,4,5,6,7,9,10] 15) ?_;refine cn ?_;refine zE 19 J (av J) ?_;refine zE 20 J (av J) ?_;refine zE 21 J (av J) ?_;refine bv I ?_;refine ae ?_;exact ⟨_,_,.inl (⟨y28_0.1.Young,y28_0.1.Old,y28_0.2.1,y28_0.2.2.1,y28_0.2.2.2,B25,A29,n29,c29,A30,n30,c30,A31,n31,c31,A32,n32,c32,h,J,J⟩),sA,cS [0,1,12,2,3,4,5,6,7,8,10,9] 15⟩
   replace h:=Jx h;refine zD 11 J (fM (cO hy28) call56.out J J J (ce [0,3] [4,5,6,7,8,9,10] [0,1,2,3] 11 J)) ?_;rintro _ _ ⟨_,⟨A33,n33,c33,A34,n34,c34,A35,n35,c35,A36,n36,c36,rfl,rfl⟩,rfl⟩;refine bq (cS [14,8,4,5,6,7,9,10] 15) ?_;refine cn ?_;refine zE 12 J (ai J) ?_;refine zE 13 J (au J J) ?_;refine zE 14 J (au J J) ?_;refine zE 15 J (au J J) ?_;refine zE 16 J (au J J) ?_;refine zO 18 J (aq (us:=[W A33 n33 c33,W A34 n34 c34]) (cs':=[W A33 n33 c33,W A34 n34 c34]) 12 J J J J size29.out J J J) ?_;rintro _ _ rfl;refine bq (cS [14,8,4,5,6,7,9,10] 15) ?_;refine cn ?_;refine zE 19 J (av J) ?_;refine zE 20 J (av J) ?_;refine zE 21 J (av J) ?_;refine bv I ?_;refine ae ?_;exact ⟨_,_,.inr (⟨y28_1.1.Young,y28_1.1.Old,y28_1.2.1,y28_1.2.2,B25,A33,n33,c33,A34,n34,c34,A35,n35,c35,A36,n36,c36,h,J,J⟩),sA,cS [0,1,12,2,3,4,5,6,7,8,10,9] 15⟩
  refine fd J (ci zero29.out J) J J J ?_;rintro _ _ ⟨B24,rfl,rfl⟩;refine bq (cS [1,2,3,4,5,6,7,8] 9) ?_;refine zD 9 J (eD (cs:=[W A4 n4 c4,W A5 n5 c5]) J (lj _ _ _ _ _ _)) ?_;rintro _ _ ⟨B25,rfl,rfl⟩;refine bq (cS [2,3,4,5,6,7,8,9] 10) ?_;obtain ⟨y26,hy26,h⟩:=aa h;refine zD 10 J (oR (bQ hy26)) ?_;rintro _ _ ⟨_,⟨A27,n27,c27,rfl,rfl⟩,rfl⟩;refine bq (cS [3,4,5,6,7,8,9,10] 11) ?_;refine vP (aY 0 J) (cS [3,4,5,6,7,8,9,10] 11) ?_;refine cn ?_;obtain ⟨y28,hy28,h⟩:=aa h;rcases y28 with y28_0|y28_1
  ·replace h:=Jy h;refine zD 11 J (fM (cO hy28) call56.out J J J (ce [0,3] [4,5,6,7,8,9,10] [0,1,2,3] 11 J)) ?_;rintro _ _ ⟨_,⟨A29,n29,c29,A30,n30,c30,A31,n31,c31,A32,n32,c32,rfl,rfl⟩,rfl⟩;refine bq (cS [14,8,4,5,6,7,9,10] 15) ?_;refine cn ?_;refine zE 12 J (ai J) ?_;refine zE 13 J (au J J) ?_;refine zE 14 J (au J J) ?_;refine zE 15 J (au J J) ?_;refine zE 16 J (au J J) ?_;refine zO 18 J (aq (us:=[W A29 n29 c29,W A30 n30 c30]) (cs':=[W A29 n29 c29,W A30 n30 c30]) 13 J J J J size29.out J J J) ?_;rintro _ _ rfl;refine bq (cS [14,8,4,5,6,7,9,10] 15) ?_;refine cn ?_;refine zE 19 J (av J) ?_;refine zE 20 J (av J) ?_;refine zE 21 J (av J) ?_;refine bv I ?_;refine ae ?_;exact ⟨_,_,.inl (⟨y28_0.1.Young,y28_0.1.Old,y28_0.2.1,y28_0.2.2.1,y28_0.2.2.2,B24,A29,n29,c29,A30,n30,c30,A31,n31,c31,A32,n32,c32,h,J,J⟩),sA,cS [0,1,13,2,3,4,5,6,7,8,10,9] 15⟩
  replace h:=Jx h;refine zD 11 J (fM (cO hy28) call56.out J J J (ce [0,3] [4,5,6,7,8,9,10] [0,1,2,3] 11 J)) ?_;rintro _ _ ⟨_,⟨A33,n33,c33,A34,n34,c34,A35,n35,c35,A36,n36,c36,rfl,rfl⟩,rfl⟩;refine bq (cS [14,8,4,5,6,7,9,10] 15) ?_;refine cn ?_;refine zE 12 J (ai J) ?_;refine zE 13 J (au J J) ?_;refine zE 14 J (au J J) ?_;refine zE 15 J (au J J) ?_;refine zE 16 J (au J J) ?_;refine zO 18 J (aq (us:=[W A33 n33 c33,W A34 n34 c34]) (cs':=[W A33 n33 c33,W A34 n34 c34]) 13 J J J J size29.out J J J) ?_;rintro _ _ rfl;refine bq (cS [14,8,4,5,6,7,9,10] 15) ?_;refine cn ?_;refine zE 19 J (av J) ?_;refine zE 20 J (av J) ?_;refine zE 21 J (av J) ?_;refine bv I ?_;refine ae ?_;exact ⟨_,_,.inr (⟨y28_1.1.Young,y28_1.1.Old,y28_1.2.1,y28_1.2.2,B24,A33,n33,c33,A34,n34,c34,A35,n35,c35,A36,n36,c36,h,J,J⟩),sA,cS [0,1,13,2,3,4,5,6,7,8,10,9] 15⟩
 rintro _ _ (⟨p13,p14,p15,p16,p17,B12,A13,n13,c13,A14,n14,c14,A15,n15,c15,A16,n16,c16,h,rfl,rfl⟩|⟨p20,p21,p22,p23,B19,A20,n20,c20,A21,n21,c21,A22,n22,c22,A23,n23,c23,h,rfl,rfl⟩)
 ·refine sZ ?_;refine gH J h ?_ ?_<;>intro h
  ·exact eY
  exact aj h
 refine sZ ?_;refine jT J ?_;refine ae ?_;refine am (fun s L=> ∃p39 p40 A39 n39 c39 A40 n40 c40,fS N p20 p21 a0 p39 p40=some r/\s=[(0,pV B1 0),(4,iV 0)]/\L=[bY A20 n20 c20 p20,bY A21 n21 c21 p21,bh A39 n39 c39 p39,bh A40 n40 c40 p40,ah B1 56 [W A20 n20 c20,W A21 n21 c21,W A39 n39 c39,W A40 n40 c40,pV B6 0],bj cx dW M7 a0.set_.at_,ah B6 87 [.map (some M7)]]) ?_ ?_
 ·refine dB ?_ aW (aY 3 J);refine ae ?_;refine bm I ([bY A20 n20 c20 p20,bY A21 n21 c21 p21,ah B19 29 [W A20 n20 c20,W A21 n21 c21],az A22 n22 c22 p22,bh A23 n23 c23 p23,bY A2 n2 c2 a0.m_.Young,bY A3 n3 c3 a0.m_.Old,bh A4 n4 c4 a0.roots_,bh A5 n5 c5 a0.pending_,bj cx dW M7 a0.set_.at_,ah B6 87 [.map (some M7)]]) (cS [0,1,2,3,4,5,6,7,8,10,11] 12) ?_;refine zE 0 J (ai J) ?_;refine zE 1 J (ai J) ?_;refine zE 2 J (ai J) ?_;refine zR 3 J (aR (us:=[W A20 n20 c20,W A21 n21 c21]) 2 J J agg29.out J) ?_;refine zE 4 J (ai J) ?_;refine zE 5 J (ai J) ?_;obtain ⟨q41,h⟩:=ad h;refine Dr 3 J (l:=0) (h:=(a0.roots_.length:Int).toNat) q41.2.1 q41.2.2 ?_;rintro A42 n42 c42 e42;refine zR 6 J (E0 4 J e42 J z9 size37.out J J (by rw [Int.toNat_of_nonneg q41.1];rfl) q41.2.1 q41.2.2) ?_;refine zE 8 J (ai J) ?_;refine zE 9 J (ai J) ?_;obtain ⟨q43,h⟩:=ad h;refine Dr 4 J (l:=(a0.roots_.length:Int).toNat) (h:=p22.length) q43.2.1 q43.2.2 ?_;rintro A44 n44 c44 e44;refine zR 10 J (xy 5 J e44 J z9 size37.out J (by rw [Int.toNat_of_nonneg q43.1];rfl) q43.2.1) ?_;refine zE 11 J (ai J) ?_;refine xj 7 12 I ?_ ?_
  ·obtain ⟨y45,k,h⟩:=aa h;refine fd J (oR (eU k)) J J J ?_;rintro _ _ ⟨_,⟨A46,n46,c46,rfl,rfl⟩,rfl⟩;refine bq (cS [1,2,3,4,5,6,7,8,9,10,11,13,14] 15) ?_;refine zD 12 J (eD (cs:=[W A44 n44 c44,W A23 n23 c23]) J (lj _ _ _ _ _ _)) ?_;rintro _ _ ⟨B47,rfl,rfl⟩;refine bq (cS [2,3,4,5,6,7,8,9,10,11,12,14,15] 16) ?_;obtain ⟨y48,hy48,h⟩:=aa h;refine zD 13 J (oR (bQ hy48)) ?_;rintro _ _ ⟨_,⟨A49,n49,c49,rfl,rfl⟩,rfl⟩;refine bq (cS [3,4,5,6,7,8,9,10,11,12,13,15,16] 17) ?_;refine zE 14 J (aX J) ?_;refine zE 15 J (cG J nw) ?_;refine zO 16 J (aq (us:=[W A20 n20 c20,W A21 n21 c21]) (cs':=[W A20 n20 c20,W A21 n21 c21,W A4 n4 c4,W A5 n5 c5,pV B6 0]) 14 J J J J size29.out J J J) ?_;rintro _ _ rfl;refine bq (cS [3,4,5,6,7,8,9,10,11,12,13,15,16] 17) ?_;refine cn ?_;refine zE 17 J (aX J) ?_;refine zE 18 J (bB J pN) ?_;refine zO 19 J (aq (us:=[W A46 n46 c46]) (cs':=[W A20 n20 c20,W A21 n21 c21,W A46 n46 c46,W A5 n5 c5,pV B6 0]) 14 J J J J size30.out J J J) ?_;rintro _ _ rfl;refine bq (cS [3,4,5,6,7,8,9,10,11,12,13,15,16] 17) ?_;refine cn ?_;refine zE 20 J (aX J) ?_;refine zE 21 J (bB J tc) ?_;refine zO 22 J (aq (us:=[W A49 n49 c49]) (cs':=[W A20 n20 c20,W A21 n21 c21,W A46 n46 c46,W A49 n49 c49,pV B6 0]) 14 J J J J size30.out J J J) ?_;rintro _ _ rfl;refine bq (cS [3,4,5,6,7,8,9,10,11,12,13,15,16] 17) ?_;refine cn ?_
   refine bv I ?_;exact jY
  refine fd J (eD (cs:=[W A44 n44 c44,W A23 n23 c23]) J (lj _ _ _ _ _ _)) J J J ?_;rintro _ _ ⟨B45,rfl,rfl⟩;refine bq (cS [1,2,3,4,5,6,7,8,9,10,11,13,14] 15) ?_;obtain ⟨y46,k,h⟩:=aa h;refine zD 7 J (oR (eU k)) ?_;rintro _ _ ⟨_,⟨A47,n47,c47,rfl,rfl⟩,rfl⟩;refine bq (cS [2,3,4,5,6,7,8,9,10,11,12,14,15] 16) ?_;obtain ⟨y48,hy48,h⟩:=aa h;refine zD 13 J (oR (bQ hy48)) ?_;rintro _ _ ⟨_,⟨A49,n49,c49,rfl,rfl⟩,rfl⟩;refine bq (cS [3,4,5,6,7,8,9,10,11,12,13,15,16] 17) ?_;refine zE 14 J (aX J) ?_;refine zE 15 J (cG J nw) ?_;refine zO 16 J (aq (us:=[W A20 n20 c20,W A21 n21 c21]) (cs':=[W A20 n20 c20,W A21 n21 c21,W A4 n4 c4,W A5 n5 c5,pV B6 0]) 14 J J J J size29.out J J J) ?_;rintro _ _ rfl;refine bq (cS [3,4,5,6,7,8,9,10,11,12,13,15,16] 17) ?_;refine cn ?_;refine zE 17 J (aX J) ?_;refine zE 18 J (bB J pN) ?_;refine zO 19 J (aq (us:=[W A47 n47 c47]) (cs':=[W A20 n20 c20,W A21 n21 c21,W A47 n47 c47,W A5 n5 c5,pV B6 0]) 14 J J J J size30.out J J J) ?_;rintro _ _ rfl;refine bq (cS [3,4,5,6,7,8,9,10,11,12,13,15,16] 17) ?_;refine cn ?_;refine zE 20 J (aX J) ?_;refine zE 21 J (bB J tc) ?_;refine zO 22 J (aq (us:=[W A49 n49 c49]) (cs':=[W A20 n20 c20,W A21 n21 c21,W A47 n47 c47,W A49 n49 c49,pV B6 0]) 14 J J J J size30.out J J J) ?_;rintro _ _ rfl;refine bq (cS [3,4,5,6,7,8,9,10,11,12,13,15,16] 17) ?_;refine cn ?_
  refine bv I ?_;exact jY
 rintro _ _ ⟨p39,p40,A39,n39,c39,A40,n40,c40,h,rfl,rfl⟩;refine ay ?_;refine bm I ([bY A20 n20 c20 p20,bY A21 n21 c21 p21,bh A39 n39 c39 p39,bh A40 n40 c40 p40,ah B1 56 [W A20 n20 c20,W A21 n21 c21,W A39 n39 c39,W A40 n40 c40,pV B6 0]]) (cS [0,1,2,3,4] 7) ?_;refine ae ?_;obtain ⟨y50,hy50,h⟩:=aa h;refine vP (cS [6,5,0,1,2,3,4] 7) (cS [2,3,4,5,6] 7) ?_;refine cn ?_;refine zD 8 J (F8 2 2 (qL hy50) call84.out J J J J (hU (xG (i:=2) J J) (hU (xG (i:=3) J J) ax)) oe) ?_;rintro _ _ ⟨_,⟨M51,rfl,rfl⟩,rfl⟩;refine bq (cS [2,3,4,5,6] 7) ?_;refine cn ?_;exact eY
def cF (N:Nat)(a0:Qe):Option (Int×Qe):=
 (gC N a0).bind fun y9=>some (y9.1,y9.2)
theorem nM {N:Nat}{a0:Qe}{r:Int×Qe}(h:cF N a0=some r):Okc QB 22 [pV B1 0] ([ah B1 56 [W A2 n2 c2,W A3 n3 c3,W A4 n4 c4,W A5 n5 c5,pV B6 0],bY A2 n2 c2 a0.m_.Young,bY A3 n3 c3 a0.m_.Old,bh A4 n4 c4 a0.roots_,bh A5 n5 c5 a0.pending_,ah B6 87 [.map (some M7)],bj cx dW M7 a0.set_.at_]) (fun u post=> ∃A0 n0 c0 A1 n1 c1 A2 n2 c2 A3 n3 c3 M4,u=iV r.1/\post=[ah B1 56 [W A0 n0 c0,W A1 n1 c1,W A2 n2 c2,W A3 n3 c3,pV B6 0],bY A0 n0 c0 r.2.m_.Young,bY A1 n1 c1 r.2.m_.Old,bh A2 n2 c2 r.2.roots_,bh A3 n3 c3 r.2.pending_,ah B6 87 [.map (some M4)],bj cx dW M4 r.2.set_.at_]):=by
 refine cQ Tryz.func22 ?_;intro B8;refine ae ?_;refine gE (ei J) ?_;obtain ⟨y9,k,h⟩:=aa h;refine lp (ip 0 J) ?_;refine gD (oC (qG k)) ?_;rintro _ _ ⟨_,⟨A10,n10,c10,A11,n11,c11,A12,n12,c12,A13,n13,c13,M14,rfl,rfl⟩,rfl⟩;exact eY
def fm (N:Nat)(a0:Qe)(a1:Int):Option Qn:=
 (aI N a0).bind fun y9=>(bif y9 then (some true) else (some (decide (a1<0)))).bind fun b10=>(bif b10 then (some true) else (some (decide ((a0.roots_.length:Int)<=a1)))).bind fun b11=>bif b11 then (some (⟨0,0,⟨#[]⟩⟩:Qn)) else ((aw a0.roots_ a1).bind fun x13=>some x13)
theorem oO {N:Nat}{a0:Qe}{a1:Int}{r:Qn}(h:fm N a0 a1=some r):Okc QB 24 [pV B1 0,iV a1] ([bu B1 56 [W A2 n2 c2,W A3 n3 c3,W A4 n4 c4,W A5 n5 c5,pV B6 0],aK A2 n2 c2 a0.m_.Young,aK A3 n3 c3 a0.m_.Old,az A4 n4 c4 a0.roots_,az A5 n5 c5 a0.pending_,bu B6 87 [.map (some M7)],nB cx dW M7 a0.set_.at_]) (fun u post=>u=(bD r)/\post=[]):=by
 refine cQ Tryz.func24 ?_;intro B8;refine sY ?_;obtain ⟨y9,k,h⟩:=aa h;refine kw (oR (bL k)) ?_;refine gS 3 10 7 h ?_;intro b10 h;refine ae ?_;refine gS 8 19 11 h ?_;intro b11 h;refine ew h ?_ ?_<;>intro h
 ·exact eY
 refine ae ?_;obtain ⟨x13,lx13,ux13,hx13,h⟩:=aU h;exact eY
def eZ (N:Nat)(a0:Qe)(a1:Int):Option Bool:=
 (aI N a0).bind fun y8=>(bif !y8 then ((iS N a0.m_ a1).bind fun y10=>some y10) else (some false)).bind fun b9=>some b9
theorem mD {N:Nat}{a0:Qe}{a1:Int}{r:Bool}(h:eZ N a0 a1=some r):Okc QB 54 [pV B1 0,iV a1] ([bu B1 56 [W A2 n2 c2,W A3 n3 c3,W A4 n4 c4,W A5 n5 c5,pV B6 0],aK A2 n2 c2 a0.m_.Young,aK A3 n3 c3 a0.m_.Old,az A4 n4 c4 a0.roots_,az A5 n5 c5 a0.pending_,bu B6 87 [.map (some M7)],nB cx dW M7 a0.set_.at_]) (fun u post=>u=.bool r/\post=[]):=by
 refine cQ Tryz.func54 ?_;obtain ⟨y8,k,h⟩:=aa h;refine kw (oR (bL k)) ?_;obtain ⟨b9,hb9,h⟩:=aa h;refine aQ 7 15 b9 ?_ ?_
 ·clear h;refine aM 8 J (fun g9=> ?_) (fun g9=> ?_)
  ·have h:=aE g9 hb9;refine ae ?_;obtain ⟨y10,k,h⟩:=aa h;refine gU (oR (kh k)) (bx g9 J) ?_;exact gY
  have h:=aF g9 hb9;exact gY
 exact eY
def i9 (N:Nat)(a0:Qe)(a1:Int):Option (Int ⊕ Int):=
 bif decide (a1.tmod 2=1) then (aZ (in64 (a1.tdiv 2)) ((aw a0.m_.Young (a1.tdiv 2)).bind fun x10=>some (.inl (a1.tdiv 2)))) else (aZ (in64 (a1.tdiv 2)) (aZ (in64 ((a1.tdiv 2) - 1)) ((aw a0.m_.Old ((a1.tdiv 2) - 1)).bind fun x13=>some (.inr ((a1.tdiv 2) - 1)))))
theorem kq {N:Nat}{a0:Qe}{a1:Int}{r:(Int ⊕ Int)}(h:i9 N a0 a1=some r):Okc QB 55 [pV B1 0,iV a1] ([bu B1 56 [W A2 n2 c2,W A3 n3 c3,W A4 n4 c4,W A5 n5 c5,pV B6 0],aK A2 n2 c2 a0.m_.Young,aK A3 n3 c3 a0.m_.Old,az A4 n4 c4 a0.roots_,az A5 n5 c5 a0.pending_,bu B6 87 [.map (some M7)],nB cx dW M7 a0.set_.at_]) (fun u post=>Nx (fun (r:Int)=>u=dj (W A2 n2 c2) r.toNat 6 0/\post=[]) (fun (r:Int)=>u=dj (W A3 n3 c3) r.toNat 6 0/\post=[]) r):=by
 refine cQ Tryz.func55 ?_;refine sZ ?_;refine lh (ky J J (by decide)) ?_;refine gH J h ?_ ?_<;>intro h
 ·refine ae ?_;obtain ⟨q9,h⟩:=ad h;refine gE (kz J J (by decide) q9.1 q9.2) ?_;obtain ⟨x10,lx10,ux10,hx10,h⟩:=aU h;exact eY
 refine ae ?_;obtain ⟨q11,h⟩:=ad h;refine gE (kz J J (by decide) q11.1 q11.2) ?_;obtain ⟨q12,h⟩:=ad h;refine ae ?_;obtain ⟨x13,lx13,ux13,hx13,h⟩:=aU h;exact eY
def jK (N:Nat)(a0:Qe)(a1:Int):Option (Ql×Bool):=
 (eZ N a0 a1).bind fun y9=>bif !y9 then (some ((⟨0,0,0,0,[],[]⟩:Ql),false)) else ((i9 N a0 a1).bind fun y13=>ET y13 (fun y13_0=>(aw a0.m_.Young y13_0).bind fun x14=>(dU N x14).bind fun y18=>some (y18,true)) (fun y13_1=>(aw a0.m_.Old y13_1).bind fun x21=>(dU N x21).bind fun y25=>some (y25,true)))
theorem vM {N:Nat}{a0:Qe}{a1:Int}{r:Ql×Bool}(h:jK N a0 a1=some r):Okc QB 23 [pV B1 0,iV a1] ([bu B1 56 [W A2 n2 c2,W A3 n3 c3,W A4 n4 c4,W A5 n5 c5,pV B6 0],aK A2 n2 c2 a0.m_.Young,aK A3 n3 c3 a0.m_.Old,az A4 n4 c4 a0.roots_,az A5 n5 c5 a0.pending_,bu B6 87 [.map (some M7)],nB cx dW M7 a0.set_.at_]) (fun u post=> ∃A0 n0 c0 A1 n1 c1,u=.tuple #[.agg #[iV r.1.Kind,iV r.1.Shape,iV r.1.Flags,iV r.1.Age,W A0 n0 c0,W A1 n1 c1],.bool r.2]/\post=[bh A0 n0 c0 r.1.Slots,bh A1 n1 c1 r.1.More]):=by
 refine cQ Tryz.func23 ?_;intro B8;refine sY ?_;obtain ⟨y9,k,h⟩:=aa h;refine kw (oR (mD k)) ?_;refine gH J h ?_ ?_<;>intro h
 ·refine ae ?_;obtain rfl:=bw h;exact dt (rs:=[.cell 4 35,.tmp 5]) (vs:=[.agg #[iV 0,iV 0,iV 0,iV 0,W none 0 0,W none 0 0],.bool false]) J (.cons (bd 0 J J agg35.out) (.cons (iu J) .nil)) J ((aD ak 37 _).trans ((aD ak 37 _).trans (cS [1,0] 10))) ⟨_,_,_,_,_,_,J,J⟩
 refine ae ?_;obtain ⟨y13,hy13,h⟩:=aa h;rcases y13 with y13_0|y13_1
 ·replace h:=Jy h;refine gD (oR (kq hy13)) ?_;rintro _ _ ⟨_,⟨rfl,rfl⟩,rfl⟩;obtain ⟨x14,lx14,ux14,hx14,h⟩:=aU h;refine gR (sJ 2 J ao J (bc lx14 ux14)) ?_;refine mL 2 J hx14 (bR x14) ?_;rintro _ _ ⟨A15,n15,c15,A16,n16,c16,rfl,rfl⟩;refine gR (eo (us:=[iV x14.Kind,iV x14.Shape,iV x14.Flags,iV x14.Age,W A15 n15 c15,W A16 n16 c16]) 0 J J agg35.out J) ?_;obtain ⟨y18,k,h⟩:=aa h
  refine BM (oR (gG k)) fun A19 n19 c19 A20 n20 c20=> ?_
  exact eN
 replace h:=Jx h;refine gD (oR (kq hy13)) ?_;rintro _ _ ⟨_,⟨rfl,rfl⟩,rfl⟩;obtain ⟨x21,lx21,ux21,hx21,h⟩:=aU h;refine gR (sJ 3 J ao J (bc lx21 ux21)) ?_;refine mL 3 J hx21 (bR x21) ?_;rintro _ _ ⟨A22,n22,c22,A23,n23,c23,rfl,rfl⟩;refine gR (eo (us:=[iV x21.Kind,iV x21.Shape,iV x21.Flags,iV x21.Age,W A22 n22 c22,W A23 n23 c23]) 0 J J agg35.out J) ?_;obtain ⟨y25,k,h⟩:=aa h
 refine BM (oR (gG k)) fun A26 n26 c26 A27 n27 c27=> ?_
 exact eN
def kr (N:Nat)(a0:Qe)(a1:Qn):Option Bool:=
 (bif decide (a1.Kind=7) then (some true) else (some (decide (a1.Kind=9)))).bind fun b9=>(bif b9 then ((eZ N a0 a1.N).bind fun y11=>some (!y11)) else (some false)).bind fun b10=>some b10
theorem xR {N:Nat}{a0:Qe}{a1:Qn}{r:Bool}(h:kr N a0 a1=some r):Okc QB 41 [pV B1 0,(bD a1)] ([bu B1 56 [W A2 n2 c2,W A3 n3 c3,W A4 n4 c4,W A5 n5 c5,pV B6 0],aK A2 n2 c2 a0.m_.Young,aK A3 n3 c3 a0.m_.Old,az A4 n4 c4 a0.roots_,az A5 n5 c5 a0.pending_,bu B6 87 [.map (some M7)],nB cx dW M7 a0.set_.at_]) (fun u post=>u=.bool r/\post=[]):=by
 refine cQ Tryz.func41 ?_;intro B8;refine ae ?_;refine gS 4 12 8 h ?_;intro b9 h;refine ae ?_;obtain ⟨b10,hb10,h⟩:=aa h;refine aQ 6 19 b10 ?_ ?_
 ·clear h;refine aM 13 J (fun g10=> ?_) (fun g10=> ?_)
  ·have h:=aE g10 hb10;refine ae ?_;obtain ⟨y11,k,h⟩:=aa h;refine gU (oR (mD k)) (bx g10 J) ?_;exact gY
  have h:=aF g10 hb10;exact gY
 exact eY
def mR (N:Nat)(a0:Int)(a1:Qe):Option Bool:=
 (eZ N a1 a0).bind fun y9=>some (!y9)
theorem wV {N:Nat}{a0:Int}{a1:Qe}{r:Bool}(h:mR N a0 a1=some r):Okc QB 72 [iV a0,pV B1 0] ([bu B1 23 [pV B2 0],bu B2 56 [W A3 n3 c3,W A4 n4 c4,W A5 n5 c5,W A6 n6 c6,pV B7 0],aK A3 n3 c3 a1.m_.Young,aK A4 n4 c4 a1.m_.Old,az A5 n5 c5 a1.roots_,az A6 n6 c6 a1.pending_,bu B7 87 [.map (some M8)],nB cx dW M8 a1.set_.at_]) (fun u post=>u=.bool r/\post=[]):=by
 refine cQ Tryz.func72 ?_;obtain ⟨y9,k,h⟩:=aa h;refine kw (oR (mD k)) ?_;exact eN
def mC (N:Nat)(a0:Qe)(a1:Ql):Option Bool:=
 (fH N a1).bind fun y12=>(jo N a1).bind fun y14=>(kF N y12 y14).bind fun y17=>(bW N y17 (fun x=>mR N x a0)).bind fun y19=>some y19
theorem zV {N:Nat}{a0:Qe}{a1:Ql}{r:Bool}(h:mC N a0 a1=some r):Okc QB 44 [pV B1 0,.agg #[iV a1.Kind,iV a1.Shape,iV a1.Flags,iV a1.Age,W A8 n8 c8,W A9 n9 c9]] ([bu B1 56 [W A2 n2 c2,W A3 n3 c3,W A4 n4 c4,W A5 n5 c5,pV B6 0],aK A2 n2 c2 a0.m_.Young,aK A3 n3 c3 a0.m_.Old,az A4 n4 c4 a0.roots_,az A5 n5 c5 a0.pending_,bu B6 87 [.map (some M7)],nB cx dW M7 a0.set_.at_,az A8 n8 c8 a1.Slots,az A9 n9 c9 a1.More]) (fun u post=>u=.bool r/\post=[]):=by
 refine cQ Tryz.func44 ?_;intro B10
 refine gg fun B11=> ?_
 refine ay ?_;refine bm I _ (ab _) ?_;refine zR 0 J (aR (us:=[iV a1.Kind,iV a1.Shape,iV a1.Flags,iV a1.Age,W A8 n8 c8,W A9 n9 c9]) 0 J J agg35.out J) ?_;refine zR 2 J (aR (us:=[iV a1.Kind,iV a1.Shape,iV a1.Flags,iV a1.Age,W A8 n8 c8,W A9 n9 c9]) 0 J J agg35.out J) ?_;refine zE 6 J (ei J) ?_;obtain ⟨y12,k,h⟩:=aa h;refine zD 1 J (oR (jp k)) ?_;rintro _ _ ⟨_,⟨A13,n13,c13,rfl,rfl⟩,rfl⟩;refine bq (cS [1,2,3,4,5,6,7,8,9,10,11] 12) ?_;obtain ⟨y14,k,h⟩:=aa h;refine zD 3 J (oR (oU k)) ?_;rintro _ _ ⟨_,⟨A15,n15,c15,rfl,rfl⟩,rfl⟩;refine bq (cS [2,3,4,5,6,7,8,9,10,11,12] 13) ?_;refine zD 4 J (eD (cs:=[W A13 n13 c13,W A15 n15 c15]) J (EF _ _ _ _ _ _)) ?_;rintro _ _ ⟨B16,rfl,rfl⟩;refine bq (cS [3,4,5,6,7,8,9,10,11,12,13] 14) ?_;obtain ⟨y17,k,h⟩:=aa h;refine zD 5 J (oR (tY k)) ?_;rintro _ _ ⟨_,⟨A18,n18,c18,rfl,rfl⟩,rfl⟩;refine bq (cS [4,5,6,7,8,9,10,11,12,13,14] 15) ?_;obtain ⟨y19,k,h⟩:=aa h;refine zD 7 J (oR (dD k ⟨hU J (hU J (hU J (hU J (hU J (hU J (hU J (hU J ax))))))),72, #[], #[pV B10 0],J,call72.out,fun _ _ hh=>wV hh⟩)) ?_;rintro _ _ ⟨_,⟨rfl,rfl⟩,rfl⟩;refine bq (cS [4,5,6,7,8,9,10,11,12,13,14] 15) ?_;refine zE 8 J (av J) ?_;refine bv I ?_;exact eY
theorem xQ {r:Bool}: ∀v post,((fun (u:Value) (post:List Chunk)=>u=.bool r/\post=[])) v post-> ∀c∈post,fu c:=by
 rintro _ _ ⟨rfl,rfl⟩;exact ax
def jV (N:Nat):Option Int:=
 some (-1)
def cR (N:Nat)(a0:Qy)(a1_0:Qe):Nat->Int->Option Int
 |0,_=>none
 |m10+1,p11=>bif decide (p11<(a0.length:Int)) then ((aw a0 p11).bind fun x13=>(mC N a1_0 x13).bind fun y17=>bif y17 then (some p11) else (aZ (in64 (p11+1)) ((cR N a0 a1_0 m10) (p11+1)))) else (jV N)
def ge (N:Nat)(a0:Qy)(a1_0:Qe):Option Int:=
 cR N a0 a1_0 N 0
theorem pU {N:Nat}{a0:Qy}{a1_0:Qe}{r:Int}(h:ge N a0 a1_0=some r):Okc QB 66 [W A1 n1 c1,.func (.func 44) #[pV B2 0] #[]] ([aK A1 n1 c1 a0,bu B2 56 [W A3 n3 c3,W A4 n4 c4,W A5 n5 c5,W A6 n6 c6,pV B7 0],aK A3 n3 c3 a1_0.m_.Young,aK A4 n4 c4 a1_0.m_.Old,az A5 n5 c5 a1_0.roots_,az A6 n6 c6 a1_0.pending_,bu B7 87 [.map (some M8)],nB cx dW M8 a1_0.set_.at_]) (fun u post=>u=iV r/\post=[]):=by
 refine cQ Tryz.func66 ?_;refine am (fun s L=>jV N=some r/\s=[(4,iV 0)]/\L=[]) ?_ ?_
 ·refine ae ?_;refine aH (fun m s L=> ∃p11,cR N a0 a1_0 m p11=some r/\s=[(0,W A1 n1 c1),(1,.func (.func 44) #[pV B2 0] #[]),(4,iV 0),(7,iV (a0.length:Int)),(8,iV p11)]/\L=[aK A1 n1 c1 a0,aK A3 n3 c3 a1_0.m_.Young,aK A4 n4 c4 a1_0.m_.Old,az A5 n5 c5 a1_0.roots_,az A6 n6 c6 a1_0.pending_,bu B2 56 [W A3 n3 c3,W A4 n4 c4,W A5 n5 c5,W A6 n6 c6,pV B7 0],nB cx dW M8 a1_0.set_.at_,bu B7 87 [.map (some M8)]]) N _ _ ⟨0,h,J,J⟩ sA (cS [0,2,3,4,5,1,7,6] 8) ?_;rintro (_|m10) _ _ ⟨p11,h,rfl,rfl⟩
  ·exact aj h
  rw [cR.eq_2] at h;refine ae ?_;refine ay ?_;refine gH J h ?_ ?_<;>intro h
  ·refine sY ?_;obtain ⟨x13,lx13,ux13,hx13,h⟩:=aU h;refine ae ?_;refine mL 0 J hx13 (bR x13) ?_;rintro _ _ ⟨A14,n14,c14,A15,n15,c15,rfl,rfl⟩;refine gR (eo (us:=[iV x13.Kind,iV x13.Shape,iV x13.Flags,iV x13.Age,W A14 n14 c14,W A15 n15 c15]) 0 J J agg35.out J) ?_;obtain ⟨y17,k,h⟩:=aa h;refine kw (IW (zV k) call44.out J J J (hU (aJ (i:=8) J J) (hU (aJ (i:=4) J J) (hU (aJ (i:=5) J J) (hU (aJ (i:=6) J J) (hU (aJ (i:=7) J J) (hU (aJ (i:=10) J J) (hU (aJ (i:=9) J J) (hU (aJ (i:=1) J J) (hU (aJ (i:=2) J J) ax))))))))) xQ) ?_;refine gH J h ?_ ?_<;>intro h
   ·exact eY
   refine ae ?_;obtain ⟨q19,h⟩:=ad h;exact lY
  exact jY
 rintro _ _ ⟨h,rfl,rfl⟩;exact eY
def dx (N:Nat)(a0:Qy)(a1_0:Qe):Option Bool:=
 (ge N a0 a1_0).bind fun y9=>some (decide (0<=y9))
theorem oc {N:Nat}{a0:Qy}{a1_0:Qe}{r:Bool}(h:dx N a0 a1_0=some r):Okc QB 42 [W A1 n1 c1,.func (.func 44) #[pV B2 0] #[]] ([aK A1 n1 c1 a0,bu B2 56 [W A3 n3 c3,W A4 n4 c4,W A5 n5 c5,W A6 n6 c6,pV B7 0],aK A3 n3 c3 a1_0.m_.Young,aK A4 n4 c4 a1_0.m_.Old,az A5 n5 c5 a1_0.roots_,az A6 n6 c6 a1_0.pending_,bu B7 87 [.map (some M8)],nB cx dW M8 a1_0.set_.at_]) (fun u post=>u=.bool r/\post=[]):=by
 refine cQ Tryz.func42 ?_;obtain ⟨y9,k,h⟩:=aa h;refine kw (oR (pU k)) ?_;exact eN
def ob (N:Nat)(a0:Int):Option Bool:=
 some (!decide (a0=a0))
theorem vG {N:Nat}{a0:Int}{r:Bool}(h:ob N a0=some r):Okc QB 125 [iV a0] ([]) (fun u post=>u=.bool r/\post=[]):=by
 refine cQ Tryz.func125 ?_;exact eN
theorem sE {r:Bool}: ∀v post,((fun (u:Value) (post:List Chunk)=>u=.bool r/\post=[])) v post-> ∀c∈post,fu c:=by
 rintro _ _ ⟨rfl,rfl⟩;exact ax
def ke (N:Nat)(a1:Int)(a0:Qq)(p3:Int):Option (Int×Bool):=
 (bif decide (p3<(a0.length:Int)) then ((aw a0 p3).bind fun x14=>(bif decide (x14=a1) then (some true) else ((aw a0 p3).bind fun x16=>(ob N x16).bind fun y17=>(bif y17 then ((ob N a1).bind fun y19=>some y19) else (some false)).bind fun b18=>some b18)).bind fun b15=>some b15) else (some false)).bind fun b13=>some (p3,b13)
def dE (N:Nat)(a1:Int)(a0:Qq):Nat->Int->Int->Option (Int×Bool)
 |0,_,_=>none
 |m4+1,p5,p6=>bif decide (p5<p6) then (aZ (in64 (p5+p6)) ((aw a0 (IntKind.i64.wrap ((IntKind.u64.wrap (p5+p6)).fdiv (2 ^ 1)))).bind fun x9=>(vz N x9 a1).bind fun y10=>bif y10 then (aZ (in64 ((IntKind.i64.wrap ((IntKind.u64.wrap (p5+p6)).fdiv (2 ^ 1)))+1)) ((dE N a1 a0 m4) ((IntKind.i64.wrap ((IntKind.u64.wrap (p5+p6)).fdiv (2 ^ 1)))+1) p6)) else ((dE N a1 a0 m4) p5 (IntKind.i64.wrap ((IntKind.u64.wrap (p5+p6)).fdiv (2 ^ 1)))))) else (ke N a1 a0 p5)
def iz (N:Nat)(a0:Qq)(a1:Int):Option (Int×Bool):=
 dE N a1 a0 N 0 (a0.length:Int)
theorem uK {N:Nat}{a0:Qq}{a1:Int}{r:Int×Bool}(h:iz N a0 a1=some r):Okc QB 74 [W A1 n1 c1,iV a1] ([bV A1 n1 c1 a0]) (fun u post=>u=.tuple #[iV r.1,.bool r.2]/\post=[]):=by
 refine rQ Tryz.func74 J J ?_;simp only [jr];refine Y ?_;refine gR (cC 0 J ao J Ex) ?_;refine Y ?_;refine am (fun s L=> ∃p3,ke N a1 a0 p3=some r/\s=[(0,W A1 n1 c1),(1,iV a1),(4,iV 0),(5,.bool false),(6,iV (a0.length:Int)),(7,iV p3)]/\L=[bV A1 n1 c1 a0]) ?_ ?_
 ·refine nA ?_;refine aH (fun m s L=> ∃p5 p6,dE N a1 a0 m p5 p6=some r/\s=[(0,W A1 n1 c1),(1,iV a1),(4,iV 0),(5,.bool false),(6,iV (a0.length:Int)),(7,iV p5),(8,iV p6)]/\L=[bV A1 n1 c1 a0]) N _ _ ⟨0,(a0.length:Int),h,J,J⟩ sA (cS [0] 1) ?_;rintro (_|m4) _ _ ⟨p5,p6,h,rfl,rfl⟩
  ·exact aj h
  rw [dE.eq_2] at h;refine ay ?_;refine Y ?_;refine gH J h ?_ ?_<;>intro h
  ·refine Y ?_;obtain ⟨q8,h⟩:=ad h;refine gE (cr J J q8.1 q8.2) ?_;refine gE (Mn J J Tryz.underlying151) ?_;refine gE (Na (v:=(IntKind.u64.wrap (p5+p6)).fdiv (2 ^ 1)) J J (fun _=>J)) ?_;refine gE (Mn J J t0) ?_;refine Y ?_;obtain ⟨x9,lx9,ux9,hx9,h⟩:=aU h;refine gR (bf 0 J ao J J Ex size3.out lx9 ux9) ?_;refine gR (bF (u:=iV x9) 0 J ao J hx9 ex (fun _ _ _ h=>by rw [show _=_ from h];rfl)) ?_;refine Y ?_;obtain ⟨y10,k,h⟩:=aa h;refine gV (ba (GF k) call124.out J (ax) DN) ?_;refine Y ?_;refine gH J h ?_ ?_<;>intro h
   ·refine Y ?_;obtain ⟨q12,h⟩:=ad h;refine gE (cr J J q12.1 q12.2) ?_;refine Y ?_;exact ⟨m4,_,_,Qu _,⟨(IntKind.i64.wrap ((IntKind.u64.wrap (p5+p6)).fdiv (2 ^ 1)))+1,p6,h,J,J⟩,sA,cS [0] 1⟩
   refine Y ?_;exact ⟨m4,_,_,Qu _,⟨p5,(IntKind.i64.wrap ((IntKind.u64.wrap (p5+p6)).fdiv (2 ^ 1))),h,J,J⟩,sA,cS [0] 1⟩
  refine Y ?_;exact ⟨_,_,⟨p5,h,J,J⟩,sA,cS [0] 1⟩
 rintro _ _ ⟨p3,h,rfl,rfl⟩;refine Y ?_;obtain ⟨b13,hb13,h⟩:=aa h;refine aQ 18 53 b13 ?_ ?_
 ·clear h;refine aM 35 J (fun g13=> ?_) (fun g13=> ?_)
  ·have h:=aE g13 hb13;refine Y ?_;obtain ⟨x14,lx14,ux14,hx14,h⟩:=aU h;refine mH (bf 0 J ao J J Ex size3.out lx14 ux14) J (bx g13 J) J ?_;refine mH (bF (u:=iV x14) 0 J ao J hx14 ex (fun _ _ _ h=>by rw [show _=_ from h];rfl)) J (bx g13 J) J ?_;refine Y ?_;obtain ⟨b15,hb15,h⟩:=aa h;refine aQ 10 52 b15 ?_ ?_
   ·clear h;refine aM 42 J (fun g15=> ?_) (fun g15=> ?_)
    ·have h:=aE g15 hb15;refine Y ?_;obtain rfl:=bw h;exact cH sA (cS [0] 1)
    have h:=aF g15 hb15;refine Y ?_;obtain ⟨x16,lx16,ux16,hx16,h⟩:=aU h;refine mH (bf 0 J ao J J Ex size3.out lx16 ux16) J (dh g15 J) J ?_;refine mH (bF (u:=iV x16) 0 J ao J hx16 ex (fun _ _ _ h=>by rw [show _=_ from h];rfl)) J (dh g15 J) J ?_;obtain ⟨y17,k,h⟩:=aa h;refine gU (ba (vG k) call125.out J (ax) sE) (dh g15 J) ?_;refine Y ?_;obtain ⟨b18,hb18,h⟩:=aa h;refine aQ 3 51 b18 ?_ ?_
    ·clear h;refine aM 48 J (fun g18=> ?_) (fun g18=> ?_)
     ·have h:=aE g18 hb18;refine Y ?_;obtain ⟨y19,k,h⟩:=aa h;refine gU (ba (vG k) call125.out J (ax) sE) (bx g18 J) ?_;refine Y ?_;obtain rfl:=bw h;exact cH sA (cS [0] 1)
     have h:=aF g18 hb18;refine Y ?_;obtain rfl:=bw h;exact cH sA (cS [0] 1)
    refine Y ?_;obtain rfl:=bw h;exact cH sA (cS [0] 1)
   refine Y ?_;obtain rfl:=bw h;exact cH sA (cS [0] 1)
  have h:=aF g13 hb13;refine Y ?_;obtain rfl:=bw h;exact cH sA (cS [0] 1)
 refine Y ?_;obtain rfl:=bw h;exact Mo J J J (cS [] 1) ⟨J,J⟩
def ub (N:Nat):Option Bool:=
 some true
def ie (N:Nat)(a0:Qg)(a1:Qq):Nat->Int->Option Bool
 |0,_=>none
 |m20+1,p21=>bif decide (p21<(a0.Old.length:Int)) then ((aw a0.Old p21).bind fun x23=>aZ (in64 (2*p21)) (aZ (in64 ((2*p21)+2)) ((iz N a1 ((2*p21)+2)).bind fun y30=>(bif !y30.2 then ((lM N x23).bind fun y32=>some y32) else (some false)).bind fun b31=>bif b31 then (some false) else (aZ (in64 (p21+1)) ((ie N a0 a1 m20) (p21+1)))))) else (ub N)
def vK (N:Nat)(a1:Qq)(a0:Qg):Option Bool:=
 ie N a0 a1 N 0
def nn (N:Nat)(a1:Qq)(a0:Qg):Nat->Int->Option Bool
 |0,_=>none
 |m6+1,p7=>bif decide (p7<(a1.length:Int)) then ((aw a1 p7).bind fun x9=>(ml N x9).bind fun y10=>(bif !y10 then (some true) else (aZ (in64 (x9.tdiv 2)) (some (decide ((a0.Old.length:Int)<x9.tdiv 2))))).bind fun b11=>(bif b11 then (some true) else ((bif decide (0<p7) then (aZ (in64 (p7 - 1)) ((aw a1 (p7 - 1)).bind fun x16=>some (decide (x9<=x16)))) else (some false)).bind fun b14=>some b14)).bind fun b13=>bif b13 then (some false) else (aZ (in64 (p7+1)) ((nn N a1 a0 m6) (p7+1)))) else (vK N a1 a0)
def og (N:Nat)(a0:Qg)(a1:Qq):Option Bool:=
 nn N a1 a0 N 0
theorem BI {N:Nat}{a0:Qg}{a1:Qq}{r:Bool}(h:og N a0 a1=some r):Okc QB 45 [.agg #[W A1 n1 c1,W A2 n2 c2],W A3 n3 c3] ([aK A1 n1 c1 a0.Young,aK A2 n2 c2 a0.Old,bV A3 n3 c3 a1]) (fun u post=>u=.bool r/\post=[]):=by
 refine cQ Tryz.func45 ?_;intro B4;refine ae ?_;refine am (fun s L=>vK N a1 a0=some r/\s=[(1,W A3 n3 c3),(2,pV B4 0),(4,.bool false)]/\L=[bV A3 n3 c3 a1,aK A1 n1 c1 a0.Young,aK A2 n2 c2 a0.Old,ah B4 29 [W A1 n1 c1,W A2 n2 c2]]) ?_ ?_
 ·refine ae ?_;refine aH (fun m s L=> ∃p7,nn N a1 a0 m p7=some r/\s=[(1,W A3 n3 c3),(2,pV B4 0),(4,.bool false),(11,W A3 n3 c3),(12,iV (a1.length:Int)),(13,iV p7)]/\L=[bV A3 n3 c3 a1,aK A1 n1 c1 a0.Young,aK A2 n2 c2 a0.Old,ah B4 29 [W A1 n1 c1,W A2 n2 c2]]) N _ _ ⟨0,h,J,J⟩ sA (cS [3,1,2,0] 4) ?_;rintro (_|m6) _ _ ⟨p7,h,rfl,rfl⟩
  ·exact aj h
  rw [nn.eq_2] at h;refine ae ?_;refine ay ?_;refine gH J h ?_ ?_<;>intro h
  ·refine sY ?_;obtain ⟨x9,lx9,ux9,hx9,h⟩:=aU h;refine ae ?_;obtain ⟨y10,k,h⟩:=aa h;refine kw (oR (yb k)) ?_;obtain ⟨b11,hb11,h⟩:=aa h;refine aQ 7 28 b11 ?_ ?_
   ·clear h;refine aM 21 J (fun g11=> ?_) (fun g11=> ?_)
    ·have h:=aE g11 hb11;exact gY
    have h:=aF g11 hb11;refine ae ?_;obtain ⟨q12,h⟩:=ad h;refine su (kz J J (by decide) q12.1 q12.2) J (dh g11 J) J ?_;exact gY
   refine ae ?_;obtain ⟨b13,hb13,h⟩:=aa h;refine aQ 12 41 b13 ?_ ?_
   ·clear h;refine aM 29 J (fun g13=> ?_) (fun g13=> ?_)
    ·have h:=aE g13 hb13;exact gY
    have h:=aF g13 hb13;refine ae ?_;obtain ⟨b14,hb14,h⟩:=aa h;refine aQ 8 40 b14 ?_ ?_
    ·clear h;refine aM 32 J (fun g14=> ?_) (fun g14=> ?_)
     ·have h:=aE g14 hb14;refine ae ?_;obtain ⟨q15,h⟩:=ad h;refine ae ?_;obtain ⟨x16,lx16,ux16,hx16,h⟩:=aU h;exact gY
     have h:=aF g14 hb14;exact gY
    exact gY
   refine ew h ?_ ?_<;>intro h
   ·exact eY
   refine ae ?_;obtain ⟨q18,h⟩:=ad h;exact lY
  exact jY
 rintro _ _ ⟨h,rfl,rfl⟩;refine am (fun s L=>ub N=some r/\s=[(4,.bool false)]/\L=[]) ?_ ?_
 ·refine ae ?_;refine aH (fun m s L=> ∃p21,ie N a0 a1 m p21=some r/\s=[(1,W A3 n3 c3),(4,.bool false),(44,W A2 n2 c2),(45,iV (a0.Old.length:Int)),(46,iV p21)]/\L=[bV A3 n3 c3 a1,aK A2 n2 c2 a0.Old]) N _ _ ⟨0,h,J,J⟩ sA (cS [0,2] 4) ?_;rintro (_|m20) _ _ ⟨p21,h,rfl,rfl⟩
  ·exact aj h
  rw [ie.eq_2] at h;refine ae ?_;refine ay ?_;refine gH J h ?_ ?_<;>intro h
  ·refine sY ?_;obtain ⟨x23,lx23,ux23,hx23,h⟩:=aU h;refine ae ?_;refine mL 1 J hx23 (bR x23) ?_;rintro _ _ ⟨A24,n24,c24,A25,n25,c25,rfl,rfl⟩;refine zX (eo (us:=[iV x23.Kind,iV x23.Shape,iV x23.Flags,iV x23.Age,W A24 n24 c24,W A25 n25 c25]) 0 J J agg35.out J) ?_;intro B27;refine ae ?_;obtain ⟨q28,h⟩:=ad h;refine gE (kA J J q28.1 q28.2) ?_;obtain ⟨q29,h⟩:=ad h;refine ae ?_;obtain ⟨y30,k,h⟩:=aa h;refine kw (oR (uK k)) ?_;obtain ⟨b31,hb31,h⟩:=aa h;refine aQ 3 64 b31 ?_ ?_
   ·clear h;refine aM 61 J (fun g31=> ?_) (fun g31=> ?_)
    ·have h:=aE g31 hb31;refine ae ?_;obtain ⟨y32,k,h⟩:=aa h;refine gU (oR (vJ k)) (bx g31 J) ?_;exact gY
    have h:=aF g31 hb31;exact gY
   refine ew h ?_ ?_<;>intro h
   ·exact eY
   refine ae ?_;obtain ⟨q34,h⟩:=ad h;exact lY
  exact jY
 rintro _ _ ⟨h,rfl,rfl⟩;exact eY
def gq (N:Nat)(a0:Qe)(p11:Bool):Option Int:=
 bif p11 then (some 50) else ((iQ N a0.set_).bind fun y24=>(og N a0.m_ y24).bind fun y26=>bif !y26 then (some 6) else (some 0))
def f0 (N:Nat)(a0:Qe):Option Int:=
 (aI N a0).bind fun y8=>bif y8 then (some 1) else ((cu N a0.roots_ a0.pending_).bind fun y13=>(cK N y13 (fun x=>kr N a0 x)).bind fun y15=>bif y15 then (gq N a0 y15) else ((fI N a0.m_.Young a0.m_.Old).bind fun y19=>(dx N y19 a0).bind fun y22=>gq N a0 y22))
theorem rZ {N:Nat}{a0:Qe}{r:Int}(h:f0 N a0=some r):Okc QB 15 [pV B1 0] ([bu B1 56 [W A2 n2 c2,W A3 n3 c3,W A4 n4 c4,W A5 n5 c5,pV B6 0],aK A2 n2 c2 a0.m_.Young,aK A3 n3 c3 a0.m_.Old,az A4 n4 c4 a0.roots_,az A5 n5 c5 a0.pending_,bu B6 87 [.map (some M7)],nB cx dW M7 a0.set_.at_]) (fun u post=>u=iV r/\post=[]):=by
 refine cQ Tryz.func15 ?_;refine sZ ?_;obtain ⟨y8,k,h⟩:=aa h;refine kw (oR (bL k)) ?_;refine gH J h ?_ ?_<;>intro h
 ·exact eY
 refine am (fun s L=> ∃p11,gq N a0 p11=some r/\s=[(0,pV B1 0),(2,iV 0),(6,.bool p11)]/\L=[aK A2 n2 c2 a0.m_.Young,aK A3 n3 c3 a0.m_.Old,az A4 n4 c4 a0.roots_,az A5 n5 c5 a0.pending_,bu B1 56 [W A2 n2 c2,W A3 n3 c3,W A4 n4 c4,W A5 n5 c5,pV B6 0],nB cx dW M7 a0.set_.at_,bu B6 87 [.map (some M7)]]) ?_ ?_
 ·refine ay ?_;refine bm I _ (ab _) ?_;refine zE 0 J (ai J) ?_;refine zE 1 J (aX J) ?_;refine zE 2 J (bB J pN) ?_;refine zR 3 J (lO 0 J J dr J) ?_;refine zE 4 J (ai J) ?_;refine zE 5 J (aX J) ?_;refine zE 6 J (bB J tc) ?_;refine zR 7 J (lO 0 J J dr J) ?_;refine zE 10 J (ai J) ?_;refine zE 11 J (Ab (caps:=[]) J J) ?_;refine zD 8 J (eD (cs:=[W A4 n4 c4,W A5 n5 c5]) J (lj _ _ _ _ _ _)) ?_;rintro _ _ ⟨B12,rfl,rfl⟩;refine bq (cS [1,2,3,4,5,6,7] 8) ?_;obtain ⟨y13,k,h⟩:=aa h;refine zD 9 J (oR (bQ k)) ?_;rintro _ _ ⟨_,⟨A14,n14,c14,rfl,rfl⟩,rfl⟩;refine bq (cS [2,3,4,5,6,7,8] 9) ?_;obtain ⟨y15,k,h⟩:=aa h;refine zD 12 J (oR (kE k ⟨hU J (hU J (hU J (hU J (hU J (hU J (hU J ax)))))),41, #[pV B1 0], #[],J,call41.out,fun _ _ hh=>xR hh⟩)) ?_;rintro _ _ ⟨_,⟨rfl,rfl⟩,rfl⟩;refine bq (cS [2,3,4,5,6,7,8] 9) ?_;refine zE 13 J (av J) ?_;refine bv I ?_;refine ew h ?_ ?_<;>intro h
  ·exact jY
  obtain ⟨y19,hy19,h⟩:=aa h;refine dB (t:=[(0,pV B1 0),(2,iV 0),(6,.bool y15)]) ?_ fv (ab _)
  refine dF I 14 [] [11,13] [20,21,22,23,24,25,26,27,28,29,30,31,32,33] [[],[0],[1],[2],[3],[],[5],[6],[7],[8],[4,9],[10],[],[12]] [aV (pV B1 0),
aV (pV B1 0),
aV (pV B1 0),
aV (pV B1 0),
aV (W A2 n2 c2),
aV (pV B1 0),
aV (pV B1 0),
aV (pV B1 0),
aV (pV B1 1),
aV (W A3 n3 c3),
aX1 (fun (B18:Nat)=> .slice (some ⟨B18,0,none⟩) 2 2) (fun B18=> [bu B18 27 [W A2 n2 c2,W A3 n3 c3]]),
aX3 (fun (A21:Option Addr) (n21 c21:Nat)=> W A21 n21 c21) (fun A21 n21 c21=> [bY A21 n21 c21 y19]),
aV (pV B1 0),
aV (.func (.func 44) #[pV B1 0] #[])] [] (ab _) (fj) I rfl rfl ?_ ?_ ?_
  ·exact fi
  ·refine ac J ?_ ?_
   ·exact bN (Ab (caps:=[]) J J) J (aP J (ab _))
   refine ac J ?_ ?_
   ·exact bN (ai J) J (aP J (ab _))
   refine ac J ?_ ?_
   ·intro B18;refine gj (oC (o4 hy19)) J ?_;rintro _ _ ⟨_,⟨A20,n20,c20,rfl,rfl⟩,rfl⟩;exact pv A20 n20 c20 (ab _)
   refine ac J ?_ ?_
   ·refine gj (eD (cs:=[W A2 n2 c2,W A3 n3 c3]) J (AU _ _ _ _ _ _)) J ?_;rintro _ _ ⟨B17,rfl,rfl⟩;exact FC B17 ((ip 0 J).trans (ab _))
   refine ac J ?_ ?_
   ·exact cB (lO 2 J J ni J) J (aP J (ab _))
   refine ac J ?_ ?_
   ·exact bN (bB J lC) J (aP J (ab _))
   refine ac J ?_ ?_
   ·exact bN (cG J nw) J (aP J (ab _))
   refine ac J ?_ ?_
   ·exact bN (aX J) J (aP J (ab _))
   refine ac J ?_ ?_
   ·exact bN (ai J) J (aP J (ab _))
   refine ac J ?_ ?_
   ·exact cB (lO 2 J J ni J) J (aP J (ab _))
   refine ac J ?_ ?_
   ·exact bN (cG J ny) J (aP J (ab _))
   refine ac J ?_ ?_
   ·exact bN (cG J nw) J (aP J (ab _))
   refine ac J ?_ ?_
   ·exact bN (aX J) J (aP J (ab _))
   refine ac J ?_ ?_
   ·exact bN (ai J) J (aP J (ab _))
   exact cp
  intro A21 n21 c21;refine gu (t:=[(31,W A21 n21 c21),(33,.func (.func 44) #[pV B1 0] #[]),(0,pV B1 0),(2,iV 0),(6,.bool y15)]) (L':=[bY A21 n21 c21 y19,bh A14 n14 c14 y13,ah B12 30 [W A4 n4 c4,W A5 n5 c5],bu B1 56 [W A2 n2 c2,W A3 n3 c3,W A4 n4 c4,W A5 n5 c5,pV B6 0],aK A2 n2 c2 a0.m_.Young,aK A3 n3 c3 a0.m_.Old,az A4 n4 c4 a0.roots_,az A5 n5 c5 a0.pending_,bu B6 87 [.map (some M7)],nB cx dW M7 a0.set_.at_]) ?_ fv (ab _);obtain ⟨y22,k,h⟩:=aa h;refine jt 14 J I (oR (oc k)) J J J ?_;rintro _ _ ⟨_,⟨rfl,rfl⟩,rfl⟩;refine rc 15 J I (av J) J J J ?_;refine ft I ?_;exact jY
 rintro _ _ ⟨p11,h,rfl,rfl⟩;refine gH J h ?_ ?_<;>intro h
 ·exact eY
 refine ay ?_;refine bm I _ (ab _) ?_;refine ae ?_;obtain ⟨y24,k,h⟩:=aa h;refine zD 8 J (oR (rC k)) ?_;rintro _ _ ⟨_,⟨A25,n25,c25,rfl,rfl⟩,rfl⟩;refine bq (cS [1,2,3,4,5,6,7] 8) ?_;obtain ⟨y26,k,h⟩:=aa h;refine zD 9 J (oR (BI k)) ?_;rintro _ _ ⟨_,⟨rfl,rfl⟩,rfl⟩;refine bq (cS [1,2,3,4,5,6,7] 8) ?_;refine ew h ?_ ?_<;>intro h
 ·exact eY
 exact eY
theorem wZ {r:Int}: ∀v post,((fun (u:Value) (post:List Chunk)=>u=iV r/\post=[])) v post-> ∀c∈post,fu c:=by
 rintro _ _ ⟨rfl,rfl⟩;exact ax
def fa (N:Nat)(a0:Qe)(a1:Int):Option Qe:=
 (aI N a0).bind fun y8=>(bif !y8 then (some (decide (max a1 0<(a0.roots_.length:Int)))) else (some false)).bind fun b9=>bif b9 then (aZ ((0:Int)<=max a1 0/\(max a1 0).toNat<=a0.roots_.length) (some (⟨a0.m_,List.take ((max a1 0).toNat) a0.roots_,a0.pending_,a0.set_⟩:Qe))) else (some a0)
theorem uv {N:Nat}{a0:Qe}{a1:Int}{r:Qe}(h:fa N a0 a1=some r):Okc QB 25 [pV B1 0,iV a1] ([ah B1 56 [W A2 n2 c2,W A3 n3 c3,W A4 n4 c4,W A5 n5 c5,pV B6 0],bY A2 n2 c2 a0.m_.Young,bY A3 n3 c3 a0.m_.Old,bh A4 n4 c4 a0.roots_,bh A5 n5 c5 a0.pending_,ah B6 87 [.map (some M7)],bj cx dW M7 a0.set_.at_]) (fun u post=> ∃A0 n0 c0 A1 n1 c1 A2 n2 c2 A3 n3 c3 M4,u=.tuple #[]/\post=[ah B1 56 [W A0 n0 c0,W A1 n1 c1,W A2 n2 c2,W A3 n3 c3,pV B6 0],bY A0 n0 c0 r.m_.Young,bY A1 n1 c1 r.m_.Old,bh A2 n2 c2 r.roots_,bh A3 n3 c3 r.pending_,ah B6 87 [.map (some M4)],bj cx dW M4 r.set_.at_]):=by
 refine cQ Tryz.func25 ?_;refine lh (Nc J J t0 t0) ?_;obtain ⟨y8,k,h⟩:=aa h;refine kw (oR (bL k)) ?_;obtain ⟨b9,hb9,h⟩:=aa h;refine aQ 8 17 b9 ?_ ?_
 ·clear h;refine aM 9 J (fun g9=> ?_) (fun g9=> ?_)
  ·have h:=aE g9 hb9;refine ae ?_;obtain rfl:=bw h;exact cH (bM J (ag (ag (ag (ag (ag (ag (ag (ag aW J) J) J) J) J) J) J) J)) (cS [0,1,2,3,4,5,6] 7)
  have h:=aF g9 hb9;refine ae ?_;obtain rfl:=bw h;exact cH (bM J (ag (ag (ag (ag (ag (ag (ag (ag aW J) J) J) J) J) J) J) J)) (cS [0,1,2,3,4,5,6] 7)
 refine ew h ?_ ?_<;>intro h
 ·refine ae ?_;obtain ⟨q11,h⟩:=ad h
  refine iE (Li (k:=(max a1 0).toNat) 3 J J z9 size37.out J (by rw [Int.toNat_of_nonneg q11.1];rfl) (by rw [Int.toNat_of_nonneg q11.1];rfl) q11.2) fun A12 n12 c12=> ?_
  exact eN
 exact eY
def iM (N:Nat)(a0:Qe):Option Int:=
 (aI N a0).bind fun y8=>bif y8 then (some 0) else (aZ (in64 ((a0.m_.Young.length:Int)+(a0.m_.Old.length:Int))) (some ((a0.m_.Young.length:Int)+(a0.m_.Old.length:Int))))
theorem pk {N:Nat}{a0:Qe}{r:Int}(h:iM N a0=some r):Okc QB 14 [pV B1 0] ([bu B1 56 [W A2 n2 c2,W A3 n3 c3,W A4 n4 c4,W A5 n5 c5,pV B6 0],aK A2 n2 c2 a0.m_.Young,aK A3 n3 c3 a0.m_.Old,az A4 n4 c4 a0.roots_,az A5 n5 c5 a0.pending_,bu B6 87 [.map (some M7)],nB cx dW M7 a0.set_.at_]) (fun u post=>u=iV r/\post=[]):=by
 refine cQ Tryz.func14 ?_;refine sZ ?_;obtain ⟨y8,k,h⟩:=aa h;refine kw (oR (bL k)) ?_;refine gH J h ?_ ?_<;>intro h
 ·exact eY
 refine ae ?_;refine ay ?_;refine bm I _ (ab _) ?_;refine ae ?_;obtain ⟨q10,h⟩:=ad h;exact eY
theorem yL {r:Int}: ∀v post,((fun (u:Value) (post:List Chunk)=>u=iV r/\post=[])) v post-> ∀c∈post,fu c:=by
 rintro _ _ ⟨rfl,rfl⟩;exact ax
def cW (N:Nat)(a0:Qe):Option (Int×Qe):=
 (gF N a0).bind fun y9=>some (y9.1,y9.2)
theorem rY {N:Nat}{a0:Qe}{r:Int×Qe}(h:cW N a0=some r):Okc QB 26 [pV B1 0] ([ah B1 56 [W A2 n2 c2,W A3 n3 c3,W A4 n4 c4,W A5 n5 c5,pV B6 0],bY A2 n2 c2 a0.m_.Young,bY A3 n3 c3 a0.m_.Old,bh A4 n4 c4 a0.roots_,bh A5 n5 c5 a0.pending_,ah B6 87 [.map (some M7)],bj cx dW M7 a0.set_.at_]) (fun u post=> ∃A0 n0 c0 A1 n1 c1 A2 n2 c2 A3 n3 c3 M4,u=iV r.1/\post=[ah B1 56 [W A0 n0 c0,W A1 n1 c1,W A2 n2 c2,W A3 n3 c3,pV B6 0],bY A0 n0 c0 r.2.m_.Young,bY A1 n1 c1 r.2.m_.Old,bh A2 n2 c2 r.2.roots_,bh A3 n3 c3 r.2.pending_,ah B6 87 [.map (some M4)],bj cx dW M4 r.2.set_.at_]):=by
 refine cQ Tryz.func26 ?_;intro B8;refine ae ?_;refine gE (ei J) ?_;obtain ⟨y9,k,h⟩:=aa h;refine lp (ip 0 J) ?_;refine gD (oC (qH k)) ?_;rintro _ _ ⟨_,⟨A10,n10,c10,A11,n11,c11,A12,n12,c12,A13,n13,c13,M14,rfl,rfl⟩,rfl⟩;exact eY
def sB (N:Nat):Option Bool:=
 (vo N).bind fun y1=>(Ap N []).bind fun y9=>(fo N y1 y9).bind fun y13=>(sy N y13.1).bind fun y19=>(Ap N ([y19]:List Qn)).bind fun y21=>(fo N y13.2.2 y21).bind fun y24=>(bif !decide (y13.2.1=0) then (some true) else (some (!decide (y24.2.1=0)))).bind fun b30=>bif b30 then (some false) else ((sy N y24.1).bind fun y32=>(ik N y24.2.2 y32).bind fun y33=>bif !decide (y33.1=0) then (some false) else ((cF N y33.2).bind fun y40=>bif !decide (y40.1=0) then (some false) else ((cF N y40.2).bind fun y47=>bif !decide (y47.1=0) then (some false) else ((fm N y47.2 0).bind fun y54=>(jK N y47.2 y54.N).bind fun y55=>(bif !y55.2 then (some true) else ((fm N y47.2 0).bind fun y60=>some (!decide (y60.N=2)))).bind fun b59=>(bif b59 then (some true) else (some (!decide ((y55.1.More.length:Int)=1)))).bind fun b61=>(bif b61 then (some true) else ((aw y55.1.More 0).bind fun x63=>(sy N 4).bind fun y64=>some (!decide (x63=y64)))).bind fun b62=>(bif b62 then (some true) else ((f0 N y47.2).bind fun y66=>some (!decide (y66=0)))).bind fun b65=>bif b65 then (some false) else ((fa N y47.2 0).bind fun y68=>(iM N y68).bind fun y74=>bif decide (y74=2) then ((cW N y68).bind fun y76=>(bif decide (y76.1=0) then ((iM N y76.2).bind fun y83=>some (decide (y83=0))) else (some false)).bind fun b82=>some b82) else (some false))))))
theorem yX {N:Nat}{r:Bool}(h:sB N=some r):Okc QB 6 [] ([]) (fun u post=>u=.bool r/\post=[]):=by
 refine cQ Tryz.func6 ?_;obtain ⟨y1,k,h⟩:=aa h;refine gD (oC (Bn k)) ?_;rintro _ _ ⟨_,⟨B2,A3,n3,c3,A4,n4,c4,A5,n5,c5,A6,n6,c6,B7,M8,rfl,rfl⟩,rfl⟩;refine sY ?_;refine lh (pq J P0) ?_;refine jT J ?_;refine ae ?_;obtain ⟨y9,k,h⟩:=aa h;refine lp (cq ak _) ?_;refine gD (oC (Cd k)) ?_;rintro _ _ ⟨_,⟨A10,n10,c10,A11,n11,c11,rfl,rfl⟩,rfl⟩;obtain ⟨y13,k,h⟩:=aa h;refine gD (oC (oP k)) ?_;rintro _ _ ⟨_,⟨A14,n14,c14,A15,n15,c15,A16,n16,c16,A17,n17,c17,M18,rfl,rfl⟩,rfl⟩;refine ae ?_;obtain ⟨y19,k,h⟩:=aa h;refine gV (oR (uH k)) ?_;refine gD (aG (R:=ak) (vss:=[(be y19)]) (xs:=[y19]) J (oX _ _ _) J J (fun _ _ hr=> .cons J All2.nil)) ?_;rintro _ _ ⟨A20,n20,c20,rfl,rfl⟩;obtain ⟨y21,k,h⟩:=aa h;refine lp (aY 0 J) ?_;refine gD (oC (Cd k)) ?_;rintro _ _ ⟨_,⟨A22,n22,c22,A23,n23,c23,rfl,rfl⟩,rfl⟩;obtain ⟨y24,k,h⟩:=aa h;refine gD (oC (oP k)) ?_;rintro _ _ ⟨_,⟨A25,n25,c25,A26,n26,c26,A27,n27,c27,A28,n28,c28,M29,rfl,rfl⟩,rfl⟩;refine sY ?_;refine gS 3 31 28 h ?_;intro b30 h;refine ae ?_;refine aM 32 J (fun g31=> ?_) (fun g31=> ?_)
 ·replace h:=aE g31 h;refine ae ?_;refine eO J ?_;exact eY
 replace h:=aF g31 h;refine ae ?_;obtain ⟨y32,k,h⟩:=aa h;refine gU (oR (uH k)) (dh g31 J) ?_;obtain ⟨y33,k,h⟩:=aa h;refine BA (oC (sX k)) J (dh g31 J) J ?_;rintro _ _ ⟨_,⟨A34,n34,c34,A35,n35,c35,A36,n36,c36,A37,n37,c37,M38,rfl,rfl⟩,rfl⟩;refine ae ?_;refine aM 39 J (fun g39=> ?_) (fun g39=> ?_)
 ·replace h:=aE g39 h;refine ae ?_;refine eO J ?_;exact eY
 replace h:=aF g39 h;refine ae ?_;obtain ⟨y40,k,h⟩:=aa h;refine BA (oC (nM k)) J (dh g39 J) J ?_;rintro _ _ ⟨_,⟨A41,n41,c41,A42,n42,c42,A43,n43,c43,A44,n44,c44,M45,rfl,rfl⟩,rfl⟩;refine ae ?_;refine aM 44 J (fun g46=> ?_) (fun g46=> ?_)
 ·replace h:=aE g46 h;refine ae ?_;refine eO J ?_;exact eY
 replace h:=aF g46 h;refine ae ?_;obtain ⟨y47,k,h⟩:=aa h;refine BA (oC (nM k)) J (dh g46 J) J ?_;rintro _ _ ⟨_,⟨A48,n48,c48,A49,n49,c49,A50,n50,c50,A51,n51,c51,M52,rfl,rfl⟩,rfl⟩;refine ew h ?_ ?_<;>intro h
 ·exact eY
 refine ae ?_;obtain ⟨y54,k,h⟩:=aa h;refine gV (oR (oO k)) ?_;refine gE (uy J (Gq _ _ _)) ?_;obtain ⟨y55,k,h⟩:=aa h
 refine BM (oR (vM k)) fun A56 n56 c56 A57 n57 c57=> ?_
 intro B58;refine ae ?_;refine ay ?_;refine ay ?_;refine bm I _ (ab _) ?_;refine zE 0 J (ai J) ?_;refine zE 1 J (pp J) ?_;refine zE 2 J (ai J) ?_;obtain ⟨b59,hb59,h⟩:=aa h;refine eM (fun l=>(((((l.setIfInBounds 3 true).setIfInBounds 4 true).setIfInBounds 5 true).setIfInBounds 6 true).setIfInBounds 7 true)) 19 64 b59 (fun rest=> ?_) ?_
 ·clear h;refine gI 59 J (fun g59=> ?_) (fun g59=> ?_)
  ·have h:=aE g59 hb59;refine bo 3 J I (jb g59 J) J ?_;refine bo 4 J I (jb g59 J) J ?_;refine bo 5 J I (jb g59 J) J ?_;refine bo 6 J I (jb g59 J) J ?_;refine zE 7 J (cI g59 J J) ?_;obtain rfl:=bw h;exact di rest (bM J (ag (ag (ag (ag (ag aW J) J) J) J) J)) (ab _) (ab _)
  have h:=aF g59 hb59;refine cP 3 J I (ai J) (dh g59 J) J ?_;obtain ⟨y60,k,h⟩:=aa h;refine mg 4 J I (oR (oO k)) J (dh g59 J) J ?_;rintro _ _ ⟨_,⟨rfl,rfl⟩,rfl⟩;refine ⟨_,ab _,ab _,?_⟩;refine cP 5 J I (uy J (Gq _ _ _)) (dh g59 J) J ?_;refine cP 6 J I (Ic J J) (dh g59 J) J ?_;refine zE 7 J (cJ g59 J J) ?_;obtain rfl:=bw h;exact di rest (bM J (ag (ag (ag (ag (ag aW J) J) J) J) J)) (ab _) (ab _)
 refine zE 8 J (ai J) ?_;obtain ⟨b61,hb61,h⟩:=aa h;refine eM (fun l=>(((((l.setIfInBounds 9 true).setIfInBounds 10 true).setIfInBounds 11 true).setIfInBounds 12 true).setIfInBounds 13 true)) 13 70 b61 (fun rest=> ?_) ?_
 ·clear h;refine gI 65 J (fun g61=> ?_) (fun g61=> ?_)
  ·have h:=aE g61 hb61;refine bo 9 J I (jb g61 J) J ?_;refine bo 10 J I (jb g61 J) J ?_;refine bo 11 J I (jb g61 J) J ?_;refine bo 12 J I (jb g61 J) J ?_;refine zE 13 J (cI g61 J J) ?_;obtain rfl:=bw h;exact di rest (bM J (ag (ag (ag (ag (ag aW J) J) J) J) J)) (ab _) (ab _)
  have h:=aF g61 hb61;refine cP 9 J I (bB J dT) (dh g61 J) J ?_;refine fb 10 J I (aL 0 J J dr J) (dh g61 J) J ?_;refine fb 11 J I (cC 2 J ap J z9) (dh g61 J) J ?_;refine cP 12 J I (Ic J J) (dh g61 J) J ?_;refine zE 13 J (cJ g61 J J) ?_;obtain rfl:=bw h;exact di rest (bM J (ag (ag (ag (ag (ag aW J) J) J) J) J)) (ab _) (ab _)
 refine zE 14 J (ai J) ?_;obtain ⟨b62,hb62,h⟩:=aa h;refine eM (fun l=>(((((((l.setIfInBounds 15 true).setIfInBounds 16 true).setIfInBounds 17 true).setIfInBounds 18 true).setIfInBounds 19 true).setIfInBounds 20 true).setIfInBounds 21 true)) 5 78 b62 (fun rest=> ?_) ?_
 ·clear h;refine gI 71 J (fun g62=> ?_) (fun g62=> ?_)
  ·have h:=aE g62 hb62;refine bo 15 J I (jb g62 J) J ?_;refine bo 16 J I (jb g62 J) J ?_;refine bo 17 J I (jb g62 J) J ?_;refine bo 18 J I (jb g62 J) J ?_;refine bo 19 J I (jb g62 J) J ?_;refine bo 20 J I (jb g62 J) J ?_;refine zE 21 J (cI g62 J J) ?_;obtain rfl:=bw h;exact di rest (bM J (ag (ag (ag (ag (ag (ag (ag aW J) J) J) J) J) J) J)) (ab _) (ab _)
  have h:=aF g62 hb62;refine cP 15 J I (bB J dT) (dh g62 J) J ?_;refine fb 16 J I (aL 0 J J dr J) (dh g62 J) J ?_;obtain ⟨x63,lx63,ux63,hx63,h⟩:=aU h;refine fb 17 J I (bf 2 J ap J J z9 size37.out lx63 ux63) (dh g62 J) J ?_;refine fb 18 J I (dm (us:=be x63) 2 J ap J hx63 agg37.out (fun _ _ _ h=>by rw [show _=_ from h];rfl)) (dh g62 J) J ?_;obtain ⟨y64,k,h⟩:=aa h;refine mg 19 J I (oR (uH k)) J (dh g62 J) J ?_;rintro _ _ ⟨_,⟨rfl,rfl⟩,rfl⟩;refine ⟨_,ab _,ab _,?_⟩;refine cP 20 J I (Ek (x:=x63) (y:=y64) J J) (dh g62 J) J ?_;refine zE 21 J (cJ g62 J J) ?_;obtain rfl:=bw h;exact di rest (bM J (ag (ag (ag (ag (ag (ag (ag aW J) J) J) J) J) J) J)) (ab _) (ab _)
 refine zE 22 J (ai J) ?_;obtain ⟨b65,hb65,h⟩:=aa h;refine eM (fun l=>((((l.setIfInBounds 23 true).setIfInBounds 24 true).setIfInBounds 25 true).setIfInBounds 26 true)) 0 83 b65 (fun rest=> ?_) ?_
 ·clear h;refine gI 79 J (fun g65=> ?_) (fun g65=> ?_)
  ·have h:=aE g65 hb65;refine bo 23 J I (jb g65 J) J ?_;refine bo 24 J I (jb g65 J) J ?_;refine bo 25 J I (jb g65 J) J ?_;refine zE 26 J (cI g65 J J) ?_;obtain rfl:=bw h;exact di rest (bM J (ag (ag (ag (ag aW J) J) J) J)) (ab _) (ab _)
  have h:=aF g65 hb65;refine cP 23 J I (ai J) (dh g65 J) J ?_;obtain ⟨y66,k,h⟩:=aa h;refine mg 24 J I (oR (rZ k)) J (dh g65 J) J ?_;rintro _ _ ⟨_,⟨rfl,rfl⟩,rfl⟩;refine ⟨_,ab _,ab _,?_⟩;refine cP 25 J I (Ic J J) (dh g65 J) J ?_;refine zE 26 J (cJ g65 J J) ?_;obtain rfl:=bw h;exact di rest (bM J (ag (ag (ag (ag aW J) J) J) J)) (ab _) (ab _)
 refine bv I ?_;refine ew h ?_ ?_<;>intro h
 ·exact eY
 refine ae ?_;obtain ⟨y68,k,h⟩:=aa h;refine gD (oC (uv k)) ?_;rintro _ _ ⟨_,⟨A69,n69,c69,A70,n70,c70,A71,n71,c71,A72,n72,c72,M73,rfl,rfl⟩,rfl⟩;refine ae ?_;obtain ⟨y74,k,h⟩:=aa h;refine kw (oR (pk k)) ?_;refine aM 89 J (fun g75=> ?_) (fun g75=> ?_)
 ·replace h:=aE g75 h;refine ae ?_;obtain ⟨y76,k,h⟩:=aa h;refine BA (oC (rY k)) J (bx g75 J) J ?_;rintro _ _ ⟨_,⟨A77,n77,c77,A78,n78,c78,A79,n79,c79,A80,n80,c80,M81,rfl,rfl⟩,rfl⟩;refine ae ?_;obtain ⟨b82,hb82,h⟩:=aa h;refine aQ 4 98 b82 ?_ ?_
  ·clear h;refine aM 94 J (fun g82=> ?_) (fun g82=> ?_)
   ·have h:=aE g82 hb82;refine ae ?_;obtain ⟨y83,k,h⟩:=aa h;refine gU (oR (pk k)) (bx g82 J) ?_;exact gY
   have h:=aF g82 hb82;exact gY
  exact eY
 replace h:=aF g75 h;exact eY
theorem vW {r:Bool}: ∀v post,((fun (u:Value) (post:List Chunk)=>u=.bool r/\post=[])) v post-> ∀c∈post,fu c:=by
 rintro _ _ ⟨rfl,rfl⟩;exact ax
def ig (N:Nat)(a0:Qn):Option Bool:=
 (bif decide (a0.Kind<0) then (some true) else (some (decide (9<a0.Kind)))).bind fun b2=>bif b2 then (some false) else (bif decide (a0.Kind=5) then ((bif decide (a0.N=0) then (some (decide ((a0.S.size:Int)<=65536))) else (some false)).bind fun b5=>some b5) else (bif !(a0.S.toList==(⟨#[]⟩:ByteArray).toList) then (some false) else (bif decide (a0.Kind=2) then ((bif decide (a0.N=0) then (some true) else (some (decide (a0.N=1)))).bind fun b8=>some b8) else (bif decide (a0.Kind=3) then ((bif decide ((-9007199254740992)<=a0.N) then (some (decide (a0.N<=9007199254740992))) else (some false)).bind fun b10=>some b10) else ((bif decide (a0.Kind=6) then (some true) else (some (decide (a0.Kind=7)))).bind fun b11=>(bif b11 then (some true) else (some (decide (a0.Kind=9)))).bind fun b12=>bif b12 then (some (decide (1<=a0.N))) else (some (decide (a0.N=0))))))))
theorem CJ {N:Nat}{a0:Qn}{r:Bool}(h:ig N a0=some r):Okc QB 103 [(bD a0)] ([]) (fun u post=>u=.bool r/\post=[]):=by
 refine cQ Tryz.func103 ?_;intro B1;refine sY ?_;refine gS 4 10 6 h ?_;intro b2 h;refine ew h ?_ ?_<;>intro h
 ·exact eY
 refine sY ?_;refine gH J h ?_ ?_<;>intro h
 ·refine ae ?_;obtain ⟨b5,hb5,h⟩:=aa h;refine aQ 5 22 b5 ?_ ?_
  ·clear h;refine aM 17 J (fun g5=> ?_) (fun g5=> ?_)
   ·have h:=aE g5 hb5;refine ae ?_;refine su (Id J P2) J (bx g5 J) J ?_;exact gY
   have h:=aF g5 hb5;exact gY
  exact eY
 refine sY ?_;refine lh (GB J J) ?_;refine gH J h ?_ ?_<;>intro h
 ·exact eY
 refine sY ?_;refine gH J h ?_ ?_<;>intro h
 ·refine ae ?_;refine gS 4 36 32 h ?_;intro b8 h;exact eY
 refine sY ?_;refine gH J h ?_ ?_<;>intro h
 ·refine ae ?_;refine gS 4 47 43 h ?_;intro b10 h;exact eY
 refine sY ?_;refine gS 4 55 51 h ?_;intro b11 h;refine ae ?_;refine gS 4 60 56 h ?_;intro b12 h;refine ew h ?_ ?_<;>intro h
 ·exact eY
 exact eY
def iY (N:Nat)(a0:Int):Option Bool:=
 (bif decide (a0=1) then (some true) else (some (decide (a0=2)))).bind fun b1=>(bif b1 then (some true) else (some (decide (a0=3)))).bind fun b2=>(bif b2 then (some true) else (some (decide (a0=6)))).bind fun b3=>(bif b3 then (some true) else (some (decide (a0=8)))).bind fun b4=>(bif b4 then (some true) else (some (decide (a0=9)))).bind fun b5=>(bif b5 then (some true) else (some (decide (a0=10)))).bind fun b6=>some b6
theorem Fb {N:Nat}{a0:Int}{r:Bool}(h:iY N a0=some r):Okc QB 155 [iV a0] ([]) (fun u post=>u=.bool r/\post=[]):=by
 refine cQ Tryz.func155 ?_;refine gS 3 8 5 h ?_;intro b1 h;refine ae ?_;refine gS 3 12 9 h ?_;intro b2 h;refine ae ?_;refine gS 3 16 13 h ?_;intro b3 h;refine ae ?_;refine gS 3 20 17 h ?_;intro b4 h;refine ae ?_;refine gS 3 24 21 h ?_;intro b5 h;refine ae ?_;refine gS 3 28 25 h ?_;intro b6 h;exact eY
def dA (N:Nat)(a0:Qn)(a1:Int):Option Bool:=
 (bif decide (a0.Kind=0) then (some true) else (some (decide (a0.Kind=a1)))).bind fun b2=>some b2
theorem nR {N:Nat}{a0:Qn}{a1:Int}{r:Bool}(h:dA N a0 a1=some r):Okc QB 156 [(bD a0),iV a1] ([]) (fun u post=>u=.bool r/\post=[]):=by
 refine cQ Tryz.func156 ?_;intro B1;refine ae ?_;refine gS 5 13 8 h ?_;intro b2 h;exact eY
def gQ (N:Nat)(a0:Ql):Option Bool:=
 (iY N a0.Kind).bind fun y4=>(bif y4 then (some true) else ((bif decide (a0.Kind=7) then (some (decide (0<(a0.Slots.length:Int)))) else (some false)).bind fun b6=>some b6)).bind fun b5=>bif b5 then ((bif decide (1<=(a0.Slots.length:Int)) then (some (decide ((a0.Slots.length:Int)<=1025))) else (some false)).bind fun b8=>(bif b8 then ((aw a0.Slots 0).bind fun x10=>(bif decide (x10.Kind=1) then (some true) else ((aw a0.Slots 0).bind fun x12=>some (decide (x12.Kind=7)))).bind fun b11=>some b11) else (some false)).bind fun b9=>some b9) else (bif decide (a0.Kind=7) then (some (decide (a0.Shape=0))) else ((bif !decide (a0.Shape=0) then (some true) else (some (!decide (a0.Flags=0)))).bind fun b14=>bif b14 then (some false) else (bif decide (a0.Kind=5) then ((bif decide ((a0.Slots.length:Int)=2) then ((aw a0.Slots 0).bind fun x18=>(dA N x18 7).bind fun y19=>some y19) else (some false)).bind fun b17=>(bif b17 then ((aw a0.Slots 1).bind fun x21=>(dA N x21 7).bind fun y22=>some y22) else (some false)).bind fun b20=>some b20) else (some (decide ((a0.Slots.length:Int)=0))))))
theorem Fa {N:Nat}{a0:Ql}{r:Bool}(h:gQ N a0=some r):Okc QB 104 [.agg #[iV a0.Kind,iV a0.Shape,iV a0.Flags,iV a0.Age,W A1 n1 c1,W A2 n2 c2]] ([az A1 n1 c1 a0.Slots,az A2 n2 c2 a0.More]) (fun u post=>u=.bool r/\post=[]):=by
 refine cQ Tryz.func104 ?_;intro B3;refine sY ?_;obtain ⟨y4,k,h⟩:=aa h;refine kw (oR (Fb k)) ?_;obtain ⟨b5,hb5,h⟩:=aa h;refine aQ 10 16 b5 ?_ ?_
 ·clear h;refine aM 6 J (fun g5=> ?_) (fun g5=> ?_)
  ·have h:=aE g5 hb5;exact gY
  have h:=aF g5 hb5;refine ae ?_;refine gS 5 15 10 h ?_;intro b6 h;exact gY
 refine ew h ?_ ?_<;>intro h
 ·refine ae ?_;refine gS 5 26 21 h ?_;intro b8 h;refine ae ?_;obtain ⟨b9,hb9,h⟩:=aa h;refine aQ 15 42 b9 ?_ ?_
  ·clear h;refine aM 27 J (fun g9=> ?_) (fun g9=> ?_)
   ·have h:=aE g9 hb9;refine ae ?_;obtain ⟨x10,lx10,ux10,hx10,h⟩:=aU h;refine ae ?_;refine mH (mO 1 J ao J (bc lx10 ux10) fE) J (bx g9 J) J ?_;refine ae ?_;obtain ⟨b11,hb11,h⟩:=aa h;refine aQ 7 41 b11 ?_ ?_
    ·clear h;refine aM 34 J (fun g11=> ?_) (fun g11=> ?_)
     ·have h:=aE g11 hb11;exact gY
     have h:=aF g11 hb11;refine ae ?_;obtain ⟨x12,lx12,ux12,hx12,h⟩:=aU h;refine ae ?_;refine mH (mO 1 J ao J (bc lx12 ux12) fE) J (dh g11 J) J ?_;exact gY
    exact gY
   have h:=aF g9 hb9;exact gY
  exact eY
 refine sY ?_;refine gH J h ?_ ?_<;>intro h
 ·exact eY
 refine sY ?_;refine gS 4 56 52 h ?_;intro b14 h;refine ew h ?_ ?_<;>intro h
 ·exact eY
 refine sY ?_;refine gH J h ?_ ?_<;>intro h
 ·refine ae ?_;obtain ⟨b17,hb17,h⟩:=aa h;refine aQ 6 70 b17 ?_ ?_
  ·clear h;refine aM 64 J (fun g17=> ?_) (fun g17=> ?_)
   ·have h:=aE g17 hb17;refine ae ?_;obtain ⟨x18,lx18,ux18,hx18,h⟩:=aU h;refine ae ?_;obtain ⟨y19,k,h⟩:=aa h;refine gU (oR (nR k)) (bx g17 J) ?_;exact gY
   have h:=aF g17 hb17;exact gY
  refine ae ?_;obtain ⟨b20,hb20,h⟩:=aa h;refine aQ 6 77 b20 ?_ ?_
  ·clear h;refine aM 71 J (fun g20=> ?_) (fun g20=> ?_)
   ·have h:=aE g20 hb20;refine ae ?_;obtain ⟨x21,lx21,ux21,hx21,h⟩:=aU h;refine ae ?_;obtain ⟨y22,k,h⟩:=aa h;refine gU (oR (nR k)) (bx g20 J) ?_;exact gY
   have h:=aF g20 hb20;exact gY
  exact eY
 exact eY
def fg (N:Nat)(a0:Qn)(a1:Int)(a2:Int):Option Bool:=
 (bif decide (a0.Kind=3) then (some (decide (a1<=a0.N))) else (some false)).bind fun b2=>(bif b2 then (some (decide (a0.N<=a2))) else (some false)).bind fun b3=>some b3
theorem ph {N:Nat}{a0:Qn}{a1:Int}{a2:Int}{r:Bool}(h:fg N a0 a1 a2=some r):Okc QB 157 [(bD a0),iV a1,iV a2] ([]) (fun u post=>u=.bool r/\post=[]):=by
 refine cQ Tryz.func157 ?_;intro B1;refine ae ?_;refine gS 5 15 10 h ?_;intro b2 h;refine ae ?_;refine gS 5 21 16 h ?_;intro b3 h;exact eY
end Go.Proofs.YthepenpebkjdfaaGreat
namespace Go.Proofs.YthepenpebkjdfaaGreat
variable {A1 A2 A3 A4 A5 A6 A8 A9:Option Addr} {B1 B2 B6 B7 B8 M7 M8 c1 c2 c3 c4 c5 c6 c8 c9 n1 n2 n3 n4 n5 n6 n8 n9:Nat}
open Go.RowKit Asn
set_option maxRecDepth 20000
def wA (N:Nat):Option Bool:=
 some true
def eC (N:Nat)(a1:Int)(a0:Qr):Nat->Int->Option Bool
 |0,_=>none
 |m5+1,p6=>bif decide (p6<(a0.length:Int)) then ((aw a0 p6).bind fun x8=>(bif !decide (x8.Kind=7) then (some true) else (aZ (in64 (p6+1)) ((aw a0 (p6+1)).bind fun x11=>some (decide (x11.Kind=8))))).bind fun b9=>bif b9 then (some false) else ((bif decide (a1=4) then (aZ (in64 (p6+2)) ((aw a0 (p6+2)).bind fun x15=>(dA N x15 7).bind fun y16=>(bif !y16 then (some true) else (aZ (in64 (p6+3)) ((aw a0 (p6+3)).bind fun x19=>(fg N x19 0 9007199254740992).bind fun y20=>some (!y20)))).bind fun b17=>some b17)) else (some false)).bind fun b13=>bif b13 then (some false) else (aZ (in64 (p6+a1)) ((eC N a1 a0 m5) (p6+a1))))) else (wA N)
def cU (N:Nat)(a0:Qr)(a1:Int):Option Bool:=
 aZ (a1≠0) (bif !decide ((a0.length:Int).tmod a1=0) then (some false) else (eC N a1 a0 N 0))
theorem wz {N:Nat}{a0:Qr}{a1:Int}{r:Bool}(h:cU N a0 a1=some r):Okc QB 158 [W A1 n1 c1,iV a1] ([az A1 n1 c1 a0]) (fun u post=>u=.bool r/\post=[]):=by
 refine cQ Tryz.func158 ?_;refine sZ ?_;obtain ⟨q2,h⟩:=ad h;refine lh (ky J J q2) ?_;refine gH J h ?_ ?_<;>intro h
 ·exact eY
 refine ae ?_;refine am (fun s L=>wA N=some r/\s=[(4,.bool false)]/\L=[]) ?_ ?_
 ·refine ae ?_;refine aH (fun m s L=> ∃p6,eC N a1 a0 m p6=some r/\s=[(0,W A1 n1 c1),(1,iV a1),(4,.bool false),(5,iV p6)]/\L=[az A1 n1 c1 a0]) N _ _ ⟨0,h,J,J⟩ sA (cS [0] 1) ?_;rintro (_|m5) _ _ ⟨p6,h,rfl,rfl⟩
  ·exact aj h
  rw [eC.eq_2] at h;refine sZ ?_;refine gH J h ?_ ?_<;>intro h
  ·refine sY ?_;refine sZ ?_;obtain ⟨x8,lx8,ux8,hx8,h⟩:=aU h;refine ae ?_;refine zX (mO 0 J ao J (bc lx8 ux8) fE) ?_;obtain ⟨b9,hb9,h⟩:=aa h;refine aQ 8 32 b9 ?_ ?_
   ·clear h;refine aM 24 J (fun g9=> ?_) (fun g9=> ?_)
    ·have h:=aE g9 hb9;exact gY
    have h:=aF g9 hb9;refine ae ?_;obtain ⟨q10,h⟩:=ad h;refine ae ?_;obtain ⟨x11,lx11,ux11,hx11,h⟩:=aU h;refine ae ?_;refine mH (mO 0 J ao J (bc lx11 ux11) fE) J (dh g9 J) J ?_;exact gY
   refine ew h ?_ ?_<;>intro h
   ·exact eY
   refine ae ?_;obtain ⟨b13,hb13,h⟩:=aa h;refine aQ 17 52 b13 ?_ ?_
   ·clear h;refine aM 35 J (fun g13=> ?_) (fun g13=> ?_)
    ·have h:=aE g13 hb13;refine ae ?_;obtain ⟨q14,h⟩:=ad h;refine ae ?_;obtain ⟨x15,lx15,ux15,hx15,h⟩:=aU h;refine ae ?_;obtain ⟨y16,k,h⟩:=aa h;refine gU (oR (nR k)) (bx g13 J) ?_;refine ae ?_;obtain ⟨b17,hb17,h⟩:=aa h;refine aQ 8 51 b17 ?_ ?_
     ·clear h;refine aM 43 J (fun g17=> ?_) (fun g17=> ?_)
      ·have h:=aE g17 hb17;exact gY
      have h:=aF g17 hb17;refine ae ?_;obtain ⟨q18,h⟩:=ad h;refine ae ?_;obtain ⟨x19,lx19,ux19,hx19,h⟩:=aU h;refine ae ?_;obtain ⟨y20,k,h⟩:=aa h;refine gU (oR (ph k)) (dh g17 J) ?_;exact gY
     exact gY
    have h:=aF g13 hb13;exact gY
   refine ew h ?_ ?_<;>intro h
   ·exact eY
   refine ae ?_;obtain ⟨q22,h⟩:=ad h;exact lY
  exact jY
 rintro _ _ ⟨h,rfl,rfl⟩;exact eY
def iX (N:Nat)(a0:Ql)(p7:Bool):Option Bool:=
 bif p7 then (some (decide ((a0.More.length:Int)=0))) else (bif decide (a0.Kind=3) then ((bif decide ((a0.More.length:Int)=3) then ((aw a0.More 0).bind fun x12=>(fg N x12 0 9007199254740992).bind fun y13=>some y13) else (some false)).bind fun b11=>(bif b11 then ((aw a0.More 1).bind fun x15=>(dA N x15 9).bind fun y16=>some y16) else (some false)).bind fun b14=>some b14) else (bif decide (a0.Kind=4) then ((bif decide (1<=(a0.More.length:Int)) then (some (decide ((a0.More.length:Int)<=4097))) else (some false)).bind fun b18=>(bif b18 then ((aw a0.More 0).bind fun x20=>(dA N x20 9).bind fun y21=>some y21) else (some false)).bind fun b19=>some b19) else (bif decide (a0.Kind=6) then ((bif decide ((a0.More.length:Int)=2) then ((aw a0.More 0).bind fun x24=>(fg N x24 0 3).bind fun y25=>some y25) else (some false)).bind fun b23=>(bif b23 then ((aw a0.More 1).bind fun x27=>(dA N x27 9).bind fun y28=>some y28) else (some false)).bind fun b26=>some b26) else (bif decide (a0.Kind=7) then ((bif decide (4<=(a0.More.length:Int)) then ((aw a0.More 2).bind fun x31=>(fg N x31 0 1).bind fun y32=>some y32) else (some false)).bind fun b30=>(bif b30 then ((aw a0.More 3).bind fun x34=>(fg N x34 0 9007199254740992).bind fun y35=>some y35) else (some false)).bind fun b33=>some b33) else (bif decide (a0.Kind=8) then ((cU N a0.More 2).bind fun y37=>some y37) else (bif decide (a0.Kind=10) then ((bif decide (1<=(a0.More.length:Int)) then ((aw a0.More 0).bind fun x40=>some (decide (x40.Kind=7))) else (some false)).bind fun b39=>(bif b39 then (aZ ((0:Int)<=1/\(1:Int).toNat<=a0.More.length/\a0.More.length<=a0.More.length) ((cU N ((a0.More.drop ((1:Int).toNat)).take (a0.More.length - (1:Int).toNat)) 4).bind fun y44=>some y44)) else (some false)).bind fun b41=>some b41) else (bif decide (a0.Kind=9) then ((bif decide (2<=(a0.More.length:Int)) then ((aw a0.More 0).bind fun x47=>(fg N x47 0 2).bind fun y48=>some y48) else (some false)).bind fun b46=>some b46) else (some true))))))))
def jl (N:Nat)(a0:Ql):Option Bool:=
 bif decide (1048576<(a0.More.length:Int)) then (some false) else (bif decide (a0.Kind=2) then (some (decide ((a0.More.length:Int)<=4096))) else (bif decide (a0.Kind=1) then (iX N a0 (decide (a0.Kind=1))) else (iX N a0 (decide (a0.Kind=5)))))
theorem F3 {N:Nat}{a0:Ql}{r:Bool}(h:jl N a0=some r):Okc QB 105 [.agg #[iV a0.Kind,iV a0.Shape,iV a0.Flags,iV a0.Age,W A1 n1 c1,W A2 n2 c2]] ([az A1 n1 c1 a0.Slots,az A2 n2 c2 a0.More]) (fun u post=>u=.bool r/\post=[]):=by
 refine cQ Tryz.func105 ?_;intro B3;refine sY ?_;refine gH J h ?_ ?_<;>intro h
 ·exact eY
 refine sY ?_;refine gH J h ?_ ?_<;>intro h
 ·exact eY
 refine am (fun s L=> ∃p7,iX N a0 p7=some r/\s=[(2,.bool false),(3,W A2 n2 c2),(10,iV a0.Kind),(16,.bool p7)]/\L=[az A2 n2 c2 a0.More]) ?_ ?_
 ·refine ew h ?_ ?_<;>intro h
  ·exact jY
  exact jY
 rintro _ _ ⟨p7,h,rfl,rfl⟩;refine gH J h ?_ ?_<;>intro h
 ·exact eY
 refine ew h ?_ ?_<;>intro h
 ·refine ae ?_;obtain ⟨b11,hb11,h⟩:=aa h;refine aQ 5 32 b11 ?_ ?_
  ·clear h;refine aM 27 J (fun g11=> ?_) (fun g11=> ?_)
   ·have h:=aE g11 hb11;refine ae ?_;obtain ⟨x12,lx12,ux12,hx12,h⟩:=aU h;refine ae ?_;obtain ⟨y13,k,h⟩:=aa h;refine gU (oR (ph k)) (bx g11 J) ?_;exact gY
   have h:=aF g11 hb11;exact gY
  refine ae ?_;obtain ⟨b14,hb14,h⟩:=aa h;refine aQ 5 38 b14 ?_ ?_
  ·clear h;refine aM 33 J (fun g14=> ?_) (fun g14=> ?_)
   ·have h:=aE g14 hb14;refine ae ?_;obtain ⟨x15,lx15,ux15,hx15,h⟩:=aU h;refine ae ?_;obtain ⟨y16,k,h⟩:=aa h;refine gU (oR (nR k)) (bx g14 J) ?_;exact gY
   have h:=aF g14 hb14;exact gY
  exact eY
 refine ew h ?_ ?_<;>intro h
 ·refine ae ?_;refine gS 4 48 44 h ?_;intro b18 h;refine ae ?_;obtain ⟨b19,hb19,h⟩:=aa h;refine aQ 5 54 b19 ?_ ?_
  ·clear h;refine aM 49 J (fun g19=> ?_) (fun g19=> ?_)
   ·have h:=aE g19 hb19;refine ae ?_;obtain ⟨x20,lx20,ux20,hx20,h⟩:=aU h;refine ae ?_;obtain ⟨y21,k,h⟩:=aa h;refine gU (oR (nR k)) (bx g19 J) ?_;exact gY
   have h:=aF g19 hb19;exact gY
  exact eY
 refine ew h ?_ ?_<;>intro h
 ·refine ae ?_;obtain ⟨b23,hb23,h⟩:=aa h;refine aQ 5 65 b23 ?_ ?_
  ·clear h;refine aM 60 J (fun g23=> ?_) (fun g23=> ?_)
   ·have h:=aE g23 hb23;refine ae ?_;obtain ⟨x24,lx24,ux24,hx24,h⟩:=aU h;refine ae ?_;obtain ⟨y25,k,h⟩:=aa h;refine gU (oR (ph k)) (bx g23 J) ?_;exact gY
   have h:=aF g23 hb23;exact gY
  refine ae ?_;obtain ⟨b26,hb26,h⟩:=aa h;refine aQ 5 71 b26 ?_ ?_
  ·clear h;refine aM 66 J (fun g26=> ?_) (fun g26=> ?_)
   ·have h:=aE g26 hb26;refine ae ?_;obtain ⟨x27,lx27,ux27,hx27,h⟩:=aU h;refine ae ?_;obtain ⟨y28,k,h⟩:=aa h;refine gU (oR (nR k)) (bx g26 J) ?_;exact gY
   have h:=aF g26 hb26;exact gY
  exact eY
 refine ew h ?_ ?_<;>intro h
 ·refine ae ?_;obtain ⟨b30,hb30,h⟩:=aa h;refine aQ 5 82 b30 ?_ ?_
  ·clear h;refine aM 77 J (fun g30=> ?_) (fun g30=> ?_)
   ·have h:=aE g30 hb30;refine ae ?_;obtain ⟨x31,lx31,ux31,hx31,h⟩:=aU h;refine ae ?_;obtain ⟨y32,k,h⟩:=aa h;refine gU (oR (ph k)) (bx g30 J) ?_;exact gY
   have h:=aF g30 hb30;exact gY
  refine ae ?_;obtain ⟨b33,hb33,h⟩:=aa h;refine aQ 5 88 b33 ?_ ?_
  ·clear h;refine aM 83 J (fun g33=> ?_) (fun g33=> ?_)
   ·have h:=aE g33 hb33;refine ae ?_;obtain ⟨x34,lx34,ux34,hx34,h⟩:=aU h;refine ae ?_;obtain ⟨y35,k,h⟩:=aa h;refine gU (oR (ph k)) (bx g33 J) ?_;exact gY
   have h:=aF g33 hb33;exact gY
  exact eY
 refine ew h ?_ ?_<;>intro h
 ·refine ae ?_;obtain ⟨y37,k,h⟩:=aa h;refine kw (oR (wz k)) ?_;exact eN
 refine ew h ?_ ?_<;>intro h
 ·refine ae ?_;obtain ⟨b39,hb39,h⟩:=aa h;refine aQ 6 104 b39 ?_ ?_
  ·clear h;refine aM 98 J (fun g39=> ?_) (fun g39=> ?_)
   ·have h:=aE g39 hb39;refine ae ?_;obtain ⟨x40,lx40,ux40,hx40,h⟩:=aU h;refine ae ?_;refine mH (mO 0 J ao J (bc lx40 ux40) fE) J (bx g39 J) J ?_;exact gY
   have h:=aF g39 hb39;exact gY
  refine ae ?_;obtain ⟨b41,hb41,h⟩:=aa h;refine aQ 4 109 b41 ?_ ?_
  ·clear h;refine aM 105 J (fun g41=> ?_) (fun g41=> ?_)
   ·have h:=aE g41 hb41;refine ae ?_;obtain ⟨q42,h⟩:=ad h;refine GQ 0 J (l:=(1:Int).toNat) (h:=a0.More.length) q42.2.1 q42.2.2 ?_;rintro A43 n43 c43 e43;refine mH (xy 1 J e43 J z9 size37.out J (by rw [Int.toNat_of_nonneg q42.1];rfl) q42.2.1) J (bx g41 J) J ?_;obtain ⟨y44,k,h⟩:=aa h;refine gU (oR (wz k)) (bx g41 J) ?_;exact gY
   have h:=aF g41 hb41;exact gY
  exact eY
 refine ew h ?_ ?_<;>intro h
 ·refine ae ?_;obtain ⟨b46,hb46,h⟩:=aa h;refine aQ 5 120 b46 ?_ ?_
  ·clear h;refine aM 115 J (fun g46=> ?_) (fun g46=> ?_)
   ·have h:=aE g46 hb46;refine ae ?_;obtain ⟨x47,lx47,ux47,hx47,h⟩:=aU h;refine ae ?_;obtain ⟨y48,k,h⟩:=aa h;refine gU (oR (ph k)) (bx g46 J) ?_;exact gY
   have h:=aF g46 hb46;exact gY
  exact eY
 exact eY
def cV (N:Nat)(a0:Ql):Option Bool:=
 (gQ N a0).bind fun y27=>(bif y27 then ((jl N a0).bind fun y29=>some y29) else (some false)).bind fun b28=>some b28
def kZ (N:Nat)(a0:Ql):Nat->Int->Option Bool
 |0,_=>none
 |m20+1,p21=>bif decide (p21<(a0.More.length:Int)) then ((aw a0.More p21).bind fun x23=>(ig N x23).bind fun y24=>bif !y24 then (some false) else (aZ (in64 (p21+1)) ((kZ N a0 m20) (p21+1)))) else (cV N a0)
def tH (N:Nat)(a0:Ql):Option Bool:=
 kZ N a0 N 0
def fx (N:Nat)(a0:Ql):Nat->Int->Option Bool
 |0,_=>none
 |m12+1,p13=>bif decide (p13<(a0.Slots.length:Int)) then ((aw a0.Slots p13).bind fun x15=>(ig N x15).bind fun y16=>bif !y16 then (some false) else (aZ (in64 (p13+1)) ((fx N a0 m12) (p13+1)))) else (tH N a0)
def cy (N:Nat)(a0:Ql):Option Bool:=
 (bif decide (a0.Kind<1) then (some true) else (some (decide (11<a0.Kind)))).bind fun b4=>(bif b4 then (some true) else (some (decide (a0.Shape<0)))).bind fun b5=>(bif b5 then (some true) else (some (decide (a0.Flags<0)))).bind fun b6=>(bif b6 then (some true) else (some (decide (63<a0.Flags)))).bind fun b7=>(bif b7 then (some true) else (some (decide (a0.Age<0)))).bind fun b8=>(bif b8 then (some true) else (some (decide (1<a0.Age)))).bind fun b9=>bif b9 then (some false) else (fx N a0 N 0)
theorem mw {N:Nat}{a0:Ql}{r:Bool}(h:cy N a0=some r):Okc QB 58 [.agg #[iV a0.Kind,iV a0.Shape,iV a0.Flags,iV a0.Age,W A1 n1 c1,W A2 n2 c2]] ([az A1 n1 c1 a0.Slots,az A2 n2 c2 a0.More]) (fun u post=>u=.bool r/\post=[]):=by
 refine cQ Tryz.func58 ?_;intro B3;refine sY ?_;refine gS 4 12 8 h ?_;intro b4 h;refine ae ?_;refine gS 4 17 13 h ?_;intro b5 h;refine ae ?_;refine gS 4 22 18 h ?_;intro b6 h;refine ae ?_;refine gS 4 27 23 h ?_;intro b7 h;refine ae ?_;refine gS 4 32 28 h ?_;intro b8 h;refine ae ?_;refine gS 4 37 33 h ?_;intro b9 h;refine ew h ?_ ?_<;>intro h
 ·exact eY
 refine ae ?_;refine am (fun s L=>tH N a0=some r/\s=[(1,pV B3 0),(2,.bool false)]/\L=[az A1 n1 c1 a0.Slots,az A2 n2 c2 a0.More,ah B3 35 [iV a0.Kind,iV a0.Shape,iV a0.Flags,iV a0.Age,W A1 n1 c1,W A2 n2 c2]]) ?_ ?_
 ·refine ae ?_;refine aH (fun m s L=> ∃p13,fx N a0 m p13=some r/\s=[(1,pV B3 0),(2,.bool false),(3,iV p13)]/\L=[az A1 n1 c1 a0.Slots,az A2 n2 c2 a0.More,ah B3 35 [iV a0.Kind,iV a0.Shape,iV a0.Flags,iV a0.Age,W A1 n1 c1,W A2 n2 c2]]) N _ _ ⟨0,h,J,J⟩ sA (cS [1,2,0] 3) ?_;rintro (_|m12) _ _ ⟨p13,h,rfl,rfl⟩
  ·exact aj h
  rw [fx.eq_2] at h;refine sZ ?_;refine gH J h ?_ ?_<;>intro h
  ·refine sY ?_;obtain ⟨x15,lx15,ux15,hx15,h⟩:=aU h;refine ae ?_;obtain ⟨y16,k,h⟩:=aa h;refine kw (oR (CJ k)) ?_;refine gH J h ?_ ?_<;>intro h
   ·exact eY
   refine ae ?_;obtain ⟨q18,h⟩:=ad h;exact lY
  exact jY
 rintro _ _ ⟨h,rfl,rfl⟩;refine am (fun s L=>cV N a0=some r/\s=[(1,pV B3 0),(2,.bool false)]/\L=[az A1 n1 c1 a0.Slots,az A2 n2 c2 a0.More,ah B3 35 [iV a0.Kind,iV a0.Shape,iV a0.Flags,iV a0.Age,W A1 n1 c1,W A2 n2 c2]]) ?_ ?_
 ·refine ae ?_;refine aH (fun m s L=> ∃p21,kZ N a0 m p21=some r/\s=[(1,pV B3 0),(2,.bool false),(4,iV p21)]/\L=[az A1 n1 c1 a0.Slots,az A2 n2 c2 a0.More,ah B3 35 [iV a0.Kind,iV a0.Shape,iV a0.Flags,iV a0.Age,W A1 n1 c1,W A2 n2 c2]]) N _ _ ⟨0,h,J,J⟩ sA (cS [0,1,2] 3) ?_;rintro (_|m20) _ _ ⟨p21,h,rfl,rfl⟩
  ·exact aj h
  rw [kZ.eq_2] at h;refine sZ ?_;refine gH J h ?_ ?_<;>intro h
  ·refine sY ?_;obtain ⟨x23,lx23,ux23,hx23,h⟩:=aU h;refine ae ?_;obtain ⟨y24,k,h⟩:=aa h;refine kw (oR (CJ k)) ?_;refine gH J h ?_ ?_<;>intro h
   ·exact eY
   refine ae ?_;obtain ⟨q26,h⟩:=ad h;exact lY
  exact jY
 rintro _ _ ⟨h,rfl,rfl⟩;refine ae ?_;obtain ⟨y27,k,h⟩:=aa h;refine kw (oR (Fa k)) ?_;obtain ⟨b28,hb28,h⟩:=aa h;refine aQ 3 71 b28 ?_ ?_
 ·clear h;refine aM 68 J (fun g28=> ?_) (fun g28=> ?_)
  ·have h:=aE g28 hb28;refine ae ?_;obtain ⟨y29,k,h⟩:=aa h;refine gU (oR (F3 k)) (bx g28 J) ?_;exact gY
  have h:=aF g28 hb28;exact gY
 exact eY
theorem wB {r:Bool}: ∀v post,((fun (u:Value) (post:List Chunk)=>u=.bool r/\post=[])) v post-> ∀c∈post,fu c:=by
 rintro _ _ ⟨rfl,rfl⟩;exact ax
def oo (N:Nat)(a0:Ql):Option Ql:=
 aZ (bi (([]:List Qn).length+a0.Slots.length)) (aZ (bi (([]:List Qn).length+a0.More.length)) (some (⟨a0.Kind,a0.Shape,a0.Flags,a0.Age,([]:List Qn)++a0.Slots,([]:List Qn)++a0.More⟩:Ql)))
theorem yc {N:Nat}{a0:Ql}{r:Ql}(h:oo N a0=some r):Okc QB 59 [.agg #[iV a0.Kind,iV a0.Shape,iV a0.Flags,iV a0.Age,W A1 n1 c1,W A2 n2 c2]] ([az A1 n1 c1 a0.Slots,az A2 n2 c2 a0.More]) (fun u post=> ∃A0 n0 c0 A1 n1 c1,u=.agg #[iV r.Kind,iV r.Shape,iV r.Flags,iV r.Age,W A0 n0 c0,W A1 n1 c1]/\post=[bh A0 n0 c0 r.Slots,bh A1 n1 c1 r.More]):=by
 refine cQ Tryz.func59 ?_;intro B3
 refine gg fun B4=> ?_
 refine iE (aG (R:=ak) (vss:=[]) (xs:=[]) J (kT) J J (fun _ _ hr=>All2.nil)) fun A5 n5 c5=> ?_
 obtain ⟨q6,h⟩:=ad h
 refine iE (ar 0 3 J J ao J J z9 lF J J q6) fun A7 n7 c7=> ?_
 refine iE (aG (R:=ak) (vss:=[]) (xs:=[]) J (kT) J J (fun _ _ hr=>All2.nil)) fun A8 n8 c8=> ?_
 obtain ⟨q9,h⟩:=ad h
 refine iE (ar 0 5 J J ao J J z9 lF J J q9) fun A10 n10 c10=> ?_
 exact eN
def rE (N:Nat)(a0:Qk)(a1:Ql):Option (Qk×Qd):=
 (cy N a1).bind fun y11=>bif !y11 then (some (a0,(⟨0,51,false,(⟨0,0,0,0,[],[]⟩:Ql),(⟨0,0,⟨#[]⟩⟩:Qn),[]⟩:Qd))) else ((oo N a1).bind fun y16=>aZ (bi (([]:List Ql).length+a0.M.Young.length)) (aZ (bi ((([]:List Ql)++a0.M.Young).length+([(⟨y16.Kind,y16.Shape,y16.Flags,0,y16.Slots,y16.More⟩:Ql)]:List Ql).length)) (aZ (in64 ((((([]:List Ql)++a0.M.Young)++([(⟨y16.Kind,y16.Shape,y16.Flags,0,y16.Slots,y16.More⟩:Ql)]:List Ql)).length:Int) - 1)) (aZ (in64 (2*((((([]:List Ql)++a0.M.Young)++([(⟨y16.Kind,y16.Shape,y16.Flags,0,y16.Slots,y16.More⟩:Ql)]:List Ql)).length:Int) - 1))) (aZ (in64 ((2*((((([]:List Ql)++a0.M.Young)++([(⟨y16.Kind,y16.Shape,y16.Flags,0,y16.Slots,y16.More⟩:Ql)]:List Ql)).length:Int) - 1))+1)) (some ((⟨(⟨(([]:List Ql)++a0.M.Young)++([(⟨y16.Kind,y16.Shape,y16.Flags,0,y16.Slots,y16.More⟩:Ql)]:List Ql),a0.M.Old⟩:Qg),a0.Roots,a0.Pending⟩:Qk),(⟨(2*((((([]:List Ql)++a0.M.Young)++([(⟨y16.Kind,y16.Shape,y16.Flags,0,y16.Slots,y16.More⟩:Ql)]:List Ql)).length:Int) - 1))+1,0,false,(⟨0,0,0,0,[],[]⟩:Ql),(⟨0,0,⟨#[]⟩⟩:Qn),[]⟩:Qd))))))))
theorem FX {N:Nat}{a0:Qk}{a1:Ql}{r:Qk×Qd}(h:rE N a0 a1=some r):Okc QB 27 [.agg #[W A1 n1 c1,W A2 n2 c2,W A3 n3 c3,W A4 n4 c4],.agg #[iV a1.Kind,iV a1.Shape,iV a1.Flags,iV a1.Age,W A5 n5 c5,W A6 n6 c6]] ([aK A1 n1 c1 a0.M.Young,aK A2 n2 c2 a0.M.Old,az A3 n3 c3 a0.Roots,az A4 n4 c4 a0.Pending,az A5 n5 c5 a1.Slots,az A6 n6 c6 a1.More]) (fun u post=> ∃A0 n0 c0 A1 n1 c1 A2 n2 c2 A3 n3 c3 A4 n4 c4 A5 n5 c5 A6 n6 c6,u=.tuple #[.agg #[W A0 n0 c0,W A1 n1 c1,W A2 n2 c2,W A3 n3 c3],.agg #[iV r.2.N,iV r.2.E,.bool r.2.Ok,iV r.2.C.Kind,iV r.2.C.Shape,iV r.2.C.Flags,iV r.2.C.Age,W A4 n4 c4,W A5 n5 c5,iV r.2.V.Kind,iV r.2.V.N,.string r.2.V.S,W A6 n6 c6]]/\post=[aK A0 n0 c0 r.1.M.Young,aK A1 n1 c1 r.1.M.Old,az A2 n2 c2 r.1.Roots,az A3 n3 c3 r.1.Pending,bh A4 n4 c4 r.2.C.Slots,bh A5 n5 c5 r.2.C.More,bh A6 n6 c6 r.2.L]):=by
 refine cQ Tryz.func27 ?_;intro B7
 refine gg fun B8=> ?_
 intro B9
 refine gg fun B10=> ?_
 refine sZ ?_;obtain ⟨y11,k,h⟩:=aa h;refine kw (oR (mw k)) ?_;refine gH J h ?_ ?_<;>intro h
 ·refine ae ?_;obtain rfl:=bw h;exact dt (rs:=[.cell 4 32,.cell 5 39]) (vs:=[.agg #[W A1 n1 c1,W A2 n2 c2,W A3 n3 c3,W A4 n4 c4],.agg #[iV 0,iV 51,.bool false,iV 0,iV 0,iV 0,iV 0,W none 0 0,W none 0 0,iV 0,iV 0,.string (⟨#[]⟩),W none 0 0]]) J (.cons (bd 1 J J agg32.out) (.cons (bd 0 J J agg39.out) .nil)) J ((aD ak 37 _).trans ((aD ak 37 _).trans ((aD ak 37 _).trans (cS [7,8,9,10,2,1,0] 13)))) ⟨_,_,_,_,_,_,_,_,_,_,_,_,_,_,_,_,_,_,_,_,_,J,J⟩
 refine ae ?_;obtain ⟨y16,k,h⟩:=aa h
 refine BM (oR (yc k)) fun A17 n17 c17 A18 n18 c18=> ?_
 refine ay ?_;refine dB ?_ aW (aY 0 J);refine dB ?_ aW (aY 1 J);refine ae ?_;obtain ⟨q22,h⟩:=ad h;refine dB (t:=[(2,pV B7 0),(3,pV B8 0),(4,pV B9 0),(5,pV B10 0)]) ?_ fv (ab _)
 refine dF I 7 [] [4,6] [14,15,16,17,18,19,20] [[],[],[1],[2],[0,3],[],[5]] [aX1 (fun (A20:Option Addr)=> .slice A20 0 0) (fun A20=> []),
aV (pV B7 0),
aV (pV B7 0),
aV (W A1 n1 c1),
aX3 (fun (A24:Option Addr) (n24 c24:Nat)=> W A24 n24 c24) (fun A24 n24 c24=> [bY A24 n24 c24 (([]:List Ql)++a0.M.Young)]),
aV (.agg #[iV y16.Kind,iV y16.Shape,iV y16.Flags,iV 0,W A17 n17 c17,W A18 n18 c18]),
aX3 (fun (A26:Option Addr) (n26 c26:Nat)=> W A26 n26 c26) (fun A26 n26 c26=> [bY A26 n26 c26 ([(⟨y16.Kind,y16.Shape,y16.Flags,0,y16.Slots,y16.More⟩:Ql)]:List Ql)])] [] (ab _) (fj) I rfl rfl ?_ ?_ ?_
 ·exact fi
 ·refine ac J ?_ ?_
  ·refine gj (aG (R:=bT) (vss:=[[iV y16.Kind,iV y16.Shape,iV y16.Flags,iV 0,W A17 n17 c17,W A18 n18 c18]]) (xs:=[(⟨y16.Kind,y16.Shape,y16.Flags,0,y16.Slots,y16.More⟩:Ql)]) J (mf _ _ _ _ _ _ _ _ _ _) J J (fun _ _ hr=> .cons (⟨_,_,_,_,_,_,J,hr 0 _ J J,hr 1 _ J J⟩) All2.nil)) J ?_;rintro _ _ ⟨A25,n25,c25,rfl,rfl⟩;exact pv A25 n25 c25 (ab _)
  refine ac J ?_ ?_
  ·exact cB (aR (us:=[iV y16.Kind,iV y16.Shape,iV y16.Flags,iV 0,W A17 n17 c17,W A18 n18 c18]) 4 J J agg35.out J) J (aP J (ab _))
  refine ac J ?_ ?_
  ·intro A20;refine LY (BV bT 35 A20 _) ?_;refine gj (ar 0 7 J J ao J J t9 tt J J q22) J ?_;rintro _ _ ⟨A23,n23,c23,rfl,rfl⟩;exact pv A23 n23 c23 (ab _)
  refine ac J ?_ ?_
  ·exact cB (aL 5 J J ni J) J (aP J (ab _))
  refine ac J ?_ ?_
  ·exact bN (cG J ny) J (aP J (ab _))
  refine ac J ?_ ?_
  ·exact bN (cG J oQ) J (aP J (ab _))
  refine ac J ?_ ?_
  ·refine gj (vb J (xh)) J ?_;rintro _ _ ⟨A19,rfl,rfl⟩;exact FC A19 (ab _)
  exact cp
 intro A24 n24 c24 A26 n26 c26;refine gu (t:=[(18,W A24 n24 c24),(20,W A26 n26 c26),(2,pV B7 0),(3,pV B8 0),(4,pV B9 0),(5,pV B10 0)]) (L':=[bY A24 n24 c24 (([]:List Ql)++a0.M.Young),bY A26 n26 c26 ([(⟨y16.Kind,y16.Shape,y16.Flags,0,y16.Slots,y16.More⟩:Ql)]:List Ql),az A17 n17 c17 y16.Slots,az A18 n18 c18 y16.More,ah B10 39 [iV 0,iV 0,.bool false,iV 0,iV 0,iV 0,iV 0,W none 0 0,W none 0 0,iV 0,iV 0,.string (⟨#[]⟩),W none 0 0],ah B9 32 [W none 0 0,W none 0 0,W none 0 0,W none 0 0],ah B8 35 [iV y16.Kind,iV y16.Shape,iV y16.Flags,iV 0,W A17 n17 c17,W A18 n18 c18],ah B7 32 [W A1 n1 c1,W A2 n2 c2,W A3 n3 c3,W A4 n4 c4],aK A1 n1 c1 a0.M.Young,aK A2 n2 c2 a0.M.Old,az A3 n3 c3 a0.Roots,az A4 n4 c4 a0.Pending,az A5 n5 c5 a1.Slots,az A6 n6 c6 a1.More]) ?_ fv (ab _);obtain ⟨q27,h⟩:=ad h;refine jt 7 J I (ar 0 1 J J ap J J t9 tt J J q27) J J J ?_;rintro _ _ ⟨A28,n28,c28,rfl,rfl⟩;refine rc 8 J I (cG J oQ) J J J ?_;refine rc 9 J I (cG J ny) J J J ?_;refine o7 10 J I (aq (us:=[W A28 n28 c28]) (cs':=[W A28 n28 c28,W A2 n2 c2,W A3 n3 c3,W A4 n4 c4]) 7 J J J J size27.out J J J) J J ?_;rintro _ _ rfl;refine ft I ?_;refine ae ?_;refine ay ?_
 refine bm I ([bY A28 n28 c28 ((([]:List Ql)++a0.M.Young)++([(⟨y16.Kind,y16.Shape,y16.Flags,0,y16.Slots,y16.More⟩:Ql)]:List Ql)),bY A26 n26 c26 ([(⟨y16.Kind,y16.Shape,y16.Flags,0,y16.Slots,y16.More⟩:Ql)]:List Ql),az A17 n17 c17 y16.Slots,az A18 n18 c18 y16.More,ah B10 39 [iV 0,iV 0,.bool false,iV 0,iV 0,iV 0,iV 0,W none 0 0,W none 0 0,iV 0,iV 0,.string (⟨#[]⟩),W none 0 0],ah B8 35 [iV y16.Kind,iV y16.Shape,iV y16.Flags,iV 0,W A17 n17 c17,W A18 n18 c18],ah B7 32 [W A28 n28 c28,W A2 n2 c2,W A3 n3 c3,W A4 n4 c4],aK A1 n1 c1 a0.M.Young,aK A2 n2 c2 a0.M.Old,az A3 n3 c3 a0.Roots,az A4 n4 c4 a0.Pending,az A5 n5 c5 a1.Slots,az A6 n6 c6 a1.More]) (cS [0,1,2,3,4,6,7,8,9,10,11,12,13] 14) ?_;refine ae ?_;obtain ⟨q29,h⟩:=ad h;refine ae ?_;obtain ⟨q30,h⟩:=ad h;refine zE 6 J (kA J J q30.1 q30.2) ?_;obtain ⟨q31,h⟩:=ad h;refine ae ?_;refine zO 9 J (aq (us:=[W A28 n28 c28,W A2 n2 c2,W A3 n3 c3,W A4 n4 c4]) (cs':=[W A28 n28 c28,W A2 n2 c2,W A3 n3 c3,W A4 n4 c4]) 5 J J J J size32.out J J J) ?_;rintro _ _ rfl;refine bq (cS [0,1,2,3,4,6,7,8,9,10,11,12,13] 14) ?_
 refine lE 10 J I I (aq (us:=[iV ((2*((((([]:List Ql)++a0.M.Young)++([(⟨y16.Kind,y16.Shape,y16.Flags,0,y16.Slots,y16.More⟩:Ql)]:List Ql)).length:Int) - 1))+1),iV 0,.bool false,iV 0,iV 0,iV 0,iV 0,W none 0 0,W none 0 0,iV 0,iV 0,.string (⟨#[]⟩),W none 0 0]) (cs':=[iV ((2*((((([]:List Ql)++a0.M.Young)++([(⟨y16.Kind,y16.Shape,y16.Flags,0,y16.Slots,y16.More⟩:Ql)]:List Ql)).length:Int) - 1))+1),iV 0,.bool false,iV 0,iV 0,iV 0,iV 0,W none 0 0,W none 0 0,iV 0,iV 0,.string (⟨#[]⟩),W none 0 0]) 4 J J J J size39.out J J J) ?_;rintro _ _ rfl;refine ae ?_;obtain rfl:=bw h;exact dt (rs:=[.cell 4 32,.cell 5 39]) (vs:=[.agg #[W A28 n28 c28,W A2 n2 c2,W A3 n3 c3,W A4 n4 c4],.agg #[iV ((2*((((([]:List Ql)++a0.M.Young)++([(⟨y16.Kind,y16.Shape,y16.Flags,0,y16.Slots,y16.More⟩:Ql)]:List Ql)).length:Int) - 1))+1),iV 0,.bool false,iV 0,iV 0,iV 0,iV 0,W none 0 0,W none 0 0,iV 0,iV 0,.string (⟨#[]⟩),W none 0 0]]) J (.cons (bd 5 J J agg32.out) (.cons (bd 4 J J agg39.out) .nil)) J ((aY 0 J).trans ((aD ak 37 _).trans ((aD ak 37 _).trans ((aD ak 37 _).trans (cS [3,12,13,14,2,1,0] 17))))) ⟨_,_,_,_,_,_,_,_,_,_,_,_,_,_,_,_,_,_,_,_,_,J,J⟩
def jF (N:Nat)(a0:Qg)(a1:Int):Option Bool:=
 bif decide (a1<1) then (some false) else (bif decide (a1.tmod 2=1) then (aZ (in64 (a1 - 1)) (aZ (in64 ((a1 - 1).tdiv 2)) (some (decide ((a1 - 1).tdiv 2<(a0.Young.length:Int)))))) else (aZ (in64 (a1 - 2)) (aZ (in64 ((a1 - 2).tdiv 2)) (some (decide ((a1 - 2).tdiv 2<(a0.Old.length:Int)))))))
theorem nG {N:Nat}{a0:Qg}{a1:Int}{r:Bool}(h:jF N a0 a1=some r):Okc QB 30 [.agg #[W A1 n1 c1,W A2 n2 c2],iV a1] ([aK A1 n1 c1 a0.Young,aK A2 n2 c2 a0.Old]) (fun u post=>u=.bool r/\post=[]):=by
 refine cQ Tryz.func30 ?_;intro B3;refine sY ?_;refine gH J h ?_ ?_<;>intro h
 ·exact eY
 refine sY ?_;refine lh (ky J J (by decide)) ?_;refine gH J h ?_ ?_<;>intro h
 ·refine ae ?_;obtain ⟨q6,h⟩:=ad h;refine ae ?_;obtain ⟨q7,h⟩:=ad h;refine lh (kz J J (by decide) q7.1 q7.2) ?_;exact eN
 refine ae ?_;obtain ⟨q8,h⟩:=ad h;refine ae ?_;obtain ⟨q9,h⟩:=ad h;refine lh (kz J J (by decide) q9.1 q9.2) ?_;exact eN
theorem qV {r:Bool}: ∀v post,((fun (u:Value) (post:List Chunk)=>u=.bool r/\post=[])) v post-> ∀c∈post,fu c:=by
 rintro _ _ ⟨rfl,rfl⟩;exact ax
def sK (N:Nat)(a0:Qk)(p25:Qy)(p26:Qy):Option (Qk×Qd):=
 some ((⟨(⟨p25,p26⟩:Qg),a0.Roots,a0.Pending⟩:Qk),(⟨0,0,false,(⟨0,0,0,0,[],[]⟩:Ql),(⟨0,0,⟨#[]⟩⟩:Qn),[]⟩:Qd))
def ue (N:Nat)(a0:Qk)(a1:Int)(a2:Ql):Option (Qk×Qd):=
 (jF N a0.M a1).bind fun y11=>bif !y11 then (some (a0,(⟨0,50,false,(⟨0,0,0,0,[],[]⟩:Ql),(⟨0,0,⟨#[]⟩⟩:Qn),[]⟩:Qd))) else ((cy N a2).bind fun y16=>bif !y16 then (some (a0,(⟨0,51,false,(⟨0,0,0,0,[],[]⟩:Ql),(⟨0,0,⟨#[]⟩⟩:Qn),[]⟩:Qd))) else ((oo N a2).bind fun y21=>bif decide (a1.tmod 2=1) then (aZ (bi (([]:List Ql).length+a0.M.Young.length)) (aZ (in64 (a1.tdiv 2)) ((aw (([]:List Ql)++a0.M.Young) (a1.tdiv 2)).bind fun x32=>aZ (in64 (a1.tdiv 2)) ((aw (([]:List Ql)++a0.M.Young) (a1.tdiv 2)).bind fun x34=>sK N a0 (List.set (([]:List Ql)++a0.M.Young) ((a1.tdiv 2).toNat) (⟨y21.Kind,y21.Shape,y21.Flags,x32.Age,y21.Slots,y21.More⟩:Ql)) a0.M.Old)))) else (aZ (bi (([]:List Ql).length+a0.M.Old.length)) (aZ (in64 (a1.tdiv 2)) (aZ (in64 ((a1.tdiv 2) - 1)) ((aw (([]:List Ql)++a0.M.Old) ((a1.tdiv 2) - 1)).bind fun x40=>aZ (in64 (a1.tdiv 2)) (aZ (in64 ((a1.tdiv 2) - 1)) ((aw (([]:List Ql)++a0.M.Old) ((a1.tdiv 2) - 1)).bind fun x43=>sK N a0 a0.M.Young (List.set (([]:List Ql)++a0.M.Old) (((a1.tdiv 2) - 1).toNat) (⟨y21.Kind,y21.Shape,y21.Flags,x40.Age,y21.Slots,y21.More⟩:Ql))))))))))
theorem G5 {N:Nat}{a0:Qk}{a1:Int}{a2:Ql}{r:Qk×Qd}(h:ue N a0 a1 a2=some r):Okc QB 28 [.agg #[W A1 n1 c1,W A2 n2 c2,W A3 n3 c3,W A4 n4 c4],iV a1,.agg #[iV a2.Kind,iV a2.Shape,iV a2.Flags,iV a2.Age,W A5 n5 c5,W A6 n6 c6]] ([aK A1 n1 c1 a0.M.Young,aK A2 n2 c2 a0.M.Old,az A3 n3 c3 a0.Roots,az A4 n4 c4 a0.Pending,az A5 n5 c5 a2.Slots,az A6 n6 c6 a2.More]) (fun u post=> ∃A0 n0 c0 A1 n1 c1 A2 n2 c2 A3 n3 c3 A4 n4 c4 A5 n5 c5 A6 n6 c6,u=.tuple #[.agg #[W A0 n0 c0,W A1 n1 c1,W A2 n2 c2,W A3 n3 c3],.agg #[iV r.2.N,iV r.2.E,.bool r.2.Ok,iV r.2.C.Kind,iV r.2.C.Shape,iV r.2.C.Flags,iV r.2.C.Age,W A4 n4 c4,W A5 n5 c5,iV r.2.V.Kind,iV r.2.V.N,.string r.2.V.S,W A6 n6 c6]]/\post=[aK A0 n0 c0 r.1.M.Young,aK A1 n1 c1 r.1.M.Old,az A2 n2 c2 r.1.Roots,az A3 n3 c3 r.1.Pending,bh A4 n4 c4 r.2.C.Slots,bh A5 n5 c5 r.2.C.More,bh A6 n6 c6 r.2.L]):=by
 refine cQ Tryz.func28 ?_;intro B7
 refine gg fun B8=> ?_
 intro B9
 refine gg fun B10=> ?_
 refine sZ ?_;obtain ⟨y11,k,h⟩:=aa h;refine kw (oR (nG k)) ?_;refine gH J h ?_ ?_<;>intro h
 ·refine ae ?_;obtain rfl:=bw h;exact dt (rs:=[.cell 6 32,.cell 7 39]) (vs:=[.agg #[W A1 n1 c1,W A2 n2 c2,W A3 n3 c3,W A4 n4 c4],.agg #[iV 0,iV 50,.bool false,iV 0,iV 0,iV 0,iV 0,W none 0 0,W none 0 0,iV 0,iV 0,.string (⟨#[]⟩),W none 0 0]]) J (.cons (bd 1 J J agg32.out) (.cons (bd 0 J J agg39.out) .nil)) J ((aD ak 37 _).trans ((aD ak 37 _).trans ((aD ak 37 _).trans (cS [7,8,9,10,2,1,0] 13)))) ⟨_,_,_,_,_,_,_,_,_,_,_,_,_,_,_,_,_,_,_,_,_,J,J⟩
 refine sY ?_;obtain ⟨y16,k,h⟩:=aa h;refine kw (oR (mw k)) ?_;refine gH J h ?_ ?_<;>intro h
 ·refine ae ?_;obtain rfl:=bw h;exact dt (rs:=[.cell 6 32,.cell 7 39]) (vs:=[.agg #[W A1 n1 c1,W A2 n2 c2,W A3 n3 c3,W A4 n4 c4],.agg #[iV 0,iV 51,.bool false,iV 0,iV 0,iV 0,iV 0,W none 0 0,W none 0 0,iV 0,iV 0,.string (⟨#[]⟩),W none 0 0]]) J (.cons (bd 1 J J agg32.out) (.cons (bd 0 J J agg39.out) .nil)) J ((aD ak 37 _).trans ((aD ak 37 _).trans ((aD ak 37 _).trans (cS [7,8,9,10,2,1,0] 13)))) ⟨_,_,_,_,_,_,_,_,_,_,_,_,_,_,_,_,_,_,_,_,_,J,J⟩
 refine ae ?_;obtain ⟨y21,k,h⟩:=aa h
 refine BM (oR (yc k)) fun A22 n22 c22 A23 n23 c23=> ?_
 refine am (fun s L=> ∃p25 p26 A25 n25 c25 A26 n26 c26,sK N a0 p25 p26=some r/\s=[(3,pV B7 0),(6,pV B9 0),(7,pV B10 0)]/\L=[aK A25 n25 c25 p25,aK A26 n26 c26 p26,az A3 n3 c3 a0.Roots,az A4 n4 c4 a0.Pending,ah B7 32 [W A25 n25 c25,W A26 n26 c26,W A3 n3 c3,W A4 n4 c4],ah B9 32 [W none 0 0,W none 0 0,W none 0 0,W none 0 0],ah B10 39 [iV 0,iV 0,.bool false,iV 0,iV 0,iV 0,iV 0,W none 0 0,W none 0 0,iV 0,iV 0,.string (⟨#[]⟩),W none 0 0]]) ?_ ?_
 ·refine ae ?_;refine lh (ky J J (by decide)) ?_;refine gH J h ?_ ?_<;>intro h
  ·refine ae ?_
   refine iE (aG (R:=bT) (vss:=[]) (xs:=[]) J (xh) J J (fun _ _ hr=>All2.nil)) fun A28 n28 c28=> ?_
   obtain ⟨q29,h⟩:=ad h
   refine iE (ar 0 7 J J ao J J t9 tt J J q29) fun A30 n30 c30=> ?_
   obtain ⟨q31,h⟩:=ad h;refine gE (kz J J (by decide) q31.1 q31.2) ?_;obtain ⟨x32,lx32,ux32,hx32,h⟩:=aU h;refine ae ?_;refine gR (mJ 0 J ap J (bc lx32 ux32) td) ?_;refine zX (bF (u:=iV x32.Age) 0 J ap J hx32 ex (fun _ _ _ h=>by obtain ⟨_,_,_,_,_,_,e,_⟩:=h;rw [e];rfl)) ?_;obtain ⟨q33,h⟩:=ad h;refine lh (kz J J (by decide) q33.1 q33.2) ?_;obtain ⟨x34,lx34,ux34,hx34,h⟩:=aU h;refine ae ?_;refine lp (aY 1 J) ?_;refine lp (aY 2 J) ?_;refine ae ?_;refine Fu (iK (us:=[iV y21.Kind,iV y21.Shape,iV y21.Flags,iV x32.Age,W A22 n22 c22,W A23 n23 c23]) (z:=(⟨y21.Kind,y21.Shape,y21.Flags,x32.Age,y21.Slots,y21.More⟩:Ql)) 0 J J J J size35.out J (bc lx34 ux34) J (fun S w vs xk hk hr ho=>by obtain rfl:=Option.some.inj (hk.symm.trans hx34);obtain ⟨_,_,_,_,_,_,rfl,s4,s5⟩:=hr;exact ⟨_,_,_,_,_,_,rfl,ho 1 _ rfl rfl,ho 2 _ rfl rfl⟩)) ?_;exact ⟨_,_,⟨List.set (([]:List Ql)++a0.M.Young) ((a1.tdiv 2).toNat) (⟨y21.Kind,y21.Shape,y21.Flags,x32.Age,y21.Slots,y21.More⟩:Ql),a0.M.Old,A30,n30,c30,A2,n2,c2,h,J,J⟩,sA,(aY 0 J).trans (cS [0,8,9,10,6,4,3] 13)⟩
  refine ae ?_
  refine iE (aG (R:=bT) (vss:=[]) (xs:=[]) J (xh) J J (fun _ _ hr=>All2.nil)) fun A35 n35 c35=> ?_
  obtain ⟨q36,h⟩:=ad h
  refine iE (ar 0 8 J J ao J J t9 tt J J q36) fun A37 n37 c37=> ?_
  obtain ⟨q38,h⟩:=ad h;refine gE (kz J J (by decide) q38.1 q38.2) ?_;obtain ⟨q39,h⟩:=ad h;refine ae ?_;obtain ⟨x40,lx40,ux40,hx40,h⟩:=aU h;refine ae ?_;refine gR (mJ 0 J ap J (bc lx40 ux40) td) ?_;refine zX (bF (u:=iV x40.Age) 0 J ap J hx40 ex (fun _ _ _ h=>by obtain ⟨_,_,_,_,_,_,e,_⟩:=h;rw [e];rfl)) ?_;obtain ⟨q41,h⟩:=ad h;refine gE (kz J J (by decide) q41.1 q41.2) ?_;obtain ⟨q42,h⟩:=ad h;refine ae ?_;obtain ⟨x43,lx43,ux43,hx43,h⟩:=aU h;refine ae ?_;refine lp (aY 1 J) ?_;refine lp (aY 2 J) ?_;refine ae ?_;refine Fu (iK (us:=[iV y21.Kind,iV y21.Shape,iV y21.Flags,iV x40.Age,W A22 n22 c22,W A23 n23 c23]) (z:=(⟨y21.Kind,y21.Shape,y21.Flags,x40.Age,y21.Slots,y21.More⟩:Ql)) 0 J J J J size35.out J (bc lx43 ux43) J (fun S w vs xk hk hr ho=>by obtain rfl:=Option.some.inj (hk.symm.trans hx43);obtain ⟨_,_,_,_,_,_,rfl,s4,s5⟩:=hr;exact ⟨_,_,_,_,_,_,rfl,ho 1 _ rfl rfl,ho 2 _ rfl rfl⟩)) ?_;exact ⟨_,_,⟨a0.M.Young,List.set (([]:List Ql)++a0.M.Old) (((a1.tdiv 2) - 1).toNat) (⟨y21.Kind,y21.Shape,y21.Flags,x40.Age,y21.Slots,y21.More⟩:Ql),A1,n1,c1,A37,n37,c37,h,J,J⟩,sA,(aY 0 J).trans (cS [7,0,9,10,6,4,3] 13)⟩
 rintro _ _ ⟨p25,p26,A25,n25,c25,A26,n26,c26,h,rfl,rfl⟩;refine ae ?_;obtain rfl:=bw h;exact dt (rs:=[.cell 6 32,.cell 7 39]) (vs:=[.agg #[W A25 n25 c25,W A26 n26 c26,W A3 n3 c3,W A4 n4 c4],.agg #[iV 0,iV 0,.bool false,iV 0,iV 0,iV 0,iV 0,W none 0 0,W none 0 0,iV 0,iV 0,.string (⟨#[]⟩),W none 0 0]]) J (.cons (bd 5 J J agg32.out) (.cons (bd 6 J J agg39.out) .nil)) J ((aD ak 37 _).trans ((aD ak 37 _).trans ((aD ak 37 _).trans (cS [3,4,5,6,2,1,0] 10)))) ⟨_,_,_,_,_,_,_,_,_,_,_,_,_,_,_,_,_,_,_,_,_,J,J⟩
def pi (N:Nat)(a0:Qn):Option Bool:=
 (bif decide (a0.Kind=7) then (some true) else (some (decide (a0.Kind=9)))).bind fun b2=>some b2
theorem uV {N:Nat}{a0:Qn}{r:Bool}(h:pi N a0=some r):Okc QB 78 [(bD a0)] ([]) (fun u post=>u=.bool r/\post=[]):=by
 refine cQ Tryz.func78 ?_;intro B1;refine ae ?_;refine gS 4 10 6 h ?_;intro b2 h;exact eY
def rM (N:Nat)(a0:Int)(a1:Int):Option Bool:=
 (bif decide (a0=8) then (some true) else ((bif decide (a0=10) then (some (decide (0<a1))) else (some false)).bind fun b2=>(bif b2 then (aZ (in64 (a1 - 1)) (some (decide (((a1 - 1).tmod 4).tmod 2=0)))) else (some false)).bind fun b3=>some b3)).bind fun b1=>some b1
theorem Bg {N:Nat}{a0:Int}{a1:Int}{r:Bool}(h:rM N a0 a1=some r):Okc QB 79 [iV a0,iV a1] ([]) (fun u post=>u=.bool r/\post=[]):=by
 refine cQ Tryz.func79 ?_;obtain ⟨b1,hb1,h⟩:=aa h;refine aQ 14 21 b1 ?_ ?_
 ·clear h;refine aM 7 J (fun g1=> ?_) (fun g1=> ?_)
  ·have h:=aE g1 hb1;exact gY
  have h:=aF g1 hb1;refine ae ?_;refine gS 3 13 10 h ?_;intro b2 h;refine ae ?_;obtain ⟨b3,hb3,h⟩:=aa h;refine aQ 6 20 b3 ?_ ?_
  ·clear h;refine aM 14 J (fun g3=> ?_) (fun g3=> ?_)
   ·have h:=aE g3 hb3;refine ae ?_;obtain ⟨q4,h⟩:=ad h;refine ae ?_;refine su (ky J J (by decide)) J (bx g3 J) J ?_;refine su (ky J J (by decide)) J (bx g3 J) J ?_;exact gY
   have h:=aF g3 hb3;exact gY
  exact gY
 exact eY
def yj (N:Nat)(p22:Qq):Option Qq:=
 some p22
def ng (N:Nat)(kb23:Qq->Int->Option Qq)(p25:Int)(a0:Ql)(p28:Qq):Option Qq:=
 aZ (in64 (p25+1)) (kb23 p28 (p25+1))
def gX (N:Nat)(a0:Ql):Nat->Qq->Int->Option Qq
 |0,_,_=>none
 |m23+1,p24,p25=>bif decide (p25<(a0.More.length:Int)) then ((aw a0.More p25).bind fun x29=>(pi N x29).bind fun y30=>(bif y30 then ((rM N a0.Kind p25).bind fun y32=>some (!y32)) else (some false)).bind fun b31=>bif b31 then ((aw a0.More p25).bind fun x34=>aZ (bi (p24.length+([x34.N]:List Int).length)) (ng N (gX N a0 m23) p25 a0 (p24++([x34.N]:List Int)))) else (ng N (gX N a0 m23) p25 a0 p24)) else (yj N p24)
def uW (N:Nat)(a0:Ql)(p5:Qq):Option Qq:=
 gX N a0 N p5 0
def nh (N:Nat)(kb6:Qq->Int->Option Qq)(p8:Int)(a0:Ql)(p12:Qq):Option Qq:=
 aZ (in64 (p8+1)) (kb6 p12 (p8+1))
def iZ (N:Nat)(a0:Ql):Nat->Qq->Int->Option Qq
 |0,_,_=>none
 |m6+1,p7,p8=>bif decide (p8<(a0.Slots.length:Int)) then ((aw a0.Slots p8).bind fun x13=>(pi N x13).bind fun y14=>bif y14 then ((aw a0.Slots p8).bind fun x16=>aZ (bi (p7.length+([x16.N]:List Int).length)) (nh N (iZ N a0 m6) p8 a0 (p7++([x16.N]:List Int)))) else (nh N (iZ N a0 m6) p8 a0 p7)) else (uW N a0 p7)
def dN (N:Nat)(a0:Ql):Option Qq:=
 iZ N a0 N [] 0
theorem gy {N:Nat}{a0:Ql}{r:Qq}(h:dN N a0=some r):Okc QB 47 [.agg #[iV a0.Kind,iV a0.Shape,iV a0.Flags,iV a0.Age,W A1 n1 c1,W A2 n2 c2]] ([az A1 n1 c1 a0.Slots,az A2 n2 c2 a0.More]) (fun u post=> ∃A0 n0 c0,u=W A0 n0 c0/\post=[bS A0 n0 c0 r]):=by
 refine cQ Tryz.func47 ?_;intro B3;refine ae ?_;refine am (fun s L=> ∃p5 A5 n5 c5,uW N a0 p5=some r/\s=[(1,pV B3 0),(2,W none 0 0),(3,W A5 n5 c5)]/\L=[bS A5 n5 c5 p5,az A1 n1 c1 a0.Slots,az A2 n2 c2 a0.More,ah B3 35 [iV a0.Kind,iV a0.Shape,iV a0.Flags,iV a0.Age,W A1 n1 c1,W A2 n2 c2]]) ?_ ?_
 ·refine ae ?_;refine aH (fun m s L=> ∃p7 p8 A7 n7 c7,iZ N a0 m p7 p8=some r/\s=[(1,pV B3 0),(2,W none 0 0),(3,W A7 n7 c7),(4,iV p8)]/\L=[bS A7 n7 c7 p7,az A1 n1 c1 a0.Slots,az A2 n2 c2 a0.More,ah B3 35 [iV a0.Kind,iV a0.Shape,iV a0.Flags,iV a0.Age,W A1 n1 c1,W A2 n2 c2]]) N _ _ ⟨[],0,none,0,0,h,J,J⟩ sA ((aD (da .i64) 3 _).trans (cS [0,2,3,1] 4)) ?_;rintro (_|m6) _ _ ⟨p7,p8,A7,n7,c7,h,rfl,rfl⟩
  ·exact aj h
  rw [iZ.eq_2] at h;refine sZ ?_;refine gH J h ?_ ?_<;>intro h
  ·refine ae ?_;refine am (fun s L=> ∃p12 A12 n12 c12,nh N (iZ N a0 m6) p8 a0 p12=some r/\s=[(1,pV B3 0),(2,W none 0 0),(3,W A12 n12 c12),(4,iV p8)]/\L=[bS A12 n12 c12 p12,az A1 n1 c1 a0.Slots,az A2 n2 c2 a0.More,ah B3 35 [iV a0.Kind,iV a0.Shape,iV a0.Flags,iV a0.Age,W A1 n1 c1,W A2 n2 c2]]) ?_ ?_
   ·refine ae ?_;obtain ⟨x13,lx13,ux13,hx13,h⟩:=aU h;refine ae ?_;obtain ⟨y14,k,h⟩:=aa h;refine kw (oR (uV k)) ?_;refine gH J h ?_ ?_<;>intro h
    ·refine ae ?_;obtain ⟨x16,lx16,ux16,hx16,h⟩:=aU h;refine ae ?_;refine zX (mJ 1 J ao J (bc lx16 ux16) kx) ?_;refine gD (aG (R:=(da .i64)) (vss:=[[iV x16.N]]) (xs:=[x16.N]) J (dp _) J J (fun _ _ hr=> .cons J All2.nil)) ?_;rintro _ _ ⟨A17,n17,c17,rfl,rfl⟩;obtain ⟨q18,h⟩:=ad h
     refine iE (ar 1 0 J J ap J J Ex uE J J q18) fun A19 n19 c19=> ?_
     exact jN
    exact jY
   rintro _ _ ⟨p12,A12,n12,c12,h,rfl,rfl⟩;refine ae ?_;obtain ⟨q20,h⟩:=ad h;exact lY
  exact jY
 rintro _ _ ⟨p5,A5,n5,c5,h,rfl,rfl⟩;refine am (fun s L=> ∃p22 A22 n22 c22,yj N p22=some r/\s=[(2,W none 0 0),(3,W A22 n22 c22)]/\L=[bS A22 n22 c22 p22]) ?_ ?_
 ·refine ae ?_;refine aH (fun m s L=> ∃p24 p25 A24 n24 c24,gX N a0 m p24 p25=some r/\s=[(1,pV B3 0),(2,W none 0 0),(3,W A24 n24 c24),(5,iV p25)]/\L=[bS A24 n24 c24 p24,az A1 n1 c1 a0.Slots,az A2 n2 c2 a0.More,ah B3 35 [iV a0.Kind,iV a0.Shape,iV a0.Flags,iV a0.Age,W A1 n1 c1,W A2 n2 c2]]) N _ _ ⟨p5,0,A5,n5,c5,h,J,J⟩ sA (cS [0,1,2,3] 4) ?_;rintro (_|m23) _ _ ⟨p24,p25,A24,n24,c24,h,rfl,rfl⟩
  ·exact aj h
  rw [gX.eq_2] at h;refine sZ ?_;refine gH J h ?_ ?_<;>intro h
  ·refine ae ?_;refine am (fun s L=> ∃p28 A28 n28 c28,ng N (gX N a0 m23) p25 a0 p28=some r/\s=[(1,pV B3 0),(2,W none 0 0),(3,W A28 n28 c28),(5,iV p25)]/\L=[bS A28 n28 c28 p28,az A1 n1 c1 a0.Slots,az A2 n2 c2 a0.More,ah B3 35 [iV a0.Kind,iV a0.Shape,iV a0.Flags,iV a0.Age,W A1 n1 c1,W A2 n2 c2]]) ?_ ?_
   ·refine ae ?_;obtain ⟨x29,lx29,ux29,hx29,h⟩:=aU h;refine ae ?_;obtain ⟨y30,k,h⟩:=aa h;refine kw (oR (uV k)) ?_;obtain ⟨b31,hb31,h⟩:=aa h;refine aQ 6 47 b31 ?_ ?_
    ·clear h;refine aM 41 J (fun g31=> ?_) (fun g31=> ?_)
     ·have h:=aE g31 hb31;refine ae ?_;obtain ⟨y32,k,h⟩:=aa h;refine gU (oR (Bg k)) (bx g31 J) ?_;exact gY
     have h:=aF g31 hb31;exact gY
    refine ew h ?_ ?_<;>intro h
    ·refine ae ?_;obtain ⟨x34,lx34,ux34,hx34,h⟩:=aU h;refine ae ?_;refine zX (mJ 2 J ao J (bc lx34 ux34) kx) ?_;refine gD (aG (R:=(da .i64)) (vss:=[[iV x34.N]]) (xs:=[x34.N]) J (dp _) J J (fun _ _ hr=> .cons J All2.nil)) ?_;rintro _ _ ⟨A35,n35,c35,rfl,rfl⟩;obtain ⟨q36,h⟩:=ad h
     refine iE (ar 1 0 J J ap J J Ex uE J J q36) fun A37 n37 c37=> ?_
     exact jN
    exact jY
   rintro _ _ ⟨p28,A28,n28,c28,h,rfl,rfl⟩;refine ae ?_;obtain ⟨q38,h⟩:=ad h;exact lY
  exact jY
 rintro _ _ ⟨p22,A22,n22,c22,h,rfl,rfl⟩;exact eY
theorem jG {r:Qq}: ∀v post,((fun (u:Value) (post:List Chunk)=> ∃A0 n0 c0,u=W A0 n0 c0/\post=[bS A0 n0 c0 r])) v post-> ∀c∈post,fu c:=by
 rintro _ _ ⟨_,_,_,rfl,rfl⟩;exact hU gr (ax)
def yi (N:Nat)(p5:Qq):Option Qq:=
 some p5
def oA (N:Nat)(kb6:Qq->Int->Option Qq)(p8:Int)(a0:Ql)(p12:Qq):Option Qq:=
 aZ (in64 (p8+1)) (kb6 p12 (p8+1))
def gT (N:Nat)(a0:Ql):Nat->Qq->Int->Option Qq
 |0,_,_=>none
 |m6+1,p7,p8=>bif decide (p8<(a0.More.length:Int)) then ((aw a0.More p8).bind fun x13=>(pi N x13).bind fun y14=>(bif y14 then ((rM N a0.Kind p8).bind fun y16=>some y16) else (some false)).bind fun b15=>bif b15 then ((aw a0.More p8).bind fun x18=>aZ (bi (p7.length+([x18.N]:List Int).length)) (oA N (gT N a0 m6) p8 a0 (p7++([x18.N]:List Int)))) else (oA N (gT N a0 m6) p8 a0 p7)) else (yi N p7)
def gx (N:Nat)(a0:Ql):Option Qq:=
 gT N a0 N [] 0
theorem ne {N:Nat}{a0:Ql}{r:Qq}(h:gx N a0=some r):Okc QB 48 [.agg #[iV a0.Kind,iV a0.Shape,iV a0.Flags,iV a0.Age,W A1 n1 c1,W A2 n2 c2]] ([az A1 n1 c1 a0.Slots,az A2 n2 c2 a0.More]) (fun u post=> ∃A0 n0 c0,u=W A0 n0 c0/\post=[bS A0 n0 c0 r]):=by
 refine cQ Tryz.func48 ?_;intro B3;refine ae ?_;refine am (fun s L=> ∃p5 A5 n5 c5,yi N p5=some r/\s=[(2,W none 0 0),(3,W A5 n5 c5)]/\L=[bS A5 n5 c5 p5]) ?_ ?_
 ·refine ae ?_;refine aH (fun m s L=> ∃p7 p8 A7 n7 c7,gT N a0 m p7 p8=some r/\s=[(1,pV B3 0),(2,W none 0 0),(3,W A7 n7 c7),(4,iV p8)]/\L=[bS A7 n7 c7 p7,az A1 n1 c1 a0.Slots,az A2 n2 c2 a0.More,ah B3 35 [iV a0.Kind,iV a0.Shape,iV a0.Flags,iV a0.Age,W A1 n1 c1,W A2 n2 c2]]) N _ _ ⟨[],0,none,0,0,h,J,J⟩ sA ((aD (da .i64) 3 _).trans (cS [0,2,3,1] 4)) ?_;rintro (_|m6) _ _ ⟨p7,p8,A7,n7,c7,h,rfl,rfl⟩
  ·exact aj h
  rw [gT.eq_2] at h;refine sZ ?_;refine gH J h ?_ ?_<;>intro h
  ·refine ae ?_;refine am (fun s L=> ∃p12 A12 n12 c12,oA N (gT N a0 m6) p8 a0 p12=some r/\s=[(1,pV B3 0),(2,W none 0 0),(3,W A12 n12 c12),(4,iV p8)]/\L=[bS A12 n12 c12 p12,az A1 n1 c1 a0.Slots,az A2 n2 c2 a0.More,ah B3 35 [iV a0.Kind,iV a0.Shape,iV a0.Flags,iV a0.Age,W A1 n1 c1,W A2 n2 c2]]) ?_ ?_
   ·refine ae ?_;obtain ⟨x13,lx13,ux13,hx13,h⟩:=aU h;refine ae ?_;obtain ⟨y14,k,h⟩:=aa h;refine kw (oR (uV k)) ?_;obtain ⟨b15,hb15,h⟩:=aa h;refine aQ 5 23 b15 ?_ ?_
    ·clear h;refine aM 18 J (fun g15=> ?_) (fun g15=> ?_)
     ·have h:=aE g15 hb15;refine ae ?_;obtain ⟨y16,k,h⟩:=aa h;refine gU (oR (Bg k)) (bx g15 J) ?_;exact gY
     have h:=aF g15 hb15;exact gY
    refine ew h ?_ ?_<;>intro h
    ·refine ae ?_;obtain ⟨x18,lx18,ux18,hx18,h⟩:=aU h;refine ae ?_;refine zX (mJ 2 J ao J (bc lx18 ux18) kx) ?_;refine gD (aG (R:=(da .i64)) (vss:=[[iV x18.N]]) (xs:=[x18.N]) J (dp _) J J (fun _ _ hr=> .cons J All2.nil)) ?_;rintro _ _ ⟨A19,n19,c19,rfl,rfl⟩;obtain ⟨q20,h⟩:=ad h
     refine iE (ar 1 0 J J ap J J Ex uE J J q20) fun A21 n21 c21=> ?_
     exact jN
    exact jY
   rintro _ _ ⟨p12,A12,n12,c12,h,rfl,rfl⟩;refine ae ?_;obtain ⟨q22,h⟩:=ad h;exact lY
  exact jY
 rintro _ _ ⟨p5,A5,n5,c5,h,rfl,rfl⟩;exact eY
theorem qD {r:Qq}: ∀v post,((fun (u:Value) (post:List Chunk)=> ∃A0 n0 c0,u=W A0 n0 c0/\post=[bS A0 n0 c0 r])) v post-> ∀c∈post,fu c:=by
 rintro _ _ ⟨_,_,_,rfl,rfl⟩;exact hU gr (ax)
def yg (N:Nat):Option Bool:=
 some false
def ji (N:Nat)(y6:Qq)(y13:Qq):Nat->Int->Option Bool
 |0,_=>none
 |m18+1,p19=>bif decide (p19<(((([]:List Int)++y6)++y13).length:Int)) then ((aw ((([]:List Int)++y6)++y13) p19).bind fun x21=>(bif decide (0<x21) then ((aw ((([]:List Int)++y6)++y13) p19).bind fun x23=>some (decide (x23.tmod 2=1))) else (some false)).bind fun b22=>bif b22 then (some true) else (aZ (in64 (p19+1)) ((ji N y6 y13 m18) (p19+1)))) else (yg N)
def sN (N:Nat)(a0:Ql):Option Bool:=
 (dN N a0).bind fun y6=>aZ (bi (([]:List Int).length+y6.length)) ((gx N a0).bind fun y13=>aZ (bi ((([]:List Int)++y6).length+y13.length)) (ji N y6 y13 N 0))
theorem E4 {N:Nat}{a0:Ql}{r:Bool}(h:sN N a0=some r):Okc QB 114 [.agg #[iV a0.Kind,iV a0.Shape,iV a0.Flags,iV a0.Age,W A1 n1 c1,W A2 n2 c2]] ([az A1 n1 c1 a0.Slots,az A2 n2 c2 a0.More]) (fun u post=>u=.bool r/\post=[]):=by
 refine rQ Tryz.func114 J J ?_;simp only [jr];refine Y ?_
 refine gB (nH J J) fun B3=> ?_
 refine Y ?_;refine ay ?_;obtain ⟨y6,hy6,h⟩:=aa h;obtain ⟨q10,h⟩:=ad h;refine dB (t:=[(1,pV B3 0),(2,.bool false)]) ?_ fv (ab _)
 refine dF I 5 [] [3,4] [5,6,7,8,9] [[],[],[1],[0,2],[]] [aX1 (fun (A5:Option Addr)=> .slice A5 0 0) (fun A5=> []),
 aV (.agg #[iV a0.Kind,iV a0.Shape,iV a0.Flags,iV a0.Age,W A1 n1 c1,W A2 n2 c2]),
 aX3 (fun (A8:Option Addr) (n8 c8:Nat)=> W A8 n8 c8) (fun A8 n8 c8=> [bS A8 n8 c8 y6]),
 aX3 (fun (A12:Option Addr) (n12 c12:Nat)=> W A12 n12 c12) (fun A12 n12 c12=> [bS A12 n12 c12 (([]:List Int)++y6)]),
 aV (.agg #[iV a0.Kind,iV a0.Shape,iV a0.Flags,iV a0.Age,W A1 n1 c1,W A2 n2 c2])] [] (ab _) (fj) I rfl rfl ?_ ?_ ?_
 ·exact fi
 ·refine ac J ?_ ?_
  ·exact cB (aR (us:=[iV a0.Kind,iV a0.Shape,iV a0.Flags,iV a0.Age,W A1 n1 c1,W A2 n2 c2]) 0 J J agg35.out J) J (aP J (ab _))
  refine ac J ?_ ?_
  ·intro A5 A8 n8 c8;refine LY (BV (da .i64) 3 A5 _) ?_;refine gj (ar 0 1 J J ap J J Ex uE J J q10) J ?_;rintro _ _ ⟨A11,n11,c11,rfl,rfl⟩;exact pv A11 n11 c11 (ab _)
  refine ac J ?_ ?_
  ·refine gj (ba (gy hy6) call47.out J (hU (aJ (i:=1) J J) (hU (aJ (i:=2) J J) ax)) jG) J ?_;rintro _ _ ⟨_,⟨A7,n7,c7,rfl,rfl⟩,rfl⟩;exact pv A7 n7 c7 (ab _)
  refine ac J ?_ ?_
  ·exact cB (aR (us:=[iV a0.Kind,iV a0.Shape,iV a0.Flags,iV a0.Age,W A1 n1 c1,W A2 n2 c2]) 0 J J agg35.out J) J (aP J (ab _))
  refine ac J ?_ ?_
  ·refine gj (vb J (uz)) J ?_;rintro _ _ ⟨A4,rfl,rfl⟩;exact FC A4 (ab _)
  exact cp
 intro A12 n12 c12;refine gu (t:=[(8,W A12 n12 c12),(9,.agg #[iV a0.Kind,iV a0.Shape,iV a0.Flags,iV a0.Age,W A1 n1 c1,W A2 n2 c2]),(1,pV B3 0),(2,.bool false)]) (L':=[bS A12 n12 c12 (([]:List Int)++y6),ah B3 35 [iV a0.Kind,iV a0.Shape,iV a0.Flags,iV a0.Age,W A1 n1 c1,W A2 n2 c2],az A1 n1 c1 a0.Slots,az A2 n2 c2 a0.More]) ?_ fv (ab _);obtain ⟨y13,k,h⟩:=aa h;refine jt 5 J I (ba (ne k) call48.out J (hU (aJ (i:=2) J J) (hU (aJ (i:=3) J J) ax)) qD) J J J ?_;rintro _ _ ⟨_,⟨A14,n14,c14,rfl,rfl⟩,rfl⟩;obtain ⟨q15,h⟩:=ad h;refine jt 6 J I (ar 1 0 J J ap J J Ex uE J J q15) J J J ?_;rintro _ _ ⟨A16,n16,c16,rfl,rfl⟩;refine rc 7 J I (av J) J J J ?_;refine ft I ?_;refine wF ?_;refine am (fun s L=>yg N=some r/\s=[(2,.bool false)]/\L=[]) ?_ ?_
 ·refine Y ?_;refine aH (fun m s L=> ∃p19,ji N y6 y13 m p19=some r/\s=[(2,.bool false),(3,W A16 n16 c16),(4,iV p19)]/\L=[bS A16 n16 c16 ((([]:List Int)++y6)++y13)]) N _ _ ⟨0,h,J,J⟩ sA (cS [1] 5) ?_;rintro (_|m18) _ _ ⟨p19,h,rfl,rfl⟩
  ·exact aj h
  rw [ji.eq_2] at h;refine ay ?_;refine Y ?_;refine gR (cC 0 J ap J Ex) ?_;refine Y ?_;refine gH J h ?_ ?_<;>intro h
  ·refine Y ?_;refine ay ?_;refine Y ?_;obtain ⟨x21,lx21,ux21,hx21,h⟩:=aU h;refine gR (bf 0 J ap J J Ex size3.out lx21 ux21) ?_;refine gR (bF (u:=iV x21) 0 J ap J hx21 ex (fun _ _ _ h=>by rw [show _=_ from h];rfl)) ?_;refine Y ?_;obtain ⟨b22,hb22,h⟩:=aa h;refine aQ 7 30 b22 ?_ ?_
   ·clear h;refine aM 23 J (fun g22=> ?_) (fun g22=> ?_)
    ·have h:=aE g22 hb22;refine Y ?_;obtain ⟨x23,lx23,ux23,hx23,h⟩:=aU h;refine mH (bf 0 J ap J J Ex size3.out lx23 ux23) J (bx g22 J) J ?_;refine mH (bF (u:=iV x23) 0 J ap J hx23 ex (fun _ _ _ h=>by rw [show _=_ from h];rfl)) J (bx g22 J) J ?_;refine su (ky J J (by decide)) J (bx g22 J) J ?_;refine Y ?_;obtain rfl:=bw h;exact cH sA (cS [0] 1)
    have h:=aF g22 hb22;refine Y ?_;obtain rfl:=bw h;exact cH sA (cS [0] 1)
   refine Y ?_;refine gH J h ?_ ?_<;>intro h
   ·refine Y ?_;obtain rfl:=bw h;exact js J J (cS [] 1) ⟨J,J⟩
   refine Y ?_;obtain ⟨q25,h⟩:=ad h;refine gE (cr J J q25.1 q25.2) ?_;refine Y ?_;exact ⟨m18,_,_,Qu _,⟨p19+1,h,J,J⟩,sA,cS [0] 1⟩
  refine Y ?_;exact ⟨_,_,⟨h,J,J⟩,sA,cS [] 1⟩
 rintro _ _ ⟨h,rfl,rfl⟩;refine Y ?_;obtain rfl:=bw h;exact js J J (cS [] 0) ⟨J,J⟩
def zj (N:Nat)(p5:Qq):Option Qq:=
 some p5
def pB (N:Nat)(kb6:Qq->Int->Option Qq)(p8:Int)(a0:Qg)(p12:Qq):Option Qq:=
 aZ (in64 (p8+1)) (kb6 p12 (p8+1))
def iT (N:Nat)(a0:Qg):Nat->Qq->Int->Option Qq
 |0,_,_=>none
 |m6+1,p7,p8=>bif decide (p8<(a0.Old.length:Int)) then ((aw a0.Old p8).bind fun x13=>(sN N x13).bind fun y17=>bif y17 then (aZ (in64 (2*p8)) (aZ (in64 ((2*p8)+2)) (aZ (bi (p7.length+([(2*p8)+2]:List Int).length)) (pB N (iT N a0 m6) p8 a0 (p7++([(2*p8)+2]:List Int)))))) else (pB N (iT N a0 m6) p8 a0 p7)) else (zj N p7)
def sO (N:Nat)(a0:Qg):Option Qq:=
 iT N a0 N [] 0
theorem E5 {N:Nat}{a0:Qg}{r:Qq}(h:sO N a0=some r):Okc QB 61 [.agg #[W A1 n1 c1,W A2 n2 c2]] ([aK A1 n1 c1 a0.Young,aK A2 n2 c2 a0.Old]) (fun u post=> ∃A0 n0 c0,u=W A0 n0 c0/\post=[bS A0 n0 c0 r]):=by
 refine cQ Tryz.func61 ?_;intro B3;refine ae ?_;refine am (fun s L=> ∃p5 A5 n5 c5,zj N p5=some r/\s=[(2,W none 0 0),(3,W A5 n5 c5)]/\L=[bS A5 n5 c5 p5]) ?_ ?_
 ·refine ae ?_;refine aH (fun m s L=> ∃p7 p8 A7 n7 c7,iT N a0 m p7 p8=some r/\s=[(1,pV B3 0),(2,W none 0 0),(3,W A7 n7 c7),(4,iV p8)]/\L=[bS A7 n7 c7 p7,aK A1 n1 c1 a0.Young,aK A2 n2 c2 a0.Old,ah B3 29 [W A1 n1 c1,W A2 n2 c2]]) N _ _ ⟨[],0,none,0,0,h,J,J⟩ sA ((aD (da .i64) 3 _).trans (cS [0,2,3,1] 4)) ?_;rintro (_|m6) _ _ ⟨p7,p8,A7,n7,c7,h,rfl,rfl⟩
  ·exact aj h
  rw [iT.eq_2] at h;refine sZ ?_;refine gH J h ?_ ?_<;>intro h
  ·refine ae ?_;refine am (fun s L=> ∃p12 A12 n12 c12,pB N (iT N a0 m6) p8 a0 p12=some r/\s=[(1,pV B3 0),(2,W none 0 0),(3,W A12 n12 c12),(4,iV p8)]/\L=[bS A12 n12 c12 p12,aK A1 n1 c1 a0.Young,aK A2 n2 c2 a0.Old,ah B3 29 [W A1 n1 c1,W A2 n2 c2]]) ?_ ?_
   ·refine ae ?_;obtain ⟨x13,lx13,ux13,hx13,h⟩:=aU h;refine ae ?_;refine mL 2 J hx13 (bR x13) ?_;rintro _ _ ⟨A14,n14,c14,A15,n15,c15,rfl,rfl⟩;refine gR (eo (us:=[iV x13.Kind,iV x13.Shape,iV x13.Flags,iV x13.Age,W A14 n14 c14,W A15 n15 c15]) 0 J J agg35.out J) ?_;obtain ⟨y17,k,h⟩:=aa h;refine kw (oR (E4 k)) ?_;refine gH J h ?_ ?_<;>intro h
    ·refine ae ?_;obtain ⟨q19,h⟩:=ad h;refine gE (kA J J q19.1 q19.2) ?_;obtain ⟨q20,h⟩:=ad h;refine ae ?_;refine gD (aG (R:=(da .i64)) (vss:=[[iV ((2*p8)+2)]]) (xs:=[(2*p8)+2]) J (dp _) J J (fun _ _ hr=> .cons J All2.nil)) ?_;rintro _ _ ⟨A21,n21,c21,rfl,rfl⟩;obtain ⟨q22,h⟩:=ad h
     refine iE (ar 4 0 J J ap J J Ex uE J J q22) fun A23 n23 c23=> ?_
     exact jN
    exact jY
   rintro _ _ ⟨p12,A12,n12,c12,h,rfl,rfl⟩;refine ae ?_;obtain ⟨q24,h⟩:=ad h;exact lY
  exact jY
 rintro _ _ ⟨p5,A5,n5,c5,h,rfl,rfl⟩;exact eY
theorem Cz {r:Qq}: ∀v post,((fun (u:Value) (post:List Chunk)=> ∃A0 n0 c0,u=W A0 n0 c0/\post=[bS A0 n0 c0 r])) v post-> ∀c∈post,fu c:=by
 rintro _ _ ⟨_,_,_,rfl,rfl⟩;exact hU gr (ax)
def zo (N:Nat)(p3:Qq):Option Qq:=
 some p3
def qR (N:Nat)(kb4:Qq->Int->Option Qq)(p6:Int)(a0:Qr)(p10:Qq):Option Qq:=
 aZ (in64 (p6+1)) (kb4 p10 (p6+1))
def iU (N:Nat)(a0:Qr):Nat->Qq->Int->Option Qq
 |0,_,_=>none
 |m4+1,p5,p6=>bif decide (p6<(a0.length:Int)) then ((aw a0 p6).bind fun x11=>(bif decide (x11.Kind=7) then (some true) else ((aw a0 p6).bind fun x13=>some (decide (x13.Kind=9)))).bind fun b12=>bif b12 then ((aw a0 p6).bind fun x15=>aZ (bi (p5.length+([x15.N]:List Int).length)) (qR N (iU N a0 m4) p6 a0 (p5++([x15.N]:List Int)))) else (qR N (iU N a0 m4) p6 a0 p5)) else (zo N p5)
def pZ (N:Nat)(a0:Qr):Option Qq:=
 iU N a0 N [] 0
theorem zn {N:Nat}{a0:Qr}{r:Qq}(h:pZ N a0=some r):Okc QB 186 [W A1 n1 c1] ([az A1 n1 c1 a0]) (fun u post=> ∃A0 n0 c0,u=W A0 n0 c0/\post=[bS A0 n0 c0 r]):=by
 refine cQ Tryz.func186 ?_;refine am (fun s L=> ∃p3 A3 n3 c3,zo N p3=some r/\s=[(2,W none 0 0),(3,W A3 n3 c3)]/\L=[bS A3 n3 c3 p3]) ?_ ?_
 ·refine ae ?_;refine aH (fun m s L=> ∃p5 p6 A5 n5 c5,iU N a0 m p5 p6=some r/\s=[(0,W A1 n1 c1),(2,W none 0 0),(3,W A5 n5 c5),(4,iV p6)]/\L=[az A1 n1 c1 a0,bS A5 n5 c5 p5]) N _ _ ⟨[],0,none,0,0,h,J,J⟩ sA ((aD (da .i64) 3 _).trans (cS [1,0] 2)) ?_;rintro (_|m4) _ _ ⟨p5,p6,A5,n5,c5,h,rfl,rfl⟩
  ·exact aj h
  rw [iU.eq_2] at h;refine sZ ?_;refine gH J h ?_ ?_<;>intro h
  ·refine ae ?_;refine am (fun s L=> ∃p10 A10 n10 c10,qR N (iU N a0 m4) p6 a0 p10=some r/\s=[(0,W A1 n1 c1),(2,W none 0 0),(3,W A10 n10 c10),(4,iV p6)]/\L=[az A1 n1 c1 a0,bS A10 n10 c10 p10]) ?_ ?_
   ·refine ae ?_;obtain ⟨x11,lx11,ux11,hx11,h⟩:=aU h;refine ae ?_;refine zX (mO 0 J ao J (bc lx11 ux11) fE) ?_;obtain ⟨b12,hb12,h⟩:=aa h;refine aQ 7 24 b12 ?_ ?_
    ·clear h;refine aM 17 J (fun g12=> ?_) (fun g12=> ?_)
     ·have h:=aE g12 hb12;exact gY
     have h:=aF g12 hb12;refine ae ?_;obtain ⟨x13,lx13,ux13,hx13,h⟩:=aU h;refine ae ?_;refine mH (mO 0 J ao J (bc lx13 ux13) fE) J (dh g12 J) J ?_;exact gY
    refine ew h ?_ ?_<;>intro h
    ·refine ae ?_;obtain ⟨x15,lx15,ux15,hx15,h⟩:=aU h;refine ae ?_;refine zX (mJ 0 J ao J (bc lx15 ux15) kx) ?_;refine gD (aG (R:=(da .i64)) (vss:=[[iV x15.N]]) (xs:=[x15.N]) J (dp _) J J (fun _ _ hr=> .cons J All2.nil)) ?_;rintro _ _ ⟨A16,n16,c16,rfl,rfl⟩;obtain ⟨q17,h⟩:=ad h
     refine iE (ar 2 0 J J ap J J Ex uE J J q17) fun A18 n18 c18=> ?_
     exact jN
    exact jY
   rintro _ _ ⟨p10,A10,n10,c10,h,rfl,rfl⟩;refine ae ?_;obtain ⟨q19,h⟩:=ad h;exact lY
  exact jY
 rintro _ _ ⟨p3,A3,n3,c3,h,rfl,rfl⟩;exact eY
theorem wr {r:Qq}: ∀v post,((fun (u:Value) (post:List Chunk)=> ∃A0 n0 c0,u=W A0 n0 c0/\post=[bS A0 n0 c0 r])) v post-> ∀c∈post,fu c:=by
 rintro _ _ ⟨_,_,_,rfl,rfl⟩;exact hU gr (ax)
def jW (N:Nat)(a0:Int):Option Bool:=
 (bif decide (0<a0) then (some (decide (a0.tmod 2=1))) else (some false)).bind fun b1=>some b1
theorem mo {N:Nat}{a0:Int}{r:Bool}(h:jW N a0=some r):Okc QB 161 [iV a0] ([]) (fun u post=>u=.bool r/\post=[]):=by
 refine cQ Tryz.func161 ?_;obtain ⟨b1,hb1,h⟩:=aa h;refine aQ 4 9 b1 ?_ ?_
 ·clear h;refine aM 5 J (fun g1=> ?_) (fun g1=> ?_)
  ·have h:=aE g1 hb1;refine ae ?_;refine su (ky J J (by decide)) J (bx g1 J) J ?_;exact gY
  have h:=aF g1 hb1;exact gY
 exact eY
theorem rJ {r:Bool}: ∀v post,((fun (u:Value) (post:List Chunk)=>u=.bool r/\post=[])) v post-> ∀c∈post,fu c:=by
 rintro _ _ ⟨rfl,rfl⟩;exact ax
def ug (N:Nat)(a0:Qg)(a1:Int):Option Bool:=
 bif decide (a1<1) then (some false) else ((jW N a1).bind fun y5=>bif y5 then (aZ (in64 (a1.tdiv 2)) (some (decide (a1.tdiv 2<(a0.Young.length:Int))))) else (aZ (in64 (a1.tdiv 2)) (aZ (in64 ((a1.tdiv 2) - 1)) (some (decide ((a1.tdiv 2) - 1<(a0.Old.length:Int)))))))
theorem CB {N:Nat}{a0:Qg}{a1:Int}{r:Bool}(h:ug N a0 a1=some r):Okc QB 166 [.agg #[W A1 n1 c1,W A2 n2 c2],iV a1] ([aK A1 n1 c1 a0.Young,aK A2 n2 c2 a0.Old]) (fun u post=>u=.bool r/\post=[]):=by
 refine cQ Tryz.func166 ?_;intro B3;refine sY ?_;refine gH J h ?_ ?_<;>intro h
 ·exact eY
 refine sY ?_;obtain ⟨y5,k,h⟩:=aa h;refine kw (oR (mo k)) ?_;refine gH J h ?_ ?_<;>intro h
 ·refine ae ?_;obtain ⟨q7,h⟩:=ad h;refine lh (kz J J (by decide) q7.1 q7.2) ?_;exact eN
 refine ae ?_;obtain ⟨q8,h⟩:=ad h;refine gE (kz J J (by decide) q8.1 q8.2) ?_;obtain ⟨q9,h⟩:=ad h;exact eY
theorem E8 {r:Bool}: ∀v post,((fun (u:Value) (post:List Chunk)=>u=.bool r/\post=[])) v post-> ∀c∈post,fu c:=by
 rintro _ _ ⟨rfl,rfl⟩;exact ax
def zm (N:Nat):Option Bool:=
 some true
def uN (N:Nat)(a1:Qq)(a0:Qg):Nat->Int->Option Bool
 |0,_=>none
 |m6+1,p7=>bif decide (p7<(a1.length:Int)) then ((aw a1 p7).bind fun x9=>(ug N a0 x9).bind fun y10=>bif !y10 then (some false) else (aZ (in64 (p7+1)) ((uN N a1 a0 m6) (p7+1)))) else (zm N)
def lQ (N:Nat)(a0:Qg)(a1:Qq):Option Bool:=
 uN N a1 a0 N 0
theorem qQ {N:Nat}{a0:Qg}{a1:Qq}{r:Bool}(h:lQ N a0 a1=some r):Okc QB 160 [.agg #[W A1 n1 c1,W A2 n2 c2],W A3 n3 c3] ([aK A1 n1 c1 a0.Young,aK A2 n2 c2 a0.Old,bV A3 n3 c3 a1]) (fun u post=>u=.bool r/\post=[]):=by
 refine cQ Tryz.func160 ?_;intro B4;refine ae ?_;refine am (fun s L=>zm N=some r/\s=[(4,.bool false)]/\L=[]) ?_ ?_
 ·refine ae ?_;refine aH (fun m s L=> ∃p7,uN N a1 a0 m p7=some r/\s=[(1,W A3 n3 c3),(2,pV B4 0),(4,.bool false),(5,iV p7)]/\L=[bV A3 n3 c3 a1,aK A1 n1 c1 a0.Young,aK A2 n2 c2 a0.Old,ah B4 29 [W A1 n1 c1,W A2 n2 c2]]) N _ _ ⟨0,h,J,J⟩ sA (cS [3,1,2,0] 4) ?_;rintro (_|m6) _ _ ⟨p7,h,rfl,rfl⟩
  ·exact aj h
  rw [uN.eq_2] at h;refine sZ ?_;refine gH J h ?_ ?_<;>intro h
  ·refine sY ?_;refine ay ?_;refine bm I _ (ab _) ?_;refine ae ?_;obtain ⟨x9,lx9,ux9,hx9,h⟩:=aU h;refine ae ?_;obtain ⟨y10,k,h⟩:=aa h;refine zD 5 J (oR (CB k)) ?_;rintro _ _ ⟨_,⟨rfl,rfl⟩,rfl⟩;refine ⟨_,ab _,ab _,?_⟩;refine ew h ?_ ?_<;>intro h
   ·exact eY
   refine ae ?_;obtain ⟨q12,h⟩:=ad h;exact lY
  exact jY
 rintro _ _ ⟨h,rfl,rfl⟩;exact eY
theorem rI {r:Bool}: ∀v post,((fun (u:Value) (post:List Chunk)=>u=.bool r/\post=[])) v post-> ∀c∈post,fu c:=by
 rintro _ _ ⟨rfl,rfl⟩;exact ax
end Go.Proofs.YthepenpebkjdfaaGreat