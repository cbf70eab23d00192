/- Merged texts: part 9. No conditions of their own. -/
import Derived.Test.YtmimkglhbmcokaaGreatG8
namespace Go.Proofs.YtmimkglhbmcokaaGreat
section
theorem Sx:type_of% Tryz.underlying195:=Tryz.underlying195
variable {A1 A2 A3 A4 A5 A6 A7 A8:Option Addr} {B1 B6 M7 c1 c2 c3 c4 c5 c6 c7 c8 n1 n2 n3 n4 n5 n6 n7 n8:Nat}
open Go.RowKit Asn
set_option maxRecDepth 20000
def xD (N:Nat)(p22:(List Int)):Option (List Int):=
 some p22
def mT (N:Nat)(kb23:(List Int)→Int→Option (List Int))(p25:Int)(a0:SD)(p28:(List Int)):Option (List Int):=
 bG (in64 (p25+1)) (kb23 p28 (p25+1))
def gU (N:Nat)(a0:SD):Nat→(List Int)→Int→Option (List Int)
 |0,_,_=>none
 |m23+1,p24,p25=>bif decide (p25<(a0.More.length:Int)) then ((aM a0.More p25).bind fun x29=>(qD N x29).bind fun y30=>(bif y30 then ((qY N a0.Kind p25).bind fun y32=>some (!y32)) else (some false)).bind fun b31=>bif b31 then ((aM a0.More p25).bind fun x34=>bG (bZ (p24.length+([x34.N]:List Int).length)) (mT N (gU N a0 m23) p25 a0 (p24++([x34.N]:List Int)))) else (mT N (gU N a0 m23) p25 a0 p24)) else (xD N p24)
def uc (N:Nat)(a0:SD)(p5:(List Int)):Option (List Int):=
 gU N a0 N p5 0
def mU (N:Nat)(kb6:(List Int)→Int→Option (List Int))(p8:Int)(a0:SD)(p12:(List Int)):Option (List Int):=
 bG (in64 (p8+1)) (kb6 p12 (p8+1))
def iX (N:Nat)(a0:SD):Nat→(List Int)→Int→Option (List Int)
 |0,_,_=>none
 |m6+1,p7,p8=>bif decide (p8<(a0.Slots.length:Int)) then ((aM a0.Slots p8).bind fun x13=>(qD N x13).bind fun y14=>bif y14 then ((aM a0.Slots p8).bind fun x16=>bG (bZ (p7.length+([x16.N]:List Int).length)) (mU N (iX N a0 m6) p8 a0 (p7++([x16.N]:List Int)))) else (mU N (iX N a0 m6) p8 a0 p7)) else (uc N a0 p7)
def jX (N:Nat)(a0:SD):Option (List Int):=
 iX N a0 N [] 0
theorem Gc {N:Nat}{a0:SD}{r:(List Int)}(h:jX N a0=some r):Okc Tryz.prog 131 [.agg #[iV a0.Kind,iV a0.Shape,iV a0.Flags,iV a0.Age,O A1 n1 c1,O A2 n2 c2]] ([bo A1 n1 c1 a0.Slots,bo A2 n2 c2 a0.More]) (fun u post=> ∃A0 n0 c0,u=O A0 n0 c0∧post=[dl A0 n0 c0 r]):=by
 refine bz Tryz.func131 U U ?_;simp only [aR];refine D ?_;refine gD (bd U U) ?_;rintro _ _ ⟨B3,rfl,rfl⟩;refine D ?_;refine aO (fun s L=> ∃p5 A5 n5 c5,uc N a0 p5=some r∧s=[(1,pV B3 0),(2,O none 0 0),(3,O A5 n5 c5)]∧L=[dl A5 n5 c5 p5,bo A1 n1 c1 a0.Slots,bo A2 n2 c2 a0.More,ax B3 47 [iV a0.Kind,iV a0.Shape,iV a0.Flags,iV a0.Age,O A1 n1 c1,O A2 n2 c2]]) ?_ ?_
 ·refine D ?_;refine bp (fun m s L=> ∃p7 p8 A7 n7 c7,iX N a0 m p7 p8=some r∧s=[(1,pV B3 0),(2,O none 0 0),(3,O A7 n7 c7),(4,iV p8)]∧L=[dl A7 n7 c7 p7,bo A1 n1 c1 a0.Slots,bo A2 n2 c2 a0.More,ax B3 47 [iV a0.Kind,iV a0.Shape,iV a0.Flags,iV a0.Age,O A1 n1 c1,O A2 n2 c2]]) N _ _ ⟨[],0,none,0,0,h,U,U⟩ sA ((ce (fW .i64) 3 _).trans (cS [0,2,3,1] 4)) ?_;rintro (_|m6) _ _ ⟨p7,p8,A7,n7,c7,h,rfl,rfl⟩
  ·exact aC h
  rw [iX.eq_2] at h;refine az ?_;refine D ?_;refine gR (aK 1 U aj U Sn) ?_;refine D ?_;refine av U (fun g10=> ?_) (fun g10=> ?_)
  ·replace h:=ae g10 h;refine D ?_;refine aO (fun s L=> ∃p12 A12 n12 c12,mU N (iX N a0 m6) p8 a0 p12=some r∧s=[(1,pV B3 0),(2,O none 0 0),(3,O A12 n12 c12),(4,iV p8)]∧L=[dl A12 n12 c12 p12,bo A1 n1 c1 a0.Slots,bo A2 n2 c2 a0.More,ax B3 47 [iV a0.Kind,iV a0.Shape,iV a0.Flags,iV a0.Age,O A1 n1 c1,O A2 n2 c2]]) ?_ ?_
   ·refine D ?_;obtain ⟨x13,hx13,h⟩:=aa h;obtain ⟨lx13,ux13,hx13⟩:=aq hx13;refine gR (aH 1 U aj U U Sn aP lx13 ux13) ?_;refine gR (bm (us:=[iV x13.Kind,iV x13.N,.string x13.S]) 1 U aj U hx13 bY (fun _ _ _ h=>by rw [show _=_ from h];rfl)) ?_;obtain ⟨y14,hy14,h⟩:=aa h;refine gD (ak (Do hy14) JQ U (ad) zc) ?_;rintro _ _ ⟨_,⟨rfl,rfl⟩,rfl⟩;refine D ?_;refine av U (fun g15=> ?_) (fun g15=> ?_)
    ·replace h:=ae g15 h;refine D ?_;obtain ⟨x16,hx16,h⟩:=aa h;obtain ⟨lx16,ux16,hx16⟩:=aq hx16;refine gR (aH 1 U aj U U Sn aP lx16 ux16) ?_;refine gR (nU 1 U aj U (bx lx16 ux16) jB) ?_;refine gR (aT (u:=iV x16.N) 1 U aj U hx16 cX (fun _ _ _ h=>by rw [show _=_ from h];rfl)) ?_;refine gD (bw (R:=(fW .i64)) (vss:=[[iV x16.N]]) (xs:=[x16.N]) U (iy _) U U (fun _ _ hr=> .cons U All2.nil)) ?_;rintro _ _ ⟨A17,n17,c17,rfl,rfl⟩;obtain ⟨q18,h⟩:=ap h;refine gD (bj 1 0 U U aF U U Sg Es U U q18) ?_;rintro _ _ ⟨A19,n19,c19,rfl,rfl⟩;refine D ?_;exact ⟨_,_,⟨p7++([x16.N]:List Int),A19,n19,c19,h,U,U⟩,sA,cS [1,2,3,4] 5⟩
    replace h:=ag g15 h;refine D ?_;exact ⟨_,_,⟨p7,A7,n7,c7,h,U,U⟩,sA,cS [0,1,2,3] 4⟩
   rintro _ _ ⟨p12,A12,n12,c12,h,rfl,rfl⟩;refine D ?_;obtain ⟨q20,h⟩:=ap h;refine gE (aU U U q20.1 q20.2) ?_;refine D ?_;exact ⟨m6,_,_,SP _,⟨p12,p8+1,A12,n12,c12,h,U,U⟩,sA,cS [0,1,2,3] 4⟩
  replace h:=ag g10 h;refine D ?_;exact ⟨_,_,⟨p7,A7,n7,c7,h,U,U⟩,sA,cS [0,1,2,3] 4⟩
 rintro _ _ ⟨p5,A5,n5,c5,h,rfl,rfl⟩;refine aO (fun s L=> ∃p22 A22 n22 c22,xD N p22=some r∧s=[(2,O none 0 0),(3,O A22 n22 c22)]∧L=[dl A22 n22 c22 p22]) ?_ ?_
 ·refine D ?_;refine bp (fun m s L=> ∃p24 p25 A24 n24 c24,gU N a0 m p24 p25=some r∧s=[(1,pV B3 0),(2,O none 0 0),(3,O A24 n24 c24),(5,iV p25)]∧L=[dl A24 n24 c24 p24,bo A1 n1 c1 a0.Slots,bo A2 n2 c2 a0.More,ax B3 47 [iV a0.Kind,iV a0.Shape,iV a0.Flags,iV a0.Age,O A1 n1 c1,O A2 n2 c2]]) N _ _ ⟨p5,0,A5,n5,c5,h,U,U⟩ sA (cS [0,1,2,3] 4) ?_;rintro (_|m23) _ _ ⟨p24,p25,A24,n24,c24,h,rfl,rfl⟩
  ·exact aC h
  rw [gU.eq_2] at h;refine az ?_;refine D ?_;refine gR (aK 2 U aj U Sn) ?_;refine D ?_;refine av U (fun g26=> ?_) (fun g26=> ?_)
  ·replace h:=ae g26 h;refine D ?_;refine aO (fun s L=> ∃p28 A28 n28 c28,mT N (gU N a0 m23) p25 a0 p28=some r∧s=[(1,pV B3 0),(2,O none 0 0),(3,O A28 n28 c28),(5,iV p25)]∧L=[dl A28 n28 c28 p28,bo A1 n1 c1 a0.Slots,bo A2 n2 c2 a0.More,ax B3 47 [iV a0.Kind,iV a0.Shape,iV a0.Flags,iV a0.Age,O A1 n1 c1,O A2 n2 c2]]) ?_ ?_
   ·refine D ?_;obtain ⟨x29,hx29,h⟩:=aa h;obtain ⟨lx29,ux29,hx29⟩:=aq hx29;refine gR (aH 2 U aj U U Sn aP lx29 ux29) ?_;refine gR (bm (us:=[iV x29.Kind,iV x29.N,.string x29.S]) 2 U aj U hx29 bY (fun _ _ _ h=>by rw [show _=_ from h];rfl)) ?_;obtain ⟨y30,hy30,h⟩:=aa h;refine gD (ak (Do hy30) JQ U (ad) zc) ?_;rintro _ _ ⟨_,⟨rfl,rfl⟩,rfl⟩;refine D ?_;obtain ⟨b31,hb31,h⟩:=aa h;refine aE 6 47 b31 ?_ ?_
    ·clear h;refine aB 41 U (fun g31=> ?_) (fun g31=> ?_)
     ·have h:=ae g31 hb31;refine D ?_;obtain ⟨y32,hy32,h⟩:=aa h;refine ca (ak (Hk hy32) OO U (ad) EB) U (aS g31 U) U ?_;rintro _ _ ⟨_,⟨rfl,rfl⟩,rfl⟩;refine D ?_;obtain rfl:=ao h;exact ab sA (cS [0,1,2,3] 4)
     have h:=ag g31 hb31;refine D ?_;obtain rfl:=ao h;exact ab sA (cS [0,1,2,3] 4)
    refine D ?_;refine av U (fun g33=> ?_) (fun g33=> ?_)
    ·replace h:=ae g33 h;refine D ?_;obtain ⟨x34,hx34,h⟩:=aa h;obtain ⟨lx34,ux34,hx34⟩:=aq hx34;refine gR (aH 2 U aj U U Sn aP lx34 ux34) ?_;refine gR (nU 2 U aj U (bx lx34 ux34) jB) ?_;refine gR (aT (u:=iV x34.N) 2 U aj U hx34 cX (fun _ _ _ h=>by rw [show _=_ from h];rfl)) ?_;refine gD (bw (R:=(fW .i64)) (vss:=[[iV x34.N]]) (xs:=[x34.N]) U (iy _) U U (fun _ _ hr=> .cons U All2.nil)) ?_;rintro _ _ ⟨A35,n35,c35,rfl,rfl⟩;obtain ⟨q36,h⟩:=ap h;refine gD (bj 1 0 U U aF U U Sg Es U U q36) ?_;rintro _ _ ⟨A37,n37,c37,rfl,rfl⟩;refine D ?_;exact ⟨_,_,⟨p24++([x34.N]:List Int),A37,n37,c37,h,U,U⟩,sA,cS [1,2,3,4] 5⟩
    replace h:=ag g33 h;refine D ?_;exact ⟨_,_,⟨p24,A24,n24,c24,h,U,U⟩,sA,cS [0,1,2,3] 4⟩
   rintro _ _ ⟨p28,A28,n28,c28,h,rfl,rfl⟩;refine D ?_;obtain ⟨q38,h⟩:=ap h;refine gE (aU U U q38.1 q38.2) ?_;refine D ?_;exact ⟨m23,_,_,SP _,⟨p28,p25+1,A28,n28,c28,h,U,U⟩,sA,cS [0,1,2,3] 4⟩
  replace h:=ag g26 h;refine D ?_;exact ⟨_,_,⟨p24,A24,n24,c24,h,U,U⟩,sA,cS [0] 4⟩
 rintro _ _ ⟨p22,A22,n22,c22,h,rfl,rfl⟩;refine D ?_;obtain rfl:=ao h;exact aD U U (cS [0] 1) ⟨_,_,_,U,U⟩
theorem Dr {r:(List Int)}: ∀v post,((fun (u:Value) (post:List Chunk)=> ∃A0 n0 c0,u=O A0 n0 c0∧post=[dl A0 n0 c0 r])) v post→ ∀c∈post,cn c:=by
 rintro _ _ ⟨_,_,_,rfl,rfl⟩;exact Ex bJ (ad)
def vC (N:Nat)(p6:(List Int)):Option (List Int):=
 some p6
def lH (N:Nat)(a0:SB):Nat→(List Int)→Int→Option (List Int)
 |0,_,_=>none
 |m7+1,p8,p9=>bif decide (p9<(p8.length:Int)) then ((aM p8 p9).bind fun x11=>(nX N a0 x11).bind fun y12=>(jX N y12).bind fun y17=>(nz N a0 p8 y17).bind fun y20=>bG (in64 (p9+1)) ((lH N a0 m7) y20 (p9+1))) else (vC N p8)
def gQ (N:Nat)(a0:SB)(a1:(List Int))(a2:Int):Option (List Int):=
 lH N a0 N a1 a2
theorem vz {N:Nat}{a0:SB}{a1:(List Int)}{a2:Int}{r:(List Int)}(h:gQ N a0 a1 a2=some r):Okc Tryz.prog 105 [.agg #[O A1 n1 c1,O A2 n2 c2],O A3 n3 c3,iV a2] ([bC A1 n1 c1 a0.Young,bC A2 n2 c2 a0.Old,dl A3 n3 c3 a1]) (fun u post=> ∃A0 n0 c0,u=O A0 n0 c0∧post=[dl A0 n0 c0 r]):=by
 refine bz Tryz.func105 U U ?_;simp only [aR];refine D ?_;refine gD (bd U U) ?_;rintro _ _ ⟨B4,rfl,rfl⟩;refine D ?_;refine aO (fun s L=> ∃p6 A6 n6 c6,vC N p6=some r∧s=[(1,O A6 n6 c6),(6,O none 0 0)]∧L=[dl A6 n6 c6 p6]) ?_ ?_
 ·refine D ?_;refine bp (fun m s L=> ∃p8 p9 A8 n8 c8,lH N a0 m p8 p9=some r∧s=[(1,O A8 n8 c8),(3,pV B4 0),(6,O none 0 0),(7,iV p9)]∧L=[dl A8 n8 c8 p8,bC A1 n1 c1 a0.Young,bC A2 n2 c2 a0.Old,ax B4 36 [O A1 n1 c1,O A2 n2 c2]]) N _ _ ⟨a1,a2,A3,n3,c3,h,U,U⟩ sA (cS [3,1,2,0] 4) ?_;rintro (_|m7) _ _ ⟨p8,p9,A8,n8,c8,h,rfl,rfl⟩
  ·exact aC h
  rw [lH.eq_2] at h;refine az ?_;refine D ?_;refine gR (aK 0 U aF U Sg) ?_;refine D ?_;refine av U (fun g10=> ?_) (fun g10=> ?_)
  ·replace h:=ae g10 h;refine D ?_;refine az ?_;refine iE ?_;obtain ⟨x11,hx11,h⟩:=aa h;obtain ⟨lx11,ux11,hx11⟩:=aq hx11;obtain ⟨y12,hy12,h⟩:=aa h;obtain ⟨y17,hy17,h⟩:=aa h;refine gZ (t:=[(1,O A8 n8 c8),(3,pV B4 0),(6,O none 0 0),(7,iV p9)]) ?_ md (ah _)
   refine jh Y 9 [] [0,1,8] [15,16,17,18,19,20,21,22,23] [[],[],[],[],[],[3,4],[5],[2,6],[7]] [aV (.agg #[O A1 n1 c1,O A2 n2 c2]),
 aV (O A8 n8 c8),
 aV (.agg #[O A1 n1 c1,O A2 n2 c2]),
 aV (O A8 n8 c8),
 aV (iV p9),
 aV (eX (O A8 n8 c8) p9.toNat 1 0),
 aV (iV x11),
 aX6 (fun (A15:Option Addr) (n15 c15:Nat) (A16:Option Addr) (n16 c16:Nat)=> .agg #[iV y12.Kind,iV y12.Shape,iV y12.Flags,iV y12.Age,O A15 n15 c15,O A16 n16 c16]) (fun A15 n15 c15 A16 n16 c16=> [bo A15 n15 c15 y12.Slots,bo A16 n16 c16 y12.More]),
 aX3 (fun (A19:Option Addr) (n19 c19:Nat)=> O A19 n19 c19) (fun A19 n19 c19=> [dl A19 n19 c19 y17])] [] (ah _) (lK) Y rfl rfl ?_ ?_ ?_
   ·exact lJ
   ·refine ai U ?_ ?_
    ·intro A15 n15 c15 A16 n16 c16;refine nL (ak (Gc hy17) Pg U (Ex (ac (i:=0) U U) (Ex (ac (i:=1) U U) ad)) Dr) U ?_;rintro _ _ ⟨_,⟨A18,n18,c18,rfl,rfl⟩,rfl⟩;exact Ci A18 n18 c18 (ah _)
    refine ai U ?_ ?_
    ·refine nL (aX (wF hy12) GH U (aJ [1,2] [] [0,1,2,3] 4 U)) U ?_;rintro _ _ ⟨_,⟨A13,n13,c13,A14,n14,c14,rfl,rfl⟩,rfl⟩;exact HR A13 n13 c13 A14 n14 c14 (ah _)
    refine ai U ?_ ?_
    ·exact dM (aT (u:=iV x11) 0 U aF U hx11 cX (fun _ _ _ h=>by rw [show _=_ from h];rfl)) U (bn U (ah _))
    refine ai U ?_ ?_
    ·exact dM (aH 0 U aF U U Sg dp lx11 ux11) U (bn U (ah _))
    refine ai U ?_ ?_
    ·exact cK (ay U) U (bn U (ah _))
    refine ai U ?_ ?_
    ·exact cK (ay U) U (bn U (ah _))
    refine ai U ?_ ?_
    ·exact dM (aA (us:=[O A1 n1 c1,O A2 n2 c2]) 3 U U cU U) U (bn U (ah _))
    refine ai U ?_ ?_
    ·exact cK (ay U) U (bn U (ah _))
    refine ai U ?_ ?_
    ·exact dM (aA (us:=[O A1 n1 c1,O A2 n2 c2]) 3 U U cU U) U (bn U (ah _))
    exact eH
   intro A19 n19 c19;refine mG (t:=[(15,.agg #[O A1 n1 c1,O A2 n2 c2]),(16,O A8 n8 c8),(23,O A19 n19 c19),(1,O A8 n8 c8),(3,pV B4 0),(6,O none 0 0),(7,iV p9)]) (L':=[dl A19 n19 c19 y17,dl A8 n8 c8 p8,bC A1 n1 c1 a0.Young,bC A2 n2 c2 a0.Old,ax B4 36 [O A1 n1 c1,O A2 n2 c2]]) ?_ md (ah _);refine mG ?_ bU (ck 0 U);obtain ⟨y20,hy20,h⟩:=aa h;refine rN 9 U Y (aX (ya hy20) GP U (aJ [2,3,0] [1] [0,2,3,4] 5 U)) U U U ?_;rintro _ _ ⟨_,⟨A21,n21,c21,rfl,rfl⟩,rfl⟩;refine Ck 10 U Y (aI U) U U U ?_;refine ma Y ?_;refine D ?_;obtain ⟨q22,h⟩:=ap h;refine gE (aU U U q22.1 q22.2) ?_;refine D ?_;exact ⟨m7,_,_,SP _,⟨y20,p9+1,A21,n21,c21,h,U,U⟩,sA,cS [0,2,3,4] 5⟩
  replace h:=ag g10 h;refine D ?_;exact ⟨_,_,⟨p8,A8,n8,c8,h,U,U⟩,sA,cS [0] 4⟩
 rintro _ _ ⟨p6,A6,n6,c6,h,rfl,rfl⟩;refine D ?_;obtain rfl:=ao h;exact aD U U (cS [0] 1) ⟨_,_,_,U,U⟩
def vF (N:Nat)(a0:SD):Option Bool:=
 (bif decide (a0.Kind=8) then ((cY N a0).bind fun y5=>some y5) else (some false)).bind fun b4=>some b4
theorem E0 {N:Nat}{a0:SD}{r:Bool}(h:vF N a0=some r):Okc Tryz.prog 182 [.agg #[iV a0.Kind,iV a0.Shape,iV a0.Flags,iV a0.Age,O A1 n1 c1,O A2 n2 c2]] ([bo A1 n1 c1 a0.Slots,bo A2 n2 c2 a0.More]) (fun u post=>u=.bool r∧post=[]):=by
 refine bz Tryz.func182 U U ?_;simp only [aR];refine D ?_;refine gD (bd U U) ?_;rintro _ _ ⟨B3,rfl,rfl⟩;refine D ?_;obtain ⟨b4,hb4,h⟩:=aa h;refine aE 3 9 b4 ?_ ?_
 ·clear h;refine aB 6 U (fun g4=> ?_) (fun g4=> ?_)
  ·have h:=ae g4 hb4;refine bM (aA (us:=[iV a0.Kind,iV a0.Shape,iV a0.Flags,iV a0.Age,O A1 n1 c1,O A2 n2 c2]) 0 U U bh U) U (aS g4 U) U ?_;obtain ⟨y5,hy5,h⟩:=aa h;refine ca (ak (ub hy5) GO U (Ex (ac (i:=1) U U) (Ex (ac (i:=2) U U) ad)) qZ) U (aS g4 U) U ?_;rintro _ _ ⟨_,⟨rfl,rfl⟩,rfl⟩;refine D ?_;obtain rfl:=ao h;exact ab sA (cS [0,1,2] 3)
  have h:=ag g4 hb4;refine D ?_;obtain rfl:=ao h;exact ab sA (cS [0,1,2] 3)
 refine D ?_;obtain rfl:=ao h;exact aD U U (cS [] 3) ⟨U,U⟩
theorem Bz {r:Bool}: ∀v post,((fun (u:Value) (post:List Chunk)=>u=.bool r∧post=[])) v post→ ∀c∈post,cn c:=by
 rintro _ _ ⟨rfl,rfl⟩;exact ad
def E2 (N:Nat):Option Bool:=
 some false
def wG (N:Nat)(a0:Int)(a1:(List Int)):Nat→Int→Option Bool
 |0,_=>none
 |m3+1,p4=>bif decide (p4<(a1.length:Int)) then ((aM a1 p4).bind fun x6=>bif decide (x6=a0) then (some true) else (bG (in64 (p4+1)) ((wG N a0 a1 m3) (p4+1)))) else (E2 N)
def tu (N:Nat)(a0:Int)(a1:(List Int)):Option Bool:=
 wG N a0 a1 N 0
theorem E1 {N:Nat}{a0:Int}{a1:(List Int)}{r:Bool}(h:tu N a0 a1=some r):Okc Tryz.prog 55 [iV a0,O A1 n1 c1] ([dw A1 n1 c1 a1]) (fun u post=>u=.bool r∧post=[]):=by
 refine bz Tryz.func55 U U ?_;simp only [aR];refine D ?_;refine aO (fun s L=>E2 N=some r∧s=[(4,.bool false)]∧L=[]) ?_ ?_
 ·refine D ?_;refine bp (fun m s L=> ∃p4,wG N a0 a1 m p4=some r∧s=[(0,iV a0),(1,O A1 n1 c1),(4,.bool false),(5,iV p4)]∧L=[dw A1 n1 c1 a1]) N _ _ ⟨0,h,U,U⟩ sA (cS [0] 1) ?_;rintro (_|m3) _ _ ⟨p4,h,rfl,rfl⟩
  ·exact aC h
  rw [wG.eq_2] at h;refine az ?_;refine D ?_;refine gR (aK 0 U aj U Sg) ?_;refine D ?_;refine av U (fun g5=> ?_) (fun g5=> ?_)
  ·replace h:=ae g5 h;refine D ?_;refine az ?_;refine D ?_;obtain ⟨x6,hx6,h⟩:=aa h;obtain ⟨lx6,ux6,hx6⟩:=aq hx6;refine gR (aH 0 U aj U U Sg dp lx6 ux6) ?_;refine gR (aT (u:=iV x6) 0 U aj U hx6 cX (fun _ _ _ h=>by rw [show _=_ from h];rfl)) ?_;refine D ?_;refine av U (fun g7=> ?_) (fun g7=> ?_)
   ·replace h:=ae g7 h;refine D ?_;obtain rfl:=ao h;exact aD U U (cS [] 1) ⟨U,U⟩
   replace h:=ag g7 h;refine D ?_;obtain ⟨q8,h⟩:=ap h;refine gE (aU U U q8.1 q8.2) ?_;refine D ?_;exact ⟨m3,_,_,SP _,⟨p4+1,h,U,U⟩,sA,cS [0] 1⟩
  replace h:=ag g5 h;refine D ?_;exact ⟨_,_,⟨h,U,U⟩,sA,cS [] 1⟩
 rintro _ _ ⟨h,rfl,rfl⟩;refine D ?_;obtain rfl:=ao h;exact aD U U (cS [] 0) ⟨U,U⟩
theorem BA {r:Bool}: ∀v post,((fun (u:Value) (post:List Chunk)=>u=.bool r∧post=[])) v post→ ∀c∈post,cn c:=by
 rintro _ _ ⟨rfl,rfl⟩;exact ad
def t8 (N:Nat)(p6:(List Int)):Option (List Int):=
 some p6
def o9 (N:Nat)(kb7:(List Int)→Int→Option (List Int))(p9:Int)(a1:(List Int))(a0:SD)(p15:(List Int)):Option (List Int):=
 bG (in64 (p9+2)) (kb7 p15 (p9+2))
def mi (N:Nat)(a1:(List Int))(a0:SD):Nat→(List Int)→Int→Option (List Int)
 |0,_,_=>none
 |m7+1,p8,p9=>(vF N a0).bind fun y11=>(bif y11 then (some (decide (p9<(a0.More.length:Int)))) else (some false)).bind fun b12=>bif b12 then (bG (in64 (p9+1)) ((aM a0.More (p9+1)).bind fun x17=>(aM a0.More p9).bind fun x19=>(tu N x19.N a1).bind fun y20=>(bif y20 then ((bif decide (x17.Kind=7) then (some true) else (some (decide (x17.Kind=9)))).bind fun b22=>some b22) else (some false)).bind fun b21=>bif b21 then (bG (bZ (p8.length+([x17.N]:List Int).length)) (o9 N (mi N a1 a0 m7) p9 a1 a0 (p8++([x17.N]:List Int)))) else (o9 N (mi N a1 a0 m7) p9 a1 a0 p8))) else (t8 N p8)
def sc (N:Nat)(a0:SD)(a1:(List Int)):Option (List Int):=
 mi N a1 a0 N [] 0
theorem F8 {N:Nat}{a0:SD}{a1:(List Int)}{r:(List Int)}(h:sc N a0 a1=some r):Okc Tryz.prog 110 [.agg #[iV a0.Kind,iV a0.Shape,iV a0.Flags,iV a0.Age,O A1 n1 c1,O A2 n2 c2],O A3 n3 c3] ([bo A1 n1 c1 a0.Slots,bo A2 n2 c2 a0.More,dw A3 n3 c3 a1]) (fun u post=> ∃A0 n0 c0,u=O A0 n0 c0∧post=[dl A0 n0 c0 r]):=by
 refine bz Tryz.func110 U U ?_;simp only [aR];refine D ?_;refine gD (bd U U) ?_;rintro _ _ ⟨B4,rfl,rfl⟩;refine D ?_;refine aO (fun s L=> ∃p6 A6 n6 c6,t8 N p6=some r∧s=[(4,O none 0 0),(5,O A6 n6 c6)]∧L=[dl A6 n6 c6 p6]) ?_ ?_
 ·refine D ?_;refine bp (fun m s L=> ∃p8 p9 A8 n8 c8,mi N a1 a0 m p8 p9=some r∧s=[(1,O A3 n3 c3),(2,pV B4 0),(4,O none 0 0),(5,O A8 n8 c8),(6,iV p9)]∧L=[dw A3 n3 c3 a1,dl A8 n8 c8 p8,bo A1 n1 c1 a0.Slots,bo A2 n2 c2 a0.More,ax B4 47 [iV a0.Kind,iV a0.Shape,iV a0.Flags,iV a0.Age,O A1 n1 c1,O A2 n2 c2]]) N _ _ ⟨[],0,none,0,0,h,U,U⟩ sA ((ce (fW .i64) 3 _).trans (cS [4,0,2,3,1] 5)) ?_;rintro (_|m7) _ _ ⟨p8,p9,A8,n8,c8,h,rfl,rfl⟩
  ·exact aC h
  rw [mi.eq_2] at h;refine az ?_;refine D ?_;refine gR (aA (us:=[iV a0.Kind,iV a0.Shape,iV a0.Flags,iV a0.Age,O A1 n1 c1,O A2 n2 c2]) 4 U U bh U) ?_;obtain ⟨y11,hy11,h⟩:=aa h;refine gD (ak (E0 hy11) JU U (Ex (ac (i:=2) U U) (Ex (ac (i:=3) U U) ad)) Bz) ?_;rintro _ _ ⟨_,⟨rfl,rfl⟩,rfl⟩;refine D ?_;obtain ⟨b12,hb12,h⟩:=aa h;refine aE 6 16 b12 ?_ ?_
  ·clear h;refine aB 10 U (fun g12=> ?_) (fun g12=> ?_)
   ·have h:=ae g12 hb12;refine D ?_;refine bM (aK 3 U aj U Sn) U (aS g12 U) U ?_;refine D ?_;obtain rfl:=ao h;exact ab sA (cS [0,1,2,3,4] 5)
   have h:=ag g12 hb12;refine D ?_;obtain rfl:=ao h;exact ab sA (cS [0,1,2,3,4] 5)
  refine D ?_;refine av U (fun g13=> ?_) (fun g13=> ?_)
  ·replace h:=ae g13 h;refine D ?_;refine aO (fun s L=> ∃p15 A15 n15 c15,o9 N (mi N a1 a0 m7) p9 a1 a0 p15=some r∧s=[(1,O A3 n3 c3),(2,pV B4 0),(4,O none 0 0),(5,O A15 n15 c15),(6,iV p9)]∧L=[dw A3 n3 c3 a1,dl A15 n15 c15 p15,bo A1 n1 c1 a0.Slots,bo A2 n2 c2 a0.More,ax B4 47 [iV a0.Kind,iV a0.Shape,iV a0.Flags,iV a0.Age,O A1 n1 c1,O A2 n2 c2]]) ?_ ?_
   ·refine D ?_;obtain ⟨q16,h⟩:=ap h;refine gE (aU U U q16.1 q16.2) ?_;obtain ⟨x17,hx17,h⟩:=aa h;obtain ⟨lx17,ux17,hx17⟩:=aq hx17;refine gR (aH 3 U aj U U Sn aP lx17 ux17) ?_;refine gR (bm (us:=[iV x17.Kind,iV x17.N,.string x17.S]) 3 U aj U hx17 bY (fun _ _ _ h=>by rw [show _=_ from h];rfl)) ?_;refine gD (aN jD U) ?_;rintro _ _ ⟨B18,rfl,rfl⟩;refine gO (au (us:=[iV x17.Kind,iV x17.N,.string x17.S]) (cs':=[iV x17.Kind,iV x17.N,.string x17.S]) 0 U U U U aP U U U) ?_;rintro _ _ rfl;refine D ?_;obtain ⟨x19,hx19,h⟩:=aa h;obtain ⟨lx19,ux19,hx19⟩:=aq hx19;refine gR (aH 4 U aj U U Sn aP lx19 ux19) ?_;refine gR (nU 4 U aj U (bx lx19 ux19) jB) ?_;refine gR (aT (u:=iV x19.N) 4 U aj U hx19 cX (fun _ _ _ h=>by rw [show _=_ from h];rfl)) ?_;refine D ?_;obtain ⟨y20,hy20,h⟩:=aa h;refine gD (ak (E1 hy20) Np U (Ex (ac (i:=1) U U) ad) BA) ?_;rintro _ _ ⟨_,⟨rfl,rfl⟩,rfl⟩;refine D ?_;obtain ⟨b21,hb21,h⟩:=aa h;refine aE 9 42 b21 ?_ ?_
    ·clear h;refine aB 33 U (fun g21=> ?_) (fun g21=> ?_)
     ·have h:=ae g21 hb21;refine D ?_;obtain ⟨b22,hb22,h⟩:=aa h;refine aE 4 41 b22 ?_ ?_
      ·clear h;refine aB 37 U (fun g22=> ?_) (fun g22=> ?_)
       ·have h:=ae g22 hb22;refine D ?_;obtain rfl:=ao h;exact ab sA (cS [0,1,2,3,4,5] 6)
       have h:=ag g22 hb22;refine D ?_;obtain rfl:=ao h;exact ab sA (cS [0,1,2,3,4,5] 6)
      refine D ?_;obtain rfl:=ao h;exact ab sA (cS [0,1,2,3,4,5] 6)
     have h:=ag g21 hb21;refine D ?_;obtain rfl:=ao h;exact ab sA (cS [0,1,2,3,4,5] 6)
    refine D ?_;refine av U (fun g23=> ?_) (fun g23=> ?_)
    ·replace h:=ae g23 h;refine D ?_;refine gD (bw (R:=(fW .i64)) (vss:=[[iV x17.N]]) (xs:=[x17.N]) U (iy _) U U (fun _ _ hr=> .cons U All2.nil)) ?_;rintro _ _ ⟨A24,n24,c24,rfl,rfl⟩;obtain ⟨q25,h⟩:=ap h;refine gD (bj 3 0 U U aF U U Sg Es U U q25) ?_;rintro _ _ ⟨A26,n26,c26,rfl,rfl⟩;refine D ?_;exact ⟨_,_,⟨p8++([x17.N]:List Int),A26,n26,c26,h,U,U⟩,sA,cS [2,3,4,5,6] 7⟩
    replace h:=ag g23 h;refine D ?_;exact ⟨_,_,⟨p8,A8,n8,c8,h,U,U⟩,sA,cS [1,2,3,4,5] 6⟩
   rintro _ _ ⟨p15,A15,n15,c15,h,rfl,rfl⟩;refine D ?_;obtain ⟨q27,h⟩:=ap h;refine gE (aU U U q27.1 q27.2) ?_;refine D ?_;exact ⟨m7,_,_,SP _,⟨p15,p9+2,A15,n15,c15,h,U,U⟩,sA,cS [0,1,2,3,4] 5⟩
  replace h:=ag g13 h;refine D ?_;exact ⟨_,_,⟨p8,A8,n8,c8,h,U,U⟩,sA,cS [1] 5⟩
 rintro _ _ ⟨p6,A6,n6,c6,h,rfl,rfl⟩;refine D ?_;obtain rfl:=ao h;exact aD U U (cS [0] 1) ⟨_,_,_,U,U⟩
theorem Dl {r:(List Int)}: ∀v post,((fun (u:Value) (post:List Chunk)=> ∃A0 n0 c0,u=O A0 n0 c0∧post=[dl A0 n0 c0 r])) v post→ ∀c∈post,cn c:=by
 rintro _ _ ⟨_,_,_,rfl,rfl⟩;exact Ex bJ (ad)
def sO (N:Nat)(kb12:(List Int)→Option (List Int))(p13:(List Int))(a0:SB)(p15:(List Int)):Option (List Int):=
 bif decide ((p15.length:Int)=(p13.length:Int)) then (some p15) else ((gQ N a0 p15 (p13.length:Int)).bind fun y33=>kb12 y33)
def kN (N:Nat)(kb12:(List Int)→Option (List Int))(p13:(List Int))(a0:SB):Nat→(List Int)→Int→Option (List Int)
 |0,_,_=>none
 |m16+1,p17,p18=>bif decide (p18<(p13.length:Int)) then ((aM p17 p18).bind fun x20=>(nX N a0 x20).bind fun y21=>(sc N y21 p17).bind fun y26=>(nz N a0 p17 y26).bind fun y29=>bG (in64 (p18+1)) ((kN N kb12 p13 a0 m16) y29 (p18+1))) else (sO N kb12 p13 a0 p17)
def eY (N:Nat)(a0:SB):Nat→(List Int)→Option (List Int)
 |0,_=>none
 |m12+1,p13=>kN N (eY N a0 m12) p13 a0 N p13 0
def iT (N:Nat)(a0:SB)(a1:(List SG)):Option (List Int):=
 (gu N a1).bind fun y5=>(nz N a0 ([]:List Int) y5).bind fun y8=>(gQ N a0 y8 0).bind fun y10=>eY N a0 N y10
theorem F6 {N:Nat}{a0:SB}{a1:(List SG)}{r:(List Int)}(h:iT N a0 a1=some r):Okc Tryz.prog 40 [.agg #[O A1 n1 c1,O A2 n2 c2],O A3 n3 c3] ([bC A1 n1 c1 a0.Young,bC A2 n2 c2 a0.Old,bo A3 n3 c3 a1]) (fun u post=> ∃A0 n0 c0,u=O A0 n0 c0∧post=[dl A0 n0 c0 r]):=by
 refine bz Tryz.func40 U U ?_;simp only [aR];refine D ?_;refine gD (bd U U) ?_;rintro _ _ ⟨B4,rfl,rfl⟩;refine D ?_;refine az ?_;refine cv Y _ (ah _) ?_;refine zR 0 U (aA (us:=[O A1 n1 c1,O A2 n2 c2]) 0 U U cU U) ?_;refine zR 1 U (aA (us:=[O A1 n1 c1,O A2 n2 c2]) 0 U U cU U) ?_;refine zE 2 U (ay U) ?_;obtain ⟨y5,hy5,h⟩:=aa h;refine zD 3 U (ak (AI hy5) Pp U (Ex (ac (i:=3) U U) ad) yb) ?_;rintro _ _ ⟨_,⟨A6,n6,c6,rfl,rfl⟩,rfl⟩;refine bN (cS [1,2,3,4] 5) ?_;refine ws (ce (fW .i64) 3 _) (cS [2,3,4,5] 6) ?_;refine ws (ck 1 U) (cS [2,3,4,5] 6) ?_;obtain ⟨y8,hy8,h⟩:=aa h;refine zD 4 U (aX (ya hy8) GP U (aJ [3,4,1] [0] [1,2,3,4,5] 6 U)) ?_;rintro _ _ ⟨_,⟨A9,n9,c9,rfl,rfl⟩,rfl⟩;refine bN (cS [2,3,4,5] 6) ?_;obtain ⟨y10,hy10,h⟩:=aa h;refine zD 5 U (aX (vz hy10) Ka U (aJ [3,4] [0] [1,2,3,4,5] 6 U)) ?_;rintro _ _ ⟨_,⟨A11,n11,c11,rfl,rfl⟩,rfl⟩;refine bN (cS [2,3,4,5] 6) ?_;refine zE 6 U (aI U) ?_;refine bH Y ?_;refine D ?_;refine bp (fun m s L=> ∃p13 A13 n13 c13,eY N a0 m p13=some r∧s=[(2,pV B4 0),(4,O none 0 0),(5,O A13 n13 c13)]∧L=[dl A13 n13 c13 p13,bC A1 n1 c1 a0.Young,bC A2 n2 c2 a0.Old,ax B4 36 [O A1 n1 c1,O A2 n2 c2]]) N _ _ ⟨y10,A11,n11,c11,h,U,U⟩ sA (cS [0,3,4,2] 6) ?_;rintro (_|m12) _ _ ⟨p13,A13,n13,c13,h,rfl,rfl⟩
 ·exact aC h
 rw [eY.eq_2] at h;refine D ?_;refine gR (aK 0 U aF U Sg) ?_;refine D ?_;refine aO (fun s L=> ∃p15 A15 n15 c15,sO N (eY N a0 m12) p13 a0 p15=some r∧s=[(2,pV B4 0),(4,O none 0 0),(5,O A15 n15 c15),(6,iV (p13.length:Int))]∧L=[dl A15 n15 c15 p15,bC A1 n1 c1 a0.Young,bC A2 n2 c2 a0.Old,ax B4 36 [O A1 n1 c1,O A2 n2 c2]]) ?_ ?_
 ·refine D ?_;refine bp (fun m s L=> ∃p17 p18 A17 n17 c17,kN N (eY N a0 m12) p13 a0 m p17 p18=some r∧s=[(2,pV B4 0),(4,O none 0 0),(5,O A17 n17 c17),(6,iV (p13.length:Int)),(7,iV p18)]∧L=[dl A17 n17 c17 p17,bC A1 n1 c1 a0.Young,bC A2 n2 c2 a0.Old,ax B4 36 [O A1 n1 c1,O A2 n2 c2]]) N _ _ ⟨p13,0,A13,n13,c13,h,U,U⟩ sA (cS [0,1,2,3] 4) ?_;rintro (_|m16) _ _ ⟨p17,p18,A17,n17,c17,h,rfl,rfl⟩
  ·exact aC h
  rw [kN.eq_2] at h;refine az ?_;refine D ?_;refine av U (fun g19=> ?_) (fun g19=> ?_)
  ·replace h:=ae g19 h;refine D ?_;refine az ?_;refine iE ?_;obtain ⟨x20,hx20,h⟩:=aa h;obtain ⟨lx20,ux20,hx20⟩:=aq hx20;obtain ⟨y21,hy21,h⟩:=aa h;obtain ⟨y26,hy26,h⟩:=aa h;refine gZ (t:=[(2,pV B4 0),(4,O none 0 0),(5,O A17 n17 c17),(6,iV (p13.length:Int)),(7,iV p18)]) ?_ md (ah _)
   refine jh Y 10 [] [0,1,9] [21,22,23,24,25,26,27,28,29,30] [[],[],[],[],[],[3,4],[5],[2,6],[],[7,8]] [aV (.agg #[O A1 n1 c1,O A2 n2 c2]),
 aV (O A17 n17 c17),
 aV (.agg #[O A1 n1 c1,O A2 n2 c2]),
 aV (O A17 n17 c17),
 aV (iV p18),
 aV (eX (O A17 n17 c17) p18.toNat 1 0),
 aV (iV x20),
 aX6 (fun (A24:Option Addr) (n24 c24:Nat) (A25:Option Addr) (n25 c25:Nat)=> .agg #[iV y21.Kind,iV y21.Shape,iV y21.Flags,iV y21.Age,O A24 n24 c24,O A25 n25 c25]) (fun A24 n24 c24 A25 n25 c25=> [bo A24 n24 c24 y21.Slots,bo A25 n25 c25 y21.More]),
 aV (O A17 n17 c17),
 aX3 (fun (A28:Option Addr) (n28 c28:Nat)=> O A28 n28 c28) (fun A28 n28 c28=> [dl A28 n28 c28 y26])] [] (ah _) (lK) Y rfl rfl ?_ ?_ ?_
   ·exact lJ
   ·refine ai U ?_ ?_
    ·intro A24 n24 c24 A25 n25 c25;refine nL (ak (F8 hy26) Pj U (Ex (ac (i:=0) U U) (Ex (ac (i:=1) U U) (Ex (ar (i:=2) U) ad))) Dl) U ?_;rintro _ _ ⟨_,⟨A27,n27,c27,rfl,rfl⟩,rfl⟩;exact Ci A27 n27 c27 (ah _)
    refine ai U ?_ ?_
    ·exact cK (ay U) U (bn U (ah _))
    refine ai U ?_ ?_
    ·refine nL (aX (wF hy21) GH U (aJ [1,2] [] [0,1,2,3] 4 U)) U ?_;rintro _ _ ⟨_,⟨A22,n22,c22,A23,n23,c23,rfl,rfl⟩,rfl⟩;exact HR A22 n22 c22 A23 n23 c23 (ah _)
    refine ai U ?_ ?_
    ·exact dM (aT (u:=iV x20) 0 U aF U hx20 cX (fun _ _ _ h=>by rw [show _=_ from h];rfl)) U (bn U (ah _))
    refine ai U ?_ ?_
    ·exact dM (aH 0 U aF U U Sg dp lx20 ux20) U (bn U (ah _))
    refine ai U ?_ ?_
    ·exact cK (ay U) U (bn U (ah _))
    refine ai U ?_ ?_
    ·exact cK (ay U) U (bn U (ah _))
    refine ai U ?_ ?_
    ·exact dM (aA (us:=[O A1 n1 c1,O A2 n2 c2]) 3 U U cU U) U (bn U (ah _))
    refine ai U ?_ ?_
    ·exact cK (ay U) U (bn U (ah _))
    refine ai U ?_ ?_
    ·exact dM (aA (us:=[O A1 n1 c1,O A2 n2 c2]) 3 U U cU U) U (bn U (ah _))
    exact eH
   intro A28 n28 c28;refine mG (t:=[(21,.agg #[O A1 n1 c1,O A2 n2 c2]),(22,O A17 n17 c17),(30,O A28 n28 c28),(2,pV B4 0),(4,O none 0 0),(5,O A17 n17 c17),(6,iV (p13.length:Int)),(7,iV p18)]) (L':=[dl A28 n28 c28 y26,dl A17 n17 c17 p17,bC A1 n1 c1 a0.Young,bC A2 n2 c2 a0.Old,ax B4 36 [O A1 n1 c1,O A2 n2 c2]]) ?_ md (ah _);refine mG ?_ bU (ck 0 U);obtain ⟨y29,hy29,h⟩:=aa h;refine rN 10 U Y (aX (ya hy29) GP U (aJ [2,3,0] [1] [0,2,3,4] 5 U)) U U U ?_;rintro _ _ ⟨_,⟨A30,n30,c30,rfl,rfl⟩,rfl⟩;refine Ck 11 U Y (aI U) U U U ?_;refine ma Y ?_;refine D ?_;obtain ⟨q31,h⟩:=ap h;refine gE (aU U U q31.1 q31.2) ?_;refine D ?_;exact ⟨m16,_,_,SP _,⟨y29,p18+1,A30,n30,c30,h,U,U⟩,sA,cS [0,2,3,4] 5⟩
  replace h:=ag g19 h;refine D ?_;exact ⟨_,_,⟨p17,A17,n17,c17,h,U,U⟩,sA,cS [0,1,2,3] 4⟩
 rintro _ _ ⟨p15,A15,n15,c15,h,rfl,rfl⟩;refine az ?_;refine D ?_;refine gR (aK 0 U aF U Sg) ?_;refine D ?_;refine av U (fun g32=> ?_) (fun g32=> ?_)
 ·replace h:=ae g32 h;refine D ?_;obtain rfl:=ao h;exact aD U U (cS [0] 4) ⟨_,_,_,U,U⟩
 replace h:=ag g32 h;refine D ?_;refine gR (aA (us:=[O A1 n1 c1,O A2 n2 c2]) 3 U U cU U) ?_;refine D ?_;obtain ⟨y33,hy33,h⟩:=aa h;refine gD (aX (vz hy33) Ka U (aJ [1,2] [0] [1,2,3] 4 U)) ?_;rintro _ _ ⟨_,⟨A34,n34,c34,rfl,rfl⟩,rfl⟩;refine cN ?_;refine D ?_;exact ⟨m12,_,_,SP _,⟨y33,A34,n34,c34,h,U,U⟩,sA,cS [0,1,2,3] 4⟩
theorem Dg {r:(List Int)}: ∀v post,((fun (u:Value) (post:List Chunk)=> ∃A0 n0 c0,u=O A0 n0 c0∧post=[dl A0 n0 c0 r])) v post→ ∀c∈post,cn c:=by
 rintro _ _ ⟨_,_,_,rfl,rfl⟩;exact Ex bJ (ad)
def nq (N:Nat)(a0:SB)(a1:(List SG)):Option SF:=
 (pz N a0.Young).bind fun y6=>(pz N a0.Old).bind fun y8=>(iT N (⟨y6,y8⟩:SB) a1).bind fun y10=>some (⟨(⟨y6,y8⟩:SB),y10⟩:SF)
theorem Bv {N:Nat}{a0:SB}{a1:(List SG)}{r:SF}(h:nq N a0 a1=some r):Okc Tryz.prog 81 [.agg #[O A1 n1 c1,O A2 n2 c2],O A3 n3 c3] ([bC A1 n1 c1 a0.Young,bC A2 n2 c2 a0.Old,bo A3 n3 c3 a1]) (fun u post=> ∃A0 n0 c0 A1 n1 c1 A2 n2 c2,u=.agg #[O A0 n0 c0,O A1 n1 c1,O A2 n2 c2]∧post=[cI A0 n0 c0 r.M.Young,cI A1 n1 c1 r.M.Old,dl A2 n2 c2 r.Order]):=by
 refine bz Tryz.func81 U U ?_;simp only [aR];refine D ?_;refine gD (bd U U) ?_;rintro _ _ ⟨B4,rfl,rfl⟩;refine gD (aN FQ U) ?_;rintro _ _ ⟨B5,rfl,rfl⟩;refine D ?_;refine az ?_;refine cv Y _ (ah _) ?_;refine zE 0 U (dG U ul) ?_;refine zR 1 U (bc 1 U U lL U) ?_;refine zE 3 U (bX U sv) ?_;refine zR 4 U (bc 1 U U lL U) ?_;obtain ⟨y6,hy6,h⟩:=aa h;refine zD 2 U (aX (yW hy6) JZ U (aJ [2] [] [0,1,2,3,4] 5 U)) ?_;rintro _ _ ⟨_,⟨A7,n7,c7,rfl,rfl⟩,rfl⟩;refine bN (cS [1,2,3,4,5] 6) ?_;obtain ⟨y8,hy8,h⟩:=aa h;refine zD 5 U (aX (yW hy8) JZ U (aJ [4] [] [0,1,2,3,4,5] 6 U)) ?_;rintro _ _ ⟨_,⟨A9,n9,c9,rfl,rfl⟩,rfl⟩;refine bN (cS [2,3,4,5,6] 7) ?_;refine zE 6 U (cq U (Ei _ _ _ _ _ _)) ?_;refine lx 7 U Y Y (au (us:=[O A7 n7 c7,O A9 n9 c9]) (cs':=[O A7 n7 c7,O A9 n9 c9]) 3 U U U U eF U U U) ?_;rintro _ _ rfl;refine bH Y ?_;refine gL ?_;refine az ?_;refine cv Y _ (ah _) ?_;refine zR 0 U (aA (us:=[O A7 n7 c7,O A9 n9 c9]) 3 U U cU U) ?_;refine zR 1 U (aA (us:=[O A7 n7 c7,O A9 n9 c9]) 3 U U cU U) ?_;refine zE 2 U (ay U) ?_;obtain ⟨y10,hy10,h⟩:=aa h;refine zD 3 U (ak (F6 hy10) Qj U (Ex (ar (i:=1) U) (Ex (ar (i:=0) U) (Ex (ac (i:=6) U U) ad))) Dg) ?_;rintro _ _ ⟨_,⟨A11,n11,c11,rfl,rfl⟩,rfl⟩;refine bN (cS [1,2,3,4,5,6,7] 8) ?_;refine zE 4 U (cq U (H3 _ _ _ _ _ _ _ _ _)) ?_
 refine lx 5 U Y Y (au (us:=[O A7 n7 c7,O A9 n9 c9,O A11 n11 c11]) (cs':=[O A7 n7 c7,O A9 n9 c9,O A11 n11 c11]) 3 U U U U FY U U U) ?_;rintro _ _ rfl;refine bH Y ?_;refine D ?_;obtain rfl:=ao h;exact dB (rs:=[.cell 4 103]) (vs:=[.agg #[O A7 n7 c7,O A9 n9 c9,O A11 n11 c11]]) U (.cons (co 3 U U yr) .nil) U (cS [2,1,0] 8) ⟨_,_,_,_,_,_,_,_,_,U,U⟩
def yZ (N:Nat):Option Int:=
 some (-1)
def qv (N:Nat)(a1:Int)(a0:(List Int)):Nat→Int→Option Int
 |0,_=>none
 |m3+1,p4=>bif decide (p4<(a0.length:Int)) then ((aM a0 p4).bind fun x6=>bif decide (x6=a1) then (some p4) else (bG (in64 (p4+1)) ((qv N a1 a0 m3) (p4+1)))) else (yZ N)
def pA (N:Nat)(a0:(List Int))(a1:Int):Option Int:=
 qv N a1 a0 N 0
theorem yY {N:Nat}{a0:(List Int)}{a1:Int}{r:Int}(h:pA N a0 a1=some r):Okc Tryz.prog 167 [O A1 n1 c1,iV a1] ([dw A1 n1 c1 a0]) (fun u post=>u=iV r∧post=[]):=by
 refine bz Tryz.func167 U U ?_;simp only [aR];refine D ?_;refine aO (fun s L=>yZ N=some r∧s=[(4,iV 0)]∧L=[]) ?_ ?_
 ·refine D ?_;refine bp (fun m s L=> ∃p4,qv N a1 a0 m p4=some r∧s=[(0,O A1 n1 c1),(1,iV a1),(4,iV 0),(5,iV p4)]∧L=[dw A1 n1 c1 a0]) N _ _ ⟨0,h,U,U⟩ sA (cS [0] 1) ?_;rintro (_|m3) _ _ ⟨p4,h,rfl,rfl⟩
  ·exact aC h
  rw [qv.eq_2] at h;refine az ?_;refine D ?_;refine gR (aK 0 U aj U Sg) ?_;refine D ?_;refine av U (fun g5=> ?_) (fun g5=> ?_)
  ·replace h:=ae g5 h;refine D ?_;refine az ?_;refine D ?_;obtain ⟨x6,hx6,h⟩:=aa h;obtain ⟨lx6,ux6,hx6⟩:=aq hx6;refine gR (aH 0 U aj U U Sg dp lx6 ux6) ?_;refine gR (aT (u:=iV x6) 0 U aj U hx6 cX (fun _ _ _ h=>by rw [show _=_ from h];rfl)) ?_;refine D ?_;refine av U (fun g7=> ?_) (fun g7=> ?_)
   ·replace h:=ae g7 h;refine D ?_;obtain rfl:=ao h;exact aD U U (cS [] 1) ⟨U,U⟩
   replace h:=ag g7 h;refine D ?_;obtain ⟨q8,h⟩:=ap h;refine gE (aU U U q8.1 q8.2) ?_;refine D ?_;exact ⟨m3,_,_,SP _,⟨p4+1,h,U,U⟩,sA,cS [0] 1⟩
  replace h:=ag g5 h;refine D ?_;exact ⟨_,_,⟨h,U,U⟩,sA,cS [] 1⟩
 rintro _ _ ⟨h,rfl,rfl⟩;refine D ?_;obtain rfl:=ao h;exact aD U U (cS [] 0) ⟨U,U⟩
theorem vD {r:Int}: ∀v post,((fun (u:Value) (post:List Chunk)=>u=iV r∧post=[])) v post→ ∀c∈post,cn c:=by
 rintro _ _ ⟨rfl,rfl⟩;exact ad
def vy (N:Nat):Option Bool:=
 some true
def lG (N:Nat)(a1:(List SG))(a3:(List SG))(a0:SF)(a2:SF):Nat→Int→Option Bool
 |0,_=>none
 |m13+1,p14=>bif decide (p14<(a1.length:Int)) then ((aM a1 p14).bind fun x16=>(bif decide (x16.Kind=7) then (some true) else ((aM a1 p14).bind fun x18=>some (decide (x18.Kind=9)))).bind fun b17=>(bif !b17 then ((aM a1 p14).bind fun x20=>(aM a3 p14).bind fun x21=>some (!decide (x20=x21))) else (some false)).bind fun b19=>bif b19 then (some false) else ((bif b17 then ((aM a1 p14).bind fun x24=>(aM a3 p14).bind fun x25=>(bif !decide (x24.Kind=x25.Kind) then (some true) else ((aM a1 p14).bind fun x27=>(aM a3 p14).bind fun x28=>some (!(x27.S.toList==x28.S.toList)))).bind fun b26=>(bif b26 then (some true) else ((aM a1 p14).bind fun x30=>(aM a3 p14).bind fun x31=>(mh N a0.M x30.N).bind fun y32=>(mh N a2.M x31.N).bind fun y33=>some (!(y32==y33)))).bind fun b29=>some b29) else (some false)).bind fun b23=>bif b23 then (some false) else ((bif b17 then ((aM a1 p14).bind fun x36=>(mh N a0.M x36.N).bind fun y37=>some y37) else (some false)).bind fun b35=>(bif b35 then ((aM a1 p14).bind fun x39=>(aM a3 p14).bind fun x40=>(pA N a0.Order x39.N).bind fun y41=>(pA N a2.Order x40.N).bind fun y42=>some (!decide (y41=y42))) else (some false)).bind fun b38=>bif b38 then (some false) else (bG (in64 (p14+1)) ((lG N a1 a3 a0 a2 m13) (p14+1)))))) else (vy N)
def iR (N:Nat)(a0:SF)(a1:(List SG))(a2:SF)(a3:(List SG)):Option Bool:=
 bif !decide ((a1.length:Int)=(a3.length:Int)) then (some false) else (lG N a1 a3 a0 a2 N 0)
set_option maxHeartbeats 4000000 in
theorem sN {N:Nat}{a0:SF}{a1:(List SG)}{a2:SF}{a3:(List SG)}{r:Bool}(h:iR N a0 a1 a2 a3=some r):Okc Tryz.prog 82 [.agg #[O A1 n1 c1,O A2 n2 c2,O A3 n3 c3],O A4 n4 c4,.agg #[O A5 n5 c5,O A6 n6 c6,O A7 n7 c7],O A8 n8 c8] ([bC A1 n1 c1 a0.M.Young,bC A2 n2 c2 a0.M.Old,dw A3 n3 c3 a0.Order,bo A4 n4 c4 a1,bC A5 n5 c5 a2.M.Young,bC A6 n6 c6 a2.M.Old,dw A7 n7 c7 a2.Order,bo A8 n8 c8 a3]) (fun u post=>u=.bool r∧post=[]):=by
 refine bz Tryz.func82 U U ?_;simp only [aR];refine D ?_;refine gD (bd U U) ?_;rintro _ _ ⟨B9,rfl,rfl⟩;refine gD (bd U U) ?_;rintro _ _ ⟨B10,rfl,rfl⟩;refine D ?_;refine az ?_;refine D ?_;refine gR (aK 5 U aj U Sn) ?_;refine D ?_;refine gR (aK 9 U aj U Sn) ?_;refine D ?_;refine av U (fun g11=> ?_) (fun g11=> ?_)
 ·replace h:=ae g11 h;refine D ?_;obtain rfl:=ao h;exact aD U U (cS [] 10) ⟨U,U⟩
 replace h:=ag g11 h;refine D ?_;refine aO (fun s L=>vy N=some r∧s=[(8,.bool false)]∧L=[]) ?_ ?_
 ·refine D ?_;refine bp (fun m s L=> ∃p14,lG N a1 a3 a0 a2 m p14=some r∧s=[(1,O A4 n4 c4),(3,O A8 n8 c8),(4,pV B9 0),(6,pV B10 0),(8,.bool false),(9,iV p14)]∧L=[bo A4 n4 c4 a1,bo A8 n8 c8 a3,bC A1 n1 c1 a0.M.Young,bC A2 n2 c2 a0.M.Old,dw A3 n3 c3 a0.Order,ax B9 103 [O A1 n1 c1,O A2 n2 c2,O A3 n3 c3],bC A5 n5 c5 a2.M.Young,bC A6 n6 c6 a2.M.Old,dw A7 n7 c7 a2.Order,ax B10 103 [O A5 n5 c5,O A6 n6 c6,O A7 n7 c7]]) N _ _ ⟨0,h,U,U⟩ sA (cS [5,9,2,3,4,1,6,7,8,0] 10) ?_;rintro (_|m13) _ _ ⟨p14,h,rfl,rfl⟩
  ·exact aC h
  rw [lG.eq_2] at h;refine az ?_;refine D ?_;refine gR (aK 0 U aj U Sn) ?_;refine D ?_;refine av U (fun g15=> ?_) (fun g15=> ?_)
  ·replace h:=ae g15 h;refine D ?_;refine az ?_;refine D ?_;obtain ⟨x16,hx16,h⟩:=aa h;obtain ⟨lx16,ux16,hx16⟩:=aq hx16;refine gR (aH 0 U aj U U Sn aP lx16 ux16) ?_;refine gR (mH 0 U aj U (bx lx16 ux16) fR) ?_;refine gR (aT (u:=iV x16.Kind) 0 U aj U hx16 cX (fun _ _ _ h=>by rw [show _=_ from h];rfl)) ?_;refine D ?_;obtain ⟨b17,hb17,h⟩:=aa h;refine aE 7 35 b17 ?_ ?_
   ·clear h;refine aB 28 U (fun g17=> ?_) (fun g17=> ?_)
    ·have h:=ae g17 hb17;refine D ?_;obtain rfl:=ao h;exact ab sA (cS [0,1,2,3,4,5,6,7,8,9] 10)
    have h:=ag g17 hb17;refine D ?_;obtain ⟨x18,hx18,h⟩:=aa h;obtain ⟨lx18,ux18,hx18⟩:=aq hx18;refine bM (aH 0 U aj U U Sn aP lx18 ux18) U (cu g17 U) U ?_;refine bM (mH 0 U aj U (bx lx18 ux18) fR) U (cu g17 U) U ?_;refine bM (aT (u:=iV x18.Kind) 0 U aj U hx18 cX (fun _ _ _ h=>by rw [show _=_ from h];rfl)) U (cu g17 U) U ?_;refine D ?_;obtain rfl:=ao h;exact ab sA (cS [0,1,2,3,4,5,6,7,8,9] 10)
   refine D ?_;refine az ?_;refine az ?_;refine cv Y _ (ah _) ?_;refine zE 0 U (ay U) ?_;refine zE 1 U (Bd U) ?_;refine zE 2 U (ay U) ?_;obtain ⟨b19,hb19,h⟩:=aa h;refine oH (fun l=>((((((((((l.setIfInBounds 3 true).setIfInBounds 4 true).setIfInBounds 5 true).setIfInBounds 6 true).setIfInBounds 7 true).setIfInBounds 8 true).setIfInBounds 9 true).setIfInBounds 10 true).setIfInBounds 11 true).setIfInBounds 12 true)) 0 48 b19 (fun rest=> ?_) ?_
   ·clear h;refine qz 38 U (fun g19=> ?_) (fun g19=> ?_)
    ·have h:=ae g19 hb19;refine dH 3 U Y (ay U) (aS g19 U) U ?_;refine dH 4 U Y (ay U) (aS g19 U) U ?_;obtain ⟨x20,hx20,h⟩:=aa h;obtain ⟨lx20,ux20,hx20⟩:=aq hx20;refine eD 5 U Y (aH 0 U aj U U Sn aP lx20 ux20) (aS g19 U) U ?_;refine eD 6 U Y (bm (us:=[iV x20.Kind,iV x20.N,.string x20.S]) 0 U aj U hx20 bY (fun _ _ _ h=>by rw [show _=_ from h];rfl)) (aS g19 U) U ?_;refine dH 7 U Y (ay U) (aS g19 U) U ?_;refine dH 8 U Y (ay U) (aS g19 U) U ?_;obtain ⟨x21,hx21,h⟩:=aa h;obtain ⟨lx21,ux21,hx21⟩:=aq hx21;refine eD 9 U Y (aH 1 U aj U U Sn aP lx21 ux21) (aS g19 U) U ?_;refine eD 10 U Y (bm (us:=[iV x21.Kind,iV x21.N,.string x21.S]) 1 U aj U hx21 bY (fun _ _ _ h=>by rw [show _=_ from h];rfl)) (aS g19 U) U ?_;refine dH 11 U Y (Lg (x:=x20) (y:=x21) U U) (aS g19 U) U ?_;refine zE 12 U (jo g19 U U) ?_;obtain rfl:=ao h;exact ky rest (eG U (am (am (am (am (am (am (am (am (am (am bU U) U) U) U) U) U) U) U) U) U)) (ah _) (ah _)
    have h:=ag g19 hb19;refine bK 3 U Y (fF g19 U) U ?_;refine bK 4 U Y (fF g19 U) U ?_;refine bK 5 U Y (fF g19 U) U ?_;refine bK 6 U Y (fF g19 U) U ?_;refine bK 7 U Y (fF g19 U) U ?_;refine bK 8 U Y (fF g19 U) U ?_;refine bK 9 U Y (fF g19 U) U ?_;refine bK 10 U Y (fF g19 U) U ?_;refine bK 11 U Y (fF g19 U) U ?_;refine zE 12 U (jp g19 U U) ?_;obtain rfl:=ao h;exact ky rest (eG U (am (am (am (am (am (am (am (am (am (am bU U) U) U) U) U) U) U) U) U) U)) (ah _) (ah _)
   refine bH Y ?_;refine gL ?_;refine av U (fun g22=> ?_) (fun g22=> ?_)
   ·replace h:=ae g22 h;refine D ?_;obtain rfl:=ao h;exact aD U U (cS [] 10) ⟨U,U⟩
   replace h:=ag g22 h;refine D ?_;refine az ?_;refine az ?_;refine cv Y _ (ah _) ?_;refine zE 0 U (ay U) ?_;refine zE 1 U (ay U) ?_;obtain ⟨b23,hb23,h⟩:=aa h;refine oH (fun l=>((((((((((((((((((((((((((((((((((((((((((((l.setIfInBounds 2 true).setIfInBounds 3 true).setIfInBounds 4 true).setIfInBounds 5 true).setIfInBounds 6 true).setIfInBounds 7 true).setIfInBounds 8 true).setIfInBounds 9 true).setIfInBounds 10 true).setIfInBounds 11 true).setIfInBounds 12 true).setIfInBounds 13 true).setIfInBounds 14 true).setIfInBounds 15 true).setIfInBounds 16 true).setIfInBounds 17 true).setIfInBounds 18 true).setIfInBounds 19 true).setIfInBounds 20 true).setIfInBounds 21 true).setIfInBounds 22 true).setIfInBounds 23 true).setIfInBounds 24 true).setIfInBounds 25 true).setIfInBounds 26 true).setIfInBounds 27 true).setIfInBounds 28 true).setIfInBounds 29 true).setIfInBounds 30 true).setIfInBounds 31 true).setIfInBounds 32 true).setIfInBounds 33 true).setIfInBounds 35 true).setIfInBounds 36 true).setIfInBounds 37 true).setIfInBounds 38 true).setIfInBounds 39 true).setIfInBounds 40 true).setIfInBounds 41 true).setIfInBounds 34 true).setIfInBounds 42 true).setIfInBounds 43 true).setIfInBounds 44 true).setIfInBounds 45 true)) 0 94 b23 (fun rest=> ?_) ?_
   ·clear h;refine qz 50 U (fun g23=> ?_) (fun g23=> ?_)
    ·have h:=ae g23 hb23;refine dH 2 U Y (ay U) (aS g23 U) U ?_;refine dH 3 U Y (ay U) (aS g23 U) U ?_;obtain ⟨x24,hx24,h⟩:=aa h;obtain ⟨lx24,ux24,hx24⟩:=aq hx24;refine eD 4 U Y (aH 0 U aj U U Sn aP lx24 ux24) (aS g23 U) U ?_;refine eD 5 U Y (mH 0 U aj U (bx lx24 ux24) fR) (aS g23 U) U ?_;refine eD 6 U Y (aT (u:=iV x24.Kind) 0 U aj U hx24 cX (fun _ _ _ h=>by rw [show _=_ from h];rfl)) (aS g23 U) U ?_;refine dH 7 U Y (ay U) (aS g23 U) U ?_;refine dH 8 U Y (ay U) (aS g23 U) U ?_;obtain ⟨x25,hx25,h⟩:=aa h;obtain ⟨lx25,ux25,hx25⟩:=aq hx25;refine eD 9 U Y (aH 1 U aj U U Sn aP lx25 ux25) (aS g23 U) U ?_;refine eD 10 U Y (mH 1 U aj U (bx lx25 ux25) fR) (aS g23 U) U ?_;refine eD 11 U Y (aT (u:=iV x25.Kind) 1 U aj U hx25 cX (fun _ _ _ h=>by rw [show _=_ from h];rfl)) (aS g23 U) U ?_;refine dH 12 U Y (MN U U) (aS g23 U) U ?_;refine dH 13 U Y (ay U) (aS g23 U) U ?_;obtain ⟨b26,hb26,h⟩:=aa h
     refine oH (fun l=>((((((((((((l.setIfInBounds 14 true).setIfInBounds 15 true).setIfInBounds 16 true).setIfInBounds 17 true).setIfInBounds 18 true).setIfInBounds 19 true).setIfInBounds 20 true).setIfInBounds 21 true).setIfInBounds 22 true).setIfInBounds 23 true).setIfInBounds 24 true).setIfInBounds 25 true)) 20 74 b26 (fun rest=> ?_) ?_
     ·clear h;refine qz 62 U (fun g26=> ?_) (fun g26=> ?_)
      ·have h:=ae g26 hb26;refine bK 14 U Y (lX g26 U) U ?_;refine bK 15 U Y (lX g26 U) U ?_;refine bK 16 U Y (lX g26 U) U ?_;refine bK 17 U Y (lX g26 U) U ?_;refine bK 18 U Y (lX g26 U) U ?_;refine bK 19 U Y (lX g26 U) U ?_;refine bK 20 U Y (lX g26 U) U ?_;refine bK 21 U Y (lX g26 U) U ?_;refine bK 22 U Y (lX g26 U) U ?_;refine bK 23 U Y (lX g26 U) U ?_;refine bK 24 U Y (lX g26 U) U ?_;refine dH 25 U Y (jo g26 U U) (aS g23 U) U ?_;obtain rfl:=ao h;exact ky rest (eG U (am (am (am (am (am (am (am (am (am (am (am (am bU U) U) U) U) U) U) U) U) U) U) U) U)) (ah _) (ah _)
      have h:=ag g26 hb26;refine dH 14 U Y (ay U) (cu g26 U) U ?_;refine dH 15 U Y (ay U) (cu g26 U) U ?_;obtain ⟨x27,hx27,h⟩:=aa h;obtain ⟨lx27,ux27,hx27⟩:=aq hx27;refine eD 16 U Y (aH 0 U aj U U Sn aP lx27 ux27) (cu g26 U) U ?_;refine eD 17 U Y (nU 0 U aj U (bx lx27 ux27) GB) (cu g26 U) U ?_;refine eD 18 U Y (aT (u:=.string x27.S) 0 U aj U hx27 PQ (fun _ _ _ h=>by rw [show _=_ from h];rfl)) (cu g26 U) U ?_;refine dH 19 U Y (ay U) (cu g26 U) U ?_;refine dH 20 U Y (ay U) (cu g26 U) U ?_;obtain ⟨x28,hx28,h⟩:=aa h;obtain ⟨lx28,ux28,hx28⟩:=aq hx28;refine eD 21 U Y (aH 1 U aj U U Sn aP lx28 ux28) (cu g26 U) U ?_;refine eD 22 U Y (nU 1 U aj U (bx lx28 ux28) GB) (cu g26 U) U ?_;refine eD 23 U Y (aT (u:=.string x28.S) 1 U aj U hx28 PQ (fun _ _ _ h=>by rw [show _=_ from h];rfl)) (cu g26 U) U ?_;refine dH 24 U Y (D1 U U) (cu g26 U) U ?_;refine dH 25 U Y (jp g26 U U) (aS g23 U) U ?_;obtain rfl:=ao h;exact ky rest (eG U (am (am (am (am (am (am (am (am (am (am (am (am bU U) U) U) U) U) U) U) U) U) U) U) U)) (ah _) (ah _)
     refine dH 26 U Y (ay U) (aS g23 U) U ?_;obtain ⟨b29,hb29,h⟩:=aa h;refine oH (fun l=>((((((((((((((((((l.setIfInBounds 27 true).setIfInBounds 28 true).setIfInBounds 29 true).setIfInBounds 30 true).setIfInBounds 31 true).setIfInBounds 32 true).setIfInBounds 33 true).setIfInBounds 35 true).setIfInBounds 36 true).setIfInBounds 37 true).setIfInBounds 38 true).setIfInBounds 39 true).setIfInBounds 40 true).setIfInBounds 41 true).setIfInBounds 34 true).setIfInBounds 42 true).setIfInBounds 43 true).setIfInBounds 44 true)) 1 93 b29 (fun rest=> ?_) ?_
     ·clear h;refine qz 75 U (fun g29=> ?_) (fun g29=> ?_)
      ·have h:=ae g29 hb29;refine bK 27 U Y (lX g29 U) U ?_;refine bK 28 U Y (lX g29 U) U ?_;refine bK 29 U Y (lX g29 U) U ?_;refine bK 30 U Y (lX g29 U) U ?_;refine bK 31 U Y (lX g29 U) U ?_;refine bK 32 U Y (lX g29 U) U ?_;refine bK 33 U Y (lX g29 U) U ?_;refine bK 35 U Y (lX g29 U) U ?_;refine bK 36 U Y (lX g29 U) U ?_;refine bK 37 U Y (lX g29 U) U ?_;refine bK 38 U Y (lX g29 U) U ?_;refine bK 39 U Y (lX g29 U) U ?_;refine bK 40 U Y (lX g29 U) U ?_;refine bK 41 U Y (lX g29 U) U ?_;refine bK 34 U Y (lX g29 U) U ?_;refine bK 42 U Y (lX g29 U) U ?_;refine bK 43 U Y (lX g29 U) U ?_;refine dH 44 U Y (jo g29 U U) (aS g23 U) U ?_;obtain rfl:=ao h;exact ky rest (eG U (am (am (am (am (am (am (am (am (am (am (am (am (am (am (am (am (am (am bU U) U) U) U) U) U) U) U) U) U) U) U) U) U) U) U) U) U)) (ah _) (ah _)
      have h:=ag g29 hb29;refine dH 27 U Y (dG U tL) (cu g29 U) U ?_;refine eD 28 U Y (aA (us:=[O A1 n1 c1,O A2 n2 c2]) 5 U U cU U) (cu g29 U) U ?_;refine dH 29 U Y (ay U) (cu g29 U) U ?_;refine dH 30 U Y (ay U) (cu g29 U) U ?_;obtain ⟨x30,hx30,h⟩:=aa h;obtain ⟨lx30,ux30,hx30⟩:=aq hx30;refine eD 31 U Y (aH 0 U aj U U Sn aP lx30 ux30) (cu g29 U) U ?_;refine eD 32 U Y (nU 0 U aj U (bx lx30 ux30) jB) (cu g29 U) U ?_;refine eD 33 U Y (aT (u:=iV x30.N) 0 U aj U hx30 cX (fun _ _ _ h=>by rw [show _=_ from h];rfl)) (cu g29 U) U ?_;refine dH 35 U Y (dG U tL) (cu g29 U) U ?_;refine eD 36 U Y (aA (us:=[O A5 n5 c5,O A6 n6 c6]) 9 U U cU U) (cu g29 U) U ?_;refine dH 37 U Y (ay U) (cu g29 U) U ?_;refine dH 38 U Y (ay U) (cu g29 U) U ?_;obtain ⟨x31,hx31,h⟩:=aa h;obtain ⟨lx31,ux31,hx31⟩:=aq hx31;refine eD 39 U Y (aH 1 U aj U U Sn aP lx31 ux31) (cu g29 U) U ?_;refine eD 40 U Y (nU 1 U aj U (bx lx31 ux31) jB) (cu g29 U) U ?_;refine eD 41 U Y (aT (u:=iV x31.N) 1 U aj U hx31 cX (fun _ _ _ h=>by rw [show _=_ from h];rfl)) (cu g29 U) U ?_;obtain ⟨y32,hy32,h⟩:=aa h
      refine yt 34 U Y (ak (qX hy32) Ec U (Ex (ac (i:=2) U U) (Ex (ac (i:=3) U U) ad)) nW) U (cu g29 U) U ?_;rintro _ _ ⟨_,⟨rfl,rfl⟩,rfl⟩;refine ⟨_,ah _,ah _,?_⟩;obtain ⟨y33,hy33,h⟩:=aa h;refine yt 42 U Y (ak (qX hy33) Ec U (Ex (ac (i:=6) U U) (Ex (ac (i:=7) U U) ad)) nW) U (cu g29 U) U ?_;rintro _ _ ⟨_,⟨rfl,rfl⟩,rfl⟩;refine ⟨_,ah _,ah _,?_⟩;refine dH 43 U Y (P6 U U R5) (cu g29 U) U ?_;refine dH 44 U Y (jp g29 U U) (aS g23 U) U ?_;obtain rfl:=ao h;exact ky rest (eG U (am (am (am (am (am (am (am (am (am (am (am (am (am (am (am (am (am (am bU U) U) U) U) U) U) U) U) U) U) U) U) U) U) U) U) U) U)) (ah _) (ah _)
     refine zE 45 U (jo g23 U U) ?_;obtain rfl:=ao h;exact ky rest (eG U (am (am (am (am (am (am (am (am (am (am (am (am (am (am (am (am bU U) U) U) U) U) U) U) U) U) U) U) U) U) U) U) U)) (ah _) (ah _)
    have h:=ag g23 hb23;refine bK 2 U Y (fF g23 U) U ?_;refine bK 3 U Y (fF g23 U) U ?_;refine bK 4 U Y (fF g23 U) U ?_;refine bK 5 U Y (fF g23 U) U ?_;refine bK 6 U Y (fF g23 U) U ?_;refine bK 7 U Y (fF g23 U) U ?_;refine bK 8 U Y (fF g23 U) U ?_;refine bK 9 U Y (fF g23 U) U ?_;refine bK 10 U Y (fF g23 U) U ?_;refine bK 11 U Y (fF g23 U) U ?_;refine bK 12 U Y (fF g23 U) U ?_;refine bK 13 U Y (fF g23 U) U ?_;refine zU 14 U ?_;refine zU 15 U ?_;refine zU 16 U ?_;refine zU 17 U ?_;refine zU 18 U ?_;refine zU 19 U ?_;refine zU 20 U ?_;refine zU 21 U ?_;refine zU 22 U ?_;refine zU 23 U ?_;refine zU 24 U ?_;refine bK 25 U Y (fF g23 U) U ?_;refine bK 26 U Y (fF g23 U) U ?_;refine zU 27 U ?_;refine zU 28 U ?_;refine zU 29 U ?_;refine zU 30 U ?_;refine zU 31 U ?_;refine zU 32 U ?_;refine zU 33 U ?_;refine zU 35 U ?_;refine zU 36 U ?_;refine zU 37 U ?_;refine zU 38 U ?_;refine zU 39 U ?_;refine zU 40 U ?_;refine zU 41 U ?_;refine zU 34 U ?_;refine zU 42 U ?_;refine zU 43 U ?_;refine bK 44 U Y (fF g23 U) U ?_;refine zE 45 U (jp g23 U U) ?_;obtain rfl:=ao h
    exact ky rest (eG U (am (am (am (am (am (am (am (am (am (am (am (am (am (am (am (am (am (am (am (am (am (am (am (am (am (am (am (am (am (am (am (am (am (am (am (am (am (am (am (am (am (am (am (am bU U) U) U) U) U) U) U) U) U) U) U) U) U) U) U) U) U) U) U) U) U) U) U) U) U) U) U) U) U) U) U) U) U) U) U) U) U) U) U) U) U) U) U) U)) (ah _) (ah _)
   refine bH Y ?_;refine gL ?_;refine av U (fun g34=> ?_) (fun g34=> ?_)
   ·replace h:=ae g34 h;refine D ?_;obtain rfl:=ao h;exact aD U U (cS [] 10) ⟨U,U⟩
   replace h:=ag g34 h;refine D ?_;refine az ?_;refine cv Y _ (ah _) ?_;refine zE 0 U (ay U) ?_;refine zE 1 U (ay U) ?_;obtain ⟨b35,hb35,h⟩:=aa h;refine oH (fun l=>(((((((((l.setIfInBounds 2 true).setIfInBounds 3 true).setIfInBounds 4 true).setIfInBounds 5 true).setIfInBounds 6 true).setIfInBounds 7 true).setIfInBounds 8 true).setIfInBounds 9 true).setIfInBounds 10 true)) 19 105 b35 (fun rest=> ?_) ?_
   ·clear h;refine qz 96 U (fun g35=> ?_) (fun g35=> ?_)
    ·have h:=ae g35 hb35;refine dH 2 U Y (dG U tL) (aS g35 U) U ?_;refine eD 3 U Y (aA (us:=[O A1 n1 c1,O A2 n2 c2]) 5 U U cU U) (aS g35 U) U ?_;refine dH 4 U Y (ay U) (aS g35 U) U ?_;refine dH 5 U Y (ay U) (aS g35 U) U ?_;obtain ⟨x36,hx36,h⟩:=aa h;obtain ⟨lx36,ux36,hx36⟩:=aq hx36;refine eD 6 U Y (aH 0 U aj U U Sn aP lx36 ux36) (aS g35 U) U ?_;refine eD 7 U Y (nU 0 U aj U (bx lx36 ux36) jB) (aS g35 U) U ?_;refine eD 8 U Y (aT (u:=iV x36.N) 0 U aj U hx36 cX (fun _ _ _ h=>by rw [show _=_ from h];rfl)) (aS g35 U) U ?_;obtain ⟨y37,hy37,h⟩:=aa h;refine yt 9 U Y (ak (qX hy37) Ec U (Ex (ac (i:=2) U U) (Ex (ac (i:=3) U U) ad)) nW) U (aS g35 U) U ?_;rintro _ _ ⟨_,⟨rfl,rfl⟩,rfl⟩;refine ⟨_,ah _,ah _,?_⟩;refine zE 10 U (jo g35 U U) ?_;obtain rfl:=ao h;exact ky rest (eG U (am (am (am (am (am (am (am (am (am bU U) U) U) U) U) U) U) U) U)) (ah _) (ah _)
    have h:=ag g35 hb35;refine bK 2 U Y (fF g35 U) U ?_;refine bK 3 U Y (fF g35 U) U ?_;refine bK 4 U Y (fF g35 U) U ?_;refine bK 5 U Y (fF g35 U) U ?_;refine bK 6 U Y (fF g35 U) U ?_;refine bK 7 U Y (fF g35 U) U ?_;refine bK 8 U Y (fF g35 U) U ?_;refine bK 9 U Y (fF g35 U) U ?_;refine zE 10 U (jp g35 U U) ?_;obtain rfl:=ao h;exact ky rest (eG U (am (am (am (am (am (am (am (am (am bU U) U) U) U) U) U) U) U) U)) (ah _) (ah _)
   refine zE 11 U (ay U) ?_;obtain ⟨b38,hb38,h⟩:=aa h;refine oH (fun l=>((((((((((((((((((l.setIfInBounds 12 true).setIfInBounds 13 true).setIfInBounds 14 true).setIfInBounds 15 true).setIfInBounds 16 true).setIfInBounds 17 true).setIfInBounds 18 true).setIfInBounds 20 true).setIfInBounds 21 true).setIfInBounds 22 true).setIfInBounds 23 true).setIfInBounds 24 true).setIfInBounds 25 true).setIfInBounds 26 true).setIfInBounds 19 true).setIfInBounds 27 true).setIfInBounds 28 true).setIfInBounds 29 true)) 0 124 b38 (fun rest=> ?_) ?_
   ·clear h;refine qz 106 U (fun g38=> ?_) (fun g38=> ?_)
    ·have h:=ae g38 hb38;refine dH 12 U Y (bX U rv) (aS g38 U) U ?_;refine eD 13 U Y (bc 5 U U js U) (aS g38 U) U ?_;refine dH 14 U Y (ay U) (aS g38 U) U ?_;refine dH 15 U Y (ay U) (aS g38 U) U ?_;obtain ⟨x39,hx39,h⟩:=aa h;obtain ⟨lx39,ux39,hx39⟩:=aq hx39;refine eD 16 U Y (aH 0 U aj U U Sn aP lx39 ux39) (aS g38 U) U ?_;refine eD 17 U Y (nU 0 U aj U (bx lx39 ux39) jB) (aS g38 U) U ?_;refine eD 18 U Y (aT (u:=iV x39.N) 0 U aj U hx39 cX (fun _ _ _ h=>by rw [show _=_ from h];rfl)) (aS g38 U) U ?_;refine dH 20 U Y (bX U rv) (aS g38 U) U ?_;refine eD 21 U Y (bc 9 U U js U) (aS g38 U) U ?_;refine dH 22 U Y (ay U) (aS g38 U) U ?_;refine dH 23 U Y (ay U) (aS g38 U) U ?_;obtain ⟨x40,hx40,h⟩:=aa h;obtain ⟨lx40,ux40,hx40⟩:=aq hx40;refine eD 24 U Y (aH 1 U aj U U Sn aP lx40 ux40) (aS g38 U) U ?_;refine eD 25 U Y (nU 1 U aj U (bx lx40 ux40) jB) (aS g38 U) U ?_;refine eD 26 U Y (aT (u:=iV x40.N) 1 U aj U hx40 cX (fun _ _ _ h=>by rw [show _=_ from h];rfl)) (aS g38 U) U ?_;obtain ⟨y41,hy41,h⟩:=aa h;refine yt 19 U Y (ak (yY hy41) JY U (Ex (ac (i:=4) U U) ad) vD) U (aS g38 U) U ?_
     rintro _ _ ⟨_,⟨rfl,rfl⟩,rfl⟩;refine ⟨_,ah _,ah _,?_⟩;obtain ⟨y42,hy42,h⟩:=aa h;refine yt 27 U Y (ak (yY hy42) JY U (Ex (ac (i:=8) U U) ad) vD) U (aS g38 U) U ?_;rintro _ _ ⟨_,⟨rfl,rfl⟩,rfl⟩;refine ⟨_,ah _,ah _,?_⟩;refine dH 28 U Y (MN U U) (aS g38 U) U ?_;refine zE 29 U (jo g38 U U) ?_;obtain rfl:=ao h;exact ky rest (eG U (am (am (am (am (am (am (am (am (am (am (am (am (am (am (am (am (am (am bU U) U) U) U) U) U) U) U) U) U) U) U) U) U) U) U) U) U)) (ah _) (ah _)
    have h:=ag g38 hb38;refine bK 12 U Y (fF g38 U) U ?_;refine bK 13 U Y (fF g38 U) U ?_;refine bK 14 U Y (fF g38 U) U ?_;refine bK 15 U Y (fF g38 U) U ?_;refine bK 16 U Y (fF g38 U) U ?_;refine bK 17 U Y (fF g38 U) U ?_;refine bK 18 U Y (fF g38 U) U ?_;refine bK 20 U Y (fF g38 U) U ?_;refine bK 21 U Y (fF g38 U) U ?_;refine bK 22 U Y (fF g38 U) U ?_;refine bK 23 U Y (fF g38 U) U ?_;refine bK 24 U Y (fF g38 U) U ?_;refine bK 25 U Y (fF g38 U) U ?_;refine bK 26 U Y (fF g38 U) U ?_;refine bK 19 U Y (fF g38 U) U ?_;refine bK 27 U Y (fF g38 U) U ?_;refine bK 28 U Y (fF g38 U) U ?_;refine zE 29 U (jp g38 U U) ?_;obtain rfl:=ao h;exact ky rest (eG U (am (am (am (am (am (am (am (am (am (am (am (am (am (am (am (am (am (am bU U) U) U) U) U) U) U) U) U) U) U) U) U) U) U) U) U) U)) (ah _) (ah _)
   refine bH Y ?_;refine gL ?_;refine av U (fun g43=> ?_) (fun g43=> ?_)
   ·replace h:=ae g43 h;refine D ?_;obtain rfl:=ao h;exact aD U U (cS [] 10) ⟨U,U⟩
   replace h:=ag g43 h;refine D ?_;obtain ⟨q44,h⟩:=ap h;refine gE (aU U U q44.1 q44.2) ?_;refine D ?_;exact ⟨m13,_,_,SP _,⟨p14+1,h,U,U⟩,sA,cS [0,1,2,3,4,5,6,7,8,9] 10⟩
  replace h:=ag g15 h;refine D ?_;exact ⟨_,_,⟨h,U,U⟩,sA,cS [] 10⟩
 rintro _ _ ⟨h,rfl,rfl⟩;refine D ?_;obtain rfl:=ao h;exact aD U U (cS [] 0) ⟨U,U⟩
theorem pT {r:Bool}: ∀v post,((fun (u:Value) (post:List Chunk)=>u=.bool r∧post=[])) v post→ ∀c∈post,cn c:=by
 rintro _ _ ⟨rfl,rfl⟩;exact ad
def qw (N:Nat)(a0:SD):Option SD:=
 bG (bZ (([]:List SG).length+a0.Slots.length)) (bG (bZ (([]:List SG).length+a0.More.length)) (some (⟨a0.Kind,a0.Shape,a0.Flags,a0.Age,([]:List SG)++a0.Slots,([]:List SG)++a0.More⟩:SD)))
theorem EA {N:Nat}{a0:SD}{r:SD}(h:qw N a0=some r):Okc Tryz.prog 241 [.agg #[iV a0.Kind,iV a0.Shape,iV a0.Flags,iV a0.Age,O A1 n1 c1,O A2 n2 c2]] ([bo A1 n1 c1 a0.Slots,bo A2 n2 c2 a0.More]) (fun u post=> ∃A0 n0 c0 A1 n1 c1,u=.agg #[iV r.Kind,iV r.Shape,iV r.Flags,iV r.Age,O A0 n0 c0,O A1 n1 c1]∧post=[bL A0 n0 c0 r.Slots,bL A1 n1 c1 r.More]):=by
 refine bz Tryz.func241 U U ?_;simp only [aR];refine D ?_;refine gD (bd U U) ?_;rintro _ _ ⟨B3,rfl,rfl⟩;refine gD (aN dI U) ?_;rintro _ _ ⟨B4,rfl,rfl⟩;refine D ?_;refine gE (cq U (Eh _ _ _ _)) ?_;refine gD (aN dI U) ?_;rintro _ _ ⟨B5,rfl,rfl⟩;refine gO (au (us:=[iV a0.Kind,iV a0.Shape,iV a0.Flags,iV a0.Age,O none 0 0,O none 0 0]) (cs':=[iV a0.Kind,iV a0.Shape,iV a0.Flags,iV a0.Age,O none 0 0,O none 0 0]) 0 U U U U bF U U U) ?_;rintro _ _ rfl;refine PM ?_;refine PN ?_;refine o7 (ce bv 52 _) ?_;obtain ⟨q7,h⟩:=ap h;refine gD (bj 0 4 U U aj U U Sn ta U U q7) ?_;rintro _ _ ⟨A8,n8,c8,rfl,rfl⟩;refine D ?_;refine gO (au (us:=[O A8 n8 c8]) (cs':=[iV a0.Kind,iV a0.Shape,iV a0.Flags,iV a0.Age,O A8 n8 c8,O none 0 0]) 1 U U U U dA U U U) ?_;rintro _ _ rfl;refine cN ?_;refine PM ?_;refine PN ?_;refine o7 (ce bv 52 _) ?_;obtain ⟨q10,h⟩:=ap h;refine gD (bj 0 6 U U aj U U Sn ta U U q10) ?_;rintro _ _ ⟨A11,n11,c11,rfl,rfl⟩;refine D ?_;refine gO (au (us:=[O A11 n11 c11]) (cs':=[iV a0.Kind,iV a0.Shape,iV a0.Flags,iV a0.Age,O A8 n8 c8,O A11 n11 c11]) 2 U U U U dA U U U) ?_;rintro _ _ rfl;refine D ?_;refine gR (aA (us:=[iV a0.Kind,iV a0.Shape,iV a0.Flags,iV a0.Age,O A8 n8 c8,O A11 n11 c11]) 2 U U bh U) ?_
 refine gO (au (us:=[iV a0.Kind,iV a0.Shape,iV a0.Flags,iV a0.Age,O A8 n8 c8,O A11 n11 c11]) (cs':=[iV a0.Kind,iV a0.Shape,iV a0.Flags,iV a0.Age,O A8 n8 c8,O A11 n11 c11]) 3 U U U U bF U U U) ?_;rintro _ _ rfl;refine cN ?_;refine D ?_;obtain rfl:=ao h;exact dB (rs:=[.cell 2 47]) (vs:=[.agg #[iV a0.Kind,iV a0.Shape,iV a0.Flags,iV a0.Age,O A8 n8 c8,O A11 n11 c11]]) U (.cons (co 3 U U bh) .nil) U (cS [1,0] 7) ⟨_,_,_,_,_,_,U,U⟩
theorem Cf {r:SD}: ∀v post,((fun (u:Value) (post:List Chunk)=> ∃A0 n0 c0 A1 n1 c1,u=.agg #[iV r.Kind,iV r.Shape,iV r.Flags,iV r.Age,O A0 n0 c0,O A1 n1 c1]∧post=[bL A0 n0 c0 r.Slots,bL A1 n1 c1 r.More])) v post→ ∀c∈post,cn c:=by
 rintro _ _ ⟨_,_,_,_,_,_,rfl,rfl⟩;exact Ex bJ (Ex bJ (ad))
def pU (N:Nat)(y6:(SD))(p11:(List SG)):Option SD:=
 some (⟨y6.Kind,y6.Shape,y6.Flags,y6.Age,y6.Slots,p11⟩:SD)
def na (N:Nat)(kb12:Int→(List SG)→Option SD)(p13:Int)(a1:(List Bool))(a0:SD)(y6:(SD))(p18:(List SG)):Option SD:=
 bG (in64 (p13+1)) (kb12 (p13+1) p18)
def gv (N:Nat)(a1:(List Bool))(a0:SD)(y6:(SD)):Nat→Int→(List SG)→Option SD
 |0,_,_=>none
 |m12+1,p13,p14=>bif decide (p13<(a1.length:Int)) then ((aM a1 p13).bind fun x19=>bif x19 then (bG (in64 (2*p13)) ((aM a0.More (2*p13)).bind fun x22=>bG (in64 (2*p13)) (bG (in64 ((2*p13)+1)) ((aM a0.More ((2*p13)+1)).bind fun x25=>bG (bZ (p14.length+([x22,x25]:List SG).length)) (na N (gv N a1 a0 y6 m12) p13 a1 a0 y6 (p14++([x22,x25]:List SG))))))) else (na N (gv N a1 a0 y6 m12) p13 a1 a0 y6 p14)) else (pU N y6 p14)
def sP (N:Nat)(a0:SD)(a1:(List Bool)):Option SD:=
 (qw N a0).bind fun y6=>gv N a1 a0 y6 N 0 []
theorem Dk {N:Nat}{a0:SD}{a1:(List Bool)}{r:SD}(h:sP N a0 a1=some r):Okc Tryz.prog 195 [.agg #[iV a0.Kind,iV a0.Shape,iV a0.Flags,iV a0.Age,O A1 n1 c1,O A2 n2 c2],O A3 n3 c3] ([bo A1 n1 c1 a0.Slots,bo A2 n2 c2 a0.More,tT Bu (O A3 n3 c3) a1]) (fun u post=> ∃A0 n0 c0 A1 n1 c1,u=.agg #[iV r.Kind,iV r.Shape,iV r.Flags,iV r.Age,O A0 n0 c0,O A1 n1 c1]∧post=[bL A0 n0 c0 r.Slots,bL A1 n1 c1 r.More]):=by
 refine bz Tryz.func195 U U ?_;simp only [aR];refine D ?_;refine gD (bd U U) ?_;rintro _ _ ⟨B4,rfl,rfl⟩;refine gD (aN dI U) ?_;rintro _ _ ⟨B5,rfl,rfl⟩;refine D ?_;refine gR (aA (us:=[iV a0.Kind,iV a0.Shape,iV a0.Flags,iV a0.Age,O A1 n1 c1,O A2 n2 c2]) 1 U U bh U) ?_;obtain ⟨y6,hy6,h⟩:=aa h;refine gD (ak (EA hy6) OF U (Ex (ac (i:=2) U U) (Ex (ac (i:=3) U U) ad)) Cf) ?_;rintro _ _ ⟨_,⟨A7,n7,c7,A8,n8,c8,rfl,rfl⟩,rfl⟩;refine gD (aN dI U) ?_;rintro _ _ ⟨B9,rfl,rfl⟩;refine gO (au (us:=[iV y6.Kind,iV y6.Shape,iV y6.Flags,iV y6.Age,O A7 n7 c7,O A8 n8 c8]) (cs':=[iV y6.Kind,iV y6.Shape,iV y6.Flags,iV y6.Age,O A7 n7 c7,O A8 n8 c8]) 0 U U U U bF U U U) ?_;rintro _ _ rfl;refine D ?_;refine gO (au (us:=[O none 0 0]) (cs':=[iV y6.Kind,iV y6.Shape,iV y6.Flags,iV y6.Age,O A7 n7 c7,O none 0 0]) 0 U U U U dA U U U) ?_;rintro _ _ rfl;refine D ?_;refine aO (fun s L=> ∃p11 A11 n11 c11,pU N y6 p11=some r∧s=[(4,pV B5 0),(5,pV B9 0)]∧L=[ax B5 47 [iV 0,iV 0,iV 0,iV 0,O none 0 0,O none 0 0],bL A7 n7 c7 y6.Slots,bL A11 n11 c11 p11,ax B9 47 [iV y6.Kind,iV y6.Shape,iV y6.Flags,iV y6.Age,O A7 n7 c7,O A11 n11 c11]]) ?_ ?_
 ·refine D ?_;refine bp (fun m s L=> ∃p13 p14 A14 n14 c14,gv N a1 a0 y6 m p13 p14=some r∧s=[(1,O A3 n3 c3),(2,pV B4 0),(4,pV B5 0),(5,pV B9 0),(6,iV p13)]∧L=[tT Bu (O A3 n3 c3) a1,bo A1 n1 c1 a0.Slots,bo A2 n2 c2 a0.More,ax B4 47 [iV a0.Kind,iV a0.Shape,iV a0.Flags,iV a0.Age,O A1 n1 c1,O A2 n2 c2],ax B5 47 [iV 0,iV 0,iV 0,iV 0,O none 0 0,O none 0 0],bL A7 n7 c7 y6.Slots,bL A14 n14 c14 p14,ax B9 47 [iV y6.Kind,iV y6.Shape,iV y6.Flags,iV y6.Age,O A7 n7 c7,O A14 n14 c14]]) N _ _ ⟨0,[],none,0,0,h,U,U⟩ sA ((ce bv 52 _).trans (cS [8,6,7,5,4,2,0,1] 9)) ?_;rintro (_|m12) _ _ ⟨p13,p14,A14,n14,c14,h,rfl,rfl⟩
  ·exact aC h
  rw [gv.eq_2] at h;refine az ?_;refine D ?_;refine gR (aK 0 U aj U Sx) ?_;refine D ?_;refine av U (fun g16=> ?_) (fun g16=> ?_)
  ·replace h:=ae g16 h;refine D ?_;refine aO (fun s L=> ∃p18 A18 n18 c18,na N (gv N a1 a0 y6 m12) p13 a1 a0 y6 p18=some r∧s=[(1,O A3 n3 c3),(2,pV B4 0),(4,pV B5 0),(5,pV B9 0),(6,iV p13)]∧L=[tT Bu (O A3 n3 c3) a1,bo A1 n1 c1 a0.Slots,bo A2 n2 c2 a0.More,ax B4 47 [iV a0.Kind,iV a0.Shape,iV a0.Flags,iV a0.Age,O A1 n1 c1,O A2 n2 c2],ax B5 47 [iV 0,iV 0,iV 0,iV 0,O none 0 0,O none 0 0],bL A7 n7 c7 y6.Slots,bL A18 n18 c18 p18,ax B9 47 [iV y6.Kind,iV y6.Shape,iV y6.Flags,iV y6.Age,O A7 n7 c7,O A18 n18 c18]]) ?_ ?_
   ·refine D ?_;obtain ⟨x19,hx19,h⟩:=aa h;obtain ⟨lx19,ux19,hx19⟩:=aq hx19;refine gR (aH 0 U aj U U Sx Bq lx19 ux19) ?_;refine gR (aT (u:=.bool x19) 0 U aj U hx19 Hr (fun _ _ _ h=>by rw [show _=_ from h];rfl)) ?_;refine D ?_;refine av U (fun g20=> ?_) (fun g20=> ?_)
    ·replace h:=ae g20 h;obtain ⟨q21,h⟩:=ap h;obtain ⟨x22,hx22,h⟩:=aa h;obtain ⟨lx22,ux22,hx22⟩:=aq hx22;obtain ⟨q23,h⟩:=ap h;obtain ⟨q24,h⟩:=ap h;obtain ⟨x25,hx25,h⟩:=aa h;obtain ⟨lx25,ux25,hx25⟩:=aq hx25;refine gZ (t:=[(1,O A3 n3 c3),(2,pV B4 0),(4,pV B5 0),(5,pV B9 0),(6,iV p13)]) ?_ md (ah _)
     refine jh Y 16 [] [1,15] [20,21,22,23,24,25,26,27,28,29,30,31,32,33,34,35] [[],[0],[],[2],[],[4],[3,5],[6],[],[8],[],[10],[11],[9,12],[13],[7,14]] [aV (pV B9 5),
 aV (O A14 n14 c14),
 aV (pV B4 5),
 aV (O A2 n2 c2),
 aV (iV p13),
 aV (iV (2*p13)),
 aV (eX (O A2 n2 c2) ((2*p13).toNat) 3 0),
 aV (.agg #[iV x22.Kind,iV x22.N,.string x22.S]),
 aV (pV B4 5),
 aV (O A2 n2 c2),
 aV (iV p13),
 aV (iV (2*p13)),
 aV (iV ((2*p13)+1)),
 aV (eX (O A2 n2 c2) (((2*p13)+1).toNat) 3 0),
 aV (.agg #[iV x25.Kind,iV x25.N,.string x25.S]),
 aX3 (fun (A27:Option Addr) (n27 c27:Nat)=> O A27 n27 c27) (fun A27 n27 c27=> [bL A27 n27 c27 ([x22,x25]:List SG)])] [] (ah _) (lK) Y rfl rfl ?_ ?_ ?_
     ·exact lJ
     ·refine ai U ?_ ?_
      ·refine nL (bw (R:=bv) (vss:=[[iV x22.Kind,iV x22.N,.string x22.S],[iV x25.Kind,iV x25.N,.string x25.S]]) (xs:=[x22,x25]) U (Af _ _ _ _ _ _) U U (fun _ _ hr=> .cons U (.cons U All2.nil))) U ?_;rintro _ _ ⟨A26,n26,c26,rfl,rfl⟩;exact Ci A26 n26 c26 (ah _)
      refine ai U ?_ ?_
      ·exact dM (bm (us:=[iV x25.Kind,iV x25.N,.string x25.S]) 2 U aj U hx25 bY (fun _ _ _ h=>by rw [show _=_ from h];rfl)) U (bn U (ah _))
      refine ai U ?_ ?_
      ·exact dM (aH 2 U aj U U Sn aP lx25 ux25) U (bn U (ah _))
      refine ai U ?_ ?_
      ·exact cK (aU U U q24.1 q24.2) U (bn U (ah _))
      refine ai U ?_ ?_
      ·exact cK (ry U U q23.1 q23.2) U (bn U (ah _))
      refine ai U ?_ ?_
      ·exact cK (ay U) U (bn U (ah _))
      refine ai U ?_ ?_
      ·exact dM (bc 3 U U eu U) U (bn U (ah _))
      refine ai U ?_ ?_
      ·exact cK (bX U iD) U (bn U (ah _))
      refine ai U ?_ ?_
      ·exact dM (bm (us:=[iV x22.Kind,iV x22.N,.string x22.S]) 2 U aj U hx22 bY (fun _ _ _ h=>by rw [show _=_ from h];rfl)) U (bn U (ah _))
      refine ai U ?_ ?_
      ·exact dM (aH 2 U aj U U Sn aP lx22 ux22) U (bn U (ah _))
      refine ai U ?_ ?_
      ·exact cK (ry U U q21.1 q21.2) U (bn U (ah _))
      refine ai U ?_ ?_
      ·exact cK (ay U) U (bn U (ah _))
      refine ai U ?_ ?_
      ·exact dM (bc 3 U U eu U) U (bn U (ah _))
      refine ai U ?_ ?_
      ·exact cK (bX U iD) U (bn U (ah _))
      refine ai U ?_ ?_
      ·exact dM (bc 7 U U eu U) U (bn U (ah _))
      refine ai U ?_ ?_
      ·exact cK (bX U iD) U (bn U (ah _))
      exact eH
     intro A27 n27 c27;refine mG (t:=[(21,O A14 n14 c14),(35,O A27 n27 c27),(1,O A3 n3 c3),(2,pV B4 0),(4,pV B5 0),(5,pV B9 0),(6,iV p13)]) (L':=[bL A27 n27 c27 ([x22,x25]:List SG),tT Bu (O A3 n3 c3) a1,bo A1 n1 c1 a0.Slots,bo A2 n2 c2 a0.More,ax B4 47 [iV a0.Kind,iV a0.Shape,iV a0.Flags,iV a0.Age,O A1 n1 c1,O A2 n2 c2],ax B5 47 [iV 0,iV 0,iV 0,iV 0,O none 0 0,O none 0 0],bL A7 n7 c7 y6.Slots,bL A14 n14 c14 p14,ax B9 47 [iV y6.Kind,iV y6.Shape,iV y6.Flags,iV y6.Age,O A7 n7 c7,O A14 n14 c14]]) ?_ md (ah _);obtain ⟨q28,h⟩:=ap h;refine rN 16 U Y (bj 7 0 U U aF U U Sn ta U U q28) U U U ?_;rintro _ _ ⟨A29,n29,c29,rfl,rfl⟩;refine Ff ?_;refine Ck 17 U Y (bX U iD) U U U ?_;refine wu 18 U Y (au (us:=[O A29 n29 c29]) (cs':=[iV y6.Kind,iV y6.Shape,iV y6.Flags,iV y6.Age,O A7 n7 c7,O A29 n29 c29]) 8 U U U U dA U U U) U U ?_;rintro _ _ rfl;refine ma Y ?_;refine D ?_;exact ⟨_,_,⟨p14++([x22,x25]:List SG),A29,n29,c29,h,U,U⟩,sA,cS [1,2,3,4,5,6,7,8] 9⟩
    replace h:=ag g20 h;refine D ?_;exact ⟨_,_,⟨p14,A14,n14,c14,h,U,U⟩,sA,cS [0,1,2,3,4,5,6,7] 8⟩
   rintro _ _ ⟨p18,A18,n18,c18,h,rfl,rfl⟩;refine D ?_;obtain ⟨q30,h⟩:=ap h;refine gE (aU U U q30.1 q30.2) ?_;refine D ?_;exact ⟨m12,_,_,SP _,⟨p13+1,p18,A18,n18,c18,h,U,U⟩,sA,cS [0,1,2,3,4,5,6,7] 8⟩
  replace h:=ag g16 h;refine D ?_;exact ⟨_,_,⟨p14,A14,n14,c14,h,U,U⟩,sA,cS [4,5,6,7] 8⟩
 rintro _ _ ⟨p11,A11,n11,c11,h,rfl,rfl⟩;refine D ?_;refine gR (aA (us:=[iV y6.Kind,iV y6.Shape,iV y6.Flags,iV y6.Age,O A7 n7 c7,O A11 n11 c11]) 3 U U bh U) ?_;refine gO (au (us:=[iV y6.Kind,iV y6.Shape,iV y6.Flags,iV y6.Age,O A7 n7 c7,O A11 n11 c11]) (cs':=[iV y6.Kind,iV y6.Shape,iV y6.Flags,iV y6.Age,O A7 n7 c7,O A11 n11 c11]) 0 U U U U bF U U U) ?_;rintro _ _ rfl;refine D ?_;obtain rfl:=ao h;exact dB (rs:=[.cell 4 47]) (vs:=[.agg #[iV y6.Kind,iV y6.Shape,iV y6.Flags,iV y6.Age,O A7 n7 c7,O A11 n11 c11]]) U (.cons (co 0 U U bh) .nil) U (cS [1,2] 4) ⟨_,_,_,_,_,_,U,U⟩
theorem AJ {r:SD}: ∀v post,((fun (u:Value) (post:List Chunk)=> ∃A0 n0 c0 A1 n1 c1,u=.agg #[iV r.Kind,iV r.Shape,iV r.Flags,iV r.Age,O A0 n0 c0,O A1 n1 c1]∧post=[bL A0 n0 c0 r.Slots,bL A1 n1 c1 r.More])) v post→ ∀c∈post,cn c:=by
 rintro _ _ ⟨_,_,_,_,_,_,rfl,rfl⟩;exact Ex bJ (Ex bJ (ad))
def pa (N:Nat)(a0:SD)(p11:(List Bool)):Option SD:=
 (sP N a0 p11).bind fun y23=>some y23
def mR (N:Nat)(a1:(List Int))(a0:SD):Nat→(List Bool)→Int→Option SD
 |0,_,_=>none
 |m12+1,p13,p14=>bif decide (p14<(a0.More.length:Int)) then ((aM a0.More p14).bind fun x17=>(tu N x17.N a1).bind fun y18=>bG (bZ (p13.length+([y18]:List Bool).length)) (bG (in64 (p14+2)) ((mR N a1 a0 m12) (p13++([y18]:List Bool)) (p14+2)))) else (pa N a0 p13)
def sd (N:Nat)(a0:SD)(a1:(List Int)):Option SD:=
 (vF N a0).bind fun y6=>bif !y6 then (some (⟨0,0,0,0,[],[]⟩:SD)) else (mR N a1 a0 N [] 0)
theorem F9 {N:Nat}{a0:SD}{a1:(List Int)}{r:SD}(h:sd N a0 a1=some r):Okc Tryz.prog 122 [.agg #[iV a0.Kind,iV a0.Shape,iV a0.Flags,iV a0.Age,O A1 n1 c1,O A2 n2 c2],O A3 n3 c3] ([bo A1 n1 c1 a0.Slots,bo A2 n2 c2 a0.More,dw A3 n3 c3 a1]) (fun u post=> ∃A0 n0 c0 A1 n1 c1,u=.agg #[iV r.Kind,iV r.Shape,iV r.Flags,iV r.Age,O A0 n0 c0,O A1 n1 c1]∧post=[bL A0 n0 c0 r.Slots,bL A1 n1 c1 r.More]):=by
 refine bz Tryz.func122 U U ?_;simp only [aR];refine D ?_;refine gD (bd U U) ?_;rintro _ _ ⟨B4,rfl,rfl⟩;refine gD (aN dI U) ?_;rintro _ _ ⟨B5,rfl,rfl⟩;refine D ?_;refine az ?_;refine D ?_;refine gR (aA (us:=[iV a0.Kind,iV a0.Shape,iV a0.Flags,iV a0.Age,O A1 n1 c1,O A2 n2 c2]) 1 U U bh U) ?_;obtain ⟨y6,hy6,h⟩:=aa h;refine gD (ak (E0 hy6) JU U (Ex (ac (i:=2) U U) (Ex (ac (i:=3) U U) ad)) Bz) ?_;rintro _ _ ⟨_,⟨rfl,rfl⟩,rfl⟩;refine D ?_;refine av U (fun g7=> ?_) (fun g7=> ?_)
 ·replace h:=ae g7 h;refine D ?_;refine gE (cq U (wY)) ?_;refine gO (au (us:=[iV 0,iV 0,iV 0,iV 0,O none 0 0,O none 0 0]) (cs':=[iV 0,iV 0,iV 0,iV 0,O none 0 0,O none 0 0]) 0 U U U U bF U U U) ?_;rintro _ _ rfl;refine D ?_;obtain rfl:=ao h;exact dB (rs:=[.cell 4 47]) (vs:=[.agg #[iV 0,iV 0,iV 0,iV 0,O none 0 0,O none 0 0]]) U (.cons (co 0 U U bh) .nil) U ((ce bv 52 _).trans ((ce bv 52 _).trans (cS [1,0] 7))) ⟨_,_,_,_,_,_,U,U⟩
 replace h:=ag g7 h;refine D ?_;refine aO (fun s L=> ∃p11 A11 n11 c11,pa N a0 p11=some r∧s=[(2,pV B4 0),(4,pV B5 0),(5,O A11 n11 c11)]∧L=[gK Bu 4 (O A11 n11 c11) p11,bo A1 n1 c1 a0.Slots,bo A2 n2 c2 a0.More,ax B4 47 [iV a0.Kind,iV a0.Shape,iV a0.Flags,iV a0.Age,O A1 n1 c1,O A2 n2 c2],ax B5 47 [iV 0,iV 0,iV 0,iV 0,O none 0 0,O none 0 0]]) ?_ ?_
 ·refine D ?_;refine bp (fun m s L=> ∃p13 p14 A13 n13 c13,mR N a1 a0 m p13 p14=some r∧s=[(1,O A3 n3 c3),(2,pV B4 0),(4,pV B5 0),(5,O A13 n13 c13),(6,iV p14)]∧L=[dw A3 n3 c3 a1,gK Bu 4 (O A13 n13 c13) p13,bo A1 n1 c1 a0.Slots,bo A2 n2 c2 a0.More,ax B4 47 [iV a0.Kind,iV a0.Shape,iV a0.Flags,iV a0.Age,O A1 n1 c1,O A2 n2 c2],ax B5 47 [iV 0,iV 0,iV 0,iV 0,O none 0 0,O none 0 0]]) N _ _ ⟨[],0,none,0,0,h,U,U⟩ sA ((ce Bu 4 _).trans (cS [5,0,3,4,2,1] 6)) ?_;rintro (_|m12) _ _ ⟨p13,p14,A13,n13,c13,h,rfl,rfl⟩
  ·exact aC h
  rw [mR.eq_2] at h;refine az ?_;refine D ?_;refine gR (aK 3 U aj U Sn) ?_;refine D ?_;refine av U (fun g16=> ?_) (fun g16=> ?_)
  ·replace h:=ae g16 h;refine D ?_;refine az ?_;refine D ?_;obtain ⟨x17,hx17,h⟩:=aa h;obtain ⟨lx17,ux17,hx17⟩:=aq hx17;refine gR (aH 3 U aj U U Sn aP lx17 ux17) ?_;refine gR (nU 3 U aj U (bx lx17 ux17) jB) ?_;refine gR (aT (u:=iV x17.N) 3 U aj U hx17 cX (fun _ _ _ h=>by rw [show _=_ from h];rfl)) ?_;refine D ?_;obtain ⟨y18,hy18,h⟩:=aa h;refine gD (ak (E1 hy18) Np U (Ex (ac (i:=0) U U) ad) BA) ?_;rintro _ _ ⟨_,⟨rfl,rfl⟩,rfl⟩;refine gD (bw (R:=Bu) (vss:=[[.bool y18]]) (xs:=[y18]) U (Lq _) U U (fun _ _ hr=> .cons U All2.nil)) ?_;rintro _ _ ⟨A19,n19,c19,rfl,rfl⟩;obtain ⟨q20,h⟩:=ap h;refine gD (bj 2 0 U U aF U U Sx Rz U U q20) ?_;rintro _ _ ⟨A21,n21,c21,rfl,rfl⟩;refine D ?_;obtain ⟨q22,h⟩:=ap h;refine gE (aU U U q22.1 q22.2) ?_;refine D ?_;exact ⟨m12,_,_,SP _,⟨p13++([y18]:List Bool),p14+2,A21,n21,c21,h,U,U⟩,sA,cS [1,2,3,4,5,6] 7⟩
  replace h:=ag g16 h;refine D ?_;exact ⟨_,_,⟨p13,A13,n13,c13,h,U,U⟩,sA,cS [1,2,3,4,5] 6⟩
 rintro _ _ ⟨p11,A11,n11,c11,h,rfl,rfl⟩;refine D ?_;refine gR (aA (us:=[iV a0.Kind,iV a0.Shape,iV a0.Flags,iV a0.Age,O A1 n1 c1,O A2 n2 c2]) 3 U U bh U) ?_;refine D ?_;obtain ⟨y23,hy23,h⟩:=aa h;refine gD (ak (Dk hy23) OR U (Ex (ac (i:=1) U U) (Ex (ac (i:=2) U U) (Ex (ar (i:=0) U) ad))) AJ) ?_;rintro _ _ ⟨_,⟨A24,n24,c24,A25,n25,c25,rfl,rfl⟩,rfl⟩;refine gO (au (us:=[iV y23.Kind,iV y23.Shape,iV y23.Flags,iV y23.Age,O A24 n24 c24,O A25 n25 c25]) (cs':=[iV y23.Kind,iV y23.Shape,iV y23.Flags,iV y23.Age,O A24 n24 c24,O A25 n25 c25]) 6 U U U U bF U U U) ?_;rintro _ _ rfl;refine cN ?_;refine D ?_;obtain rfl:=ao h;exact dB (rs:=[.cell 4 47]) (vs:=[.agg #[iV y23.Kind,iV y23.Shape,iV y23.Flags,iV y23.Age,O A24 n24 c24,O A25 n25 c25]]) U (.cons (co 6 U U bh) .nil) U (cS [0,1] 7) ⟨_,_,_,_,_,_,U,U⟩
theorem Dm {r:SD}: ∀v post,((fun (u:Value) (post:List Chunk)=> ∃A0 n0 c0 A1 n1 c1,u=.agg #[iV r.Kind,iV r.Shape,iV r.Flags,iV r.Age,O A0 n0 c0,O A1 n1 c1]∧post=[bL A0 n0 c0 r.Slots,bL A1 n1 c1 r.More])) v post→ ∀c∈post,cn c:=by
 rintro _ _ ⟨_,_,_,_,_,_,rfl,rfl⟩;exact Ex bJ (Ex bJ (ad))
def mQ (N:Nat)(a0:SD)(a1:(List Int)):Option SD:=
 (bif decide (a0.Kind=8) then ((cY N a0).bind fun y7=>some y7) else (some false)).bind fun b6=>bif b6 then ((sd N a0 a1).bind fun y9=>some y9) else (some a0)
theorem vE {N:Nat}{a0:SD}{a1:(List Int)}{r:SD}(h:mQ N a0 a1=some r):Okc Tryz.prog 83 [.agg #[iV a0.Kind,iV a0.Shape,iV a0.Flags,iV a0.Age,O A1 n1 c1,O A2 n2 c2],O A3 n3 c3] ([bo A1 n1 c1 a0.Slots,bo A2 n2 c2 a0.More,dw A3 n3 c3 a1]) (fun u post=> ∃A0 n0 c0 A1 n1 c1,u=.agg #[iV r.Kind,iV r.Shape,iV r.Flags,iV r.Age,O A0 n0 c0,O A1 n1 c1]∧post=[bo A0 n0 c0 r.Slots,bo A1 n1 c1 r.More]):=by
 refine bz Tryz.func83 U U ?_;simp only [aR];refine D ?_;refine gD (bd U U) ?_;rintro _ _ ⟨B4,rfl,rfl⟩;refine gD (aN dI U) ?_;rintro _ _ ⟨B5,rfl,rfl⟩;refine D ?_;refine az ?_;refine D ?_;obtain ⟨b6,hb6,h⟩:=aa h;refine aE 3 11 b6 ?_ ?_
 ·clear h;refine aB 8 U (fun g6=> ?_) (fun g6=> ?_)
  ·have h:=ae g6 hb6;refine bM (aA (us:=[iV a0.Kind,iV a0.Shape,iV a0.Flags,iV a0.Age,O A1 n1 c1,O A2 n2 c2]) 1 U U bh U) U (aS g6 U) U ?_;obtain ⟨y7,hy7,h⟩:=aa h;refine ca (ak (ub hy7) GO U (Ex (ac (i:=2) U U) (Ex (ac (i:=3) U U) ad)) qZ) U (aS g6 U) U ?_;rintro _ _ ⟨_,⟨rfl,rfl⟩,rfl⟩;refine D ?_;obtain rfl:=ao h;exact ab sA (cS [0,1,2,3,4] 5)
  have h:=ag g6 hb6;refine D ?_;obtain rfl:=ao h;exact ab sA (cS [0,1,2,3,4] 5)
 refine D ?_;refine av U (fun g8=> ?_) (fun g8=> ?_)
 ·replace h:=ae g8 h;refine D ?_;refine gR (aA (us:=[iV a0.Kind,iV a0.Shape,iV a0.Flags,iV a0.Age,O A1 n1 c1,O A2 n2 c2]) 1 U U bh U) ?_;refine D ?_;obtain ⟨y9,hy9,h⟩:=aa h;refine gD (ak (F9 hy9) Ph U (Ex (ac (i:=2) U U) (Ex (ac (i:=3) U U) (Ex (ac (i:=4) U U) ad))) Dm) ?_;rintro _ _ ⟨_,⟨A10,n10,c10,A11,n11,c11,rfl,rfl⟩,rfl⟩;refine gO (au (us:=[iV y9.Kind,iV y9.Shape,iV y9.Flags,iV y9.Age,O A10 n10 c10,O A11 n11 c11]) (cs':=[iV y9.Kind,iV y9.Shape,iV y9.Flags,iV y9.Age,O A10 n10 c10,O A11 n11 c11]) 2 U U U U bF U U U) ?_;rintro _ _ rfl;refine D ?_;obtain rfl:=ao h;exact dB (rs:=[.cell 4 47]) (vs:=[.agg #[iV y9.Kind,iV y9.Shape,iV y9.Flags,iV y9.Age,O A10 n10 c10,O A11 n11 c11]]) U (.cons (co 2 U U bh) .nil) U ((ck 0 U).trans ((ck 1 U).trans (cS [0,1] 7))) ⟨_,_,_,_,_,_,U,U⟩
 replace h:=ag g8 h;refine D ?_;refine gR (aA (us:=[iV a0.Kind,iV a0.Shape,iV a0.Flags,iV a0.Age,O A1 n1 c1,O A2 n2 c2]) 1 U U bh U) ?_;refine gO (au (us:=[iV a0.Kind,iV a0.Shape,iV a0.Flags,iV a0.Age,O A1 n1 c1,O A2 n2 c2]) (cs':=[iV a0.Kind,iV a0.Shape,iV a0.Flags,iV a0.Age,O A1 n1 c1,O A2 n2 c2]) 0 U U U U bF U U U) ?_;rintro _ _ rfl;refine D ?_;obtain rfl:=ao h;exact dB (rs:=[.cell 4 47]) (vs:=[.agg #[iV a0.Kind,iV a0.Shape,iV a0.Flags,iV a0.Age,O A1 n1 c1,O A2 n2 c2]]) U (.cons (co 0 U U bh) .nil) U (cS [2,3] 5) ⟨_,_,_,_,_,_,U,U⟩
def xC (N:Nat):Option Bool:=
 some true
def kO (N:Nat):Nat→Int→(List SD)→(List SD)→(List Int)→(List SD)→(List SD)→(List Int)→Option Bool
 |0,_,_,_,_,_,_,_=>none
 |m23+1,p24,p25,p26,p27,p28,p29,p30=>bif decide (p24<(p27.length:Int)) then ((aM p27 p24).bind fun x32=>(nX N (⟨p25,p26⟩:SB) x32).bind fun y33=>(mQ N y33 p27).bind fun y38=>(aM p30 p24).bind fun x45=>(nX N (⟨p28,p29⟩:SB) x45).bind fun y46=>(mQ N y46 p30).bind fun y51=>(bif !decide (y38.Kind=y51.Kind) then (some true) else (some (!decide (y38.Shape=y51.Shape)))).bind fun b58=>(bif b58 then (some true) else (some (!decide (y38.Flags=y51.Flags)))).bind fun b59=>(bif b59 then (some true) else ((iR N (⟨(⟨p25,p26⟩:SB),p27⟩:SF) y38.Slots (⟨(⟨p28,p29⟩:SB),p30⟩:SF) y51.Slots).bind fun y61=>some (!y61))).bind fun b60=>(bif b60 then (some true) else ((iR N (⟨(⟨p25,p26⟩:SB),p27⟩:SF) y38.More (⟨(⟨p28,p29⟩:SB),p30⟩:SF) y51.More).bind fun y63=>some (!y63))).bind fun b62=>bif b62 then (some false) else (bG (in64 (p24+1)) ((kO N m23) (p24+1) p25 p26 p27 p28 p29 p30))) else (xC N)
def dE (N:Nat)(a0:SB)(a1:(List SG))(a2:SB)(a3:(List SG)):Option Bool:=
 (nq N a0 a1).bind fun y9=>(nq N a2 a3).bind fun y14=>(bif !decide ((y9.Order.length:Int)=(y14.Order.length:Int)) then (some true) else ((iR N y9 a1 y14 a3).bind fun y20=>some (!y20))).bind fun b19=>bif b19 then (some false) else (kO N N 0 y9.M.Young y9.M.Old y9.Order y14.M.Young y14.M.Old y14.Order)
set_option maxHeartbeats 4000000 in
theorem F7 {N:Nat}{a0:SB}{a1:(List SG)}{a2:SB}{a3:(List SG)}{r:Bool}(h:dE N a0 a1 a2 a3=some r):Okc Tryz.prog 19 [.agg #[O A1 n1 c1,O A2 n2 c2],O A3 n3 c3,.agg #[O A4 n4 c4,O A5 n5 c5],O A6 n6 c6] ([bC A1 n1 c1 a0.Young,bC A2 n2 c2 a0.Old,bo A3 n3 c3 a1,bC A4 n4 c4 a2.Young,bC A5 n5 c5 a2.Old,bo A6 n6 c6 a3]) (fun u post=>u=.bool r∧post=[]):=by
 refine bz Tryz.func19 U U ?_;simp only [aR];refine D ?_;refine gD (bd U U) ?_;rintro _ _ ⟨B7,rfl,rfl⟩;refine gD (bd U U) ?_;rintro _ _ ⟨B8,rfl,rfl⟩;refine D ?_;refine gR (aA (us:=[O A1 n1 c1,O A2 n2 c2]) 1 U U cU U) ?_;refine D ?_;obtain ⟨y9,hy9,h⟩:=aa h;refine gD (aX (Bv hy9) Nf U (aJ [2,3,4] [] [0,1,2,3,4,5,6,7] 8 U)) ?_;rintro _ _ ⟨_,⟨A10,n10,c10,A11,n11,c11,A12,n12,c12,rfl,rfl⟩,rfl⟩;refine gD (aN FQ U) ?_;rintro _ _ ⟨B13,rfl,rfl⟩;refine gO (au (us:=[O A10 n10 c10,O A11 n11 c11,O A12 n12 c12]) (cs':=[O A10 n10 c10,O A11 n11 c11,O A12 n12 c12]) 0 U U U U FY U U U) ?_;rintro _ _ rfl;refine D ?_;refine gR (aA (us:=[O A4 n4 c4,O A5 n5 c5]) 4 U U cU U) ?_;refine D ?_;obtain ⟨y14,hy14,h⟩:=aa h;refine gD (aX (Bv hy14) Nf U (aJ [9,10,11] [] [0,1,2,3,4,5,6,7,8,9,10,11] 12 U)) ?_;rintro _ _ ⟨_,⟨A15,n15,c15,A16,n16,c16,A17,n17,c17,rfl,rfl⟩,rfl⟩;refine cN ?_;refine gD (aN FQ U) ?_;rintro _ _ ⟨B18,rfl,rfl⟩;refine gO (au (us:=[O A15 n15 c15,O A16 n16 c16,O A17 n17 c17]) (cs':=[O A15 n15 c15,O A16 n16 c16,O A17 n17 c17]) 0 U U U U FY U U U) ?_;rintro _ _ rfl;refine D ?_;refine az ?_;refine D ?_;refine gR (aK 7 U aF U Sg) ?_;refine D ?_;refine gR (aK 3 U aF U Sg) ?_;refine D ?_;obtain ⟨b19,hb19,h⟩:=aa h;refine aE 7 34 b19 ?_ ?_
 ·clear h;refine aB 27 U (fun g19=> ?_) (fun g19=> ?_)
  ·have h:=ae g19 hb19;refine D ?_;obtain rfl:=ao h;exact ab sA (cS [0,1,2,3,4,5,6,7,8,9,10,11,12,13,14,15] 16)
  have h:=ag g19 hb19;refine bM (aA (us:=[O A10 n10 c10,O A11 n11 c11,O A12 n12 c12]) 4 U U yr U) U (cu g19 U) U ?_;refine D ?_;refine bM (aA (us:=[O A15 n15 c15,O A16 n16 c16,O A17 n17 c17]) 0 U U yr U) U (cu g19 U) U ?_;refine D ?_;obtain ⟨y20,hy20,h⟩:=aa h;refine ca (ak (sN hy20) IY U (Ex (ar (i:=5) U) (Ex (ar (i:=6) U) (Ex (ar (i:=7) U) (Ex (ac (i:=12) U U) (Ex (ar (i:=1) U) (Ex (ar (i:=2) U) (Ex (ar (i:=3) U) (Ex (ac (i:=15) U U) ad)))))))) pT) U (cu g19 U) U ?_;rintro _ _ ⟨_,⟨rfl,rfl⟩,rfl⟩;refine D ?_;obtain rfl:=ao h;exact ab sA (cS [0,1,2,3,4,5,6,7,8,9,10,11,12,13,14,15] 16)
 refine D ?_;refine av U (fun g21=> ?_) (fun g21=> ?_)
 ·replace h:=ae g21 h;refine D ?_;obtain rfl:=ao h;exact aD U U (cS [] 16) ⟨U,U⟩
 replace h:=ag g21 h;refine D ?_;refine aO (fun s L=>xC N=some r∧s=[(8,.bool false)]∧L=[]) ?_ ?_
 ·refine D ?_;refine bp (fun m s L=> ∃p24 p25 p26 p27 p28 p29 p30 A25 n25 c25 A26 n26 c26 A27 n27 c27 A28 n28 c28 A29 n29 c29 A30 n30 c30,kO N m p24 p25 p26 p27 p28 p29 p30=some r∧s=[(8,.bool false),(9,pV B13 0),(10,pV B18 0),(11,iV p24)]∧L=[bC A25 n25 c25 p25,bC A26 n26 c26 p26,dw A27 n27 c27 p27,ax B13 103 [O A25 n25 c25,O A26 n26 c26,O A27 n27 c27],bC A28 n28 c28 p28,bC A29 n29 c29 p29,dw A30 n30 c30 p30,ax B18 103 [O A28 n28 c28,O A29 n29 c29,O A30 n30 c30]]) N _ _ ⟨0,y9.M.Young,y9.M.Old,y9.Order,y14.M.Young,y14.M.Old,y14.Order,A10,n10,c10,A11,n11,c11,A12,n12,c12,A15,n15,c15,A16,n16,c16,A17,n17,c17,h,U,U⟩ sA ((ck 5 U).trans ((ck 6 U).trans ((ck 7 U).trans ((ck 1 U).trans ((ck 2 U).trans ((ck 3 U).trans (cS [5,6,7,4,1,2,3,0] 16))))))) ?_;rintro (_|m23) _ _ ⟨p24,p25,p26,p27,p28,p29,p30,A25,n25,c25,A26,n26,c26,A27,n27,c27,A28,n28,c28,A29,n29,c29,A30,n30,c30,h,rfl,rfl⟩
  ·exact aC h
  rw [kO.eq_2] at h;refine az ?_;refine D ?_;refine gR (aK 2 U aj U Sg) ?_;refine D ?_;refine av U (fun g31=> ?_) (fun g31=> ?_)
  ·replace h:=ae g31 h;refine D ?_;refine az ?_;refine iE ?_;refine az ?_;obtain ⟨x32,hx32,h⟩:=aa h;obtain ⟨lx32,ux32,hx32⟩:=aq hx32;obtain ⟨y33,hy33,h⟩:=aa h;obtain ⟨y38,hy38,h⟩:=aa h;refine gZ (t:=[(8,.bool false),(9,pV B13 0),(10,pV B18 0),(11,iV p24)]) ?_ md (ah _)
   refine jh Y 12 [] [10,11] [42,43,44,45,46,47,48,49,50,51,52,12] [[],[0],[],[2],[],[3,4],[5],[1,6],[],[8],[7,9],[]] [aV (pV B13 0),
aV (.agg #[O A25 n25 c25,O A26 n26 c26]),
aV (pV B13 2),
aV (O A27 n27 c27),
aV (iV p24),
aV (eX (O A27 n27 c27) p24.toNat 1 0),
aV (iV x32),
aX6 (fun (A36:Option Addr) (n36 c36:Nat) (A37:Option Addr) (n37 c37:Nat)=> .agg #[iV y33.Kind,iV y33.Shape,iV y33.Flags,iV y33.Age,O A36 n36 c36,O A37 n37 c37]) (fun A36 n36 c36 A37 n37 c37=> [bo A36 n36 c36 y33.Slots,bo A37 n37 c37 y33.More]),
aV (pV B13 2),
aV (O A27 n27 c27),
aX6 (fun (A41:Option Addr) (n41 c41:Nat) (A42:Option Addr) (n42 c42:Nat)=> .agg #[iV y38.Kind,iV y38.Shape,iV y38.Flags,iV y38.Age,O A41 n41 c41,O A42 n42 c42]) (fun A41 n41 c41 A42 n42 c42=> [bo A41 n41 c41 y38.Slots,bo A42 n42 c42 y38.More]),
aX1 (fun (B44:Nat)=>pV B44 0) (fun B44=> [ax B44 47 [iV 0,iV 0,iV 0,iV 0,O none 0 0,O none 0 0]])] [] (ah _) (lK) Y rfl rfl ?_ ?_ ?_
   ·exact lJ
   ·refine ai U ?_ ?_
    ·refine nL (aN dI U) U ?_;rintro _ _ ⟨B43,rfl,rfl⟩;exact Lk B43 (ah _)
    refine ai U ?_ ?_
    ·intro A36 n36 c36 A37 n37 c37;refine nL (aX (vE hy38) Nd U (aJ [0,1,4] [] [0,1,2,3,4,5,6,7,8,9] 10 U)) U ?_;rintro _ _ ⟨_,⟨A39,n39,c39,A40,n40,c40,rfl,rfl⟩,rfl⟩;exact HR A39 n39 c39 A40 n40 c40 (ah _)
    refine ai U ?_ ?_
    ·exact dM (bc 3 U U js U) U (bn U (ah _))
    refine ai U ?_ ?_
    ·exact cK (bX U rv) U (bn U (ah _))
    refine ai U ?_ ?_
    ·refine nL (aX (wF hy33) GH U (aJ [0,1] [] [0,1,2,3,4,5,6,7] 8 U)) U ?_;rintro _ _ ⟨_,⟨A34,n34,c34,A35,n35,c35,rfl,rfl⟩,rfl⟩;exact HR A34 n34 c34 A35 n35 c35 (ah _)
    refine ai U ?_ ?_
    ·exact dM (aT (u:=iV x32) 2 U aj U hx32 cX (fun _ _ _ h=>by rw [show _=_ from h];rfl)) U (bn U (ah _))
    refine ai U ?_ ?_
    ·exact dM (aH 2 U aj U U Sg dp lx32 ux32) U (bn U (ah _))
    refine ai U ?_ ?_
    ·exact cK (ay U) U (bn U (ah _))
    refine ai U ?_ ?_
    ·exact dM (bc 3 U U js U) U (bn U (ah _))
    refine ai U ?_ ?_
    ·exact cK (bX U rv) U (bn U (ah _))
    refine ai U ?_ ?_
    ·exact dM (aA (us:=[O A25 n25 c25,O A26 n26 c26]) 3 U U cU U) U (bn U (ah _))
    refine ai U ?_ ?_
    ·exact cK (dG U tL) U (bn U (ah _))
    exact eH
   intro A41 n41 c41 A42 n42 c42 B44;refine mG (t:=[(52,.agg #[iV y38.Kind,iV y38.Shape,iV y38.Flags,iV y38.Age,O A41 n41 c41,O A42 n42 c42]),(12,pV B44 0),(8,.bool false),(9,pV B13 0),(10,pV B18 0),(11,iV p24)]) (L':=[bo A41 n41 c41 y38.Slots,bo A42 n42 c42 y38.More,ax B44 47 [iV 0,iV 0,iV 0,iV 0,O none 0 0,O none 0 0],bC A25 n25 c25 p25,bC A26 n26 c26 p26,dw A27 n27 c27 p27,ax B13 103 [O A25 n25 c25,O A26 n26 c26,O A27 n27 c27],bC A28 n28 c28 p28,bC A29 n29 c29 p29,dw A30 n30 c30 p30,ax B18 103 [O A28 n28 c28,O A29 n29 c29,O A30 n30 c30]]) ?_ md (ah _);refine wu 12 U Y (au (us:=[iV y38.Kind,iV y38.Shape,iV y38.Flags,iV y38.Age,O A41 n41 c41,O A42 n42 c42]) (cs':=[iV y38.Kind,iV y38.Shape,iV y38.Flags,iV y38.Age,O A41 n41 c41,O A42 n42 c42]) 2 U U U U bF U U U) U U ?_;rintro _ _ rfl;refine ma Y ?_;refine gL ?_;refine az ?_;obtain ⟨x45,hx45,h⟩:=aa h;obtain ⟨lx45,ux45,hx45⟩:=aq hx45;obtain ⟨y46,hy46,h⟩:=aa h;obtain ⟨y51,hy51,h⟩:=aa h;refine gZ (t:=[(8,.bool false),(9,pV B13 0),(10,pV B18 0),(11,iV p24),(12,pV B44 0)]) ?_ md (ah _)
   refine jh Y 12 [] [10,11] [53,54,55,56,57,58,59,60,61,62,63,13] [[],[0],[],[2],[],[3,4],[5],[1,6],[],[8],[7,9],[]] [aV (pV B18 0),
aV (.agg #[O A28 n28 c28,O A29 n29 c29]),
aV (pV B18 2),
aV (O A30 n30 c30),
aV (iV p24),
aV (eX (O A30 n30 c30) p24.toNat 1 0),
aV (iV x45),
aX6 (fun (A49:Option Addr) (n49 c49:Nat) (A50:Option Addr) (n50 c50:Nat)=> .agg #[iV y46.Kind,iV y46.Shape,iV y46.Flags,iV y46.Age,O A49 n49 c49,O A50 n50 c50]) (fun A49 n49 c49 A50 n50 c50=> [bo A49 n49 c49 y46.Slots,bo A50 n50 c50 y46.More]),
aV (pV B18 2),
aV (O A30 n30 c30),
aX6 (fun (A54:Option Addr) (n54 c54:Nat) (A55:Option Addr) (n55 c55:Nat)=> .agg #[iV y51.Kind,iV y51.Shape,iV y51.Flags,iV y51.Age,O A54 n54 c54,O A55 n55 c55]) (fun A54 n54 c54 A55 n55 c55=> [bo A54 n54 c54 y51.Slots,bo A55 n55 c55 y51.More]),
aX1 (fun (B57:Nat)=>pV B57 0) (fun B57=> [ax B57 47 [iV 0,iV 0,iV 0,iV 0,O none 0 0,O none 0 0]])] [] (ah _) (lK) Y rfl rfl ?_ ?_ ?_
   ·exact lJ
   ·refine ai U ?_ ?_
    ·refine nL (aN dI U) U ?_;rintro _ _ ⟨B56,rfl,rfl⟩;exact Lk B56 (ah _)
    refine ai U ?_ ?_
    ·intro A49 n49 c49 A50 n50 c50;refine nL (aX (vE hy51) Nd U (aJ [0,1,11] [] [0,1,2,3,4,5,6,7,8,9,10,11,12] 13 U)) U ?_;rintro _ _ ⟨_,⟨A52,n52,c52,A53,n53,c53,rfl,rfl⟩,rfl⟩;exact HR A52 n52 c52 A53 n53 c53 (ah _)
    refine ai U ?_ ?_
    ·exact dM (bc 10 U U js U) U (bn U (ah _))
    refine ai U ?_ ?_
    ·exact cK (bX U rv) U (bn U (ah _))
    refine ai U ?_ ?_
    ·refine nL (aX (wF hy46) GH U (aJ [7,8] [] [0,1,2,3,4,5,6,7,8,9,10] 11 U)) U ?_;rintro _ _ ⟨_,⟨A47,n47,c47,A48,n48,c48,rfl,rfl⟩,rfl⟩;exact HR A47 n47 c47 A48 n48 c48 (ah _)
    refine ai U ?_ ?_
    ·exact dM (aT (u:=iV x45) 9 U aj U hx45 cX (fun _ _ _ h=>by rw [show _=_ from h];rfl)) U (bn U (ah _))
    refine ai U ?_ ?_
    ·exact dM (aH 9 U aj U U Sg dp lx45 ux45) U (bn U (ah _))
    refine ai U ?_ ?_
    ·exact cK (ay U) U (bn U (ah _))
    refine ai U ?_ ?_
    ·exact dM (bc 10 U U js U) U (bn U (ah _))
    refine ai U ?_ ?_
    ·exact cK (bX U rv) U (bn U (ah _))
    refine ai U ?_ ?_
    ·exact dM (aA (us:=[O A28 n28 c28,O A29 n29 c29]) 10 U U cU U) U (bn U (ah _))
    refine ai U ?_ ?_
    ·exact cK (dG U tL) U (bn U (ah _))
    exact eH
   intro A54 n54 c54 A55 n55 c55 B57;refine mG (t:=[(63,.agg #[iV y51.Kind,iV y51.Shape,iV y51.Flags,iV y51.Age,O A54 n54 c54,O A55 n55 c55]),(13,pV B57 0),(8,.bool false),(9,pV B13 0),(10,pV B18 0),(11,iV p24),(12,pV B44 0)]) (L':=[bo A54 n54 c54 y51.Slots,bo A55 n55 c55 y51.More,ax B57 47 [iV 0,iV 0,iV 0,iV 0,O none 0 0,O none 0 0],bo A41 n41 c41 y38.Slots,bo A42 n42 c42 y38.More,ax B44 47 [iV y38.Kind,iV y38.Shape,iV y38.Flags,iV y38.Age,O A41 n41 c41,O A42 n42 c42],bC A25 n25 c25 p25,bC A26 n26 c26 p26,dw A27 n27 c27 p27,ax B13 103 [O A25 n25 c25,O A26 n26 c26,O A27 n27 c27],bC A28 n28 c28 p28,bC A29 n29 c29 p29,dw A30 n30 c30 p30,ax B18 103 [O A28 n28 c28,O A29 n29 c29,O A30 n30 c30]]) ?_ md (ah _);refine wu 12 U Y (au (us:=[iV y51.Kind,iV y51.Shape,iV y51.Flags,iV y51.Age,O A54 n54 c54,O A55 n55 c55]) (cs':=[iV y51.Kind,iV y51.Shape,iV y51.Flags,iV y51.Age,O A54 n54 c54,O A55 n55 c55]) 2 U U U U bF U U U) U U ?_;rintro _ _ rfl;refine Ff ?_;refine ma Y ?_;refine D ?_;obtain ⟨b58,hb58,h⟩:=aa h;refine aE 6 75 b58 ?_ ?_
   ·clear h;refine aB 69 U (fun g58=> ?_) (fun g58=> ?_)
    ·have h:=ae g58 hb58;refine D ?_;obtain rfl:=ao h;exact ab sA (cS [0,1,2,3,4,5,6,7,8,9,10,11,12,13] 14)
    have h:=ag g58 hb58;refine D ?_;obtain rfl:=ao h;exact ab sA (cS [0,1,2,3,4,5,6,7,8,9,10,11,12,13] 14)
   refine D ?_;obtain ⟨b59,hb59,h⟩:=aa h;refine aE 6 82 b59 ?_ ?_
   ·clear h;refine aB 76 U (fun g59=> ?_) (fun g59=> ?_)
    ·have h:=ae g59 hb59;refine D ?_;obtain rfl:=ao h;exact ab sA (cS [0,1,2,3,4,5,6,7,8,9,10,11,12,13] 14)
    have h:=ag g59 hb59;refine D ?_;obtain rfl:=ao h;exact ab sA (cS [0,1,2,3,4,5,6,7,8,9,10,11,12,13] 14)
   refine D ?_;obtain ⟨b60,hb60,h⟩:=aa h;refine aE 9 92 b60 ?_ ?_
   ·clear h;refine aB 83 U (fun g60=> ?_) (fun g60=> ?_)
    ·have h:=ae g60 hb60;refine D ?_;obtain rfl:=ao h;exact ab sA (cS [0,1,2,3,4,5,6,7,8,9,10,11,12,13] 14)
    have h:=ag g60 hb60;refine bM (aA (us:=[O A25 n25 c25,O A26 n26 c26,O A27 n27 c27]) 9 U U yr U) U (cu g60 U) U ?_;refine D ?_;refine bM (aA (us:=[O A28 n28 c28,O A29 n29 c29,O A30 n30 c30]) 13 U U yr U) U (cu g60 U) U ?_;refine D ?_;obtain ⟨y61,hy61,h⟩:=aa h;refine ca (ak (sN hy61) IY U (Ex (ac (i:=6) U U) (Ex (ac (i:=7) U U) (Ex (ac (i:=8) U U) (Ex (ac (i:=3) U U) (Ex (ac (i:=10) U U) (Ex (ac (i:=11) U U) (Ex (ac (i:=12) U U) (Ex (ac (i:=0) U U) ad)))))))) pT) U (cu g60 U) U ?_;rintro _ _ ⟨_,⟨rfl,rfl⟩,rfl⟩;refine D ?_;obtain rfl:=ao h;exact ab sA (cS [0,1,2,3,4,5,6,7,8,9,10,11,12,13] 14)
   refine D ?_;obtain ⟨b62,hb62,h⟩:=aa h;refine aE 9 102 b62 ?_ ?_
   ·clear h;refine aB 93 U (fun g62=> ?_) (fun g62=> ?_)
    ·have h:=ae g62 hb62;refine D ?_;obtain rfl:=ao h;exact ab sA (cS [0,1,2,3,4,5,6,7,8,9,10,11,12,13] 14)
    have h:=ag g62 hb62;refine bM (aA (us:=[O A25 n25 c25,O A26 n26 c26,O A27 n27 c27]) 9 U U yr U) U (cu g62 U) U ?_;refine D ?_;refine bM (aA (us:=[O A28 n28 c28,O A29 n29 c29,O A30 n30 c30]) 13 U U yr U) U (cu g62 U) U ?_;refine D ?_;obtain ⟨y63,hy63,h⟩:=aa h;refine ca (ak (sN hy63) IY U (Ex (ac (i:=6) U U) (Ex (ac (i:=7) U U) (Ex (ac (i:=8) U U) (Ex (ac (i:=4) U U) (Ex (ac (i:=10) U U) (Ex (ac (i:=11) U U) (Ex (ac (i:=12) U U) (Ex (ac (i:=1) U U) ad)))))))) pT) U (cu g62 U) U ?_;rintro _ _ ⟨_,⟨rfl,rfl⟩,rfl⟩;refine D ?_;obtain rfl:=ao h;exact ab sA (cS [0,1,2,3,4,5,6,7,8,9,10,11,12,13] 14)
   refine D ?_;refine av U (fun g64=> ?_) (fun g64=> ?_)
   ·replace h:=ae g64 h;refine D ?_;obtain rfl:=ao h;exact aD U U (cS [] 14) ⟨U,U⟩
   replace h:=ag g64 h;refine D ?_;obtain ⟨q65,h⟩:=ap h;refine gE (aU U U q65.1 q65.2) ?_;refine D ?_;exact ⟨m23,_,_,SP _,⟨p24+1,p25,p26,p27,p28,p29,p30,A25,n25,c25,A26,n26,c26,A27,n27,c27,A28,n28,c28,A29,n29,c29,A30,n30,c30,h,U,U⟩,sA,cS [6,7,8,9,10,11,12,13] 14⟩
  replace h:=ag g31 h;refine D ?_;exact ⟨_,_,⟨h,U,U⟩,sA,cS [] 8⟩
 rintro _ _ ⟨h,rfl,rfl⟩;refine D ?_;obtain rfl:=ao h;exact aD U U (cS [] 0) ⟨U,U⟩
theorem Dj {r:Bool}: ∀v post,((fun (u:Value) (post:List Chunk)=>u=.bool r∧post=[])) v post→ ∀c∈post,cn c:=by
 rintro _ _ ⟨rfl,rfl⟩;exact ad
end
section
variable {A1 A2 A3 A4 A5 A6 A7 A8:Option Addr} {B1 B6 M7 c1 c2 c3 c4 c5 c6 c7 c8 n1 n2 n3 n4 n5 n6 n7 n8:Nat}
open Go.RowKit Asn
set_option maxRecDepth 20000
def gB (N:Nat)(a0:SK)(a1:Int):Option SG:=
 (fo N a0).bind fun y9=>(bif decide ((y9.length:Int)=0) then (some true) else (some (decide (a1<0)))).bind fun b11=>bif b11 then (some (⟨0,0,⟨#[]⟩⟩:SG)) else (bG ((y9.length:Int)≠0) ((mr N a0 (a1.tmod (y9.length:Int))).bind fun y14=>some y14))
theorem pC {N:Nat}{a0:SK}{a1:Int}{r:SG}(h:gB N a0 a1=some r):Okc Tryz.prog 68 [pV B1 0,iV a1] ([bE B1 86 [O A2 n2 c2,O A3 n3 c3,O A4 n4 c4,O A5 n5 c5,pV B6 0],bC A2 n2 c2 a0.m_.Young,bC A3 n3 c3 a0.m_.Old,bo A4 n4 c4 a0.roots_,bo A5 n5 c5 a0.pending_,bE B6 157 [.map (some M7)],nQ cC ee M7 a0.set_.at_]) (fun u post=>u=.agg #[iV r.Kind,iV r.N,.string r.S]∧post=[]):=by
 refine bz Tryz.func68 U U ?_;simp only [aR];refine D ?_;refine gD (aN jD U) ?_;rintro _ _ ⟨B8,rfl,rfl⟩;refine D ?_;obtain ⟨y9,hy9,h⟩:=aa h;refine gD (ak (kw hy9) GJ U (Ex (ac (i:=1) U U) (Ex (ac (i:=2) U U) (Ex (ac (i:=3) U U) (Ex (ac (i:=4) U U) (Ex (ac (i:=5) U U) (Ex (ac (i:=6) U U) (Ex (ac (i:=7) U U) ad))))))) jb) ?_;rintro _ _ ⟨_,⟨A10,n10,c10,rfl,rfl⟩,rfl⟩;refine gR (aK 0 U aF U Sn) ?_;refine D ?_;refine az ?_;refine D ?_;obtain ⟨b11,hb11,h⟩:=aa h;refine aE 3 14 b11 ?_ ?_
 ·clear h;refine aB 11 U (fun g11=> ?_) (fun g11=> ?_)
  ·have h:=ae g11 hb11;refine D ?_;obtain rfl:=ao h;exact ab sA (cS [0,1,2,3,4,5,6,7,8] 9)
  have h:=ag g11 hb11;refine D ?_;obtain rfl:=ao h;exact ab sA (cS [0,1,2,3,4,5,6,7,8] 9)
 refine D ?_;refine av U (fun g12=> ?_) (fun g12=> ?_)
 ·replace h:=ae g12 h;refine D ?_;refine gE (cq U (wX)) ?_;refine gO (au (us:=[iV 0,iV 0,.string (⟨#[]⟩)]) (cs':=[iV 0,iV 0,.string (⟨#[]⟩)]) 1 U U U U aP U U U) ?_;rintro _ _ rfl;refine D ?_;obtain rfl:=ao h;exact dB (rs:=[.cell 4 52]) (vs:=[.agg #[iV 0,iV 0,.string (⟨#[]⟩)]]) U (.cons (co 1 U U bY) .nil) U (cS [] 9) ⟨U,U⟩
 replace h:=ag g12 h;refine D ?_;obtain ⟨q13,h⟩:=ap h;refine gE (lY U U q13) ?_;obtain ⟨y14,hy14,h⟩:=aa h;refine gD (ak (zH hy14) Pa U (Ex (ac (i:=2) U U) (Ex (ac (i:=3) U U) (Ex (ac (i:=4) U U) (Ex (ac (i:=5) U U) (Ex (ac (i:=6) U U) (Ex (ac (i:=7) U U) (Ex (ac (i:=8) U U) ad))))))) xm) ?_;rintro _ _ ⟨_,⟨rfl,rfl⟩,rfl⟩;refine gO (au (us:=[iV y14.Kind,iV y14.N,.string y14.S]) (cs':=[iV y14.Kind,iV y14.N,.string y14.S]) 1 U U U U aP U U U) ?_;rintro _ _ rfl;refine D ?_;obtain rfl:=ao h;exact dB (rs:=[.cell 4 52]) (vs:=[.agg #[iV y14.Kind,iV y14.N,.string y14.S]]) U (.cons (co 1 U U bY) .nil) U (cS [] 9) ⟨U,U⟩
theorem nZ {r:SG}: ∀v post,((fun (u:Value) (post:List Chunk)=>u=.agg #[iV r.Kind,iV r.N,.string r.S]∧post=[])) v post→ ∀c∈post,cn c:=by
 rintro _ _ ⟨rfl,rfl⟩;exact ad
def jI (N:Nat)(a0:SK)(y9:(SG))(y16:(SD×Bool))(p25:(List SG)):Option SK:=
 (iK N a0 y9.N (⟨y16.1.Kind,y16.1.Shape,y16.1.Flags,y16.1.Age,y16.1.Slots,p25⟩:SD)).bind fun y32=>some y32.2
def cE (N:Nat)(a0:SK)(a1:Sy):Option SK:=
 (gB N a0 a1.I).bind fun y9=>(gB N a0 a1.J).bind fun y10=>bif decide (a1.Kind=1) then ((ov N a0 y9.N).bind fun y16=>(bif y16.2 then (some (decide (y9.Kind=9))) else (some false)).bind fun b20=>(bif b20 then (some (decide (y16.1.Kind=11))) else (some false)).bind fun b21=>(bif b21 then (some (decide ((y16.1.More.length:Int)<6))) else (some false)).bind fun b22=>bif b22 then (bG (bZ (([]:List SG).length+y16.1.More.length)) (bG (bZ ((([]:List SG)++y16.1.More).length+([y10]:List SG).length)) (jI N a0 y9 y16 ((([]:List SG)++y16.1.More)++([y10]:List SG))))) else (some a0)) else (bif decide (a1.Kind=2) then ((fo N a0).bind fun y39=>(bif decide (0<(y39.length:Int)) then (some (decide (0≤a1.I))) else (some false)).bind fun b41=>bif b41 then (bG ((y39.length:Int)≠0) ((dS N a0 (a1.I.tmod (y39.length:Int)) (⟨0,0,⟨#[]⟩⟩:SG)).bind fun y44=>some y44.2)) else (some a0)) else (bif decide (a1.Kind=3) then (bif decide (y9.Kind=9) then ((ii N a0 (⟨8,0,1,0,([(⟨1,0,⟨#[]⟩⟩:SG)]:List SG),([(⟨7,y9.N,⟨#[]⟩⟩:SG),y10]:List SG)⟩:SD)).bind fun y54=>(ig N y54.2.2 (⟨9,y54.1,⟨#[]⟩⟩:SG)).bind fun y60=>some y60.2) else (some a0)) else ((ii N a0 (⟨11,0,0,0,[],([y9,y10]:List SG)⟩:SD)).bind fun y67=>(ig N y67.2.2 (⟨9,y67.1,⟨#[]⟩⟩:SG)).bind fun y74=>some y74.2)))
set_option maxHeartbeats 4000000 in
theorem gI {N:Nat}{a0:SK}{a1:Sy}{r:SK}(h:cE N a0 a1=some r):Okc Tryz.prog 16 [pV B1 0,.agg #[iV a1.Kind,iV a1.I,iV a1.J]] ([ax B1 86 [O A2 n2 c2,O A3 n3 c3,O A4 n4 c4,O A5 n5 c5,pV B6 0],cI A2 n2 c2 a0.m_.Young,cI A3 n3 c3 a0.m_.Old,bL A4 n4 c4 a0.roots_,bL A5 n5 c5 a0.pending_,ax B6 157 [.map (some M7)],bq cC ee M7 a0.set_.at_]) (fun u post=> ∃A0 n0 c0 A1 n1 c1 A2 n2 c2 A3 n3 c3 M4,u=.tuple #[]∧post=[ax B1 86 [O A0 n0 c0,O A1 n1 c1,O A2 n2 c2,O A3 n3 c3,pV B6 0],cI A0 n0 c0 r.m_.Young,cI A1 n1 c1 r.m_.Old,bL A2 n2 c2 r.roots_,bL A3 n3 c3 r.pending_,ax B6 157 [.map (some M4)],bq cC ee M4 r.set_.at_]):=by
 refine bz Tryz.func16 U U ?_;simp only [aR];refine D ?_;refine gD (bd U U) ?_;rintro _ _ ⟨B8,rfl,rfl⟩;refine D ?_;refine az ?_;obtain ⟨y9,hy9,h⟩:=aa h;obtain ⟨y10,hy10,h⟩:=aa h;refine gZ (t:=[(0,pV B1 0),(3,pV B8 0)]) ?_ md (ah _)
 refine jh Y 10 [] [3,7,8,9] [13,14,15,16,17,18,19,20,4,5] [[],[],[1],[0,2],[],[],[5],[4,6],[],[]] [aV (pV B1 0),
 aV (pV B8 1),
 aV (iV a1.I),
 aV (.agg #[iV y9.Kind,iV y9.N,.string y9.S]),
 aV (pV B1 0),
 aV (pV B8 2),
 aV (iV a1.J),
 aV (.agg #[iV y10.Kind,iV y10.N,.string y10.S]),
 aX1 (fun (B12:Nat)=>pV B12 0) (fun B12=> [ax B12 52 [iV 0,iV 0,.string (⟨#[]⟩)]]),
 aX1 (fun (B14:Nat)=>pV B14 0) (fun B14=> [ax B14 52 [iV 0,iV 0,.string (⟨#[]⟩)]])] [] (ah _) (lK) Y rfl rfl ?_ ?_ ?_
 ·exact lJ
 ·refine ai U ?_ ?_
  ·refine nL (aN jD U) U ?_;rintro _ _ ⟨B13,rfl,rfl⟩;exact Lk B13 (ah _)
  refine ai U ?_ ?_
  ·refine nL (aN jD U) U ?_;rintro _ _ ⟨B11,rfl,rfl⟩;exact Lk B11 (ah _)
  refine ai U ?_ ?_
  ·refine nL (ak (pC hy10) Nk U (Ex (aY (i:=1) U) (Ex (ar (i:=2) U) (Ex (ar (i:=3) U) (Ex (ar (i:=4) U) (Ex (ar (i:=5) U) (Ex (aY (i:=6) U) (Ex (cH (i:=7) U) ad))))))) nZ) U ?_;rintro _ _ ⟨_,⟨rfl,rfl⟩,rfl⟩;exact bn U (ah _)
  refine ai U ?_ ?_
  ·exact dM (bc 0 U U cX U) U (bn U (ah _))
  refine ai U ?_ ?_
  ·exact cK (bX U Jy) U (bn U (ah _))
  refine ai U ?_ ?_
  ·exact cK (ay U) U (bn U (ah _))
  refine ai U ?_ ?_
  ·refine nL (ak (pC hy9) Nk U (Ex (aY (i:=1) U) (Ex (ar (i:=2) U) (Ex (ar (i:=3) U) (Ex (ar (i:=4) U) (Ex (ar (i:=5) U) (Ex (aY (i:=6) U) (Ex (cH (i:=7) U) ad))))))) nZ) U ?_;rintro _ _ ⟨_,⟨rfl,rfl⟩,rfl⟩;exact bn U (ah _)
  refine ai U ?_ ?_
  ·exact dM (bc 0 U U cX U) U (bn U (ah _))
  refine ai U ?_ ?_
  ·exact cK (bX U Jz) U (bn U (ah _))
  refine ai U ?_ ?_
  ·exact cK (ay U) U (bn U (ah _))
  exact eH
 intro B12 B14;refine mG (t:=[(16,.agg #[iV y9.Kind,iV y9.N,.string y9.S]),(20,.agg #[iV y10.Kind,iV y10.N,.string y10.S]),(4,pV B12 0),(5,pV B14 0),(0,pV B1 0),(3,pV B8 0)]) (L':=[ax B12 52 [iV 0,iV 0,.string (⟨#[]⟩)],ax B14 52 [iV 0,iV 0,.string (⟨#[]⟩)],ax B8 29 [iV a1.Kind,iV a1.I,iV a1.J],ax B1 86 [O A2 n2 c2,O A3 n3 c3,O A4 n4 c4,O A5 n5 c5,pV B6 0],cI A2 n2 c2 a0.m_.Young,cI A3 n3 c3 a0.m_.Old,bL A4 n4 c4 a0.roots_,bL A5 n5 c5 a0.pending_,ax B6 157 [.map (some M7)],bq cC ee M7 a0.set_.at_]) ?_ md (ah _);refine wu 10 U Y (au (us:=[iV y9.Kind,iV y9.N,.string y9.S]) (cs':=[iV y9.Kind,iV y9.N,.string y9.S]) 0 U U U U aP U U U) U U ?_;rintro _ _ rfl;refine wu 11 U Y (au (us:=[iV y10.Kind,iV y10.N,.string y10.S]) (cs':=[iV y10.Kind,iV y10.N,.string y10.S]) 1 U U U U aP U U U) U U ?_;rintro _ _ rfl;refine ma Y ?_;refine D ?_;refine av U (fun g15=> ?_) (fun g15=> ?_)
 ·replace h:=ae g15 h;refine D ?_;obtain ⟨y16,hy16,h⟩:=aa h;refine gD (ak (Ch hy16) Qg U (Ex (aY (i:=3) U) (Ex (ar (i:=4) U) (Ex (ar (i:=5) U) (Ex (ar (i:=6) U) (Ex (ar (i:=7) U) (Ex (aY (i:=8) U) (Ex (cH (i:=9) U) ad))))))) zI) ?_;rintro _ _ ⟨_,⟨A17,n17,c17,A18,n18,c18,rfl,rfl⟩,rfl⟩;refine D ?_;refine gD (aN dI U) ?_;rintro _ _ ⟨B19,rfl,rfl⟩;refine gO (au (us:=[iV y16.1.Kind,iV y16.1.Shape,iV y16.1.Flags,iV y16.1.Age,O A17 n17 c17,O A18 n18 c18]) (cs':=[iV y16.1.Kind,iV y16.1.Shape,iV y16.1.Flags,iV y16.1.Age,O A17 n17 c17,O A18 n18 c18]) 0 U U U U bF U U U) ?_;rintro _ _ rfl;refine cN ?_;refine D ?_;obtain ⟨b20,hb20,h⟩:=aa h;refine aE 4 50 b20 ?_ ?_
  ·clear h;refine aB 46 U (fun g20=> ?_) (fun g20=> ?_)
   ·have h:=ae g20 hb20;refine D ?_;obtain rfl:=ao h;exact ab sA (cS [0,1,2,3,4,5,6,7,8,9,10,11,12] 13)
   have h:=ag g20 hb20;refine D ?_;obtain rfl:=ao h;exact ab sA (cS [0,1,2,3,4,5,6,7,8,9,10,11,12] 13)
  refine D ?_;obtain ⟨b21,hb21,h⟩:=aa h;refine aE 4 55 b21 ?_ ?_
  ·clear h;refine aB 51 U (fun g21=> ?_) (fun g21=> ?_)
   ·have h:=ae g21 hb21;refine D ?_;obtain rfl:=ao h;exact ab sA (cS [0,1,2,3,4,5,6,7,8,9,10,11,12] 13)
   have h:=ag g21 hb21;refine D ?_;obtain rfl:=ao h;exact ab sA (cS [0,1,2,3,4,5,6,7,8,9,10,11,12] 13)
  refine D ?_;obtain ⟨b22,hb22,h⟩:=aa h;refine aE 5 61 b22 ?_ ?_
  ·clear h;refine aB 56 U (fun g22=> ?_) (fun g22=> ?_)
   ·have h:=ae g22 hb22;refine D ?_;refine bM (aK 2 U aF U Sn) U (aS g22 U) U ?_;refine D ?_;obtain rfl:=ao h;exact ab sA (cS [0,1,2,3,4,5,6,7,8,9,10,11,12] 13)
   have h:=ag g22 hb22;refine D ?_;obtain rfl:=ao h;exact ab sA (cS [0,1,2,3,4,5,6,7,8,9,10,11,12] 13)
  refine D ?_;refine av U (fun g23=> ?_) (fun g23=> ?_)
  ·replace h:=ae g23 h;refine aO (fun s L=> ∃p25 A25 n25 c25,jI N a0 y9 y16 p25=some r∧s=[(0,pV B1 0),(4,pV B12 0),(6,pV B19 0)]∧L=[cI A2 n2 c2 a0.m_.Young,cI A3 n3 c3 a0.m_.Old,bL A4 n4 c4 a0.roots_,bL A5 n5 c5 a0.pending_,ax B1 86 [O A2 n2 c2,O A3 n3 c3,O A4 n4 c4,O A5 n5 c5,pV B6 0],ax B12 52 [iV y9.Kind,iV y9.N,.string y9.S],bL A17 n17 c17 y16.1.Slots,bL A25 n25 c25 p25,ax B19 47 [iV y16.1.Kind,iV y16.1.Shape,iV y16.1.Flags,iV y16.1.Age,O A17 n17 c17,O A25 n25 c25],bq cC ee M7 a0.set_.at_,ax B6 157 [.map (some M7)]]) ?_ ?_
   ·refine cv Y _ (ah _) ?_;refine zE 1 U (bX U iD) ?_;refine zR 2 U (bc 0 U U eu U) ?_;refine zR 4 U (aA (us:=[iV y10.Kind,iV y10.N,.string y10.S]) 4 U U bY U) ?_;refine sZ 0 5 Y ?_ ?_
    ·refine dN U (bw (R:=bv) (vss:=[]) (xs:=[]) U (Ef) U U (fun _ _ hr=>All2.nil)) U U U ?_;rintro _ _ ⟨A26,n26,c26,rfl,rfl⟩;refine bN (cS [1,2,3,4,5,6,7,8,9,10,11,12,13] 14) ?_;refine sZ 3 5 Y ?_ ?_
     ·obtain ⟨q27,h⟩:=ap h;refine dN U (bj 0 3 U U aF U U Sn ta U U q27) U U U ?_;rintro _ _ ⟨A28,n28,c28,rfl,rfl⟩;refine bN (cS [1,2,3,4,5,6,7,8,9,10,11,12,13] 14) ?_;refine zD 5 U (bw (R:=bv) (vss:=[[iV y10.Kind,iV y10.N,.string y10.S]]) (xs:=[y10]) U (rL _ _ _) U U (fun _ _ hr=> .cons U All2.nil)) ?_;rintro _ _ ⟨A29,n29,c29,rfl,rfl⟩;refine bN (cS [2,3,4,5,6,7,8,9,10,11,12,13,14] 15) ?_;obtain ⟨q30,h⟩:=ap h;refine zD 6 U (bj 1 0 U U aF U U Sn ta U U q30) ?_;rintro _ _ ⟨A31,n31,c31,rfl,rfl⟩;refine bN (cS [2,3,4,5,6,7,8,9,10,11,12,13,14] 15) ?_;refine zE 7 U (bX U iD) ?_;refine lx 8 U Y Y (au (us:=[O A31 n31 c31]) (cs':=[iV y16.1.Kind,iV y16.1.Shape,iV y16.1.Flags,iV y16.1.Age,O A17 n17 c17,O A31 n31 c31]) 2 U U U U dA U U U) ?_;rintro _ _ rfl;refine bH Y ?_;refine gL ?_;exact ⟨_,_,⟨(([]:List SG)++y16.1.More)++([y10]:List SG),A31,n31,c31,h,U,U⟩,sA,cS [9,10,11,12,8,5,3,1,2,14,13] 15⟩
     refine dN U (bw (R:=bv) (vss:=[[iV y10.Kind,iV y10.N,.string y10.S]]) (xs:=[y10]) U (rL _ _ _) U U (fun _ _ hr=> .cons U All2.nil)) U U U ?_;rintro _ _ ⟨A27,n27,c27,rfl,rfl⟩;refine bN (cS [2,3,4,5,6,7,8,9,10,11,12,13,14] 15) ?_;obtain ⟨q28,h⟩:=ap h;refine zD 3 U (bj 1 4 U U aF U U Sn ta U U q28) ?_;rintro _ _ ⟨A29,n29,c29,rfl,rfl⟩;refine bN (cS [2,3,4,5,6,7,8,9,10,11,12,13,14] 15) ?_;obtain ⟨q30,h⟩:=ap h;refine zD 6 U (bj 1 0 U U aF U U Sn ta U U q30) ?_;rintro _ _ ⟨A31,n31,c31,rfl,rfl⟩;refine bN (cS [2,3,4,5,6,7,8,9,10,11,12,13,14] 15) ?_;refine zE 7 U (bX U iD) ?_;refine lx 8 U Y Y (au (us:=[O A31 n31 c31]) (cs':=[iV y16.1.Kind,iV y16.1.Shape,iV y16.1.Flags,iV y16.1.Age,O A17 n17 c17,O A31 n31 c31]) 2 U U U U dA U U U) ?_;rintro _ _ rfl;refine bH Y ?_;refine gL ?_;exact ⟨_,_,⟨(([]:List SG)++y16.1.More)++([y10]:List SG),A31,n31,c31,h,U,U⟩,sA,cS [9,10,11,12,8,5,3,1,2,14,13] 15⟩
    refine dN U (bw (R:=bv) (vss:=[[iV y10.Kind,iV y10.N,.string y10.S]]) (xs:=[y10]) U (rL _ _ _) U U (fun _ _ hr=> .cons U All2.nil)) U U U ?_;rintro _ _ ⟨A26,n26,c26,rfl,rfl⟩;refine bN (cS [1,2,3,4,5,6,7,8,9,10,11,12,13] 14) ?_;refine zD 0 U (bw (R:=bv) (vss:=[]) (xs:=[]) U (Ef) U U (fun _ _ hr=>All2.nil)) ?_;rintro _ _ ⟨A27,n27,c27,rfl,rfl⟩;refine bN (cS [2,3,4,5,6,7,8,9,10,11,12,13,14] 15) ?_;obtain ⟨q28,h⟩:=ap h;refine zD 3 U (bj 0 4 U U aF U U Sn ta U U q28) ?_;rintro _ _ ⟨A29,n29,c29,rfl,rfl⟩;refine bN (cS [2,3,4,5,6,7,8,9,10,11,12,13,14] 15) ?_;refine db ?_;obtain ⟨q30,h⟩:=ap h;refine zD 6 U (bj 0 1 U U aF U U Sn ta U U q30) ?_;rintro _ _ ⟨A31,n31,c31,rfl,rfl⟩;refine bN (cS [2,3,4,5,6,7,8,9,10,11,12,13,14] 15) ?_;refine zE 7 U (bX U iD) ?_;refine lx 8 U Y Y (au (us:=[O A31 n31 c31]) (cs':=[iV y16.1.Kind,iV y16.1.Shape,iV y16.1.Flags,iV y16.1.Age,O A17 n17 c17,O A31 n31 c31]) 2 U U U U dA U U U) ?_;rintro _ _ rfl;refine bH Y ?_;refine gL ?_;exact ⟨_,_,⟨(([]:List SG)++y16.1.More)++([y10]:List SG),A31,n31,c31,h,U,U⟩,sA,cS [9,10,11,12,8,5,3,0,2,14,13] 15⟩
   rintro _ _ ⟨p25,A25,n25,c25,h,rfl,rfl⟩;refine D ?_;refine gR (aA (us:=[iV y16.1.Kind,iV y16.1.Shape,iV y16.1.Flags,iV y16.1.Age,O A17 n17 c17,O A25 n25 c25]) 8 U U bh U) ?_;refine o7 (ck 6 U) ?_;refine o7 (ck 7 U) ?_;obtain ⟨y32,hy32,h⟩:=aa h;refine gD (aX (AZ hy32) Qf U (aJ [6,7] [4,0,1,2,3,10,9] [5,6,7,8] 11 U)) ?_;rintro _ _ ⟨_,⟨A33,n33,c33,A34,n34,c34,A35,n35,c35,A36,n36,c36,M37,rfl,rfl⟩,rfl⟩;refine cN ?_;refine D ?_;obtain rfl:=ao h;exact iF U (cS [0,1,2,3,4,5,6] 11) ⟨_,_,_,_,_,_,_,_,_,_,_,_,_,U,U⟩
  replace h:=ag g23 h;refine D ?_;obtain rfl:=ao h;exact iF U (cS [6,7,8,9,10,11,12] 13) ⟨_,_,_,_,_,_,_,_,_,_,_,_,_,U,U⟩
 replace h:=ag g15 h;refine D ?_;refine av U (fun g38=> ?_) (fun g38=> ?_)
 ·replace h:=ae g38 h;refine D ?_;obtain ⟨y39,hy39,h⟩:=aa h;refine gD (ak (kw hy39) GJ U (Ex (aY (i:=3) U) (Ex (ar (i:=4) U) (Ex (ar (i:=5) U) (Ex (ar (i:=6) U) (Ex (ar (i:=7) U) (Ex (aY (i:=8) U) (Ex (cH (i:=9) U) ad))))))) jb) ?_;rintro _ _ ⟨_,⟨A40,n40,c40,rfl,rfl⟩,rfl⟩;refine gR (aK 0 U aF U Sn) ?_;refine D ?_;obtain ⟨b41,hb41,h⟩:=aa h;refine aE 4 86 b41 ?_ ?_
  ·clear h;refine aB 82 U (fun g41=> ?_) (fun g41=> ?_)
   ·have h:=ae g41 hb41;refine D ?_;obtain rfl:=ao h;exact ab sA (cS [0,1,2,3,4,5,6,7,8,9,10] 11)
   have h:=ag g41 hb41;refine D ?_;obtain rfl:=ao h;exact ab sA (cS [0,1,2,3,4,5,6,7,8,9,10] 11)
  refine D ?_;refine av U (fun g42=> ?_) (fun g42=> ?_)
  ·replace h:=ae g42 h;refine D ?_;obtain ⟨q43,h⟩:=ap h;refine gE (lY U U q43) ?_;refine gE (cq U (wX)) ?_;obtain ⟨y44,hy44,h⟩:=aa h;refine gD (aX (lT hy44) IZ U (aJ [] [4,5,6,7,8,9,10] [0,1,2,3] 11 U)) ?_;rintro _ _ ⟨_,⟨A45,n45,c45,A46,n46,c46,A47,n47,c47,A48,n48,c48,M49,rfl,rfl⟩,rfl⟩;refine D ?_;obtain rfl:=ao h;exact iF U (cS [0,1,2,3,4,5,6] 11) ⟨_,_,_,_,_,_,_,_,_,_,_,_,_,U,U⟩
  replace h:=ag g42 h;refine D ?_;obtain rfl:=ao h;exact iF U (cS [4,5,6,7,8,9,10] 11) ⟨_,_,_,_,_,_,_,_,_,_,_,_,_,U,U⟩
 replace h:=ag g38 h;refine D ?_;refine av U (fun g50=> ?_) (fun g50=> ?_)
 ·replace h:=ae g50 h;refine D ?_;refine av U (fun g51=> ?_) (fun g51=> ?_)
  ·replace h:=ae g51 h;refine D ?_;refine gE (cq U (NC _)) ?_;refine gD (bw (R:=bv) (vss:=[[iV 1,iV 0,.string (⟨#[]⟩)]]) (xs:=[(⟨1,0,⟨#[]⟩⟩:SG)]) U (rL _ _ _) U U (fun _ _ hr=> .cons U All2.nil)) ?_;rintro _ _ ⟨A52,n52,c52,rfl,rfl⟩;refine D ?_;refine gE (cq U (yp _ _)) ?_;refine gR (aA (us:=[iV y10.Kind,iV y10.N,.string y10.S]) 2 U U bY U) ?_;refine gD (bw (R:=bv) (vss:=[[iV 7,iV y9.N,.string (⟨#[]⟩)],[iV y10.Kind,iV y10.N,.string y10.S]]) (xs:=[(⟨7,y9.N,⟨#[]⟩⟩:SG),y10]) U (Af _ _ _ _ _ _) U U (fun _ _ hr=> .cons U (.cons U All2.nil))) ?_;rintro _ _ ⟨A53,n53,c53,rfl,rfl⟩;refine gE (cq U (Eg _ _ _ _ _ _ _ _)) ?_;refine o7 (ck 1 U) ?_;refine o7 (ck 0 U) ?_;refine cN ?_;obtain ⟨y54,hy54,h⟩:=aa h;refine gD (aX (sk hy54) Nj U (aJ [1,0] [5,6,7,8,9,10,11] [0,1,2,3,4] 12 U)) ?_;rintro _ _ ⟨_,⟨A55,n55,c55,A56,n56,c56,A57,n57,c57,A58,n58,c58,M59,rfl,rfl⟩,rfl⟩;refine D ?_;refine gE (cq U (yp _ _)) ?_;obtain ⟨y60,hy60,h⟩:=aa h;refine gD (aX (sj hy60) Ni U (aJ [] [0,1,2,3,4,5,6] [7,8,9,10,11] 12 U)) ?_;rintro _ _ ⟨_,⟨A61,n61,c61,A62,n62,c62,A63,n63,c63,A64,n64,c64,M65,rfl,rfl⟩,rfl⟩;refine D ?_;obtain rfl:=ao h;exact iF U (cS [0,1,2,3,4,5,6] 12) ⟨_,_,_,_,_,_,_,_,_,_,_,_,_,U,U⟩
  replace h:=ag g51 h;refine D ?_;obtain rfl:=ao h;exact iF U (cS [3,4,5,6,7,8,9] 10) ⟨_,_,_,_,_,_,_,_,_,_,_,_,_,U,U⟩
 replace h:=ag g50 h;refine D ?_;refine gR (aA (us:=[iV y9.Kind,iV y9.N,.string y9.S]) 0 U U bY U) ?_;refine gR (aA (us:=[iV y10.Kind,iV y10.N,.string y10.S]) 1 U U bY U) ?_;refine gD (bw (R:=bv) (vss:=[[iV y9.Kind,iV y9.N,.string y9.S],[iV y10.Kind,iV y10.N,.string y10.S]]) (xs:=[y9,y10]) U (Af _ _ _ _ _ _) U U (fun _ _ hr=> .cons U (.cons U All2.nil))) ?_;rintro _ _ ⟨A66,n66,c66,rfl,rfl⟩;refine gE (cq U (I2 _ _ _ _)) ?_;refine o7 (ck 0 U) ?_;refine cN ?_;obtain ⟨y67,hy67,h⟩:=aa h;refine o7 (GC bv _) ?_;refine gD (aX (sk hy67) Nj U (aJ [0,1] [5,6,7,8,9,10,11] [0,1,2,3,4] 12 U)) ?_;rintro _ _ ⟨_,⟨A68,n68,c68,A69,n69,c69,A70,n70,c70,A71,n71,c71,M72,rfl,rfl⟩,rfl⟩;refine D ?_;refine gE (cq U (yp _ _)) ?_;obtain ⟨y74,hy74,h⟩:=aa h;refine gD (aX (sj hy74) Ni U (aJ [] [0,1,2,3,4,5,6] [7,8,9,10,11] 12 U)) ?_;rintro _ _ ⟨_,⟨A75,n75,c75,A76,n76,c76,A77,n77,c77,A78,n78,c78,M79,rfl,rfl⟩,rfl⟩;refine D ?_;obtain rfl:=ao h;exact iF U (cS [0,1,2,3,4,5,6] 12) ⟨_,_,_,_,_,_,_,_,_,_,_,_,_,U,U⟩
def er (N:Nat):Option Bool:=
 (oY N).bind fun y1=>(cE N y1 (⟨0,0,0⟩:Sy)).bind fun y9=>(cE N y9 (⟨0,0,0⟩:Sy)).bind fun y15=>(ez N y15).bind fun y21=>bif !decide (y21=2) then (some false) else ((dS N y15 0 (⟨0,0,⟨#[]⟩⟩:SG)).bind fun y23=>bif !y23.1 then (some false) else ((cT N y23.2).bind fun y30=>bif !decide (y30.1=0) then (some false) else ((ez N y30.2).bind fun y37=>bif decide (y37=2) then ((dS N y30.2 1 (⟨0,0,⟨#[]⟩⟩:SG)).bind fun y39=>bif y39.1 then ((cT N y39.2).bind fun y46=>(bif decide (y46.1=0) then ((ez N y46.2).bind fun y53=>some (decide (y53=0))) else (some false)).bind fun b52=>some b52) else (some false)) else (some false))))
theorem mE {N:Nat}{r:Bool}(h:er N=some r):Okc Tryz.prog 15 [] ([]) (fun u post=>u=.bool r∧post=[]):=by
 refine bz Tryz.func15 U U ?_;simp only [aR];refine D ?_;obtain ⟨y1,hy1,h⟩:=aa h;refine gD (aX (vX hy1) I1 U (aJ [] [] [] 0 U)) ?_;rintro _ _ ⟨_,⟨B2,A3,n3,c3,A4,n4,c4,A5,n5,c5,A6,n6,c6,B7,M8,rfl,rfl⟩,rfl⟩;refine D ?_;refine az ?_;refine D ?_;refine gE (nJ U Sk) ?_;refine D ?_;refine jT U ?_;refine D ?_;refine gE (cq U (Kb)) ?_;obtain ⟨y9,hy9,h⟩:=aa h;refine gD (aX (gI hy9) GL U (aJ [] [0,1,2,3,4,5,6] [] 7 U)) ?_;rintro _ _ ⟨_,⟨A10,n10,c10,A11,n11,c11,A12,n12,c12,A13,n13,c13,M14,rfl,rfl⟩,rfl⟩;refine D ?_;refine gE (cq U (Kb)) ?_;obtain ⟨y15,hy15,h⟩:=aa h;refine gD (aX (gI hy15) GL U (aJ [] [0,1,2,3,4,5,6] [] 7 U)) ?_;rintro _ _ ⟨_,⟨A16,n16,c16,A17,n17,c17,A18,n18,c18,A19,n19,c19,M20,rfl,rfl⟩,rfl⟩;refine cN ?_;refine D ?_;refine az ?_;refine D ?_;obtain ⟨y21,hy21,h⟩:=aa h;refine gD (ak (jL hy21) Ed U (Ex (aY (i:=0) U) (Ex (ar (i:=1) U) (Ex (ar (i:=2) U) (Ex (ar (i:=3) U) (Ex (ar (i:=4) U) (Ex (aY (i:=5) U) (Ex (cH (i:=6) U) ad))))))) iw) ?_;rintro _ _ ⟨_,⟨rfl,rfl⟩,rfl⟩;refine D ?_;refine aB 14 U (fun g22=> ?_) (fun g22=> ?_)
 ·replace h:=ae g22 h;refine D ?_;refine eU U ?_;refine D ?_;obtain rfl:=ao h;exact aD U U (cS [] 7) ⟨U,U⟩
 replace h:=ag g22 h;refine D ?_;refine pN (cq U (wX)) U (cu g22 U) U ?_;obtain ⟨y23,hy23,h⟩:=aa h;refine ca (aX (lT hy23) IZ U (aJ [] [0,1,2,3,4,5,6] [] 7 U)) U (cu g22 U) U ?_;rintro _ _ ⟨_,⟨A24,n24,c24,A25,n25,c25,A26,n26,c26,A27,n27,c27,M28,rfl,rfl⟩,rfl⟩;refine D ?_;refine aB 20 U (fun g29=> ?_) (fun g29=> ?_)
 ·replace h:=ae g29 h;refine D ?_;refine eU U ?_;refine D ?_;obtain rfl:=ao h;exact aD U U (cS [] 7) ⟨U,U⟩
 replace h:=ag g29 h;refine D ?_;obtain ⟨y30,hy30,h⟩:=aa h;refine ca (aX (iv hy30) Ee U (aJ [] [0,1,2,3,4,5,6] [] 7 U)) U (cu g29 U) U ?_;rintro _ _ ⟨_,⟨A31,n31,c31,A32,n32,c32,A33,n33,c33,A34,n34,c34,M35,rfl,rfl⟩,rfl⟩;refine D ?_;refine av U (fun g36=> ?_) (fun g36=> ?_)
 ·replace h:=ae g36 h;refine D ?_;obtain rfl:=ao h;exact aD U U (cS [] 7) ⟨U,U⟩
 replace h:=ag g36 h;refine D ?_;obtain ⟨y37,hy37,h⟩:=aa h;refine gD (ak (jL hy37) Ed U (Ex (aY (i:=0) U) (Ex (ar (i:=1) U) (Ex (ar (i:=2) U) (Ex (ar (i:=3) U) (Ex (ar (i:=4) U) (Ex (aY (i:=5) U) (Ex (cH (i:=6) U) ad))))))) iw) ?_;rintro _ _ ⟨_,⟨rfl,rfl⟩,rfl⟩;refine D ?_;refine aB 28 U (fun g38=> ?_) (fun g38=> ?_)
 ·replace h:=ae g38 h;refine D ?_;refine pN (cq U (wX)) U (aS g38 U) U ?_;obtain ⟨y39,hy39,h⟩:=aa h;refine ca (aX (lT hy39) IZ U (aJ [] [0,1,2,3,4,5,6] [] 7 U)) U (aS g38 U) U ?_;rintro _ _ ⟨_,⟨A40,n40,c40,A41,n41,c41,A42,n42,c42,A43,n43,c43,M44,rfl,rfl⟩,rfl⟩;refine cN ?_;refine D ?_;refine aB 33 U (fun g45=> ?_) (fun g45=> ?_)
  ·replace h:=ae g45 h;refine D ?_;obtain ⟨y46,hy46,h⟩:=aa h;refine ca (aX (iv hy46) Ee U (aJ [] [0,1,2,3,4,5,6] [] 7 U)) U (aS g45 U) U ?_;rintro _ _ ⟨_,⟨A47,n47,c47,A48,n48,c48,A49,n49,c49,A50,n50,c50,M51,rfl,rfl⟩,rfl⟩;refine D ?_;obtain ⟨b52,hb52,h⟩:=aa h;refine aE 4 42 b52 ?_ ?_
   ·clear h;refine aB 38 U (fun g52=> ?_) (fun g52=> ?_)
    ·have h:=ae g52 hb52;refine D ?_;obtain ⟨y53,hy53,h⟩:=aa h;refine ca (ak (jL hy53) Ed U (Ex (aY (i:=0) U) (Ex (ar (i:=1) U) (Ex (ar (i:=2) U) (Ex (ar (i:=3) U) (Ex (ar (i:=4) U) (Ex (aY (i:=5) U) (Ex (cH (i:=6) U) ad))))))) iw) U (aS g52 U) U ?_;rintro _ _ ⟨_,⟨rfl,rfl⟩,rfl⟩;refine D ?_;obtain rfl:=ao h;exact ab sA (cS [0,1,2,3,4,5,6] 7)
    have h:=ag g52 hb52;refine D ?_;obtain rfl:=ao h;exact ab sA (cS [0,1,2,3,4,5,6] 7)
   refine D ?_;obtain rfl:=ao h;exact aD U U (cS [] 7) ⟨U,U⟩
  replace h:=ag g45 h;refine D ?_;obtain rfl:=ao h;exact aD U U (cS [] 7) ⟨U,U⟩
 replace h:=ag g38 h;refine D ?_;obtain rfl:=ao h;exact aD U U (cS [] 7) ⟨U,U⟩
theorem ll {r:Bool}: ∀v post,((fun (u:Value) (post:List Chunk)=>u=.bool r∧post=[])) v post→ ∀c∈post,cn c:=by
 rintro _ _ ⟨rfl,rfl⟩;exact ad
def fh (N:Nat)(a0:SK)(a1:(List Int))(a2:Int):Option (Int×SK):=
 (bif decide (a2<(a1.length:Int)) then ((aM a1 a2).bind fun x10=>some (decide (x10=1))) else (some false)).bind fun b9=>bif b9 then ((fq N a0).bind fun y12=>some (y12.1,y12.2)) else ((bif decide (a2<(a1.length:Int)) then ((aM a1 a2).bind fun x19=>some (decide (x19=2))) else (some false)).bind fun b18=>bif b18 then ((cT N a0).bind fun y21=>some (y21.1,y21.2)) else (some (0,a0)))
theorem nE {N:Nat}{a0:SK}{a1:(List Int)}{a2:Int}{r:(Int×SK)}(h:fh N a0 a1 a2=some r):Okc Tryz.prog 17 [pV B1 0,O A8 n8 c8,iV a2] ([dw A8 n8 c8 a1,ax B1 86 [O A2 n2 c2,O A3 n3 c3,O A4 n4 c4,O A5 n5 c5,pV B6 0],cI A2 n2 c2 a0.m_.Young,cI A3 n3 c3 a0.m_.Old,bL A4 n4 c4 a0.roots_,bL A5 n5 c5 a0.pending_,ax B6 157 [.map (some M7)],bq cC ee M7 a0.set_.at_]) (fun u post=> ∃A0 n0 c0 A1 n1 c1 A2 n2 c2 A3 n3 c3 M4,u=iV r.1∧post=[ax B1 86 [O A0 n0 c0,O A1 n1 c1,O A2 n2 c2,O A3 n3 c3,pV B6 0],cI A0 n0 c0 r.2.m_.Young,cI A1 n1 c1 r.2.m_.Old,bL A2 n2 c2 r.2.roots_,bL A3 n3 c3 r.2.pending_,ax B6 157 [.map (some M4)],bq cC ee M4 r.2.set_.at_]):=by
 refine bz Tryz.func17 U U ?_;simp only [aR];refine D ?_;refine az ?_;refine D ?_;refine gR (aK 0 U aj U Sg) ?_;refine D ?_;obtain ⟨b9,hb9,h⟩:=aa h;refine aE 6 17 b9 ?_ ?_
 ·clear h;refine aB 11 U (fun g9=> ?_) (fun g9=> ?_)
  ·have h:=ae g9 hb9;refine D ?_;obtain ⟨x10,hx10,h⟩:=aa h;obtain ⟨lx10,ux10,hx10⟩:=aq hx10;refine bM (aH 0 U aj U U Sg dp lx10 ux10) U (aS g9 U) U ?_;refine bM (aT (u:=iV x10) 0 U aj U hx10 cX (fun _ _ _ h=>by rw [show _=_ from h];rfl)) U (aS g9 U) U ?_;refine D ?_;obtain rfl:=ao h;exact ab sA (cS [0,1,2,3,4,5,6,7] 8)
  have h:=ag g9 hb9;refine D ?_;obtain rfl:=ao h;exact ab sA (cS [0,1,2,3,4,5,6,7] 8)
 refine D ?_;refine av U (fun g11=> ?_) (fun g11=> ?_)
 ·replace h:=ae g11 h;refine D ?_;obtain ⟨y12,hy12,h⟩:=aa h;refine gD (aX (yf hy12) Qh U (aJ [] [1,2,3,4,5,6,7] [0] 8 U)) ?_;rintro _ _ ⟨_,⟨A13,n13,c13,A14,n14,c14,A15,n15,c15,A16,n16,c16,M17,rfl,rfl⟩,rfl⟩;refine D ?_;obtain rfl:=ao h;exact aD U U (cS [0,1,2,3,4,5,6] 8) ⟨_,_,_,_,_,_,_,_,_,_,_,_,_,U,U⟩
 replace h:=ag g11 h;refine D ?_;refine az ?_;refine D ?_;refine gR (aK 0 U aj U Sg) ?_;refine D ?_;obtain ⟨b18,hb18,h⟩:=aa h;refine aE 6 30 b18 ?_ ?_
 ·clear h;refine aB 24 U (fun g18=> ?_) (fun g18=> ?_)
  ·have h:=ae g18 hb18;refine D ?_;obtain ⟨x19,hx19,h⟩:=aa h;obtain ⟨lx19,ux19,hx19⟩:=aq hx19;refine bM (aH 0 U aj U U Sg dp lx19 ux19) U (aS g18 U) U ?_;refine bM (aT (u:=iV x19) 0 U aj U hx19 cX (fun _ _ _ h=>by rw [show _=_ from h];rfl)) U (aS g18 U) U ?_;refine D ?_;obtain rfl:=ao h;exact ab sA (cS [0,1,2,3,4,5,6,7] 8)
  have h:=ag g18 hb18;refine D ?_;obtain rfl:=ao h;exact ab sA (cS [0,1,2,3,4,5,6,7] 8)
 refine D ?_;refine av U (fun g20=> ?_) (fun g20=> ?_)
 ·replace h:=ae g20 h;refine D ?_;obtain ⟨y21,hy21,h⟩:=aa h;refine gD (aX (iv hy21) Ee U (aJ [] [1,2,3,4,5,6,7] [0] 8 U)) ?_;rintro _ _ ⟨_,⟨A22,n22,c22,A23,n23,c23,A24,n24,c24,A25,n25,c25,M26,rfl,rfl⟩,rfl⟩;refine D ?_;obtain rfl:=ao h;exact aD U U (cS [0,1,2,3,4,5,6] 8) ⟨_,_,_,_,_,_,_,_,_,_,_,_,_,U,U⟩
 replace h:=ag g20 h;refine D ?_;obtain rfl:=ao h;exact aD U U (cS [1,2,3,4,5,6,7] 8) ⟨_,_,_,_,_,_,_,_,_,_,_,_,_,U,U⟩
def dY (N:Nat)(p23:(List SD))(p24:(List SD))(p25:(List SG))(p26:(List SG))(p27:(List SD))(p28:(List SD))(p29:(List SG))(p30:(List SG))(p31:(List (Int×Bool)))(p32:(List (Int×Bool))):Option Bool:=
 (jc N (⟨(⟨p23,p24⟩:SB),p25,p26,(⟨p31⟩:SH)⟩:SK)).bind fun y75=>(bif !decide (y75=0) then (some true) else ((jc N (⟨(⟨p27,p28⟩:SB),p29,p30,(⟨p32⟩:SH)⟩:SK)).bind fun y77=>some (!decide (y77=0)))).bind fun b76=>bif b76 then (some false) else ((iu N (⟨(⟨p23,p24⟩:SB),p25,p26,(⟨p31⟩:SH)⟩:SK)).bind fun y79=>(fo N y79.2).bind fun y87=>(iu N (⟨(⟨p27,p28⟩:SB),p29,p30,(⟨p32⟩:SH)⟩:SK)).bind fun y89=>(fo N y89.2).bind fun y97=>(dE N y79.1 y87 y89.1 y97).bind fun y99=>bif !y99 then (some false) else ((cT N y79.2).bind fun y101=>bif decide (y101.1=0) then ((cT N y89.2).bind fun y108=>(bif decide (y108.1=0) then ((ez N y101.2).bind fun y115=>(ez N y108.2).bind fun y116=>some (decide (y115=y116))) else (some false)).bind fun b114=>(bif b114 then ((er N).bind fun y118=>some y118) else (some false)).bind fun b117=>some b117) else (some false)))
def cF (N:Nat)(a0:(List Sy))(a1:(List Int))(a2:(List Int)):Nat→Int→(List SD)→(List SD)→(List SG)→(List SG)→(List SD)→(List SD)→(List SG)→(List SG)→(List (Int×Bool))→(List (Int×Bool))→Option Bool
 |0,_,_,_,_,_,_,_,_,_,_,_=>none
 |m33+1,p34,p35,p36,p37,p38,p39,p40,p41,p42,p43,p44=>bif decide (p34<(a0.length:Int)) then ((aM a0 p34).bind fun x46=>(cE N (⟨(⟨p35,p36⟩:SB),p37,p38,(⟨p43⟩:SH)⟩:SK) x46).bind fun y47=>(aM a0 p34).bind fun x53=>(cE N (⟨(⟨p39,p40⟩:SB),p41,p42,(⟨p44⟩:SH)⟩:SK) x53).bind fun y54=>(fh N y47 a1 p34).bind fun y60=>bif !decide (y60.1=0) then (some false) else ((fh N y54 a2 p34).bind fun y67=>bif !decide (y67.1=0) then (some false) else (bG (in64 (p34+1)) ((cF N a0 a1 a2 m33) (p34+1) y60.2.m_.Young y60.2.m_.Old y60.2.roots_ y60.2.pending_ y67.2.m_.Young y67.2.m_.Old y67.2.roots_ y67.2.pending_ y60.2.set_.at_ y67.2.set_.at_)))) else (dY N p35 p36 p37 p38 p39 p40 p41 p42 p43 p44)
def gJ (N:Nat)(a0:(List Sy))(a1:(List Int))(a2:(List Int)):Option Bool:=
 (oY N).bind fun y4=>(oY N).bind fun y12=>bif decide (40<(a0.length:Int)) then ((er N).bind fun y21=>some y21) else (cF N a0 a1 a2 N 0 y4.m_.Young y4.m_.Old y4.roots_ y4.pending_ y12.m_.Young y12.m_.Old y12.roots_ y12.pending_ y4.set_.at_ y12.set_.at_)
set_option maxHeartbeats 4000000 in
theorem pW {N:Nat}{a0:(List Sy)}{a1:(List Int)}{a2:(List Int)}{r:Bool}(h:gJ N a0 a1 a2=some r):Okc Tryz.prog 3 [O A1 n1 c1,O A2 n2 c2,O A3 n3 c3] ([tT F2 (O A1 n1 c1) a0,dw A2 n2 c2 a1,dw A3 n3 c3 a2]) (fun u post=>u=.bool r∧post=[]):=by
 refine bz Tryz.func3 U U ?_;simp only [aR];refine D ?_;obtain ⟨y4,hy4,h⟩:=aa h;refine gD (aX (vX hy4) I1 U (aJ [] [] [0,1,2] 3 U)) ?_;rintro _ _ ⟨_,⟨B5,A6,n6,c6,A7,n7,c7,A8,n8,c8,A9,n9,c9,B10,M11,rfl,rfl⟩,rfl⟩;obtain ⟨y12,hy12,h⟩:=aa h;refine gD (aX (vX hy12) I1 U (aJ [] [] [0,1,2,3,4,5,6,7,8,9] 10 U)) ?_;rintro _ _ ⟨_,⟨B13,A14,n14,c14,A15,n15,c15,A16,n16,c16,A17,n17,c17,B18,M19,rfl,rfl⟩,rfl⟩;refine D ?_;refine az ?_;refine D ?_;refine gE (nJ U Sk) ?_;refine D ?_;refine gE (nJ U Sk) ?_;refine D ?_;refine gR (aK 14 U aj U Sq) ?_;refine D ?_;refine av U (fun g20=> ?_) (fun g20=> ?_)
 ·replace h:=ae g20 h;refine D ?_;refine gE (Be U Sk) ?_;refine D ?_;refine gE (Be U Sk) ?_;refine D ?_;obtain ⟨y21,hy21,h⟩:=aa h;refine gD (ak (mE hy21) Nu U (ad) ll) ?_;rintro _ _ ⟨_,⟨rfl,rfl⟩,rfl⟩;refine D ?_;obtain rfl:=ao h;exact aD U U (cS [] 17) ⟨U,U⟩
 replace h:=ag g20 h;refine D ?_;refine aO (fun s L=> ∃p23 p24 p25 p26 p27 p28 p29 p30 p31 p32 A23 n23 c23 A24 n24 c24 A25 n25 c25 A26 n26 c26 A27 n27 c27 A28 n28 c28 A29 n29 c29 A30 n30 c30 M31 M32,dY N p23 p24 p25 p26 p27 p28 p29 p30 p31 p32=some r∧s=[(6,.bool false),(7,pV B5 0),(8,pV B13 0)]∧L=[cI A23 n23 c23 p23,cI A24 n24 c24 p24,bL A25 n25 c25 p25,bL A26 n26 c26 p26,ax B5 86 [O A23 n23 c23,O A24 n24 c24,O A25 n25 c25,O A26 n26 c26,pV B10 0],cI A27 n27 c27 p27,cI A28 n28 c28 p28,bL A29 n29 c29 p29,bL A30 n30 c30 p30,ax B13 86 [O A27 n27 c27,O A28 n28 c28,O A29 n29 c29,O A30 n30 c30,pV B18 0],bq cC ee M31 p31,ax B10 157 [.map (some M31)],bq cC ee M32 p32,ax B18 157 [.map (some M32)]]) ?_ ?_
 ·refine D ?_;refine bp (fun m s L=> ∃p34 p35 p36 p37 p38 p39 p40 p41 p42 p43 p44 A35 n35 c35 A36 n36 c36 A37 n37 c37 A38 n38 c38 A39 n39 c39 A40 n40 c40 A41 n41 c41 A42 n42 c42 M43 M44,cF N a0 a1 a2 m p34 p35 p36 p37 p38 p39 p40 p41 p42 p43 p44=some r∧s=[(0,O A1 n1 c1),(1,O A2 n2 c2),(2,O A3 n3 c3),(6,.bool false),(7,pV B5 0),(8,pV B13 0),(9,iV p34)]∧L=[tT F2 (O A1 n1 c1) a0,dw A2 n2 c2 a1,dw A3 n3 c3 a2,cI A35 n35 c35 p35,cI A36 n36 c36 p36,bL A37 n37 c37 p37,bL A38 n38 c38 p38,ax B5 86 [O A35 n35 c35,O A36 n36 c36,O A37 n37 c37,O A38 n38 c38,pV B10 0],cI A39 n39 c39 p39,cI A40 n40 c40 p40,bL A41 n41 c41 p41,bL A42 n42 c42 p42,ax B13 86 [O A39 n39 c39,O A40 n40 c40,O A41 n41 c41,O A42 n42 c42,pV B18 0],bq cC ee M43 p43,ax B10 157 [.map (some M43)],bq cC ee M44 p44,ax B18 157 [.map (some M44)]]) N _ _ ⟨0,y4.m_.Young,y4.m_.Old,y4.roots_,y4.pending_,y12.m_.Young,y12.m_.Old,y12.roots_,y12.pending_,y4.set_.at_,y12.set_.at_,A6,n6,c6,A7,n7,c7,A8,n8,c8,A9,n9,c9,A14,n14,c14,A15,n15,c15,A16,n16,c16,A17,n17,c17,M11,M19,h,U,U⟩ sA (cS [14,15,16,8,9,10,11,7,1,2,3,4,0,13,12,6,5] 17) ?_;rintro (_|m33) _ _ ⟨p34,p35,p36,p37,p38,p39,p40,p41,p42,p43,p44,A35,n35,c35,A36,n36,c36,A37,n37,c37,A38,n38,c38,A39,n39,c39,A40,n40,c40,A41,n41,c41,A42,n42,c42,M43,M44,h,rfl,rfl⟩
  ·exact aC h
  rw [cF.eq_2] at h;refine az ?_;refine D ?_;refine gR (aK 0 U aj U Sq) ?_;refine D ?_;refine av U (fun g45=> ?_) (fun g45=> ?_)
  ·replace h:=ae g45 h;refine D ?_;refine az ?_;refine D ?_;obtain ⟨x46,hx46,h⟩:=aa h;obtain ⟨lx46,ux46,hx46⟩:=aq hx46;refine gR (aH 0 U aj U U Sq LQ lx46 ux46) ?_;refine gR (bm (us:=[iV x46.Kind,iV x46.I,iV x46.J]) 0 U aj U hx46 PH (fun _ _ _ h=>by rw [show _=_ from h];rfl)) ?_;obtain ⟨y47,hy47,h⟩:=aa h;refine gD (aX (gI hy47) GL U (aJ [] [7,3,4,5,6,14,13] [0,1,2,8,9,10,11,12,15,16] 17 U)) ?_;rintro _ _ ⟨_,⟨A48,n48,c48,A49,n49,c49,A50,n50,c50,A51,n51,c51,M52,rfl,rfl⟩,rfl⟩;refine cN ?_;refine D ?_;obtain ⟨x53,hx53,h⟩:=aa h;obtain ⟨lx53,ux53,hx53⟩:=aq hx53;refine gR (aH 7 U aj U U Sq LQ lx53 ux53) ?_;refine gR (bm (us:=[iV x53.Kind,iV x53.I,iV x53.J]) 7 U aj U hx53 PH (fun _ _ _ h=>by rw [show _=_ from h];rfl)) ?_;obtain ⟨y54,hy54,h⟩:=aa h;refine gD (aX (gI hy54) GL U (aJ [] [14,10,11,12,13,16,15] [0,1,2,3,4,5,6,7,8,9] 17 U)) ?_;rintro _ _ ⟨_,⟨A55,n55,c55,A56,n56,c56,A57,n57,c57,A58,n58,c58,M59,rfl,rfl⟩,rfl⟩;refine D ?_;obtain ⟨y60,hy60,h⟩:=aa h;refine gD (aX (nE hy60) Nt U (aJ [15] [7,8,9,10,11,12,13] [0,1,2,3,4,5,6,14,15,16] 17 U)) ?_;rintro _ _ ⟨_,⟨A61,n61,c61,A62,n62,c62,A63,n63,c63,A64,n64,c64,M65,rfl,rfl⟩,rfl⟩;refine D ?_;refine aB 55 U (fun g66=> ?_) (fun g66=> ?_)
   ·replace h:=ae g66 h;refine D ?_;refine eU U ?_;refine D ?_;obtain rfl:=ao h;exact aD U U (cS [] 17) ⟨U,U⟩
   replace h:=ag g66 h;refine D ?_;obtain ⟨y67,hy67,h⟩:=aa h;refine ca (aX (nE hy67) Nt U (aJ [16] [7,8,9,10,11,12,13] [0,1,2,3,4,5,6,14,15,16] 17 U)) U (cu g66 U) U ?_;rintro _ _ ⟨_,⟨A68,n68,c68,A69,n69,c69,A70,n70,c70,A71,n71,c71,M72,rfl,rfl⟩,rfl⟩;refine cN ?_;refine D ?_;refine av U (fun g73=> ?_) (fun g73=> ?_)
   ·replace h:=ae g73 h;refine D ?_;obtain rfl:=ao h;exact aD U U (cS [] 17) ⟨U,U⟩
   replace h:=ag g73 h;refine D ?_;obtain ⟨q74,h⟩:=ap h;refine gE (aU U U q74.1 q74.2) ?_;refine D ?_;exact ⟨m33,_,_,SP _,⟨p34+1,y60.2.m_.Young,y60.2.m_.Old,y60.2.roots_,y60.2.pending_,y67.2.m_.Young,y67.2.m_.Old,y67.2.roots_,y67.2.pending_,y60.2.set_.at_,y67.2.set_.at_,A61,n61,c61,A62,n62,c62,A63,n63,c63,A64,n64,c64,A68,n68,c68,A69,n69,c69,A70,n70,c70,A71,n71,c71,M65,M72,h,U,U⟩,sA,cS [14,15,16,8,9,10,11,7,1,2,3,4,0,13,12,6,5] 17⟩
  replace h:=ag g45 h;refine D ?_;exact ⟨_,_,⟨p35,p36,p37,p38,p39,p40,p41,p42,p43,p44,A35,n35,c35,A36,n36,c36,A37,n37,c37,A38,n38,c38,A39,n39,c39,A40,n40,c40,A41,n41,c41,A42,n42,c42,M43,M44,h,U,U⟩,sA,cS [3,4,5,6,7,8,9,10,11,12,13,14,15,16] 17⟩
 rintro _ _ ⟨p23,p24,p25,p26,p27,p28,p29,p30,p31,p32,A23,n23,c23,A24,n24,c24,A25,n25,c25,A26,n26,c26,A27,n27,c27,A28,n28,c28,A29,n29,c29,A30,n30,c30,M31,M32,h,rfl,rfl⟩;refine az ?_;refine D ?_;obtain ⟨y75,hy75,h⟩:=aa h;refine gD (ak (rp hy75) Ns U (Ex (aY (i:=4) U) (Ex (ar (i:=0) U) (Ex (ar (i:=1) U) (Ex (ar (i:=2) U) (Ex (ar (i:=3) U) (Ex (aY (i:=11) U) (Ex (cH (i:=10) U) ad))))))) pG) ?_;rintro _ _ ⟨_,⟨rfl,rfl⟩,rfl⟩;refine D ?_;obtain ⟨b76,hb76,h⟩:=aa h;refine aE 4 69 b76 ?_ ?_
 ·clear h;refine aB 65 U (fun g76=> ?_) (fun g76=> ?_)
  ·have h:=ae g76 hb76;refine D ?_;obtain rfl:=ao h;exact ab sA (cS [0,1,2,3,4,5,6,7,8,9,10,11,12,13] 14)
  have h:=ag g76 hb76;refine D ?_;obtain ⟨y77,hy77,h⟩:=aa h;refine ca (ak (rp hy77) Ns U (Ex (aY (i:=9) U) (Ex (ar (i:=5) U) (Ex (ar (i:=6) U) (Ex (ar (i:=7) U) (Ex (ar (i:=8) U) (Ex (aY (i:=13) U) (Ex (cH (i:=12) U) ad))))))) pG) U (cu g76 U) U ?_;rintro _ _ ⟨_,⟨rfl,rfl⟩,rfl⟩;refine D ?_;obtain rfl:=ao h;exact ab sA (cS [0,1,2,3,4,5,6,7,8,9,10,11,12,13] 14)
 refine D ?_;refine aB 70 U (fun g78=> ?_) (fun g78=> ?_)
 ·replace h:=ae g78 h;refine D ?_;refine eU U ?_;refine D ?_;obtain rfl:=ao h;exact aD U U (cS [] 14) ⟨U,U⟩
 replace h:=ag g78 h;refine D ?_;obtain ⟨y79,hy79,h⟩:=aa h;refine ca (aX (qn hy79) Nr U (aJ [] [4,0,1,2,3,11,10] [5,6,7,8,9,12,13] 14 U)) U (cu g78 U) U ?_;rintro _ _ ⟨_,⟨A80,n80,c80,A81,n81,c81,A82,n82,c82,A83,n83,c83,A84,n84,c84,A85,n85,c85,M86,rfl,rfl⟩,rfl⟩;refine D ?_;obtain ⟨y87,hy87,h⟩:=aa h;refine ca (ak (kw hy87) GJ U (Ex (aY (i:=2) U) (Ex (ar (i:=3) U) (Ex (ar (i:=4) U) (Ex (ar (i:=5) U) (Ex (ar (i:=6) U) (Ex (aY (i:=7) U) (Ex (cH (i:=8) U) ad))))))) jb) U (cu g78 U) U ?_;rintro _ _ ⟨_,⟨A88,n88,c88,rfl,rfl⟩,rfl⟩;refine D ?_;obtain ⟨y89,hy89,h⟩:=aa h;refine ca (aX (qn hy89) Nr U (aJ [] [14,10,11,12,13,16,15] [0,1,2,3,4,5,6,7,8,9] 17 U)) U (cu g78 U) U ?_;rintro _ _ ⟨_,⟨A90,n90,c90,A91,n91,c91,A92,n92,c92,A93,n93,c93,A94,n94,c94,A95,n95,c95,M96,rfl,rfl⟩,rfl⟩;refine D ?_;obtain ⟨y97,hy97,h⟩:=aa h;refine ca (ak (kw hy97) GJ U (Ex (aY (i:=2) U) (Ex (ar (i:=3) U) (Ex (ar (i:=4) U) (Ex (ar (i:=5) U) (Ex (ar (i:=6) U) (Ex (aY (i:=7) U) (Ex (cH (i:=8) U) ad))))))) jb) U (cu g78 U) U ?_;rintro _ _ ⟨_,⟨A98,n98,c98,rfl,rfl⟩,rfl⟩;obtain ⟨y99,hy99,h⟩:=aa h;refine ca (ak (F7 hy99) Qm U (Ex (ar (i:=11) U) (Ex (ar (i:=12) U) (Ex (ar (i:=10) U) (Ex (ar (i:=1) U) (Ex (ar (i:=2) U) (Ex (ar (i:=0) U) ad)))))) Dj) U (cu g78 U) U ?_;rintro _ _ ⟨_,⟨rfl,rfl⟩,rfl⟩;refine D ?_
 refine av U (fun g100=> ?_) (fun g100=> ?_)
 ·replace h:=ae g100 h;refine D ?_;obtain rfl:=ao h;exact aD U U (cS [] 20) ⟨U,U⟩
 replace h:=ag g100 h;refine D ?_;obtain ⟨y101,hy101,h⟩:=aa h;refine gD (aX (iv hy101) Ee U (aJ [] [13,14,15,16,17,18,19] [0,1,2,3,4,5,6,7,8,9,10,11,12] 20 U)) ?_;rintro _ _ ⟨_,⟨A102,n102,c102,A103,n103,c103,A104,n104,c104,A105,n105,c105,M106,rfl,rfl⟩,rfl⟩;refine cN ?_;refine D ?_;refine aB 85 U (fun g107=> ?_) (fun g107=> ?_)
 ·replace h:=ae g107 h;refine D ?_;obtain ⟨y108,hy108,h⟩:=aa h;refine ca (aX (iv hy108) Ee U (aJ [] [10,11,12,13,14,15,16] [0,1,2,3,4,5,6,7,8,9,17,18,19] 20 U)) U (aS g107 U) U ?_;rintro _ _ ⟨_,⟨A109,n109,c109,A110,n110,c110,A111,n111,c111,A112,n112,c112,M113,rfl,rfl⟩,rfl⟩;refine D ?_;obtain ⟨b114,hb114,h⟩:=aa h;refine aE 6 96 b114 ?_ ?_
  ·clear h;refine aB 90 U (fun g114=> ?_) (fun g114=> ?_)
   ·have h:=ae g114 hb114;refine D ?_;obtain ⟨y115,hy115,h⟩:=aa h;refine ca (ak (jL hy115) Ed U (Ex (aY (i:=7) U) (Ex (ar (i:=8) U) (Ex (ar (i:=9) U) (Ex (ar (i:=10) U) (Ex (ar (i:=11) U) (Ex (aY (i:=12) U) (Ex (cH (i:=13) U) ad))))))) iw) U (aS g114 U) U ?_;rintro _ _ ⟨_,⟨rfl,rfl⟩,rfl⟩;refine D ?_;obtain ⟨y116,hy116,h⟩:=aa h;refine ca (ak (jL hy116) Ed U (Ex (aY (i:=0) U) (Ex (ar (i:=1) U) (Ex (ar (i:=2) U) (Ex (ar (i:=3) U) (Ex (ar (i:=4) U) (Ex (aY (i:=5) U) (Ex (cH (i:=6) U) ad))))))) iw) U (aS g114 U) U ?_;rintro _ _ ⟨_,⟨rfl,rfl⟩,rfl⟩;refine D ?_;obtain rfl:=ao h;exact ab sA (cS [0,1,2,3,4,5,6,7,8,9,10,11,12,13,14,15,16,17,18,19] 20)
   have h:=ag g114 hb114;refine D ?_;obtain rfl:=ao h;exact ab sA (cS [0,1,2,3,4,5,6,7,8,9,10,11,12,13,14,15,16,17,18,19] 20)
  refine D ?_;obtain ⟨b117,hb117,h⟩:=aa h;refine aE 2 99 b117 ?_ ?_
  ·clear h;refine aB 97 U (fun g117=> ?_) (fun g117=> ?_)
   ·have h:=ae g117 hb117;obtain ⟨y118,hy118,h⟩:=aa h;refine ca (ak (mE hy118) Nu U (ad) ll) U (aS g117 U) U ?_;rintro _ _ ⟨_,⟨rfl,rfl⟩,rfl⟩;refine D ?_;obtain rfl:=ao h;exact ab sA (cS [0,1,2,3,4,5,6,7,8,9,10,11,12,13,14,15,16,17,18,19] 20)
   have h:=ag g117 hb117;refine D ?_;obtain rfl:=ao h;exact ab sA (cS [0,1,2,3,4,5,6,7,8,9,10,11,12,13,14,15,16,17,18,19] 20)
  refine D ?_;obtain rfl:=ao h;exact aD U U (cS [] 20) ⟨U,U⟩
 replace h:=ag g107 h;refine D ?_;obtain rfl:=ao h;exact aD U U (cS [] 20) ⟨U,U⟩
end
end Go.Proofs.YtmimkglhbmcokaaGreat