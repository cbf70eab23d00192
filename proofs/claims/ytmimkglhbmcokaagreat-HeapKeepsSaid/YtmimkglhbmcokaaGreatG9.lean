/- Merged texts: part 9. No conditions of their own. -/
import Derived.Test.YtmimkglhbmcokaaGreatG8
import Derived.Test.YtmimkglhbmcokaaGreatG1
namespace Go.Proofs.YtmimkglhbmcokaaGreat
section
theorem Q3:type_of% Tryz.underlying195:=Tryz.underlying195
variable {A1 A2 A3 A4 A5 A6 A7 A8:Option Addr} {c1 c2 c3 c4 c5 c6 c7 c8 n1 n2 n3 n4 n5 n6 n7 n8:Nat}
open Go.RowKit Asn
set_option maxRecDepth 20000
def wy (N:Nat)(p22:(List Int)):Option (List Int):=
 some p22
def lU (N:Nat)(kb23:(List Int)→Int→Option (List Int))(p25:Int)(a0:Ra)(p28:(List Int)):Option (List Int):=
 bD (in64 (p25+1)) (kb23 p28 (p25+1))
def gp (N:Nat)(a0:Ra):Nat→(List Int)→Int→Option (List Int)
 |0,_,_=>none
 |m23+1,p24,p25=>bif decide (p25<(a0.More.length:Int)) then ((aM a0.More p25).bind fun x29=>(pt N x29).bind fun y30=>(bif y30 then ((pS N a0.Kind p25).bind fun y32=>some (!y32)) else (some false)).bind fun b31=>bif b31 then ((aM a0.More p25).bind fun x34=>bD (cc (p24.length+([x34.N]:List Int).length)) (lU N (gp N a0 m23) p25 a0 (p24++([x34.N]:List Int)))) else (lU N (gp N a0 m23) p25 a0 p24)) else (wy N p24)
def sP (N:Nat)(a0:Ra)(p5:(List Int)):Option (List Int):=
 gp N a0 N p5 0
def lV (N:Nat)(kb6:(List Int)→Int→Option (List Int))(p8:Int)(a0:Ra)(p12:(List Int)):Option (List Int):=
 bD (in64 (p8+1)) (kb6 p12 (p8+1))
def ir (N:Nat)(a0:Ra):Nat→(List Int)→Int→Option (List Int)
 |0,_,_=>none
 |m6+1,p7,p8=>bif decide (p8<(a0.Slots.length:Int)) then ((aM a0.Slots p8).bind fun x13=>(pt N x13).bind fun y14=>bif y14 then ((aM a0.Slots p8).bind fun x16=>bD (cc (p7.length+([x16.N]:List Int).length)) (lV N (ir N a0 m6) p8 a0 (p7++([x16.N]:List Int)))) else (lV N (ir N a0 m6) p8 a0 p7)) else (sP N a0 p7)
def jr (N:Nat)(a0:Ra):Option (List Int):=
 ir N a0 N [] 0
theorem E3 {N:Nat}{a0:Ra}{r:(List Int)}(h:jr N a0=some r):Okc Tryz.prog 131 [.agg #[iV a0.Kind,iV a0.Shape,iV a0.Flags,iV a0.Age,O A1 n1 c1,O A2 n2 c2]] ([bm A1 n1 c1 a0.Slots,bm A2 n2 c2 a0.More]) (fun u post=> ∃A0 n0 c0,u=O A0 n0 c0∧post=[db A0 n0 c0 r]):=by
 refine bw Tryz.func131 U U ?_;simp only [aQ];refine D ?_;refine gD (bd U U) ?_;rintro _ _ ⟨B3,rfl,rfl⟩;refine D ?_;refine aO (fun s L=> ∃p5 A5 n5 c5,sP N a0 p5=some r∧s=[(1,pV B3 0),(2,O none 0 0),(3,O A5 n5 c5)]∧L=[db A5 n5 c5 p5,bm A1 n1 c1 a0.Slots,bm A2 n2 c2 a0.More,ay B3 47 [iV a0.Kind,iV a0.Shape,iV a0.Flags,iV a0.Age,O A1 n1 c1,O A2 n2 c2]]) ?_ ?_
 ·refine D ?_;refine bn (fun m s L=> ∃p7 p8 A7 n7 c7,ir N a0 m p7 p8=some r∧s=[(1,pV B3 0),(2,O none 0 0),(3,O A7 n7 c7),(4,iV p8)]∧L=[db A7 n7 c7 p7,bm A1 n1 c1 a0.Slots,bm A2 n2 c2 a0.More,ay B3 47 [iV a0.Kind,iV a0.Shape,iV a0.Flags,iV a0.Age,O A1 n1 c1,O A2 n2 c2]]) N _ _ ⟨[],0,none,0,0,h,U,U⟩ sA ((bj (fP .i64) 3 _).trans (cS [0,2,3,1] 4)) ?_;rintro (_|m6) _ _ ⟨p7,p8,A7,n7,c7,h,rfl,rfl⟩
  ·exact aB h
  rw [ir.eq_2] at h;refine az ?_;refine D ?_;refine gR (aK 1 U aj U hU) ?_;refine D ?_;refine av U (fun g10=> ?_) (fun g10=> ?_)
  ·replace h:=ag g10 h;refine D ?_;refine aO (fun s L=> ∃p12 A12 n12 c12,lV N (ir N a0 m6) p8 a0 p12=some r∧s=[(1,pV B3 0),(2,O none 0 0),(3,O A12 n12 c12),(4,iV p8)]∧L=[db A12 n12 c12 p12,bm A1 n1 c1 a0.Slots,bm A2 n2 c2 a0.More,ay B3 47 [iV a0.Kind,iV a0.Shape,iV a0.Flags,iV a0.Age,O A1 n1 c1,O A2 n2 c2]]) ?_ ?_
   ·refine D ?_;obtain ⟨x13,hx13,h⟩:=aa h;obtain ⟨lx13,ux13,hx13⟩:=au hx13;refine gR (aH 1 U aj U U hU aP lx13 ux13) ?_;refine gR (bp (us:=[iV x13.Kind,iV x13.N,.string x13.S]) 1 U aj U hx13 bW (fun _ _ _ h=>by rw [show _=_ from h];rfl)) ?_;obtain ⟨y14,hy14,h⟩:=aa h;refine gD (ak (Cd hy14) IG U (ab) xU) ?_;rintro _ _ ⟨_,⟨rfl,rfl⟩,rfl⟩;refine D ?_;refine av U (fun g15=> ?_) (fun g15=> ?_)
    ·replace h:=ag g15 h;refine D ?_;obtain ⟨x16,hx16,h⟩:=aa h;obtain ⟨lx16,ux16,hx16⟩:=au hx16;refine gR (aH 1 U aj U U hU aP lx16 ux16) ?_;refine gR (kM 1 U aj U (bo lx16 ux16) i4) ?_;refine gR (aY (u:=iV x16.N) 1 U aj U hx16 cZ (fun _ _ _ h=>by rw [show _=_ from h];rfl)) ?_;refine gD (bN (R:=(fP .i64)) (vss:=[[iV x16.N]]) (xs:=[x16.N]) U (gS _) U U (fun _ _ hr=> .cons U All2.nil)) ?_;rintro _ _ ⟨A17,n17,c17,rfl,rfl⟩;obtain ⟨q18,h⟩:=ap h;refine gD (bA 1 0 U U aF U U QW De U U q18) ?_;rintro _ _ ⟨A19,n19,c19,rfl,rfl⟩;refine D ?_;exact ⟨_,_,⟨p7++([x16.N]:List Int),A19,n19,c19,h,U,U⟩,sA,cS [1,2,3,4] 5⟩
    replace h:=ah g15 h;refine D ?_;exact ⟨_,_,⟨p7,A7,n7,c7,h,U,U⟩,sA,cS [0,1,2,3] 4⟩
   rintro _ _ ⟨p12,A12,n12,c12,h,rfl,rfl⟩;refine D ?_;obtain ⟨q20,h⟩:=ap h;refine gE (aW U U q20.1 q20.2) ?_;refine D ?_;exact ⟨m6,_,_,Rm _,⟨p12,p8+1,A12,n12,c12,h,U,U⟩,sA,cS [0,1,2,3] 4⟩
  replace h:=ah g10 h;refine D ?_;exact ⟨_,_,⟨p7,A7,n7,c7,h,U,U⟩,sA,cS [0,1,2,3] 4⟩
 rintro _ _ ⟨p5,A5,n5,c5,h,rfl,rfl⟩;refine aO (fun s L=> ∃p22 A22 n22 c22,wy N p22=some r∧s=[(2,O none 0 0),(3,O A22 n22 c22)]∧L=[db A22 n22 c22 p22]) ?_ ?_
 ·refine D ?_;refine bn (fun m s L=> ∃p24 p25 A24 n24 c24,gp N a0 m p24 p25=some r∧s=[(1,pV B3 0),(2,O none 0 0),(3,O A24 n24 c24),(5,iV p25)]∧L=[db A24 n24 c24 p24,bm A1 n1 c1 a0.Slots,bm A2 n2 c2 a0.More,ay B3 47 [iV a0.Kind,iV a0.Shape,iV a0.Flags,iV a0.Age,O A1 n1 c1,O A2 n2 c2]]) N _ _ ⟨p5,0,A5,n5,c5,h,U,U⟩ sA (cS [0,1,2,3] 4) ?_;rintro (_|m23) _ _ ⟨p24,p25,A24,n24,c24,h,rfl,rfl⟩
  ·exact aB h
  rw [gp.eq_2] at h;refine az ?_;refine D ?_;refine gR (aK 2 U aj U hU) ?_;refine D ?_;refine av U (fun g26=> ?_) (fun g26=> ?_)
  ·replace h:=ag g26 h;refine D ?_;refine aO (fun s L=> ∃p28 A28 n28 c28,lU N (gp N a0 m23) p25 a0 p28=some r∧s=[(1,pV B3 0),(2,O none 0 0),(3,O A28 n28 c28),(5,iV p25)]∧L=[db A28 n28 c28 p28,bm A1 n1 c1 a0.Slots,bm A2 n2 c2 a0.More,ay B3 47 [iV a0.Kind,iV a0.Shape,iV a0.Flags,iV a0.Age,O A1 n1 c1,O A2 n2 c2]]) ?_ ?_
   ·refine D ?_;obtain ⟨x29,hx29,h⟩:=aa h;obtain ⟨lx29,ux29,hx29⟩:=au hx29;refine gR (aH 2 U aj U U hU aP lx29 ux29) ?_;refine gR (bp (us:=[iV x29.Kind,iV x29.N,.string x29.S]) 2 U aj U hx29 bW (fun _ _ _ h=>by rw [show _=_ from h];rfl)) ?_;obtain ⟨y30,hy30,h⟩:=aa h;refine gD (ak (Cd hy30) IG U (ab) xU) ?_;rintro _ _ ⟨_,⟨rfl,rfl⟩,rfl⟩;refine D ?_;obtain ⟨b31,hb31,h⟩:=aa h;refine aE 6 47 b31 ?_ ?_
    ·clear h;refine aD 41 U (fun g31=> ?_) (fun g31=> ?_)
     ·have h:=ag g31 hb31;refine D ?_;obtain ⟨y32,hy32,h⟩:=aa h;refine cv (ak (F6 hy32) NJ U (ab) Dl) U (aU g31 U) U ?_;rintro _ _ ⟨_,⟨rfl,rfl⟩,rfl⟩;refine D ?_;obtain rfl:=ao h;exact ac sA (cS [0,1,2,3] 4)
     have h:=ah g31 hb31;refine D ?_;obtain rfl:=ao h;exact ac sA (cS [0,1,2,3] 4)
    refine D ?_;refine av U (fun g33=> ?_) (fun g33=> ?_)
    ·replace h:=ag g33 h;refine D ?_;obtain ⟨x34,hx34,h⟩:=aa h;obtain ⟨lx34,ux34,hx34⟩:=au hx34;refine gR (aH 2 U aj U U hU aP lx34 ux34) ?_;refine gR (kM 2 U aj U (bo lx34 ux34) i4) ?_;refine gR (aY (u:=iV x34.N) 2 U aj U hx34 cZ (fun _ _ _ h=>by rw [show _=_ from h];rfl)) ?_;refine gD (bN (R:=(fP .i64)) (vss:=[[iV x34.N]]) (xs:=[x34.N]) U (gS _) U U (fun _ _ hr=> .cons U All2.nil)) ?_;rintro _ _ ⟨A35,n35,c35,rfl,rfl⟩;obtain ⟨q36,h⟩:=ap h;refine gD (bA 1 0 U U aF U U QW De U U q36) ?_;rintro _ _ ⟨A37,n37,c37,rfl,rfl⟩;refine D ?_;exact ⟨_,_,⟨p24++([x34.N]:List Int),A37,n37,c37,h,U,U⟩,sA,cS [1,2,3,4] 5⟩
    replace h:=ah g33 h;refine D ?_;exact ⟨_,_,⟨p24,A24,n24,c24,h,U,U⟩,sA,cS [0,1,2,3] 4⟩
   rintro _ _ ⟨p28,A28,n28,c28,h,rfl,rfl⟩;refine D ?_;obtain ⟨q38,h⟩:=ap h;refine gE (aW U U q38.1 q38.2) ?_;refine D ?_;exact ⟨m23,_,_,Rm _,⟨p28,p25+1,A28,n28,c28,h,U,U⟩,sA,cS [0,1,2,3] 4⟩
  replace h:=ah g26 h;refine D ?_;exact ⟨_,_,⟨p24,A24,n24,c24,h,U,U⟩,sA,cS [0] 4⟩
 rintro _ _ ⟨p22,A22,n22,c22,h,rfl,rfl⟩;refine D ?_;obtain rfl:=ao h;exact aC U U (cS [0] 1) ⟨_,_,_,U,U⟩
theorem Cg {r:(List Int)}: ∀v post,((fun (u:Value) (post:List Chunk)=> ∃A0 n0 c0,u=O A0 n0 c0∧post=[db A0 n0 c0 r])) v post→ ∀c∈post,cg c:=by
 rintro _ _ ⟨_,_,_,rfl,rfl⟩;exact hE bH (ab)
def ut (N:Nat)(p6:(List Int)):Option (List Int):=
 some p6
def kO (N:Nat)(a0:Rg):Nat→(List Int)→Int→Option (List Int)
 |0,_,_=>none
 |m7+1,p8,p9=>bif decide (p9<(p8.length:Int)) then ((aM p8 p9).bind fun x11=>(mU N a0 x11).bind fun y12=>(jr N y12).bind fun y17=>(mD N a0 p8 y17).bind fun y20=>bD (in64 (p9+1)) ((kO N a0 m7) y20 (p9+1))) else (ut N p8)
def gl (N:Nat)(a0:Rg)(a1:(List Int))(a2:Int):Option (List Int):=
 kO N a0 N a1 a2
theorem ur {N:Nat}{a0:Rg}{a1:(List Int)}{a2:Int}{r:(List Int)}(h:gl N a0 a1 a2=some r):Okc Tryz.prog 105 [.agg #[O A1 n1 c1,O A2 n2 c2],O A3 n3 c3,iV a2] ([bz A1 n1 c1 a0.Young,bz A2 n2 c2 a0.Old,db A3 n3 c3 a1]) (fun u post=> ∃A0 n0 c0,u=O A0 n0 c0∧post=[db A0 n0 c0 r]):=by
 refine bw Tryz.func105 U U ?_;simp only [aQ];refine D ?_;refine gD (bd U U) ?_;rintro _ _ ⟨B4,rfl,rfl⟩;refine D ?_;refine aO (fun s L=> ∃p6 A6 n6 c6,ut N p6=some r∧s=[(1,O A6 n6 c6),(6,O none 0 0)]∧L=[db A6 n6 c6 p6]) ?_ ?_
 ·refine D ?_;refine bn (fun m s L=> ∃p8 p9 A8 n8 c8,kO N a0 m p8 p9=some r∧s=[(1,O A8 n8 c8),(3,pV B4 0),(6,O none 0 0),(7,iV p9)]∧L=[db A8 n8 c8 p8,bz A1 n1 c1 a0.Young,bz A2 n2 c2 a0.Old,ay B4 36 [O A1 n1 c1,O A2 n2 c2]]) N _ _ ⟨a1,a2,A3,n3,c3,h,U,U⟩ sA (cS [3,1,2,0] 4) ?_;rintro (_|m7) _ _ ⟨p8,p9,A8,n8,c8,h,rfl,rfl⟩
  ·exact aB h
  rw [kO.eq_2] at h;refine az ?_;refine D ?_;refine gR (aK 0 U aF U QW) ?_;refine D ?_;refine av U (fun g10=> ?_) (fun g10=> ?_)
  ·replace h:=ag g10 h;refine D ?_;refine az ?_;refine gY ?_;obtain ⟨x11,hx11,h⟩:=aa h;obtain ⟨lx11,ux11,hx11⟩:=au hx11;obtain ⟨y12,hy12,h⟩:=aa h;obtain ⟨y17,hy17,h⟩:=aa h;refine gT (t:=[(1,O A8 n8 c8),(3,pV B4 0),(6,O none 0 0),(7,iV p9)]) ?_ lP (ai _)
   refine i6 W 9 [] [0,1,8] [15,16,17,18,19,20,21,22,23] [[],[],[],[],[],[3,4],[5],[2,6],[7]] [aV (.agg #[O A1 n1 c1,O A2 n2 c2]),
 aV (O A8 n8 c8),
 aV (.agg #[O A1 n1 c1,O A2 n2 c2]),
 aV (O A8 n8 c8),
 aV (iV p9),
 aV (ei (O A8 n8 c8) p9.toNat 1 0),
 aV (iV x11),
 aX6 (fun (A15:Option Addr) (n15 c15:Nat) (A16:Option Addr) (n16 c16:Nat)=> .agg #[iV y12.Kind,iV y12.Shape,iV y12.Flags,iV y12.Age,O A15 n15 c15,O A16 n16 c16]) (fun A15 n15 c15 A16 n16 c16=> [bm A15 n15 c15 y12.Slots,bm A16 n16 c16 y12.More]),
 aX3 (fun (A19:Option Addr) (n19 c19:Nat)=> O A19 n19 c19) (fun A19 n19 c19=> [db A19 n19 c19 y17])] [] (ai _) (lG) W rfl rfl ?_ ?_ ?_
   ·exact lF
   ·refine am U ?_ ?_
    ·intro A15 n15 c15 A16 n16 c16;refine oM (ak (E3 hy17) Ob U (hE (ad (i:=0) U U) (hE (ad (i:=1) U U) ab)) Cg) U ?_;rintro _ _ ⟨_,⟨A18,n18,c18,rfl,rfl⟩,rfl⟩;exact AR A18 n18 c18 (ai _)
    refine am U ?_ ?_
    ·refine oM (aZ (vu hy12) Fw U (aJ [1,2] [] [0,1,2,3] 4 U)) U ?_;rintro _ _ ⟨_,⟨A13,n13,c13,A14,n14,c14,rfl,rfl⟩,rfl⟩;exact GD A13 n13 c13 A14 n14 c14 (ai _)
    refine am U ?_ ?_
    ·exact dO (aY (u:=iV x11) 0 U aF U hx11 cZ (fun _ _ _ h=>by rw [show _=_ from h];rfl)) U (bu U (ai _))
    refine am U ?_ ?_
    ·exact dO (aH 0 U aF U U QW dh lx11 ux11) U (bu U (ai _))
    refine am U ?_ ?_
    ·exact cL (ax U) U (bu U (ai _))
    refine am U ?_ ?_
    ·exact cL (ax U) U (bu U (ai _))
    refine am U ?_ ?_
    ·exact dO (aA (us:=[O A1 n1 c1,O A2 n2 c2]) 3 U U cJ U) U (bu U (ai _))
    refine am U ?_ ?_
    ·exact cL (ax U) U (bu U (ai _))
    refine am U ?_ ?_
    ·exact dO (aA (us:=[O A1 n1 c1,O A2 n2 c2]) 3 U U cJ U) U (bu U (ai _))
    exact eX
   intro A19 n19 c19;refine lZ (t:=[(15,.agg #[O A1 n1 c1,O A2 n2 c2]),(16,O A8 n8 c8),(23,O A19 n19 c19),(1,O A8 n8 c8),(3,pV B4 0),(6,O none 0 0),(7,iV p9)]) (L':=[db A19 n19 c19 y17,db A8 n8 c8 p8,bz A1 n1 c1 a0.Young,bz A2 n2 c2 a0.Old,ay B4 36 [O A1 n1 c1,O A2 n2 c2]]) ?_ lP (ai _);refine lZ ?_ bv (co 0 U);obtain ⟨y20,hy20,h⟩:=aa h;refine qz 9 U W (aZ (wU hy20) FF U (aJ [2,3,0] [1] [0,2,3,4] 5 U)) U U U ?_;rintro _ _ ⟨_,⟨A21,n21,c21,rfl,rfl⟩,rfl⟩;refine AT 10 U W (aI U) U U U ?_;refine lN W ?_;refine D ?_;obtain ⟨q22,h⟩:=ap h;refine gE (aW U U q22.1 q22.2) ?_;refine D ?_;exact ⟨m7,_,_,Rm _,⟨y20,p9+1,A21,n21,c21,h,U,U⟩,sA,cS [0,2,3,4] 5⟩
  replace h:=ah g10 h;refine D ?_;exact ⟨_,_,⟨p8,A8,n8,c8,h,U,U⟩,sA,cS [0] 4⟩
 rintro _ _ ⟨p6,A6,n6,c6,h,rfl,rfl⟩;refine D ?_;obtain rfl:=ao h;exact aC U U (cS [0] 1) ⟨_,_,_,U,U⟩
def uw (N:Nat)(a0:Ra):Option Bool:=
 (bif decide (a0.Kind=8) then ((cP N a0).bind fun y5=>some y5) else (some false)).bind fun b4=>some b4
theorem DK {N:Nat}{a0:Ra}{r:Bool}(h:uw N a0=some r):Okc Tryz.prog 182 [.agg #[iV a0.Kind,iV a0.Shape,iV a0.Flags,iV a0.Age,O A1 n1 c1,O A2 n2 c2]] ([bm A1 n1 c1 a0.Slots,bm A2 n2 c2 a0.More]) (fun u post=>u=.bool r∧post=[]):=by
 refine bw Tryz.func182 U U ?_;simp only [aQ];refine D ?_;refine gD (bd U U) ?_;rintro _ _ ⟨B3,rfl,rfl⟩;refine D ?_;obtain ⟨b4,hb4,h⟩:=aa h;refine aE 3 9 b4 ?_ ?_
 ·clear h;refine aD 6 U (fun g4=> ?_) (fun g4=> ?_)
  ·have h:=ag g4 hb4;refine bI (aA (us:=[iV a0.Kind,iV a0.Shape,iV a0.Flags,iV a0.Age,O A1 n1 c1,O A2 n2 c2]) 0 U U be U) U (aU g4 U) U ?_;obtain ⟨y5,hy5,h⟩:=aa h;refine cv (ak (sO hy5) FE U (hE (ad (i:=1) U U) (hE (ad (i:=2) U U) ab)) pT) U (aU g4 U) U ?_;rintro _ _ ⟨_,⟨rfl,rfl⟩,rfl⟩;refine D ?_;obtain rfl:=ao h;exact ac sA (cS [0,1,2] 3)
  have h:=ah g4 hb4;refine D ?_;obtain rfl:=ao h;exact ac sA (cS [0,1,2] 3)
 refine D ?_;obtain rfl:=ao h;exact aC U U (cS [] 3) ⟨U,U⟩
theorem Aa {r:Bool}: ∀v post,((fun (u:Value) (post:List Chunk)=>u=.bool r∧post=[])) v post→ ∀c∈post,cg c:=by
 rintro _ _ ⟨rfl,rfl⟩;exact ab
def DM (N:Nat):Option Bool:=
 some false
def vv (N:Nat)(a0:Int)(a1:(List Int)):Nat→Int→Option Bool
 |0,_=>none
 |m3+1,p4=>bif decide (p4<(a1.length:Int)) then ((aM a1 p4).bind fun x6=>bif decide (x6=a0) then (some true) else (bD (in64 (p4+1)) ((vv N a0 a1 m3) (p4+1)))) else (DM N)
def sc (N:Nat)(a0:Int)(a1:(List Int)):Option Bool:=
 vv N a0 a1 N 0
theorem DL {N:Nat}{a0:Int}{a1:(List Int)}{r:Bool}(h:sc N a0 a1=some r):Okc Tryz.prog 55 [iV a0,O A1 n1 c1] ([dv A1 n1 c1 a1]) (fun u post=>u=.bool r∧post=[]):=by
 refine bw Tryz.func55 U U ?_;simp only [aQ];refine D ?_;refine aO (fun s L=>DM N=some r∧s=[(4,.bool false)]∧L=[]) ?_ ?_
 ·refine D ?_;refine bn (fun m s L=> ∃p4,vv N a0 a1 m p4=some r∧s=[(0,iV a0),(1,O A1 n1 c1),(4,.bool false),(5,iV p4)]∧L=[dv A1 n1 c1 a1]) N _ _ ⟨0,h,U,U⟩ sA (cS [0] 1) ?_;rintro (_|m3) _ _ ⟨p4,h,rfl,rfl⟩
  ·exact aB h
  rw [vv.eq_2] at h;refine az ?_;refine D ?_;refine gR (aK 0 U aj U QW) ?_;refine D ?_;refine av U (fun g5=> ?_) (fun g5=> ?_)
  ·replace h:=ag g5 h;refine D ?_;refine az ?_;refine D ?_;obtain ⟨x6,hx6,h⟩:=aa h;obtain ⟨lx6,ux6,hx6⟩:=au hx6;refine gR (aH 0 U aj U U QW dh lx6 ux6) ?_;refine gR (aY (u:=iV x6) 0 U aj U hx6 cZ (fun _ _ _ h=>by rw [show _=_ from h];rfl)) ?_;refine D ?_;refine av U (fun g7=> ?_) (fun g7=> ?_)
   ·replace h:=ag g7 h;refine D ?_;obtain rfl:=ao h;exact aC U U (cS [] 1) ⟨U,U⟩
   replace h:=ah g7 h;refine D ?_;obtain ⟨q8,h⟩:=ap h;refine gE (aW U U q8.1 q8.2) ?_;refine D ?_;exact ⟨m3,_,_,Rm _,⟨p4+1,h,U,U⟩,sA,cS [0] 1⟩
  replace h:=ah g5 h;refine D ?_;exact ⟨_,_,⟨h,U,U⟩,sA,cS [] 1⟩
 rintro _ _ ⟨h,rfl,rfl⟩;refine D ?_;obtain rfl:=ao h;exact aC U U (cS [] 0) ⟨U,U⟩
theorem Ab {r:Bool}: ∀v post,((fun (u:Value) (post:List Chunk)=>u=.bool r∧post=[])) v post→ ∀c∈post,cg c:=by
 rintro _ _ ⟨rfl,rfl⟩;exact ab
def sM (N:Nat)(p6:(List Int)):Option (List Int):=
 some p6
def nW (N:Nat)(kb7:(List Int)→Int→Option (List Int))(p9:Int)(a1:(List Int))(a0:Ra)(p15:(List Int)):Option (List Int):=
 bD (in64 (p9+2)) (kb7 p15 (p9+2))
def ln (N:Nat)(a1:(List Int))(a0:Ra):Nat→(List Int)→Int→Option (List Int)
 |0,_,_=>none
 |m7+1,p8,p9=>(uw N a0).bind fun y11=>(bif y11 then (some (decide (p9<(a0.More.length:Int)))) else (some false)).bind fun b12=>bif b12 then (bD (in64 (p9+1)) ((aM a0.More (p9+1)).bind fun x17=>(aM a0.More p9).bind fun x19=>(sc N x19.N a1).bind fun y20=>(bif y20 then ((bif decide (x17.Kind=7) then (some true) else (some (decide (x17.Kind=9)))).bind fun b22=>some b22) else (some false)).bind fun b21=>bif b21 then (bD (cc (p8.length+([x17.N]:List Int).length)) (nW N (ln N a1 a0 m7) p9 a1 a0 (p8++([x17.N]:List Int)))) else (nW N (ln N a1 a0 m7) p9 a1 a0 p8))) else (sM N p8)
def qW (N:Nat)(a0:Ra)(a1:(List Int)):Option (List Int):=
 ln N a1 a0 N [] 0
theorem EZ {N:Nat}{a0:Ra}{a1:(List Int)}{r:(List Int)}(h:qW N a0 a1=some r):Okc Tryz.prog 110 [.agg #[iV a0.Kind,iV a0.Shape,iV a0.Flags,iV a0.Age,O A1 n1 c1,O A2 n2 c2],O A3 n3 c3] ([bm A1 n1 c1 a0.Slots,bm A2 n2 c2 a0.More,dv A3 n3 c3 a1]) (fun u post=> ∃A0 n0 c0,u=O A0 n0 c0∧post=[db A0 n0 c0 r]):=by
 refine bw Tryz.func110 U U ?_;simp only [aQ];refine D ?_;refine gD (bd U U) ?_;rintro _ _ ⟨B4,rfl,rfl⟩;refine D ?_;refine aO (fun s L=> ∃p6 A6 n6 c6,sM N p6=some r∧s=[(4,O none 0 0),(5,O A6 n6 c6)]∧L=[db A6 n6 c6 p6]) ?_ ?_
 ·refine D ?_;refine bn (fun m s L=> ∃p8 p9 A8 n8 c8,ln N a1 a0 m p8 p9=some r∧s=[(1,O A3 n3 c3),(2,pV B4 0),(4,O none 0 0),(5,O A8 n8 c8),(6,iV p9)]∧L=[dv A3 n3 c3 a1,db A8 n8 c8 p8,bm A1 n1 c1 a0.Slots,bm A2 n2 c2 a0.More,ay B4 47 [iV a0.Kind,iV a0.Shape,iV a0.Flags,iV a0.Age,O A1 n1 c1,O A2 n2 c2]]) N _ _ ⟨[],0,none,0,0,h,U,U⟩ sA ((bj (fP .i64) 3 _).trans (cS [4,0,2,3,1] 5)) ?_;rintro (_|m7) _ _ ⟨p8,p9,A8,n8,c8,h,rfl,rfl⟩
  ·exact aB h
  rw [ln.eq_2] at h;refine az ?_;refine D ?_;refine gR (aA (us:=[iV a0.Kind,iV a0.Shape,iV a0.Flags,iV a0.Age,O A1 n1 c1,O A2 n2 c2]) 4 U U be U) ?_;obtain ⟨y11,hy11,h⟩:=aa h;refine gD (ak (DK hy11) IK U (hE (ad (i:=2) U U) (hE (ad (i:=3) U U) ab)) Aa) ?_;rintro _ _ ⟨_,⟨rfl,rfl⟩,rfl⟩;refine D ?_;obtain ⟨b12,hb12,h⟩:=aa h;refine aE 6 16 b12 ?_ ?_
  ·clear h;refine aD 10 U (fun g12=> ?_) (fun g12=> ?_)
   ·have h:=ag g12 hb12;refine D ?_;refine bI (aK 3 U aj U hU) U (aU g12 U) U ?_;refine D ?_;obtain rfl:=ao h;exact ac sA (cS [0,1,2,3,4] 5)
   have h:=ah g12 hb12;refine D ?_;obtain rfl:=ao h;exact ac sA (cS [0,1,2,3,4] 5)
  refine D ?_;refine av U (fun g13=> ?_) (fun g13=> ?_)
  ·replace h:=ag g13 h;refine D ?_;refine aO (fun s L=> ∃p15 A15 n15 c15,nW N (ln N a1 a0 m7) p9 a1 a0 p15=some r∧s=[(1,O A3 n3 c3),(2,pV B4 0),(4,O none 0 0),(5,O A15 n15 c15),(6,iV p9)]∧L=[dv A3 n3 c3 a1,db A15 n15 c15 p15,bm A1 n1 c1 a0.Slots,bm A2 n2 c2 a0.More,ay B4 47 [iV a0.Kind,iV a0.Shape,iV a0.Flags,iV a0.Age,O A1 n1 c1,O A2 n2 c2]]) ?_ ?_
   ·refine D ?_;obtain ⟨q16,h⟩:=ap h;refine gE (aW U U q16.1 q16.2) ?_;obtain ⟨x17,hx17,h⟩:=aa h;obtain ⟨lx17,ux17,hx17⟩:=au hx17;refine gR (aH 3 U aj U U hU aP lx17 ux17) ?_;refine gR (bp (us:=[iV x17.Kind,iV x17.N,.string x17.S]) 3 U aj U hx17 bW (fun _ _ _ h=>by rw [show _=_ from h];rfl)) ?_;refine gD (aN ki U) ?_;rintro _ _ ⟨B18,rfl,rfl⟩;refine gO (aq (us:=[iV x17.Kind,iV x17.N,.string x17.S]) (cs':=[iV x17.Kind,iV x17.N,.string x17.S]) 0 U U U U aP U U U) ?_;rintro _ _ rfl;refine D ?_;obtain ⟨x19,hx19,h⟩:=aa h;obtain ⟨lx19,ux19,hx19⟩:=au hx19;refine gR (aH 4 U aj U U hU aP lx19 ux19) ?_;refine gR (kM 4 U aj U (bo lx19 ux19) i4) ?_;refine gR (aY (u:=iV x19.N) 4 U aj U hx19 cZ (fun _ _ _ h=>by rw [show _=_ from h];rfl)) ?_;refine D ?_;obtain ⟨y20,hy20,h⟩:=aa h;refine gD (ak (DL hy20) LO U (hE (ad (i:=1) U U) ab) Ab) ?_;rintro _ _ ⟨_,⟨rfl,rfl⟩,rfl⟩;refine D ?_;obtain ⟨b21,hb21,h⟩:=aa h;refine aE 9 42 b21 ?_ ?_
    ·clear h;refine aD 33 U (fun g21=> ?_) (fun g21=> ?_)
     ·have h:=ag g21 hb21;refine D ?_;obtain ⟨b22,hb22,h⟩:=aa h;refine aE 4 41 b22 ?_ ?_
      ·clear h;refine aD 37 U (fun g22=> ?_) (fun g22=> ?_)
       ·have h:=ag g22 hb22;refine D ?_;obtain rfl:=ao h;exact ac sA (cS [0,1,2,3,4,5] 6)
       have h:=ah g22 hb22;refine D ?_;obtain rfl:=ao h;exact ac sA (cS [0,1,2,3,4,5] 6)
      refine D ?_;obtain rfl:=ao h;exact ac sA (cS [0,1,2,3,4,5] 6)
     have h:=ah g21 hb21;refine D ?_;obtain rfl:=ao h;exact ac sA (cS [0,1,2,3,4,5] 6)
    refine D ?_;refine av U (fun g23=> ?_) (fun g23=> ?_)
    ·replace h:=ag g23 h;refine D ?_;refine gD (bN (R:=(fP .i64)) (vss:=[[iV x17.N]]) (xs:=[x17.N]) U (gS _) U U (fun _ _ hr=> .cons U All2.nil)) ?_;rintro _ _ ⟨A24,n24,c24,rfl,rfl⟩;obtain ⟨q25,h⟩:=ap h;refine gD (bA 3 0 U U aF U U QW De U U q25) ?_;rintro _ _ ⟨A26,n26,c26,rfl,rfl⟩;refine D ?_;exact ⟨_,_,⟨p8++([x17.N]:List Int),A26,n26,c26,h,U,U⟩,sA,cS [2,3,4,5,6] 7⟩
    replace h:=ah g23 h;refine D ?_;exact ⟨_,_,⟨p8,A8,n8,c8,h,U,U⟩,sA,cS [1,2,3,4,5] 6⟩
   rintro _ _ ⟨p15,A15,n15,c15,h,rfl,rfl⟩;refine D ?_;obtain ⟨q27,h⟩:=ap h;refine gE (aW U U q27.1 q27.2) ?_;refine D ?_;exact ⟨m7,_,_,Rm _,⟨p15,p9+2,A15,n15,c15,h,U,U⟩,sA,cS [0,1,2,3,4] 5⟩
  replace h:=ah g13 h;refine D ?_;exact ⟨_,_,⟨p8,A8,n8,c8,h,U,U⟩,sA,cS [1] 5⟩
 rintro _ _ ⟨p6,A6,n6,c6,h,rfl,rfl⟩;refine D ?_;obtain rfl:=ao h;exact aC U U (cS [0] 1) ⟨_,_,_,U,U⟩
theorem Ca {r:(List Int)}: ∀v post,((fun (u:Value) (post:List Chunk)=> ∃A0 n0 c0,u=O A0 n0 c0∧post=[db A0 n0 c0 r])) v post→ ∀c∈post,cg c:=by
 rintro _ _ ⟨_,_,_,rfl,rfl⟩;exact hE bH (ab)
def rH (N:Nat)(kb12:(List Int)→Option (List Int))(p13:(List Int))(a0:Rg)(p15:(List Int)):Option (List Int):=
 bif decide ((p15.length:Int)=(p13.length:Int)) then (some p15) else ((gl N a0 p15 (p13.length:Int)).bind fun y33=>kb12 y33)
def jY (N:Nat)(kb12:(List Int)→Option (List Int))(p13:(List Int))(a0:Rg):Nat→(List Int)→Int→Option (List Int)
 |0,_,_=>none
 |m16+1,p17,p18=>bif decide (p18<(p13.length:Int)) then ((aM p17 p18).bind fun x20=>(mU N a0 x20).bind fun y21=>(qW N y21 p17).bind fun y26=>(mD N a0 p17 y26).bind fun y29=>bD (in64 (p18+1)) ((jY N kb12 p13 a0 m16) y29 (p18+1))) else (rH N kb12 p13 a0 p17)
def eD (N:Nat)(a0:Rg):Nat→(List Int)→Option (List Int)
 |0,_=>none
 |m12+1,p13=>jY N (eD N a0 m12) p13 a0 N p13 0
def io (N:Nat)(a0:Rg)(a1:(List Q5)):Option (List Int):=
 (fY N a1).bind fun y5=>(mD N a0 ([]:List Int) y5).bind fun y8=>(gl N a0 y8 0).bind fun y10=>eD N a0 N y10
theorem EX {N:Nat}{a0:Rg}{a1:(List Q5)}{r:(List Int)}(h:io N a0 a1=some r):Okc Tryz.prog 40 [.agg #[O A1 n1 c1,O A2 n2 c2],O A3 n3 c3] ([bz A1 n1 c1 a0.Young,bz A2 n2 c2 a0.Old,bm A3 n3 c3 a1]) (fun u post=> ∃A0 n0 c0,u=O A0 n0 c0∧post=[db A0 n0 c0 r]):=by
 refine bw Tryz.func40 U U ?_;simp only [aQ];refine D ?_;refine gD (bd U U) ?_;rintro _ _ ⟨B4,rfl,rfl⟩;refine D ?_;refine az ?_;refine cn W _ (ai _) ?_;refine zR 0 U (aA (us:=[O A1 n1 c1,O A2 n2 c2]) 0 U U cJ U) ?_;refine zR 1 U (aA (us:=[O A1 n1 c1,O A2 n2 c2]) 0 U U cJ U) ?_;refine zE 2 U (ax U) ?_;obtain ⟨y5,hy5,h⟩:=aa h;refine zD 3 U (ak (zk hy5) Oj U (hE (ad (i:=3) U U) ab) wV) ?_;rintro _ _ ⟨_,⟨A6,n6,c6,rfl,rfl⟩,rfl⟩;refine bP (cS [1,2,3,4] 5) ?_;refine vd (bj (fP .i64) 3 _) (cS [2,3,4,5] 6) ?_;refine vd (co 1 U) (cS [2,3,4,5] 6) ?_;obtain ⟨y8,hy8,h⟩:=aa h;refine zD 4 U (aZ (wU hy8) FF U (aJ [3,4,1] [0] [1,2,3,4,5] 6 U)) ?_;rintro _ _ ⟨_,⟨A9,n9,c9,rfl,rfl⟩,rfl⟩;refine bP (cS [2,3,4,5] 6) ?_;obtain ⟨y10,hy10,h⟩:=aa h;refine zD 5 U (aZ (ur hy10) I3 U (aJ [3,4] [0] [1,2,3,4,5] 6 U)) ?_;rintro _ _ ⟨_,⟨A11,n11,c11,rfl,rfl⟩,rfl⟩;refine bP (cS [2,3,4,5] 6) ?_;refine zE 6 U (aI U) ?_;refine bB W ?_;refine D ?_;refine bn (fun m s L=> ∃p13 A13 n13 c13,eD N a0 m p13=some r∧s=[(2,pV B4 0),(4,O none 0 0),(5,O A13 n13 c13)]∧L=[db A13 n13 c13 p13,bz A1 n1 c1 a0.Young,bz A2 n2 c2 a0.Old,ay B4 36 [O A1 n1 c1,O A2 n2 c2]]) N _ _ ⟨y10,A11,n11,c11,h,U,U⟩ sA (cS [0,3,4,2] 6) ?_;rintro (_|m12) _ _ ⟨p13,A13,n13,c13,h,rfl,rfl⟩
 ·exact aB h
 rw [eD.eq_2] at h;refine D ?_;refine gR (aK 0 U aF U QW) ?_;refine D ?_;refine aO (fun s L=> ∃p15 A15 n15 c15,rH N (eD N a0 m12) p13 a0 p15=some r∧s=[(2,pV B4 0),(4,O none 0 0),(5,O A15 n15 c15),(6,iV (p13.length:Int))]∧L=[db A15 n15 c15 p15,bz A1 n1 c1 a0.Young,bz A2 n2 c2 a0.Old,ay B4 36 [O A1 n1 c1,O A2 n2 c2]]) ?_ ?_
 ·refine D ?_;refine bn (fun m s L=> ∃p17 p18 A17 n17 c17,jY N (eD N a0 m12) p13 a0 m p17 p18=some r∧s=[(2,pV B4 0),(4,O none 0 0),(5,O A17 n17 c17),(6,iV (p13.length:Int)),(7,iV p18)]∧L=[db A17 n17 c17 p17,bz A1 n1 c1 a0.Young,bz A2 n2 c2 a0.Old,ay B4 36 [O A1 n1 c1,O A2 n2 c2]]) N _ _ ⟨p13,0,A13,n13,c13,h,U,U⟩ sA (cS [0,1,2,3] 4) ?_;rintro (_|m16) _ _ ⟨p17,p18,A17,n17,c17,h,rfl,rfl⟩
  ·exact aB h
  rw [jY.eq_2] at h;refine az ?_;refine D ?_;refine av U (fun g19=> ?_) (fun g19=> ?_)
  ·replace h:=ag g19 h;refine D ?_;refine az ?_;refine gY ?_;obtain ⟨x20,hx20,h⟩:=aa h;obtain ⟨lx20,ux20,hx20⟩:=au hx20;obtain ⟨y21,hy21,h⟩:=aa h;obtain ⟨y26,hy26,h⟩:=aa h;refine gT (t:=[(2,pV B4 0),(4,O none 0 0),(5,O A17 n17 c17),(6,iV (p13.length:Int)),(7,iV p18)]) ?_ lP (ai _)
   refine i6 W 10 [] [0,1,9] [21,22,23,24,25,26,27,28,29,30] [[],[],[],[],[],[3,4],[5],[2,6],[],[7,8]] [aV (.agg #[O A1 n1 c1,O A2 n2 c2]),
 aV (O A17 n17 c17),
 aV (.agg #[O A1 n1 c1,O A2 n2 c2]),
 aV (O A17 n17 c17),
 aV (iV p18),
 aV (ei (O A17 n17 c17) p18.toNat 1 0),
 aV (iV x20),
 aX6 (fun (A24:Option Addr) (n24 c24:Nat) (A25:Option Addr) (n25 c25:Nat)=> .agg #[iV y21.Kind,iV y21.Shape,iV y21.Flags,iV y21.Age,O A24 n24 c24,O A25 n25 c25]) (fun A24 n24 c24 A25 n25 c25=> [bm A24 n24 c24 y21.Slots,bm A25 n25 c25 y21.More]),
 aV (O A17 n17 c17),
 aX3 (fun (A28:Option Addr) (n28 c28:Nat)=> O A28 n28 c28) (fun A28 n28 c28=> [db A28 n28 c28 y26])] [] (ai _) (lG) W rfl rfl ?_ ?_ ?_
   ·exact lF
   ·refine am U ?_ ?_
    ·intro A24 n24 c24 A25 n25 c25;refine oM (ak (EZ hy26) Oe U (hE (ad (i:=0) U U) (hE (ad (i:=1) U U) (hE (ar (i:=2) U) ab))) Ca) U ?_;rintro _ _ ⟨_,⟨A27,n27,c27,rfl,rfl⟩,rfl⟩;exact AR A27 n27 c27 (ai _)
    refine am U ?_ ?_
    ·exact cL (ax U) U (bu U (ai _))
    refine am U ?_ ?_
    ·refine oM (aZ (vu hy21) Fw U (aJ [1,2] [] [0,1,2,3] 4 U)) U ?_;rintro _ _ ⟨_,⟨A22,n22,c22,A23,n23,c23,rfl,rfl⟩,rfl⟩;exact GD A22 n22 c22 A23 n23 c23 (ai _)
    refine am U ?_ ?_
    ·exact dO (aY (u:=iV x20) 0 U aF U hx20 cZ (fun _ _ _ h=>by rw [show _=_ from h];rfl)) U (bu U (ai _))
    refine am U ?_ ?_
    ·exact dO (aH 0 U aF U U QW dh lx20 ux20) U (bu U (ai _))
    refine am U ?_ ?_
    ·exact cL (ax U) U (bu U (ai _))
    refine am U ?_ ?_
    ·exact cL (ax U) U (bu U (ai _))
    refine am U ?_ ?_
    ·exact dO (aA (us:=[O A1 n1 c1,O A2 n2 c2]) 3 U U cJ U) U (bu U (ai _))
    refine am U ?_ ?_
    ·exact cL (ax U) U (bu U (ai _))
    refine am U ?_ ?_
    ·exact dO (aA (us:=[O A1 n1 c1,O A2 n2 c2]) 3 U U cJ U) U (bu U (ai _))
    exact eX
   intro A28 n28 c28;refine lZ (t:=[(21,.agg #[O A1 n1 c1,O A2 n2 c2]),(22,O A17 n17 c17),(30,O A28 n28 c28),(2,pV B4 0),(4,O none 0 0),(5,O A17 n17 c17),(6,iV (p13.length:Int)),(7,iV p18)]) (L':=[db A28 n28 c28 y26,db A17 n17 c17 p17,bz A1 n1 c1 a0.Young,bz A2 n2 c2 a0.Old,ay B4 36 [O A1 n1 c1,O A2 n2 c2]]) ?_ lP (ai _);refine lZ ?_ bv (co 0 U);obtain ⟨y29,hy29,h⟩:=aa h;refine qz 10 U W (aZ (wU hy29) FF U (aJ [2,3,0] [1] [0,2,3,4] 5 U)) U U U ?_;rintro _ _ ⟨_,⟨A30,n30,c30,rfl,rfl⟩,rfl⟩;refine AT 11 U W (aI U) U U U ?_;refine lN W ?_;refine D ?_;obtain ⟨q31,h⟩:=ap h;refine gE (aW U U q31.1 q31.2) ?_;refine D ?_;exact ⟨m16,_,_,Rm _,⟨y29,p18+1,A30,n30,c30,h,U,U⟩,sA,cS [0,2,3,4] 5⟩
  replace h:=ah g19 h;refine D ?_;exact ⟨_,_,⟨p17,A17,n17,c17,h,U,U⟩,sA,cS [0,1,2,3] 4⟩
 rintro _ _ ⟨p15,A15,n15,c15,h,rfl,rfl⟩;refine az ?_;refine D ?_;refine gR (aK 0 U aF U QW) ?_;refine D ?_;refine av U (fun g32=> ?_) (fun g32=> ?_)
 ·replace h:=ag g32 h;refine D ?_;obtain rfl:=ao h;exact aC U U (cS [0] 4) ⟨_,_,_,U,U⟩
 replace h:=ah g32 h;refine D ?_;refine gR (aA (us:=[O A1 n1 c1,O A2 n2 c2]) 3 U U cJ U) ?_;refine D ?_;obtain ⟨y33,hy33,h⟩:=aa h;refine gD (aZ (ur hy33) I3 U (aJ [1,2] [0] [1,2,3] 4 U)) ?_;rintro _ _ ⟨_,⟨A34,n34,c34,rfl,rfl⟩,rfl⟩;refine cq ?_;refine D ?_;exact ⟨m12,_,_,Rm _,⟨y33,A34,n34,c34,h,U,U⟩,sA,cS [0,1,2,3] 4⟩
theorem BV {r:(List Int)}: ∀v post,((fun (u:Value) (post:List Chunk)=> ∃A0 n0 c0,u=O A0 n0 c0∧post=[db A0 n0 c0 r])) v post→ ∀c∈post,cg c:=by
 rintro _ _ ⟨_,_,_,rfl,rfl⟩;exact hE bH (ab)
def mr (N:Nat)(a0:Rg)(a1:(List Q5)):Option Q9:=
 (oy N a0.Young).bind fun y6=>(oy N a0.Old).bind fun y8=>(io N (⟨y6,y8⟩:Rg) a1).bind fun y10=>some (⟨(⟨y6,y8⟩:Rg),y10⟩:Q9)
theorem zZ {N:Nat}{a0:Rg}{a1:(List Q5)}{r:Q9}(h:mr N a0 a1=some r):Okc Tryz.prog 81 [.agg #[O A1 n1 c1,O A2 n2 c2],O A3 n3 c3] ([bz A1 n1 c1 a0.Young,bz A2 n2 c2 a0.Old,bm A3 n3 c3 a1]) (fun u post=> ∃A0 n0 c0 A1 n1 c1 A2 n2 c2,u=.agg #[O A0 n0 c0,O A1 n1 c1,O A2 n2 c2]∧post=[cA A0 n0 c0 r.M.Young,cA A1 n1 c1 r.M.Old,db A2 n2 c2 r.Order]):=by
 refine bw Tryz.func81 U U ?_;simp only [aQ];refine D ?_;refine gD (bd U U) ?_;rintro _ _ ⟨B4,rfl,rfl⟩;refine gD (aN ED U) ?_;rintro _ _ ⟨B5,rfl,rfl⟩;refine D ?_;refine az ?_;refine cn W _ (ai _) ?_;refine zE 0 U (dC U tc) ?_;refine zR 1 U (bc 1 U U kQ U) ?_;refine zE 3 U (bX U rj) ?_;refine zR 4 U (bc 1 U U kQ U) ?_;obtain ⟨y6,hy6,h⟩:=aa h;refine zD 2 U (aZ (xM hy6) IQ U (aJ [2] [] [0,1,2,3,4] 5 U)) ?_;rintro _ _ ⟨_,⟨A7,n7,c7,rfl,rfl⟩,rfl⟩;refine bP (cS [1,2,3,4,5] 6) ?_;obtain ⟨y8,hy8,h⟩:=aa h;refine zD 5 U (aZ (xM hy8) IQ U (aJ [4] [] [0,1,2,3,4,5] 6 U)) ?_;rintro _ _ ⟨_,⟨A9,n9,c9,rfl,rfl⟩,rfl⟩;refine bP (cS [2,3,4,5,6] 7) ?_;refine zE 6 U (dr U (C5 _ _ _ _ _ _)) ?_;refine nA 7 U W W (aq (us:=[O A7 n7 c7,O A9 n9 c9]) (cs':=[O A7 n7 c7,O A9 n9 c9]) 3 U U U U ea U U U) ?_;rintro _ _ rfl;refine bB W ?_;refine gM ?_;refine az ?_;refine cn W _ (ai _) ?_;refine zR 0 U (aA (us:=[O A7 n7 c7,O A9 n9 c9]) 3 U U cJ U) ?_;refine zR 1 U (aA (us:=[O A7 n7 c7,O A9 n9 c9]) 3 U U cJ U) ?_;refine zE 2 U (ax U) ?_;obtain ⟨y10,hy10,h⟩:=aa h;refine zD 3 U (ak (EX hy10) Pf U (hE (ar (i:=1) U) (hE (ar (i:=0) U) (hE (ad (i:=6) U U) ab))) BV) ?_;rintro _ _ ⟨_,⟨A11,n11,c11,rfl,rfl⟩,rfl⟩;refine bP (cS [1,2,3,4,5,6,7] 8) ?_;refine zE 4 U (dr U (GQ _ _ _ _ _ _ _ _ _)) ?_
 refine nA 5 U W W (aq (us:=[O A7 n7 c7,O A9 n9 c9,O A11 n11 c11]) (cs':=[O A7 n7 c7,O A9 n9 c9,O A11 n11 c11]) 3 U U U U EP U U U) ?_;rintro _ _ rfl;refine bB W ?_;refine D ?_;obtain rfl:=ao h;exact dt (rs:=[.cell 4 103]) (vs:=[.agg #[O A7 n7 c7,O A9 n9 c9,O A11 n11 c11]]) U (.cons (bZ 3 U U xg) .nil) U (cS [2,1,0] 8) ⟨_,_,_,_,_,_,_,_,_,U,U⟩
def xQ (N:Nat):Option Int:=
 some (-1)
def pi (N:Nat)(a1:Int)(a0:(List Int)):Nat→Int→Option Int
 |0,_=>none
 |m3+1,p4=>bif decide (p4<(a0.length:Int)) then ((aM a0 p4).bind fun x6=>bif decide (x6=a1) then (some p4) else (bD (in64 (p4+1)) ((pi N a1 a0 m3) (p4+1)))) else (xQ N)
def oz (N:Nat)(a0:(List Int))(a1:Int):Option Int:=
 pi N a1 a0 N 0
theorem xP {N:Nat}{a0:(List Int)}{a1:Int}{r:Int}(h:oz N a0 a1=some r):Okc Tryz.prog 167 [O A1 n1 c1,iV a1] ([dv A1 n1 c1 a0]) (fun u post=>u=iV r∧post=[]):=by
 refine bw Tryz.func167 U U ?_;simp only [aQ];refine D ?_;refine aO (fun s L=>xQ N=some r∧s=[(4,iV 0)]∧L=[]) ?_ ?_
 ·refine D ?_;refine bn (fun m s L=> ∃p4,pi N a1 a0 m p4=some r∧s=[(0,O A1 n1 c1),(1,iV a1),(4,iV 0),(5,iV p4)]∧L=[dv A1 n1 c1 a0]) N _ _ ⟨0,h,U,U⟩ sA (cS [0] 1) ?_;rintro (_|m3) _ _ ⟨p4,h,rfl,rfl⟩
  ·exact aB h
  rw [pi.eq_2] at h;refine az ?_;refine D ?_;refine gR (aK 0 U aj U QW) ?_;refine D ?_;refine av U (fun g5=> ?_) (fun g5=> ?_)
  ·replace h:=ag g5 h;refine D ?_;refine az ?_;refine D ?_;obtain ⟨x6,hx6,h⟩:=aa h;obtain ⟨lx6,ux6,hx6⟩:=au hx6;refine gR (aH 0 U aj U U QW dh lx6 ux6) ?_;refine gR (aY (u:=iV x6) 0 U aj U hx6 cZ (fun _ _ _ h=>by rw [show _=_ from h];rfl)) ?_;refine D ?_;refine av U (fun g7=> ?_) (fun g7=> ?_)
   ·replace h:=ag g7 h;refine D ?_;obtain rfl:=ao h;exact aC U U (cS [] 1) ⟨U,U⟩
   replace h:=ah g7 h;refine D ?_;obtain ⟨q8,h⟩:=ap h;refine gE (aW U U q8.1 q8.2) ?_;refine D ?_;exact ⟨m3,_,_,Rm _,⟨p4+1,h,U,U⟩,sA,cS [0] 1⟩
  replace h:=ah g5 h;refine D ?_;exact ⟨_,_,⟨h,U,U⟩,sA,cS [] 1⟩
 rintro _ _ ⟨h,rfl,rfl⟩;refine D ?_;obtain rfl:=ao h;exact aC U U (cS [] 0) ⟨U,U⟩
theorem uu {r:Int}: ∀v post,((fun (u:Value) (post:List Chunk)=>u=iV r∧post=[])) v post→ ∀c∈post,cg c:=by
 rintro _ _ ⟨rfl,rfl⟩;exact ab
def uq (N:Nat):Option Bool:=
 some true
def kN (N:Nat)(a1:(List Q5))(a3:(List Q5))(a0:Q9)(a2:Q9):Nat→Int→Option Bool
 |0,_=>none
 |m13+1,p14=>bif decide (p14<(a1.length:Int)) then ((aM a1 p14).bind fun x16=>(bif decide (x16.Kind=7) then (some true) else ((aM a1 p14).bind fun x18=>some (decide (x18.Kind=9)))).bind fun b17=>(bif !b17 then ((aM a1 p14).bind fun x20=>(aM a3 p14).bind fun x21=>some (!decide (x20=x21))) else (some false)).bind fun b19=>bif b19 then (some false) else ((bif b17 then ((aM a1 p14).bind fun x24=>(aM a3 p14).bind fun x25=>(bif !decide (x24.Kind=x25.Kind) then (some true) else ((aM a1 p14).bind fun x27=>(aM a3 p14).bind fun x28=>some (!(x27.S.toList==x28.S.toList)))).bind fun b26=>(bif b26 then (some true) else ((aM a1 p14).bind fun x30=>(aM a3 p14).bind fun x31=>(lm N a0.M x30.N).bind fun y32=>(lm N a2.M x31.N).bind fun y33=>some (!(y32==y33)))).bind fun b29=>some b29) else (some false)).bind fun b23=>bif b23 then (some false) else ((bif b17 then ((aM a1 p14).bind fun x36=>(lm N a0.M x36.N).bind fun y37=>some y37) else (some false)).bind fun b35=>(bif b35 then ((aM a1 p14).bind fun x39=>(aM a3 p14).bind fun x40=>(oz N a0.Order x39.N).bind fun y41=>(oz N a2.Order x40.N).bind fun y42=>some (!decide (y41=y42))) else (some false)).bind fun b38=>bif b38 then (some false) else (bD (in64 (p14+1)) ((kN N a1 a3 a0 a2 m13) (p14+1)))))) else (uq N)
def il (N:Nat)(a0:Q9)(a1:(List Q5))(a2:Q9)(a3:(List Q5)):Option Bool:=
 bif !decide ((a1.length:Int)=(a3.length:Int)) then (some false) else (kN N a1 a3 a0 a2 N 0)
set_option maxHeartbeats 4000000 in
theorem rG {N:Nat}{a0:Q9}{a1:(List Q5)}{a2:Q9}{a3:(List Q5)}{r:Bool}(h:il N a0 a1 a2 a3=some r):Okc Tryz.prog 82 [.agg #[O A1 n1 c1,O A2 n2 c2,O A3 n3 c3],O A4 n4 c4,.agg #[O A5 n5 c5,O A6 n6 c6,O A7 n7 c7],O A8 n8 c8] ([bz A1 n1 c1 a0.M.Young,bz A2 n2 c2 a0.M.Old,dv A3 n3 c3 a0.Order,bm A4 n4 c4 a1,bz A5 n5 c5 a2.M.Young,bz A6 n6 c6 a2.M.Old,dv A7 n7 c7 a2.Order,bm A8 n8 c8 a3]) (fun u post=>u=.bool r∧post=[]):=by
 refine bw Tryz.func82 U U ?_;simp only [aQ];refine D ?_;refine gD (bd U U) ?_;rintro _ _ ⟨B9,rfl,rfl⟩;refine gD (bd U U) ?_;rintro _ _ ⟨B10,rfl,rfl⟩;refine D ?_;refine az ?_;refine D ?_;refine gR (aK 5 U aj U hU) ?_;refine D ?_;refine gR (aK 9 U aj U hU) ?_;refine D ?_;refine av U (fun g11=> ?_) (fun g11=> ?_)
 ·replace h:=ag g11 h;refine D ?_;obtain rfl:=ao h;exact aC U U (cS [] 10) ⟨U,U⟩
 replace h:=ah g11 h;refine D ?_;refine aO (fun s L=>uq N=some r∧s=[(8,.bool false)]∧L=[]) ?_ ?_
 ·refine D ?_;refine bn (fun m s L=> ∃p14,kN N a1 a3 a0 a2 m p14=some r∧s=[(1,O A4 n4 c4),(3,O A8 n8 c8),(4,pV B9 0),(6,pV B10 0),(8,.bool false),(9,iV p14)]∧L=[bm A4 n4 c4 a1,bm A8 n8 c8 a3,bz A1 n1 c1 a0.M.Young,bz A2 n2 c2 a0.M.Old,dv A3 n3 c3 a0.Order,ay B9 103 [O A1 n1 c1,O A2 n2 c2,O A3 n3 c3],bz A5 n5 c5 a2.M.Young,bz A6 n6 c6 a2.M.Old,dv A7 n7 c7 a2.Order,ay B10 103 [O A5 n5 c5,O A6 n6 c6,O A7 n7 c7]]) N _ _ ⟨0,h,U,U⟩ sA (cS [5,9,2,3,4,1,6,7,8,0] 10) ?_;rintro (_|m13) _ _ ⟨p14,h,rfl,rfl⟩
  ·exact aB h
  rw [kN.eq_2] at h;refine az ?_;refine D ?_;refine gR (aK 0 U aj U hU) ?_;refine D ?_;refine av U (fun g15=> ?_) (fun g15=> ?_)
  ·replace h:=ag g15 h;refine D ?_;refine az ?_;refine D ?_;obtain ⟨x16,hx16,h⟩:=aa h;obtain ⟨lx16,ux16,hx16⟩:=au hx16;refine gR (aH 0 U aj U U hU aP lx16 ux16) ?_;refine gR (lE 0 U aj U (bo lx16 ux16) fw) ?_;refine gR (aY (u:=iV x16.Kind) 0 U aj U hx16 cZ (fun _ _ _ h=>by rw [show _=_ from h];rfl)) ?_;refine D ?_;obtain ⟨b17,hb17,h⟩:=aa h;refine aE 7 35 b17 ?_ ?_
   ·clear h;refine aD 28 U (fun g17=> ?_) (fun g17=> ?_)
    ·have h:=ag g17 hb17;refine D ?_;obtain rfl:=ao h;exact ac sA (cS [0,1,2,3,4,5,6,7,8,9] 10)
    have h:=ah g17 hb17;refine D ?_;obtain ⟨x18,hx18,h⟩:=aa h;obtain ⟨lx18,ux18,hx18⟩:=au hx18;refine bI (aH 0 U aj U U hU aP lx18 ux18) U (bV g17 U) U ?_;refine bI (lE 0 U aj U (bo lx18 ux18) fw) U (bV g17 U) U ?_;refine bI (aY (u:=iV x18.Kind) 0 U aj U hx18 cZ (fun _ _ _ h=>by rw [show _=_ from h];rfl)) U (bV g17 U) U ?_;refine D ?_;obtain rfl:=ao h;exact ac sA (cS [0,1,2,3,4,5,6,7,8,9] 10)
   refine D ?_;refine az ?_;refine az ?_;refine cn W _ (ai _) ?_;refine zE 0 U (ax U) ?_;refine zE 1 U (xa U) ?_;refine zE 2 U (ax U) ?_;obtain ⟨b19,hb19,h⟩:=aa h;refine iH (fun l=>((((((((((l.setIfInBounds 3 true).setIfInBounds 4 true).setIfInBounds 5 true).setIfInBounds 6 true).setIfInBounds 7 true).setIfInBounds 8 true).setIfInBounds 9 true).setIfInBounds 10 true).setIfInBounds 11 true).setIfInBounds 12 true)) 0 48 b19 (fun rest=> ?_) ?_
   ·clear h;refine jK 38 U (fun g19=> ?_) (fun g19=> ?_)
    ·have h:=ag g19 hb19;refine cK 3 U W (ax U) (aU g19 U) U ?_;refine cK 4 U W (ax U) (aU g19 U) U ?_;obtain ⟨x20,hx20,h⟩:=aa h;obtain ⟨lx20,ux20,hx20⟩:=au hx20;refine dw 5 U W (aH 0 U aj U U hU aP lx20 ux20) (aU g19 U) U ?_;refine dw 6 U W (bp (us:=[iV x20.Kind,iV x20.N,.string x20.S]) 0 U aj U hx20 bW (fun _ _ _ h=>by rw [show _=_ from h];rfl)) (aU g19 U) U ?_;refine cK 7 U W (ax U) (aU g19 U) U ?_;refine cK 8 U W (ax U) (aU g19 U) U ?_;obtain ⟨x21,hx21,h⟩:=aa h;obtain ⟨lx21,ux21,hx21⟩:=au hx21;refine dw 9 U W (aH 1 U aj U U hU aP lx21 ux21) (aU g19 U) U ?_;refine dw 10 U W (bp (us:=[iV x21.Kind,iV x21.N,.string x21.S]) 1 U aj U hx21 bW (fun _ _ _ h=>by rw [show _=_ from h];rfl)) (aU g19 U) U ?_;refine cK 11 U W (D9 (x:=x20) (y:=x21) U U) (aU g19 U) U ?_;refine zE 12 U (dL g19 U U) ?_;obtain rfl:=ao h;exact eV rest (cp U (ae (ae (ae (ae (ae (ae (ae (ae (ae (ae bv U) U) U) U) U) U) U) U) U) U)) (ai _) (ai _)
    have h:=ah g19 hb19;refine bi 3 U W (ee g19 U) U ?_;refine bi 4 U W (ee g19 U) U ?_;refine bi 5 U W (ee g19 U) U ?_;refine bi 6 U W (ee g19 U) U ?_;refine bi 7 U W (ee g19 U) U ?_;refine bi 8 U W (ee g19 U) U ?_;refine bi 9 U W (ee g19 U) U ?_;refine bi 10 U W (ee g19 U) U ?_;refine bi 11 U W (ee g19 U) U ?_;refine zE 12 U (dM g19 U U) ?_;obtain rfl:=ao h;exact eV rest (cp U (ae (ae (ae (ae (ae (ae (ae (ae (ae (ae bv U) U) U) U) U) U) U) U) U) U)) (ai _) (ai _)
   refine bB W ?_;refine gM ?_;refine av U (fun g22=> ?_) (fun g22=> ?_)
   ·replace h:=ag g22 h;refine D ?_;obtain rfl:=ao h;exact aC U U (cS [] 10) ⟨U,U⟩
   replace h:=ah g22 h;refine D ?_;refine az ?_;refine az ?_;refine cn W _ (ai _) ?_;refine zE 0 U (ax U) ?_;refine zE 1 U (ax U) ?_;obtain ⟨b23,hb23,h⟩:=aa h;refine iH (fun l=>((((((((((((((((((((((((((((((((((((((((((((l.setIfInBounds 2 true).setIfInBounds 3 true).setIfInBounds 4 true).setIfInBounds 5 true).setIfInBounds 6 true).setIfInBounds 7 true).setIfInBounds 8 true).setIfInBounds 9 true).setIfInBounds 10 true).setIfInBounds 11 true).setIfInBounds 12 true).setIfInBounds 13 true).setIfInBounds 14 true).setIfInBounds 15 true).setIfInBounds 16 true).setIfInBounds 17 true).setIfInBounds 18 true).setIfInBounds 19 true).setIfInBounds 20 true).setIfInBounds 21 true).setIfInBounds 22 true).setIfInBounds 23 true).setIfInBounds 24 true).setIfInBounds 25 true).setIfInBounds 26 true).setIfInBounds 27 true).setIfInBounds 28 true).setIfInBounds 29 true).setIfInBounds 30 true).setIfInBounds 31 true).setIfInBounds 32 true).setIfInBounds 33 true).setIfInBounds 35 true).setIfInBounds 36 true).setIfInBounds 37 true).setIfInBounds 38 true).setIfInBounds 39 true).setIfInBounds 40 true).setIfInBounds 41 true).setIfInBounds 34 true).setIfInBounds 42 true).setIfInBounds 43 true).setIfInBounds 44 true).setIfInBounds 45 true)) 0 94 b23 (fun rest=> ?_) ?_
   ·clear h;refine jK 50 U (fun g23=> ?_) (fun g23=> ?_)
    ·have h:=ag g23 hb23;refine cK 2 U W (ax U) (aU g23 U) U ?_;refine cK 3 U W (ax U) (aU g23 U) U ?_;obtain ⟨x24,hx24,h⟩:=aa h;obtain ⟨lx24,ux24,hx24⟩:=au hx24;refine dw 4 U W (aH 0 U aj U U hU aP lx24 ux24) (aU g23 U) U ?_;refine dw 5 U W (lE 0 U aj U (bo lx24 ux24) fw) (aU g23 U) U ?_;refine dw 6 U W (aY (u:=iV x24.Kind) 0 U aj U hx24 cZ (fun _ _ _ h=>by rw [show _=_ from h];rfl)) (aU g23 U) U ?_;refine cK 7 U W (ax U) (aU g23 U) U ?_;refine cK 8 U W (ax U) (aU g23 U) U ?_;obtain ⟨x25,hx25,h⟩:=aa h;obtain ⟨lx25,ux25,hx25⟩:=au hx25;refine dw 9 U W (aH 1 U aj U U hU aP lx25 ux25) (aU g23 U) U ?_;refine dw 10 U W (lE 1 U aj U (bo lx25 ux25) fw) (aU g23 U) U ?_;refine dw 11 U W (aY (u:=iV x25.Kind) 1 U aj U hx25 cZ (fun _ _ _ h=>by rw [show _=_ from h];rfl)) (aU g23 U) U ?_;refine cK 12 U W (Ec U U) (aU g23 U) U ?_;refine cK 13 U W (ax U) (aU g23 U) U ?_;obtain ⟨b26,hb26,h⟩:=aa h
     refine iH (fun l=>((((((((((((l.setIfInBounds 14 true).setIfInBounds 15 true).setIfInBounds 16 true).setIfInBounds 17 true).setIfInBounds 18 true).setIfInBounds 19 true).setIfInBounds 20 true).setIfInBounds 21 true).setIfInBounds 22 true).setIfInBounds 23 true).setIfInBounds 24 true).setIfInBounds 25 true)) 20 74 b26 (fun rest=> ?_) ?_
     ·clear h;refine jK 62 U (fun g26=> ?_) (fun g26=> ?_)
      ·have h:=ag g26 hb26;refine bi 14 U W (fQ g26 U) U ?_;refine bi 15 U W (fQ g26 U) U ?_;refine bi 16 U W (fQ g26 U) U ?_;refine bi 17 U W (fQ g26 U) U ?_;refine bi 18 U W (fQ g26 U) U ?_;refine bi 19 U W (fQ g26 U) U ?_;refine bi 20 U W (fQ g26 U) U ?_;refine bi 21 U W (fQ g26 U) U ?_;refine bi 22 U W (fQ g26 U) U ?_;refine bi 23 U W (fQ g26 U) U ?_;refine bi 24 U W (fQ g26 U) U ?_;refine cK 25 U W (dL g26 U U) (aU g23 U) U ?_;obtain rfl:=ao h;exact eV rest (cp U (ae (ae (ae (ae (ae (ae (ae (ae (ae (ae (ae (ae bv U) U) U) U) U) U) U) U) U) U) U) U)) (ai _) (ai _)
      have h:=ah g26 hb26;refine cK 14 U W (ax U) (bV g26 U) U ?_;refine cK 15 U W (ax U) (bV g26 U) U ?_;obtain ⟨x27,hx27,h⟩:=aa h;obtain ⟨lx27,ux27,hx27⟩:=au hx27;refine dw 16 U W (aH 0 U aj U U hU aP lx27 ux27) (bV g26 U) U ?_;refine dw 17 U W (kM 0 U aj U (bo lx27 ux27) Fn) (bV g26 U) U ?_;refine dw 18 U W (aY (u:=.string x27.S) 0 U aj U hx27 ON (fun _ _ _ h=>by rw [show _=_ from h];rfl)) (bV g26 U) U ?_;refine cK 19 U W (ax U) (bV g26 U) U ?_;refine cK 20 U W (ax U) (bV g26 U) U ?_;obtain ⟨x28,hx28,h⟩:=aa h;obtain ⟨lx28,ux28,hx28⟩:=au hx28;refine dw 21 U W (aH 1 U aj U U hU aP lx28 ux28) (bV g26 U) U ?_;refine dw 22 U W (kM 1 U aj U (bo lx28 ux28) Fn) (bV g26 U) U ?_;refine dw 23 U W (aY (u:=.string x28.S) 1 U aj U hx28 ON (fun _ _ _ h=>by rw [show _=_ from h];rfl)) (bV g26 U) U ?_;refine cK 24 U W (CS U U) (bV g26 U) U ?_;refine cK 25 U W (dM g26 U U) (aU g23 U) U ?_;obtain rfl:=ao h;exact eV rest (cp U (ae (ae (ae (ae (ae (ae (ae (ae (ae (ae (ae (ae bv U) U) U) U) U) U) U) U) U) U) U) U)) (ai _) (ai _)
     refine cK 26 U W (ax U) (aU g23 U) U ?_;obtain ⟨b29,hb29,h⟩:=aa h;refine iH (fun l=>((((((((((((((((((l.setIfInBounds 27 true).setIfInBounds 28 true).setIfInBounds 29 true).setIfInBounds 30 true).setIfInBounds 31 true).setIfInBounds 32 true).setIfInBounds 33 true).setIfInBounds 35 true).setIfInBounds 36 true).setIfInBounds 37 true).setIfInBounds 38 true).setIfInBounds 39 true).setIfInBounds 40 true).setIfInBounds 41 true).setIfInBounds 34 true).setIfInBounds 42 true).setIfInBounds 43 true).setIfInBounds 44 true)) 1 93 b29 (fun rest=> ?_) ?_
     ·clear h;refine jK 75 U (fun g29=> ?_) (fun g29=> ?_)
      ·have h:=ag g29 hb29;refine bi 27 U W (fQ g29 U) U ?_;refine bi 28 U W (fQ g29 U) U ?_;refine bi 29 U W (fQ g29 U) U ?_;refine bi 30 U W (fQ g29 U) U ?_;refine bi 31 U W (fQ g29 U) U ?_;refine bi 32 U W (fQ g29 U) U ?_;refine bi 33 U W (fQ g29 U) U ?_;refine bi 35 U W (fQ g29 U) U ?_;refine bi 36 U W (fQ g29 U) U ?_;refine bi 37 U W (fQ g29 U) U ?_;refine bi 38 U W (fQ g29 U) U ?_;refine bi 39 U W (fQ g29 U) U ?_;refine bi 40 U W (fQ g29 U) U ?_;refine bi 41 U W (fQ g29 U) U ?_;refine bi 34 U W (fQ g29 U) U ?_;refine bi 42 U W (fQ g29 U) U ?_;refine bi 43 U W (fQ g29 U) U ?_;refine cK 44 U W (dL g29 U U) (aU g23 U) U ?_;obtain rfl:=ao h;exact eV rest (cp U (ae (ae (ae (ae (ae (ae (ae (ae (ae (ae (ae (ae (ae (ae (ae (ae (ae (ae bv U) U) U) U) U) U) U) U) U) U) U) U) U) U) U) U) U) U)) (ai _) (ai _)
      have h:=ah g29 hb29;refine cK 27 U W (dC U sy) (bV g29 U) U ?_;refine dw 28 U W (aA (us:=[O A1 n1 c1,O A2 n2 c2]) 5 U U cJ U) (bV g29 U) U ?_;refine cK 29 U W (ax U) (bV g29 U) U ?_;refine cK 30 U W (ax U) (bV g29 U) U ?_;obtain ⟨x30,hx30,h⟩:=aa h;obtain ⟨lx30,ux30,hx30⟩:=au hx30;refine dw 31 U W (aH 0 U aj U U hU aP lx30 ux30) (bV g29 U) U ?_;refine dw 32 U W (kM 0 U aj U (bo lx30 ux30) i4) (bV g29 U) U ?_;refine dw 33 U W (aY (u:=iV x30.N) 0 U aj U hx30 cZ (fun _ _ _ h=>by rw [show _=_ from h];rfl)) (bV g29 U) U ?_;refine cK 35 U W (dC U sy) (bV g29 U) U ?_;refine dw 36 U W (aA (us:=[O A5 n5 c5,O A6 n6 c6]) 9 U U cJ U) (bV g29 U) U ?_;refine cK 37 U W (ax U) (bV g29 U) U ?_;refine cK 38 U W (ax U) (bV g29 U) U ?_;obtain ⟨x31,hx31,h⟩:=aa h;obtain ⟨lx31,ux31,hx31⟩:=au hx31;refine dw 39 U W (aH 1 U aj U U hU aP lx31 ux31) (bV g29 U) U ?_;refine dw 40 U W (kM 1 U aj U (bo lx31 ux31) i4) (bV g29 U) U ?_;refine dw 41 U W (aY (u:=iV x31.N) 1 U aj U hx31 cZ (fun _ _ _ h=>by rw [show _=_ from h];rfl)) (bV g29 U) U ?_;obtain ⟨y32,hy32,h⟩:=aa h
      refine nz 34 U W (ak (pR hy32) C3 U (hE (ad (i:=2) U U) (hE (ad (i:=3) U U) ab)) mT) U (bV g29 U) U ?_;rintro _ _ ⟨_,⟨rfl,rfl⟩,rfl⟩;refine ⟨_,ai _,ai _,?_⟩;obtain ⟨y33,hy33,h⟩:=aa h;refine nz 42 U W (ak (pR hy33) C3 U (hE (ad (i:=6) U U) (hE (ad (i:=7) U U) ab)) mT) U (bV g29 U) U ?_;rintro _ _ ⟨_,⟨rfl,rfl⟩,rfl⟩;refine ⟨_,ai _,ai _,?_⟩;refine cK 43 U W (O1 U U QT) (bV g29 U) U ?_;refine cK 44 U W (dM g29 U U) (aU g23 U) U ?_;obtain rfl:=ao h;exact eV rest (cp U (ae (ae (ae (ae (ae (ae (ae (ae (ae (ae (ae (ae (ae (ae (ae (ae (ae (ae bv U) U) U) U) U) U) U) U) U) U) U) U) U) U) U) U) U) U)) (ai _) (ai _)
     refine zE 45 U (dL g23 U U) ?_;obtain rfl:=ao h;exact eV rest (cp U (ae (ae (ae (ae (ae (ae (ae (ae (ae (ae (ae (ae (ae (ae (ae (ae bv U) U) U) U) U) U) U) U) U) U) U) U) U) U) U) U)) (ai _) (ai _)
    have h:=ah g23 hb23;refine bi 2 U W (ee g23 U) U ?_;refine bi 3 U W (ee g23 U) U ?_;refine bi 4 U W (ee g23 U) U ?_;refine bi 5 U W (ee g23 U) U ?_;refine bi 6 U W (ee g23 U) U ?_;refine bi 7 U W (ee g23 U) U ?_;refine bi 8 U W (ee g23 U) U ?_;refine bi 9 U W (ee g23 U) U ?_;refine bi 10 U W (ee g23 U) U ?_;refine bi 11 U W (ee g23 U) U ?_;refine bi 12 U W (ee g23 U) U ?_;refine bi 13 U W (ee g23 U) U ?_;refine zU 14 U ?_;refine zU 15 U ?_;refine zU 16 U ?_;refine zU 17 U ?_;refine zU 18 U ?_;refine zU 19 U ?_;refine zU 20 U ?_;refine zU 21 U ?_;refine zU 22 U ?_;refine zU 23 U ?_;refine zU 24 U ?_;refine bi 25 U W (ee g23 U) U ?_;refine bi 26 U W (ee g23 U) U ?_;refine zU 27 U ?_;refine zU 28 U ?_;refine zU 29 U ?_;refine zU 30 U ?_;refine zU 31 U ?_;refine zU 32 U ?_;refine zU 33 U ?_;refine zU 35 U ?_;refine zU 36 U ?_;refine zU 37 U ?_;refine zU 38 U ?_;refine zU 39 U ?_;refine zU 40 U ?_;refine zU 41 U ?_;refine zU 34 U ?_;refine zU 42 U ?_;refine zU 43 U ?_;refine bi 44 U W (ee g23 U) U ?_;refine zE 45 U (dM g23 U U) ?_;obtain rfl:=ao h
    exact eV rest (cp U (ae (ae (ae (ae (ae (ae (ae (ae (ae (ae (ae (ae (ae (ae (ae (ae (ae (ae (ae (ae (ae (ae (ae (ae (ae (ae (ae (ae (ae (ae (ae (ae (ae (ae (ae (ae (ae (ae (ae (ae (ae (ae (ae (ae bv U) U) U) U) U) U) U) U) U) U) U) U) U) U) U) U) U) U) U) U) U) U) U) U) U) U) U) U) U) U) U) U) U) U) U) U) U) U) U) U) U) U) U) U)) (ai _) (ai _)
   refine bB W ?_;refine gM ?_;refine av U (fun g34=> ?_) (fun g34=> ?_)
   ·replace h:=ag g34 h;refine D ?_;obtain rfl:=ao h;exact aC U U (cS [] 10) ⟨U,U⟩
   replace h:=ah g34 h;refine D ?_;refine az ?_;refine cn W _ (ai _) ?_;refine zE 0 U (ax U) ?_;refine zE 1 U (ax U) ?_;obtain ⟨b35,hb35,h⟩:=aa h;refine iH (fun l=>(((((((((l.setIfInBounds 2 true).setIfInBounds 3 true).setIfInBounds 4 true).setIfInBounds 5 true).setIfInBounds 6 true).setIfInBounds 7 true).setIfInBounds 8 true).setIfInBounds 9 true).setIfInBounds 10 true)) 19 105 b35 (fun rest=> ?_) ?_
   ·clear h;refine jK 96 U (fun g35=> ?_) (fun g35=> ?_)
    ·have h:=ag g35 hb35;refine cK 2 U W (dC U sy) (aU g35 U) U ?_;refine dw 3 U W (aA (us:=[O A1 n1 c1,O A2 n2 c2]) 5 U U cJ U) (aU g35 U) U ?_;refine cK 4 U W (ax U) (aU g35 U) U ?_;refine cK 5 U W (ax U) (aU g35 U) U ?_;obtain ⟨x36,hx36,h⟩:=aa h;obtain ⟨lx36,ux36,hx36⟩:=au hx36;refine dw 6 U W (aH 0 U aj U U hU aP lx36 ux36) (aU g35 U) U ?_;refine dw 7 U W (kM 0 U aj U (bo lx36 ux36) i4) (aU g35 U) U ?_;refine dw 8 U W (aY (u:=iV x36.N) 0 U aj U hx36 cZ (fun _ _ _ h=>by rw [show _=_ from h];rfl)) (aU g35 U) U ?_;obtain ⟨y37,hy37,h⟩:=aa h;refine nz 9 U W (ak (pR hy37) C3 U (hE (ad (i:=2) U U) (hE (ad (i:=3) U U) ab)) mT) U (aU g35 U) U ?_;rintro _ _ ⟨_,⟨rfl,rfl⟩,rfl⟩;refine ⟨_,ai _,ai _,?_⟩;refine zE 10 U (dL g35 U U) ?_;obtain rfl:=ao h;exact eV rest (cp U (ae (ae (ae (ae (ae (ae (ae (ae (ae bv U) U) U) U) U) U) U) U) U)) (ai _) (ai _)
    have h:=ah g35 hb35;refine bi 2 U W (ee g35 U) U ?_;refine bi 3 U W (ee g35 U) U ?_;refine bi 4 U W (ee g35 U) U ?_;refine bi 5 U W (ee g35 U) U ?_;refine bi 6 U W (ee g35 U) U ?_;refine bi 7 U W (ee g35 U) U ?_;refine bi 8 U W (ee g35 U) U ?_;refine bi 9 U W (ee g35 U) U ?_;refine zE 10 U (dM g35 U U) ?_;obtain rfl:=ao h;exact eV rest (cp U (ae (ae (ae (ae (ae (ae (ae (ae (ae bv U) U) U) U) U) U) U) U) U)) (ai _) (ai _)
   refine zE 11 U (ax U) ?_;obtain ⟨b38,hb38,h⟩:=aa h;refine iH (fun l=>((((((((((((((((((l.setIfInBounds 12 true).setIfInBounds 13 true).setIfInBounds 14 true).setIfInBounds 15 true).setIfInBounds 16 true).setIfInBounds 17 true).setIfInBounds 18 true).setIfInBounds 20 true).setIfInBounds 21 true).setIfInBounds 22 true).setIfInBounds 23 true).setIfInBounds 24 true).setIfInBounds 25 true).setIfInBounds 26 true).setIfInBounds 19 true).setIfInBounds 27 true).setIfInBounds 28 true).setIfInBounds 29 true)) 0 124 b38 (fun rest=> ?_) ?_
   ·clear h;refine jK 106 U (fun g38=> ?_) (fun g38=> ?_)
    ·have h:=ag g38 hb38;refine cK 12 U W (bX U qm) (aU g38 U) U ?_;refine dw 13 U W (bc 5 U U iR U) (aU g38 U) U ?_;refine cK 14 U W (ax U) (aU g38 U) U ?_;refine cK 15 U W (ax U) (aU g38 U) U ?_;obtain ⟨x39,hx39,h⟩:=aa h;obtain ⟨lx39,ux39,hx39⟩:=au hx39;refine dw 16 U W (aH 0 U aj U U hU aP lx39 ux39) (aU g38 U) U ?_;refine dw 17 U W (kM 0 U aj U (bo lx39 ux39) i4) (aU g38 U) U ?_;refine dw 18 U W (aY (u:=iV x39.N) 0 U aj U hx39 cZ (fun _ _ _ h=>by rw [show _=_ from h];rfl)) (aU g38 U) U ?_;refine cK 20 U W (bX U qm) (aU g38 U) U ?_;refine dw 21 U W (bc 9 U U iR U) (aU g38 U) U ?_;refine cK 22 U W (ax U) (aU g38 U) U ?_;refine cK 23 U W (ax U) (aU g38 U) U ?_;obtain ⟨x40,hx40,h⟩:=aa h;obtain ⟨lx40,ux40,hx40⟩:=au hx40;refine dw 24 U W (aH 1 U aj U U hU aP lx40 ux40) (aU g38 U) U ?_;refine dw 25 U W (kM 1 U aj U (bo lx40 ux40) i4) (aU g38 U) U ?_;refine dw 26 U W (aY (u:=iV x40.N) 1 U aj U hx40 cZ (fun _ _ _ h=>by rw [show _=_ from h];rfl)) (aU g38 U) U ?_;obtain ⟨y41,hy41,h⟩:=aa h;refine nz 19 U W (ak (xP hy41) IP U (hE (ad (i:=4) U U) ab) uu) U (aU g38 U) U ?_
     rintro _ _ ⟨_,⟨rfl,rfl⟩,rfl⟩;refine ⟨_,ai _,ai _,?_⟩;obtain ⟨y42,hy42,h⟩:=aa h;refine nz 27 U W (ak (xP hy42) IP U (hE (ad (i:=8) U U) ab) uu) U (aU g38 U) U ?_;rintro _ _ ⟨_,⟨rfl,rfl⟩,rfl⟩;refine ⟨_,ai _,ai _,?_⟩;refine cK 28 U W (Ec U U) (aU g38 U) U ?_;refine zE 29 U (dL g38 U U) ?_;obtain rfl:=ao h;exact eV rest (cp U (ae (ae (ae (ae (ae (ae (ae (ae (ae (ae (ae (ae (ae (ae (ae (ae (ae (ae bv U) U) U) U) U) U) U) U) U) U) U) U) U) U) U) U) U) U)) (ai _) (ai _)
    have h:=ah g38 hb38;refine bi 12 U W (ee g38 U) U ?_;refine bi 13 U W (ee g38 U) U ?_;refine bi 14 U W (ee g38 U) U ?_;refine bi 15 U W (ee g38 U) U ?_;refine bi 16 U W (ee g38 U) U ?_;refine bi 17 U W (ee g38 U) U ?_;refine bi 18 U W (ee g38 U) U ?_;refine bi 20 U W (ee g38 U) U ?_;refine bi 21 U W (ee g38 U) U ?_;refine bi 22 U W (ee g38 U) U ?_;refine bi 23 U W (ee g38 U) U ?_;refine bi 24 U W (ee g38 U) U ?_;refine bi 25 U W (ee g38 U) U ?_;refine bi 26 U W (ee g38 U) U ?_;refine bi 19 U W (ee g38 U) U ?_;refine bi 27 U W (ee g38 U) U ?_;refine bi 28 U W (ee g38 U) U ?_;refine zE 29 U (dM g38 U U) ?_;obtain rfl:=ao h;exact eV rest (cp U (ae (ae (ae (ae (ae (ae (ae (ae (ae (ae (ae (ae (ae (ae (ae (ae (ae (ae bv U) U) U) U) U) U) U) U) U) U) U) U) U) U) U) U) U) U)) (ai _) (ai _)
   refine bB W ?_;refine gM ?_;refine av U (fun g43=> ?_) (fun g43=> ?_)
   ·replace h:=ag g43 h;refine D ?_;obtain rfl:=ao h;exact aC U U (cS [] 10) ⟨U,U⟩
   replace h:=ah g43 h;refine D ?_;obtain ⟨q44,h⟩:=ap h;refine gE (aW U U q44.1 q44.2) ?_;refine D ?_;exact ⟨m13,_,_,Rm _,⟨p14+1,h,U,U⟩,sA,cS [0,1,2,3,4,5,6,7,8,9] 10⟩
  replace h:=ah g15 h;refine D ?_;exact ⟨_,_,⟨h,U,U⟩,sA,cS [] 10⟩
 rintro _ _ ⟨h,rfl,rfl⟩;refine D ?_;obtain rfl:=ao h;exact aC U U (cS [] 0) ⟨U,U⟩
theorem oS {r:Bool}: ∀v post,((fun (u:Value) (post:List Chunk)=>u=.bool r∧post=[])) v post→ ∀c∈post,cg c:=by
 rintro _ _ ⟨rfl,rfl⟩;exact ab
def pj (N:Nat)(a0:Ra):Option Ra:=
 bD (cc (([]:List Q5).length+a0.Slots.length)) (bD (cc (([]:List Q5).length+a0.More.length)) (some (⟨a0.Kind,a0.Shape,a0.Flags,a0.Age,([]:List Q5)++a0.Slots,([]:List Q5)++a0.More⟩:Ra)))
theorem Dk {N:Nat}{a0:Ra}{r:Ra}(h:pj N a0=some r):Okc Tryz.prog 241 [.agg #[iV a0.Kind,iV a0.Shape,iV a0.Flags,iV a0.Age,O A1 n1 c1,O A2 n2 c2]] ([bm A1 n1 c1 a0.Slots,bm A2 n2 c2 a0.More]) (fun u post=> ∃A0 n0 c0 A1 n1 c1,u=.agg #[iV r.Kind,iV r.Shape,iV r.Flags,iV r.Age,O A0 n0 c0,O A1 n1 c1]∧post=[bG A0 n0 c0 r.Slots,bG A1 n1 c1 r.More]):=by
 refine bw Tryz.func241 U U ?_;simp only [aQ];refine D ?_;refine gD (bd U U) ?_;rintro _ _ ⟨B3,rfl,rfl⟩;refine gD (aN dy U) ?_;rintro _ _ ⟨B4,rfl,rfl⟩;refine D ?_;refine gE (dr U (C4 _ _ _ _)) ?_;refine gD (aN dy U) ?_;rintro _ _ ⟨B5,rfl,rfl⟩;refine gO (aq (us:=[iV a0.Kind,iV a0.Shape,iV a0.Flags,iV a0.Age,O none 0 0,O none 0 0]) (cs':=[iV a0.Kind,iV a0.Shape,iV a0.Flags,iV a0.Age,O none 0 0,O none 0 0]) 0 U U U U bx U U U) ?_;rintro _ _ rfl;refine OK ?_;refine OL ?_;refine qB (bj aS 52 _) ?_;obtain ⟨q7,h⟩:=ap h;refine gD (bA 0 4 U U aj U U hU xi U U q7) ?_;rintro _ _ ⟨A8,n8,c8,rfl,rfl⟩;refine D ?_;refine gO (aq (us:=[O A8 n8 c8]) (cs':=[iV a0.Kind,iV a0.Shape,iV a0.Flags,iV a0.Age,O A8 n8 c8,O none 0 0]) 1 U U U U du U U U) ?_;rintro _ _ rfl;refine cq ?_;refine OK ?_;refine OL ?_;refine qB (bj aS 52 _) ?_;obtain ⟨q10,h⟩:=ap h;refine gD (bA 0 6 U U aj U U hU xi U U q10) ?_;rintro _ _ ⟨A11,n11,c11,rfl,rfl⟩;refine D ?_;refine gO (aq (us:=[O A11 n11 c11]) (cs':=[iV a0.Kind,iV a0.Shape,iV a0.Flags,iV a0.Age,O A8 n8 c8,O A11 n11 c11]) 2 U U U U du U U U) ?_;rintro _ _ rfl;refine D ?_;refine gR (aA (us:=[iV a0.Kind,iV a0.Shape,iV a0.Flags,iV a0.Age,O A8 n8 c8,O A11 n11 c11]) 2 U U be U) ?_
 refine gO (aq (us:=[iV a0.Kind,iV a0.Shape,iV a0.Flags,iV a0.Age,O A8 n8 c8,O A11 n11 c11]) (cs':=[iV a0.Kind,iV a0.Shape,iV a0.Flags,iV a0.Age,O A8 n8 c8,O A11 n11 c11]) 3 U U U U bx U U U) ?_;rintro _ _ rfl;refine cq ?_;refine D ?_;obtain rfl:=ao h;exact dt (rs:=[.cell 2 47]) (vs:=[.agg #[iV a0.Kind,iV a0.Shape,iV a0.Flags,iV a0.Age,O A8 n8 c8,O A11 n11 c11]]) U (.cons (bZ 3 U U be) .nil) U (cS [1,0] 7) ⟨_,_,_,_,_,_,U,U⟩
theorem AP {r:Ra}: ∀v post,((fun (u:Value) (post:List Chunk)=> ∃A0 n0 c0 A1 n1 c1,u=.agg #[iV r.Kind,iV r.Shape,iV r.Flags,iV r.Age,O A0 n0 c0,O A1 n1 c1]∧post=[bG A0 n0 c0 r.Slots,bG A1 n1 c1 r.More])) v post→ ∀c∈post,cg c:=by
 rintro _ _ ⟨_,_,_,_,_,_,rfl,rfl⟩;exact hE bH (hE bH (ab))
def oT (N:Nat)(y6:(Ra))(p11:(List Q5)):Option Ra:=
 some (⟨y6.Kind,y6.Shape,y6.Flags,y6.Age,y6.Slots,p11⟩:Ra)
def md (N:Nat)(kb12:Int→(List Q5)→Option Ra)(p13:Int)(a1:(List Bool))(a0:Ra)(y6:(Ra))(p18:(List Q5)):Option Ra:=
 bD (in64 (p13+1)) (kb12 (p13+1) p18)
def fZ (N:Nat)(a1:(List Bool))(a0:Ra)(y6:(Ra)):Nat→Int→(List Q5)→Option Ra
 |0,_,_=>none
 |m12+1,p13,p14=>bif decide (p13<(a1.length:Int)) then ((aM a1 p13).bind fun x19=>bif x19 then (bD (in64 (2*p13)) ((aM a0.More (2*p13)).bind fun x22=>bD (in64 (2*p13)) (bD (in64 ((2*p13)+1)) ((aM a0.More ((2*p13)+1)).bind fun x25=>bD (cc (p14.length+([x22,x25]:List Q5).length)) (md N (fZ N a1 a0 y6 m12) p13 a1 a0 y6 (p14++([x22,x25]:List Q5))))))) else (md N (fZ N a1 a0 y6 m12) p13 a1 a0 y6 p14)) else (oT N y6 p14)
def rI (N:Nat)(a0:Ra)(a1:(List Bool)):Option Ra:=
 (pj N a0).bind fun y6=>fZ N a1 a0 y6 N 0 []
theorem BZ {N:Nat}{a0:Ra}{a1:(List Bool)}{r:Ra}(h:rI N a0 a1=some r):Okc Tryz.prog 195 [.agg #[iV a0.Kind,iV a0.Shape,iV a0.Flags,iV a0.Age,O A1 n1 c1,O A2 n2 c2],O A3 n3 c3] ([bm A1 n1 c1 a0.Slots,bm A2 n2 c2 a0.More,rx xH (O A3 n3 c3) a1]) (fun u post=> ∃A0 n0 c0 A1 n1 c1,u=.agg #[iV r.Kind,iV r.Shape,iV r.Flags,iV r.Age,O A0 n0 c0,O A1 n1 c1]∧post=[bG A0 n0 c0 r.Slots,bG A1 n1 c1 r.More]):=by
 refine bw Tryz.func195 U U ?_;simp only [aQ];refine D ?_;refine gD (bd U U) ?_;rintro _ _ ⟨B4,rfl,rfl⟩;refine gD (aN dy U) ?_;rintro _ _ ⟨B5,rfl,rfl⟩;refine D ?_;refine gR (aA (us:=[iV a0.Kind,iV a0.Shape,iV a0.Flags,iV a0.Age,O A1 n1 c1,O A2 n2 c2]) 1 U U be U) ?_;obtain ⟨y6,hy6,h⟩:=aa h;refine gD (ak (Dk hy6) NA U (hE (ad (i:=2) U U) (hE (ad (i:=3) U U) ab)) AP) ?_;rintro _ _ ⟨_,⟨A7,n7,c7,A8,n8,c8,rfl,rfl⟩,rfl⟩;refine gD (aN dy U) ?_;rintro _ _ ⟨B9,rfl,rfl⟩;refine gO (aq (us:=[iV y6.Kind,iV y6.Shape,iV y6.Flags,iV y6.Age,O A7 n7 c7,O A8 n8 c8]) (cs':=[iV y6.Kind,iV y6.Shape,iV y6.Flags,iV y6.Age,O A7 n7 c7,O A8 n8 c8]) 0 U U U U bx U U U) ?_;rintro _ _ rfl;refine D ?_;refine gO (aq (us:=[O none 0 0]) (cs':=[iV y6.Kind,iV y6.Shape,iV y6.Flags,iV y6.Age,O A7 n7 c7,O none 0 0]) 0 U U U U du U U U) ?_;rintro _ _ rfl;refine D ?_;refine aO (fun s L=> ∃p11 A11 n11 c11,oT N y6 p11=some r∧s=[(4,pV B5 0),(5,pV B9 0)]∧L=[ay B5 47 [iV 0,iV 0,iV 0,iV 0,O none 0 0,O none 0 0],bG A7 n7 c7 y6.Slots,bG A11 n11 c11 p11,ay B9 47 [iV y6.Kind,iV y6.Shape,iV y6.Flags,iV y6.Age,O A7 n7 c7,O A11 n11 c11]]) ?_ ?_
 ·refine D ?_;refine bn (fun m s L=> ∃p13 p14 A14 n14 c14,fZ N a1 a0 y6 m p13 p14=some r∧s=[(1,O A3 n3 c3),(2,pV B4 0),(4,pV B5 0),(5,pV B9 0),(6,iV p13)]∧L=[rx xH (O A3 n3 c3) a1,bm A1 n1 c1 a0.Slots,bm A2 n2 c2 a0.More,ay B4 47 [iV a0.Kind,iV a0.Shape,iV a0.Flags,iV a0.Age,O A1 n1 c1,O A2 n2 c2],ay B5 47 [iV 0,iV 0,iV 0,iV 0,O none 0 0,O none 0 0],bG A7 n7 c7 y6.Slots,bG A14 n14 c14 p14,ay B9 47 [iV y6.Kind,iV y6.Shape,iV y6.Flags,iV y6.Age,O A7 n7 c7,O A14 n14 c14]]) N _ _ ⟨0,[],none,0,0,h,U,U⟩ sA ((bj aS 52 _).trans (cS [8,6,7,5,4,2,0,1] 9)) ?_;rintro (_|m12) _ _ ⟨p13,p14,A14,n14,c14,h,rfl,rfl⟩
  ·exact aB h
  rw [fZ.eq_2] at h;refine az ?_;refine D ?_;refine gR (aK 0 U aj U Q3) ?_;refine D ?_;refine av U (fun g16=> ?_) (fun g16=> ?_)
  ·replace h:=ag g16 h;refine D ?_;refine aO (fun s L=> ∃p18 A18 n18 c18,md N (fZ N a1 a0 y6 m12) p13 a1 a0 y6 p18=some r∧s=[(1,O A3 n3 c3),(2,pV B4 0),(4,pV B5 0),(5,pV B9 0),(6,iV p13)]∧L=[rx xH (O A3 n3 c3) a1,bm A1 n1 c1 a0.Slots,bm A2 n2 c2 a0.More,ay B4 47 [iV a0.Kind,iV a0.Shape,iV a0.Flags,iV a0.Age,O A1 n1 c1,O A2 n2 c2],ay B5 47 [iV 0,iV 0,iV 0,iV 0,O none 0 0,O none 0 0],bG A7 n7 c7 y6.Slots,bG A18 n18 c18 p18,ay B9 47 [iV y6.Kind,iV y6.Shape,iV y6.Flags,iV y6.Age,O A7 n7 c7,O A18 n18 c18]]) ?_ ?_
   ·refine D ?_;obtain ⟨x19,hx19,h⟩:=aa h;obtain ⟨lx19,ux19,hx19⟩:=au hx19;refine gR (aH 0 U aj U U Q3 wo lx19 ux19) ?_;refine gR (aY (u:=.bool x19) 0 U aj U hx19 Gc (fun _ _ _ h=>by rw [show _=_ from h];rfl)) ?_;refine D ?_;refine av U (fun g20=> ?_) (fun g20=> ?_)
    ·replace h:=ag g20 h;obtain ⟨q21,h⟩:=ap h;obtain ⟨x22,hx22,h⟩:=aa h;obtain ⟨lx22,ux22,hx22⟩:=au hx22;obtain ⟨q23,h⟩:=ap h;obtain ⟨q24,h⟩:=ap h;obtain ⟨x25,hx25,h⟩:=aa h;obtain ⟨lx25,ux25,hx25⟩:=au hx25;refine gT (t:=[(1,O A3 n3 c3),(2,pV B4 0),(4,pV B5 0),(5,pV B9 0),(6,iV p13)]) ?_ lP (ai _)
     refine i6 W 16 [] [1,15] [20,21,22,23,24,25,26,27,28,29,30,31,32,33,34,35] [[],[0],[],[2],[],[4],[3,5],[6],[],[8],[],[10],[11],[9,12],[13],[7,14]] [aV (pV B9 5),
 aV (O A14 n14 c14),
 aV (pV B4 5),
 aV (O A2 n2 c2),
 aV (iV p13),
 aV (iV (2*p13)),
 aV (ei (O A2 n2 c2) ((2*p13).toNat) 3 0),
 aV (.agg #[iV x22.Kind,iV x22.N,.string x22.S]),
 aV (pV B4 5),
 aV (O A2 n2 c2),
 aV (iV p13),
 aV (iV (2*p13)),
 aV (iV ((2*p13)+1)),
 aV (ei (O A2 n2 c2) (((2*p13)+1).toNat) 3 0),
 aV (.agg #[iV x25.Kind,iV x25.N,.string x25.S]),
 aX3 (fun (A27:Option Addr) (n27 c27:Nat)=> O A27 n27 c27) (fun A27 n27 c27=> [bG A27 n27 c27 ([x22,x25]:List Q5)])] [] (ai _) (lG) W rfl rfl ?_ ?_ ?_
     ·exact lF
     ·refine am U ?_ ?_
      ·refine oM (bN (R:=aS) (vss:=[[iV x22.Kind,iV x22.N,.string x22.S],[iV x25.Kind,iV x25.N,.string x25.S]]) (xs:=[x22,x25]) U (GN _ _ _ _ _ _) U U (fun _ _ hr=> .cons U (.cons U All2.nil))) U ?_;rintro _ _ ⟨A26,n26,c26,rfl,rfl⟩;exact AR A26 n26 c26 (ai _)
      refine am U ?_ ?_
      ·exact dO (bp (us:=[iV x25.Kind,iV x25.N,.string x25.S]) 2 U aj U hx25 bW (fun _ _ _ h=>by rw [show _=_ from h];rfl)) U (bu U (ai _))
      refine am U ?_ ?_
      ·exact dO (aH 2 U aj U U hU aP lx25 ux25) U (bu U (ai _))
      refine am U ?_ ?_
      ·exact cL (aW U U q24.1 q24.2) U (bu U (ai _))
      refine am U ?_ ?_
      ·exact cL (qo U U q23.1 q23.2) U (bu U (ai _))
      refine am U ?_ ?_
      ·exact cL (ax U) U (bu U (ai _))
      refine am U ?_ ?_
      ·exact dO (bc 3 U U dE U) U (bu U (ai _))
      refine am U ?_ ?_
      ·exact cL (bX U iE) U (bu U (ai _))
      refine am U ?_ ?_
      ·exact dO (bp (us:=[iV x22.Kind,iV x22.N,.string x22.S]) 2 U aj U hx22 bW (fun _ _ _ h=>by rw [show _=_ from h];rfl)) U (bu U (ai _))
      refine am U ?_ ?_
      ·exact dO (aH 2 U aj U U hU aP lx22 ux22) U (bu U (ai _))
      refine am U ?_ ?_
      ·exact cL (qo U U q21.1 q21.2) U (bu U (ai _))
      refine am U ?_ ?_
      ·exact cL (ax U) U (bu U (ai _))
      refine am U ?_ ?_
      ·exact dO (bc 3 U U dE U) U (bu U (ai _))
      refine am U ?_ ?_
      ·exact cL (bX U iE) U (bu U (ai _))
      refine am U ?_ ?_
      ·exact dO (bc 7 U U dE U) U (bu U (ai _))
      refine am U ?_ ?_
      ·exact cL (bX U iE) U (bu U (ai _))
      exact eX
     intro A27 n27 c27;refine lZ (t:=[(21,O A14 n14 c14),(35,O A27 n27 c27),(1,O A3 n3 c3),(2,pV B4 0),(4,pV B5 0),(5,pV B9 0),(6,iV p13)]) (L':=[bG A27 n27 c27 ([x22,x25]:List Q5),rx xH (O A3 n3 c3) a1,bm A1 n1 c1 a0.Slots,bm A2 n2 c2 a0.More,ay B4 47 [iV a0.Kind,iV a0.Shape,iV a0.Flags,iV a0.Age,O A1 n1 c1,O A2 n2 c2],ay B5 47 [iV 0,iV 0,iV 0,iV 0,O none 0 0,O none 0 0],bG A7 n7 c7 y6.Slots,bG A14 n14 c14 p14,ay B9 47 [iV y6.Kind,iV y6.Shape,iV y6.Flags,iV y6.Age,O A7 n7 c7,O A14 n14 c14]]) ?_ lP (ai _);obtain ⟨q28,h⟩:=ap h;refine qz 16 U W (bA 7 0 U U aF U U hU xi U U q28) U U U ?_;rintro _ _ ⟨A29,n29,c29,rfl,rfl⟩;refine DY ?_;refine AT 17 U W (bX U iE) U U U ?_;refine yU 18 U W (aq (us:=[O A29 n29 c29]) (cs':=[iV y6.Kind,iV y6.Shape,iV y6.Flags,iV y6.Age,O A7 n7 c7,O A29 n29 c29]) 8 U U U U du U U U) U U ?_;rintro _ _ rfl;refine lN W ?_;refine D ?_;exact ⟨_,_,⟨p14++([x22,x25]:List Q5),A29,n29,c29,h,U,U⟩,sA,cS [1,2,3,4,5,6,7,8] 9⟩
    replace h:=ah g20 h;refine D ?_;exact ⟨_,_,⟨p14,A14,n14,c14,h,U,U⟩,sA,cS [0,1,2,3,4,5,6,7] 8⟩
   rintro _ _ ⟨p18,A18,n18,c18,h,rfl,rfl⟩;refine D ?_;obtain ⟨q30,h⟩:=ap h;refine gE (aW U U q30.1 q30.2) ?_;refine D ?_;exact ⟨m12,_,_,Rm _,⟨p13+1,p18,A18,n18,c18,h,U,U⟩,sA,cS [0,1,2,3,4,5,6,7] 8⟩
  replace h:=ah g16 h;refine D ?_;exact ⟨_,_,⟨p14,A14,n14,c14,h,U,U⟩,sA,cS [4,5,6,7] 8⟩
 rintro _ _ ⟨p11,A11,n11,c11,h,rfl,rfl⟩;refine D ?_;refine gR (aA (us:=[iV y6.Kind,iV y6.Shape,iV y6.Flags,iV y6.Age,O A7 n7 c7,O A11 n11 c11]) 3 U U be U) ?_;refine gO (aq (us:=[iV y6.Kind,iV y6.Shape,iV y6.Flags,iV y6.Age,O A7 n7 c7,O A11 n11 c11]) (cs':=[iV y6.Kind,iV y6.Shape,iV y6.Flags,iV y6.Age,O A7 n7 c7,O A11 n11 c11]) 0 U U U U bx U U U) ?_;rintro _ _ rfl;refine D ?_;obtain rfl:=ao h;exact dt (rs:=[.cell 4 47]) (vs:=[.agg #[iV y6.Kind,iV y6.Shape,iV y6.Flags,iV y6.Age,O A7 n7 c7,O A11 n11 c11]]) U (.cons (bZ 0 U U be) .nil) U (cS [1,2] 4) ⟨_,_,_,_,_,_,U,U⟩
theorem zl {r:Ra}: ∀v post,((fun (u:Value) (post:List Chunk)=> ∃A0 n0 c0 A1 n1 c1,u=.agg #[iV r.Kind,iV r.Shape,iV r.Flags,iV r.Age,O A0 n0 c0,O A1 n1 c1]∧post=[bG A0 n0 c0 r.Slots,bG A1 n1 c1 r.More])) v post→ ∀c∈post,cg c:=by
 rintro _ _ ⟨_,_,_,_,_,_,rfl,rfl⟩;exact hE bH (hE bH (ab))
def nX (N:Nat)(a0:Ra)(p11:(List Bool)):Option Ra:=
 (rI N a0 p11).bind fun y23=>some y23
def lT (N:Nat)(a1:(List Int))(a0:Ra):Nat→(List Bool)→Int→Option Ra
 |0,_,_=>none
 |m12+1,p13,p14=>bif decide (p14<(a0.More.length:Int)) then ((aM a0.More p14).bind fun x17=>(sc N x17.N a1).bind fun y18=>bD (cc (p13.length+([y18]:List Bool).length)) (bD (in64 (p14+2)) ((lT N a1 a0 m12) (p13++([y18]:List Bool)) (p14+2)))) else (nX N a0 p13)
def qX (N:Nat)(a0:Ra)(a1:(List Int)):Option Ra:=
 (uw N a0).bind fun y6=>bif !y6 then (some (⟨0,0,0,0,[],[]⟩:Ra)) else (lT N a1 a0 N [] 0)
theorem E0 {N:Nat}{a0:Ra}{a1:(List Int)}{r:Ra}(h:qX N a0 a1=some r):Okc Tryz.prog 122 [.agg #[iV a0.Kind,iV a0.Shape,iV a0.Flags,iV a0.Age,O A1 n1 c1,O A2 n2 c2],O A3 n3 c3] ([bm A1 n1 c1 a0.Slots,bm A2 n2 c2 a0.More,dv A3 n3 c3 a1]) (fun u post=> ∃A0 n0 c0 A1 n1 c1,u=.agg #[iV r.Kind,iV r.Shape,iV r.Flags,iV r.Age,O A0 n0 c0,O A1 n1 c1]∧post=[bG A0 n0 c0 r.Slots,bG A1 n1 c1 r.More]):=by
 refine bw Tryz.func122 U U ?_;simp only [aQ];refine D ?_;refine gD (bd U U) ?_;rintro _ _ ⟨B4,rfl,rfl⟩;refine gD (aN dy U) ?_;rintro _ _ ⟨B5,rfl,rfl⟩;refine D ?_;refine az ?_;refine D ?_;refine gR (aA (us:=[iV a0.Kind,iV a0.Shape,iV a0.Flags,iV a0.Age,O A1 n1 c1,O A2 n2 c2]) 1 U U be U) ?_;obtain ⟨y6,hy6,h⟩:=aa h;refine gD (ak (DK hy6) IK U (hE (ad (i:=2) U U) (hE (ad (i:=3) U U) ab)) Aa) ?_;rintro _ _ ⟨_,⟨rfl,rfl⟩,rfl⟩;refine D ?_;refine av U (fun g7=> ?_) (fun g7=> ?_)
 ·replace h:=ag g7 h;refine D ?_;refine gE (dr U (vQ)) ?_;refine gO (aq (us:=[iV 0,iV 0,iV 0,iV 0,O none 0 0,O none 0 0]) (cs':=[iV 0,iV 0,iV 0,iV 0,O none 0 0,O none 0 0]) 0 U U U U bx U U U) ?_;rintro _ _ rfl;refine D ?_;obtain rfl:=ao h;exact dt (rs:=[.cell 4 47]) (vs:=[.agg #[iV 0,iV 0,iV 0,iV 0,O none 0 0,O none 0 0]]) U (.cons (bZ 0 U U be) .nil) U ((bj aS 52 _).trans ((bj aS 52 _).trans (cS [1,0] 7))) ⟨_,_,_,_,_,_,U,U⟩
 replace h:=ah g7 h;refine D ?_;refine aO (fun s L=> ∃p11 A11 n11 c11,nX N a0 p11=some r∧s=[(2,pV B4 0),(4,pV B5 0),(5,O A11 n11 c11)]∧L=[fi xH 4 (O A11 n11 c11) p11,bm A1 n1 c1 a0.Slots,bm A2 n2 c2 a0.More,ay B4 47 [iV a0.Kind,iV a0.Shape,iV a0.Flags,iV a0.Age,O A1 n1 c1,O A2 n2 c2],ay B5 47 [iV 0,iV 0,iV 0,iV 0,O none 0 0,O none 0 0]]) ?_ ?_
 ·refine D ?_;refine bn (fun m s L=> ∃p13 p14 A13 n13 c13,lT N a1 a0 m p13 p14=some r∧s=[(1,O A3 n3 c3),(2,pV B4 0),(4,pV B5 0),(5,O A13 n13 c13),(6,iV p14)]∧L=[dv A3 n3 c3 a1,fi xH 4 (O A13 n13 c13) p13,bm A1 n1 c1 a0.Slots,bm A2 n2 c2 a0.More,ay B4 47 [iV a0.Kind,iV a0.Shape,iV a0.Flags,iV a0.Age,O A1 n1 c1,O A2 n2 c2],ay B5 47 [iV 0,iV 0,iV 0,iV 0,O none 0 0,O none 0 0]]) N _ _ ⟨[],0,none,0,0,h,U,U⟩ sA ((bj xH 4 _).trans (cS [5,0,3,4,2,1] 6)) ?_;rintro (_|m12) _ _ ⟨p13,p14,A13,n13,c13,h,rfl,rfl⟩
  ·exact aB h
  rw [lT.eq_2] at h;refine az ?_;refine D ?_;refine gR (aK 3 U aj U hU) ?_;refine D ?_;refine av U (fun g16=> ?_) (fun g16=> ?_)
  ·replace h:=ag g16 h;refine D ?_;refine az ?_;refine D ?_;obtain ⟨x17,hx17,h⟩:=aa h;obtain ⟨lx17,ux17,hx17⟩:=au hx17;refine gR (aH 3 U aj U U hU aP lx17 ux17) ?_;refine gR (kM 3 U aj U (bo lx17 ux17) i4) ?_;refine gR (aY (u:=iV x17.N) 3 U aj U hx17 cZ (fun _ _ _ h=>by rw [show _=_ from h];rfl)) ?_;refine D ?_;obtain ⟨y18,hy18,h⟩:=aa h;refine gD (ak (DL hy18) LO U (hE (ad (i:=0) U U) ab) Ab) ?_;rintro _ _ ⟨_,⟨rfl,rfl⟩,rfl⟩;refine gD (bN (R:=xH) (vss:=[[.bool y18]]) (xs:=[y18]) U (Kc _) U U (fun _ _ hr=> .cons U All2.nil)) ?_;rintro _ _ ⟨A19,n19,c19,rfl,rfl⟩;obtain ⟨q20,h⟩:=ap h;refine gD (bA 2 0 U U aF U U Q3 Qu U U q20) ?_;rintro _ _ ⟨A21,n21,c21,rfl,rfl⟩;refine D ?_;obtain ⟨q22,h⟩:=ap h;refine gE (aW U U q22.1 q22.2) ?_;refine D ?_;exact ⟨m12,_,_,Rm _,⟨p13++([y18]:List Bool),p14+2,A21,n21,c21,h,U,U⟩,sA,cS [1,2,3,4,5,6] 7⟩
  replace h:=ah g16 h;refine D ?_;exact ⟨_,_,⟨p13,A13,n13,c13,h,U,U⟩,sA,cS [1,2,3,4,5] 6⟩
 rintro _ _ ⟨p11,A11,n11,c11,h,rfl,rfl⟩;refine D ?_;refine gR (aA (us:=[iV a0.Kind,iV a0.Shape,iV a0.Flags,iV a0.Age,O A1 n1 c1,O A2 n2 c2]) 3 U U be U) ?_;refine D ?_;obtain ⟨y23,hy23,h⟩:=aa h;refine gD (ak (BZ hy23) NM U (hE (ad (i:=1) U U) (hE (ad (i:=2) U U) (hE (ar (i:=0) U) ab))) zl) ?_;rintro _ _ ⟨_,⟨A24,n24,c24,A25,n25,c25,rfl,rfl⟩,rfl⟩;refine gO (aq (us:=[iV y23.Kind,iV y23.Shape,iV y23.Flags,iV y23.Age,O A24 n24 c24,O A25 n25 c25]) (cs':=[iV y23.Kind,iV y23.Shape,iV y23.Flags,iV y23.Age,O A24 n24 c24,O A25 n25 c25]) 6 U U U U bx U U U) ?_;rintro _ _ rfl;refine cq ?_;refine D ?_;obtain rfl:=ao h;exact dt (rs:=[.cell 4 47]) (vs:=[.agg #[iV y23.Kind,iV y23.Shape,iV y23.Flags,iV y23.Age,O A24 n24 c24,O A25 n25 c25]]) U (.cons (bZ 6 U U be) .nil) U (cS [0,1] 7) ⟨_,_,_,_,_,_,U,U⟩
theorem Cb {r:Ra}: ∀v post,((fun (u:Value) (post:List Chunk)=> ∃A0 n0 c0 A1 n1 c1,u=.agg #[iV r.Kind,iV r.Shape,iV r.Flags,iV r.Age,O A0 n0 c0,O A1 n1 c1]∧post=[bG A0 n0 c0 r.Slots,bG A1 n1 c1 r.More])) v post→ ∀c∈post,cg c:=by
 rintro _ _ ⟨_,_,_,_,_,_,rfl,rfl⟩;exact hE bH (hE bH (ab))
def lS (N:Nat)(a0:Ra)(a1:(List Int)):Option Ra:=
 (bif decide (a0.Kind=8) then ((cP N a0).bind fun y7=>some y7) else (some false)).bind fun b6=>bif b6 then ((qX N a0 a1).bind fun y9=>some y9) else (some a0)
theorem uv {N:Nat}{a0:Ra}{a1:(List Int)}{r:Ra}(h:lS N a0 a1=some r):Okc Tryz.prog 83 [.agg #[iV a0.Kind,iV a0.Shape,iV a0.Flags,iV a0.Age,O A1 n1 c1,O A2 n2 c2],O A3 n3 c3] ([bm A1 n1 c1 a0.Slots,bm A2 n2 c2 a0.More,dv A3 n3 c3 a1]) (fun u post=> ∃A0 n0 c0 A1 n1 c1,u=.agg #[iV r.Kind,iV r.Shape,iV r.Flags,iV r.Age,O A0 n0 c0,O A1 n1 c1]∧post=[bm A0 n0 c0 r.Slots,bm A1 n1 c1 r.More]):=by
 refine bw Tryz.func83 U U ?_;simp only [aQ];refine D ?_;refine gD (bd U U) ?_;rintro _ _ ⟨B4,rfl,rfl⟩;refine gD (aN dy U) ?_;rintro _ _ ⟨B5,rfl,rfl⟩;refine D ?_;refine az ?_;refine D ?_;obtain ⟨b6,hb6,h⟩:=aa h;refine aE 3 11 b6 ?_ ?_
 ·clear h;refine aD 8 U (fun g6=> ?_) (fun g6=> ?_)
  ·have h:=ag g6 hb6;refine bI (aA (us:=[iV a0.Kind,iV a0.Shape,iV a0.Flags,iV a0.Age,O A1 n1 c1,O A2 n2 c2]) 1 U U be U) U (aU g6 U) U ?_;obtain ⟨y7,hy7,h⟩:=aa h;refine cv (ak (sO hy7) FE U (hE (ad (i:=2) U U) (hE (ad (i:=3) U U) ab)) pT) U (aU g6 U) U ?_;rintro _ _ ⟨_,⟨rfl,rfl⟩,rfl⟩;refine D ?_;obtain rfl:=ao h;exact ac sA (cS [0,1,2,3,4] 5)
  have h:=ah g6 hb6;refine D ?_;obtain rfl:=ao h;exact ac sA (cS [0,1,2,3,4] 5)
 refine D ?_;refine av U (fun g8=> ?_) (fun g8=> ?_)
 ·replace h:=ag g8 h;refine D ?_;refine gR (aA (us:=[iV a0.Kind,iV a0.Shape,iV a0.Flags,iV a0.Age,O A1 n1 c1,O A2 n2 c2]) 1 U U be U) ?_;refine D ?_;obtain ⟨y9,hy9,h⟩:=aa h;refine gD (ak (E0 hy9) Oc U (hE (ad (i:=2) U U) (hE (ad (i:=3) U U) (hE (ad (i:=4) U U) ab))) Cb) ?_;rintro _ _ ⟨_,⟨A10,n10,c10,A11,n11,c11,rfl,rfl⟩,rfl⟩;refine gO (aq (us:=[iV y9.Kind,iV y9.Shape,iV y9.Flags,iV y9.Age,O A10 n10 c10,O A11 n11 c11]) (cs':=[iV y9.Kind,iV y9.Shape,iV y9.Flags,iV y9.Age,O A10 n10 c10,O A11 n11 c11]) 2 U U U U bx U U U) ?_;rintro _ _ rfl;refine D ?_;obtain rfl:=ao h;exact dt (rs:=[.cell 4 47]) (vs:=[.agg #[iV y9.Kind,iV y9.Shape,iV y9.Flags,iV y9.Age,O A10 n10 c10,O A11 n11 c11]]) U (.cons (bZ 2 U U be) .nil) U ((co 0 U).trans ((co 1 U).trans (cS [0,1] 7))) ⟨_,_,_,_,_,_,U,U⟩
 replace h:=ah g8 h;refine D ?_;refine gR (aA (us:=[iV a0.Kind,iV a0.Shape,iV a0.Flags,iV a0.Age,O A1 n1 c1,O A2 n2 c2]) 1 U U be U) ?_;refine gO (aq (us:=[iV a0.Kind,iV a0.Shape,iV a0.Flags,iV a0.Age,O A1 n1 c1,O A2 n2 c2]) (cs':=[iV a0.Kind,iV a0.Shape,iV a0.Flags,iV a0.Age,O A1 n1 c1,O A2 n2 c2]) 0 U U U U bx U U U) ?_;rintro _ _ rfl;refine D ?_;obtain rfl:=ao h;exact dt (rs:=[.cell 4 47]) (vs:=[.agg #[iV a0.Kind,iV a0.Shape,iV a0.Flags,iV a0.Age,O A1 n1 c1,O A2 n2 c2]]) U (.cons (bZ 0 U U be) .nil) U (cS [2,3] 5) ⟨_,_,_,_,_,_,U,U⟩
def wx (N:Nat):Option Bool:=
 some true
def jZ (N:Nat):Nat→Int→(List Ra)→(List Ra)→(List Int)→(List Ra)→(List Ra)→(List Int)→Option Bool
 |0,_,_,_,_,_,_,_=>none
 |m23+1,p24,p25,p26,p27,p28,p29,p30=>bif decide (p24<(p27.length:Int)) then ((aM p27 p24).bind fun x32=>(mU N (⟨p25,p26⟩:Rg) x32).bind fun y33=>(lS N y33 p27).bind fun y38=>(aM p30 p24).bind fun x45=>(mU N (⟨p28,p29⟩:Rg) x45).bind fun y46=>(lS N y46 p30).bind fun y51=>(bif !decide (y38.Kind=y51.Kind) then (some true) else (some (!decide (y38.Shape=y51.Shape)))).bind fun b58=>(bif b58 then (some true) else (some (!decide (y38.Flags=y51.Flags)))).bind fun b59=>(bif b59 then (some true) else ((il N (⟨(⟨p25,p26⟩:Rg),p27⟩:Q9) y38.Slots (⟨(⟨p28,p29⟩:Rg),p30⟩:Q9) y51.Slots).bind fun y61=>some (!y61))).bind fun b60=>(bif b60 then (some true) else ((il N (⟨(⟨p25,p26⟩:Rg),p27⟩:Q9) y38.More (⟨(⟨p28,p29⟩:Rg),p30⟩:Q9) y51.More).bind fun y63=>some (!y63))).bind fun b62=>bif b62 then (some false) else (bD (in64 (p24+1)) ((jZ N m23) (p24+1) p25 p26 p27 p28 p29 p30))) else (wx N)
def fB (N:Nat)(a0:Rg)(a1:(List Q5))(a2:Rg)(a3:(List Q5)):Option Bool:=
 (mr N a0 a1).bind fun y9=>(mr N a2 a3).bind fun y14=>(bif !decide ((y9.Order.length:Int)=(y14.Order.length:Int)) then (some true) else ((il N y9 a1 y14 a3).bind fun y20=>some (!y20))).bind fun b19=>bif b19 then (some false) else (jZ N N 0 y9.M.Young y9.M.Old y9.Order y14.M.Young y14.M.Old y14.Order)
set_option maxHeartbeats 4000000 in
theorem EY {N:Nat}{a0:Rg}{a1:(List Q5)}{a2:Rg}{a3:(List Q5)}{r:Bool}(h:fB N a0 a1 a2 a3=some r):Okc Tryz.prog 19 [.agg #[O A1 n1 c1,O A2 n2 c2],O A3 n3 c3,.agg #[O A4 n4 c4,O A5 n5 c5],O A6 n6 c6] ([bz A1 n1 c1 a0.Young,bz A2 n2 c2 a0.Old,bm A3 n3 c3 a1,bz A4 n4 c4 a2.Young,bz A5 n5 c5 a2.Old,bm A6 n6 c6 a3]) (fun u post=>u=.bool r∧post=[]):=by
 refine bw Tryz.func19 U U ?_;simp only [aQ];refine D ?_;refine gD (bd U U) ?_;rintro _ _ ⟨B7,rfl,rfl⟩;refine gD (bd U U) ?_;rintro _ _ ⟨B8,rfl,rfl⟩;refine D ?_;refine gR (aA (us:=[O A1 n1 c1,O A2 n2 c2]) 1 U U cJ U) ?_;refine D ?_;obtain ⟨y9,hy9,h⟩:=aa h;refine gD (aZ (zZ hy9) LG U (aJ [2,3,4] [] [0,1,2,3,4,5,6,7] 8 U)) ?_;rintro _ _ ⟨_,⟨A10,n10,c10,A11,n11,c11,A12,n12,c12,rfl,rfl⟩,rfl⟩;refine gD (aN ED U) ?_;rintro _ _ ⟨B13,rfl,rfl⟩;refine gO (aq (us:=[O A10 n10 c10,O A11 n11 c11,O A12 n12 c12]) (cs':=[O A10 n10 c10,O A11 n11 c11,O A12 n12 c12]) 0 U U U U EP U U U) ?_;rintro _ _ rfl;refine D ?_;refine gR (aA (us:=[O A4 n4 c4,O A5 n5 c5]) 4 U U cJ U) ?_;refine D ?_;obtain ⟨y14,hy14,h⟩:=aa h;refine gD (aZ (zZ hy14) LG U (aJ [9,10,11] [] [0,1,2,3,4,5,6,7,8,9,10,11] 12 U)) ?_;rintro _ _ ⟨_,⟨A15,n15,c15,A16,n16,c16,A17,n17,c17,rfl,rfl⟩,rfl⟩;refine cq ?_;refine gD (aN ED U) ?_;rintro _ _ ⟨B18,rfl,rfl⟩;refine gO (aq (us:=[O A15 n15 c15,O A16 n16 c16,O A17 n17 c17]) (cs':=[O A15 n15 c15,O A16 n16 c16,O A17 n17 c17]) 0 U U U U EP U U U) ?_;rintro _ _ rfl;refine D ?_;refine az ?_;refine D ?_;refine gR (aK 7 U aF U QW) ?_;refine D ?_;refine gR (aK 3 U aF U QW) ?_;refine D ?_;obtain ⟨b19,hb19,h⟩:=aa h;refine aE 7 34 b19 ?_ ?_
 ·clear h;refine aD 27 U (fun g19=> ?_) (fun g19=> ?_)
  ·have h:=ag g19 hb19;refine D ?_;obtain rfl:=ao h;exact ac sA (cS [0,1,2,3,4,5,6,7,8,9,10,11,12,13,14,15] 16)
  have h:=ah g19 hb19;refine bI (aA (us:=[O A10 n10 c10,O A11 n11 c11,O A12 n12 c12]) 4 U U xg U) U (bV g19 U) U ?_;refine D ?_;refine bI (aA (us:=[O A15 n15 c15,O A16 n16 c16,O A17 n17 c17]) 0 U U xg U) U (bV g19 U) U ?_;refine D ?_;obtain ⟨y20,hy20,h⟩:=aa h;refine cv (ak (rG hy20) HL U (hE (ar (i:=5) U) (hE (ar (i:=6) U) (hE (ar (i:=7) U) (hE (ad (i:=12) U U) (hE (ar (i:=1) U) (hE (ar (i:=2) U) (hE (ar (i:=3) U) (hE (ad (i:=15) U U) ab)))))))) oS) U (bV g19 U) U ?_;rintro _ _ ⟨_,⟨rfl,rfl⟩,rfl⟩;refine D ?_;obtain rfl:=ao h;exact ac sA (cS [0,1,2,3,4,5,6,7,8,9,10,11,12,13,14,15] 16)
 refine D ?_;refine av U (fun g21=> ?_) (fun g21=> ?_)
 ·replace h:=ag g21 h;refine D ?_;obtain rfl:=ao h;exact aC U U (cS [] 16) ⟨U,U⟩
 replace h:=ah g21 h;refine D ?_;refine aO (fun s L=>wx N=some r∧s=[(8,.bool false)]∧L=[]) ?_ ?_
 ·refine D ?_;refine bn (fun m s L=> ∃p24 p25 p26 p27 p28 p29 p30 A25 n25 c25 A26 n26 c26 A27 n27 c27 A28 n28 c28 A29 n29 c29 A30 n30 c30,jZ N m p24 p25 p26 p27 p28 p29 p30=some r∧s=[(8,.bool false),(9,pV B13 0),(10,pV B18 0),(11,iV p24)]∧L=[bz A25 n25 c25 p25,bz A26 n26 c26 p26,dv A27 n27 c27 p27,ay B13 103 [O A25 n25 c25,O A26 n26 c26,O A27 n27 c27],bz A28 n28 c28 p28,bz A29 n29 c29 p29,dv A30 n30 c30 p30,ay B18 103 [O A28 n28 c28,O A29 n29 c29,O A30 n30 c30]]) N _ _ ⟨0,y9.M.Young,y9.M.Old,y9.Order,y14.M.Young,y14.M.Old,y14.Order,A10,n10,c10,A11,n11,c11,A12,n12,c12,A15,n15,c15,A16,n16,c16,A17,n17,c17,h,U,U⟩ sA ((co 5 U).trans ((co 6 U).trans ((co 7 U).trans ((co 1 U).trans ((co 2 U).trans ((co 3 U).trans (cS [5,6,7,4,1,2,3,0] 16))))))) ?_;rintro (_|m23) _ _ ⟨p24,p25,p26,p27,p28,p29,p30,A25,n25,c25,A26,n26,c26,A27,n27,c27,A28,n28,c28,A29,n29,c29,A30,n30,c30,h,rfl,rfl⟩
  ·exact aB h
  rw [jZ.eq_2] at h;refine az ?_;refine D ?_;refine gR (aK 2 U aj U QW) ?_;refine D ?_;refine av U (fun g31=> ?_) (fun g31=> ?_)
  ·replace h:=ag g31 h;refine D ?_;refine az ?_;refine gY ?_;refine az ?_;obtain ⟨x32,hx32,h⟩:=aa h;obtain ⟨lx32,ux32,hx32⟩:=au hx32;obtain ⟨y33,hy33,h⟩:=aa h;obtain ⟨y38,hy38,h⟩:=aa h;refine gT (t:=[(8,.bool false),(9,pV B13 0),(10,pV B18 0),(11,iV p24)]) ?_ lP (ai _)
   refine i6 W 12 [] [10,11] [42,43,44,45,46,47,48,49,50,51,52,12] [[],[0],[],[2],[],[3,4],[5],[1,6],[],[8],[7,9],[]] [aV (pV B13 0),
aV (.agg #[O A25 n25 c25,O A26 n26 c26]),
aV (pV B13 2),
aV (O A27 n27 c27),
aV (iV p24),
aV (ei (O A27 n27 c27) p24.toNat 1 0),
aV (iV x32),
aX6 (fun (A36:Option Addr) (n36 c36:Nat) (A37:Option Addr) (n37 c37:Nat)=> .agg #[iV y33.Kind,iV y33.Shape,iV y33.Flags,iV y33.Age,O A36 n36 c36,O A37 n37 c37]) (fun A36 n36 c36 A37 n37 c37=> [bm A36 n36 c36 y33.Slots,bm A37 n37 c37 y33.More]),
aV (pV B13 2),
aV (O A27 n27 c27),
aX6 (fun (A41:Option Addr) (n41 c41:Nat) (A42:Option Addr) (n42 c42:Nat)=> .agg #[iV y38.Kind,iV y38.Shape,iV y38.Flags,iV y38.Age,O A41 n41 c41,O A42 n42 c42]) (fun A41 n41 c41 A42 n42 c42=> [bm A41 n41 c41 y38.Slots,bm A42 n42 c42 y38.More]),
aX1 (fun (B44:Nat)=>pV B44 0) (fun B44=> [ay B44 47 [iV 0,iV 0,iV 0,iV 0,O none 0 0,O none 0 0]])] [] (ai _) (lG) W rfl rfl ?_ ?_ ?_
   ·exact lF
   ·refine am U ?_ ?_
    ·refine oM (aN dy U) U ?_;rintro _ _ ⟨B43,rfl,rfl⟩;exact Nv B43 (ai _)
    refine am U ?_ ?_
    ·intro A36 n36 c36 A37 n37 c37;refine oM (aZ (uv hy38) LF U (aJ [0,1,4] [] [0,1,2,3,4,5,6,7,8,9] 10 U)) U ?_;rintro _ _ ⟨_,⟨A39,n39,c39,A40,n40,c40,rfl,rfl⟩,rfl⟩;exact GD A39 n39 c39 A40 n40 c40 (ai _)
    refine am U ?_ ?_
    ·exact dO (bc 3 U U iR U) U (bu U (ai _))
    refine am U ?_ ?_
    ·exact cL (bX U qm) U (bu U (ai _))
    refine am U ?_ ?_
    ·refine oM (aZ (vu hy33) Fw U (aJ [0,1] [] [0,1,2,3,4,5,6,7] 8 U)) U ?_;rintro _ _ ⟨_,⟨A34,n34,c34,A35,n35,c35,rfl,rfl⟩,rfl⟩;exact GD A34 n34 c34 A35 n35 c35 (ai _)
    refine am U ?_ ?_
    ·exact dO (aY (u:=iV x32) 2 U aj U hx32 cZ (fun _ _ _ h=>by rw [show _=_ from h];rfl)) U (bu U (ai _))
    refine am U ?_ ?_
    ·exact dO (aH 2 U aj U U QW dh lx32 ux32) U (bu U (ai _))
    refine am U ?_ ?_
    ·exact cL (ax U) U (bu U (ai _))
    refine am U ?_ ?_
    ·exact dO (bc 3 U U iR U) U (bu U (ai _))
    refine am U ?_ ?_
    ·exact cL (bX U qm) U (bu U (ai _))
    refine am U ?_ ?_
    ·exact dO (aA (us:=[O A25 n25 c25,O A26 n26 c26]) 3 U U cJ U) U (bu U (ai _))
    refine am U ?_ ?_
    ·exact cL (dC U sy) U (bu U (ai _))
    exact eX
   intro A41 n41 c41 A42 n42 c42 B44;refine lZ (t:=[(52,.agg #[iV y38.Kind,iV y38.Shape,iV y38.Flags,iV y38.Age,O A41 n41 c41,O A42 n42 c42]),(12,pV B44 0),(8,.bool false),(9,pV B13 0),(10,pV B18 0),(11,iV p24)]) (L':=[bm A41 n41 c41 y38.Slots,bm A42 n42 c42 y38.More,ay B44 47 [iV 0,iV 0,iV 0,iV 0,O none 0 0,O none 0 0],bz A25 n25 c25 p25,bz A26 n26 c26 p26,dv A27 n27 c27 p27,ay B13 103 [O A25 n25 c25,O A26 n26 c26,O A27 n27 c27],bz A28 n28 c28 p28,bz A29 n29 c29 p29,dv A30 n30 c30 p30,ay B18 103 [O A28 n28 c28,O A29 n29 c29,O A30 n30 c30]]) ?_ lP (ai _);refine yU 12 U W (aq (us:=[iV y38.Kind,iV y38.Shape,iV y38.Flags,iV y38.Age,O A41 n41 c41,O A42 n42 c42]) (cs':=[iV y38.Kind,iV y38.Shape,iV y38.Flags,iV y38.Age,O A41 n41 c41,O A42 n42 c42]) 2 U U U U bx U U U) U U ?_;rintro _ _ rfl;refine lN W ?_;refine gM ?_;refine az ?_;obtain ⟨x45,hx45,h⟩:=aa h;obtain ⟨lx45,ux45,hx45⟩:=au hx45;obtain ⟨y46,hy46,h⟩:=aa h;obtain ⟨y51,hy51,h⟩:=aa h;refine gT (t:=[(8,.bool false),(9,pV B13 0),(10,pV B18 0),(11,iV p24),(12,pV B44 0)]) ?_ lP (ai _)
   refine i6 W 12 [] [10,11] [53,54,55,56,57,58,59,60,61,62,63,13] [[],[0],[],[2],[],[3,4],[5],[1,6],[],[8],[7,9],[]] [aV (pV B18 0),
aV (.agg #[O A28 n28 c28,O A29 n29 c29]),
aV (pV B18 2),
aV (O A30 n30 c30),
aV (iV p24),
aV (ei (O A30 n30 c30) p24.toNat 1 0),
aV (iV x45),
aX6 (fun (A49:Option Addr) (n49 c49:Nat) (A50:Option Addr) (n50 c50:Nat)=> .agg #[iV y46.Kind,iV y46.Shape,iV y46.Flags,iV y46.Age,O A49 n49 c49,O A50 n50 c50]) (fun A49 n49 c49 A50 n50 c50=> [bm A49 n49 c49 y46.Slots,bm A50 n50 c50 y46.More]),
aV (pV B18 2),
aV (O A30 n30 c30),
aX6 (fun (A54:Option Addr) (n54 c54:Nat) (A55:Option Addr) (n55 c55:Nat)=> .agg #[iV y51.Kind,iV y51.Shape,iV y51.Flags,iV y51.Age,O A54 n54 c54,O A55 n55 c55]) (fun A54 n54 c54 A55 n55 c55=> [bm A54 n54 c54 y51.Slots,bm A55 n55 c55 y51.More]),
aX1 (fun (B57:Nat)=>pV B57 0) (fun B57=> [ay B57 47 [iV 0,iV 0,iV 0,iV 0,O none 0 0,O none 0 0]])] [] (ai _) (lG) W rfl rfl ?_ ?_ ?_
   ·exact lF
   ·refine am U ?_ ?_
    ·refine oM (aN dy U) U ?_;rintro _ _ ⟨B56,rfl,rfl⟩;exact Nv B56 (ai _)
    refine am U ?_ ?_
    ·intro A49 n49 c49 A50 n50 c50;refine oM (aZ (uv hy51) LF U (aJ [0,1,11] [] [0,1,2,3,4,5,6,7,8,9,10,11,12] 13 U)) U ?_;rintro _ _ ⟨_,⟨A52,n52,c52,A53,n53,c53,rfl,rfl⟩,rfl⟩;exact GD A52 n52 c52 A53 n53 c53 (ai _)
    refine am U ?_ ?_
    ·exact dO (bc 10 U U iR U) U (bu U (ai _))
    refine am U ?_ ?_
    ·exact cL (bX U qm) U (bu U (ai _))
    refine am U ?_ ?_
    ·refine oM (aZ (vu hy46) Fw U (aJ [7,8] [] [0,1,2,3,4,5,6,7,8,9,10] 11 U)) U ?_;rintro _ _ ⟨_,⟨A47,n47,c47,A48,n48,c48,rfl,rfl⟩,rfl⟩;exact GD A47 n47 c47 A48 n48 c48 (ai _)
    refine am U ?_ ?_
    ·exact dO (aY (u:=iV x45) 9 U aj U hx45 cZ (fun _ _ _ h=>by rw [show _=_ from h];rfl)) U (bu U (ai _))
    refine am U ?_ ?_
    ·exact dO (aH 9 U aj U U QW dh lx45 ux45) U (bu U (ai _))
    refine am U ?_ ?_
    ·exact cL (ax U) U (bu U (ai _))
    refine am U ?_ ?_
    ·exact dO (bc 10 U U iR U) U (bu U (ai _))
    refine am U ?_ ?_
    ·exact cL (bX U qm) U (bu U (ai _))
    refine am U ?_ ?_
    ·exact dO (aA (us:=[O A28 n28 c28,O A29 n29 c29]) 10 U U cJ U) U (bu U (ai _))
    refine am U ?_ ?_
    ·exact cL (dC U sy) U (bu U (ai _))
    exact eX
   intro A54 n54 c54 A55 n55 c55 B57;refine lZ (t:=[(63,.agg #[iV y51.Kind,iV y51.Shape,iV y51.Flags,iV y51.Age,O A54 n54 c54,O A55 n55 c55]),(13,pV B57 0),(8,.bool false),(9,pV B13 0),(10,pV B18 0),(11,iV p24),(12,pV B44 0)]) (L':=[bm A54 n54 c54 y51.Slots,bm A55 n55 c55 y51.More,ay B57 47 [iV 0,iV 0,iV 0,iV 0,O none 0 0,O none 0 0],bm A41 n41 c41 y38.Slots,bm A42 n42 c42 y38.More,ay B44 47 [iV y38.Kind,iV y38.Shape,iV y38.Flags,iV y38.Age,O A41 n41 c41,O A42 n42 c42],bz A25 n25 c25 p25,bz A26 n26 c26 p26,dv A27 n27 c27 p27,ay B13 103 [O A25 n25 c25,O A26 n26 c26,O A27 n27 c27],bz A28 n28 c28 p28,bz A29 n29 c29 p29,dv A30 n30 c30 p30,ay B18 103 [O A28 n28 c28,O A29 n29 c29,O A30 n30 c30]]) ?_ lP (ai _);refine yU 12 U W (aq (us:=[iV y51.Kind,iV y51.Shape,iV y51.Flags,iV y51.Age,O A54 n54 c54,O A55 n55 c55]) (cs':=[iV y51.Kind,iV y51.Shape,iV y51.Flags,iV y51.Age,O A54 n54 c54,O A55 n55 c55]) 2 U U U U bx U U U) U U ?_;rintro _ _ rfl;refine DY ?_;refine lN W ?_;refine D ?_;obtain ⟨b58,hb58,h⟩:=aa h;refine aE 6 75 b58 ?_ ?_
   ·clear h;refine aD 69 U (fun g58=> ?_) (fun g58=> ?_)
    ·have h:=ag g58 hb58;refine D ?_;obtain rfl:=ao h;exact ac sA (cS [0,1,2,3,4,5,6,7,8,9,10,11,12,13] 14)
    have h:=ah g58 hb58;refine D ?_;obtain rfl:=ao h;exact ac sA (cS [0,1,2,3,4,5,6,7,8,9,10,11,12,13] 14)
   refine D ?_;obtain ⟨b59,hb59,h⟩:=aa h;refine aE 6 82 b59 ?_ ?_
   ·clear h;refine aD 76 U (fun g59=> ?_) (fun g59=> ?_)
    ·have h:=ag g59 hb59;refine D ?_;obtain rfl:=ao h;exact ac sA (cS [0,1,2,3,4,5,6,7,8,9,10,11,12,13] 14)
    have h:=ah g59 hb59;refine D ?_;obtain rfl:=ao h;exact ac sA (cS [0,1,2,3,4,5,6,7,8,9,10,11,12,13] 14)
   refine D ?_;obtain ⟨b60,hb60,h⟩:=aa h;refine aE 9 92 b60 ?_ ?_
   ·clear h;refine aD 83 U (fun g60=> ?_) (fun g60=> ?_)
    ·have h:=ag g60 hb60;refine D ?_;obtain rfl:=ao h;exact ac sA (cS [0,1,2,3,4,5,6,7,8,9,10,11,12,13] 14)
    have h:=ah g60 hb60;refine bI (aA (us:=[O A25 n25 c25,O A26 n26 c26,O A27 n27 c27]) 9 U U xg U) U (bV g60 U) U ?_;refine D ?_;refine bI (aA (us:=[O A28 n28 c28,O A29 n29 c29,O A30 n30 c30]) 13 U U xg U) U (bV g60 U) U ?_;refine D ?_;obtain ⟨y61,hy61,h⟩:=aa h;refine cv (ak (rG hy61) HL U (hE (ad (i:=6) U U) (hE (ad (i:=7) U U) (hE (ad (i:=8) U U) (hE (ad (i:=3) U U) (hE (ad (i:=10) U U) (hE (ad (i:=11) U U) (hE (ad (i:=12) U U) (hE (ad (i:=0) U U) ab)))))))) oS) U (bV g60 U) U ?_;rintro _ _ ⟨_,⟨rfl,rfl⟩,rfl⟩;refine D ?_;obtain rfl:=ao h;exact ac sA (cS [0,1,2,3,4,5,6,7,8,9,10,11,12,13] 14)
   refine D ?_;obtain ⟨b62,hb62,h⟩:=aa h;refine aE 9 102 b62 ?_ ?_
   ·clear h;refine aD 93 U (fun g62=> ?_) (fun g62=> ?_)
    ·have h:=ag g62 hb62;refine D ?_;obtain rfl:=ao h;exact ac sA (cS [0,1,2,3,4,5,6,7,8,9,10,11,12,13] 14)
    have h:=ah g62 hb62;refine bI (aA (us:=[O A25 n25 c25,O A26 n26 c26,O A27 n27 c27]) 9 U U xg U) U (bV g62 U) U ?_;refine D ?_;refine bI (aA (us:=[O A28 n28 c28,O A29 n29 c29,O A30 n30 c30]) 13 U U xg U) U (bV g62 U) U ?_;refine D ?_;obtain ⟨y63,hy63,h⟩:=aa h;refine cv (ak (rG hy63) HL U (hE (ad (i:=6) U U) (hE (ad (i:=7) U U) (hE (ad (i:=8) U U) (hE (ad (i:=4) U U) (hE (ad (i:=10) U U) (hE (ad (i:=11) U U) (hE (ad (i:=12) U U) (hE (ad (i:=1) U U) ab)))))))) oS) U (bV g62 U) U ?_;rintro _ _ ⟨_,⟨rfl,rfl⟩,rfl⟩;refine D ?_;obtain rfl:=ao h;exact ac sA (cS [0,1,2,3,4,5,6,7,8,9,10,11,12,13] 14)
   refine D ?_;refine av U (fun g64=> ?_) (fun g64=> ?_)
   ·replace h:=ag g64 h;refine D ?_;obtain rfl:=ao h;exact aC U U (cS [] 14) ⟨U,U⟩
   replace h:=ah g64 h;refine D ?_;obtain ⟨q65,h⟩:=ap h;refine gE (aW U U q65.1 q65.2) ?_;refine D ?_;exact ⟨m23,_,_,Rm _,⟨p24+1,p25,p26,p27,p28,p29,p30,A25,n25,c25,A26,n26,c26,A27,n27,c27,A28,n28,c28,A29,n29,c29,A30,n30,c30,h,U,U⟩,sA,cS [6,7,8,9,10,11,12,13] 14⟩
  replace h:=ah g31 h;refine D ?_;exact ⟨_,_,⟨h,U,U⟩,sA,cS [] 8⟩
 rintro _ _ ⟨h,rfl,rfl⟩;refine D ?_;obtain rfl:=ao h;exact aC U U (cS [] 0) ⟨U,U⟩
theorem BY {r:Bool}: ∀v post,((fun (u:Value) (post:List Chunk)=>u=.bool r∧post=[])) v post→ ∀c∈post,cg c:=by
 rintro _ _ ⟨rfl,rfl⟩;exact ab
end
section
variable {A1 A2 A3 A4 A5 A6 A7 A8:Option Addr} {c1 c2 c3 c4 c5 c6 c7 c8 n1 n2 n3 n4 n5 n6 n7 n8:Nat}
open Go.RowKit Asn
set_option maxRecDepth 20000
def eF (N:Nat)(y52:((List Q5)))(y44:(Rg×Re))(p56:Int)(p57:(List Ra))(p58:(List Ra))(p59:(List Q5))(p60:(List Q5))(p61:(List (Int×Bool))):Option Bool:=
 bif !decide (p56=0) then ((mB N).bind fun y76=>some y76) else ((fT N (⟨(⟨p57,p58⟩:Rg),p59,p60,(⟨p61⟩:Rh)⟩:Re)).bind fun y77=>bif decide (y77=0) then ((gQ N (⟨(⟨p57,p58⟩:Rg),p59,p60,(⟨p61⟩:Rh)⟩:Re)).bind fun y79=>(iC N y79.2).bind fun y87=>(fB N y44.1 y52 y79.1 y87).bind fun y89=>(bif y89 then ((mB N).bind fun y91=>some y91) else (some false)).bind fun b90=>some b90) else (some false))
def kr (N:Nat)(a1:Bool)(p14:(List Ra))(p15:(List Ra))(p16:(List Q5))(p17:(List Q5))(p18:(List (Int×Bool))):Option Bool:=
 (fT N (⟨(⟨p14,p15⟩:Rg),p16,p17,(⟨p18⟩:Rh)⟩:Re)).bind fun y41=>bif !decide (y41=0) then ((mB N).bind fun y43=>some y43) else ((gQ N (⟨(⟨p14,p15⟩:Rg),p16,p17,(⟨p18⟩:Rh)⟩:Re)).bind fun y44=>(iC N y44.2).bind fun y52=>bif a1 then ((dY N y44.2).bind fun y63=>eF N y52 y44 y63.1 y63.2.m_.Young y63.2.m_.Old y63.2.roots_ y63.2.pending_ y63.2.set_.at_) else ((dq N y44.2).bind fun y69=>eF N y52 y44 y69.1 y69.2.m_.Young y69.2.m_.Old y69.2.roots_ y69.2.pending_ y69.2.set_.at_))
def fR (N:Nat)(a1:Bool)(a0:(List Rf)):Nat→Int→(List Ra)→(List Ra)→(List Q5)→(List Q5)→(List (Int×Bool))→Option Bool
 |0,_,_,_,_,_,_=>none
 |m19+1,p20,p21,p22,p23,p24,p25=>bif decide (p20<(a0.length:Int)) then ((aM a0 p20).bind fun x27=>(xo N (⟨(⟨p21,p22⟩:Rg),p23,p24,(⟨p25⟩:Rh)⟩:Re) x27).bind fun y31=>bD (in64 (p20+1)) ((fR N a1 a0 m19) (p20+1) y31.2.m_.Young y31.2.m_.Old y31.2.roots_ y31.2.pending_ y31.2.set_.at_)) else (kr N a1 p21 p22 p23 p24 p25)
def ma (N:Nat)(a0:(List Rf))(a1:Bool):Option Bool:=
 (sY N).bind fun y2=>(qJ N a0).bind fun y10=>bif !y10 then ((mB N).bind fun y12=>some y12) else (fR N a1 a0 N 0 y2.m_.Young y2.m_.Old y2.roots_ y2.pending_ y2.set_.at_)
theorem yZ {N:Nat}{a0:(List Rf)}{a1:Bool}{r:Bool}(h:ma N a0 a1=some r):Okc Tryz.prog 13 [O A1 n1 c1,.bool a1] ([rx Hg (O A1 n1 c1) a0]) (fun u post=>u=.bool r∧post=[]):=by
 refine bw Tryz.func13 U U ?_;simp only [aQ];refine D ?_;obtain ⟨y2,hy2,h⟩:=aa h;refine gD (aZ (Ak hy2) LT U (aJ [] [] [0] 1 U)) ?_;rintro _ _ ⟨_,⟨B3,A4,n4,c4,A5,n5,c5,A6,n6,c6,A7,n7,c7,B8,M9,rfl,rfl⟩,rfl⟩;refine D ?_;refine az ?_;refine D ?_;refine gE (nU U t0) ?_;refine D ?_;obtain ⟨y10,hy10,h⟩:=aa h;refine gD (ak (EI hy10) Pd U (hE (ad (i:=7) U U) ab) Br) ?_;rintro _ _ ⟨_,⟨rfl,rfl⟩,rfl⟩;refine D ?_;refine av U (fun g11=> ?_) (fun g11=> ?_)
 ·replace h:=ag g11 h;refine D ?_;refine gE (Eb U t0) ?_;refine D ?_;obtain ⟨y12,hy12,h⟩:=aa h;refine gD (ak (pe hy12) Fv U (ab) mK) ?_;rintro _ _ ⟨_,⟨rfl,rfl⟩,rfl⟩;refine D ?_;obtain rfl:=ao h;exact aC U U (cS [] 8) ⟨U,U⟩
 replace h:=ah g11 h;refine D ?_;refine aO (fun s L=> ∃p14 p15 p16 p17 p18 A14 n14 c14 A15 n15 c15 A16 n16 c16 A17 n17 c17 M18,kr N a1 p14 p15 p16 p17 p18=some r∧s=[(1,.bool a1),(4,.bool false),(5,pV B3 0)]∧L=[cA A14 n14 c14 p14,cA A15 n15 c15 p15,bG A16 n16 c16 p16,bG A17 n17 c17 p17,ay B3 86 [O A14 n14 c14,O A15 n15 c15,O A16 n16 c16,O A17 n17 c17,pV B8 0],bq cB d8 M18 p18,ay B8 157 [.map (some M18)]]) ?_ ?_
 ·refine D ?_;refine bn (fun m s L=> ∃p20 p21 p22 p23 p24 p25 A21 n21 c21 A22 n22 c22 A23 n23 c23 A24 n24 c24 M25,fR N a1 a0 m p20 p21 p22 p23 p24 p25=some r∧s=[(0,O A1 n1 c1),(1,.bool a1),(4,.bool false),(5,pV B3 0),(6,iV p20)]∧L=[rx Hg (O A1 n1 c1) a0,cA A21 n21 c21 p21,cA A22 n22 c22 p22,bG A23 n23 c23 p23,bG A24 n24 c24 p24,ay B3 86 [O A21 n21 c21,O A22 n22 c22,O A23 n23 c23,O A24 n24 c24,pV B8 0],bq cB d8 M25 p25,ay B8 157 [.map (some M25)]]) N _ _ ⟨0,y2.m_.Young,y2.m_.Old,y2.roots_,y2.pending_,y2.set_.at_,A4,n4,c4,A5,n5,c5,A6,n6,c6,A7,n7,c7,M9,h,U,U⟩ sA (cS [7,1,2,3,4,0,6,5] 8) ?_;rintro (_|m19) _ _ ⟨p20,p21,p22,p23,p24,p25,A21,n21,c21,A22,n22,c22,A23,n23,c23,A24,n24,c24,M25,h,rfl,rfl⟩
  ·exact aB h
  rw [fR.eq_2] at h;refine az ?_;refine D ?_;refine gR (aK 0 U aj U hP) ?_;refine D ?_;refine av U (fun g26=> ?_) (fun g26=> ?_)
  ·replace h:=ag g26 h;refine D ?_;refine az ?_;refine D ?_;obtain ⟨x27,hx27,h⟩:=aa h;obtain ⟨lx27,ux27,hx27⟩:=au hx27;refine gR (aH 0 U aj U U hP G8 lx27 ux27) ?_;refine oN 0 U hx27 (Co x27) ?_;rintro _ _ ⟨A28,n28,c28,A29,n29,c29,rfl,rfl⟩;refine gR (jC (us:=[iV x27.Kind,iV x27.N,iV x27.C.Kind,iV x27.C.Shape,iV x27.C.Flags,iV x27.C.Age,O A28 n28 c28,O A29 n29 c29,iV x27.V.Kind,iV x27.V.N,.string x27.V.S]) 0 U U PT U) ?_;obtain ⟨y31,hy31,h⟩:=aa h;refine gD (aZ (Jd hy31) Pc U (aJ [1,2] [8,4,5,6,7,10,9] [0,1,2,3] 11 U)) ?_;rintro _ _ ⟨_,⟨A32,n32,c32,A33,n33,c33,A34,n34,c34,A35,n35,c35,A36,n36,c36,A37,n37,c37,A38,n38,c38,M39,rfl,rfl⟩,rfl⟩;refine D ?_;obtain ⟨q40,h⟩:=ap h;refine gE (aW U U q40.1 q40.2) ?_;refine D ?_;exact ⟨m19,_,_,Rm _,⟨p20+1,y31.2.m_.Young,y31.2.m_.Old,y31.2.roots_,y31.2.pending_,y31.2.set_.at_,A35,n35,c35,A36,n36,c36,A37,n37,c37,A38,n38,c38,M39,h,U,U⟩,sA,cS [13,4,5,6,7,3,9,8] 14⟩
  replace h:=ah g26 h;refine D ?_;exact ⟨_,_,⟨p21,p22,p23,p24,p25,A21,n21,c21,A22,n22,c22,A23,n23,c23,A24,n24,c24,M25,h,U,U⟩,sA,cS [1,2,3,4,5,6,7] 8⟩
 rintro _ _ ⟨p14,p15,p16,p17,p18,A14,n14,c14,A15,n15,c15,A16,n16,c16,A17,n17,c17,M18,h,rfl,rfl⟩;refine az ?_;refine D ?_;obtain ⟨y41,hy41,h⟩:=aa h;refine gD (ak (mw hy41) HP U (hE (aX (i:=4) U) (hE (ar (i:=0) U) (hE (ar (i:=1) U) (hE (ar (i:=2) U) (hE (ar (i:=3) U) (hE (aX (i:=6) U) (hE (cy (i:=5) U) ab))))))) kZ) ?_;rintro _ _ ⟨_,⟨rfl,rfl⟩,rfl⟩;refine D ?_;refine av U (fun g42=> ?_) (fun g42=> ?_)
 ·replace h:=ag g42 h;refine D ?_;obtain ⟨y43,hy43,h⟩:=aa h;refine gD (ak (pe hy43) Fv U (ab) mK) ?_;rintro _ _ ⟨_,⟨rfl,rfl⟩,rfl⟩;refine D ?_;obtain rfl:=ao h;exact aC U U (cS [] 7) ⟨U,U⟩
 replace h:=ah g42 h;refine D ?_;obtain ⟨y44,hy44,h⟩:=aa h;refine gD (aZ (pa hy44) LS U (aJ [] [4,0,1,2,3,6,5] [] 7 U)) ?_;rintro _ _ ⟨_,⟨A45,n45,c45,A46,n46,c46,A47,n47,c47,A48,n48,c48,A49,n49,c49,A50,n50,c50,M51,rfl,rfl⟩,rfl⟩;refine cq ?_;refine D ?_;obtain ⟨y52,hy52,h⟩:=aa h;refine gD (ak (qh hy52) LR U (hE (aX (i:=2) U) (hE (ar (i:=3) U) (hE (ar (i:=4) U) (hE (ar (i:=5) U) (hE (ar (i:=6) U) (hE (aX (i:=7) U) (hE (cy (i:=8) U) ab))))))) oG) ?_;rintro _ _ ⟨_,⟨A53,n53,c53,rfl,rfl⟩,rfl⟩;refine gD (aN lD U) ?_;rintro _ _ ⟨B54,rfl,rfl⟩;refine gO (aq (us:=[O A45 n45 c45,O A46 n46 c46]) (cs':=[O A45 n45 c45,O A46 n46 c46]) 0 U U U U ea U U U) ?_;rintro _ _ rfl;refine D ?_;refine aO (fun s L=> ∃p56 p57 p58 p59 p60 p61 A57 n57 c57 A58 n58 c58 A59 n59 c59 A60 n60 c60 M61,eF N y52 y44 p56 p57 p58 p59 p60 p61=some r∧s=[(4,.bool false),(5,pV B3 0),(7,pV B54 0),(8,O A53 n53 c53),(9,iV p56)]∧L=[bG A53 n53 c53 y52,cA A57 n57 c57 p57,cA A58 n58 c58 p58,bG A59 n59 c59 p59,bG A60 n60 c60 p60,ay B3 86 [O A57 n57 c57,O A58 n58 c58,O A59 n59 c59,O A60 n60 c60,pV B8 0],cA A45 n45 c45 y44.1.Young,cA A46 n46 c46 y44.1.Old,ay B54 36 [O A45 n45 c45,O A46 n46 c46],bq cB d8 M61 p61,ay B8 157 [.map (some M61)]]) ?_ ?_
 ·refine D ?_;refine av U (fun g62=> ?_) (fun g62=> ?_)
  ·replace h:=ag g62 h;refine D ?_;obtain ⟨y63,hy63,h⟩:=aa h;refine gD (aZ (mu hy63) HO U (aJ [] [4,5,6,7,8,9,10] [0,1,2,3] 11 U)) ?_;rintro _ _ ⟨_,⟨A64,n64,c64,A65,n65,c65,A66,n66,c66,A67,n67,c67,M68,rfl,rfl⟩,rfl⟩;refine D ?_;exact ⟨_,_,⟨y63.1,y63.2.m_.Young,y63.2.m_.Old,y63.2.roots_,y63.2.pending_,y63.2.set_.at_,A64,n64,c64,A65,n65,c65,A66,n66,c66,A67,n67,c67,M68,h,U,U⟩,sA,cS [8,1,2,3,4,0,9,10,7,6,5] 11⟩
  replace h:=ah g62 h;refine D ?_;obtain ⟨y69,hy69,h⟩:=aa h;refine gD (aZ (jI hy69) Fu U (aJ [] [4,5,6,7,8,9,10] [0,1,2,3] 11 U)) ?_;rintro _ _ ⟨_,⟨A70,n70,c70,A71,n71,c71,A72,n72,c72,A73,n73,c73,M74,rfl,rfl⟩,rfl⟩;refine cq ?_;refine D ?_;exact ⟨_,_,⟨y69.1,y69.2.m_.Young,y69.2.m_.Old,y69.2.roots_,y69.2.pending_,y69.2.set_.at_,A70,n70,c70,A71,n71,c71,A72,n72,c72,A73,n73,c73,M74,h,U,U⟩,sA,cS [8,1,2,3,4,0,9,10,7,6,5] 11⟩
 rintro _ _ ⟨p56,p57,p58,p59,p60,p61,A57,n57,c57,A58,n58,c58,A59,n59,c59,A60,n60,c60,M61,h,rfl,rfl⟩;refine az ?_;refine D ?_;refine av U (fun g75=> ?_) (fun g75=> ?_)
 ·replace h:=ag g75 h;refine D ?_;obtain ⟨y76,hy76,h⟩:=aa h;refine gD (ak (pe hy76) Fv U (ab) mK) ?_;rintro _ _ ⟨_,⟨rfl,rfl⟩,rfl⟩;refine D ?_;obtain rfl:=ao h;exact aC U U (cS [] 11) ⟨U,U⟩
 replace h:=ah g75 h;refine D ?_;refine az ?_;refine cn W ([bG A53 n53 c53 y52,cA A45 n45 c45 y44.1.Young,cA A46 n46 c46 y44.1.Old,ay B54 36 [O A45 n45 c45,O A46 n46 c46]]) (cS [0,6,7,8] 11) ?_;refine zE 0 U (ax U) ?_;obtain ⟨y77,hy77,h⟩:=aa h;refine zD 1 U (ak (mw hy77) HP U (hE (aX (i:=5) U) (hE (ar (i:=1) U) (hE (ar (i:=2) U) (hE (ar (i:=3) U) (hE (ar (i:=4) U) (hE (aX (i:=10) U) (hE (cy (i:=9) U) ab))))))) kZ) ?_;rintro _ _ ⟨_,⟨rfl,rfl⟩,rfl⟩;refine bP (cS [0,6,7,8] 11) ?_;refine zE 2 U (Ed U U) ?_;refine zE 3 U (ax U) ?_;refine jK 54 U (fun g78=> ?_) (fun g78=> ?_)
 ·replace h:=ag g78 h;refine dw 4 U W (aA (us:=[O A45 n45 c45,O A46 n46 c46]) 3 U U cJ U) (aU g78 U) U ?_;refine cK 5 U W (ax U) (aU g78 U) U ?_;refine cK 6 U W (ax U) (aU g78 U) U ?_;refine cK 8 U W (ax U) (aU g78 U) U ?_;obtain ⟨y79,hy79,h⟩:=aa h;refine nz 7 U W (aZ (pa hy79) LS U (aJ [] [5,1,2,3,4,10,9] [0,6,7,8] 11 U)) U (aU g78 U) U ?_;rintro _ _ ⟨_,⟨A80,n80,c80,A81,n81,c81,A82,n82,c82,A83,n83,c83,A84,n84,c84,A85,n85,c85,M86,rfl,rfl⟩,rfl⟩;refine bP (cS [9,10,11,12] 13) ?_;obtain ⟨y87,hy87,h⟩:=aa h;refine nz 9 U W (ak (qh hy87) LR U (hE (aX (i:=2) U) (hE (ar (i:=3) U) (hE (ar (i:=4) U) (hE (ar (i:=5) U) (hE (ar (i:=6) U) (hE (aX (i:=7) U) (hE (cy (i:=8) U) ab))))))) oG) U (aU g78 U) U ?_;rintro _ _ ⟨_,⟨A88,n88,c88,rfl,rfl⟩,rfl⟩;refine bP (cS [10,11,12,13] 14) ?_;obtain ⟨y89,hy89,h⟩:=aa h;refine nz 10 U W (ak (EY hy89) Pi U (hE (ar (i:=11) U) (hE (ar (i:=12) U) (hE (ar (i:=10) U) (hE (ar (i:=1) U) (hE (ar (i:=2) U) (hE (ar (i:=0) U) ab)))))) BY) U (aU g78 U) U ?_;rintro _ _ ⟨_,⟨rfl,rfl⟩,rfl⟩;refine bP (cS [10,11,12,13] 14) ?_;refine zE 11 U (dL g78 U U) ?_;refine zE 12 U (ax U) ?_;obtain ⟨b90,hb90,h⟩:=aa h
  refine iH (fun l=>((l.setIfInBounds 13 true).setIfInBounds 14 true)) 1 65 b90 (fun rest=> ?_) ?_
  ·clear h;refine jK 63 U (fun g90=> ?_) (fun g90=> ?_)
   ·have h:=ag g90 hb90;obtain ⟨y91,hy91,h⟩:=aa h;refine nz 13 U W (ak (pe hy91) Fv U (ab) mK) U (aU g90 U) U ?_;rintro _ _ ⟨_,⟨rfl,rfl⟩,rfl⟩;refine bP (cS [10,11,12,13] 14) ?_;refine zE 14 U (dL g90 U U) ?_;obtain rfl:=ao h;exact eV rest (cp U (ae (ae bv U) U)) (ai _) (cS [10,11,12,13] 14)
   have h:=ah g90 hb90;refine bi 13 U W (ee g90 U) U ?_;refine zE 14 U (dM g90 U U) ?_;obtain rfl:=ao h;exact eV rest (cp U (ae (ae bv U) U)) (ai _) (cS [10,11,12,13] 14)
  refine zE 15 U (aI U) ?_;refine bB W ?_;refine D ?_;obtain rfl:=ao h;exact aC U U (cS [] 14) ⟨U,U⟩
 replace h:=ah g78 h;refine bi 4 U W (ee g78 U) U ?_;refine bi 5 U W (ee g78 U) U ?_;refine bi 6 U W (ee g78 U) U ?_;refine bi 7 U W (ee g78 U) U ?_;refine bi 8 U W (ee g78 U) U ?_;refine bi 9 U W (ee g78 U) U ?_;refine bi 10 U W (ee g78 U) U ?_;refine zE 11 U (dM g78 U U) ?_;refine zE 12 U (ax U) ?_;refine zU 13 U ?_;refine zE 14 U (zH U U) ?_;refine zE 15 U (aI U) ?_;refine bB W ?_;refine D ?_;obtain rfl:=ao h;exact aC U U (cS [] 11) ⟨U,U⟩
end
section
variable {A1 A2 A3 A4 A5 A6 A7 A8:Option Addr} {c1 c2 c3 c4 c5 c6 c7 c8 n1 n2 n3 n4 n5 n6 n7 n8:Nat}
open Go.RowKit
structure Q8 where
 a_:Rg
 b_:Rg
 x_:(List Int)
 y_:(List Int)
 from_:(List (Int×Int))
 to_:(List (Int×Int))
 deriving DecidableEq,Inhabited
structure Q7 where
 e0:(List Q5)
 e1:(List Q5)
 deriving DecidableEq,Inhabited
def F5 (N:Nat)(p25:Int):Option Bool:=
 some (decide (p25≤600))
def z8 (N:Nat)(a0:Rg):Nat→Int→Int→Option Bool
 |0,_,_=>none
 |m26+1,p27,p28=>(bif decide (p28<(a0.Old.length:Int)) then (some (decide (p27≤600))) else (some false)).bind fun b29=>bif b29 then (bD (in64 (p27+1)) ((aM a0.Old p28).bind fun x32=>bD (in64 ((p27+1)+(x32.Slots.length:Int))) ((aM a0.Old p28).bind fun x37=>bD (in64 (((p27+1)+(x32.Slots.length:Int))+(x37.More.length:Int))) (bD (in64 (p28+1)) ((z8 N a0 m26) (((p27+1)+(x32.Slots.length:Int))+(x37.More.length:Int)) (p28+1)))))) else (F5 N p27)
def Hi (N:Nat)(a0:Rg)(p6:Int):Option Bool:=
 z8 N a0 N p6 0
def BX (N:Nat)(a0:Rg):Nat→Int→Int→Option Bool
 |0,_,_=>none
 |m7+1,p8,p9=>(bif decide (p9<(a0.Young.length:Int)) then (some (decide (p8≤600))) else (some false)).bind fun b10=>bif b10 then (bD (in64 (p8+1)) ((aM a0.Young p9).bind fun x13=>bD (in64 ((p8+1)+(x13.Slots.length:Int))) ((aM a0.Young p9).bind fun x18=>bD (in64 (((p8+1)+(x13.Slots.length:Int))+(x18.More.length:Int))) (bD (in64 (p9+1)) ((BX N a0 m7) (((p8+1)+(x13.Slots.length:Int))+(x18.More.length:Int)) (p9+1)))))) else (Hi N a0 p8)
def DJ (N:Nat)(a0:Rg)(a1:(List Q5)):Option Bool:=
 BX N a0 N (a1.length:Int) 0
def eG (N:Nat)(a0:Int):Option Q5:=
 some (⟨7,a0,⟨#[]⟩⟩:Q5)
def F3 (N:Nat):Option Bool:=
 some true
def z7 (N:Nat)(a0:(List Int))(a1:(List Int)):Nat→Int→Option Bool
 |0,_=>none
 |m5+1,p6=>bif decide (p6<(a0.length:Int)) then ((aM a0 p6).bind fun x8=>(aM a1 p6).bind fun x9=>bif !decide (x8=x9) then (some false) else (bD (in64 (p6+1)) ((z7 N a0 a1 m5) (p6+1)))) else (F3 N)
def pQ (N:Nat)(a0:(List Int))(a1:(List Int)):Option Bool:=
 bif !decide ((a0.length:Int)=(a1.length:Int)) then (some false) else (z7 N a0 a1 N 0)
def rV (N:Nat){σ:Type}(fy:Int→σ→Option (Bool×σ))(a1:(List Int)):Nat→Int→σ→Option σ
 |0,_,_=>none
 |m3+1,p4,p5=>bif decide (p4<(a1.length:Int)) then ((aM a1 p4).bind fun x7=>(fy x7 p5).bind fun y8=>bif !y8.1 then (some y8.2) else (bD (in64 (p4+1)) ((rV N fy a1 m3) (p4+1) y8.2))) else (some p5)
def AE (N:Nat){σ:Type}(a1:(List Int))(fy:Int→σ→Option (Bool×σ))(s0:σ):Option σ:=
 rV N fy a1 N 0 s0
def vU (N:Nat)(a0:(List Int)):Option Unit:=
 some ()
def tU (N:Nat)(x5:Int):((List Int))→Option (Option Exit×(List Int))
 |p6=>bD (cc (p6.length+([x5]:List Int).length)) (some (none,p6++([x5]:List Int)))
def t8 (N:Nat)(a0:(List Int))(a1_0:(List Int)):Option (List Int):=
 (AE N a1_0 (da (fun x st=>tU N x st)) (none,a0)).bind fun y7=>nH y7.1 (some y7.2) none (fun _=>none)
def wP (N:Nat)(a0_0:(List Int)):Option (List Int):=
 (t8 N ([]:List Int) a0_0).bind fun y4=>some y4
def xw (N:Nat)(a0_0:(List Int)):Option (List Int):=
 (wP N a0_0).bind fun y3=>(lQ N y3).bind fun y5=>some y5
def BP (N:Nat)(a0:Rg)(a1:(List Q5)):Option (List Int):=
 (jX N a0 a1).bind fun y5=>(vU N y5.all_).bind fun y11=>(xw N y5.all_).bind fun y13=>some y13
def Bw (N:Nat):Option Bool:=
 (eG N 3).bind fun y1=>(eG N 2).bind fun y2=>(eG N 3).bind fun y8=>(eG N 5).bind fun y9=>(eG N 1).bind fun y13=>(dD N (⟨([(⟨11,0,0,0,[],([y1,y2]:List Q5)⟩:Ra),(⟨11,0,0,0,[],[]⟩:Ra)]:List Ra),([(⟨11,0,0,0,[],[]⟩:Ra)]:List Ra)⟩:Rg) ([y13]:List Q5)).bind fun y16=>(pQ N y16 ([1,3,2]:List Int)).bind fun y21=>(bif y21 then ((eG N 1).bind fun y23=>(eJ N (⟨([(⟨11,0,0,0,[],([y1,y2]:List Q5)⟩:Ra),(⟨11,0,0,0,[],[]⟩:Ra)]:List Ra),([(⟨11,0,0,0,[],[]⟩:Ra)]:List Ra)⟩:Rg) ([y23]:List Q5)).bind fun y26=>(pQ N y26 ([1,2,3]:List Int)).bind fun y31=>some y31) else (some false)).bind fun b22=>((bif b22 then ((eG N 1).bind fun y33=>(eJ N (⟨([(⟨8,0,0,0,([(⟨1,0,⟨#[]⟩⟩:Q5)]:List Q5),([y8,y9]:List Q5)⟩:Ra),(⟨11,0,0,0,[],[]⟩:Ra),(⟨11,0,0,0,[],[]⟩:Ra)]:List Ra),[]⟩:Rg) ([y33]:List Q5)).bind fun y36=>(pQ N y36 ([1]:List Int)).bind fun y41=>some y41) else (some false)).bind fun b32=>((bif b32 then ((eG N 1).bind fun y43=>(eG N 3).bind fun y44=>(eJ N (⟨([(⟨8,0,0,0,([(⟨1,0,⟨#[]⟩⟩:Q5)]:List Q5),([y8,y9]:List Q5)⟩:Ra),(⟨11,0,0,0,[],[]⟩:Ra),(⟨11,0,0,0,[],[]⟩:Ra)]:List Ra),[]⟩:Rg) ([y43,y44]:List Q5)).bind fun y47=>(pQ N y47 ([1,3,5]:List Int)).bind fun y52=>some y52) else (some false)).bind fun b42=>((bif b42 then ((eG N 1).bind fun y54=>(eG N 3).bind fun y55=>(BP N (⟨([(⟨8,0,0,0,([(⟨1,0,⟨#[]⟩⟩:Q5)]:List Q5),([y8,y9]:List Q5)⟩:Ra),(⟨11,0,0,0,[],[]⟩:Ra),(⟨11,0,0,0,[],[]⟩:Ra)]:List Ra),[]⟩:Rg) ([y54,y55]:List Q5)).bind fun y58=>(pQ N y58 ([1,3]:List Int)).bind fun y63=>some y63) else (some false)).bind fun b53=>(some b53))))
def Dj (N:Nat)(p4:(List Ra)):Option (List Ra):=
 some p4
def ww (N:Nat)(a0:(List Ra)):Nat→(List Ra)→Int→Option (List Ra)
 |0,_,_=>none
 |m5+1,p6,p7=>bif decide (p7<(a0.length:Int)) then ((aM a0 p7).bind fun x9=>bD (cc (([]:List Q5).length+x9.Slots.length)) (bD (cc (([]:List Q5).length+x9.More.length)) (bD (cc (p6.length+([(⟨x9.Kind,x9.Shape,x9.Flags,x9.Age,([]:List Q5)++x9.Slots,([]:List Q5)++x9.More⟩:Ra)]:List Ra).length)) (bD (in64 (p7+1)) ((ww N a0 m5) (p6++([(⟨x9.Kind,x9.Shape,x9.Flags,x9.Age,([]:List Q5)++x9.Slots,([]:List Q5)++x9.More⟩:Ra)]:List Ra)) (p7+1)))))) else (Dj N p6)
def xR (N:Nat)(a0:(List Ra)):Option (List Ra):=
 ww N a0 N ([]:List Ra) 0
def MH (N:Nat)(a0:Rg):Option Rg:=
 (xR N a0.Young).bind fun y5=>(xR N a0.Old).bind fun y7=>some (⟨y5,y7⟩:Rg)
def r9 (N:Nat)(a0:Int)(a1:Rg):Option Bool:=
 (eo N a1 a0).bind fun y4=>some (!y4)
def AL (N:Nat):Option Bool:=
 some true
def AK (N:Nat)(kb20:Int→Option Bool)(a0:Rg)(p21:Int):Option Bool:=
 bD (in64 (p21+1)) (kb20 (p21+1))
def tG (N:Nat)(kb20:Int→Option Bool)(a0:Rg)(p21:Int)(x24:(List Ra)):Nat→Int→Option Bool
 |0,_=>none
 |m26+1,p27=>bif decide (p27<(x24.length:Int)) then ((aM x24 p27).bind fun x29=>(dH N x29).bind fun y34=>(bif !y34 then (some true) else ((eT N x29).bind fun y36=>(bJ N y36 (fun x=>r9 N x a0)).bind fun y38=>some y38)).bind fun b35=>(bif b35 then (some true) else ((gu N x29).bind fun y40=>(bJ N y40 (fun x=>r9 N x a0)).bind fun y42=>some y42)).bind fun b39=>bif b39 then (some false) else (bD (in64 (p27+1)) ((tG N kb20 a0 p21 x24 m26) (p27+1)))) else (AK N kb20 a0 p21)
def tH (N:Nat)(a0:Rg):Nat→Int→Option Bool
 |0,_=>none
 |m20+1,p21=>bif decide (p21<(([a0.Young,a0.Old]:List (List Ra)).length:Int)) then ((aM ([a0.Young,a0.Old]:List (List Ra)) p21).bind fun x24=>tG N (tH N a0 m20) a0 p21 x24 N 0) else (AL N)
def BQ (N:Nat)(a0:Rg):Option Bool:=
 tH N a0 N 0
def ug (N:Nat)(a1:(List Q5))(a0:Rg):Nat→Int→Option Bool
 |0,_=>none
 |m8+1,p9=>bif decide (p9<(a1.length:Int)) then ((aM a1 p9).bind fun x11=>(fX N x11).bind fun y13=>(bif y13.2 then ((eo N a0 y13.1).bind fun y15=>some (!y15)) else (some false)).bind fun b14=>bif b14 then (some false) else (bD (in64 (p9+1)) ((ug N a1 a0 m8) (p9+1)))) else (BQ N a0)
def Mo (N:Nat)(a0:Rg)(a1:(List Q5)):Option Bool:=
 bD (in64 ((a0.Young.length:Int)+(a0.Old.length:Int))) (bif decide (1048576<(a0.Young.length:Int)+(a0.Old.length:Int)) then (some false) else (ug N a1 a0 N 0))
def EW (N:Nat):Option Bool:=
 some true
def xL (N:Nat)(a1:(List Int))(a0:Rg):Nat→Int→Option Bool
 |0,_=>none
 |m6+1,p7=>bif decide (p7<(a1.length:Int)) then ((aM a1 p7).bind fun x9=>(lm N a0 x9).bind fun y10=>bif !y10 then (some false) else (bD (in64 (p7+1)) ((xL N a1 a0 m6) (p7+1)))) else (EW N)
def uo (N:Nat)(a0:Rg)(a1:(List Int)):Option Bool:=
 xL N a1 a0 N 0
def Dn (N:Nat)(p5:(List Int)):Option (List Int):=
 some p5
def uz (N:Nat)(kb6:(List Int)→Int→Option (List Int))(p8:Int)(a0:Ra)(p12:(List Int)):Option (List Int):=
 bD (in64 (p8+1)) (kb6 p12 (p8+1))
def rJ (N:Nat)(a0:Ra):Nat→(List Int)→Int→Option (List Int)
 |0,_,_=>none
 |m6+1,p7,p8=>bif decide (p8<(a0.More.length:Int)) then ((aM a0.More p8).bind fun x13=>(pt N x13).bind fun y14=>(bif y14 then ((pS N a0.Kind p8).bind fun y16=>some y16) else (some false)).bind fun b15=>bif b15 then ((aM a0.More p8).bind fun x18=>bD (cc (p7.length+([x18.N]:List Int).length)) (uz N (rJ N a0 m6) p8 a0 (p7++([x18.N]:List Int)))) else (uz N (rJ N a0 m6) p8 a0 p7)) else (Dn N p7)
def sN (N:Nat)(a0:Ra):Option (List Int):=
 rJ N a0 N [] 0
def F2 (N:Nat):Option Bool:=
 some true
def z6 (N:Nat)(a1:(List Ra))(a0:Rg):Nat→Int→Option Bool
 |0,_=>none
 |m6+1,p7=>bif decide (p7<(a1.length:Int)) then ((aM a1 p7).bind fun x9=>(cP N x9).bind fun y13=>(bif !y13 then (some true) else ((aM a1 p7).bind fun x15=>(jr N x15).bind fun y18=>(uo N a0 y18).bind fun y20=>some (!y20))).bind fun b14=>(bif b14 then (some true) else ((aM a1 p7).bind fun x22=>(sN N x22).bind fun y25=>(uo N a0 y25).bind fun y27=>some (!y27))).bind fun b21=>bif b21 then (some false) else (bD (in64 (p7+1)) ((z6 N a1 a0 m6) (p7+1)))) else (F2 N)
def BU (N:Nat)(a0:Rg)(a1:(List Ra)):Option Bool:=
 z6 N a1 a0 N 0
def Ow (N:Nat)(a0:Rg)(a1:(List Q5)):Option Bool:=
 bD (in64 ((a0.Young.length:Int)+(a0.Old.length:Int))) ((bif decide ((a0.Young.length:Int)+(a0.Old.length:Int)≤1048576) then ((BU N a0 a0.Young).bind fun y7=>some y7) else (some false)).bind fun b6=>(bif b6 then ((BU N a0 a0.Old).bind fun y9=>some y9) else (some false)).bind fun b8=>(bif b8 then ((fY N a1).bind fun y11=>(uo N a0 y11).bind fun y13=>some y13) else (some false)).bind fun b10=>some b10)
def wv (N:Nat)(p6:(List Int)):Option (List Int):=
 some p6
def pP (N:Nat)(kb7:(List Int)→Int→Option (List Int))(p9:Int)(p12:(List Int)):Option (List Int):=
 bD (in64 (p9+1)) (kb7 p12 (p9+1))
def mR (N:Nat)(kb7:(List Int)→Int→Option (List Int))(p9:Int):Nat→(List Int)→Int→Option (List Int)
 |0,_,_=>none
 |m13+1,p14,p15=>(bif decide (0<p15) then (bD (in64 (p15 - 1)) ((aM p14 (p15 - 1)).bind fun x18=>(aM p14 p15).bind fun x19=>some (decide (x19<x18)))) else (some false)).bind fun b16=>bif b16 then ((aM p14 p15).bind fun x21=>bD (in64 (p15 - 1)) ((aM p14 (p15 - 1)).bind fun x23=>(aM p14 p15).bind fun x24=>bD (in64 (p15 - 1)) ((aM (List.set p14 p15.toNat x23) (p15 - 1)).bind fun x26=>bD (in64 (p15 - 1)) ((mR N kb7 p9 m13) (List.set (List.set p14 p15.toNat x23) ((p15 - 1).toNat) x21) (p15 - 1))))) else (pP N kb7 p9 p14)
def gm (N:Nat):Nat→(List Int)→Int→Option (List Int)
 |0,_,_=>none
 |m7+1,p8,p9=>bif decide (p9<(p8.length:Int)) then (mR N (gm N m7) p9 N p8 p9) else (wv N p8)
def ph (N:Nat)(a0:(List Int)):Option (List Int):=
 bD (cc (([]:List Int).length+a0.length)) (gm N N (([]:List Int)++a0) 1)
def MG (N:Nat)(a0:Rg)(a1:(List Q5)):Option (List Int):=
 (fY N a1).bind fun y5=>(mD N a0 ([]:List Int) y5).bind fun y8=>(gl N a0 y8 0).bind fun y10=>(ph N y10).bind fun y12=>some y12
def BW (N:Nat)(a0:Rg)(a1:(List Q5)):Option (List Int):=
 (io N a0 a1).bind fun y5=>(ph N y5).bind fun y7=>some y7
def vX (N:Nat)(a0:(List Ra)):Option (List Ra):=
 bD (cc (([]:List Ra).length+a0.length)) (some (([]:List Ra)++a0))
def zg (N:Nat)(p5:(List Ra)):Option (List Ra):=
 some p5
def qS (N:Nat)(kb6:(List Ra)→Int→Option (List Ra))(y2:((List Ra)))(p8:Int)(p11:(List Ra)):Option (List Ra):=
 bD (in64 (p8+1)) (kb6 p11 (p8+1))
def nK (N:Nat)(y2:((List Ra))):Nat→(List Ra)→Int→Option (List Ra)
 |0,_,_=>none
 |m6+1,p7,p8=>bif decide (p8<(y2.length:Int)) then ((aM p7 p8).bind fun x12=>(bif decide (x12.Kind=10) then ((dH N x12).bind fun y17=>some y17) else (some false)).bind fun b16=>bif b16 then (bD ((0:Int)≤1∧0≤(1:Int).toNat∧(1:Int).toNat≤x12.More.length) ((aM p7 p8).bind fun x21=>qS N (nK N y2 m6) y2 p8 (List.set p7 p8.toNat (⟨x21.Kind,x21.Shape,x21.Flags,x21.Age,x21.Slots,(x12.More.drop 0).take ((1:Int).toNat - 0)⟩:Ra)))) else (qS N (nK N y2 m6) y2 p8 p7)) else (zg N p7)
def tD (N:Nat)(a0:(List Ra)):Option (List Ra):=
 (vX N a0).bind fun y2=>nK N y2 N y2 0
def xF (N:Nat)(a0:Rg):Option Rg:=
 (tD N a0.Young).bind fun y5=>(tD N a0.Old).bind fun y7=>some (⟨y5,y7⟩:Rg)
def wd (N:Nat)(a0:Q8)(a1:Q5)(a2:Q5):Option Bool:=
 (fX N a1).bind fun y12=>(fX N a2).bind fun y13=>(bif !y12.2 then (some true) else (some (!y13.2))).bind fun b14=>bif b14 then (some (decide (a1=a2))) else ((bif !decide (a1.Kind=a2.Kind) then (some true) else (some (!(a1.S.toList==a2.S.toList)))).bind fun b16=>bif b16 then (some false) else ((bif !((lk a0.from_ y12.1).isSome) then (some true) else (some (!((lk a0.to_ y13.1).isSome)))).bind fun b18=>bif b18 then ((bif !((lk a0.from_ y12.1).isSome) then (some (!((lk a0.to_ y13.1).isSome))) else (some false)).bind fun b20=>(bif b20 then ((eo N a0.a_ y12.1).bind fun y22=>(eo N a0.b_ y13.1).bind fun y23=>some (y22==y23)) else (some false)).bind fun b21=>some b21) else (some (decide ((lk a0.from_ y12.1).getD 0=(lk a0.to_ y13.1).getD 0)))))
def vW (N:Nat)(ff:(Q5×Q5)→Option Bool):Option Bool:=
 some true
def o8 (N:Nat)(ff:(Q5×Q5)→Option Bool)(a0:(List Q5))(a1:(List Q5)):Nat→Int→Option Bool
 |0,_=>none
 |m5+1,p6=>bif decide (p6<(a0.length:Int)) then ((aM a0 p6).bind fun x8=>(aM a1 p6).bind fun x10=>(ff (x8,x10)).bind fun y12=>bif !y12 then (some false) else (bD (in64 (p6+1)) ((o8 N ff a0 a1 m5) (p6+1)))) else (vW N ff)
def wO (N:Nat)(a0:(List Q5))(a1:(List Q5))(ff:(Q5×Q5)→Option Bool):Option Bool:=
 bif !decide ((a0.length:Int)=(a1.length:Int)) then (some false) else (o8 N ff a0 a1 N 0)
def kL (N:Nat)(a0:Q8)(a1:(List Q5))(a2:(List Q5)):Option Bool:=
 (wO N a1 a2 (fun x=>wd N a0 x.1 x.2)).bind fun y12=>some y12
def tC (N:Nat)(a0:Ra)(a1:(List Int)):Option Ra:=
 (bif decide (a0.Kind=8) then ((dH N a0).bind fun y7=>some y7) else (some false)).bind fun b6=>bif b6 then ((jt N a0 a1).bind fun y9=>some y9) else (some a0)
def AN (N:Nat):Option Bool:=
 some true
def tI (N:Nat)(y24:((List Int)))(y9:(Rg))(y14:(Rg))(p31:(List (Int×Int)))(p32:(List (Int×Int))):Nat→Int→(List Int)→(List Int)→Option Bool
 |0,_,_,_=>none
 |m46+1,p47,p48,p49=>bif decide (p47<(y24.length:Int)) then ((aM p48 p47).bind fun x51=>(gL N y9 x51).bind fun y52=>(tC N y52 p48).bind fun y57=>(aM p49 p47).bind fun x62=>(gL N y14 x62).bind fun y63=>(tC N y63 p49).bind fun y68=>(bif !decide (y57.Kind=y68.Kind) then (some true) else (some (!decide (y57.Shape=y68.Shape)))).bind fun b77=>(bif b77 then (some true) else (some (!decide (y57.Flags=y68.Flags)))).bind fun b78=>(bif b78 then (some true) else ((kL N (⟨y9,y14,p48,p49,p31,p32⟩:Q8) y57.Slots y68.Slots).bind fun y80=>some (!y80))).bind fun b79=>(bif b79 then (some true) else ((kL N (⟨y9,y14,p48,p49,p31,p32⟩:Q8) y57.More y68.More).bind fun y82=>some (!y82))).bind fun b81=>bif b81 then (some false) else (bD (in64 (p47+1)) ((tI N y24 y9 y14 p31 p32 m46) (p47+1) p48 p49))) else (AN N)
def AO (N:Nat)(a1:(List Q5))(a3:(List Q5))(y9:(Rg))(y14:(Rg))(y24:((List Int)))(y27:((List Int)))(p31:(List (Int×Int)))(p32:(List (Int×Int))):Option Bool:=
 (kL N (⟨y9,y14,y24,y27,p31,p32⟩:Q8) a1 a3).bind fun y43=>bif !y43 then (some false) else (tI N y24 y9 y14 p31 p32 N 0 y24 y27)
def tJ (N:Nat)(y24:((List Int)))(a1:(List Q5))(a3:(List Q5))(y9:(Rg))(y14:(Rg))(y27:((List Int))):Nat→Int→(List (Int×Int))→(List (Int×Int))→Option Bool
 |0,_,_,_=>none
 |m33+1,p34,p35,p36=>bif decide (p34<(y24.length:Int)) then ((aM y24 p34).bind fun x38=>(aM y27 p34).bind fun x39=>bD (in64 (p34+1)) ((tJ N y24 a1 a3 y9 y14 y27 m33) (p34+1) (tW (PL p35 x38 0) x38 p34) (tW (PL p36 x39 0) x39 p34))) else (AO N a1 a3 y9 y14 y24 y27 p35 p36)
def rE (N:Nat)(a0:Rg)(a1:(List Q5))(a2:Rg)(a3:(List Q5)):Option Bool:=
 (xF N a0).bind fun y9=>(xF N a2).bind fun y14=>(dD N y9 a1).bind fun y24=>(dD N y14 a3).bind fun y27=>bif !decide ((y24.length:Int)=(y27.length:Int)) then (some false) else (tJ N y24 a1 a3 y9 y14 y27 N 0 ([]:(List (Int×Int))) ([]:(List (Int×Int))))
def Jg (N:Nat)(a0:Rg)(a1:Rg)(a2:Q7):Option Bool:=
 (DJ N a0 a2.e0).bind fun y10=>(bif !y10 then (some true) else ((DJ N a1 a2.e1).bind fun y12=>some (!y12))).bind fun b11=>bif b11 then ((Bw N).bind fun y14=>some y14) else ((rE N a0 a2.e0 a1 a2.e1).bind fun y15=>(fB N a0 a2.e0 a1 a2.e1).bind fun y16=>(bif y15==y16 then ((rE N a1 a2.e1 a0 a2.e0).bind fun y18=>some (y15==y18)) else (some false)).bind fun b17=>(bif b17 then ((rE N a0 a2.e0 a0 a2.e0).bind fun y20=>some y20) else (some false)).bind fun b19=>(bif b19 then ((Bw N).bind fun y22=>some y22) else (some false)).bind fun b21=>some b21)
def Mn (N:Nat)(a0:(List Q5)):Option Ra:=
 some (⟨11,0,0,0,[],a0⟩:Ra)
def Mv (N:Nat)(a0:Int):Option Q5:=
 some (⟨7,a0,⟨#[]⟩⟩:Q5)
def zv (N:Nat)(x11:Int×Int):((List Int)×(List Int))→Option (Option Exit×((List Int)×(List Int)))
 |(p12,p13)=>bD (cc (p12.length+([x11.2]:List Int).length)) (bD (in64 (2*x11.1)) (bD (in64 ((2*x11.1)+2)) (bD (cc (p13.length+([(2*x11.1)+2]:List Int).length)) (some (none,(p12++([x11.2]:List Int),p13++([(2*x11.1)+2]:List Int)))))))
def K6 (N:Nat)(a0:Rg)(a1:(List Q5)):Option ((List Int)×(List Int)):=
 (eJ N a0 a1).bind fun y7=>(iP N y7).bind fun y9=>(ew N y7 (da (fun x st=>zv N x st)) (none,([],[]))).bind fun y14=>nH y14.1 (some (y14.2.1,y14.2.2)) none (fun _=>none)
def pf (N:Nat)(a0:Int):Option Q5:=
 some (⟨7,a0,⟨#[]⟩⟩:Q5)
def FQ (N:Nat):Option Bool:=
 (pf N 3).bind fun y1=>(pf N 1).bind fun y10=>(f3 N (⟨([(⟨1,0,0,0,([(⟨1,0,⟨#[]⟩⟩:Q5),y1]:List Q5),[]⟩:Ra),(⟨1,0,0,1,([(⟨1,0,⟨#[]⟩⟩:Q5)]:List Q5),[]⟩:Ra),(⟨1,0,0,1,([(⟨1,0,⟨#[]⟩⟩:Q5)]:List Q5),[]⟩:Ra)]:List Ra),[]⟩:Rg) ([y10]:List Q5) []).bind fun y13=>(bif decide (y13.2.2.2=0) then (some (decide ((y13.1.Young.length:Int)=1))) else (some false)).bind fun b42=>((bif b42 then ((aM y13.1.Young 0).bind fun x44=>some (decide (x44.Age=1))) else (some false)).bind fun b43=>((bif b43 then ((aM y13.1.Young 0).bind fun x46=>(aM x46.Slots 1).bind fun x51=>(pf N 2).bind fun y54=>some (decide (x51=y54))) else (some false)).bind fun b45=>((bif b45 then (some (decide ((y13.1.Old.length:Int)=1))) else (some false)).bind fun b55=>((bif b55 then (some (decide ((y13.2.1.length:Int)=1))) else (some false)).bind fun b56=>((bif b56 then ((aM y13.2.1 0).bind fun x58=>(pf N 1).bind fun y59=>some (decide (x58=y59))) else (some false)).bind fun b57=>((bif b57 then (some (decide ((y13.2.2.1.length:Int)=0))) else (some false)).bind fun b60=>(some b60)))))))
def G1 (N:Nat)(p3:(List Ra)):Option (List Ra):=
 some p3
def Bv (N:Nat)(a0:(List Ra)):Nat→(List Ra)→Int→Option (List Ra)
 |0,_,_=>none
 |m4+1,p5,p6=>(bif decide (p6<(a0.length:Int)) then (some (decide (p6<40))) else (some false)).bind fun b8=>bif b8 then ((aM a0 p6).bind fun x10=>bD ((0:Int)≤min (x10.Slots.length:Int) 20∧0≤(min (x10.Slots.length:Int) 20).toNat∧(min (x10.Slots.length:Int) 20).toNat≤x10.Slots.length) (bD ((0:Int)≤min (x10.More.length:Int) 40∧0≤(min (x10.More.length:Int) 40).toNat∧(min (x10.More.length:Int) 40).toNat≤x10.More.length) (bD (cc (p5.length+([(⟨x10.Kind,x10.Shape,x10.Flags,x10.Age,(x10.Slots.drop 0).take ((min (x10.Slots.length:Int) 20).toNat - 0),(x10.More.drop 0).take ((min (x10.More.length:Int) 40).toNat - 0)⟩:Ra)]:List Ra).length)) (bD (in64 (p6+1)) ((Bv N a0 m4) (p5++([(⟨x10.Kind,x10.Shape,x10.Flags,x10.Age,(x10.Slots.drop 0).take ((min (x10.Slots.length:Int) 20).toNat - 0),(x10.More.drop 0).take ((min (x10.More.length:Int) 40).toNat - 0)⟩:Ra)]:List Ra)) (p6+1)))))) else (G1 N p5)
def Dz (N:Nat)(a0:(List Ra)):Option (List Ra):=
 Bv N a0 N [] 0
def Jf (N:Nat)(a0:Rg):Option Rg:=
 (Dz N a0.Young).bind fun y5=>(Dz N a0.Old).bind fun y7=>some (⟨y5,y7⟩:Rg)
def EV (N:Nat)(p3:(List Int)):Option (List Int):=
 some p3
def xJ (N:Nat)(kb4:(List Int)→Int→Option (List Int))(p6:Int)(a0:(List Q5))(p10:(List Int)):Option (List Int):=
 bD (in64 (p6+1)) (kb4 p10 (p6+1))
def sK (N:Nat)(a0:(List Q5)):Nat→(List Int)→Int→Option (List Int)
 |0,_,_=>none
 |m4+1,p5,p6=>bif decide (p6<(a0.length:Int)) then ((aM a0 p6).bind fun x11=>(bif decide (x11.Kind=7) then (some true) else ((aM a0 p6).bind fun x13=>some (decide (x13.Kind=9)))).bind fun b12=>bif b12 then ((aM a0 p6).bind fun x15=>bD (cc (p5.length+([x15.N]:List Int).length)) (xJ N (sK N a0 m4) p6 a0 (p5++([x15.N]:List Int)))) else (xJ N (sK N a0 m4) p6 a0 p5)) else (EV N p5)
def F0 (N:Nat)(a0:(List Q5)):Option (List Int):=
 sK N a0 N [] 0
def um (N:Nat)(a0:Int):Option Bool:=
 (bif decide (0<a0) then (some (decide (a0.tmod 2=1))) else (some false)).bind fun b1=>some b1
def Jw (N:Nat)(a0:Rg)(a1:Int):Option Bool:=
 bif decide (a1<1) then (some false) else ((um N a1).bind fun y5=>bif y5 then (bD (in64 (a1.tdiv 2)) (some (decide (a1.tdiv 2<(a0.Young.length:Int))))) else (bD (in64 (a1.tdiv 2)) (bD (in64 ((a1.tdiv 2) - 1)) (some (decide ((a1.tdiv 2) - 1<(a0.Old.length:Int)))))))
def EU (N:Nat):Option Bool:=
 some true
def xI (N:Nat)(a1:(List Int))(a0:Rg):Nat→Int→Option Bool
 |0,_=>none
 |m6+1,p7=>bif decide (p7<(a1.length:Int)) then ((aM a1 p7).bind fun x9=>(Jw N a0 x9).bind fun y10=>bif !y10 then (some false) else (bD (in64 (p7+1)) ((xI N a1 a0 m6) (p7+1)))) else (EU N)
def ul (N:Nat)(a0:Rg)(a1:(List Int)):Option Bool:=
 xI N a1 a0 N 0
def F1 (N:Nat):Option Bool:=
 some true
def xK (N:Nat)(kb10:Int→Option Bool)(p11:Int)(a0:Rg)(p16:Int)(p17:Int)(p18:Int)(p19:Int)(p20:(List Q5))(p21:(List Q5)):Option Bool:=
 (cP N (⟨p16,p17,p18,p19,p20,p21⟩:Ra)).bind fun y32=>(bif !y32 then (some true) else ((jr N (⟨p16,p17,p18,p19,p20,p21⟩:Ra)).bind fun y34=>(ul N a0 y34).bind fun y36=>some (!y36))).bind fun b33=>(bif b33 then (some true) else ((sN N (⟨p16,p17,p18,p19,p20,p21⟩:Ra)).bind fun y38=>(ul N a0 y38).bind fun y40=>some (!y40))).bind fun b37=>bif b37 then (some false) else (bD (in64 (p11+1)) (kb10 (p11+1)))
def sL (N:Nat)(a0:Rg):Nat→Int→Option Bool
 |0,_=>none
 |m10+1,p11=>bD (in64 ((a0.Young.length:Int)+(a0.Old.length:Int))) (bif decide (p11<(a0.Young.length:Int)+(a0.Old.length:Int)) then (bif decide (p11<(a0.Young.length:Int)) then ((aM a0.Young p11).bind fun x23=>xK N (sL N a0 m10) p11 a0 x23.Kind x23.Shape x23.Flags x23.Age x23.Slots x23.More) else (bD (in64 (p11 - (a0.Young.length:Int))) ((aM a0.Old (p11 - (a0.Young.length:Int))).bind fun x28=>xK N (sL N a0 m10) p11 a0 x28.Kind x28.Shape x28.Flags x28.Age x28.Slots x28.More))) else (F1 N))
def Hh (N:Nat)(a0:Rg)(a1:(List Q5)):Option Bool:=
 (F0 N a1).bind fun y5=>(ul N a0 y5).bind fun y7=>bif !y7 then (some false) else (sL N a0 N 0)
def FP (N:Nat)(p5:(List Int)):Option (List Int):=
 some p5
def xq (N:Nat)(kb6:(List Int)→Int→Option (List Int))(p8:Int)(a0:Rg)(p12:(List Int)):Option (List Int):=
 bD (in64 (p8+1)) (kb6 p12 (p8+1))
def EJ (N:Nat)(kb6:(List Int)→Int→Option (List Int))(p8:Int)(p7:(List Int))(a0:Rg)(p28:Bool):Option (List Int):=
 bif p28 then (bD (in64 (2*p8)) (bD (in64 ((2*p8)+2)) (bD (cc (p7.length+([(2*p8)+2]:List Int).length)) (xq N kb6 p8 a0 (p7++([(2*p8)+2]:List Int)))))) else (xq N kb6 p8 a0 p7)
def xp (N:Nat)(kb6:(List Int)→Int→Option (List Int))(p8:Int)(p7:(List Int))(y21:((List Int)))(y23:((List Int)))(a0:Rg):Nat→Bool→Int→Option (List Int)
 |0,_,_=>none
 |m29+1,p30,p31=>bif decide (p31<((y21++y23).length:Int)) then ((bif p30 then (some true) else ((aM (y21++y23) p31).bind fun x34=>(um N x34).bind fun y35=>some y35)).bind fun b33=>bD (in64 (p31+1)) ((xp N kb6 p8 p7 y21 y23 a0 m29) b33 (p31+1))) else (EJ N kb6 p8 p7 a0 p30)
def zS (N:Nat)(a0:Rg):Nat→(List Int)→Int→Option (List Int)
 |0,_,_=>none
 |m6+1,p7,p8=>bif decide (p8<(a0.Old.length:Int)) then ((aM a0.Old p8).bind fun x13=>(aM a0.Old p8).bind fun x17=>(jr N x13).bind fun y21=>(sN N x17).bind fun y23=>bD (cc (y21.length+y23.length)) (xp N (zS N a0 m6) p8 p7 y21 y23 a0 N false 0)) else (FP N p7)
def Bu (N:Nat)(a0:Rg):Option (List Int):=
 zS N a0 N [] 0
def yh (N:Nat)(a0:Rg)(a1:(List Q5))(a2:(List Int)):Option (List Int):=
 (mG N a0 a1 a2).bind fun y6=>bif !y6 then (some []) else ((kV N a0 a1 a2).bind fun y9=>some y9.met_)
def wJ (N:Nat)(y41:((List Int)))(p44:Int):Option Bool:=
 some (decide (p44=(y41.length:Int)))
def pB (N:Nat)(kb45:Int→Int→Option Bool)(p47:Int)(y37:((List Int)))(y41:((List Int)))(p50:Int):Option Bool:=
 bD (in64 (p47+1)) (kb45 p50 (p47+1))
def mj (N:Nat)(y37:((List Int)))(y41:((List Int))):Nat→Int→Int→Option Bool
 |0,_,_=>none
 |m45+1,p46,p47=>bif decide (p47<(y37.length:Int)) then ((aM y37 p47).bind fun x51=>(um N x51).bind fun y52=>bif y52 then (bD (in64 (p46+1)) ((aM y37 p47).bind fun x55=>(sc N x55 y41).bind fun y56=>bif !y56 then (some false) else (pB N (mj N y37 y41 m45) p47 y37 y41 (p46+1)))) else (pB N (mj N y37 y41 m45) p47 y37 y41 p46)) else (wJ N y41 p46)
def wK (N:Nat)(a1:(List Q5))(y7:(Rg))(p26:(List Q5)):Option Bool:=
 (eJ N y7 p26).bind fun y37=>(Bu N y7).bind fun y39=>(yh N y7 ((a1.drop 0).take ((min (a1.length:Int) 40).toNat - 0)) y39).bind fun y41=>mj N y37 y41 N 0 0
def pA (N:Nat)(a1:(List Q5))(y7:(Rg)):Nat→(List Q5)→Int→Option Bool
 |0,_,_=>none
 |m27+1,p28,p29=>bif decide (p29<(y7.Old.length:Int)) then (bD (in64 (2*p29)) (bD (in64 ((2*p29)+2)) (bD (cc (p28.length+([(⟨9,(2*p29)+2,⟨#[]⟩⟩:Q5)]:List Q5).length)) (bD (in64 (p29+1)) ((pA N a1 y7 m27) (p28++([(⟨9,(2*p29)+2,⟨#[]⟩⟩:Q5)]:List Q5)) (p29+1)))))) else (wK N a1 y7 p28)
def Je (N:Nat)(a0:Rg)(a1:(List Q5)):Option Bool:=
 (FQ N).bind fun y5=>bif !y5 then (some false) else ((Jf N a0).bind fun y7=>bD ((0:Int)≤min (a1.length:Int) 40∧0≤(min (a1.length:Int) 40).toNat∧(min (a1.length:Int) 40).toNat≤a1.length) ((Hh N y7 ((a1.drop 0).take ((min (a1.length:Int) 40).toNat - 0))).bind fun y15=>bif !y15 then ((Bu N y7).bind fun y17=>(yh N y7 ((a1.drop 0).take ((min (a1.length:Int) 40).toNat - 0)) y17).bind fun y20=>some (decide ((y20.length:Int)=0))) else (bD (cc (([]:List Q5).length+((a1.drop 0).take ((min (a1.length:Int) 40).toNat - 0)).length)) (pA N a1 y7 N (([]:List Q5)++((a1.drop 0).take ((min (a1.length:Int) 40).toNat - 0))) 0))))
end
section
variable {A1 A2 A3 A4 A5 A6 A7 A8:Option Addr} {c1 c2 c3 c4 c5 c6 c7 c8 n1 n2 n3 n4 n5 n6 n7 n8:Nat}
open Go.RowKit
def Sat {ρ:Type}(m:Option ρ)(R:ρ→Prop):Prop:= ∃r,m=some r∧R r
theorem aR {ρ:Type}{x:ρ}{R:ρ→Prop}(h:R x):Sat (some x) R:=⟨x,rfl,h⟩
theorem Sat.eq {ρ:Type}{m:Option ρ}{x:ρ}(h:Sat m (· =x)):m=some x:=by obtain ⟨r,h1,rfl⟩:=h;exact h1
theorem Sat.mono {ρ:Type}{m:Option ρ}{R Q:ρ→Prop}(h:Sat m R)(k: ∀x,R x→Q x):Sat m Q:=by obtain ⟨r,h1,h2⟩:=h;exact ⟨r,h1,k _ h2⟩
theorem Sat.bind {ρ σ:Type}{m:Option σ}{f:σ→Option ρ}{P:σ→Prop}{R:ρ→Prop}(h:Sat m P)(k: ∀x,P x→Sat (f x) R):Sat (m.bind f) R:=by obtain ⟨x,rfl,h2⟩:=h;exact k x h2
theorem pJ {ρ:Type}{b:Bool}{x y:Option ρ}{R:ρ→Prop}(h1:b=true→Sat x R)(h2:b=false→Sat y R):Sat (bif b then x else y) R:=by cases b with|true=>exact h1 rfl|false=>exact h2 rfl
theorem dR {ρ:Type}{p:Prop}[Decidable p]{x y:Option ρ}{R:ρ→Prop}(h1:p→Sat x R)(h2: ¬p→Sat y R):Sat (bif decide p then x else y) R:=by
 by_cases h:p
 ·rw [Rk h];exact h1 h
 rw [Rl h];exact h2 h
theorem bs {ρ σ:Type}{x:σ}{f:σ→Option ρ}:(some x).bind f=f x:=Eq.trans rfl rfl
theorem ct {ρ:Type}{x y:ρ}:(bif true then x else y)=x:=Eq.trans rfl rfl
theorem cf {ρ:Type}{x y:ρ}:(bif false then x else y)=y:=Eq.trans rfl rfl
theorem nt:(!true)=false:=Eq.trans rfl rfl
theorem nf:(!false)=true:=Eq.trans rfl rfl
theorem cF {a b:Int}(h:a<b):decide (a<b)=true:=Rk h
theorem cD {a b:Int}(h:b≤a):decide (a<b)=false:=Rl Y
theorem La {a b:Int}(h:a≤b):decide (a≤b)=true:=Rk h
theorem Lb {a b:Int}(h:b<a):decide (a≤b)=false:=Rl Y
theorem nn {a b:Int}(h:a=b):decide (a=b)=true:=Rk h
theorem fK {a b:Int}(h:a≠b):decide (a=b)=false:=Rl h
theorem kw {ρ:Type}{b:Prop}[Decidable b]{m:Option ρ}(h:b):bD b m=m:=if_pos h
theorem r64 {ρ:Type}{a:Int}{m:Option ρ}(h1: -9000000000000000000≤a)(h2:a≤9000000000000000000):bD (in64 a) m=m:=if_pos ⟨by omega,by omega⟩
theorem rF {ρ:Type}{n:Nat}{m:Option ρ}(h:n≤1000000):bD (cc n) m=m:=if_pos (by unfold cc;omega)
theorem Fj {α:Type}{xs:List α}{i:Int}(h0:0≤i)(h1:i.toNat<xs.length):aM xs i=some xs[i.toNat]:=by
 unfold aM;rw [if_neg Y,List.getElem?_eq_getElem h1]
theorem bf {α:Type}{xs:List α}{i:Nat}(h1:i<xs.length):aM xs (i:Int)=some xs[i]:=by
 unfold aM;rw [if_neg Y,Int.toNat_natCast,List.getElem?_eq_getElem h1]
theorem cI {σ ρ:Type}(L:Nat→Nat→σ→Option ρ)(n:Nat)(Inv:Nat→σ→Prop)(R:ρ→Prop)
  (round: ∀m i s,i<n→Inv i s→(∀s',Inv (i+1) s'→Sat (L m (i+1) s') R)→Sat (L (m+1) i s) R)
  (fin: ∀m s,Inv n s→Sat (L (m+1) n s) R): ∀m i s,n<m+i→i≤n→Inv i s→Sat (L m i s) R
 |0,i,s,h,h2,_=>by omega
 |m+1,i,s,h,h2,hi=>by
  by_cases e:i=n
  ·subst e;exact fin m s hi
  exact round m i s Y hi fun s' h'=>cI L n Inv R round fin m (i+1) s' Y Y h'
theorem ni {σ ρ:Type}(L:Nat→σ→Option ρ)(v:σ→Nat)(Inv:σ→Prop)(R:ρ→Prop)
  (round: ∀m s,Inv s→(∀s',v s'<v s→Inv s'→Sat (L m s') R)→Sat (L (m+1) s) R): ∀m s,v s<m→Inv s→Sat (L m s) R
 |0,_,h,_=>by omega
 |m+1,s,h,hi=>round m s hi fun s' h1 h2=>ni L v Inv R round m s' Y h2
theorem bh {α:Type}{l:List α}{i:Nat}(h:i<l.length):l.take (i+1)=l.take i++ [l[i]]:=by
 rw [List.take_add_one,List.getElem?_eq_getElem h];rfl
theorem I6: ∀{a b:List Int},a.Pairwise (· < ·)→b.Pairwise (· < ·)→(∀x,x∈a↔x∈b)→a=b
 | [],[],_,_,_=>rfl
 | [],y::b,_,_,h=>by have:=(h y).2 (by simp);cases this
 |x::a,[],_,_,h=>by have:=(h x).1 (by simp);cases this
 | x::a,y::b,ha,hb,h=>by
  obtain ⟨ha1,ha2⟩:=List.pairwise_cons.1 ha;obtain ⟨hb1,hb2⟩:=List.pairwise_cons.1 hb
  have e:x=y:=by
   rcases List.mem_cons.1 ((h x).1 (by simp)) with e|h1
   ·exact e
   rcases List.mem_cons.1 ((h y).2 (by simp)) with e|h2
   ·exact e.symm
   have:=hb1 x h1;have:=ha1 y h2;omega
  subst e;rw [I6 ha2 hb2 fun z=> ?_];constructor
  ·intro hz;rcases List.mem_cons.1 ((h z).1 (by simp [hz])) with e|h1
   ·subst e;exact absurd (ha1 z hz) Y
   exact h1
  intro hz;rcases List.mem_cons.1 ((h z).2 (by simp [hz])) with e|h1
  ·subst e;exact absurd (hb1 z hz) Y
  exact h1
theorem HE {α β:Type}[DecidableEq α](a:α)(L:List (α×β)):(∃i b,fp a L 0=some (i,b)∧L[i]? =some (a,b))∨(fp a L 0=none∧a∉L.map (·.1)):=by
 cases h:fp a L 0 with
 | none=>exact .inr ⟨rfl,fun h1=>by
   obtain ⟨p,h2,h3⟩:=List.mem_map.1 h1
   exact (Nd a L).1 h p h2 h3⟩
 |some q=>obtain ⟨i,b⟩:=q;exact .inl ⟨i,b,U,(Io a L 0 i b h).2⟩
theorem xt {α β:Type}[DecidableEq α](L:List (α×β))(a:α)(b:β):(tW L a b).map (·.1)=if a∈L.map (·.1) then L.map (·.1) else L.map (·.1)++ [a]:=by
 unfold tW;rcases HE a L with ⟨i,c,h1,h2⟩|⟨h1,h2⟩
 ·have hm:a∈L.map (·.1):=List.mem_map.2 ⟨_,List.mem_of_getElem? h2,rfl⟩;rw [h1,if_pos hm];show (L.set i (a,b)).map (·.1)=_;rw [List.map_set];apply List.ext_getElem?;intro j;by_cases e:i=j
  ·subst e;have hlt:=(List.getElem?_eq_some_iff.1 h2).1;rw [List.getElem?_set_self (by simpa using hlt),List.getElem?_map,h2];rfl
  rw [List.getElem?_set_ne e]
 rw [h1,if_neg h2];show (L++ [(a,b)]).map (·.1)=_;rw [List.map_append];rfl
theorem My {α β:Type}[DecidableEq α](L:List (α×β))(a:α)(b:β)(x:α):x∈(tW L a b).map (·.1)↔x=a∨x∈L.map (·.1):=by
 rw [xt];split
 ·constructor
  ·exact .inr
  rintro (rfl|h)<;>assumption
 rw [List.mem_append,List.mem_singleton];exact Or.comm
theorem tK {α:Type}: ∀{l:List α} {i:Nat} {a:α},l.Nodup→l[i]? =some a→ ∀x,x∈l.eraseIdx i↔x∈l∧x≠a
 | [],_,_,_,h,_=>by simp at h
 |y::l,0,a,hn,h,x=>by
  simp only [List.getElem?_cons_zero,Option.some.injEq] at h;subst h;rw [List.eraseIdx_cons_zero];obtain ⟨h1, -⟩:=List.nodup_cons.1 hn;constructor
  ·intro hx;exact ⟨by simp [hx],fun e=>h1 (e▸hx)⟩
  rintro ⟨hx,hne⟩;rcases List.mem_cons.1 hx with e|hx
  ·exact absurd e hne
  exact hx
 | y::l,i+1,a,hn,h,x=>by
  simp only [List.getElem?_cons_succ] at h;obtain ⟨h1,h2⟩:=List.nodup_cons.1 hn;rw [List.eraseIdx_cons_succ,List.mem_cons,List.mem_cons,tK h2 h x];have ha:a∈l:=List.mem_of_getElem? h;constructor
  ·rintro (rfl|⟨h3,h4⟩)
   ·exact ⟨.inl U,fun e=>h1 (e▸ha)⟩
   exact ⟨.inr h3,h4⟩
  rintro ⟨rfl|h3,h4⟩
  ·exact .inl U
  exact .inr ⟨h3,h4⟩
theorem Eo {α β:Type}[DecidableEq α]{L:List (α×β)}(h:(L.map (·.1)).Nodup)(a:α):(∀x,x∈(zJ L a).map (·.1)↔x∈L.map (·.1)∧x≠a)∧((zJ L a).map (·.1)).Nodup∧(zJ L a).length≤L.length:=by
 unfold zJ;rcases HE a L with ⟨i,c,h1,h2⟩|⟨h1,h2⟩
 ·rw [h1]
  have h3:(L.map (·.1))[i]? =some a:=by rw [List.getElem?_map,h2];rfl
  show (∀x,x∈(L.eraseIdx i).map (·.1)↔_)∧((L.eraseIdx i).map (·.1)).Nodup∧(L.eraseIdx i).length≤_;rw [←zI];exact ⟨tK h h3,h.sublist (List.eraseIdx_sublist _ _),(List.eraseIdx_sublist _ _).length_le⟩
 rw [h1];exact ⟨fun x=>⟨fun hx=>⟨hx,fun e=>h2 (e▸hx)⟩,fun hx=>hx.1⟩,h,Nat.le_refl _⟩
end
section
variable {A1 A2 A3 A4 A5 A6 A7 A8:Option Addr} {c1 c2 c3 c4 c5 c6 c7 c8 n1 n2 n3 n4 n5 n6 n7 n8:Nat}
open Go.RowKit
end
section
variable {A1 A2 A3 A4 A5 A6 A7 A8:Option Addr} {c1 c2 c3 c4 c5 c6 c7 c8 n1 n2 n3 n4 n5 n6 n7 n8:Nat}
open Go.RowKit
theorem lX {α:Type}(xs:List α)(i:Nat):aM xs (i:Int)=xs[i]? :=by
 unfold aM;rw [if_neg Y];simp
theorem xA {ρ:Type}{b:Prop}[Decidable b]{m:Option ρ}(h:b):bD b m=m:=if_pos h
def bM (v:Q5):Bool:=decide (v.Kind=7)||decide (v.Kind=9)
def ku (k:Int)(i:Nat):Bool:=!decide (k=8)&&(!decide (k=10)||decide ((i:Int).tmod 2=0))
def pick (f:Nat→Q5→Bool):Nat→List Q5→List Int
 |_,[]=> []
 |i,v::l=>(bif f i v then [v.N] else [])++pick f (i+1) l
theorem gy (f:Nat→Q5→Bool)(i:Nat)(v:Q5)(l:List Q5):pick f i (v::l)=(bif f i v then [v.N] else [])++pick f (i+1) l:=rfl
theorem ya (f:Nat→Q5→Bool): ∀(i:Nat) (l:List Q5),(pick f i l).length≤l.length
 |_,[]=>Nat.le_refl _
 |i,v::l=>by
  have:=ya f (i+1) l;unfold pick;cases f i v<;>simp<;>omega
theorem zm: ∀(i:Nat) (l:List Q5),pick (fun _ _=>false) i l=[]
 |_,[]=>rfl
 |i,v::l=>by unfold pick;simp [zm (i+1) l]
theorem oZ (N:Nat)(v:Q5):ly N v=some (bM v):=by
 unfold ly bM;cases decide (v.Kind=7)<;>rfl
theorem xC (N:Nat)(v:Q5):pt N v=some (bM v):=by
 unfold pt bM;cases decide (v.Kind=7)<;>rfl
theorem Ew (N:Nat)(a b:Bool)(x:Q5)(p:List Int)(h:p.length≤5000):da (fun x st=>eR N a x st) (b,x) (none,p)=some (true,(none,p++(bif (b==a)&&bM x then [x.N] else []))):=by
 unfold da eR;simp only [oZ,Option.bind_some];cases b==a
 ·simp
 cases bM x
 ·simp
 have:cc (p.length+ [x.N].length):=by unfold cc;simp only [List.length_cons,List.length_nil];omega
 simp only [cond_true,Option.bind_some,Bool.and_self];rw [xA this];rfl
theorem I8 (N:Nat)(a:Bool)(c:Ra)(hc:c.More.length≤1000)(K:Nat)(hK:K≤1000): ∀(m i:Nat) (p:List Int),c.More.length<m+i→i≤c.More.length→p.length≤K+i→jV N (da (fun x st=>eR N a x st)) c m (i:Int) (none,p)=some (none,p++pick (fun i v=>(ku c.Kind i==a)&&bM v) i (c.More.drop i))
 |0,i,p,h,h2,_=>by omega
 | m+1,i,p,h,h2,h3=>by
  rw [jV.eq_2];by_cases hi:i<c.More.length
  ·rw [show (decide ((i:Int)<(c.More.length:Int)))=true from Rk Y,lX,List.getElem?_eq_getElem hi,List.drop_eq_getElem_cons hi];simp only [cond_true,Option.bind_some]
   have hs:(bif !decide (c.Kind=8) then ((bif !decide (c.Kind=10) then (some true) else (some (decide ((i:Int).tmod 2=0)))).bind fun b22=>some b22) else (some false))=some (ku c.Kind i):=by
    unfold ku;cases decide (c.Kind=8)<;>cases decide (c.Kind=10)<;>rfl
   rw [hs];simp only [Option.bind_some];rw [Ew N a _ _ _ Y];rw [Option.bind_some]
   dsimp only
   rw [Bool.not_true,cond_false];rw [xA (by unfold in64;omega)]
   have hlen:(p++(bif (ku c.Kind i==a)&&bM c.More[i] then [c.More[i].N] else [])).length≤K+(i+1):=by
    cases (ku c.Kind i==a)&&bM c.More[i]<;>simp<;>omega
   have:=I8 N a c hc K hK m (i+1) _ Y hi hlen;simp only [Int.natCast_add,Int.cast_ofNat_Int] at this;rw [this];rw [gy,Rn]
  rw [show (decide ((i:Int)<(c.More.length:Int)))=false from Rl Y,List.drop_eq_nil_of_le Y];simp [pick]
theorem Mf (N:Nat)(hN:2000<N)(a:Bool)(c:Ra)(hS:c.Slots.length≤1000)(hc:c.More.length≤1000): ∀(m i:Nat) (p:List Int),c.Slots.length<m+i→i≤c.Slots.length→p.length≤i→jl N (da (fun x st=>eR N a x st)) c m (i:Int) (none,p)=some (none,(p++pick (fun _ v=>(true==a)&&bM v) i (c.Slots.drop i))++pick (fun i v=>(ku c.Kind i==a)&&bM v) 0 c.More)
 |0,i,p,h,h2,_=>by omega
 | m+1,i,p,h,h2,h3=>by
  rw [jl.eq_2];by_cases hi:i<c.Slots.length
  ·rw [show (decide ((i:Int)<(c.Slots.length:Int)))=true from Rk Y,lX,List.getElem?_eq_getElem hi,List.drop_eq_getElem_cons hi];simp only [cond_true,Option.bind_some];rw [Ew N a _ _ _ Y];rw [Option.bind_some]
   dsimp only
   rw [Bool.not_true,cond_false];rw [xA (by unfold in64;omega)]
   have hlen:(p++(bif (true==a)&&bM c.Slots[i] then [c.Slots[i].N] else [])).length≤(i+1):=by
    cases (true==a)&&bM c.Slots[i]<;>simp<;>omega
   have:=Mf N hN a c hS hc m (i+1) _ Y hi hlen;simp only [Int.natCast_add,Int.cast_ofNat_Int] at this;rw [this];rw [gy,Rn p]
  rw [show (decide ((i:Int)<(c.Slots.length:Int)))=false from Rl Y,List.drop_eq_nil_of_le Y];simp only [cond_false,qq];have:=I8 N a c hc p.length Y N 0 p Y Y Y;simp only [Int.natCast_zero,Int.cast_ofNat_Int] at this;rw [this];simp [pick]
theorem vb (N:Nat)(hN:2000<N)(a:Bool)(c:Ra)(hS:c.Slots.length≤1000)(hc:c.More.length≤1000):jm N c a=some (pick (fun _ v=>(true==a)&&bM v) 0 c.Slots++pick (fun i v=>(ku c.Kind i==a)&&bM v) 0 c.More):=by
 unfold jm qr lY;have:=Mf N hN a c hS hc N 0 [] Y Y (by simp);simp only [Int.natCast_zero,Int.cast_ofNat_Int] at this;rw [Option.bind_some,this,Option.bind_some];show some _=some _;simp
def i7 (k:Int)(i:Nat):Bool:=decide (k=8)||(decide (k=10)&&(decide (0<(i:Int))&&decide ((((i:Int) - 1).tmod 4).tmod 2=0)))
theorem Jc (N:Nat)(k:Int)(i:Nat)(hi:i≤5000):pS N k (i:Int)=some (i7 k i):=by
 unfold pS i7;by_cases h1:k=8
 ·simp [h1]
 by_cases h2:k=10
 ·by_cases h3:(0:Int)<i
  ·subst h2;simp only [h3,decide_true,ct,bs,r64 (a:=(i:Int) - 1) Y Y,show decide ((10:Int)=8)=false from rfl,cf,Bool.false_or,Bool.true_and]
  subst h2;simp only [h3,decide_true,decide_false,ct,bs,show decide ((10:Int)=8)=false from rfl,cf,Bool.false_or,Bool.true_and,Bool.false_and]
 simp [h1,h2]
theorem BN (N:Nat)(hN:2000<N)(c:Ra)(hS:c.Slots.length≤1000)(hc:c.More.length≤1000):jr N c=some (pick (fun _ v=>bM v) 0 c.Slots++pick (fun i v=> !i7 c.Kind i&&bM v) 0 c.More):=by
 apply Sat.eq;unfold jr;refine cI (fun m i s=>ir N c m s (i:Int)) c.Slots.length (fun i s=>s++pick (fun _ v=>bM v) i (c.Slots.drop i)=pick (fun _ v=>bM v) 0 c.Slots∧s.length≤i) _ ?_ ?_ N 0 [] Y Y ⟨by simp,by simp⟩
 ·rintro m i s hi ⟨h1,h2⟩ k;show Sat (ir N c (m+1) s i) _;rw [List.drop_eq_getElem_cons hi,gy] at h1;rw [ir.eq_2,cF Y,cond_true,bf hi,bs,xC,bs];simp only [bs];cases hh:bM c.Slots[i]
  all_goals
   simp only [hh,ct,cf,bs,List.nil_append] at h1⊢
   first
   |(unfold lV
     rw [r64 Y Y]
     exact k s ⟨h1,by omega⟩)
   |(rw [rF (by simp;omega)]
     unfold lV;rw [r64 Y Y]
     exact k _ ⟨by rw [Rn];exact h1,by simp;omega⟩)
 rintro m s ⟨h1,h2⟩;show Sat (ir N c (m+1) s _) _;rw [List.drop_length] at h1
 have h1:s=pick (fun _ v=>bM v) 0 c.Slots:=by rw [←h1];simp [pick]
 rw [ir.eq_2,cD Y,cond_false, ←h1];unfold sP;clear h1;refine cI (fun m i s=>gp N c m s (i:Int)) c.More.length (fun i t=>t++pick (fun i v=> !i7 c.Kind i&&bM v) i (c.More.drop i)=s++pick (fun i v=> !i7 c.Kind i&&bM v) 0 c.More∧t.length≤1000+i) _ ?_ ?_ N 0 s Y Y ⟨by simp,by omega⟩
 ·rintro m i s hi ⟨h1,h2⟩ k;show Sat (gp N c (m+1) s i) _;rw [List.drop_eq_getElem_cons hi,gy] at h1;rw [gp.eq_2,cF Y,cond_true,bf hi,bs,xC,bs,Jc _ _ _ Y];simp only [bs];cases hh:bM c.More[i]<;>cases hw:i7 c.Kind i
  all_goals
   simp only [hh,hw,Bool.and_true,Bool.and_false,nt,nf,ct,cf,bs,List.nil_append] at h1⊢
   first
   |(unfold lU
     rw [r64 Y Y]
     exact k s ⟨h1,by omega⟩)
   |(rw [rF (by simp;omega)]
     unfold lU;rw [r64 Y Y]
     exact k _ ⟨by rw [Rn];exact h1,by simp;omega⟩)
 rintro m s ⟨h1,h2⟩;show Sat (gp N c (m+1) s _) _;rw [List.drop_length] at h1;rw [gp.eq_2,cD Y,cond_false];exact aR (by rw [←h1];simp [pick])
theorem zW (k:Int)(i:Nat):ku k i=!i7 k i:=by
 unfold ku i7;by_cases h8:k=8
 ·subst h8;rfl
 by_cases h10:k=10
 ·subst h10;have e0:(i:Int).tmod 2=(i:Int)%2:=Int.tmod_eq_emod_of_nonneg Y;by_cases hi:(0:Int)<i
  ·have e1:((i:Int) - 1).tmod 4=((i:Int) - 1)%4:=Int.tmod_eq_emod_of_nonneg Y;have e2:(((i:Int) - 1)%4).tmod 2=(((i:Int) - 1)%4)%2:=Int.tmod_eq_emod_of_nonneg Y;rw [e0,e1,e2];by_cases h:(i:Int)%2=0
   ·have h2: ¬(((i:Int) - 1)%4)%2=0:=by omega
    rw [Rk h,Rl h2,Rk hi];rfl
   have h2:(((i:Int) - 1)%4)%2=0:=by omega
   rw [Rl h,Rk h2,Rk hi];rfl
  have:i=0:=by omega
  subst this;rfl
 simp [h8,h10]
def bL (c:Ra):List Int:=pick (fun _ v=>bM v) 0 c.Slots++pick (fun i v=> !i7 c.Kind i&&bM v) 0 c.More
theorem ms (N:Nat)(hN:2000<N)(c:Ra)(hS:c.Slots.length≤1000)(hc:c.More.length≤1000):eT N c=some (bL c):=by
 unfold eT bL;rw [vb N hN true c hS hc,bs]
 have e1:(fun (_:Nat) (v:Q5)=>(true==true)&&bM v)=fun _ v=>bM v:=by funext i v;rfl
 have e2:(fun (i:Nat) (v:Q5)=>(ku c.Kind i==true)&&bM v)=fun i v=> !i7 c.Kind i&&bM v:=by funext i v;rw [zW];cases i7 c.Kind i<;>rfl
 rw [e1,e2]
theorem JR (N:Nat)(hN:2000<N)(c:Ra)(hS:c.Slots.length≤1000)(hc:c.More.length≤1000):jr N c=some (bL c):=BN N hN c hS hc
theorem jE (c:Ra):(bL c).length≤c.Slots.length+c.More.length:=by
 unfold bL;have h1:=ya (fun _ v=>bM v) 0 c.Slots;have h2:=ya (fun i v=> !i7 c.Kind i&&bM v) 0 c.More;rw [List.length_append];omega
theorem xY {f:Nat→Q5→Bool}{x:Int}: ∀{i:Nat} {l:List Q5},x∈pick f i l→ ∃v∈l,v.N=x
 |_,[],h=>by cases h
 | i,v::l,h=>by
  rw [gy,List.mem_append] at h;rcases h with h|h
  ·cases hf:f i v
   ·rw [hf] at h;cases h
   rw [hf] at h;exact ⟨v,by simp,(List.mem_singleton.1 h).symm⟩
  obtain ⟨w,h1,h2⟩:=xY h;exact ⟨w,by simp [h1],h2⟩
theorem CF {c:Ra}{x:Int}(h:x∈bL c): ∃v∈c.Slots++c.More,v.N=x:=by
 unfold bL at h;rcases List.mem_append.1 h with h|h
 ·obtain ⟨v,h1,h2⟩:=xY h;exact ⟨v,by simp [h1],h2⟩
 obtain ⟨v,h1,h2⟩:=xY h;exact ⟨v,by simp [h1],h2⟩
end
section
variable {A1 A2 A3 A4 A5 A6 A7 A8:Option Addr} {c1 c2 c3 c4 c5 c6 c7 c8 n1 n2 n3 n4 n5 n6 n7 n8:Nat}
open Go.RowKit
def Bn:Ra:=⟨0,0,0,0,[],[]⟩
def fk (m:Rg)(a:Int):Option Ra:=if a<1 then none else if a%2=1 then m.Young[((a - 1) / 2).toNat]? else m.Old[((a - 2) / 2).toNat]?
def br (m:Rg)(a:Int):Bool:=(fk m a).isSome
def bU (m:Rg)(a:Int):Ra:=(fk m a).getD Bn
structure Small (m:Rg) (roots:List Q5):Prop where
 young:m.Young.length≤600
 old:m.Old.length≤600
 roots:roots.length≤600
 cells: ∀c∈m.Young++m.Old,c.Slots.length≤600∧c.More.length≤600
theorem qw {m:Rg}{a:Int}{c:Ra}(h:fk m a=some c):c∈m.Young++m.Old:=by
 unfold fk at h;split at h
 ·cases h
 split at h
 ·exact Rp _ (List.mem_of_getElem? h)
 exact Rq _ (List.mem_of_getElem? h)
theorem Small.at_ {m:Rg}{roots:List Q5}(h:Small m roots)(a:Int):(bU m a).Slots.length≤600∧(bU m a).More.length≤600:=by
 unfold bU
 cases hc:fk m a with
 |none=>exact ⟨by simp [Bn],by simp [Bn]⟩
 |some c=>exact h.cells c (qw hc)
theorem qj {m:Rg}{a:Int}(h:br m a=true):0<a:=by
 unfold br fk at h;split at h
 ·cases h
 omega
theorem vH {m:Rg}{roots:List Q5}(hs:Small m roots){a:Int}(h:br m a=true):a≤1200:=by
 have h1:=hs.young;have h2:=hs.old;unfold br fk at h;split at h
 ·cases h
 split at h
 ·have:=(List.getElem?_eq_some_iff.1 (Option.isSome_iff_exists.1 h).choose_spec).1;omega
 have:=(List.getElem?_eq_some_iff.1 (Option.isSome_iff_exists.1 h).choose_spec).1;omega
theorem wn {a:Int}(h:0≤a):a.tdiv 2=a / 2:=Int.tdiv_eq_ediv_of_nonneg h
theorem o6 {a:Int}(h:0≤a):a.tmod 2=a%2:=Int.tmod_eq_emod_of_nonneg h
theorem vF {α:Type}(l:List α)(i:Nat):(l[i]?).isSome=decide ((i:Int)<(l.length:Int)):=by
 by_cases h:i<l.length
 ·rw [List.getElem?_eq_getElem h,Rk Y];rfl
 rw [List.getElem?_eq_none Y,Rl Y];rfl
theorem tp (m:Rg)(a:Int):(a<1∧fk m a=none)∨(∃k:Nat,a=2*(k:Int)+1∧fk m a=m.Young[k]?)∨(∃k:Nat,a=2*(k:Int)+2∧fk m a=m.Old[k]?):=by
 by_cases h:a<1
 ·exact .inl ⟨h,by unfold fk;rw [if_pos h]⟩
 by_cases h2:a%2=1
 ·refine .inr (.inl ⟨((a - 1) / 2).toNat,by omega,?_⟩);unfold fk;rw [if_neg h,if_pos h2]
 refine .inr (.inr ⟨((a - 2) / 2).toNat,by omega,?_⟩);unfold fk;rw [if_neg h,if_neg h2]
theorem Jh {a:Int}(h:in64 a): -4611686018427387904≤a.tdiv 2∧a.tdiv 2≤4611686018427387904:=by
 unfold in64 at h;by_cases h0:0≤a
 ·rw [wn h0];omega
 have h1:(-a).tdiv 2= -(a.tdiv 2):=Int.neg_tdiv a 2;rw [wn Y] at h1;omega
theorem Ci (N:Nat)(m:Rg)(a:Int)(h:in64 a):Sat (lR N m a) fun r=>r.2.2=br m a∧(br m a=true→aM r.1 r.2.1=fk m a):=by
 have hd:=Jh h;unfold lR;rw [r64 Y Y];unfold mQ br;rcases tp m a with ⟨h1,h2⟩|⟨k,h1,h2⟩|⟨k,h1,h2⟩
 ·rw [h2]
  refine dR (fun _=> ?_) fun _=> ?_
  ·rw [r64 Y Y,r64 Y Y,cD (a:=0) (b:=a) Y,cf,bs];exact aR ⟨U,fun h=>by cases h⟩
  rw [cD (a:=0) (b:=a) Y,cf,bs];exact aR ⟨U,fun h=>by cases h⟩
 ·subst h1;rw [h2,o6 Y,wn Y,fK Y,cf,cF Y,ct,bs,show (2*(k:Int)+1) / 2=k by omega];exact aR ⟨(vF _ _).symm,fun _=>lX _ _⟩
 subst h1;rw [h2,o6 Y,wn Y,nn Y,ct,cF Y,ct,bs,show (2*(k:Int)+2) / 2 - 1=k by omega];rw [r64 Y Y,r64 Y Y];exact aR ⟨(vF _ _).symm,fun _=>lX _ _⟩
theorem sw (N:Nat)(m:Rg)(a:Int)(h:in64 a):eo N m a=some (br m a):=by
 obtain ⟨r,h1,h2, -⟩:=Ci N m a h;unfold eo;rw [h1,bs,h2]
theorem mI (N:Nat)(c:Ra)(h:c.Slots.length≤600∧c.More.length≤600):dZ N c=some c:=by
 unfold dZ cU;rw [rF (by simp;omega),bs,rF (by simp;omega),bs];rfl
theorem FJ (N:Nat){m:Rg}{roots:List Q5}(hs:Small m roots)(a:Int)(h:in64 a):gL N m a=some (bU m a):=by
 obtain ⟨r,h1,h2,h3⟩:=Ci N m a h;unfold gL bU;rw [h1,bs,h2];unfold br at*
 cases hc:fk m a with
 |none=>rfl
 |some c=>
  have h4:=h3 (by rw [hc];rfl);rw [hc] at h4;have h5:=mI N c (hs.cells c (qw hc));simp only [Option.isSome_some,nt,cf,h4,bs,h5];rfl
theorem Ba (N:Nat)(m:Rg)(a:Int)(h:in64 a):lm N m a=some (br m a):=by
 unfold in64 at h;unfold lm br;rcases tp m a with ⟨h1,h2⟩|⟨k,h1,h2⟩|⟨k,h1,h2⟩
 ·rw [h2,cF h1];rfl
 ·subst h1;rw [h2,cD Y,cf,o6 Y,nn Y,ct,wn Y,show (2*(k:Int)+1 - 1) / 2=k by omega,vF];rw [kw (by unfold in64;omega),kw (by unfold in64;omega)]
 subst h1;rw [h2,cD Y,cf,o6 Y,fK Y,cf,wn Y,show (2*(k:Int)+2 - 2) / 2=k by omega,vF];rw [kw (by unfold in64;omega),kw (by unfold in64;omega)]
theorem FI (N:Nat)(m:Rg)(a:Int)(h:in64 a):mU N m a=some (bU m a):=by
 have hh:=Ba N m a h;unfold in64 at h;unfold mU bU;rw [hh,bs];unfold br;rcases tp m a with ⟨h1,h2⟩|⟨k,h1,h2⟩|⟨k,h1,h2⟩
 ·rw [h2];rfl
 ·cases hc:m.Young[k]? with
  |none=>rw [h2,hc];rfl
  |some c=>
   rw [h2,hc];subst h1;simp only [Option.isSome_some,nt,cf];rw [o6 Y,nn Y,ct,wn Y,show (2*(k:Int)+1 - 1) / 2=k by omega,lX,hc,bs];rw [kw (by unfold in64;omega),kw (by unfold in64;omega)];rfl
 cases hc:m.Old[k]? with
 |none=>rw [h2,hc];rfl
 |some c=>
  rw [h2,hc];subst h1;simp only [Option.isSome_some,nt,cf];rw [o6 Y,fK Y,cf,wn Y,show (2*(k:Int)+2 - 2) / 2=k by omega,lX,hc,bs];rw [kw (by unfold in64;omega),kw (by unfold in64;omega)];rfl
end
end Go.Proofs.YtmimkglhbmcokaaGreat