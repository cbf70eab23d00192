/- Merged texts: part 4. No conditions of their own. -/
import Derived.Test.YtmimkglhbmcokaaGreatG3
namespace Go.Proofs.YtmimkglhbmcokaaGreat
theorem QY:type_of% Tryz.underlying203:=Tryz.underlying203
theorem QX:type_of% Tryz.underlying151:=Tryz.underlying151
theorem QW:type_of% Tryz.underlying23:=Tryz.underlying23
theorem QV:type_of% Tryz.underlying117:=Tryz.underlying117
theorem QU:type_of% Tryz.underlying34:=Tryz.underlying34
variable {A1 A2 A3 A4 A5 A8 A9:Option Addr} {B1 B6 M2 M6 M7 c1 c2 c3 c4 c5 c8 c9 n1 n2 n3 n4 n5 n8 n9:Nat}
open Go.RowKit Asn
set_option maxRecDepth 20000
def gC (N:Nat)(a0:Re)(a1:Ra):Option (Int×Int×Re):=
 (aT N a0).bind fun y11=>bif y11 then (some (0,1,a0)) else ((dH N a1).bind fun y13=>bif !y13 then (some (0,51,a0)) else ((dZ N a1).bind fun y15=>bD (cc (a0.m_.Young.length+([(⟨y15.Kind,y15.Shape,y15.Flags,0,y15.Slots,y15.More⟩:Ra)]:List Ra).length)) (bD (in64 (2*((a0.m_.Young++([(⟨y15.Kind,y15.Shape,y15.Flags,0,y15.Slots,y15.More⟩:Ra)]:List Ra)).length:Int))) (bD (in64 ((2*((a0.m_.Young++([(⟨y15.Kind,y15.Shape,y15.Flags,0,y15.Slots,y15.More⟩:Ra)]:List Ra)).length:Int)) - 1)) (some ((2*((a0.m_.Young++([(⟨y15.Kind,y15.Shape,y15.Flags,0,y15.Slots,y15.More⟩:Ra)]:List Ra)).length:Int)) - 1,0,(⟨(⟨a0.m_.Young++([(⟨y15.Kind,y15.Shape,y15.Flags,0,y15.Slots,y15.More⟩:Ra)]:List Ra),a0.m_.Old⟩:Rg),a0.roots_,a0.pending_,a0.set_⟩:Re)))))))
theorem nk {N:Nat}{a0:Re}{a1:Ra}{r:(Int×Int×Re)}(h:gC N a0 a1=some r):Okc Tryz.prog 71 [pV B1 0,.agg #[iV a1.Kind,iV a1.Shape,iV a1.Flags,iV a1.Age,O A8 n8 c8,O A9 n9 c9]] ([bm A8 n8 c8 a1.Slots,bm A9 n9 c9 a1.More,ay B1 86 [O A2 n2 c2,O A3 n3 c3,O A4 n4 c4,O A5 n5 c5,pV B6 0],cA A2 n2 c2 a0.m_.Young,cA A3 n3 c3 a0.m_.Old,bG A4 n4 c4 a0.roots_,bG A5 n5 c5 a0.pending_,ay B6 157 [.map (some M7)],bq cB d8 M7 a0.set_.at_]) (fun u post=> ∃A0 n0 c0 A1 n1 c1 A2 n2 c2 A3 n3 c3 M4,u=.tuple #[iV r.1,iV r.2.1]∧post=[ay B1 86 [O A0 n0 c0,O A1 n1 c1,O A2 n2 c2,O A3 n3 c3,pV B6 0],cA A0 n0 c0 r.2.2.m_.Young,cA A1 n1 c1 r.2.2.m_.Old,bG A2 n2 c2 r.2.2.roots_,bG A3 n3 c3 r.2.2.pending_,ay B6 157 [.map (some M4)],bq cB d8 M4 r.2.2.set_.at_]):=by
 refine bw Tryz.func71 U U ?_;simp only [aQ];refine D ?_;refine gD (bd U U) ?_;rintro _ _ ⟨B10,rfl,rfl⟩;refine D ?_;refine az ?_;refine D ?_;obtain ⟨y11,hy11,h⟩:=aa h;refine gD (ak (bQ hy11) nw U (hE (aX (i:=3) U) (hE (ar (i:=4) U) (hE (ar (i:=5) U) (hE (ar (i:=6) U) (hE (ar (i:=7) U) (hE (aX (i:=8) U) (hE (cy (i:=9) U) ab))))))) bF) ?_;rintro _ _ ⟨_,⟨rfl,rfl⟩,rfl⟩;refine D ?_;refine av U (fun g12=> ?_) (fun g12=> ?_)
 ·replace h:=ag g12 h;refine D ?_;obtain rfl:=ao h;exact Ek U U U (cS [3,4,5,6,7,8,9] 10) ⟨_,_,_,_,_,_,_,_,_,_,_,_,_,U,U⟩
 replace h:=ah g12 h;refine D ?_;refine gR (aA (us:=[iV a1.Kind,iV a1.Shape,iV a1.Flags,iV a1.Age,O A8 n8 c8,O A9 n9 c9]) 0 U U be U) ?_;obtain ⟨y13,hy13,h⟩:=aa h;refine gD (ak (kg hy13) zL U (hE (ad (i:=1) U U) (hE (ad (i:=2) U U) ab)) ic) ?_;rintro _ _ ⟨_,⟨rfl,rfl⟩,rfl⟩;refine D ?_;refine av U (fun g14=> ?_) (fun g14=> ?_)
 ·replace h:=ag g14 h;refine D ?_;obtain rfl:=ao h;exact Ek U U U (cS [3,4,5,6,7,8,9] 10) ⟨_,_,_,_,_,_,_,_,_,_,_,_,_,U,U⟩
 replace h:=ah g14 h;refine D ?_;refine gR (aA (us:=[iV a1.Kind,iV a1.Shape,iV a1.Flags,iV a1.Age,O A8 n8 c8,O A9 n9 c9]) 0 U U be U) ?_;obtain ⟨y15,hy15,h⟩:=aa h;refine gD (ak (gj hy15) tj U (hE (ad (i:=1) U U) (hE (ad (i:=2) U U) ab)) eU) ?_;rintro _ _ ⟨_,⟨A16,n16,c16,A17,n17,c17,rfl,rfl⟩,rfl⟩;refine gO (aq (us:=[iV y15.Kind,iV y15.Shape,iV y15.Flags,iV y15.Age,O A16 n16 c16,O A17 n17 c17]) (cs':=[iV y15.Kind,iV y15.Shape,iV y15.Flags,iV y15.Age,O A16 n16 c16,O A17 n17 c17]) 2 U U U U bx U U U) ?_;rintro _ _ rfl;refine D ?_;refine gO (aq (us:=[iV 0]) (cs':=[iV y15.Kind,iV y15.Shape,iV y15.Flags,iV 0,O A16 n16 c16,O A17 n17 c17]) 2 U U U U dh U U U) ?_;rintro _ _ rfl;refine D ?_;refine az ?_;refine gT ?_ bv (co 0 U);refine Dy ?_;refine gT ?_ bv (co 1 U);refine gT (t:=[(0,pV B1 0),(3,pV B10 0),(4,iV 0),(5,iV 0)]) ?_ lP (ai _)
 refine i6 W 8 [0] [0,5,7] [16,17,18,19,20,21,22,23] [[],[],[1],[2],[3],[4],[],[6]] [aV (pV B1 0),
aV (pV B1 0),
aV (pV B1 0),
aV (pV B1 0),
aV (pV B1 0),
aV (O A2 n2 c2),
aV (.agg #[iV y15.Kind,iV y15.Shape,iV y15.Flags,iV 0,O A16 n16 c16,O A17 n17 c17]),
aX3 (fun (A19:Option Addr) (n19 c19:Nat)=> O A19 n19 c19) (fun A19 n19 c19=> [cA A19 n19 c19 ([(⟨y15.Kind,y15.Shape,y15.Flags,0,y15.Slots,y15.More⟩:Ra)]:List Ra)])] [] (ai _) (AY rfl lG) W rfl rfl ?_ ?_ ?_
 ·refine AX U ?_ ?_
  ·exact I9 (ax U) U (bu U (ai _))
  exact lF
 ·refine am U ?_ ?_
  ·refine oM (bN (R:=di) (vss:=[[iV y15.Kind,iV y15.Shape,iV y15.Flags,iV 0,O A16 n16 c16,O A17 n17 c17]]) (xs:=[(⟨y15.Kind,y15.Shape,y15.Flags,0,y15.Slots,y15.More⟩:Ra)]) U (qy _ _ _ _ _ _ _ _ _ _) U U (fun _ _ hr=> .cons (⟨_,_,_,_,_,_,U,hr 0 _ U U,hr 1 _ U U⟩) All2.nil)) U ?_;rintro _ _ ⟨A18,n18,c18,rfl,rfl⟩;exact AR A18 n18 c18 (ai _)
  refine am U ?_ ?_
  ·exact dO (aA (us:=[iV y15.Kind,iV y15.Shape,iV y15.Flags,iV 0,O A16 n16 c16,O A17 n17 c17]) 2 U U be U) U (bu U (ai _))
  refine am U ?_ ?_
  ·exact dO (bc 5 U U kQ U) U (bu U (ai _))
  refine am U ?_ ?_
  ·exact cL (dC U tc) U (bu U (ai _))
  refine am U ?_ ?_
  ·exact cL (dC U iD) U (bu U (ai _))
  refine am U ?_ ?_
  ·exact cL (aL U) U (bu U (ai _))
  refine am U ?_ ?_
  ·exact cL (ax U) U (bu U (ai _))
  refine am U ?_ ?_
  ·exact cL (ax U) U (bu U (ai _))
  exact eX
 intro A19 n19 c19;refine lZ (t:=[(16,pV B1 0),(21,O A2 n2 c2),(23,O A19 n19 c19),(0,pV B1 0),(3,pV B10 0),(4,iV 0),(5,iV 0)]) (L':=[cA A19 n19 c19 ([(⟨y15.Kind,y15.Shape,y15.Flags,0,y15.Slots,y15.More⟩:Ra)]:List Ra),bm A16 n16 c16 y15.Slots,bm A17 n17 c17 y15.More,ay B10 47 [iV y15.Kind,iV y15.Shape,iV y15.Flags,iV 0,O A16 n16 c16,O A17 n17 c17],bm A8 n8 c8 a1.Slots,bm A9 n9 c9 a1.More,ay B1 86 [O A2 n2 c2,O A3 n3 c3,O A4 n4 c4,O A5 n5 c5,pV B6 0],cA A2 n2 c2 a0.m_.Young,cA A3 n3 c3 a0.m_.Old,bG A4 n4 c4 a0.roots_,bG A5 n5 c5 a0.pending_,ay B6 157 [.map (some M7)],bq cB d8 M7 a0.set_.at_]) ?_ lP (ai _);obtain ⟨q20,h⟩:=ap h;refine qz 8 U W (bA 7 0 U U aF U U QU Dd U U q20) U U U ?_;rintro _ _ ⟨A21,n21,c21,rfl,rfl⟩;refine AT 9 U W (aL U) U U U ?_;refine AT 10 U W (dC U iD) U U U ?_;refine AT 11 U W (dC U tc) U U U ?_;refine yU 12 U W (aq (us:=[O A21 n21 c21]) (cs':=[O A21 n21 c21,O A3 n3 c3,O A4 n4 c4,O A5 n5 c5,pV B6 0]) 6 U U U U ry U U U) U U ?_;rintro _ _ rfl;refine DY ?_;refine lN W ?_;refine D ?_;refine gR (aK 7 U aF U QU) ?_;obtain ⟨q22,h⟩:=ap h;refine gE (qo U U q22.1 q22.2) ?_;obtain ⟨q23,h⟩:=ap h;refine gE (ko U U q23.1 q23.2) ?_;refine D ?_;obtain rfl:=ao h
 exact Ek U U U (cS [6,7,8,9,10,11,12] 13) ⟨_,_,_,_,_,_,_,_,_,_,_,_,_,U,U⟩
def qK (N:Nat)(a0:Int):Option Q5:=
 some (⟨9,a0,⟨#[]⟩⟩:Q5)
theorem sG {N:Nat}{a0:Int}{r:Q5}(h:qK N a0=some r):Okc Tryz.prog 147 [iV a0] ([]) (fun u post=>u=.agg #[iV r.Kind,iV r.N,.string r.S]∧post=[]):=by
 refine bw Tryz.func147 U U ?_;simp only [aQ];refine D ?_;refine gD (aN ki U) ?_;rintro _ _ ⟨B1,rfl,rfl⟩;refine D ?_;refine gE (dr U (HQ _ _)) ?_;refine gO (aq (us:=[iV 9,iV a0,.string (⟨#[]⟩)]) (cs':=[iV 9,iV a0,.string (⟨#[]⟩)]) 0 U U U U aP U U U) ?_;rintro _ _ rfl;refine D ?_;obtain rfl:=ao h;exact dt (rs:=[.cell 2 52]) (vs:=[.agg #[iV 9,iV a0,.string (⟨#[]⟩)]]) U (.cons (bZ 0 U U bW) .nil) U (cS [] 1) ⟨U,U⟩
theorem pz {r:Q5}: ∀v post,((fun (u:Value) (post:List Chunk)=>u=.agg #[iV r.Kind,iV r.N,.string r.S]∧post=[])) v post→ ∀c∈post,cg c:=by
 rintro _ _ ⟨rfl,rfl⟩;exact ab
def jf (N:Nat)(a0:Re)(a1:Q5):Option (Int×Re):=
 (aT N a0).bind fun y9=>bif y9 then (some (0,a0)) else (bD (cc (a0.roots_.length+([a1]:List Q5).length)) (bD (in64 (((a0.roots_++([a1]:List Q5)).length:Int) - 1)) (some (((a0.roots_++([a1]:List Q5)).length:Int) - 1,(⟨a0.m_,a0.roots_++([a1]:List Q5),a0.pending_,a0.set_⟩:Re)))))
theorem ra {N:Nat}{a0:Re}{a1:Q5}{r:(Int×Re)}(h:jf N a0 a1=some r):Okc Tryz.prog 72 [pV B1 0,.agg #[iV a1.Kind,iV a1.N,.string a1.S]] ([ay B1 86 [O A2 n2 c2,O A3 n3 c3,O A4 n4 c4,O A5 n5 c5,pV B6 0],cA A2 n2 c2 a0.m_.Young,cA A3 n3 c3 a0.m_.Old,bG A4 n4 c4 a0.roots_,bG A5 n5 c5 a0.pending_,ay B6 157 [.map (some M7)],bq cB d8 M7 a0.set_.at_]) (fun u post=> ∃A0 n0 c0 A1 n1 c1 A2 n2 c2 A3 n3 c3 M4,u=iV r.1∧post=[ay B1 86 [O A0 n0 c0,O A1 n1 c1,O A2 n2 c2,O A3 n3 c3,pV B6 0],cA A0 n0 c0 r.2.m_.Young,cA A1 n1 c1 r.2.m_.Old,bG A2 n2 c2 r.2.roots_,bG A3 n3 c3 r.2.pending_,ay B6 157 [.map (some M4)],bq cB d8 M4 r.2.set_.at_]):=by
 refine bw Tryz.func72 U U ?_;simp only [aQ];refine D ?_;refine gD (bd U U) ?_;rintro _ _ ⟨B8,rfl,rfl⟩;refine D ?_;refine az ?_;refine D ?_;obtain ⟨y9,hy9,h⟩:=aa h;refine gD (ak (bQ hy9) nw U (hE (aX (i:=1) U) (hE (ar (i:=2) U) (hE (ar (i:=3) U) (hE (ar (i:=4) U) (hE (ar (i:=5) U) (hE (aX (i:=6) U) (hE (cy (i:=7) U) ab))))))) bF) ?_;rintro _ _ ⟨_,⟨rfl,rfl⟩,rfl⟩;refine D ?_;refine av U (fun g10=> ?_) (fun g10=> ?_)
 ·replace h:=ag g10 h;refine D ?_;obtain rfl:=ao h;exact aC U U (cS [1,2,3,4,5,6,7] 8) ⟨_,_,_,_,_,_,_,_,_,_,_,_,_,U,U⟩
 replace h:=ah g10 h;refine D ?_;refine az ?_;refine gT (t:=[(0,pV B1 0),(3,pV B8 0),(4,iV 0)]) ?_ lP (ai _)
 refine i6 W 7 [0] [0,4,6] [7,8,9,10,11,12,13] [[],[],[1],[2],[3],[],[5]] [aV (pV B1 0),
aV (pV B1 0),
aV (pV B1 0),
aV (pV B1 2),
aV (O A4 n4 c4),
aV (.agg #[iV a1.Kind,iV a1.N,.string a1.S]),
aX3 (fun (A12:Option Addr) (n12 c12:Nat)=> O A12 n12 c12) (fun A12 n12 c12=> [bG A12 n12 c12 ([a1]:List Q5)])] [] (ai _) (AY rfl lG) W rfl rfl ?_ ?_ ?_
 ·refine AX U ?_ ?_
  ·exact I9 (ax U) U (bu U (ai _))
  exact lF
 ·refine am U ?_ ?_
  ·refine oM (bN (R:=aS) (vss:=[[iV a1.Kind,iV a1.N,.string a1.S]]) (xs:=[a1]) U (yM _ _ _) U U (fun _ _ hr=> .cons U All2.nil)) U ?_;rintro _ _ ⟨A11,n11,c11,rfl,rfl⟩;exact AR A11 n11 c11 (ai _)
  refine am U ?_ ?_
  ·exact dO (aA (us:=[iV a1.Kind,iV a1.N,.string a1.S]) 0 U U bW U) U (bu U (ai _))
  refine am U ?_ ?_
  ·exact dO (bc 1 U U dE U) U (bu U (ai _))
  refine am U ?_ ?_
  ·exact cL (bX U nl) U (bu U (ai _))
  refine am U ?_ ?_
  ·exact cL (aL U) U (bu U (ai _))
  refine am U ?_ ?_
  ·exact cL (ax U) U (bu U (ai _))
  refine am U ?_ ?_
  ·exact cL (ax U) U (bu U (ai _))
  exact eX
 intro A12 n12 c12;refine lZ (t:=[(7,pV B1 0),(11,O A4 n4 c4),(13,O A12 n12 c12),(0,pV B1 0),(3,pV B8 0),(4,iV 0)]) (L':=[bG A12 n12 c12 ([a1]:List Q5),ay B8 52 [iV a1.Kind,iV a1.N,.string a1.S],ay B1 86 [O A2 n2 c2,O A3 n3 c3,O A4 n4 c4,O A5 n5 c5,pV B6 0],cA A2 n2 c2 a0.m_.Young,cA A3 n3 c3 a0.m_.Old,bG A4 n4 c4 a0.roots_,bG A5 n5 c5 a0.pending_,ay B6 157 [.map (some M7)],bq cB d8 M7 a0.set_.at_]) ?_ lP (ai _);obtain ⟨q13,h⟩:=ap h;refine qz 7 U W (bA 5 0 U U aF U U hU xi U U q13) U U U ?_;rintro _ _ ⟨A14,n14,c14,rfl,rfl⟩;refine AT 8 U W (aL U) U U U ?_;refine AT 9 U W (bX U nl) U U U ?_;refine yU 10 U W (aq (us:=[O A14 n14 c14]) (cs':=[O A2 n2 c2,O A3 n3 c3,O A14 n14 c14,O A5 n5 c5,pV B6 0]) 2 U U U U du U U U) U U ?_;rintro _ _ rfl;refine lN W ?_;refine D ?_;refine gR (aK 5 U aF U hU) ?_;obtain ⟨q15,h⟩:=ap h;refine gE (ko U U q15.1 q15.2) ?_;refine D ?_;obtain rfl:=ao h;exact aC U U (cS [2,3,4,5,6,7,8] 9) ⟨_,_,_,_,_,_,_,_,_,_,_,_,_,U,U⟩
def rl (N:Nat)(a0:Int):Option Bool:=
 some (!decide (a0=a0))
theorem yI {N:Nat}{a0:Int}{r:Bool}(h:rl N a0=some r):Okc Tryz.prog 254 [iV a0] ([]) (fun u post=>u=.bool r∧post=[]):=by
 refine bw Tryz.func254 U U ?_;simp only [aQ];refine D ?_;obtain rfl:=ao h;exact aC U U (cS [] 0) ⟨U,U⟩
theorem uU {r:Bool}: ∀v post,((fun (u:Value) (post:List Chunk)=>u=.bool r∧post=[])) v post→ ∀c∈post,cg c:=by
 rintro _ _ ⟨rfl,rfl⟩;exact ab
def tf (N:Nat)(a0:Int)(a1:Int):Option Bool:=
 (rl N a0).bind fun y1=>(bif y1 then ((rl N a1).bind fun y3=>some (!y3)) else (some false)).bind fun b2=>(bif b2 then (some true) else (some (decide (a0<a1)))).bind fun b4=>some b4
theorem GH {N:Nat}{a0:Int}{a1:Int}{r:Bool}(h:tf N a0 a1=some r):Okc Tryz.prog 220 [iV a0,iV a1] ([]) (fun u post=>u=.bool r∧post=[]):=by
 refine bw Tryz.func220 U U ?_;simp only [aQ];refine D ?_;obtain ⟨y1,hy1,h⟩:=aa h;refine gD (ak (yI hy1) Iw U (ab) uU) ?_;rintro _ _ ⟨_,⟨rfl,rfl⟩,rfl⟩;refine D ?_;obtain ⟨b2,hb2,h⟩:=aa h;refine aE 4 11 b2 ?_ ?_
 ·clear h;refine aD 7 U (fun g2=> ?_) (fun g2=> ?_)
  ·have h:=ag g2 hb2;refine D ?_;obtain ⟨y3,hy3,h⟩:=aa h;refine cv (ak (yI hy3) Iw U (ab) uU) U (aU g2 U) U ?_;rintro _ _ ⟨_,⟨rfl,rfl⟩,rfl⟩;refine D ?_;obtain rfl:=ao h;exact ac sA (cS [] 0)
  have h:=ah g2 hb2;refine D ?_;obtain rfl:=ao h;exact ac sA (cS [] 0)
 refine D ?_;obtain ⟨b4,hb4,h⟩:=aa h;refine aE 4 16 b4 ?_ ?_
 ·clear h;refine aD 12 U (fun g4=> ?_) (fun g4=> ?_)
  ·have h:=ag g4 hb4;refine D ?_;obtain rfl:=ao h;exact ac sA (cS [] 0)
  have h:=ah g4 hb4;refine D ?_;obtain rfl:=ao h;exact ac sA (cS [] 0)
 refine D ?_;obtain rfl:=ao h;exact aC U U (cS [] 0) ⟨U,U⟩
theorem Du {r:Bool}: ∀v post,((fun (u:Value) (post:List Chunk)=>u=.bool r∧post=[])) v post→ ∀c∈post,cg c:=by
 rintro _ _ ⟨rfl,rfl⟩;exact ab
def ij (N:Nat)(a0:Rh):Option (List Int):=
 (uH N a0.at_).bind fun y3=>(oP N a0.at_).bind fun y5=>some y5
theorem pN {N:Nat}{a0:Rh}{r:(List Int)}(h:ij N a0=some r):Okc Tryz.prog 59 [pV B1 0] ([bE B1 157 [.map (some M2)],nD cB d8 M2 a0.at_]) (fun u post=> ∃A0 n0 c0,u=O A0 n0 c0∧post=[db A0 n0 c0 r]):=by
 refine bw Tryz.func59 U U ?_;simp only [aQ];refine D ?_;refine az ?_;refine D ?_;refine gE (nU U t5) ?_;refine D ?_;refine jn U ?_;refine D ?_;refine gR (bC 0 U U Hs U) ?_;obtain ⟨y3,hy3,h⟩:=aa h;refine gD (ak (Fa hy3) N6 U (ab) CA) ?_;rintro _ _ ⟨_,⟨B4,rfl,rfl⟩,rfl⟩;obtain ⟨y5,hy5,h⟩:=aa h;refine gD (ak (zc hy5) Oi U (hE (aX (i:=0) U) (hE (ad (i:=2) U U) ab)) wM) ?_;rintro _ _ ⟨_,⟨A6,n6,c6,rfl,rfl⟩,rfl⟩;refine D ?_;obtain rfl:=ao h;exact aC U U (cS [0] 4) ⟨_,_,_,U,U⟩
theorem ov {r:(List Int)}: ∀v post,((fun (u:Value) (post:List Chunk)=> ∃A0 n0 c0,u=O A0 n0 c0∧post=[db A0 n0 c0 r])) v post→ ∀c∈post,cg c:=by
 rintro _ _ ⟨_,_,_,rfl,rfl⟩;exact hE bH (ab)
def jQ (N:Nat)(a0:Q5):Option (Int×Bool):=
 (bif decide (a0.Kind=7) then (some true) else (some (decide (a0.Kind=9)))).bind fun b2=>some (a0.N,b2)
theorem si {N:Nat}{a0:Q5}{r:(Int×Bool)}(h:jQ N a0=some r):Okc Tryz.prog 207 [.agg #[iV a0.Kind,iV a0.N,.string a0.S]] ([]) (fun u post=>u=.tuple #[iV r.1,.bool r.2]∧post=[]):=by
 refine bw Tryz.func207 U U ?_;simp only [aQ];refine D ?_;refine gD (bd U U) ?_;rintro _ _ ⟨B1,rfl,rfl⟩;refine D ?_;refine az ?_;refine cn W _ (ai _) ?_;refine zE 0 U (bX U i4) ?_;refine zR 1 U (bc 0 U U cZ U) ?_;refine zE 2 U (dC U fw) ?_;refine zR 3 U (bc 0 U U cZ U) ?_;refine zE 4 U (Ed U U) ?_;refine zE 5 U (ax U) ?_;refine zE 10 U (aI U) ?_;obtain ⟨b2,hb2,h⟩:=aa h;refine iH (fun l=>((((l.setIfInBounds 6 true).setIfInBounds 7 true).setIfInBounds 8 true).setIfInBounds 9 true)) 1 13 b2 (fun rest=> ?_) ?_
 ·clear h;refine jK 9 U (fun g2=> ?_) (fun g2=> ?_)
  ·have h:=ag g2 hb2;refine bi 6 U W (fQ g2 U) U ?_;refine bi 7 U W (fQ g2 U) U ?_;refine bi 8 U W (fQ g2 U) U ?_;refine zE 9 U (dL g2 U U) ?_;obtain rfl:=ao h;exact eV rest (cp U (ae (ae (ae (ae bv U) U) U) U)) (ai _) (ai _)
  have h:=ah g2 hb2;refine cK 6 U W (dC U fw) (bV g2 U) U ?_;refine dw 7 U W (bc 0 U U cZ U) (bV g2 U) U ?_;refine cK 8 U W (Ed U U) (bV g2 U) U ?_;refine zE 9 U (dM g2 U U) ?_;obtain rfl:=ao h;exact eV rest (cp U (ae (ae (ae (ae bv U) U) U) U)) (ai _) (ai _)
 refine zE 11 U (aI U) ?_;refine bB W ?_;refine D ?_;obtain rfl:=ao h;exact Ek U U U (cS [] 1) ⟨U,U⟩
theorem pZ {r:(Int×Bool)}: ∀v post,((fun (u:Value) (post:List Chunk)=>u=.tuple #[iV r.1,.bool r.2]∧post=[])) v post→ ∀c∈post,cg c:=by
 rintro _ _ ⟨rfl,rfl⟩;exact ab
def mQ (N:Nat)(a1:Int)(p6:(List Ra))(p7:Int):Option ((List Ra)×Int×Bool):=
 (bif decide (0<a1) then (some (decide (p7<(p6.length:Int)))) else (some false)).bind fun b11=>some (p6,p7,b11)
def lR (N:Nat)(a0:Rg)(a1:Int):Option ((List Ra)×Int×Bool):=
 bD (in64 (a1.tdiv 2)) (bif decide (a1.tmod 2=0) then (bD (in64 (a1.tdiv 2)) (bD (in64 ((a1.tdiv 2) - 1)) (mQ N a1 a0.Old ((a1.tdiv 2) - 1)))) else (mQ N a1 a0.Young (a1.tdiv 2)))
theorem uf {N:Nat}{a0:Rg}{a1:Int}{r:((List Ra)×Int×Bool)}(h:lR N a0 a1=some r):Okc Tryz.prog 90 [.agg #[O A1 n1 c1,O A2 n2 c2],iV a1] ([bz A1 n1 c1 a0.Young,bz A2 n2 c2 a0.Old]) (fun u post=> ∃A0 n0 c0,u=.tuple #[O A0 n0 c0,iV r.2.1,.bool r.2.2]∧post=[bz A0 n0 c0 r.1]):=by
 refine bw Tryz.func90 U U ?_;simp only [aQ];refine D ?_;refine gD (bd U U) ?_;rintro _ _ ⟨B3,rfl,rfl⟩;refine D ?_;obtain ⟨q4,h⟩:=ap h;refine gE (qn U U (by decide) q4.1 q4.2) ?_;refine D ?_;refine aO (fun s L=> ∃p6 p7 A6 n6 c6,mQ N a1 p6 p7=some r∧s=[(1,iV a1),(4,O none 0 0),(5,iV 0),(6,.bool false),(7,O A6 n6 c6),(8,iV p7)]∧L=[bz A6 n6 c6 p6]) ?_ ?_
 ·refine D ?_;refine gE (mx U U (by decide)) ?_;refine D ?_;refine av U (fun g8=> ?_) (fun g8=> ?_)
  ·replace h:=ag g8 h;refine D ?_;obtain ⟨q9,h⟩:=ap h;refine gE (qn U U (by decide) q9.1 q9.2) ?_;obtain ⟨q10,h⟩:=ap h;refine gE (ko U U q10.1 q10.2) ?_;refine D ?_;exact ⟨_,_,⟨a0.Old,(a1.tdiv 2) - 1,A2,n2,c2,h,U,U⟩,sA,cS [2] 3⟩
  replace h:=ah g8 h;refine D ?_;exact ⟨_,_,⟨a0.Young,a1.tdiv 2,A1,n1,c1,h,U,U⟩,sA,cS [1] 3⟩
 rintro _ _ ⟨p6,p7,A6,n6,c6,h,rfl,rfl⟩;refine D ?_;obtain ⟨b11,hb11,h⟩:=aa h;refine aE 5 30 b11 ?_ ?_
 ·clear h;refine aD 25 U (fun g11=> ?_) (fun g11=> ?_)
  ·have h:=ag g11 hb11;refine D ?_;refine bI (aK 0 U aj U QU) U (aU g11 U) U ?_;refine D ?_;obtain rfl:=ao h;exact ac sA (cS [0] 1)
  have h:=ah g11 hb11;refine D ?_;obtain rfl:=ao h;exact ac sA (cS [0] 1)
 refine D ?_;obtain rfl:=ao h;exact PM U U U U (cS [0] 1) ⟨_,_,_,U,U⟩
def eo (N:Nat)(a0:Rg)(a1:Int):Option Bool:=
 (lR N a0 a1).bind fun y4=>some y4.2.2
theorem jB {N:Nat}{a0:Rg}{a1:Int}{r:Bool}(h:eo N a0 a1=some r):Okc Tryz.prog 27 [.agg #[O A1 n1 c1,O A2 n2 c2],iV a1] ([bz A1 n1 c1 a0.Young,bz A2 n2 c2 a0.Old]) (fun u post=>u=.bool r∧post=[]):=by
 refine bw Tryz.func27 U U ?_;simp only [aQ];refine D ?_;refine gD (bd U U) ?_;rintro _ _ ⟨B3,rfl,rfl⟩;refine D ?_;refine gR (aA (us:=[O A1 n1 c1,O A2 n2 c2]) 0 U U cJ U) ?_;refine D ?_;obtain ⟨y4,hy4,h⟩:=aa h;refine gD (aZ (uf hy4) LC U (aJ [1,2] [] [0,1,2] 3 U)) ?_;rintro _ _ ⟨_,⟨A5,n5,c5,rfl,rfl⟩,rfl⟩;refine D ?_;obtain rfl:=ao h;exact aC U U (cS [] 4) ⟨U,U⟩
theorem gK {r:Bool}: ∀v post,((fun (u:Value) (post:List Chunk)=>u=.bool r∧post=[])) v post→ ∀c∈post,cg c:=by
 rintro _ _ ⟨rfl,rfl⟩;exact ab
def mZ (N:Nat)(a0:Q5)(a1:Rg):Option Bool:=
 (jQ N a0).bind fun y5=>(bif y5.2 then ((eo N a1 y5.1).bind fun y7=>some (!y7)) else (some false)).bind fun b6=>some b6
theorem AQ {N:Nat}{a0:Q5}{a1:Rg}{r:Bool}(h:mZ N a0 a1=some r):Okc Tryz.prog 206 [.agg #[iV a0.Kind,iV a0.N,.string a0.S],pV B1 0] ([bE B1 36 [O A2 n2 c2,O A3 n3 c3],bz A2 n2 c2 a1.Young,bz A3 n3 c3 a1.Old]) (fun u post=>u=.bool r∧post=[]):=by
 refine bw Tryz.func206 U U ?_;simp only [aQ];refine D ?_;refine gD (bd U U) ?_;rintro _ _ ⟨B4,rfl,rfl⟩;refine D ?_;refine gR (aA (us:=[iV a0.Kind,iV a0.N,.string a0.S]) 0 U U bW U) ?_;obtain ⟨y5,hy5,h⟩:=aa h;refine gD (ak (si hy5) IF U (ab) pZ) ?_;rintro _ _ ⟨_,⟨rfl,rfl⟩,rfl⟩;refine D ?_;obtain ⟨b6,hb6,h⟩:=aa h;refine aE 5 17 b6 ?_ ?_
 ·clear h;refine aD 12 U (fun g6=> ?_) (fun g6=> ?_)
  ·have h:=ag g6 hb6;refine bI (uk (us:=[O A2 n2 c2,O A3 n3 c3]) 1 U U cJ U) U (aU g6 U) U ?_;refine D ?_;obtain ⟨y7,hy7,h⟩:=aa h;refine cv (ak (jB hy7) xf U (hE (ad (i:=2) U U) (hE (ad (i:=3) U U) ab)) gK) U (aU g6 U) U ?_;rintro _ _ ⟨_,⟨rfl,rfl⟩,rfl⟩;refine D ?_;obtain rfl:=ao h;exact ac sA (cS [0,1,2,3] 4)
  have h:=ah g6 hb6;refine D ?_;obtain rfl:=ao h;exact ac sA (cS [0,1,2,3] 4)
 refine D ?_;obtain rfl:=ao h;exact aC U U (cS [] 4) ⟨U,U⟩
def lC (N:Nat)(ff:Q5→Option Bool):Option Int:=
 some (-1)
def dI (N:Nat)(ff:Q5→Option Bool)(a0:(List Q5)):Nat→Int→Option Int
 |0,_=>none
 |m3+1,p4=>bif decide (p4<(a0.length:Int)) then ((aM a0 p4).bind fun x6=>(ff x6).bind fun y7=>bif y7 then (some p4) else (bD (in64 (p4+1)) ((dI N ff a0 m3) (p4+1)))) else (lC N ff)
def iJ (N:Nat)(a0:(List Q5))(ff:Q5→Option Bool):Option Int:=
 dI N ff a0 N 0
theorem qD {N:Nat}{a0:(List Q5)}{ff:Q5→Option Bool}{r:Int}(h:iJ N a0 ff=some r){vf:Value}{G:List Chunk}(hf:HU Tryz.prog vf G (fun x=> [.agg #[iV x.Kind,iV x.N,.string x.S]]) (fun r=> .bool r) ff):Okc Tryz.prog 157 [O A1 n1 c1,vf] (bm A1 n1 c1 a0::G) (fun u post=>u=iV r∧post=[]):=by
 refine bw Tryz.func157 U U ?_;simp only [aQ];refine D ?_;refine aO (fun s L=>lC N ff=some r∧s=[(4,iV 0)]∧L=G) ?_ ?_
 ·refine D ?_;refine gR (aK 0 U aj U hU) ?_;refine D ?_;refine bn (fun m s L=> ∃p4,dI N ff a0 m p4=some r∧s=[(0,O A1 n1 c1),(1,vf),(4,iV 0),(7,iV (a0.length:Int)),(8,iV p4)]∧L=bm A1 n1 c1 a0::G) N _ _ ⟨0,h,U,U⟩ sA (cS [0] 1) ?_;rintro (_|m3) _ _ ⟨p4,h,rfl,rfl⟩
  ·exact aB h
  rw [dI.eq_2] at h;refine D ?_;refine az ?_;refine av U (fun g5=> ?_) (fun g5=> ?_)
  ·replace h:=ag g5 h;refine D ?_;refine az ?_;refine D ?_;obtain ⟨x6,hx6,h⟩:=aa h;obtain ⟨lx6,ux6,hx6⟩:=au hx6;refine gR (aH 0 U aj U U hU aP lx6 ux6) ?_;refine gR (bp (us:=[iV x6.Kind,iV x6.N,.string x6.S]) 0 U aj U hx6 bW (fun _ _ _ h=>by rw [show _=_ from h];rfl)) ?_;obtain ⟨y7,hy7,h⟩:=aa h;refine gD (Cp (a:=x6) [bm A1 n1 c1 a0] hf hy7 U U) ?_;rintro _ _ ⟨rfl,rfl⟩;refine D ?_;refine av U (fun g8=> ?_) (fun g8=> ?_)
   ·replace h:=ag g8 h;refine D ?_;obtain rfl:=ao h;exact aC U U (td [] 1 U U) ⟨U,U⟩
   replace h:=ah g8 h;refine D ?_;obtain ⟨q9,h⟩:=ap h;refine gE (aW U U q9.1 q9.2) ?_;refine D ?_;exact ⟨m3,_,_,Rm _,⟨p4+1,h,U,U⟩,sA,cS [0] 1⟩
  replace h:=ah g5 h;refine D ?_;exact ⟨_,_,⟨h,U,U⟩,sA,cS [] 1⟩
 rintro _ _ ⟨h,rfl,rfl⟩;refine D ?_;obtain rfl:=ao h;exact aC U U (td [] 0 U U) ⟨U,U⟩
theorem pg {r:Int}: ∀v post,((fun (u:Value) (post:List Chunk)=>u=iV r∧post=[])) v post→ ∀c∈post,cg c:=by
 rintro _ _ ⟨rfl,rfl⟩;exact ab
def cN (N:Nat)(a0:(List Q5))(ff:Q5→Option Bool):Option Bool:=
 (iJ N a0 ff).bind fun y2=>some (decide (0≤y2))
theorem jM {N:Nat}{a0:(List Q5)}{ff:Q5→Option Bool}{r:Bool}(h:cN N a0 ff=some r){vf:Value}{G:List Chunk}(hf:HU Tryz.prog vf G (fun x=> [.agg #[iV x.Kind,iV x.N,.string x.S]]) (fun r=> .bool r) ff):Okc Tryz.prog 74 [O A1 n1 c1,vf] (bm A1 n1 c1 a0::G) (fun u post=>u=.bool r∧post=[]):=by
 refine bw Tryz.func74 U U ?_;simp only [aQ];refine D ?_;obtain ⟨y2,hy2,h⟩:=aa h;refine gD (ak (qD hy2 hf) N4 U (hE (ad (i:=0) U U) (zy (E:=[bm A1 n1 c1 a0]) hf.1)) pg) ?_;rintro _ _ ⟨_,⟨rfl,rfl⟩,rfl⟩;refine D ?_;obtain rfl:=ao h;exact aC U U (td [] 1 U U) ⟨U,U⟩
theorem ja {r:Bool}: ∀v post,((fun (u:Value) (post:List Chunk)=>u=.bool r∧post=[])) v post→ ∀c∈post,cg c:=by
 rintro _ _ ⟨rfl,rfl⟩;exact ab
def gU (N:Nat)(p3:(List Ra)):Option (List Ra):=
 some p3
def kG (N:Nat)(a1:Int):Option (List Ra):=
 bif decide (a1<0) then none else (bD (in64 (0 - 0)) (bD (in64 (a1 - (0 - 0))) (bif decide (0<a1 - (0 - 0)) then (bD ((0:Int)<(a1 - (0 - 0))∧(a1 - (0 - 0))≤1099511627776) (gU N ([]:List Ra))) else (gU N []))))
theorem tS {N:Nat}{a1:Int}{r:(List Ra)}(h:kG N a1=some r):Okc Tryz.prog 160 [O none 0 0,iV a1] ([]) (fun u post=> ∃A0 n0 c0,u=O A0 n0 c0∧post=[cA A0 n0 c0 r]):=by
 refine bw Tryz.func160 U U ?_;simp only [aQ];refine D ?_;refine az ?_;refine D ?_;refine av U (fun g1=> ?_) (fun g1=> ?_)
 ·replace h:=ag g1 h;exact aB h
 replace h:=ah g1 h;refine D ?_;refine aO (fun s L=> ∃p3 A3 n3 c3,gU N p3=some r∧s=[(0,O A3 n3 c3),(4,O none 0 0)]∧L=[cA A3 n3 c3 p3]) ?_ ?_
 ·refine D ?_;refine gE (vL U QU) ?_;refine D ?_;refine gE (nm U QU) ?_;obtain ⟨q4,h⟩:=ap h;refine gE (ko U U q4.1 q4.2) ?_;obtain ⟨q5,h⟩:=ap h;refine gE (ko U U q5.1 q5.2) ?_;refine D ?_;refine av U (fun g6=> ?_) (fun g6=> ?_)
  ·replace h:=ag g6 h;refine D ?_;refine gE (vL U QU) ?_;refine gE (zG U QU bx U) ?_;refine D ?_;obtain ⟨q7,h⟩:=ap h;refine gD (wW U U QU hJ Dd U q7.1 q7.2) ?_;rintro _ _ ⟨A8,n8,c8,rfl,rfl⟩;refine D ?_;refine gE (nm U QU) ?_;refine gD (E5 (R:=di) 0 U U QU bx U U) ?_;rintro _ _ ⟨A9,n9,c9,rfl,rfl⟩;refine D ?_;exact ⟨_,_,⟨([]:List Ra),A9,n9,c9,h,U,U⟩,sA,cS [0] 1⟩
  replace h:=ah g6 h;refine D ?_;exact ⟨_,_,⟨[],none,0,0,h,U,U⟩,sA,(bj di 47 _).trans (cS [0] 1)⟩
 rintro _ _ ⟨p3,A3,n3,c3,h,rfl,rfl⟩;refine D ?_;obtain rfl:=ao h;exact aC U U (cS [0] 1) ⟨_,_,_,U,U⟩
def jx (N:Nat)(p12:(List Ra)):Option (List Ra):=
 some p12
def kk (N:Nat)(a0_0:(List Ra))(a0_1:(List Ra)):Option (List Ra):=
 (kG N ((0+(a0_0.length:Int))+(a0_1.length:Int))).bind fun y9=>bD (cc (y9.length+a0_0.length)) (bD (cc ((y9++a0_0).length+a0_1.length)) (jx N ((y9++a0_0)++a0_1)))
def fz (N:Nat)(a0_0:(List Ra))(a0_1:(List Ra)):Option (List Ra):=
 bD (in64 (0+(a0_0.length:Int))) (bif decide (0+(a0_0.length:Int)<0) then none else (bD (in64 ((0+(a0_0.length:Int))+(a0_1.length:Int))) (bif decide ((0+(a0_0.length:Int))+(a0_1.length:Int)<0) then none else (kk N a0_0 a0_1))))
theorem nE {N:Nat}{a0_0:(List Ra)}{a0_1:(List Ra)}{r:(List Ra)}(h:fz N a0_0 a0_1=some r):Okc Tryz.prog 78 [.slice (some ⟨B1,0,none⟩) 2 2] ([bE B1 34 [O A2 n2 c2,O A3 n3 c3],bz A2 n2 c2 a0_0,bz A3 n3 c3 a0_1]) (fun u post=> ∃A0 n0 c0,u=O A0 n0 c0∧post=[cA A0 n0 c0 r]):=by
 refine bw Tryz.func78 U U ?_;simp only [aQ];refine D ?_;refine aO (fun s L=>kk N a0_0 a0_1=some r∧s=[(0,.slice (some ⟨B1,0,none⟩) 2 2),(2,O none 0 0),(3,iV ((0+(a0_0.length:Int))+(a0_1.length:Int)))]∧L=[bz A2 n2 c2 a0_0,bz A3 n3 c3 a0_1,bE B1 34 [O A2 n2 c2,O A3 n3 c3]]) ?_ ?_
 ·refine D ?_;refine gE (nm U QV) ?_;refine D ?_;refine qA 3 ?_;refine rS ?_;refine D ?_;refine az ?_;refine eW U ?_;refine D ?_;refine az ?_;refine D ?_;refine gE (my U U QV ry (by decide) (by decide)) ?_;refine gR (bC 0 U U kQ U) ?_;refine D ?_;refine gR (aK 1 U aj U QU) ?_;obtain ⟨q5,h⟩:=ap h;refine gE (aW U U q5.1 q5.2) ?_;refine D ?_;refine av U (fun g6=> ?_) (fun g6=> ?_)
  ·replace h:=ag g6 h;exact aB h
  replace h:=ah g6 h;refine D ?_;refine gE (aW U U (by decide) (by decide)) ?_;refine D ?_;refine rS ?_;refine D ?_;refine az ?_;refine eW U ?_;refine D ?_;refine az ?_;refine D ?_;refine gE (my U U QV ry (by decide) (by decide)) ?_;refine gR (bC 0 U U kQ U) ?_;refine D ?_;refine gR (aK 2 U aj U QU) ?_;obtain ⟨q7,h⟩:=ap h;refine gE (aW U U q7.1 q7.2) ?_;refine D ?_;refine av U (fun g8=> ?_) (fun g8=> ?_)
  ·replace h:=ag g8 h;exact aB h
  replace h:=ah g8 h;refine D ?_;refine gE (aW U U (by decide) (by decide)) ?_;refine D ?_;refine rS ?_;refine D ?_;refine az ?_;refine jn U ?_;refine D ?_;exact ⟨_,_,⟨h,U,U⟩,sA,cS [1,2,0] 3⟩
 rintro _ _ ⟨h,rfl,rfl⟩;refine D ?_;obtain ⟨y9,hy9,h⟩:=aa h;refine gD (aZ (tS hy9) N1 U (aJ [] [] [0,1,2] 3 U)) ?_;rintro _ _ ⟨_,⟨A10,n10,c10,rfl,rfl⟩,rfl⟩;refine D ?_;refine aO (fun s L=> ∃p12 A12 n12 c12,jx N p12=some r∧s=[(2,O none 0 0),(6,O A12 n12 c12)]∧L=[cA A12 n12 c12 p12]) ?_ ?_
 ·refine D ?_;refine gE (nm U QV) ?_;refine D ?_;refine qA 3 ?_;refine rS ?_;refine D ?_;refine az ?_;refine eW U ?_;refine D ?_;refine az ?_;refine D ?_;refine gE (my U U QV ry (by decide) (by decide)) ?_;refine gR (bC 3 U U kQ U) ?_;refine D ?_;obtain ⟨q13,h⟩:=ap h;refine gD (bA 0 1 U U aj U U QU Dd U U q13) ?_;rintro _ _ ⟨A14,n14,c14,rfl,rfl⟩;refine D ?_;refine gE (aW U U (by decide) (by decide)) ?_;refine D ?_;refine rS ?_;refine D ?_;refine az ?_;refine eW U ?_;refine D ?_;refine az ?_;refine D ?_;refine gE (my U U QV ry (by decide) (by decide)) ?_;refine gR (bC 3 U U kQ U) ?_;refine D ?_;obtain ⟨q15,h⟩:=ap h;refine gD (bA 0 2 U U aj U U QU Dd U U q15) ?_;rintro _ _ ⟨A16,n16,c16,rfl,rfl⟩;refine cq ?_;refine D ?_;refine gE (aW U U (by decide) (by decide)) ?_;refine D ?_;refine rS ?_;refine D ?_;refine az ?_;refine jn U ?_;refine D ?_;exact ⟨_,_,⟨(y9++a0_0)++a0_1,A16,n16,c16,h,U,U⟩,sA,cS [0] 4⟩
 rintro _ _ ⟨p12,A12,n12,c12,h,rfl,rfl⟩;refine D ?_;obtain rfl:=ao h;exact aC U U (cS [0] 1) ⟨_,_,_,U,U⟩
def ly (N:Nat)(a0:Q5):Option Bool:=
 (bif decide (a0.Kind=7) then (some true) else (some (decide (a0.Kind=9)))).bind fun b2=>some b2
theorem rQ {N:Nat}{a0:Q5}{r:Bool}(h:ly N a0=some r):Okc Tryz.prog 214 [.agg #[iV a0.Kind,iV a0.N,.string a0.S]] ([]) (fun u post=>u=.bool r∧post=[]):=by
 refine bw Tryz.func214 U U ?_;simp only [aQ];refine D ?_;refine gD (bd U U) ?_;rintro _ _ ⟨B1,rfl,rfl⟩;refine D ?_;obtain ⟨b2,hb2,h⟩:=aa h;refine aE 4 10 b2 ?_ ?_
 ·clear h;refine aD 6 U (fun g2=> ?_) (fun g2=> ?_)
  ·have h:=ag g2 hb2;refine D ?_;obtain rfl:=ao h;exact ac sA (cS [0] 1)
  have h:=ah g2 hb2;refine D ?_;obtain rfl:=ao h;exact ac sA (cS [0] 1)
 refine D ?_;obtain rfl:=ao h;exact aC U U (cS [] 1) ⟨U,U⟩
theorem o3 {r:Bool}: ∀v post,((fun (u:Value) (post:List Chunk)=>u=.bool r∧post=[])) v post→ ∀c∈post,cg c:=by
 rintro _ _ ⟨rfl,rfl⟩;exact ab
def eR (N:Nat)(a1:Bool)(x8:Bool×Q5):((List Int))→Option (Option Exit×(List Int))
 |p9=>(bif x8.1==a1 then ((ly N x8.2).bind fun y14=>some y14) else (some false)).bind fun b13=>bif b13 then (bD (cc (p9.length+([x8.2.N]:List Int).length)) (some (none,p9++([x8.2.N]:List Int)))) else (some (none,p9))
def jm (N:Nat)(a0:Ra)(a1:Bool):Option (List Int):=
 (qr N a0).bind fun y6=>(lY N a0 (da (fun x st=>eR N a1 x st)) (none,[])).bind fun y10=>nH y10.1 (some y10.2) none (fun _=>none)
theorem rm {N:Nat}{a0:Ra}{a1:Bool}{r:(List Int)}(h:jm N a0 a1=some r):Okc Tryz.prog 173 [.agg #[iV a0.Kind,iV a0.Shape,iV a0.Flags,iV a0.Age,O A1 n1 c1,O A2 n2 c2],.bool a1] ([bm A1 n1 c1 a0.Slots,bm A2 n2 c2 a0.More]) (fun u post=> ∃A0 n0 c0,u=O A0 n0 c0∧post=[db A0 n0 c0 r]):=by
 refine bw Tryz.func173 U U ?_;simp only [aQ];refine D ?_;refine gD (bd U U) ?_;rintro _ _ ⟨B3,rfl,rfl⟩;refine gD (bd U U) ?_;rintro _ _ ⟨B4,rfl,rfl⟩;refine D ?_;refine gD (aN GY U) ?_;rintro _ _ ⟨B5,rfl,rfl⟩;refine D ?_;refine az ?_;refine D ?_;refine gR (aA (us:=[iV a0.Kind,iV a0.Shape,iV a0.Flags,iV a0.Age,O A1 n1 c1,O A2 n2 c2]) 2 U U be U) ?_;obtain ⟨y6,hy6,h⟩:=aa h;refine gD (ak (AA hy6) IN U (hE (ad (i:=3) U U) (hE (ad (i:=4) U U) ab)) wH) ?_;rintro _ _ ⟨_,⟨B7,rfl,rfl⟩,rfl⟩;refine rq ?_;refine gM ?_;refine gT ?_ bv (gG 0 U);obtain ⟨y10,hy10,h⟩:=aa h;refine sE (en:=(fun x=> [.bool x.1,.agg #[iV x.2.Kind,iV x.2.N,.string x.2.S]])) (fun x st=>eR N a1 x st) (fun (st:(List Int)) (mz:((Option Addr×Nat×Nat)))=> [ay B4 4 [.bool a1],fi (fP .i64) 3 (.slice mz.1 mz.2.1 mz.2.2) st,ay B5 23 [.slice mz.1 mz.2.1 mz.2.2]]) [bE B7 47 [iV a0.Kind,iV a0.Shape,iV a0.Flags,iV a0.Age,O A1 n1 c1,O A2 n2 c2],bm A1 n1 c1 a0.Slots,bm A2 n2 c2 a0.More] ([]) ((none,0,0)) U U IA U (fun _=>U) (fun l G hY=>(uW hy10 hY).mono fun _ _ hh=>hh.2) ((bj (fP .i64) 3 _).trans (aJ [1,5,6] [] [3,0,2] 7 U)) h ?_ ?_ ?_ ?_
 ·rintro l x8 p9 je sr8 ⟨A9,n9,c9⟩ h;replace h:eR N a1 x8 p9=some (je,sr8):=h;simp only [yE,List.zip_cons_cons,List.zip_nil_left,List.zip_nil_right,List.reverse_cons,List.reverse_nil,List.nil_append,List.cons_append];refine D ?_;refine gD (aN ki U) ?_;rintro _ _ ⟨B12,rfl,rfl⟩;refine gO (aq (us:=[iV x8.2.Kind,iV x8.2.N,.string x8.2.S]) (cs':=[iV x8.2.Kind,iV x8.2.N,.string x8.2.S]) 0 U U U U aP U U U) ?_;rintro _ _ rfl;refine D ?_;refine gE (O2 U U QT) ?_;refine D ?_;obtain ⟨b13,hb13,h⟩:=aa h;refine aE 3 18 b13 ?_ ?_
  ·clear h;refine aD 15 U (fun g13=> ?_) (fun g13=> ?_)
   ·have h:=ag g13 hb13;refine bI (aA (us:=[iV x8.2.Kind,iV x8.2.N,.string x8.2.S]) 0 U U bW U) U (aU g13 U) U ?_;obtain ⟨y14,hy14,h⟩:=aa h;refine cv (ak (rQ hy14) Fy U (ab) o3) U (aU g13 U) U ?_;rintro _ _ ⟨_,⟨rfl,rfl⟩,rfl⟩;refine D ?_;obtain rfl:=ao h;exact ac sA (cS [0,1,2,3] 4)
   have h:=ah g13 hb13;refine D ?_;obtain rfl:=ao h;exact ac sA (cS [0,1,2,3] 4)
  refine D ?_;refine av U (fun g15=> ?_) (fun g15=> ?_)
  ·replace h:=ag g15 h;refine D ?_;refine gD (bN (R:=(fP .i64)) (vss:=[[iV x8.2.N]]) (xs:=[x8.2.N]) U (gS _) U U (fun _ _ hr=> .cons U All2.nil)) ?_;rintro _ _ ⟨A16,n16,c16,rfl,rfl⟩;obtain ⟨q17,h⟩:=ap h;refine gD (bA 3 0 U U aF U U QW De U U q17) ?_;rintro _ _ ⟨A18,n18,c18,rfl,rfl⟩;refine cq ?_;refine gO (aq (us:=[O A18 n18 c18]) (cs':=[O A18 n18 c18]) 4 U U U U rz U U U) ?_;rintro _ _ rfl;refine D ?_;obtain ⟨rfl,rfl⟩:=Prod.mk.inj (Option.some.inj h);exact AS ((cS [2,3,4] 5).trans (fL (A18,n18,c18) U))
  replace h:=ah g15 h;refine D ?_;obtain ⟨rfl,rfl⟩:=Prod.mk.inj (Option.some.inj h);exact AS ((cS [1,2,3] 4).trans (fL (A9,n9,c9) U))
 ·rintro ⟨A9,n9,c9⟩ h;refine oq ([ay B4 4 [.bool a1],db A9 n9 c9 y10.2,ay B5 23 [O A9 n9 c9]]) U ?_;refine D ?_;obtain rfl:=ao h;exact aC U U (cS [1] 3) ⟨_,_,_,U,U⟩
 ·rintro ⟨A9,n9,c9⟩ h;exact aB h
 rintro i ⟨A9,n9,c9⟩ h;exact aB h
theorem pc {r:(List Int)}: ∀v post,((fun (u:Value) (post:List Chunk)=> ∃A0 n0 c0,u=O A0 n0 c0∧post=[db A0 n0 c0 r])) v post→ ∀c∈post,cg c:=by
 rintro _ _ ⟨_,_,_,rfl,rfl⟩;exact hE bH (ab)
def eT (N:Nat)(a0:Ra):Option (List Int):=
 (jm N a0 true).bind fun y4=>some y4
theorem iQ {N:Nat}{a0:Ra}{r:(List Int)}(h:eT N a0=some r):Okc Tryz.prog 96 [.agg #[iV a0.Kind,iV a0.Shape,iV a0.Flags,iV a0.Age,O A1 n1 c1,O A2 n2 c2]] ([bm A1 n1 c1 a0.Slots,bm A2 n2 c2 a0.More]) (fun u post=> ∃A0 n0 c0,u=O A0 n0 c0∧post=[db A0 n0 c0 r]):=by
 refine bw Tryz.func96 U U ?_;simp only [aQ];refine D ?_;refine gD (bd U U) ?_;rintro _ _ ⟨B3,rfl,rfl⟩;refine D ?_;refine gR (aA (us:=[iV a0.Kind,iV a0.Shape,iV a0.Flags,iV a0.Age,O A1 n1 c1,O A2 n2 c2]) 0 U U be U) ?_;obtain ⟨y4,hy4,h⟩:=aa h;refine gD (ak (rm hy4) IM U (hE (ad (i:=1) U U) (hE (ad (i:=2) U U) ab)) pc) ?_;rintro _ _ ⟨_,⟨A5,n5,c5,rfl,rfl⟩,rfl⟩;refine D ?_;obtain rfl:=ao h;exact aC U U (cS [0] 4) ⟨_,_,_,U,U⟩
theorem f9 {r:(List Int)}: ∀v post,((fun (u:Value) (post:List Chunk)=> ∃A0 n0 c0,u=O A0 n0 c0∧post=[db A0 n0 c0 r])) v post→ ∀c∈post,cg c:=by
 rintro _ _ ⟨_,_,_,rfl,rfl⟩;exact hE bH (ab)
def gu (N:Nat)(a0:Ra):Option (List Int):=
 (jm N a0 false).bind fun y4=>some y4
theorem nr {N:Nat}{a0:Ra}{r:(List Int)}(h:gu N a0=some r):Okc Tryz.prog 97 [.agg #[iV a0.Kind,iV a0.Shape,iV a0.Flags,iV a0.Age,O A1 n1 c1,O A2 n2 c2]] ([bm A1 n1 c1 a0.Slots,bm A2 n2 c2 a0.More]) (fun u post=> ∃A0 n0 c0,u=O A0 n0 c0∧post=[db A0 n0 c0 r]):=by
 refine bw Tryz.func97 U U ?_;simp only [aQ];refine D ?_;refine gD (bd U U) ?_;rintro _ _ ⟨B3,rfl,rfl⟩;refine D ?_;refine gR (aA (us:=[iV a0.Kind,iV a0.Shape,iV a0.Flags,iV a0.Age,O A1 n1 c1,O A2 n2 c2]) 0 U U be U) ?_;obtain ⟨y4,hy4,h⟩:=aa h;refine gD (ak (rm hy4) IM U (hE (ad (i:=1) U U) (hE (ad (i:=2) U U) ab)) pc) ?_;rintro _ _ ⟨_,⟨A5,n5,c5,rfl,rfl⟩,rfl⟩;refine D ?_;obtain rfl:=ao h;exact aC U U (cS [0] 4) ⟨_,_,_,U,U⟩
theorem lz {r:(List Int)}: ∀v post,((fun (u:Value) (post:List Chunk)=> ∃A0 n0 c0,u=O A0 n0 c0∧post=[db A0 n0 c0 r])) v post→ ∀c∈post,cg c:=by
 rintro _ _ ⟨_,_,_,rfl,rfl⟩;exact hE bH (ab)
def iw (N:Nat)(a0:Ra):Option (List Int):=
 (eT N a0).bind fun y4=>(gu N a0).bind fun y6=>bD (cc (y4.length+y6.length)) (some (y4++y6))
theorem pY {N:Nat}{a0:Ra}{r:(List Int)}(h:iw N a0=some r):Okc Tryz.prog 209 [.agg #[iV a0.Kind,iV a0.Shape,iV a0.Flags,iV a0.Age,O A1 n1 c1,O A2 n2 c2]] ([bm A1 n1 c1 a0.Slots,bm A2 n2 c2 a0.More]) (fun u post=> ∃A0 n0 c0,u=O A0 n0 c0∧post=[db A0 n0 c0 r]):=by
 refine bw Tryz.func209 U U ?_;simp only [aQ];refine D ?_;refine gD (bd U U) ?_;rintro _ _ ⟨B3,rfl,rfl⟩;refine D ?_;refine az ?_;refine cn W _ (ai _) ?_;refine zR 0 U (aA (us:=[iV a0.Kind,iV a0.Shape,iV a0.Flags,iV a0.Age,O A1 n1 c1,O A2 n2 c2]) 0 U U be U) ?_;refine zR 2 U (aA (us:=[iV a0.Kind,iV a0.Shape,iV a0.Flags,iV a0.Age,O A1 n1 c1,O A2 n2 c2]) 0 U U be U) ?_;obtain ⟨y4,hy4,h⟩:=aa h;refine zD 1 U (ak (iQ hy4) xe U (hE (ad (i:=1) U U) (hE (ad (i:=2) U U) ab)) f9) ?_;rintro _ _ ⟨_,⟨A5,n5,c5,rfl,rfl⟩,rfl⟩;refine bP (cS [1,2,3] 4) ?_;obtain ⟨y6,hy6,h⟩:=aa h;refine zD 3 U (ak (nr hy6) Ft U (hE (ad (i:=2) U U) (hE (ad (i:=3) U U) ab)) lz) ?_;rintro _ _ ⟨_,⟨A7,n7,c7,rfl,rfl⟩,rfl⟩;refine bP (cS [2,3,4] 5) ?_;obtain ⟨q8,h⟩:=ap h;refine zD 4 U (bA 1 0 U U aF U U QW De U U q8) ?_;rintro _ _ ⟨A9,n9,c9,rfl,rfl⟩;refine bP (cS [2,3,4] 5) ?_;refine zE 5 U (aI U) ?_;refine bB W ?_;refine D ?_;obtain rfl:=ao h;exact aC U U (cS [1] 5) ⟨_,_,_,U,U⟩
theorem oD {r:(List Int)}: ∀v post,((fun (u:Value) (post:List Chunk)=> ∃A0 n0 c0,u=O A0 n0 c0∧post=[db A0 n0 c0 r])) v post→ ∀c∈post,cg c:=by
 rintro _ _ ⟨_,_,_,rfl,rfl⟩;exact hE bH (ab)
def nN (N:Nat)(a0:Int)(a1:Rg):Option Bool:=
 (eo N a1 a0).bind fun y4=>some (!y4)
theorem yg {N:Nat}{a0:Int}{a1:Rg}{r:Bool}(h:nN N a0 a1=some r):Okc Tryz.prog 246 [iV a0,pV B1 0] ([bE B1 36 [O A2 n2 c2,O A3 n3 c3],bz A2 n2 c2 a1.Young,bz A3 n3 c3 a1.Old]) (fun u post=>u=.bool r∧post=[]):=by
 refine bw Tryz.func246 U U ?_;simp only [aQ];refine D ?_;refine gR (uk (us:=[O A2 n2 c2,O A3 n3 c3]) 0 U U cJ U) ?_;refine D ?_;obtain ⟨y4,hy4,h⟩:=aa h;refine gD (ak (jB hy4) xf U (hE (ad (i:=1) U U) (hE (ad (i:=2) U U) ab)) gK) ?_;rintro _ _ ⟨_,⟨rfl,rfl⟩,rfl⟩;refine D ?_;obtain rfl:=ao h;exact aC U U (cS [] 3) ⟨U,U⟩
def o7 (N:Nat)(ff:Int→Option Bool):Option Int:=
 some (-1)
def dJ (N:Nat)(ff:Int→Option Bool)(a0:(List Int)):Nat→Int→Option Int
 |0,_=>none
 |m3+1,p4=>bif decide (p4<(a0.length:Int)) then ((aM a0 p4).bind fun x6=>(ff x6).bind fun y7=>bif y7 then (some p4) else (bD (in64 (p4+1)) ((dJ N ff a0 m3) (p4+1)))) else (o7 N ff)
def ju (N:Nat)(a0:(List Int))(ff:Int→Option Bool):Option Int:=
 dJ N ff a0 N 0
theorem vV {N:Nat}{a0:(List Int)}{ff:Int→Option Bool}{r:Int}(h:ju N a0 ff=some r){vf:Value}{G:List Chunk}(hf:HU Tryz.prog vf G (fun x=> [iV x]) (fun r=> .bool r) ff):Okc Tryz.prog 172 [O A1 n1 c1,vf] (dv A1 n1 c1 a0::G) (fun u post=>u=iV r∧post=[]):=by
 refine bw Tryz.func172 U U ?_;simp only [aQ];refine D ?_;refine aO (fun s L=>o7 N ff=some r∧s=[(4,iV 0)]∧L=G) ?_ ?_
 ·refine D ?_;refine gR (aK 0 U aj U QW) ?_;refine D ?_;refine bn (fun m s L=> ∃p4,dJ N ff a0 m p4=some r∧s=[(0,O A1 n1 c1),(1,vf),(4,iV 0),(7,iV (a0.length:Int)),(8,iV p4)]∧L=dv A1 n1 c1 a0::G) N _ _ ⟨0,h,U,U⟩ sA (cS [0] 1) ?_;rintro (_|m3) _ _ ⟨p4,h,rfl,rfl⟩
  ·exact aB h
  rw [dJ.eq_2] at h;refine D ?_;refine az ?_;refine av U (fun g5=> ?_) (fun g5=> ?_)
  ·replace h:=ag g5 h;refine D ?_;refine az ?_;refine D ?_;obtain ⟨x6,hx6,h⟩:=aa h;obtain ⟨lx6,ux6,hx6⟩:=au hx6;refine gR (aH 0 U aj U U QW dh lx6 ux6) ?_;refine gR (aY (u:=iV x6) 0 U aj U hx6 cZ (fun _ _ _ h=>by rw [show _=_ from h];rfl)) ?_;obtain ⟨y7,hy7,h⟩:=aa h;refine gD (Cp (a:=x6) [dv A1 n1 c1 a0] hf hy7 U U) ?_;rintro _ _ ⟨rfl,rfl⟩;refine D ?_;refine av U (fun g8=> ?_) (fun g8=> ?_)
   ·replace h:=ag g8 h;refine D ?_;obtain rfl:=ao h;exact aC U U (td [] 1 U U) ⟨U,U⟩
   replace h:=ah g8 h;refine D ?_;obtain ⟨q9,h⟩:=ap h;refine gE (aW U U q9.1 q9.2) ?_;refine D ?_;exact ⟨m3,_,_,Rm _,⟨p4+1,h,U,U⟩,sA,cS [0] 1⟩
  replace h:=ah g5 h;refine D ?_;exact ⟨_,_,⟨h,U,U⟩,sA,cS [] 1⟩
 rintro _ _ ⟨h,rfl,rfl⟩;refine D ?_;obtain rfl:=ao h;exact aC U U (td [] 0 U U) ⟨U,U⟩
theorem tR {r:Int}: ∀v post,((fun (u:Value) (post:List Chunk)=>u=iV r∧post=[])) v post→ ∀c∈post,cg c:=by
 rintro _ _ ⟨rfl,rfl⟩;exact ab
def bJ (N:Nat)(a0:(List Int))(ff:Int→Option Bool):Option Bool:=
 (ju N a0 ff).bind fun y2=>some (decide (0≤y2))
theorem dF {N:Nat}{a0:(List Int)}{ff:Int→Option Bool}{r:Bool}(h:bJ N a0 ff=some r){vf:Value}{G:List Chunk}(hf:HU Tryz.prog vf G (fun x=> [iV x]) (fun r=> .bool r) ff):Okc Tryz.prog 95 [O A1 n1 c1,vf] (dv A1 n1 c1 a0::G) (fun u post=>u=.bool r∧post=[]):=by
 refine bw Tryz.func95 U U ?_;simp only [aQ];refine D ?_;obtain ⟨y2,hy2,h⟩:=aa h;refine gD (ak (vV hy2 hf) NV U (hE (ad (i:=0) U U) (zy (E:=[dv A1 n1 c1 a0]) hf.1)) tR) ?_;rintro _ _ ⟨_,⟨rfl,rfl⟩,rfl⟩;refine D ?_;obtain rfl:=ao h;exact aC U U (td [] 1 U U) ⟨U,U⟩
theorem dk {r:Bool}: ∀v post,((fun (u:Value) (post:List Chunk)=>u=.bool r∧post=[])) v post→ ∀c∈post,cg c:=by
 rintro _ _ ⟨rfl,rfl⟩;exact ab
def uD (N:Nat):Option Bool:=
 some true
def mW (N:Nat)(y6:((List Ra)))(a0:Rg):Nat→Int→Option Bool
 |0,_=>none
 |m8+1,p9=>bif decide (p9<(y6.length:Int)) then ((aM y6 p9).bind fun x11=>(dH N x11).bind fun y15=>(bif !y15 then (some true) else ((iw N x11).bind fun y17=>(bJ N y17 (fun x=>nN N x a0)).bind fun y19=>some y19)).bind fun b16=>bif b16 then (some false) else (bD (in64 (p9+1)) ((mW N y6 a0 m8) (p9+1)))) else (uD N)
def nZ (N:Nat)(a0:Rg):Option Bool:=
 (fz N a0.Young a0.Old).bind fun y6=>mW N y6 a0 N 0
theorem Cy {N:Nat}{a0:Rg}{r:Bool}(h:nZ N a0=some r):Okc Tryz.prog 208 [.agg #[O A1 n1 c1,O A2 n2 c2]] ([bz A1 n1 c1 a0.Young,bz A2 n2 c2 a0.Old]) (fun u post=>u=.bool r∧post=[]):=by
 refine bw Tryz.func208 U U ?_;simp only [aQ];refine D ?_;refine gD (bd U U) ?_;rintro _ _ ⟨B3,rfl,rfl⟩;refine D ?_;refine aO (fun s L=>uD N=some r∧s=[(2,.bool false)]∧L=[]) ?_ ?_
 ·refine D ?_;refine gD (eM (cs:=[O A1 n1 c1,O A2 n2 c2]) U (zM _ _ _ _ _ _)) ?_;rintro _ _ ⟨B5,rfl,rfl⟩;obtain ⟨y6,hy6,h⟩:=aa h;refine qB (gG 0 U) ?_;refine gD (aZ (nE hy6) LH U (aJ [0,2,3] [] [0,1,2,3] 4 U)) ?_;rintro _ _ ⟨_,⟨A7,n7,c7,rfl,rfl⟩,rfl⟩;refine gR (aK 0 U aF U QU) ?_;refine D ?_;refine bn (fun m s L=> ∃p9,mW N y6 a0 m p9=some r∧s=[(1,pV B3 0),(2,.bool false),(10,O A7 n7 c7),(11,iV (y6.length:Int)),(12,iV p9)]∧L=[cA A7 n7 c7 y6,bz A1 n1 c1 a0.Young,bz A2 n2 c2 a0.Old,ay B3 36 [O A1 n1 c1,O A2 n2 c2]]) N _ _ ⟨0,h,U,U⟩ sA (cS [0,3,4,2] 5) ?_;rintro (_|m8) _ _ ⟨p9,h,rfl,rfl⟩
  ·exact aB h
  rw [mW.eq_2] at h;refine D ?_;refine az ?_;refine av U (fun g10=> ?_) (fun g10=> ?_)
  ·replace h:=ag g10 h;refine D ?_;refine az ?_;refine D ?_;obtain ⟨x11,hx11,h⟩:=aa h;obtain ⟨lx11,ux11,hx11⟩:=au hx11;refine gR (aH 0 U aF U U QU bx lx11 ux11) ?_;refine gD (Ga 0 U aF U hx11 be U (dK x11)) ?_;rintro u _ ⟨_,_,⟨A12,n12,c12,A13,n13,c13,rfl,rfl⟩,hu,rfl⟩;obtain rfl:u=.agg #[iV x11.Kind,iV x11.Shape,iV x11.Flags,iV x11.Age,O A12 n12 c12,O A13 n13 c13]:=hu;refine gD (aN dy U) ?_;rintro _ _ ⟨B14,rfl,rfl⟩;refine gO (aq (us:=[iV x11.Kind,iV x11.Shape,iV x11.Flags,iV x11.Age,O A12 n12 c12,O A13 n13 c13]) (cs':=[iV x11.Kind,iV x11.Shape,iV x11.Flags,iV x11.Age,O A12 n12 c12,O A13 n13 c13]) 0 U U U U bx U U U) ?_;rintro _ _ rfl;refine cq ?_;refine D ?_;refine gR (aA (us:=[iV x11.Kind,iV x11.Shape,iV x11.Flags,iV x11.Age,O A12 n12 c12,O A13 n13 c13]) 0 U U be U) ?_;obtain ⟨y15,hy15,h⟩:=aa h;refine gD (ak (kg hy15) zL U (hE (ad (i:=1) U U) (hE (ad (i:=2) U U) ab)) ic) ?_;rintro _ _ ⟨_,⟨rfl,rfl⟩,rfl⟩;refine D ?_;obtain ⟨b16,hb16,h⟩:=aa h;refine aE 5 24 b16 ?_ ?_
   ·clear h;refine aD 19 U (fun g16=> ?_) (fun g16=> ?_)
    ·have h:=ag g16 hb16;refine D ?_;obtain rfl:=ao h;exact ac sA (cS [0,1,2,3,4,5,6] 7)
    have h:=ah g16 hb16;refine bI (aA (us:=[iV x11.Kind,iV x11.Shape,iV x11.Flags,iV x11.Age,O A12 n12 c12,O A13 n13 c13]) 0 U U be U) U (bV g16 U) U ?_;obtain ⟨y17,hy17,h⟩:=aa h;refine cv (ak (pY hy17) IE U (hE (ad (i:=1) U U) (hE (ad (i:=2) U U) ab)) oD) U (bV g16 U) U ?_;rintro _ _ ⟨_,⟨A18,n18,c18,rfl,rfl⟩,rfl⟩;refine pn (ey U) U (bV g16 U) U ?_;obtain ⟨y19,hy19,h⟩:=aa h;refine cv (ak (dF hy19 ⟨hE U (hE U (hE U ab)),246, #[], #[pV B3 0],U,Ny,fun _ _ hh=>yg hh⟩) zK U (hE (ar (i:=0) U) (hE (aX (i:=7) U) (hE (ad (i:=5) U U) (hE (ad (i:=6) U U) ab)))) dk) U (bV g16 U) U ?_;rintro _ _ ⟨_,⟨rfl,rfl⟩,rfl⟩;refine D ?_;obtain rfl:=ao h;exact ac sA (cS [1,2,3,4,5,6,7] 8)
   refine D ?_;refine av U (fun g20=> ?_) (fun g20=> ?_)
   ·replace h:=ag g20 h;refine D ?_;obtain rfl:=ao h;exact aC U U (cS [] 7) ⟨U,U⟩
   replace h:=ah g20 h;refine D ?_;obtain ⟨q21,h⟩:=ap h;refine gE (aW U U q21.1 q21.2) ?_;refine D ?_;exact ⟨m8,_,_,Rm _,⟨p9+1,h,U,U⟩,sA,cS [3,4,5,6] 7⟩
  replace h:=ah g10 h;refine D ?_;exact ⟨_,_,⟨h,U,U⟩,sA,cS [] 4⟩
 rintro _ _ ⟨h,rfl,rfl⟩;refine D ?_;obtain rfl:=ao h;exact aC U U (cS [] 0) ⟨U,U⟩
theorem zq {r:Bool}: ∀v post,((fun (u:Value) (post:List Chunk)=>u=.bool r∧post=[])) v post→ ∀c∈post,cg c:=by
 rintro _ _ ⟨rfl,rfl⟩;exact ab
def ft (N:Nat)(a0:Int):Option Bool:=
 (bif decide (0<a0) then (some (decide (a0.tmod 2=1))) else (some false)).bind fun b1=>some b1
theorem kS {N:Nat}{a0:Int}{r:Bool}(h:ft N a0=some r):Okc Tryz.prog 143 [iV a0] ([]) (fun u post=>u=.bool r∧post=[]):=by
 refine bw Tryz.func143 U U ?_;simp only [aQ];refine D ?_;obtain ⟨b1,hb1,h⟩:=aa h;refine aE 4 9 b1 ?_ ?_
 ·clear h;refine aD 5 U (fun g1=> ?_) (fun g1=> ?_)
  ·have h:=ag g1 hb1;refine D ?_;refine pn (mx U U (by decide)) U (aU g1 U) U ?_;refine D ?_;obtain rfl:=ao h;exact ac sA (cS [] 0)
  have h:=ah g1 hb1;refine D ?_;obtain rfl:=ao h;exact ac sA (cS [] 0)
 refine D ?_;obtain rfl:=ao h;exact aC U U (cS [] 0) ⟨U,U⟩
theorem lr {r:Bool}: ∀v post,((fun (u:Value) (post:List Chunk)=>u=.bool r∧post=[])) v post→ ∀c∈post,cg c:=by
 rintro _ _ ⟨rfl,rfl⟩;exact ab
def tv (N:Nat):Option Int:=
 some (-1)
def jL (N:Nat)(a1:Int)(a0:(List Int)):Nat→Int→Option Int
 |0,_=>none
 |m3+1,p4=>bif decide (p4<(a0.length:Int)) then ((aM a0 p4).bind fun x6=>bif decide (a1=x6) then (some p4) else (bD (in64 (p4+1)) ((jL N a1 a0 m3) (p4+1)))) else (tv N)
def pF (N:Nat)(a0:(List Int))(a1:Int):Option Int:=
 jL N a1 a0 N 0
theorem AF {N:Nat}{a0:(List Int)}{a1:Int}{r:Int}(h:pF N a0 a1=some r):Okc Tryz.prog 213 [O A1 n1 c1,iV a1] ([dv A1 n1 c1 a0]) (fun u post=>u=iV r∧post=[]):=by
 refine bw Tryz.func213 U U ?_;simp only [aQ];refine D ?_;refine aO (fun s L=>tv N=some r∧s=[(4,iV 0)]∧L=[]) ?_ ?_
 ·refine D ?_;refine gR (aK 0 U aj U QW) ?_;refine D ?_;refine bn (fun m s L=> ∃p4,jL N a1 a0 m p4=some r∧s=[(0,O A1 n1 c1),(1,iV a1),(4,iV 0),(7,iV (a0.length:Int)),(8,iV p4)]∧L=[dv A1 n1 c1 a0]) N _ _ ⟨0,h,U,U⟩ sA (cS [0] 1) ?_;rintro (_|m3) _ _ ⟨p4,h,rfl,rfl⟩
  ·exact aB h
  rw [jL.eq_2] at h;refine D ?_;refine az ?_;refine av U (fun g5=> ?_) (fun g5=> ?_)
  ·replace h:=ag g5 h;refine D ?_;refine az ?_;refine D ?_;obtain ⟨x6,hx6,h⟩:=aa h;obtain ⟨lx6,ux6,hx6⟩:=au hx6;refine gR (aH 0 U aj U U QW dh lx6 ux6) ?_;refine gR (aY (u:=iV x6) 0 U aj U hx6 cZ (fun _ _ _ h=>by rw [show _=_ from h];rfl)) ?_;refine D ?_;refine av U (fun g7=> ?_) (fun g7=> ?_)
   ·replace h:=ag g7 h;refine D ?_;obtain rfl:=ao h;exact aC U U (cS [] 1) ⟨U,U⟩
   replace h:=ah g7 h;refine D ?_;obtain ⟨q8,h⟩:=ap h;refine gE (aW U U q8.1 q8.2) ?_;refine D ?_;exact ⟨m3,_,_,Rm _,⟨p4+1,h,U,U⟩,sA,cS [0] 1⟩
  replace h:=ah g5 h;refine D ?_;exact ⟨_,_,⟨h,U,U⟩,sA,cS [] 1⟩
 rintro _ _ ⟨h,rfl,rfl⟩;refine D ?_;obtain rfl:=ao h;exact aC U U (cS [] 0) ⟨U,U⟩
theorem xx {r:Int}: ∀v post,((fun (u:Value) (post:List Chunk)=>u=iV r∧post=[])) v post→ ∀c∈post,cg c:=by
 rintro _ _ ⟨rfl,rfl⟩;exact ab
def dP (N:Nat)(a0:(List Int))(a1:Int):Option Bool:=
 (pF N a0 a1).bind fun y2=>some (decide (0≤y2))
theorem jv {N:Nat}{a0:(List Int)}{a1:Int}{r:Bool}(h:dP N a0 a1=some r):Okc Tryz.prog 139 [O A1 n1 c1,iV a1] ([dv A1 n1 c1 a0]) (fun u post=>u=.bool r∧post=[]):=by
 refine bw Tryz.func139 U U ?_;simp only [aQ];refine D ?_;obtain ⟨y2,hy2,h⟩:=aa h;refine gD (ak (AF hy2) NF U (hE (ad (i:=0) U U) ab) xx) ?_;rintro _ _ ⟨_,⟨rfl,rfl⟩,rfl⟩;refine D ?_;obtain rfl:=ao h;exact aC U U (cS [] 1) ⟨U,U⟩
theorem ii {r:Bool}: ∀v post,((fun (u:Value) (post:List Chunk)=>u=.bool r∧post=[])) v post→ ∀c∈post,cg c:=by
 rintro _ _ ⟨rfl,rfl⟩;exact ab
def wB (N:Nat):Option Bool:=
 some true
def oa (N:Nat)(a0:Rg)(a2:(List Int)):Nat→Int→Option Bool
 |0,_=>none
 |m25+1,p26=>bif decide (p26<(a0.Old.length:Int)) then ((aM a0.Old p26).bind fun x28=>(iw N x28).bind fun y33=>(bJ N y33 (fun x=>ft N x)).bind fun y35=>(bif y35 then (bD (in64 (2*p26)) (bD (in64 ((2*p26)+2)) ((dP N a2 ((2*p26)+2)).bind fun y39=>some (!y39)))) else (some false)).bind fun b36=>bif b36 then (some false) else (bD (in64 (p26+1)) ((oa N a0 a2 m25) (p26+1)))) else (wB N)
def kd (N:Nat)(a2:(List Int))(a0:Rg):Option Bool:=
 oa N a0 a2 N 0
def lW (N:Nat)(a2:(List Int))(a0:Rg):Nat→Int→Option Bool
 |0,_=>none
 |m11+1,p12=>bif decide (p12<(a2.length:Int)) then ((aM a2 p12).bind fun x14=>(ft N x14).bind fun y15=>(bif y15 then (some true) else ((eo N a0 x14).bind fun y17=>some (!y17))).bind fun b16=>(bif b16 then (some true) else ((bif decide (0<p12) then (bD (in64 (p12 - 1)) ((aM a2 (p12 - 1)).bind fun x21=>some (decide (x14≤x21)))) else (some false)).bind fun b19=>some b19)).bind fun b18=>bif b18 then (some false) else (bD (in64 (p12+1)) ((lW N a2 a0 m11) (p12+1)))) else (kd N a2 a0)
def mG (N:Nat)(a0:Rg)(a1:(List Q5))(a2:(List Int)):Option Bool:=
 (cN N a1 (fun x=>mZ N x a0)).bind fun y6=>(bif y6 then (some true) else ((nZ N a0).bind fun y8=>some (!y8))).bind fun b7=>bif b7 then (some false) else (lW N a2 a0 N 0)
theorem E8 {N:Nat}{a0:Rg}{a1:(List Q5)}{a2:(List Int)}{r:Bool}(h:mG N a0 a1 a2=some r):Okc Tryz.prog 133 [.agg #[O A1 n1 c1,O A2 n2 c2],O A3 n3 c3,O A4 n4 c4] ([bz A1 n1 c1 a0.Young,bz A2 n2 c2 a0.Old,bm A3 n3 c3 a1,dv A4 n4 c4 a2]) (fun u post=>u=.bool r∧post=[]):=by
 refine bw Tryz.func133 U U ?_;simp only [aQ];refine D ?_;refine gD (bd U U) ?_;rintro _ _ ⟨B5,rfl,rfl⟩;refine D ?_;refine gE (ey U) ?_;refine D ?_;refine az ?_;refine D ?_;obtain ⟨y6,hy6,h⟩:=aa h;refine gD (ak (jM hy6 ⟨hE U (hE U (hE U ab)),206, #[], #[pV B5 0],U,NI,fun _ _ hh=>AQ hh⟩) LI U (hE (ad (i:=3) U U) (hE (aX (i:=0) U) (hE (ad (i:=1) U U) (hE (ad (i:=2) U U) ab)))) ja) ?_;rintro _ _ ⟨_,⟨rfl,rfl⟩,rfl⟩;refine D ?_;obtain ⟨b7,hb7,h⟩:=aa h;refine aE 4 20 b7 ?_ ?_
 ·clear h;refine aD 16 U (fun g7=> ?_) (fun g7=> ?_)
  ·have h:=ag g7 hb7;refine D ?_;obtain rfl:=ao h;exact ac sA (cS [0,1,2,3,4] 5)
  have h:=ah g7 hb7;refine bI (aA (us:=[O A1 n1 c1,O A2 n2 c2]) 0 U U cJ U) U (bV g7 U) U ?_;obtain ⟨y8,hy8,h⟩:=aa h;refine cv (ak (Cy hy8) NH U (hE (ad (i:=1) U U) (hE (ad (i:=2) U U) ab)) zq) U (bV g7 U) U ?_;rintro _ _ ⟨_,⟨rfl,rfl⟩,rfl⟩;refine D ?_;obtain rfl:=ao h;exact ac sA (cS [0,1,2,3,4] 5)
 refine D ?_;refine av U (fun g9=> ?_) (fun g9=> ?_)
 ·replace h:=ag g9 h;refine D ?_;obtain rfl:=ao h;exact aC U U (cS [] 5) ⟨U,U⟩
 replace h:=ah g9 h;refine D ?_;refine aO (fun s L=>kd N a2 a0=some r∧s=[(2,O A4 n4 c4),(3,pV B5 0),(6,.bool false)]∧L=[dv A4 n4 c4 a2,bz A1 n1 c1 a0.Young,bz A2 n2 c2 a0.Old,ay B5 36 [O A1 n1 c1,O A2 n2 c2]]) ?_ ?_
 ·refine D ?_;refine gR (aK 4 U aj U QW) ?_;refine D ?_;refine bn (fun m s L=> ∃p12,lW N a2 a0 m p12=some r∧s=[(2,O A4 n4 c4),(3,pV B5 0),(6,.bool false),(21,O A4 n4 c4),(22,iV (a2.length:Int)),(23,iV p12)]∧L=[dv A4 n4 c4 a2,bz A1 n1 c1 a0.Young,bz A2 n2 c2 a0.Old,ay B5 36 [O A1 n1 c1,O A2 n2 c2]]) N _ _ ⟨0,h,U,U⟩ sA (cS [4,1,2,0] 5) ?_;rintro (_|m11) _ _ ⟨p12,h,rfl,rfl⟩
  ·exact aB h
  rw [lW.eq_2] at h;refine D ?_;refine az ?_;refine av U (fun g13=> ?_) (fun g13=> ?_)
  ·replace h:=ag g13 h;refine D ?_;refine az ?_;refine D ?_;obtain ⟨x14,hx14,h⟩:=aa h;obtain ⟨lx14,ux14,hx14⟩:=au hx14;refine gR (aH 0 U aj U U QW dh lx14 ux14) ?_;refine gR (aY (u:=iV x14) 0 U aj U hx14 cZ (fun _ _ _ h=>by rw [show _=_ from h];rfl)) ?_;refine D ?_;obtain ⟨y15,hy15,h⟩:=aa h;refine gD (ak (kS hy15) yK U (ab) lr) ?_;rintro _ _ ⟨_,⟨rfl,rfl⟩,rfl⟩;refine D ?_;obtain ⟨b16,hb16,h⟩:=aa h;refine aE 5 35 b16 ?_ ?_
   ·clear h;refine aD 30 U (fun g16=> ?_) (fun g16=> ?_)
    ·have h:=ag g16 hb16;refine D ?_;obtain rfl:=ao h;exact ac sA (cS [0,1,2,3] 4)
    have h:=ah g16 hb16;refine bI (aA (us:=[O A1 n1 c1,O A2 n2 c2]) 3 U U cJ U) U (bV g16 U) U ?_;refine D ?_;obtain ⟨y17,hy17,h⟩:=aa h;refine cv (ak (jB hy17) xf U (hE (ad (i:=1) U U) (hE (ad (i:=2) U U) ab)) gK) U (bV g16 U) U ?_;rintro _ _ ⟨_,⟨rfl,rfl⟩,rfl⟩;refine D ?_;obtain rfl:=ao h;exact ac sA (cS [0,1,2,3] 4)
   refine D ?_;obtain ⟨b18,hb18,h⟩:=aa h;refine aE 12 48 b18 ?_ ?_
   ·clear h;refine aD 36 U (fun g18=> ?_) (fun g18=> ?_)
    ·have h:=ag g18 hb18;refine D ?_;obtain rfl:=ao h;exact ac sA (cS [0,1,2,3] 4)
    have h:=ah g18 hb18;refine D ?_;obtain ⟨b19,hb19,h⟩:=aa h;refine aE 8 47 b19 ?_ ?_
    ·clear h;refine aD 39 U (fun g19=> ?_) (fun g19=> ?_)
     ·have h:=ag g19 hb19;refine D ?_;obtain ⟨q20,h⟩:=ap h;refine pn (ko U U q20.1 q20.2) U (aU g19 U) U ?_;obtain ⟨x21,hx21,h⟩:=aa h;obtain ⟨lx21,ux21,hx21⟩:=au hx21;refine bI (aH 0 U aj U U QW dh lx21 ux21) U (aU g19 U) U ?_;refine bI (aY (u:=iV x21) 0 U aj U hx21 cZ (fun _ _ _ h=>by rw [show _=_ from h];rfl)) U (aU g19 U) U ?_;refine D ?_;obtain rfl:=ao h;exact ac sA (cS [0,1,2,3] 4)
     have h:=ah g19 hb19;refine D ?_;obtain rfl:=ao h;exact ac sA (cS [0,1,2,3] 4)
    refine D ?_;obtain rfl:=ao h;exact ac sA (cS [0,1,2,3] 4)
   refine D ?_;refine av U (fun g22=> ?_) (fun g22=> ?_)
   ·replace h:=ag g22 h;refine D ?_;obtain rfl:=ao h;exact aC U U (cS [] 4) ⟨U,U⟩
   replace h:=ah g22 h;refine D ?_;obtain ⟨q23,h⟩:=ap h;refine gE (aW U U q23.1 q23.2) ?_;refine D ?_;exact ⟨m11,_,_,Rm _,⟨p12+1,h,U,U⟩,sA,cS [0,1,2,3] 4⟩
  replace h:=ah g13 h;refine D ?_;exact ⟨_,_,⟨h,U,U⟩,sA,cS [0,1,2,3] 4⟩
 rintro _ _ ⟨h,rfl,rfl⟩;refine aO (fun s L=>wB N=some r∧s=[(6,.bool false)]∧L=[]) ?_ ?_
 ·refine D ?_;refine gR (aK 2 U aj U QU) ?_;refine D ?_;refine bn (fun m s L=> ∃p26,oa N a0 a2 m p26=some r∧s=[(2,O A4 n4 c4),(6,.bool false),(51,O A2 n2 c2),(52,iV (a0.Old.length:Int)),(53,iV p26)]∧L=[dv A4 n4 c4 a2,bz A2 n2 c2 a0.Old]) N _ _ ⟨0,h,U,U⟩ sA (cS [0,2] 4) ?_;rintro (_|m25) _ _ ⟨p26,h,rfl,rfl⟩
  ·exact aB h
  rw [oa.eq_2] at h;refine D ?_;refine az ?_;refine av U (fun g27=> ?_) (fun g27=> ?_)
  ·replace h:=ag g27 h;refine D ?_;refine az ?_;refine D ?_;obtain ⟨x28,hx28,h⟩:=aa h;obtain ⟨lx28,ux28,hx28⟩:=au hx28;refine gR (aH 1 U aj U U QU bx lx28 ux28) ?_;refine oN 1 U hx28 (dK x28) ?_;rintro _ _ ⟨A29,n29,c29,A30,n30,c30,rfl,rfl⟩;refine gR (jC (us:=[iV x28.Kind,iV x28.Shape,iV x28.Flags,iV x28.Age,O A29 n29 c29,O A30 n30 c30]) 0 U U be U) ?_;refine gD (aN dy U) ?_;rintro _ _ ⟨B32,rfl,rfl⟩;refine D ?_;refine gO (aq (us:=[iV x28.Kind,iV x28.Shape,iV x28.Flags,iV x28.Age,O A29 n29 c29,O A30 n30 c30]) (cs':=[iV x28.Kind,iV x28.Shape,iV x28.Flags,iV x28.Age,O A29 n29 c29,O A30 n30 c30]) 0 U U U U bx U U U) ?_;rintro _ _ rfl;refine D ?_;refine gR (aA (us:=[iV x28.Kind,iV x28.Shape,iV x28.Flags,iV x28.Age,O A29 n29 c29,O A30 n30 c30]) 0 U U be U) ?_;obtain ⟨y33,hy33,h⟩:=aa h;refine gD (ak (pY hy33) IE U (hE (ad (i:=2) U U) (hE (ad (i:=3) U U) ab)) oD) ?_;rintro _ _ ⟨_,⟨A34,n34,c34,rfl,rfl⟩,rfl⟩;obtain ⟨y35,hy35,h⟩:=aa h;refine gD (ak (dF hy35 ⟨ab,143, #[], #[],U,yK,fun _ _ hh=>kS hh⟩) zK U (hE (ar (i:=0) U) ab) dk) ?_;rintro _ _ ⟨_,⟨rfl,rfl⟩,rfl⟩;refine D ?_;obtain ⟨b36,hb36,h⟩:=aa h;refine aE 7 68 b36 ?_ ?_
   ·clear h;refine aD 61 U (fun g36=> ?_) (fun g36=> ?_)
    ·have h:=ag g36 hb36;refine D ?_;obtain ⟨q37,h⟩:=ap h;refine pn (qo U U q37.1 q37.2) U (aU g36 U) U ?_;obtain ⟨q38,h⟩:=ap h;refine pn (aW U U q38.1 q38.2) U (aU g36 U) U ?_;obtain ⟨y39,hy39,h⟩:=aa h;refine cv (ak (jv hy39) Bh U (hE (ad (i:=5) U U) ab) ii) U (aU g36 U) U ?_;rintro _ _ ⟨_,⟨rfl,rfl⟩,rfl⟩;refine D ?_;obtain rfl:=ao h;exact ac sA (cS [0,1,2,3,4,5,6] 7)
    have h:=ah g36 hb36;refine D ?_;obtain rfl:=ao h;exact ac sA (cS [0,1,2,3,4,5,6] 7)
   refine D ?_;refine av U (fun g40=> ?_) (fun g40=> ?_)
   ·replace h:=ag g40 h;refine D ?_;obtain rfl:=ao h;exact aC U U (cS [] 7) ⟨U,U⟩
   replace h:=ah g40 h;refine D ?_;obtain ⟨q41,h⟩:=ap h;refine gE (aW U U q41.1 q41.2) ?_;refine D ?_;exact ⟨m25,_,_,Rm _,⟨p26+1,h,U,U⟩,sA,cS [5,6] 7⟩
  replace h:=ah g27 h;refine D ?_;exact ⟨_,_,⟨h,U,U⟩,sA,cS [] 2⟩
 rintro _ _ ⟨h,rfl,rfl⟩;refine D ?_;obtain rfl:=ao h;exact aC U U (cS [] 0) ⟨U,U⟩
theorem Cz {r:Bool}: ∀v post,((fun (u:Value) (post:List Chunk)=>u=.bool r∧post=[])) v post→ ∀c∈post,cg c:=by
 rintro _ _ ⟨rfl,rfl⟩;exact ab
def cC (N:Nat)(a0:Q6)(a1:Int):Option Q6:=
 (ft N a1).bind fun y7=>(bif y7 then (some (!((lk a0.seen_ a1).getD false))) else (some false)).bind fun b8=>bif b8 then (bD (cc (a0.met_.length+([a1]:List Int).length)) (some (⟨a0.m_,a0.kept_,a0.met_++([a1]:List Int),tW a0.seen_ a1 true,a0.next_⟩:Q6))) else (some a0)
theorem iv {N:Nat}{a0:Q6}{a1:Int}{r:Q6}(h:cC N a0 a1=some r):Okc Tryz.prog 210 [pV B1 0,iV a1] ([bz A2 n2 c2 a0.m_.Young,bz A3 n3 c3 a0.m_.Old,dv A4 n4 c4 a0.kept_,ay B1 153 [O A2 n2 c2,O A3 n3 c3,O A4 n4 c4,O A5 n5 c5,.map (some M6),iV a0.next_],db A5 n5 c5 a0.met_,bq cB d8 M6 a0.seen_]) (fun u post=> ∃A0 n0 c0 A1 n1 c1 A2 n2 c2 A3 n3 c3 M4,u=.tuple #[]∧post=[ay B1 153 [O A0 n0 c0,O A1 n1 c1,O A2 n2 c2,O A3 n3 c3,.map (some M4),iV r.next_],bz A0 n0 c0 r.m_.Young,bz A1 n1 c1 r.m_.Old,dv A2 n2 c2 r.kept_,db A3 n3 c3 r.met_,bq cB d8 M4 r.seen_]):=by
 refine bw Tryz.func210 U U ?_;simp only [aQ];refine D ?_;obtain ⟨y7,hy7,h⟩:=aa h;refine gD (ak (kS hy7) yK U (ab) lr) ?_;rintro _ _ ⟨_,⟨rfl,rfl⟩,rfl⟩;refine D ?_;obtain ⟨b8,hb8,h⟩:=aa h;refine aE 8 14 b8 ?_ ?_
 ·clear h;refine aD 6 U (fun g8=> ?_) (fun g8=> ?_)
  ·have h:=ag g8 hb8;refine D ?_;refine bI (BS (a:=a1) (z:=false) 5 U uI U U QX (d7 hJ) FM) U (aU g8 U) U ?_;refine D ?_;obtain rfl:=ao h;exact ac sA (cS [0,1,2,3,4,5] 6)
  have h:=ah g8 hb8;refine D ?_;obtain rfl:=ao h;exact ac sA (cS [0,1,2,3,4,5] 6)
 refine D ?_;refine av U (fun g9=> ?_) (fun g9=> ?_)
 ·replace h:=ag g9 h;refine D ?_;refine gO (iu (a:=a1) (b:=true) 5 U U U U QX (d7 hJ)) ?_;rintro _ _ rfl;refine D ?_;refine gD (bN (R:=(fP .i64)) (vss:=[[iV a1]]) (xs:=[a1]) U (gS _) U U (fun _ _ hr=> .cons U All2.nil)) ?_;rintro _ _ ⟨A10,n10,c10,rfl,rfl⟩;obtain ⟨q11,h⟩:=ap h;refine gD (bA 5 0 U U aF U U QW De U U q11) ?_;rintro _ _ ⟨A12,n12,c12,rfl,rfl⟩;refine D ?_;refine gO (aq (us:=[O A12 n12 c12]) (cs':=[O A2 n2 c2,O A3 n3 c3,O A4 n4 c4,O A12 n12 c12,.map (some M6),iV a0.next_]) 4 U U U U rz U U U) ?_;rintro _ _ rfl;refine cq ?_;refine rq ?_;obtain rfl:=ao h;exact ld U (cS [4,1,2,3,5,6] 7) ⟨_,_,_,_,_,_,_,_,_,_,_,_,_,U,U⟩
 replace h:=ah g9 h;refine Db ?_;obtain rfl:=ao h;exact ld U (cS [3,0,1,2,4,5] 6) ⟨_,_,_,_,_,_,_,_,_,_,_,_,_,U,U⟩
def bY (N:Nat)(a0:Q6)(a1:Int):Option Ra:=
 (ft N a1).bind fun y8=>bif y8 then (bD (in64 (a1.tdiv 2)) ((aM a0.m_.Young (a1.tdiv 2)).bind fun x11=>some x11)) else (bD (in64 (a1.tdiv 2)) (bD (in64 ((a1.tdiv 2) - 1)) ((aM a0.m_.Old ((a1.tdiv 2) - 1)).bind fun x17=>some x17)))
theorem fD {N:Nat}{a0:Q6}{a1:Int}{r:Ra}(h:bY N a0 a1=some r):Okc Tryz.prog 142 [pV B1 0,iV a1] ([bz A2 n2 c2 a0.m_.Young,bz A3 n3 c3 a0.m_.Old,dv A4 n4 c4 a0.kept_,ay B1 153 [O A2 n2 c2,O A3 n3 c3,O A4 n4 c4,O A5 n5 c5,.map (some M6),iV a0.next_],db A5 n5 c5 a0.met_,bq cB d8 M6 a0.seen_]) (fun u post=> ∃A500 n500 c500 A501 n501 c501,u=.agg #[iV r.Kind,iV r.Shape,iV r.Flags,iV r.Age,O A500 n500 c500,O A501 n501 c501]∧post=[bm A500 n500 c500 r.Slots,bm A501 n501 c501 r.More,ay B1 153 [O A2 n2 c2,O A3 n3 c3,O A4 n4 c4,O A5 n5 c5,.map (some M6),iV a0.next_],db A5 n5 c5 a0.met_,bq cB d8 M6 a0.seen_]):=by
 refine bw Tryz.func142 U U ?_;simp only [aQ];refine D ?_;refine gD (aN dy U) ?_;rintro _ _ ⟨B7,rfl,rfl⟩;refine D ?_;refine az ?_;refine D ?_;obtain ⟨y8,hy8,h⟩:=aa h;refine gD (ak (kS hy8) yK U (ab) lr) ?_;rintro _ _ ⟨_,⟨rfl,rfl⟩,rfl⟩;refine D ?_;refine av U (fun g9=> ?_) (fun g9=> ?_)
 ·replace h:=ag g9 h;refine D ?_;obtain ⟨q10,h⟩:=ap h;refine gE (qn U U (by decide) q10.1 q10.2) ?_;obtain ⟨x11,hx11,h⟩:=aa h;obtain ⟨lx11,ux11,hx11⟩:=au hx11;refine gR (aH 1 U aj U U QU bx lx11 ux11) ?_;refine oN 1 U hx11 (dK x11) ?_;rintro _ _ ⟨A12,n12,c12,A13,n13,c13,rfl,rfl⟩;refine gR (jC (us:=[iV x11.Kind,iV x11.Shape,iV x11.Flags,iV x11.Age,O A12 n12 c12,O A13 n13 c13]) 0 U U be U) ?_;refine gO (aq (us:=[iV x11.Kind,iV x11.Shape,iV x11.Flags,iV x11.Age,O A12 n12 c12,O A13 n13 c13]) (cs':=[iV x11.Kind,iV x11.Shape,iV x11.Flags,iV x11.Age,O A12 n12 c12,O A13 n13 c13]) 3 U U U U bx U U U) ?_;rintro _ _ rfl;refine D ?_;obtain rfl:=ao h;exact dt (rs:=[.cell 4 47]) (vs:=[.agg #[iV x11.Kind,iV x11.Shape,iV x11.Flags,iV x11.Age,O A12 n12 c12,O A13 n13 c13]]) U (.cons (bZ 3 U U be) .nil) U (cS [1,2,7,8,9] 10) ⟨_,_,_,_,_,_,U,U⟩
 replace h:=ah g9 h;refine D ?_;obtain ⟨q15,h⟩:=ap h;refine gE (qn U U (by decide) q15.1 q15.2) ?_;obtain ⟨q16,h⟩:=ap h;refine gE (ko U U q16.1 q16.2) ?_;obtain ⟨x17,hx17,h⟩:=aa h;obtain ⟨lx17,ux17,hx17⟩:=au hx17;refine gR (aH 2 U aj U U QU bx lx17 ux17) ?_;refine oN 2 U hx17 (dK x17) ?_;rintro _ _ ⟨A18,n18,c18,A19,n19,c19,rfl,rfl⟩;refine gR (jC (us:=[iV x17.Kind,iV x17.Shape,iV x17.Flags,iV x17.Age,O A18 n18 c18,O A19 n19 c19]) 0 U U be U) ?_;refine gO (aq (us:=[iV x17.Kind,iV x17.Shape,iV x17.Flags,iV x17.Age,O A18 n18 c18,O A19 n19 c19]) (cs':=[iV x17.Kind,iV x17.Shape,iV x17.Flags,iV x17.Age,O A18 n18 c18,O A19 n19 c19]) 3 U U U U bx U U U) ?_;rintro _ _ rfl;refine D ?_;obtain rfl:=ao h;exact dt (rs:=[.cell 4 47]) (vs:=[.agg #[iV x17.Kind,iV x17.Shape,iV x17.Flags,iV x17.Age,O A18 n18 c18,O A19 n19 c19]]) U (.cons (bZ 3 U U be) .nil) U (cS [1,2,7,8,9] 10) ⟨_,_,_,_,_,_,U,U⟩
def fv (N:Nat)(kb7:(List Ra)→(List Ra)→(List Int)→(List Int)→(List (Int×Bool))→Int→Option Q6)(p16:(List Ra))(p17:(List Ra))(p18:(List Int))(p19:(List Int))(p20:(List (Int×Bool)))(p21:Int):Option Q6:=
 bD (in64 (p21+1)) (kb7 p16 p17 p18 p19 p20 (p21+1))
def fu (N:Nat)(kb7:(List Ra)→(List Ra)→(List Int)→(List Int)→(List (Int×Bool))→Int→Option Q6)(y28:((List Int))):Nat→Int→(List Ra)→(List Ra)→(List Int)→(List Int)→(List (Int×Bool))→Int→Option Q6
 |0,_,_,_,_,_,_,_=>none
 |m31+1,p32,p33,p34,p35,p36,p37,p38=>bif decide (p32<(y28.length:Int)) then ((aM y28 p32).bind fun x40=>(cC N (⟨(⟨p33,p34⟩:Rg),p35,p36,p37,p38⟩:Q6) x40).bind fun y41=>bD (in64 (p32+1)) ((fu N kb7 y28 m31) (p32+1) y41.m_.Young y41.m_.Old y41.kept_ y41.met_ y41.seen_ y41.next_)) else (fv N kb7 p33 p34 p35 p36 p37 p38)
def cj (N:Nat):Nat→(List Ra)→(List Ra)→(List Int)→(List Int)→(List (Int×Bool))→Int→Option Q6
 |0,_,_,_,_,_,_=>none
 |m7+1,p8,p9,p10,p11,p12,p13=>bif decide (p13<(p11.length:Int)) then ((aM p11 p13).bind fun x22=>(bY N (⟨(⟨p8,p9⟩:Rg),p10,p11,p12,p13⟩:Q6) x22).bind fun y23=>(eT N y23).bind fun y28=>fu N (cj N m7) y28 N 0 p8 p9 p10 p11 p12 p13) else (some (⟨(⟨p8,p9⟩:Rg),p10,p11,p12,p13⟩:Q6))
def eN (N:Nat)(a0:Q6):Option Q6:=
 cj N N a0.m_.Young a0.m_.Old a0.kept_ a0.met_ a0.seen_ a0.next_
theorem mF {N:Nat}{a0:Q6}{r:Q6}(h:eN N a0=some r):Okc Tryz.prog 211 [pV B1 0] ([bz A2 n2 c2 a0.m_.Young,bz A3 n3 c3 a0.m_.Old,dv A4 n4 c4 a0.kept_,ay B1 153 [O A2 n2 c2,O A3 n3 c3,O A4 n4 c4,O A5 n5 c5,.map (some M6),iV a0.next_],db A5 n5 c5 a0.met_,bq cB d8 M6 a0.seen_]) (fun u post=> ∃A0 n0 c0 A1 n1 c1 A2 n2 c2 A3 n3 c3 M4,u=.tuple #[]∧post=[ay B1 153 [O A0 n0 c0,O A1 n1 c1,O A2 n2 c2,O A3 n3 c3,.map (some M4),iV r.next_],bz A0 n0 c0 r.m_.Young,bz A1 n1 c1 r.m_.Old,dv A2 n2 c2 r.kept_,db A3 n3 c3 r.met_,bq cB d8 M4 r.seen_]):=by
 refine bw Tryz.func211 U U ?_;simp only [aQ];refine gY ?_;refine bn (fun m s L=> ∃p8 p9 p10 p11 p12 p13 A8 n8 c8 A9 n9 c9 A10 n10 c10 A11 n11 c11 M12,cj N m p8 p9 p10 p11 p12 p13=some r∧s=[(0,pV B1 0)]∧L=[bz A8 n8 c8 p8,bz A9 n9 c9 p9,dv A10 n10 c10 p10,db A11 n11 c11 p11,bq cB d8 M12 p12,ay B1 153 [O A8 n8 c8,O A9 n9 c9,O A10 n10 c10,O A11 n11 c11,.map (some M12),iV p13]]) N _ _ ⟨a0.m_.Young,a0.m_.Old,a0.kept_,a0.met_,a0.seen_,a0.next_,A2,n2,c2,A3,n3,c3,A4,n4,c4,A5,n5,c5,M6,h,U,U⟩ sA (cS [0,1,2,4,5,3] 6) ?_;rintro (_|m7) _ _ ⟨p8,p9,p10,p11,p12,p13,A8,n8,c8,A9,n9,c9,A10,n10,c10,A11,n11,c11,M12,h,rfl,rfl⟩
 ·exact aB h
 rw [cj.eq_2] at h;refine az ?_;refine az ?_;refine cn W _ (ai _) ?_;refine zE 0 U (ax U) ?_;refine zE 1 U (aL U) ?_;refine zE 2 U (bX U CQ) ?_;refine zR 3 U (bc 5 U U cZ U) ?_;refine zE 4 U (ax U) ?_;refine zE 5 U (aL U) ?_;refine zE 6 U (bX U oI) ?_;refine zR 7 U (bc 5 U U iR U) ?_;refine zR 8 U (aK 3 U aF U QW) ?_;refine zE 9 U (Lq U U) ?_;refine bB W ?_;refine gM ?_;refine av U (fun g14=> ?_) (fun g14=> ?_)
 ·replace h:=ag g14 h;refine D ?_;refine aO (fun s L=> ∃p16 p17 p18 p19 p20 p21 A16 n16 c16 A17 n17 c17 A18 n18 c18 A19 n19 c19 M20,fv N (cj N m7) p16 p17 p18 p19 p20 p21=some r∧s=[(0,pV B1 0)]∧L=[bz A16 n16 c16 p16,bz A17 n17 c17 p17,dv A18 n18 c18 p18,db A19 n19 c19 p19,bq cB d8 M20 p20,ay B1 153 [O A16 n16 c16,O A17 n17 c17,O A18 n18 c18,O A19 n19 c19,.map (some M20),iV p21]]) ?_ ?_
  ·refine gY ?_;refine az ?_;obtain ⟨x22,hx22,h⟩:=aa h;obtain ⟨lx22,ux22,hx22⟩:=au hx22;obtain ⟨y23,hy23,h⟩:=aa h;obtain ⟨y28,hy28,h⟩:=aa h;refine gT (t:=[(0,pV B1 0)]) ?_ lP (ai _)
   refine i6 W 15 [] [12,13,14] [21,22,23,24,25,26,27,28,29,30,31,32,33,34,35] [[],[],[1],[2],[3],[],[5],[6],[7],[4,8],[9],[0,10],[11],[12],[]] [aV (pV B1 0),
 aV (pV B1 0),
 aV (pV B1 0),
 aV (pV B1 3),
 aV (O A11 n11 c11),
 aV (pV B1 0),
 aV (pV B1 0),
 aV (pV B1 5),
 aV (iV p13),
 aV (ei (O A11 n11 c11) p13.toNat 1 0),
 aV (iV x22),
 aX6 (fun (A26:Option Addr) (n26 c26:Nat) (A27:Option Addr) (n27 c27:Nat)=> .agg #[iV y23.Kind,iV y23.Shape,iV y23.Flags,iV y23.Age,O A26 n26 c26,O A27 n27 c27]) (fun A26 n26 c26 A27 n27 c27=> [bm A26 n26 c26 y23.Slots,bm A27 n27 c27 y23.More]),
 aX3 (fun (A30:Option Addr) (n30 c30:Nat)=> O A30 n30 c30) (fun A30 n30 c30=> [db A30 n30 c30 y28]),
 aV (iV (y28.length:Int)),
 aV (iV 0)] [] (ai _) (lG) W rfl rfl ?_ ?_ ?_
   ·exact lF
   ·refine am U ?_ ?_
    ·exact cL (ax U) U (bu U (ai _))
    refine am U ?_ ?_
    ·intro A30 n30 c30;exact dO (aK 0 U aF U QW) U (bu U (ai _))
    refine am U ?_ ?_
    ·intro A26 n26 c26 A27 n27 c27;refine oM (ak (iQ hy28) xe U (hE (ad (i:=0) U U) (hE (ad (i:=1) U U) ab)) f9) U ?_;rintro _ _ ⟨_,⟨A29,n29,c29,rfl,rfl⟩,rfl⟩;exact AR A29 n29 c29 (ai _)
    refine am U ?_ ?_
    ·refine oM (aZ (fD hy23) yL U (aJ [0,1,2] [5,3,4] [0,1,2] 6 U)) U ?_;rintro _ _ ⟨_,⟨A24,n24,c24,A25,n25,c25,rfl,rfl⟩,rfl⟩;exact GD A24 n24 c24 A25 n25 c25 (cS [0,1,5,6,7,3,4,2] 8)
    refine am U ?_ ?_
    ·exact dO (aY (u:=iV x22) 3 U aF U hx22 cZ (fun _ _ _ h=>by rw [show _=_ from h];rfl)) U (bu U (ai _))
    refine am U ?_ ?_
    ·exact dO (aH 3 U aF U U QW dh lx22 ux22) U (bu U (ai _))
    refine am U ?_ ?_
    ·exact dO (bc 5 U U cZ U) U (bu U (ai _))
    refine am U ?_ ?_
    ·exact cL (bX U CQ) U (bu U (ai _))
    refine am U ?_ ?_
    ·exact cL (aL U) U (bu U (ai _))
    refine am U ?_ ?_
    ·exact cL (ax U) U (bu U (ai _))
    refine am U ?_ ?_
    ·exact dO (bc 5 U U iR U) U (bu U (ai _))
    refine am U ?_ ?_
    ·exact cL (bX U oI) U (bu U (ai _))
    refine am U ?_ ?_
    ·exact cL (aL U) U (bu U (ai _))
    refine am U ?_ ?_
    ·exact cL (ax U) U (bu U (ai _))
    refine am U ?_ ?_
    ·exact cL (ax U) U (bu U (ai _))
    exact eX
   intro A30 n30 c30;refine lZ (t:=[(33,O A30 n30 c30),(34,iV (y28.length:Int)),(35,iV 0),(0,pV B1 0)]) (L':=[db A30 n30 c30 y28,bz A8 n8 c8 p8,bz A9 n9 c9 p9,dv A10 n10 c10 p10,db A11 n11 c11 p11,bq cB d8 M12 p12,ay B1 153 [O A8 n8 c8,O A9 n9 c9,O A10 n10 c10,O A11 n11 c11,.map (some M12),iV p13]]) ?_ lP (ai _);refine lN W ?_;refine D ?_;refine bn (fun m s L=> ∃p32 p33 p34 p35 p36 p37 p38 A33 n33 c33 A34 n34 c34 A35 n35 c35 A36 n36 c36 M37,fu N (cj N m7) y28 m p32 p33 p34 p35 p36 p37 p38=some r∧s=[(0,pV B1 0),(33,O A30 n30 c30),(34,iV (y28.length:Int)),(35,iV p32)]∧L=[db A30 n30 c30 y28,bz A33 n33 c33 p33,bz A34 n34 c34 p34,dv A35 n35 c35 p35,db A36 n36 c36 p36,bq cB d8 M37 p37,ay B1 153 [O A33 n33 c33,O A34 n34 c34,O A35 n35 c35,O A36 n36 c36,.map (some M37),iV p38]]) N _ _ ⟨0,p8,p9,p10,p11,p12,p13,A8,n8,c8,A9,n9,c9,A10,n10,c10,A11,n11,c11,M12,h,U,U⟩ sA (cS [0,1,2,3,4,5,6] 7) ?_;rintro (_|m31) _ _ ⟨p32,p33,p34,p35,p36,p37,p38,A33,n33,c33,A34,n34,c34,A35,n35,c35,A36,n36,c36,M37,h,rfl,rfl⟩
   ·exact aB h
   rw [fu.eq_2] at h;refine D ?_;refine az ?_;refine av U (fun g39=> ?_) (fun g39=> ?_)
   ·replace h:=ag g39 h;refine D ?_;refine az ?_;refine D ?_;obtain ⟨x40,hx40,h⟩:=aa h;obtain ⟨lx40,ux40,hx40⟩:=au hx40;refine gR (aH 0 U aF U U QW dh lx40 ux40) ?_;refine gR (aY (u:=iV x40) 0 U aF U hx40 cZ (fun _ _ _ h=>by rw [show _=_ from h];rfl)) ?_;refine D ?_;obtain ⟨y41,hy41,h⟩:=aa h;refine gD (aZ (iv hy41) Be U (aJ [1,2,3] [6,4,5] [0,1,2,3] 7 U)) ?_;rintro _ _ ⟨_,⟨A42,n42,c42,A43,n43,c43,A44,n44,c44,A45,n45,c45,M46,rfl,rfl⟩,rfl⟩;refine D ?_;obtain ⟨q47,h⟩:=ap h;refine gE (aW U U q47.1 q47.2) ?_;refine D ?_;exact ⟨m31,_,_,Rm _,⟨p32+1,y41.m_.Young,y41.m_.Old,y41.kept_,y41.met_,y41.seen_,y41.next_,A42,n42,c42,A43,n43,c43,A44,n44,c44,A45,n45,c45,M46,h,U,U⟩,sA,cS [6,1,2,3,4,5,0] 10⟩
   replace h:=ah g39 h;refine D ?_;exact ⟨_,_,⟨p33,p34,p35,p36,p37,p38,A33,n33,c33,A34,n34,c34,A35,n35,c35,A36,n36,c36,M37,h,U,U⟩,sA,cS [1,2,3,4,5,6] 7⟩
  rintro _ _ ⟨p16,p17,p18,p19,p20,p21,A16,n16,c16,A17,n17,c17,A18,n18,c18,A19,n19,c19,M20,h,rfl,rfl⟩;refine D ?_;obtain ⟨q48,h⟩:=ap h;refine gE (aW U U q48.1 q48.2) ?_;refine D ?_;refine gO (aq (us:=[iV (p21+1)]) (cs':=[O A16 n16 c16,O A17 n17 c17,O A18 n18 c18,O A19 n19 c19,.map (some M20),iV (p21+1)]) 5 U U U U dh U U U) ?_;rintro _ _ rfl;refine D ?_;exact ⟨m7,_,_,Rm _,⟨p16,p17,p18,p19,p20,p21+1,A16,n16,c16,A17,n17,c17,A18,n18,c18,A19,n19,c19,M20,h,U,U⟩,sA,cS [0,1,2,3,4,5] 6⟩
 replace h:=ah g14 h;refine D ?_;obtain rfl:=ao h;exact ld U (cS [5,0,1,2,3,4] 6) ⟨_,_,_,_,_,_,_,_,_,_,_,_,_,U,U⟩
def kU (N:Nat)(a0:Q6)(p8:(List Int)):Option (List Int):=
 bD (cc (p8.length+a0.met_.length)) (some (p8++a0.met_))
def eu (N:Nat)(a0:Q6):Nat→(List Int)→Int→Option (List Int)
 |0,_,_=>none
 |m9+1,p10,p11=>bif decide (p11<(a0.m_.Old.length:Int)) then (bD (in64 (2*p11)) (bD (in64 ((2*p11)+2)) (bD (cc (p10.length+([(2*p11)+2]:List Int).length)) (bD (in64 (p11+1)) ((eu N a0 m9) (p10++([(2*p11)+2]:List Int)) (p11+1)))))) else (kU N a0 p10)
def eZ (N:Nat)(a0:Q6):Option (List Int):=
 eu N a0 N [] 0
theorem oC {N:Nat}{a0:Q6}{r:(List Int)}(h:eZ N a0=some r):Okc Tryz.prog 138 [pV B1 0] ([bE B1 153 [O A2 n2 c2,O A3 n3 c3,O A4 n4 c4,O A5 n5 c5,.map (some M6),iV a0.next_],bz A2 n2 c2 a0.m_.Young,bz A3 n3 c3 a0.m_.Old,dv A4 n4 c4 a0.kept_,dv A5 n5 c5 a0.met_,nD cB d8 M6 a0.seen_]) (fun u post=> ∃A0 n0 c0,u=O A0 n0 c0∧post=[db A0 n0 c0 r]):=by
 refine bw Tryz.func138 U U ?_;simp only [aQ];refine D ?_;refine aO (fun s L=> ∃p8 A8 n8 c8,kU N a0 p8=some r∧s=[(0,pV B1 0),(2,O none 0 0),(3,O A8 n8 c8)]∧L=[db A8 n8 c8 p8,bz A2 n2 c2 a0.m_.Young,bz A3 n3 c3 a0.m_.Old,dv A4 n4 c4 a0.kept_,dv A5 n5 c5 a0.met_,nD cB d8 M6 a0.seen_,bE B1 153 [O A2 n2 c2,O A3 n3 c3,O A4 n4 c4,O A5 n5 c5,.map (some M6),iV a0.next_]]) ?_ ?_
 ·refine D ?_;refine gR (bC 0 U U kQ U) ?_;refine gR (aK 2 U aj U QU) ?_;refine D ?_;refine bn (fun m s L=> ∃p10 p11 A10 n10 c10,eu N a0 m p10 p11=some r∧s=[(0,pV B1 0),(2,O none 0 0),(3,O A10 n10 c10),(10,iV (a0.m_.Old.length:Int)),(11,iV p11)]∧L=[db A10 n10 c10 p10,bz A2 n2 c2 a0.m_.Young,bz A3 n3 c3 a0.m_.Old,dv A4 n4 c4 a0.kept_,dv A5 n5 c5 a0.met_,nD cB d8 M6 a0.seen_,bE B1 153 [O A2 n2 c2,O A3 n3 c3,O A4 n4 c4,O A5 n5 c5,.map (some M6),iV a0.next_]]) N _ _ ⟨[],0,none,0,0,h,U,U⟩ sA ((bj (fP .i64) 3 _).trans (cS [0,2,3,4,5,6,1] 7)) ?_;rintro (_|m9) _ _ ⟨p10,p11,A10,n10,c10,h,rfl,rfl⟩
  ·exact aB h
  rw [eu.eq_2] at h;refine D ?_;refine az ?_;refine av U (fun g13=> ?_) (fun g13=> ?_)
  ·replace h:=ag g13 h;refine D ?_;refine az ?_;refine D ?_;obtain ⟨q14,h⟩:=ap h;refine gE (qo U U q14.1 q14.2) ?_;obtain ⟨q15,h⟩:=ap h;refine gE (aW U U q15.1 q15.2) ?_;refine gD (bN (R:=(fP .i64)) (vss:=[[iV ((2*p11)+2)]]) (xs:=[(2*p11)+2]) U (gS _) U U (fun _ _ hr=> .cons U All2.nil)) ?_;rintro _ _ ⟨A16,n16,c16,rfl,rfl⟩;obtain ⟨q17,h⟩:=ap h;refine gD (bA 1 0 U U aF U U QW De U U q17) ?_;rintro _ _ ⟨A18,n18,c18,rfl,rfl⟩;refine D ?_;obtain ⟨q19,h⟩:=ap h;refine gE (aW U U q19.1 q19.2) ?_;refine D ?_;exact ⟨m9,_,_,Rm _,⟨p10++([(2*p11)+2]:List Int),p11+1,A18,n18,c18,h,U,U⟩,sA,cS [1,2,3,4,5,6,7] 8⟩
  replace h:=ah g13 h;refine D ?_;exact ⟨_,_,⟨p10,A10,n10,c10,h,U,U⟩,sA,cS [0,1,2,3,4,5,6] 7⟩
 rintro _ _ ⟨p8,A8,n8,c8,h,rfl,rfl⟩;refine D ?_;refine gR (bC 6 U U iR U) ?_;obtain ⟨q20,h⟩:=ap h;refine gD (bA 0 4 U U aj U U QW De U U q20) ?_;rintro _ _ ⟨A21,n21,c21,rfl,rfl⟩;refine D ?_;obtain rfl:=ao h;exact aC U U (cS [0] 7) ⟨_,_,_,U,U⟩
theorem mY {r:(List Int)}: ∀v post,((fun (u:Value) (post:List Chunk)=> ∃A0 n0 c0,u=O A0 n0 c0∧post=[db A0 n0 c0 r])) v post→ ∀c∈post,cg c:=by
 rintro _ _ ⟨_,_,_,rfl,rfl⟩;exact hE bH (ab)
def li (N:Nat)(p3:(List Int)):Option (List Int):=
 some p3
def oQ (N:Nat)(a1:Int):Option (List Int):=
 bif decide (a1<0) then none else (bD (in64 (0 - 0)) (bD (in64 (a1 - (0 - 0))) (bif decide (0<a1 - (0 - 0)) then (bD ((0:Int)<(a1 - (0 - 0))∧(a1 - (0 - 0))≤1099511627776) (li N ([]:List Int))) else (li N []))))
theorem zd {N:Nat}{a1:Int}{r:(List Int)}(h:oQ N a1=some r):Okc Tryz.prog 219 [O none 0 0,iV a1] ([]) (fun u post=> ∃A0 n0 c0,u=O A0 n0 c0∧post=[db A0 n0 c0 r]):=by
 refine bw Tryz.func219 U U ?_;simp only [aQ];refine D ?_;refine az ?_;refine D ?_;refine av U (fun g1=> ?_) (fun g1=> ?_)
 ·replace h:=ag g1 h;exact aB h
 replace h:=ah g1 h;refine D ?_;refine aO (fun s L=> ∃p3 A3 n3 c3,li N p3=some r∧s=[(0,O A3 n3 c3),(4,O none 0 0)]∧L=[db A3 n3 c3 p3]) ?_ ?_
 ·refine D ?_;refine gE (vL U QW) ?_;refine D ?_;refine gE (nm U QW) ?_;obtain ⟨q4,h⟩:=ap h;refine gE (ko U U q4.1 q4.2) ?_;obtain ⟨q5,h⟩:=ap h;refine gE (ko U U q5.1 q5.2) ?_;refine D ?_;refine av U (fun g6=> ?_) (fun g6=> ?_)
  ·replace h:=ag g6 h;refine D ?_;refine gE (vL U QW) ?_;refine gE (zG U QW dh U) ?_;refine D ?_;obtain ⟨q7,h⟩:=ap h;refine gD (wW U U QW hJ De U q7.1 q7.2) ?_;rintro _ _ ⟨A8,n8,c8,rfl,rfl⟩;refine D ?_;refine gE (nm U QW) ?_;refine gD (E5 (R:=(fP .i64)) 0 U U QW dh U U) ?_;rintro _ _ ⟨A9,n9,c9,rfl,rfl⟩;refine D ?_;exact ⟨_,_,⟨([]:List Int),A9,n9,c9,h,U,U⟩,sA,cS [0] 1⟩
  replace h:=ah g6 h;refine D ?_;exact ⟨_,_,⟨[],none,0,0,h,U,U⟩,sA,(bj (fP .i64) 3 _).trans (cS [0] 1)⟩
 rintro _ _ ⟨p3,A3,n3,c3,h,rfl,rfl⟩;refine D ?_;obtain rfl:=ao h;exact aC U U (cS [0] 1) ⟨_,_,_,U,U⟩
theorem wN {r:(List Int)}: ∀v post,((fun (u:Value) (post:List Chunk)=> ∃A0 n0 c0,u=O A0 n0 c0∧post=[db A0 n0 c0 r])) v post→ ∀c∈post,cg c:=by
 rintro _ _ ⟨_,_,_,rfl,rfl⟩;exact hE bH (ab)
def mN (N:Nat)(p12:(List Int)):Option (List Int):=
 some p12
def nI (N:Nat)(a0_0:(List Int))(a0_1:(List Int)):Option (List Int):=
 (oQ N ((0+(a0_0.length:Int))+(a0_1.length:Int))).bind fun y9=>bD (cc (y9.length+a0_0.length)) (bD (cc ((y9++a0_0).length+a0_1.length)) (mN N ((y9++a0_0)++a0_1)))
def jN (N:Nat)(a0_0:(List Int))(a0_1:(List Int)):Option (List Int):=
 bD (in64 (0+(a0_0.length:Int))) (bif decide (0+(a0_0.length:Int)<0) then none else (bD (in64 ((0+(a0_0.length:Int))+(a0_1.length:Int))) (bif decide ((0+(a0_0.length:Int))+(a0_1.length:Int)<0) then none else (nI N a0_0 a0_1))))
theorem rW {N:Nat}{a0_0:(List Int)}{a0_1:(List Int)}{r:(List Int)}(h:jN N a0_0 a0_1=some r):Okc Tryz.prog 161 [.slice (some ⟨B1,0,none⟩) 2 2] ([bE B1 23 [O A2 n2 c2,O A3 n3 c3],dv A2 n2 c2 a0_0,dv A3 n3 c3 a0_1]) (fun u post=> ∃A0 n0 c0,u=O A0 n0 c0∧post=[db A0 n0 c0 r]):=by
 refine bw Tryz.func161 U U ?_;simp only [aQ];refine D ?_;refine aO (fun s L=>nI N a0_0 a0_1=some r∧s=[(0,.slice (some ⟨B1,0,none⟩) 2 2),(2,O none 0 0),(3,iV ((0+(a0_0.length:Int))+(a0_1.length:Int)))]∧L=[dv A2 n2 c2 a0_0,dv A3 n3 c3 a0_1,bE B1 23 [O A2 n2 c2,O A3 n3 c3]]) ?_ ?_
 ·refine D ?_;refine gE (nm U QY) ?_;refine D ?_;refine qA 3 ?_;refine rS ?_;refine D ?_;refine az ?_;refine eW U ?_;refine D ?_;refine az ?_;refine D ?_;refine gE (my U U QY rz (by decide) (by decide)) ?_;refine gR (bC 0 U U iR U) ?_;refine D ?_;refine gR (aK 1 U aj U QW) ?_;obtain ⟨q5,h⟩:=ap h;refine gE (aW U U q5.1 q5.2) ?_;refine D ?_;refine av U (fun g6=> ?_) (fun g6=> ?_)
  ·replace h:=ag g6 h;exact aB h
  replace h:=ah g6 h;refine D ?_;refine gE (aW U U (by decide) (by decide)) ?_;refine D ?_;refine rS ?_;refine D ?_;refine az ?_;refine eW U ?_;refine D ?_;refine az ?_;refine D ?_;refine gE (my U U QY rz (by decide) (by decide)) ?_;refine gR (bC 0 U U iR U) ?_;refine D ?_;refine gR (aK 2 U aj U QW) ?_;obtain ⟨q7,h⟩:=ap h;refine gE (aW U U q7.1 q7.2) ?_;refine D ?_;refine av U (fun g8=> ?_) (fun g8=> ?_)
  ·replace h:=ag g8 h;exact aB h
  replace h:=ah g8 h;refine D ?_;refine gE (aW U U (by decide) (by decide)) ?_;refine D ?_;refine rS ?_;refine D ?_;refine az ?_;refine jn U ?_;refine D ?_;exact ⟨_,_,⟨h,U,U⟩,sA,cS [1,2,0] 3⟩
 rintro _ _ ⟨h,rfl,rfl⟩;refine D ?_;obtain ⟨y9,hy9,h⟩:=aa h;refine gD (ak (zd hy9) NE U (ab) wN) ?_;rintro _ _ ⟨_,⟨A10,n10,c10,rfl,rfl⟩,rfl⟩;refine D ?_;refine aO (fun s L=> ∃p12 A12 n12 c12,mN N p12=some r∧s=[(2,O none 0 0),(6,O A12 n12 c12)]∧L=[db A12 n12 c12 p12]) ?_ ?_
 ·refine D ?_;refine gE (nm U QY) ?_;refine D ?_;refine qA 3 ?_;refine rS ?_;refine D ?_;refine az ?_;refine eW U ?_;refine D ?_;refine az ?_;refine D ?_;refine gE (my U U QY rz (by decide) (by decide)) ?_;refine gR (bC 3 U U iR U) ?_;refine D ?_;obtain ⟨q13,h⟩:=ap h;refine gD (bA 0 1 U U aj U U QW De U U q13) ?_;rintro _ _ ⟨A14,n14,c14,rfl,rfl⟩;refine D ?_;refine gE (aW U U (by decide) (by decide)) ?_;refine D ?_;refine rS ?_;refine D ?_;refine az ?_;refine eW U ?_;refine D ?_;refine az ?_;refine D ?_;refine gE (my U U QY rz (by decide) (by decide)) ?_;refine gR (bC 3 U U iR U) ?_;refine D ?_;obtain ⟨q15,h⟩:=ap h;refine gD (bA 0 2 U U aj U U QW De U U q15) ?_;rintro _ _ ⟨A16,n16,c16,rfl,rfl⟩;refine D ?_;refine gE (aW U U (by decide) (by decide)) ?_;refine D ?_;refine rS ?_;refine D ?_;refine az ?_;refine jn U ?_;refine D ?_;exact ⟨_,_,⟨(y9++a0_0)++a0_1,A16,n16,c16,h,U,U⟩,sA,cS [0] 4⟩
 rintro _ _ ⟨p12,A12,n12,c12,h,rfl,rfl⟩;refine D ?_;obtain rfl:=ao h;exact aC U U (cS [0] 1) ⟨_,_,_,U,U⟩
theorem pG {r:(List Int)}: ∀v post,((fun (u:Value) (post:List Chunk)=> ∃A0 n0 c0,u=O A0 n0 c0∧post=[db A0 n0 c0 r])) v post→ ∀c∈post,cg c:=by
 rintro _ _ ⟨_,_,_,rfl,rfl⟩;exact hE bH (ab)
def rT (N:Nat)(a0:Ra):Option Bool:=
 (bif decide (a0.Kind=8) then ((dH N a0).bind fun y5=>some y5) else (some false)).bind fun b4=>some b4
theorem Bq {N:Nat}{a0:Ra}{r:Bool}(h:rT N a0=some r):Okc Tryz.prog 189 [.agg #[iV a0.Kind,iV a0.Shape,iV a0.Flags,iV a0.Age,O A1 n1 c1,O A2 n2 c2]] ([bm A1 n1 c1 a0.Slots,bm A2 n2 c2 a0.More]) (fun u post=>u=.bool r∧post=[]):=by
 refine bw Tryz.func189 U U ?_;simp only [aQ];refine D ?_;refine gD (bd U U) ?_;rintro _ _ ⟨B3,rfl,rfl⟩;refine D ?_;obtain ⟨b4,hb4,h⟩:=aa h;refine aE 3 9 b4 ?_ ?_
 ·clear h;refine aD 6 U (fun g4=> ?_) (fun g4=> ?_)
  ·have h:=ag g4 hb4;refine bI (aA (us:=[iV a0.Kind,iV a0.Shape,iV a0.Flags,iV a0.Age,O A1 n1 c1,O A2 n2 c2]) 0 U U be U) U (aU g4 U) U ?_;obtain ⟨y5,hy5,h⟩:=aa h;refine cv (ak (kg hy5) zL U (hE (ad (i:=1) U U) (hE (ad (i:=2) U U) ab)) ic) U (aU g4 U) U ?_;rintro _ _ ⟨_,⟨rfl,rfl⟩,rfl⟩;refine D ?_;obtain rfl:=ao h;exact ac sA (cS [0,1,2] 3)
  have h:=ah g4 hb4;refine D ?_;obtain rfl:=ao h;exact ac sA (cS [0,1,2] 3)
 refine D ?_;obtain rfl:=ao h;exact aC U U (cS [] 3) ⟨U,U⟩
theorem xm {r:Bool}: ∀v post,((fun (u:Value) (post:List Chunk)=>u=.bool r∧post=[])) v post→ ∀c∈post,cg c:=by
 rintro _ _ ⟨rfl,rfl⟩;exact ab
def el (N:Nat){σ:Type}(fy:(Q5×Q5)→σ→Option (Bool×σ))(a1:Ra):Nat→Int→σ→Option σ
 |0,_,_=>none
 |m4+1,p5,p6=>bD (in64 (p5+1)) (bif decide (p5+1<(a1.More.length:Int)) then ((aM a1.More p5).bind fun x9=>bD (in64 (p5+1)) ((aM a1.More (p5+1)).bind fun x11=>(fy (x9,x11) p6).bind fun y12=>bif !y12.1 then (some y12.2) else (bD (in64 (p5+2)) ((el N fy a1 m4) (p5+2) y12.2)))) else (some p6))
def ie (N:Nat){σ:Type}(a1:Ra)(fy:(Q5×Q5)→σ→Option (Bool×σ))(s0:σ):Option σ:=
 el N fy a1 N 0 s0
theorem py {N:Nat}{σ:Type}{a1:Ra}{fy:(Q5×Q5)→σ→Option (Bool×σ)}{s0:σ}{r:σ}(h:ie N a1 fy s0=some r){l:Nat}{G:σ→List Chunk}(hY:rp Tryz.prog l G (fun x=> [.agg #[iV x.1.Kind,iV x.1.N,.string x.1.S],.agg #[iV x.2.Kind,iV x.2.N,.string x.2.S]]) fy):Okc Tryz.prog 261 [.func (.yield l) #[] #[],pV B1 0] (bE B1 47 [iV a1.Kind,iV a1.Shape,iV a1.Flags,iV a1.Age,O A2 n2 c2,O A3 n3 c3]::bm A2 n2 c2 a1.Slots::bm A3 n3 c3 a1.More::(G s0)) (fun u post=>u=.tuple #[]∧post=G r):=by
 refine bw Tryz.func261 U U ?_;simp only [aQ];refine D ?_;refine bn (fun m s L=> ∃p5 p6,el N fy a1 m p5 p6=some r∧s=[(0,.func (.yield l) #[] #[]),(1,pV B1 0),(3,iV p5)]∧L=bm A2 n2 c2 a1.Slots::bm A3 n3 c3 a1.More::bE B1 47 [iV a1.Kind,iV a1.Shape,iV a1.Flags,iV a1.Age,O A2 n2 c2,O A3 n3 c3]::(G p6)) N _ _ ⟨0,s0,h,U,U⟩ sA (cS [1,2,0] 3) ?_;rintro (_|m4) _ _ ⟨p5,p6,h,rfl,rfl⟩
 ·exact aB h
 rw [el.eq_2] at h;refine az ?_;refine D ?_;obtain ⟨q7,h⟩:=ap h;refine gE (aW U U q7.1 q7.2) ?_;refine D ?_;refine gR (bC 2 U U dE U) ?_;refine gR (aK 1 U aj U hU) ?_;refine D ?_;refine av U (fun g8=> ?_) (fun g8=> ?_)
 ·replace h:=ag g8 h;refine D ?_;refine az ?_;refine gY ?_;refine az ?_;obtain ⟨x9,hx9,h⟩:=aa h;obtain ⟨lx9,ux9,hx9⟩:=au hx9;obtain ⟨q10,h⟩:=ap h;obtain ⟨x11,hx11,h⟩:=aa h;obtain ⟨lx11,ux11,hx11⟩:=au hx11;refine gT (t:=[(0,.func (.yield l) #[] #[]),(1,pV B1 0),(3,iV p5)]) ?_ lP (ai _)
  refine i6 W 12 [] [0,5,11] [12,13,14,15,16,17,18,19,20,21,22,23] [[],[],[1],[],[2,3],[4],[],[6],[],[8],[7,9],[10]] [aV (.func (.yield l) #[] #[]),
 aV (pV B1 5),
 aV (O A3 n3 c3),
 aV (iV p5),
 aV (ei (O A3 n3 c3) p5.toNat 3 0),
 aV (.agg #[iV x9.Kind,iV x9.N,.string x9.S]),
 aV (pV B1 5),
 aV (O A3 n3 c3),
 aV (iV p5),
 aV (iV (p5+1)),
 aV (ei (O A3 n3 c3) ((p5+1).toNat) 3 0),
 aV (.agg #[iV x11.Kind,iV x11.N,.string x11.S])] [] (ai _) (lG) W rfl rfl ?_ ?_ ?_
  ·exact lF
  ·refine am U ?_ ?_
   ·exact dO (bp (us:=[iV x11.Kind,iV x11.N,.string x11.S]) 1 U aj U hx11 bW (fun _ _ _ h=>by rw [show _=_ from h];rfl)) U (bu U (ai _))
   refine am U ?_ ?_
   ·exact dO (aH 1 U aj U U hU aP lx11 ux11) U (bu U (ai _))
   refine am U ?_ ?_
   ·exact cL (aW U U q10.1 q10.2) U (bu U (ai _))
   refine am U ?_ ?_
   ·exact cL (ax U) U (bu U (ai _))
   refine am U ?_ ?_
   ·exact dO (bC 2 U U dE U) U (bu U (ai _))
   refine am U ?_ ?_
   ·exact cL (bX U iE) U (bu U (ai _))
   refine am U ?_ ?_
   ·exact dO (bp (us:=[iV x9.Kind,iV x9.N,.string x9.S]) 1 U aj U hx9 bW (fun _ _ _ h=>by rw [show _=_ from h];rfl)) U (bu U (ai _))
   refine am U ?_ ?_
   ·exact dO (aH 1 U aj U U hU aP lx9 ux9) U (bu U (ai _))
   refine am U ?_ ?_
   ·exact cL (ax U) U (bu U (ai _))
   refine am U ?_ ?_
   ·exact dO (bC 2 U U dE U) U (bu U (ai _))
   refine am U ?_ ?_
   ·exact cL (bX U iE) U (bu U (ai _))
   refine am U ?_ ?_
   ·exact cL (ax U) U (bu U (ai _))
   exact eX
  refine lZ (t:=[(12,.func (.yield l) #[] #[]),(17,.agg #[iV x9.Kind,iV x9.N,.string x9.S]),(23,.agg #[iV x11.Kind,iV x11.N,.string x11.S]),(0,.func (.yield l) #[] #[]),(1,pV B1 0),(3,iV p5)]) (L':=bm A2 n2 c2 a1.Slots::bm A3 n3 c3 a1.More::bE B1 47 [iV a1.Kind,iV a1.Shape,iV a1.Flags,iV a1.Age,O A2 n2 c2,O A3 n3 c3]::(G p6)) ?_ lP (ai _);obtain ⟨y12,hy12,h⟩:=aa h;refine qz 12 U W (vz (a:=(x9,x11)) [bm A2 n2 c2 a1.Slots,bm A3 n3 c3 a1.More,bE B1 47 [iV a1.Kind,iV a1.Shape,iV a1.Flags,iV a1.Age,O A2 n2 c2,O A3 n3 c3]] hY hy12 U U) U U U ?_;rintro _ _ ⟨rfl,rfl⟩;refine AT 13 U W (xa U) U U U ?_;refine lN W ?_;refine gM ?_;refine av U (fun g13=> ?_) (fun g13=> ?_)
  ·replace h:=ag g13 h;refine D ?_;obtain rfl:=ao h;exact El U (cS [] 3) ⟨U,U⟩
  replace h:=ah g13 h;refine D ?_;obtain ⟨q14,h⟩:=ap h;refine gE (aW U U q14.1 q14.2) ?_;refine D ?_;exact ⟨m4,_,_,Rm _,⟨p5+2,y12.2,h,U,U⟩,sA,cS [0,1,2] 3⟩
 replace h:=ah g8 h;refine D ?_;obtain rfl:=ao h;exact ld U (cS [] 3) ⟨U,U⟩
def kF (N:Nat)(a0:Ra):Option Unit:=
 some ()
theorem tq {N:Nat}{a0:Ra}{r:Unit}(h:kF N a0=some r):Okc Tryz.prog 239 [.agg #[iV a0.Kind,iV a0.Shape,iV a0.Flags,iV a0.Age,O A1 n1 c1,O A2 n2 c2]] ([bm A1 n1 c1 a0.Slots,bm A2 n2 c2 a0.More]) (fun u post=> ∃B900,u=.func (.func 261) #[] #[pV B900 0]∧post=[ay B900 47 [iV a0.Kind,iV a0.Shape,iV a0.Flags,iV a0.Age,O A1 n1 c1,O A2 n2 c2]]):=by
 refine bw Tryz.func239 U U ?_;simp only [aQ];refine D ?_;refine gD (bd U U) ?_;rintro _ _ ⟨B3,rfl,rfl⟩;refine D ?_;refine gE (ey U) ?_;refine D ?_;obtain rfl:=ao h;exact aC U U (cS [0] 3) ⟨_,U,U⟩
theorem qI {a0:Ra}{A1:Option Addr}{n1:Nat}{c1:Nat}{A2:Option Addr}{n2:Nat}{c2:Nat}: ∀v post,((fun (u:Value) (post:List Chunk)=> ∃B900,u=.func (.func 261) #[] #[pV B900 0]∧post=[ay B900 47 [iV a0.Kind,iV a0.Shape,iV a0.Flags,iV a0.Age,O A1 n1 c1,O A2 n2 c2]])) v post→ ∀c∈post,cg c:=by
 rintro _ _ ⟨_,rfl,rfl⟩;exact hE oH (ab)
def gJ (N:Nat)(a1:(List Int))(x12:Q5×Q5):((List Int))→Option (Option Exit×(List Int))
 |p13=>(bif decide (x12.2.Kind=7) then (some true) else (some (decide (x12.2.Kind=9)))).bind fun b18=>(bif b18 then ((dP N a1 x12.1.N).bind fun y20=>some y20) else (some false)).bind fun b19=>bif b19 then (bD (cc (p13.length+([x12.2.N]:List Int).length)) (some (none,p13++([x12.2.N]:List Int)))) else (some (none,p13))
def mJ (N:Nat)(a0:Ra)(a1:(List Int)):Option (List Int):=
 (rT N a0).bind fun y6=>bif !y6 then (some []) else ((kF N a0).bind fun y10=>(ie N a0 (da (fun x st=>gJ N a1 x st)) (none,[])).bind fun y14=>nH y14.1 (some y14.2) none (fun _=>none))
theorem wk {N:Nat}{a0:Ra}{a1:(List Int)}{r:(List Int)}(h:mJ N a0 a1=some r):Okc Tryz.prog 181 [.agg #[iV a0.Kind,iV a0.Shape,iV a0.Flags,iV a0.Age,O A1 n1 c1,O A2 n2 c2],O A3 n3 c3] ([bm A1 n1 c1 a0.Slots,bm A2 n2 c2 a0.More,dv A3 n3 c3 a1]) (fun u post=> ∃A0 n0 c0,u=O A0 n0 c0∧post=[db A0 n0 c0 r]):=by
 refine bw Tryz.func181 U U ?_;simp only [aQ];refine D ?_;refine gD (bd U U) ?_;rintro _ _ ⟨B4,rfl,rfl⟩;refine gD (bd U U) ?_;rintro _ _ ⟨B5,rfl,rfl⟩;refine D ?_;refine az ?_;refine D ?_;refine gR (aA (us:=[iV a0.Kind,iV a0.Shape,iV a0.Flags,iV a0.Age,O A1 n1 c1,O A2 n2 c2]) 1 U U be U) ?_;obtain ⟨y6,hy6,h⟩:=aa h;refine gD (ak (Bq hy6) II U (hE (ad (i:=2) U U) (hE (ad (i:=3) U U) ab)) xm) ?_;rintro _ _ ⟨_,⟨rfl,rfl⟩,rfl⟩;refine D ?_;refine av U (fun g7=> ?_) (fun g7=> ?_)
 ·replace h:=ag g7 h;refine D ?_;obtain rfl:=ao h;exact aC U U ((bj (fP .i64) 3 _).trans (cS [0] 6)) ⟨_,_,_,U,U⟩
 replace h:=ah g7 h;refine D ?_;refine gD (aN GY U) ?_;rintro _ _ ⟨B9,rfl,rfl⟩;refine D ?_;refine az ?_;refine D ?_;refine gR (aA (us:=[iV a0.Kind,iV a0.Shape,iV a0.Flags,iV a0.Age,O A1 n1 c1,O A2 n2 c2]) 2 U U be U) ?_;obtain ⟨y10,hy10,h⟩:=aa h;refine gD (ak (tq hy10) Iy U (hE (ad (i:=3) U U) (hE (ad (i:=4) U U) ab)) qI) ?_;rintro _ _ ⟨_,⟨B11,rfl,rfl⟩,rfl⟩;refine rq ?_;refine gM ?_;refine gT ?_ bv (gG 0 U);obtain ⟨y14,hy14,h⟩:=aa h;refine sE (en:=(fun x=> [.agg #[iV x.1.Kind,iV x.1.N,.string x.1.S],.agg #[iV x.2.Kind,iV x.2.N,.string x.2.S]])) (fun x st=>gJ N a1 x st) (fun (st:(List Int)) (mz:((Option Addr×Nat×Nat)))=> [dv A3 n3 c3 a1,ay B5 23 [O A3 n3 c3],fi (fP .i64) 3 (.slice mz.1 mz.2.1 mz.2.2) st,ay B9 23 [.slice mz.1 mz.2.1 mz.2.2]]) [bE B11 47 [iV a0.Kind,iV a0.Shape,iV a0.Flags,iV a0.Age,O A1 n1 c1,O A2 n2 c2],bm A1 n1 c1 a0.Slots,bm A2 n2 c2 a0.More] ([]) ((none,0,0)) U U Iv U (fun _=>U) (fun l G hY=>(py hy14 hY).mono fun _ _ hh=>hh.2) ((bj (fP .i64) 3 _).trans (aJ [1,5,6] [] [7,3,0,2] 8 U)) h ?_ ?_ ?_ ?_
 ·rintro l x12 p13 je sr12 ⟨A13,n13,c13⟩ h;replace h:gJ N a1 x12 p13=some (je,sr12):=h;simp only [yE,List.zip_cons_cons,List.zip_nil_left,List.zip_nil_right,List.reverse_cons,List.reverse_nil,List.nil_append,List.cons_append];refine D ?_;refine gD (aN ki U) ?_;rintro _ _ ⟨B16,rfl,rfl⟩;refine gO (aq (us:=[iV x12.1.Kind,iV x12.1.N,.string x12.1.S]) (cs':=[iV x12.1.Kind,iV x12.1.N,.string x12.1.S]) 0 U U U U aP U U U) ?_;rintro _ _ rfl;refine D ?_;refine gD (aN ki U) ?_;rintro _ _ ⟨B17,rfl,rfl⟩;refine gO (aq (us:=[iV x12.2.Kind,iV x12.2.N,.string x12.2.S]) (cs':=[iV x12.2.Kind,iV x12.2.N,.string x12.2.S]) 0 U U U U aP U U U) ?_;rintro _ _ rfl;refine cq ?_;refine D ?_;obtain ⟨b18,hb18,h⟩:=aa h;refine aE 4 22 b18 ?_ ?_
  ·clear h;refine aD 18 U (fun g18=> ?_) (fun g18=> ?_)
   ·have h:=ag g18 hb18;refine D ?_;obtain rfl:=ao h;exact ac sA (cS [0,1,2,3,4,5] 6)
   have h:=ah g18 hb18;refine D ?_;obtain rfl:=ao h;exact ac sA (cS [0,1,2,3,4,5] 6)
  refine D ?_;obtain ⟨b19,hb19,h⟩:=aa h;refine aE 5 28 b19 ?_ ?_
  ·clear h;refine aD 23 U (fun g19=> ?_) (fun g19=> ?_)
   ·have h:=ag g19 hb19;refine D ?_;obtain ⟨y20,hy20,h⟩:=aa h;refine cv (ak (jv hy20) Bh U (hE (ad (i:=2) U U) ab) ii) U (aU g19 U) U ?_;rintro _ _ ⟨_,⟨rfl,rfl⟩,rfl⟩;refine D ?_;obtain rfl:=ao h;exact ac sA (cS [0,1,2,3,4,5] 6)
   have h:=ah g19 hb19;refine D ?_;obtain rfl:=ao h;exact ac sA (cS [0,1,2,3,4,5] 6)
  refine D ?_;refine av U (fun g21=> ?_) (fun g21=> ?_)
  ·replace h:=ag g21 h;refine D ?_;refine gD (bN (R:=(fP .i64)) (vss:=[[iV x12.2.N]]) (xs:=[x12.2.N]) U (gS _) U U (fun _ _ hr=> .cons U All2.nil)) ?_;rintro _ _ ⟨A22,n22,c22,rfl,rfl⟩;obtain ⟨q23,h⟩:=ap h;refine gD (bA 5 0 U U aF U U QW De U U q23) ?_;rintro _ _ ⟨A24,n24,c24,rfl,rfl⟩;refine gO (aq (us:=[O A24 n24 c24]) (cs':=[O A24 n24 c24]) 6 U U U U rz U U U) ?_;rintro _ _ rfl;refine D ?_;obtain ⟨rfl,rfl⟩:=Prod.mk.inj (Option.some.inj h);exact AS ((cS [3,4,5,6] 7).trans (fL (A24,n24,c24) U))
  replace h:=ah g21 h;refine D ?_;obtain ⟨rfl,rfl⟩:=Prod.mk.inj (Option.some.inj h);exact AS ((cS [2,3,4,5] 6).trans (fL (A13,n13,c13) U))
 ·rintro ⟨A13,n13,c13⟩ h;refine oq ([dv A3 n3 c3 a1,ay B5 23 [O A3 n3 c3],db A13 n13 c13 y14.2,ay B9 23 [O A13 n13 c13]]) U ?_;refine D ?_;obtain rfl:=ao h;exact aC U U (cS [2] 4) ⟨_,_,_,U,U⟩
 ·rintro ⟨A13,n13,c13⟩ h;exact aB h
 rintro i ⟨A13,n13,c13⟩ h;exact aB h
theorem ts {r:(List Int)}: ∀v post,((fun (u:Value) (post:List Chunk)=> ∃A0 n0 c0,u=O A0 n0 c0∧post=[db A0 n0 c0 r])) v post→ ∀c∈post,cg c:=by
 rintro _ _ ⟨_,_,_,rfl,rfl⟩;exact hE bH (ab)
end Go.Proofs.YtmimkglhbmcokaaGreat