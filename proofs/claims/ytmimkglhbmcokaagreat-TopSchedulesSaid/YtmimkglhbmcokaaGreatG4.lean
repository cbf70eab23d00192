/- Merged texts: part 4. No conditions of their own. -/
import Derived.Test.YtmimkglhbmcokaaGreatG3
namespace Go.Proofs.YtmimkglhbmcokaaGreat
theorem St:type_of% Tryz.underlying203:=Tryz.underlying203
theorem Ss:type_of% Tryz.underlying117:=Tryz.underlying117
theorem Sr:type_of% Tryz.underlying34:=Tryz.underlying34
variable {A1 A2 A3 A4 A5 A8 A9:Option Addr} {B1 B6 M2 M6 M7 c1 c2 c3 c4 c5 c8 c9 n1 n2 n3 n4 n5 n8 n9:Nat}
open Go.RowKit Asn
set_option maxRecDepth 20000
def ii (N:Nat)(a0:SK)(a1:SD):Option (Int×Int×SK):=
 (aW N a0).bind fun y11=>bif y11 then (some (0,1,a0)) else ((dL N a1).bind fun y13=>bif !y13 then (some (0,51,a0)) else ((ed N a1).bind fun y15=>bG (bZ (a0.m_.Young.length+([(⟨y15.Kind,y15.Shape,y15.Flags,0,y15.Slots,y15.More⟩:SD)]:List SD).length)) (bG (in64 (2*((a0.m_.Young++([(⟨y15.Kind,y15.Shape,y15.Flags,0,y15.Slots,y15.More⟩:SD)]:List SD)).length:Int))) (bG (in64 ((2*((a0.m_.Young++([(⟨y15.Kind,y15.Shape,y15.Flags,0,y15.Slots,y15.More⟩:SD)]:List SD)).length:Int)) - 1)) (some ((2*((a0.m_.Young++([(⟨y15.Kind,y15.Shape,y15.Flags,0,y15.Slots,y15.More⟩:SD)]:List SD)).length:Int)) - 1,0,(⟨(⟨a0.m_.Young++([(⟨y15.Kind,y15.Shape,y15.Flags,0,y15.Slots,y15.More⟩:SD)]:List SD),a0.m_.Old⟩:SB),a0.roots_,a0.pending_,a0.set_⟩:SK)))))))
theorem sk {N:Nat}{a0:SK}{a1:SD}{r:(Int×Int×SK)}(h:ii N a0 a1=some r):Okc Tryz.prog 71 [pV B1 0,.agg #[iV a1.Kind,iV a1.Shape,iV a1.Flags,iV a1.Age,O A8 n8 c8,O A9 n9 c9]] ([bo A8 n8 c8 a1.Slots,bo A9 n9 c9 a1.More,ax B1 86 [O A2 n2 c2,O A3 n3 c3,O A4 n4 c4,O A5 n5 c5,pV B6 0],cI A2 n2 c2 a0.m_.Young,cI A3 n3 c3 a0.m_.Old,bL A4 n4 c4 a0.roots_,bL A5 n5 c5 a0.pending_,ax B6 157 [.map (some M7)],bq cC ee M7 a0.set_.at_]) (fun u post=> ∃A0 n0 c0 A1 n1 c1 A2 n2 c2 A3 n3 c3 M4,u=.tuple #[iV r.1,iV r.2.1]∧post=[ax B1 86 [O A0 n0 c0,O A1 n1 c1,O A2 n2 c2,O A3 n3 c3,pV B6 0],cI A0 n0 c0 r.2.2.m_.Young,cI A1 n1 c1 r.2.2.m_.Old,bL A2 n2 c2 r.2.2.roots_,bL A3 n3 c3 r.2.2.pending_,ax B6 157 [.map (some M4)],bq cC ee M4 r.2.2.set_.at_]):=by
 refine bz Tryz.func71 U U ?_;simp only [aR];refine D ?_;refine gD (bd U U) ?_;rintro _ _ ⟨B10,rfl,rfl⟩;refine D ?_;refine az ?_;refine D ?_;obtain ⟨y11,hy11,h⟩:=aa h;refine gD (ak (cj hy11) qg U (Ex (aY (i:=3) U) (Ex (ar (i:=4) U) (Ex (ar (i:=5) U) (Ex (ar (i:=6) U) (Ex (ar (i:=7) U) (Ex (aY (i:=8) U) (Ex (cH (i:=9) U) ad))))))) bT) ?_;rintro _ _ ⟨_,⟨rfl,rfl⟩,rfl⟩;refine D ?_;refine av U (fun g12=> ?_) (fun g12=> ?_)
 ·replace h:=ae g12 h;refine D ?_;obtain rfl:=ao h;exact FA U U U (cS [3,4,5,6,7,8,9] 10) ⟨_,_,_,_,_,_,_,_,_,_,_,_,_,U,U⟩
 replace h:=ag g12 h;refine D ?_;refine gR (aA (us:=[iV a1.Kind,iV a1.Shape,iV a1.Flags,iV a1.Age,O A8 n8 c8,O A9 n9 c9]) 0 U U bh U) ?_;obtain ⟨y13,hy13,h⟩:=aa h;refine gD (ak (kU hy13) Bj U (Ex (ac (i:=1) U U) (Ex (ac (i:=2) U U) ad)) iL) ?_;rintro _ _ ⟨_,⟨rfl,rfl⟩,rfl⟩;refine D ?_;refine av U (fun g14=> ?_) (fun g14=> ?_)
 ·replace h:=ae g14 h;refine D ?_;obtain rfl:=ao h;exact FA U U U (cS [3,4,5,6,7,8,9] 10) ⟨_,_,_,_,_,_,_,_,_,_,_,_,_,U,U⟩
 replace h:=ag g14 h;refine D ?_;refine gR (aA (us:=[iV a1.Kind,iV a1.Shape,iV a1.Flags,iV a1.Age,O A8 n8 c8,O A9 n9 c9]) 0 U U bh U) ?_;obtain ⟨y15,hy15,h⟩:=aa h;refine gD (ak (gP hy15) uu U (Ex (ac (i:=1) U U) (Ex (ac (i:=2) U U) ad)) fx) ?_;rintro _ _ ⟨_,⟨A16,n16,c16,A17,n17,c17,rfl,rfl⟩,rfl⟩;refine gO (au (us:=[iV y15.Kind,iV y15.Shape,iV y15.Flags,iV y15.Age,O A16 n16 c16,O A17 n17 c17]) (cs':=[iV y15.Kind,iV y15.Shape,iV y15.Flags,iV y15.Age,O A16 n16 c16,O A17 n17 c17]) 2 U U U U bF U U U) ?_;rintro _ _ rfl;refine D ?_;refine gO (au (us:=[iV 0]) (cs':=[iV y15.Kind,iV y15.Shape,iV y15.Flags,iV 0,O A16 n16 c16,O A17 n17 c17]) 2 U U U U dp U U U) ?_;rintro _ _ rfl;refine D ?_;refine az ?_;refine gZ ?_ bU (ck 0 U);refine EN ?_;refine gZ ?_ bU (ck 1 U);refine gZ (t:=[(0,pV B1 0),(3,pV B10 0),(4,iV 0),(5,iV 0)]) ?_ md (ah _)
 refine jh Y 8 [0] [0,5,7] [16,17,18,19,20,21,22,23] [[],[],[1],[2],[3],[4],[],[6]] [aV (pV B1 0),
aV (pV B1 0),
aV (pV B1 0),
aV (pV B1 0),
aV (pV B1 0),
aV (O A2 n2 c2),
aV (.agg #[iV y15.Kind,iV y15.Shape,iV y15.Flags,iV 0,O A16 n16 c16,O A17 n17 c17]),
aX3 (fun (A19:Option Addr) (n19 c19:Nat)=> O A19 n19 c19) (fun A19 n19 c19=> [cI A19 n19 c19 ([(⟨y15.Kind,y15.Shape,y15.Flags,0,y15.Slots,y15.More⟩:SD)]:List SD)])] [] (ah _) (Cq rfl lK) Y rfl rfl ?_ ?_ ?_
 ·refine Cp U ?_ ?_
  ·exact Kf (ay U) U (bn U (ah _))
  exact lJ
 ·refine ai U ?_ ?_
  ·refine nL (bw (R:=du) (vss:=[[iV y15.Kind,iV y15.Shape,iV y15.Flags,iV 0,O A16 n16 c16,O A17 n17 c17]]) (xs:=[(⟨y15.Kind,y15.Shape,y15.Flags,0,y15.Slots,y15.More⟩:SD)]) U (rM _ _ _ _ _ _ _ _ _ _) U U (fun _ _ hr=> .cons (⟨_,_,_,_,_,_,U,hr 0 _ U U,hr 1 _ U U⟩) All2.nil)) U ?_;rintro _ _ ⟨A18,n18,c18,rfl,rfl⟩;exact Ci A18 n18 c18 (ah _)
  refine ai U ?_ ?_
  ·exact dM (aA (us:=[iV y15.Kind,iV y15.Shape,iV y15.Flags,iV 0,O A16 n16 c16,O A17 n17 c17]) 2 U U bh U) U (bn U (ah _))
  refine ai U ?_ ?_
  ·exact dM (bc 5 U U lL U) U (bn U (ah _))
  refine ai U ?_ ?_
  ·exact cK (dG U ul) U (bn U (ah _))
  refine ai U ?_ ?_
  ·exact cK (dG U jd) U (bn U (ah _))
  refine ai U ?_ ?_
  ·exact cK (aL U) U (bn U (ah _))
  refine ai U ?_ ?_
  ·exact cK (ay U) U (bn U (ah _))
  refine ai U ?_ ?_
  ·exact cK (ay U) U (bn U (ah _))
  exact eH
 intro A19 n19 c19;refine mG (t:=[(16,pV B1 0),(21,O A2 n2 c2),(23,O A19 n19 c19),(0,pV B1 0),(3,pV B10 0),(4,iV 0),(5,iV 0)]) (L':=[cI A19 n19 c19 ([(⟨y15.Kind,y15.Shape,y15.Flags,0,y15.Slots,y15.More⟩:SD)]:List SD),bo A16 n16 c16 y15.Slots,bo A17 n17 c17 y15.More,ax B10 47 [iV y15.Kind,iV y15.Shape,iV y15.Flags,iV 0,O A16 n16 c16,O A17 n17 c17],bo A8 n8 c8 a1.Slots,bo A9 n9 c9 a1.More,ax B1 86 [O A2 n2 c2,O A3 n3 c3,O A4 n4 c4,O A5 n5 c5,pV B6 0],cI A2 n2 c2 a0.m_.Young,cI A3 n3 c3 a0.m_.Old,bL A4 n4 c4 a0.roots_,bL A5 n5 c5 a0.pending_,ax B6 157 [.map (some M7)],bq cC ee M7 a0.set_.at_]) ?_ md (ah _);obtain ⟨q20,h⟩:=ap h;refine rN 8 U Y (bj 7 0 U U aF U U Sr Er U U q20) U U U ?_;rintro _ _ ⟨A21,n21,c21,rfl,rfl⟩;refine Ck 9 U Y (aL U) U U U ?_;refine Ck 10 U Y (dG U jd) U U U ?_;refine Ck 11 U Y (dG U ul) U U U ?_;refine wu 12 U Y (au (us:=[O A21 n21 c21]) (cs':=[O A21 n21 c21,O A3 n3 c3,O A4 n4 c4,O A5 n5 c5,pV B6 0]) 6 U U U U sI U U U) U U ?_;rintro _ _ rfl;refine Ff ?_;refine ma Y ?_;refine D ?_;refine gR (aK 7 U aF U Sr) ?_;obtain ⟨q22,h⟩:=ap h;refine gE (ry U U q22.1 q22.2) ?_;obtain ⟨q23,h⟩:=ap h;refine gE (kZ U U q23.1 q23.2) ?_;refine D ?_;obtain rfl:=ao h
 exact FA U U U (cS [6,7,8,9,10,11,12] 13) ⟨_,_,_,_,_,_,_,_,_,_,_,_,_,U,U⟩
def ig (N:Nat)(a0:SK)(a1:SG):Option (Int×SK):=
 (aW N a0).bind fun y9=>bif y9 then (some (0,a0)) else (bG (bZ (a0.roots_.length+([a1]:List SG).length)) (bG (in64 (((a0.roots_++([a1]:List SG)).length:Int) - 1)) (some (((a0.roots_++([a1]:List SG)).length:Int) - 1,(⟨a0.m_,a0.roots_++([a1]:List SG),a0.pending_,a0.set_⟩:SK)))))
theorem sj {N:Nat}{a0:SK}{a1:SG}{r:(Int×SK)}(h:ig N a0 a1=some r):Okc Tryz.prog 72 [pV B1 0,.agg #[iV a1.Kind,iV a1.N,.string a1.S]] ([ax B1 86 [O A2 n2 c2,O A3 n3 c3,O A4 n4 c4,O A5 n5 c5,pV B6 0],cI A2 n2 c2 a0.m_.Young,cI A3 n3 c3 a0.m_.Old,bL A4 n4 c4 a0.roots_,bL A5 n5 c5 a0.pending_,ax B6 157 [.map (some M7)],bq cC ee M7 a0.set_.at_]) (fun u post=> ∃A0 n0 c0 A1 n1 c1 A2 n2 c2 A3 n3 c3 M4,u=iV r.1∧post=[ax B1 86 [O A0 n0 c0,O A1 n1 c1,O A2 n2 c2,O A3 n3 c3,pV B6 0],cI A0 n0 c0 r.2.m_.Young,cI A1 n1 c1 r.2.m_.Old,bL A2 n2 c2 r.2.roots_,bL A3 n3 c3 r.2.pending_,ax B6 157 [.map (some M4)],bq cC ee M4 r.2.set_.at_]):=by
 refine bz Tryz.func72 U U ?_;simp only [aR];refine D ?_;refine gD (bd U U) ?_;rintro _ _ ⟨B8,rfl,rfl⟩;refine D ?_;refine az ?_;refine D ?_;obtain ⟨y9,hy9,h⟩:=aa h;refine gD (ak (cj hy9) qg U (Ex (aY (i:=1) U) (Ex (ar (i:=2) U) (Ex (ar (i:=3) U) (Ex (ar (i:=4) U) (Ex (ar (i:=5) U) (Ex (aY (i:=6) U) (Ex (cH (i:=7) U) ad))))))) bT) ?_;rintro _ _ ⟨_,⟨rfl,rfl⟩,rfl⟩;refine D ?_;refine av U (fun g10=> ?_) (fun g10=> ?_)
 ·replace h:=ae g10 h;refine D ?_;obtain rfl:=ao h;exact aD U U (cS [1,2,3,4,5,6,7] 8) ⟨_,_,_,_,_,_,_,_,_,_,_,_,_,U,U⟩
 replace h:=ag g10 h;refine D ?_;refine az ?_;refine gZ (t:=[(0,pV B1 0),(3,pV B8 0),(4,iV 0)]) ?_ md (ah _)
 refine jh Y 7 [0] [0,4,6] [7,8,9,10,11,12,13] [[],[],[1],[2],[3],[],[5]] [aV (pV B1 0),
aV (pV B1 0),
aV (pV B1 0),
aV (pV B1 2),
aV (O A4 n4 c4),
aV (.agg #[iV a1.Kind,iV a1.N,.string a1.S]),
aX3 (fun (A12:Option Addr) (n12 c12:Nat)=> O A12 n12 c12) (fun A12 n12 c12=> [bL A12 n12 c12 ([a1]:List SG)])] [] (ah _) (Cq rfl lK) Y rfl rfl ?_ ?_ ?_
 ·refine Cp U ?_ ?_
  ·exact Kf (ay U) U (bn U (ah _))
  exact lJ
 ·refine ai U ?_ ?_
  ·refine nL (bw (R:=bv) (vss:=[[iV a1.Kind,iV a1.N,.string a1.S]]) (xs:=[a1]) U (rL _ _ _) U U (fun _ _ hr=> .cons U All2.nil)) U ?_;rintro _ _ ⟨A11,n11,c11,rfl,rfl⟩;exact Ci A11 n11 c11 (ah _)
  refine ai U ?_ ?_
  ·exact dM (aA (us:=[iV a1.Kind,iV a1.N,.string a1.S]) 0 U U bY U) U (bn U (ah _))
  refine ai U ?_ ?_
  ·exact dM (bc 1 U U eu U) U (bn U (ah _))
  refine ai U ?_ ?_
  ·exact cK (bX U ox) U (bn U (ah _))
  refine ai U ?_ ?_
  ·exact cK (aL U) U (bn U (ah _))
  refine ai U ?_ ?_
  ·exact cK (ay U) U (bn U (ah _))
  refine ai U ?_ ?_
  ·exact cK (ay U) U (bn U (ah _))
  exact eH
 intro A12 n12 c12;refine mG (t:=[(7,pV B1 0),(11,O A4 n4 c4),(13,O A12 n12 c12),(0,pV B1 0),(3,pV B8 0),(4,iV 0)]) (L':=[bL A12 n12 c12 ([a1]:List SG),ax B8 52 [iV a1.Kind,iV a1.N,.string a1.S],ax B1 86 [O A2 n2 c2,O A3 n3 c3,O A4 n4 c4,O A5 n5 c5,pV B6 0],cI A2 n2 c2 a0.m_.Young,cI A3 n3 c3 a0.m_.Old,bL A4 n4 c4 a0.roots_,bL A5 n5 c5 a0.pending_,ax B6 157 [.map (some M7)],bq cC ee M7 a0.set_.at_]) ?_ md (ah _);obtain ⟨q13,h⟩:=ap h;refine rN 7 U Y (bj 5 0 U U aF U U Sn ta U U q13) U U U ?_;rintro _ _ ⟨A14,n14,c14,rfl,rfl⟩;refine Ck 8 U Y (aL U) U U U ?_;refine Ck 9 U Y (bX U ox) U U U ?_;refine wu 10 U Y (au (us:=[O A14 n14 c14]) (cs':=[O A2 n2 c2,O A3 n3 c3,O A14 n14 c14,O A5 n5 c5,pV B6 0]) 2 U U U U dA U U U) U U ?_;rintro _ _ rfl;refine ma Y ?_;refine D ?_;refine gR (aK 5 U aF U Sn) ?_;obtain ⟨q15,h⟩:=ap h;refine gE (kZ U U q15.1 q15.2) ?_;refine D ?_;obtain rfl:=ao h;exact aD U U (cS [2,3,4,5,6,7,8] 9) ⟨_,_,_,_,_,_,_,_,_,_,_,_,_,U,U⟩
def sx (N:Nat)(a0:Int):Option Bool:=
 some (!decide (a0=a0))
theorem Aa {N:Nat}{a0:Int}{r:Bool}(h:sx N a0=some r):Okc Tryz.prog 254 [iV a0] ([]) (fun u post=>u=.bool r∧post=[]):=by
 refine bz Sc U U ?_;simp only [aR];refine D ?_;obtain rfl:=ao h;exact aD U U (cS [] 0) ⟨U,U⟩
theorem wh {r:Bool}: ∀v post,((fun (u:Value) (post:List Chunk)=>u=.bool r∧post=[])) v post→ ∀c∈post,cn c:=by
 rintro _ _ ⟨rfl,rfl⟩;exact ad
def uq (N:Nat)(a0:Int)(a1:Int):Option Bool:=
 (sx N a0).bind fun y1=>(bif y1 then ((sx N a1).bind fun y3=>some (!y3)) else (some false)).bind fun b2=>(bif b2 then (some true) else (some (decide (a0<a1)))).bind fun b4=>some b4
theorem HV {N:Nat}{a0:Int}{a1:Int}{r:Bool}(h:uq N a0 a1=some r):Okc Tryz.prog 220 [iV a0,iV a1] ([]) (fun u post=>u=.bool r∧post=[]):=by
 refine bz Se U U ?_;simp only [aR];refine D ?_;obtain ⟨y1,hy1,h⟩:=aa h;refine gD (ak (Aa hy1) JG U (ad) wh) ?_;rintro _ _ ⟨_,⟨rfl,rfl⟩,rfl⟩;refine D ?_;obtain ⟨b2,hb2,h⟩:=aa h;refine aE 4 11 b2 ?_ ?_
 ·clear h;refine aB 7 U (fun g2=> ?_) (fun g2=> ?_)
  ·have h:=ae g2 hb2;refine D ?_;obtain ⟨y3,hy3,h⟩:=aa h;refine ca (ak (Aa hy3) JG U (ad) wh) U (aS g2 U) U ?_;rintro _ _ ⟨_,⟨rfl,rfl⟩,rfl⟩;refine D ?_;obtain rfl:=ao h;exact ab sA (cS [] 0)
  have h:=ag g2 hb2;refine D ?_;obtain rfl:=ao h;exact ab sA (cS [] 0)
 refine D ?_;obtain ⟨b4,hb4,h⟩:=aa h;refine aE 4 16 b4 ?_ ?_
 ·clear h;refine aB 12 U (fun g4=> ?_) (fun g4=> ?_)
  ·have h:=ae g4 hb4;refine D ?_;obtain rfl:=ao h;exact ab sA (cS [] 0)
  have h:=ag g4 hb4;refine D ?_;obtain rfl:=ao h;exact ab sA (cS [] 0)
 refine D ?_;obtain rfl:=ao h;exact aD U U (cS [] 0) ⟨U,U⟩
theorem EI {r:Bool}: ∀v post,((fun (u:Value) (post:List Chunk)=>u=.bool r∧post=[])) v post→ ∀c∈post,cn c:=by
 rintro _ _ ⟨rfl,rfl⟩;exact ad
def iP (N:Nat)(a0:SH):Option (List Int):=
 (vS N a0.at_).bind fun y3=>(pP N a0.at_).bind fun y5=>some y5
theorem qT {N:Nat}{a0:SH}{r:(List Int)}(h:iP N a0=some r):Okc Tryz.prog 59 [pV B1 0] ([bE B1 157 [.map (some M2)],nQ cC ee M2 a0.at_]) (fun u post=> ∃A0 n0 c0,u=O A0 n0 c0∧post=[dl A0 n0 c0 r]):=by
 refine bz Tryz.func59 U U ?_;simp only [aR];refine D ?_;refine az ?_;refine D ?_;refine gE (nJ U Sm) ?_;refine D ?_;refine jT U ?_;refine D ?_;refine gR (bI 0 U U ID U) ?_;obtain ⟨y3,hy3,h⟩:=aa h;refine gD (ak (Gj hy3) Pb U (ad) DK) ?_;rintro _ _ ⟨_,⟨B4,rfl,rfl⟩,rfl⟩;obtain ⟨y5,hy5,h⟩:=aa h;refine gD (ak (Az hy5) Po U (Ex (aY (i:=0) U) (Ex (ac (i:=2) U U) ad)) xQ) ?_;rintro _ _ ⟨_,⟨A6,n6,c6,rfl,rfl⟩,rfl⟩;refine D ?_;obtain rfl:=ao h;exact aD U U (cS [0] 4) ⟨_,_,_,U,U⟩
theorem px {r:(List Int)}: ∀v post,((fun (u:Value) (post:List Chunk)=> ∃A0 n0 c0,u=O A0 n0 c0∧post=[dl A0 n0 c0 r])) v post→ ∀c∈post,cn c:=by
 rintro _ _ ⟨_,_,_,rfl,rfl⟩;exact Ex bJ (ad)
def kG (N:Nat)(a0:SG):Option (Int×Bool):=
 (bif decide (a0.Kind=7) then (some true) else (some (decide (a0.Kind=9)))).bind fun b2=>some (a0.N,b2)
theorem tA {N:Nat}{a0:SG}{r:(Int×Bool)}(h:kG N a0=some r):Okc Tryz.prog 207 [.agg #[iV a0.Kind,iV a0.N,.string a0.S]] ([]) (fun u post=>u=.tuple #[iV r.1,.bool r.2]∧post=[]):=by
 refine bz Tryz.func207 U U ?_;simp only [aR];refine D ?_;refine gD (bd U U) ?_;rintro _ _ ⟨B1,rfl,rfl⟩;refine D ?_;refine az ?_;refine cv Y _ (ah _) ?_;refine zE 0 U (bX U jB) ?_;refine zR 1 U (bc 0 U U cX U) ?_;refine zE 2 U (dG U fR) ?_;refine zR 3 U (bc 0 U U cX U) ?_;refine zE 4 U (HP U U) ?_;refine zE 5 U (ay U) ?_;refine zE 10 U (aI U) ?_;obtain ⟨b2,hb2,h⟩:=aa h;refine oH (fun l=>((((l.setIfInBounds 6 true).setIfInBounds 7 true).setIfInBounds 8 true).setIfInBounds 9 true)) 1 13 b2 (fun rest=> ?_) ?_
 ·clear h;refine qz 9 U (fun g2=> ?_) (fun g2=> ?_)
  ·have h:=ae g2 hb2;refine bK 6 U Y (lX g2 U) U ?_;refine bK 7 U Y (lX g2 U) U ?_;refine bK 8 U Y (lX g2 U) U ?_;refine zE 9 U (jo g2 U U) ?_;obtain rfl:=ao h;exact ky rest (eG U (am (am (am (am bU U) U) U) U)) (ah _) (ah _)
  have h:=ag g2 hb2;refine dH 6 U Y (dG U fR) (cu g2 U) U ?_;refine eD 7 U Y (bc 0 U U cX U) (cu g2 U) U ?_;refine dH 8 U Y (HP U U) (cu g2 U) U ?_;refine zE 9 U (jp g2 U U) ?_;obtain rfl:=ao h;exact ky rest (eG U (am (am (am (am bU U) U) U) U)) (ah _) (ah _)
 refine zE 11 U (aI U) ?_;refine bH Y ?_;refine D ?_;obtain rfl:=ao h;exact FA U U U (cS [] 1) ⟨U,U⟩
theorem rh {r:(Int×Bool)}: ∀v post,((fun (u:Value) (post:List Chunk)=>u=.tuple #[iV r.1,.bool r.2]∧post=[])) v post→ ∀c∈post,cn c:=by
 rintro _ _ ⟨rfl,rfl⟩;exact ad
def nT (N:Nat)(a1:Int)(p6:(List SD))(p7:Int):Option ((List SD)×Int×Bool):=
 (bif decide (0<a1) then (some (decide (p7<(p6.length:Int)))) else (some false)).bind fun b11=>some (p6,p7,b11)
def mP (N:Nat)(a0:SB)(a1:Int):Option ((List SD)×Int×Bool):=
 bG (in64 (a1.tdiv 2)) (bif decide (a1.tmod 2=0) then (bG (in64 (a1.tdiv 2)) (bG (in64 ((a1.tdiv 2) - 1)) (nT N a1 a0.Old ((a1.tdiv 2) - 1)))) else (nT N a1 a0.Young (a1.tdiv 2)))
theorem vj {N:Nat}{a0:SB}{a1:Int}{r:((List SD)×Int×Bool)}(h:mP N a0 a1=some r):Okc Tryz.prog 90 [.agg #[O A1 n1 c1,O A2 n2 c2],iV a1] ([bC A1 n1 c1 a0.Young,bC A2 n2 c2 a0.Old]) (fun u post=> ∃A0 n0 c0,u=.tuple #[O A0 n0 c0,iV r.2.1,.bool r.2.2]∧post=[bC A0 n0 c0 r.1]):=by
 refine bz Tryz.func90 U U ?_;simp only [aR];refine D ?_;refine gD (bd U U) ?_;rintro _ _ ⟨B3,rfl,rfl⟩;refine D ?_;obtain ⟨q4,h⟩:=ap h;refine gE (rx U U (by decide) q4.1 q4.2) ?_;refine D ?_;refine aO (fun s L=> ∃p6 p7 A6 n6 c6,nT N a1 p6 p7=some r∧s=[(1,iV a1),(4,O none 0 0),(5,iV 0),(6,.bool false),(7,O A6 n6 c6),(8,iV p7)]∧L=[bC A6 n6 c6 p6]) ?_ ?_
 ·refine D ?_;refine gE (lY U U (by decide)) ?_;refine D ?_;refine av U (fun g8=> ?_) (fun g8=> ?_)
  ·replace h:=ae g8 h;refine D ?_;obtain ⟨q9,h⟩:=ap h;refine gE (rx U U (by decide) q9.1 q9.2) ?_;obtain ⟨q10,h⟩:=ap h;refine gE (kZ U U q10.1 q10.2) ?_;refine D ?_;exact ⟨_,_,⟨a0.Old,(a1.tdiv 2) - 1,A2,n2,c2,h,U,U⟩,sA,cS [2] 3⟩
  replace h:=ag g8 h;refine D ?_;exact ⟨_,_,⟨a0.Young,a1.tdiv 2,A1,n1,c1,h,U,U⟩,sA,cS [1] 3⟩
 rintro _ _ ⟨p6,p7,A6,n6,c6,h,rfl,rfl⟩;refine D ?_;obtain ⟨b11,hb11,h⟩:=aa h;refine aE 5 30 b11 ?_ ?_
 ·clear h;refine aB 25 U (fun g11=> ?_) (fun g11=> ?_)
  ·have h:=ae g11 hb11;refine D ?_;refine bM (aK 0 U aj U Sr) U (aS g11 U) U ?_;refine D ?_;obtain rfl:=ao h;exact ab sA (cS [0] 1)
  have h:=ag g11 hb11;refine D ?_;obtain rfl:=ao h;exact ab sA (cS [0] 1)
 refine D ?_;obtain rfl:=ao h;exact QP U U U U (cS [0] 1) ⟨_,_,_,U,U⟩
def eK (N:Nat)(a0:SB)(a1:Int):Option Bool:=
 (mP N a0 a1).bind fun y4=>some y4.2.2
theorem kj {N:Nat}{a0:SB}{a1:Int}{r:Bool}(h:eK N a0 a1=some r):Okc Tryz.prog 27 [.agg #[O A1 n1 c1,O A2 n2 c2],iV a1] ([bC A1 n1 c1 a0.Young,bC A2 n2 c2 a0.Old]) (fun u post=>u=.bool r∧post=[]):=by
 refine bz Tryz.func27 U U ?_;simp only [aR];refine D ?_;refine gD (bd U U) ?_;rintro _ _ ⟨B3,rfl,rfl⟩;refine D ?_;refine gR (aA (us:=[O A1 n1 c1,O A2 n2 c2]) 0 U U cU U) ?_;refine D ?_;obtain ⟨y4,hy4,h⟩:=aa h;refine gD (aX (vj hy4) Na U (aJ [1,2] [] [0,1,2] 3 U)) ?_;rintro _ _ ⟨_,⟨A5,n5,c5,rfl,rfl⟩,rfl⟩;refine D ?_;obtain rfl:=ao h;exact aD U U (cS [] 4) ⟨U,U⟩
theorem ip {r:Bool}: ∀v post,((fun (u:Value) (post:List Chunk)=>u=.bool r∧post=[])) v post→ ∀c∈post,cn c:=by
 rintro _ _ ⟨rfl,rfl⟩;exact ad
def oe (N:Nat)(a0:SG)(a1:SB):Option Bool:=
 (kG N a0).bind fun y5=>(bif y5.2 then ((eK N a1 y5.1).bind fun y7=>some (!y7)) else (some false)).bind fun b6=>some b6
theorem Cg {N:Nat}{a0:SG}{a1:SB}{r:Bool}(h:oe N a0 a1=some r):Okc Tryz.prog 206 [.agg #[iV a0.Kind,iV a0.N,.string a0.S],pV B1 0] ([bE B1 36 [O A2 n2 c2,O A3 n3 c3],bC A2 n2 c2 a1.Young,bC A3 n3 c3 a1.Old]) (fun u post=>u=.bool r∧post=[]):=by
 refine bz Tryz.func206 U U ?_;simp only [aR];refine D ?_;refine gD (bd U U) ?_;rintro _ _ ⟨B4,rfl,rfl⟩;refine D ?_;refine gR (aA (us:=[iV a0.Kind,iV a0.N,.string a0.S]) 0 U U bY U) ?_;obtain ⟨y5,hy5,h⟩:=aa h;refine gD (ak (tA hy5) JP U (ad) rh) ?_;rintro _ _ ⟨_,⟨rfl,rfl⟩,rfl⟩;refine D ?_;obtain ⟨b6,hb6,h⟩:=aa h;refine aE 5 17 b6 ?_ ?_
 ·clear h;refine aB 12 U (fun g6=> ?_) (fun g6=> ?_)
  ·have h:=ae g6 hb6;refine bM (vq (us:=[O A2 n2 c2,O A3 n3 c3]) 1 U U cU U) U (aS g6 U) U ?_;refine D ?_;obtain ⟨y7,hy7,h⟩:=aa h;refine ca (ak (kj hy7) yo U (Ex (ac (i:=2) U U) (Ex (ac (i:=3) U U) ad)) ip) U (aS g6 U) U ?_;rintro _ _ ⟨_,⟨rfl,rfl⟩,rfl⟩;refine D ?_;obtain rfl:=ao h;exact ab sA (cS [0,1,2,3] 4)
  have h:=ag g6 hb6;refine D ?_;obtain rfl:=ao h;exact ab sA (cS [0,1,2,3] 4)
 refine D ?_;obtain rfl:=ao h;exact aD U U (cS [] 4) ⟨U,U⟩
def mD (N:Nat)(ff:SG→Option Bool):Option Int:=
 some (-1)
def dO (N:Nat)(ff:SG→Option Bool)(a0:(List SG)):Nat→Int→Option Int
 |0,_=>none
 |m3+1,p4=>bif decide (p4<(a0.length:Int)) then ((aM a0 p4).bind fun x6=>(ff x6).bind fun y7=>bif y7 then (some p4) else (bG (in64 (p4+1)) ((dO N ff a0 m3) (p4+1)))) else (mD N ff)
def jj (N:Nat)(a0:(List SG))(ff:SG→Option Bool):Option Int:=
 dO N ff a0 N 0
theorem rQ {N:Nat}{a0:(List SG)}{ff:SG→Option Bool}{r:Int}(h:jj N a0 ff=some r){vf:Value}{G:List Chunk}(hf:I6 Tryz.prog vf G (fun x=> [.agg #[iV x.Kind,iV x.N,.string x.S]]) (fun r=> .bool r) ff):Okc Tryz.prog 157 [O A1 n1 c1,vf] (bo A1 n1 c1 a0::G) (fun u post=>u=iV r∧post=[]):=by
 refine bz Tryz.func157 U U ?_;simp only [aR];refine D ?_;refine aO (fun s L=>mD N ff=some r∧s=[(4,iV 0)]∧L=G) ?_ ?_
 ·refine D ?_;refine gR (aK 0 U aj U Sn) ?_;refine D ?_;refine bp (fun m s L=> ∃p4,dO N ff a0 m p4=some r∧s=[(0,O A1 n1 c1),(1,vf),(4,iV 0),(7,iV (a0.length:Int)),(8,iV p4)]∧L=bo A1 n1 c1 a0::G) N _ _ ⟨0,h,U,U⟩ sA (cS [0] 1) ?_;rintro (_|m3) _ _ ⟨p4,h,rfl,rfl⟩
  ·exact aC h
  rw [dO.eq_2] at h;refine D ?_;refine az ?_;refine av U (fun g5=> ?_) (fun g5=> ?_)
  ·replace h:=ae g5 h;refine D ?_;refine az ?_;refine D ?_;obtain ⟨x6,hx6,h⟩:=aa h;obtain ⟨lx6,ux6,hx6⟩:=aq hx6;refine gR (aH 0 U aj U U Sn aP lx6 ux6) ?_;refine gR (bm (us:=[iV x6.Kind,iV x6.N,.string x6.S]) 0 U aj U hx6 bY (fun _ _ _ h=>by rw [show _=_ from h];rfl)) ?_;obtain ⟨y7,hy7,h⟩:=aa h;refine gD (DA (a:=x6) [bo A1 n1 c1 a0] hf hy7 U U) ?_;rintro _ _ ⟨rfl,rfl⟩;refine D ?_;refine av U (fun g8=> ?_) (fun g8=> ?_)
   ·replace h:=ae g8 h;refine D ?_;obtain rfl:=ao h;exact aD U U (um [] 1 U U) ⟨U,U⟩
   replace h:=ag g8 h;refine D ?_;obtain ⟨q9,h⟩:=ap h;refine gE (aU U U q9.1 q9.2) ?_;refine D ?_;exact ⟨m3,_,_,SP _,⟨p4+1,h,U,U⟩,sA,cS [0] 1⟩
  replace h:=ag g5 h;refine D ?_;exact ⟨_,_,⟨h,U,U⟩,sA,cS [] 1⟩
 rintro _ _ ⟨h,rfl,rfl⟩;refine D ?_;obtain rfl:=ao h;exact aD U U (um [] 0 U U) ⟨U,U⟩
theorem qr {r:Int}: ∀v post,((fun (u:Value) (post:List Chunk)=>u=iV r∧post=[])) v post→ ∀c∈post,cn c:=by
 rintro _ _ ⟨rfl,rfl⟩;exact ad
def cW (N:Nat)(a0:(List SG))(ff:SG→Option Bool):Option Bool:=
 (jj N a0 ff).bind fun y2=>some (decide (0≤y2))
theorem kB {N:Nat}{a0:(List SG)}{ff:SG→Option Bool}{r:Bool}(h:cW N a0 ff=some r){vf:Value}{G:List Chunk}(hf:I6 Tryz.prog vf G (fun x=> [.agg #[iV x.Kind,iV x.N,.string x.S]]) (fun r=> .bool r) ff):Okc Tryz.prog 74 [O A1 n1 c1,vf] (bo A1 n1 c1 a0::G) (fun u post=>u=.bool r∧post=[]):=by
 refine bz Tryz.func74 U U ?_;simp only [aR];refine D ?_;obtain ⟨y2,hy2,h⟩:=aa h;refine gD (ak (rQ hy2 hf) O9 U (Ex (ac (i:=0) U U) (AX (E:=[bo A1 n1 c1 a0]) hf.1)) qr) ?_;rintro _ _ ⟨_,⟨rfl,rfl⟩,rfl⟩;refine D ?_;obtain rfl:=ao h;exact aD U U (um [] 1 U U) ⟨U,U⟩
theorem jF {r:Bool}: ∀v post,((fun (u:Value) (post:List Chunk)=>u=.bool r∧post=[])) v post→ ∀c∈post,cn c:=by
 rintro _ _ ⟨rfl,rfl⟩;exact ad
def iz (N:Nat)(p3:(List SD)):Option (List SD):=
 some p3
def lA (N:Nat)(a1:Int):Option (List SD):=
 bif decide (a1<0) then none else (bG (in64 (0 - 0)) (bG (in64 (a1 - (0 - 0))) (bif decide (0<a1 - (0 - 0)) then (bG ((0:Int)<(a1 - (0 - 0))∧(a1 - (0 - 0))≤1099511627776) (iz N ([]:List SD))) else (iz N []))))
theorem uR {N:Nat}{a1:Int}{r:(List SD)}(h:lA N a1=some r):Okc Tryz.prog 160 [O none 0 0,iV a1] ([]) (fun u post=> ∃A0 n0 c0,u=O A0 n0 c0∧post=[cI A0 n0 c0 r]):=by
 refine bz Tryz.func160 U U ?_;simp only [aR];refine D ?_;refine az ?_;refine D ?_;refine av U (fun g1=> ?_) (fun g1=> ?_)
 ·replace h:=ae g1 h;exact aC h
 replace h:=ag g1 h;refine D ?_;refine aO (fun s L=> ∃p3 A3 n3 c3,iz N p3=some r∧s=[(0,O A3 n3 c3),(4,O none 0 0)]∧L=[cI A3 n3 c3 p3]) ?_ ?_
 ·refine D ?_;refine gE (wS U Sr) ?_;refine D ?_;refine gE (oy U Sr) ?_;obtain ⟨q4,h⟩:=ap h;refine gE (kZ U U q4.1 q4.2) ?_;obtain ⟨q5,h⟩:=ap h;refine gE (kZ U U q5.1 q5.2) ?_;refine D ?_;refine av U (fun g6=> ?_) (fun g6=> ?_)
  ·replace h:=ae g6 h;refine D ?_;refine gE (wS U Sr) ?_;refine gE (Bc U Sr bF U) ?_;refine D ?_;obtain ⟨q7,h⟩:=ap h;refine gD (yc U U Sr R4 Er U q7.1 q7.2) ?_;rintro _ _ ⟨A8,n8,c8,rfl,rfl⟩;refine D ?_;refine gE (oy U Sr) ?_;refine gD (Ge (R:=du) 0 U U Sr bF U U) ?_;rintro _ _ ⟨A9,n9,c9,rfl,rfl⟩;refine D ?_;exact ⟨_,_,⟨([]:List SD),A9,n9,c9,h,U,U⟩,sA,cS [0] 1⟩
  replace h:=ag g6 h;refine D ?_;exact ⟨_,_,⟨[],none,0,0,h,U,U⟩,sA,(ce du 47 _).trans (cS [0] 1)⟩
 rintro _ _ ⟨p3,A3,n3,c3,h,rfl,rfl⟩;refine D ?_;obtain rfl:=ao h;exact aD U U (cS [0] 1) ⟨_,_,_,U,U⟩
def kf (N:Nat)(p12:(List SD)):Option (List SD):=
 some p12
def kY (N:Nat)(a0_0:(List SD))(a0_1:(List SD)):Option (List SD):=
 (lA N ((0+(a0_0.length:Int))+(a0_1.length:Int))).bind fun y9=>bG (bZ (y9.length+a0_0.length)) (bG (bZ ((y9++a0_0).length+a0_1.length)) (kf N ((y9++a0_0)++a0_1)))
def fU (N:Nat)(a0_0:(List SD))(a0_1:(List SD)):Option (List SD):=
 bG (in64 (0+(a0_0.length:Int))) (bif decide (0+(a0_0.length:Int)<0) then none else (bG (in64 ((0+(a0_0.length:Int))+(a0_1.length:Int))) (bif decide ((0+(a0_0.length:Int))+(a0_1.length:Int)<0) then none else (kY N a0_0 a0_1))))
theorem oK {N:Nat}{a0_0:(List SD)}{a0_1:(List SD)}{r:(List SD)}(h:fU N a0_0 a0_1=some r):Okc Tryz.prog 78 [.slice (some ⟨B1,0,none⟩) 2 2] ([bE B1 34 [O A2 n2 c2,O A3 n3 c3],bC A2 n2 c2 a0_0,bC A3 n3 c3 a0_1]) (fun u post=> ∃A0 n0 c0,u=O A0 n0 c0∧post=[cI A0 n0 c0 r]):=by
 refine bz Tryz.func78 U U ?_;simp only [aR];refine D ?_;refine aO (fun s L=>kY N a0_0 a0_1=some r∧s=[(0,.slice (some ⟨B1,0,none⟩) 2 2),(2,O none 0 0),(3,iV ((0+(a0_0.length:Int))+(a0_1.length:Int)))]∧L=[bC A2 n2 c2 a0_0,bC A3 n3 c3 a0_1,bE B1 34 [O A2 n2 c2,O A3 n3 c3]]) ?_ ?_
 ·refine D ?_;refine gE (oy U Ss) ?_;refine D ?_;refine rO 3 ?_;refine sY ?_;refine D ?_;refine az ?_;refine eU U ?_;refine D ?_;refine az ?_;refine D ?_;refine gE (nu U U Ss sI (by decide) (by decide)) ?_;refine gR (bI 0 U U lL U) ?_;refine D ?_;refine gR (aK 1 U aj U Sr) ?_;obtain ⟨q5,h⟩:=ap h;refine gE (aU U U q5.1 q5.2) ?_;refine D ?_;refine av U (fun g6=> ?_) (fun g6=> ?_)
  ·replace h:=ae g6 h;exact aC h
  replace h:=ag g6 h;refine D ?_;refine gE (aU U U (by decide) (by decide)) ?_;refine D ?_;refine sY ?_;refine D ?_;refine az ?_;refine eU U ?_;refine D ?_;refine az ?_;refine D ?_;refine gE (nu U U Ss sI (by decide) (by decide)) ?_;refine gR (bI 0 U U lL U) ?_;refine D ?_;refine gR (aK 2 U aj U Sr) ?_;obtain ⟨q7,h⟩:=ap h;refine gE (aU U U q7.1 q7.2) ?_;refine D ?_;refine av U (fun g8=> ?_) (fun g8=> ?_)
  ·replace h:=ae g8 h;exact aC h
  replace h:=ag g8 h;refine D ?_;refine gE (aU U U (by decide) (by decide)) ?_;refine D ?_;refine sY ?_;refine D ?_;refine az ?_;refine jT U ?_;refine D ?_;exact ⟨_,_,⟨h,U,U⟩,sA,cS [1,2,0] 3⟩
 rintro _ _ ⟨h,rfl,rfl⟩;refine D ?_;obtain ⟨y9,hy9,h⟩:=aa h;refine gD (aX (uR hy9) O6 U (aJ [] [] [0,1,2] 3 U)) ?_;rintro _ _ ⟨_,⟨A10,n10,c10,rfl,rfl⟩,rfl⟩;refine D ?_;refine aO (fun s L=> ∃p12 A12 n12 c12,kf N p12=some r∧s=[(2,O none 0 0),(6,O A12 n12 c12)]∧L=[cI A12 n12 c12 p12]) ?_ ?_
 ·refine D ?_;refine gE (oy U Ss) ?_;refine D ?_;refine rO 3 ?_;refine sY ?_;refine D ?_;refine az ?_;refine eU U ?_;refine D ?_;refine az ?_;refine D ?_;refine gE (nu U U Ss sI (by decide) (by decide)) ?_;refine gR (bI 3 U U lL U) ?_;refine D ?_;obtain ⟨q13,h⟩:=ap h;refine gD (bj 0 1 U U aj U U Sr Er U U q13) ?_;rintro _ _ ⟨A14,n14,c14,rfl,rfl⟩;refine D ?_;refine gE (aU U U (by decide) (by decide)) ?_;refine D ?_;refine sY ?_;refine D ?_;refine az ?_;refine eU U ?_;refine D ?_;refine az ?_;refine D ?_;refine gE (nu U U Ss sI (by decide) (by decide)) ?_;refine gR (bI 3 U U lL U) ?_;refine D ?_;obtain ⟨q15,h⟩:=ap h;refine gD (bj 0 2 U U aj U U Sr Er U U q15) ?_;rintro _ _ ⟨A16,n16,c16,rfl,rfl⟩;refine cN ?_;refine D ?_;refine gE (aU U U (by decide) (by decide)) ?_;refine D ?_;refine sY ?_;refine D ?_;refine az ?_;refine jT U ?_;refine D ?_;exact ⟨_,_,⟨(y9++a0_0)++a0_1,A16,n16,c16,h,U,U⟩,sA,cS [0] 4⟩
 rintro _ _ ⟨p12,A12,n12,c12,h,rfl,rfl⟩;refine D ?_;obtain rfl:=ao h;exact aD U U (cS [0] 1) ⟨_,_,_,U,U⟩
def my (N:Nat)(a0:SG):Option Bool:=
 (bif decide (a0.Kind=7) then (some true) else (some (decide (a0.Kind=9)))).bind fun b2=>some b2
theorem sW {N:Nat}{a0:SG}{r:Bool}(h:my N a0=some r):Okc Tryz.prog 214 [.agg #[iV a0.Kind,iV a0.N,.string a0.S]] ([]) (fun u post=>u=.bool r∧post=[]):=by
 refine bz Tryz.func214 U U ?_;simp only [aR];refine D ?_;refine gD (bd U U) ?_;rintro _ _ ⟨B1,rfl,rfl⟩;refine D ?_;obtain ⟨b2,hb2,h⟩:=aa h;refine aE 4 10 b2 ?_ ?_
 ·clear h;refine aB 6 U (fun g2=> ?_) (fun g2=> ?_)
  ·have h:=ae g2 hb2;refine D ?_;obtain rfl:=ao h;exact ab sA (cS [0] 1)
  have h:=ag g2 hb2;refine D ?_;obtain rfl:=ao h;exact ab sA (cS [0] 1)
 refine D ?_;obtain rfl:=ao h;exact aD U U (cS [] 1) ⟨U,U⟩
theorem qe {r:Bool}: ∀v post,((fun (u:Value) (post:List Chunk)=>u=.bool r∧post=[])) v post→ ∀c∈post,cn c:=by
 rintro _ _ ⟨rfl,rfl⟩;exact ad
def fu (N:Nat)(a1:Bool)(x8:Bool×SG):((List Int))→Option (Option Exit×(List Int))
 |p9=>(bif x8.1==a1 then ((my N x8.2).bind fun y14=>some y14) else (some false)).bind fun b13=>bif b13 then (bG (bZ (p9.length+([x8.2.N]:List Int).length)) (some (none,p9++([x8.2.N]:List Int)))) else (some (none,p9))
def jS (N:Nat)(a0:SD)(a1:Bool):Option (List Int):=
 (rE N a0).bind fun y6=>(mY N a0 (dk (fun x st=>fu N a1 x st)) (none,[])).bind fun y10=>oL y10.1 (some y10.2) none (fun _=>none)
theorem sy {N:Nat}{a0:SD}{a1:Bool}{r:(List Int)}(h:jS N a0 a1=some r):Okc Tryz.prog 173 [.agg #[iV a0.Kind,iV a0.Shape,iV a0.Flags,iV a0.Age,O A1 n1 c1,O A2 n2 c2],.bool a1] ([bo A1 n1 c1 a0.Slots,bo A2 n2 c2 a0.More]) (fun u post=> ∃A0 n0 c0,u=O A0 n0 c0∧post=[dl A0 n0 c0 r]):=by
 refine bz Tryz.func173 U U ?_;simp only [aR];refine D ?_;refine gD (bd U U) ?_;rintro _ _ ⟨B3,rfl,rfl⟩;refine gD (bd U U) ?_;rintro _ _ ⟨B4,rfl,rfl⟩;refine D ?_;refine gD (aN Ic U) ?_;rintro _ _ ⟨B5,rfl,rfl⟩;refine D ?_;refine az ?_;refine D ?_;refine gR (aA (us:=[iV a0.Kind,iV a0.Shape,iV a0.Flags,iV a0.Age,O A1 n1 c1,O A2 n2 c2]) 2 U U bh U) ?_;obtain ⟨y6,hy6,h⟩:=aa h;refine gD (ak (BQ hy6) JX U (Ex (ac (i:=3) U U) (Ex (ac (i:=4) U U) ad)) xK) ?_;rintro _ _ ⟨_,⟨B7,rfl,rfl⟩,rfl⟩;refine tS ?_;refine gL ?_;refine gZ ?_ bU (ik 0 U);obtain ⟨y10,hy10,h⟩:=aa h;refine tR (en:=(fun x=> [.bool x.1,.agg #[iV x.2.Kind,iV x.2.N,.string x.2.S]])) (fun x st=>fu N a1 x st) (fun (st:(List Int)) (mz:((Option Addr×Nat×Nat)))=> [ax B4 4 [.bool a1],gK (fW .i64) 3 (.slice mz.1 mz.2.1 mz.2.2) st,ax B5 23 [.slice mz.1 mz.2.1 mz.2.2]]) [bE B7 47 [iV a0.Kind,iV a0.Shape,iV a0.Flags,iV a0.Age,O A1 n1 c1,O A2 n2 c2],bo A1 n1 c1 a0.Slots,bo A2 n2 c2 a0.More] ([]) ((none,0,0)) U U JK U (fun _=>U) (fun l G hY=>(wl hy10 hY).mono fun _ _ hh=>hh.2) ((ce (fW .i64) 3 _).trans (aJ [1,5,6] [] [3,0,2] 7 U)) h ?_ ?_ ?_ ?_
 ·rintro l x8 p9 je sr8 ⟨A9,n9,c9⟩ h;replace h:fu N a1 x8 p9=some (je,sr8):=h;simp only [zZ,List.zip_cons_cons,List.zip_nil_left,List.zip_nil_right,List.reverse_cons,List.reverse_nil,List.nil_append,List.cons_append];refine D ?_;refine gD (aN jD U) ?_;rintro _ _ ⟨B12,rfl,rfl⟩;refine gO (au (us:=[iV x8.2.Kind,iV x8.2.N,.string x8.2.S]) (cs':=[iV x8.2.Kind,iV x8.2.N,.string x8.2.S]) 0 U U U U aP U U U) ?_;rintro _ _ rfl;refine D ?_;refine gE (P7 U U R5) ?_;refine D ?_;obtain ⟨b13,hb13,h⟩:=aa h;refine aE 3 18 b13 ?_ ?_
  ·clear h;refine aB 15 U (fun g13=> ?_) (fun g13=> ?_)
   ·have h:=ae g13 hb13;refine bM (aA (us:=[iV x8.2.Kind,iV x8.2.N,.string x8.2.S]) 0 U U bY U) U (aS g13 U) U ?_;obtain ⟨y14,hy14,h⟩:=aa h;refine ca (ak (sW hy14) GI U (ad) qe) U (aS g13 U) U ?_;rintro _ _ ⟨_,⟨rfl,rfl⟩,rfl⟩;refine D ?_;obtain rfl:=ao h;exact ab sA (cS [0,1,2,3] 4)
   have h:=ag g13 hb13;refine D ?_;obtain rfl:=ao h;exact ab sA (cS [0,1,2,3] 4)
  refine D ?_;refine av U (fun g15=> ?_) (fun g15=> ?_)
  ·replace h:=ae g15 h;refine D ?_;refine gD (bw (R:=(fW .i64)) (vss:=[[iV x8.2.N]]) (xs:=[x8.2.N]) U (iy _) U U (fun _ _ hr=> .cons U All2.nil)) ?_;rintro _ _ ⟨A16,n16,c16,rfl,rfl⟩;obtain ⟨q17,h⟩:=ap h;refine gD (bj 3 0 U U aF U U Sg Es U U q17) ?_;rintro _ _ ⟨A18,n18,c18,rfl,rfl⟩;refine cN ?_;refine gO (au (us:=[O A18 n18 c18]) (cs':=[O A18 n18 c18]) 4 U U U U sJ U U U) ?_;rintro _ _ rfl;refine D ?_;obtain ⟨rfl,rfl⟩:=Prod.mk.inj (Option.some.inj h);exact Cj ((cS [2,3,4] 5).trans (gh (A18,n18,c18) U))
  replace h:=ag g15 h;refine D ?_;obtain ⟨rfl,rfl⟩:=Prod.mk.inj (Option.some.inj h);exact Cj ((cS [1,2,3] 4).trans (gh (A9,n9,c9) U))
 ·rintro ⟨A9,n9,c9⟩ h;refine pp ([ax B4 4 [.bool a1],dl A9 n9 c9 y10.2,ax B5 23 [O A9 n9 c9]]) U ?_;refine D ?_;obtain rfl:=ao h;exact aD U U (cS [1] 3) ⟨_,_,_,U,U⟩
 ·rintro ⟨A9,n9,c9⟩ h;exact aC h
 rintro i ⟨A9,n9,c9⟩ h;exact aC h
theorem qp {r:(List Int)}: ∀v post,((fun (u:Value) (post:List Chunk)=> ∃A0 n0 c0,u=O A0 n0 c0∧post=[dl A0 n0 c0 r])) v post→ ∀c∈post,cn c:=by
 rintro _ _ ⟨_,_,_,rfl,rfl⟩;exact Ex bJ (ad)
def fw (N:Nat)(a0:SD):Option (List Int):=
 (jS N a0 true).bind fun y4=>some y4
theorem jq {N:Nat}{a0:SD}{r:(List Int)}(h:fw N a0=some r):Okc Tryz.prog 96 [.agg #[iV a0.Kind,iV a0.Shape,iV a0.Flags,iV a0.Age,O A1 n1 c1,O A2 n2 c2]] ([bo A1 n1 c1 a0.Slots,bo A2 n2 c2 a0.More]) (fun u post=> ∃A0 n0 c0,u=O A0 n0 c0∧post=[dl A0 n0 c0 r]):=by
 refine bz Tryz.func96 U U ?_;simp only [aR];refine D ?_;refine gD (bd U U) ?_;rintro _ _ ⟨B3,rfl,rfl⟩;refine D ?_;refine gR (aA (us:=[iV a0.Kind,iV a0.Shape,iV a0.Flags,iV a0.Age,O A1 n1 c1,O A2 n2 c2]) 0 U U bh U) ?_;obtain ⟨y4,hy4,h⟩:=aa h;refine gD (ak (sy hy4) JW U (Ex (ac (i:=1) U U) (Ex (ac (i:=2) U U) ad)) qp) ?_;rintro _ _ ⟨_,⟨A5,n5,c5,rfl,rfl⟩,rfl⟩;refine D ?_;obtain rfl:=ao h;exact aD U U (cS [0] 4) ⟨_,_,_,U,U⟩
theorem gy {r:(List Int)}: ∀v post,((fun (u:Value) (post:List Chunk)=> ∃A0 n0 c0,u=O A0 n0 c0∧post=[dl A0 n0 c0 r])) v post→ ∀c∈post,cn c:=by
 rintro _ _ ⟨_,_,_,rfl,rfl⟩;exact Ex bJ (ad)
def gY (N:Nat)(a0:SD):Option (List Int):=
 (jS N a0 false).bind fun y4=>some y4
theorem oD {N:Nat}{a0:SD}{r:(List Int)}(h:gY N a0=some r):Okc Tryz.prog 97 [.agg #[iV a0.Kind,iV a0.Shape,iV a0.Flags,iV a0.Age,O A1 n1 c1,O A2 n2 c2]] ([bo A1 n1 c1 a0.Slots,bo A2 n2 c2 a0.More]) (fun u post=> ∃A0 n0 c0,u=O A0 n0 c0∧post=[dl A0 n0 c0 r]):=by
 refine bz Tryz.func97 U U ?_;simp only [aR];refine D ?_;refine gD (bd U U) ?_;rintro _ _ ⟨B3,rfl,rfl⟩;refine D ?_;refine gR (aA (us:=[iV a0.Kind,iV a0.Shape,iV a0.Flags,iV a0.Age,O A1 n1 c1,O A2 n2 c2]) 0 U U bh U) ?_;obtain ⟨y4,hy4,h⟩:=aa h;refine gD (ak (sy hy4) JW U (Ex (ac (i:=1) U U) (Ex (ac (i:=2) U U) ad)) qp) ?_;rintro _ _ ⟨_,⟨A5,n5,c5,rfl,rfl⟩,rfl⟩;refine D ?_;obtain rfl:=ao h;exact aD U U (cS [0] 4) ⟨_,_,_,U,U⟩
theorem mC {r:(List Int)}: ∀v post,((fun (u:Value) (post:List Chunk)=> ∃A0 n0 c0,u=O A0 n0 c0∧post=[dl A0 n0 c0 r])) v post→ ∀c∈post,cn c:=by
 rintro _ _ ⟨_,_,_,rfl,rfl⟩;exact Ex bJ (ad)
def i5 (N:Nat)(a0:SD):Option (List Int):=
 (fw N a0).bind fun y4=>(gY N a0).bind fun y6=>bG (bZ (y4.length+y6.length)) (some (y4++y6))
theorem rf {N:Nat}{a0:SD}{r:(List Int)}(h:i5 N a0=some r):Okc Tryz.prog 209 [.agg #[iV a0.Kind,iV a0.Shape,iV a0.Flags,iV a0.Age,O A1 n1 c1,O A2 n2 c2]] ([bo A1 n1 c1 a0.Slots,bo A2 n2 c2 a0.More]) (fun u post=> ∃A0 n0 c0,u=O A0 n0 c0∧post=[dl A0 n0 c0 r]):=by
 refine bz Tryz.func209 U U ?_;simp only [aR];refine D ?_;refine gD (bd U U) ?_;rintro _ _ ⟨B3,rfl,rfl⟩;refine D ?_;refine az ?_;refine cv Y _ (ah _) ?_;refine zR 0 U (aA (us:=[iV a0.Kind,iV a0.Shape,iV a0.Flags,iV a0.Age,O A1 n1 c1,O A2 n2 c2]) 0 U U bh U) ?_;refine zR 2 U (aA (us:=[iV a0.Kind,iV a0.Shape,iV a0.Flags,iV a0.Age,O A1 n1 c1,O A2 n2 c2]) 0 U U bh U) ?_;obtain ⟨y4,hy4,h⟩:=aa h;refine zD 1 U (ak (jq hy4) yn U (Ex (ac (i:=1) U U) (Ex (ac (i:=2) U U) ad)) gy) ?_;rintro _ _ ⟨_,⟨A5,n5,c5,rfl,rfl⟩,rfl⟩;refine bN (cS [1,2,3] 4) ?_;obtain ⟨y6,hy6,h⟩:=aa h;refine zD 3 U (ak (oD hy6) GG U (Ex (ac (i:=2) U U) (Ex (ac (i:=3) U U) ad)) mC) ?_;rintro _ _ ⟨_,⟨A7,n7,c7,rfl,rfl⟩,rfl⟩;refine bN (cS [2,3,4] 5) ?_;obtain ⟨q8,h⟩:=ap h;refine zD 4 U (bj 1 0 U U aF U U Sg Es U U q8) ?_;rintro _ _ ⟨A9,n9,c9,rfl,rfl⟩;refine bN (cS [2,3,4] 5) ?_;refine zE 5 U (aI U) ?_;refine bH Y ?_;refine D ?_;obtain rfl:=ao h;exact aD U U (cS [1] 5) ⟨_,_,_,U,U⟩
theorem pE {r:(List Int)}: ∀v post,((fun (u:Value) (post:List Chunk)=> ∃A0 n0 c0,u=O A0 n0 c0∧post=[dl A0 n0 c0 r])) v post→ ∀c∈post,cn c:=by
 rintro _ _ ⟨_,_,_,rfl,rfl⟩;exact Ex bJ (ad)
def oU (N:Nat)(a0:Int)(a1:SB):Option Bool:=
 (eK N a1 a0).bind fun y4=>some (!y4)
theorem zp {N:Nat}{a0:Int}{a1:SB}{r:Bool}(h:oU N a0 a1=some r):Okc Tryz.prog 246 [iV a0,pV B1 0] ([bE B1 36 [O A2 n2 c2,O A3 n3 c3],bC A2 n2 c2 a1.Young,bC A3 n3 c3 a1.Old]) (fun u post=>u=.bool r∧post=[]):=by
 refine bz Tryz.func246 U U ?_;simp only [aR];refine D ?_;refine gR (vq (us:=[O A2 n2 c2,O A3 n3 c3]) 0 U U cU U) ?_;refine D ?_;obtain ⟨y4,hy4,h⟩:=aa h;refine gD (ak (kj hy4) yo U (Ex (ac (i:=1) U U) (Ex (ac (i:=2) U U) ad)) ip) ?_;rintro _ _ ⟨_,⟨rfl,rfl⟩,rfl⟩;refine D ?_;obtain rfl:=ao h;exact aD U U (cS [] 3) ⟨U,U⟩
def qj (N:Nat)(ff:Int→Option Bool):Option Int:=
 some (-1)
def dQ (N:Nat)(ff:Int→Option Bool)(a0:(List Int)):Nat→Int→Option Int
 |0,_=>none
 |m3+1,p4=>bif decide (p4<(a0.length:Int)) then ((aM a0 p4).bind fun x6=>(ff x6).bind fun y7=>bif y7 then (some p4) else (bG (in64 (p4+1)) ((dQ N ff a0 m3) (p4+1)))) else (qj N ff)
def ka (N:Nat)(a0:(List Int))(ff:Int→Option Bool):Option Int:=
 dQ N ff a0 N 0
theorem xc {N:Nat}{a0:(List Int)}{ff:Int→Option Bool}{r:Int}(h:ka N a0 ff=some r){vf:Value}{G:List Chunk}(hf:I6 Tryz.prog vf G (fun x=> [iV x]) (fun r=> .bool r) ff):Okc Tryz.prog 172 [O A1 n1 c1,vf] (dw A1 n1 c1 a0::G) (fun u post=>u=iV r∧post=[]):=by
 refine bz Tryz.func172 U U ?_;simp only [aR];refine D ?_;refine aO (fun s L=>qj N ff=some r∧s=[(4,iV 0)]∧L=G) ?_ ?_
 ·refine D ?_;refine gR (aK 0 U aj U Sg) ?_;refine D ?_;refine bp (fun m s L=> ∃p4,dQ N ff a0 m p4=some r∧s=[(0,O A1 n1 c1),(1,vf),(4,iV 0),(7,iV (a0.length:Int)),(8,iV p4)]∧L=dw A1 n1 c1 a0::G) N _ _ ⟨0,h,U,U⟩ sA (cS [0] 1) ?_;rintro (_|m3) _ _ ⟨p4,h,rfl,rfl⟩
  ·exact aC h
  rw [dQ.eq_2] at h;refine D ?_;refine az ?_;refine av U (fun g5=> ?_) (fun g5=> ?_)
  ·replace h:=ae g5 h;refine D ?_;refine az ?_;refine D ?_;obtain ⟨x6,hx6,h⟩:=aa h;obtain ⟨lx6,ux6,hx6⟩:=aq hx6;refine gR (aH 0 U aj U U Sg dp lx6 ux6) ?_;refine gR (aT (u:=iV x6) 0 U aj U hx6 cX (fun _ _ _ h=>by rw [show _=_ from h];rfl)) ?_;obtain ⟨y7,hy7,h⟩:=aa h;refine gD (DA (a:=x6) [dw A1 n1 c1 a0] hf hy7 U U) ?_;rintro _ _ ⟨rfl,rfl⟩;refine D ?_;refine av U (fun g8=> ?_) (fun g8=> ?_)
   ·replace h:=ae g8 h;refine D ?_;obtain rfl:=ao h;exact aD U U (um [] 1 U U) ⟨U,U⟩
   replace h:=ag g8 h;refine D ?_;obtain ⟨q9,h⟩:=ap h;refine gE (aU U U q9.1 q9.2) ?_;refine D ?_;exact ⟨m3,_,_,SP _,⟨p4+1,h,U,U⟩,sA,cS [0] 1⟩
  replace h:=ag g5 h;refine D ?_;exact ⟨_,_,⟨h,U,U⟩,sA,cS [] 1⟩
 rintro _ _ ⟨h,rfl,rfl⟩;refine D ?_;obtain rfl:=ao h;exact aD U U (um [] 0 U U) ⟨U,U⟩
theorem uQ {r:Int}: ∀v post,((fun (u:Value) (post:List Chunk)=>u=iV r∧post=[])) v post→ ∀c∈post,cn c:=by
 rintro _ _ ⟨rfl,rfl⟩;exact ad
def bO (N:Nat)(a0:(List Int))(ff:Int→Option Bool):Option Bool:=
 (ka N a0 ff).bind fun y2=>some (decide (0≤y2))
theorem dJ {N:Nat}{a0:(List Int)}{ff:Int→Option Bool}{r:Bool}(h:bO N a0 ff=some r){vf:Value}{G:List Chunk}(hf:I6 Tryz.prog vf G (fun x=> [iV x]) (fun r=> .bool r) ff):Okc Tryz.prog 95 [O A1 n1 c1,vf] (dw A1 n1 c1 a0::G) (fun u post=>u=.bool r∧post=[]):=by
 refine bz Tryz.func95 U U ?_;simp only [aR];refine D ?_;obtain ⟨y2,hy2,h⟩:=aa h;refine gD (ak (xc hy2 hf) O0 U (Ex (ac (i:=0) U U) (AX (E:=[dw A1 n1 c1 a0]) hf.1)) uQ) ?_;rintro _ _ ⟨_,⟨rfl,rfl⟩,rfl⟩;refine D ?_;obtain rfl:=ao h;exact aD U U (um [] 1 U U) ⟨U,U⟩
theorem dr {r:Bool}: ∀v post,((fun (u:Value) (post:List Chunk)=>u=.bool r∧post=[])) v post→ ∀c∈post,cn c:=by
 rintro _ _ ⟨rfl,rfl⟩;exact ad
def vO (N:Nat):Option Bool:=
 some true
def ob (N:Nat)(y6:((List SD)))(a0:SB):Nat→Int→Option Bool
 |0,_=>none
 |m8+1,p9=>bif decide (p9<(y6.length:Int)) then ((aM y6 p9).bind fun x11=>(dL N x11).bind fun y15=>(bif !y15 then (some true) else ((i5 N x11).bind fun y17=>(bO N y17 (fun x=>oU N x a0)).bind fun y19=>some y19)).bind fun b16=>bif b16 then (some false) else (bG (in64 (p9+1)) ((ob N y6 a0 m8) (p9+1)))) else (vO N)
def pc (N:Nat)(a0:SB):Option Bool:=
 (fU N a0.Young a0.Old).bind fun y6=>ob N y6 a0 N 0
theorem DH {N:Nat}{a0:SB}{r:Bool}(h:pc N a0=some r):Okc Tryz.prog 208 [.agg #[O A1 n1 c1,O A2 n2 c2]] ([bC A1 n1 c1 a0.Young,bC A2 n2 c2 a0.Old]) (fun u post=>u=.bool r∧post=[]):=by
 refine bz Tryz.func208 U U ?_;simp only [aR];refine D ?_;refine gD (bd U U) ?_;rintro _ _ ⟨B3,rfl,rfl⟩;refine D ?_;refine aO (fun s L=>vO N=some r∧s=[(2,.bool false)]∧L=[]) ?_ ?_
 ·refine D ?_;refine gD (fi (cs:=[O A1 n1 c1,O A2 n2 c2]) U (Bk _ _ _ _ _ _)) ?_;rintro _ _ ⟨B5,rfl,rfl⟩;obtain ⟨y6,hy6,h⟩:=aa h;refine o7 (ik 0 U) ?_;refine gD (aX (oK hy6) Ng U (aJ [0,2,3] [] [0,1,2,3] 4 U)) ?_;rintro _ _ ⟨_,⟨A7,n7,c7,rfl,rfl⟩,rfl⟩;refine gR (aK 0 U aF U Sr) ?_;refine D ?_;refine bp (fun m s L=> ∃p9,ob N y6 a0 m p9=some r∧s=[(1,pV B3 0),(2,.bool false),(10,O A7 n7 c7),(11,iV (y6.length:Int)),(12,iV p9)]∧L=[cI A7 n7 c7 y6,bC A1 n1 c1 a0.Young,bC A2 n2 c2 a0.Old,ax B3 36 [O A1 n1 c1,O A2 n2 c2]]) N _ _ ⟨0,h,U,U⟩ sA (cS [0,3,4,2] 5) ?_;rintro (_|m8) _ _ ⟨p9,h,rfl,rfl⟩
  ·exact aC h
  rw [ob.eq_2] at h;refine D ?_;refine az ?_;refine av U (fun g10=> ?_) (fun g10=> ?_)
  ·replace h:=ae g10 h;refine D ?_;refine az ?_;refine D ?_;obtain ⟨x11,hx11,h⟩:=aa h;obtain ⟨lx11,ux11,hx11⟩:=aq hx11;refine gR (aH 0 U aF U U Sr bF lx11 ux11) ?_;refine gD (Hp 0 U aF U hx11 bh U (dR x11)) ?_;rintro u _ ⟨_,_,⟨A12,n12,c12,A13,n13,c13,rfl,rfl⟩,hu,rfl⟩;obtain rfl:u=.agg #[iV x11.Kind,iV x11.Shape,iV x11.Flags,iV x11.Age,O A12 n12 c12,O A13 n13 c13]:=hu;refine gD (aN dI U) ?_;rintro _ _ ⟨B14,rfl,rfl⟩;refine gO (au (us:=[iV x11.Kind,iV x11.Shape,iV x11.Flags,iV x11.Age,O A12 n12 c12,O A13 n13 c13]) (cs':=[iV x11.Kind,iV x11.Shape,iV x11.Flags,iV x11.Age,O A12 n12 c12,O A13 n13 c13]) 0 U U U U bF U U U) ?_;rintro _ _ rfl;refine cN ?_;refine D ?_;refine gR (aA (us:=[iV x11.Kind,iV x11.Shape,iV x11.Flags,iV x11.Age,O A12 n12 c12,O A13 n13 c13]) 0 U U bh U) ?_;obtain ⟨y15,hy15,h⟩:=aa h;refine gD (ak (kU hy15) Bj U (Ex (ac (i:=1) U U) (Ex (ac (i:=2) U U) ad)) iL) ?_;rintro _ _ ⟨_,⟨rfl,rfl⟩,rfl⟩;refine D ?_;obtain ⟨b16,hb16,h⟩:=aa h;refine aE 5 24 b16 ?_ ?_
   ·clear h;refine aB 19 U (fun g16=> ?_) (fun g16=> ?_)
    ·have h:=ae g16 hb16;refine D ?_;obtain rfl:=ao h;exact ab sA (cS [0,1,2,3,4,5,6] 7)
    have h:=ag g16 hb16;refine bM (aA (us:=[iV x11.Kind,iV x11.Shape,iV x11.Flags,iV x11.Age,O A12 n12 c12,O A13 n13 c13]) 0 U U bh U) U (cu g16 U) U ?_;obtain ⟨y17,hy17,h⟩:=aa h;refine ca (ak (rf hy17) JO U (Ex (ac (i:=1) U U) (Ex (ac (i:=2) U U) ad)) pE) U (cu g16 U) U ?_;rintro _ _ ⟨_,⟨A18,n18,c18,rfl,rfl⟩,rfl⟩;refine pN (eQ U) U (cu g16 U) U ?_;obtain ⟨y19,hy19,h⟩:=aa h;refine ca (ak (dJ hy19 ⟨Ex U (Ex U (Ex U ad)),246, #[], #[pV B3 0],U,OD,fun _ _ hh=>zp hh⟩) Bi U (Ex (ar (i:=0) U) (Ex (aY (i:=7) U) (Ex (ac (i:=5) U U) (Ex (ac (i:=6) U U) ad)))) dr) U (cu g16 U) U ?_;rintro _ _ ⟨_,⟨rfl,rfl⟩,rfl⟩;refine D ?_;obtain rfl:=ao h;exact ab sA (cS [1,2,3,4,5,6,7] 8)
   refine D ?_;refine av U (fun g20=> ?_) (fun g20=> ?_)
   ·replace h:=ae g20 h;refine D ?_;obtain rfl:=ao h;exact aD U U (cS [] 7) ⟨U,U⟩
   replace h:=ag g20 h;refine D ?_;obtain ⟨q21,h⟩:=ap h;refine gE (aU U U q21.1 q21.2) ?_;refine D ?_;exact ⟨m8,_,_,SP _,⟨p9+1,h,U,U⟩,sA,cS [3,4,5,6] 7⟩
  replace h:=ag g10 h;refine D ?_;exact ⟨_,_,⟨h,U,U⟩,sA,cS [] 4⟩
 rintro _ _ ⟨h,rfl,rfl⟩;refine D ?_;obtain rfl:=ao h;exact aD U U (cS [] 0) ⟨U,U⟩
theorem AQ {r:Bool}: ∀v post,((fun (u:Value) (post:List Chunk)=>u=.bool r∧post=[])) v post→ ∀c∈post,cn c:=by
 rintro _ _ ⟨rfl,rfl⟩;exact ad
def fO (N:Nat)(a0:Int):Option Bool:=
 (bif decide (0<a0) then (some (decide (a0.tmod 2=1))) else (some false)).bind fun b1=>some b1
theorem lN {N:Nat}{a0:Int}{r:Bool}(h:fO N a0=some r):Okc Tryz.prog 143 [iV a0] ([]) (fun u post=>u=.bool r∧post=[]):=by
 refine bz Tryz.func143 U U ?_;simp only [aR];refine D ?_;obtain ⟨b1,hb1,h⟩:=aa h;refine aE 4 9 b1 ?_ ?_
 ·clear h;refine aB 5 U (fun g1=> ?_) (fun g1=> ?_)
  ·have h:=ae g1 hb1;refine D ?_;refine pN (lY U U (by decide)) U (aS g1 U) U ?_;refine D ?_;obtain rfl:=ao h;exact ab sA (cS [] 0)
  have h:=ag g1 hb1;refine D ?_;obtain rfl:=ao h;exact ab sA (cS [] 0)
 refine D ?_;obtain rfl:=ao h;exact aD U U (cS [] 0) ⟨U,U⟩
theorem mm {r:Bool}: ∀v post,((fun (u:Value) (post:List Chunk)=>u=.bool r∧post=[])) v post→ ∀c∈post,cn c:=by
 rintro _ _ ⟨rfl,rfl⟩;exact ad
def uA (N:Nat):Option Int:=
 some (-1)
def kz (N:Nat)(a1:Int)(a0:(List Int)):Nat→Int→Option Int
 |0,_=>none
 |m3+1,p4=>bif decide (p4<(a0.length:Int)) then ((aM a0 p4).bind fun x6=>bif decide (a1=x6) then (some p4) else (bG (in64 (p4+1)) ((kz N a1 a0 m3) (p4+1)))) else (uA N)
def qO (N:Nat)(a0:(List Int))(a1:Int):Option Int:=
 kz N a1 a0 N 0
theorem BV {N:Nat}{a0:(List Int)}{a1:Int}{r:Int}(h:qO N a0 a1=some r):Okc Tryz.prog 213 [O A1 n1 c1,iV a1] ([dw A1 n1 c1 a0]) (fun u post=>u=iV r∧post=[]):=by
 refine bz Sh U U ?_;simp only [aR];refine D ?_;refine aO (fun s L=>uA N=some r∧s=[(4,iV 0)]∧L=[]) ?_ ?_
 ·refine D ?_;refine gR (aK 0 U aj U Sg) ?_;refine D ?_;refine bp (fun m s L=> ∃p4,kz N a1 a0 m p4=some r∧s=[(0,O A1 n1 c1),(1,iV a1),(4,iV 0),(7,iV (a0.length:Int)),(8,iV p4)]∧L=[dw A1 n1 c1 a0]) N _ _ ⟨0,h,U,U⟩ sA (cS [0] 1) ?_;rintro (_|m3) _ _ ⟨p4,h,rfl,rfl⟩
  ·exact aC h
  rw [kz.eq_2] at h;refine D ?_;refine az ?_;refine av U (fun g5=> ?_) (fun g5=> ?_)
  ·replace h:=ae g5 h;refine D ?_;refine az ?_;refine D ?_;obtain ⟨x6,hx6,h⟩:=aa h;obtain ⟨lx6,ux6,hx6⟩:=aq hx6;refine gR (aH 0 U aj U U Sg dp lx6 ux6) ?_;refine gR (aT (u:=iV x6) 0 U aj U hx6 cX (fun _ _ _ h=>by rw [show _=_ from h];rfl)) ?_;refine D ?_;refine av U (fun g7=> ?_) (fun g7=> ?_)
   ·replace h:=ae g7 h;refine D ?_;obtain rfl:=ao h;exact aD U U (cS [] 1) ⟨U,U⟩
   replace h:=ag g7 h;refine D ?_;obtain ⟨q8,h⟩:=ap h;refine gE (aU U U q8.1 q8.2) ?_;refine D ?_;exact ⟨m3,_,_,SP _,⟨p4+1,h,U,U⟩,sA,cS [0] 1⟩
  replace h:=ag g5 h;refine D ?_;exact ⟨_,_,⟨h,U,U⟩,sA,cS [] 1⟩
 rintro _ _ ⟨h,rfl,rfl⟩;refine D ?_;obtain rfl:=ao h;exact aD U U (cS [] 0) ⟨U,U⟩
theorem yF {r:Int}: ∀v post,((fun (u:Value) (post:List Chunk)=>u=iV r∧post=[])) v post→ ∀c∈post,cn c:=by
 rintro _ _ ⟨rfl,rfl⟩;exact ad
def dU (N:Nat)(a0:(List Int))(a1:Int):Option Bool:=
 (qO N a0 a1).bind fun y2=>some (decide (0≤y2))
theorem kc {N:Nat}{a0:(List Int)}{a1:Int}{r:Bool}(h:dU N a0 a1=some r):Okc Tryz.prog 139 [O A1 n1 c1,iV a1] ([dw A1 n1 c1 a0]) (fun u post=>u=.bool r∧post=[]):=by
 refine bz Tryz.func139 U U ?_;simp only [aR];refine D ?_;obtain ⟨y2,hy2,h⟩:=aa h;refine gD (ak (BV hy2) OK U (Ex (ac (i:=0) U U) ad) yF) ?_;rintro _ _ ⟨_,⟨rfl,rfl⟩,rfl⟩;refine D ?_;obtain rfl:=ao h;exact aD U U (cS [] 1) ⟨U,U⟩
theorem iN {r:Bool}: ∀v post,((fun (u:Value) (post:List Chunk)=>u=.bool r∧post=[])) v post→ ∀c∈post,cn c:=by
 rintro _ _ ⟨rfl,rfl⟩;exact ad
def xG (N:Nat):Option Bool:=
 some true
def pe (N:Nat)(a0:SB)(a2:(List Int)):Nat→Int→Option Bool
 |0,_=>none
 |m25+1,p26=>bif decide (p26<(a0.Old.length:Int)) then ((aM a0.Old p26).bind fun x28=>(i5 N x28).bind fun y33=>(bO N y33 (fun x=>fO N x)).bind fun y35=>(bif y35 then (bG (in64 (2*p26)) (bG (in64 ((2*p26)+2)) ((dU N a2 ((2*p26)+2)).bind fun y39=>some (!y39)))) else (some false)).bind fun b36=>bif b36 then (some false) else (bG (in64 (p26+1)) ((pe N a0 a2 m25) (p26+1)))) else (xG N)
def kR (N:Nat)(a2:(List Int))(a0:SB):Option Bool:=
 pe N a0 a2 N 0
def mV (N:Nat)(a2:(List Int))(a0:SB):Nat→Int→Option Bool
 |0,_=>none
 |m11+1,p12=>bif decide (p12<(a2.length:Int)) then ((aM a2 p12).bind fun x14=>(fO N x14).bind fun y15=>(bif y15 then (some true) else ((eK N a0 x14).bind fun y17=>some (!y17))).bind fun b16=>(bif b16 then (some true) else ((bif decide (0<p12) then (bG (in64 (p12 - 1)) ((aM a2 (p12 - 1)).bind fun x21=>some (decide (x14≤x21)))) else (some false)).bind fun b19=>some b19)).bind fun b18=>bif b18 then (some false) else (bG (in64 (p12+1)) ((mV N a2 a0 m11) (p12+1)))) else (kR N a2 a0)
def nG (N:Nat)(a0:SB)(a1:(List SG))(a2:(List Int)):Option Bool:=
 (cW N a1 (fun x=>oe N x a0)).bind fun y6=>(bif y6 then (some true) else ((pc N a0).bind fun y8=>some (!y8))).bind fun b7=>bif b7 then (some false) else (mV N a2 a0 N 0)
theorem Gh {N:Nat}{a0:SB}{a1:(List SG)}{a2:(List Int)}{r:Bool}(h:nG N a0 a1 a2=some r):Okc Tryz.prog 133 [.agg #[O A1 n1 c1,O A2 n2 c2],O A3 n3 c3,O A4 n4 c4] ([bC A1 n1 c1 a0.Young,bC A2 n2 c2 a0.Old,bo A3 n3 c3 a1,dw A4 n4 c4 a2]) (fun u post=>u=.bool r∧post=[]):=by
 refine bz Tryz.func133 U U ?_;simp only [aR];refine D ?_;refine gD (bd U U) ?_;rintro _ _ ⟨B5,rfl,rfl⟩;refine D ?_;refine gE (eQ U) ?_;refine D ?_;refine az ?_;refine D ?_;obtain ⟨y6,hy6,h⟩:=aa h;refine gD (ak (kB hy6 ⟨Ex U (Ex U (Ex U ad)),206, #[], #[pV B5 0],U,ON,fun _ _ hh=>Cg hh⟩) Nh U (Ex (ac (i:=3) U U) (Ex (aY (i:=0) U) (Ex (ac (i:=1) U U) (Ex (ac (i:=2) U U) ad)))) jF) ?_;rintro _ _ ⟨_,⟨rfl,rfl⟩,rfl⟩;refine D ?_;obtain ⟨b7,hb7,h⟩:=aa h;refine aE 4 20 b7 ?_ ?_
 ·clear h;refine aB 16 U (fun g7=> ?_) (fun g7=> ?_)
  ·have h:=ae g7 hb7;refine D ?_;obtain rfl:=ao h;exact ab sA (cS [0,1,2,3,4] 5)
  have h:=ag g7 hb7;refine bM (aA (us:=[O A1 n1 c1,O A2 n2 c2]) 0 U U cU U) U (cu g7 U) U ?_;obtain ⟨y8,hy8,h⟩:=aa h;refine ca (ak (DH hy8) OM U (Ex (ac (i:=1) U U) (Ex (ac (i:=2) U U) ad)) AQ) U (cu g7 U) U ?_;rintro _ _ ⟨_,⟨rfl,rfl⟩,rfl⟩;refine D ?_;obtain rfl:=ao h;exact ab sA (cS [0,1,2,3,4] 5)
 refine D ?_;refine av U (fun g9=> ?_) (fun g9=> ?_)
 ·replace h:=ae g9 h;refine D ?_;obtain rfl:=ao h;exact aD U U (cS [] 5) ⟨U,U⟩
 replace h:=ag g9 h;refine D ?_;refine aO (fun s L=>kR N a2 a0=some r∧s=[(2,O A4 n4 c4),(3,pV B5 0),(6,.bool false)]∧L=[dw A4 n4 c4 a2,bC A1 n1 c1 a0.Young,bC A2 n2 c2 a0.Old,ax B5 36 [O A1 n1 c1,O A2 n2 c2]]) ?_ ?_
 ·refine D ?_;refine gR (aK 4 U aj U Sg) ?_;refine D ?_;refine bp (fun m s L=> ∃p12,mV N a2 a0 m p12=some r∧s=[(2,O A4 n4 c4),(3,pV B5 0),(6,.bool false),(21,O A4 n4 c4),(22,iV (a2.length:Int)),(23,iV p12)]∧L=[dw A4 n4 c4 a2,bC A1 n1 c1 a0.Young,bC A2 n2 c2 a0.Old,ax B5 36 [O A1 n1 c1,O A2 n2 c2]]) N _ _ ⟨0,h,U,U⟩ sA (cS [4,1,2,0] 5) ?_;rintro (_|m11) _ _ ⟨p12,h,rfl,rfl⟩
  ·exact aC h
  rw [mV.eq_2] at h;refine D ?_;refine az ?_;refine av U (fun g13=> ?_) (fun g13=> ?_)
  ·replace h:=ae g13 h;refine D ?_;refine az ?_;refine D ?_;obtain ⟨x14,hx14,h⟩:=aa h;obtain ⟨lx14,ux14,hx14⟩:=aq hx14;refine gR (aH 0 U aj U U Sg dp lx14 ux14) ?_;refine gR (aT (u:=iV x14) 0 U aj U hx14 cX (fun _ _ _ h=>by rw [show _=_ from h];rfl)) ?_;refine D ?_;obtain ⟨y15,hy15,h⟩:=aa h;refine gD (ak (lN hy15) Ad U (ad) mm) ?_;rintro _ _ ⟨_,⟨rfl,rfl⟩,rfl⟩;refine D ?_;obtain ⟨b16,hb16,h⟩:=aa h;refine aE 5 35 b16 ?_ ?_
   ·clear h;refine aB 30 U (fun g16=> ?_) (fun g16=> ?_)
    ·have h:=ae g16 hb16;refine D ?_;obtain rfl:=ao h;exact ab sA (cS [0,1,2,3] 4)
    have h:=ag g16 hb16;refine bM (aA (us:=[O A1 n1 c1,O A2 n2 c2]) 3 U U cU U) U (cu g16 U) U ?_;refine D ?_;obtain ⟨y17,hy17,h⟩:=aa h;refine ca (ak (kj hy17) yo U (Ex (ac (i:=1) U U) (Ex (ac (i:=2) U U) ad)) ip) U (cu g16 U) U ?_;rintro _ _ ⟨_,⟨rfl,rfl⟩,rfl⟩;refine D ?_;obtain rfl:=ao h;exact ab sA (cS [0,1,2,3] 4)
   refine D ?_;obtain ⟨b18,hb18,h⟩:=aa h;refine aE 12 48 b18 ?_ ?_
   ·clear h;refine aB 36 U (fun g18=> ?_) (fun g18=> ?_)
    ·have h:=ae g18 hb18;refine D ?_;obtain rfl:=ao h;exact ab sA (cS [0,1,2,3] 4)
    have h:=ag g18 hb18;refine D ?_;obtain ⟨b19,hb19,h⟩:=aa h;refine aE 8 47 b19 ?_ ?_
    ·clear h;refine aB 39 U (fun g19=> ?_) (fun g19=> ?_)
     ·have h:=ae g19 hb19;refine D ?_;obtain ⟨q20,h⟩:=ap h;refine pN (kZ U U q20.1 q20.2) U (aS g19 U) U ?_;obtain ⟨x21,hx21,h⟩:=aa h;obtain ⟨lx21,ux21,hx21⟩:=aq hx21;refine bM (aH 0 U aj U U Sg dp lx21 ux21) U (aS g19 U) U ?_;refine bM (aT (u:=iV x21) 0 U aj U hx21 cX (fun _ _ _ h=>by rw [show _=_ from h];rfl)) U (aS g19 U) U ?_;refine D ?_;obtain rfl:=ao h;exact ab sA (cS [0,1,2,3] 4)
     have h:=ag g19 hb19;refine D ?_;obtain rfl:=ao h;exact ab sA (cS [0,1,2,3] 4)
    refine D ?_;obtain rfl:=ao h;exact ab sA (cS [0,1,2,3] 4)
   refine D ?_;refine av U (fun g22=> ?_) (fun g22=> ?_)
   ·replace h:=ae g22 h;refine D ?_;obtain rfl:=ao h;exact aD U U (cS [] 4) ⟨U,U⟩
   replace h:=ag g22 h;refine D ?_;obtain ⟨q23,h⟩:=ap h;refine gE (aU U U q23.1 q23.2) ?_;refine D ?_;exact ⟨m11,_,_,SP _,⟨p12+1,h,U,U⟩,sA,cS [0,1,2,3] 4⟩
  replace h:=ag g13 h;refine D ?_;exact ⟨_,_,⟨h,U,U⟩,sA,cS [0,1,2,3] 4⟩
 rintro _ _ ⟨h,rfl,rfl⟩;refine aO (fun s L=>xG N=some r∧s=[(6,.bool false)]∧L=[]) ?_ ?_
 ·refine D ?_;refine gR (aK 2 U aj U Sr) ?_;refine D ?_;refine bp (fun m s L=> ∃p26,pe N a0 a2 m p26=some r∧s=[(2,O A4 n4 c4),(6,.bool false),(51,O A2 n2 c2),(52,iV (a0.Old.length:Int)),(53,iV p26)]∧L=[dw A4 n4 c4 a2,bC A2 n2 c2 a0.Old]) N _ _ ⟨0,h,U,U⟩ sA (cS [0,2] 4) ?_;rintro (_|m25) _ _ ⟨p26,h,rfl,rfl⟩
  ·exact aC h
  rw [pe.eq_2] at h;refine D ?_;refine az ?_;refine av U (fun g27=> ?_) (fun g27=> ?_)
  ·replace h:=ae g27 h;refine D ?_;refine az ?_;refine D ?_;obtain ⟨x28,hx28,h⟩:=aa h;obtain ⟨lx28,ux28,hx28⟩:=aq hx28;refine gR (aH 1 U aj U U Sr bF lx28 ux28) ?_;refine sE 1 U hx28 (dR x28) ?_;rintro _ _ ⟨A29,n29,c29,A30,n30,c30,rfl,rfl⟩;refine gR (li (us:=[iV x28.Kind,iV x28.Shape,iV x28.Flags,iV x28.Age,O A29 n29 c29,O A30 n30 c30]) 0 U U bh U) ?_;refine gD (aN dI U) ?_;rintro _ _ ⟨B32,rfl,rfl⟩;refine D ?_;refine gO (au (us:=[iV x28.Kind,iV x28.Shape,iV x28.Flags,iV x28.Age,O A29 n29 c29,O A30 n30 c30]) (cs':=[iV x28.Kind,iV x28.Shape,iV x28.Flags,iV x28.Age,O A29 n29 c29,O A30 n30 c30]) 0 U U U U bF U U U) ?_;rintro _ _ rfl;refine D ?_;refine gR (aA (us:=[iV x28.Kind,iV x28.Shape,iV x28.Flags,iV x28.Age,O A29 n29 c29,O A30 n30 c30]) 0 U U bh U) ?_;obtain ⟨y33,hy33,h⟩:=aa h;refine gD (ak (rf hy33) JO U (Ex (ac (i:=2) U U) (Ex (ac (i:=3) U U) ad)) pE) ?_;rintro _ _ ⟨_,⟨A34,n34,c34,rfl,rfl⟩,rfl⟩;obtain ⟨y35,hy35,h⟩:=aa h;refine gD (ak (dJ hy35 ⟨ad,143, #[], #[],U,Ad,fun _ _ hh=>lN hh⟩) Bi U (Ex (ar (i:=0) U) ad) dr) ?_;rintro _ _ ⟨_,⟨rfl,rfl⟩,rfl⟩;refine D ?_;obtain ⟨b36,hb36,h⟩:=aa h;refine aE 7 68 b36 ?_ ?_
   ·clear h;refine aB 61 U (fun g36=> ?_) (fun g36=> ?_)
    ·have h:=ae g36 hb36;refine D ?_;obtain ⟨q37,h⟩:=ap h;refine pN (ry U U q37.1 q37.2) U (aS g36 U) U ?_;obtain ⟨q38,h⟩:=ap h;refine pN (aU U U q38.1 q38.2) U (aS g36 U) U ?_;obtain ⟨y39,hy39,h⟩:=aa h;refine ca (ak (kc hy39) CD U (Ex (ac (i:=5) U U) ad) iN) U (aS g36 U) U ?_;rintro _ _ ⟨_,⟨rfl,rfl⟩,rfl⟩;refine D ?_;obtain rfl:=ao h;exact ab sA (cS [0,1,2,3,4,5,6] 7)
    have h:=ag g36 hb36;refine D ?_;obtain rfl:=ao h;exact ab sA (cS [0,1,2,3,4,5,6] 7)
   refine D ?_;refine av U (fun g40=> ?_) (fun g40=> ?_)
   ·replace h:=ae g40 h;refine D ?_;obtain rfl:=ao h;exact aD U U (cS [] 7) ⟨U,U⟩
   replace h:=ag g40 h;refine D ?_;obtain ⟨q41,h⟩:=ap h;refine gE (aU U U q41.1 q41.2) ?_;refine D ?_;exact ⟨m25,_,_,SP _,⟨p26+1,h,U,U⟩,sA,cS [5,6] 7⟩
  replace h:=ag g27 h;refine D ?_;exact ⟨_,_,⟨h,U,U⟩,sA,cS [] 2⟩
 rintro _ _ ⟨h,rfl,rfl⟩;refine D ?_;obtain rfl:=ao h;exact aD U U (cS [] 0) ⟨U,U⟩
theorem DI {r:Bool}: ∀v post,((fun (u:Value) (post:List Chunk)=>u=.bool r∧post=[])) v post→ ∀c∈post,cn c:=by
 rintro _ _ ⟨rfl,rfl⟩;exact ad
def cG (N:Nat)(a0:SA)(a1:Int):Option SA:=
 (fO N a1).bind fun y7=>(bif y7 then (some (!((lk a0.seen_ a1).getD false))) else (some false)).bind fun b8=>bif b8 then (bG (bZ (a0.met_.length+([a1]:List Int).length)) (some (⟨a0.m_,a0.kept_,a0.met_++([a1]:List Int),uV a0.seen_ a1 true,a0.next_⟩:SA))) else (some a0)
theorem i4 {N:Nat}{a0:SA}{a1:Int}{r:SA}(h:cG N a0 a1=some r):Okc Tryz.prog 210 [pV B1 0,iV a1] ([bC A2 n2 c2 a0.m_.Young,bC A3 n3 c3 a0.m_.Old,dw A4 n4 c4 a0.kept_,ax B1 153 [O A2 n2 c2,O A3 n3 c3,O A4 n4 c4,O A5 n5 c5,.map (some M6),iV a0.next_],dl A5 n5 c5 a0.met_,bq cC ee M6 a0.seen_]) (fun u post=> ∃A0 n0 c0 A1 n1 c1 A2 n2 c2 A3 n3 c3 M4,u=.tuple #[]∧post=[ax B1 153 [O A0 n0 c0,O A1 n1 c1,O A2 n2 c2,O A3 n3 c3,.map (some M4),iV r.next_],bC A0 n0 c0 r.m_.Young,bC A1 n1 c1 r.m_.Old,dw A2 n2 c2 r.kept_,dl A3 n3 c3 r.met_,bq cC ee M4 r.seen_]):=by
 refine bz Tryz.func210 U U ?_;simp only [aR];refine D ?_;obtain ⟨y7,hy7,h⟩:=aa h;refine gD (ak (lN hy7) Ad U (ad) mm) ?_;rintro _ _ ⟨_,⟨rfl,rfl⟩,rfl⟩;refine D ?_;obtain ⟨b8,hb8,h⟩:=aa h;refine aE 8 14 b8 ?_ ?_
 ·clear h;refine aB 6 U (fun g8=> ?_) (fun g8=> ?_)
  ·have h:=ae g8 hb8;refine D ?_;refine bM (Dd (a:=a1) (z:=false) 5 U vT U U Sj (eh R4) GY) U (aS g8 U) U ?_;refine D ?_;obtain rfl:=ao h;exact ab sA (cS [0,1,2,3,4,5] 6)
  have h:=ag g8 hb8;refine D ?_;obtain rfl:=ao h;exact ab sA (cS [0,1,2,3,4,5] 6)
 refine D ?_;refine av U (fun g9=> ?_) (fun g9=> ?_)
 ·replace h:=ae g9 h;refine D ?_;refine gO (iY (a:=a1) (b:=true) 5 U U U U Sj (eh R4)) ?_;rintro _ _ rfl;refine D ?_;refine gD (bw (R:=(fW .i64)) (vss:=[[iV a1]]) (xs:=[a1]) U (iy _) U U (fun _ _ hr=> .cons U All2.nil)) ?_;rintro _ _ ⟨A10,n10,c10,rfl,rfl⟩;obtain ⟨q11,h⟩:=ap h;refine gD (bj 5 0 U U aF U U Sg Es U U q11) ?_;rintro _ _ ⟨A12,n12,c12,rfl,rfl⟩;refine D ?_;refine gO (au (us:=[O A12 n12 c12]) (cs':=[O A2 n2 c2,O A3 n3 c3,O A4 n4 c4,O A12 n12 c12,.map (some M6),iV a0.next_]) 4 U U U U sJ U U U) ?_;rintro _ _ rfl;refine cN ?_;refine tS ?_;obtain rfl:=ao h;exact iF U (cS [4,1,2,3,5,6] 7) ⟨_,_,_,_,_,_,_,_,_,_,_,_,_,U,U⟩
 replace h:=ag g9 h;refine GX ?_;obtain rfl:=ao h;exact iF U (cS [3,0,1,2,4,5] 6) ⟨_,_,_,_,_,_,_,_,_,_,_,_,_,U,U⟩
def ci (N:Nat)(a0:SA)(a1:Int):Option SD:=
 (fO N a1).bind fun y8=>bif y8 then (bG (in64 (a1.tdiv 2)) ((aM a0.m_.Young (a1.tdiv 2)).bind fun x11=>some x11)) else (bG (in64 (a1.tdiv 2)) (bG (in64 ((a1.tdiv 2) - 1)) ((aM a0.m_.Old ((a1.tdiv 2) - 1)).bind fun x17=>some x17)))
theorem fY {N:Nat}{a0:SA}{a1:Int}{r:SD}(h:ci N a0 a1=some r):Okc Tryz.prog 142 [pV B1 0,iV a1] ([bC A2 n2 c2 a0.m_.Young,bC A3 n3 c3 a0.m_.Old,dw A4 n4 c4 a0.kept_,ax B1 153 [O A2 n2 c2,O A3 n3 c3,O A4 n4 c4,O A5 n5 c5,.map (some M6),iV a0.next_],dl A5 n5 c5 a0.met_,bq cC ee M6 a0.seen_]) (fun u post=> ∃A500 n500 c500 A501 n501 c501,u=.agg #[iV r.Kind,iV r.Shape,iV r.Flags,iV r.Age,O A500 n500 c500,O A501 n501 c501]∧post=[bo A500 n500 c500 r.Slots,bo A501 n501 c501 r.More,ax B1 153 [O A2 n2 c2,O A3 n3 c3,O A4 n4 c4,O A5 n5 c5,.map (some M6),iV a0.next_],dl A5 n5 c5 a0.met_,bq cC ee M6 a0.seen_]):=by
 refine bz Tryz.func142 U U ?_;simp only [aR];refine D ?_;refine gD (aN dI U) ?_;rintro _ _ ⟨B7,rfl,rfl⟩;refine D ?_;refine az ?_;refine D ?_;obtain ⟨y8,hy8,h⟩:=aa h;refine gD (ak (lN hy8) Ad U (ad) mm) ?_;rintro _ _ ⟨_,⟨rfl,rfl⟩,rfl⟩;refine D ?_;refine av U (fun g9=> ?_) (fun g9=> ?_)
 ·replace h:=ae g9 h;refine D ?_;obtain ⟨q10,h⟩:=ap h;refine gE (rx U U (by decide) q10.1 q10.2) ?_;obtain ⟨x11,hx11,h⟩:=aa h;obtain ⟨lx11,ux11,hx11⟩:=aq hx11;refine gR (aH 1 U aj U U Sr bF lx11 ux11) ?_;refine sE 1 U hx11 (dR x11) ?_;rintro _ _ ⟨A12,n12,c12,A13,n13,c13,rfl,rfl⟩;refine gR (li (us:=[iV x11.Kind,iV x11.Shape,iV x11.Flags,iV x11.Age,O A12 n12 c12,O A13 n13 c13]) 0 U U bh U) ?_;refine gO (au (us:=[iV x11.Kind,iV x11.Shape,iV x11.Flags,iV x11.Age,O A12 n12 c12,O A13 n13 c13]) (cs':=[iV x11.Kind,iV x11.Shape,iV x11.Flags,iV x11.Age,O A12 n12 c12,O A13 n13 c13]) 3 U U U U bF U U U) ?_;rintro _ _ rfl;refine D ?_;obtain rfl:=ao h;exact dB (rs:=[.cell 4 47]) (vs:=[.agg #[iV x11.Kind,iV x11.Shape,iV x11.Flags,iV x11.Age,O A12 n12 c12,O A13 n13 c13]]) U (.cons (co 3 U U bh) .nil) U (cS [1,2,7,8,9] 10) ⟨_,_,_,_,_,_,U,U⟩
 replace h:=ag g9 h;refine D ?_;obtain ⟨q15,h⟩:=ap h;refine gE (rx U U (by decide) q15.1 q15.2) ?_;obtain ⟨q16,h⟩:=ap h;refine gE (kZ U U q16.1 q16.2) ?_;obtain ⟨x17,hx17,h⟩:=aa h;obtain ⟨lx17,ux17,hx17⟩:=aq hx17;refine gR (aH 2 U aj U U Sr bF lx17 ux17) ?_;refine sE 2 U hx17 (dR x17) ?_;rintro _ _ ⟨A18,n18,c18,A19,n19,c19,rfl,rfl⟩;refine gR (li (us:=[iV x17.Kind,iV x17.Shape,iV x17.Flags,iV x17.Age,O A18 n18 c18,O A19 n19 c19]) 0 U U bh U) ?_;refine gO (au (us:=[iV x17.Kind,iV x17.Shape,iV x17.Flags,iV x17.Age,O A18 n18 c18,O A19 n19 c19]) (cs':=[iV x17.Kind,iV x17.Shape,iV x17.Flags,iV x17.Age,O A18 n18 c18,O A19 n19 c19]) 3 U U U U bF U U U) ?_;rintro _ _ rfl;refine D ?_;obtain rfl:=ao h;exact dB (rs:=[.cell 4 47]) (vs:=[.agg #[iV x17.Kind,iV x17.Shape,iV x17.Flags,iV x17.Age,O A18 n18 c18,O A19 n19 c19]]) U (.cons (co 3 U U bh) .nil) U (cS [1,2,7,8,9] 10) ⟨_,_,_,_,_,_,U,U⟩
def fQ (N:Nat)(kb7:(List SD)→(List SD)→(List Int)→(List Int)→(List (Int×Bool))→Int→Option SA)(p16:(List SD))(p17:(List SD))(p18:(List Int))(p19:(List Int))(p20:(List (Int×Bool)))(p21:Int):Option SA:=
 bG (in64 (p21+1)) (kb7 p16 p17 p18 p19 p20 (p21+1))
def fP (N:Nat)(kb7:(List SD)→(List SD)→(List Int)→(List Int)→(List (Int×Bool))→Int→Option SA)(y28:((List Int))):Nat→Int→(List SD)→(List SD)→(List Int)→(List Int)→(List (Int×Bool))→Int→Option SA
 |0,_,_,_,_,_,_,_=>none
 |m31+1,p32,p33,p34,p35,p36,p37,p38=>bif decide (p32<(y28.length:Int)) then ((aM y28 p32).bind fun x40=>(cG N (⟨(⟨p33,p34⟩:SB),p35,p36,p37,p38⟩:SA) x40).bind fun y41=>bG (in64 (p32+1)) ((fP N kb7 y28 m31) (p32+1) y41.m_.Young y41.m_.Old y41.kept_ y41.met_ y41.seen_ y41.next_)) else (fQ N kb7 p33 p34 p35 p36 p37 p38)
def cp (N:Nat):Nat→(List SD)→(List SD)→(List Int)→(List Int)→(List (Int×Bool))→Int→Option SA
 |0,_,_,_,_,_,_=>none
 |m7+1,p8,p9,p10,p11,p12,p13=>bif decide (p13<(p11.length:Int)) then ((aM p11 p13).bind fun x22=>(ci N (⟨(⟨p8,p9⟩:SB),p10,p11,p12,p13⟩:SA) x22).bind fun y23=>(fw N y23).bind fun y28=>fP N (cp N m7) y28 N 0 p8 p9 p10 p11 p12 p13) else (some (⟨(⟨p8,p9⟩:SB),p10,p11,p12,p13⟩:SA))
def fj (N:Nat)(a0:SA):Option SA:=
 cp N N a0.m_.Young a0.m_.Old a0.kept_ a0.met_ a0.seen_ a0.next_
theorem nF {N:Nat}{a0:SA}{r:SA}(h:fj N a0=some r):Okc Tryz.prog 211 [pV B1 0] ([bC A2 n2 c2 a0.m_.Young,bC A3 n3 c3 a0.m_.Old,dw A4 n4 c4 a0.kept_,ax B1 153 [O A2 n2 c2,O A3 n3 c3,O A4 n4 c4,O A5 n5 c5,.map (some M6),iV a0.next_],dl A5 n5 c5 a0.met_,bq cC ee M6 a0.seen_]) (fun u post=> ∃A0 n0 c0 A1 n1 c1 A2 n2 c2 A3 n3 c3 M4,u=.tuple #[]∧post=[ax B1 153 [O A0 n0 c0,O A1 n1 c1,O A2 n2 c2,O A3 n3 c3,.map (some M4),iV r.next_],bC A0 n0 c0 r.m_.Young,bC A1 n1 c1 r.m_.Old,dw A2 n2 c2 r.kept_,dl A3 n3 c3 r.met_,bq cC ee M4 r.seen_]):=by
 refine bz Tryz.func211 U U ?_;simp only [aR];refine iE ?_;refine bp (fun m s L=> ∃p8 p9 p10 p11 p12 p13 A8 n8 c8 A9 n9 c9 A10 n10 c10 A11 n11 c11 M12,cp N m p8 p9 p10 p11 p12 p13=some r∧s=[(0,pV B1 0)]∧L=[bC A8 n8 c8 p8,bC A9 n9 c9 p9,dw A10 n10 c10 p10,dl A11 n11 c11 p11,bq cC ee M12 p12,ax B1 153 [O A8 n8 c8,O A9 n9 c9,O A10 n10 c10,O A11 n11 c11,.map (some M12),iV p13]]) N _ _ ⟨a0.m_.Young,a0.m_.Old,a0.kept_,a0.met_,a0.seen_,a0.next_,A2,n2,c2,A3,n3,c3,A4,n4,c4,A5,n5,c5,M6,h,U,U⟩ sA (cS [0,1,2,4,5,3] 6) ?_;rintro (_|m7) _ _ ⟨p8,p9,p10,p11,p12,p13,A8,n8,c8,A9,n9,c9,A10,n10,c10,A11,n11,c11,M12,h,rfl,rfl⟩
 ·exact aC h
 rw [cp.eq_2] at h;refine az ?_;refine az ?_;refine cv Y _ (ah _) ?_;refine zE 0 U (ay U) ?_;refine zE 1 U (aL U) ?_;refine zE 2 U (bX U DZ) ?_;refine zR 3 U (bc 5 U U cX U) ?_;refine zE 4 U (ay U) ?_;refine zE 5 U (aL U) ?_;refine zE 6 U (bX U pI) ?_;refine zR 7 U (bc 5 U U js U) ?_;refine zR 8 U (aK 3 U aF U Sg) ?_;refine zE 9 U (MO U U) ?_;refine bH Y ?_;refine gL ?_;refine av U (fun g14=> ?_) (fun g14=> ?_)
 ·replace h:=ae g14 h;refine D ?_;refine aO (fun s L=> ∃p16 p17 p18 p19 p20 p21 A16 n16 c16 A17 n17 c17 A18 n18 c18 A19 n19 c19 M20,fQ N (cp N m7) p16 p17 p18 p19 p20 p21=some r∧s=[(0,pV B1 0)]∧L=[bC A16 n16 c16 p16,bC A17 n17 c17 p17,dw A18 n18 c18 p18,dl A19 n19 c19 p19,bq cC ee M20 p20,ax B1 153 [O A16 n16 c16,O A17 n17 c17,O A18 n18 c18,O A19 n19 c19,.map (some M20),iV p21]]) ?_ ?_
  ·refine iE ?_;refine az ?_;obtain ⟨x22,hx22,h⟩:=aa h;obtain ⟨lx22,ux22,hx22⟩:=aq hx22;obtain ⟨y23,hy23,h⟩:=aa h;obtain ⟨y28,hy28,h⟩:=aa h;refine gZ (t:=[(0,pV B1 0)]) ?_ md (ah _)
   refine jh Y 15 [] [12,13,14] [21,22,23,24,25,26,27,28,29,30,31,32,33,34,35] [[],[],[1],[2],[3],[],[5],[6],[7],[4,8],[9],[0,10],[11],[12],[]] [aV (pV B1 0),
 aV (pV B1 0),
 aV (pV B1 0),
 aV (pV B1 3),
 aV (O A11 n11 c11),
 aV (pV B1 0),
 aV (pV B1 0),
 aV (pV B1 5),
 aV (iV p13),
 aV (eX (O A11 n11 c11) p13.toNat 1 0),
 aV (iV x22),
 aX6 (fun (A26:Option Addr) (n26 c26:Nat) (A27:Option Addr) (n27 c27:Nat)=> .agg #[iV y23.Kind,iV y23.Shape,iV y23.Flags,iV y23.Age,O A26 n26 c26,O A27 n27 c27]) (fun A26 n26 c26 A27 n27 c27=> [bo A26 n26 c26 y23.Slots,bo A27 n27 c27 y23.More]),
 aX3 (fun (A30:Option Addr) (n30 c30:Nat)=> O A30 n30 c30) (fun A30 n30 c30=> [dl A30 n30 c30 y28]),
 aV (iV (y28.length:Int)),
 aV (iV 0)] [] (ah _) (lK) Y rfl rfl ?_ ?_ ?_
   ·exact lJ
   ·refine ai U ?_ ?_
    ·exact cK (ay U) U (bn U (ah _))
    refine ai U ?_ ?_
    ·intro A30 n30 c30;exact dM (aK 0 U aF U Sg) U (bn U (ah _))
    refine ai U ?_ ?_
    ·intro A26 n26 c26 A27 n27 c27;refine nL (ak (jq hy28) yn U (Ex (ac (i:=0) U U) (Ex (ac (i:=1) U U) ad)) gy) U ?_;rintro _ _ ⟨_,⟨A29,n29,c29,rfl,rfl⟩,rfl⟩;exact Ci A29 n29 c29 (ah _)
    refine ai U ?_ ?_
    ·refine nL (aX (fY hy23) Ae U (aJ [0,1,2] [5,3,4] [0,1,2] 6 U)) U ?_;rintro _ _ ⟨_,⟨A24,n24,c24,A25,n25,c25,rfl,rfl⟩,rfl⟩;exact HR A24 n24 c24 A25 n25 c25 (cS [0,1,5,6,7,3,4,2] 8)
    refine ai U ?_ ?_
    ·exact dM (aT (u:=iV x22) 3 U aF U hx22 cX (fun _ _ _ h=>by rw [show _=_ from h];rfl)) U (bn U (ah _))
    refine ai U ?_ ?_
    ·exact dM (aH 3 U aF U U Sg dp lx22 ux22) U (bn U (ah _))
    refine ai U ?_ ?_
    ·exact dM (bc 5 U U cX U) U (bn U (ah _))
    refine ai U ?_ ?_
    ·exact cK (bX U DZ) U (bn U (ah _))
    refine ai U ?_ ?_
    ·exact cK (aL U) U (bn U (ah _))
    refine ai U ?_ ?_
    ·exact cK (ay U) U (bn U (ah _))
    refine ai U ?_ ?_
    ·exact dM (bc 5 U U js U) U (bn U (ah _))
    refine ai U ?_ ?_
    ·exact cK (bX U pI) U (bn U (ah _))
    refine ai U ?_ ?_
    ·exact cK (aL U) U (bn U (ah _))
    refine ai U ?_ ?_
    ·exact cK (ay U) U (bn U (ah _))
    refine ai U ?_ ?_
    ·exact cK (ay U) U (bn U (ah _))
    exact eH
   intro A30 n30 c30;refine mG (t:=[(33,O A30 n30 c30),(34,iV (y28.length:Int)),(35,iV 0),(0,pV B1 0)]) (L':=[dl A30 n30 c30 y28,bC A8 n8 c8 p8,bC A9 n9 c9 p9,dw A10 n10 c10 p10,dl A11 n11 c11 p11,bq cC ee M12 p12,ax B1 153 [O A8 n8 c8,O A9 n9 c9,O A10 n10 c10,O A11 n11 c11,.map (some M12),iV p13]]) ?_ md (ah _);refine ma Y ?_;refine D ?_;refine bp (fun m s L=> ∃p32 p33 p34 p35 p36 p37 p38 A33 n33 c33 A34 n34 c34 A35 n35 c35 A36 n36 c36 M37,fP N (cp N m7) y28 m p32 p33 p34 p35 p36 p37 p38=some r∧s=[(0,pV B1 0),(33,O A30 n30 c30),(34,iV (y28.length:Int)),(35,iV p32)]∧L=[dl A30 n30 c30 y28,bC A33 n33 c33 p33,bC A34 n34 c34 p34,dw A35 n35 c35 p35,dl A36 n36 c36 p36,bq cC ee M37 p37,ax B1 153 [O A33 n33 c33,O A34 n34 c34,O A35 n35 c35,O A36 n36 c36,.map (some M37),iV p38]]) N _ _ ⟨0,p8,p9,p10,p11,p12,p13,A8,n8,c8,A9,n9,c9,A10,n10,c10,A11,n11,c11,M12,h,U,U⟩ sA (cS [0,1,2,3,4,5,6] 7) ?_;rintro (_|m31) _ _ ⟨p32,p33,p34,p35,p36,p37,p38,A33,n33,c33,A34,n34,c34,A35,n35,c35,A36,n36,c36,M37,h,rfl,rfl⟩
   ·exact aC h
   rw [fP.eq_2] at h;refine D ?_;refine az ?_;refine av U (fun g39=> ?_) (fun g39=> ?_)
   ·replace h:=ae g39 h;refine D ?_;refine az ?_;refine D ?_;obtain ⟨x40,hx40,h⟩:=aa h;obtain ⟨lx40,ux40,hx40⟩:=aq hx40;refine gR (aH 0 U aF U U Sg dp lx40 ux40) ?_;refine gR (aT (u:=iV x40) 0 U aF U hx40 cX (fun _ _ _ h=>by rw [show _=_ from h];rfl)) ?_;refine D ?_;obtain ⟨y41,hy41,h⟩:=aa h;refine gD (aX (i4 hy41) CA U (aJ [1,2,3] [6,4,5] [0,1,2,3] 7 U)) ?_;rintro _ _ ⟨_,⟨A42,n42,c42,A43,n43,c43,A44,n44,c44,A45,n45,c45,M46,rfl,rfl⟩,rfl⟩;refine D ?_;obtain ⟨q47,h⟩:=ap h;refine gE (aU U U q47.1 q47.2) ?_;refine D ?_;exact ⟨m31,_,_,SP _,⟨p32+1,y41.m_.Young,y41.m_.Old,y41.kept_,y41.met_,y41.seen_,y41.next_,A42,n42,c42,A43,n43,c43,A44,n44,c44,A45,n45,c45,M46,h,U,U⟩,sA,cS [6,1,2,3,4,5,0] 10⟩
   replace h:=ag g39 h;refine D ?_;exact ⟨_,_,⟨p33,p34,p35,p36,p37,p38,A33,n33,c33,A34,n34,c34,A35,n35,c35,A36,n36,c36,M37,h,U,U⟩,sA,cS [1,2,3,4,5,6] 7⟩
  rintro _ _ ⟨p16,p17,p18,p19,p20,p21,A16,n16,c16,A17,n17,c17,A18,n18,c18,A19,n19,c19,M20,h,rfl,rfl⟩;refine D ?_;obtain ⟨q48,h⟩:=ap h;refine gE (aU U U q48.1 q48.2) ?_;refine D ?_;refine gO (au (us:=[iV (p21+1)]) (cs':=[O A16 n16 c16,O A17 n17 c17,O A18 n18 c18,O A19 n19 c19,.map (some M20),iV (p21+1)]) 5 U U U U dp U U U) ?_;rintro _ _ rfl;refine D ?_;exact ⟨m7,_,_,SP _,⟨p16,p17,p18,p19,p20,p21+1,A16,n16,c16,A17,n17,c17,A18,n18,c18,A19,n19,c19,M20,h,U,U⟩,sA,cS [0,1,2,3,4,5] 6⟩
 replace h:=ag g14 h;refine D ?_;obtain rfl:=ao h;exact iF U (cS [5,0,1,2,3,4] 6) ⟨_,_,_,_,_,_,_,_,_,_,_,_,_,U,U⟩
def lP (N:Nat)(a0:SA)(p8:(List Int)):Option (List Int):=
 bG (bZ (p8.length+a0.met_.length)) (some (p8++a0.met_))
def eN (N:Nat)(a0:SA):Nat→(List Int)→Int→Option (List Int)
 |0,_,_=>none
 |m9+1,p10,p11=>bif decide (p11<(a0.m_.Old.length:Int)) then (bG (in64 (2*p11)) (bG (in64 ((2*p11)+2)) (bG (bZ (p10.length+([(2*p11)+2]:List Int).length)) (bG (in64 (p11+1)) ((eN N a0 m9) (p10++([(2*p11)+2]:List Int)) (p11+1)))))) else (lP N a0 p10)
def fA (N:Nat)(a0:SA):Option (List Int):=
 eN N a0 N [] 0
theorem pD {N:Nat}{a0:SA}{r:(List Int)}(h:fA N a0=some r):Okc Tryz.prog 138 [pV B1 0] ([bE B1 153 [O A2 n2 c2,O A3 n3 c3,O A4 n4 c4,O A5 n5 c5,.map (some M6),iV a0.next_],bC A2 n2 c2 a0.m_.Young,bC A3 n3 c3 a0.m_.Old,dw A4 n4 c4 a0.kept_,dw A5 n5 c5 a0.met_,nQ cC ee M6 a0.seen_]) (fun u post=> ∃A0 n0 c0,u=O A0 n0 c0∧post=[dl A0 n0 c0 r]):=by
 refine bz Tryz.func138 U U ?_;simp only [aR];refine D ?_;refine aO (fun s L=> ∃p8 A8 n8 c8,lP N a0 p8=some r∧s=[(0,pV B1 0),(2,O none 0 0),(3,O A8 n8 c8)]∧L=[dl A8 n8 c8 p8,bC A2 n2 c2 a0.m_.Young,bC A3 n3 c3 a0.m_.Old,dw A4 n4 c4 a0.kept_,dw A5 n5 c5 a0.met_,nQ cC ee M6 a0.seen_,bE B1 153 [O A2 n2 c2,O A3 n3 c3,O A4 n4 c4,O A5 n5 c5,.map (some M6),iV a0.next_]]) ?_ ?_
 ·refine D ?_;refine gR (bI 0 U U lL U) ?_;refine gR (aK 2 U aj U Sr) ?_;refine D ?_;refine bp (fun m s L=> ∃p10 p11 A10 n10 c10,eN N a0 m p10 p11=some r∧s=[(0,pV B1 0),(2,O none 0 0),(3,O A10 n10 c10),(10,iV (a0.m_.Old.length:Int)),(11,iV p11)]∧L=[dl A10 n10 c10 p10,bC A2 n2 c2 a0.m_.Young,bC A3 n3 c3 a0.m_.Old,dw A4 n4 c4 a0.kept_,dw A5 n5 c5 a0.met_,nQ cC ee M6 a0.seen_,bE B1 153 [O A2 n2 c2,O A3 n3 c3,O A4 n4 c4,O A5 n5 c5,.map (some M6),iV a0.next_]]) N _ _ ⟨[],0,none,0,0,h,U,U⟩ sA ((ce (fW .i64) 3 _).trans (cS [0,2,3,4,5,6,1] 7)) ?_;rintro (_|m9) _ _ ⟨p10,p11,A10,n10,c10,h,rfl,rfl⟩
  ·exact aC h
  rw [eN.eq_2] at h;refine D ?_;refine az ?_;refine av U (fun g13=> ?_) (fun g13=> ?_)
  ·replace h:=ae g13 h;refine D ?_;refine az ?_;refine D ?_;obtain ⟨q14,h⟩:=ap h;refine gE (ry U U q14.1 q14.2) ?_;obtain ⟨q15,h⟩:=ap h;refine gE (aU U U q15.1 q15.2) ?_;refine gD (bw (R:=(fW .i64)) (vss:=[[iV ((2*p11)+2)]]) (xs:=[(2*p11)+2]) U (iy _) U U (fun _ _ hr=> .cons U All2.nil)) ?_;rintro _ _ ⟨A16,n16,c16,rfl,rfl⟩;obtain ⟨q17,h⟩:=ap h;refine gD (bj 1 0 U U aF U U Sg Es U U q17) ?_;rintro _ _ ⟨A18,n18,c18,rfl,rfl⟩;refine D ?_;obtain ⟨q19,h⟩:=ap h;refine gE (aU U U q19.1 q19.2) ?_;refine D ?_;exact ⟨m9,_,_,SP _,⟨p10++([(2*p11)+2]:List Int),p11+1,A18,n18,c18,h,U,U⟩,sA,cS [1,2,3,4,5,6,7] 8⟩
  replace h:=ag g13 h;refine D ?_;exact ⟨_,_,⟨p10,A10,n10,c10,h,U,U⟩,sA,cS [0,1,2,3,4,5,6] 7⟩
 rintro _ _ ⟨p8,A8,n8,c8,h,rfl,rfl⟩;refine D ?_;refine gR (bI 6 U U js U) ?_;obtain ⟨q20,h⟩:=ap h;refine gD (bj 0 4 U U aj U U Sg Es U U q20) ?_;rintro _ _ ⟨A21,n21,c21,rfl,rfl⟩;refine D ?_;obtain rfl:=ao h;exact aD U U (cS [0] 7) ⟨_,_,_,U,U⟩
theorem od {r:(List Int)}: ∀v post,((fun (u:Value) (post:List Chunk)=> ∃A0 n0 c0,u=O A0 n0 c0∧post=[dl A0 n0 c0 r])) v post→ ∀c∈post,cn c:=by
 rintro _ _ ⟨_,_,_,rfl,rfl⟩;exact Ex bJ (ad)
def me (N:Nat)(p3:(List Int)):Option (List Int):=
 some p3
def pQ (N:Nat)(a1:Int):Option (List Int):=
 bif decide (a1<0) then none else (bG (in64 (0 - 0)) (bG (in64 (a1 - (0 - 0))) (bif decide (0<a1 - (0 - 0)) then (bG ((0:Int)<(a1 - (0 - 0))∧(a1 - (0 - 0))≤1099511627776) (me N ([]:List Int))) else (me N []))))
theorem AA {N:Nat}{a1:Int}{r:(List Int)}(h:pQ N a1=some r):Okc Tryz.prog 219 [O none 0 0,iV a1] ([]) (fun u post=> ∃A0 n0 c0,u=O A0 n0 c0∧post=[dl A0 n0 c0 r]):=by
 refine bz Tryz.func219 U U ?_;simp only [aR];refine D ?_;refine az ?_;refine D ?_;refine av U (fun g1=> ?_) (fun g1=> ?_)
 ·replace h:=ae g1 h;exact aC h
 replace h:=ag g1 h;refine D ?_;refine aO (fun s L=> ∃p3 A3 n3 c3,me N p3=some r∧s=[(0,O A3 n3 c3),(4,O none 0 0)]∧L=[dl A3 n3 c3 p3]) ?_ ?_
 ·refine D ?_;refine gE (wS U Sg) ?_;refine D ?_;refine gE (oy U Sg) ?_;obtain ⟨q4,h⟩:=ap h;refine gE (kZ U U q4.1 q4.2) ?_;obtain ⟨q5,h⟩:=ap h;refine gE (kZ U U q5.1 q5.2) ?_;refine D ?_;refine av U (fun g6=> ?_) (fun g6=> ?_)
  ·replace h:=ae g6 h;refine D ?_;refine gE (wS U Sg) ?_;refine gE (Bc U Sg dp U) ?_;refine D ?_;obtain ⟨q7,h⟩:=ap h;refine gD (yc U U Sg R4 Es U q7.1 q7.2) ?_;rintro _ _ ⟨A8,n8,c8,rfl,rfl⟩;refine D ?_;refine gE (oy U Sg) ?_;refine gD (Ge (R:=(fW .i64)) 0 U U Sg dp U U) ?_;rintro _ _ ⟨A9,n9,c9,rfl,rfl⟩;refine D ?_;exact ⟨_,_,⟨([]:List Int),A9,n9,c9,h,U,U⟩,sA,cS [0] 1⟩
  replace h:=ag g6 h;refine D ?_;exact ⟨_,_,⟨[],none,0,0,h,U,U⟩,sA,(ce (fW .i64) 3 _).trans (cS [0] 1)⟩
 rintro _ _ ⟨p3,A3,n3,c3,h,rfl,rfl⟩;refine D ?_;obtain rfl:=ao h;exact aD U U (cS [0] 1) ⟨_,_,_,U,U⟩
theorem xR {r:(List Int)}: ∀v post,((fun (u:Value) (post:List Chunk)=> ∃A0 n0 c0,u=O A0 n0 c0∧post=[dl A0 n0 c0 r])) v post→ ∀c∈post,cn c:=by
 rintro _ _ ⟨_,_,_,rfl,rfl⟩;exact Ex bJ (ad)
def nP (N:Nat)(p12:(List Int)):Option (List Int):=
 some p12
def oN (N:Nat)(a0_0:(List Int))(a0_1:(List Int)):Option (List Int):=
 (pQ N ((0+(a0_0.length:Int))+(a0_1.length:Int))).bind fun y9=>bG (bZ (y9.length+a0_0.length)) (bG (bZ ((y9++a0_0).length+a0_1.length)) (nP N ((y9++a0_0)++a0_1)))
def kC (N:Nat)(a0_0:(List Int))(a0_1:(List Int)):Option (List Int):=
 bG (in64 (0+(a0_0.length:Int))) (bif decide (0+(a0_0.length:Int)<0) then none else (bG (in64 ((0+(a0_0.length:Int))+(a0_1.length:Int))) (bif decide ((0+(a0_0.length:Int))+(a0_1.length:Int)<0) then none else (oN N a0_0 a0_1))))
theorem td {N:Nat}{a0_0:(List Int)}{a0_1:(List Int)}{r:(List Int)}(h:kC N a0_0 a0_1=some r):Okc Tryz.prog 161 [.slice (some ⟨B1,0,none⟩) 2 2] ([bE B1 23 [O A2 n2 c2,O A3 n3 c3],dw A2 n2 c2 a0_0,dw A3 n3 c3 a0_1]) (fun u post=> ∃A0 n0 c0,u=O A0 n0 c0∧post=[dl A0 n0 c0 r]):=by
 refine bz Tryz.func161 U U ?_;simp only [aR];refine D ?_;refine aO (fun s L=>oN N a0_0 a0_1=some r∧s=[(0,.slice (some ⟨B1,0,none⟩) 2 2),(2,O none 0 0),(3,iV ((0+(a0_0.length:Int))+(a0_1.length:Int)))]∧L=[dw A2 n2 c2 a0_0,dw A3 n3 c3 a0_1,bE B1 23 [O A2 n2 c2,O A3 n3 c3]]) ?_ ?_
 ·refine D ?_;refine gE (oy U St) ?_;refine D ?_;refine rO 3 ?_;refine sY ?_;refine D ?_;refine az ?_;refine eU U ?_;refine D ?_;refine az ?_;refine D ?_;refine gE (nu U U St sJ (by decide) (by decide)) ?_;refine gR (bI 0 U U js U) ?_;refine D ?_;refine gR (aK 1 U aj U Sg) ?_;obtain ⟨q5,h⟩:=ap h;refine gE (aU U U q5.1 q5.2) ?_;refine D ?_;refine av U (fun g6=> ?_) (fun g6=> ?_)
  ·replace h:=ae g6 h;exact aC h
  replace h:=ag g6 h;refine D ?_;refine gE (aU U U (by decide) (by decide)) ?_;refine D ?_;refine sY ?_;refine D ?_;refine az ?_;refine eU U ?_;refine D ?_;refine az ?_;refine D ?_;refine gE (nu U U St sJ (by decide) (by decide)) ?_;refine gR (bI 0 U U js U) ?_;refine D ?_;refine gR (aK 2 U aj U Sg) ?_;obtain ⟨q7,h⟩:=ap h;refine gE (aU U U q7.1 q7.2) ?_;refine D ?_;refine av U (fun g8=> ?_) (fun g8=> ?_)
  ·replace h:=ae g8 h;exact aC h
  replace h:=ag g8 h;refine D ?_;refine gE (aU U U (by decide) (by decide)) ?_;refine D ?_;refine sY ?_;refine D ?_;refine az ?_;refine jT U ?_;refine D ?_;exact ⟨_,_,⟨h,U,U⟩,sA,cS [1,2,0] 3⟩
 rintro _ _ ⟨h,rfl,rfl⟩;refine D ?_;obtain ⟨y9,hy9,h⟩:=aa h;refine gD (ak (AA hy9) OJ U (ad) xR) ?_;rintro _ _ ⟨_,⟨A10,n10,c10,rfl,rfl⟩,rfl⟩;refine D ?_;refine aO (fun s L=> ∃p12 A12 n12 c12,nP N p12=some r∧s=[(2,O none 0 0),(6,O A12 n12 c12)]∧L=[dl A12 n12 c12 p12]) ?_ ?_
 ·refine D ?_;refine gE (oy U St) ?_;refine D ?_;refine rO 3 ?_;refine sY ?_;refine D ?_;refine az ?_;refine eU U ?_;refine D ?_;refine az ?_;refine D ?_;refine gE (nu U U St sJ (by decide) (by decide)) ?_;refine gR (bI 3 U U js U) ?_;refine D ?_;obtain ⟨q13,h⟩:=ap h;refine gD (bj 0 1 U U aj U U Sg Es U U q13) ?_;rintro _ _ ⟨A14,n14,c14,rfl,rfl⟩;refine D ?_;refine gE (aU U U (by decide) (by decide)) ?_;refine D ?_;refine sY ?_;refine D ?_;refine az ?_;refine eU U ?_;refine D ?_;refine az ?_;refine D ?_;refine gE (nu U U St sJ (by decide) (by decide)) ?_;refine gR (bI 3 U U js U) ?_;refine D ?_;obtain ⟨q15,h⟩:=ap h;refine gD (bj 0 2 U U aj U U Sg Es U U q15) ?_;rintro _ _ ⟨A16,n16,c16,rfl,rfl⟩;refine D ?_;refine gE (aU U U (by decide) (by decide)) ?_;refine D ?_;refine sY ?_;refine D ?_;refine az ?_;refine jT U ?_;refine D ?_;exact ⟨_,_,⟨(y9++a0_0)++a0_1,A16,n16,c16,h,U,U⟩,sA,cS [0] 4⟩
 rintro _ _ ⟨p12,A12,n12,c12,h,rfl,rfl⟩;refine D ?_;obtain rfl:=ao h;exact aD U U (cS [0] 1) ⟨_,_,_,U,U⟩
theorem qP {r:(List Int)}: ∀v post,((fun (u:Value) (post:List Chunk)=> ∃A0 n0 c0,u=O A0 n0 c0∧post=[dl A0 n0 c0 r])) v post→ ∀c∈post,cn c:=by
 rintro _ _ ⟨_,_,_,rfl,rfl⟩;exact Ex bJ (ad)
def tb (N:Nat)(a0:SD):Option Bool:=
 (bif decide (a0.Kind=8) then ((dL N a0).bind fun y5=>some y5) else (some false)).bind fun b4=>some b4
theorem CO {N:Nat}{a0:SD}{r:Bool}(h:tb N a0=some r):Okc Tryz.prog 189 [.agg #[iV a0.Kind,iV a0.Shape,iV a0.Flags,iV a0.Age,O A1 n1 c1,O A2 n2 c2]] ([bo A1 n1 c1 a0.Slots,bo A2 n2 c2 a0.More]) (fun u post=>u=.bool r∧post=[]):=by
 refine bz Tryz.func189 U U ?_;simp only [aR];refine D ?_;refine gD (bd U U) ?_;rintro _ _ ⟨B3,rfl,rfl⟩;refine D ?_;obtain ⟨b4,hb4,h⟩:=aa h;refine aE 3 9 b4 ?_ ?_
 ·clear h;refine aB 6 U (fun g4=> ?_) (fun g4=> ?_)
  ·have h:=ae g4 hb4;refine bM (aA (us:=[iV a0.Kind,iV a0.Shape,iV a0.Flags,iV a0.Age,O A1 n1 c1,O A2 n2 c2]) 0 U U bh U) U (aS g4 U) U ?_;obtain ⟨y5,hy5,h⟩:=aa h;refine ca (ak (kU hy5) Bj U (Ex (ac (i:=1) U U) (Ex (ac (i:=2) U U) ad)) iL) U (aS g4 U) U ?_;rintro _ _ ⟨_,⟨rfl,rfl⟩,rfl⟩;refine D ?_;obtain rfl:=ao h;exact ab sA (cS [0,1,2] 3)
  have h:=ag g4 hb4;refine D ?_;obtain rfl:=ao h;exact ab sA (cS [0,1,2] 3)
 refine D ?_;obtain rfl:=ao h;exact aD U U (cS [] 3) ⟨U,U⟩
theorem yw {r:Bool}: ∀v post,((fun (u:Value) (post:List Chunk)=>u=.bool r∧post=[])) v post→ ∀c∈post,cn c:=by
 rintro _ _ ⟨rfl,rfl⟩;exact ad
def eE (N:Nat){σ:Type}(fy:(SG×SG)→σ→Option (Bool×σ))(a1:SD):Nat→Int→σ→Option σ
 |0,_,_=>none
 |m4+1,p5,p6=>bG (in64 (p5+1)) (bif decide (p5+1<(a1.More.length:Int)) then ((aM a1.More p5).bind fun x9=>bG (in64 (p5+1)) ((aM a1.More (p5+1)).bind fun x11=>(fy (x9,x11) p6).bind fun y12=>bif !y12.1 then (some y12.2) else (bG (in64 (p5+2)) ((eE N fy a1 m4) (p5+2) y12.2)))) else (some p6))
def iM (N:Nat){σ:Type}(a1:SD)(fy:(SG×SG)→σ→Option (Bool×σ))(s0:σ):Option σ:=
 eE N fy a1 N 0 s0
theorem qJ {N:Nat}{σ:Type}{a1:SD}{fy:(SG×SG)→σ→Option (Bool×σ)}{s0:σ}{r:σ}(h:iM N a1 fy s0=some r){l:Nat}{G:σ→List Chunk}(hY:sD Tryz.prog l G (fun x=> [.agg #[iV x.1.Kind,iV x.1.N,.string x.1.S],.agg #[iV x.2.Kind,iV x.2.N,.string x.2.S]]) fy):Okc Tryz.prog 261 [.func (.yield l) #[] #[],pV B1 0] (bE B1 47 [iV a1.Kind,iV a1.Shape,iV a1.Flags,iV a1.Age,O A2 n2 c2,O A3 n3 c3]::bo A2 n2 c2 a1.Slots::bo A3 n3 c3 a1.More::(G s0)) (fun u post=>u=.tuple #[]∧post=G r):=by
 refine bz Tryz.func261 U U ?_;simp only [aR];refine D ?_;refine bp (fun m s L=> ∃p5 p6,eE N fy a1 m p5 p6=some r∧s=[(0,.func (.yield l) #[] #[]),(1,pV B1 0),(3,iV p5)]∧L=bo A2 n2 c2 a1.Slots::bo A3 n3 c3 a1.More::bE B1 47 [iV a1.Kind,iV a1.Shape,iV a1.Flags,iV a1.Age,O A2 n2 c2,O A3 n3 c3]::(G p6)) N _ _ ⟨0,s0,h,U,U⟩ sA (cS [1,2,0] 3) ?_;rintro (_|m4) _ _ ⟨p5,p6,h,rfl,rfl⟩
 ·exact aC h
 rw [eE.eq_2] at h;refine az ?_;refine D ?_;obtain ⟨q7,h⟩:=ap h;refine gE (aU U U q7.1 q7.2) ?_;refine D ?_;refine gR (bI 2 U U eu U) ?_;refine gR (aK 1 U aj U Sn) ?_;refine D ?_;refine av U (fun g8=> ?_) (fun g8=> ?_)
 ·replace h:=ae g8 h;refine D ?_;refine az ?_;refine iE ?_;refine az ?_;obtain ⟨x9,hx9,h⟩:=aa h;obtain ⟨lx9,ux9,hx9⟩:=aq hx9;obtain ⟨q10,h⟩:=ap h;obtain ⟨x11,hx11,h⟩:=aa h;obtain ⟨lx11,ux11,hx11⟩:=aq hx11;refine gZ (t:=[(0,.func (.yield l) #[] #[]),(1,pV B1 0),(3,iV p5)]) ?_ md (ah _)
  refine jh Y 12 [] [0,5,11] [12,13,14,15,16,17,18,19,20,21,22,23] [[],[],[1],[],[2,3],[4],[],[6],[],[8],[7,9],[10]] [aV (.func (.yield l) #[] #[]),
 aV (pV B1 5),
 aV (O A3 n3 c3),
 aV (iV p5),
 aV (eX (O A3 n3 c3) p5.toNat 3 0),
 aV (.agg #[iV x9.Kind,iV x9.N,.string x9.S]),
 aV (pV B1 5),
 aV (O A3 n3 c3),
 aV (iV p5),
 aV (iV (p5+1)),
 aV (eX (O A3 n3 c3) ((p5+1).toNat) 3 0),
 aV (.agg #[iV x11.Kind,iV x11.N,.string x11.S])] [] (ah _) (lK) Y rfl rfl ?_ ?_ ?_
  ·exact lJ
  ·refine ai U ?_ ?_
   ·exact dM (bm (us:=[iV x11.Kind,iV x11.N,.string x11.S]) 1 U aj U hx11 bY (fun _ _ _ h=>by rw [show _=_ from h];rfl)) U (bn U (ah _))
   refine ai U ?_ ?_
   ·exact dM (aH 1 U aj U U Sn aP lx11 ux11) U (bn U (ah _))
   refine ai U ?_ ?_
   ·exact cK (aU U U q10.1 q10.2) U (bn U (ah _))
   refine ai U ?_ ?_
   ·exact cK (ay U) U (bn U (ah _))
   refine ai U ?_ ?_
   ·exact dM (bI 2 U U eu U) U (bn U (ah _))
   refine ai U ?_ ?_
   ·exact cK (bX U iD) U (bn U (ah _))
   refine ai U ?_ ?_
   ·exact dM (bm (us:=[iV x9.Kind,iV x9.N,.string x9.S]) 1 U aj U hx9 bY (fun _ _ _ h=>by rw [show _=_ from h];rfl)) U (bn U (ah _))
   refine ai U ?_ ?_
   ·exact dM (aH 1 U aj U U Sn aP lx9 ux9) U (bn U (ah _))
   refine ai U ?_ ?_
   ·exact cK (ay U) U (bn U (ah _))
   refine ai U ?_ ?_
   ·exact dM (bI 2 U U eu U) U (bn U (ah _))
   refine ai U ?_ ?_
   ·exact cK (bX U iD) U (bn U (ah _))
   refine ai U ?_ ?_
   ·exact cK (ay U) U (bn U (ah _))
   exact eH
  refine mG (t:=[(12,.func (.yield l) #[] #[]),(17,.agg #[iV x9.Kind,iV x9.N,.string x9.S]),(23,.agg #[iV x11.Kind,iV x11.N,.string x11.S]),(0,.func (.yield l) #[] #[]),(1,pV B1 0),(3,iV p5)]) (L':=bo A2 n2 c2 a1.Slots::bo A3 n3 c3 a1.More::bE B1 47 [iV a1.Kind,iV a1.Shape,iV a1.Flags,iV a1.Age,O A2 n2 c2,O A3 n3 c3]::(G p6)) ?_ md (ah _);obtain ⟨y12,hy12,h⟩:=aa h;refine rN 12 U Y (wH (a:=(x9,x11)) [bo A2 n2 c2 a1.Slots,bo A3 n3 c3 a1.More,bE B1 47 [iV a1.Kind,iV a1.Shape,iV a1.Flags,iV a1.Age,O A2 n2 c2,O A3 n3 c3]] hY hy12 U U) U U U ?_;rintro _ _ ⟨rfl,rfl⟩;refine Ck 13 U Y (Bd U) U U U ?_;refine ma Y ?_;refine gL ?_;refine av U (fun g13=> ?_) (fun g13=> ?_)
  ·replace h:=ae g13 h;refine D ?_;obtain rfl:=ao h;exact FB U (cS [] 3) ⟨U,U⟩
  replace h:=ag g13 h;refine D ?_;obtain ⟨q14,h⟩:=ap h;refine gE (aU U U q14.1 q14.2) ?_;refine D ?_;exact ⟨m4,_,_,SP _,⟨p5+2,y12.2,h,U,U⟩,sA,cS [0,1,2] 3⟩
 replace h:=ag g8 h;refine D ?_;obtain rfl:=ao h;exact iF U (cS [] 3) ⟨U,U⟩
def lz (N:Nat)(a0:SD):Option Unit:=
 some ()
theorem uw {N:Nat}{a0:SD}{r:Unit}(h:lz N a0=some r):Okc Tryz.prog 239 [.agg #[iV a0.Kind,iV a0.Shape,iV a0.Flags,iV a0.Age,O A1 n1 c1,O A2 n2 c2]] ([bo A1 n1 c1 a0.Slots,bo A2 n2 c2 a0.More]) (fun u post=> ∃B900,u=.func (.func 261) #[] #[pV B900 0]∧post=[ax B900 47 [iV a0.Kind,iV a0.Shape,iV a0.Flags,iV a0.Age,O A1 n1 c1,O A2 n2 c2]]):=by
 refine bz Tryz.func239 U U ?_;simp only [aR];refine D ?_;refine gD (bd U U) ?_;rintro _ _ ⟨B3,rfl,rfl⟩;refine D ?_;refine gE (eQ U) ?_;refine D ?_;obtain rfl:=ao h;exact aD U U (cS [0] 3) ⟨_,U,U⟩
theorem rU {a0:SD}{A1:Option Addr}{n1:Nat}{c1:Nat}{A2:Option Addr}{n2:Nat}{c2:Nat}: ∀v post,((fun (u:Value) (post:List Chunk)=> ∃B900,u=.func (.func 261) #[] #[pV B900 0]∧post=[ax B900 47 [iV a0.Kind,iV a0.Shape,iV a0.Flags,iV a0.Age,O A1 n1 c1,O A2 n2 c2]])) v post→ ∀c∈post,cn c:=by
 rintro _ _ ⟨_,rfl,rfl⟩;exact Ex pH (ad)
def io (N:Nat)(a1:(List Int))(x12:SG×SG):((List Int))→Option (Option Exit×(List Int))
 |p13=>(bif decide (x12.2.Kind=7) then (some true) else (some (decide (x12.2.Kind=9)))).bind fun b18=>(bif b18 then ((dU N a1 x12.1.N).bind fun y20=>some y20) else (some false)).bind fun b19=>bif b19 then (bG (bZ (p13.length+([x12.2.N]:List Int).length)) (some (none,p13++([x12.2.N]:List Int)))) else (some (none,p13))
def nM (N:Nat)(a0:SD)(a1:(List Int)):Option (List Int):=
 (tb N a0).bind fun y6=>bif !y6 then (some []) else ((lz N a0).bind fun y10=>(iM N a0 (dk (fun x st=>io N a1 x st)) (none,[])).bind fun y14=>oL y14.1 (some y14.2) none (fun _=>none))
theorem xr {N:Nat}{a0:SD}{a1:(List Int)}{r:(List Int)}(h:nM N a0 a1=some r):Okc Tryz.prog 181 [.agg #[iV a0.Kind,iV a0.Shape,iV a0.Flags,iV a0.Age,O A1 n1 c1,O A2 n2 c2],O A3 n3 c3] ([bo A1 n1 c1 a0.Slots,bo A2 n2 c2 a0.More,dw A3 n3 c3 a1]) (fun u post=> ∃A0 n0 c0,u=O A0 n0 c0∧post=[dl A0 n0 c0 r]):=by
 refine bz Tryz.func181 U U ?_;simp only [aR];refine D ?_;refine gD (bd U U) ?_;rintro _ _ ⟨B4,rfl,rfl⟩;refine gD (bd U U) ?_;rintro _ _ ⟨B5,rfl,rfl⟩;refine D ?_;refine az ?_;refine D ?_;refine gR (aA (us:=[iV a0.Kind,iV a0.Shape,iV a0.Flags,iV a0.Age,O A1 n1 c1,O A2 n2 c2]) 1 U U bh U) ?_;obtain ⟨y6,hy6,h⟩:=aa h;refine gD (ak (CO hy6) JS U (Ex (ac (i:=2) U U) (Ex (ac (i:=3) U U) ad)) yw) ?_;rintro _ _ ⟨_,⟨rfl,rfl⟩,rfl⟩;refine D ?_;refine av U (fun g7=> ?_) (fun g7=> ?_)
 ·replace h:=ae g7 h;refine D ?_;obtain rfl:=ao h;exact aD U U ((ce (fW .i64) 3 _).trans (cS [0] 6)) ⟨_,_,_,U,U⟩
 replace h:=ag g7 h;refine D ?_;refine gD (aN Ic U) ?_;rintro _ _ ⟨B9,rfl,rfl⟩;refine D ?_;refine az ?_;refine D ?_;refine gR (aA (us:=[iV a0.Kind,iV a0.Shape,iV a0.Flags,iV a0.Age,O A1 n1 c1,O A2 n2 c2]) 2 U U bh U) ?_;obtain ⟨y10,hy10,h⟩:=aa h;refine gD (ak (uw hy10) JI U (Ex (ac (i:=3) U U) (Ex (ac (i:=4) U U) ad)) rU) ?_;rintro _ _ ⟨_,⟨B11,rfl,rfl⟩,rfl⟩;refine tS ?_;refine gL ?_;refine gZ ?_ bU (ik 0 U);obtain ⟨y14,hy14,h⟩:=aa h;refine tR (en:=(fun x=> [.agg #[iV x.1.Kind,iV x.1.N,.string x.1.S],.agg #[iV x.2.Kind,iV x.2.N,.string x.2.S]])) (fun x st=>io N a1 x st) (fun (st:(List Int)) (mz:((Option Addr×Nat×Nat)))=> [dw A3 n3 c3 a1,ax B5 23 [O A3 n3 c3],gK (fW .i64) 3 (.slice mz.1 mz.2.1 mz.2.2) st,ax B9 23 [.slice mz.1 mz.2.1 mz.2.2]]) [bE B11 47 [iV a0.Kind,iV a0.Shape,iV a0.Flags,iV a0.Age,O A1 n1 c1,O A2 n2 c2],bo A1 n1 c1 a0.Slots,bo A2 n2 c2 a0.More] ([]) ((none,0,0)) U U JF U (fun _=>U) (fun l G hY=>(qJ hy14 hY).mono fun _ _ hh=>hh.2) ((ce (fW .i64) 3 _).trans (aJ [1,5,6] [] [7,3,0,2] 8 U)) h ?_ ?_ ?_ ?_
 ·rintro l x12 p13 je sr12 ⟨A13,n13,c13⟩ h;replace h:io N a1 x12 p13=some (je,sr12):=h;simp only [zZ,List.zip_cons_cons,List.zip_nil_left,List.zip_nil_right,List.reverse_cons,List.reverse_nil,List.nil_append,List.cons_append];refine D ?_;refine gD (aN jD U) ?_;rintro _ _ ⟨B16,rfl,rfl⟩;refine gO (au (us:=[iV x12.1.Kind,iV x12.1.N,.string x12.1.S]) (cs':=[iV x12.1.Kind,iV x12.1.N,.string x12.1.S]) 0 U U U U aP U U U) ?_;rintro _ _ rfl;refine D ?_;refine gD (aN jD U) ?_;rintro _ _ ⟨B17,rfl,rfl⟩;refine gO (au (us:=[iV x12.2.Kind,iV x12.2.N,.string x12.2.S]) (cs':=[iV x12.2.Kind,iV x12.2.N,.string x12.2.S]) 0 U U U U aP U U U) ?_;rintro _ _ rfl;refine cN ?_;refine D ?_;obtain ⟨b18,hb18,h⟩:=aa h;refine aE 4 22 b18 ?_ ?_
  ·clear h;refine aB 18 U (fun g18=> ?_) (fun g18=> ?_)
   ·have h:=ae g18 hb18;refine D ?_;obtain rfl:=ao h;exact ab sA (cS [0,1,2,3,4,5] 6)
   have h:=ag g18 hb18;refine D ?_;obtain rfl:=ao h;exact ab sA (cS [0,1,2,3,4,5] 6)
  refine D ?_;obtain ⟨b19,hb19,h⟩:=aa h;refine aE 5 28 b19 ?_ ?_
  ·clear h;refine aB 23 U (fun g19=> ?_) (fun g19=> ?_)
   ·have h:=ae g19 hb19;refine D ?_;obtain ⟨y20,hy20,h⟩:=aa h;refine ca (ak (kc hy20) CD U (Ex (ac (i:=2) U U) ad) iN) U (aS g19 U) U ?_;rintro _ _ ⟨_,⟨rfl,rfl⟩,rfl⟩;refine D ?_;obtain rfl:=ao h;exact ab sA (cS [0,1,2,3,4,5] 6)
   have h:=ag g19 hb19;refine D ?_;obtain rfl:=ao h;exact ab sA (cS [0,1,2,3,4,5] 6)
  refine D ?_;refine av U (fun g21=> ?_) (fun g21=> ?_)
  ·replace h:=ae g21 h;refine D ?_;refine gD (bw (R:=(fW .i64)) (vss:=[[iV x12.2.N]]) (xs:=[x12.2.N]) U (iy _) U U (fun _ _ hr=> .cons U All2.nil)) ?_;rintro _ _ ⟨A22,n22,c22,rfl,rfl⟩;obtain ⟨q23,h⟩:=ap h;refine gD (bj 5 0 U U aF U U Sg Es U U q23) ?_;rintro _ _ ⟨A24,n24,c24,rfl,rfl⟩;refine gO (au (us:=[O A24 n24 c24]) (cs':=[O A24 n24 c24]) 6 U U U U sJ U U U) ?_;rintro _ _ rfl;refine D ?_;obtain ⟨rfl,rfl⟩:=Prod.mk.inj (Option.some.inj h);exact Cj ((cS [3,4,5,6] 7).trans (gh (A24,n24,c24) U))
  replace h:=ag g21 h;refine D ?_;obtain ⟨rfl,rfl⟩:=Prod.mk.inj (Option.some.inj h);exact Cj ((cS [2,3,4,5] 6).trans (gh (A13,n13,c13) U))
 ·rintro ⟨A13,n13,c13⟩ h;refine pp ([dw A3 n3 c3 a1,ax B5 23 [O A3 n3 c3],dl A13 n13 c13 y14.2,ax B9 23 [O A13 n13 c13]]) U ?_;refine D ?_;obtain rfl:=ao h;exact aD U U (cS [2] 4) ⟨_,_,_,U,U⟩
 ·rintro ⟨A13,n13,c13⟩ h;exact aC h
 rintro i ⟨A13,n13,c13⟩ h;exact aC h
theorem ux {r:(List Int)}: ∀v post,((fun (u:Value) (post:List Chunk)=> ∃A0 n0 c0,u=O A0 n0 c0∧post=[dl A0 n0 c0 r])) v post→ ∀c∈post,cn c:=by
 rintro _ _ ⟨_,_,_,rfl,rfl⟩;exact Ex bJ (ad)
end Go.Proofs.YtmimkglhbmcokaaGreat