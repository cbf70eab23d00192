/- Merged texts: part 8. No conditions of their own. -/
import Derived.Test.YtmimkglhbmcokaaGreatG7
namespace Go.Proofs.YtmimkglhbmcokaaGreat
variable {A1 A2 A3 A4 A5:Option Addr} {B1 B6 M7 c1 c2 c3 c4 c5 n1 n2 n3 n4 n5:Nat}
open Go.RowKit Asn
set_option maxRecDepth 20000
def tJ (N:Nat)(a0:(List SD))(p3:(List SD)):Option (List SD):=
 some p3
def ie (N:Nat)(a0:(List SD)):Nat→(List SD)→Int→Option (List SD)
 |0,_,_=>none
 |m4+1,p5,p6=>bif decide (p6<(a0.length:Int)) then ((aM a0 p6).bind fun x9=>(ed N x9).bind fun y13=>bG (bZ (p5.length+([y13]:List SD).length)) (bG (in64 (p6+1)) ((ie N a0 m4) (p5++([y13]:List SD)) (p6+1)))) else (tJ N a0 p5)
def kI (N:Nat)(a0:(List SD)):Option (List SD):=
 ie N a0 N [] 0
theorem tI {N:Nat}{a0:(List SD)}{r:(List SD)}(h:kI N a0=some r):Okc Tryz.prog 84 [O A1 n1 c1] ([cI A1 n1 c1 a0]) (fun u post=> ∃A500 n500 c500,u=O A500 n500 c500∧post=[cI A500 n500 c500 r,cI A1 n1 c1 a0]):=by
 refine bz Tryz.func84 U U ?_;simp only [aR];refine D ?_;refine aO (fun s L=> ∃p3 A3 n3 c3,tJ N a0 p3=some r∧s=[(2,O none 0 0),(3,O A3 n3 c3)]∧L=[cI A3 n3 c3 p3,cI A1 n1 c1 a0]) ?_ ?_
 ·refine D ?_;refine gR (aK 0 U aF U Sr) ?_;refine D ?_;refine bp (fun m s L=> ∃p5 p6 A5 n5 c5,ie N a0 m p5 p6=some r∧s=[(2,O none 0 0),(3,O A5 n5 c5),(6,O A1 n1 c1),(7,iV (a0.length:Int)),(8,iV p6)]∧L=[cI A5 n5 c5 p5,cI A1 n1 c1 a0]) N _ _ ⟨[],0,none,0,0,h,U,U⟩ sA ((ce du 47 _).trans (cS [0,1] 2)) ?_;rintro (_|m4) _ _ ⟨p5,p6,A5,n5,c5,h,rfl,rfl⟩
  ·exact aC h
  rw [ie.eq_2] at h;refine D ?_;refine az ?_;refine av U (fun g8=> ?_) (fun g8=> ?_)
  ·replace h:=ae g8 h;refine D ?_;refine az ?_;refine D ?_;obtain ⟨x9,hx9,h⟩:=aa h;obtain ⟨lx9,ux9,hx9⟩:=aq hx9;refine gR (aH 1 U aF U U Sr bF lx9 ux9) ?_;refine gD (Hp 1 U aF U hx9 bh U (dR x9)) ?_;rintro u _ ⟨_,_,⟨A10,n10,c10,A11,n11,c11,rfl,rfl⟩,hu,rfl⟩;obtain rfl:u=.agg #[iV x9.Kind,iV x9.Shape,iV x9.Flags,iV x9.Age,O A10 n10 c10,O A11 n11 c11]:=hu;refine gD (aN dI U) ?_;rintro _ _ ⟨B12,rfl,rfl⟩;refine gO (au (us:=[iV x9.Kind,iV x9.Shape,iV x9.Flags,iV x9.Age,O A10 n10 c10,O A11 n11 c11]) (cs':=[iV x9.Kind,iV x9.Shape,iV x9.Flags,iV x9.Age,O A10 n10 c10,O A11 n11 c11]) 0 U U U U bF U U U) ?_;rintro _ _ rfl;refine D ?_;refine gR (aA (us:=[iV x9.Kind,iV x9.Shape,iV x9.Flags,iV x9.Age,O A10 n10 c10,O A11 n11 c11]) 0 U U bh U) ?_;obtain ⟨y13,hy13,h⟩:=aa h;refine gD (ak (gP hy13) uu U (Ex (ac (i:=1) U U) (Ex (ac (i:=2) U U) ad)) fx) ?_;rintro _ _ ⟨_,⟨A14,n14,c14,A15,n15,c15,rfl,rfl⟩,rfl⟩;refine o7 (ck 0 U) ?_;refine o7 (ck 1 U) ?_;refine cN ?_;refine gD (bw (R:=du) (vss:=[[iV y13.Kind,iV y13.Shape,iV y13.Flags,iV y13.Age,O A14 n14 c14,O A15 n15 c15]]) (xs:=[y13]) U (rM _ _ _ _ _ _ _ _ _ _) U U (fun _ _ hr=> .cons (⟨_,_,_,_,_,_,U,hr 0 _ U U,hr 1 _ U U⟩) All2.nil)) ?_;rintro _ _ ⟨A16,n16,c16,rfl,rfl⟩;obtain ⟨q17,h⟩:=ap h;refine gD (bj 6 0 U U aF U U Sr Er U U q17) ?_;rintro _ _ ⟨A18,n18,c18,rfl,rfl⟩
   refine D ?_;obtain ⟨q19,h⟩:=ap h;refine gE (aU U U q19.1 q19.2) ?_;refine D ?_;exact ⟨m4,_,_,SP _,⟨p5++([y13]:List SD),p6+1,A18,n18,c18,h,U,U⟩,sA,cS [6,7] 8⟩
  replace h:=ag g8 h;refine D ?_;exact ⟨_,_,⟨p5,A5,n5,c5,h,U,U⟩,sA,cS [0,1] 2⟩
 rintro _ _ ⟨p3,A3,n3,c3,h,rfl,rfl⟩;refine D ?_;obtain rfl:=ao h;exact aD U U (cS [0,1] 2) ⟨_,_,_,U,U⟩
def iu (N:Nat)(a0:SK):Option (SB×SK):=
 (aW N a0).bind fun y9=>bif y9 then (some ((⟨[],[]⟩:SB),a0)) else ((kI N a0.m_.Young).bind fun y13=>(kI N a0.m_.Old).bind fun y15=>some ((⟨y13,y15⟩:SB),a0))
theorem qn {N:Nat}{a0:SK}{r:(SB×SK)}(h:iu N a0=some r):Okc Tryz.prog 20 [pV B1 0] ([ax B1 86 [O A2 n2 c2,O A3 n3 c3,O A4 n4 c4,O A5 n5 c5,pV B6 0],cI A2 n2 c2 a0.m_.Young,cI A3 n3 c3 a0.m_.Old,bL A4 n4 c4 a0.roots_,bL A5 n5 c5 a0.pending_,ax B6 157 [.map (some M7)],bq cC ee M7 a0.set_.at_]) (fun u post=> ∃A0 n0 c0 A1 n1 c1 A2 n2 c2 A3 n3 c3 A4 n4 c4 A5 n5 c5 M6,u=.agg #[O A0 n0 c0,O A1 n1 c1]∧post=[cI A0 n0 c0 r.1.Young,cI A1 n1 c1 r.1.Old,ax B1 86 [O A2 n2 c2,O A3 n3 c3,O A4 n4 c4,O A5 n5 c5,pV B6 0],cI A2 n2 c2 r.2.m_.Young,cI A3 n3 c3 r.2.m_.Old,bL A4 n4 c4 r.2.roots_,bL A5 n5 c5 r.2.pending_,ax B6 157 [.map (some M6)],bq cC ee M6 r.2.set_.at_]):=by
 refine bz Tryz.func20 U U ?_;simp only [aR];refine D ?_;refine gD (aN nh U) ?_;rintro _ _ ⟨B8,rfl,rfl⟩;refine D ?_;refine az ?_;refine D ?_;obtain ⟨y9,hy9,h⟩:=aa h;refine gD (ak (cj hy9) qg U (Ex (aY (i:=1) U) (Ex (ar (i:=2) U) (Ex (ar (i:=3) U) (Ex (ar (i:=4) U) (Ex (ar (i:=5) U) (Ex (aY (i:=6) U) (Ex (cH (i:=7) U) ad))))))) bT) ?_;rintro _ _ ⟨_,⟨rfl,rfl⟩,rfl⟩;refine D ?_;refine av U (fun g10=> ?_) (fun g10=> ?_)
 ·replace h:=ae g10 h;refine D ?_;refine gE (cq U (GR)) ?_;refine gO (au (us:=[O none 0 0,O none 0 0]) (cs':=[O none 0 0,O none 0 0]) 0 U U U U eF U U U) ?_;rintro _ _ rfl;refine D ?_;obtain rfl:=ao h;exact dB (rs:=[.cell 2 36]) (vs:=[.agg #[O none 0 0,O none 0 0]]) U (.cons (co 0 U U cU) .nil) U ((ce du 47 _).trans ((ce du 47 _).trans (cS [1,0,3,4,5,6,7,8,9] 10))) ⟨_,_,_,_,_,_,_,_,_,_,_,_,_,_,_,_,_,_,_,U,U⟩
 replace h:=ag g10 h;refine D ?_;refine az ?_;refine cv Y _ (ah _) ?_;refine zE 0 U (ay U) ?_;refine zE 1 U (aL U) ?_;refine zE 2 U (dG U jd) ?_;refine zE 3 U (dG U ul) ?_;refine zR 4 U (bc 1 U U lL U) ?_;refine zE 6 U (ay U) ?_;refine zE 7 U (aL U) ?_;refine zE 8 U (dG U jd) ?_;refine zE 9 U (bX U sv) ?_;refine zR 10 U (bc 1 U U lL U) ?_;obtain ⟨y13,hy13,h⟩:=aa h;refine zD 5 U (aX (tI hy13) Nc U (aJ [] [2] [0,1,3,4,5,6,7] 8 U)) ?_;rintro _ _ ⟨_,⟨A14,n14,c14,rfl,rfl⟩,rfl⟩;refine bN (cS [2,3,1,4,5,6,7,8] 9) ?_;obtain ⟨y15,hy15,h⟩:=aa h;refine zD 11 U (aX (tI hy15) Nc U (aJ [] [4] [0,1,2,3,5,6,7,8] 9 U)) ?_;rintro _ _ ⟨_,⟨A16,n16,c16,rfl,rfl⟩,rfl⟩;refine bN (cS [4,5,3,1,6,7,8,9] 10) ?_;refine zE 12 U (cq U (Ei _ _ _ _ _ _)) ?_;refine lx 13 U Y Y (au (us:=[O A14 n14 c14,O A16 n16 c16]) (cs':=[O A14 n14 c14,O A16 n16 c16]) 4 U U U U eF U U U) ?_;rintro _ _ rfl;refine bH Y ?_;refine D ?_;obtain rfl:=ao h;exact dB (rs:=[.cell 2 36]) (vs:=[.agg #[O A14 n14 c14,O A16 n16 c16]]) U (.cons (co 4 U U cU) .nil) U (cS [2,0,5,3,1,6,7,8,9] 10) ⟨_,_,_,_,_,_,_,_,_,_,_,_,_,_,_,_,_,_,_,U,U⟩
def fo (N:Nat)(a0:SK):Option (List SG):=
 (aW N a0).bind fun y8=>bif y8 then (some []) else ((df N a0.roots_).bind fun y11=>some y11)
theorem kw {N:Nat}{a0:SK}{r:(List SG)}(h:fo N a0=some r):Okc Tryz.prog 21 [pV B1 0] ([bE B1 86 [O A2 n2 c2,O A3 n3 c3,O A4 n4 c4,O A5 n5 c5,pV B6 0],bC A2 n2 c2 a0.m_.Young,bC A3 n3 c3 a0.m_.Old,bo A4 n4 c4 a0.roots_,bo A5 n5 c5 a0.pending_,bE B6 157 [.map (some M7)],nQ cC ee M7 a0.set_.at_]) (fun u post=> ∃A0 n0 c0,u=O A0 n0 c0∧post=[bL A0 n0 c0 r]):=by
 refine bz Tryz.func21 U U ?_;simp only [aR];refine D ?_;refine az ?_;refine D ?_;obtain ⟨y8,hy8,h⟩:=aa h;refine gD (ak (cj hy8) qg U (Ex (ac (i:=0) U U) (Ex (ac (i:=1) U U) (Ex (ac (i:=2) U U) (Ex (ac (i:=3) U U) (Ex (ac (i:=4) U U) (Ex (ac (i:=5) U U) (Ex (ac (i:=6) U U) ad))))))) bT) ?_;rintro _ _ ⟨_,⟨rfl,rfl⟩,rfl⟩;refine D ?_;refine av U (fun g9=> ?_) (fun g9=> ?_)
 ·replace h:=ae g9 h;refine D ?_;obtain rfl:=ao h;exact aD U U ((ce bv 52 _).trans (cS [0] 8)) ⟨_,_,_,U,U⟩
 replace h:=ag g9 h;refine D ?_;refine gR (bI 0 U U eu U) ?_;obtain ⟨y11,hy11,h⟩:=aa h;refine gD (ak (fD hy11) wo U (Ex (ac (i:=3) U U) ad) dV) ?_;rintro _ _ ⟨_,⟨A12,n12,c12,rfl,rfl⟩,rfl⟩;refine D ?_;obtain rfl:=ao h;exact aD U U (cS [0] 8) ⟨_,_,_,U,U⟩
theorem jb {r:(List SG)}: ∀v post,((fun (u:Value) (post:List Chunk)=> ∃A0 n0 c0,u=O A0 n0 c0∧post=[bL A0 n0 c0 r])) v post→ ∀c∈post,cn c:=by
 rintro _ _ ⟨_,_,_,rfl,rfl⟩;exact Ex bJ (ad)
def ib (N:Nat)(a0:SG):Option Bool:=
 (bif decide (a0.Kind<0) then (some true) else (some (decide (9<a0.Kind)))).bind fun b2=>bif b2 then (some false) else (bif decide (a0.Kind=5) then ((bif decide (a0.N=0) then (some (decide ((a0.S.size:Int)≤65536))) else (some false)).bind fun b5=>some b5) else (bif !(a0.S.toList==(⟨#[]⟩:ByteArray).toList) then (some false) else (bif decide (a0.Kind=2) then ((bif decide (a0.N=0) then (some true) else (some (decide (a0.N=1)))).bind fun b8=>some b8) else (bif decide (a0.Kind=3) then ((bif decide ((-9007199254740992)≤a0.N) then (some (decide (a0.N≤9007199254740992))) else (some false)).bind fun b10=>some b10) else ((bif decide (a0.Kind=6) then (some true) else (some (decide (a0.Kind=7)))).bind fun b11=>(bif b11 then (some true) else (some (decide (a0.Kind=9)))).bind fun b12=>bif b12 then (some (decide (1≤a0.N))) else (some (decide (a0.N=0))))))))
theorem Dq {N:Nat}{a0:SG}{r:Bool}(h:ib N a0=some r):Okc Tryz.prog 201 [.agg #[iV a0.Kind,iV a0.N,.string a0.S]] ([]) (fun u post=>u=.bool r∧post=[]):=by
 refine bz Tryz.func201 U U ?_;simp only [aR];refine D ?_;refine gD (bd U U) ?_;rintro _ _ ⟨B1,rfl,rfl⟩;refine D ?_;refine az ?_;refine D ?_;obtain ⟨b2,hb2,h⟩:=aa h;refine aE 4 10 b2 ?_ ?_
 ·clear h;refine aB 6 U (fun g2=> ?_) (fun g2=> ?_)
  ·have h:=ae g2 hb2;refine D ?_;obtain rfl:=ao h;exact ab sA (cS [0] 1)
  have h:=ag g2 hb2;refine D ?_;obtain rfl:=ao h;exact ab sA (cS [0] 1)
 refine D ?_;refine av U (fun g3=> ?_) (fun g3=> ?_)
 ·replace h:=ae g3 h;refine D ?_;obtain rfl:=ao h;exact aD U U (cS [] 1) ⟨U,U⟩
 replace h:=ag g3 h;refine D ?_;refine az ?_;refine D ?_;refine av U (fun g4=> ?_) (fun g4=> ?_)
 ·replace h:=ae g4 h;refine D ?_;obtain ⟨b5,hb5,h⟩:=aa h;refine aE 5 22 b5 ?_ ?_
  ·clear h;refine aB 17 U (fun g5=> ?_) (fun g5=> ?_)
   ·have h:=ae g5 hb5;refine D ?_;refine pN (JA U R7) U (aS g5 U) U ?_;refine D ?_;obtain rfl:=ao h;exact ab sA (cS [0] 1)
   have h:=ag g5 hb5;refine D ?_;obtain rfl:=ao h;exact ab sA (cS [0] 1)
  refine D ?_;obtain rfl:=ao h;exact aD U U (cS [] 1) ⟨U,U⟩
 replace h:=ag g4 h;refine D ?_;refine az ?_;refine D ?_;refine gE (D1 U U) ?_;refine D ?_;refine av U (fun g6=> ?_) (fun g6=> ?_)
 ·replace h:=ae g6 h;refine D ?_;obtain rfl:=ao h;exact aD U U (cS [] 1) ⟨U,U⟩
 replace h:=ag g6 h;refine D ?_;refine az ?_;refine D ?_;refine av U (fun g7=> ?_) (fun g7=> ?_)
 ·replace h:=ae g7 h;refine D ?_;obtain ⟨b8,hb8,h⟩:=aa h;refine aE 4 36 b8 ?_ ?_
  ·clear h;refine aB 32 U (fun g8=> ?_) (fun g8=> ?_)
   ·have h:=ae g8 hb8;refine D ?_;obtain rfl:=ao h;exact ab sA (cS [0] 1)
   have h:=ag g8 hb8;refine D ?_;obtain rfl:=ao h;exact ab sA (cS [0] 1)
  refine D ?_;obtain rfl:=ao h;exact aD U U (cS [] 1) ⟨U,U⟩
 replace h:=ag g7 h;refine D ?_;refine az ?_;refine D ?_;refine av U (fun g9=> ?_) (fun g9=> ?_)
 ·replace h:=ae g9 h;refine D ?_;obtain ⟨b10,hb10,h⟩:=aa h;refine aE 4 47 b10 ?_ ?_
  ·clear h;refine aB 43 U (fun g10=> ?_) (fun g10=> ?_)
   ·have h:=ae g10 hb10;refine D ?_;obtain rfl:=ao h;exact ab sA (cS [0] 1)
   have h:=ag g10 hb10;refine D ?_;obtain rfl:=ao h;exact ab sA (cS [0] 1)
  refine D ?_;obtain rfl:=ao h;exact aD U U (cS [] 1) ⟨U,U⟩
 replace h:=ag g9 h;refine D ?_;refine az ?_;refine D ?_;obtain ⟨b11,hb11,h⟩:=aa h;refine aE 4 55 b11 ?_ ?_
 ·clear h;refine aB 51 U (fun g11=> ?_) (fun g11=> ?_)
  ·have h:=ae g11 hb11;refine D ?_;obtain rfl:=ao h;exact ab sA (cS [0] 1)
  have h:=ag g11 hb11;refine D ?_;obtain rfl:=ao h;exact ab sA (cS [0] 1)
 refine D ?_;obtain ⟨b12,hb12,h⟩:=aa h;refine aE 4 60 b12 ?_ ?_
 ·clear h;refine aB 56 U (fun g12=> ?_) (fun g12=> ?_)
  ·have h:=ae g12 hb12;refine D ?_;obtain rfl:=ao h;exact ab sA (cS [0] 1)
  have h:=ag g12 hb12;refine D ?_;obtain rfl:=ao h;exact ab sA (cS [0] 1)
 refine D ?_;refine av U (fun g13=> ?_) (fun g13=> ?_)
 ·replace h:=ae g13 h;refine D ?_;obtain rfl:=ao h;exact aD U U (cS [] 1) ⟨U,U⟩
 replace h:=ag g13 h;refine D ?_;obtain rfl:=ao h;exact aD U U (cS [] 1) ⟨U,U⟩
theorem zd {r:Bool}: ∀v post,((fun (u:Value) (post:List Chunk)=>u=.bool r∧post=[])) v post→ ∀c∈post,cn c:=by
 rintro _ _ ⟨rfl,rfl⟩;exact ad
def iW (N:Nat)(a0:Int):Option Bool:=
 (bif decide (a0=1) then (some true) else (some (decide (a0=2)))).bind fun b1=>(bif b1 then (some true) else (some (decide (a0=3)))).bind fun b2=>(bif b2 then (some true) else (some (decide (a0=6)))).bind fun b3=>(bif b3 then (some true) else (some (decide (a0=8)))).bind fun b4=>(bif b4 then (some true) else (some (decide (a0=9)))).bind fun b5=>(bif b5 then (some true) else (some (decide (a0=10)))).bind fun b6=>some b6
theorem Gb {N:Nat}{a0:Int}{r:Bool}(h:iW N a0=some r):Okc Tryz.prog 242 [iV a0] ([]) (fun u post=>u=.bool r∧post=[]):=by
 refine bz Tryz.func242 U U ?_;simp only [aR];refine D ?_;obtain ⟨b1,hb1,h⟩:=aa h;refine aE 3 8 b1 ?_ ?_
 ·clear h;refine aB 5 U (fun g1=> ?_) (fun g1=> ?_)
  ·have h:=ae g1 hb1;refine D ?_;obtain rfl:=ao h;exact ab sA (cS [] 0)
  have h:=ag g1 hb1;refine D ?_;obtain rfl:=ao h;exact ab sA (cS [] 0)
 refine D ?_;obtain ⟨b2,hb2,h⟩:=aa h;refine aE 3 12 b2 ?_ ?_
 ·clear h;refine aB 9 U (fun g2=> ?_) (fun g2=> ?_)
  ·have h:=ae g2 hb2;refine D ?_;obtain rfl:=ao h;exact ab sA (cS [] 0)
  have h:=ag g2 hb2;refine D ?_;obtain rfl:=ao h;exact ab sA (cS [] 0)
 refine D ?_;obtain ⟨b3,hb3,h⟩:=aa h;refine aE 3 16 b3 ?_ ?_
 ·clear h;refine aB 13 U (fun g3=> ?_) (fun g3=> ?_)
  ·have h:=ae g3 hb3;refine D ?_;obtain rfl:=ao h;exact ab sA (cS [] 0)
  have h:=ag g3 hb3;refine D ?_;obtain rfl:=ao h;exact ab sA (cS [] 0)
 refine D ?_;obtain ⟨b4,hb4,h⟩:=aa h;refine aE 3 20 b4 ?_ ?_
 ·clear h;refine aB 17 U (fun g4=> ?_) (fun g4=> ?_)
  ·have h:=ae g4 hb4;refine D ?_;obtain rfl:=ao h;exact ab sA (cS [] 0)
  have h:=ag g4 hb4;refine D ?_;obtain rfl:=ao h;exact ab sA (cS [] 0)
 refine D ?_;obtain ⟨b5,hb5,h⟩:=aa h;refine aE 3 24 b5 ?_ ?_
 ·clear h;refine aB 21 U (fun g5=> ?_) (fun g5=> ?_)
  ·have h:=ae g5 hb5;refine D ?_;obtain rfl:=ao h;exact ab sA (cS [] 0)
  have h:=ag g5 hb5;refine D ?_;obtain rfl:=ao h;exact ab sA (cS [] 0)
 refine D ?_;obtain ⟨b6,hb6,h⟩:=aa h;refine aE 3 28 b6 ?_ ?_
 ·clear h;refine aB 25 U (fun g6=> ?_) (fun g6=> ?_)
  ·have h:=ae g6 hb6;refine D ?_;obtain rfl:=ao h;exact ab sA (cS [] 0)
  have h:=ag g6 hb6;refine D ?_;obtain rfl:=ao h;exact ab sA (cS [] 0)
 refine D ?_;obtain rfl:=ao h;exact aD U U (cS [] 0) ⟨U,U⟩
theorem Dp {r:Bool}: ∀v post,((fun (u:Value) (post:List Chunk)=>u=.bool r∧post=[])) v post→ ∀c∈post,cn c:=by
 rintro _ _ ⟨rfl,rfl⟩;exact ad
def dF (N:Nat)(a0:SG)(a1:Int):Option Bool:=
 (bif decide (a0.Kind=0) then (some true) else (some (decide (a0.Kind=a1)))).bind fun b2=>some b2
theorem nD {N:Nat}{a0:SG}{a1:Int}{r:Bool}(h:dF N a0 a1=some r):Okc Tryz.prog 243 [.agg #[iV a0.Kind,iV a0.N,.string a0.S],iV a1] ([]) (fun u post=>u=.bool r∧post=[]):=by
 refine bz Tryz.func243 U U ?_;simp only [aR];refine D ?_;refine gD (bd U U) ?_;rintro _ _ ⟨B1,rfl,rfl⟩;refine D ?_;obtain ⟨b2,hb2,h⟩:=aa h;refine aE 5 13 b2 ?_ ?_
 ·clear h;refine aB 8 U (fun g2=> ?_) (fun g2=> ?_)
  ·have h:=ae g2 hb2;refine D ?_;obtain rfl:=ao h;exact ab sA (cS [0] 1)
  have h:=ag g2 hb2;refine D ?_;obtain rfl:=ao h;exact ab sA (cS [0] 1)
 refine D ?_;obtain rfl:=ao h;exact aD U U (cS [] 1) ⟨U,U⟩
theorem kP {r:Bool}: ∀v post,((fun (u:Value) (post:List Chunk)=>u=.bool r∧post=[])) v post→ ∀c∈post,cn c:=by
 rintro _ _ ⟨rfl,rfl⟩;exact ad
def gT (N:Nat)(a0:SD):Option Bool:=
 (iW N a0.Kind).bind fun y4=>(bif y4 then (some true) else ((bif decide (a0.Kind=7) then (some (decide (0<(a0.Slots.length:Int)))) else (some false)).bind fun b6=>some b6)).bind fun b5=>bif b5 then ((bif decide (1≤(a0.Slots.length:Int)) then (some (decide ((a0.Slots.length:Int)≤1025))) else (some false)).bind fun b8=>(bif b8 then ((aM a0.Slots 0).bind fun x10=>(bif decide (x10.Kind=1) then (some true) else ((aM a0.Slots 0).bind fun x12=>some (decide (x12.Kind=7)))).bind fun b11=>some b11) else (some false)).bind fun b9=>some b9) else (bif decide (a0.Kind=7) then (some (decide (a0.Shape=0))) else ((bif !decide (a0.Shape=0) then (some true) else (some (!decide (a0.Flags=0)))).bind fun b14=>bif b14 then (some false) else (bif decide (a0.Kind=5) then ((bif decide ((a0.Slots.length:Int)=2) then ((aM a0.Slots 0).bind fun x18=>(dF N x18 7).bind fun y19=>some y19) else (some false)).bind fun b17=>(bif b17 then ((aM a0.Slots 1).bind fun x21=>(dF N x21 7).bind fun y22=>some y22) else (some false)).bind fun b20=>some b20) else (some (decide ((a0.Slots.length:Int)=0))))))
theorem Ga {N:Nat}{a0:SD}{r:Bool}(h:gT N a0=some r):Okc Tryz.prog 202 [.agg #[iV a0.Kind,iV a0.Shape,iV a0.Flags,iV a0.Age,O A1 n1 c1,O A2 n2 c2]] ([bo A1 n1 c1 a0.Slots,bo A2 n2 c2 a0.More]) (fun u post=>u=.bool r∧post=[]):=by
 refine bz Tryz.func202 U U ?_;simp only [aR];refine D ?_;refine gD (bd U U) ?_;rintro _ _ ⟨B3,rfl,rfl⟩;refine D ?_;refine az ?_;refine D ?_;obtain ⟨y4,hy4,h⟩:=aa h;refine gD (ak (Gb hy4) OE U (ad) Dp) ?_;rintro _ _ ⟨_,⟨rfl,rfl⟩,rfl⟩;refine D ?_;obtain ⟨b5,hb5,h⟩:=aa h;refine aE 10 16 b5 ?_ ?_
 ·clear h;refine aB 6 U (fun g5=> ?_) (fun g5=> ?_)
  ·have h:=ae g5 hb5;refine D ?_;obtain rfl:=ao h;exact ab sA (cS [0,1,2] 3)
  have h:=ag g5 hb5;refine D ?_;obtain ⟨b6,hb6,h⟩:=aa h;refine aE 5 15 b6 ?_ ?_
  ·clear h;refine aB 10 U (fun g6=> ?_) (fun g6=> ?_)
   ·have h:=ae g6 hb6;refine D ?_;refine bM (aK 1 U aj U Sn) U (aS g6 U) U ?_;refine D ?_;obtain rfl:=ao h;exact ab sA (cS [0,1,2] 3)
   have h:=ag g6 hb6;refine D ?_;obtain rfl:=ao h;exact ab sA (cS [0,1,2] 3)
  refine D ?_;obtain rfl:=ao h;exact ab sA (cS [0,1,2] 3)
 refine D ?_;refine av U (fun g7=> ?_) (fun g7=> ?_)
 ·replace h:=ae g7 h;refine D ?_;refine gR (aK 1 U aj U Sn) ?_;refine D ?_;obtain ⟨b8,hb8,h⟩:=aa h;refine aE 5 26 b8 ?_ ?_
  ·clear h;refine aB 21 U (fun g8=> ?_) (fun g8=> ?_)
   ·have h:=ae g8 hb8;refine D ?_;refine bM (aK 1 U aj U Sn) U (aS g8 U) U ?_;refine D ?_;obtain rfl:=ao h;exact ab sA (cS [0,1,2] 3)
   have h:=ag g8 hb8;refine D ?_;obtain rfl:=ao h;exact ab sA (cS [0,1,2] 3)
  refine D ?_;obtain ⟨b9,hb9,h⟩:=aa h;refine aE 15 42 b9 ?_ ?_
  ·clear h;refine aB 27 U (fun g9=> ?_) (fun g9=> ?_)
   ·have h:=ae g9 hb9;refine D ?_;obtain ⟨x10,hx10,h⟩:=aa h;obtain ⟨lx10,ux10,hx10⟩:=aq hx10;refine bM (aH 1 U aj U U Sn aP lx10 ux10) U (aS g9 U) U ?_;refine bM (mH 1 U aj U (bx lx10 ux10) fR) U (aS g9 U) U ?_;refine bM (aT (u:=iV x10.Kind) 1 U aj U hx10 cX (fun _ _ _ h=>by rw [show _=_ from h];rfl)) U (aS g9 U) U ?_;refine D ?_;obtain ⟨b11,hb11,h⟩:=aa h;refine aE 7 41 b11 ?_ ?_
    ·clear h;refine aB 34 U (fun g11=> ?_) (fun g11=> ?_)
     ·have h:=ae g11 hb11;refine D ?_;obtain rfl:=ao h;exact ab sA (cS [0,1,2] 3)
     have h:=ag g11 hb11;refine D ?_;obtain ⟨x12,hx12,h⟩:=aa h;obtain ⟨lx12,ux12,hx12⟩:=aq hx12;refine bM (aH 1 U aj U U Sn aP lx12 ux12) U (cu g11 U) U ?_;refine bM (mH 1 U aj U (bx lx12 ux12) fR) U (cu g11 U) U ?_;refine bM (aT (u:=iV x12.Kind) 1 U aj U hx12 cX (fun _ _ _ h=>by rw [show _=_ from h];rfl)) U (cu g11 U) U ?_;refine D ?_;obtain rfl:=ao h;exact ab sA (cS [0,1,2] 3)
    refine D ?_;obtain rfl:=ao h;exact ab sA (cS [0,1,2] 3)
   have h:=ag g9 hb9;refine D ?_;obtain rfl:=ao h;exact ab sA (cS [0,1,2] 3)
  refine D ?_;obtain rfl:=ao h;exact aD U U (cS [] 3) ⟨U,U⟩
 replace h:=ag g7 h;refine D ?_;refine az ?_;refine D ?_;refine av U (fun g13=> ?_) (fun g13=> ?_)
 ·replace h:=ae g13 h;refine D ?_;obtain rfl:=ao h;exact aD U U (cS [] 3) ⟨U,U⟩
 replace h:=ag g13 h;refine D ?_;refine az ?_;refine D ?_;obtain ⟨b14,hb14,h⟩:=aa h;refine aE 4 56 b14 ?_ ?_
 ·clear h;refine aB 52 U (fun g14=> ?_) (fun g14=> ?_)
  ·have h:=ae g14 hb14;refine D ?_;obtain rfl:=ao h;exact ab sA (cS [0,1,2] 3)
  have h:=ag g14 hb14;refine D ?_;obtain rfl:=ao h;exact ab sA (cS [0,1,2] 3)
 refine D ?_;refine av U (fun g15=> ?_) (fun g15=> ?_)
 ·replace h:=ae g15 h;refine D ?_;obtain rfl:=ao h;exact aD U U (cS [] 3) ⟨U,U⟩
 replace h:=ag g15 h;refine D ?_;refine az ?_;refine D ?_;refine av U (fun g16=> ?_) (fun g16=> ?_)
 ·replace h:=ae g16 h;refine D ?_;refine gR (aK 1 U aj U Sn) ?_;refine D ?_;obtain ⟨b17,hb17,h⟩:=aa h;refine aE 6 70 b17 ?_ ?_
  ·clear h;refine aB 64 U (fun g17=> ?_) (fun g17=> ?_)
   ·have h:=ae g17 hb17;refine D ?_;obtain ⟨x18,hx18,h⟩:=aa h;obtain ⟨lx18,ux18,hx18⟩:=aq hx18;refine bM (aH 1 U aj U U Sn aP lx18 ux18) U (aS g17 U) U ?_;refine bM (bm (us:=[iV x18.Kind,iV x18.N,.string x18.S]) 1 U aj U hx18 bY (fun _ _ _ h=>by rw [show _=_ from h];rfl)) U (aS g17 U) U ?_;obtain ⟨y19,hy19,h⟩:=aa h;refine ca (ak (nD hy19) wU U (ad) kP) U (aS g17 U) U ?_;rintro _ _ ⟨_,⟨rfl,rfl⟩,rfl⟩;refine D ?_;obtain rfl:=ao h;exact ab sA (cS [0,1,2] 3)
   have h:=ag g17 hb17;refine D ?_;obtain rfl:=ao h;exact ab sA (cS [0,1,2] 3)
  refine D ?_;obtain ⟨b20,hb20,h⟩:=aa h;refine aE 6 77 b20 ?_ ?_
  ·clear h;refine aB 71 U (fun g20=> ?_) (fun g20=> ?_)
   ·have h:=ae g20 hb20;refine D ?_;obtain ⟨x21,hx21,h⟩:=aa h;obtain ⟨lx21,ux21,hx21⟩:=aq hx21;refine bM (aH 1 U aj U U Sn aP lx21 ux21) U (aS g20 U) U ?_;refine bM (bm (us:=[iV x21.Kind,iV x21.N,.string x21.S]) 1 U aj U hx21 bY (fun _ _ _ h=>by rw [show _=_ from h];rfl)) U (aS g20 U) U ?_;obtain ⟨y22,hy22,h⟩:=aa h;refine ca (ak (nD hy22) wU U (ad) kP) U (aS g20 U) U ?_;rintro _ _ ⟨_,⟨rfl,rfl⟩,rfl⟩;refine D ?_;obtain rfl:=ao h;exact ab sA (cS [0,1,2] 3)
   have h:=ag g20 hb20;refine D ?_;obtain rfl:=ao h;exact ab sA (cS [0,1,2] 3)
  refine D ?_;obtain rfl:=ao h;exact aD U U (cS [] 3) ⟨U,U⟩
 replace h:=ag g16 h;refine D ?_;refine gR (aK 1 U aj U Sn) ?_;refine D ?_;obtain rfl:=ao h;exact aD U U (cS [] 3) ⟨U,U⟩
theorem Dn {r:Bool}: ∀v post,((fun (u:Value) (post:List Chunk)=>u=.bool r∧post=[])) v post→ ∀c∈post,cn c:=by
 rintro _ _ ⟨rfl,rfl⟩;exact ad
def fH (N:Nat)(a0:SG)(a1:Int)(a2:Int):Option Bool:=
 (bif decide (a0.Kind=3) then (some (decide (a1≤a0.N))) else (some false)).bind fun b2=>(bif b2 then (some (decide (a0.N≤a2))) else (some false)).bind fun b3=>some b3
theorem oR {N:Nat}{a0:SG}{a1:Int}{a2:Int}{r:Bool}(h:fH N a0 a1 a2=some r):Okc Tryz.prog 244 [.agg #[iV a0.Kind,iV a0.N,.string a0.S],iV a1,iV a2] ([]) (fun u post=>u=.bool r∧post=[]):=by
 refine bz Tryz.func244 U U ?_;simp only [aR];refine D ?_;refine gD (bd U U) ?_;rintro _ _ ⟨B1,rfl,rfl⟩;refine D ?_;obtain ⟨b2,hb2,h⟩:=aa h;refine aE 5 15 b2 ?_ ?_
 ·clear h;refine aB 10 U (fun g2=> ?_) (fun g2=> ?_)
  ·have h:=ae g2 hb2;refine D ?_;obtain rfl:=ao h;exact ab sA (cS [0] 1)
  have h:=ag g2 hb2;refine D ?_;obtain rfl:=ao h;exact ab sA (cS [0] 1)
 refine D ?_;obtain ⟨b3,hb3,h⟩:=aa h;refine aE 5 21 b3 ?_ ?_
 ·clear h;refine aB 16 U (fun g3=> ?_) (fun g3=> ?_)
  ·have h:=ae g3 hb3;refine D ?_;obtain rfl:=ao h;exact ab sA (cS [0] 1)
  have h:=ag g3 hb3;refine D ?_;obtain rfl:=ao h;exact ab sA (cS [0] 1)
 refine D ?_;obtain rfl:=ao h;exact aD U U (cS [] 1) ⟨U,U⟩
theorem mj {r:Bool}: ∀v post,((fun (u:Value) (post:List Chunk)=>u=.bool r∧post=[])) v post→ ∀c∈post,cn c:=by
 rintro _ _ ⟨rfl,rfl⟩;exact ad
def vH (N:Nat):Option Bool:=
 some true
def fg (N:Nat)(a1:Int)(a0:(List SG)):Nat→Int→Option Bool
 |0,_=>none
 |m5+1,p6=>bif decide (p6<(a0.length:Int)) then ((aM a0 p6).bind fun x8=>(bif !decide (x8.Kind=7) then (some true) else (bG (in64 (p6+1)) ((aM a0 (p6+1)).bind fun x11=>some (decide (x11.Kind=8))))).bind fun b9=>bif b9 then (some false) else ((bif decide (a1=4) then (bG (in64 (p6+2)) ((aM a0 (p6+2)).bind fun x15=>(dF N x15 7).bind fun y16=>(bif !y16 then (some true) else (bG (in64 (p6+3)) ((aM a0 (p6+3)).bind fun x19=>(fH N x19 0 9007199254740992).bind fun y20=>some (!y20)))).bind fun b17=>some b17)) else (some false)).bind fun b13=>bif b13 then (some false) else (bG (in64 (p6+a1)) ((fg N a1 a0 m5) (p6+a1))))) else (vH N)
def di (N:Nat)(a0:(List SG))(a1:Int):Option Bool:=
 bG (a1≠0) (bif !decide ((a0.length:Int).tmod a1=0) then (some false) else (fg N a1 a0 N 0))
theorem vG {N:Nat}{a0:(List SG)}{a1:Int}{r:Bool}(h:di N a0 a1=some r):Okc Tryz.prog 245 [O A1 n1 c1,iV a1] ([bo A1 n1 c1 a0]) (fun u post=>u=.bool r∧post=[]):=by
 refine bz Tryz.func245 U U ?_;simp only [aR];refine D ?_;refine az ?_;refine D ?_;refine gR (aK 0 U aj U Sn) ?_;refine D ?_;obtain ⟨q2,h⟩:=ap h;refine gE (lY U U q2) ?_;refine D ?_;refine av U (fun g3=> ?_) (fun g3=> ?_)
 ·replace h:=ae g3 h;refine D ?_;obtain rfl:=ao h;exact aD U U (cS [] 1) ⟨U,U⟩
 replace h:=ag g3 h;refine D ?_;refine aO (fun s L=>vH N=some r∧s=[(4,.bool false)]∧L=[]) ?_ ?_
 ·refine D ?_;refine bp (fun m s L=> ∃p6,fg N a1 a0 m p6=some r∧s=[(0,O A1 n1 c1),(1,iV a1),(4,.bool false),(5,iV p6)]∧L=[bo A1 n1 c1 a0]) N _ _ ⟨0,h,U,U⟩ sA (cS [0] 1) ?_;rintro (_|m5) _ _ ⟨p6,h,rfl,rfl⟩
  ·exact aC h
  rw [fg.eq_2] at h;refine az ?_;refine D ?_;refine gR (aK 0 U aj U Sn) ?_;refine D ?_;refine av U (fun g7=> ?_) (fun g7=> ?_)
  ·replace h:=ae g7 h;refine D ?_;refine az ?_;refine iE ?_;refine az ?_;refine D ?_;obtain ⟨x8,hx8,h⟩:=aa h;obtain ⟨lx8,ux8,hx8⟩:=aq hx8;refine gR (aH 0 U aj U U Sn aP lx8 ux8) ?_;refine gR (mH 0 U aj U (bx lx8 ux8) fR) ?_;refine gR (aT (u:=iV x8.Kind) 0 U aj U hx8 cX (fun _ _ _ h=>by rw [show _=_ from h];rfl)) ?_;refine D ?_;obtain ⟨b9,hb9,h⟩:=aa h;refine aE 8 32 b9 ?_ ?_
   ·clear h;refine aB 24 U (fun g9=> ?_) (fun g9=> ?_)
    ·have h:=ae g9 hb9;refine D ?_;obtain rfl:=ao h;exact ab sA (cS [0] 1)
    have h:=ag g9 hb9;refine D ?_;obtain ⟨q10,h⟩:=ap h;refine pN (aU U U q10.1 q10.2) U (cu g9 U) U ?_;obtain ⟨x11,hx11,h⟩:=aa h;obtain ⟨lx11,ux11,hx11⟩:=aq hx11;refine bM (aH 0 U aj U U Sn aP lx11 ux11) U (cu g9 U) U ?_;refine bM (mH 0 U aj U (bx lx11 ux11) fR) U (cu g9 U) U ?_;refine bM (aT (u:=iV x11.Kind) 0 U aj U hx11 cX (fun _ _ _ h=>by rw [show _=_ from h];rfl)) U (cu g9 U) U ?_;refine D ?_;obtain rfl:=ao h;exact ab sA (cS [0] 1)
   refine D ?_;refine av U (fun g12=> ?_) (fun g12=> ?_)
   ·replace h:=ae g12 h;refine D ?_;obtain rfl:=ao h;exact aD U U (cS [] 1) ⟨U,U⟩
   replace h:=ag g12 h;refine D ?_;obtain ⟨b13,hb13,h⟩:=aa h;refine aE 17 52 b13 ?_ ?_
   ·clear h;refine aB 35 U (fun g13=> ?_) (fun g13=> ?_)
    ·have h:=ae g13 hb13;refine D ?_;obtain ⟨q14,h⟩:=ap h;refine pN (aU U U q14.1 q14.2) U (aS g13 U) U ?_;obtain ⟨x15,hx15,h⟩:=aa h;obtain ⟨lx15,ux15,hx15⟩:=aq hx15;refine bM (aH 0 U aj U U Sn aP lx15 ux15) U (aS g13 U) U ?_;refine bM (bm (us:=[iV x15.Kind,iV x15.N,.string x15.S]) 0 U aj U hx15 bY (fun _ _ _ h=>by rw [show _=_ from h];rfl)) U (aS g13 U) U ?_;obtain ⟨y16,hy16,h⟩:=aa h;refine ca (ak (nD hy16) wU U (ad) kP) U (aS g13 U) U ?_;rintro _ _ ⟨_,⟨rfl,rfl⟩,rfl⟩;refine D ?_;obtain ⟨b17,hb17,h⟩:=aa h;refine aE 8 51 b17 ?_ ?_
     ·clear h;refine aB 43 U (fun g17=> ?_) (fun g17=> ?_)
      ·have h:=ae g17 hb17;refine D ?_;obtain rfl:=ao h;exact ab sA (cS [0] 1)
      have h:=ag g17 hb17;refine D ?_;obtain ⟨q18,h⟩:=ap h;refine pN (aU U U q18.1 q18.2) U (cu g17 U) U ?_;obtain ⟨x19,hx19,h⟩:=aa h;obtain ⟨lx19,ux19,hx19⟩:=aq hx19;refine bM (aH 0 U aj U U Sn aP lx19 ux19) U (cu g17 U) U ?_;refine bM (bm (us:=[iV x19.Kind,iV x19.N,.string x19.S]) 0 U aj U hx19 bY (fun _ _ _ h=>by rw [show _=_ from h];rfl)) U (cu g17 U) U ?_;obtain ⟨y20,hy20,h⟩:=aa h;refine ca (ak (oR hy20) wT U (ad) mj) U (cu g17 U) U ?_;rintro _ _ ⟨_,⟨rfl,rfl⟩,rfl⟩;refine D ?_;obtain rfl:=ao h;exact ab sA (cS [0] 1)
     refine D ?_;obtain rfl:=ao h;exact ab sA (cS [0] 1)
    have h:=ag g13 hb13;refine D ?_;obtain rfl:=ao h;exact ab sA (cS [0] 1)
   refine D ?_;refine av U (fun g21=> ?_) (fun g21=> ?_)
   ·replace h:=ae g21 h;refine D ?_;obtain rfl:=ao h;exact aD U U (cS [] 1) ⟨U,U⟩
   replace h:=ag g21 h;refine D ?_;obtain ⟨q22,h⟩:=ap h;refine gE (aU U U q22.1 q22.2) ?_;refine D ?_;exact ⟨m5,_,_,SP _,⟨p6+a1,h,U,U⟩,sA,cS [0] 1⟩
  replace h:=ag g7 h;refine D ?_;exact ⟨_,_,⟨h,U,U⟩,sA,cS [] 1⟩
 rintro _ _ ⟨h,rfl,rfl⟩;refine D ?_;obtain rfl:=ao h;exact aD U U (cS [] 0) ⟨U,U⟩
theorem tv {r:Bool}: ∀v post,((fun (u:Value) (post:List Chunk)=>u=.bool r∧post=[])) v post→ ∀c∈post,cn c:=by
 rintro _ _ ⟨rfl,rfl⟩;exact ad
def iU (N:Nat)(a0:SD)(p7:Bool):Option Bool:=
 bif p7 then (some (decide ((a0.More.length:Int)=0))) else (bif decide (a0.Kind=3) then ((bif decide ((a0.More.length:Int)=3) then ((aM a0.More 0).bind fun x12=>(fH N x12 0 9007199254740992).bind fun y13=>some y13) else (some false)).bind fun b11=>(bif b11 then ((aM a0.More 1).bind fun x15=>(dF N x15 9).bind fun y16=>some y16) else (some false)).bind fun b14=>some b14) else (bif decide (a0.Kind=4) then ((bif decide (1≤(a0.More.length:Int)) then (some (decide ((a0.More.length:Int)≤4097))) else (some false)).bind fun b18=>(bif b18 then ((aM a0.More 0).bind fun x20=>(dF N x20 9).bind fun y21=>some y21) else (some false)).bind fun b19=>some b19) else (bif decide (a0.Kind=6) then ((bif decide ((a0.More.length:Int)=2) then ((aM a0.More 0).bind fun x24=>(fH N x24 0 3).bind fun y25=>some y25) else (some false)).bind fun b23=>(bif b23 then ((aM a0.More 1).bind fun x27=>(dF N x27 9).bind fun y28=>some y28) else (some false)).bind fun b26=>some b26) else (bif decide (a0.Kind=7) then ((bif decide (4≤(a0.More.length:Int)) then ((aM a0.More 2).bind fun x31=>(fH N x31 0 1).bind fun y32=>some y32) else (some false)).bind fun b30=>(bif b30 then ((aM a0.More 3).bind fun x34=>(fH N x34 0 9007199254740992).bind fun y35=>some y35) else (some false)).bind fun b33=>some b33) else (bif decide (a0.Kind=8) then ((di N a0.More 2).bind fun y37=>some y37) else (bif decide (a0.Kind=10) then ((bif decide (1≤(a0.More.length:Int)) then ((aM a0.More 0).bind fun x40=>some (decide (x40.Kind=7))) else (some false)).bind fun b39=>(bif b39 then (bG ((0:Int)≤1∧(1:Int).toNat≤a0.More.length∧a0.More.length≤a0.More.length) ((di N ((a0.More.drop ((1:Int).toNat)).take (a0.More.length - (1:Int).toNat)) 4).bind fun y44=>some y44)) else (some false)).bind fun b41=>some b41) else (bif decide (a0.Kind=9) then ((bif decide (2≤(a0.More.length:Int)) then ((aM a0.More 0).bind fun x47=>(fH N x47 0 2).bind fun y48=>some y48) else (some false)).bind fun b46=>some b46) else (some true))))))))
def jk (N:Nat)(a0:SD):Option Bool:=
 bif decide (1048576<(a0.More.length:Int)) then (some false) else (bif decide (a0.Kind=2) then (some (decide ((a0.More.length:Int)≤4096))) else (bif decide (a0.Kind=1) then (iU N a0 (decide (a0.Kind=1))) else (iU N a0 (decide (a0.Kind=5)))))
set_option maxHeartbeats 4000000 in
theorem Hl {N:Nat}{a0:SD}{r:Bool}(h:jk N a0=some r):Okc Tryz.prog 203 [.agg #[iV a0.Kind,iV a0.Shape,iV a0.Flags,iV a0.Age,O A1 n1 c1,O A2 n2 c2]] ([bo A1 n1 c1 a0.Slots,bo A2 n2 c2 a0.More]) (fun u post=>u=.bool r∧post=[]):=by
 refine bz Tryz.func203 U U ?_;simp only [aR];refine D ?_;refine gD (bd U U) ?_;rintro _ _ ⟨B3,rfl,rfl⟩;refine D ?_;refine az ?_;refine D ?_;refine gR (aK 2 U aj U Sn) ?_;refine D ?_;refine av U (fun g4=> ?_) (fun g4=> ?_)
 ·replace h:=ae g4 h;refine D ?_;obtain rfl:=ao h;exact aD U U (cS [] 3) ⟨U,U⟩
 replace h:=ag g4 h;refine D ?_;refine az ?_;refine D ?_;refine av U (fun g5=> ?_) (fun g5=> ?_)
 ·replace h:=ae g5 h;refine D ?_;refine gR (aK 2 U aj U Sn) ?_;refine D ?_;obtain rfl:=ao h;exact aD U U (cS [] 3) ⟨U,U⟩
 replace h:=ag g5 h;refine aO (fun s L=> ∃p7,iU N a0 p7=some r∧s=[(2,.bool false),(3,O A2 n2 c2),(10,iV a0.Kind),(16,.bool p7)]∧L=[bo A2 n2 c2 a0.More]) ?_ ?_
 ·refine D ?_;refine av U (fun g8=> ?_) (fun g8=> ?_)
  ·replace h:=ae g8 h;refine D ?_;exact ⟨_,_,⟨decide (a0.Kind=1),h,U,U⟩,sA,cS [2] 3⟩
  replace h:=ag g8 h;refine D ?_;exact ⟨_,_,⟨decide (a0.Kind=5),h,U,U⟩,sA,cS [2] 3⟩
 rintro _ _ ⟨p7,h,rfl,rfl⟩;refine av U (fun g9=> ?_) (fun g9=> ?_)
 ·replace h:=ae g9 h;refine D ?_;refine gR (aK 0 U aj U Sn) ?_;refine D ?_;obtain rfl:=ao h;exact aD U U (cS [] 1) ⟨U,U⟩
 replace h:=ag g9 h;refine D ?_;refine av U (fun g10=> ?_) (fun g10=> ?_)
 ·replace h:=ae g10 h;refine D ?_;refine gR (aK 0 U aj U Sn) ?_;refine D ?_;obtain ⟨b11,hb11,h⟩:=aa h;refine aE 5 32 b11 ?_ ?_
  ·clear h;refine aB 27 U (fun g11=> ?_) (fun g11=> ?_)
   ·have h:=ae g11 hb11;refine D ?_;obtain ⟨x12,hx12,h⟩:=aa h;obtain ⟨lx12,ux12,hx12⟩:=aq hx12;refine bM (aH 0 U aj U U Sn aP lx12 ux12) U (aS g11 U) U ?_;refine bM (bm (us:=[iV x12.Kind,iV x12.N,.string x12.S]) 0 U aj U hx12 bY (fun _ _ _ h=>by rw [show _=_ from h];rfl)) U (aS g11 U) U ?_;obtain ⟨y13,hy13,h⟩:=aa h;refine ca (ak (oR hy13) wT U (ad) mj) U (aS g11 U) U ?_;rintro _ _ ⟨_,⟨rfl,rfl⟩,rfl⟩;refine D ?_;obtain rfl:=ao h;exact ab sA (cS [0] 1)
   have h:=ag g11 hb11;refine D ?_;obtain rfl:=ao h;exact ab sA (cS [0] 1)
  refine D ?_;obtain ⟨b14,hb14,h⟩:=aa h;refine aE 5 38 b14 ?_ ?_
  ·clear h;refine aB 33 U (fun g14=> ?_) (fun g14=> ?_)
   ·have h:=ae g14 hb14;refine D ?_;obtain ⟨x15,hx15,h⟩:=aa h;obtain ⟨lx15,ux15,hx15⟩:=aq hx15;refine bM (aH 0 U aj U U Sn aP lx15 ux15) U (aS g14 U) U ?_;refine bM (bm (us:=[iV x15.Kind,iV x15.N,.string x15.S]) 0 U aj U hx15 bY (fun _ _ _ h=>by rw [show _=_ from h];rfl)) U (aS g14 U) U ?_;obtain ⟨y16,hy16,h⟩:=aa h;refine ca (ak (nD hy16) wU U (ad) kP) U (aS g14 U) U ?_;rintro _ _ ⟨_,⟨rfl,rfl⟩,rfl⟩;refine D ?_;obtain rfl:=ao h;exact ab sA (cS [0] 1)
   have h:=ag g14 hb14;refine D ?_;obtain rfl:=ao h;exact ab sA (cS [0] 1)
  refine D ?_;obtain rfl:=ao h;exact aD U U (cS [] 1) ⟨U,U⟩
 replace h:=ag g10 h;refine D ?_;refine av U (fun g17=> ?_) (fun g17=> ?_)
 ·replace h:=ae g17 h;refine D ?_;refine gR (aK 0 U aj U Sn) ?_;refine D ?_;obtain ⟨b18,hb18,h⟩:=aa h;refine aE 4 48 b18 ?_ ?_
  ·clear h;refine aB 44 U (fun g18=> ?_) (fun g18=> ?_)
   ·have h:=ae g18 hb18;refine D ?_;refine bM (aK 0 U aj U Sn) U (aS g18 U) U ?_;refine D ?_;obtain rfl:=ao h;exact ab sA (cS [0] 1)
   have h:=ag g18 hb18;refine D ?_;obtain rfl:=ao h;exact ab sA (cS [0] 1)
  refine D ?_;obtain ⟨b19,hb19,h⟩:=aa h;refine aE 5 54 b19 ?_ ?_
  ·clear h;refine aB 49 U (fun g19=> ?_) (fun g19=> ?_)
   ·have h:=ae g19 hb19;refine D ?_;obtain ⟨x20,hx20,h⟩:=aa h;obtain ⟨lx20,ux20,hx20⟩:=aq hx20;refine bM (aH 0 U aj U U Sn aP lx20 ux20) U (aS g19 U) U ?_;refine bM (bm (us:=[iV x20.Kind,iV x20.N,.string x20.S]) 0 U aj U hx20 bY (fun _ _ _ h=>by rw [show _=_ from h];rfl)) U (aS g19 U) U ?_;obtain ⟨y21,hy21,h⟩:=aa h;refine ca (ak (nD hy21) wU U (ad) kP) U (aS g19 U) U ?_;rintro _ _ ⟨_,⟨rfl,rfl⟩,rfl⟩;refine D ?_;obtain rfl:=ao h;exact ab sA (cS [0] 1)
   have h:=ag g19 hb19;refine D ?_;obtain rfl:=ao h;exact ab sA (cS [0] 1)
  refine D ?_;obtain rfl:=ao h;exact aD U U (cS [] 1) ⟨U,U⟩
 replace h:=ag g17 h;refine D ?_;refine av U (fun g22=> ?_) (fun g22=> ?_)
 ·replace h:=ae g22 h;refine D ?_;refine gR (aK 0 U aj U Sn) ?_;refine D ?_;obtain ⟨b23,hb23,h⟩:=aa h;refine aE 5 65 b23 ?_ ?_
  ·clear h;refine aB 60 U (fun g23=> ?_) (fun g23=> ?_)
   ·have h:=ae g23 hb23;refine D ?_;obtain ⟨x24,hx24,h⟩:=aa h;obtain ⟨lx24,ux24,hx24⟩:=aq hx24;refine bM (aH 0 U aj U U Sn aP lx24 ux24) U (aS g23 U) U ?_;refine bM (bm (us:=[iV x24.Kind,iV x24.N,.string x24.S]) 0 U aj U hx24 bY (fun _ _ _ h=>by rw [show _=_ from h];rfl)) U (aS g23 U) U ?_;obtain ⟨y25,hy25,h⟩:=aa h;refine ca (ak (oR hy25) wT U (ad) mj) U (aS g23 U) U ?_;rintro _ _ ⟨_,⟨rfl,rfl⟩,rfl⟩;refine D ?_;obtain rfl:=ao h;exact ab sA (cS [0] 1)
   have h:=ag g23 hb23;refine D ?_;obtain rfl:=ao h;exact ab sA (cS [0] 1)
  refine D ?_;obtain ⟨b26,hb26,h⟩:=aa h;refine aE 5 71 b26 ?_ ?_
  ·clear h;refine aB 66 U (fun g26=> ?_) (fun g26=> ?_)
   ·have h:=ae g26 hb26;refine D ?_;obtain ⟨x27,hx27,h⟩:=aa h;obtain ⟨lx27,ux27,hx27⟩:=aq hx27;refine bM (aH 0 U aj U U Sn aP lx27 ux27) U (aS g26 U) U ?_;refine bM (bm (us:=[iV x27.Kind,iV x27.N,.string x27.S]) 0 U aj U hx27 bY (fun _ _ _ h=>by rw [show _=_ from h];rfl)) U (aS g26 U) U ?_;obtain ⟨y28,hy28,h⟩:=aa h;refine ca (ak (nD hy28) wU U (ad) kP) U (aS g26 U) U ?_;rintro _ _ ⟨_,⟨rfl,rfl⟩,rfl⟩;refine D ?_;obtain rfl:=ao h;exact ab sA (cS [0] 1)
   have h:=ag g26 hb26;refine D ?_;obtain rfl:=ao h;exact ab sA (cS [0] 1)
  refine D ?_;obtain rfl:=ao h;exact aD U U (cS [] 1) ⟨U,U⟩
 replace h:=ag g22 h;refine D ?_;refine av U (fun g29=> ?_) (fun g29=> ?_)
 ·replace h:=ae g29 h;refine D ?_;refine gR (aK 0 U aj U Sn) ?_;refine D ?_;obtain ⟨b30,hb30,h⟩:=aa h;refine aE 5 82 b30 ?_ ?_
  ·clear h;refine aB 77 U (fun g30=> ?_) (fun g30=> ?_)
   ·have h:=ae g30 hb30;refine D ?_;obtain ⟨x31,hx31,h⟩:=aa h;obtain ⟨lx31,ux31,hx31⟩:=aq hx31;refine bM (aH 0 U aj U U Sn aP lx31 ux31) U (aS g30 U) U ?_;refine bM (bm (us:=[iV x31.Kind,iV x31.N,.string x31.S]) 0 U aj U hx31 bY (fun _ _ _ h=>by rw [show _=_ from h];rfl)) U (aS g30 U) U ?_;obtain ⟨y32,hy32,h⟩:=aa h;refine ca (ak (oR hy32) wT U (ad) mj) U (aS g30 U) U ?_;rintro _ _ ⟨_,⟨rfl,rfl⟩,rfl⟩;refine D ?_;obtain rfl:=ao h;exact ab sA (cS [0] 1)
   have h:=ag g30 hb30;refine D ?_;obtain rfl:=ao h;exact ab sA (cS [0] 1)
  refine D ?_;obtain ⟨b33,hb33,h⟩:=aa h;refine aE 5 88 b33 ?_ ?_
  ·clear h;refine aB 83 U (fun g33=> ?_) (fun g33=> ?_)
   ·have h:=ae g33 hb33;refine D ?_;obtain ⟨x34,hx34,h⟩:=aa h;obtain ⟨lx34,ux34,hx34⟩:=aq hx34;refine bM (aH 0 U aj U U Sn aP lx34 ux34) U (aS g33 U) U ?_;refine bM (bm (us:=[iV x34.Kind,iV x34.N,.string x34.S]) 0 U aj U hx34 bY (fun _ _ _ h=>by rw [show _=_ from h];rfl)) U (aS g33 U) U ?_;obtain ⟨y35,hy35,h⟩:=aa h;refine ca (ak (oR hy35) wT U (ad) mj) U (aS g33 U) U ?_;rintro _ _ ⟨_,⟨rfl,rfl⟩,rfl⟩;refine D ?_;obtain rfl:=ao h;exact ab sA (cS [0] 1)
   have h:=ag g33 hb33;refine D ?_;obtain rfl:=ao h;exact ab sA (cS [0] 1)
  refine D ?_;obtain rfl:=ao h;exact aD U U (cS [] 1) ⟨U,U⟩
 replace h:=ag g29 h;refine D ?_;refine av U (fun g36=> ?_) (fun g36=> ?_)
 ·replace h:=ae g36 h;refine D ?_;obtain ⟨y37,hy37,h⟩:=aa h;refine gD (ak (vG hy37) JH U (Ex (ac (i:=0) U U) ad) tv) ?_;rintro _ _ ⟨_,⟨rfl,rfl⟩,rfl⟩;refine D ?_;obtain rfl:=ao h;exact aD U U (cS [] 1) ⟨U,U⟩
 replace h:=ag g36 h;refine D ?_;refine av U (fun g38=> ?_) (fun g38=> ?_)
 ·replace h:=ae g38 h;refine D ?_;refine gR (aK 0 U aj U Sn) ?_;refine D ?_;obtain ⟨b39,hb39,h⟩:=aa h;refine aE 6 104 b39 ?_ ?_
  ·clear h;refine aB 98 U (fun g39=> ?_) (fun g39=> ?_)
   ·have h:=ae g39 hb39;refine D ?_;obtain ⟨x40,hx40,h⟩:=aa h;obtain ⟨lx40,ux40,hx40⟩:=aq hx40;refine bM (aH 0 U aj U U Sn aP lx40 ux40) U (aS g39 U) U ?_;refine bM (mH 0 U aj U (bx lx40 ux40) fR) U (aS g39 U) U ?_;refine bM (aT (u:=iV x40.Kind) 0 U aj U hx40 cX (fun _ _ _ h=>by rw [show _=_ from h];rfl)) U (aS g39 U) U ?_;refine D ?_;obtain rfl:=ao h;exact ab sA (cS [0] 1)
   have h:=ag g39 hb39;refine D ?_;obtain rfl:=ao h;exact ab sA (cS [0] 1)
  refine D ?_;obtain ⟨b41,hb41,h⟩:=aa h;refine aE 4 109 b41 ?_ ?_
  ·clear h;refine aB 105 U (fun g41=> ?_) (fun g41=> ?_)
   ·have h:=ae g41 hb41;refine D ?_;obtain ⟨q42,h⟩:=ap h;refine NP 0 U (l:=(1:Int).toNat) (h:=a0.More.length) q42.2.1 q42.2.2 ?_;rintro A43 n43 c43 e43;refine bM (yQ 1 U e43 U Sn aP U (by rw [Int.toNat_of_nonneg q42.1];rfl) q42.2.1) U (aS g41 U) U ?_;obtain ⟨y44,hy44,h⟩:=aa h;refine ca (ak (vG hy44) JH U (Ex (ac (i:=0) U U) ad) tv) U (aS g41 U) U ?_;rintro _ _ ⟨_,⟨rfl,rfl⟩,rfl⟩;refine D ?_;obtain rfl:=ao h;exact ab sA (cS [1] 2)
   have h:=ag g41 hb41;refine D ?_;obtain rfl:=ao h;exact ab sA (cS [0] 1)
  refine D ?_;obtain rfl:=ao h;exact aD U U (cS [] 1) ⟨U,U⟩
 replace h:=ag g38 h;refine D ?_;refine av U (fun g45=> ?_) (fun g45=> ?_)
 ·replace h:=ae g45 h;refine D ?_;refine gR (aK 0 U aj U Sn) ?_;refine D ?_;obtain ⟨b46,hb46,h⟩:=aa h;refine aE 5 120 b46 ?_ ?_
  ·clear h;refine aB 115 U (fun g46=> ?_) (fun g46=> ?_)
   ·have h:=ae g46 hb46;refine D ?_;obtain ⟨x47,hx47,h⟩:=aa h;obtain ⟨lx47,ux47,hx47⟩:=aq hx47;refine bM (aH 0 U aj U U Sn aP lx47 ux47) U (aS g46 U) U ?_;refine bM (bm (us:=[iV x47.Kind,iV x47.N,.string x47.S]) 0 U aj U hx47 bY (fun _ _ _ h=>by rw [show _=_ from h];rfl)) U (aS g46 U) U ?_;obtain ⟨y48,hy48,h⟩:=aa h;refine ca (ak (oR hy48) wT U (ad) mj) U (aS g46 U) U ?_;rintro _ _ ⟨_,⟨rfl,rfl⟩,rfl⟩;refine D ?_;obtain rfl:=ao h;exact ab sA (cS [0] 1)
   have h:=ag g46 hb46;refine D ?_;obtain rfl:=ao h;exact ab sA (cS [0] 1)
  refine D ?_;obtain rfl:=ao h;exact aD U U (cS [] 1) ⟨U,U⟩
 replace h:=ag g45 h;refine D ?_;obtain rfl:=ao h;exact aD U U (cS [] 1) ⟨U,U⟩
theorem EC {r:Bool}: ∀v post,((fun (u:Value) (post:List Chunk)=>u=.bool r∧post=[])) v post→ ∀c∈post,cn c:=by
 rintro _ _ ⟨rfl,rfl⟩;exact ad
def dj (N:Nat)(a0:SD):Option Bool:=
 (gT N a0).bind fun y27=>(bif y27 then ((jk N a0).bind fun y29=>some y29) else (some false)).bind fun b28=>some b28
def kQ (N:Nat)(a0:SD):Nat→Int→Option Bool
 |0,_=>none
 |m20+1,p21=>bif decide (p21<(a0.More.length:Int)) then ((aM a0.More p21).bind fun x23=>(ib N x23).bind fun y24=>bif !y24 then (some false) else (bG (in64 (p21+1)) ((kQ N a0 m20) (p21+1)))) else (dj N a0)
def sR (N:Nat)(a0:SD):Option Bool:=
 kQ N a0 N 0
def fN (N:Nat)(a0:SD):Nat→Int→Option Bool
 |0,_=>none
 |m12+1,p13=>bif decide (p13<(a0.Slots.length:Int)) then ((aM a0.Slots p13).bind fun x15=>(ib N x15).bind fun y16=>bif !y16 then (some false) else (bG (in64 (p13+1)) ((fN N a0 m12) (p13+1)))) else (sR N a0)
def cY (N:Nat)(a0:SD):Option Bool:=
 (bif decide (a0.Kind<1) then (some true) else (some (decide (11<a0.Kind)))).bind fun b4=>(bif b4 then (some true) else (some (decide (a0.Shape<0)))).bind fun b5=>(bif b5 then (some true) else (some (decide (a0.Flags<0)))).bind fun b6=>(bif b6 then (some true) else (some (decide (63<a0.Flags)))).bind fun b7=>(bif b7 then (some true) else (some (decide (a0.Age<0)))).bind fun b8=>(bif b8 then (some true) else (some (decide (1<a0.Age)))).bind fun b9=>bif b9 then (some false) else (fN N a0 N 0)
theorem ub {N:Nat}{a0:SD}{r:Bool}(h:cY N a0=some r):Okc Tryz.prog 130 [.agg #[iV a0.Kind,iV a0.Shape,iV a0.Flags,iV a0.Age,O A1 n1 c1,O A2 n2 c2]] ([bo A1 n1 c1 a0.Slots,bo A2 n2 c2 a0.More]) (fun u post=>u=.bool r∧post=[]):=by
 refine bz Tryz.func130 U U ?_;simp only [aR];refine D ?_;refine gD (bd U U) ?_;rintro _ _ ⟨B3,rfl,rfl⟩;refine D ?_;refine az ?_;refine D ?_;obtain ⟨b4,hb4,h⟩:=aa h;refine aE 4 12 b4 ?_ ?_
 ·clear h;refine aB 8 U (fun g4=> ?_) (fun g4=> ?_)
  ·have h:=ae g4 hb4;refine D ?_;obtain rfl:=ao h;exact ab sA (cS [0,1,2] 3)
  have h:=ag g4 hb4;refine D ?_;obtain rfl:=ao h;exact ab sA (cS [0,1,2] 3)
 refine D ?_;obtain ⟨b5,hb5,h⟩:=aa h;refine aE 4 17 b5 ?_ ?_
 ·clear h;refine aB 13 U (fun g5=> ?_) (fun g5=> ?_)
  ·have h:=ae g5 hb5;refine D ?_;obtain rfl:=ao h;exact ab sA (cS [0,1,2] 3)
  have h:=ag g5 hb5;refine D ?_;obtain rfl:=ao h;exact ab sA (cS [0,1,2] 3)
 refine D ?_;obtain ⟨b6,hb6,h⟩:=aa h;refine aE 4 22 b6 ?_ ?_
 ·clear h;refine aB 18 U (fun g6=> ?_) (fun g6=> ?_)
  ·have h:=ae g6 hb6;refine D ?_;obtain rfl:=ao h;exact ab sA (cS [0,1,2] 3)
  have h:=ag g6 hb6;refine D ?_;obtain rfl:=ao h;exact ab sA (cS [0,1,2] 3)
 refine D ?_;obtain ⟨b7,hb7,h⟩:=aa h;refine aE 4 27 b7 ?_ ?_
 ·clear h;refine aB 23 U (fun g7=> ?_) (fun g7=> ?_)
  ·have h:=ae g7 hb7;refine D ?_;obtain rfl:=ao h;exact ab sA (cS [0,1,2] 3)
  have h:=ag g7 hb7;refine D ?_;obtain rfl:=ao h;exact ab sA (cS [0,1,2] 3)
 refine D ?_;obtain ⟨b8,hb8,h⟩:=aa h;refine aE 4 32 b8 ?_ ?_
 ·clear h;refine aB 28 U (fun g8=> ?_) (fun g8=> ?_)
  ·have h:=ae g8 hb8;refine D ?_;obtain rfl:=ao h;exact ab sA (cS [0,1,2] 3)
  have h:=ag g8 hb8;refine D ?_;obtain rfl:=ao h;exact ab sA (cS [0,1,2] 3)
 refine D ?_;obtain ⟨b9,hb9,h⟩:=aa h;refine aE 4 37 b9 ?_ ?_
 ·clear h;refine aB 33 U (fun g9=> ?_) (fun g9=> ?_)
  ·have h:=ae g9 hb9;refine D ?_;obtain rfl:=ao h;exact ab sA (cS [0,1,2] 3)
  have h:=ag g9 hb9;refine D ?_;obtain rfl:=ao h;exact ab sA (cS [0,1,2] 3)
 refine D ?_;refine av U (fun g10=> ?_) (fun g10=> ?_)
 ·replace h:=ae g10 h;refine D ?_;obtain rfl:=ao h;exact aD U U (cS [] 3) ⟨U,U⟩
 replace h:=ag g10 h;refine D ?_;refine aO (fun s L=>sR N a0=some r∧s=[(1,pV B3 0),(2,.bool false)]∧L=[bo A1 n1 c1 a0.Slots,bo A2 n2 c2 a0.More,ax B3 47 [iV a0.Kind,iV a0.Shape,iV a0.Flags,iV a0.Age,O A1 n1 c1,O A2 n2 c2]]) ?_ ?_
 ·refine D ?_;refine bp (fun m s L=> ∃p13,fN N a0 m p13=some r∧s=[(1,pV B3 0),(2,.bool false),(3,iV p13)]∧L=[bo A1 n1 c1 a0.Slots,bo A2 n2 c2 a0.More,ax B3 47 [iV a0.Kind,iV a0.Shape,iV a0.Flags,iV a0.Age,O A1 n1 c1,O A2 n2 c2]]) N _ _ ⟨0,h,U,U⟩ sA (cS [1,2,0] 3) ?_;rintro (_|m12) _ _ ⟨p13,h,rfl,rfl⟩
  ·exact aC h
  rw [fN.eq_2] at h;refine az ?_;refine D ?_;refine gR (aK 0 U aj U Sn) ?_;refine D ?_;refine av U (fun g14=> ?_) (fun g14=> ?_)
  ·replace h:=ae g14 h;refine D ?_;refine az ?_;refine D ?_;obtain ⟨x15,hx15,h⟩:=aa h;obtain ⟨lx15,ux15,hx15⟩:=aq hx15;refine gR (aH 0 U aj U U Sn aP lx15 ux15) ?_;refine gR (bm (us:=[iV x15.Kind,iV x15.N,.string x15.S]) 0 U aj U hx15 bY (fun _ _ _ h=>by rw [show _=_ from h];rfl)) ?_;obtain ⟨y16,hy16,h⟩:=aa h;refine gD (ak (Dq hy16) JR U (ad) zd) ?_;rintro _ _ ⟨_,⟨rfl,rfl⟩,rfl⟩;refine D ?_;refine av U (fun g17=> ?_) (fun g17=> ?_)
   ·replace h:=ae g17 h;refine D ?_;obtain rfl:=ao h;exact aD U U (cS [] 3) ⟨U,U⟩
   replace h:=ag g17 h;refine D ?_;obtain ⟨q18,h⟩:=ap h;refine gE (aU U U q18.1 q18.2) ?_;refine D ?_;exact ⟨m12,_,_,SP _,⟨p13+1,h,U,U⟩,sA,cS [0,1,2] 3⟩
  replace h:=ag g14 h;refine D ?_;exact ⟨_,_,⟨h,U,U⟩,sA,cS [0,1,2] 3⟩
 rintro _ _ ⟨h,rfl,rfl⟩;refine aO (fun s L=>dj N a0=some r∧s=[(1,pV B3 0),(2,.bool false)]∧L=[bo A1 n1 c1 a0.Slots,bo A2 n2 c2 a0.More,ax B3 47 [iV a0.Kind,iV a0.Shape,iV a0.Flags,iV a0.Age,O A1 n1 c1,O A2 n2 c2]]) ?_ ?_
 ·refine D ?_;refine bp (fun m s L=> ∃p21,kQ N a0 m p21=some r∧s=[(1,pV B3 0),(2,.bool false),(4,iV p21)]∧L=[bo A1 n1 c1 a0.Slots,bo A2 n2 c2 a0.More,ax B3 47 [iV a0.Kind,iV a0.Shape,iV a0.Flags,iV a0.Age,O A1 n1 c1,O A2 n2 c2]]) N _ _ ⟨0,h,U,U⟩ sA (cS [0,1,2] 3) ?_;rintro (_|m20) _ _ ⟨p21,h,rfl,rfl⟩
  ·exact aC h
  rw [kQ.eq_2] at h;refine az ?_;refine D ?_;refine gR (aK 1 U aj U Sn) ?_;refine D ?_;refine av U (fun g22=> ?_) (fun g22=> ?_)
  ·replace h:=ae g22 h;refine D ?_;refine az ?_;refine D ?_;obtain ⟨x23,hx23,h⟩:=aa h;obtain ⟨lx23,ux23,hx23⟩:=aq hx23;refine gR (aH 1 U aj U U Sn aP lx23 ux23) ?_;refine gR (bm (us:=[iV x23.Kind,iV x23.N,.string x23.S]) 1 U aj U hx23 bY (fun _ _ _ h=>by rw [show _=_ from h];rfl)) ?_;obtain ⟨y24,hy24,h⟩:=aa h;refine gD (ak (Dq hy24) JR U (ad) zd) ?_;rintro _ _ ⟨_,⟨rfl,rfl⟩,rfl⟩;refine D ?_;refine av U (fun g25=> ?_) (fun g25=> ?_)
   ·replace h:=ae g25 h;refine D ?_;obtain rfl:=ao h;exact aD U U (cS [] 3) ⟨U,U⟩
   replace h:=ag g25 h;refine D ?_;obtain ⟨q26,h⟩:=ap h;refine gE (aU U U q26.1 q26.2) ?_;refine D ?_;exact ⟨m20,_,_,SP _,⟨p21+1,h,U,U⟩,sA,cS [0,1,2] 3⟩
  replace h:=ag g22 h;refine D ?_;exact ⟨_,_,⟨h,U,U⟩,sA,cS [0,1,2] 3⟩
 rintro _ _ ⟨h,rfl,rfl⟩;refine D ?_;refine gR (aA (us:=[iV a0.Kind,iV a0.Shape,iV a0.Flags,iV a0.Age,O A1 n1 c1,O A2 n2 c2]) 2 U U bh U) ?_;obtain ⟨y27,hy27,h⟩:=aa h;refine gD (ak (Ga hy27) OQ U (Ex (ac (i:=0) U U) (Ex (ac (i:=1) U U) ad)) Dn) ?_;rintro _ _ ⟨_,⟨rfl,rfl⟩,rfl⟩;refine D ?_;obtain ⟨b28,hb28,h⟩:=aa h;refine aE 3 71 b28 ?_ ?_
 ·clear h;refine aB 68 U (fun g28=> ?_) (fun g28=> ?_)
  ·have h:=ae g28 hb28;refine bM (aA (us:=[iV a0.Kind,iV a0.Shape,iV a0.Flags,iV a0.Age,O A1 n1 c1,O A2 n2 c2]) 2 U U bh U) U (aS g28 U) U ?_;obtain ⟨y29,hy29,h⟩:=aa h;refine ca (ak (Hl hy29) OP U (Ex (ac (i:=0) U U) (Ex (ac (i:=1) U U) ad)) EC) U (aS g28 U) U ?_;rintro _ _ ⟨_,⟨rfl,rfl⟩,rfl⟩;refine D ?_;obtain rfl:=ao h;exact ab sA (cS [0,1,2] 3)
  have h:=ag g28 hb28;refine D ?_;obtain rfl:=ao h;exact ab sA (cS [0,1,2] 3)
 refine D ?_;obtain rfl:=ao h;exact aD U U (cS [] 3) ⟨U,U⟩
theorem qZ {r:Bool}: ∀v post,((fun (u:Value) (post:List Chunk)=>u=.bool r∧post=[])) v post→ ∀c∈post,cn c:=by
 rintro _ _ ⟨rfl,rfl⟩;exact ad
def yX (N:Nat)(p4:(List SD)):Option (List SD):=
 some p4
def o8 (N:Nat)(kb5:(List SD)→Int→Option (List SD))(p7:Int)(a0:(List SD))(p6:(List SD))(x9:SD)(p15:(List SG)):Option (List SD):=
 bG (bZ (p6.length+([(⟨x9.Kind,x9.Shape,x9.Flags,x9.Age,x9.Slots,p15⟩:SD)]:List SD).length)) (bG (in64 (p7+1)) (kb5 (p6++([(⟨x9.Kind,x9.Shape,x9.Flags,x9.Age,x9.Slots,p15⟩:SD)]:List SD)) (p7+1)))
def iS (N:Nat)(a0:(List SD)):Nat→(List SD)→Int→Option (List SD)
 |0,_,_=>none
 |m5+1,p6,p7=>bif decide (p7<(a0.length:Int)) then ((aM a0 p7).bind fun x9=>(bif decide (x9.Kind=10) then ((cY N x9).bind fun y17=>some y17) else (some false)).bind fun b16=>bif b16 then (bG ((0:Int)≤1∧0≤(1:Int).toNat∧(1:Int).toNat≤x9.More.length) (o8 N (iS N a0 m5) p7 a0 p6 x9 ((x9.More.drop 0).take ((1:Int).toNat - 0)))) else (o8 N (iS N a0 m5) p7 a0 p6 x9 x9.More)) else (yX N p6)
def pz (N:Nat)(a0:(List SD)):Option (List SD):=
 iS N a0 N ([]:List SD) 0
theorem yW {N:Nat}{a0:(List SD)}{r:(List SD)}(h:pz N a0=some r):Okc Tryz.prog 166 [O A1 n1 c1] ([bC A1 n1 c1 a0]) (fun u post=> ∃A0 n0 c0,u=O A0 n0 c0∧post=[cI A0 n0 c0 r]):=by
 refine bz Tryz.func166 U U ?_;simp only [aR];refine D ?_;refine gD (bw (R:=du) (vss:=[]) (xs:=[]) U (Ny) U U (fun _ _ hr=>All2.nil)) ?_;rintro _ _ ⟨A2,n2,c2,rfl,rfl⟩;refine D ?_;refine aO (fun s L=> ∃p4 A4 n4 c4,yX N p4=some r∧s=[(2,O none 0 0),(3,O A4 n4 c4)]∧L=[cI A4 n4 c4 p4]) ?_ ?_
 ·refine D ?_;refine bp (fun m s L=> ∃p6 p7 A6 n6 c6,iS N a0 m p6 p7=some r∧s=[(0,O A1 n1 c1),(2,O none 0 0),(3,O A6 n6 c6),(4,iV p7)]∧L=[bC A1 n1 c1 a0,cI A6 n6 c6 p6]) N _ _ ⟨([]:List SD),0,A2,n2,c2,h,U,U⟩ sA (cS [1,0] 2) ?_;rintro (_|m5) _ _ ⟨p6,p7,A6,n6,c6,h,rfl,rfl⟩
  ·exact aC h
  rw [iS.eq_2] at h;refine az ?_;refine D ?_;refine gR (aK 0 U aj U Sr) ?_;refine D ?_;refine av U (fun g8=> ?_) (fun g8=> ?_)
  ·replace h:=ae g8 h;refine D ?_;refine az ?_;refine D ?_;obtain ⟨x9,hx9,h⟩:=aa h;obtain ⟨lx9,ux9,hx9⟩:=aq hx9;refine gR (aH 0 U aj U U Sr bF lx9 ux9) ?_;refine sE 0 U hx9 (dR x9) ?_;rintro _ _ ⟨A10,n10,c10,A11,n11,c11,rfl,rfl⟩;refine gR (li (us:=[iV x9.Kind,iV x9.Shape,iV x9.Flags,iV x9.Age,O A10 n10 c10,O A11 n11 c11]) 0 U U bh U) ?_;refine gD (aN dI U) ?_;rintro _ _ ⟨B13,rfl,rfl⟩;refine gO (au (us:=[iV x9.Kind,iV x9.Shape,iV x9.Flags,iV x9.Age,O A10 n10 c10,O A11 n11 c11]) (cs':=[iV x9.Kind,iV x9.Shape,iV x9.Flags,iV x9.Age,O A10 n10 c10,O A11 n11 c11]) 0 U U U U bF U U U) ?_;rintro _ _ rfl;refine D ?_;refine aO (fun s L=> ∃p15 A15 n15 c15,o8 N (iS N a0 m5) p7 a0 p6 x9 p15=some r∧s=[(0,O A1 n1 c1),(2,O none 0 0),(3,O A6 n6 c6),(4,iV p7),(5,pV B13 0)]∧L=[bC A1 n1 c1 a0,cI A6 n6 c6 p6,bo A10 n10 c10 x9.Slots,bo A15 n15 c15 p15,ax B13 47 [iV x9.Kind,iV x9.Shape,iV x9.Flags,iV x9.Age,O A10 n10 c10,O A15 n15 c15]]) ?_ ?_
   ·refine D ?_;obtain ⟨b16,hb16,h⟩:=aa h;refine aE 3 23 b16 ?_ ?_
    ·clear h;refine aB 20 U (fun g16=> ?_) (fun g16=> ?_)
     ·have h:=ae g16 hb16;refine bM (aA (us:=[iV x9.Kind,iV x9.Shape,iV x9.Flags,iV x9.Age,O A10 n10 c10,O A11 n11 c11]) 0 U U bh U) U (aS g16 U) U ?_;obtain ⟨y17,hy17,h⟩:=aa h;refine ca (ak (ub hy17) GO U (Ex (ac (i:=2) U U) (Ex (ac (i:=3) U U) ad)) qZ) U (aS g16 U) U ?_;rintro _ _ ⟨_,⟨rfl,rfl⟩,rfl⟩;refine D ?_;obtain rfl:=ao h;exact ab sA (cS [0,1,2,3,4,5] 6)
     have h:=ag g16 hb16;refine D ?_;obtain rfl:=ao h;exact ab sA (cS [0,1,2,3,4,5] 6)
    refine D ?_;refine av U (fun g18=> ?_) (fun g18=> ?_)
    ·replace h:=ae g18 h;refine D ?_;obtain ⟨q19,h⟩:=ap h;refine NP 3 U (l:=0) (h:=(1:Int).toNat) q19.2.1 q19.2.2 ?_;rintro A20 n20 c20 e20;refine gR (Ir 4 U e20 U Sn aP U U (by rw [Int.toNat_of_nonneg q19.1];rfl) q19.2.1 q19.2.2) ?_;refine D ?_;refine gO (au (us:=[O A20 n20 c20]) (cs':=[iV x9.Kind,iV x9.Shape,iV x9.Flags,iV x9.Age,O A10 n10 c10,O A20 n20 c20]) 1 U U U U dA U U U) ?_;rintro _ _ rfl;refine D ?_;exact ⟨_,_,⟨(x9.More.drop 0).take ((1:Int).toNat - 0),A20,n20,c20,h,U,U⟩,sA,cS [5,6,3,0,1] 7⟩
    replace h:=ag g18 h;refine D ?_;exact ⟨_,_,⟨x9.More,A11,n11,c11,h,U,U⟩,sA,cS [4,5,2,3,0] 6⟩
   rintro _ _ ⟨p15,A15,n15,c15,h,rfl,rfl⟩;refine D ?_;refine gR (aA (us:=[iV x9.Kind,iV x9.Shape,iV x9.Flags,iV x9.Age,O A10 n10 c10,O A15 n15 c15]) 4 U U bh U) ?_;refine gD (bw (R:=du) (vss:=[[iV x9.Kind,iV x9.Shape,iV x9.Flags,iV x9.Age,O A10 n10 c10,O A15 n15 c15]]) (xs:=[(⟨x9.Kind,x9.Shape,x9.Flags,x9.Age,x9.Slots,p15⟩:SD)]) U (rM _ _ _ _ _ _ _ _ _ _) U U (fun _ _ hr=> .cons (⟨_,_,_,_,_,_,U,hr 2 _ U U,hr 3 _ U U⟩) All2.nil)) ?_;rintro _ _ ⟨A21,n21,c21,rfl,rfl⟩;obtain ⟨q22,h⟩:=ap h;refine gD (bj 2 0 U U aF U U Sr Er U U q22) ?_;rintro _ _ ⟨A23,n23,c23,rfl,rfl⟩;refine cN ?_;refine D ?_;obtain ⟨q24,h⟩:=ap h;refine gE (aU U U q24.1 q24.2) ?_;refine D ?_;exact ⟨m5,_,_,SP _,⟨p6++([(⟨x9.Kind,x9.Shape,x9.Flags,x9.Age,x9.Slots,p15⟩:SD)]:List SD),p7+1,A23,n23,c23,h,U,U⟩,sA,cS [1,2] 6⟩
  replace h:=ag g8 h;refine D ?_;exact ⟨_,_,⟨p6,A6,n6,c6,h,U,U⟩,sA,cS [1] 2⟩
 rintro _ _ ⟨p4,A4,n4,c4,h,rfl,rfl⟩;refine D ?_;obtain rfl:=ao h;exact aD U U (cS [0] 1) ⟨_,_,_,U,U⟩
def tt (N:Nat)(p4:(List Int)):Option (List Int):=
 some p4
def mg (N:Nat)(kb5:(List Int)→Int→Option (List Int))(p7:Int)(a0:(List SG))(p10:(List Int)):Option (List Int):=
 bG (in64 (p7+1)) (kb5 p10 (p7+1))
def eM (N:Nat)(a0:(List SG)):Nat→(List Int)→Int→Option (List Int)
 |0,_,_=>none
 |m5+1,p6,p7=>bif decide (p7<(a0.length:Int)) then ((aM a0 p7).bind fun x11=>(bif decide (x11.Kind=7) then (some true) else ((aM a0 p7).bind fun x13=>some (decide (x13.Kind=9)))).bind fun b12=>bif b12 then ((aM a0 p7).bind fun x15=>bG (bZ (p6.length+([x15.N]:List Int).length)) (mg N (eM N a0 m5) p7 a0 (p6++([x15.N]:List Int)))) else (mg N (eM N a0 m5) p7 a0 p6)) else (tt N p6)
def gu (N:Nat)(a0:(List SG)):Option (List Int):=
 eM N a0 N ([]:List Int) 0
theorem AI {N:Nat}{a0:(List SG)}{r:(List Int)}(h:gu N a0=some r):Okc Tryz.prog 100 [O A1 n1 c1] ([bo A1 n1 c1 a0]) (fun u post=> ∃A0 n0 c0,u=O A0 n0 c0∧post=[dl A0 n0 c0 r]):=by
 refine bz Tryz.func100 U U ?_;simp only [aR];refine D ?_;refine gD (bw (R:=(fW .i64)) (vss:=[]) (xs:=[]) U (NA) U U (fun _ _ hr=>All2.nil)) ?_;rintro _ _ ⟨A2,n2,c2,rfl,rfl⟩;refine D ?_;refine aO (fun s L=> ∃p4 A4 n4 c4,tt N p4=some r∧s=[(2,O none 0 0),(3,O A4 n4 c4)]∧L=[dl A4 n4 c4 p4]) ?_ ?_
 ·refine D ?_;refine bp (fun m s L=> ∃p6 p7 A6 n6 c6,eM N a0 m p6 p7=some r∧s=[(0,O A1 n1 c1),(2,O none 0 0),(3,O A6 n6 c6),(4,iV p7)]∧L=[bo A1 n1 c1 a0,dl A6 n6 c6 p6]) N _ _ ⟨([]:List Int),0,A2,n2,c2,h,U,U⟩ sA (cS [1,0] 2) ?_;rintro (_|m5) _ _ ⟨p6,p7,A6,n6,c6,h,rfl,rfl⟩
  ·exact aC h
  rw [eM.eq_2] at h;refine az ?_;refine D ?_;refine gR (aK 0 U aj U Sn) ?_;refine D ?_;refine av U (fun g8=> ?_) (fun g8=> ?_)
  ·replace h:=ae g8 h;refine D ?_;refine aO (fun s L=> ∃p10 A10 n10 c10,mg N (eM N a0 m5) p7 a0 p10=some r∧s=[(0,O A1 n1 c1),(2,O none 0 0),(3,O A10 n10 c10),(4,iV p7)]∧L=[bo A1 n1 c1 a0,dl A10 n10 c10 p10]) ?_ ?_
   ·refine D ?_;obtain ⟨x11,hx11,h⟩:=aa h;obtain ⟨lx11,ux11,hx11⟩:=aq hx11;refine gR (aH 0 U aj U U Sn aP lx11 ux11) ?_;refine gR (mH 0 U aj U (bx lx11 ux11) fR) ?_;refine gR (aT (u:=iV x11.Kind) 0 U aj U hx11 cX (fun _ _ _ h=>by rw [show _=_ from h];rfl)) ?_;refine D ?_;obtain ⟨b12,hb12,h⟩:=aa h;refine aE 7 25 b12 ?_ ?_
    ·clear h;refine aB 18 U (fun g12=> ?_) (fun g12=> ?_)
     ·have h:=ae g12 hb12;refine D ?_;obtain rfl:=ao h;exact ab sA (cS [0,1] 2)
     have h:=ag g12 hb12;refine D ?_;obtain ⟨x13,hx13,h⟩:=aa h;obtain ⟨lx13,ux13,hx13⟩:=aq hx13;refine bM (aH 0 U aj U U Sn aP lx13 ux13) U (cu g12 U) U ?_;refine bM (mH 0 U aj U (bx lx13 ux13) fR) U (cu g12 U) U ?_;refine bM (aT (u:=iV x13.Kind) 0 U aj U hx13 cX (fun _ _ _ h=>by rw [show _=_ from h];rfl)) U (cu g12 U) U ?_;refine D ?_;obtain rfl:=ao h;exact ab sA (cS [0,1] 2)
    refine D ?_;refine av U (fun g14=> ?_) (fun g14=> ?_)
    ·replace h:=ae g14 h;refine D ?_;obtain ⟨x15,hx15,h⟩:=aa h;obtain ⟨lx15,ux15,hx15⟩:=aq hx15;refine gR (aH 0 U aj U U Sn aP lx15 ux15) ?_;refine gR (nU 0 U aj U (bx lx15 ux15) jB) ?_;refine gR (aT (u:=iV x15.N) 0 U aj U hx15 cX (fun _ _ _ h=>by rw [show _=_ from h];rfl)) ?_;refine gD (bw (R:=(fW .i64)) (vss:=[[iV x15.N]]) (xs:=[x15.N]) U (iy _) U U (fun _ _ hr=> .cons U All2.nil)) ?_;rintro _ _ ⟨A16,n16,c16,rfl,rfl⟩;obtain ⟨q17,h⟩:=ap h;refine gD (bj 2 0 U U aF U U Sg Es U U q17) ?_;rintro _ _ ⟨A18,n18,c18,rfl,rfl⟩;refine D ?_;exact ⟨_,_,⟨p6++([x15.N]:List Int),A18,n18,c18,h,U,U⟩,sA,cS [1,2] 3⟩
    replace h:=ag g14 h;refine D ?_;exact ⟨_,_,⟨p6,A6,n6,c6,h,U,U⟩,sA,cS [0,1] 2⟩
   rintro _ _ ⟨p10,A10,n10,c10,h,rfl,rfl⟩;refine D ?_;obtain ⟨q19,h⟩:=ap h;refine gE (aU U U q19.1 q19.2) ?_;refine D ?_;exact ⟨m5,_,_,SP _,⟨p10,p7+1,A10,n10,c10,h,U,U⟩,sA,cS [0,1] 2⟩
  replace h:=ag g8 h;refine D ?_;exact ⟨_,_,⟨p6,A6,n6,c6,h,U,U⟩,sA,cS [1] 2⟩
 rintro _ _ ⟨p4,A4,n4,c4,h,rfl,rfl⟩;refine D ?_;obtain rfl:=ao h;exact aD U U (cS [0] 1) ⟨_,_,_,U,U⟩
theorem yb {r:(List Int)}: ∀v post,((fun (u:Value) (post:List Chunk)=> ∃A0 n0 c0,u=O A0 n0 c0∧post=[dl A0 n0 c0 r])) v post→ ∀c∈post,cn c:=by
 rintro _ _ ⟨_,_,_,rfl,rfl⟩;exact Ex bJ (ad)
def mh (N:Nat)(a0:SB)(a1:Int):Option Bool:=
 bif decide (a1<1) then (some false) else (bif decide (a1.tmod 2=1) then (bG (in64 (a1 - 1)) (bG (in64 ((a1 - 1).tdiv 2)) (some (decide ((a1 - 1).tdiv 2<(a0.Young.length:Int)))))) else (bG (in64 (a1 - 2)) (bG (in64 ((a1 - 2).tdiv 2)) (some (decide ((a1 - 2).tdiv 2<(a0.Old.length:Int)))))))
theorem qX {N:Nat}{a0:SB}{a1:Int}{r:Bool}(h:mh N a0 a1=some r):Okc Tryz.prog 28 [.agg #[O A1 n1 c1,O A2 n2 c2],iV a1] ([bC A1 n1 c1 a0.Young,bC A2 n2 c2 a0.Old]) (fun u post=>u=.bool r∧post=[]):=by
 refine bz Tryz.func28 U U ?_;simp only [aR];refine D ?_;refine gD (bd U U) ?_;rintro _ _ ⟨B3,rfl,rfl⟩;refine D ?_;refine az ?_;refine D ?_;refine av U (fun g4=> ?_) (fun g4=> ?_)
 ·replace h:=ae g4 h;refine D ?_;obtain rfl:=ao h;exact aD U U (cS [] 3) ⟨U,U⟩
 replace h:=ag g4 h;refine D ?_;refine az ?_;refine D ?_;refine gE (lY U U (by decide)) ?_;refine D ?_;refine av U (fun g5=> ?_) (fun g5=> ?_)
 ·replace h:=ae g5 h;refine D ?_;obtain ⟨q6,h⟩:=ap h;refine gE (kZ U U q6.1 q6.2) ?_;obtain ⟨q7,h⟩:=ap h;refine gE (rx U U (by decide) q7.1 q7.2) ?_;refine D ?_;refine gR (aK 1 U aj U Sr) ?_;refine D ?_;obtain rfl:=ao h;exact aD U U (cS [] 3) ⟨U,U⟩
 replace h:=ag g5 h;refine D ?_;obtain ⟨q8,h⟩:=ap h;refine gE (kZ U U q8.1 q8.2) ?_;obtain ⟨q9,h⟩:=ap h;refine gE (rx U U (by decide) q9.1 q9.2) ?_;refine D ?_;refine gR (aK 2 U aj U Sr) ?_;refine D ?_;obtain rfl:=ao h;exact aD U U (cS [] 3) ⟨U,U⟩
theorem nW {r:Bool}: ∀v post,((fun (u:Value) (post:List Chunk)=>u=.bool r∧post=[])) v post→ ∀c∈post,cn c:=by
 rintro _ _ ⟨rfl,rfl⟩;exact ad
def EY (N:Nat):Option Bool:=
 some false
def wE (N:Nat)(a1:Int)(a0:(List Int)):Nat→Int→Option Bool
 |0,_=>none
 |m3+1,p4=>bif decide (p4<(a0.length:Int)) then ((aM a0 p4).bind fun x6=>bif decide (x6=a1) then (some true) else (bG (in64 (p4+1)) ((wE N a1 a0 m3) (p4+1)))) else (EY N)
def zb (N:Nat)(a0:(List Int))(a1:Int):Option Bool:=
 wE N a1 a0 N 0
theorem KG {N:Nat}{a0:(List Int)}{a1:Int}{r:Bool}(h:zb N a0 a1=some r):Okc Tryz.prog 178 [O A1 n1 c1,iV a1] ([dw A1 n1 c1 a0]) (fun u post=>u=.bool r∧post=[]):=by
 refine bz Tryz.func178 U U ?_;simp only [aR];refine D ?_;refine aO (fun s L=>EY N=some r∧s=[(4,.bool false)]∧L=[]) ?_ ?_
 ·refine D ?_;refine bp (fun m s L=> ∃p4,wE N a1 a0 m p4=some r∧s=[(0,O A1 n1 c1),(1,iV a1),(4,.bool false),(5,iV p4)]∧L=[dw A1 n1 c1 a0]) N _ _ ⟨0,h,U,U⟩ sA (cS [0] 1) ?_;rintro (_|m3) _ _ ⟨p4,h,rfl,rfl⟩
  ·exact aC h
  rw [wE.eq_2] at h;refine az ?_;refine D ?_;refine gR (aK 0 U aj U Sg) ?_;refine D ?_;refine av U (fun g5=> ?_) (fun g5=> ?_)
  ·replace h:=ae g5 h;refine D ?_;refine az ?_;refine D ?_;obtain ⟨x6,hx6,h⟩:=aa h;obtain ⟨lx6,ux6,hx6⟩:=aq hx6;refine gR (aH 0 U aj U U Sg dp lx6 ux6) ?_;refine gR (aT (u:=iV x6) 0 U aj U hx6 cX (fun _ _ _ h=>by rw [show _=_ from h];rfl)) ?_;refine D ?_;refine av U (fun g7=> ?_) (fun g7=> ?_)
   ·replace h:=ae g7 h;refine D ?_;obtain rfl:=ao h;exact aD U U (cS [] 1) ⟨U,U⟩
   replace h:=ag g7 h;refine D ?_;obtain ⟨q8,h⟩:=ap h;refine gE (aU U U q8.1 q8.2) ?_;refine D ?_;exact ⟨m3,_,_,SP _,⟨p4+1,h,U,U⟩,sA,cS [0] 1⟩
  replace h:=ag g5 h;refine D ?_;exact ⟨_,_,⟨h,U,U⟩,sA,cS [] 1⟩
 rintro _ _ ⟨h,rfl,rfl⟩;refine D ?_;obtain rfl:=ao h;exact aD U U (cS [] 0) ⟨U,U⟩
theorem Hi {r:Bool}: ∀v post,((fun (u:Value) (post:List Chunk)=>u=.bool r∧post=[])) v post→ ∀c∈post,cn c:=by
 rintro _ _ ⟨rfl,rfl⟩;exact ad
def De (N:Nat)(p7:(List Int)):Option (List Int):=
 some p7
def sb (N:Nat)(kb8:(List Int)→Int→Option (List Int))(p10:Int)(a2:(List Int))(a0:SB)(p13:(List Int)):Option (List Int):=
 bG (in64 (p10+1)) (kb8 p13 (p10+1))
def lI (N:Nat)(a2:(List Int))(a0:SB):Nat→(List Int)→Int→Option (List Int)
 |0,_,_=>none
 |m8+1,p9,p10=>bif decide (p10<(a2.length:Int)) then ((aM a2 p10).bind fun x14=>(mh N a0 x14).bind fun y15=>(bif y15 then ((aM a2 p10).bind fun x17=>(zb N p9 x17).bind fun y18=>some (!y18)) else (some false)).bind fun b16=>bif b16 then ((aM a2 p10).bind fun x20=>bG (bZ (p9.length+([x20]:List Int).length)) (sb N (lI N a2 a0 m8) p10 a2 a0 (p9++([x20]:List Int)))) else (sb N (lI N a2 a0 m8) p10 a2 a0 p9)) else (De N p9)
def nz (N:Nat)(a0:SB)(a1:(List Int))(a2:(List Int)):Option (List Int):=
 lI N a2 a0 N a1 0
theorem ya {N:Nat}{a0:SB}{a1:(List Int)}{a2:(List Int)}{r:(List Int)}(h:nz N a0 a1 a2=some r):Okc Tryz.prog 106 [.agg #[O A1 n1 c1,O A2 n2 c2],O A3 n3 c3,O A4 n4 c4] ([bC A1 n1 c1 a0.Young,bC A2 n2 c2 a0.Old,dw A4 n4 c4 a2,dl A3 n3 c3 a1]) (fun u post=> ∃A0 n0 c0,u=O A0 n0 c0∧post=[dl A0 n0 c0 r]):=by
 refine bz Tryz.func106 U U ?_;simp only [aR];refine D ?_;refine gD (bd U U) ?_;rintro _ _ ⟨B5,rfl,rfl⟩;refine D ?_;refine aO (fun s L=> ∃p7 A7 n7 c7,De N p7=some r∧s=[(1,O A7 n7 c7),(6,O none 0 0)]∧L=[dl A7 n7 c7 p7]) ?_ ?_
 ·refine D ?_;refine bp (fun m s L=> ∃p9 p10 A9 n9 c9,lI N a2 a0 m p9 p10=some r∧s=[(1,O A9 n9 c9),(2,O A4 n4 c4),(3,pV B5 0),(6,O none 0 0),(7,iV p10)]∧L=[dl A9 n9 c9 p9,dw A4 n4 c4 a2,bC A1 n1 c1 a0.Young,bC A2 n2 c2 a0.Old,ax B5 36 [O A1 n1 c1,O A2 n2 c2]]) N _ _ ⟨a1,0,A3,n3,c3,h,U,U⟩ sA (cS [4,3,1,2,0] 5) ?_;rintro (_|m8) _ _ ⟨p9,p10,A9,n9,c9,h,rfl,rfl⟩
  ·exact aC h
  rw [lI.eq_2] at h;refine az ?_;refine D ?_;refine gR (aK 1 U aj U Sg) ?_;refine D ?_;refine av U (fun g11=> ?_) (fun g11=> ?_)
  ·replace h:=ae g11 h;refine D ?_;refine aO (fun s L=> ∃p13 A13 n13 c13,sb N (lI N a2 a0 m8) p10 a2 a0 p13=some r∧s=[(1,O A13 n13 c13),(2,O A4 n4 c4),(3,pV B5 0),(6,O none 0 0),(7,iV p10)]∧L=[dl A13 n13 c13 p13,dw A4 n4 c4 a2,bC A1 n1 c1 a0.Young,bC A2 n2 c2 a0.Old,ax B5 36 [O A1 n1 c1,O A2 n2 c2]]) ?_ ?_
   ·refine iE ?_;refine az ?_;refine cv Y _ (ah _) ?_;refine zR 0 U (aA (us:=[O A1 n1 c1,O A2 n2 c2]) 4 U U cU U) ?_;refine zE 1 U (ay U) ?_;refine zE 2 U (ay U) ?_;obtain ⟨x14,hx14,h⟩:=aa h;obtain ⟨lx14,ux14,hx14⟩:=aq hx14;refine zR 3 U (aH 1 U aj U U Sg dp lx14 ux14) ?_;refine zR 4 U (aT (u:=iV x14) 1 U aj U hx14 cX (fun _ _ _ h=>by rw [show _=_ from h];rfl)) ?_;obtain ⟨y15,hy15,h⟩:=aa h;refine zD 5 U (ak (qX hy15) Ec U (Ex (ac (i:=2) U U) (Ex (ac (i:=3) U U) ad)) nW) ?_;rintro _ _ ⟨_,⟨rfl,rfl⟩,rfl⟩;refine ⟨_,ah _,ah _,?_⟩;refine zE 6 U (ay U) ?_;obtain ⟨b16,hb16,h⟩:=aa h;refine oH (fun l=>((((((((l.setIfInBounds 7 true).setIfInBounds 8 true).setIfInBounds 9 true).setIfInBounds 10 true).setIfInBounds 11 true).setIfInBounds 12 true).setIfInBounds 13 true).setIfInBounds 14 true)) 0 28 b16 (fun rest=> ?_) ?_
    ·clear h;refine qz 20 U (fun g16=> ?_) (fun g16=> ?_)
     ·have h:=ae g16 hb16;refine dH 7 U Y (ay U) (aS g16 U) U ?_;refine dH 8 U Y (ay U) (aS g16 U) U ?_;refine dH 9 U Y (ay U) (aS g16 U) U ?_;obtain ⟨x17,hx17,h⟩:=aa h;obtain ⟨lx17,ux17,hx17⟩:=aq hx17;refine eD 10 U Y (aH 1 U aj U U Sg dp lx17 ux17) (aS g16 U) U ?_;refine eD 11 U Y (aT (u:=iV x17) 1 U aj U hx17 cX (fun _ _ _ h=>by rw [show _=_ from h];rfl)) (aS g16 U) U ?_;obtain ⟨y18,hy18,h⟩:=aa h;refine yt 12 U Y (ak (KG hy18) OY U (Ex (ar (i:=0) U) ad) Hi) U (aS g16 U) U ?_;rintro _ _ ⟨_,⟨rfl,rfl⟩,rfl⟩;refine ⟨_,ah _,ah _,?_⟩;refine dH 13 U Y (Bd U) (aS g16 U) U ?_;refine zE 14 U (jo g16 U U) ?_;obtain rfl:=ao h;exact ky rest (eG U (am (am (am (am (am (am (am (am bU U) U) U) U) U) U) U) U)) (ah _) (ah _)
     have h:=ag g16 hb16;refine bK 7 U Y (fF g16 U) U ?_;refine bK 8 U Y (fF g16 U) U ?_;refine bK 9 U Y (fF g16 U) U ?_;refine bK 10 U Y (fF g16 U) U ?_;refine bK 11 U Y (fF g16 U) U ?_;refine bK 12 U Y (fF g16 U) U ?_;refine bK 13 U Y (fF g16 U) U ?_;refine zE 14 U (jp g16 U U) ?_;obtain rfl:=ao h;exact ky rest (eG U (am (am (am (am (am (am (am (am bU U) U) U) U) U) U) U) U)) (ah _) (ah _)
    refine bH Y ?_;refine gL ?_;refine av U (fun g19=> ?_) (fun g19=> ?_)
    ·replace h:=ae g19 h;refine D ?_;obtain ⟨x20,hx20,h⟩:=aa h;obtain ⟨lx20,ux20,hx20⟩:=aq hx20;refine gR (aH 1 U aj U U Sg dp lx20 ux20) ?_;refine gR (aT (u:=iV x20) 1 U aj U hx20 cX (fun _ _ _ h=>by rw [show _=_ from h];rfl)) ?_;refine gD (bw (R:=(fW .i64)) (vss:=[[iV x20]]) (xs:=[x20]) U (iy _) U U (fun _ _ hr=> .cons U All2.nil)) ?_;rintro _ _ ⟨A21,n21,c21,rfl,rfl⟩;obtain ⟨q22,h⟩:=ap h;refine gD (bj 1 0 U U aF U U Sg Es U U q22) ?_;rintro _ _ ⟨A23,n23,c23,rfl,rfl⟩;refine D ?_;exact ⟨_,_,⟨p9++([x20]:List Int),A23,n23,c23,h,U,U⟩,sA,cS [1,2,3,4,5] 6⟩
    replace h:=ag g19 h;refine D ?_;exact ⟨_,_,⟨p9,A9,n9,c9,h,U,U⟩,sA,cS [0,1,2,3,4] 5⟩
   rintro _ _ ⟨p13,A13,n13,c13,h,rfl,rfl⟩;refine D ?_;obtain ⟨q24,h⟩:=ap h;refine gE (aU U U q24.1 q24.2) ?_;refine D ?_;exact ⟨m8,_,_,SP _,⟨p13,p10+1,A13,n13,c13,h,U,U⟩,sA,cS [0,1,2,3,4] 5⟩
  replace h:=ag g11 h;refine D ?_;exact ⟨_,_,⟨p9,A9,n9,c9,h,U,U⟩,sA,cS [0] 5⟩
 rintro _ _ ⟨p7,A7,n7,c7,h,rfl,rfl⟩;refine D ?_;obtain rfl:=ao h;exact aD U U (cS [0] 1) ⟨_,_,_,U,U⟩
def nX (N:Nat)(a0:SB)(a1:Int):Option SD:=
 (mh N a0 a1).bind fun y5=>bif !y5 then (some (⟨0,0,0,0,[],[]⟩:SD)) else (bif decide (a1.tmod 2=1) then (bG (in64 (a1 - 1)) (bG (in64 ((a1 - 1).tdiv 2)) ((aM a0.Young ((a1 - 1).tdiv 2)).bind fun x12=>some x12))) else (bG (in64 (a1 - 2)) (bG (in64 ((a1 - 2).tdiv 2)) ((aM a0.Old ((a1 - 2).tdiv 2)).bind fun x18=>some x18))))
theorem wF {N:Nat}{a0:SB}{a1:Int}{r:SD}(h:nX N a0 a1=some r):Okc Tryz.prog 31 [.agg #[O A1 n1 c1,O A2 n2 c2],iV a1] ([bC A1 n1 c1 a0.Young,bC A2 n2 c2 a0.Old]) (fun u post=> ∃A0 n0 c0 A1 n1 c1,u=.agg #[iV r.Kind,iV r.Shape,iV r.Flags,iV r.Age,O A0 n0 c0,O A1 n1 c1]∧post=[bo A0 n0 c0 r.Slots,bo A1 n1 c1 r.More]):=by
 refine bz Tryz.func31 U U ?_;simp only [aR];refine D ?_;refine gD (bd U U) ?_;rintro _ _ ⟨B3,rfl,rfl⟩;refine gD (aN dI U) ?_;rintro _ _ ⟨B4,rfl,rfl⟩;refine D ?_;refine az ?_;refine D ?_;refine gR (aA (us:=[O A1 n1 c1,O A2 n2 c2]) 1 U U cU U) ?_;refine D ?_;obtain ⟨y5,hy5,h⟩:=aa h;refine gD (ak (qX hy5) Ec U (Ex (ac (i:=2) U U) (Ex (ac (i:=3) U U) ad)) nW) ?_;rintro _ _ ⟨_,⟨rfl,rfl⟩,rfl⟩;refine D ?_;refine av U (fun g6=> ?_) (fun g6=> ?_)
 ·replace h:=ae g6 h;refine D ?_;refine gE (cq U (wY)) ?_;refine gO (au (us:=[iV 0,iV 0,iV 0,iV 0,O none 0 0,O none 0 0]) (cs':=[iV 0,iV 0,iV 0,iV 0,O none 0 0,O none 0 0]) 0 U U U U bF U U U) ?_;rintro _ _ rfl;refine D ?_;obtain rfl:=ao h;exact dB (rs:=[.cell 4 47]) (vs:=[.agg #[iV 0,iV 0,iV 0,iV 0,O none 0 0,O none 0 0]]) U (.cons (co 0 U U bh) .nil) U ((GC bv _).trans ((GC bv _).trans (cS [1,0] 6))) ⟨_,_,_,_,_,_,U,U⟩
 replace h:=ag g6 h;refine D ?_;refine az ?_;refine D ?_;refine gE (lY U U (by decide)) ?_;refine D ?_;refine av U (fun g9=> ?_) (fun g9=> ?_)
 ·replace h:=ae g9 h;refine D ?_;obtain ⟨q10,h⟩:=ap h;refine gE (kZ U U q10.1 q10.2) ?_;obtain ⟨q11,h⟩:=ap h;refine gE (rx U U (by decide) q11.1 q11.2) ?_;obtain ⟨x12,hx12,h⟩:=aa h;obtain ⟨lx12,ux12,hx12⟩:=aq hx12;refine gR (aH 2 U aj U U Sr bF lx12 ux12) ?_;refine sE 2 U hx12 (dR x12) ?_;rintro _ _ ⟨A13,n13,c13,A14,n14,c14,rfl,rfl⟩;refine gR (li (us:=[iV x12.Kind,iV x12.Shape,iV x12.Flags,iV x12.Age,O A13 n13 c13,O A14 n14 c14]) 0 U U bh U) ?_;refine gO (au (us:=[iV x12.Kind,iV x12.Shape,iV x12.Flags,iV x12.Age,O A13 n13 c13,O A14 n14 c14]) (cs':=[iV x12.Kind,iV x12.Shape,iV x12.Flags,iV x12.Age,O A13 n13 c13,O A14 n14 c14]) 3 U U U U bF U U U) ?_;rintro _ _ rfl;refine D ?_;obtain rfl:=ao h;exact dB (rs:=[.cell 4 47]) (vs:=[.agg #[iV x12.Kind,iV x12.Shape,iV x12.Flags,iV x12.Age,O A13 n13 c13,O A14 n14 c14]]) U (.cons (co 3 U U bh) .nil) U (cS [1,2] 7) ⟨_,_,_,_,_,_,U,U⟩
 replace h:=ag g9 h;refine D ?_;obtain ⟨q16,h⟩:=ap h;refine gE (kZ U U q16.1 q16.2) ?_;obtain ⟨q17,h⟩:=ap h;refine gE (rx U U (by decide) q17.1 q17.2) ?_;obtain ⟨x18,hx18,h⟩:=aa h;obtain ⟨lx18,ux18,hx18⟩:=aq hx18;refine gR (aH 3 U aj U U Sr bF lx18 ux18) ?_;refine sE 3 U hx18 (dR x18) ?_;rintro _ _ ⟨A19,n19,c19,A20,n20,c20,rfl,rfl⟩;refine gR (li (us:=[iV x18.Kind,iV x18.Shape,iV x18.Flags,iV x18.Age,O A19 n19 c19,O A20 n20 c20]) 0 U U bh U) ?_;refine gO (au (us:=[iV x18.Kind,iV x18.Shape,iV x18.Flags,iV x18.Age,O A19 n19 c19,O A20 n20 c20]) (cs':=[iV x18.Kind,iV x18.Shape,iV x18.Flags,iV x18.Age,O A19 n19 c19,O A20 n20 c20]) 3 U U U U bF U U U) ?_;rintro _ _ rfl;refine cN ?_;refine D ?_;obtain rfl:=ao h;exact dB (rs:=[.cell 4 47]) (vs:=[.agg #[iV x18.Kind,iV x18.Shape,iV x18.Flags,iV x18.Age,O A19 n19 c19,O A20 n20 c20]]) U (.cons (co 3 U U bh) .nil) U (cS [1,2] 7) ⟨_,_,_,_,_,_,U,U⟩
def qD (N:Nat)(a0:SG):Option Bool:=
 (bif decide (a0.Kind=7) then (some true) else (some (decide (a0.Kind=9)))).bind fun b2=>some b2
theorem Do {N:Nat}{a0:SG}{r:Bool}(h:qD N a0=some r):Okc Tryz.prog 204 [.agg #[iV a0.Kind,iV a0.N,.string a0.S]] ([]) (fun u post=>u=.bool r∧post=[]):=by
 refine bz Tryz.func204 U U ?_;simp only [aR];refine D ?_;refine gD (bd U U) ?_;rintro _ _ ⟨B1,rfl,rfl⟩;refine D ?_;obtain ⟨b2,hb2,h⟩:=aa h;refine aE 4 10 b2 ?_ ?_
 ·clear h;refine aB 6 U (fun g2=> ?_) (fun g2=> ?_)
  ·have h:=ae g2 hb2;refine D ?_;obtain rfl:=ao h;exact ab sA (cS [0] 1)
  have h:=ag g2 hb2;refine D ?_;obtain rfl:=ao h;exact ab sA (cS [0] 1)
 refine D ?_;obtain rfl:=ao h;exact aD U U (cS [] 1) ⟨U,U⟩
theorem zc {r:Bool}: ∀v post,((fun (u:Value) (post:List Chunk)=>u=.bool r∧post=[])) v post→ ∀c∈post,cn c:=by
 rintro _ _ ⟨rfl,rfl⟩;exact ad
def qY (N:Nat)(a0:Int)(a1:Int):Option Bool:=
 (bif decide (a0=8) then (some true) else ((bif decide (a0=10) then (some (decide (0<a1))) else (some false)).bind fun b2=>(bif b2 then (bG (in64 (a1 - 1)) (some (decide (((a1 - 1).tmod 4).tmod 2=0)))) else (some false)).bind fun b3=>some b3)).bind fun b1=>some b1
theorem Hk {N:Nat}{a0:Int}{a1:Int}{r:Bool}(h:qY N a0 a1=some r):Okc Tryz.prog 205 [iV a0,iV a1] ([]) (fun u post=>u=.bool r∧post=[]):=by
 refine bz Tryz.func205 U U ?_;simp only [aR];refine D ?_;obtain ⟨b1,hb1,h⟩:=aa h;refine aE 14 21 b1 ?_ ?_
 ·clear h;refine aB 7 U (fun g1=> ?_) (fun g1=> ?_)
  ·have h:=ae g1 hb1;refine D ?_;obtain rfl:=ao h;exact ab sA (cS [] 0)
  have h:=ag g1 hb1;refine D ?_;obtain ⟨b2,hb2,h⟩:=aa h;refine aE 3 13 b2 ?_ ?_
  ·clear h;refine aB 10 U (fun g2=> ?_) (fun g2=> ?_)
   ·have h:=ae g2 hb2;refine D ?_;obtain rfl:=ao h;exact ab sA (cS [] 0)
   have h:=ag g2 hb2;refine D ?_;obtain rfl:=ao h;exact ab sA (cS [] 0)
  refine D ?_;obtain ⟨b3,hb3,h⟩:=aa h;refine aE 6 20 b3 ?_ ?_
  ·clear h;refine aB 14 U (fun g3=> ?_) (fun g3=> ?_)
   ·have h:=ae g3 hb3;refine D ?_;obtain ⟨q4,h⟩:=ap h;refine pN (kZ U U q4.1 q4.2) U (aS g3 U) U ?_;refine pN (lY U U (by decide)) U (aS g3 U) U ?_;refine pN (lY U U (by decide)) U (aS g3 U) U ?_;refine D ?_;obtain rfl:=ao h;exact ab sA (cS [] 0)
   have h:=ag g3 hb3;refine D ?_;obtain rfl:=ao h;exact ab sA (cS [] 0)
  refine D ?_;obtain rfl:=ao h;exact ab sA (cS [] 0)
 refine D ?_;obtain rfl:=ao h;exact aD U U (cS [] 0) ⟨U,U⟩
theorem EB {r:Bool}: ∀v post,((fun (u:Value) (post:List Chunk)=>u=.bool r∧post=[])) v post→ ∀c∈post,cn c:=by
 rintro _ _ ⟨rfl,rfl⟩;exact ad
end Go.Proofs.YtmimkglhbmcokaaGreat