/- Merged texts: part 5. No conditions of their own. -/
import Derived.Test.YtanojiedimeegaaGreatDoorG4
namespace Go.Proofs.YtanojiedimeegaaGreatDoor
theorem KS:type_of% Tryz.underlying82:=Tryz.underlying82
theorem KR:type_of% Tryz.underlying67:=Tryz.underlying67
theorem KQ:type_of% Tryz.underlying211:=Tryz.underlying211
theorem KP:type_of% Tryz.underlying202:=Tryz.underlying202
variable {A1 A10 A12 A13 A14 A15 A16 A17 A2 A3 A4 A5 A6 A7 A8 A9:Option Addr} {B1 B10 B12 B2 B4 B5 B6 B7 B9 M11 M14 M3 M7 M8 c1 c10 c12 c13 c14 c15 c16 c17 c2 c3 c4 c5 c6 c7 c8 c9 n1 n10 n12 n13 n14 n15 n16 n17 n2 n3 n4 n5 n6 n7 n8 n9:Nat}
open Go.RowKit Asn
set_option maxRecDepth 20000
def iZ (N:Nat)(a0:Lf):Option Bool:=
 (bif decide (a0.Kind=7) then (some true) else (some (decide (a0.Kind=9)))).bind fun b2=>some b2
theorem nG {N:Nat}{a0:Lf}{r:Bool}(h:iZ N a0=some r):Okc Tryz.prog 162 [(bQ a0)] ([]) (fun u post=>u=.bool r∧post=[]):=by
 refine bB Tryz.func162 J J ?_;simp only [ba];refine W ?_;refine gD (aT J J) ?_;rintro _ _ ⟨B1,rfl,rfl⟩;refine W ?_;obtain ⟨b2,hb2,h⟩:=aa h;refine aH 4 10 b2 ?_ ?_
 ·clear h;refine aD 6 J (fun g2=> ?_) (fun g2=> ?_)
  ·have h:=ad g2 hb2;refine W ?_;obtain rfl:=ao h;exact ab sA (cS [0] 1)
  have h:=ae g2 hb2;refine W ?_;obtain rfl:=ao h;exact ab sA (cS [0] 1)
 refine W ?_;obtain rfl:=ao h;exact aO J J (cS [] 1) ⟨J,J⟩
theorem lP {r:Bool}: ∀v post,((fun (u:Value) (post:List Chunk)=>u=.bool r∧post=[])) v post→ ∀c∈post,cF c:=by
 rintro _ _ ⟨rfl,rfl⟩;exact ai
def jp (N:Nat)(a1:Int)(p6:(List La))(p7:Int):Option ((List La)×Int×Bool):=
 (bif decide (0<a1) then (some (decide (p7<(p6.length:Int)))) else (some false)).bind fun b11=>some (p6,p7,b11)
def mc (N:Nat)(a0:K8)(a1:Int):Option ((List La)×Int×Bool):=
 cV (bC (a1.tdiv 2)) (bif decide (a1.tmod 2=0) then (cV (bC (a1.tdiv 2)) (cV (bC ((a1.tdiv 2) - 1)) (jp N a1 a0.Old ((a1.tdiv 2) - 1)))) else (jp N a1 a0.Young (a1.tdiv 2)))
theorem vN {N:Nat}{a0:K8}{a1:Int}{r:((List La)×Int×Bool)}(h:mc N a0 a1=some r):Okc Tryz.prog 244 [.agg #[U A1 n1 c1,U A2 n2 c2],iV a1] ([qm A1 n1 c1 a0.Young,qm A2 n2 c2 a0.Old]) (fun u post=> ∃A0 n0 c0,u=.tuple #[U A0 n0 c0,iV r.2.1,.bool r.2.2]∧post=[qm A0 n0 c0 r.1]):=by
 refine bB Tryz.func244 J J ?_;simp only [ba];refine W ?_;refine gD (aT J J) ?_;rintro _ _ ⟨B3,rfl,rfl⟩;refine W ?_;obtain ⟨q4,h⟩:=aA h;refine gE (wC J J (by decide) q4.1 q4.2) ?_;refine W ?_;refine bc (fun s L=> ∃p6 p7 A6 n6 c6,jp N a1 p6 p7=some r∧s=[(1,iV a1),(4,U none 0 0),(5,iV 0),(6,.bool false),(7,U A6 n6 c6),(8,iV p7)]∧L=[qm A6 n6 c6 p6]) ?_ ?_
 ·refine W ?_;refine gE (nS J J (by decide)) ?_;refine W ?_;refine av J (fun g8=> ?_) (fun g8=> ?_)
  ·replace h:=ad g8 h;refine W ?_;obtain ⟨q9,h⟩:=aA h;refine gE (wC J J (by decide) q9.1 q9.2) ?_;obtain ⟨q10,h⟩:=aA h;refine gE (dC J J q10.1 q10.2) ?_;refine W ?_;exact ⟨_,_,⟨a0.Old,(a1.tdiv 2) - 1,A2,n2,c2,h,J,J⟩,sA,cS [2] 3⟩
  replace h:=ae g8 h;refine W ?_;exact ⟨_,_,⟨a0.Young,a1.tdiv 2,A1,n1,c1,h,J,J⟩,sA,cS [1] 3⟩
 rintro _ _ ⟨p6,p7,A6,n6,c6,h,rfl,rfl⟩;refine W ?_;obtain ⟨b11,hb11,h⟩:=aa h;refine aH 5 30 b11 ?_ ?_
 ·clear h;refine aD 25 J (fun g11=> ?_) (fun g11=> ?_)
  ·have h:=ad g11 hb11;refine W ?_;refine bY (bJ 0 J aQ J KN) J (bi g11 J) J ?_;refine W ?_;obtain rfl:=ao h;exact ab sA (cS [0] 1)
  have h:=ae g11 hb11;refine W ?_;obtain rfl:=ao h;exact ab sA (cS [0] 1)
 refine W ?_;obtain rfl:=ao h;exact C4 J J J J (cS [0] 1) ⟨_,_,_,J,J⟩
def ot (N:Nat)(a0:K8)(a1:Int):Option Bool:=
 (mc N a0 a1).bind fun y4=>some y4.2.2
theorem yU {N:Nat}{a0:K8}{a1:Int}{r:Bool}(h:ot N a0 a1=some r):Okc Tryz.prog 233 [.agg #[U A1 n1 c1,U A2 n2 c2],iV a1] ([qm A1 n1 c1 a0.Young,qm A2 n2 c2 a0.Old]) (fun u post=>u=.bool r∧post=[]):=by
 refine bB Tryz.func233 J J ?_;simp only [ba];refine W ?_;refine gD (aT J J) ?_;rintro _ _ ⟨B3,rfl,rfl⟩;refine W ?_;refine gR (aj (us:=[U A1 n1 c1,U A2 n2 c2]) 0 J J FO J) ?_;refine W ?_;obtain ⟨y4,hy4,h⟩:=aa h;refine gD (aI (vN hy4) Ha J (aG [1,2] [] [0,1,2] 3 J)) ?_;rintro _ _ ⟨_,⟨A5,n5,c5,rfl,rfl⟩,rfl⟩;refine W ?_;obtain rfl:=ao h;exact aO J J (cS [] 4) ⟨J,J⟩
theorem vO {r:Bool}: ∀v post,((fun (u:Value) (post:List Chunk)=>u=.bool r∧post=[])) v post→ ∀c∈post,cF c:=by
 rintro _ _ ⟨rfl,rfl⟩;exact ai
def ed (N:Nat)(a0:K1)(a1:Int):Option Bool:=
 (cg N a0).bind fun y8=>(bif !y8 then ((ot N a0.m_ a1).bind fun y10=>some y10) else (some false)).bind fun b9=>some b9
theorem lS {N:Nat}{a0:K1}{a1:Int}{r:Bool}(h:ed N a0 a1=some r):Okc Tryz.prog 209 [pV B1 0,iV a1] ([bd B1 199 [U A2 n2 c2,U A3 n3 c3,U A4 n4 c4,U A5 n5 c5,pV B6 0],qm A2 n2 c2 a0.m_.Young,qm A3 n3 c3 a0.m_.Old,dK A4 n4 c4 a0.roots_,dK A5 n5 c5 a0.pending_,bd B6 247 [.map (some M7)],iM dG dL M7 a0.set_.at_]) (fun u post=>u=.bool r∧post=[]):=by
 refine bB Tryz.func209 J J ?_;simp only [ba];refine W ?_;obtain ⟨y8,hy8,h⟩:=aa h;refine gD (ap (eP hy8) ry J (hJ (aq (i:=0) J J) (hJ (aq (i:=1) J J) (hJ (aq (i:=2) J J) (hJ (aq (i:=3) J J) (hJ (aq (i:=4) J J) (hJ (aq (i:=5) J J) (hJ (aq (i:=6) J J) ai))))))) d7) ?_;rintro _ _ ⟨_,⟨rfl,rfl⟩,rfl⟩;refine W ?_;obtain ⟨b9,hb9,h⟩:=aa h;refine aH 7 15 b9 ?_ ?_
 ·clear h;refine aD 8 J (fun g9=> ?_) (fun g9=> ?_)
  ·have h:=ad g9 hb9;refine W ?_;refine bY (kU (us:=[U A2 n2 c2,U A3 n3 c3]) 0 J J FO J) J (bi g9 J) J ?_;refine W ?_;obtain ⟨y10,hy10,h⟩:=aa h;refine cc (ap (yU hy10) Hf J (hJ (aq (i:=1) J J) (hJ (aq (i:=2) J J) ai)) vO) J (bi g9 J) J ?_;rintro _ _ ⟨_,⟨rfl,rfl⟩,rfl⟩;refine W ?_;obtain rfl:=ao h;exact ab sA (cS [0,1,2,3,4,5,6] 7)
  have h:=ae g9 hb9;refine W ?_;obtain rfl:=ao h;exact ab sA (cS [0,1,2,3,4,5,6] 7)
 refine W ?_;obtain rfl:=ao h;exact aO J J (cS [] 7) ⟨J,J⟩
theorem kC {r:Bool}: ∀v post,((fun (u:Value) (post:List Chunk)=>u=.bool r∧post=[])) v post→ ∀c∈post,cF c:=by
 rintro _ _ ⟨rfl,rfl⟩;exact ai
def fH (N:Nat)(a0:K1)(a1:Int):Option (Int ⊕ Int):=
 bif decide (a1.tmod 2=1) then (cV (bC (a1.tdiv 2)) ((bE a0.m_.Young (a1.tdiv 2)).bind fun x10=>some (.inl (a1.tdiv 2)))) else (cV (bC (a1.tdiv 2)) (cV (bC ((a1.tdiv 2) - 1)) ((bE a0.m_.Old ((a1.tdiv 2) - 1)).bind fun x13=>some (.inr ((a1.tdiv 2) - 1)))))
theorem fh {N:Nat}{a0:K1}{a1:Int}{r:(Int ⊕ Int)}(h:fH N a0 a1=some r):Okc Tryz.prog 210 [pV B1 0,iV a1] ([bd B1 199 [U A2 n2 c2,U A3 n3 c3,U A4 n4 c4,U A5 n5 c5,pV B6 0],qm A2 n2 c2 a0.m_.Young,qm A3 n3 c3 a0.m_.Old,dK A4 n4 c4 a0.roots_,dK A5 n5 c5 a0.pending_,bd B6 247 [.map (some M7)],iM dG dL M7 a0.set_.at_]) (fun u post=>Jn (fun (r:Int)=>u=eQ (U A2 n2 c2) r.toNat 6 0∧post=[]) (fun (r:Int)=>u=eQ (U A3 n3 c3) r.toNat 6 0∧post=[]) r):=by
 refine bB Tryz.func210 J J ?_;simp only [ba];refine W ?_;refine aB ?_;refine W ?_;refine gE (nS J J (by decide)) ?_;refine W ?_;refine av J (fun g8=> ?_) (fun g8=> ?_)
 ·replace h:=ad g8 h;refine W ?_;refine gR (cI 0 J J zd J) ?_;refine W ?_;obtain ⟨q9,h⟩:=aA h;refine gE (wC J J (by decide) q9.1 q9.2) ?_;obtain ⟨x10,hx10,h⟩:=aa h;obtain ⟨lx10,ux10,hx10⟩:=aJ hx10;refine gR (bn 1 J aQ J J KN dq lx10 ux10) ?_;refine W ?_;obtain rfl:=ao h;exact aO J J (cS [] 7) ⟨J,J⟩
 replace h:=ae g8 h;refine W ?_;refine gR (cI 0 J J zd J) ?_;refine W ?_;obtain ⟨q11,h⟩:=aA h;refine gE (wC J J (by decide) q11.1 q11.2) ?_;obtain ⟨q12,h⟩:=aA h;refine gE (dC J J q12.1 q12.2) ?_;obtain ⟨x13,hx13,h⟩:=aa h;obtain ⟨lx13,ux13,hx13⟩:=aJ hx13;refine gR (bn 2 J aQ J J KN dq lx13 ux13) ?_;refine W ?_;obtain rfl:=ao h;exact aO J J (cS [] 7) ⟨J,J⟩
theorem ey {r:(Int ⊕ Int)}{A2:Option Addr}{n2:Nat}{c2:Nat}{A3:Option Addr}{n3:Nat}{c3:Nat}: ∀v post,((fun (u:Value) (post:List Chunk)=>Jn (fun (r:Int)=>u=eQ (U A2 n2 c2) r.toNat 6 0∧post=[]) (fun (r:Int)=>u=eQ (U A3 n3 c3) r.toNat 6 0∧post=[]) r)) v post→ ∀c∈post,cF c:=by
 rcases r with _|_<;>(rintro _ _ ⟨rfl,rfl⟩;exact ai)
def ln (N:Nat)(a0:K1)(a1:Int):Option (La×Bool):=
 (ed N a0 a1).bind fun y9=>bif !y9 then (some ((⟨0,0,0,0,[],[]⟩:La),false)) else ((fH N a0 a1).bind fun y13=>xq y13 (fun y13_0=>(bE a0.m_.Young y13_0).bind fun x14=>(ge N x14).bind fun y18=>some (y18,true)) (fun y13_1=>(bE a0.m_.Old y13_1).bind fun x21=>(ge N x21).bind fun y25=>some (y25,true)))
theorem pZ {N:Nat}{a0:K1}{a1:Int}{r:(La×Bool)}(h:ln N a0 a1=some r):Okc Tryz.prog 203 [pV B1 0,iV a1] ([bd B1 199 [U A2 n2 c2,U A3 n3 c3,U A4 n4 c4,U A5 n5 c5,pV B6 0],qm A2 n2 c2 a0.m_.Young,qm A3 n3 c3 a0.m_.Old,dK A4 n4 c4 a0.roots_,dK A5 n5 c5 a0.pending_,bd B6 247 [.map (some M7)],iM dG dL M7 a0.set_.at_]) (fun u post=> ∃A0 n0 c0 A1 n1 c1,u=.tuple #[.agg #[iV r.1.Kind,iV r.1.Shape,iV r.1.Flags,iV r.1.Age,U A0 n0 c0,U A1 n1 c1],.bool r.2]∧post=[bh A0 n0 c0 r.1.Slots,bh A1 n1 c1 r.1.More]):=by
 refine bB Tryz.func203 J J ?_;simp only [ba];refine W ?_;refine gD (aM gC J) ?_;rintro _ _ ⟨B8,rfl,rfl⟩;refine W ?_;refine aB ?_;refine W ?_;obtain ⟨y9,hy9,h⟩:=aa h;refine gD (ap (lS hy9) zM J (hJ (aq (i:=1) J J) (hJ (aq (i:=2) J J) (hJ (aq (i:=3) J J) (hJ (aq (i:=4) J J) (hJ (aq (i:=5) J J) (hJ (aq (i:=6) J J) (hJ (aq (i:=7) J J) ai))))))) kC) ?_;rintro _ _ ⟨_,⟨rfl,rfl⟩,rfl⟩;refine W ?_;refine av J (fun g10=> ?_) (fun g10=> ?_)
 ·replace h:=ad g10 h;refine W ?_;refine gE (bg J (wZ)) ?_;refine gO (aw (us:=[iV 0,iV 0,iV 0,iV 0,U none 0 0,U none 0 0]) (cs':=[iV 0,iV 0,iV 0,iV 0,U none 0 0,U none 0 0]) 0 J J J J dq J J J) ?_;rintro _ _ rfl;refine W ?_;obtain rfl:=ao h;exact cG (rs:=[.cell 4 138,.tmp 5]) (vs:=[.agg #[iV 0,iV 0,iV 0,iV 0,U none 0 0,U none 0 0],.bool false]) J (.cons (bA 0 J J cb) (.cons (dN J) .nil)) J ((gy bS 30 _).trans ((gy bS 30 _).trans (cS [1,0] 10))) ⟨_,_,_,_,_,_,J,J⟩
 replace h:=ae g10 h;refine W ?_;obtain ⟨y13,hy13,h⟩:=aa h;rcases y13 with y13_0|y13_1
 ·replace h:=Ap h;refine gD (ap (fh hy13) rx J (hJ (aq (i:=1) J J) (hJ (aq (i:=2) J J) (hJ (aq (i:=3) J J) (hJ (aq (i:=4) J J) (hJ (aq (i:=5) J J) (hJ (aq (i:=6) J J) (hJ (aq (i:=7) J J) ai))))))) ey) ?_;rintro _ _ ⟨_,⟨rfl,rfl⟩,rfl⟩;obtain ⟨x14,hx14,h⟩:=aa h;obtain ⟨lx14,ux14,hx14⟩:=aJ hx14;refine gR (i7 2 J aQ J (toNat_lt lx14 ux14)) ?_;refine Ik 2 J hx14 (vZ x14) ?_;rintro _ _ ⟨A15,n15,c15,A16,n16,c16,rfl,rfl⟩;refine gR (CG (us:=[iV x14.Kind,iV x14.Shape,iV x14.Flags,iV x14.Age,U A15 n15 c15,U A16 n16 c16]) 0 J J cb J) ?_;obtain ⟨y18,hy18,h⟩:=aa h;refine gD (ap (iL hy18) pN J (hJ (aq (i:=1) J J) (hJ (aq (i:=2) J J) ai)) gl) ?_;rintro _ _ ⟨_,⟨A19,n19,c19,A20,n20,c20,rfl,rfl⟩,rfl⟩;refine gO (aw (us:=[iV y18.Kind,iV y18.Shape,iV y18.Flags,iV y18.Age,U A19 n19 c19,U A20 n20 c20]) (cs':=[iV y18.Kind,iV y18.Shape,iV y18.Flags,iV y18.Age,U A19 n19 c19,U A20 n20 c20]) 5 J J J J dq J J J) ?_;rintro _ _ rfl;refine W ?_;obtain rfl:=ao h;exact cG (rs:=[.cell 4 138,.tmp 5]) (vs:=[.agg #[iV y18.Kind,iV y18.Shape,iV y18.Flags,iV y18.Age,U A19 n19 c19,U A20 n20 c20],.bool true]) J (.cons (bA 5 J J cb) (.cons (dN J) .nil)) J (cS [0,1] 13) ⟨_,_,_,_,_,_,J,J⟩
 replace h:=Ao h;refine gD (ap (fh hy13) rx J (hJ (aq (i:=1) J J) (hJ (aq (i:=2) J J) (hJ (aq (i:=3) J J) (hJ (aq (i:=4) J J) (hJ (aq (i:=5) J J) (hJ (aq (i:=6) J J) (hJ (aq (i:=7) J J) ai))))))) ey) ?_;rintro _ _ ⟨_,⟨rfl,rfl⟩,rfl⟩;obtain ⟨x21,hx21,h⟩:=aa h;obtain ⟨lx21,ux21,hx21⟩:=aJ hx21;refine gR (i7 3 J aQ J (toNat_lt lx21 ux21)) ?_;refine Ik 3 J hx21 (vZ x21) ?_;rintro _ _ ⟨A22,n22,c22,A23,n23,c23,rfl,rfl⟩;refine gR (CG (us:=[iV x21.Kind,iV x21.Shape,iV x21.Flags,iV x21.Age,U A22 n22 c22,U A23 n23 c23]) 0 J J cb J) ?_;obtain ⟨y25,hy25,h⟩:=aa h;refine gD (ap (iL hy25) pN J (hJ (aq (i:=1) J J) (hJ (aq (i:=2) J J) ai)) gl) ?_;rintro _ _ ⟨_,⟨A26,n26,c26,A27,n27,c27,rfl,rfl⟩,rfl⟩;refine gO (aw (us:=[iV y25.Kind,iV y25.Shape,iV y25.Flags,iV y25.Age,U A26 n26 c26,U A27 n27 c27]) (cs':=[iV y25.Kind,iV y25.Shape,iV y25.Flags,iV y25.Age,U A26 n26 c26,U A27 n27 c27]) 5 J J J J dq J J J) ?_;rintro _ _ rfl;refine bG ?_;refine W ?_;obtain rfl:=ao h;exact cG (rs:=[.cell 4 138,.tmp 5]) (vs:=[.agg #[iV y25.Kind,iV y25.Shape,iV y25.Flags,iV y25.Age,U A26 n26 c26,U A27 n27 c27],.bool true]) J (.cons (bA 5 J J cb) (.cons (dN J) .nil)) J (cS [0,1] 13) ⟨_,_,_,_,_,_,J,J⟩
theorem oD {r:(La×Bool)}: ∀v post,((fun (u:Value) (post:List Chunk)=> ∃A0 n0 c0 A1 n1 c1,u=.tuple #[.agg #[iV r.1.Kind,iV r.1.Shape,iV r.1.Flags,iV r.1.Age,U A0 n0 c0,U A1 n1 c1],.bool r.2]∧post=[bh A0 n0 c0 r.1.Slots,bh A1 n1 c1 r.1.More])) v post→ ∀c∈post,cF c:=by
 rintro _ _ ⟨_,_,_,_,_,_,rfl,rfl⟩;exact hJ fz (hJ fz (ai))
def gN (N:Nat)(p23:Int)(p24:Int)(p25:Int)(p26:Int)(p27:(List Lf))(p28:(List Lf)):Option La:=
 some (⟨p23,p24,p25,p26,p27,p28⟩:La)
def bM (N:Nat)(a0:K2)(a1:Lf):Option La:=
 (iZ N a1).bind fun y17=>bif !y17 then (some (⟨0,0,0,0,[],[]⟩:La)) else ((ln N a0.heap_ a1.N).bind fun y29=>gN N y29.1.Kind y29.1.Shape y29.1.Flags y29.1.Age y29.1.Slots y29.1.More)
theorem ic {N:Nat}{a0:K2}{a1:Lf}{r:La}(h:bM N a0 a1=some r):Okc Tryz.prog 146 [pV B1 0,(bQ a1)] ([bd B1 151 (fE a0 B2 B9 A12 n12 c12 A13 n13 c13 A14 n14 c14),bd B2 199 [U A3 n3 c3,U A4 n4 c4,U A5 n5 c5,U A6 n6 c6,pV B7 0],qm A3 n3 c3 a0.heap_.m_.Young,qm A4 n4 c4 a0.heap_.m_.Old,dK A5 n5 c5 a0.heap_.roots_,dK A6 n6 c6 a0.heap_.pending_,bd B7 247 [.map (some M8)],iM dG dL M8 a0.heap_.set_.at_,bd B9 205 [U A10 n10 c10,.map (some M11)],tN A10 n10 c10 a0.shapes_.shapes_,iM aL dE M11 a0.shapes_.next_,bw A12 n12 c12 a0.symbols_,dr A13 n13 c13 a0.events_,bw A14 n14 c14 a0.out_]) (fun u post=> ∃A0 n0 c0 A1 n1 c1,u=.agg #[iV r.Kind,iV r.Shape,iV r.Flags,iV r.Age,U A0 n0 c0,U A1 n1 c1]∧post=[bh A0 n0 c0 r.Slots,bh A1 n1 c1 r.More]):=by
 refine bB Tryz.func146 J J ?_;simp only [ba];refine W ?_;refine gD (aT J J) ?_;rintro _ _ ⟨B15,rfl,rfl⟩;refine gD (aM gC J) ?_;rintro _ _ ⟨B16,rfl,rfl⟩;refine W ?_;refine aB ?_;refine W ?_;refine gE (fJ J KO) ?_;refine W ?_;refine gR (aj (us:=aE a1) 1 J J aN J) ?_;obtain ⟨y17,hy17,h⟩:=aa h;refine gD (ap (nG hy17) zV J (ai) lP) ?_;rintro _ _ ⟨_,⟨rfl,rfl⟩,rfl⟩;refine W ?_;refine av J (fun g18=> ?_) (fun g18=> ?_)
 ·replace h:=ad g18 h;refine W ?_;refine gE (bg J (wZ)) ?_;refine gO (aw (us:=[iV 0,iV 0,iV 0,iV 0,U none 0 0,U none 0 0]) (cs':=[iV 0,iV 0,iV 0,iV 0,U none 0 0,U none 0 0]) 0 J J J J dq J J J) ?_;rintro _ _ rfl;refine W ?_;obtain rfl:=ao h;exact cG (rs:=[.cell 4 138]) (vs:=[.agg #[iV 0,iV 0,iV 0,iV 0,U none 0 0,U none 0 0]]) J (.cons (bA 0 J J cb) .nil) J ((gy bS 30 _).trans ((gy bS 30 _).trans (cS [1,0] 18))) ⟨_,_,_,_,_,_,J,J⟩
 replace h:=ae g18 h;refine W ?_;refine bc (fun s L=> ∃p23 p24 p25 p26 p27 p28 B22 A27 n27 c27 A28 n28 c28,gN N p23 p24 p25 p26 p27 p28=some r∧s=[(4,pV B16 0),(5,pV B22 0)]∧L=[bh A27 n27 c27 p27,bh A28 n28 c28 p28,al B22 138 [iV p23,iV p24,iV p25,iV p26,U A27 n27 c27,U A28 n28 c28],al B16 138 [iV 0,iV 0,iV 0,iV 0,U none 0 0,U none 0 0]]) ?_ ?_
 ·refine bx O _ (ac _) ?_;refine zE 0 J (au J) ?_;refine zE 1 J (aX J) ?_;refine zE 2 J (bT J kf) ?_;refine zR 3 J (cI 2 J J lb J) ?_;refine zE 4 J (bT J vd) ?_;refine zR 5 J (aW 1 J J dH J) ?_;refine pU 6 10 O ?_ ?_
  ·obtain ⟨y29,hy29,h⟩:=aa h;refine eE J (ap (pZ hy29) Di J (hJ (aq (i:=3) J J) (hJ (aq (i:=4) J J) (hJ (aq (i:=5) J J) (hJ (aq (i:=6) J J) (hJ (aq (i:=7) J J) (hJ (aq (i:=8) J J) (hJ (aq (i:=9) J J) ai))))))) oD) J J J ?_;rintro _ _ ⟨_,⟨A30,n30,c30,A31,n31,c31,rfl,rfl⟩,rfl⟩;refine cZ (cS [2,3,4,5,6,7,8,9,10,11,12,13,14,15,16,17] 18) ?_;refine zE 7 J (au J) ?_;refine zE 8 J (aY J J) ?_;refine zE 9 J (aY J J) ?_;refine zD 10 J (aM gC J) ?_;rintro _ _ ⟨B32,rfl,rfl⟩;refine cZ (cS [3,4,5,6,7,8,9,10,11,12,13,14,15,16,17,18] 19) ?_;refine zO 11 J (aw (us:=[iV y29.1.Kind,iV y29.1.Shape,iV y29.1.Flags,iV y29.1.Age,U A30 n30 c30,U A31 n31 c31]) (cs':=[iV y29.1.Kind,iV y29.1.Shape,iV y29.1.Flags,iV y29.1.Age,U A30 n30 c30,U A31 n31 c31]) 0 J J J J dq J J J) ?_;rintro _ _ rfl;refine cZ (cS [3,4,5,6,7,8,9,10,11,12,13,14,15,16,17,18] 19) ?_;refine bZ ?_;refine zE 12 J (aS J) ?_;refine bj O ?_;refine d8 ?_;exact ⟨_,_,⟨y29.1.Kind,y29.1.Shape,y29.1.Flags,y29.1.Age,y29.1.Slots,y29.1.More,B32,A30,n30,c30,A31,n31,c31,h,J,J⟩,sA,cS [1,2,0,3] 19⟩
  refine eE J (aM gC J) J J J ?_;rintro _ _ ⟨B29,rfl,rfl⟩;refine cZ (cS [1,2,3,4,5,6,7,8,9,10,11,12,13,14,15,16] 17) ?_;obtain ⟨y30,hy30,h⟩:=aa h;refine zD 6 J (ap (pZ hy30) Di J (hJ (aq (i:=4) J J) (hJ (aq (i:=5) J J) (hJ (aq (i:=6) J J) (hJ (aq (i:=7) J J) (hJ (aq (i:=8) J J) (hJ (aq (i:=9) J J) (hJ (aq (i:=10) J J) ai))))))) oD) ?_;rintro _ _ ⟨_,⟨A31,n31,c31,A32,n32,c32,rfl,rfl⟩,rfl⟩;refine cZ (cS [3,4,5,6,7,8,9,10,11,12,13,14,15,16,17,18] 19) ?_;refine zE 7 J (au J) ?_;refine zE 8 J (aY J J) ?_;refine zE 9 J (aY J J) ?_;refine zO 11 J (aw (us:=[iV y30.1.Kind,iV y30.1.Shape,iV y30.1.Flags,iV y30.1.Age,U A31 n31 c31,U A32 n32 c32]) (cs':=[iV y30.1.Kind,iV y30.1.Shape,iV y30.1.Flags,iV y30.1.Age,U A31 n31 c31,U A32 n32 c32]) 2 J J J J dq J J J) ?_;rintro _ _ rfl;refine cZ (cS [3,4,5,6,7,8,9,10,11,12,13,14,15,16,17,18] 19) ?_;refine bZ ?_;refine zE 12 J (aS J) ?_;refine bj O ?_;refine d8 ?_;exact ⟨_,_,⟨y30.1.Kind,y30.1.Shape,y30.1.Flags,y30.1.Age,y30.1.Slots,y30.1.More,B29,A31,n31,c31,A32,n32,c32,h,J,J⟩,sA,cS [0,1,2,3] 19⟩
 rintro _ _ ⟨p23,p24,p25,p26,p27,p28,B22,A27,n27,c27,A28,n28,c28,h,rfl,rfl⟩;refine W ?_;refine gR (aj (us:=[iV p23,iV p24,iV p25,iV p26,U A27 n27 c27,U A28 n28 c28]) 2 J J cb J) ?_;refine gO (aw (us:=[iV p23,iV p24,iV p25,iV p26,U A27 n27 c27,U A28 n28 c28]) (cs':=[iV p23,iV p24,iV p25,iV p26,U A27 n27 c27,U A28 n28 c28]) 3 J J J J dq J J J) ?_;rintro _ _ rfl;refine W ?_;obtain rfl:=ao h;exact cG (rs:=[.cell 4 138]) (vs:=[.agg #[iV p23,iV p24,iV p25,iV p26,U A27 n27 c27,U A28 n28 c28]]) J (.cons (bA 3 J J cb) .nil) J (cS [0,1] 4) ⟨_,_,_,_,_,_,J,J⟩
theorem gr {r:La}: ∀v post,((fun (u:Value) (post:List Chunk)=> ∃A0 n0 c0 A1 n1 c1,u=.agg #[iV r.Kind,iV r.Shape,iV r.Flags,iV r.Age,U A0 n0 c0,U A1 n1 c1]∧post=[bh A0 n0 c0 r.Slots,bh A1 n1 c1 r.More])) v post→ ∀c∈post,cF c:=by
 rintro _ _ ⟨_,_,_,_,_,_,rfl,rfl⟩;exact hJ fz (hJ fz (ai))
def Ax (N:Nat)(a1:Lf):Option La:=
 some (⟨0,0,0,0,[],[]⟩:La)
def dB (N:Nat)(a0:K2)(a1:Lf):Option (La×Bool):=
 bif !decide (a1.Kind=7) then (some ((⟨0,0,0,0,[],[]⟩:La),false)) else ((bM N a0 a1).bind fun y20=>some (y20,decide (y20.Kind=2)))
theorem fo {N:Nat}{a0:K2}{a1:Lf}{r:(La×Bool)}(h:dB N a0 a1=some r):Okc Tryz.prog 96 [pV B1 0,(bQ a1)] ([bd B1 151 (fE a0 B2 B9 A12 n12 c12 A13 n13 c13 A14 n14 c14),bd B2 199 [U A3 n3 c3,U A4 n4 c4,U A5 n5 c5,U A6 n6 c6,pV B7 0],qm A3 n3 c3 a0.heap_.m_.Young,qm A4 n4 c4 a0.heap_.m_.Old,dK A5 n5 c5 a0.heap_.roots_,dK A6 n6 c6 a0.heap_.pending_,bd B7 247 [.map (some M8)],iM dG dL M8 a0.heap_.set_.at_,bd B9 205 [U A10 n10 c10,.map (some M11)],tN A10 n10 c10 a0.shapes_.shapes_,iM aL dE M11 a0.shapes_.next_,bw A12 n12 c12 a0.symbols_,dr A13 n13 c13 a0.events_,bw A14 n14 c14 a0.out_]) (fun u post=> ∃A0 n0 c0 A1 n1 c1,u=.tuple #[.agg #[iV r.1.Kind,iV r.1.Shape,iV r.1.Flags,iV r.1.Age,U A0 n0 c0,U A1 n1 c1],.bool r.2]∧post=[bh A0 n0 c0 r.1.Slots,bh A1 n1 c1 r.1.More]):=by
 refine bB Tryz.func96 J J ?_;simp only [ba];refine W ?_;refine gD (aT J J) ?_;rintro _ _ ⟨B15,rfl,rfl⟩;refine gD (aM gC J) ?_;rintro _ _ ⟨B16,rfl,rfl⟩;refine W ?_;refine aB ?_;refine W ?_;refine gE (fJ J KO) ?_;refine W ?_;refine av J (fun g17=> ?_) (fun g17=> ?_)
 ·replace h:=ad g17 h;refine W ?_;refine gE (bg J (wZ)) ?_;refine gO (aw (us:=[iV 0,iV 0,iV 0,iV 0,U none 0 0,U none 0 0]) (cs':=[iV 0,iV 0,iV 0,iV 0,U none 0 0,U none 0 0]) 0 J J J J dq J J J) ?_;rintro _ _ rfl;refine W ?_;obtain rfl:=ao h;exact cG (rs:=[.cell 4 138,.tmp 5]) (vs:=[.agg #[iV 0,iV 0,iV 0,iV 0,U none 0 0,U none 0 0],.bool false]) J (.cons (bA 0 J J cb) (.cons (dN J) .nil)) J ((gy bS 30 _).trans ((gy bS 30 _).trans (cS [1,0] 18))) ⟨_,_,_,_,_,_,J,J⟩
 replace h:=ae g17 h;refine W ?_;refine gR (aj (us:=aE a1) 1 J J aN J) ?_;obtain ⟨y20,hy20,h⟩:=aa h;refine gD (ap (ic hy20) vu J (hJ (aq (i:=2) J J) (hJ (aq (i:=3) J J) (hJ (aq (i:=4) J J) (hJ (aq (i:=5) J J) (hJ (aq (i:=6) J J) (hJ (aq (i:=7) J J) (hJ (aq (i:=8) J J) (hJ (aq (i:=9) J J) (hJ (aq (i:=10) J J) (hJ (aq (i:=11) J J) (hJ (aq (i:=12) J J) (hJ (aq (i:=13) J J) (hJ (aq (i:=14) J J) (hJ (aq (i:=15) J J) ai)))))))))))))) gr) ?_;rintro _ _ ⟨_,⟨A21,n21,c21,A22,n22,c22,rfl,rfl⟩,rfl⟩;refine gD (aM gC J) ?_;rintro _ _ ⟨B23,rfl,rfl⟩;refine gO (aw (us:=[iV y20.Kind,iV y20.Shape,iV y20.Flags,iV y20.Age,U A21 n21 c21,U A22 n22 c22]) (cs':=[iV y20.Kind,iV y20.Shape,iV y20.Flags,iV y20.Age,U A21 n21 c21,U A22 n22 c22]) 0 J J J J dq J J J) ?_;rintro _ _ rfl;refine W ?_;refine aB ?_
 refine bx O ([al B23 138 [iV y20.Kind,iV y20.Shape,iV y20.Flags,iV y20.Age,U A21 n21 c21,U A22 n22 c22],bh A21 n21 c21 y20.Slots,bh A22 n22 c22 y20.More,al B15 30 (aE a1),bd B1 151 (fE a0 B2 B9 A12 n12 c12 A13 n13 c13 A14 n14 c14),bd B2 199 [U A3 n3 c3,U A4 n4 c4,U A5 n5 c5,U A6 n6 c6,pV B7 0],qm A3 n3 c3 a0.heap_.m_.Young,qm A4 n4 c4 a0.heap_.m_.Old,dK A5 n5 c5 a0.heap_.roots_,dK A6 n6 c6 a0.heap_.pending_,bd B7 247 [.map (some M8)],iM dG dL M8 a0.heap_.set_.at_,bd B9 205 [U A10 n10 c10,.map (some M11)],tN A10 n10 c10 a0.shapes_.shapes_,iM aL dE M11 a0.shapes_.next_,bw A12 n12 c12 a0.symbols_,dr A13 n13 c13 a0.events_,bw A14 n14 c14 a0.out_]) (cS [0,1,2,4,5,6,7,8,9,10,11,12,13,14,15,16,17,18] 19) ?_;refine zR 0 J (aj (us:=[iV y20.Kind,iV y20.Shape,iV y20.Flags,iV y20.Age,U A21 n21 c21,U A22 n22 c22]) 0 J J cb J) ?_;refine zE 1 J (dD J Bd) ?_;refine zR 2 J (aW 0 J J dH J) ?_;refine zE 3 J (uu J J) ?_;refine zO 4 J (aw (us:=[iV y20.Kind,iV y20.Shape,iV y20.Flags,iV y20.Age,U A21 n21 c21,U A22 n22 c22]) (cs':=[iV y20.Kind,iV y20.Shape,iV y20.Flags,iV y20.Age,U A21 n21 c21,U A22 n22 c22]) 3 J J J J dq J J J) ?_;rintro _ _ rfl;refine cZ (cS [0,1,2,4,5,6,7,8,9,10,11,12,13,14,15,16,17,18] 19) ?_;refine bZ ?_;refine zE 5 J (aS J) ?_;refine bj O ?_;refine W ?_;obtain rfl:=ao h
 exact cG (rs:=[.cell 4 138,.tmp 5]) (vs:=[.agg #[iV y20.Kind,iV y20.Shape,iV y20.Flags,iV y20.Age,U A21 n21 c21,U A22 n22 c22],.bool (decide (y20.Kind=2))]) J (.cons (bA 3 J J cb) (.cons (dN J) .nil)) J (cS [1,2] 19) ⟨_,_,_,_,_,_,J,J⟩
theorem ei {r:(La×Bool)}: ∀v post,((fun (u:Value) (post:List Chunk)=> ∃A0 n0 c0 A1 n1 c1,u=.tuple #[.agg #[iV r.1.Kind,iV r.1.Shape,iV r.1.Flags,iV r.1.Age,U A0 n0 c0,U A1 n1 c1],.bool r.2]∧post=[bh A0 n0 c0 r.1.Slots,bh A1 n1 c1 r.1.More])) v post→ ∀c∈post,cF c:=by
 rintro _ _ ⟨_,_,_,_,_,_,rfl,rfl⟩;exact hJ fz (hJ fz (ai))
def jz (N:Nat)(a1:Lf):Option (La×Bool):=
 some ((⟨0,0,0,0,[],[]⟩:La),false)
def ez (N:Nat){σ:Type}(fy:(Int×Lf)→σ→Option (Bool×σ))(a1:La):Nat→Int→σ→Option σ
 |0,_,_=>none
 |m4+1,p5,p6=>bif decide (p5<(a1.More.length:Int)) then ((bE a1.More p5).bind fun x8=>bif !decide (x8=(⟨8,0,(⟨#[]⟩:ByteArray)⟩:Lf)) then ((fy (p5,x8) p6).bind fun y11=>bif !y11.1 then (some y11.2) else (cV (bC (p5+1)) ((ez N fy a1 m4) (p5+1) y11.2))) else (cV (bC (p5+1)) ((ez N fy a1 m4) (p5+1) p6))) else (some p6)
def jV (N:Nat){σ:Type}(a1:La)(fy:(Int×Lf)→σ→Option (Bool×σ))(s0:σ):Option σ:=
 ez N fy a1 N 0 s0
theorem qX {N:Nat}{σ:Type}{a1:La}{fy:(Int×Lf)→σ→Option (Bool×σ)}{s0:σ}{r:σ}(h:jV N a1 fy s0=some r){l:Nat}{G:σ→List Chunk}(hY:pT Tryz.prog l G (fun x=> [iV x.1,.agg #[iV x.2.Kind,iV x.2.N,.string x.2.S]]) fy):Okc Tryz.prog 157 [.func (.yield l) #[] #[],pV B1 0] (bd B1 138 [iV a1.Kind,iV a1.Shape,iV a1.Flags,iV a1.Age,U A2 n2 c2,U A3 n3 c3]::dK A2 n2 c2 a1.Slots::dK A3 n3 c3 a1.More::bd 0 30 [iV 8,iV 0,.string (⟨#[]⟩:ByteArray)]::(G s0)) (fun u post=>u=.tuple #[]∧post=G r):=by
 refine bB Tryz.func157 J J ?_;simp only [ba];refine W ?_;refine gR (cI 0 J J gW J) ?_;refine gR (bJ 2 J aQ J hU) ?_;refine W ?_;refine cv (fun m s L=> ∃p5 p6,ez N fy a1 m p5 p6=some r∧s=[(0,.func (.yield l) #[] #[]),(6,U A3 n3 c3),(7,iV (a1.More.length:Int)),(8,iV p5)]∧L=dK A3 n3 c3 a1.More::bd 0 30 [iV 8,iV 0,.string (⟨#[]⟩:ByteArray)]::(G p6)) N _ _ ⟨0,s0,h,J,J⟩ sA (cS [2,3] 4) ?_;rintro (_|m4) _ _ ⟨p5,p6,h,rfl,rfl⟩
 ·exact bq h
 rw [ez.eq_2] at h;refine W ?_;refine aB ?_;refine av J (fun g7=> ?_) (fun g7=> ?_)
 ·replace h:=ad g7 h;refine W ?_;refine aB ?_;refine W ?_;obtain ⟨x8,hx8,h⟩:=aa h;obtain ⟨lx8,ux8,hx8⟩:=aJ hx8;refine gR (bn 0 J aQ J J hU be lx8 ux8) ?_;refine gR (br (us:=[iV x8.Kind,iV x8.N,.string x8.S]) 0 J aQ J hx8 aN (fun _ _ _ h=>by rw [show _=_ from h];rfl)) ?_;refine gD (aM eA J) ?_;rintro _ _ ⟨B9,rfl,rfl⟩;refine W ?_;refine gO (aw (us:=[iV x8.Kind,iV x8.N,.string x8.S]) (cs':=[iV x8.Kind,iV x8.N,.string x8.S]) 0 J J J J be J J J) ?_;rintro _ _ rfl;refine W ?_;refine gR (aj (us:=[iV x8.Kind,iV x8.N,.string x8.S]) 0 J J aN J) ?_;refine gR (kU (us:=[iV 8,iV 0,.string (⟨#[]⟩:ByteArray)]) 2 J J aN J) ?_;refine gE (tV (x:=x8) (y:=(⟨8,0,(⟨#[]⟩:ByteArray)⟩:Lf)) J J) ?_;refine W ?_;refine aD 16 J (fun g10=> ?_) (fun g10=> ?_)
  ·replace h:=ad g10 h;refine W ?_;refine bY (aj (us:=[iV x8.Kind,iV x8.N,.string x8.S]) 0 J J aN J) J (bi g10 J) J ?_;obtain ⟨y11,hy11,h⟩:=aa h;refine cc (tG (a:=(p5,x8)) [al B9 30 [iV x8.Kind,iV x8.N,.string x8.S],dK A3 n3 c3 a1.More,bd 0 30 [iV 8,iV 0,.string (⟨#[]⟩:ByteArray)]] hY hy11 J J) J (bi g10 J) J ?_;rintro _ _ ⟨rfl,rfl⟩;refine W ?_;refine av J (fun g12=> ?_) (fun g12=> ?_)
   ·replace h:=ad g12 h;refine W ?_;obtain rfl:=ao h;exact yr J (cS [] 3) ⟨J,J⟩
   replace h:=ae g12 h;refine W ?_;obtain ⟨q13,h⟩:=aA h;refine gE (bF J J q13.1 q13.2) ?_;refine W ?_;exact ⟨m4,_,_,Lo _,⟨p5+1,y11.2,h,J,J⟩,sA,cS [1,2] 3⟩
  replace h:=ae g10 h;refine W ?_;refine iX J ?_;refine W ?_;obtain ⟨q14,h⟩:=aA h;refine gE (bF J J q14.1 q14.2) ?_;refine W ?_;exact ⟨m4,_,_,Lo _,⟨p5+1,p6,h,J,J⟩,sA,cS [1,2] 3⟩
 replace h:=ae g7 h;refine W ?_;obtain rfl:=ao h;exact fW J (cS [] 2) ⟨J,J⟩
def jO (N:Nat)(a0:La):Option Unit:=
 some ()
theorem tr {N:Nat}{a0:La}{r:Unit}(h:jO N a0=some r):Okc Tryz.prog 104 [.agg #[iV a0.Kind,iV a0.Shape,iV a0.Flags,iV a0.Age,U A1 n1 c1,U A2 n2 c2]] ([dK A1 n1 c1 a0.Slots,dK A2 n2 c2 a0.More,bd 0 30 [iV 8,iV 0,.string (⟨#[]⟩:ByteArray)]]) (fun u post=> ∃B900,u=.func (.func 157) #[] #[pV B900 0]∧post=[al B900 138 [iV a0.Kind,iV a0.Shape,iV a0.Flags,iV a0.Age,U A1 n1 c1,U A2 n2 c2]]):=by
 refine bB Tryz.func104 J J ?_;simp only [ba];refine W ?_;refine gD (aT J J) ?_;rintro _ _ ⟨B3,rfl,rfl⟩;refine W ?_;refine gE (qL J) ?_;refine W ?_;obtain rfl:=ao h;exact aO J J (cS [0] 4) ⟨_,J,J⟩
theorem rI {a0:La}{A1:Option Addr}{n1:Nat}{c1:Nat}{A2:Option Addr}{n2:Nat}{c2:Nat}: ∀v post,((fun (u:Value) (post:List Chunk)=> ∃B900,u=.func (.func 157) #[] #[pV B900 0]∧post=[al B900 138 [iV a0.Kind,iV a0.Shape,iV a0.Flags,iV a0.Age,U A1 n1 c1,U A2 n2 c2]])) v post→ ∀c∈post,cF c:=by
 rintro _ _ ⟨_,rfl,rfl⟩;exact hJ qH (ai)
def dc (N:Nat):Option Lj:=
 some (⟨1,0,(⟨#[108,101,110,103,116,104]⟩:ByteArray)⟩:Lj)
theorem gm {N:Nat}{r:Lj}(h:dc N=some r):Okc Tryz.prog 97 [] ([]) (fun u post=>u=(gk r)∧post=[]):=by
 refine bB Tryz.func97 J J ?_;simp only [ba];refine W ?_;refine gD (aM vB J) ?_;rintro _ _ ⟨B1,rfl,rfl⟩;refine W ?_;refine gE (bg J (wX _ _)) ?_;refine gO (aw (us:=[iV 1,iV 0,.string (⟨#[108,101,110,103,116,104]⟩:ByteArray)]) (cs':=[iV 1,iV 0,.string (⟨#[108,101,110,103,116,104]⟩:ByteArray)]) 0 J J J J cY J J J) ?_;rintro _ _ rfl;refine W ?_;obtain rfl:=ao h;exact cG (rs:=[.cell 0 24]) (vs:=[.agg #[iV 1,iV 0,.string (⟨#[108,101,110,103,116,104]⟩:ByteArray)]]) J (.cons (bA 0 J J bI) .nil) J (cS [] 1) ⟨J,J⟩
theorem fB {r:Lj}: ∀v post,((fun (u:Value) (post:List Chunk)=>u=(gk r)∧post=[])) v post→ ∀c∈post,cF c:=by
 rintro _ _ ⟨rfl,rfl⟩;exact ai
def db (N:Nat)(a0:K2)(a1:Lf):Option (Unit ⊕ K6):=
 bif !decide (a1.Kind=7) then (some (.inl ())) else ((bM N a0 a1).bind fun y17=>(bif decide ((y17.Slots.length:Int)=0) then (some true) else ((bE y17.Slots 0).bind fun x22=>(bif !decide (x22.Kind=1) then ((bE y17.Slots 0).bind fun x24=>some (!decide (x24.Kind=7))) else (some false)).bind fun b23=>some b23)).bind fun b21=>bif b21 then (some (.inl ())) else (some (.inr (⟨y17,a0,a1⟩:K6))))
set_option maxHeartbeats 4000000 in
theorem cw {N:Nat}{a0:K2}{a1:Lf}{r:(Unit ⊕ K6)}(h:db N a0 a1=some r):Okc Tryz.prog 84 [pV B1 0,(bQ a1)] ([bw A12 n12 c12 a0.symbols_,dr A13 n13 c13 a0.events_,bw A14 n14 c14 a0.out_,al B1 151 (fE a0 B2 B9 A12 n12 c12 A13 n13 c13 A14 n14 c14),al B2 199 [U A3 n3 c3,U A4 n4 c4,U A5 n5 c5,U A6 n6 c6,pV B7 0],bL A3 n3 c3 a0.heap_.m_.Young,bL A4 n4 c4 a0.heap_.m_.Old,bh A5 n5 c5 a0.heap_.roots_,bh A6 n6 c6 a0.heap_.pending_,al B7 247 [.map (some M8)],aP dG dL M8 a0.heap_.set_.at_,al B9 205 [U A10 n10 c10,.map (some M11)],d6 A10 n10 c10 a0.shapes_.shapes_,aP aL dE M11 a0.shapes_.next_]) (fun u post=>Jn (fun (r:Unit)=>u=.tuple #[.pointer none,.bool false]∧post=[al B1 151 (fE a0 B2 B9 A12 n12 c12 A13 n13 c13 A14 n14 c14),al B2 199 [U A3 n3 c3,U A4 n4 c4,U A5 n5 c5,U A6 n6 c6,pV B7 0],bL A3 n3 c3 a0.heap_.m_.Young,bL A4 n4 c4 a0.heap_.m_.Old,bh A5 n5 c5 a0.heap_.roots_,bh A6 n6 c6 a0.heap_.pending_,al B7 247 [.map (some M8)],aP dG dL M8 a0.heap_.set_.at_,al B9 205 [U A10 n10 c10,.map (some M11)],d6 A10 n10 c10 a0.shapes_.shapes_,aP aL dE M11 a0.shapes_.next_]) (fun (r:K6)=> ∃B500 A501 n501 c501 A502 n502 c502,u=.tuple #[pV B500 0,.bool true]∧post=[al B500 140 [iV r.Cell.Kind,iV r.Cell.Shape,iV r.Cell.Flags,iV r.Cell.Age,U A501 n501 c501,U A502 n502 c502,pV B1 0,iV r.at_.Kind,iV r.at_.N,.string r.at_.S],bh A501 n501 c501 r.Cell.Slots,bh A502 n502 c502 r.Cell.More,al B1 151 (fE a0 B2 B9 A12 n12 c12 A13 n13 c13 A14 n14 c14),al B2 199 [U A3 n3 c3,U A4 n4 c4,U A5 n5 c5,U A6 n6 c6,pV B7 0],bL A3 n3 c3 a0.heap_.m_.Young,bL A4 n4 c4 a0.heap_.m_.Old,bh A5 n5 c5 a0.heap_.roots_,bh A6 n6 c6 a0.heap_.pending_,al B7 247 [.map (some M8)],aP dG dL M8 a0.heap_.set_.at_,al B9 205 [U A10 n10 c10,.map (some M11)],d6 A10 n10 c10 a0.shapes_.shapes_,aP aL dE M11 a0.shapes_.next_]) r):=by
 refine bB Tryz.func84 J J ?_;simp only [ba];refine W ?_;refine gD (aT J J) ?_;rintro _ _ ⟨B15,rfl,rfl⟩;refine W ?_;refine aB ?_;refine W ?_;refine gE (fJ J KO) ?_;refine W ?_;refine av J (fun g16=> ?_) (fun g16=> ?_)
 ·replace h:=ad g16 h;refine W ?_;obtain rfl:=ao h;exact dA J J J (cS [4,5,6,7,8,9,10,11,12,13,14] 15) ⟨J,J⟩
 replace h:=ae g16 h;refine W ?_;refine aB ?_;refine bx O _ (ac _) ?_;refine zE 0 J (au J) ?_;refine zR 1 J (aj (us:=aE a1) 0 J J aN J) ?_;refine zE 3 J (au J) ?_;refine zR 4 J (aj (us:=aE a1) 0 J J aN J) ?_;obtain ⟨y17,hy17,h⟩:=aa h;refine zD 2 J (ap (ic hy17) vu J (hJ (az (i:=4) J) (hJ (az (i:=5) J) (hJ (ar (i:=6) J) (hJ (ar (i:=7) J) (hJ (ar (i:=8) J) (hJ (ar (i:=9) J) (hJ (az (i:=10) J) (hJ (aU (i:=11) J) (hJ (az (i:=12) J) (hJ (ar (i:=13) J) (hJ (aU (i:=14) J) (hJ (aq (i:=1) J J) (hJ (aq (i:=2) J J) (hJ (aq (i:=3) J J) ai)))))))))))))) gr) ?_;rintro _ _ ⟨_,⟨A18,n18,c18,A19,n19,c19,rfl,rfl⟩,rfl⟩;refine cZ (cS [2,3,4,5,6,7,8,9,10,11,12,13,14,15,16] 17) ?_;refine zE 5 J (bg J (xO _ _ _ _ _ _ _ _ _ _ _ _ _ _)) ?_;refine zD 6 J (aT J J) ?_;rintro _ _ ⟨B20,rfl,rfl⟩;refine cZ (cS [3,4,5,6,7,8,9,10,11,12,13,14,15,16,17] 18) ?_;refine zE 7 J (aS J) ?_;refine bj O ?_;refine d8 ?_;refine aB ?_;refine W ?_;refine gR (bJ 1 J aC J hU) ?_;refine W ?_;obtain ⟨b21,hb21,h⟩:=aa h;refine aH 21 49 b21 ?_ ?_
 ·clear h;refine aD 28 J (fun g21=> ?_) (fun g21=> ?_)
  ·have h:=ad g21 hb21;refine W ?_;obtain rfl:=ao h;exact ab sA (cS [0,1,2,3,4,5,6,7,8,9,10,11,12,13,14,15,16,17] 18)
  have h:=ae g21 hb21;refine W ?_;obtain ⟨x22,hx22,h⟩:=aa h;obtain ⟨lx22,ux22,hx22⟩:=aJ hx22;refine bY (bn 1 J aC J J hU be lx22 ux22) J (co g21 J) J ?_;refine bY (pE 1 J aC J (toNat_lt lx22 ux22) md) J (co g21 J) J ?_;refine bY (eV (u:=iV x22.Kind) 1 J aC J hx22 dH (fun _ _ _ h=>by rw [show _=_ from h];rfl)) J (co g21 J) J ?_;refine W ?_;obtain ⟨b23,hb23,h⟩:=aa h;refine aH 10 48 b23 ?_ ?_
  ·clear h;refine aD 38 J (fun g23=> ?_) (fun g23=> ?_)
   ·have h:=ad g23 hb23;refine W ?_;obtain ⟨x24,hx24,h⟩:=aa h;obtain ⟨lx24,ux24,hx24⟩:=aJ hx24;refine bY (bn 1 J aC J J hU be lx24 ux24) J (bi g23 J) J ?_;refine bY (pE 1 J aC J (toNat_lt lx24 ux24) md) J (bi g23 J) J ?_;refine bY (eV (u:=iV x24.Kind) 1 J aC J hx24 dH (fun _ _ _ h=>by rw [show _=_ from h];rfl)) J (bi g23 J) J ?_;refine W ?_;obtain rfl:=ao h;exact ab sA (cS [0,1,2,3,4,5,6,7,8,9,10,11,12,13,14,15,16,17] 18)
   have h:=ae g23 hb23;refine W ?_;obtain rfl:=ao h;exact ab sA (cS [0,1,2,3,4,5,6,7,8,9,10,11,12,13,14,15,16,17] 18)
  refine W ?_;obtain rfl:=ao h;exact ab sA (cS [0,1,2,3,4,5,6,7,8,9,10,11,12,13,14,15,16,17] 18)
 refine W ?_;refine av J (fun g25=> ?_) (fun g25=> ?_)
 ·replace h:=ad g25 h;refine W ?_;obtain rfl:=ao h;exact dA J J J (cS [7,8,9,10,11,12,13,14,15,16,17] 18) ⟨J,J⟩
 replace h:=ae g25 h;refine W ?_;obtain rfl:=ao h;exact dA J J J (cS [0,1,2,7,8,9,10,11,12,13,14,15,16,17] 18) ⟨_,_,_,_,_,_,_,J,J⟩
def dp (N:Nat)(a1:Lf):Option Unit:=
 some ()
def cC (N:Nat)(a0:K2):Option Unit:=
 some ()
theorem d5 {N:Nat}{a0:K2}{r:Unit}(h:cC N a0=some r):Okc Tryz.prog 118 [pV B1 0] ([bd B1 151 (fE a0 B2 B9 A12 n12 c12 A13 n13 c13 A14 n14 c14),bd B2 199 [U A3 n3 c3,U A4 n4 c4,U A5 n5 c5,U A6 n6 c6,pV B7 0],qm A3 n3 c3 a0.heap_.m_.Young,qm A4 n4 c4 a0.heap_.m_.Old,dK A5 n5 c5 a0.heap_.roots_,dK A6 n6 c6 a0.heap_.pending_,bd B7 247 [.map (some M8)],iM dG dL M8 a0.heap_.set_.at_,bd B9 205 [U A10 n10 c10,.map (some M11)],tN A10 n10 c10 a0.shapes_.shapes_,iM aL dE M11 a0.shapes_.next_,bw A12 n12 c12 a0.symbols_,dr A13 n13 c13 a0.events_,bw A14 n14 c14 a0.out_]) (fun u post=>u=pV B9 0∧post=[]):=by
 refine bB Tryz.func118 J J ?_;simp only [ba];refine W ?_;refine aB ?_;refine W ?_;refine gE (fJ J KO) ?_;refine W ?_;refine iX J ?_;refine W ?_;refine gR (cI 0 J J ES J) ?_;refine W ?_;obtain rfl:=ao h;exact aO J J (cS [] 14) ⟨J,J⟩
theorem dF {B9:Nat}: ∀v post,((fun (u:Value) (post:List Chunk)=>u=pV B9 0∧post=[])) v post→ ∀c∈post,cF c:=by
 rintro _ _ ⟨rfl,rfl⟩;exact ai
def yT (N:Nat):Option Unit:=
 some ()
def eH (N:Nat)(a0:K9)(a1:Int):Option Bool:=
 (bif decide (0≤a1) then (some (decide (a1<(a0.shapes_.length:Int)))) else (some false)).bind fun b4=>some b4
theorem kz {N:Nat}{a0:K9}{a1:Int}{r:Bool}(h:eH N a0 a1=some r):Okc Tryz.prog 212 [pV B1 0,iV a1] ([bd B1 205 [U A2 n2 c2,.map (some M3)],tN A2 n2 c2 a0.shapes_,iM aL dE M3 a0.next_]) (fun u post=>u=.bool r∧post=[]):=by
 refine bB Tryz.func212 J J ?_;simp only [ba];refine W ?_;refine gE (pn J Tryz.underlying144) ?_;refine W ?_;obtain ⟨b4,hb4,h⟩:=aa h;refine aH 8 19 b4 ?_ ?_
 ·clear h;refine aD 11 J (fun g4=> ?_) (fun g4=> ?_)
  ·have h:=ad g4 hb4;refine W ?_;refine bY (cI 0 J J nI J) J (bi g4 J) J ?_;refine bY (bJ 1 J aQ J KP) J (bi g4 J) J ?_;refine W ?_;obtain rfl:=ao h;exact ab sA (cS [0,1,2] 3)
  have h:=ae g4 hb4;refine W ?_;obtain rfl:=ao h;exact ab sA (cS [0,1,2] 3)
 refine W ?_;obtain rfl:=ao h;exact aO J J (cS [] 3) ⟨J,J⟩
theorem jk {r:Bool}: ∀v post,((fun (u:Value) (post:List Chunk)=>u=.bool r∧post=[])) v post→ ∀c∈post,cF c:=by
 rintro _ _ ⟨rfl,rfl⟩;exact ai
def Bz (N:Nat)(a1:Int):Option Bool:=
 some false
def jC (N:Nat)(a0:K9)(a1:Int):Option (Lh×Bool):=
 (eH N a0 a1).bind fun y5=>bif !y5 then (some ((⟨0,(⟨0,0,⟨#[]⟩⟩:Lj),0,0⟩:Lh),false)) else ((bE a0.shapes_ a1).bind fun x7=>some (x7,true))
theorem sx {N:Nat}{a0:K9}{a1:Int}{r:(Lh×Bool)}(h:jC N a0 a1=some r):Okc Tryz.prog 215 [pV B1 0,iV a1] ([bd B1 205 [U A2 n2 c2,.map (some M3)],tN A2 n2 c2 a0.shapes_,iM aL dE M3 a0.next_]) (fun u post=>u=.tuple #[(zp r.1),.bool r.2]∧post=[]):=by
 refine bB Tryz.func215 J J ?_;simp only [ba];refine W ?_;refine gD (aM pA J) ?_;rintro _ _ ⟨B4,rfl,rfl⟩;refine W ?_;refine aB ?_;refine W ?_;obtain ⟨y5,hy5,h⟩:=aa h;refine gD (ap (kz hy5) zL J (hJ (aq (i:=1) J J) (hJ (aq (i:=2) J J) (hJ (aq (i:=3) J J) ai))) jk) ?_;rintro _ _ ⟨_,⟨rfl,rfl⟩,rfl⟩;refine W ?_;refine av J (fun g6=> ?_) (fun g6=> ?_)
 ·replace h:=ad g6 h;refine W ?_;refine gE (bg J (FH)) ?_;refine gO (aw (us:=[iV 0,iV 0,iV 0,.string (⟨#[]⟩),iV 0,iV 0]) (cs':=[iV 0,iV 0,iV 0,.string (⟨#[]⟩),iV 0,iV 0]) 0 J J J J dJ J J J) ?_;rintro _ _ rfl;refine W ?_;obtain rfl:=ao h;exact cG (rs:=[.cell 4 201,.tmp 5]) (vs:=[.agg #[iV 0,iV 0,iV 0,.string (⟨#[]⟩),iV 0,iV 0],.bool false]) J (.cons (bA 0 J J oZ) (.cons (dN J) .nil)) J (cS [] 4) ⟨J,J⟩
 replace h:=ae g6 h;refine W ?_;refine gR (cI 1 J J nI J) ?_;refine W ?_;obtain ⟨x7,hx7,h⟩:=aa h;obtain ⟨lx7,ux7,hx7⟩:=aJ hx7;refine gR (bn 2 J aQ J J KP dJ lx7 ux7) ?_;refine gR (br (us:=eJ x7) 2 J aQ J hx7 oZ (fun _ _ _ h=>by rw [show _=_ from h];rfl)) ?_;refine gO (aw (us:=eJ x7) (cs':=eJ x7) 0 J J J J dJ J J J) ?_;rintro _ _ rfl;refine W ?_;obtain rfl:=ao h;exact cG (rs:=[.cell 4 201,.tmp 5]) (vs:=[(zp x7),.bool true]) J (.cons (bA 0 J J oZ) (.cons (dN J) .nil)) J (cS [] 4) ⟨J,J⟩
theorem rF {r:(Lh×Bool)}: ∀v post,((fun (u:Value) (post:List Chunk)=>u=.tuple #[(zp r.1),.bool r.2]∧post=[])) v post→ ∀c∈post,cF c:=by
 rintro _ _ ⟨rfl,rfl⟩;exact ai
def d4 (N:Nat)(a0:K9)(a1:Int):Option Int:=
 (jC N a0 a1).bind fun y4=>some y4.1.Len
theorem kA {N:Nat}{a0:K9}{a1:Int}{r:Int}(h:d4 N a0 a1=some r):Okc Tryz.prog 173 [pV B1 0,iV a1] ([bd B1 205 [U A2 n2 c2,.map (some M3)],tN A2 n2 c2 a0.shapes_,iM aL dE M3 a0.next_]) (fun u post=>u=iV r∧post=[]):=by
 refine bB Tryz.func173 J J ?_;simp only [ba];refine W ?_;obtain ⟨y4,hy4,h⟩:=aa h;refine gD (ap (sx hy4) Hj J (hJ (aq (i:=0) J J) (hJ (aq (i:=1) J J) (hJ (aq (i:=2) J J) ai))) rF) ?_;rintro _ _ ⟨_,⟨rfl,rfl⟩,rfl⟩;refine W ?_;refine gD (aM pA J) ?_;rintro _ _ ⟨B5,rfl,rfl⟩;refine gO (aw (us:=eJ y4.1) (cs':=eJ y4.1) 0 J J J J dJ J J J) ?_;rintro _ _ rfl;refine W ?_;obtain rfl:=ao h;exact aO J J (cS [] 4) ⟨J,J⟩
theorem jm {r:Int}: ∀v post,((fun (u:Value) (post:List Chunk)=>u=iV r∧post=[])) v post→ ∀c∈post,cF c:=by
 rintro _ _ ⟨rfl,rfl⟩;exact ai
def nD (N:Nat)(p8:(List Lh)):Option (List Lh):=
 some p8
def gY (N:Nat)(a0:K9):Nat→Int→(List Lh)→Int→Option (List Lh)
 |0,_,_,_=>none
 |m10+1,p11,p12,p13=>bif decide (0≤p13) then ((bE a0.shapes_ p11).bind fun x15=>(bE p12 p13).bind fun x16=>(bE (List.set p12 p13.toNat (⟨x15.Up,(⟨x15.Key.Kind,x15.Key.N,x15.Key.S⟩:Lj),x15.Attrs,x15.Len⟩:Lh)) p13).bind fun x17=>cV (bC (p13 - 1)) ((gY N a0 m10) x17.Up (List.set p12 p13.toNat (⟨x15.Up,(⟨x15.Key.Kind,x15.Key.N,x15.Key.S⟩:Lj),x15.Attrs,x15.Len⟩:Lh)) (p13 - 1))) else (nD N p12)
def eG (N:Nat)(a0:K9)(a1:Int):Option (List Lh):=
 (d4 N a0 a1).bind fun y4=>cV (0≤y4∧y4≤1000000) (cV (bC (((List.replicate y4.toNat (⟨0,(⟨0,0,⟨#[]⟩⟩:Lj),0,0⟩:Lh)).length:Int) - 1)) (gY N a0 N a1 (List.replicate y4.toNat (⟨0,(⟨0,0,⟨#[]⟩⟩:Lj),0,0⟩:Lh)) (((List.replicate y4.toNat (⟨0,(⟨0,0,⟨#[]⟩⟩:Lj),0,0⟩:Lh)).length:Int) - 1)))
theorem iF {N:Nat}{a0:K9}{a1:Int}{r:(List Lh)}(h:eG N a0 a1=some r):Okc Tryz.prog 168 [pV B1 0,iV a1] ([bd B1 205 [U A2 n2 c2,.map (some M3)],tN A2 n2 c2 a0.shapes_,iM aL dE M3 a0.next_]) (fun u post=> ∃A0 n0 c0,u=U A0 n0 c0∧post=[d6 A0 n0 c0 r]):=by
 refine bB Tryz.func168 J J ?_;simp only [ba];refine W ?_;obtain ⟨y4,hy4,h⟩:=aa h;refine gD (ap (kA hy4) zQ J (hJ (aq (i:=0) J J) (hJ (aq (i:=1) J J) (hJ (aq (i:=2) J J) ai))) jm) ?_;rintro _ _ ⟨_,⟨rfl,rfl⟩,rfl⟩;obtain ⟨q5,h⟩:=aA h;refine gD (Gr (R:=rj) (zl:=[iV 0,iV 0,iV 0,.string (⟨#[]⟩),iV 0,iV 0]) (x0:=(⟨0,(⟨0,0,⟨#[]⟩⟩:Lj),0,0⟩:Lh)) J J KP J J J J J (by decide) (fun _ _=>J) q5) ?_;rintro _ _ ⟨A6,n6,c6,rfl,rfl⟩;refine W ?_;refine bc (fun s L=> ∃p8 A8 n8 c8,nD N p8=some r∧s=[(4,U none 0 0),(5,U A8 n8 c8)]∧L=[d6 A8 n8 c8 p8]) ?_ ?_
 ·refine W ?_;refine gR (bJ 0 J aC J KP) ?_;obtain ⟨q9,h⟩:=aA h;refine gE (dC J J q9.1 q9.2) ?_;refine W ?_;refine cv (fun m s L=> ∃p11 p12 p13 A12 n12 c12,gY N a0 m p11 p12 p13=some r∧s=[(0,pV B1 0),(1,iV p11),(4,U none 0 0),(5,U A12 n12 c12),(6,iV p13)]∧L=[d6 A12 n12 c12 p12,tN A2 n2 c2 a0.shapes_,iM aL dE M3 a0.next_,bd B1 205 [U A2 n2 c2,.map (some M3)]]) N _ _ ⟨a1,List.replicate y4.toNat (⟨0,(⟨0,0,⟨#[]⟩⟩:Lj),0,0⟩:Lh),((List.replicate y4.toNat (⟨0,(⟨0,0,⟨#[]⟩⟩:Lj),0,0⟩:Lh)).length:Int) - 1,A6,n6,c6,h,J,J⟩ sA (cS [0,2,3,1] 4) ?_;rintro (_|m10) _ _ ⟨p11,p12,p13,A12,n12,c12,h,rfl,rfl⟩
  ·exact bq h
  rw [gY.eq_2] at h;refine aB ?_;refine W ?_;refine av J (fun g14=> ?_) (fun g14=> ?_)
  ·replace h:=ad g14 h;refine W ?_;refine aB ?_;refine W ?_;refine gR (cI 3 J J nI J) ?_;refine W ?_;obtain ⟨x15,hx15,h⟩:=aa h;obtain ⟨lx15,ux15,hx15⟩:=aJ hx15;refine gR (bn 1 J aQ J J KP dJ lx15 ux15) ?_;refine gR (br (us:=eJ x15) 1 J aQ J hx15 oZ (fun _ _ _ h=>by rw [show _=_ from h];rfl)) ?_;obtain ⟨x16,hx16,h⟩:=aa h;obtain ⟨lx16,ux16,hx16⟩:=aJ hx16;refine gR (bn 0 J aC J J KP dJ lx16 ux16) ?_;refine gO (cR (us:=eJ x15) (z:=(⟨x15.Up,(⟨x15.Key.Kind,x15.Key.N,x15.Key.S⟩:Lj),x15.Attrs,x15.Len⟩:Lh)) 0 J J J J dJ J (toNat_lt lx16 ux16) J (fun S w vs xk hk hr ho=>by obtain rfl:=Option.some.inj (hk.symm.trans hx16);rw [show _=_ from hr];rfl)) ?_;rintro _ _ rfl;refine W ?_;obtain ⟨x17,hx17,h⟩:=aa h;obtain ⟨lx17,ux17,hx17⟩:=aJ hx17;refine gR (bn 0 J aC J J KP dJ lx17 ux17) ?_;refine gR (pE 0 J aC J (toNat_lt lx17 ux17) sZ) ?_;refine gR (eV (u:=iV x17.Up) 0 J aC J hx17 dH (fun _ _ _ h=>by rw [show _=_ from h];rfl)) ?_;refine W ?_;obtain ⟨q18,h⟩:=aA h;refine gE (dC J J q18.1 q18.2) ?_;refine W ?_;exact ⟨m10,_,_,Lo _,⟨x17.Up,List.set p12 p13.toNat (⟨x15.Up,(⟨x15.Key.Kind,x15.Key.N,x15.Key.S⟩:Lj),x15.Attrs,x15.Len⟩:Lh),p13 - 1,A12,n12,c12,h,J,J⟩,sA,cS [0,1,2,3] 4⟩
  replace h:=ae g14 h;refine W ?_;exact ⟨_,_,⟨p12,A12,n12,c12,h,J,J⟩,sA,cS [0] 4⟩
 rintro _ _ ⟨p8,A8,n8,c8,h,rfl,rfl⟩;refine W ?_;obtain rfl:=ao h;exact aO J J (cS [0] 1) ⟨_,_,_,J,J⟩
theorem gH {r:(List Lh)}: ∀v post,((fun (u:Value) (post:List Chunk)=> ∃A0 n0 c0,u=U A0 n0 c0∧post=[d6 A0 n0 c0 r])) v post→ ∀c∈post,cF c:=by
 rintro _ _ ⟨_,_,_,rfl,rfl⟩;exact hJ fz (ai)
def mi (N:Nat)(p5:(List Int)):Option (List Int):=
 some p5
def gL (N:Nat)(y6:((List Lh))):Nat→(List Int)→Int→Option (List Int)
 |0,_,_=>none
 |m8+1,p9,p10=>bif decide (p10<(y6.length:Int)) then ((bE y6 p10).bind fun x13=>cV (gv (p9.length+([x13.Attrs]:List Int).length)) (cV (bC (p10+1)) ((gL N y6 m8) (p9++([x13.Attrs]:List Int)) (p10+1)))) else (mi N p9)
def fN (N:Nat)(a0:K9)(a1:Int):Option (List Int):=
 (eG N a0 a1).bind fun y6=>gL N y6 N [] 0
theorem qq {N:Nat}{a0:K9}{a1:Int}{r:(List Int)}(h:fN N a0 a1=some r):Okc Tryz.prog 158 [pV B1 0,iV a1] ([bd B1 205 [U A2 n2 c2,.map (some M3)],tN A2 n2 c2 a0.shapes_,iM aL dE M3 a0.next_]) (fun u post=> ∃A0 n0 c0,u=U A0 n0 c0∧post=[dn (mA .i64) 3 (U A0 n0 c0) r]):=by
 refine bB Tryz.func158 J J ?_;simp only [ba];refine W ?_;refine bc (fun s L=> ∃p5 A5 n5 c5,mi N p5=some r∧s=[(4,U none 0 0),(5,U A5 n5 c5)]∧L=[dn (mA .i64) 3 (U A5 n5 c5) p5]) ?_ ?_
 ·refine W ?_;obtain ⟨y6,hy6,h⟩:=aa h;refine gD (ap (iF hy6) vm J (hJ (aq (i:=0) J J) (hJ (aq (i:=1) J J) (hJ (aq (i:=2) J J) ai))) gH) ?_;rintro _ _ ⟨_,⟨A7,n7,c7,rfl,rfl⟩,rfl⟩;refine gR (bJ 0 J aC J KP) ?_;refine W ?_;refine cv (fun m s L=> ∃p9 p10 A9 n9 c9,gL N y6 m p9 p10=some r∧s=[(4,U none 0 0),(5,U A9 n9 c9),(10,U A7 n7 c7),(11,iV (y6.length:Int)),(12,iV p10)]∧L=[dn (mA .i64) 3 (U A9 n9 c9) p9,d6 A7 n7 c7 y6]) N _ _ ⟨[],0,none,0,0,h,J,J⟩ sA ((gy (mA .i64) 3 _).trans (cS [0,1] 5)) ?_;rintro (_|m8) _ _ ⟨p9,p10,A9,n9,c9,h,rfl,rfl⟩
  ·exact bq h
  rw [gL.eq_2] at h;refine W ?_;refine aB ?_;refine av J (fun g12=> ?_) (fun g12=> ?_)
  ·replace h:=ad g12 h;refine W ?_;refine aB ?_;refine W ?_;obtain ⟨x13,hx13,h⟩:=aa h;obtain ⟨lx13,ux13,hx13⟩:=aJ hx13;refine gR (bn 1 J aC J J KP dJ lx13 ux13) ?_;refine gR (br (us:=eJ x13) 1 J aC J hx13 oZ (fun _ _ _ h=>by rw [show _=_ from h];rfl)) ?_;refine gD (aM pA J) ?_;rintro _ _ ⟨B14,rfl,rfl⟩;refine gO (aw (us:=eJ x13) (cs':=eJ x13) 0 J J J J dJ J J J) ?_;rintro _ _ rfl;refine W ?_;refine gD (ce (R:=(mA .i64)) (vss:=[[iV x13.Attrs]]) (xs:=[x13.Attrs]) J (yx _) J J (fun _ _ hr=> .cons J All2.nil)) ?_;rintro _ _ ⟨A15,n15,c15,rfl,rfl⟩;obtain ⟨q16,h⟩:=aA h;refine gD (ew 2 0 J J aC J J KQ J4 J J q16) ?_;rintro _ _ ⟨A17,n17,c17,rfl,rfl⟩;refine W ?_;obtain ⟨q18,h⟩:=aA h;refine gE (bF J J q18.1 q18.2) ?_;refine W ?_;exact ⟨m8,_,_,Lo _,⟨p9++([x13.Attrs]:List Int),p10+1,A17,n17,c17,h,J,J⟩,sA,cS [2,3] 4⟩
  replace h:=ae g12 h;refine W ?_;exact ⟨_,_,⟨p9,A9,n9,c9,h,J,J⟩,sA,cS [0] 2⟩
 rintro _ _ ⟨p5,A5,n5,c5,h,rfl,rfl⟩;refine W ?_;obtain rfl:=ao h;exact aO J J (cS [0] 1) ⟨_,_,_,J,J⟩
theorem pD {r:(List Int)}: ∀v post,((fun (u:Value) (post:List Chunk)=> ∃A0 n0 c0,u=U A0 n0 c0∧post=[dn (mA .i64) 3 (U A0 n0 c0) r])) v post→ ∀c∈post,cF c:=by
 rintro _ _ ⟨_,_,_,rfl,rfl⟩;exact hJ fz (ai)
def mQ (N:Nat)(p5:(List Lj)):Option (List Lj):=
 some p5
def ia (N:Nat)(y6:((List Lh))):Nat→(List Lj)→Int→Option (List Lj)
 |0,_,_=>none
 |m8+1,p9,p10=>bif decide (p10<(y6.length:Int)) then ((bE y6 p10).bind fun x13=>cV (gv (p9.length+([x13.Key]:List Lj).length)) (cV (bC (p10+1)) ((ia N y6 m8) (p9++([x13.Key]:List Lj)) (p10+1)))) else (mQ N p9)
def ej (N:Nat)(a0:K9)(a1:Int):Option (List Lj):=
 (eG N a0 a1).bind fun y6=>ia N y6 N [] 0
theorem mP {N:Nat}{a0:K9}{a1:Int}{r:(List Lj)}(h:ej N a0 a1=some r):Okc Tryz.prog 124 [pV B1 0,iV a1] ([bd B1 205 [U A2 n2 c2,.map (some M3)],tN A2 n2 c2 a0.shapes_,iM aL dE M3 a0.next_]) (fun u post=> ∃A0 n0 c0,u=U A0 n0 c0∧post=[jh A0 n0 c0 r]):=by
 refine bB Tryz.func124 J J ?_;simp only [ba];refine W ?_;refine bc (fun s L=> ∃p5 A5 n5 c5,mQ N p5=some r∧s=[(4,U none 0 0),(5,U A5 n5 c5)]∧L=[jh A5 n5 c5 p5]) ?_ ?_
 ·refine W ?_;obtain ⟨y6,hy6,h⟩:=aa h;refine gD (ap (iF hy6) vm J (hJ (aq (i:=0) J J) (hJ (aq (i:=1) J J) (hJ (aq (i:=2) J J) ai))) gH) ?_;rintro _ _ ⟨_,⟨A7,n7,c7,rfl,rfl⟩,rfl⟩;refine gR (bJ 0 J aC J KP) ?_;refine W ?_;refine cv (fun m s L=> ∃p9 p10 A9 n9 c9,ia N y6 m p9 p10=some r∧s=[(4,U none 0 0),(5,U A9 n9 c9),(10,U A7 n7 c7),(11,iV (y6.length:Int)),(12,iV p10)]∧L=[jh A9 n9 c9 p9,d6 A7 n7 c7 y6]) N _ _ ⟨[],0,none,0,0,h,J,J⟩ sA ((gy jP 24 _).trans (cS [0,1] 5)) ?_;rintro (_|m8) _ _ ⟨p9,p10,A9,n9,c9,h,rfl,rfl⟩
  ·exact bq h
  rw [ia.eq_2] at h;refine W ?_;refine aB ?_;refine av J (fun g12=> ?_) (fun g12=> ?_)
  ·replace h:=ad g12 h;refine W ?_;refine aB ?_;refine W ?_;obtain ⟨x13,hx13,h⟩:=aa h;obtain ⟨lx13,ux13,hx13⟩:=aJ hx13;refine gR (bn 1 J aC J J KP dJ lx13 ux13) ?_;refine gR (br (us:=eJ x13) 1 J aC J hx13 oZ (fun _ _ _ h=>by rw [show _=_ from h];rfl)) ?_;refine gD (aM pA J) ?_;rintro _ _ ⟨B14,rfl,rfl⟩;refine gO (aw (us:=eJ x13) (cs':=eJ x13) 0 J J J J dJ J J J) ?_;rintro _ _ rfl;refine W ?_;refine gR (aj (us:=cn x13.Key) 0 J J bI J) ?_;refine gD (ce (R:=jP) (vss:=[(cn x13.Key)]) (xs:=[x13.Key]) J (qU _ _ _) J J (fun _ _ hr=> .cons J All2.nil)) ?_;rintro _ _ ⟨A15,n15,c15,rfl,rfl⟩;obtain ⟨q16,h⟩:=aA h;refine gD (ew 2 0 J J aC J J KR Es J J q16) ?_;rintro _ _ ⟨A17,n17,c17,rfl,rfl⟩;refine W ?_;obtain ⟨q18,h⟩:=aA h;refine gE (bF J J q18.1 q18.2) ?_;refine W ?_;exact ⟨m8,_,_,Lo _,⟨p9++([x13.Key]:List Lj),p10+1,A17,n17,c17,h,J,J⟩,sA,cS [2,3] 4⟩
  replace h:=ae g12 h;refine W ?_;exact ⟨_,_,⟨p9,A9,n9,c9,h,J,J⟩,sA,cS [0] 2⟩
 rintro _ _ ⟨p5,A5,n5,c5,h,rfl,rfl⟩;refine W ?_;obtain rfl:=ao h;exact aO J J (cS [0] 1) ⟨_,_,_,J,J⟩
theorem lG {r:(List Lj)}: ∀v post,((fun (u:Value) (post:List Chunk)=> ∃A0 n0 c0,u=U A0 n0 c0∧post=[jh A0 n0 c0 r])) v post→ ∀c∈post,cF c:=by
 rintro _ _ ⟨_,_,_,rfl,rfl⟩;exact hJ fz (ai)
def i4 (N:Nat)(a2:Lj)(a3:Int)(p28:Int)(p29:Int)(p30:ByteArray)(p31:Int)(p32:Int)(p33:ByteArray):Option K4:=
 some (⟨a2,a3,(⟨0,0,⟨#[]⟩⟩:Lf),(⟨p28,p29,p30⟩:Lf),(⟨p31,p32,p33⟩:Lf)⟩:K4)
def dW (N:Nat)(a0:K6)(a1:Int)(a2:Lj)(a3:Int):Option K4:=
 cV (bC (a1+1)) (bif decide ((a0.Cell.Slots.length:Int)≤a1+1) then (some (⟨a2,a3,(⟨0,0,⟨#[]⟩⟩:Lf),(⟨0,0,⟨#[]⟩⟩:Lf),(⟨0,0,⟨#[]⟩⟩:Lf)⟩:K4)) else (cV (bC (a1+1)) ((bE a0.Cell.Slots (a1+1)).bind fun x24=>bif decide (aF .i64 a3 8=0) then (some (⟨a2,a3,x24,(⟨0,0,⟨#[]⟩⟩:Lf),(⟨0,0,⟨#[]⟩⟩:Lf)⟩:K4)) else ((bM N a0.w_ x24).bind fun y34=>bif decide ((y34.Slots.length:Int)=2) then ((bE y34.Slots 0).bind fun x42=>(bE y34.Slots 1).bind fun x43=>i4 N a2 a3 x42.Kind x42.N x42.S x43.Kind x43.N x43.S) else (i4 N a2 a3 0 0 (⟨#[]⟩) 0 0 (⟨#[]⟩))))))
set_option maxHeartbeats 4000000 in
theorem mo {N:Nat}{a0:K6}{a1:Int}{a2:Lj}{a3:Int}{r:K4}(h:dW N a0 a1 a2 a3=some r):Okc Tryz.prog 159 [pV B1 0,iV a1,(gk a2),iV a3] ([bd B1 140 [iV a0.Cell.Kind,iV a0.Cell.Shape,iV a0.Cell.Flags,iV a0.Cell.Age,U A2 n2 c2,U A3 n3 c3,pV B4 0,iV a0.at_.Kind,iV a0.at_.N,.string a0.at_.S],dK A2 n2 c2 a0.Cell.Slots,dK A3 n3 c3 a0.Cell.More,bd B4 151 (fE a0.w_ B5 B12 A15 n15 c15 A16 n16 c16 A17 n17 c17),bd B5 199 [U A6 n6 c6,U A7 n7 c7,U A8 n8 c8,U A9 n9 c9,pV B10 0],qm A6 n6 c6 a0.w_.heap_.m_.Young,qm A7 n7 c7 a0.w_.heap_.m_.Old,dK A8 n8 c8 a0.w_.heap_.roots_,dK A9 n9 c9 a0.w_.heap_.pending_,bd B10 247 [.map (some M11)],iM dG dL M11 a0.w_.heap_.set_.at_,bd B12 205 [U A13 n13 c13,.map (some M14)],tN A13 n13 c13 a0.w_.shapes_.shapes_,iM aL dE M14 a0.w_.shapes_.next_,bw A15 n15 c15 a0.w_.symbols_,dr A16 n16 c16 a0.w_.events_,bw A17 n17 c17 a0.w_.out_]) (fun u post=>u=(cU r)∧post=[]):=by
 refine bB Tryz.func159 J J ?_;simp only [ba];refine W ?_;refine gD (aT J J) ?_;rintro _ _ ⟨B18,rfl,rfl⟩;refine gD (aM fq J) ?_;rintro _ _ ⟨B19,rfl,rfl⟩;refine W ?_;refine gR (aj (us:=cn a2) 1 J J bI J) ?_;refine W ?_;refine gE (bg J (Cr _ _ _ _)) ?_;refine gD (aM fq J) ?_;rintro _ _ ⟨B20,rfl,rfl⟩;refine gO (aw (us:=[iV a2.Kind,iV a2.N,.string a2.S,iV a3,iV 0,iV 0,.string (⟨#[]⟩),iV 0,iV 0,.string (⟨#[]⟩),iV 0,iV 0,.string (⟨#[]⟩)]) (cs':=[iV a2.Kind,iV a2.N,.string a2.S,iV a3,iV 0,iV 0,.string (⟨#[]⟩),iV 0,iV 0,.string (⟨#[]⟩),iV 0,iV 0,.string (⟨#[]⟩)]) 0 J J J J dh J J J) ?_;rintro _ _ rfl;refine W ?_;refine aB ?_;refine W ?_;obtain ⟨q21,h⟩:=aA h;refine gE (bF J J q21.1 q21.2) ?_;refine W ?_;refine gR (cI 3 J J gW J) ?_;refine gR (bJ 4 J aQ J hU) ?_;refine W ?_;refine av J (fun g22=> ?_) (fun g22=> ?_)
 ·replace h:=ad g22 h;refine W ?_;refine gR (aj (us:=[iV a2.Kind,iV a2.N,.string a2.S,iV a3,iV 0,iV 0,.string (⟨#[]⟩),iV 0,iV 0,.string (⟨#[]⟩),iV 0,iV 0,.string (⟨#[]⟩)]) 0 J J eM J) ?_;refine gO (aw (us:=[iV a2.Kind,iV a2.N,.string a2.S,iV a3,iV 0,iV 0,.string (⟨#[]⟩),iV 0,iV 0,.string (⟨#[]⟩),iV 0,iV 0,.string (⟨#[]⟩)]) (cs':=[iV a2.Kind,iV a2.N,.string a2.S,iV a3,iV 0,iV 0,.string (⟨#[]⟩),iV 0,iV 0,.string (⟨#[]⟩),iV 0,iV 0,.string (⟨#[]⟩)]) 1 J J J J dh J J J) ?_;rintro _ _ rfl;refine W ?_;obtain rfl:=ao h;exact cG (rs:=[.cell 8 42]) (vs:=[.agg #[iV a2.Kind,iV a2.N,.string a2.S,iV a3,iV 0,iV 0,.string (⟨#[]⟩),iV 0,iV 0,.string (⟨#[]⟩),iV 0,iV 0,.string (⟨#[]⟩)]]) J (.cons (bA 1 J J eM) .nil) J (cS [] 20) ⟨J,J⟩
 replace h:=ae g22 h;refine W ?_;refine gR (cI 3 J J gW J) ?_;refine W ?_;obtain ⟨q23,h⟩:=aA h;refine gE (bF J J q23.1 q23.2) ?_;obtain ⟨x24,hx24,h⟩:=aa h;obtain ⟨lx24,ux24,hx24⟩:=aJ hx24;refine gR (bn 4 J aQ J J hU be lx24 ux24) ?_;refine gR (br (us:=[iV x24.Kind,iV x24.N,.string x24.S]) 4 J aQ J hx24 aN (fun _ _ _ h=>by rw [show _=_ from h];rfl)) ?_;refine gD (aM eA J) ?_;rintro _ _ ⟨B25,rfl,rfl⟩;refine gO (aw (us:=[iV x24.Kind,iV x24.N,.string x24.S]) (cs':=[iV x24.Kind,iV x24.N,.string x24.S]) 0 J J J J be J J J) ?_;rintro _ _ rfl;refine bG ?_;refine W ?_;refine aB ?_;refine W ?_;refine gE (bR J J) ?_;refine W ?_;refine av J (fun g26=> ?_) (fun g26=> ?_)
 ·replace h:=ad g26 h;refine W ?_;refine gR (aj (us:=[iV x24.Kind,iV x24.N,.string x24.S]) 0 J J aN J) ?_;refine W ?_;refine gO (aw (us:=[iV x24.Kind,iV x24.N,.string x24.S]) (cs':=[iV a2.Kind,iV a2.N,.string a2.S,iV a3,iV x24.Kind,iV x24.N,.string x24.S,iV 0,iV 0,.string (⟨#[]⟩),iV 0,iV 0,.string (⟨#[]⟩)]) 1 J J J J be J J J) ?_;rintro _ _ rfl;refine W ?_;refine gR (aj (us:=[iV a2.Kind,iV a2.N,.string a2.S,iV a3,iV x24.Kind,iV x24.N,.string x24.S,iV 0,iV 0,.string (⟨#[]⟩),iV 0,iV 0,.string (⟨#[]⟩)]) 1 J J eM J) ?_;refine gO (aw (us:=[iV a2.Kind,iV a2.N,.string a2.S,iV a3,iV x24.Kind,iV x24.N,.string x24.S,iV 0,iV 0,.string (⟨#[]⟩),iV 0,iV 0,.string (⟨#[]⟩)]) (cs':=[iV a2.Kind,iV a2.N,.string a2.S,iV a3,iV x24.Kind,iV x24.N,.string x24.S,iV 0,iV 0,.string (⟨#[]⟩),iV 0,iV 0,.string (⟨#[]⟩)]) 2 J J J J dh J J J) ?_;rintro _ _ rfl;refine W ?_;obtain rfl:=ao h;exact cG (rs:=[.cell 8 42]) (vs:=[.agg #[iV a2.Kind,iV a2.N,.string a2.S,iV a3,iV x24.Kind,iV x24.N,.string x24.S,iV 0,iV 0,.string (⟨#[]⟩),iV 0,iV 0,.string (⟨#[]⟩)]]) J (.cons (bA 2 J J eM) .nil) J (cS [] 21) ⟨J,J⟩
 replace h:=ae g26 h;refine W ?_;refine bc (fun s L=> ∃p28 p29 p30 p31 p32 p33,i4 N a2 a3 p28 p29 p30 p31 p32 p33=some r∧s=[(8,pV B19 0),(9,pV B20 0)]∧L=[al B19 42 [iV 0,iV 0,.string (⟨#[]⟩),iV 0,iV 0,iV 0,.string (⟨#[]⟩),iV 0,iV 0,.string (⟨#[]⟩),iV 0,iV 0,.string (⟨#[]⟩)],al B20 42 [iV a2.Kind,iV a2.N,.string a2.S,iV a3,iV 0,iV 0,.string (⟨#[]⟩),iV p28,iV p29,.string p30,iV p31,iV p32,.string p33]]) ?_ ?_
 ·refine aB ?_;obtain ⟨y34,hy34,h⟩:=aa h;refine jf (t:=[(0,pV B1 0),(8,pV B19 0),(9,pV B20 0),(10,pV B25 0)]) ?_ lD (ac _)
  refine jg O 7 [] [5,6] [40,41,42,43,44,45,11] [[],[0],[1],[2],[],[3,4],[]] [aV (pV B1 0),
aV (pV B1 0),
aV (pV B1 6),
aV (pV B4 0),
aV (.agg #[iV x24.Kind,iV x24.N,.string x24.S]),
aX6 (fun (A37:Option Addr) (n37 c37:Nat) (A38:Option Addr) (n38 c38:Nat)=> .agg #[iV y34.Kind,iV y34.Shape,iV y34.Flags,iV y34.Age,U A37 n37 c37,U A38 n38 c38]) (fun A37 n37 c37 A38 n38 c38=> [bh A37 n37 c37 y34.Slots,bh A38 n38 c38 y34.More]),
aX1 (fun (B40:Nat)=>pV B40 0) (fun B40=> [al B40 138 [iV 0,iV 0,iV 0,iV 0,U none 0 0,U none 0 0]])] [] (ac _) (la) O rfl rfl ?_ ?_ ?_
  ·exact kZ
  ·refine am J ?_ ?_
   ·refine o0 (aM gC J) J ?_;rintro _ _ ⟨B39,rfl,rfl⟩;exact GZ B39 (ac _)
   refine am J ?_ ?_
   ·refine o0 (ap (ic hy34) vu J (hJ (aq (i:=7) J J) (hJ (aq (i:=8) J J) (hJ (aq (i:=9) J J) (hJ (aq (i:=10) J J) (hJ (aq (i:=11) J J) (hJ (aq (i:=12) J J) (hJ (aq (i:=13) J J) (hJ (aq (i:=14) J J) (hJ (aq (i:=15) J J) (hJ (aq (i:=16) J J) (hJ (aq (i:=17) J J) (hJ (aq (i:=18) J J) (hJ (aq (i:=19) J J) (hJ (aq (i:=20) J J) ai)))))))))))))) gr) J ?_;rintro _ _ ⟨_,⟨A35,n35,c35,A36,n36,c36,rfl,rfl⟩,rfl⟩;exact JU A35 n35 c35 A36 n36 c36 (ac _)
   refine am J ?_ ?_
   ·exact gn (aj (us:=[iV x24.Kind,iV x24.N,.string x24.S]) 0 J J aN J) J (bf J (ac _))
   refine am J ?_ ?_
   ·exact gn (cI 4 J J uq J) J (bf J (ac _))
   refine am J ?_ ?_
   ·exact bX (bT J nQ) J (bf J (ac _))
   refine am J ?_ ?_
   ·exact bX (aX J) J (bf J (ac _))
   refine am J ?_ ?_
   ·exact bX (au J) J (bf J (ac _))
   exact fG
  intro A37 n37 c37 A38 n38 c38 B40;refine nY (t:=[(45,.agg #[iV y34.Kind,iV y34.Shape,iV y34.Flags,iV y34.Age,U A37 n37 c37,U A38 n38 c38]),(11,pV B40 0),(0,pV B1 0),(8,pV B19 0),(9,pV B20 0),(10,pV B25 0)]) (L':=[bh A37 n37 c37 y34.Slots,bh A38 n38 c38 y34.More,al B40 138 [iV 0,iV 0,iV 0,iV 0,U none 0 0,U none 0 0],al B25 30 [iV x24.Kind,iV x24.N,.string x24.S],al B20 42 [iV a2.Kind,iV a2.N,.string a2.S,iV a3,iV 0,iV 0,.string (⟨#[]⟩),iV 0,iV 0,.string (⟨#[]⟩),iV 0,iV 0,.string (⟨#[]⟩)],al B19 42 [iV 0,iV 0,.string (⟨#[]⟩),iV 0,iV 0,iV 0,.string (⟨#[]⟩),iV 0,iV 0,.string (⟨#[]⟩),iV 0,iV 0,.string (⟨#[]⟩)],al B18 24 (cn a2),bd B1 140 [iV a0.Cell.Kind,iV a0.Cell.Shape,iV a0.Cell.Flags,iV a0.Cell.Age,U A2 n2 c2,U A3 n3 c3,pV B4 0,iV a0.at_.Kind,iV a0.at_.N,.string a0.at_.S],dK A2 n2 c2 a0.Cell.Slots,dK A3 n3 c3 a0.Cell.More,bd B4 151 (fE a0.w_ B5 B12 A15 n15 c15 A16 n16 c16 A17 n17 c17),bd B5 199 [U A6 n6 c6,U A7 n7 c7,U A8 n8 c8,U A9 n9 c9,pV B10 0],qm A6 n6 c6 a0.w_.heap_.m_.Young,qm A7 n7 c7 a0.w_.heap_.m_.Old,dK A8 n8 c8 a0.w_.heap_.roots_,dK A9 n9 c9 a0.w_.heap_.pending_,bd B10 247 [.map (some M11)],iM dG dL M11 a0.w_.heap_.set_.at_,bd B12 205 [U A13 n13 c13,.map (some M14)],tN A13 n13 c13 a0.w_.shapes_.shapes_,iM aL dE M14 a0.w_.shapes_.next_,bw A15 n15 c15 a0.w_.symbols_,dr A16 n16 c16 a0.w_.events_,bw A17 n17 c17 a0.w_.out_]) ?_ lD (ac _)
  refine nZ 7 J O (aw (us:=[iV y34.Kind,iV y34.Shape,iV y34.Flags,iV y34.Age,U A37 n37 c37,U A38 n38 c38]) (cs':=[iV y34.Kind,iV y34.Shape,iV y34.Flags,iV y34.Age,U A37 n37 c37,U A38 n38 c38]) 2 J J J J dq J J J) J J ?_;rintro _ _ rfl;refine wo ?_;refine lC O ?_;refine W ?_;refine gR (bJ 0 J aC J hU) ?_;refine W ?_;refine av J (fun g41=> ?_) (fun g41=> ?_)
  ·replace h:=ad g41 h;refine bx O ([bh A37 n37 c37 y34.Slots,bh A38 n38 c38 y34.More,al B40 138 [iV y34.Kind,iV y34.Shape,iV y34.Flags,iV y34.Age,U A37 n37 c37,U A38 n38 c38],al B25 30 [iV x24.Kind,iV x24.N,.string x24.S],al B19 42 [iV 0,iV 0,.string (⟨#[]⟩),iV 0,iV 0,iV 0,.string (⟨#[]⟩),iV 0,iV 0,.string (⟨#[]⟩),iV 0,iV 0,.string (⟨#[]⟩)],al B18 24 (cn a2),bd B1 140 [iV a0.Cell.Kind,iV a0.Cell.Shape,iV a0.Cell.Flags,iV a0.Cell.Age,U A2 n2 c2,U A3 n3 c3,pV B4 0,iV a0.at_.Kind,iV a0.at_.N,.string a0.at_.S],dK A2 n2 c2 a0.Cell.Slots,dK A3 n3 c3 a0.Cell.More,bd B4 151 (fE a0.w_ B5 B12 A15 n15 c15 A16 n16 c16 A17 n17 c17),bd B5 199 [U A6 n6 c6,U A7 n7 c7,U A8 n8 c8,U A9 n9 c9,pV B10 0],qm A6 n6 c6 a0.w_.heap_.m_.Young,qm A7 n7 c7 a0.w_.heap_.m_.Old,dK A8 n8 c8 a0.w_.heap_.roots_,dK A9 n9 c9 a0.w_.heap_.pending_,bd B10 247 [.map (some M11)],iM dG dL M11 a0.w_.heap_.set_.at_,bd B12 205 [U A13 n13 c13,.map (some M14)],tN A13 n13 c13 a0.w_.shapes_.shapes_,iM aL dE M14 a0.w_.shapes_.next_,bw A15 n15 c15 a0.w_.symbols_,dr A16 n16 c16 a0.w_.events_,bw A17 n17 c17 a0.w_.out_]) (cS [0,1,2,3,5,6,7,8,9,10,11,12,13,14,15,16,17,18,19,20,21,22,23] 24) ?_;refine zE 0 J (bT J jv) ?_;refine zR 1 J (aW 2 J J gW J) ?_;obtain ⟨x42,hx42,h⟩:=aa h;obtain ⟨lx42,ux42,hx42⟩:=aJ hx42;refine zR 2 J (bn 0 J aC J J hU be lx42 ux42) ?_
   refine zR 3 J (br (us:=[iV x42.Kind,iV x42.N,.string x42.S]) 0 J aC J hx42 aN (fun _ _ _ h=>by rw [show _=_ from h];rfl)) ?_;refine zE 4 J (bT J jv) ?_;refine zR 5 J (aW 2 J J gW J) ?_;obtain ⟨x43,hx43,h⟩:=aa h;obtain ⟨lx43,ux43,hx43⟩:=aJ hx43;refine zR 6 J (bn 0 J aC J J hU be lx43 ux43) ?_;refine zR 7 J (br (us:=[iV x43.Kind,iV x43.N,.string x43.S]) 0 J aC J hx43 aN (fun _ _ _ h=>by rw [show _=_ from h];rfl)) ?_;refine zE 8 J (bT J vc) ?_;refine zO 9 J (aw (us:=[iV x42.Kind,iV x42.N,.string x42.S]) (cs':=[iV a2.Kind,iV a2.N,.string a2.S,iV a3,iV 0,iV 0,.string (⟨#[]⟩),iV x42.Kind,iV x42.N,.string x42.S,iV 0,iV 0,.string (⟨#[]⟩)]) 4 J J J J be J J J) ?_;rintro _ _ rfl;refine cZ (cS [0,1,2,3,5,6,7,8,9,10,11,12,13,14,15,16,17,18,19,20,21,22,23] 24) ?_;refine bZ ?_;refine zE 10 J (bT J vb) ?_;refine zO 11 J (aw (us:=[iV x43.Kind,iV x43.N,.string x43.S]) (cs':=[iV a2.Kind,iV a2.N,.string a2.S,iV a3,iV 0,iV 0,.string (⟨#[]⟩),iV x42.Kind,iV x42.N,.string x42.S,iV x43.Kind,iV x43.N,.string x43.S]) 4 J J J J be J J J) ?_;rintro _ _ rfl;refine cZ (cS [0,1,2,3,5,6,7,8,9,10,11,12,13,14,15,16,17,18,19,20,21,22,23] 24) ?_;refine bZ ?_;refine bj O ?_;refine d8 ?_;exact ⟨_,_,⟨x42.Kind,x42.N,x42.S,x43.Kind,x43.N,x43.S,h,J,J⟩,sA,cS [5,4] 24⟩
  replace h:=ae g41 h;refine W ?_;exact ⟨_,_,⟨0,0,⟨#[]⟩,0,0,⟨#[]⟩,h,J,J⟩,sA,cS [5,4] 24⟩
 rintro _ _ ⟨p28,p29,p30,p31,p32,p33,h,rfl,rfl⟩;refine W ?_;refine gR (aj (us:=[iV a2.Kind,iV a2.N,.string a2.S,iV a3,iV 0,iV 0,.string (⟨#[]⟩),iV p28,iV p29,.string p30,iV p31,iV p32,.string p33]) 1 J J eM J) ?_;refine gO (aw (us:=[iV a2.Kind,iV a2.N,.string a2.S,iV a3,iV 0,iV 0,.string (⟨#[]⟩),iV p28,iV p29,.string p30,iV p31,iV p32,.string p33]) (cs':=[iV a2.Kind,iV a2.N,.string a2.S,iV a3,iV 0,iV 0,.string (⟨#[]⟩),iV p28,iV p29,.string p30,iV p31,iV p32,.string p33]) 0 J J J J dh J J J) ?_;rintro _ _ rfl;refine W ?_;obtain rfl:=ao h;exact cG (rs:=[.cell 8 42]) (vs:=[.agg #[iV a2.Kind,iV a2.N,.string a2.S,iV a3,iV 0,iV 0,.string (⟨#[]⟩),iV p28,iV p29,.string p30,iV p31,iV p32,.string p33]]) J (.cons (bA 0 J J eM) .nil) J (cS [] 2) ⟨J,J⟩
theorem lc {r:K4}: ∀v post,((fun (u:Value) (post:List Chunk)=>u=(cU r)∧post=[])) v post→ ∀c∈post,cF c:=by
 rintro _ _ ⟨rfl,rfl⟩;exact ai
def o7 (N:Nat)(a0:K2)(p39:(List K4)):Option (List K4):=
 some p39
def jF (N:Nat)(y41:((List Lj)))(y36:((List Int)))(y16_1:(K6))(a0:K2):Nat→(List K4)→(List Lj)→Int→Option (List K4)
 |0,_,_,_=>none
 |m44+1,p45,p46,p47=>bif decide (p47<(y41.length:Int)) then ((bE p46 p47).bind fun x50=>(bE y36 p47).bind fun x52=>(dW N (⟨y16_1.Cell,a0,y16_1.at_⟩:K6) p47 x50 x52).bind fun y53=>cV ((p45.length+([y53]:List K4).length)≤549755813888) (cV (bC (p47+1)) ((jF N y41 y36 y16_1 a0 m44) (p45++([y53]:List K4)) p46 (p47+1)))) else (o7 N a0 p45)
def gj (N:Nat)(a0:K2)(a1:Lf):Option (List K4):=
 (db N a0 a1).bind fun y16=>xq y16 (fun y16_0=>some []) (fun y16_1=>(cC N a0).bind fun y35=>(fN N a0.shapes_ y16_1.Cell.Shape).bind fun y36=>(cC N a0).bind fun y40=>(ej N a0.shapes_ y16_1.Cell.Shape).bind fun y41=>jF N y41 y36 y16_1 a0 N [] y41 0)
set_option maxHeartbeats 4000000 in
theorem ko {N:Nat}{a0:K2}{a1:Lf}{r:(List K4)}(h:gj N a0 a1=some r):Okc Tryz.prog 105 [pV B1 0,(bQ a1)] ([bw A12 n12 c12 a0.symbols_,dr A13 n13 c13 a0.events_,bw A14 n14 c14 a0.out_,al B1 151 (fE a0 B2 B9 A12 n12 c12 A13 n13 c13 A14 n14 c14),al B2 199 [U A3 n3 c3,U A4 n4 c4,U A5 n5 c5,U A6 n6 c6,pV B7 0],bL A3 n3 c3 a0.heap_.m_.Young,bL A4 n4 c4 a0.heap_.m_.Old,bh A5 n5 c5 a0.heap_.roots_,bh A6 n6 c6 a0.heap_.pending_,al B7 247 [.map (some M8)],aP dG dL M8 a0.heap_.set_.at_,al B9 205 [U A10 n10 c10,.map (some M11)],d6 A10 n10 c10 a0.shapes_.shapes_,aP aL dE M11 a0.shapes_.next_]) (fun u post=> ∃A500 n500 c500,u=U A500 n500 c500∧post=[dn mB 42 (U A500 n500 c500) r,al B1 151 (fE a0 B2 B9 A12 n12 c12 A13 n13 c13 A14 n14 c14),al B2 199 [U A3 n3 c3,U A4 n4 c4,U A5 n5 c5,U A6 n6 c6,pV B7 0],bL A3 n3 c3 a0.heap_.m_.Young,bL A4 n4 c4 a0.heap_.m_.Old,bh A5 n5 c5 a0.heap_.roots_,bh A6 n6 c6 a0.heap_.pending_,al B7 247 [.map (some M8)],aP dG dL M8 a0.heap_.set_.at_,al B9 205 [U A10 n10 c10,.map (some M11)],d6 A10 n10 c10 a0.shapes_.shapes_,aP aL dE M11 a0.shapes_.next_]):=by
 refine bB Tryz.func105 J J ?_;simp only [ba];refine W ?_;refine gD (aT J J) ?_;rintro _ _ ⟨B15,rfl,rfl⟩;refine W ?_;refine gR (aj (us:=aE a1) 0 J J aN J) ?_;obtain ⟨y16,hy16,h⟩:=aa h;rcases y16 with y16_0|y16_1
 ·replace h:=Ap h;refine gD (aI (cw hy16) jU J (aG [1,2,3] [4,5,6,7,8,9,10,11,12,13,14] [0,1,2,3] 15 J)) ?_;rintro _ _ ⟨_,⟨rfl,rfl⟩,rfl⟩;refine W ?_;refine aB ?_;refine W ?_;refine iW J ?_;refine W ?_;obtain rfl:=ao h;exact aO J J ((gy mB 42 _).trans (cS [0,1,2,3,4,5,6,7,8,9,10,11] 16)) ⟨_,_,_,J,J⟩
 replace h:=Ao h;refine gD (aI (cw hy16) jU J (aG [1,2,3] [4,5,6,7,8,9,10,11,12,13,14] [0,1,2,3] 15 J)) ?_;rintro _ _ ⟨_,⟨B18,A19,n19,c19,A20,n20,c20,rfl,rfl⟩,rfl⟩;refine W ?_;refine aB ?_;refine W ?_;refine iX J ?_;refine W ?_;refine aB ?_;refine bx O _ (ac _) ?_;refine zE 0 J (au J) ?_;refine zE 2 J (au J) ?_;refine zE 3 J (aX J) ?_;refine zE 4 J (dD J fA) ?_;refine zE 5 J (bT J mr) ?_;refine zR 6 J (aW 0 J J dH J) ?_;obtain ⟨y35,hy35,h⟩:=aa h;refine zD 1 J (ap (d5 hy35) rz J (hJ (az (i:=3) J) (hJ (az (i:=4) J) (hJ (ar (i:=5) J) (hJ (ar (i:=6) J) (hJ (ar (i:=7) J) (hJ (ar (i:=8) J) (hJ (az (i:=9) J) (hJ (aU (i:=10) J) (hJ (az (i:=11) J) (hJ (ar (i:=12) J) (hJ (aU (i:=13) J) (hJ (aq (i:=15) J J) (hJ (aq (i:=16) J J) (hJ (aq (i:=17) J J) ai)))))))))))))) dF) ?_;rintro _ _ ⟨_,⟨rfl,rfl⟩,rfl⟩;refine ⟨_,ac _,ac _,?_⟩;obtain ⟨y36,hy36,h⟩:=aa h;refine zD 7 J (ap (qq hy36) Hv J (hJ (az (i:=11) J) (hJ (ar (i:=12) J) (hJ (aU (i:=13) J) ai))) pD) ?_;rintro _ _ ⟨_,⟨A37,n37,c37,rfl,rfl⟩,rfl⟩;refine cZ (cS [1,2,3,4,5,6,7,8,9,10,11,12,13,14,15,16,17,18] 19) ?_;refine zE 8 J (aS J) ?_;refine bj O ?_;refine d8 ?_
 refine bc (fun s L=> ∃p39 A39 n39 c39,o7 N a0 p39=some r∧s=[(4,U none 0 0),(7,U A39 n39 c39)]∧L=[dn mB 42 (U A39 n39 c39) p39,bw A12 n12 c12 a0.symbols_,dr A13 n13 c13 a0.events_,bw A14 n14 c14 a0.out_,al B1 151 (fE a0 B2 B9 A12 n12 c12 A13 n13 c13 A14 n14 c14),bL A3 n3 c3 a0.heap_.m_.Young,bL A4 n4 c4 a0.heap_.m_.Old,bh A5 n5 c5 a0.heap_.roots_,bh A6 n6 c6 a0.heap_.pending_,al B2 199 [U A3 n3 c3,U A4 n4 c4,U A5 n5 c5,U A6 n6 c6,pV B7 0],d6 A10 n10 c10 a0.shapes_.shapes_,aP aL dE M11 a0.shapes_.next_,al B9 205 [U A10 n10 c10,.map (some M11)],aP dG dL M8 a0.heap_.set_.at_,al B7 247 [.map (some M8)]]) ?_ ?_
 ·refine aB ?_;obtain ⟨y40,hy40,h⟩:=aa h;obtain ⟨y41,hy41,h⟩:=aa h;refine jf (t:=[(0,pV B1 0),(4,U none 0 0),(5,pV B18 0),(7,U none 0 0),(8,U A37 n37 c37)]) ?_ lD (ac _)
  refine jg O 10 [] [7,8,9] [27,28,29,30,31,32,33,34,35,36] [[],[0],[],[2],[3],[4],[5],[1,6],[7],[]] [aV (pV B1 0),
aV (pV B9 0),
aV (pV B18 0),
aV (pV B18 0),
aV (pV B18 0),
aV (pV B18 1),
aV (iV y16_1.Cell.Shape),
aX3 (fun (A43:Option Addr) (n43 c43:Nat)=> U A43 n43 c43) (fun A43 n43 c43=> [jh A43 n43 c43 y41]),
aV (iV (y41.length:Int)),
aV (iV 0)] [] (ac _) (la) O rfl rfl ?_ ?_ ?_
  ·exact kZ
  ·refine am J ?_ ?_
   ·exact bX (au J) J (bf J (ac _))
   refine am J ?_ ?_
   ·intro A43 n43 c43;exact gn (bJ 0 J aC J KR) J (bf J (ac _))
   refine am J ?_ ?_
   ·refine o0 (ap (mP hy41) Dr J (hJ (az (i:=12) J) (hJ (ar (i:=13) J) (hJ (aU (i:=14) J) ai))) lG) J ?_;rintro _ _ ⟨_,⟨A42,n42,c42,rfl,rfl⟩,rfl⟩;exact Ed A42 n42 c42 (ac _)
   refine am J ?_ ?_
   ·exact gn (aW 1 J J dH J) J (bf J (ac _))
   refine am J ?_ ?_
   ·exact bX (bT J mr) J (bf J (ac _))
   refine am J ?_ ?_
   ·exact bX (dD J fA) J (bf J (ac _))
   refine am J ?_ ?_
   ·exact bX (aX J) J (bf J (ac _))
   refine am J ?_ ?_
   ·exact bX (au J) J (bf J (ac _))
   refine am J ?_ ?_
   ·refine o0 (ap (d5 hy40) rz J (hJ (az (i:=4) J) (hJ (az (i:=5) J) (hJ (ar (i:=6) J) (hJ (ar (i:=7) J) (hJ (ar (i:=8) J) (hJ (ar (i:=9) J) (hJ (az (i:=10) J) (hJ (aU (i:=11) J) (hJ (az (i:=12) J) (hJ (ar (i:=13) J) (hJ (aU (i:=14) J) (hJ (aq (i:=16) J J) (hJ (aq (i:=17) J J) (hJ (aq (i:=18) J J) ai)))))))))))))) dF) J ?_;rintro _ _ ⟨_,⟨rfl,rfl⟩,rfl⟩;exact bf J (ac _)
   refine am J ?_ ?_
   ·exact bX (au J) J (bf J (ac _))
   exact fG
  intro A43 n43 c43;refine nY (t:=[(34,U A43 n43 c43),(35,iV (y41.length:Int)),(36,iV 0),(0,pV B1 0),(4,U none 0 0),(5,pV B18 0),(7,U none 0 0),(8,U A37 n37 c37)]) (L':=[jh A43 n43 c43 y41,dn (mA .i64) 3 (U A37 n37 c37) y36,al B18 140 [iV y16_1.Cell.Kind,iV y16_1.Cell.Shape,iV y16_1.Cell.Flags,iV y16_1.Cell.Age,U A19 n19 c19,U A20 n20 c20,pV B1 0,iV y16_1.at_.Kind,iV y16_1.at_.N,.string y16_1.at_.S],bh A19 n19 c19 y16_1.Cell.Slots,bh A20 n20 c20 y16_1.Cell.More,al B1 151 (fE a0 B2 B9 A12 n12 c12 A13 n13 c13 A14 n14 c14),al B2 199 [U A3 n3 c3,U A4 n4 c4,U A5 n5 c5,U A6 n6 c6,pV B7 0],bL A3 n3 c3 a0.heap_.m_.Young,bL A4 n4 c4 a0.heap_.m_.Old,bh A5 n5 c5 a0.heap_.roots_,bh A6 n6 c6 a0.heap_.pending_,al B7 247 [.map (some M8)],aP dG dL M8 a0.heap_.set_.at_,al B9 205 [U A10 n10 c10,.map (some M11)],d6 A10 n10 c10 a0.shapes_.shapes_,aP aL dE M11 a0.shapes_.next_,al B15 30 (aE a1),bw A12 n12 c12 a0.symbols_,dr A13 n13 c13 a0.events_,bw A14 n14 c14 a0.out_]) ?_ lD (ac _);refine lC O ?_;refine W ?_
  refine cv (fun m s L=> ∃p45 p46 p47 A45 n45 c45 A46 n46 c46,jF N y41 y36 y16_1 a0 m p45 p46 p47=some r∧s=[(4,U none 0 0),(5,pV B18 0),(7,U A45 n45 c45),(8,U A37 n37 c37),(34,U A46 n46 c46),(35,iV (y41.length:Int)),(36,iV p47)]∧L=[dn mB 42 (U A45 n45 c45) p45,dn (mA .i64) 3 (U A37 n37 c37) y36,jh A46 n46 c46 p46,bh A19 n19 c19 y16_1.Cell.Slots,bh A20 n20 c20 y16_1.Cell.More,al B18 140 [iV y16_1.Cell.Kind,iV y16_1.Cell.Shape,iV y16_1.Cell.Flags,iV y16_1.Cell.Age,U A19 n19 c19,U A20 n20 c20,pV B1 0,iV y16_1.at_.Kind,iV y16_1.at_.N,.string y16_1.at_.S],bw A12 n12 c12 a0.symbols_,dr A13 n13 c13 a0.events_,bw A14 n14 c14 a0.out_,al B1 151 (fE a0 B2 B9 A12 n12 c12 A13 n13 c13 A14 n14 c14),bL A3 n3 c3 a0.heap_.m_.Young,bL A4 n4 c4 a0.heap_.m_.Old,bh A5 n5 c5 a0.heap_.roots_,bh A6 n6 c6 a0.heap_.pending_,al B2 199 [U A3 n3 c3,U A4 n4 c4,U A5 n5 c5,U A6 n6 c6,pV B7 0],d6 A10 n10 c10 a0.shapes_.shapes_,aP aL dE M11 a0.shapes_.next_,al B9 205 [U A10 n10 c10,.map (some M11)],aP dG dL M8 a0.heap_.set_.at_,al B7 247 [.map (some M8)]]) N _ _ ⟨[],y41,0,none,0,0,A43,n43,c43,h,J,J⟩ sA ((gy mB 42 _).trans (cS [0,2,1,4,5,3,18,19,20,6,8,9,10,11,7,15,16,14,13,12] 21)) ?_;rintro (_|m44) _ _ ⟨p45,p46,p47,A45,n45,c45,A46,n46,c46,h,rfl,rfl⟩
  ·exact bq h
  rw [jF.eq_2] at h;refine W ?_;refine aB ?_;refine av J (fun g49=> ?_) (fun g49=> ?_)
  ·replace h:=ad g49 h;refine W ?_;refine aB ?_;refine W ?_;obtain ⟨x50,hx50,h⟩:=aa h;obtain ⟨lx50,ux50,hx50⟩:=aJ hx50;refine gR (bn 2 J aC J J KR cY lx50 ux50) ?_;refine gR (br (us:=[iV x50.Kind,iV x50.N,.string x50.S]) 2 J aC J hx50 bI (fun _ _ _ h=>by rw [show _=_ from h];rfl)) ?_;refine gD (aM vB J) ?_;rintro _ _ ⟨B51,rfl,rfl⟩;refine W ?_;refine gO (aw (us:=[iV x50.Kind,iV x50.N,.string x50.S]) (cs':=[iV x50.Kind,iV x50.N,.string x50.S]) 0 J J J J cY J J J) ?_;rintro _ _ rfl;refine bG ?_;refine W ?_;obtain ⟨x52,hx52,h⟩:=aa h;obtain ⟨lx52,ux52,hx52⟩:=aJ hx52;refine jf (t:=[(4,U none 0 0),(5,pV B18 0),(7,U A45 n45 c45),(8,U A37 n37 c37),(9,iV p47),(10,pV B51 0),(34,U A46 n46 c46),(35,iV (y41.length:Int)),(36,iV p47)]) ?_ lD (ac _)
   refine jg O 8 [0] [0,1,2,3,7] [41,42,43,44,45,46,47,48] [[],[],[],[],[],[],[4,5],[6]] [aV (U A45 n45 c45),
aV (pV B18 0),
aV (iV p47),
aV (.agg #[iV x50.Kind,iV x50.N,.string x50.S]),
aV (U A37 n37 c37),
aV (iV p47),
aV (eQ (U A37 n37 c37) p47.toNat 1 0),
aV (iV x52)] [] (ac _) (fU rfl la) O rfl rfl ?_ ?_ ?_
   ·refine fT J ?_ ?_
    ·exact lB (au J) J (bf J (ac _))
    exact kZ
   ·refine am J ?_ ?_
    ·exact gn (eV (u:=iV x52) 2 J aC J hx52 dH (fun _ _ _ h=>by rw [show _=_ from h];rfl)) J (bf J (ac _))
    refine am J ?_ ?_
    ·exact gn (bn 2 J aC J J KQ il lx52 ux52) J (bf J (ac _))
    refine am J ?_ ?_
    ·exact bX (au J) J (bf J (ac _))
    refine am J ?_ ?_
    ·exact bX (au J) J (bf J (ac _))
    refine am J ?_ ?_
    ·exact gn (aj (us:=[iV x50.Kind,iV x50.N,.string x50.S]) 0 J J bI J) J (bf J (ac _))
    refine am J ?_ ?_
    ·exact bX (au J) J (bf J (ac _))
    refine am J ?_ ?_
    ·exact bX (au J) J (bf J (ac _))
    refine am J ?_ ?_
    ·exact bX (au J) J (bf J (ac _))
    exact fG
   refine nY (t:=[(41,U A45 n45 c45),(42,pV B18 0),(43,iV p47),(44,.agg #[iV x50.Kind,iV x50.N,.string x50.S]),(48,iV x52),(4,U none 0 0),(5,pV B18 0),(7,U A45 n45 c45),(8,U A37 n37 c37),(9,iV p47),(10,pV B51 0),(34,U A46 n46 c46),(35,iV (y41.length:Int)),(36,iV p47)]) (L':=[al B51 24 [iV x50.Kind,iV x50.N,.string x50.S],dn mB 42 (U A45 n45 c45) p45,dn (mA .i64) 3 (U A37 n37 c37) y36,jh A46 n46 c46 p46,bh A19 n19 c19 y16_1.Cell.Slots,bh A20 n20 c20 y16_1.Cell.More,al B18 140 [iV y16_1.Cell.Kind,iV y16_1.Cell.Shape,iV y16_1.Cell.Flags,iV y16_1.Cell.Age,U A19 n19 c19,U A20 n20 c20,pV B1 0,iV y16_1.at_.Kind,iV y16_1.at_.N,.string y16_1.at_.S],bw A12 n12 c12 a0.symbols_,dr A13 n13 c13 a0.events_,bw A14 n14 c14 a0.out_,al B1 151 (fE a0 B2 B9 A12 n12 c12 A13 n13 c13 A14 n14 c14),bL A3 n3 c3 a0.heap_.m_.Young,bL A4 n4 c4 a0.heap_.m_.Old,bh A5 n5 c5 a0.heap_.roots_,bh A6 n6 c6 a0.heap_.pending_,al B2 199 [U A3 n3 c3,U A4 n4 c4,U A5 n5 c5,U A6 n6 c6,pV B7 0],d6 A10 n10 c10 a0.shapes_.shapes_,aP aL dE M11 a0.shapes_.next_,al B9 205 [U A10 n10 c10,.map (some M11)],aP dG dL M8 a0.heap_.set_.at_,al B7 247 [.map (some M8)]]) ?_ lD (ac _);obtain ⟨y53,hy53,h⟩:=aa h
   refine uC 8 J O (ap (mo hy53) Dm J (hJ (az (i:=6) J) (hJ (ar (i:=4) J) (hJ (ar (i:=5) J) (hJ (az (i:=10) J) (hJ (az (i:=15) J) (hJ (ar (i:=11) J) (hJ (ar (i:=12) J) (hJ (ar (i:=13) J) (hJ (ar (i:=14) J) (hJ (az (i:=20) J) (hJ (aU (i:=19) J) (hJ (az (i:=18) J) (hJ (ar (i:=16) J) (hJ (aU (i:=17) J) (hJ (aq (i:=7) J J) (hJ (aq (i:=8) J J) (hJ (aq (i:=9) J J) ai))))))))))))))))) lc) J J J ?_;rintro _ _ ⟨_,⟨rfl,rfl⟩,rfl⟩;refine uC 9 J O (ce (R:=mB) (vss:=[(bm y53)]) (xs:=[y53]) J (FA _ _ _ _ _ _ _ _ _ _ _ _ _) J J (fun _ _ hr=> .cons J All2.nil)) J J J ?_;rintro _ _ ⟨A54,n54,c54,rfl,rfl⟩;obtain ⟨q55,h⟩:=aA h;refine uC 10 J O (wb 2 0 J J aC J J KS JM J J J q55) J J J ?_;rintro _ _ ⟨A56,n56,c56,rfl,rfl⟩;refine xh 11 J O (aS J) J J J ?_;refine lC O ?_;refine W ?_;obtain ⟨q57,h⟩:=aA h;refine gE (bF J J q57.1 q57.2) ?_;refine W ?_;exact ⟨m44,_,_,Lo _,⟨p45++([y53]:List K4),p46,p47+1,A56,n56,c56,A46,n46,c46,h,J,J⟩,sA,cS [2,3,4,5,6,7,8,9,10,11,12,13,14,15,16,17,18,19,20,21] 22⟩
  replace h:=ae g49 h;refine W ?_;exact ⟨_,_,⟨p45,A45,n45,c45,h,J,J⟩,sA,cS [0,6,7,8,9,10,11,12,13,14,15,16,17,18,19] 20⟩
 rintro _ _ ⟨p39,A39,n39,c39,h,rfl,rfl⟩;refine W ?_;obtain rfl:=ao h;exact aO J J (cS [0,4,9,5,6,7,8,14,13,12,10,11] 15) ⟨_,_,_,J,J⟩
def lQ (N:Nat)(a1:Lf):Option (List K4):=
 (dp N a1).bind fun y2=>some []
def pI (N:Nat)(p7:Int):Option (Int×Bool):=
 bif decide (4294967294<p7) then (some (0,false)) else (some (p7,true))
def nh (N:Nat)(a0:ByteArray):Nat→Int→Int→Option (Int×Bool)
 |0,_,_=>none
 |m8+1,p9,p10=>bif decide (p10<(a0.size:Int)) then ((tT a0 p10).bind fun x12=>(bif decide (x12<48) then (some true) else ((tT a0 p10).bind fun x14=>some (decide (57<x14)))).bind fun b13=>bif b13 then (some (0,false)) else (cV (bC (10*p9)) ((tT a0 p10).bind fun x17=>cV (bC ((10*p9)+(IntKind.i64.wrap (IntKind.u8.wrap (x17 - 48))))) (cV (bC (p10+1)) ((nh N a0 m8) ((10*p9)+(IntKind.i64.wrap (IntKind.u8.wrap (x17 - 48)))) (p10+1)))))) else (pI N p9)
def jt (N:Nat)(a0:ByteArray):Option (Int×Bool):=
 (bif a0.toList==(⟨#[]⟩:ByteArray).toList then (some true) else (some (decide (10<(a0.size:Int))))).bind fun b1=>(bif b1 then (some true) else ((tT a0 0).bind fun x3=>(bif decide (x3=48) then (some (decide (1<(a0.size:Int)))) else (some false)).bind fun b4=>some b4)).bind fun b2=>bif b2 then (some (0,false)) else (nh N a0 N 0 0)
set_option maxHeartbeats 4000000 in
theorem zi {N:Nat}{a0:ByteArray}{r:(Int×Bool)}(h:jt N a0=some r):Okc Tryz.prog 151 [.string a0] ([]) (fun u post=>u=.tuple #[iV r.1,.bool r.2]∧post=[]):=by
 refine bB Tryz.func151 J J ?_;simp only [ba];refine W ?_;refine aB ?_;refine W ?_;refine gE (pj J J) ?_;refine W ?_;obtain ⟨b1,hb1,h⟩:=aa h;refine aH 4 12 b1 ?_ ?_
 ·clear h;refine aD 8 J (fun g1=> ?_) (fun g1=> ?_)
  ·have h:=ad g1 hb1;refine W ?_;obtain rfl:=ao h;exact ab sA (cS [] 0)
  have h:=ae g1 hb1;refine W ?_;refine eR (lr J Ex) J (co g1 J) J ?_;refine W ?_;obtain rfl:=ao h;exact ab sA (cS [] 0)
 refine W ?_;obtain ⟨b2,hb2,h⟩:=aa h;refine aH 9 22 b2 ?_ ?_
 ·clear h;refine aD 13 J (fun g2=> ?_) (fun g2=> ?_)
  ·have h:=ad g2 hb2;refine W ?_;obtain rfl:=ao h;exact ab sA (cS [] 0)
  have h:=ae g2 hb2;refine W ?_;obtain ⟨x3,hx3,h⟩:=aa h;refine eR (nv J J Ex hx3) J (co g2 J) J ?_;refine W ?_;obtain ⟨b4,hb4,h⟩:=aa h;refine aH 4 21 b4 ?_ ?_
  ·clear h;refine aD 17 J (fun g4=> ?_) (fun g4=> ?_)
   ·have h:=ad g4 hb4;refine W ?_;refine eR (lr J Ex) J (bi g4 J) J ?_;refine W ?_;obtain rfl:=ao h;exact ab sA (cS [] 0)
   have h:=ae g4 hb4;refine W ?_;obtain rfl:=ao h;exact ab sA (cS [] 0)
  refine W ?_;obtain rfl:=ao h;exact ab sA (cS [] 0)
 refine W ?_;refine av J (fun g5=> ?_) (fun g5=> ?_)
 ·replace h:=ad g5 h;refine W ?_;obtain rfl:=ao h;exact dA J J J (cS [] 0) ⟨J,J⟩
 replace h:=ae g5 h;refine W ?_;refine bc (fun s L=> ∃p7,pI N p7=some r∧s=[(2,iV 0),(3,.bool false),(4,iV p7)]∧L=[]) ?_ ?_
 ·refine W ?_;refine gE (lr J Ex) ?_;refine W ?_;refine cv (fun m s L=> ∃p9 p10,nh N a0 m p9 p10=some r∧s=[(0,.string a0),(2,iV 0),(3,.bool false),(4,iV p9),(24,iV (a0.size:Int)),(25,iV p10)]∧L=[]) N _ _ ⟨0,0,h,J,J⟩ sA (cS [] 0) ?_;rintro (_|m8) _ _ ⟨p9,p10,h,rfl,rfl⟩
  ·exact bq h
  rw [nh.eq_2] at h;refine W ?_;refine aB ?_;refine av J (fun g11=> ?_) (fun g11=> ?_)
  ·replace h:=ad g11 h;refine W ?_;refine aB ?_;refine W ?_;refine aB ?_;refine W ?_;obtain ⟨x12,hx12,h⟩:=aa h;refine gE (nv J J Ex hx12) ?_;refine W ?_;obtain ⟨b13,hb13,h⟩:=aa h;refine aH 5 37 b13 ?_ ?_
   ·clear h;refine aD 32 J (fun g13=> ?_) (fun g13=> ?_)
    ·have h:=ad g13 hb13;refine W ?_;obtain rfl:=ao h;exact ab sA (cS [] 0)
    have h:=ae g13 hb13;refine W ?_;obtain ⟨x14,hx14,h⟩:=aa h;refine eR (nv J J Ex hx14) J (co g13 J) J ?_;refine W ?_;obtain rfl:=ao h;exact ab sA (cS [] 0)
   refine W ?_;refine av J (fun g15=> ?_) (fun g15=> ?_)
   ·replace h:=ad g15 h;refine W ?_;obtain rfl:=ao h;exact dA J J J (cS [] 0) ⟨J,J⟩
   replace h:=ae g15 h;refine W ?_;obtain ⟨q16,h⟩:=aA h;refine gE (nT J J q16.1 q16.2) ?_;refine W ?_;obtain ⟨x17,hx17,h⟩:=aa h;refine gE (nv J J Ex hx17) ?_;refine gE (GW J J) ?_;refine gE (qa J J KM) ?_;obtain ⟨q18,h⟩:=aA h;refine gE (bF J J q18.1 q18.2) ?_;refine W ?_;obtain ⟨q19,h⟩:=aA h;refine gE (bF J J q19.1 q19.2) ?_;refine W ?_;exact ⟨m8,_,_,Lo _,⟨(10*p9)+(IntKind.i64.wrap (IntKind.u8.wrap (x17 - 48))),p10+1,h,J,J⟩,sA,cS [] 0⟩
  replace h:=ae g11 h;refine W ?_;exact ⟨_,_,⟨p9,h,J,J⟩,sA,cS [] 0⟩
 rintro _ _ ⟨p7,h,rfl,rfl⟩;refine aB ?_;refine W ?_;refine av J (fun g20=> ?_) (fun g20=> ?_)
 ·replace h:=ad g20 h;refine W ?_;obtain rfl:=ao h;exact dA J J J (cS [] 0) ⟨J,J⟩
 replace h:=ae g20 h;refine W ?_;obtain rfl:=ao h;exact dA J J J (cS [] 0) ⟨J,J⟩
theorem ws {r:(Int×Bool)}: ∀v post,((fun (u:Value) (post:List Chunk)=>u=.tuple #[iV r.1,.bool r.2]∧post=[])) v post→ ∀c∈post,cF c:=by
 rintro _ _ ⟨rfl,rfl⟩;exact ai
def cW (N:Nat)(a0:Lj):Option Bool:=
 bif decide (a0.Kind=0) then ((bif a0.S.toList==(⟨#[]⟩:ByteArray).toList then (some (decide (0≤a0.N))) else (some false)).bind fun b3=>(bif b3 then (some (decide (a0.N≤4294967294))) else (some false)).bind fun b4=>some b4) else (bif decide (a0.Kind=1) then ((jt N a0.S).bind fun y6=>(bif decide (a0.N=0) then (some (decide ((a0.S.size:Int)≤65536))) else (some false)).bind fun b7=>(bif b7 then (some (!y6.2)) else (some false)).bind fun b8=>some b8) else (bif decide (a0.Kind=2) then ((bif a0.S.toList==(⟨#[]⟩:ByteArray).toList then (some (decide (1≤a0.N))) else (some false)).bind fun b10=>some b10) else (some false)))
set_option maxHeartbeats 4000000 in
theorem jH {N:Nat}{a0:Lj}{r:Bool}(h:cW N a0=some r):Okc Tryz.prog 99 [(gk a0)] ([]) (fun u post=>u=.bool r∧post=[]):=by
 refine bB Tryz.func99 J J ?_;simp only [ba];refine W ?_;refine gD (aT J J) ?_;rintro _ _ ⟨B1,rfl,rfl⟩;refine W ?_;refine aB ?_;refine W ?_;refine av J (fun g2=> ?_) (fun g2=> ?_)
 ·replace h:=ad g2 h;refine W ?_;refine gE (pj J J) ?_;refine W ?_;obtain ⟨b3,hb3,h⟩:=aa h;refine aH 4 16 b3 ?_ ?_
  ·clear h;refine aD 12 J (fun g3=> ?_) (fun g3=> ?_)
   ·have h:=ad g3 hb3;refine W ?_;obtain rfl:=ao h;exact ab sA (cS [0] 1)
   have h:=ae g3 hb3;refine W ?_;obtain rfl:=ao h;exact ab sA (cS [0] 1)
  refine W ?_;obtain ⟨b4,hb4,h⟩:=aa h;refine aH 4 21 b4 ?_ ?_
  ·clear h;refine aD 17 J (fun g4=> ?_) (fun g4=> ?_)
   ·have h:=ad g4 hb4;refine W ?_;obtain rfl:=ao h;exact ab sA (cS [0] 1)
   have h:=ae g4 hb4;refine W ?_;obtain rfl:=ao h;exact ab sA (cS [0] 1)
  refine W ?_;obtain rfl:=ao h;exact aO J J (cS [] 1) ⟨J,J⟩
 replace h:=ae g2 h;refine W ?_;refine av J (fun g5=> ?_) (fun g5=> ?_)
 ·replace h:=ad g5 h;refine W ?_;obtain ⟨y6,hy6,h⟩:=aa h;refine gD (ap (zi hy6) Hx J (ai) ws) ?_;rintro _ _ ⟨_,⟨rfl,rfl⟩,rfl⟩;refine W ?_;obtain ⟨b7,hb7,h⟩:=aa h;refine aH 5 38 b7 ?_ ?_
  ·clear h;refine aD 33 J (fun g7=> ?_) (fun g7=> ?_)
   ·have h:=ad g7 hb7;refine W ?_;refine eR (lr J Ex) J (bi g7 J) J ?_;refine W ?_;obtain rfl:=ao h;exact ab sA (cS [0] 1)
   have h:=ae g7 hb7;refine W ?_;obtain rfl:=ao h;exact ab sA (cS [0] 1)
  refine W ?_;obtain ⟨b8,hb8,h⟩:=aa h;refine aH 3 42 b8 ?_ ?_
  ·clear h;refine aD 39 J (fun g8=> ?_) (fun g8=> ?_)
   ·have h:=ad g8 hb8;refine W ?_;obtain rfl:=ao h;exact ab sA (cS [0] 1)
   have h:=ae g8 hb8;refine W ?_;obtain rfl:=ao h;exact ab sA (cS [0] 1)
  refine W ?_;obtain rfl:=ao h;exact aO J J (cS [] 1) ⟨J,J⟩
 replace h:=ae g5 h;refine W ?_;refine av J (fun g9=> ?_) (fun g9=> ?_)
 ·replace h:=ad g9 h;refine W ?_;refine gE (pj J J) ?_;refine W ?_;obtain ⟨b10,hb10,h⟩:=aa h;refine aH 4 52 b10 ?_ ?_
  ·clear h;refine aD 48 J (fun g10=> ?_) (fun g10=> ?_)
   ·have h:=ad g10 hb10;refine W ?_;obtain rfl:=ao h;exact ab sA (cS [0] 1)
   have h:=ae g10 hb10;refine W ?_;obtain rfl:=ao h;exact ab sA (cS [0] 1)
  refine W ?_;obtain rfl:=ao h;exact aO J J (cS [] 1) ⟨J,J⟩
 replace h:=ae g9 h;refine W ?_;obtain rfl:=ao h;exact aO J J (cS [] 1) ⟨J,J⟩
theorem iq {r:Bool}: ∀v post,((fun (u:Value) (post:List Chunk)=>u=.bool r∧post=[])) v post→ ∀c∈post,cF c:=by
 rintro _ _ ⟨rfl,rfl⟩;exact ai
def oG (N:Nat)(a0:Int):Option Bool:=
 some (!decide (a0=a0))
theorem tg {N:Nat}{a0:Int}{r:Bool}(h:oG N a0=some r):Okc Tryz.prog 232 [iV a0] ([]) (fun u post=>u=.bool r∧post=[]):=by
 refine bB Tryz.func232 J J ?_;simp only [ba];refine W ?_;obtain rfl:=ao h;exact aO J J (cS [] 0) ⟨J,J⟩
theorem qO {r:Bool}: ∀v post,((fun (u:Value) (post:List Chunk)=>u=.bool r∧post=[])) v post→ ∀c∈post,cF c:=by
 rintro _ _ ⟨rfl,rfl⟩;exact ai
def kk (N:Nat)(a0:Int)(a1:Int):Option Int:=
 (oG N a0).bind fun y1=>(oG N a1).bind fun y2=>bif y1 then (bif y2 then (some 0) else (some (-1))) else (bif y2 then (some 1) else (bif decide (a0<a1) then (some (-1)) else (bif decide (a1<a0) then (some 1) else (some 0))))
set_option maxHeartbeats 4000000 in
theorem qP {N:Nat}{a0:Int}{a1:Int}{r:Int}(h:kk N a0 a1=some r):Okc Tryz.prog 208 [iV a0,iV a1] ([]) (fun u post=>u=iV r∧post=[]):=by
 refine bB Tryz.func208 J J ?_;simp only [ba];refine W ?_;obtain ⟨y1,hy1,h⟩:=aa h;refine gD (ap (tg hy1) De J (ai) qO) ?_;rintro _ _ ⟨_,⟨rfl,rfl⟩,rfl⟩;refine W ?_;obtain ⟨y2,hy2,h⟩:=aa h;refine gD (ap (tg hy2) De J (ai) qO) ?_;rintro _ _ ⟨_,⟨rfl,rfl⟩,rfl⟩;refine W ?_;refine aB ?_;refine W ?_;refine av J (fun g3=> ?_) (fun g3=> ?_)
 ·replace h:=ad g3 h;refine aB ?_;refine W ?_;refine av J (fun g4=> ?_) (fun g4=> ?_)
  ·replace h:=ad g4 h;refine W ?_;obtain rfl:=ao h;exact aO J J (cS [] 0) ⟨J,J⟩
  replace h:=ae g4 h;refine W ?_;obtain rfl:=ao h;exact aO J J (cS [] 0) ⟨J,J⟩
 replace h:=ae g3 h;refine W ?_;refine aB ?_;refine W ?_;refine av J (fun g5=> ?_) (fun g5=> ?_)
 ·replace h:=ad g5 h;refine W ?_;obtain rfl:=ao h;exact aO J J (cS [] 0) ⟨J,J⟩
 replace h:=ae g5 h;refine W ?_;refine aB ?_;refine W ?_;refine av J (fun g6=> ?_) (fun g6=> ?_)
 ·replace h:=ad g6 h;refine W ?_;obtain rfl:=ao h;exact aO J J (cS [] 0) ⟨J,J⟩
 replace h:=ae g6 h;refine W ?_;refine aB ?_;refine W ?_;refine av J (fun g7=> ?_) (fun g7=> ?_)
 ·replace h:=ad g7 h;refine W ?_;obtain rfl:=ao h;exact aO J J (cS [] 0) ⟨J,J⟩
 replace h:=ae g7 h;refine W ?_;obtain rfl:=ao h;exact aO J J (cS [] 0) ⟨J,J⟩
theorem pq {r:Int}: ∀v post,((fun (u:Value) (post:List Chunk)=>u=iV r∧post=[])) v post→ ∀c∈post,cF c:=by
 rintro _ _ ⟨rfl,rfl⟩;exact ai
def js (N:Nat)(a0:Lj)(a1:Lj):Option Int:=
 (bif decide (a0.Kind=0) then (some (decide (a1.Kind=0))) else (some false)).bind fun b3=>bif b3 then ((kk N a0.N a1.N).bind fun y5=>some y5) else ((kk N a0.Kind a1.Kind).bind fun y6=>some y6)
theorem nc {N:Nat}{a0:Lj}{a1:Lj}{r:Int}(h:js N a0 a1=some r):Okc Tryz.prog 161 [(gk a0),(gk a1)] ([]) (fun u post=>u=iV r∧post=[]):=by
 refine bB Tryz.func161 J J ?_;simp only [ba];refine W ?_;refine gD (aT J J) ?_;rintro _ _ ⟨B1,rfl,rfl⟩;refine gD (aT J J) ?_;rintro _ _ ⟨B2,rfl,rfl⟩;refine W ?_;refine aB ?_;refine W ?_;obtain ⟨b3,hb3,h⟩:=aa h;refine aH 4 12 b3 ?_ ?_
 ·clear h;refine aD 8 J (fun g3=> ?_) (fun g3=> ?_)
  ·have h:=ad g3 hb3;refine W ?_;obtain rfl:=ao h;exact ab sA (cS [0,1] 2)
  have h:=ae g3 hb3;refine W ?_;obtain rfl:=ao h;exact ab sA (cS [0,1] 2)
 refine W ?_;refine av J (fun g4=> ?_) (fun g4=> ?_)
 ·replace h:=ad g4 h;refine W ?_;obtain ⟨y5,hy5,h⟩:=aa h;refine gD (ap (qP hy5) Dh J (ai) pq) ?_;rintro _ _ ⟨_,⟨rfl,rfl⟩,rfl⟩;refine W ?_;obtain rfl:=ao h;exact aO J J (cS [] 2) ⟨J,J⟩
 replace h:=ae g4 h;refine W ?_;obtain ⟨y6,hy6,h⟩:=aa h;refine gD (ap (qP hy6) Dh J (ai) pq) ?_;rintro _ _ ⟨_,⟨rfl,rfl⟩,rfl⟩;refine W ?_;obtain rfl:=ao h;exact aO J J (cS [] 2) ⟨J,J⟩
theorem lj {r:Int}: ∀v post,((fun (u:Value) (post:List Chunk)=>u=iV r∧post=[])) v post→ ∀c∈post,cF c:=by
 rintro _ _ ⟨rfl,rfl⟩;exact ai
def dU (N:Nat)(kb3:(List Lj)→Int→Option (List Lj))(a1:Int)(a2:Int)(p5:Int)(p8:(List Lj)):Option (List Lj):=
 cV (bC (p5+1)) (kb3 p8 (p5+1))
def cX (N:Nat)(kb3:(List Lj)→Int→Option (List Lj))(a1:Int)(a2:Int)(p5:Int):Nat→(List Lj)→Int→Option (List Lj)
 |0,_,_=>none
 |m9+1,p10,p11=>(bif decide (a1<p11) then ((bE p10 p11).bind fun x13=>cV (bC (p11 - 1)) ((bE p10 (p11 - 1)).bind fun x15=>(js N x13 x15).bind fun y16=>some (decide (y16<0)))) else (some false)).bind fun b12=>bif b12 then (cV (bC (p11 - 1)) (cV (bC (p11 - 1)) ((bE p10 (p11 - 1)).bind fun x20=>(bE p10 p11).bind fun x21=>(bE p10 p11).bind fun x22=>(bE (List.set p10 p11.toNat (⟨x20.Kind,x20.N,x20.S⟩:Lj)) (p11 - 1)).bind fun x23=>cV (bC (p11 - 1)) ((cX N kb3 a1 a2 p5 m9) (List.set (List.set p10 p11.toNat (⟨x20.Kind,x20.N,x20.S⟩:Lj)) ((p11 - 1).toNat) (⟨x21.Kind,x21.N,x21.S⟩:Lj)) (p11 - 1))))) else (dU N kb3 a1 a2 p5 p10)
def bV (N:Nat)(a1:Int)(a2:Int):Nat→(List Lj)→Int→Option (List Lj)
 |0,_,_=>none
 |m3+1,p4,p5=>bif decide (p5<a2) then (cX N (bV N a1 a2 m3) a1 a2 p5 N p4 p5) else (some p4)
def bW (N:Nat)(a0:(List Lj))(a1:Int)(a2:Int):Option (List Lj):=
 cV (bC (a1+1)) (bV N a1 a2 N a0 (a1+1))
set_option maxHeartbeats 4000000 in
theorem dT {N:Nat}{a0:(List Lj)}{a1:Int}{a2:Int}{r:(List Lj)}(h:bW N a0 a1 a2=some r):Okc Tryz.prog 230 [U A1 n1 c1,iV a1,iV a2,.func (.func 161) #[] #[]] ([jh A1 n1 c1 a0]) (fun u post=>u=.tuple #[]∧post=[jh A1 n1 c1 r]):=by
 refine bB Tryz.func230 J J ?_;simp only [ba];refine W ?_;obtain ⟨q2,h⟩:=aA h;refine gE (bF J J q2.1 q2.2) ?_;refine W ?_;refine cv (fun m s L=> ∃p4 p5,bV N a1 a2 m p4 p5=some r∧s=[(0,U A1 n1 c1),(1,iV a1),(2,iV a2),(3,.func (.func 161) #[] #[]),(8,iV p5)]∧L=[jh A1 n1 c1 p4]) N _ _ ⟨a0,a1+1,h,J,J⟩ sA (cS [0] 1) ?_;rintro (_|m3) _ _ ⟨p4,p5,h,rfl,rfl⟩
 ·exact bq h
 rw [bV.eq_2] at h;refine aB ?_;refine W ?_;refine av J (fun g6=> ?_) (fun g6=> ?_)
 ·replace h:=ad g6 h;refine W ?_;refine bc (fun s L=> ∃p8,dU N (bV N a1 a2 m3) a1 a2 p5 p8=some r∧s=[(0,U A1 n1 c1),(1,iV a1),(2,iV a2),(3,.func (.func 161) #[] #[]),(8,iV p5)]∧L=[jh A1 n1 c1 p8]) ?_ ?_
  ·refine W ?_;refine cv (fun m s L=> ∃p10 p11,cX N (bV N a1 a2 m3) a1 a2 p5 m p10 p11=some r∧s=[(0,U A1 n1 c1),(1,iV a1),(2,iV a2),(3,.func (.func 161) #[] #[]),(8,iV p5),(9,iV p11)]∧L=[jh A1 n1 c1 p10]) N _ _ ⟨p4,p5,h,J,J⟩ sA (cS [0] 1) ?_;rintro (_|m9) _ _ ⟨p10,p11,h,rfl,rfl⟩
   ·exact bq h
   rw [cX.eq_2] at h;refine aB ?_;refine aB ?_;refine bx O _ (ac _) ?_;refine zE 0 J (au J) ?_;refine zE 1 J (au J) ?_;refine zE 2 J (Ic J J) ?_;refine zE 3 J (au J) ?_;obtain ⟨b12,hb12,h⟩:=aa h;refine iU (fun l=>(((((((((((((l.setIfInBounds 4 true).setIfInBounds 5 true).setIfInBounds 6 true).setIfInBounds 7 true).setIfInBounds 8 true).setIfInBounds 9 true).setIfInBounds 10 true).setIfInBounds 11 true).setIfInBounds 12 true).setIfInBounds 13 true).setIfInBounds 14 true).setIfInBounds 15 true).setIfInBounds 16 true)) 0 34 b12 (fun rest=> ?_) ?_
   ·clear h;refine kq 21 J (fun g12=> ?_) (fun g12=> ?_)
    ·have h:=ad g12 hb12;refine eW 4 J O (au J) (bi g12 J) J ?_;refine eW 5 J O (au J) (bi g12 J) J ?_;refine eW 6 J O (au J) (bi g12 J) J ?_;obtain ⟨x13,hx13,h⟩:=aa h;obtain ⟨lx13,ux13,hx13⟩:=aJ hx13;refine jA 7 J O (bn 0 J aC J J KR cY lx13 ux13) (bi g12 J) J ?_;refine jA 8 J O (br (us:=[iV x13.Kind,iV x13.N,.string x13.S]) 0 J aC J hx13 bI (fun _ _ _ h=>by rw [show _=_ from h];rfl)) (bi g12 J) J ?_;refine eW 9 J O (au J) (bi g12 J) J ?_;refine eW 10 J O (au J) (bi g12 J) J ?_;obtain ⟨q14,h⟩:=aA h;refine eW 11 J O (dC J J q14.1 q14.2) (bi g12 J) J ?_;obtain ⟨x15,hx15,h⟩:=aa h;obtain ⟨lx15,ux15,hx15⟩:=aJ hx15;refine jA 12 J O (bn 0 J aC J J KR cY lx15 ux15) (bi g12 J) J ?_;refine jA 13 J O (br (us:=[iV x15.Kind,iV x15.N,.string x15.S]) 0 J aC J hx15 bI (fun _ _ _ h=>by rw [show _=_ from h];rfl)) (bi g12 J) J ?_;obtain ⟨y16,hy16,h⟩:=aa h;refine lA 14 J O (im (nc hy16) vt J J J (ai) lj) J (bi g12 J) J ?_;rintro _ _ ⟨_,⟨rfl,rfl⟩,rfl⟩;refine ⟨_,ac _,ac _,?_⟩;refine eW 15 J O (wE J J) (bi g12 J) J ?_;refine zE 16 J (dX g12 J J) ?_;obtain rfl:=ao h
     exact fL rest (dm J (ay (ay (ay (ay (ay (ay (ay (ay (ay (ay (ay (ay (ay cj J) J) J) J) J) J) J) J) J) J) J) J) J)) (ac _) (ac _)
    have h:=ae g12 hb12;refine cH 4 J O (fF g12 J) J ?_;refine cH 5 J O (fF g12 J) J ?_;refine cH 6 J O (fF g12 J) J ?_;refine cH 7 J O (fF g12 J) J ?_;refine cH 8 J O (fF g12 J) J ?_;refine cH 9 J O (fF g12 J) J ?_;refine cH 10 J O (fF g12 J) J ?_;refine cH 11 J O (fF g12 J) J ?_;refine cH 12 J O (fF g12 J) J ?_;refine cH 13 J O (fF g12 J) J ?_;refine cH 14 J O (fF g12 J) J ?_;refine cH 15 J O (fF g12 J) J ?_;refine zE 16 J (dY g12 J J) ?_;obtain rfl:=ao h;exact fL rest (dm J (ay (ay (ay (ay (ay (ay (ay (ay (ay (ay (ay (ay (ay cj J) J) J) J) J) J) J) J) J) J) J) J) J)) (ac _) (ac _)
   refine bj O ?_;refine d8 ?_;refine av J (fun g17=> ?_) (fun g17=> ?_)
   ·replace h:=ad g17 h;refine W ?_;refine aB ?_;refine eT ?_;obtain ⟨q18,h⟩:=aA h;obtain ⟨q19,h⟩:=aA h;obtain ⟨x20,hx20,h⟩:=aa h;obtain ⟨lx20,ux20,hx20⟩:=aJ hx20;obtain ⟨x21,hx21,h⟩:=aa h;obtain ⟨lx21,ux21,hx21⟩:=aJ hx21;refine jf (t:=[(0,U A1 n1 c1),(1,iV a1),(2,iV a2),(3,.func (.func 161) #[] #[]),(8,iV p5),(9,iV p11)]) ?_ lD (ac _)
    refine jg O 14 [2,3,4] [0,1,2,4,9,13] [37,38,39,40,41,42,43,44,45,46,47,48,49,50] [[],[],[],[],[3],[],[],[6],[5,7],[8],[],[],[10,11],[12]] [aV (U A1 n1 c1),
 aV (iV p11),
 aV (U A1 n1 c1),
 aV (iV p11),
 aV (iV (p11 - 1)),
 aV (U A1 n1 c1),
 aV (iV p11),
 aV (iV (p11 - 1)),
 aV (eQ (U A1 n1 c1) ((p11 - 1).toNat) 3 0),
 aV (.agg #[iV x20.Kind,iV x20.N,.string x20.S]),
 aV (U A1 n1 c1),
 aV (iV p11),
 aV (eQ (U A1 n1 c1) p11.toNat 3 0),
 aV (.agg #[iV x21.Kind,iV x21.N,.string x21.S])] [] (ac _) (fU rfl (fU rfl (fU rfl la))) O rfl rfl ?_ ?_ ?_
    ·refine fT J ?_ ?_
     ·exact lB (au J) J (bf J (ac _))
     refine fT J ?_ ?_
     ·exact lB (au J) J (bf J (ac _))
     refine fT J ?_ ?_
     ·exact lB (dC J J q18.1 q18.2) J (bf J (ac _))
     exact kZ
    ·refine am J ?_ ?_
     ·exact gn (br (us:=[iV x21.Kind,iV x21.N,.string x21.S]) 0 J aC J hx21 bI (fun _ _ _ h=>by rw [show _=_ from h];rfl)) J (bf J (ac _))
     refine am J ?_ ?_
     ·exact gn (bn 0 J aC J J KR cY lx21 ux21) J (bf J (ac _))
     refine am J ?_ ?_
     ·exact bX (au J) J (bf J (ac _))
     refine am J ?_ ?_
     ·exact bX (au J) J (bf J (ac _))
     refine am J ?_ ?_
     ·exact gn (br (us:=[iV x20.Kind,iV x20.N,.string x20.S]) 0 J aC J hx20 bI (fun _ _ _ h=>by rw [show _=_ from h];rfl)) J (bf J (ac _))
     refine am J ?_ ?_
     ·exact gn (bn 0 J aC J J KR cY lx20 ux20) J (bf J (ac _))
     refine am J ?_ ?_
     ·exact bX (dC J J q19.1 q19.2) J (bf J (ac _))
     refine am J ?_ ?_
     ·exact bX (au J) J (bf J (ac _))
     refine am J ?_ ?_
     ·exact bX (au J) J (bf J (ac _))
     refine am J ?_ ?_
     ·exact bX (dC J J q18.1 q18.2) J (bf J (ac _))
     refine am J ?_ ?_
     ·exact bX (au J) J (bf J (ac _))
     refine am J ?_ ?_
     ·exact bX (au J) J (bf J (ac _))
     refine am J ?_ ?_
     ·exact bX (au J) J (bf J (ac _))
     refine am J ?_ ?_
     ·exact bX (au J) J (bf J (ac _))
     exact fG
    refine nY (t:=[(37,U A1 n1 c1),(38,iV p11),(39,U A1 n1 c1),(41,iV (p11 - 1)),(46,.agg #[iV x20.Kind,iV x20.N,.string x20.S]),(50,.agg #[iV x21.Kind,iV x21.N,.string x21.S]),(0,U A1 n1 c1),(1,iV a1),(2,iV a2),(3,.func (.func 161) #[] #[]),(8,iV p5),(9,iV p11)]) (L':=[jh A1 n1 c1 p10]) ?_ lD (ac _);obtain ⟨x22,hx22,h⟩:=aa h;obtain ⟨lx22,ux22,hx22⟩:=aJ hx22;refine Bw 14 J O (bn 0 J aC J J KR cY lx22 ux22) J J J ?_;refine nZ 15 J O (cR (us:=[iV x20.Kind,iV x20.N,.string x20.S]) (z:=(⟨x20.Kind,x20.N,x20.S⟩:Lj)) 0 J J J J cY J (toNat_lt lx22 ux22) J (fun S w vs xk hk hr ho=>by obtain rfl:=Option.some.inj (hk.symm.trans hx22);rw [show _=_ from hr];rfl)) J J ?_;rintro _ _ rfl;obtain ⟨x23,hx23,h⟩:=aa h;obtain ⟨lx23,ux23,hx23⟩:=aJ hx23;refine Bw 16 J O (bn 0 J aC J J KR cY lx23 ux23) J J J ?_;refine nZ 17 J O (cR (us:=[iV x21.Kind,iV x21.N,.string x21.S]) (z:=(⟨x21.Kind,x21.N,x21.S⟩:Lj)) 0 J J J J cY J (toNat_lt lx23 ux23) J (fun S w vs xk hk hr ho=>by obtain rfl:=Option.some.inj (hk.symm.trans hx23);rw [show _=_ from hr];rfl)) J J ?_;rintro _ _ rfl;refine lC O ?_;refine W ?_;obtain ⟨q24,h⟩:=aA h;refine gE (dC J J q24.1 q24.2) ?_;refine W ?_
    exact ⟨m9,_,_,Lo _,⟨List.set (List.set p10 p11.toNat (⟨x20.Kind,x20.N,x20.S⟩:Lj)) ((p11 - 1).toNat) (⟨x21.Kind,x21.N,x21.S⟩:Lj),p11 - 1,h,J,J⟩,sA,cS [0] 1⟩
   replace h:=ae g17 h;refine W ?_;exact ⟨_,_,⟨p10,h,J,J⟩,sA,cS [0] 1⟩
  rintro _ _ ⟨p8,h,rfl,rfl⟩;refine W ?_;obtain ⟨q25,h⟩:=aA h;refine gE (bF J J q25.1 q25.2) ?_;refine W ?_;exact ⟨m3,_,_,Lo _,⟨p8,p5+1,h,J,J⟩,sA,cS [0] 1⟩
 replace h:=ae g6 h;refine W ?_;obtain rfl:=ao h;exact fW J (cS [0] 1) ⟨J,J⟩
end Go.Proofs.YtanojiedimeegaaGreatDoor