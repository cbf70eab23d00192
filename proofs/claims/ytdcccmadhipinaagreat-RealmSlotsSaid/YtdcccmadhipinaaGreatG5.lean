/- Merged texts: part 5. No conditions of their own. -/
import Derived.Test.YtdcccmadhipinaaGreatG4
import Derived.Test.YtdcccmadhipinaaGreatG1
import Derived.KernelRfl
namespace Go.Proofs.YtdcccmadhipinaaGreat
section
variable {A1 A10 A12 A13 A14 A15 A16 A2 A3 A4 A5 A6:Option Addr} {B1 B2 B6 B7 B9 M11 M3 M7 M8 c1 c10 c12 c13 c14 c15 c16 c2 c3 c4 c5 c6 n1 n10 n12 n13 n14 n15 n16 n2 n3 n4 n5 n6:Nat}
open Go.RowKit Asn
set_option maxRecDepth 20000
def i4 (N:Nat)(p7:Int):Option (Int×Bool):=
 bif decide (4294967294<p7) then (some (0,false)) else (some (p7,true))
def fJ (N:Nat)(a0:ByteArray):Nat→Int→Int→Option (Int×Bool)
 |0,_,_=>none
 |m8+1,p9,p10=>bif decide (p10<(a0.size:Int)) then ((oL a0 p10).bind fun x12=>(bif decide (x12<48) then (some true) else ((oL a0 p10).bind fun x14=>some (decide (57<x14)))).bind fun b13=>bif b13 then (some (0,false)) else (ea (cM (10*p9)) ((oL a0 p10).bind fun x17=>ea (cM ((10*p9)+(IntKind.i64.wrap (IntKind.u8.wrap (x17 - 48))))) (ea (cM (p10+1)) ((fJ N a0 m8) ((10*p9)+(IntKind.i64.wrap (IntKind.u8.wrap (x17 - 48)))) (p10+1)))))) else (i4 N p9)
def jO (N:Nat)(a0:ByteArray):Option (Int×Bool):=
 (bif a0.toList==(⟨#[]⟩:ByteArray).toList then (some true) else (some (decide (10<(a0.size:Int))))).bind fun b1=>(bif b1 then (some true) else ((oL a0 0).bind fun x3=>(bif decide (x3=48) then (some (decide (1<(a0.size:Int)))) else (some false)).bind fun b4=>some b4)).bind fun b2=>bif b2 then (some (0,false)) else (fJ N a0 N 0 0)
set_option maxHeartbeats 4000000 in
theorem lF {N:Nat}{a0:ByteArray}{r:(Int×Bool)}(h:jO N a0=some r):Okc Tryz.prog 187 [.string a0] ([]) (fun u post=>u=.tuple #[iV r.1,.bool r.2]∧post=[]):=by
 refine bv Tryz.func187 J J ?_;simp only [aN];refine I ?_;refine ay ?_;refine I ?_;refine gE (i9 J J) ?_;refine I ?_;obtain ⟨b1,hb1,h⟩:=aa h;refine aw 4 12 b1 ?_ ?_
 ·clear h;refine av 8 J (fun g1=> ?_) (fun g1=> ?_)
  ·have h:=ad g1 hb1;refine I ?_;obtain rfl:=ah h;exact ac sA (cS [] 0)
  have h:=ae g1 hb1;refine I ?_;refine fv (jd J hG) J (fs g1 J) J ?_;refine I ?_;obtain rfl:=ah h;exact ac sA (cS [] 0)
 refine I ?_;obtain ⟨b2,hb2,h⟩:=aa h;refine aw 9 22 b2 ?_ ?_
 ·clear h;refine av 13 J (fun g2=> ?_) (fun g2=> ?_)
  ·have h:=ad g2 hb2;refine I ?_;obtain rfl:=ah h;exact ac sA (cS [] 0)
  have h:=ae g2 hb2;refine I ?_;obtain ⟨x3,hx3,h⟩:=aa h;refine fv (gS J J hG hx3) J (fs g2 J) J ?_;refine I ?_;obtain ⟨b4,hb4,h⟩:=aa h;refine aw 4 21 b4 ?_ ?_
  ·clear h;refine av 17 J (fun g4=> ?_) (fun g4=> ?_)
   ·have h:=ad g4 hb4;refine I ?_;refine fv (jd J hG) J (aZ g4 J) J ?_;refine I ?_;obtain rfl:=ah h;exact ac sA (cS [] 0)
   have h:=ae g4 hb4;refine I ?_;obtain rfl:=ah h;exact ac sA (cS [] 0)
  refine I ?_;obtain rfl:=ah h;exact ac sA (cS [] 0)
 refine I ?_;refine ap J (fun g5=> ?_) (fun g5=> ?_)
 ·replace h:=ad g5 h;refine I ?_;obtain rfl:=ah h;exact eV J J J (cS [] 0) ⟨J,J⟩
 replace h:=ae g5 h;refine I ?_;refine bm (fun s L=> ∃p7,i4 N p7=some r∧s=[(2,iV 0),(3,.bool false),(4,iV p7)]∧L=[]) ?_ ?_
 ·refine I ?_;refine gE (jd J hG) ?_;refine I ?_;refine d8 (fun m s L=> ∃p9 p10,fJ N a0 m p9 p10=some r∧s=[(0,.string a0),(2,iV 0),(3,.bool false),(4,iV p9),(24,iV (a0.size:Int)),(25,iV p10)]∧L=[]) N _ _ ⟨0,0,h,J,J⟩ sA (cS [] 0) ?_;rintro (_|m8) _ _ ⟨p9,p10,h,rfl,rfl⟩
  ·exact bM h
  rw [fJ.eq_2] at h;refine I ?_;refine ay ?_;refine ap J (fun g11=> ?_) (fun g11=> ?_)
  ·replace h:=ad g11 h;refine I ?_;refine ay ?_;refine I ?_;refine ay ?_;refine I ?_;obtain ⟨x12,hx12,h⟩:=aa h;refine gE (gS J J hG hx12) ?_;refine I ?_;obtain ⟨b13,hb13,h⟩:=aa h;refine aw 5 37 b13 ?_ ?_
   ·clear h;refine av 32 J (fun g13=> ?_) (fun g13=> ?_)
    ·have h:=ad g13 hb13;refine I ?_;obtain rfl:=ah h;exact ac sA (cS [] 0)
    have h:=ae g13 hb13;refine I ?_;obtain ⟨x14,hx14,h⟩:=aa h;refine fv (gS J J hG hx14) J (fs g13 J) J ?_;refine I ?_;obtain rfl:=ah h;exact ac sA (cS [] 0)
   refine I ?_;refine ap J (fun g15=> ?_) (fun g15=> ?_)
   ·replace h:=ad g15 h;refine I ?_;obtain rfl:=ah h;exact eV J J J (cS [] 0) ⟨J,J⟩
   replace h:=ae g15 h;refine I ?_;obtain ⟨q16,h⟩:=aC h;refine gE (pq J J q16.1 q16.2) ?_;refine I ?_;obtain ⟨x17,hx17,h⟩:=aa h;refine gE (gS J J hG hx17) ?_;refine gE (qI J J) ?_;refine gE (sZ J J hH) ?_;obtain ⟨q18,h⟩:=aC h;refine gE (dI J J q18.1 q18.2) ?_;refine I ?_;obtain ⟨q19,h⟩:=aC h;refine gE (dI J J q19.1 q19.2) ?_;refine I ?_;exact ⟨m8,_,_,uQ _,⟨(10*p9)+(IntKind.i64.wrap (IntKind.u8.wrap (x17 - 48))),p10+1,h,J,J⟩,sA,cS [] 0⟩
  replace h:=ae g11 h;refine I ?_;exact ⟨_,_,⟨p9,h,J,J⟩,sA,cS [] 0⟩
 rintro _ _ ⟨p7,h,rfl,rfl⟩;refine ay ?_;refine I ?_;refine ap J (fun g20=> ?_) (fun g20=> ?_)
 ·replace h:=ad g20 h;refine I ?_;obtain rfl:=ah h;exact eV J J J (cS [] 0) ⟨J,J⟩
 replace h:=ae g20 h;refine I ?_;obtain rfl:=ah h;exact eV J J J (cS [] 0) ⟨J,J⟩
theorem kF {r:(Int×Bool)}: ∀v post,((fun (u:Value) (post:List Chunk)=>u=.tuple #[iV r.1,.bool r.2]∧post=[])) v post→ ∀c∈post,bZ c:=by
 rintro _ _ ⟨rfl,rfl⟩;exact ag
def jN (N:Nat)(a0:uB):Option Bool:=
 bif decide (a0.Kind=0) then ((bif a0.S.toList==(⟨#[]⟩:ByteArray).toList then (some (decide (0≤a0.N))) else (some false)).bind fun b3=>(bif b3 then (some (decide (a0.N≤4294967294))) else (some false)).bind fun b4=>some b4) else (bif decide (a0.Kind=1) then ((jO N a0.S).bind fun y6=>(bif decide (a0.N=0) then (some (decide ((a0.S.size:Int)≤65536))) else (some false)).bind fun b7=>(bif b7 then (some (!y6.2)) else (some false)).bind fun b8=>some b8) else (bif decide (a0.Kind=2) then ((bif a0.S.toList==(⟨#[]⟩:ByteArray).toList then (some (decide (1≤a0.N))) else (some false)).bind fun b10=>some b10) else (some false)))
set_option maxHeartbeats 4000000 in
theorem lE {N:Nat}{a0:uB}{r:Bool}(h:jN N a0=some r):Okc Tryz.prog 153 [(mu a0)] ([]) (fun u post=>u=.bool r∧post=[]):=by
 refine bv Tryz.func153 J J ?_;simp only [aN];refine I ?_;refine gD (bi J J) ?_;rintro _ _ ⟨B1,rfl,rfl⟩;refine I ?_;refine ay ?_;refine I ?_;refine ap J (fun g2=> ?_) (fun g2=> ?_)
 ·replace h:=ad g2 h;refine I ?_;refine gE (i9 J J) ?_;refine I ?_;obtain ⟨b3,hb3,h⟩:=aa h;refine aw 4 16 b3 ?_ ?_
  ·clear h;refine av 12 J (fun g3=> ?_) (fun g3=> ?_)
   ·have h:=ad g3 hb3;refine I ?_;obtain rfl:=ah h;exact ac sA (cS [0] 1)
   have h:=ae g3 hb3;refine I ?_;obtain rfl:=ah h;exact ac sA (cS [0] 1)
  refine I ?_;obtain ⟨b4,hb4,h⟩:=aa h;refine aw 4 21 b4 ?_ ?_
  ·clear h;refine av 17 J (fun g4=> ?_) (fun g4=> ?_)
   ·have h:=ad g4 hb4;refine I ?_;obtain rfl:=ah h;exact ac sA (cS [0] 1)
   have h:=ae g4 hb4;refine I ?_;obtain rfl:=ah h;exact ac sA (cS [0] 1)
  refine I ?_;obtain rfl:=ah h;exact aI J J (cS [] 1) ⟨J,J⟩
 replace h:=ae g2 h;refine I ?_;refine ap J (fun g5=> ?_) (fun g5=> ?_)
 ·replace h:=ad g5 h;refine I ?_;obtain ⟨y6,hy6,h⟩:=aa h;refine gD (al (lF hy6) qQ J (ag) kF) ?_;rintro _ _ ⟨_,⟨rfl,rfl⟩,rfl⟩;refine I ?_;obtain ⟨b7,hb7,h⟩:=aa h;refine aw 5 38 b7 ?_ ?_
  ·clear h;refine av 33 J (fun g7=> ?_) (fun g7=> ?_)
   ·have h:=ad g7 hb7;refine I ?_;refine fv (jd J hG) J (aZ g7 J) J ?_;refine I ?_;obtain rfl:=ah h;exact ac sA (cS [0] 1)
   have h:=ae g7 hb7;refine I ?_;obtain rfl:=ah h;exact ac sA (cS [0] 1)
  refine I ?_;obtain ⟨b8,hb8,h⟩:=aa h;refine aw 3 42 b8 ?_ ?_
  ·clear h;refine av 39 J (fun g8=> ?_) (fun g8=> ?_)
   ·have h:=ad g8 hb8;refine I ?_;obtain rfl:=ah h;exact ac sA (cS [0] 1)
   have h:=ae g8 hb8;refine I ?_;obtain rfl:=ah h;exact ac sA (cS [0] 1)
  refine I ?_;obtain rfl:=ah h;exact aI J J (cS [] 1) ⟨J,J⟩
 replace h:=ae g5 h;refine I ?_;refine ap J (fun g9=> ?_) (fun g9=> ?_)
 ·replace h:=ad g9 h;refine I ?_;refine gE (i9 J J) ?_;refine I ?_;obtain ⟨b10,hb10,h⟩:=aa h;refine aw 4 52 b10 ?_ ?_
  ·clear h;refine av 48 J (fun g10=> ?_) (fun g10=> ?_)
   ·have h:=ad g10 hb10;refine I ?_;obtain rfl:=ah h;exact ac sA (cS [0] 1)
   have h:=ae g10 hb10;refine I ?_;obtain rfl:=ah h;exact ac sA (cS [0] 1)
  refine I ?_;obtain rfl:=ah h;exact aI J J (cS [] 1) ⟨J,J⟩
 replace h:=ae g9 h;refine I ?_;obtain rfl:=ah h;exact aI J J (cS [] 1) ⟨J,J⟩
theorem kE {r:Bool}: ∀v post,((fun (u:Value) (post:List Chunk)=>u=.bool r∧post=[])) v post→ ∀c∈post,bZ c:=by
 rintro _ _ ⟨rfl,rfl⟩;exact ag
def jH (N:Nat)(a0:Int):Option Bool:=
 (bif decide (0≤a0) then (some (decide (a0≤15))) else (some false)).bind fun b1=>(bif b1 then (some (!decide (oe .i64 a0 9=9))) else (some false)).bind fun b2=>some b2
theorem lw {N:Nat}{a0:Int}{r:Bool}(h:jH N a0=some r):Okc Tryz.prog 154 [iV a0] ([]) (fun u post=>u=.bool r∧post=[]):=by
 refine bv Tryz.func154 J J ?_;simp only [aN];refine I ?_;obtain ⟨b1,hb1,h⟩:=aa h;refine aw 3 8 b1 ?_ ?_
 ·clear h;refine av 5 J (fun g1=> ?_) (fun g1=> ?_)
  ·have h:=ad g1 hb1;refine I ?_;obtain rfl:=ah h;exact ac sA (cS [] 0)
  have h:=ae g1 hb1;refine I ?_;obtain rfl:=ah h;exact ac sA (cS [] 0)
 refine I ?_;obtain ⟨b2,hb2,h⟩:=aa h;refine aw 4 13 b2 ?_ ?_
 ·clear h;refine av 9 J (fun g2=> ?_) (fun g2=> ?_)
  ·have h:=ad g2 hb2;refine I ?_;refine fv (ne J J) J (aZ g2 J) J ?_;refine I ?_;obtain rfl:=ah h;exact ac sA (cS [] 0)
  have h:=ae g2 hb2;refine I ?_;obtain rfl:=ah h;exact ac sA (cS [] 0)
 refine I ?_;obtain rfl:=ah h;exact aI J J (cS [] 0) ⟨J,J⟩
theorem ko {r:Bool}: ∀v post,((fun (u:Value) (post:List Chunk)=>u=.bool r∧post=[])) v post→ ∀c∈post,bZ c:=by
 rintro _ _ ⟨rfl,rfl⟩;exact ag
def eA (N:Nat)(a0:uH)(a1:Int)(a2:uB)(a3:Int):Option Int:=
 (cT N a0 a1).bind fun y5=>bif !y5 then (some 2) else ((jN N a2).bind fun y7=>(bif !y7 then (some true) else ((jH N a3).bind fun y9=>some (!y9))).bind fun b8=>bif b8 then (some 1) else (some 0))
theorem f6 {N:Nat}{a0:uH}{a1:Int}{a2:uB}{a3:Int}{r:Int}(h:eA N a0 a1 a2 a3=some r):Okc Tryz.prog 114 [pV B1 0,iV a1,(mu a2),iV a3] ([aG B1 118 [Y A2 n2 c2,.map (some M3)],cK br (Y A2 n2 c2) a0.shapes_,dg aA du M3 a0.next_]) (fun u post=>u=iV r∧post=[]):=by
 refine bv Tryz.func114 J J ?_;simp only [aN];refine I ?_;refine gD (bi J J) ?_;rintro _ _ ⟨B4,rfl,rfl⟩;refine I ?_;refine ay ?_;refine I ?_;refine gE (bo J Tryz.underlying72) ?_;refine I ?_;refine el J ?_;refine I ?_;obtain ⟨y5,hy5,h⟩:=aa h;refine gD (al (dD hy5) lV J (hD (aj (i:=1) J J) (hD (aj (i:=2) J J) (hD (aj (i:=3) J J) ag))) db) ?_;rintro _ _ ⟨_,⟨rfl,rfl⟩,rfl⟩;refine I ?_;refine ap J (fun g6=> ?_) (fun g6=> ?_)
 ·replace h:=ad g6 h;refine I ?_;obtain rfl:=ah h;exact aI J J (cS [] 4) ⟨J,J⟩
 replace h:=ae g6 h;refine I ?_;refine gR (aS (us:=i5 a2) 0 J J jl J) ?_;obtain ⟨y7,hy7,h⟩:=aa h;refine gD (al (lE hy7) qW J (ag) kE) ?_;rintro _ _ ⟨_,⟨rfl,rfl⟩,rfl⟩;refine I ?_;obtain ⟨b8,hb8,h⟩:=aa h;refine aw 4 25 b8 ?_ ?_
 ·clear h;refine av 21 J (fun g8=> ?_) (fun g8=> ?_)
  ·have h:=ad g8 hb8;refine I ?_;obtain rfl:=ah h;exact ac sA (cS [0,1,2,3] 4)
  have h:=ae g8 hb8;refine I ?_;obtain ⟨y9,hy9,h⟩:=aa h;refine ce (al (lw hy9) qV J (ag) ko) J (fs g8 J) J ?_;rintro _ _ ⟨_,⟨rfl,rfl⟩,rfl⟩;refine I ?_;obtain rfl:=ah h;exact ac sA (cS [0,1,2,3] 4)
 refine I ?_;refine ap J (fun g10=> ?_) (fun g10=> ?_)
 ·replace h:=ad g10 h;refine I ?_;obtain rfl:=ah h;exact aI J J (cS [] 4) ⟨J,J⟩
 replace h:=ae g10 h;refine I ?_;obtain rfl:=ah h;exact aI J J (cS [] 4) ⟨J,J⟩
theorem fH {r:Int}: ∀v post,((fun (u:Value) (post:List Chunk)=>u=iV r∧post=[])) v post→ ∀c∈post,bZ c:=by
 rintro _ _ ⟨rfl,rfl⟩;exact ag
def eB (N:Nat):Option (Int×Int×Bool):=
 some (0,0,false)
def dc (N:Nat)(a0:uH)(a2:uB):Nat→Int→Int→Int→ByteArray→Int→Int→Option (Int×Int×Bool)
 |0,_,_,_,_,_,_=>none
 |m10+1,p12,p13,p14,p15,p16,p17=>bif decide (0<p17) then (bif decide ((⟨p13,p14,p15⟩:uB)=a2) then (ea (cM (p17 - 1)) (some (p17 - 1,p16,true))) else ((cc a0.shapes_ p12).bind fun x22=>(dc N a0 a2 m10) x22.Up x22.Key.Kind x22.Key.N x22.Key.S x22.Attrs x22.Len)) else (eB N)
def eN (N:Nat)(a0:uH)(a1:Int)(a2:uB):Option (Int×Int×Bool):=
 (cT N a0 a1).bind fun y5=>bif !y5 then (some (0,0,false)) else ((cc a0.shapes_ a1).bind fun x8=>dc N a0 a2 N x8.Up x8.Key.Kind x8.Key.N x8.Key.S x8.Attrs x8.Len)
set_option maxHeartbeats 4000000 in
theorem ib {N:Nat}{a0:uH}{a1:Int}{a2:uB}{r:(Int×Int×Bool)}(h:eN N a0 a1 a2=some r):Okc Tryz.prog 115 [pV B1 0,iV a1,(mu a2)] ([aG B1 118 [Y A2 n2 c2,.map (some M3)],cK br (Y A2 n2 c2) a0.shapes_,dg aA du M3 a0.next_]) (fun u post=>u=.tuple #[iV r.1,iV r.2.1,.bool r.2.2]∧post=[]):=by
 refine bv Tryz.func115 J J ?_;simp only [aN];refine I ?_;refine gD (bi J J) ?_;rintro _ _ ⟨B4,rfl,rfl⟩;refine I ?_;refine ay ?_;refine I ?_;obtain ⟨y5,hy5,h⟩:=aa h;refine gD (al (dD hy5) lV J (hD (aj (i:=1) J J) (hD (aj (i:=2) J J) (hD (aj (i:=3) J J) ag))) db) ?_;rintro _ _ ⟨_,⟨rfl,rfl⟩,rfl⟩;refine I ?_;refine ap J (fun g6=> ?_) (fun g6=> ?_)
 ·replace h:=ad g6 h;refine I ?_;obtain rfl:=ah h;exact nV J J J J (cS [] 4) ⟨J,J⟩
 replace h:=ae g6 h;refine I ?_;refine bm (fun s L=>eB N=some r∧s=[(6,iV 0),(7,iV 0),(8,.bool false)]∧L=[]) ?_ ?_
 ·refine I ?_;refine gR (ba 1 J J gm J) ?_;refine I ?_;obtain ⟨x8,hx8,h⟩:=aa h;obtain ⟨lx8,ux8,hx8⟩:=aD hx8;refine gR (bp 2 J ar J J hP cF lx8 ux8) ?_;refine gR (bq (us:=cH x8) 2 J ar J hx8 iQ (fun _ _ _ h=>by rw [show _=_ from h];rfl)) ?_;refine gD (aJ iR J) ?_;rintro _ _ ⟨B9,rfl,rfl⟩;refine gO (aq (us:=cH x8) (cs':=cH x8) 0 J J J J cF J J J) ?_;rintro _ _ rfl;refine I ?_;refine d8 (fun m s L=> ∃p12 p13 p14 p15 p16 p17 B11,dc N a0 a2 m p12 p13 p14 p15 p16 p17=some r∧s=[(0,pV B1 0),(5,pV B4 0),(6,iV 0),(7,iV 0),(8,.bool false),(9,pV B11 0)]∧L=[ak B11 114 [iV p12,iV p13,iV p14,.string p15,iV p16,iV p17],cK br (Y A2 n2 c2) a0.shapes_,dg aA du M3 a0.next_,aG B1 118 [Y A2 n2 c2,.map (some M3)],ak B4 82 (i5 a2)]) N _ _ ⟨x8.Up,x8.Key.Kind,x8.Key.N,x8.Key.S,x8.Attrs,x8.Len,B9,h,J,J⟩ sA (cS [0,3,4,2,1] 5) ?_;rintro (_|m10) _ _ ⟨p12,p13,p14,p15,p16,p17,B11,h,rfl,rfl⟩
  ·exact bM h
  rw [dc.eq_2] at h;refine ay ?_;refine I ?_;refine ap J (fun g18=> ?_) (fun g18=> ?_)
  ·replace h:=ad g18 h;refine I ?_;refine ay ?_;refine I ?_;refine gR (aS (us:=[iV p13,iV p14,.string p15]) 0 J J jl J) ?_;refine gR (aS (us:=i5 a2) 4 J J jl J) ?_;refine gE (pp (x:=(⟨p13,p14,p15⟩:uB)) (y:=a2) J J) ?_;refine I ?_;refine ap J (fun g19=> ?_) (fun g19=> ?_)
   ·replace h:=ad g19 h;refine ay ?_;refine bE V _ (ao _) ?_;refine zE 0 J (bO J kL) ?_;refine zR 1 J (aH 0 J J d4 J) ?_;obtain ⟨q20,h⟩:=aC h;refine zE 2 J (iL J J q20.1 q20.2) ?_;refine zE 3 J (bO J gu) ?_;refine zR 4 J (aH 0 J J d4 J) ?_;refine zE 5 J (aX J) ?_;refine zE 6 J (aX J) ?_;refine zE 7 J (aX J) ?_;refine bc V ?_;refine I ?_;obtain rfl:=ah h;exact nV J J J J (cS [] 5) ⟨J,J⟩
   replace h:=ae g19 h;refine I ?_;refine ay ?_;refine I ?_;refine gR (aS (us:=[iV p12,iV p13,iV p14,.string p15,iV p16,iV p17]) 0 J J iQ J) ?_;refine I ?_;refine gD (aJ iR J) ?_;rintro _ _ ⟨B21,rfl,rfl⟩;refine gO (aq (us:=[iV p12,iV p13,iV p14,.string p15,iV p16,iV p17]) (cs':=[iV p12,iV p13,iV p14,.string p15,iV p16,iV p17]) 0 J J J J cF J J J) ?_;rintro _ _ rfl;refine I ?_;refine bE V _ (ao _) ?_;refine zE 0 J (ax J) ?_;refine zE 1 J (az J) ?_;refine zE 2 J (dH J fD) ?_;refine zR 3 J (ba 4 J J gm J) ?_;refine zE 4 J (dH J mx) ?_;refine zR 5 J (aH 0 J J d4 J) ?_;obtain ⟨x22,hx22,h⟩:=aa h;obtain ⟨lx22,ux22,hx22⟩:=aD hx22;refine zR 6 J (bp 2 J ar J J hP cF lx22 ux22) ?_;refine zR 7 J (bq (us:=cH x22) 2 J ar J hx22 iQ (fun _ _ _ h=>by rw [show _=_ from h];rfl)) ?_;refine jm 8 J V V (aq (us:=cH x22) (cs':=cH x22) 0 J J J J cF J J J) ?_;rintro _ _ rfl;refine bc V ?_;refine eH ?_;exact ⟨m10,_,_,uQ _,⟨x22.Up,x22.Key.Kind,x22.Key.N,x22.Key.S,x22.Attrs,x22.Len,B21,h,J,J⟩,sA,cS [0,2,3,4,5] 6⟩
  replace h:=ae g18 h;refine I ?_;exact ⟨_,_,⟨h,J,J⟩,sA,cS [] 5⟩
 rintro _ _ ⟨h,rfl,rfl⟩;refine I ?_;obtain rfl:=ah h;exact nV J J J J (cS [] 0) ⟨J,J⟩
theorem fW {r:(Int×Int×Bool)}: ∀v post,((fun (u:Value) (post:List Chunk)=>u=.tuple #[iV r.1,iV r.2.1,.bool r.2.2]∧post=[])) v post→ ∀c∈post,bZ c:=by
 rintro _ _ ⟨rfl,rfl⟩;exact ag
def fx (N:Nat)(a0:uH)(a1:Int):Option (uD×Bool):=
 (cT N a0 a1).bind fun y5=>bif !y5 then (some ((⟨0,(⟨0,0,⟨#[]⟩⟩:uB),0,0⟩:uD),false)) else ((cc a0.shapes_ a1).bind fun x7=>some (x7,true))
theorem iU {N:Nat}{a0:uH}{a1:Int}{r:(uD×Bool)}(h:fx N a0 a1=some r):Okc Tryz.prog 155 [pV B1 0,iV a1] ([aG B1 118 [Y A2 n2 c2,.map (some M3)],cK br (Y A2 n2 c2) a0.shapes_,dg aA du M3 a0.next_]) (fun u post=>u=.tuple #[(lJ r.1),.bool r.2]∧post=[]):=by
 refine bv Tryz.func155 J J ?_;simp only [aN];refine I ?_;refine gD (aJ iR J) ?_;rintro _ _ ⟨B4,rfl,rfl⟩;refine I ?_;refine ay ?_;refine I ?_;obtain ⟨y5,hy5,h⟩:=aa h;refine gD (al (dD hy5) lV J (hD (aj (i:=1) J J) (hD (aj (i:=2) J J) (hD (aj (i:=3) J J) ag))) db) ?_;rintro _ _ ⟨_,⟨rfl,rfl⟩,rfl⟩;refine I ?_;refine ap J (fun g6=> ?_) (fun g6=> ?_)
 ·replace h:=ad g6 h;refine I ?_;refine gE (aE J (pP)) ?_;refine gO (aq (us:=[iV 0,iV 0,iV 0,.string (⟨#[]⟩),iV 0,iV 0]) (cs':=[iV 0,iV 0,iV 0,.string (⟨#[]⟩),iV 0,iV 0]) 0 J J J J cF J J J) ?_;rintro _ _ rfl;refine I ?_;obtain rfl:=ah h;exact co (rs:=[.cell 4 114,.tmp 5]) (vs:=[.agg #[iV 0,iV 0,iV 0,.string (⟨#[]⟩),iV 0,iV 0],.bool false]) J (.cons (bA 0 J J iQ) (.cons (gb J) .nil)) J (cS [] 4) ⟨J,J⟩
 replace h:=ae g6 h;refine I ?_;refine gR (ba 1 J J gm J) ?_;refine I ?_;obtain ⟨x7,hx7,h⟩:=aa h;obtain ⟨lx7,ux7,hx7⟩:=aD hx7;refine gR (bp 2 J ar J J hP cF lx7 ux7) ?_;refine gR (bq (us:=cH x7) 2 J ar J hx7 iQ (fun _ _ _ h=>by rw [show _=_ from h];rfl)) ?_;refine gO (aq (us:=cH x7) (cs':=cH x7) 0 J J J J cF J J J) ?_;rintro _ _ rfl;refine I ?_;obtain rfl:=ah h;exact co (rs:=[.cell 4 114,.tmp 5]) (vs:=[(lJ x7),.bool true]) J (.cons (bA 0 J J iQ) (.cons (gb J) .nil)) J (cS [] 4) ⟨J,J⟩
theorem ic {r:(uD×Bool)}: ∀v post,((fun (u:Value) (post:List Chunk)=>u=.tuple #[(lJ r.1),.bool r.2]∧post=[])) v post→ ∀c∈post,bZ c:=by
 rintro _ _ ⟨rfl,rfl⟩;exact ag
def fc (N:Nat)(a0:uH)(a1:Int):Option Int:=
 (fx N a0 a1).bind fun y4=>some y4.1.Len
theorem iC {N:Nat}{a0:uH}{a1:Int}{r:Int}(h:fc N a0 a1=some r):Okc Tryz.prog 116 [pV B1 0,iV a1] ([aG B1 118 [Y A2 n2 c2,.map (some M3)],cK br (Y A2 n2 c2) a0.shapes_,dg aA du M3 a0.next_]) (fun u post=>u=iV r∧post=[]):=by
 refine bv Tryz.func116 J J ?_;simp only [aN];refine I ?_;obtain ⟨y4,hy4,h⟩:=aa h;refine gD (al (iU hy4) qU J (hD (aj (i:=0) J J) (hD (aj (i:=1) J J) (hD (aj (i:=2) J J) ag))) ic) ?_;rintro _ _ ⟨_,⟨rfl,rfl⟩,rfl⟩;refine I ?_;refine gD (aJ iR J) ?_;rintro _ _ ⟨B5,rfl,rfl⟩;refine gO (aq (us:=cH y4.1) (cs':=cH y4.1) 0 J J J J cF J J J) ?_;rintro _ _ rfl;refine I ?_;obtain rfl:=ah h;exact aI J J (cS [] 4) ⟨J,J⟩
theorem ga {r:Int}: ∀v post,((fun (u:Value) (post:List Chunk)=>u=iV r∧post=[])) v post→ ∀c∈post,bZ c:=by
 rintro _ _ ⟨rfl,rfl⟩;exact ag
def ez (N:Nat)(p20:Int)(p21:(List uD))(p22:(List (uF×Int))):Option (Int×Int×uH):=
 some (p20,0,(⟨p21,p22⟩:uH))
def dq (N:Nat)(p7:(List uD)):Nat→Int→Int→(List uD)→(List (uF×Int))→Option (Int×Int×uH)
 |0,_,_,_,_=>none
 |m23+1,p24,p25,p26,p27=>bif decide (p25<(p7.length:Int)) then ((cc p7 p25).bind fun x29=>(cc p26 p24).bind fun x31=>ea (cM (x31.Len+1)) (ea (fS (p26.length+([(⟨p24,x29.Key,x29.Attrs,x31.Len+1⟩:uD)]:List uD).length)) (ea (cM (((p26++([(⟨p24,x29.Key,x29.Attrs,x31.Len+1⟩:uD)]:List uD)).length:Int) - 1)) (ea (cM (p25+1)) ((dq N p7 m23) (((p26++([(⟨p24,x29.Key,x29.Attrs,x31.Len+1⟩:uD)]:List uD)).length:Int) - 1) (p25+1) (p26++([(⟨p24,x29.Key,x29.Attrs,x31.Len+1⟩:uD)]:List uD)) (rp p27 (⟨p24,x29.Key,x29.Attrs⟩:uF) (p26.length:Int))))))) else (ez N p24 p26 p27)
def dC (N:Nat)(a0:uH)(p6:Int)(p7:(List uD)):Option (Int×Int×uH):=
 ea (cM (1073741824 - (a0.shapes_.length:Int))) (bif decide (1073741824 - (a0.shapes_.length:Int)<(p7.length:Int)) then (some (0,5,a0)) else (dq N p7 N p6 0 a0.shapes_ a0.next_))
def dB (N:Nat)(a0:uH):Nat→Int→(List uD)→Option (Int×Int×uH)
 |0,_,_=>none
 |m8+1,p9,p10=>bif decide (0<(p10.length:Int)) then ((cc p10 0).bind fun x12=>(cc p10 0).bind fun x13=>bif !((lk a0.next_ (⟨p9,x12.Key,x13.Attrs⟩:uF)).isSome) then (dC N a0 p9 p10) else (ea ((0:Int)≤1∧(1:Int).toNat≤p10.length∧p10.length≤p10.length) ((dB N a0 m8) ((lk a0.next_ (⟨p9,x12.Key,x13.Attrs⟩:uF)).getD 0) ((p10.drop ((1:Int).toNat)).take (p10.length - (1:Int).toNat))))) else (dC N a0 p9 p10)
def fb (N:Nat)(a0:uH)(a1:Int)(a2:(List uD)):Option (Int×Int×uH):=
 dB N a0 N a1 a2
set_option maxHeartbeats 4000000 in
theorem iB {N:Nat}{a0:uH}{a1:Int}{a2:(List uD)}{r:(Int×Int×uH)}(h:fb N a0 a1 a2=some r):Okc Tryz.prog 117 [pV B1 0,iV a1,Y A4 n4 c4] ([cK br (Y A4 n4 c4) a2,ak B1 118 [Y A2 n2 c2,.map (some M3)],ex A2 n2 c2 a0.shapes_,aL aA du M3 a0.next_]) (fun u post=> ∃A0 n0 c0 M1,u=.tuple #[iV r.1,iV r.2.1]∧post=[ak B1 118 [Y A0 n0 c0,.map (some M1)],ex A0 n0 c0 r.2.2.shapes_,aL aA du M1 r.2.2.next_]):=by
 refine bv Tryz.func117 J J ?_;simp only [aN];refine I ?_;refine bm (fun s L=> ∃p6 p7 A7 n7 c7,dC N a0 p6 p7=some r∧s=[(0,pV B1 0),(6,iV 0),(7,iV 0),(8,iV p6),(9,Y A7 n7 c7)]∧L=[cK br (Y A7 n7 c7) p7,ex A2 n2 c2 a0.shapes_,aL aA du M3 a0.next_,ak B1 118 [Y A2 n2 c2,.map (some M3)]]) ?_ ?_
 ·refine gY ?_;refine d8 (fun m s L=> ∃p9 p10 A10 n10 c10,dB N a0 m p9 p10=some r∧s=[(0,pV B1 0),(6,iV 0),(7,iV 0),(8,iV p9),(9,Y A10 n10 c10)]∧L=[cK br (Y A10 n10 c10) p10,ex A2 n2 c2 a0.shapes_,aL aA du M3 a0.next_,ak B1 118 [Y A2 n2 c2,.map (some M3)]]) N _ _ ⟨a1,a2,A4,n4,c4,h,J,J⟩ sA (cS [0,2,3,1] 4) ?_;rintro (_|m8) _ _ ⟨p9,p10,A10,n10,c10,h,rfl,rfl⟩
  ·exact bM h
  rw [dB.eq_2] at h;refine ay ?_;refine I ?_;refine gR (bf 0 J ar J hP) ?_;refine I ?_;refine ap J (fun g11=> ?_) (fun g11=> ?_)
  ·replace h:=ad g11 h;refine I ?_;refine ay ?_;refine bE V _ (ao _) ?_;refine zE 0 J (ax J) ?_;refine zE 1 J (az J) ?_;refine zE 2 J (bO J kK) ?_;refine zR 3 J (aH 3 J J mX J) ?_;refine zE 4 J (ax J) ?_;refine zE 5 J (ax J) ?_;obtain ⟨x12,hx12,h⟩:=aa h;obtain ⟨lx12,ux12,hx12⟩:=aD hx12;refine zR 6 J (bp 0 J ar J J hP cF lx12 ux12) ?_;refine zR 7 J (nG 0 J ar J (cJ lx12 ux12) i7) ?_;refine zR 8 J (bq (us:=i5 x12.Key) 0 J ar J hx12 jl (fun _ _ _ h=>by rw [show _=_ from h];rfl)) ?_;refine zE 9 J (ax J) ?_;obtain ⟨x13,hx13,h⟩:=aa h;obtain ⟨lx13,ux13,hx13⟩:=aD hx13;refine zR 10 J (bp 0 J ar J J hP cF lx13 ux13) ?_;refine zR 11 J (nG 0 J ar J (cJ lx13 ux13) gu) ?_;refine zR 12 J (ee (u:=iV x13.Attrs) 0 J ar J hx13 d4 (fun _ _ _ h=>by rw [show _=_ from h];rfl)) ?_;refine zE 13 J (aE J (iz _ _ _ _ _)) ?_;refine zR 14 J (o6 (a:=(⟨p9,x12.Key,x13.Attrs⟩:uF)) (z:=0) 2 J rN J J Tryz.underlying116 kG sF) ?_;refine zE 15 J (ax J) ?_;refine zE 16 J (aR J J) ?_;refine zE 17 J (aR J J) ?_;refine zE 18 J (aX J) ?_;refine zE 19 J (aX J) ?_;refine bc V ?_;refine eH ?_;refine ay ?_;refine I ?_;refine ap J (fun g14=> ?_) (fun g14=> ?_)
   ·replace h:=ad g14 h;refine I ?_;refine tI J ?_;refine I ?_;exact ⟨_,_,⟨p9,p10,A10,n10,c10,h,J,J⟩,sA,cS [0,1,2,3] 4⟩
   replace h:=ae g14 h;refine I ?_;refine bE V _ (ao _) ?_;refine zE 0 J (ax J) ?_;refine zE 1 J (ax J) ?_;obtain ⟨q15,h⟩:=aC h;refine pR 0 J (l:=(1:Int).toNat) (h:=p10.length) q15.2.1 q15.2.2 ?_;rintro A16 n16 c16 e16;refine zR 2 J (lA 1 J e16 J hP cF J (by rw [Int.toNat_of_nonneg q15.1];rfl) q15.2.1) ?_;refine zE 3 J (aX J) ?_;refine zE 4 J (aX J) ?_;refine bc V ?_;refine I ?_;exact ⟨m8,_,_,uQ _,⟨(lk a0.next_ (⟨p9,x12.Key,x13.Attrs⟩:uF)).getD 0,(p10.drop ((1:Int).toNat)).take (p10.length - (1:Int).toNat),A16,n16,c16,h,J,J⟩,sA,cS [0,2,3,4] 5⟩
  replace h:=ae g11 h;refine I ?_;exact ⟨_,_,⟨p9,p10,A10,n10,c10,h,J,J⟩,sA,cS [0,1,2,3] 4⟩
 rintro _ _ ⟨p6,p7,A7,n7,c7,h,rfl,rfl⟩;refine ay ?_;refine I ?_;refine gR (bf 0 J ar J hP) ?_;refine I ?_;refine gR (bf 1 J bJ J hP) ?_;obtain ⟨q17,h⟩:=aC h;refine gE (iL J J q17.1 q17.2) ?_;refine I ?_;refine ap J (fun g18=> ?_) (fun g18=> ?_)
 ·replace h:=ad g18 h;refine I ?_;obtain rfl:=ah h;exact eV J J J (cS [3,1,2] 4) ⟨_,_,_,_,J,J⟩
 replace h:=ae g18 h;refine I ?_;refine bm (fun s L=> ∃p20 p21 p22 A21 n21 c21,ez N p20 p21 p22=some r∧s=[(6,iV 0),(7,iV 0),(8,iV p20)]∧L=[ex A21 n21 c21 p21,aL aA du M3 p22,ak B1 118 [Y A21 n21 c21,.map (some M3)]]) ?_ ?_
 ·refine I ?_;refine gR (bf 0 J ar J hP) ?_;refine I ?_;refine d8 (fun m s L=> ∃p24 p25 p26 p27 A26 n26 c26,dq N p7 m p24 p25 p26 p27=some r∧s=[(0,pV B1 0),(6,iV 0),(7,iV 0),(8,iV p24),(51,Y A7 n7 c7),(52,iV (p7.length:Int)),(53,iV p25)]∧L=[cK br (Y A7 n7 c7) p7,ex A26 n26 c26 p26,aL aA du M3 p27,ak B1 118 [Y A26 n26 c26,.map (some M3)]]) N _ _ ⟨p6,0,a0.shapes_,a0.next_,A2,n2,c2,h,J,J⟩ sA (cS [0,1,2,3] 4) ?_;rintro (_|m23) _ _ ⟨p24,p25,p26,p27,A26,n26,c26,h,rfl,rfl⟩
  ·exact bM h
  rw [dq.eq_2] at h;refine I ?_;refine ay ?_;refine ap J (fun g28=> ?_) (fun g28=> ?_)
  ·replace h:=ad g28 h;refine I ?_;refine ay ?_;refine I ?_;obtain ⟨x29,hx29,h⟩:=aa h;obtain ⟨lx29,ux29,hx29⟩:=aD hx29;refine gR (bp 0 J ar J J hP cF lx29 ux29) ?_;refine gR (bq (us:=cH x29) 0 J ar J hx29 iQ (fun _ _ _ h=>by rw [show _=_ from h];rfl)) ?_;refine gD (aJ iR J) ?_;rintro _ _ ⟨B30,rfl,rfl⟩;refine gO (aq (us:=cH x29) (cs':=cH x29) 0 J J J J cF J J J) ?_;rintro _ _ rfl;refine I ?_;refine ay ?_;refine bE V _ (ao _) ?_;refine zE 0 J (ax J) ?_;refine zE 1 J (az J) ?_;refine zE 2 J (bO J kK) ?_;refine zR 3 J (aH 4 J J mX J) ?_;refine zE 4 J (ax J) ?_;refine zE 5 J (bO J i7) ?_;refine zR 6 J (aS (us:=i5 x29.Key) 0 J J jl J) ?_;refine zE 7 J (bO J gu) ?_;refine zR 8 J (aH 0 J J d4 J) ?_;refine zE 9 J (aE J (iz _ _ _ _ _)) ?_;refine zE 10 J (ax J) ?_;refine zE 11 J (az J) ?_;refine zE 12 J (dH J fD) ?_;refine zR 13 J (aH 4 J J gm J) ?_;refine zR 14 J (bf 2 J bJ J hP) ?_;refine jm 15 J V V (lD (a:=(⟨p24,x29.Key,x29.Attrs⟩:uF)) (b:=(p26.length:Int)) 3 J J J J Tryz.underlying116 kG) ?_;rintro _ _ rfl;refine bc V ?_;refine eH ?_;refine ay ?_;obtain ⟨x31,hx31,h⟩:=aa h;obtain ⟨lx31,ux31,hx31⟩:=aD hx31;obtain ⟨q32,h⟩:=aC h;refine iA (t:=[(0,pV B1 0),(6,iV 0),(7,iV 0),(8,iV p24),(13,pV B30 0),(51,Y A7 n7 c7),(52,iV (p7.length:Int)),(53,iV p25)]) ?_ mh (ao _)
   refine kh V 21 [0] [0,4,20] [72,73,74,75,76,77,78,79,80,81,82,83,84,85,86,87,88,89,90,91,92] [[],[],[1],[2],[3],[],[],[6],[],[8],[],[10],[11],[12],[],[13,14],[15],[16],[17],[5,7,9,18],[19]] [aV (pV B1 0),
aV (pV B1 0),
aV (pV B1 0),
aV (pV B1 0),
aV (Y A26 n26 c26),
aV (iV p24),
aV (pV B30 1),
aV ((mu x29.Key)),
aV (pV B30 4),
aV (iV x29.Attrs),
aV (pV B1 0),
aV (pV B1 0),
aV (pV B1 0),
aV (Y A26 n26 c26),
aV (iV p24),
aV (cA (Y A26 n26 c26) p24.toNat 6 0),
aV (cA (Y A26 n26 c26) p24.toNat 6 5),
aV (iV x31.Len),
aV (iV (x31.Len+1)),
aV (.agg #[iV p24,iV x29.Key.Kind,iV x29.Key.N,.string x29.Key.S,iV x29.Attrs,iV (x31.Len+1)]),
aX3 (fun (A34:Option Addr) (n34 c34:Nat)=> Y A34 n34 c34) (fun A34 n34 c34=> [ex A34 n34 c34 ([(⟨p24,x29.Key,x29.Attrs,x31.Len+1⟩:uD)]:List uD)])] [] (ao _) (kc rfl lC) V rfl rfl ?_ ?_ ?_
   ·refine ka J ?_ ?_
    ·exact og (ax J) J (cq J (ao _))
    exact lB
   ·refine au J ?_ ?_
    ·refine oR (bW (R:=br) (vss:=[[iV p24,iV x29.Key.Kind,iV x29.Key.N,.string x29.Key.S,iV x29.Attrs,iV (x31.Len+1)]]) (xs:=[(⟨p24,x29.Key,x29.Attrs,x31.Len+1⟩:uD)]) J (jF _ _ _ _ _ _) J J (fun _ _ hr=> .cons J All2.nil)) J ?_;rintro _ _ ⟨A33,n33,c33,rfl,rfl⟩;exact qN A33 n33 c33 (ao _)
    refine au J ?_ ?_
    ·exact ei (aE J (jY _ _ _ _ _ _)) J (cq J (ao _))
    refine au J ?_ ?_
    ·exact ei (dI J J q32.1 q32.2) J (cq J (ao _))
    refine au J ?_ ?_
    ·exact jG (ee (u:=iV x31.Len) 2 J bJ J hx31 d4 (fun _ _ _ h=>by rw [show _=_ from h];rfl)) J (cq J (ao _))
    refine au J ?_ ?_
    ·exact jG (nG 2 J bJ J (cJ lx31 ux31) kL) J (cq J (ao _))
    refine au J ?_ ?_
    ·exact jG (bp 2 J bJ J J hP cF lx31 ux31) J (cq J (ao _))
    refine au J ?_ ?_
    ·exact ei (ax J) J (cq J (ao _))
    refine au J ?_ ?_
    ·exact jG (aH 4 J J gm J) J (cq J (ao _))
    refine au J ?_ ?_
    ·exact ei (dH J fD) J (cq J (ao _))
    refine au J ?_ ?_
    ·exact ei (az J) J (cq J (ao _))
    refine au J ?_ ?_
    ·exact ei (ax J) J (cq J (ao _))
    refine au J ?_ ?_
    ·exact jG (aH 0 J J d4 J) J (cq J (ao _))
    refine au J ?_ ?_
    ·exact ei (bO J gu) J (cq J (ao _))
    refine au J ?_ ?_
    ·exact jG (aS (us:=i5 x29.Key) 0 J J jl J) J (cq J (ao _))
    refine au J ?_ ?_
    ·exact ei (bO J i7) J (cq J (ao _))
    refine au J ?_ ?_
    ·exact ei (ax J) J (cq J (ao _))
    refine au J ?_ ?_
    ·exact jG (aH 4 J J gm J) J (cq J (ao _))
    refine au J ?_ ?_
    ·exact ei (dH J fD) J (cq J (ao _))
    refine au J ?_ ?_
    ·exact ei (az J) J (cq J (ao _))
    refine au J ?_ ?_
    ·exact ei (ax J) J (cq J (ao _))
    refine au J ?_ ?_
    ·exact ei (ax J) J (cq J (ao _))
    exact gL
   intro A34 n34 c34;refine mN (t:=[(72,pV B1 0),(76,Y A26 n26 c26),(92,Y A34 n34 c34),(0,pV B1 0),(6,iV 0),(7,iV 0),(8,iV p24),(13,pV B30 0),(51,Y A7 n7 c7),(52,iV (p7.length:Int)),(53,iV p25)]) (L':=[ex A34 n34 c34 ([(⟨p24,x29.Key,x29.Attrs,x31.Len+1⟩:uD)]:List uD),ak B30 114 (cH x29),cK br (Y A7 n7 c7) p7,ex A26 n26 c26 p26,aL aA du M3 (rp p27 (⟨p24,x29.Key,x29.Attrs⟩:uF) (p26.length:Int)),ak B1 118 [Y A26 n26 c26,.map (some M3)]]) ?_ mh (ao _);obtain ⟨q35,h⟩:=aC h;refine mO 21 J V (d3 3 0 J J bJ J J hP sH J J q35) J J J ?_;rintro _ _ ⟨A36,n36,c36,rfl,rfl⟩;refine ma 22 J V (az J) J J J ?_;refine ma 23 J V (dH J fD) J J J ?_;refine oh 24 J V (aq (us:=[Y A36 n36 c36]) (cs':=[Y A36 n36 c36,.map (some M3)]) 5 J J J J qg J J J) J J ?_;rintro _ _ rfl;refine rv ?_;refine mc V ?_;refine I ?_;refine gR (bf 3 J bJ J hP) ?_;obtain ⟨q37,h⟩:=aC h;refine gE (iL J J q37.1 q37.2) ?_;refine I ?_;obtain ⟨q38,h⟩:=aC h;refine gE (dI J J q38.1 q38.2) ?_;refine I ?_;exact ⟨m23,_,_,uQ _,⟨((p26++([(⟨p24,x29.Key,x29.Attrs,x31.Len+1⟩:uD)]:List uD)).length:Int) - 1,p25+1,p26++([(⟨p24,x29.Key,x29.Attrs,x31.Len+1⟩:uD)]:List uD),rp p27 (⟨p24,x29.Key,x29.Attrs⟩:uF) (p26.length:Int),A36,n36,c36,h,J,J⟩,sA,cS [2,3,4,5] 6⟩
  replace h:=ae g28 h;refine I ?_;exact ⟨_,_,⟨p24,p26,p27,A26,n26,c26,h,J,J⟩,sA,cS [1,2,3] 4⟩
 rintro _ _ ⟨p20,p21,p22,A21,n21,c21,h,rfl,rfl⟩;refine I ?_;obtain rfl:=ah h;exact eV J J J (cS [2,0,1] 3) ⟨_,_,_,_,J,J⟩
def eM (N:Nat)(a0:uH)(a1:Int)(a2:uB)(a3:Int):Option (Int×Int×uH):=
 (eA N a0 a1 a2 a3).bind fun y5=>bif !decide (y5=0) then (some (0,y5,a0)) else ((eN N a0 a1 a2).bind fun y7=>bif y7.2.2 then (some (0,4,a0)) else ((fc N a0 a1).bind fun y9=>bif decide (1024≤y9) then (some (0,9,a0)) else ((fb N a0 a1 ([(⟨0,a2,a3,0⟩:uD)]:List uD)).bind fun y12=>some (y12.1,y12.2.1,y12.2.2))))
set_option maxHeartbeats 4000000 in
theorem ia {N:Nat}{a0:uH}{a1:Int}{a2:uB}{a3:Int}{r:(Int×Int×uH)}(h:eM N a0 a1 a2 a3=some r):Okc Tryz.prog 80 [pV B1 0,iV a1,(mu a2),iV a3] ([ak B1 118 [Y A2 n2 c2,.map (some M3)],ex A2 n2 c2 a0.shapes_,aL aA du M3 a0.next_]) (fun u post=> ∃A0 n0 c0 M1,u=.tuple #[iV r.1,iV r.2.1]∧post=[ak B1 118 [Y A0 n0 c0,.map (some M1)],ex A0 n0 c0 r.2.2.shapes_,aL aA du M1 r.2.2.next_]):=by
 refine bv Tryz.func80 J J ?_;simp only [aN];refine I ?_;refine gD (bi J J) ?_;rintro _ _ ⟨B4,rfl,rfl⟩;refine I ?_;refine ay ?_;refine I ?_;refine gR (aS (us:=i5 a2) 0 J J jl J) ?_;refine I ?_;obtain ⟨y5,hy5,h⟩:=aa h;refine gD (al (f6 hy5) rf J (hD (ai (i:=1) J) (hD (ab (i:=2) J) (hD (aB (i:=3) J) ag))) fH) ?_;rintro _ _ ⟨_,⟨rfl,rfl⟩,rfl⟩;refine I ?_;refine ap J (fun g6=> ?_) (fun g6=> ?_)
 ·replace h:=ad g6 h;refine I ?_;obtain rfl:=ah h;exact eV J J J (cS [1,2,3] 4) ⟨_,_,_,_,J,J⟩
 replace h:=ae g6 h;refine I ?_;refine ay ?_;refine I ?_;refine gR (aS (us:=i5 a2) 0 J J jl J) ?_;obtain ⟨y7,hy7,h⟩:=aa h;refine gD (al (ib hy7) re J (hD (ai (i:=1) J) (hD (ab (i:=2) J) (hD (aB (i:=3) J) ag))) fW) ?_;rintro _ _ ⟨_,⟨rfl,rfl⟩,rfl⟩;refine I ?_;refine ap J (fun g8=> ?_) (fun g8=> ?_)
 ·replace h:=ad g8 h;refine I ?_;obtain rfl:=ah h;exact eV J J J (cS [1,2,3] 4) ⟨_,_,_,_,J,J⟩
 replace h:=ae g8 h;refine I ?_;refine ay ?_;refine I ?_;obtain ⟨y9,hy9,h⟩:=aa h;refine gD (al (iC hy9) rd J (hD (ai (i:=1) J) (hD (ab (i:=2) J) (hD (aB (i:=3) J) ag))) ga) ?_;rintro _ _ ⟨_,⟨rfl,rfl⟩,rfl⟩;refine I ?_;refine ap J (fun g10=> ?_) (fun g10=> ?_)
 ·replace h:=ad g10 h;refine I ?_;obtain rfl:=ah h;exact eV J J J (cS [1,2,3] 4) ⟨_,_,_,_,J,J⟩
 replace h:=ae g10 h;refine I ?_;refine gR (aS (us:=i5 a2) 0 J J jl J) ?_;refine I ?_;refine gE (aE J (mJ _ _ _ _)) ?_;refine gD (bW (R:=br) (vss:=[[iV 0,iV a2.Kind,iV a2.N,.string a2.S,iV a3,iV 0]]) (xs:=[(⟨0,a2,a3,0⟩:uD)]) J (jF _ _ _ _ _ _) J J (fun _ _ hr=> .cons J All2.nil)) ?_;rintro _ _ ⟨A11,n11,c11,rfl,rfl⟩;refine tp (fL 0 J) ?_;obtain ⟨y12,hy12,h⟩:=aa h;refine gD (aT (iB hy12) rc J (aP [0] [2,3,4] [0,1] 5 J)) ?_;rintro _ _ ⟨_,⟨A13,n13,c13,M14,rfl,rfl⟩,rfl⟩;refine I ?_;obtain rfl:=ah h;exact eV J J J (cS [0,1,2] 5) ⟨_,_,_,_,J,J⟩
def eP (N:Nat)(a0:uA)(a1:uG):Option (uK×Bool×uA):=
 bif decide (a0.config_.Made≤a0.spent_.made_) then (some ((⟨0,0,⟨#[]⟩⟩:uK),false,a0)) else ((dn N a0.heap_ a1).bind fun y20=>bif !decide (y20.2.1=0) then (some ((⟨0,0,⟨#[]⟩⟩:uK),false,(⟨a0.spent_,a0.config_,(),y20.2.2,a0.shapes_,a0.symbols_,a0.epoch_,a0.serial_,a0.sleepers_,a0.events_,a0.out_⟩:uA))) else (ea (cM (a0.spent_.made_+1)) (some ((⟨7,y20.1,⟨#[]⟩⟩:uK),true,(⟨(⟨a0.spent_.steps_,a0.spent_.made_+1,a0.spent_.calls_⟩:uC),a0.config_,(),y20.2.2,a0.shapes_,a0.symbols_,a0.epoch_,a0.serial_,a0.sleepers_,a0.events_,a0.out_⟩:uA)))))
set_option maxHeartbeats 4000000 in
theorem bU {N:Nat}{a0:uA}{a1:uG}{r:(uK×Bool×uA)}(h:eP N a0 a1=some r):Okc Tryz.prog 61 [pV B1 0,.agg #[iV a1.Kind,iV a1.Shape,iV a1.Flags,iV a1.Age,Y A15 n15 c15,Y A16 n16 c16]] ([cj A15 n15 c15 a1.Slots,cj A16 n16 c16 a1.More,ak B1 79 [iV a0.spent_.steps_,iV a0.spent_.made_,iV a0.spent_.calls_,iV a0.config_.Way,iV a0.config_.Steps,iV a0.config_.Calls,iV a0.config_.Made,iV a0.config_.Young,iV a0.config_.Full,iV a0.config_.Sites,.nilIface,pV B2 0,pV B9 0,Y A12 n12 c12,iV a0.epoch_,iV a0.serial_,iV a0.sleepers_,Y A13 n13 c13,Y A14 n14 c14],ak B2 99 [Y A3 n3 c3,Y A4 n4 c4,Y A5 n5 c5,Y A6 n6 c6,pV B7 0],cm A3 n3 c3 a0.heap_.m_.Young,cm A4 n4 c4 a0.heap_.m_.Old,bK A5 n5 c5 a0.heap_.roots_,bK A6 n6 c6 a0.heap_.pending_,ak B7 147 [.map (some M8)],aL dz dy M8 a0.heap_.set_.at_,ak B9 118 [Y A10 n10 c10,.map (some M11)],ex A10 n10 c10 a0.shapes_.shapes_,aL aA du M11 a0.shapes_.next_,cI A12 n12 c12 a0.symbols_,fr A13 n13 c13 a0.events_,cI A14 n14 c14 a0.out_]) (fun u post=> ∃A0 n0 c0 A1 n1 c1 A2 n2 c2 A3 n3 c3 M4 A5 n5 c5 M6 A7 n7 c7 A8 n8 c8 A9 n9 c9,u=.tuple #[.agg #[iV r.1.Kind,iV r.1.N,.string r.1.S],.bool r.2.1]∧post=[ak B1 79 [iV r.2.2.spent_.steps_,iV r.2.2.spent_.made_,iV r.2.2.spent_.calls_,iV r.2.2.config_.Way,iV r.2.2.config_.Steps,iV r.2.2.config_.Calls,iV r.2.2.config_.Made,iV r.2.2.config_.Young,iV r.2.2.config_.Full,iV r.2.2.config_.Sites,.nilIface,pV B2 0,pV B9 0,Y A7 n7 c7,iV r.2.2.epoch_,iV r.2.2.serial_,iV r.2.2.sleepers_,Y A8 n8 c8,Y A9 n9 c9],ak B2 99 [Y A0 n0 c0,Y A1 n1 c1,Y A2 n2 c2,Y A3 n3 c3,pV B7 0],cm A0 n0 c0 r.2.2.heap_.m_.Young,cm A1 n1 c1 r.2.2.heap_.m_.Old,bK A2 n2 c2 r.2.2.heap_.roots_,bK A3 n3 c3 r.2.2.heap_.pending_,ak B7 147 [.map (some M4)],aL dz dy M4 r.2.2.heap_.set_.at_,ak B9 118 [Y A5 n5 c5,.map (some M6)],ex A5 n5 c5 r.2.2.shapes_.shapes_,aL aA du M6 r.2.2.shapes_.next_,cI A7 n7 c7 r.2.2.symbols_,fr A8 n8 c8 r.2.2.events_,cI A9 n9 c9 r.2.2.out_]):=by
 refine bv Tryz.func61 J J ?_;simp only [aN];refine I ?_;refine gD (bi J J) ?_;rintro _ _ ⟨B17,rfl,rfl⟩;refine gD (aJ dp J) ?_;rintro _ _ ⟨B18,rfl,rfl⟩;refine I ?_;refine ay ?_;refine ay ?_;refine bE V _ (ao _) ?_;refine zE 0 J (ax J) ?_;refine zE 1 J (bo J hN) ?_;refine zE 2 J (ax J) ?_;refine zE 3 J (ax J) ?_;refine zE 4 J (az J) ?_;refine zE 5 J (dH J lP) ?_;refine zE 6 J (bO J nP) ?_;refine zR 7 J (aH 4 J J d4 J) ?_;refine zE 8 J (ax J) ?_;refine zE 9 J (az J) ?_;refine zE 10 J (bO J lO) ?_;refine zE 11 J (bO J nR) ?_;refine zR 12 J (aH 4 J J d4 J) ?_;refine zE 13 J (pu J J) ?_;refine zE 14 J (gT J J) ?_;refine bc V ?_;refine eH ?_;refine ap J (fun g19=> ?_) (fun g19=> ?_)
 ·replace h:=ad g19 h;refine I ?_;refine gE (aE J (gW)) ?_;refine gO (aq (us:=[iV 0,iV 0,.string (⟨#[]⟩)]) (cs':=[iV 0,iV 0,.string (⟨#[]⟩)]) 0 J J J J aK J J J) ?_;rintro _ _ rfl;refine I ?_;obtain rfl:=ah h;exact co (rs:=[.cell 4 23,.tmp 5]) (vs:=[.agg #[iV 0,iV 0,.string (⟨#[]⟩)],.bool false]) J (.cons (bA 0 J J bx) (.cons (gb J) .nil)) J (cS [4,5,6,7,8,9,10,11,12,13,14,15,16,17] 18) ⟨_,_,_,_,_,_,_,_,_,_,_,_,_,_,_,_,_,_,_,_,_,_,_,_,_,_,J,J⟩
 replace h:=ae g19 h;refine I ?_;refine ay ?_;refine bE V ([ak B18 23 [iV 0,iV 0,.string (⟨#[]⟩)],ak B17 42 [iV a1.Kind,iV a1.Shape,iV a1.Flags,iV a1.Age,Y A15 n15 c15,Y A16 n16 c16],cj A15 n15 c15 a1.Slots,cj A16 n16 c16 a1.More,ak B1 79 [iV a0.spent_.steps_,iV a0.spent_.made_,iV a0.spent_.calls_,iV a0.config_.Way,iV a0.config_.Steps,iV a0.config_.Calls,iV a0.config_.Made,iV a0.config_.Young,iV a0.config_.Full,iV a0.config_.Sites,.nilIface,pV B2 0,pV B9 0,Y A12 n12 c12,iV a0.epoch_,iV a0.serial_,iV a0.sleepers_,Y A13 n13 c13,Y A14 n14 c14],ak B9 118 [Y A10 n10 c10,.map (some M11)],ex A10 n10 c10 a0.shapes_.shapes_,aL aA du M11 a0.shapes_.next_,cI A12 n12 c12 a0.symbols_,fr A13 n13 c13 a0.events_,cI A14 n14 c14 a0.out_]) (cS [0,1,2,3,4,12,13,14,15,16,17] 18) ?_;refine zE 0 J (ax J) ?_;refine zE 1 J (az J) ?_;refine zE 2 J (bO J dx) ?_;refine zR 3 J (aH 4 J J dW J) ?_;refine zR 4 J (aS (us:=[iV a1.Kind,iV a1.Shape,iV a1.Flags,iV a1.Age,Y A15 n15 c15,Y A16 n16 c16]) 1 J J dX J) ?_;obtain ⟨y20,hy20,h⟩:=aa h;refine zD 5 J (aT (dP hy20) nj J (aP [2,3] [5,6,7,8,9,10,11] [0,1,2,3,4,12,13,14,15,16,17] 18 J)) ?_;rintro _ _ ⟨_,⟨A21,n21,c21,A22,n22,c22,A23,n23,c23,A24,n24,c24,M25,rfl,rfl⟩,rfl⟩;refine bH (cS [7,8,9,10,11,12,13,14,15,16,17] 18) ?_;refine bQ ?_;refine zE 6 J (ax J) ?_;refine zE 7 J (aR J J) ?_;refine zE 8 J (aR J J) ?_;refine zE 9 J (aX J) ?_
 refine zE 10 J (aX J) ?_;refine bc V ?_;refine eH ?_;refine ay ?_;refine I ?_;refine ap J (fun g26=> ?_) (fun g26=> ?_)
 ·replace h:=ad g26 h;refine I ?_;refine gE (aE J (gW)) ?_;refine gO (aq (us:=[iV 0,iV 0,.string (⟨#[]⟩)]) (cs':=[iV 0,iV 0,.string (⟨#[]⟩)]) 7 J J J J aK J J J) ?_;rintro _ _ rfl;refine I ?_;obtain rfl:=ah h;exact co (rs:=[.cell 4 23,.tmp 5]) (vs:=[.agg #[iV 0,iV 0,.string (⟨#[]⟩)],.bool false]) J (.cons (bA 7 J J bx) (.cons (gb J) .nil)) J (cS [11,0,1,2,3,4,5,6,12,13,14,15,16,17] 18) ⟨_,_,_,_,_,_,_,_,_,_,_,_,_,_,_,_,_,_,_,_,_,_,_,_,_,_,J,J⟩
 replace h:=ae g26 h;refine I ?_;refine gR (aH 11 J J d4 J) ?_;obtain ⟨q27,h⟩:=aC h;refine gE (dI J J q27.1 q27.2) ?_;refine I ?_;refine gO (aq (us:=[iV (a0.spent_.made_+1)]) (cs':=[iV a0.spent_.steps_,iV (a0.spent_.made_+1),iV a0.spent_.calls_,iV a0.config_.Way,iV a0.config_.Steps,iV a0.config_.Calls,iV a0.config_.Made,iV a0.config_.Young,iV a0.config_.Full,iV a0.config_.Sites,.nilIface,pV B2 0,pV B9 0,Y A12 n12 c12,iV a0.epoch_,iV a0.serial_,iV a0.sleepers_,Y A13 n13 c13,Y A14 n14 c14]) 11 J J J J nC J J J) ?_;rintro _ _ rfl;refine eg ?_;refine I ?_;refine gE (aE J (fP _ _)) ?_;refine gO (aq (us:=[iV 7,iV y20.1,.string (⟨#[]⟩)]) (cs':=[iV 7,iV y20.1,.string (⟨#[]⟩)]) 7 J J J J aK J J J) ?_;rintro _ _ rfl;refine I ?_;obtain rfl:=ah h;exact co (rs:=[.cell 4 23,.tmp 5]) (vs:=[.agg #[iV 7,iV y20.1,.string (⟨#[]⟩)],.bool true]) J (.cons (bA 7 J J bx) (.cons (gb J) .nil)) J (cS [11,0,1,2,3,4,5,6,12,13,14,15,16,17] 18) ⟨_,_,_,_,_,_,_,_,_,_,_,_,_,_,_,_,_,_,_,_,_,_,_,_,_,_,J,J⟩
def dV (N:Nat)(p48:Int)(p49:Int)(p50:ByteArray)(p51:Bool)(p52:Int)(p53:Int)(p54:Int)(p55:Int)(p56:Int)(p57:Int)(p58:Int)(p59:Int)(p60:Int)(p61:Int)(p62:(List ByteArray))(p63:Int)(p64:Int)(p65:Int)(p66:(List uJ))(p67:(List ByteArray))(p68:(List uG))(p69:(List uG))(p70:(List uK))(p71:(List uK))(p72:(List uD))(p73:(List (uF×Int)))(p74:(List (Int×Bool))):Option (hX×uA):=
 bif !p51 then ((bR N (⟨(⟨p52,p53,p54⟩:uC),(⟨p55,p56,p57,p58,p59,p60,p61⟩:hU),(),(⟨(⟨p68,p69⟩:uE),p70,p71,(⟨p74⟩:uL)⟩:uI),(⟨p72,p73⟩:uH),p62,p63,p64,p65,p66,p67⟩:uA)).bind fun y91=>some (y91,(⟨(⟨p52,p53,p54⟩:uC),(⟨p55,p56,p57,p58,p59,p60,p61⟩:hU),(),(⟨(⟨p68,p69⟩:uE),p70,p71,(⟨p74⟩:uL)⟩:uI),(⟨p72,p73⟩:uH),p62,p63,p64,p65,p66,p67⟩:uA))) else (some ((⟨1,0,(⟨p48,p49,p50⟩:uK)⟩:hX),(⟨(⟨p52,p53,p54⟩:uC),(⟨p55,p56,p57,p58,p59,p60,p61⟩:hU),(),(⟨(⟨p68,p69⟩:uE),p70,p71,(⟨p74⟩:uL)⟩:uI),(⟨p72,p73⟩:uH),p62,p63,p64,p65,p66,p67⟩:uA)))
def cP (N:Nat)(a2:Int)(y23:(uA))(p35:Int):Option (hX×uA):=
 (eM N y23.shapes_ 0 (⟨1,0,(⟨#[109,101,115,115,97,103,101]⟩:ByteArray)⟩:uB) 5).bind fun y39=>bif !decide (y39.2.1=0) then ((bR N (⟨y23.spent_,y23.config_,(),y23.heap_,y39.2.2,y23.symbols_,y23.epoch_,y23.serial_,y23.sleepers_,y23.events_,y23.out_⟩:uA)).bind fun y43=>some (y43,(⟨y23.spent_,y23.config_,(),y23.heap_,y39.2.2,y23.symbols_,y23.epoch_,y23.serial_,y23.sleepers_,y23.events_,y23.out_⟩:uA))) else ((fu N a2).bind fun y44=>(bN N y23.heap_ p35).bind fun y75=>(eP N (⟨y23.spent_,y23.config_,(),y23.heap_,y39.2.2,y23.symbols_,y23.epoch_,y23.serial_,y23.sleepers_,y23.events_,y23.out_⟩:uA) (⟨1,y39.1,9,0,([y75,(⟨5,0,y44⟩:uK)]:List uK),[]⟩:uG)).bind fun y77=>dV N y77.1.Kind y77.1.N y77.1.S y77.2.1 y77.2.2.spent_.steps_ y77.2.2.spent_.made_ y77.2.2.spent_.calls_ y77.2.2.config_.Way y77.2.2.config_.Steps y77.2.2.config_.Calls y77.2.2.config_.Made y77.2.2.config_.Young y77.2.2.config_.Full y77.2.2.config_.Sites y77.2.2.symbols_ y77.2.2.epoch_ y77.2.2.serial_ y77.2.2.sleepers_ y77.2.2.events_ y77.2.2.out_ y77.2.2.heap_.m_.Young y77.2.2.heap_.m_.Old y77.2.2.heap_.roots_ y77.2.2.heap_.pending_ y77.2.2.shapes_.shapes_ y77.2.2.shapes_.next_ y77.2.2.heap_.set_.at_)
def cQ (N:Nat)(a1:Int)(a2:Int)(a0:uA)(p18:ByteArray):Option (hX×uA):=
 (ff N a0 (⟨10,(⟨0,0,⟨#[]⟩⟩:uB),p18⟩:uJ)).bind fun y23=>(bif decide (0≤a1) then (some (decide (a1≤3))) else (some false)).bind fun b36=>bif b36 then (ea (cM (5+a1)) (cP N a2 y23 (5+a1))) else (cP N a2 y23 5)
def eD (N:Nat)(a0:uA)(a1:Int)(a2:Int):Option (hX×uA):=
 (fT N a1).bind fun y16=>bif !decide (a2=0) then ((fu N a2).bind fun y20=>ea ((⟨#[58,32]⟩:ByteArray).size+y20.size≤9223372036854775807) (ea (y16.size+((⟨#[58,32]⟩:ByteArray)++y20).size≤9223372036854775807) (cQ N a1 a2 a0 (y16++((⟨#[58,32]⟩:ByteArray)++y20))))) else (cQ N a1 a2 a0 y16)
set_option maxHeartbeats 4000000 in
theorem gg {N:Nat}{a0:uA}{a1:Int}{a2:Int}{r:(hX×uA)}(h:eD N a0 a1 a2=some r):Okc Tryz.prog 41 [pV B1 0,iV a1,iV a2] ([ak B1 79 [iV a0.spent_.steps_,iV a0.spent_.made_,iV a0.spent_.calls_,iV a0.config_.Way,iV a0.config_.Steps,iV a0.config_.Calls,iV a0.config_.Made,iV a0.config_.Young,iV a0.config_.Full,iV a0.config_.Sites,.nilIface,pV B2 0,pV B9 0,Y A12 n12 c12,iV a0.epoch_,iV a0.serial_,iV a0.sleepers_,Y A13 n13 c13,Y A14 n14 c14],ak B2 99 [Y A3 n3 c3,Y A4 n4 c4,Y A5 n5 c5,Y A6 n6 c6,pV B7 0],cm A3 n3 c3 a0.heap_.m_.Young,cm A4 n4 c4 a0.heap_.m_.Old,bK A5 n5 c5 a0.heap_.roots_,bK A6 n6 c6 a0.heap_.pending_,ak B7 147 [.map (some M8)],aL dz dy M8 a0.heap_.set_.at_,ak B9 118 [Y A10 n10 c10,.map (some M11)],ex A10 n10 c10 a0.shapes_.shapes_,aL aA du M11 a0.shapes_.next_,cI A12 n12 c12 a0.symbols_,fr A13 n13 c13 a0.events_,cI A14 n14 c14 a0.out_]) (fun u post=> ∃A0 n0 c0 A1 n1 c1 A2 n2 c2 A3 n3 c3 M4 A5 n5 c5 M6 A7 n7 c7 A8 n8 c8 A9 n9 c9,u=(gr r.1)∧post=[ak B1 79 [iV r.2.spent_.steps_,iV r.2.spent_.made_,iV r.2.spent_.calls_,iV r.2.config_.Way,iV r.2.config_.Steps,iV r.2.config_.Calls,iV r.2.config_.Made,iV r.2.config_.Young,iV r.2.config_.Full,iV r.2.config_.Sites,.nilIface,pV B2 0,pV B9 0,Y A7 n7 c7,iV r.2.epoch_,iV r.2.serial_,iV r.2.sleepers_,Y A8 n8 c8,Y A9 n9 c9],ak B2 99 [Y A0 n0 c0,Y A1 n1 c1,Y A2 n2 c2,Y A3 n3 c3,pV B7 0],cm A0 n0 c0 r.2.heap_.m_.Young,cm A1 n1 c1 r.2.heap_.m_.Old,bK A2 n2 c2 r.2.heap_.roots_,bK A3 n3 c3 r.2.heap_.pending_,ak B7 147 [.map (some M4)],aL dz dy M4 r.2.heap_.set_.at_,ak B9 118 [Y A5 n5 c5,.map (some M6)],ex A5 n5 c5 r.2.shapes_.shapes_,aL aA du M6 r.2.shapes_.next_,cI A7 n7 c7 r.2.symbols_,fr A8 n8 c8 r.2.events_,cI A9 n9 c9 r.2.out_]):=by
 refine bv Tryz.func41 J J ?_;simp only [aN];refine I ?_;refine gD (aJ lr J) ?_;rintro _ _ ⟨B15,rfl,rfl⟩;refine I ?_;refine ay ?_;refine I ?_;refine gE (bo J hN) ?_;refine I ?_;refine el J ?_;refine I ?_;obtain ⟨y16,hy16,h⟩:=aa h;refine gD (al (jC hy16) r8 J (ag) iM) ?_;rintro _ _ ⟨_,⟨rfl,rfl⟩,rfl⟩;refine I ?_;refine bm (fun s L=> ∃p18,cQ N a1 a2 a0 p18=some r∧s=[(0,pV B1 0),(1,iV a1),(2,iV a2),(6,pV B15 0),(7,.string p18)]∧L=[cI A12 n12 c12 a0.symbols_,fr A13 n13 c13 a0.events_,cI A14 n14 c14 a0.out_,ak B1 79 [iV a0.spent_.steps_,iV a0.spent_.made_,iV a0.spent_.calls_,iV a0.config_.Way,iV a0.config_.Steps,iV a0.config_.Calls,iV a0.config_.Made,iV a0.config_.Young,iV a0.config_.Full,iV a0.config_.Sites,.nilIface,pV B2 0,pV B9 0,Y A12 n12 c12,iV a0.epoch_,iV a0.serial_,iV a0.sleepers_,Y A13 n13 c13,Y A14 n14 c14],ak B15 34 [iV 0,iV 0,iV 0,iV 0,.string (⟨#[]⟩)],cm A3 n3 c3 a0.heap_.m_.Young,cm A4 n4 c4 a0.heap_.m_.Old,bK A5 n5 c5 a0.heap_.roots_,bK A6 n6 c6 a0.heap_.pending_,ak B2 99 [Y A3 n3 c3,Y A4 n4 c4,Y A5 n5 c5,Y A6 n6 c6,pV B7 0],ex A10 n10 c10 a0.shapes_.shapes_,aL aA du M11 a0.shapes_.next_,ak B9 118 [Y A10 n10 c10,.map (some M11)],aL dz dy M8 a0.heap_.set_.at_,ak B7 147 [.map (some M8)]]) ?_ ?_
 ·refine I ?_;refine ap J (fun g19=> ?_) (fun g19=> ?_)
  ·replace h:=ad g19 h;refine I ?_;obtain ⟨y20,hy20,h⟩:=aa h;refine gD (al (gw hy20) pE J (ag) fE) ?_;rintro _ _ ⟨_,⟨rfl,rfl⟩,rfl⟩;obtain ⟨q21,h⟩:=aC h;refine gE (ll J J q21) ?_;obtain ⟨q22,h⟩:=aC h;refine gE (ll J J q22) ?_;refine I ?_;exact ⟨_,_,⟨y16++((⟨#[58,32]⟩:ByteArray)++y20),h,J,J⟩,sA,cS [12,13,14,1,0,3,4,5,6,2,10,11,9,8,7] 15⟩
  replace h:=ae g19 h;refine I ?_;exact ⟨_,_,⟨y16,h,J,J⟩,sA,cS [12,13,14,1,0,3,4,5,6,2,10,11,9,8,7] 15⟩
 rintro _ _ ⟨p18,h,rfl,rfl⟩;refine I ?_;refine gE (aE J (nl _ _)) ?_;obtain ⟨y23,hy23,h⟩:=aa h;refine gD (aT (iE hy23) r7 J (aP [] [3,9,5,6,7,8,14,13,12,10,11,0,1,2] [4] 15 J)) ?_;rintro _ _ ⟨_,⟨A24,n24,c24,A25,n25,c25,A26,n26,c26,A27,n27,c27,M28,A29,n29,c29,M30,A31,n31,c31,A32,n32,c32,A33,n33,c33,rfl,rfl⟩,rfl⟩;refine eg ?_;refine I ?_;refine bm (fun s L=> ∃p35,cP N a2 y23 p35=some r∧s=[(0,pV B1 0),(2,iV a2),(6,pV B15 0),(8,iV p35)]∧L=[cI A31 n31 c31 y23.symbols_,fr A32 n32 c32 y23.events_,cI A33 n33 c33 y23.out_,ak B1 79 [iV y23.spent_.steps_,iV y23.spent_.made_,iV y23.spent_.calls_,iV y23.config_.Way,iV y23.config_.Steps,iV y23.config_.Calls,iV y23.config_.Made,iV y23.config_.Young,iV y23.config_.Full,iV y23.config_.Sites,.nilIface,pV B2 0,pV B9 0,Y A31 n31 c31,iV y23.epoch_,iV y23.serial_,iV y23.sleepers_,Y A32 n32 c32,Y A33 n33 c33],ak B15 34 [iV 0,iV 0,iV 0,iV 0,.string (⟨#[]⟩)],cm A24 n24 c24 y23.heap_.m_.Young,cm A25 n25 c25 y23.heap_.m_.Old,bK A26 n26 c26 y23.heap_.roots_,bK A27 n27 c27 y23.heap_.pending_,ak B2 99 [Y A24 n24 c24,Y A25 n25 c25,Y A26 n26 c26,Y A27 n27 c27,pV B7 0],ex A29 n29 c29 y23.shapes_.shapes_,aL aA du M30 y23.shapes_.next_,ak B9 118 [Y A29 n29 c29,.map (some M30)],aL dz dy M28 y23.heap_.set_.at_,ak B7 147 [.map (some M28)]]) ?_ ?_
 ·refine I ?_;obtain ⟨b36,hb36,h⟩:=aa h;refine aw 3 35 b36 ?_ ?_
  ·clear h;refine av 32 J (fun g36=> ?_) (fun g36=> ?_)
   ·have h:=ad g36 hb36;refine I ?_;obtain rfl:=ah h;exact ac sA (cS [0,1,2,3,4,5,6,7,8,9,10,11,12,13,14] 15)
   have h:=ae g36 hb36;refine I ?_;obtain rfl:=ah h;exact ac sA (cS [0,1,2,3,4,5,6,7,8,9,10,11,12,13,14] 15)
  refine I ?_;refine ap J (fun g37=> ?_) (fun g37=> ?_)
  ·replace h:=ad g37 h;refine I ?_;obtain ⟨q38,h⟩:=aC h;refine gE (dI J J q38.1 q38.2) ?_;refine I ?_;exact ⟨_,_,⟨5+a1,h,J,J⟩,sA,cS [11,12,13,0,14,2,3,4,5,1,9,10,8,7,6] 15⟩
  replace h:=ae g37 h;refine I ?_;exact ⟨_,_,⟨5,h,J,J⟩,sA,cS [11,12,13,0,14,2,3,4,5,1,9,10,8,7,6] 15⟩
 rintro _ _ ⟨p35,h,rfl,rfl⟩;refine I ?_;refine gE (aE J (nm _ _)) ?_;obtain ⟨y39,hy39,h⟩:=aa h;refine gD (aT (ia hy39) r6 J (aP [] [12,10,11] [0,1,2,3,4,5,6,7,8,9,13,14] 15 J)) ?_;rintro _ _ ⟨_,⟨A40,n40,c40,M41,rfl,rfl⟩,rfl⟩;refine eg ?_;refine I ?_;refine ay ?_;refine I ?_;refine ap J (fun g42=> ?_) (fun g42=> ?_)
 ·replace h:=ad g42 h;refine I ?_;obtain ⟨y43,hy43,h⟩:=aa h;refine gD (al (cR hy43) nk J (hD (ai (i:=6) J) (hD (ai (i:=12) J) (hD (ab (i:=8) J) (hD (ab (i:=9) J) (hD (ab (i:=10) J) (hD (ab (i:=11) J) (hD (ai (i:=14) J) (hD (aB (i:=13) J) (hD (ai (i:=0) J) (hD (ab (i:=1) J) (hD (aB (i:=2) J) (hD (ab (i:=3) J) (hD (ab (i:=4) J) (hD (ab (i:=5) J) ag)))))))))))))) cv) ?_;rintro _ _ ⟨_,⟨rfl,rfl⟩,rfl⟩;refine gO (aq (us:=lj y43) (cs':=lj y43) 7 J J J J jp J J J) ?_;rintro _ _ rfl;refine eg ?_;refine I ?_;obtain rfl:=ah h;exact co (rs:=[.cell 6 34]) (vs:=[(gr y43)]) J (.cons (bA 7 J J mK) .nil) J (cS [6,12,8,9,10,11,14,13,0,1,2,3,4,5] 15) ⟨_,_,_,_,_,_,_,_,_,_,_,_,_,_,_,_,_,_,_,_,_,_,_,_,_,_,J,J⟩
 replace h:=ae g42 h;refine I ?_;obtain ⟨y44,hy44,h⟩:=aa h;refine gD (al (gw hy44) pE J (ag) fE) ?_;rintro _ _ ⟨_,⟨rfl,rfl⟩,rfl⟩;refine gE (aE J (nq _ _)) ?_;refine gD (aJ dp J) ?_;rintro _ _ ⟨B45,rfl,rfl⟩;refine gO (aq (us:=[iV 5,iV 0,.string y44]) (cs':=[iV 5,iV 0,.string y44]) 0 J J J J aK J J J) ?_;rintro _ _ rfl;refine eg ?_;refine I ?_;refine bm (fun s L=> ∃p48 p49 p50 p51 p52 p53 p54 p55 p56 p57 p58 p59 p60 p61 p62 p63 p64 p65 p66 p67 p68 p69 p70 p71 p72 p73 p74 B47 A62 n62 c62 A66 n66 c66 A67 n67 c67 A68 n68 c68 A69 n69 c69 A70 n70 c70 A71 n71 c71 A72 n72 c72 M73 M74,dV N p48 p49 p50 p51 p52 p53 p54 p55 p56 p57 p58 p59 p60 p61 p62 p63 p64 p65 p66 p67 p68 p69 p70 p71 p72 p73 p74=some r∧s=[(0,pV B1 0),(6,pV B15 0),(12,pV B47 0),(13,.bool p51)]∧L=[ak B47 23 [iV p48,iV p49,.string p50],cI A62 n62 c62 p62,fr A66 n66 c66 p66,cI A67 n67 c67 p67,ak B1 79 [iV p52,iV p53,iV p54,iV p55,iV p56,iV p57,iV p58,iV p59,iV p60,iV p61,.nilIface,pV B2 0,pV B9 0,Y A62 n62 c62,iV p63,iV p64,iV p65,Y A66 n66 c66,Y A67 n67 c67],ak B15 34 [iV 0,iV 0,iV 0,iV 0,.string (⟨#[]⟩)],cm A68 n68 c68 p68,cm A69 n69 c69 p69,bK A70 n70 c70 p70,bK A71 n71 c71 p71,ak B2 99 [Y A68 n68 c68,Y A69 n69 c69,Y A70 n70 c70,Y A71 n71 c71,pV B7 0],ex A72 n72 c72 p72,aL aA du M73 p73,ak B9 118 [Y A72 n72 c72,.map (some M73)],aL dz dy M74 p74,ak B7 147 [.map (some M74)]]) ?_ ?_
 ·refine bE V ([ak B45 23 [iV 5,iV 0,.string y44],ak B15 34 [iV 0,iV 0,iV 0,iV 0,.string (⟨#[]⟩)]]) (cS [0,8] 16) ?_;refine zE 0 J (ax J) ?_;refine zE 1 J (ax J) ?_;refine zE 2 J (ax J) ?_;refine zE 3 J (az J) ?_;refine zE 4 J (bO J dx) ?_;refine zE 6 J (ax J) ?_;refine zR 8 J (aS (us:=[iV 5,iV 0,.string y44]) 0 J J bx J) ?_;refine gC 5 15 V ?_ ?_
  ·refine bT J (ir (aH 7 J J dW J)) J J J ?_;rintro _ _ ⟨rfl,rfl⟩;refine bH (cS [0,8] 16) ?_;refine gC 7 15 V ?_ ?_
   ·obtain ⟨y75,hy75,h⟩:=aa h;refine bT J (al (bD hy75) iP J (hD (ai (i:=13) J) (hD (ab (i:=9) J) (hD (ab (i:=10) J) (hD (ab (i:=11) J) (hD (ab (i:=12) J) (hD (ai (i:=15) J) (hD (aB (i:=14) J) ag))))))) bj) J J J ?_;rintro _ _ ⟨_,⟨rfl,rfl⟩,rfl⟩;refine bH (cS [0,8] 16) ?_;refine gC 9 15 V ?_ ?_
    ·refine bT J (bW (R:=aO) (vss:=[[iV y75.Kind,iV y75.N,.string y75.S],[iV 5,iV 0,.string y44]]) (xs:=[y75,(⟨5,0,y44⟩:uK)]) J (jj _ _ _ _ _ _) J J (fun _ _ hr=> .cons J (.cons J All2.nil))) J J J ?_;rintro _ _ ⟨A76,n76,c76,rfl,rfl⟩;refine bH (cS [1,9] 17) ?_;refine zE 10 J (aE J (dT _ _ _ _ _ _)) ?_;refine gC 11 15 V ?_ ?_
     ·refine gJ (fL 0 J) (cS [1,9] 17) ?_;refine sI ?_;obtain ⟨y77,hy77,h⟩:=aa h;refine gJ (cZ aO _) (cS [2,10] 18) ?_;refine bT J (aT (bU hy77) kT J (aP [1,0] [9,15,11,12,13,14,17,16,3,4,5,6,7,8] [0,1,2,10] 18 J)) J J J ?_;rintro _ _ ⟨_,⟨A78,n78,c78,A79,n79,c79,A80,n80,c80,A81,n81,c81,M82,A83,n83,c83,M84,A85,n85,c85,A86,n86,c86,A87,n87,c87,rfl,rfl⟩,rfl⟩;refine bH (cS [16,17] 18) ?_;refine bQ ?_;refine zE 12 J (ax J) ?_;refine zE 13 J (aR J J) ?_;refine zE 14 J (aR J J) ?_;refine zD 15 J (aJ dp J) ?_;rintro _ _ ⟨B89,rfl,rfl⟩;refine bH (cS [17,18] 19) ?_;refine zO 16 J (aq (us:=[iV y77.1.Kind,iV y77.1.N,.string y77.1.S]) (cs':=[iV y77.1.Kind,iV y77.1.N,.string y77.1.S]) 0 J J J J aK J J J) ?_;rintro _ _ rfl;refine bH (cS [17,18] 19) ?_;refine bQ ?_;refine zE 17 J (aX J) ?_;refine bc V ?_;refine eH ?_
      exact ⟨_,_,⟨y77.1.Kind,y77.1.N,y77.1.S,y77.2.1,y77.2.2.spent_.steps_,y77.2.2.spent_.made_,y77.2.2.spent_.calls_,y77.2.2.config_.Way,y77.2.2.config_.Steps,y77.2.2.config_.Calls,y77.2.2.config_.Made,y77.2.2.config_.Young,y77.2.2.config_.Full,y77.2.2.config_.Sites,y77.2.2.symbols_,y77.2.2.epoch_,y77.2.2.serial_,y77.2.2.sleepers_,y77.2.2.events_,y77.2.2.out_,y77.2.2.heap_.m_.Young,y77.2.2.heap_.m_.Old,y77.2.2.heap_.roots_,y77.2.2.heap_.pending_,y77.2.2.shapes_.shapes_,y77.2.2.shapes_.next_,y77.2.2.heap_.set_.at_,B89,A85,n85,c85,A86,n86,c86,A87,n87,c87,A78,n78,c78,A79,n79,c79,A80,n80,c80,A81,n81,c81,A83,n83,c83,M84,M82,h,J,J⟩,sA,cS [0,12,13,14,1,18,3,4,5,6,2,10,11,9,8,7] 19⟩
     refine bT J (aJ dp J) J J J ?_;rintro _ _ ⟨B77,rfl,rfl⟩;refine bH (cS [2,10] 18) ?_;refine fo (fL 1 J) (cS [2,10] 18) ?_;refine bQ ?_;obtain ⟨y78,hy78,h⟩:=aa h;refine fo (cZ aO _) (cS [3,11] 19) ?_;refine zD 11 J (aT (bU hy78) kT J (aP [2,0] [10,16,12,13,14,15,18,17,4,5,6,7,8,9] [0,1,2,3,11] 19 J)) ?_;rintro _ _ ⟨_,⟨A79,n79,c79,A80,n80,c80,A81,n81,c81,A82,n82,c82,M83,A84,n84,c84,M85,A86,n86,c86,A87,n87,c87,A88,n88,c88,rfl,rfl⟩,rfl⟩;refine bH (cS [17,18] 19) ?_;refine bQ ?_;refine zE 12 J (ax J) ?_;refine zE 13 J (aR J J) ?_;refine zE 14 J (aR J J) ?_;refine zO 16 J (aq (us:=[iV y78.1.Kind,iV y78.1.N,.string y78.1.S]) (cs':=[iV y78.1.Kind,iV y78.1.N,.string y78.1.S]) 15 J J J J aK J J J) ?_;rintro _ _ rfl;refine bH (cS [17,18] 19) ?_;refine bQ ?_;refine zE 17 J (aX J) ?_;refine bc V ?_;refine eH ?_
     exact ⟨_,_,⟨y78.1.Kind,y78.1.N,y78.1.S,y78.2.1,y78.2.2.spent_.steps_,y78.2.2.spent_.made_,y78.2.2.spent_.calls_,y78.2.2.config_.Way,y78.2.2.config_.Steps,y78.2.2.config_.Calls,y78.2.2.config_.Made,y78.2.2.config_.Young,y78.2.2.config_.Full,y78.2.2.config_.Sites,y78.2.2.symbols_,y78.2.2.epoch_,y78.2.2.serial_,y78.2.2.sleepers_,y78.2.2.events_,y78.2.2.out_,y78.2.2.heap_.m_.Young,y78.2.2.heap_.m_.Old,y78.2.2.heap_.roots_,y78.2.2.heap_.pending_,y78.2.2.shapes_.shapes_,y78.2.2.shapes_.next_,y78.2.2.heap_.set_.at_,B77,A86,n86,c86,A87,n87,c87,A88,n88,c88,A79,n79,c79,A80,n80,c80,A81,n81,c81,A82,n82,c82,A84,n84,c84,M85,M83,h,J,J⟩,sA,cS [15,11,12,13,0,18,2,3,4,5,1,9,10,8,7,6] 19⟩
    refine bT J (aJ dp J) J J J ?_;rintro _ _ ⟨B76,rfl,rfl⟩;refine bH (cS [1,9] 17) ?_;refine zD 9 J (bW (R:=aO) (vss:=[[iV y75.Kind,iV y75.N,.string y75.S],[iV 5,iV 0,.string y44]]) (xs:=[y75,(⟨5,0,y44⟩:uK)]) J (jj _ _ _ _ _ _) J J (fun _ _ hr=> .cons J (.cons J All2.nil))) ?_;rintro _ _ ⟨A77,n77,c77,rfl,rfl⟩;refine bH (cS [2,10] 18) ?_;refine zE 10 J (aE J (dT _ _ _ _ _ _)) ?_;refine fo (fL 0 J) (cS [2,10] 18) ?_;refine bQ ?_;obtain ⟨y78,hy78,h⟩:=aa h;refine fo (cZ aO _) (cS [3,11] 19) ?_;refine zD 11 J (aT (bU hy78) kT J (aP [1,0] [10,16,12,13,14,15,18,17,4,5,6,7,8,9] [0,1,2,3,11] 19 J)) ?_;rintro _ _ ⟨_,⟨A79,n79,c79,A80,n80,c80,A81,n81,c81,A82,n82,c82,M83,A84,n84,c84,M85,A86,n86,c86,A87,n87,c87,A88,n88,c88,rfl,rfl⟩,rfl⟩;refine bH (cS [17,18] 19) ?_;refine bQ ?_;refine zE 12 J (ax J) ?_;refine zE 13 J (aR J J) ?_;refine zE 14 J (aR J J) ?_;refine zO 16 J (aq (us:=[iV y78.1.Kind,iV y78.1.N,.string y78.1.S]) (cs':=[iV y78.1.Kind,iV y78.1.N,.string y78.1.S]) 16 J J J J aK J J J) ?_;rintro _ _ rfl;refine bH (cS [17,18] 19) ?_;refine bQ ?_;refine zE 17 J (aX J) ?_;refine bc V ?_;refine eH ?_
    exact ⟨_,_,⟨y78.1.Kind,y78.1.N,y78.1.S,y78.2.1,y78.2.2.spent_.steps_,y78.2.2.spent_.made_,y78.2.2.spent_.calls_,y78.2.2.config_.Way,y78.2.2.config_.Steps,y78.2.2.config_.Calls,y78.2.2.config_.Made,y78.2.2.config_.Young,y78.2.2.config_.Full,y78.2.2.config_.Sites,y78.2.2.symbols_,y78.2.2.epoch_,y78.2.2.serial_,y78.2.2.sleepers_,y78.2.2.events_,y78.2.2.out_,y78.2.2.heap_.m_.Young,y78.2.2.heap_.m_.Old,y78.2.2.heap_.roots_,y78.2.2.heap_.pending_,y78.2.2.shapes_.shapes_,y78.2.2.shapes_.next_,y78.2.2.heap_.set_.at_,B76,A86,n86,c86,A87,n87,c87,A88,n88,c88,A79,n79,c79,A80,n80,c80,A81,n81,c81,A82,n82,c82,A84,n84,c84,M85,M83,h,J,J⟩,sA,cS [16,11,12,13,0,18,2,3,4,5,1,9,10,8,7,6] 19⟩
   refine bT J (aJ dp J) J J J ?_;rintro _ _ ⟨B75,rfl,rfl⟩;refine bH (cS [1,9] 17) ?_;obtain ⟨y76,hy76,h⟩:=aa h;refine zD 7 J (al (bD hy76) iP J (hD (ai (i:=14) J) (hD (ab (i:=10) J) (hD (ab (i:=11) J) (hD (ab (i:=12) J) (hD (ab (i:=13) J) (hD (ai (i:=16) J) (hD (aB (i:=15) J) ag))))))) bj) ?_;rintro _ _ ⟨_,⟨rfl,rfl⟩,rfl⟩;refine bH (cS [1,9] 17) ?_;refine zD 9 J (bW (R:=aO) (vss:=[[iV y76.Kind,iV y76.N,.string y76.S],[iV 5,iV 0,.string y44]]) (xs:=[y76,(⟨5,0,y44⟩:uK)]) J (jj _ _ _ _ _ _) J J (fun _ _ hr=> .cons J (.cons J All2.nil))) ?_;rintro _ _ ⟨A77,n77,c77,rfl,rfl⟩;refine bH (cS [2,10] 18) ?_;refine zE 10 J (aE J (dT _ _ _ _ _ _)) ?_;refine fo (fL 0 J) (cS [2,10] 18) ?_;refine bQ ?_;obtain ⟨y78,hy78,h⟩:=aa h;refine fo (cZ aO _) (cS [3,11] 19) ?_;refine zD 11 J (aT (bU hy78) kT J (aP [1,0] [10,16,12,13,14,15,18,17,4,5,6,7,8,9] [0,1,2,3,11] 19 J)) ?_;rintro _ _ ⟨_,⟨A79,n79,c79,A80,n80,c80,A81,n81,c81,A82,n82,c82,M83,A84,n84,c84,M85,A86,n86,c86,A87,n87,c87,A88,n88,c88,rfl,rfl⟩,rfl⟩;refine bH (cS [17,18] 19) ?_;refine bQ ?_;refine zE 12 J (ax J) ?_;refine zE 13 J (aR J J) ?_;refine zE 14 J (aR J J) ?_;refine zO 16 J (aq (us:=[iV y78.1.Kind,iV y78.1.N,.string y78.1.S]) (cs':=[iV y78.1.Kind,iV y78.1.N,.string y78.1.S]) 16 J J J J aK J J J) ?_;rintro _ _ rfl;refine bH (cS [17,18] 19) ?_;refine bQ ?_;refine zE 17 J (aX J) ?_
   refine bc V ?_;refine eH ?_;exact ⟨_,_,⟨y78.1.Kind,y78.1.N,y78.1.S,y78.2.1,y78.2.2.spent_.steps_,y78.2.2.spent_.made_,y78.2.2.spent_.calls_,y78.2.2.config_.Way,y78.2.2.config_.Steps,y78.2.2.config_.Calls,y78.2.2.config_.Made,y78.2.2.config_.Young,y78.2.2.config_.Full,y78.2.2.config_.Sites,y78.2.2.symbols_,y78.2.2.epoch_,y78.2.2.serial_,y78.2.2.sleepers_,y78.2.2.events_,y78.2.2.out_,y78.2.2.heap_.m_.Young,y78.2.2.heap_.m_.Old,y78.2.2.heap_.roots_,y78.2.2.heap_.pending_,y78.2.2.shapes_.shapes_,y78.2.2.shapes_.next_,y78.2.2.heap_.set_.at_,B75,A86,n86,c86,A87,n87,c87,A88,n88,c88,A79,n79,c79,A80,n80,c80,A81,n81,c81,A82,n82,c82,A84,n84,c84,M85,M83,h,J,J⟩,sA,cS [16,11,12,13,0,18,2,3,4,5,1,9,10,8,7,6] 19⟩
  refine bT J (aJ dp J) J J J ?_;rintro _ _ ⟨B75,rfl,rfl⟩;refine bH (cS [1,9] 17) ?_;refine zD 5 J (ir (aH 8 J J dW J)) ?_;rintro _ _ ⟨rfl,rfl⟩;refine bH (cS [1,9] 17) ?_;obtain ⟨y76,hy76,h⟩:=aa h;refine zD 7 J (al (bD hy76) iP J (hD (ai (i:=14) J) (hD (ab (i:=10) J) (hD (ab (i:=11) J) (hD (ab (i:=12) J) (hD (ab (i:=13) J) (hD (ai (i:=16) J) (hD (aB (i:=15) J) ag))))))) bj) ?_;rintro _ _ ⟨_,⟨rfl,rfl⟩,rfl⟩;refine bH (cS [1,9] 17) ?_;refine zD 9 J (bW (R:=aO) (vss:=[[iV y76.Kind,iV y76.N,.string y76.S],[iV 5,iV 0,.string y44]]) (xs:=[y76,(⟨5,0,y44⟩:uK)]) J (jj _ _ _ _ _ _) J J (fun _ _ hr=> .cons J (.cons J All2.nil))) ?_;rintro _ _ ⟨A77,n77,c77,rfl,rfl⟩;refine bH (cS [2,10] 18) ?_;refine zE 10 J (aE J (dT _ _ _ _ _ _)) ?_;refine fo (fL 0 J) (cS [2,10] 18) ?_;refine bQ ?_;obtain ⟨y78,hy78,h⟩:=aa h;refine fo (cZ aO _) (cS [3,11] 19) ?_;refine zD 11 J (aT (bU hy78) kT J (aP [1,0] [10,16,12,13,14,15,18,17,4,5,6,7,8,9] [0,1,2,3,11] 19 J)) ?_;rintro _ _ ⟨_,⟨A79,n79,c79,A80,n80,c80,A81,n81,c81,A82,n82,c82,M83,A84,n84,c84,M85,A86,n86,c86,A87,n87,c87,A88,n88,c88,rfl,rfl⟩,rfl⟩;refine bH (cS [17,18] 19) ?_;refine bQ ?_;refine zE 12 J (ax J) ?_;refine zE 13 J (aR J J) ?_;refine zE 14 J (aR J J) ?_;refine zO 16 J (aq (us:=[iV y78.1.Kind,iV y78.1.N,.string y78.1.S]) (cs':=[iV y78.1.Kind,iV y78.1.N,.string y78.1.S]) 16 J J J J aK J J J) ?_;rintro _ _ rfl
  refine bH (cS [17,18] 19) ?_;refine bQ ?_;refine zE 17 J (aX J) ?_;refine bc V ?_;refine eH ?_;exact ⟨_,_,⟨y78.1.Kind,y78.1.N,y78.1.S,y78.2.1,y78.2.2.spent_.steps_,y78.2.2.spent_.made_,y78.2.2.spent_.calls_,y78.2.2.config_.Way,y78.2.2.config_.Steps,y78.2.2.config_.Calls,y78.2.2.config_.Made,y78.2.2.config_.Young,y78.2.2.config_.Full,y78.2.2.config_.Sites,y78.2.2.symbols_,y78.2.2.epoch_,y78.2.2.serial_,y78.2.2.sleepers_,y78.2.2.events_,y78.2.2.out_,y78.2.2.heap_.m_.Young,y78.2.2.heap_.m_.Old,y78.2.2.heap_.roots_,y78.2.2.heap_.pending_,y78.2.2.shapes_.shapes_,y78.2.2.shapes_.next_,y78.2.2.heap_.set_.at_,B75,A86,n86,c86,A87,n87,c87,A88,n88,c88,A79,n79,c79,A80,n80,c80,A81,n81,c81,A82,n82,c82,A84,n84,c84,M85,M83,h,J,J⟩,sA,cS [16,11,12,13,0,18,2,3,4,5,1,9,10,8,7,6] 19⟩
 rintro _ _ ⟨p48,p49,p50,p51,p52,p53,p54,p55,p56,p57,p58,p59,p60,p61,p62,p63,p64,p65,p66,p67,p68,p69,p70,p71,p72,p73,p74,B47,A62,n62,c62,A66,n66,c66,A67,n67,c67,A68,n68,c68,A69,n69,c69,A70,n70,c70,A71,n71,c71,A72,n72,c72,M73,M74,h,rfl,rfl⟩;refine ay ?_;refine I ?_;refine ap J (fun g90=> ?_) (fun g90=> ?_)
 ·replace h:=ad g90 h;refine I ?_;obtain ⟨y91,hy91,h⟩:=aa h;refine gD (al (cR hy91) nk J (hD (ai (i:=4) J) (hD (ai (i:=10) J) (hD (ab (i:=6) J) (hD (ab (i:=7) J) (hD (ab (i:=8) J) (hD (ab (i:=9) J) (hD (ai (i:=15) J) (hD (aB (i:=14) J) (hD (ai (i:=13) J) (hD (ab (i:=11) J) (hD (aB (i:=12) J) (hD (ab (i:=1) J) (hD (ab (i:=2) J) (hD (ab (i:=3) J) ag)))))))))))))) cv) ?_;rintro _ _ ⟨_,⟨rfl,rfl⟩,rfl⟩;refine gO (aq (us:=lj y91) (cs':=lj y91) 5 J J J J jp J J J) ?_;rintro _ _ rfl;refine eg ?_;refine I ?_;obtain rfl:=ah h;exact co (rs:=[.cell 6 34]) (vs:=[(gr y91)]) J (.cons (bA 5 J J mK) .nil) J (cS [4,10,6,7,8,9,15,14,13,11,12,1,2,3] 16) ⟨_,_,_,_,_,_,_,_,_,_,_,_,_,_,_,_,_,_,_,_,_,_,_,_,_,_,J,J⟩
 replace h:=ae g90 h;refine I ?_;refine gR (aS (us:=[iV p48,iV p49,.string p50]) 0 J J bx J) ?_;refine gE (aE J (np _ _ _ _)) ?_;refine gO (aq (us:=[iV 1,iV 0,iV p48,iV p49,.string p50]) (cs':=[iV 1,iV 0,iV p48,iV p49,.string p50]) 5 J J J J jp J J J) ?_;rintro _ _ rfl;refine eg ?_;refine I ?_;obtain rfl:=ah h;exact co (rs:=[.cell 6 34]) (vs:=[.agg #[iV 1,iV 0,iV p48,iV p49,.string p50]]) J (.cons (bA 5 J J mK) .nil) J (cS [4,10,6,7,8,9,15,14,13,11,12,1,2,3] 16) ⟨_,_,_,_,_,_,_,_,_,_,_,_,_,_,_,_,_,_,_,_,_,_,_,_,_,_,J,J⟩
def eb (N:Nat)(a0:uA):Option (List uJ):=
 ea (fS (([]:List uJ).length+a0.events_.length)) (some (([]:List uJ)++a0.events_))
theorem fZ {N:Nat}{a0:uA}{r:(List uJ)}(h:eb N a0=some r):Okc Tryz.prog 25 [pV B1 0] ([aG B1 79 [iV a0.spent_.steps_,iV a0.spent_.made_,iV a0.spent_.calls_,iV a0.config_.Way,iV a0.config_.Steps,iV a0.config_.Calls,iV a0.config_.Made,iV a0.config_.Young,iV a0.config_.Full,iV a0.config_.Sites,.nilIface,pV B2 0,pV B9 0,Y A12 n12 c12,iV a0.epoch_,iV a0.serial_,iV a0.sleepers_,Y A13 n13 c13,Y A14 n14 c14],aG B2 99 [Y A3 n3 c3,Y A4 n4 c4,Y A5 n5 c5,Y A6 n6 c6,pV B7 0],fw A3 n3 c3 a0.heap_.m_.Young,fw A4 n4 c4 a0.heap_.m_.Old,cj A5 n5 c5 a0.heap_.roots_,cj A6 n6 c6 a0.heap_.pending_,aG B7 147 [.map (some M8)],dg dz dy M8 a0.heap_.set_.at_,aG B9 118 [Y A10 n10 c10,.map (some M11)],cK br (Y A10 n10 c10) a0.shapes_.shapes_,dg aA du M11 a0.shapes_.next_,cK eG (Y A12 n12 c12) a0.symbols_,cK cW (Y A13 n13 c13) a0.events_,cK eG (Y A14 n14 c14) a0.out_]) (fun u post=> ∃A0 n0 c0,u=Y A0 n0 c0∧post=[fr A0 n0 c0 r]):=by
 refine bv Tryz.func25 J J ?_;simp only [aN];refine I ?_;refine ay ?_;refine I ?_;refine gE (bo J hN) ?_;refine I ?_;refine el J ?_;refine I ?_;refine gR (ba 0 J J pf J) ?_;refine tp (dJ cW 84 _) ?_;obtain ⟨q16,h⟩:=aC h;refine gD (d3 0 13 J J ar J J hO sG J J q16) ?_;rintro _ _ ⟨A17,n17,c17,rfl,rfl⟩;refine I ?_;obtain rfl:=ah h;exact aI J J (cS [0] 15) ⟨_,_,_,J,J⟩
theorem fA {r:(List uJ)}: ∀v post,((fun (u:Value) (post:List Chunk)=> ∃A0 n0 c0,u=Y A0 n0 c0∧post=[fr A0 n0 c0 r])) v post→ ∀c∈post,bZ c:=by
 rintro _ _ ⟨_,_,_,rfl,rfl⟩;exact hD dQ (ag)
def eQ (N:Nat)(a0:uA):Option Int:=
 some a0.spent_.made_
theorem ig {N:Nat}{a0:uA}{r:Int}(h:eQ N a0=some r):Okc Tryz.prog 28 [pV B1 0] ([aG B1 79 [iV a0.spent_.steps_,iV a0.spent_.made_,iV a0.spent_.calls_,iV a0.config_.Way,iV a0.config_.Steps,iV a0.config_.Calls,iV a0.config_.Made,iV a0.config_.Young,iV a0.config_.Full,iV a0.config_.Sites,.nilIface,pV B2 0,pV B9 0,Y A12 n12 c12,iV a0.epoch_,iV a0.serial_,iV a0.sleepers_,Y A13 n13 c13,Y A14 n14 c14],aG B2 99 [Y A3 n3 c3,Y A4 n4 c4,Y A5 n5 c5,Y A6 n6 c6,pV B7 0],fw A3 n3 c3 a0.heap_.m_.Young,fw A4 n4 c4 a0.heap_.m_.Old,cj A5 n5 c5 a0.heap_.roots_,cj A6 n6 c6 a0.heap_.pending_,aG B7 147 [.map (some M8)],dg dz dy M8 a0.heap_.set_.at_,aG B9 118 [Y A10 n10 c10,.map (some M11)],cK br (Y A10 n10 c10) a0.shapes_.shapes_,dg aA du M11 a0.shapes_.next_,cK eG (Y A12 n12 c12) a0.symbols_,cK cW (Y A13 n13 c13) a0.events_,cK eG (Y A14 n14 c14) a0.out_]) (fun u post=>u=iV r∧post=[]):=by
 refine bv Tryz.func28 J J ?_;simp only [aN];refine I ?_;refine ay ?_;refine I ?_;refine gE (bo J hN) ?_;refine I ?_;refine el J ?_;refine I ?_;refine gR (ba 0 J J d4 J) ?_;refine I ?_;obtain rfl:=ah h;exact aI J J (cS [] 14) ⟨J,J⟩
theorem fY {r:Int}: ∀v post,((fun (u:Value) (post:List Chunk)=>u=iV r∧post=[])) v post→ ∀c∈post,bZ c:=by
 rintro _ _ ⟨rfl,rfl⟩;exact ag
def im (N:Nat)(a0:uK):Option Bool:=
 (bif decide (a0.Kind=7) then (some true) else (some (decide (a0.Kind=9)))).bind fun b2=>some b2
theorem kr {N:Nat}{a0:uK}{r:Bool}(h:im N a0=some r):Okc Tryz.prog 47 [(cX a0)] ([]) (fun u post=>u=.bool r∧post=[]):=by
 refine bv Tryz.func47 J J ?_;simp only [aN];refine I ?_;refine gD (bi J J) ?_;rintro _ _ ⟨B1,rfl,rfl⟩;refine I ?_;obtain ⟨b2,hb2,h⟩:=aa h;refine aw 4 10 b2 ?_ ?_
 ·clear h;refine av 6 J (fun g2=> ?_) (fun g2=> ?_)
  ·have h:=ad g2 hb2;refine I ?_;obtain rfl:=ah h;exact ac sA (cS [0] 1)
  have h:=ae g2 hb2;refine I ?_;obtain rfl:=ah h;exact ac sA (cS [0] 1)
 refine I ?_;obtain rfl:=ah h;exact aI J J (cS [] 1) ⟨J,J⟩
theorem jt {r:Bool}: ∀v post,((fun (u:Value) (post:List Chunk)=>u=.bool r∧post=[])) v post→ ∀c∈post,bZ c:=by
 rintro _ _ ⟨rfl,rfl⟩;exact ag
def eS (N:Nat)(a1:Int)(p6:(List uG))(p7:Int):Option ((List uG)×Int×Bool):=
 (bif decide (0<a1) then (some (decide (p7<(p6.length:Int)))) else (some false)).bind fun b11=>some (p6,p7,b11)
def iq (N:Nat)(a0:uE)(a1:Int):Option ((List uG)×Int×Bool):=
 ea (cM (a1.tdiv 2)) (bif decide (a1.tmod 2=0) then (ea (cM (a1.tdiv 2)) (ea (cM ((a1.tdiv 2) - 1)) (eS N a1 a0.Old ((a1.tdiv 2) - 1)))) else (eS N a1 a0.Young (a1.tdiv 2)))
theorem ku {N:Nat}{a0:uE}{a1:Int}{r:((List uG)×Int×Bool)}(h:iq N a0 a1=some r):Okc Tryz.prog 166 [.agg #[Y A1 n1 c1,Y A2 n2 c2],iV a1] ([fw A1 n1 c1 a0.Young,fw A2 n2 c2 a0.Old]) (fun u post=> ∃A0 n0 c0,u=.tuple #[Y A0 n0 c0,iV r.2.1,.bool r.2.2]∧post=[fw A0 n0 c0 r.1]):=by
 refine bv Tryz.func166 J J ?_;simp only [aN];refine I ?_;refine gD (bi J J) ?_;rintro _ _ ⟨B3,rfl,rfl⟩;refine I ?_;obtain ⟨q4,h⟩:=aC h;refine gE (lT J J (by decide) q4.1 q4.2) ?_;refine I ?_;refine bm (fun s L=> ∃p6 p7 A6 n6 c6,eS N a1 p6 p7=some r∧s=[(1,iV a1),(4,Y none 0 0),(5,iV 0),(6,.bool false),(7,Y A6 n6 c6),(8,iV p7)]∧L=[fw A6 n6 c6 p6]) ?_ ?_
 ·refine I ?_;refine gE (kM J J (by decide)) ?_;refine I ?_;refine ap J (fun g8=> ?_) (fun g8=> ?_)
  ·replace h:=ad g8 h;refine I ?_;obtain ⟨q9,h⟩:=aC h;refine gE (lT J J (by decide) q9.1 q9.2) ?_;obtain ⟨q10,h⟩:=aC h;refine gE (iL J J q10.1 q10.2) ?_;refine I ?_;exact ⟨_,_,⟨a0.Old,(a1.tdiv 2) - 1,A2,n2,c2,h,J,J⟩,sA,cS [2] 3⟩
  replace h:=ae g8 h;refine I ?_;exact ⟨_,_,⟨a0.Young,a1.tdiv 2,A1,n1,c1,h,J,J⟩,sA,cS [1] 3⟩
 rintro _ _ ⟨p6,p7,A6,n6,c6,h,rfl,rfl⟩;refine I ?_;obtain ⟨b11,hb11,h⟩:=aa h;refine aw 5 30 b11 ?_ ?_
 ·clear h;refine av 25 J (fun g11=> ?_) (fun g11=> ?_)
  ·have h:=ad g11 hb11;refine I ?_;refine bG (bf 0 J ar J hJ) J (aZ g11 J) J ?_;refine I ?_;obtain rfl:=ah h;exact ac sA (cS [0] 1)
  have h:=ae g11 hb11;refine I ?_;obtain rfl:=ah h;exact ac sA (cS [0] 1)
 refine I ?_;obtain rfl:=ah h;exact nV J J J J (cS [0] 1) ⟨_,_,_,J,J⟩
def jM (N:Nat)(a0:uE)(a1:Int):Option Bool:=
 (iq N a0 a1).bind fun y4=>some y4.2.2
theorem lz {N:Nat}{a0:uE}{a1:Int}{r:Bool}(h:jM N a0 a1=some r):Okc Tryz.prog 140 [.agg #[Y A1 n1 c1,Y A2 n2 c2],iV a1] ([fw A1 n1 c1 a0.Young,fw A2 n2 c2 a0.Old]) (fun u post=>u=.bool r∧post=[]):=by
 refine bv Tryz.func140 J J ?_;simp only [aN];refine I ?_;refine gD (bi J J) ?_;rintro _ _ ⟨B3,rfl,rfl⟩;refine I ?_;refine gR (aS (us:=[Y A1 n1 c1,Y A2 n2 c2]) 0 J J rA J) ?_;refine I ?_;obtain ⟨y4,hy4,h⟩:=aa h;refine gD (aT (ku hy4) qR J (aP [1,2] [] [0,1,2] 3 J)) ?_;rintro _ _ ⟨_,⟨A5,n5,c5,rfl,rfl⟩,rfl⟩;refine I ?_;obtain rfl:=ah h;exact aI J J (cS [] 4) ⟨J,J⟩
theorem kw {r:Bool}: ∀v post,((fun (u:Value) (post:List Chunk)=>u=.bool r∧post=[])) v post→ ∀c∈post,bZ c:=by
 rintro _ _ ⟨rfl,rfl⟩;exact ag
def fQ (N:Nat)(a0:uI)(a1:Int):Option Bool:=
 (aW N a0).bind fun y8=>(bif !y8 then ((jM N a0.m_ a1).bind fun y10=>some y10) else (some false)).bind fun b9=>some b9
theorem jy {N:Nat}{a0:uI}{a1:Int}{r:Bool}(h:fQ N a0 a1=some r):Okc Tryz.prog 89 [pV B1 0,iV a1] ([aG B1 99 [Y A2 n2 c2,Y A3 n3 c3,Y A4 n4 c4,Y A5 n5 c5,pV B6 0],fw A2 n2 c2 a0.m_.Young,fw A3 n3 c3 a0.m_.Old,cj A4 n4 c4 a0.roots_,cj A5 n5 c5 a0.pending_,aG B6 147 [.map (some M7)],dg dz dy M7 a0.set_.at_]) (fun u post=>u=.bool r∧post=[]):=by
 refine bv Tryz.func89 J J ?_;simp only [aN];refine I ?_;obtain ⟨y8,hy8,h⟩:=aa h;refine gD (al (bF hy8) jD J (hD (aj (i:=0) J J) (hD (aj (i:=1) J J) (hD (aj (i:=2) J J) (hD (aj (i:=3) J J) (hD (aj (i:=4) J J) (hD (aj (i:=5) J J) (hD (aj (i:=6) J J) ag))))))) bn) ?_;rintro _ _ ⟨_,⟨rfl,rfl⟩,rfl⟩;refine I ?_;obtain ⟨b9,hb9,h⟩:=aa h;refine aw 7 15 b9 ?_ ?_
 ·clear h;refine av 8 J (fun g9=> ?_) (fun g9=> ?_)
  ·have h:=ad g9 hb9;refine I ?_;refine bG (o5 (us:=[Y A2 n2 c2,Y A3 n3 c3]) 0 J J rA J) J (aZ g9 J) J ?_;refine I ?_;obtain ⟨y10,hy10,h⟩:=aa h;refine ce (al (lz hy10) qX J (hD (aj (i:=1) J J) (hD (aj (i:=2) J J) ag)) kw) J (aZ g9 J) J ?_;rintro _ _ ⟨_,⟨rfl,rfl⟩,rfl⟩;refine I ?_;obtain rfl:=ah h;exact ac sA (cS [0,1,2,3,4,5,6] 7)
  have h:=ae g9 hb9;refine I ?_;obtain rfl:=ah h;exact ac sA (cS [0,1,2,3,4,5,6] 7)
 refine I ?_;obtain rfl:=ah h;exact aI J J (cS [] 7) ⟨J,J⟩
theorem iI {r:Bool}: ∀v post,((fun (u:Value) (post:List Chunk)=>u=.bool r∧post=[])) v post→ ∀c∈post,bZ c:=by
 rintro _ _ ⟨rfl,rfl⟩;exact ag
def fg (N:Nat)(a0:uI)(a1:Int):Option (Int ⊕ Int):=
 bif decide (a1.tmod 2=1) then (ea (cM (a1.tdiv 2)) ((cc a0.m_.Young (a1.tdiv 2)).bind fun x10=>some (.inl (a1.tdiv 2)))) else (ea (cM (a1.tdiv 2)) (ea (cM ((a1.tdiv 2) - 1)) ((cc a0.m_.Old ((a1.tdiv 2) - 1)).bind fun x13=>some (.inr ((a1.tdiv 2) - 1)))))
theorem eT {N:Nat}{a0:uI}{a1:Int}{r:(Int ⊕ Int)}(h:fg N a0 a1=some r):Okc Tryz.prog 90 [pV B1 0,iV a1] ([aG B1 99 [Y A2 n2 c2,Y A3 n3 c3,Y A4 n4 c4,Y A5 n5 c5,pV B6 0],fw A2 n2 c2 a0.m_.Young,fw A3 n3 c3 a0.m_.Old,cj A4 n4 c4 a0.roots_,cj A5 n5 c5 a0.pending_,aG B6 147 [.map (some M7)],dg dz dy M7 a0.set_.at_]) (fun u post=>tw (fun (r:Int)=>u=cA (Y A2 n2 c2) r.toNat 6 0∧post=[]) (fun (r:Int)=>u=cA (Y A3 n3 c3) r.toNat 6 0∧post=[]) r):=by
 refine bv Tryz.func90 J J ?_;simp only [aN];refine I ?_;refine ay ?_;refine I ?_;refine gE (kM J J (by decide)) ?_;refine I ?_;refine ap J (fun g8=> ?_) (fun g8=> ?_)
 ·replace h:=ad g8 h;refine I ?_;refine gR (ba 0 J J nK J) ?_;refine I ?_;obtain ⟨q9,h⟩:=aC h;refine gE (lT J J (by decide) q9.1 q9.2) ?_;obtain ⟨x10,hx10,h⟩:=aa h;obtain ⟨lx10,ux10,hx10⟩:=aD hx10;refine gR (bp 1 J ar J J hJ er lx10 ux10) ?_;refine I ?_;obtain rfl:=ah h;exact aI J J (cS [] 7) ⟨J,J⟩
 replace h:=ae g8 h;refine I ?_;refine gR (ba 0 J J nK J) ?_;refine I ?_;obtain ⟨q11,h⟩:=aC h;refine gE (lT J J (by decide) q11.1 q11.2) ?_;obtain ⟨q12,h⟩:=aC h;refine gE (iL J J q12.1 q12.2) ?_;obtain ⟨x13,hx13,h⟩:=aa h;obtain ⟨lx13,ux13,hx13⟩:=aD hx13;refine gR (bp 2 J ar J J hJ er lx13 ux13) ?_;refine I ?_;obtain rfl:=ah h;exact aI J J (cS [] 7) ⟨J,J⟩
theorem ef {r:(Int ⊕ Int)}{A2:Option Addr}{n2:Nat}{c2:Nat}{A3:Option Addr}{n3:Nat}{c3:Nat}: ∀v post,((fun (u:Value) (post:List Chunk)=>tw (fun (r:Int)=>u=cA (Y A2 n2 c2) r.toNat 6 0∧post=[]) (fun (r:Int)=>u=cA (Y A3 n3 c3) r.toNat 6 0∧post=[]) r)) v post→ ∀c∈post,bZ c:=by
 rcases r with _|_<;>(rintro _ _ ⟨rfl,rfl⟩;exact ag)
def gq (N:Nat)(a0:uI)(a1:Int):Option (uG×Bool):=
 (fQ N a0 a1).bind fun y9=>bif !y9 then (some ((⟨0,0,0,0,[],[]⟩:uG),false)) else ((fg N a0 a1).bind fun y13=>sD y13 (fun y13_0=>(cc a0.m_.Young y13_0).bind fun x14=>(fl N x14).bind fun y18=>some (y18,true)) (fun y13_1=>(cc a0.m_.Old y13_1).bind fun x21=>(fl N x21).bind fun y25=>some (y25,true)))
theorem fR {N:Nat}{a0:uI}{a1:Int}{r:(uG×Bool)}(h:gq N a0 a1=some r):Okc Tryz.prog 48 [pV B1 0,iV a1] ([aG B1 99 [Y A2 n2 c2,Y A3 n3 c3,Y A4 n4 c4,Y A5 n5 c5,pV B6 0],fw A2 n2 c2 a0.m_.Young,fw A3 n3 c3 a0.m_.Old,cj A4 n4 c4 a0.roots_,cj A5 n5 c5 a0.pending_,aG B6 147 [.map (some M7)],dg dz dy M7 a0.set_.at_]) (fun u post=> ∃A0 n0 c0 A1 n1 c1,u=.tuple #[.agg #[iV r.1.Kind,iV r.1.Shape,iV r.1.Flags,iV r.1.Age,Y A0 n0 c0,Y A1 n1 c1],.bool r.2]∧post=[bK A0 n0 c0 r.1.Slots,bK A1 n1 c1 r.1.More]):=by
 refine bv Tryz.func48 J J ?_;simp only [aN];refine I ?_;refine gD (aJ jn J) ?_;rintro _ _ ⟨B8,rfl,rfl⟩;refine I ?_;refine ay ?_;refine I ?_;obtain ⟨y9,hy9,h⟩:=aa h;refine gD (al (jy hy9) r4 J (hD (aj (i:=1) J J) (hD (aj (i:=2) J J) (hD (aj (i:=3) J J) (hD (aj (i:=4) J J) (hD (aj (i:=5) J J) (hD (aj (i:=6) J J) (hD (aj (i:=7) J J) ag))))))) iI) ?_;rintro _ _ ⟨_,⟨rfl,rfl⟩,rfl⟩;refine I ?_;refine ap J (fun g10=> ?_) (fun g10=> ?_)
 ·replace h:=ad g10 h;refine I ?_;refine gE (aE J (od)) ?_;refine gO (aq (us:=[iV 0,iV 0,iV 0,iV 0,Y none 0 0,Y none 0 0]) (cs':=[iV 0,iV 0,iV 0,iV 0,Y none 0 0,Y none 0 0]) 0 J J J J er J J J) ?_;rintro _ _ rfl;refine I ?_;obtain rfl:=ah h;exact co (rs:=[.cell 4 42,.tmp 5]) (vs:=[.agg #[iV 0,iV 0,iV 0,iV 0,Y none 0 0,Y none 0 0],.bool false]) J (.cons (bA 0 J J dX) (.cons (gb J) .nil)) J ((dJ aO 23 _).trans ((dJ aO 23 _).trans (cS [1,0] 10))) ⟨_,_,_,_,_,_,J,J⟩
 replace h:=ae g10 h;refine I ?_;obtain ⟨y13,hy13,h⟩:=aa h;rcases y13 with y13_0|y13_1
 ·replace h:=tx h;refine gD (al (eT hy13) pC J (hD (aj (i:=1) J J) (hD (aj (i:=2) J J) (hD (aj (i:=3) J J) (hD (aj (i:=4) J J) (hD (aj (i:=5) J J) (hD (aj (i:=6) J J) (hD (aj (i:=7) J J) ag))))))) ef) ?_;rintro _ _ ⟨_,⟨rfl,rfl⟩,rfl⟩;obtain ⟨x14,hx14,h⟩:=aa h;obtain ⟨lx14,ux14,hx14⟩:=aD hx14;refine gR (nF 2 J ar J (cJ lx14 ux14)) ?_;refine rF 2 J hx14 (kz x14) ?_;rintro _ _ ⟨A15,n15,c15,A16,n16,c16,rfl,rfl⟩;refine gR (nE (us:=[iV x14.Kind,iV x14.Shape,iV x14.Flags,iV x14.Age,Y A15 n15 c15,Y A16 n16 c16]) 0 J J dX J) ?_;obtain ⟨y18,hy18,h⟩:=aa h;refine gD (al (fN hy18) nh J (hD (aj (i:=1) J J) (hD (aj (i:=2) J J) ag)) eZ) ?_;rintro _ _ ⟨_,⟨A19,n19,c19,A20,n20,c20,rfl,rfl⟩,rfl⟩;refine gO (aq (us:=[iV y18.Kind,iV y18.Shape,iV y18.Flags,iV y18.Age,Y A19 n19 c19,Y A20 n20 c20]) (cs':=[iV y18.Kind,iV y18.Shape,iV y18.Flags,iV y18.Age,Y A19 n19 c19,Y A20 n20 c20]) 5 J J J J er J J J) ?_;rintro _ _ rfl;refine I ?_;obtain rfl:=ah h;exact co (rs:=[.cell 4 42,.tmp 5]) (vs:=[.agg #[iV y18.Kind,iV y18.Shape,iV y18.Flags,iV y18.Age,Y A19 n19 c19,Y A20 n20 c20],.bool true]) J (.cons (bA 5 J J dX) (.cons (gb J) .nil)) J (cS [0,1] 13) ⟨_,_,_,_,_,_,J,J⟩
 replace h:=tv h;refine gD (al (eT hy13) pC J (hD (aj (i:=1) J J) (hD (aj (i:=2) J J) (hD (aj (i:=3) J J) (hD (aj (i:=4) J J) (hD (aj (i:=5) J J) (hD (aj (i:=6) J J) (hD (aj (i:=7) J J) ag))))))) ef) ?_;rintro _ _ ⟨_,⟨rfl,rfl⟩,rfl⟩;obtain ⟨x21,hx21,h⟩:=aa h;obtain ⟨lx21,ux21,hx21⟩:=aD hx21;refine gR (nF 3 J ar J (cJ lx21 ux21)) ?_;refine rF 3 J hx21 (kz x21) ?_;rintro _ _ ⟨A22,n22,c22,A23,n23,c23,rfl,rfl⟩;refine gR (nE (us:=[iV x21.Kind,iV x21.Shape,iV x21.Flags,iV x21.Age,Y A22 n22 c22,Y A23 n23 c23]) 0 J J dX J) ?_;obtain ⟨y25,hy25,h⟩:=aa h;refine gD (al (fN hy25) nh J (hD (aj (i:=1) J J) (hD (aj (i:=2) J J) ag)) eZ) ?_;rintro _ _ ⟨_,⟨A26,n26,c26,A27,n27,c27,rfl,rfl⟩,rfl⟩;refine gO (aq (us:=[iV y25.Kind,iV y25.Shape,iV y25.Flags,iV y25.Age,Y A26 n26 c26,Y A27 n27 c27]) (cs':=[iV y25.Kind,iV y25.Shape,iV y25.Flags,iV y25.Age,Y A26 n26 c26,Y A27 n27 c27]) 5 J J J J er J J J) ?_;rintro _ _ rfl;refine eg ?_;refine I ?_;obtain rfl:=ah h;exact co (rs:=[.cell 4 42,.tmp 5]) (vs:=[.agg #[iV y25.Kind,iV y25.Shape,iV y25.Flags,iV y25.Age,Y A26 n26 c26,Y A27 n27 c27],.bool true]) J (.cons (bA 5 J J dX) (.cons (gb J) .nil)) J (cS [0,1] 13) ⟨_,_,_,_,_,_,J,J⟩
theorem fh {r:(uG×Bool)}: ∀v post,((fun (u:Value) (post:List Chunk)=> ∃A0 n0 c0 A1 n1 c1,u=.tuple #[.agg #[iV r.1.Kind,iV r.1.Shape,iV r.1.Flags,iV r.1.Age,Y A0 n0 c0,Y A1 n1 c1],.bool r.2]∧post=[bK A0 n0 c0 r.1.Slots,bK A1 n1 c1 r.1.More])) v post→ ∀c∈post,bZ c:=by
 rintro _ _ ⟨_,_,_,_,_,_,rfl,rfl⟩;exact hD dQ (hD dQ (ag))
def ec (N:Nat)(p23:Int)(p24:Int)(p25:Int)(p26:Int)(p27:(List uK))(p28:(List uK)):Option uG:=
 some (⟨p23,p24,p25,p26,p27,p28⟩:uG)
def eR (N:Nat)(a0:uA)(a1:uK):Option uG:=
 (im N a1).bind fun y17=>bif !y17 then (some (⟨0,0,0,0,[],[]⟩:uG)) else ((gq N a0.heap_ a1.N).bind fun y29=>ec N y29.1.Kind y29.1.Shape y29.1.Flags y29.1.Age y29.1.Slots y29.1.More)
theorem ii {N:Nat}{a0:uA}{a1:uK}{r:uG}(h:eR N a0 a1=some r):Okc Tryz.prog 17 [pV B1 0,(cX a1)] ([aG B1 79 [iV a0.spent_.steps_,iV a0.spent_.made_,iV a0.spent_.calls_,iV a0.config_.Way,iV a0.config_.Steps,iV a0.config_.Calls,iV a0.config_.Made,iV a0.config_.Young,iV a0.config_.Full,iV a0.config_.Sites,.nilIface,pV B2 0,pV B9 0,Y A12 n12 c12,iV a0.epoch_,iV a0.serial_,iV a0.sleepers_,Y A13 n13 c13,Y A14 n14 c14],aG B2 99 [Y A3 n3 c3,Y A4 n4 c4,Y A5 n5 c5,Y A6 n6 c6,pV B7 0],fw A3 n3 c3 a0.heap_.m_.Young,fw A4 n4 c4 a0.heap_.m_.Old,cj A5 n5 c5 a0.heap_.roots_,cj A6 n6 c6 a0.heap_.pending_,aG B7 147 [.map (some M8)],dg dz dy M8 a0.heap_.set_.at_,aG B9 118 [Y A10 n10 c10,.map (some M11)],cK br (Y A10 n10 c10) a0.shapes_.shapes_,dg aA du M11 a0.shapes_.next_,cK eG (Y A12 n12 c12) a0.symbols_,cK cW (Y A13 n13 c13) a0.events_,cK eG (Y A14 n14 c14) a0.out_]) (fun u post=> ∃A0 n0 c0 A1 n1 c1,u=.agg #[iV r.Kind,iV r.Shape,iV r.Flags,iV r.Age,Y A0 n0 c0,Y A1 n1 c1]∧post=[bK A0 n0 c0 r.Slots,bK A1 n1 c1 r.More]):=by
 refine bv Tryz.func17 J J ?_;simp only [aN];refine I ?_;refine gD (bi J J) ?_;rintro _ _ ⟨B15,rfl,rfl⟩;refine gD (aJ jn J) ?_;rintro _ _ ⟨B16,rfl,rfl⟩;refine I ?_;refine ay ?_;refine I ?_;refine gE (bo J hN) ?_;refine I ?_;refine gR (aS (us:=d7 a1) 1 J J bx J) ?_;obtain ⟨y17,hy17,h⟩:=aa h;refine gD (al (kr hy17) sa J (ag) jt) ?_;rintro _ _ ⟨_,⟨rfl,rfl⟩,rfl⟩;refine I ?_;refine ap J (fun g18=> ?_) (fun g18=> ?_)
 ·replace h:=ad g18 h;refine I ?_;refine gE (aE J (od)) ?_;refine gO (aq (us:=[iV 0,iV 0,iV 0,iV 0,Y none 0 0,Y none 0 0]) (cs':=[iV 0,iV 0,iV 0,iV 0,Y none 0 0,Y none 0 0]) 0 J J J J er J J J) ?_;rintro _ _ rfl;refine I ?_;obtain rfl:=ah h;exact co (rs:=[.cell 4 42]) (vs:=[.agg #[iV 0,iV 0,iV 0,iV 0,Y none 0 0,Y none 0 0]]) J (.cons (bA 0 J J dX) .nil) J ((dJ aO 23 _).trans ((dJ aO 23 _).trans (cS [1,0] 18))) ⟨_,_,_,_,_,_,J,J⟩
 replace h:=ae g18 h;refine I ?_;refine bm (fun s L=> ∃p23 p24 p25 p26 p27 p28 B22 A27 n27 c27 A28 n28 c28,ec N p23 p24 p25 p26 p27 p28=some r∧s=[(4,pV B16 0),(5,pV B22 0)]∧L=[bK A27 n27 c27 p27,bK A28 n28 c28 p28,ak B22 42 [iV p23,iV p24,iV p25,iV p26,Y A27 n27 c27,Y A28 n28 c28],ak B16 42 [iV 0,iV 0,iV 0,iV 0,Y none 0 0,Y none 0 0]]) ?_ ?_
 ·refine bE V _ (ao _) ?_;refine zE 0 J (ax J) ?_;refine zE 1 J (az J) ?_;refine zE 2 J (bO J dx) ?_;refine zR 3 J (ba 2 J J dW J) ?_;refine zE 4 J (bO J nT) ?_;refine zR 5 J (aH 1 J J d4 J) ?_;refine gC 6 10 V ?_ ?_
  ·obtain ⟨y29,hy29,h⟩:=aa h;refine bT J (al (fR hy29) pF J (hD (aj (i:=3) J J) (hD (aj (i:=4) J J) (hD (aj (i:=5) J J) (hD (aj (i:=6) J J) (hD (aj (i:=7) J J) (hD (aj (i:=8) J J) (hD (aj (i:=9) J J) ag))))))) fh) J J J ?_;rintro _ _ ⟨_,⟨A30,n30,c30,A31,n31,c31,rfl,rfl⟩,rfl⟩;refine bH (cS [2,3,4,5,6,7,8,9,10,11,12,13,14,15,16,17] 18) ?_;refine zE 7 J (ax J) ?_;refine zE 8 J (aR J J) ?_;refine zE 9 J (aR J J) ?_;refine zD 10 J (aJ jn J) ?_;rintro _ _ ⟨B32,rfl,rfl⟩;refine bH (cS [3,4,5,6,7,8,9,10,11,12,13,14,15,16,17,18] 19) ?_;refine zO 11 J (aq (us:=[iV y29.1.Kind,iV y29.1.Shape,iV y29.1.Flags,iV y29.1.Age,Y A30 n30 c30,Y A31 n31 c31]) (cs':=[iV y29.1.Kind,iV y29.1.Shape,iV y29.1.Flags,iV y29.1.Age,Y A30 n30 c30,Y A31 n31 c31]) 0 J J J J er J J J) ?_;rintro _ _ rfl;refine bH (cS [3,4,5,6,7,8,9,10,11,12,13,14,15,16,17,18] 19) ?_;refine bQ ?_;refine zE 12 J (aX J) ?_;refine bc V ?_;refine eH ?_;exact ⟨_,_,⟨y29.1.Kind,y29.1.Shape,y29.1.Flags,y29.1.Age,y29.1.Slots,y29.1.More,B32,A30,n30,c30,A31,n31,c31,h,J,J⟩,sA,cS [1,2,0,3] 19⟩
  refine bT J (aJ jn J) J J J ?_;rintro _ _ ⟨B29,rfl,rfl⟩;refine bH (cS [1,2,3,4,5,6,7,8,9,10,11,12,13,14,15,16] 17) ?_;obtain ⟨y30,hy30,h⟩:=aa h;refine zD 6 J (al (fR hy30) pF J (hD (aj (i:=4) J J) (hD (aj (i:=5) J J) (hD (aj (i:=6) J J) (hD (aj (i:=7) J J) (hD (aj (i:=8) J J) (hD (aj (i:=9) J J) (hD (aj (i:=10) J J) ag))))))) fh) ?_;rintro _ _ ⟨_,⟨A31,n31,c31,A32,n32,c32,rfl,rfl⟩,rfl⟩;refine bH (cS [3,4,5,6,7,8,9,10,11,12,13,14,15,16,17,18] 19) ?_;refine zE 7 J (ax J) ?_;refine zE 8 J (aR J J) ?_;refine zE 9 J (aR J J) ?_;refine zO 11 J (aq (us:=[iV y30.1.Kind,iV y30.1.Shape,iV y30.1.Flags,iV y30.1.Age,Y A31 n31 c31,Y A32 n32 c32]) (cs':=[iV y30.1.Kind,iV y30.1.Shape,iV y30.1.Flags,iV y30.1.Age,Y A31 n31 c31,Y A32 n32 c32]) 2 J J J J er J J J) ?_;rintro _ _ rfl;refine bH (cS [3,4,5,6,7,8,9,10,11,12,13,14,15,16,17,18] 19) ?_;refine bQ ?_;refine zE 12 J (aX J) ?_;refine bc V ?_;refine eH ?_;exact ⟨_,_,⟨y30.1.Kind,y30.1.Shape,y30.1.Flags,y30.1.Age,y30.1.Slots,y30.1.More,B29,A31,n31,c31,A32,n32,c32,h,J,J⟩,sA,cS [0,1,2,3] 19⟩
 rintro _ _ ⟨p23,p24,p25,p26,p27,p28,B22,A27,n27,c27,A28,n28,c28,h,rfl,rfl⟩;refine I ?_;refine gR (aS (us:=[iV p23,iV p24,iV p25,iV p26,Y A27 n27 c27,Y A28 n28 c28]) 2 J J dX J) ?_;refine gO (aq (us:=[iV p23,iV p24,iV p25,iV p26,Y A27 n27 c27,Y A28 n28 c28]) (cs':=[iV p23,iV p24,iV p25,iV p26,Y A27 n27 c27,Y A28 n28 c28]) 3 J J J J er J J J) ?_;rintro _ _ rfl;refine I ?_;obtain rfl:=ah h;exact co (rs:=[.cell 4 42]) (vs:=[.agg #[iV p23,iV p24,iV p25,iV p26,Y A27 n27 c27,Y A28 n28 c28]]) J (.cons (bA 3 J J dX) .nil) J (cS [0,1] 4) ⟨_,_,_,_,_,_,J,J⟩
theorem f0 {r:uG}: ∀v post,((fun (u:Value) (post:List Chunk)=> ∃A0 n0 c0 A1 n1 c1,u=.agg #[iV r.Kind,iV r.Shape,iV r.Flags,iV r.Age,Y A0 n0 c0,Y A1 n1 c1]∧post=[bK A0 n0 c0 r.Slots,bK A1 n1 c1 r.More])) v post→ ∀c∈post,bZ c:=by
 rintro _ _ ⟨_,_,_,_,_,_,rfl,rfl⟩;exact hD dQ (hD dQ (ag))
def f4 (N:Nat):Option Bool:=
 (ed N (⟨0,1,1,3,0,0,0⟩:hU)).bind fun y1=>sD y1 (fun y1_0=>some false) (fun y1_1=>bif !decide (y1_1.2=0) then (some false) else ((dF N y1_1.1).bind fun y17=>bif !y17.1 then (some false) else ((dF N y17.2).bind fun y29=>bif y29.1 then (some false) else ((eD N y29.2 1 1).bind fun y41=>(eb N y41.2).bind fun y53=>(bif decide (y41.1.Kind=1) then (some (decide ((y53.length:Int)=1))) else (some false)).bind fun b55=>(bif b55 then ((cc y53 0).bind fun x57=>some (x57.S.toList==(⟨#[84,121,112,101,69,114,114,111,114,58,32,110,111,116,32,99,97,108,108,97,98,108,101]⟩:ByteArray).toList)) else (some false)).bind fun b56=>(bif b56 then ((eQ N y41.2).bind fun y59=>some (decide (y59=1))) else (some false)).bind fun b58=>(bif b58 then ((eR N y41.2 y41.1.Value).bind fun y61=>some (decide (y61.Flags=9))) else (some false)).bind fun b60=>some b60))))
set_option maxHeartbeats 4000000 in
theorem lu {N:Nat}{r:Bool}(h:f4 N=some r):Okc Tryz.prog 13 [] ([]) (fun u post=>u=.bool r∧post=[]):=by
 refine bv Tryz.func13 J J ?_;simp only [aN];refine I ?_;refine gE (aE J (lZ _ _ _)) ?_;obtain ⟨y1,hy1,h⟩:=aa h;rcases y1 with y1_0|y1_1
 ·replace h:=tx h;refine gD (aT (eF hy1) oa J (aP [] [] [] 0 J)) ?_;rintro _ _ ⟨_,⟨rfl,rfl⟩,rfl⟩;refine I ?_;refine ay ?_;refine I ?_;refine gE (bo J hN) ?_;refine I ?_;refine gG J ?_;refine I ?_;obtain rfl:=ah h;exact aI J J (cS [] 0) ⟨J,J⟩
 replace h:=tv h;refine gD (aT (eF hy1) oa J (aP [] [] [] 0 J)) ?_;rintro _ _ ⟨_,⟨B2,B3,A4,n4,c4,A5,n5,c5,A6,n6,c6,A7,n7,c7,B8,M9,B10,A11,n11,c11,M12,A13,n13,c13,A14,n14,c14,A15,n15,c15,rfl,rfl⟩,rfl⟩;refine I ?_;refine ay ?_;refine I ?_;refine gE (bo J hN) ?_;refine I ?_;refine av 16 J (fun g16=> ?_) (fun g16=> ?_)
 ·replace h:=ad g16 h;refine I ?_;refine gG J ?_;refine I ?_;obtain rfl:=ah h;exact aI J J (cS [] 14) ⟨J,J⟩
 replace h:=ae g16 h;refine I ?_;obtain ⟨y17,hy17,h⟩:=aa h;refine ce (aT (eC hy17) pJ J (aP [] [0,1,2,3,4,5,6,7,8,9,10,11,12,13] [] 14 J)) J (fs g16 J) J ?_;rintro _ _ ⟨_,⟨A18,n18,c18,A19,n19,c19,A20,n20,c20,A21,n21,c21,M22,A23,n23,c23,M24,A25,n25,c25,A26,n26,c26,A27,n27,c27,rfl,rfl⟩,rfl⟩;refine eg ?_;refine I ?_;refine av 21 J (fun g28=> ?_) (fun g28=> ?_)
 ·replace h:=ad g28 h;refine I ?_;refine gG J ?_;refine I ?_;obtain rfl:=ah h;exact aI J J (cS [] 14) ⟨J,J⟩
 replace h:=ae g28 h;refine I ?_;obtain ⟨y29,hy29,h⟩:=aa h;refine ce (aT (eC hy29) pJ J (aP [] [0,1,2,3,4,5,6,7,8,9,10,11,12,13] [] 14 J)) J (fs g28 J) J ?_;rintro _ _ ⟨_,⟨A30,n30,c30,A31,n31,c31,A32,n32,c32,A33,n33,c33,M34,A35,n35,c35,M36,A37,n37,c37,A38,n38,c38,A39,n39,c39,rfl,rfl⟩,rfl⟩;refine I ?_;refine ap J (fun g40=> ?_) (fun g40=> ?_)
 ·replace h:=ad g40 h;refine I ?_;obtain rfl:=ah h;exact aI J J (cS [] 14) ⟨J,J⟩
 replace h:=ae g40 h;refine I ?_;obtain ⟨y41,hy41,h⟩:=aa h;refine gD (aT (gg hy41) sb J (aP [] [0,1,2,3,4,5,6,7,8,9,10,11,12,13] [] 14 J)) ?_;rintro _ _ ⟨_,⟨A42,n42,c42,A43,n43,c43,A44,n44,c44,A45,n45,c45,M46,A47,n47,c47,M48,A49,n49,c49,A50,n50,c50,A51,n51,c51,rfl,rfl⟩,rfl⟩;refine gD (aJ lr J) ?_;rintro _ _ ⟨B52,rfl,rfl⟩;refine gO (aq (us:=lj y41.1) (cs':=lj y41.1) 0 J J J J jp J J J) ?_;rintro _ _ rfl;refine eg ?_;refine I ?_;obtain ⟨y53,hy53,h⟩:=aa h;refine gD (al (fZ hy53) si J (hD (ai (i:=1) J) (hD (ai (i:=2) J) (hD (ab (i:=3) J) (hD (ab (i:=4) J) (hD (ab (i:=5) J) (hD (ab (i:=6) J) (hD (ai (i:=7) J) (hD (aB (i:=8) J) (hD (ai (i:=9) J) (hD (ab (i:=10) J) (hD (aB (i:=11) J) (hD (ab (i:=12) J) (hD (ab (i:=13) J) (hD (ab (i:=14) J) ag)))))))))))))) fA) ?_;rintro _ _ ⟨_,⟨A54,n54,c54,rfl,rfl⟩,rfl⟩;refine I ?_;obtain ⟨b55,hb55,h⟩:=aa h;refine aw 4 36 b55 ?_ ?_
 ·clear h;refine av 32 J (fun g55=> ?_) (fun g55=> ?_)
  ·have h:=ad g55 hb55;refine I ?_;refine bG (bf 0 J bJ J hO) J (aZ g55 J) J ?_;refine I ?_;obtain rfl:=ah h;exact ac sA (cS [0,1,2,3,4,5,6,7,8,9,10,11,12,13,14,15] 16)
  have h:=ae g55 hb55;refine I ?_;obtain rfl:=ah h;exact ac sA (cS [0,1,2,3,4,5,6,7,8,9,10,11,12,13,14,15] 16)
 refine I ?_;obtain ⟨b56,hb56,h⟩:=aa h;refine aw 6 43 b56 ?_ ?_
 ·clear h;refine av 37 J (fun g56=> ?_) (fun g56=> ?_)
  ·have h:=ad g56 hb56;refine I ?_;obtain ⟨x57,hx57,h⟩:=aa h;obtain ⟨lx57,ux57,hx57⟩:=aD hx57;refine bG (bp 0 J bJ J J hO rJ lx57 ux57) J (aZ g56 J) J ?_;refine bG (nG 0 J bJ J (cJ lx57 ux57) nO) J (aZ g56 J) J ?_;refine bG (ee (u:=.string x57.S) 0 J bJ J hx57 qm (fun _ _ _ h=>by rw [show _=_ from h];rfl)) J (aZ g56 J) J ?_;refine fv (i9 J J) J (aZ g56 J) J ?_;refine I ?_;obtain rfl:=ah h;exact ac sA (cS [0,1,2,3,4,5,6,7,8,9,10,11,12,13,14,15] 16)
  have h:=ae g56 hb56;refine I ?_;obtain rfl:=ah h;exact ac sA (cS [0,1,2,3,4,5,6,7,8,9,10,11,12,13,14,15] 16)
 refine I ?_;obtain ⟨b58,hb58,h⟩:=aa h;refine aw 4 48 b58 ?_ ?_
 ·clear h;refine av 44 J (fun g58=> ?_) (fun g58=> ?_)
  ·have h:=ad g58 hb58;refine I ?_;obtain ⟨y59,hy59,h⟩:=aa h;refine ce (al (ig hy59) sh J (hD (ai (i:=2) J) (hD (ai (i:=3) J) (hD (ab (i:=4) J) (hD (ab (i:=5) J) (hD (ab (i:=6) J) (hD (ab (i:=7) J) (hD (ai (i:=8) J) (hD (aB (i:=9) J) (hD (ai (i:=10) J) (hD (ab (i:=11) J) (hD (aB (i:=12) J) (hD (ab (i:=13) J) (hD (ab (i:=14) J) (hD (ab (i:=15) J) ag)))))))))))))) fY) J (aZ g58 J) J ?_;rintro _ _ ⟨_,⟨rfl,rfl⟩,rfl⟩;refine I ?_;obtain rfl:=ah h;exact ac sA (cS [0,1,2,3,4,5,6,7,8,9,10,11,12,13,14,15] 16)
  have h:=ae g58 hb58;refine I ?_;obtain rfl:=ah h;exact ac sA (cS [0,1,2,3,4,5,6,7,8,9,10,11,12,13,14,15] 16)
 refine I ?_;obtain ⟨b60,hb60,h⟩:=aa h;refine aw 7 56 b60 ?_ ?_
 ·clear h;refine av 49 J (fun g60=> ?_) (fun g60=> ?_)
  ·have h:=ad g60 hb60;refine I ?_;refine bG (aS (us:=d7 y41.1.Value) 1 J J bx J) J (aZ g60 J) J ?_;obtain ⟨y61,hy61,h⟩:=aa h;refine ce (al (ii hy61) sj J (hD (ai (i:=2) J) (hD (ai (i:=3) J) (hD (ab (i:=4) J) (hD (ab (i:=5) J) (hD (ab (i:=6) J) (hD (ab (i:=7) J) (hD (ai (i:=8) J) (hD (aB (i:=9) J) (hD (ai (i:=10) J) (hD (ab (i:=11) J) (hD (aB (i:=12) J) (hD (ab (i:=13) J) (hD (ab (i:=14) J) (hD (ab (i:=15) J) ag)))))))))))))) f0) J (aZ g60 J) J ?_;rintro _ _ ⟨_,⟨A62,n62,c62,A63,n63,c63,rfl,rfl⟩,rfl⟩;refine fv (pv J (pm _ _ _ _ _ _ _ _ _ _)) J (aZ g60 J) J ?_;refine I ?_;obtain rfl:=ah h;exact ac sA (cS [2,3,4,5,6,7,8,9,10,11,12,13,14,15,16,17] 18)
  have h:=ae g60 hb60;refine I ?_;obtain rfl:=ah h;exact ac sA (cS [0,1,2,3,4,5,6,7,8,9,10,11,12,13,14,15] 16)
 refine I ?_;obtain rfl:=ah h;exact aI J J (cS [] 16) ⟨J,J⟩
theorem kl {r:Bool}: ∀v post,((fun (u:Value) (post:List Chunk)=>u=.bool r∧post=[])) v post→ ∀c∈post,bZ c:=by
 rintro _ _ ⟨rfl,rfl⟩;exact ag
end
section
variable {A1 A10 A12 A13 A14 A15 A16 A2 A3 A4 A5 A6:Option Addr} {B1 B2 B6 B7 B9 M11 M3 M7 M8 c1 c10 c12 c13 c14 c15 c16 c2 c3 c4 c5 c6 n1 n10 n12 n13 n14 n15 n16 n2 n3 n4 n5 n6:Nat}
open Go.RowKit Asn
set_option maxRecDepth 20000
def cD (N:Nat)(a0:Int)(y36:(uA)):Option Bool:=
 (bif decide (a0<0) then (some true) else (some (decide (18≤a0)))).bind fun b61=>(bif b61 then ((aF N y36 a0).bind fun y63=>some (!decide (y63=(⟨0,0,⟨#[]⟩⟩:uK)))) else (some false)).bind fun b62=>bif b62 then (some false) else ((dr N y36).bind fun y65=>(bif decide (y65=(⟨6,1,(⟨0,0,⟨#[]⟩⟩:uK)⟩:hX)) then ((bR N y36).bind fun y67=>some (decide (y67=(⟨6,2,(⟨0,0,⟨#[]⟩⟩:uK)⟩:hX)))) else (some false)).bind fun b66=>(bif b66 then ((cG N y36).bind fun y69=>some (decide (y69=20))) else (some false)).bind fun b68=>(bif b68 then ((f4 N).bind fun y71=>some y71) else (some false)).bind fun b70=>some b70)
def ca (N:Nat)(kb48:Int→Option Bool)(a0:Int)(p49:Int)(p25:(List uK))(p19:Int)(p20:Int)(p21:ByteArray)(y36:(uA))(p54:Int)(p55:Int)(p56:ByteArray):Option Bool:=
 (aF N y36 p49).bind fun y58=>bif !decide (y58=(⟨p54,p55,p56⟩:uK)) then (some false) else (ea (cM (p49+1)) (kb48 (p49+1)))
def bL (N:Nat)(a0:Int)(p25:(List uK))(p19:Int)(p20:Int)(p21:ByteArray)(y36:(uA)):Nat→Int→Option Bool
 |0,_=>none
 |m48+1,p49=>bif decide (p49<18) then ((cc p25 p49).bind fun x51=>bif decide (p49=a0) then (ca N (bL N a0 p25 p19 p20 p21 y36 m48) a0 p49 p25 p19 p20 p21 y36 p19 p20 p21) else (ca N (bL N a0 p25 p19 p20 p21 y36 m48) a0 p49 p25 p19 p20 p21 y36 x51.Kind x51.N x51.S)) else (cD N a0 y36)
def cE (N:Nat)(a0:Int)(p19:Int)(p20:Int)(p21:ByteArray)(y2_1:(uA×Int))(p25:(List uK)):Option Bool:=
 (bC N y2_1.1 a0 (⟨p19,p20,p21⟩:uK)).bind fun y36=>bL N a0 p25 p19 p20 p21 y36 N 0
def cC (N:Nat)(a0:Int)(p19:Int)(p20:Int)(p21:ByteArray)(y2_1:(uA×Int)):Nat→(List uK)→Int→Option Bool
 |0,_,_=>none
 |m26+1,p27,p28=>bif decide (p28<18) then ((aF N y2_1.1 p28).bind fun y31=>ea (fS (p27.length+([y31]:List uK).length)) (ea (cM (p28+1)) ((cC N a0 p19 p20 p21 y2_1 m26) (p27++([y31]:List uK)) (p28+1)))) else (cE N a0 p19 p20 p21 y2_1 p27)
def be (N:Nat)(a0:Int)(y2_1:(uA×Int))(p19:Int)(p20:Int)(p21:ByteArray):Option Bool:=
 cC N a0 p19 p20 p21 y2_1 N [] 0
def dY (N:Nat)(a0:Int)(a1:uK):Option Bool:=
 (ed N (⟨0,5,1,5,1,0,0⟩:hU)).bind fun y2=>sD y2 (fun y2_0=>some false) (fun y2_1=>bif !decide (y2_1.2=0) then (some false) else ((bif decide (a1.Kind=7) then (some true) else (some (decide (a1.Kind=9)))).bind fun b22=>bif b22 then (be N a0 y2_1 3 7 (⟨#[]⟩)) else (be N a0 y2_1 a1.Kind a1.N a1.S)))
set_option maxHeartbeats 4000000 in
theorem iT {N:Nat}{a0:Int}{a1:uK}{r:Bool}(h:dY N a0 a1=some r):Okc Tryz.prog 3 [iV a0,(cX a1)] ([]) (fun u post=>u=.bool r∧post=[]):=by
 refine bv Tryz.func3 J J ?_;simp only [aN];refine I ?_;refine gD (bi J J) ?_;rintro _ _ ⟨B1,rfl,rfl⟩;refine I ?_;refine gE (aE J (kV _ _ _ _)) ?_;obtain ⟨y2,hy2,h⟩:=aa h;rcases y2 with y2_0|y2_1
 ·replace h:=tx h;refine gD (aT (eF hy2) oa J (aP [] [] [0] 1 J)) ?_;rintro _ _ ⟨_,⟨rfl,rfl⟩,rfl⟩;refine I ?_;refine ay ?_;refine I ?_;refine gE (bo J hN) ?_;refine I ?_;refine gG J ?_;refine I ?_;obtain rfl:=ah h;exact aI J J (cS [] 1) ⟨J,J⟩
 replace h:=tv h;refine gD (aT (eF hy2) oa J (aP [] [] [0] 1 J)) ?_;rintro _ _ ⟨_,⟨B3,B4,A5,n5,c5,A6,n6,c6,A7,n7,c7,A8,n8,c8,B9,M10,B11,A12,n12,c12,M13,A14,n14,c14,A15,n15,c15,A16,n16,c16,rfl,rfl⟩,rfl⟩;refine I ?_;refine ay ?_;refine I ?_;refine gE (bo J hN) ?_;refine I ?_;refine ap J (fun g17=> ?_) (fun g17=> ?_)
 ·replace h:=ad g17 h;refine I ?_;obtain rfl:=ah h;exact aI J J (cS [] 15) ⟨J,J⟩
 replace h:=ae g17 h;refine I ?_;refine bm (fun s L=> ∃p19 p20 p21,be N a0 y2_1 p19 p20 p21=some r∧s=[(0,iV a0),(3,pV B1 0),(4,.bool false),(5,pV B3 0)]∧L=[ak B1 23 [iV p19,iV p20,.string p21],cI A14 n14 c14 y2_1.1.symbols_,fr A15 n15 c15 y2_1.1.events_,cI A16 n16 c16 y2_1.1.out_,ak B3 79 [iV y2_1.1.spent_.steps_,iV y2_1.1.spent_.made_,iV y2_1.1.spent_.calls_,iV y2_1.1.config_.Way,iV y2_1.1.config_.Steps,iV y2_1.1.config_.Calls,iV y2_1.1.config_.Made,iV y2_1.1.config_.Young,iV y2_1.1.config_.Full,iV y2_1.1.config_.Sites,.nilIface,pV B4 0,pV B11 0,Y A14 n14 c14,iV y2_1.1.epoch_,iV y2_1.1.serial_,iV y2_1.1.sleepers_,Y A15 n15 c15,Y A16 n16 c16],cm A5 n5 c5 y2_1.1.heap_.m_.Young,cm A6 n6 c6 y2_1.1.heap_.m_.Old,bK A7 n7 c7 y2_1.1.heap_.roots_,bK A8 n8 c8 y2_1.1.heap_.pending_,ak B4 99 [Y A5 n5 c5,Y A6 n6 c6,Y A7 n7 c7,Y A8 n8 c8,pV B9 0],ex A12 n12 c12 y2_1.1.shapes_.shapes_,aL aA du M13 y2_1.1.shapes_.next_,ak B11 118 [Y A12 n12 c12,.map (some M13)],aL dz dy M10 y2_1.1.heap_.set_.at_,ak B9 147 [.map (some M10)]]) ?_ ?_
 ·refine I ?_;refine gR (aH 14 J J d4 J) ?_;refine I ?_;obtain ⟨b22,hb22,h⟩:=aa h;refine aw 4 29 b22 ?_ ?_
  ·clear h;refine av 25 J (fun g22=> ?_) (fun g22=> ?_)
   ·have h:=ad g22 hb22;refine I ?_;obtain rfl:=ah h;exact ac sA (cS [0,1,2,3,4,5,6,7,8,9,10,11,12,13,14] 15)
   have h:=ae g22 hb22;refine I ?_;refine bG (aH 14 J J d4 J) J (fs g22 J) J ?_;refine I ?_;obtain rfl:=ah h;exact ac sA (cS [0,1,2,3,4,5,6,7,8,9,10,11,12,13,14] 15)
  refine I ?_;refine ap J (fun g23=> ?_) (fun g23=> ?_)
  ·replace h:=ad g23 h;refine ej ?_;refine gE (aE J (fP _ _)) ?_;refine gO (aq (us:=[iV 3,iV 7,.string (⟨#[]⟩)]) (cs':=[iV 3,iV 7,.string (⟨#[]⟩)]) 14 J J J J aK J J J) ?_;rintro _ _ rfl;refine eg ?_;refine I ?_;exact ⟨_,_,⟨3,7,⟨#[]⟩,h,J,J⟩,sA,cS [14,11,12,13,0,2,3,4,5,1,9,10,8,7,6] 15⟩
  replace h:=ae g23 h;refine I ?_;exact ⟨_,_,⟨a1.Kind,a1.N,a1.S,h,J,J⟩,sA,cS [14,11,12,13,0,2,3,4,5,1,9,10,8,7,6] 15⟩
 rintro _ _ ⟨p19,p20,p21,h,rfl,rfl⟩;refine I ?_;refine bm (fun s L=> ∃p25 A25 n25 c25,cE N a0 p19 p20 p21 y2_1 p25=some r∧s=[(0,iV a0),(3,pV B1 0),(4,.bool false),(5,pV B3 0),(7,Y A25 n25 c25)]∧L=[bK A25 n25 c25 p25,ak B1 23 [iV p19,iV p20,.string p21],cI A14 n14 c14 y2_1.1.symbols_,fr A15 n15 c15 y2_1.1.events_,cI A16 n16 c16 y2_1.1.out_,ak B3 79 [iV y2_1.1.spent_.steps_,iV y2_1.1.spent_.made_,iV y2_1.1.spent_.calls_,iV y2_1.1.config_.Way,iV y2_1.1.config_.Steps,iV y2_1.1.config_.Calls,iV y2_1.1.config_.Made,iV y2_1.1.config_.Young,iV y2_1.1.config_.Full,iV y2_1.1.config_.Sites,.nilIface,pV B4 0,pV B11 0,Y A14 n14 c14,iV y2_1.1.epoch_,iV y2_1.1.serial_,iV y2_1.1.sleepers_,Y A15 n15 c15,Y A16 n16 c16],cm A5 n5 c5 y2_1.1.heap_.m_.Young,cm A6 n6 c6 y2_1.1.heap_.m_.Old,bK A7 n7 c7 y2_1.1.heap_.roots_,bK A8 n8 c8 y2_1.1.heap_.pending_,ak B4 99 [Y A5 n5 c5,Y A6 n6 c6,Y A7 n7 c7,Y A8 n8 c8,pV B9 0],ex A12 n12 c12 y2_1.1.shapes_.shapes_,aL aA du M13 y2_1.1.shapes_.next_,ak B11 118 [Y A12 n12 c12,.map (some M13)],aL dz dy M10 y2_1.1.heap_.set_.at_,ak B9 147 [.map (some M10)]]) ?_ ?_
 ·refine I ?_;refine d8 (fun m s L=> ∃p27 p28 A27 n27 c27,cC N a0 p19 p20 p21 y2_1 m p27 p28=some r∧s=[(0,iV a0),(3,pV B1 0),(4,.bool false),(5,pV B3 0),(7,Y A27 n27 c27),(8,iV p28)]∧L=[bK A27 n27 c27 p27,ak B1 23 [iV p19,iV p20,.string p21],cI A14 n14 c14 y2_1.1.symbols_,fr A15 n15 c15 y2_1.1.events_,cI A16 n16 c16 y2_1.1.out_,ak B3 79 [iV y2_1.1.spent_.steps_,iV y2_1.1.spent_.made_,iV y2_1.1.spent_.calls_,iV y2_1.1.config_.Way,iV y2_1.1.config_.Steps,iV y2_1.1.config_.Calls,iV y2_1.1.config_.Made,iV y2_1.1.config_.Young,iV y2_1.1.config_.Full,iV y2_1.1.config_.Sites,.nilIface,pV B4 0,pV B11 0,Y A14 n14 c14,iV y2_1.1.epoch_,iV y2_1.1.serial_,iV y2_1.1.sleepers_,Y A15 n15 c15,Y A16 n16 c16],cm A5 n5 c5 y2_1.1.heap_.m_.Young,cm A6 n6 c6 y2_1.1.heap_.m_.Old,bK A7 n7 c7 y2_1.1.heap_.roots_,bK A8 n8 c8 y2_1.1.heap_.pending_,ak B4 99 [Y A5 n5 c5,Y A6 n6 c6,Y A7 n7 c7,Y A8 n8 c8,pV B9 0],ex A12 n12 c12 y2_1.1.shapes_.shapes_,aL aA du M13 y2_1.1.shapes_.next_,ak B11 118 [Y A12 n12 c12,.map (some M13)],aL dz dy M10 y2_1.1.heap_.set_.at_,ak B9 147 [.map (some M10)]]) N _ _ ⟨[],0,none,0,0,h,J,J⟩ sA ((dJ aO 23 _).trans (cS [0,1,2,3,4,5,6,7,8,9,10,11,12,13,14,15] 16)) ?_;rintro (_|m26) _ _ ⟨p27,p28,A27,n27,c27,h,rfl,rfl⟩
  ·exact bM h
  rw [cC.eq_2] at h;refine ay ?_;refine I ?_;refine ap J (fun g30=> ?_) (fun g30=> ?_)
  ·replace h:=ad g30 h;refine I ?_;refine ay ?_;refine I ?_;obtain ⟨y31,hy31,h⟩:=aa h;refine gD (al (cp hy31) pD J (hD (ai (i:=5) J) (hD (ai (i:=10) J) (hD (ab (i:=6) J) (hD (ab (i:=7) J) (hD (ab (i:=8) J) (hD (ab (i:=9) J) (hD (ai (i:=15) J) (hD (aB (i:=14) J) (hD (ai (i:=13) J) (hD (ab (i:=11) J) (hD (aB (i:=12) J) (hD (ab (i:=2) J) (hD (ab (i:=3) J) (hD (ab (i:=4) J) ag)))))))))))))) cb) ?_;rintro _ _ ⟨_,⟨rfl,rfl⟩,rfl⟩;refine gD (bW (R:=aO) (vss:=[[iV y31.Kind,iV y31.N,.string y31.S]]) (xs:=[y31]) J (kU _ _ _) J J (fun _ _ hr=> .cons J All2.nil)) ?_;rintro _ _ ⟨A32,n32,c32,rfl,rfl⟩;obtain ⟨q33,h⟩:=aC h;refine gD (d3 1 0 J J bJ J J hE rH J J q33) ?_;rintro _ _ ⟨A34,n34,c34,rfl,rfl⟩;refine I ?_;obtain ⟨q35,h⟩:=aC h;refine gE (dI J J q35.1 q35.2) ?_;refine I ?_;exact ⟨m26,_,_,uQ _,⟨p27++([y31]:List uK),p28+1,A34,n34,c34,h,J,J⟩,sA,cS [1,2,3,4,5,6,7,8,9,10,11,12,13,14,15,16] 17⟩
  replace h:=ae g30 h;refine I ?_;exact ⟨_,_,⟨p27,A27,n27,c27,h,J,J⟩,sA,cS [0,1,2,3,4,5,6,7,8,9,10,11,12,13,14,15] 16⟩
 rintro _ _ ⟨p25,A25,n25,c25,h,rfl,rfl⟩;refine I ?_;refine gR (aS (us:=[iV p19,iV p20,.string p21]) 1 J J bx J) ?_;obtain ⟨y36,hy36,h⟩:=aa h;refine gD (aT (eE hy36) tb J (aP [] [5,10,6,7,8,9,15,14,13,11,12,2,3,4] [0,1] 16 J)) ?_;rintro _ _ ⟨_,⟨A37,n37,c37,A38,n38,c38,A39,n39,c39,A40,n40,c40,M41,A42,n42,c42,M43,A44,n44,c44,A45,n45,c45,A46,n46,c46,rfl,rfl⟩,rfl⟩;refine I ?_;refine bm (fun s L=>cD N a0 y36=some r∧s=[(0,iV a0),(4,.bool false),(5,pV B3 0)]∧L=[cI A44 n44 c44 y36.symbols_,fr A45 n45 c45 y36.events_,cI A46 n46 c46 y36.out_,ak B3 79 [iV y36.spent_.steps_,iV y36.spent_.made_,iV y36.spent_.calls_,iV y36.config_.Way,iV y36.config_.Steps,iV y36.config_.Calls,iV y36.config_.Made,iV y36.config_.Young,iV y36.config_.Full,iV y36.config_.Sites,.nilIface,pV B4 0,pV B11 0,Y A44 n44 c44,iV y36.epoch_,iV y36.serial_,iV y36.sleepers_,Y A45 n45 c45,Y A46 n46 c46],cm A37 n37 c37 y36.heap_.m_.Young,cm A38 n38 c38 y36.heap_.m_.Old,bK A39 n39 c39 y36.heap_.roots_,bK A40 n40 c40 y36.heap_.pending_,ak B4 99 [Y A37 n37 c37,Y A38 n38 c38,Y A39 n39 c39,Y A40 n40 c40,pV B9 0],ex A42 n42 c42 y36.shapes_.shapes_,aL aA du M43 y36.shapes_.next_,ak B11 118 [Y A42 n42 c42,.map (some M43)],aL dz dy M41 y36.heap_.set_.at_,ak B9 147 [.map (some M41)]]) ?_ ?_
 ·refine I ?_;refine d8 (fun m s L=> ∃p49,bL N a0 p25 p19 p20 p21 y36 m p49=some r∧s=[(0,iV a0),(3,pV B1 0),(4,.bool false),(5,pV B3 0),(7,Y A25 n25 c25),(9,iV p49)]∧L=[bK A25 n25 c25 p25,ak B1 23 [iV p19,iV p20,.string p21],cI A44 n44 c44 y36.symbols_,fr A45 n45 c45 y36.events_,cI A46 n46 c46 y36.out_,ak B3 79 [iV y36.spent_.steps_,iV y36.spent_.made_,iV y36.spent_.calls_,iV y36.config_.Way,iV y36.config_.Steps,iV y36.config_.Calls,iV y36.config_.Made,iV y36.config_.Young,iV y36.config_.Full,iV y36.config_.Sites,.nilIface,pV B4 0,pV B11 0,Y A44 n44 c44,iV y36.epoch_,iV y36.serial_,iV y36.sleepers_,Y A45 n45 c45,Y A46 n46 c46],cm A37 n37 c37 y36.heap_.m_.Young,cm A38 n38 c38 y36.heap_.m_.Old,bK A39 n39 c39 y36.heap_.roots_,bK A40 n40 c40 y36.heap_.pending_,ak B4 99 [Y A37 n37 c37,Y A38 n38 c38,Y A39 n39 c39,Y A40 n40 c40,pV B9 0],ex A42 n42 c42 y36.shapes_.shapes_,aL aA du M43 y36.shapes_.next_,ak B11 118 [Y A42 n42 c42,.map (some M43)],aL dz dy M41 y36.heap_.set_.at_,ak B9 147 [.map (some M41)]]) N _ _ ⟨0,h,J,J⟩ sA (cS [14,15,11,12,13,0,2,3,4,5,1,9,10,8,7,6] 16) ?_;rintro (_|m48) _ _ ⟨p49,h,rfl,rfl⟩
  ·exact bM h
  rw [bL.eq_2] at h;refine ay ?_;refine I ?_;refine ap J (fun g50=> ?_) (fun g50=> ?_)
  ·replace h:=ad g50 h;refine I ?_;refine ay ?_;refine I ?_;obtain ⟨x51,hx51,h⟩:=aa h;obtain ⟨lx51,ux51,hx51⟩:=aD hx51;refine gR (bp 0 J bJ J J hE aK lx51 ux51) ?_;refine gR (bq (us:=[iV x51.Kind,iV x51.N,.string x51.S]) 0 J bJ J hx51 bx (fun _ _ _ h=>by rw [show _=_ from h];rfl)) ?_;refine gD (aJ dp J) ?_;rintro _ _ ⟨B52,rfl,rfl⟩;refine gO (aq (us:=[iV x51.Kind,iV x51.N,.string x51.S]) (cs':=[iV x51.Kind,iV x51.N,.string x51.S]) 0 J J J J aK J J J) ?_;rintro _ _ rfl;refine eg ?_;refine I ?_
   refine bm (fun s L=> ∃p54 p55 p56,ca N (bL N a0 p25 p19 p20 p21 y36 m48) a0 p49 p25 p19 p20 p21 y36 p54 p55 p56=some r∧s=[(0,iV a0),(3,pV B1 0),(4,.bool false),(5,pV B3 0),(7,Y A25 n25 c25),(9,iV p49),(10,pV B52 0)]∧L=[bK A25 n25 c25 p25,ak B1 23 [iV p19,iV p20,.string p21],cI A44 n44 c44 y36.symbols_,fr A45 n45 c45 y36.events_,cI A46 n46 c46 y36.out_,ak B3 79 [iV y36.spent_.steps_,iV y36.spent_.made_,iV y36.spent_.calls_,iV y36.config_.Way,iV y36.config_.Steps,iV y36.config_.Calls,iV y36.config_.Made,iV y36.config_.Young,iV y36.config_.Full,iV y36.config_.Sites,.nilIface,pV B4 0,pV B11 0,Y A44 n44 c44,iV y36.epoch_,iV y36.serial_,iV y36.sleepers_,Y A45 n45 c45,Y A46 n46 c46],ak B52 23 [iV p54,iV p55,.string p56],cm A37 n37 c37 y36.heap_.m_.Young,cm A38 n38 c38 y36.heap_.m_.Old,bK A39 n39 c39 y36.heap_.roots_,bK A40 n40 c40 y36.heap_.pending_,ak B4 99 [Y A37 n37 c37,Y A38 n38 c38,Y A39 n39 c39,Y A40 n40 c40,pV B9 0],ex A42 n42 c42 y36.shapes_.shapes_,aL aA du M43 y36.shapes_.next_,ak B11 118 [Y A42 n42 c42,.map (some M43)],aL dz dy M41 y36.heap_.set_.at_,ak B9 147 [.map (some M41)]]) ?_ ?_
   ·refine I ?_;refine ap J (fun g57=> ?_) (fun g57=> ?_)
    ·replace h:=ad g57 h;refine ej ?_;refine gR (aS (us:=[iV p19,iV p20,.string p21]) 2 J J bx J) ?_;refine gO (aq (us:=[iV p19,iV p20,.string p21]) (cs':=[iV p19,iV p20,.string p21]) 0 J J J J aK J J J) ?_;rintro _ _ rfl;refine I ?_;exact ⟨_,_,⟨p19,p20,p21,h,J,J⟩,sA,cS [1,2,3,4,5,6,0,7,8,9,10,11,12,13,14,15,16] 17⟩
    replace h:=ae g57 h;refine I ?_;exact ⟨_,_,⟨x51.Kind,x51.N,x51.S,h,J,J⟩,sA,cS [1,2,3,4,5,6,0,7,8,9,10,11,12,13,14,15,16] 17⟩
   rintro _ _ ⟨p54,p55,p56,h,rfl,rfl⟩;refine ay ?_;refine bE V _ (ao _) ?_;refine zE 0 J (ax J) ?_;refine zE 1 J (ax J) ?_;refine zR 3 J (aS (us:=[iV p54,iV p55,.string p56]) 6 J J bx J) ?_;obtain ⟨y58,hy58,h⟩:=aa h;refine zD 2 J (al (cp hy58) pD J (hD (ai (i:=5) J) (hD (ai (i:=11) J) (hD (ab (i:=7) J) (hD (ab (i:=8) J) (hD (ab (i:=9) J) (hD (ab (i:=10) J) (hD (ai (i:=16) J) (hD (aB (i:=15) J) (hD (ai (i:=14) J) (hD (ab (i:=12) J) (hD (aB (i:=13) J) (hD (ab (i:=2) J) (hD (ab (i:=3) J) (hD (ab (i:=4) J) ag)))))))))))))) cb) ?_;rintro _ _ ⟨_,⟨rfl,rfl⟩,rfl⟩;refine ⟨_,ao _,ao _,?_⟩;refine zE 4 J (lm (x:=y58) (y:=(⟨p54,p55,p56⟩:uK)) J J) ?_;refine bc V ?_;refine eH ?_;refine ap J (fun g59=> ?_) (fun g59=> ?_)
   ·replace h:=ad g59 h;refine I ?_;obtain rfl:=ah h;exact aI J J (cS [] 17) ⟨J,J⟩
   replace h:=ae g59 h;refine I ?_;obtain ⟨q60,h⟩:=aC h;refine gE (dI J J q60.1 q60.2) ?_;refine I ?_;exact ⟨m48,_,_,uQ _,⟨p49+1,h,J,J⟩,sA,cS [0,1,2,3,4,5,7,8,9,10,11,12,13,14,15,16] 17⟩
  replace h:=ae g50 h;refine I ?_;exact ⟨_,_,⟨h,J,J⟩,sA,cS [2,3,4,5,6,7,8,9,10,11,12,13,14,15] 16⟩
 rintro _ _ ⟨h,rfl,rfl⟩;refine ay ?_;refine I ?_;obtain ⟨b61,hb61,h⟩:=aa h;refine aw 3 67 b61 ?_ ?_
 ·clear h;refine av 64 J (fun g61=> ?_) (fun g61=> ?_)
  ·have h:=ad g61 hb61;refine I ?_;obtain rfl:=ah h;exact ac sA (cS [0,1,2,3,4,5,6,7,8,9,10,11,12,13] 14)
  have h:=ae g61 hb61;refine I ?_;obtain rfl:=ah h;exact ac sA (cS [0,1,2,3,4,5,6,7,8,9,10,11,12,13] 14)
 refine I ?_;obtain ⟨b62,hb62,h⟩:=aa h;refine aw 6 74 b62 ?_ ?_
 ·clear h;refine av 68 J (fun g62=> ?_) (fun g62=> ?_)
  ·have h:=ad g62 hb62;refine I ?_;obtain ⟨y63,hy63,h⟩:=aa h;refine ce (al (cp hy63) pD J (hD (ai (i:=3) J) (hD (ai (i:=8) J) (hD (ab (i:=4) J) (hD (ab (i:=5) J) (hD (ab (i:=6) J) (hD (ab (i:=7) J) (hD (ai (i:=13) J) (hD (aB (i:=12) J) (hD (ai (i:=11) J) (hD (ab (i:=9) J) (hD (aB (i:=10) J) (hD (ab (i:=0) J) (hD (ab (i:=1) J) (hD (ab (i:=2) J) ag)))))))))))))) cb) J (aZ g62 J) J ?_;rintro _ _ ⟨_,⟨rfl,rfl⟩,rfl⟩;refine fv (aE J (gW)) J (aZ g62 J) J ?_;refine fv (lm (x:=y63) (y:=(⟨0,0,⟨#[]⟩⟩:uK)) J J) J (aZ g62 J) J ?_;refine I ?_;obtain rfl:=ah h;exact ac sA (cS [0,1,2,3,4,5,6,7,8,9,10,11,12,13] 14)
  have h:=ae g62 hb62;refine I ?_;obtain rfl:=ah h;exact ac sA (cS [0,1,2,3,4,5,6,7,8,9,10,11,12,13] 14)
 refine I ?_;refine ap J (fun g64=> ?_) (fun g64=> ?_)
 ·replace h:=ad g64 h;refine I ?_;obtain rfl:=ah h;exact aI J J (cS [] 14) ⟨J,J⟩
 replace h:=ae g64 h;refine I ?_;obtain ⟨y65,hy65,h⟩:=aa h;refine gD (al (gh hy65) sn J (hD (ai (i:=3) J) (hD (ai (i:=8) J) (hD (ab (i:=4) J) (hD (ab (i:=5) J) (hD (ab (i:=6) J) (hD (ab (i:=7) J) (hD (ai (i:=13) J) (hD (aB (i:=12) J) (hD (ai (i:=11) J) (hD (ab (i:=9) J) (hD (aB (i:=10) J) (hD (ab (i:=0) J) (hD (ab (i:=1) J) (hD (ab (i:=2) J) ag)))))))))))))) fI) ?_;rintro _ _ ⟨_,⟨rfl,rfl⟩,rfl⟩;refine gE (aE J (fO _ _)) ?_;refine gE (mA (x:=y65) (y:=(⟨6,1,(⟨0,0,⟨#[]⟩⟩:uK)⟩:hX)) J J) ?_;refine I ?_;obtain ⟨b66,hb66,h⟩:=aa h;refine aw 5 84 b66 ?_ ?_
 ·clear h;refine av 79 J (fun g66=> ?_) (fun g66=> ?_)
  ·have h:=ad g66 hb66;refine I ?_;obtain ⟨y67,hy67,h⟩:=aa h;refine ce (al (cR hy67) nk J (hD (ai (i:=3) J) (hD (ai (i:=8) J) (hD (ab (i:=4) J) (hD (ab (i:=5) J) (hD (ab (i:=6) J) (hD (ab (i:=7) J) (hD (ai (i:=13) J) (hD (aB (i:=12) J) (hD (ai (i:=11) J) (hD (ab (i:=9) J) (hD (aB (i:=10) J) (hD (ab (i:=0) J) (hD (ab (i:=1) J) (hD (ab (i:=2) J) ag)))))))))))))) cv) J (aZ g66 J) J ?_;rintro _ _ ⟨_,⟨rfl,rfl⟩,rfl⟩;refine fv (aE J (fO _ _)) J (aZ g66 J) J ?_;refine fv (mA (x:=y67) (y:=(⟨6,2,(⟨0,0,⟨#[]⟩⟩:uK)⟩:hX)) J J) J (aZ g66 J) J ?_;refine I ?_;obtain rfl:=ah h;exact ac sA (cS [0,1,2,3,4,5,6,7,8,9,10,11,12,13] 14)
  have h:=ae g66 hb66;refine I ?_;obtain rfl:=ah h;exact ac sA (cS [0,1,2,3,4,5,6,7,8,9,10,11,12,13] 14)
 refine I ?_;obtain ⟨b68,hb68,h⟩:=aa h;refine aw 4 89 b68 ?_ ?_
 ·clear h;refine av 85 J (fun g68=> ?_) (fun g68=> ?_)
  ·have h:=ad g68 hb68;refine I ?_;obtain ⟨y69,hy69,h⟩:=aa h;refine ce (al (ie hy69) sm J (hD (ai (i:=3) J) (hD (ai (i:=8) J) (hD (ab (i:=4) J) (hD (ab (i:=5) J) (hD (ab (i:=6) J) (hD (ab (i:=7) J) (hD (ai (i:=13) J) (hD (aB (i:=12) J) (hD (ai (i:=11) J) (hD (ab (i:=9) J) (hD (aB (i:=10) J) (hD (ab (i:=0) J) (hD (ab (i:=1) J) (hD (ab (i:=2) J) ag)))))))))))))) fX) J (aZ g68 J) J ?_;rintro _ _ ⟨_,⟨rfl,rfl⟩,rfl⟩;refine I ?_;obtain rfl:=ah h;exact ac sA (cS [0,1,2,3,4,5,6,7,8,9,10,11,12,13] 14)
  have h:=ae g68 hb68;refine I ?_;obtain rfl:=ah h;exact ac sA (cS [0,1,2,3,4,5,6,7,8,9,10,11,12,13] 14)
 refine I ?_;obtain ⟨b70,hb70,h⟩:=aa h;refine aw 2 92 b70 ?_ ?_
 ·clear h;refine av 90 J (fun g70=> ?_) (fun g70=> ?_)
  ·have h:=ad g70 hb70;obtain ⟨y71,hy71,h⟩:=aa h;refine ce (al (lu hy71) sk J (ag) kl) J (aZ g70 J) J ?_;rintro _ _ ⟨_,⟨rfl,rfl⟩,rfl⟩;refine I ?_;obtain rfl:=ah h;exact ac sA (cS [0,1,2,3,4,5,6,7,8,9,10,11,12,13] 14)
  have h:=ae g70 hb70;refine I ?_;obtain rfl:=ah h;exact ac sA (cS [0,1,2,3,4,5,6,7,8,9,10,11,12,13] 14)
 refine I ?_;obtain rfl:=ah h;exact aI J J (cS [] 14) ⟨J,J⟩
end
section
variable {A1 A10 A12 A13 A14 A15 A16 A2 A3 A4 A5 A6:Option Addr} {B1 B2 B6 B7 B9 M11 M3 M7 M8 c1 c10 c12 c13 c14 c15 c16 c2 c3 c4 c5 c6 n1 n10 n12 n13 n14 n15 n16 n2 n3 n4 n5 n6:Nat}
open Go.RowKit Go.ChangeShapes Go.WideShapes Go.Deep
def me (x:uK):Prop:=(cM x.Kind)∧(cM x.N)∧(True)
set_option maxRecDepth 100000 in
theorem mU:tL Tryz.prog 23 aO me:=fun {_ enc w base spare held _ cs y} h=>by
 obtain ⟨xs,m, -, -,hl,hx,hf⟩:=DataW.trod_struct Tryz.underlying23 h
 have hc:Tryz.prog.cellsOf 23=3:=by kernel_rfl
 rw [hc] at hl
 match cs,hl,hf with
 | [c0,c1,c2],_,hf=>
  have k0:DataW.trod enc Tryz.prog w base spare held m 3 (List.take (Tryz.prog.cellsOf 3) (List.drop 0 [c0,c1,c2]))=xs[0]? :=hf 0 _ rfl
  have z0:Tryz.prog.cellsOf 3=1:=by kernel_rfl
  simp only [z0,List.drop_succ_cons,List.drop_zero,List.take_succ_cons,List.take_zero] at k0
  have l0:0<xs.length:=by rw [hx];decide
  obtain ⟨a0,r0,w0⟩:=(nD hH) (k0.trans (List.getElem?_eq_getElem l0));have k1:DataW.trod enc Tryz.prog w base spare held m 3 (List.take (Tryz.prog.cellsOf 3) (List.drop 1 [c0,c1,c2]))=xs[1]? :=hf 1 _ rfl
  have z1:Tryz.prog.cellsOf 3=1:=by kernel_rfl
  simp only [z1,List.drop_succ_cons,List.drop_zero,List.take_succ_cons,List.take_zero] at k1
  have l1:1<xs.length:=by rw [hx];decide
  obtain ⟨a1,r1,w1⟩:=(nD hH) (k1.trans (List.getElem?_eq_getElem l1));have k2:DataW.trod enc Tryz.prog w base spare held m 9 (List.take (Tryz.prog.cellsOf 9) (List.drop 2 [c0,c1,c2]))=xs[2]? :=hf 2 _ rfl
  have z2:Tryz.prog.cellsOf 9=1:=by kernel_rfl
  simp only [z2,List.drop_succ_cons,List.drop_zero,List.take_succ_cons,List.take_zero] at k2
  have l2:2<xs.length:=by rw [hx];decide
  obtain ⟨a2,r2,w2⟩:=(qj hG) (k2.trans (List.getElem?_eq_getElem l2));obtain ⟨rfl, -⟩:=List.cons.inj (show [c0]=[_] from r0);obtain ⟨rfl, -⟩:=List.cons.inj (show [c1]=[_] from r1);obtain ⟨rfl, -⟩:=List.cons.inj (show [c2]=[_] from r2);exact ⟨⟨a0,a1,a2⟩,J,⟨w0,w1,w2⟩⟩
set_option maxRecDepth 100000 in
theorem sp {H:Type}{enc:TypeId×Value→H}{W:World}{r:Reach}{b0:Nat}{base:Nat}{spare:Nat→Bool}{held:Bool}{v:Value}{d:DataW H}{p:List MemPlace}
  (hv:Value.okWide Tryz.prog W r b0 23 v) (h:DataW.Trod enc Tryz.prog W base spare held 23 v d p): ∃(m:uK),v=.agg #[.int .i64 m.Kind,.int .i64 m.N,.string m.S]∧(me m):=by
 obtain ⟨cs,rfl, -⟩:=okWide_struct Tryz.underlying23 hv;obtain ⟨fuel,hf⟩:=h;obtain ⟨m,e,hw⟩:=mU hf;obtain ⟨l⟩:=cs;have hx:l=[.int .i64 m.Kind,.int .i64 m.N,.string m.S]:=e;exact ⟨m,by rw [hx],hw⟩
end
section
variable {A1 A10 A12 A13 A14 A15 A16 A2 A3 A4 A5 A6:Option Addr} {B1 B2 B6 B7 B9 M11 M3 M7 M8 c1 c10 c12 c13 c14 c15 c16 c2 c3 c4 c5 c6 n1 n10 n12 n13 n14 n15 n16 n2 n3 n4 n5 n6:Nat}
open Go.RowKit
set_option maxRecDepth 20000
theorem rh:f4 64=some true:=by kernel_rfl
def w031:uA:=match ed 64 (⟨0,5,1,5,1,0,0⟩:hU) with
 |some (.inr w)=>w.1
 |_=>default
theorem rO:ed 64 (⟨0,5,1,5,1,0,0⟩:hU)=some (.inr (w031,0)):=by kernel_rfl
theorem sT:w031.heap_.roots_.length=20:=by kernel_rfl
def zV:uK:=⟨0,0,⟨#[]⟩⟩
theorem nM (w:uA)(hl:w.heap_.roots_.length=20)(k:Nat)(hk:k<18):aF 64 w (k:Int)=some (w.heap_.roots_[k]?.getD zV):=by
 unfold aF bN aW;rw [uP (show¬(k:Int)<0 by omega),uP (show¬(18:Int)≤(k:Int) by omega),hl,uP (show¬((20:Nat):Int)≤(k:Int) by omega)]
 have hg:cc w.heap_.roots_ (k:Int)=some (w.heap_.roots_[k]?.getD zV):=by
  unfold cc;rw [if_neg O,Int.toNat_natCast,List.getElem?_eq_getElem O];rfl
 show ((cc w.heap_.roots_ (k:Int)).bind fun x13=>some x13).bind _=_;rw [hg];rfl
theorem pk (w:uA)(n:Int)(hn:n<0∨18≤n):aF 64 w n=some zV:=by
 unfold aF;by_cases h:n<0
 ·rw [uO h];rfl
 rw [uP h,uO (show (18:Int)≤n by omega)];rfl
theorem rM (w:uA)(hl:w.heap_.roots_.length=20):cG 64 w=some 20:=by
 unfold cG dO aW da ea;simp [hl,fS]
theorem sK (w:uA)(hl:w.heap_.roots_.length=20)(n:Int)(v:uK): ∃w1,bC 64 w n v=some w1∧w1.heap_.roots_.length=20∧ ∀k:Nat,k<18→w1.heap_.roots_[k]? =if (k:Int)=n then some v else w.heap_.roots_[k]? :=by
 unfold bC;by_cases h:0≤n∧n<18
 ·rw [uO h.1,uO h.2]
  have hs:bV 64 w.heap_ n v=some (true,⟨w.heap_.m_,List.set w.heap_.roots_ n.toNat v,w.heap_.pending_,w.heap_.set_⟩):=by
   unfold bV aW;rw [uP (show¬n<0 by omega),hl,uP (show¬((20:Nat):Int)≤n by omega)]
   have hg: ∃x,cc w.heap_.roots_ n=some x:=by
    unfold cc;rw [if_neg O];exact ⟨_,List.getElem?_eq_getElem O⟩
   obtain ⟨x,hx⟩:=hg;show (cc w.heap_.roots_ n).bind _=_;rw [hx];rfl
  refine ⟨_,by show (bV 64 w.heap_ n v).bind _=_;rw [hs];rfl,?_,fun k hk=> ?_⟩
  ·show (List.set w.heap_.roots_ n.toNat v).length=20;rw [List.length_set,hl]
  show (List.set w.heap_.roots_ n.toNat v)[k]? =_;rw [List.getElem?_set];by_cases e:(k:Int)=n
  ·rw [if_pos O,if_pos O,if_pos e]
  rw [if_neg O,if_neg e]
 refine ⟨w,?_,hl,fun k hk=>by rw [if_neg O]⟩;by_cases h0:0≤n
 ·rw [uO h0,uP (show¬n<18 by omega)];rfl
 rw [uP h0];rfl
theorem ta (n:Int)(w:uA)(hl:w.heap_.roots_.length=20):cD 64 n w=some true:=by
 have h0: ∃b,((bif decide (n<0) then some true else some (decide (18≤n))).bind fun b61=>bif b61 then ((aF 64 w n).bind fun y63=>some (!decide (y63=(⟨0,0,⟨#[]⟩⟩:uK)))) else some false)=some b∧b=false:=by
  by_cases h:n<0∨18≤n
  ·rw [pk w n h];refine ⟨false,?_,J⟩;by_cases h1:n<0
   ·rw [uO h1];rfl
   rw [uP h1,uO (show (18:Int)≤n by omega)];rfl
  rw [uP (show¬n<0 by omega),uP (show¬(18:Int)≤n by omega)];exact ⟨false,J,J⟩
 obtain ⟨b,h1,rfl⟩:=h0;unfold cD
 have hb: ∀(x:Option Bool) (f:Bool→Option Bool) (g:Bool→Option Bool),x.bind (fun a=>(f a).bind g)=(x.bind f).bind g:=fun x f g=>by cases x<;>rfl
 rw [hb,h1];unfold dr bR;simp [rM w hl,rh]
theorem oY (w:uA)(i:Int)(x:uK)(kb:Int→Option Bool)(n p19 p20:Int)(p21:ByteArray)(old:List uK)(y:uK)(hx:aF 64 w i=some x)(e:x=y)(hin:cM (i+1)):ca 64 kb n i old p19 p20 p21 w y.Kind y.N y.S=kb (i+1):=by
 unfold ca;rw [hx];subst e;have h1:decide (x=(⟨x.Kind,x.N,x.S⟩:uK))=true:=uO rfl;simp only [Option.bind_some,h1,Bool.not_true,cond_false];exact if_pos hin
theorem pi (n:Int)(old:List uK)(p19 p20:Int)(p21:ByteArray)(w:uA)(ho:old.length=18)(hl:w.heap_.roots_.length=20)(hr: ∀k:Nat,k<18→w.heap_.roots_[k]? =if (k:Int)=n then some ⟨p19,p20,p21⟩ else old[k]?):
  ∀(f k:Nat),k≤18→18 - k<f→bL 64 n old p19 p20 p21 w f (k:Int)=some true
 |0,_,_,h=>by omega
 | f+1,k,hk,h=>by
  rw [bL.eq_2];by_cases hk8:k<18
  ·rw [uO (show (k:Int)<18 by omega)]
   have hx:cc old (k:Int)=some old[k]:=by
    unfold cc;rw [if_neg O,Int.toNat_natCast,List.getElem?_eq_getElem O]
   show (cc old (k:Int)).bind _=_;rw [hx];have hi:=nM w hl k hk8;rw [hr k hk8] at hi;have ih:=pi n old p19 p20 p21 w ho hl hr f (k+1) O O;show (bif decide ((k:Int)=n) then _ else _)=_;by_cases e:(k:Int)=n
   ·rw [uO e];rw [if_pos e] at hi;exact (oY w k _ _ n p19 p20 p21 old ⟨p19,p20,p21⟩ hi J (by unfold cM;omega)).trans ih
   rw [uP e];rw [if_neg e,List.getElem?_eq_getElem O] at hi;exact (oY w k _ _ n p19 p20 p21 old old[k] hi J (by unfold cM;omega)).trans ih
  rw [uP (show¬(k:Int)<18 by omega)];exact ta n w hl
theorem oc (n p19 p20:Int)(p21:ByteArray)(w:uA)(hl:w.heap_.roots_.length=20):
  ∀(f k:Nat),k≤18→18 - k<f→cC 64 n p19 p20 p21 (w,0) f (w.heap_.roots_.take k) (k:Int)=cE 64 n p19 p20 p21 (w,0) (w.heap_.roots_.take 18)
 |0,_,_,h=>by omega
 | f+1,k,hk,h=>by
  rw [cC.eq_2];by_cases hk8:k<18
  ·rw [uO (show (k:Int)<18 by omega)];have hi:=nM w hl k hk8;rw [List.getElem?_eq_getElem O] at hi;show (aF 64 w (k:Int)).bind _=_;rw [hi];have ih:=oc n p19 p20 p21 w hl f (k+1) O O;rw [List.take_succ_eq_append_getElem O] at ih
   have hreq: ∀(m:Option Bool) (q:Nat),q≤20→ea (fS q) (ea (cM ((k:Int)+1)) m)=m:=fun m q hq=>by
    unfold ea;rw [if_pos (by unfold fS;omega),if_pos (by unfold cM;omega)]
   show ea (fS ((w.heap_.roots_.take k).length+1)) (ea (cM ((k:Int)+1)) _)=_;rw [hreq _ _ (by rw [List.length_take];omega)];exact ih
  obtain rfl:k=18:=by omega
  rfl
theorem o0 (w:uA)(hl:w.heap_.roots_.length=20)(n p19 p20:Int)(p21:ByteArray):be 64 n (w,0) p19 p20 p21=some true:=by
 have hb:=oc n p19 p20 p21 w hl 64 0 O O;unfold be;rw [List.take_zero] at hb;refine Eq.trans hb ?_;unfold cE;obtain ⟨w1,h1,h2,h3⟩:=sK w hl n ⟨p19,p20,p21⟩;rw [h1,Option.bind_some];refine pi n _ p19 p20 p21 w1 (by rw [List.length_take,hl];rfl) h2 (fun k hk=> ?_) 64 0 O O;rw [h3 k hk,List.getElem?_take_of_lt hk]
theorem nB (n p19 p20:Int)(p21:ByteArray):be 64 n (w031,0) p19 p20 p21=some true:=o0 w031 sT n p19 p20 p21
theorem ov (a0:Int)(a1:uK):dY 64 a0 a1=some true:=by
 have key: ∀b:Bool,(bif b then (be 64 a0 (w031,0) 3 7 (⟨#[]⟩)) else (be 64 a0 (w031,0) a1.Kind a1.N a1.S))=some true:=fun b=>by
  cases b
  ·exact nB a0 a1.Kind a1.N a1.S
  exact nB a0 3 7 ⟨#[]⟩
 have hb: ∃b,(bif decide (a1.Kind=7) then some true else some (decide (a1.Kind=9)))=some b:=by
  cases decide (a1.Kind=7)
  ·exact ⟨_,J⟩
  exact ⟨_,J⟩
 obtain ⟨b,hb⟩:=hb;unfold dY;rw [rO];generalize w031=w at key⊢;simp only [Option.bind_some,sD,decide_true,Bool.not_true,cond_false,hb];exact key b
end
end Go.Proofs.YtdcccmadhipinaaGreat